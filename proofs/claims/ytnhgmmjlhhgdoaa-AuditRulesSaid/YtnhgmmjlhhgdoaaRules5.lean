/- The document's fifth rule of a view. -/
import Derived.Test.YtnhgmmjlhhgdoaaRules4
namespace Go.Proofs.Ytnhgmmjlhhgdoaa
open Go Go.RowKit

theorem ok5_iff {os : List Ob} (h1 : R1 os) {came : List Int} {a next : Int} {j : Nat} (hj : j < os.length) (e : (os.getD j ob0).adr = a) :
    Ok5 os came a next ↔ ((os.getD j ob0).kind = 4 ∧ (os.getD j ob0).ws.getD 1 0 = -1 ∧ (os.getD j ob0).ws.getD 0 0 = 0 ∧ (os.getD j ob0).ws.getD 2 0 = next) ∧ a ∉ came := by
  unfold Ok5
  constructor
  · rintro ⟨⟨o, ho, h2, h3, h4, h5, h6⟩, h7⟩
    obtain ⟨i, hi, rfl⟩ := List.mem_iff_getElem.1 ho
    have hij : i = j := h1.one hi hj (by rw [getD_of hi, h2, e])
    subst hij
    rw [getD_of hi]
    exact ⟨⟨h3, h4, h5, h6⟩, h7⟩
  · rintro ⟨⟨h3, h4, h5, h6⟩, h7⟩
    rw [getD_of hj] at h3 h4 h5 h6 e
    exact ⟨⟨_, List.getElem_mem hj, e, h3, h4, h5, h6⟩, h7⟩
theorem ok5_obj {os : List Ob} {came : List Int} {a next : Int} (h : Ok5 os came a next) : IsObj os a := by
  obtain ⟨⟨o, ho, h2, _⟩, _⟩ := h
  exact ⟨o, ho, h2⟩
theorem flat_len : ∀ (qs : List (List Int)), (∀ q ∈ qs, q.length ≤ 40) → qs.flatten.length ≤ 40 * qs.length
  | [], _ => by simp
  | q :: t, h => by
    have h1 := flat_len t (fun x hx => h x (.tail _ hx))
    have h2 := h q (.head _)
    simp only [List.flatten_cons, List.length_append, List.length_cons]
    omega
theorem came5_len {qs : List (List Int)} (h : ∀ q ∈ qs, q.length ≤ 40) (hl : qs.length ≤ 10) (i k : Nat) (hi : i < qs.length) : (came5 qs i k).length ≤ 440 := by
  have h1 := flat_len (qs.take i) (fun q hq => h q (List.mem_of_mem_take hq))
  have h2 := h _ (List.getElem_mem hi)
  unfold came5
  rw [List.getD_eq_getElem?_getD, List.getElem?_eq_getElem hi]
  simp only [Option.getD_some, List.length_append, List.length_take] at h1 ⊢
  omega
theorem came5_step {qs : List (List Int)} {i k : Nat} (hk : k < (qs.getD i []).length) : came5 qs i (k + 1) = came5 qs i k ++ [(qs.getD i []).getD k 0] := by
  unfold came5
  rw [List.take_succ_eq_append_getElem hk, ← List.append_assoc, List.getD_eq_getElem?_getD (l := qs.getD i []), List.getElem?_eq_getElem hk]
  rfl
theorem came5_next {qs : List (List Int)} {i : Nat} (hi : i < qs.length) : came5 qs (i + 1) 0 = came5 qs i (qs.getD i []).length := by
  unfold came5
  rw [getD_of hi, List.take_length, List.take_zero, List.append_nil, List.take_succ_eq_append_getElem hi, List.flatten_append]
  simp
theorem findZ_none {os : List Ob} {a : Int} (h : ¬ IsObj os a) : findZ os a = -1 := if_neg h
set_option maxRecDepth 100000 in
set_option maxHeartbeats 3200000 in
theorem rule5_walk (v : Vw) (w : World) (S : Sees w v) (hl : v.os.length ≤ 40) (hlq : v.qs.length ≤ 10) (hql : ∀ q ∈ v.qs, q.length ≤ 40) (h1 : R1 v.os) : Calls Try.prog 42 #[v.val] w (Says (R5 v.os v.qs) w) := by
  have HF : Hid (∀ a W, Upd [] w W → Calls Try.prog 65 #[v.val, .int .i64 a] W fun e w' => e = .returned (.int .i64 (findZ v.os a)) ∧ Below W.heap.size W w') := Lib.hid (fun a W u => find_walk v a W (S.upd u (by simp)) (by omega))
  have HR : Hid (∀ nq, v.qs.length = nq → (∀ i, i < nq → ∀ k, k < (v.qs.getD i []).length → Ok5 v.os (came5 v.qs i k) ((v.qs.getD i []).getD k 0) ((v.qs.getD i []).getD (k + 1) 0)) → R5 v.os v.qs) := Lib.hid (fun _ h1 h2 i hi => h2 i (by omega))
  have HN' : Hid (∀ nq i k, v.qs.length = nq → i < nq → k < (v.qs.getD i []).length → ¬ Ok5 v.os (came5 v.qs i k) ((v.qs.getD i []).getD k 0) ((v.qs.getD i []).getD (k + 1) 0) → ¬ R5 v.os v.qs) := Lib.hid (fun n i k h hi hk h1 h2 => h1 (h2 i (by omega) k hk))
  have HLN : Hid (∀ nq i, v.qs.length = nq → i < nq → (v.qs.getD i []).length ≤ 40 ∧ ∀ k, (came5 v.qs i k).length ≤ 440) := Lib.hid (fun n i h hi => ⟨by rw [getD_of (by omega)]; exact hql _ (List.getElem_mem _), fun k => came5_len hql hlq i k (by omega)⟩)
  have HNX : Hid (∀ nq i, v.qs.length = nq → i < nq → came5 v.qs (i + 1) 0 = came5 v.qs i (v.qs.getD i []).length) := Lib.hid (fun nq i h hi => came5_next (by omega))
  have H5 : Hid (∀ n j, v.os.length = n → j < n → (v.os.getD j ob0).kind = 4 → (v.os.getD j ob0).ws.length = 5) := Lib.hid (fun n j h hj => h1.ref5 (by omega))
  have HO5 : Hid (∀ n j, v.os.length = n → j < n → ∀ came a next, (v.os.getD j ob0).adr = a → (Ok5 v.os came a next ↔ ((v.os.getD j ob0).kind = 4 ∧ (v.os.getD j ob0).ws.getD 1 0 = -1 ∧ (v.os.getD j ob0).ws.getD 0 0 = 0 ∧ (v.os.getD j ob0).ws.getD 2 0 = next) ∧ a ∉ came)) := Lib.hid (fun n j h hj came a next e => ok5_iff h1 (by omega) e)
  clear h1 hql
  generalize R5 v.os v.qs = R at *
  have HO := Lib.hid S.obs
  have HHE := Lib.hid S.helds
  have HRO := Lib.hid S.roots
  have HQU := Lib.hid S.queues
  have HFI := Lib.hid S.fins
  have HPE := Lib.hid S.pend
  clear S
  obtain ⟨oa, oc, os, ha, hc, hs, ra, rc, rs, qa, qc, qs, fa, fc, fs, pa, pc, ps, clock, serial, used, runs⟩ := v
  simp only [Vw.val] at *
  obtain ⟨n, hn⟩ : ∃ n, os.length = n := ⟨_, rfl⟩
  obtain ⟨nqs, hnq⟩ : ∃ n, qs.length = n := ⟨_, rfl⟩
  rw [hn] at hl
  rw [hnq] at hlq
  simp only [hn, hnq] at HF ⊢
  generalize hs.length = nh at *
  generalize rs.length = nr at *
  generalize fs.length = nf at *
  generalize ps.length = np at *
  have HN := Lib.hid hn
  have HNQ := Lib.hid hnq
  clear hn hnq
  go_enter Try.func42, Try.ntmps42
  go_upto_region 1 with fail
  generalize hW : World.alloc w (Obj.cells _ 30) = w1
  have HB : Hid (Blk w1 w.heap.size 30 _) := Lib.hid (by rw [← hW]; exact Blk.new _ _ _)
  have HU : Hid (Upd [] w w1) := Lib.hid (by rw [← hW]; exact (Upd.refl [] w).alloc _)
  have hq : w.heap.size < w1.heap.size := HB.out.lt
  clear hW
  generalize hq0 : w.heap.size = q at *
  have HQ0 := Lib.hid hq0
  clear hq0
  go_wp2_with fail
  go_loopg [3, 4] nqs (fun gk c i wr => ∃ j : Nat, gk = nqs - j ∧ j ≤ nqs ∧ i = .int .i64 j ∧ Hid (Upd [] w1 wr) ∧ Hid (Own wr w1.heap.size c (came5 qs j 0)) ∧ Hid (w1.heap.size ≤ wr.heap.size) ∧ Hid (∀ m, m < j → ∀ k, k < (qs.getD m []).length → Ok5 os (came5 qs m k) ((qs.getD m []).getD k 0) ((qs.getD m []).getD (k + 1) 0)))
  case atStart => exact ⟨0, rfl, by omega, rfl, Lib.hid (Upd.refl _ _), Lib.hid (Own.nil _ _), Lib.hid (Nat.le_refl _), Lib.hid (fun m h => by omega)⟩
  case round =>
    obtain ⟨j, rfl, hj, rfl, HV, HC, HSZ, HP⟩ := hrel
    have d3 : wr.cell? ⟨q, 3, none⟩ = some (.slice qa nqs qc) := vw_cells HB.out HV.out rfl
    by_cases hlt : j < nqs
    · obtain ⟨bq, oq, Ai, ci, rfl, hbq, cq0, hai, -⟩ := HQU.out.at HNQ.out hlt
      have cq := ((HU.out.trans HV.out).cell (p := ⟨bq, oq + j, none⟩) hbq (by simp)).trans cq0
      clear cq0
      have HAI := Lib.hid hai
      clear hai
      obtain ⟨hz, hcl⟩ := HLN.out nqs j HNQ.out hlt
      have HCL := Lib.hid hcl
      have HJN : Hid (∀ k, k < (qs.getD j []).length → ¬ Ok5 os (came5 qs j k) ((qs.getD j []).getD k 0) ((qs.getD j []).getD (k + 1) 0) → ¬ R) := Lib.hid (fun k hk => HN'.out nqs j k HNQ.out hlt hk)
      have HNXJ := Lib.hid (HNX.out nqs j HNQ.out hlt)
      have HSTP : Hid (∀ k, k < (qs.getD j []).length → came5 qs j (k + 1) = came5 qs j k ++ [(qs.getD j []).getD k 0]) := Lib.hid (fun k hk => came5_step hk)
      have HST : Hid ((∀ k, k < (qs.getD j []).length → Ok5 os (came5 qs j k) ((qs.getD j []).getD k 0) ((qs.getD j []).getD (k + 1) 0)) → ∀ m, m < j + 1 → ∀ k, k < (qs.getD m []).length → Ok5 os (came5 qs m k) ((qs.getD m []).getD k 0) ((qs.getD m []).getD (k + 1) 0)) := Lib.hid (fun h m hm => by
        rcases Nat.eq_or_lt_of_le (show m ≤ j by omega) with rfl | h3
        · exact h
        · exact HP.out m h3)
      clear hcl HP
      generalize hqj : qs.getD j [] = l at *
      have HQJ := Lib.hid hqj
      clear hqj
      obtain ⟨z, hlz⟩ : ∃ z, l.length = z := ⟨_, rfl⟩
      rw [hlz] at hz cq HJN HNXJ HSTP HST
      have HLZ := Lib.hid hlz
      clear hlz
      go_wp2_with fail
      go_loopg [3, 6] z (fun gk c i wr => ∃ k : Nat, gk = z - k ∧ k ≤ z ∧ i = .int .i64 k ∧ Hid (Upd [] w1 wr) ∧ Hid (Own wr w1.heap.size c (came5 qs j k)) ∧ Hid (w1.heap.size ≤ wr.heap.size) ∧ Hid (∀ m, m < k → Ok5 os (came5 qs j m) (l.getD m 0) (l.getD (m + 1) 0)))
      case atStart => exact ⟨0, rfl, by omega, rfl, HV, HC, HSZ, Lib.hid (fun m h => by omega)⟩
      case round =>
        clear HV HC HSZ
        obtain ⟨k, rfl, hk, rfl, HV, HC, HSZ, HPI⟩ := hrel
        have HUI : Hid (Upd [] w wr) := Lib.hid (HU.out.trans HV.out)
        by_cases hlk : k < z
        · obtain ⟨b, off, rfl, hb, c0⟩ := (Reads.upd HAI.out HUI.out (by simp)).at HLZ.out hlk
          have HNO : Hid (¬ Ok5 os (came5 qs j k) (l.getD k 0) (l.getD (k + 1) 0) → ¬ R) := Lib.hid (HJN.out k hlk)
          have HSO := Lib.hid (HSTP.out k hlk)
          have HCLK := Lib.hid (HCL.out k)
          have HPN : Hid (Ok5 os (came5 qs j k) (l.getD k 0) (l.getD (k + 1) 0) → ∀ m, m < k + 1 → Ok5 os (came5 qs j m) (l.getD m 0) (l.getD (m + 1) 0)) := Lib.hid (fun h m hm => by
            rcases Nat.eq_or_lt_of_le (show m ≤ k by omega) with rfl | h3
            · exact h
            · exact HPI.out m h3)
          have hnx : (k + 1 < z ∧ ((k + 1 : Nat) : Int) < z ∧ wr.cell? ⟨b, off + (k + 1), none⟩ = some (.int .i64 (l.getD (k + 1) 0))) ∨ (¬ k + 1 < z ∧ l.getD (k + 1) 0 = 0) := by
            by_cases h : k + 1 < z
            · obtain ⟨b', off', he, _, c'⟩ := (Reads.upd HAI.out HUI.out (by simp)).at HLZ.out h
              simp only [Option.some.injEq, Addr.mk.injEq] at he
              obtain ⟨rfl, rfl, _⟩ := he
              exact .inl ⟨h, by omega, c'⟩
            · exact .inr ⟨h, by rw [List.getD_eq_getElem?_getD, List.getElem?_eq_none (by rw [HLZ.out]; omega)]; rfl⟩
          obtain ⟨x, hx⟩ : ∃ x, l.getD k 0 = x := ⟨_, rfl⟩
          obtain ⟨nx, hnxe⟩ : ∃ x, l.getD (k + 1) 0 = x := ⟨_, rfl⟩
          obtain ⟨L, hL⟩ : ∃ L, came5 qs j k = L := ⟨_, rfl⟩
          rw [hx] at HNO HPN HSO c0
          rw [hnxe] at HNO HPN hnx
          rw [hL] at HNO HPN HSO HC HCLK
          clear hx hnxe hL HPI
          have hfk := fun W (hu : Upd [] wr W) => HF.out x W (HUI.out.trans hu)
          have HFX := Lib.hid hfk
          clear hfk
          have HD : Hid (∀ W, Upd [] wr W → W.cell? ⟨q, 0, none⟩ = some (.slice oa n oc) ∧ W.cell? ⟨q, 1, none⟩ = some (.slice ha nh hc) ∧ W.cell? ⟨q, 2, none⟩ = some (.slice ra nr rc) ∧ W.cell? ⟨q, 3, none⟩ = some (.slice (some ⟨bq, oq, none⟩) nqs qc) ∧ W.cell? ⟨q, 4, none⟩ = some (.slice fa nf fc) ∧ W.cell? ⟨q, 5, none⟩ = some (.slice pa np pc) ∧ W.cell? ⟨q, 6, none⟩ = some (.int .i64 clock) ∧ W.cell? ⟨q, 7, none⟩ = some (.int .i64 serial) ∧ W.cell? ⟨q, 8, none⟩ = some (.int .i64 used) ∧ W.cell? ⟨q, 9, none⟩ = some (.int .i64 runs) ∧ W.cell? ⟨b, off + k, none⟩ = some (.int .i64 x)) := Lib.hid (fun W hu => ⟨vw_cells HB.out (HV.out.trans hu) rfl, vw_cells HB.out (HV.out.trans hu) rfl, vw_cells HB.out (HV.out.trans hu) rfl, vw_cells HB.out (HV.out.trans hu) rfl, vw_cells HB.out (HV.out.trans hu) rfl, vw_cells HB.out (HV.out.trans hu) rfl, vw_cells HB.out (HV.out.trans hu) rfl, vw_cells HB.out (HV.out.trans hu) rfl, vw_cells HB.out (HV.out.trans hu) rfl, vw_cells HB.out (HV.out.trans hu) rfl, (hu.cell (p := ⟨b, off + k, none⟩) (by simpa using hb) (by simp)).trans c0⟩)
          have HNXC := Lib.hid hnx
          clear hnx
          by_cases hob : IsObj os x
          · obtain ⟨jj, hfz, hjn, hadr⟩ := find_at hob
            rw [hfz] at HFX
            rw [HN.out] at hjn
            have HADR := Lib.hid hadr
            clear hfz hob hadr
            obtain ⟨cA, cc, rfl, hci, -⟩ := HC.out.form
            have HIN : Hid (∀ W, Upd [] wr W → Calls Try.prog 66 #[.slice cA L.length cc, .int .i64 x] W fun e w' => e = .returned (.bool (decide (x ∈ L))) ∧ W = w') := Lib.hid (fun W hu => (in_walk cA L cc x W (hci.upd hu (.inr (by simp))) (by have := HCLK.out; omega)).mono fun _ _ h => ⟨h.1, h.2.symm⟩)
            clear hci
            generalize hnl : L.length = nl at *
            have HNL := Lib.hid hnl
            clear hnl
            go_wp2_with fail
            refine Plan.wp_plan [.blk [0, 1, 2, 3, 4], .eff 5, .blk [6]] (fun w' => w'.cell? ⟨q, 0, none⟩ = some (.slice oa n oc) ∧ w'.cell? ⟨q, 1, none⟩ = some (.slice ha nh hc) ∧ w'.cell? ⟨q, 2, none⟩ = some (.slice ra nr rc) ∧ w'.cell? ⟨q, 3, none⟩ = some (.slice (some ⟨bq, oq, none⟩) nqs qc) ∧ w'.cell? ⟨q, 4, none⟩ = some (.slice fa nf fc) ∧ w'.cell? ⟨q, 5, none⟩ = some (.slice pa np pc) ∧ w'.cell? ⟨q, 6, none⟩ = some (.int .i64 clock) ∧ w'.cell? ⟨q, 7, none⟩ = some (.int .i64 serial) ∧ w'.cell? ⟨q, 8, none⟩ = some (.int .i64 used) ∧ w'.cell? ⟨q, 9, none⟩ = some (.int .i64 runs) ∧ w'.cell? ⟨b, off + k, none⟩ = some (.int .i64 x)) (by kernel_rfl) (by kernel_rfl) (by intro _ _ d _ _ h; cases d <;> exact h) (HD.out _ (Upd.refl [] wr).drew) (fun hS => ?_)
            clear hS
            clear c0
            apply Plan.blk_intro
            · intro w' hw Φ HΦ
              obtain ⟨d0, d1, d2, d3, d4, d5, d6, d7, d8, d9, c0⟩ := hw
              simp only [Plan.pick, List.map_cons, List.map_nil, List.getD_cons_zero, List.getD_cons_succ]
              repeat (first | go_values | go_skip | go_guarded | go_step | go_upon)
              exact ⟨rfl, HΦ.out⟩
            · kernel_rfl
            refine Plan.eff_intro (fun K hK hKp => ?_)
            have HK := Lib.hid hK
            clear hK hKp
            simp only [Plan.pick, List.map_cons, List.map_nil, List.getD_cons_zero, List.getD_cons_succ]
            repeat (first | go_values | go_skip | go_guarded | go_step | go_upon)
            refine (HFX.out _ (Upd.refl [] wr).drew).mono ?_
            rintro e w5 ⟨rfl, hb5⟩
            have HX : Hid (Upd [] wr w5) := Lib.hid (((Upd.refl [] wr).drew).step (Upd.of_below hb5 : Upd [] _ _) (by simp))
            clear hb5
            try dsimp only
            repeat (first | go_values | go_skip | go_guarded | go_step | go_upon)
            refine HK.out _ _ (HD.out _ HX.out) ?_
            clear HK K
            apply Plan.blk_intro
            · intro w' hw Φ HΦ
              obtain ⟨d0, d1, d2, d3, d4, d5, d6, d7, d8, d9, c0⟩ := hw
              simp only [Plan.pick, List.map_cons, List.map_nil, List.getD_cons_zero, List.getD_cons_succ]
              repeat (first | go_values | go_skip | go_guarded | go_step | go_upon)
              exact ⟨rfl, HΦ.out⟩
            · kernel_rfl
            refine Plan.plan_done ?_
            rcases HNXC.out with ⟨hk1, hk1i, cn0⟩ | ⟨hk1, hk0⟩
            · have cn := (HX.out.cell (p := ⟨b, off + (k + 1), none⟩) (by simpa using hb) (by simp)).trans cn0
              have hkb : decide ((k : Int) + 1 < (z : Int)) = true := by simp; omega
              have hk1j : (k : Int) + 1 < (z : Int) := by omega
              clear cn0 hk1 hk1i
              have c0 : w5.cell? ⟨b, off + k, none⟩ = some (.int .i64 x) := (HD.out _ HX.out).2.2.2.2.2.2.2.2.2.2
              go_wp2_with fail
              refine (HIN.out _ HX.out).mono ?_
              rintro e w' ⟨rfl, rfl⟩
              by_cases hin : x ∈ L
              · have HFR := Lib.hid (HNO.out (fun h => h.2 hin))
                have hin2 : decide (x ∈ L) = true := by simpa using hin
                rw [hin2]
                clear hin hin2
                go_wp2_with fail
                go_ret
                exact ⟨false, rfl, by simp; exact HFR.out, (HUI.out.trans HX.out).below⟩
              · have hin2 : decide (x ∈ L) = false := by simpa using hin
                have HNI := Lib.hid hin
                rw [hin2]
                clear hin hin2
                obtain ⟨bo, oo, hoa, hbo, ⟨c0, c1, c2, c3, c4, c5⟩, hws⟩ := (HO.out.upd (HUI.out.trans HX.out) (by simp)).at HN.out hjn
                subst hoa
                have d0 : w5.cell? ⟨q, 0, none⟩ = some (.slice (some ⟨bo, oo, none⟩) n oc) := vw_cells HB.out (HV.out.trans HX.out) rfl
                have HKI := Lib.hid (HO5.out n jj HN.out hjn L x nx HADR.out)
                have HK5 := Lib.hid (H5.out n jj HN.out hjn)
                generalize (os.getD jj ob0).adr = ad at *
                generalize (os.getD jj ob0).kind = kd at *
                generalize (os.getD jj ob0).cls = cl at *
                generalize (os.getD jj ob0).len = ln at *
                generalize (os.getD jj ob0).fin = fi at *
                generalize (os.getD jj ob0).wa = wa at *
                generalize (os.getD jj ob0).wc = wc at *
                generalize (os.getD jj ob0).ws = ws at *
                go_upto_region 16 with fail
                generalize hW : World.alloc w5 (Obj.cells _ 37) = w6
                have HBO : Hid (Blk w6 w5.heap.size 37 _) := Lib.hid (by rw [← hW]; exact Blk.new _ _ _)
                have HX6 : Hid (Upd [] wr w6) := Lib.hid (HX.out.trans (by rw [← hW]; exact (Upd.refl [] w5).alloc _))
                have H56 : Hid (Upd [] w5 w6) := Lib.hid (by rw [← hW]; exact (Upd.refl [] w5).alloc _)
                clear hW d0 c0 c1 c2 c3 c4 c5
                generalize hg : w5.heap.size = g at *
                have e1 : w6.cell? ⟨g, 1, none⟩ = some (.int .i64 kd) := vw_cells HBO.out (Upd.refl _ _) rfl
                by_cases hkd : kd = 4
                · subst hkd
                  have h5 := HK5.out rfl
                  have e5 : w6.cell? ⟨g, 5, none⟩ = some (.slice wa ws.length wc) := vw_cells HBO.out (Upd.refl _ _) rfl
                  rw [h5] at e5
                  have hws6 : Reads w6 .i64 wa ws := Reads.upd hws H56.out (by simp)
                  obtain ⟨wb, wo, hwa, hwb, y0⟩ := hws6.at h5 (show 0 < 5 by omega)
                  obtain ⟨wb1, wo1, hwa1, -, y1⟩ := hws6.at h5 (show 1 < 5 by omega)
                  obtain ⟨wb2, wo2, hwa2, -, y2⟩ := hws6.at h5 (show 2 < 5 by omega)
                  clear hws6 hws h5 HBO
                  subst hwa
                  simp only [Option.some.injEq, Addr.mk.injEq] at hwa1 hwa2
                  obtain ⟨rfl, rfl, -⟩ := hwa1
                  obtain ⟨rfl, rfl, -⟩ := hwa2
                  rw [Nat.add_zero] at y0
                  generalize ws.getD 0 0 = v0 at *
                  generalize ws.getD 1 0 = v1 at *
                  generalize ws.getD 2 0 = v2 at *
                  have h44 : ((4 : Int) != 4) = false := by decide
                  by_cases hv1 : v1 = -1
                  · have hv1b : (v1 != -1) = false := by simpa using hv1
                    by_cases hv0 : v0 = 0
                    · have hv0b : (v0 != 0) = false := by simpa using hv0
                      by_cases hv2 : v2 = nx
                      · have hv2b : (v2 != nx) = false := by simpa using hv2
                        have HL := Lib.hid (HKI.out.2 ⟨⟨rfl, hv1, hv0, hv2⟩, HNI.out⟩)
                        clear hv1 hv0 hv2
                        have HO6 : Hid (Own w6 w1.heap.size (.slice cA nl cc) L) := Lib.hid (HC.out.upd HX6.out (by simp))
                        have c0 : w6.cell? ⟨b, off + k, none⟩ = some (.int .i64 x) := (HD.out _ HX6.out).2.2.2.2.2.2.2.2.2.2
                        go_wp2_with (at_builtin; refine wpList_push w1 rfl _ _ rfl w1.heap.size _ L rfl (HO6.out.alloc _) w6.heap.size x rfl (Blk.new _ _ _) (by rw [HNL.out]; have := HCLK.out; omega) (Nat.le_refl _) ((HV.out.trans HX6.out).alloc _) (by have := HSZ.out; have := HX6.out.size; simp; omega) ?_)
                        intro v' w7 hO7 hU7 hS7
                        have HO7 : Hid (Own w7 w1.heap.size v' (came5 qs j (k + 1))) := Lib.hid (by rw [HSO.out]; exact hO7)
                        have HU7 := Lib.hid hU7
                        have HS7 := Lib.hid hS7
                        clear hO7 hU7 hS7
                        go_wp2_with fail
                        go_roundg (z - (k + 1))
                        case measure => omega
                        case rel => exact ⟨k + 1, rfl, by omega, by go_num, HU7, HO7, HS7, Lib.hid (HPN.out HL.out)⟩
                      · have hv2b : (v2 != nx) = true := by simpa using hv2
                        have HFR := Lib.hid (HNO.out (fun h => hv2 (HKI.out.1 h).1.2.2.2))
                        clear hv1 hv0 hv2
                        go_wp2_with fail
                        go_ret
                        exact ⟨false, rfl, by simp; exact HFR.out, (HUI.out.trans HX6.out).below⟩
                    · have hv0b : (v0 != 0) = true := by simpa using hv0
                      have HFR := Lib.hid (HNO.out (fun h => hv0 (HKI.out.1 h).1.2.2.1))
                      clear hv1 hv0
                      go_wp2_with fail
                      go_ret
                      exact ⟨false, rfl, by simp; exact HFR.out, (HUI.out.trans HX6.out).below⟩
                  · have hv1b : (v1 != -1) = true := by simpa using hv1
                    have HFR := Lib.hid (HNO.out (fun h => hv1 (HKI.out.1 h).1.2.1))
                    clear hv1
                    go_wp2_with fail
                    go_ret
                    exact ⟨false, rfl, by simp; exact HFR.out, (HUI.out.trans HX6.out).below⟩
                · generalize ws.length = zz at *
                  have hkd2 : (kd != 4) = true := by simpa using hkd
                  have hkd3 : (kd == 4) = false := by simpa using hkd
                  have HFR := Lib.hid (HNO.out (fun h => hkd (HKI.out.1 h).1.1))
                  clear hkd
                  go_wp2_with fail
                  go_ret
                  exact ⟨false, rfl, by simp; exact HFR.out, (HUI.out.trans HX6.out).below⟩
            · have hkb : decide ((k : Int) + 1 < (z : Int)) = false := by simp; omega
              obtain rfl := hk0
              clear hk1
              have c0 : w5.cell? ⟨b, off + k, none⟩ = some (.int .i64 x) := (HD.out _ HX.out).2.2.2.2.2.2.2.2.2.2
              go_wp2_with fail
              refine (HIN.out _ HX.out).mono ?_
              rintro e w' ⟨rfl, rfl⟩
              by_cases hin : x ∈ L
              · have HFR := Lib.hid (HNO.out (fun h => h.2 hin))
                have hin2 : decide (x ∈ L) = true := by simpa using hin
                rw [hin2]
                clear hin hin2
                go_wp2_with fail
                go_ret
                exact ⟨false, rfl, by simp; exact HFR.out, (HUI.out.trans HX.out).below⟩
              · have hin2 : decide (x ∈ L) = false := by simpa using hin
                have HNI := Lib.hid hin
                rw [hin2]
                clear hin hin2
                obtain ⟨bo, oo, hoa, hbo, ⟨c0, c1, c2, c3, c4, c5⟩, hws⟩ := (HO.out.upd (HUI.out.trans HX.out) (by simp)).at HN.out hjn
                subst hoa
                have d0 : w5.cell? ⟨q, 0, none⟩ = some (.slice (some ⟨bo, oo, none⟩) n oc) := vw_cells HB.out (HV.out.trans HX.out) rfl
                have HKI := Lib.hid (HO5.out n jj HN.out hjn L x 0 HADR.out)
                have HK5 := Lib.hid (H5.out n jj HN.out hjn)
                generalize (os.getD jj ob0).adr = ad at *
                generalize (os.getD jj ob0).kind = kd at *
                generalize (os.getD jj ob0).cls = cl at *
                generalize (os.getD jj ob0).len = ln at *
                generalize (os.getD jj ob0).fin = fi at *
                generalize (os.getD jj ob0).wa = wa at *
                generalize (os.getD jj ob0).wc = wc at *
                generalize (os.getD jj ob0).ws = ws at *
                go_upto_region 16 with fail
                generalize hW : World.alloc w5 (Obj.cells _ 37) = w6
                have HBO : Hid (Blk w6 w5.heap.size 37 _) := Lib.hid (by rw [← hW]; exact Blk.new _ _ _)
                have HX6 : Hid (Upd [] wr w6) := Lib.hid (HX.out.trans (by rw [← hW]; exact (Upd.refl [] w5).alloc _))
                have H56 : Hid (Upd [] w5 w6) := Lib.hid (by rw [← hW]; exact (Upd.refl [] w5).alloc _)
                clear hW d0 c0 c1 c2 c3 c4 c5
                generalize hg : w5.heap.size = g at *
                have e1 : w6.cell? ⟨g, 1, none⟩ = some (.int .i64 kd) := vw_cells HBO.out (Upd.refl _ _) rfl
                by_cases hkd : kd = 4
                · subst hkd
                  have h5 := HK5.out rfl
                  have e5 : w6.cell? ⟨g, 5, none⟩ = some (.slice wa ws.length wc) := vw_cells HBO.out (Upd.refl _ _) rfl
                  rw [h5] at e5
                  have hws6 : Reads w6 .i64 wa ws := Reads.upd hws H56.out (by simp)
                  obtain ⟨wb, wo, hwa, hwb, y0⟩ := hws6.at h5 (show 0 < 5 by omega)
                  obtain ⟨wb1, wo1, hwa1, -, y1⟩ := hws6.at h5 (show 1 < 5 by omega)
                  obtain ⟨wb2, wo2, hwa2, -, y2⟩ := hws6.at h5 (show 2 < 5 by omega)
                  clear hws6 hws h5 HBO
                  subst hwa
                  simp only [Option.some.injEq, Addr.mk.injEq] at hwa1 hwa2
                  obtain ⟨rfl, rfl, -⟩ := hwa1
                  obtain ⟨rfl, rfl, -⟩ := hwa2
                  rw [Nat.add_zero] at y0
                  generalize ws.getD 0 0 = v0 at *
                  generalize ws.getD 1 0 = v1 at *
                  generalize ws.getD 2 0 = v2 at *
                  have h44 : ((4 : Int) != 4) = false := by decide
                  by_cases hv1 : v1 = -1
                  · have hv1b : (v1 != -1) = false := by simpa using hv1
                    by_cases hv0 : v0 = 0
                    · have hv0b : (v0 != 0) = false := by simpa using hv0
                      by_cases hv2 : v2 = 0
                      · have hv2b : (v2 != 0) = false := by simpa using hv2
                        have HL := Lib.hid (HKI.out.2 ⟨⟨rfl, hv1, hv0, hv2⟩, HNI.out⟩)
                        clear hv1 hv0 hv2
                        have HO6 : Hid (Own w6 w1.heap.size (.slice cA nl cc) L) := Lib.hid (HC.out.upd HX6.out (by simp))
                        have c0 : w6.cell? ⟨b, off + k, none⟩ = some (.int .i64 x) := (HD.out _ HX6.out).2.2.2.2.2.2.2.2.2.2
                        go_wp2_with (at_builtin; refine wpList_push w1 rfl _ _ rfl w1.heap.size _ L rfl (HO6.out.alloc _) w6.heap.size x rfl (Blk.new _ _ _) (by rw [HNL.out]; have := HCLK.out; omega) (Nat.le_refl _) ((HV.out.trans HX6.out).alloc _) (by have := HSZ.out; have := HX6.out.size; simp; omega) ?_)
                        intro v' w7 hO7 hU7 hS7
                        have HO7 : Hid (Own w7 w1.heap.size v' (came5 qs j (k + 1))) := Lib.hid (by rw [HSO.out]; exact hO7)
                        have HU7 := Lib.hid hU7
                        have HS7 := Lib.hid hS7
                        clear hO7 hU7 hS7
                        go_wp2_with fail
                        go_roundg (z - (k + 1))
                        case measure => omega
                        case rel => exact ⟨k + 1, rfl, by omega, by go_num, HU7, HO7, HS7, Lib.hid (HPN.out HL.out)⟩
                      · have hv2b : (v2 != 0) = true := by simpa using hv2
                        have HFR := Lib.hid (HNO.out (fun h => hv2 (HKI.out.1 h).1.2.2.2))
                        clear hv1 hv0 hv2
                        go_wp2_with fail
                        go_ret
                        exact ⟨false, rfl, by simp; exact HFR.out, (HUI.out.trans HX6.out).below⟩
                    · have hv0b : (v0 != 0) = true := by simpa using hv0
                      have HFR := Lib.hid (HNO.out (fun h => hv0 (HKI.out.1 h).1.2.2.1))
                      clear hv1 hv0
                      go_wp2_with fail
                      go_ret
                      exact ⟨false, rfl, by simp; exact HFR.out, (HUI.out.trans HX6.out).below⟩
                  · have hv1b : (v1 != -1) = true := by simpa using hv1
                    have HFR := Lib.hid (HNO.out (fun h => hv1 (HKI.out.1 h).1.2.1))
                    clear hv1
                    go_wp2_with fail
                    go_ret
                    exact ⟨false, rfl, by simp; exact HFR.out, (HUI.out.trans HX6.out).below⟩
                · generalize ws.length = zz at *
                  have hkd2 : (kd != 4) = true := by simpa using hkd
                  have hkd3 : (kd == 4) = false := by simpa using hkd
                  have HFR := Lib.hid (HNO.out (fun h => hkd (HKI.out.1 h).1.1))
                  clear hkd
                  go_wp2_with fail
                  go_ret
                  exact ⟨false, rfl, by simp; exact HFR.out, (HUI.out.trans HX6.out).below⟩
          · have HFR := Lib.hid (HNO.out (fun h => hob (ok5_obj h)))
            have hfz := findZ_none hob
            rw [hfz] at HFX
            clear hfz hob
            go_wp2_with fail
            refine Plan.wp_plan [.blk [0, 1, 2, 3, 4], .eff 5, .blk [6]] (fun w' => w'.cell? ⟨q, 0, none⟩ = some (.slice oa n oc) ∧ w'.cell? ⟨q, 1, none⟩ = some (.slice ha nh hc) ∧ w'.cell? ⟨q, 2, none⟩ = some (.slice ra nr rc) ∧ w'.cell? ⟨q, 3, none⟩ = some (.slice (some ⟨bq, oq, none⟩) nqs qc) ∧ w'.cell? ⟨q, 4, none⟩ = some (.slice fa nf fc) ∧ w'.cell? ⟨q, 5, none⟩ = some (.slice pa np pc) ∧ w'.cell? ⟨q, 6, none⟩ = some (.int .i64 clock) ∧ w'.cell? ⟨q, 7, none⟩ = some (.int .i64 serial) ∧ w'.cell? ⟨q, 8, none⟩ = some (.int .i64 used) ∧ w'.cell? ⟨q, 9, none⟩ = some (.int .i64 runs) ∧ w'.cell? ⟨b, off + k, none⟩ = some (.int .i64 x)) (by kernel_rfl) (by kernel_rfl) (by intro _ _ d _ _ h; cases d <;> exact h) (HD.out _ (Upd.refl [] wr).drew) (fun hS => ?_)
            clear hS
            clear c0
            apply Plan.blk_intro
            · intro w' hw Φ HΦ
              obtain ⟨d0, d1, d2, d3, d4, d5, d6, d7, d8, d9, c0⟩ := hw
              simp only [Plan.pick, List.map_cons, List.map_nil, List.getD_cons_zero, List.getD_cons_succ]
              repeat (first | go_values | go_skip | go_guarded | go_step | go_upon)
              exact ⟨rfl, HΦ.out⟩
            · kernel_rfl
            refine Plan.eff_intro (fun K hK hKp => ?_)
            have HK := Lib.hid hK
            clear hK hKp
            simp only [Plan.pick, List.map_cons, List.map_nil, List.getD_cons_zero, List.getD_cons_succ]
            repeat (first | go_values | go_skip | go_guarded | go_step | go_upon)
            refine (HFX.out _ (Upd.refl [] wr).drew).mono ?_
            rintro e w5 ⟨rfl, hb5⟩
            have HX : Hid (Upd [] wr w5) := Lib.hid (((Upd.refl [] wr).drew).step (Upd.of_below hb5 : Upd [] _ _) (by simp))
            clear hb5
            try dsimp only
            repeat (first | go_values | go_skip | go_guarded | go_step | go_upon)
            refine HK.out _ _ (HD.out _ HX.out) ?_
            clear HK K
            apply Plan.blk_intro
            · intro w' hw Φ HΦ
              obtain ⟨d0, d1, d2, d3, d4, d5, d6, d7, d8, d9, c0⟩ := hw
              simp only [Plan.pick, List.map_cons, List.map_nil, List.getD_cons_zero, List.getD_cons_succ]
              repeat (first | go_values | go_skip | go_guarded | go_step | go_upon)
              exact ⟨rfl, HΦ.out⟩
            · kernel_rfl
            refine Plan.plan_done ?_
            rcases HNXC.out with ⟨hk1, hk1i, cn0⟩ | ⟨hk1, hk0⟩
            · have cn := (HX.out.cell (p := ⟨b, off + (k + 1), none⟩) (by simpa using hb) (by simp)).trans cn0
              have hkb : decide ((k : Int) + 1 < (z : Int)) = true := by simp; omega
              have hk1j : (k : Int) + 1 < (z : Int) := by omega
              clear cn0 hk1 hk1i
              go_wp2_with fail
              go_ret
              exact ⟨false, rfl, by simp; exact HFR.out, (HUI.out.trans HX.out).below⟩
            · have hkb : decide ((k : Int) + 1 < (z : Int)) = false := by simp; omega
              obtain rfl := hk0
              clear hk1
              go_wp2_with fail
              go_ret
              exact ⟨false, rfl, by simp; exact HFR.out, (HUI.out.trans HX.out).below⟩
        · obtain rfl : k = z := by omega
          have HL := Lib.hid (HST.out HPI.out)
          rw [← HNXJ.out] at HC
          go_wp2_with fail
          go_roundg (nqs - (j + 1))
          case measure => omega
          case rel => exact ⟨j + 1, rfl, by omega, by go_num, HV, HC, HSZ, HL⟩
    · obtain rfl : j = nqs := by omega
      have HT := Lib.hid (HR.out _ HNQ.out HP.out)
      go_wp2_with fail
      go_ret
      exact ⟨true, rfl, by simp; exact HT.out, (HU.out.trans HV.out).below⟩
end Go.Proofs.Ytnhgmmjlhhgdoaa
