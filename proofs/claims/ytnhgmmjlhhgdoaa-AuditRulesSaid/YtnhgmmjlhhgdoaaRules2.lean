/- The document's second rule of a view. -/
import Derived.Test.YtnhgmmjlhhgdoaaRules1
namespace Go.Proofs.Ytnhgmmjlhhgdoaa
open Go Go.RowKit

theorem block_bound (n : Int) : 0 ≤ blockZ n ∧ blockZ n ≤ 1024 := by
  unfold blockZ pagesZ
  have hr := class_range n
  by_cases h0 : 0 ≤ classZ n
  · rw [if_pos h0]
    obtain ⟨j, hj⟩ := Int.eq_ofNat_of_zero_le h0
    rw [hj] at hr ⊢
    simp only [Int.toNat_natCast]
    have : j = 0 ∨ j = 1 ∨ j = 2 ∨ j = 3 ∨ j = 4 := by omega
    rcases this with rfl | rfl | rfl | rfl | rfl <;> simp [sizesL]
  · rw [if_neg h0]
    split <;> omega
theorem sumB_bound : ∀ os : List Ob, 0 ≤ sumB os ∧ sumB os ≤ 1024 * os.length
  | [] => by simp [sumB]
  | o :: t => by
    have h1 := sumB_bound t
    have h2 := block_bound (o.len + 1)
    simp only [sumB, List.length_cons]
    omega
def endZ (os : List Ob) (j : Nat) : Int := if j = 0 then 0 else blockZ ((os.getD (j - 1) ob0).len + 1)

/-- The view's own cells, as a rule holds them. -/
theorem vw_cells {w1 : World} {q : Nat} {t : TypeId} {cs : List Value} (h : Blk w1 q t cs.toArray) {W : World} (hu : Upd [] w1 W) {i : Nat} {v : Value} (hi : cs[i]? = some v) : W.cell? ⟨q, i, none⟩ = some v := by
  rw [(h.upd hu (by simp)).cell i]
  simpa using hi

set_option maxRecDepth 100000 in
set_option maxHeartbeats 3200000 in
theorem rule2_walk (v : Vw) (w : World) (S : Sees w v) (hl : v.os.length ≤ 40) (h1 : R1 v.os) (hi : ∀ o ∈ v.os, o.adr ≤ 9223372036854775807) : Calls Try.prog 39 #[v.val] w (Says (R2 v.os v.used) w) := by
  have HO := Lib.hid S.obs
  have HHE := Lib.hid S.helds
  have HRO := Lib.hid S.roots
  have HQU := Lib.hid S.queues
  have HFI := Lib.hid S.fins
  have HPE := Lib.hid S.pend
  clear S
  obtain ⟨oa, oc, os, ha, hc, hs, ra, rc, rs, qa, qc, qs, fa, fc, fs, pa, pc, ps, clock, serial, used, runs⟩ := v
  simp only [Vw.val] at *
  have HR : Hid (∀ n, os.length = n → (∀ i, i < n → Ok2 os i) → (R2 os used ↔ sumB os = used)) := Lib.hid (fun n h h2 => ⟨fun h => h.2, fun h3 => ⟨fun i hi => h2 i (by omega), h3⟩⟩)
  have HN' : Hid (∀ n i, os.length = n → i < n → ¬ Ok2 os i → ¬ R2 os used) := Lib.hid (fun n i h hi h1 h2 => h1 (h2.1 i (by omega)))
  generalize R2 os used = R at *
  have H1 := Lib.hid h1
  have HI := Lib.hid hi
  clear h1 hi
  obtain ⟨n, hn⟩ : ∃ n, os.length = n := ⟨_, rfl⟩
  generalize hs.length = nh at *
  generalize rs.length = nr at *
  generalize qs.length = nqs at *
  generalize fs.length = nf at *
  generalize ps.length = np at *
  rw [hn] at hl ⊢
  have HN := Lib.hid hn
  clear hn
  go_enter Try.func39, Try.ntmps39
  go_wp2_with fail
  generalize hW : World.alloc w (Obj.cells _ 30) = w1
  have HB : Hid (Blk w1 w.heap.size 30 _) := Lib.hid (by rw [← hW]; exact Blk.new _ _ _)
  have HU : Hid (Upd [] w w1) := Lib.hid (by rw [← hW]; exact (Upd.refl [] w).alloc _)
  have hq : w.heap.size < w1.heap.size := HB.out.lt
  clear hW
  generalize hq0 : w.heap.size = q at *
  have HQ0 := Lib.hid hq0
  clear hq0
  go_loopg [3, 4, 5] n (fun gk u e i wr => ∃ (j : Nat) (U E : Int), gk = n - j ∧ j ≤ n ∧ i = .int .i64 j ∧ u = .int .i64 U ∧ e = .int .i64 E ∧ Hid (U = sumB (os.take j)) ∧ Hid (E = endZ os j) ∧ Hid (Upd [] w1 wr) ∧ Hid (∀ m, m < j → Ok2 os m))
  case atStart => exact ⟨0, 0, 0, rfl, by omega, rfl, rfl, rfl, Lib.hid rfl, Lib.hid rfl, Lib.hid (Upd.refl _ _), Lib.hid (fun m h => by omega)⟩
  case round =>
    obtain ⟨j, U, E, rfl, hj, rfl, rfl, rfl, HUS, HES, HV, HP⟩ := hrel
    have hU : 0 ≤ U ∧ U ≤ 40960 := by
      have h := sumB_bound (os.take j)
      rw [← HUS.out] at h
      have := List.length_take_le j os
      omega
    obtain ⟨hU1, hU2⟩ := hU
    have d0 : wr.cell? ⟨q, 0, none⟩ = some (.slice oa n oc) := vw_cells HB.out HV.out rfl
    have d8 : wr.cell? ⟨q, 8, none⟩ = some (.int .i64 used) := vw_cells HB.out HV.out rfl
    have hqr : q < wr.heap.size := Nat.lt_of_lt_of_le hq HV.out.size
    by_cases hlt : j < n
    · obtain ⟨b, off, rfl, hb, ⟨c0, c1, c2, c3, c4, c5⟩, _⟩ := ((HO.out.upd HU.out (by simp)).upd HV.out (by simp)).at HN.out hlt
      have HOK : Hid (Ok2 os j ↔ (0 < j → E ≤ (os.getD j ob0).adr - (os.getD (j - 1) ob0).adr)) := Lib.hid (by
        rw [HES.out]
        unfold Ok2 endZ
        constructor
        · intro h h0; rw [if_neg (by omega)]; exact h h0
        · intro h h0; have := h h0; rw [if_neg (by omega)] at this; exact this)
      have HST : Hid (sumB (os.take (j + 1)) = U + blockZ ((os.getD j ob0).len + 1) ∧ endZ os (j + 1) = blockZ ((os.getD j ob0).len + 1)) := Lib.hid ⟨by rw [sumB_step (by rw [HN.out]; exact hlt), ← HUS.out], rfl⟩
      have hp : 0 < j → wr.cell? ⟨b, off + (j - 1) * 6, none⟩ = some (.int .i64 (os.getD (j - 1) ob0).adr) := fun h0 => by
        obtain ⟨b', off', he, _, ⟨p0, _⟩, _⟩ := ((HO.out.upd HU.out (by simp)).upd HV.out (by simp)).at HN.out (show j - 1 < n by omega)
        simp only [Option.some.injEq, Addr.mk.injEq] at he
        obtain ⟨rfl, rfl, _⟩ := he
        exact p0
      have hx0 : 64 ≤ (os.getD j ob0).adr := (H1.out j (by rw [HN.out]; exact hlt)).1
      have hx1 : (os.getD j ob0).adr ≤ 9223372036854775807 := HI.out _ (getD_in (by rw [HN.out]; exact hlt))
      have hpv : 0 < j → 64 ≤ (os.getD (j - 1) ob0).adr ∧ (os.getD (j - 1) ob0).adr ≤ 9223372036854775807 := fun h0 =>
        ⟨(H1.out (j - 1) (by rw [HN.out]; omega)).1, HI.out _ (getD_in (by rw [HN.out]; omega))⟩
      have hlen : 0 ≤ (os.getD j ob0).len ∧ (os.getD j ob0).len ≤ 1023 := by
        have hm := (H1.out j (by rw [HN.out]; exact hlt)).2.2.1
        rcases may_cases (os.getD j ob0).kind (os.getD j ob0).cls (os.getD j ob0).len (os.getD j ob0).fin with ⟨_, h⟩ | ⟨_, _, h⟩ | ⟨h1, h2, _⟩
        · rw [h] at hm; cases hm
        · rw [h] at hm; cases hm
        · exact ⟨h1, h2⟩
      obtain ⟨hlen1, hlen2⟩ := hlen
      generalize (os.getD (j - 1) ob0).adr = pv at *
      generalize (os.getD j ob0).adr = x at *
      generalize (os.getD j ob0).len = l at *
      have hbk := block_bound (l + 1)
      have hbc := fun W => block1_walk (l + 1) W
      generalize blockZ (l + 1) = bk at *
      obtain ⟨hbk1, hbk2⟩ := hbk
      have HBC := Lib.hid hbc
      clear hbc c1 c2 c4 c5
      go_wp2_with fail
      refine (HBC.out _).mono ?_
      rintro e w5 ⟨rfl, hb5⟩
      have HX : Hid (Upd [] wr w5) := Lib.hid (Upd.of_below hb5)
      clear hb5
      have d0 : w5.cell? ⟨q, 0, none⟩ = some (.slice (some ⟨b, off, none⟩) n oc) := (HX.out.cell (p := ⟨q, 0, none⟩) hqr (by simp)).trans d0
      have c0 : w5.cell? ⟨b, off + j * 6, none⟩ = some (.int .i64 x) := (HX.out.cell (p := ⟨b, off + j * 6, none⟩) hb (by simp)).trans c0
      have HW : Hid (Upd [] w w5) := Lib.hid ((HU.out.trans HV.out).trans HX.out)
      rcases j with _ | j
      · have HL : Hid (Ok2 os 0) := Lib.hid (HOK.out.2 (fun h => absurd h (by omega)))
        clear hp hpv
        go_wp2_with fail
        refine Plan.wp_plan [.blk [0, 1, 2, 3, 4, 5, 6, 7, 8, 9, 10, 11, 12, 13, 14, 15, 16, 17, 18, 19]] (fun w' => w'.cell? ⟨q, 0, none⟩ = some (.slice (some ⟨b, off, none⟩) n oc)) (by kernel_rfl) (by kernel_rfl) (by intro _ _ d _ _ h; cases d <;> exact h) (d0) (fun hS => ?_)
        clear hS
        clear d0 c0 d8
        apply Plan.blk_intro
        · intro w' hw Φ HΦ
          obtain d0 := hw
          simp only [Plan.pick, List.map_cons, List.map_nil, List.getD_cons_zero, List.getD_cons_succ]
          repeat (first | go_values | go_skip | go_guarded | go_step | go_upon)
          exact ⟨rfl, HΦ.out⟩
        · kernel_rfl
        refine Plan.plan_done ?_
        go_wp2_with fail
        go_roundg (n - (0 + 1))
        case measure => omega
        case rel =>
          refine ⟨0 + 1, U + bk, bk, rfl, by omega, by go_num, rfl, rfl, Lib.hid HST.out.1.symm, Lib.hid HST.out.2.symm, Lib.hid (HV.out.trans HX.out).drew, Lib.hid (fun m hm => ?_)⟩
          rcases Nat.eq_or_lt_of_le (show m ≤ 0 by omega) with rfl | h3
          · exact HL.out
          · exact HP.out m h3
      · have hp' := hp (by omega)
        obtain ⟨hpv1, hpv2⟩ := hpv (by omega)
        clear hp hpv
        rw [Nat.add_sub_cancel] at hp'
        have hp2 : w5.cell? ⟨b, off + j * 6, none⟩ = some (.int .i64 pv) := (HX.out.cell (p := ⟨b, off + j * 6, none⟩) hb (by simp)).trans hp'
        clear hp'
        have hj0 : decide (((j + 1 : Nat) : Int) > 0) = true := by simp
        have hjs : ((j + 1 : Nat) : Int) - 1 = (j : Int) := by omega
        by_cases ht : x - pv < E
        · have HF : Hid (¬ R) := Lib.hid (HN'.out n _ HN.out hlt fun h => by have := HOK.out.1 h (by omega); omega)
          have ht2 : decide (x - pv < E) = true := by simpa using ht
          clear ht
          go_wp2_with fail
          refine Plan.wp_plan [.blk [0, 1, 2, 3, 4, 5, 6, 7, 8, 9, 10, 11, 12, 13, 14, 15, 16, 17, 18, 19]] (fun w' => w'.cell? ⟨q, 0, none⟩ = some (.slice (some ⟨b, off, none⟩) n oc) ∧ w'.cell? ⟨b, off + (j + 1) * 6, none⟩ = some (.int .i64 x) ∧ w'.cell? ⟨b, off + j * 6, none⟩ = some (.int .i64 pv)) (by kernel_rfl) (by kernel_rfl) (by intro _ _ d _ _ h; cases d <;> exact h) (⟨d0, c0, hp2⟩) (fun hS => ?_)
          clear hS
          clear d0 c0 d8 hp2
          apply Plan.blk_intro
          · intro w' hw Φ HΦ
            obtain ⟨d0, c0, hp2⟩ := hw
            simp only [Plan.pick, List.map_cons, List.map_nil, List.getD_cons_zero, List.getD_cons_succ]
            repeat (first | go_values | go_skip | go_guarded | go_step | go_upon)
            exact ⟨rfl, HΦ.out⟩
          · kernel_rfl
          refine Plan.plan_done ?_
          go_wp2_with fail
          go_ret
          exact ⟨false, rfl, by simp; exact HF.out, (HW.out.drew).below⟩
        · have HL : Hid (Ok2 os (j + 1)) := Lib.hid (HOK.out.2 (fun _ => by omega))
          have ht2 : decide (x - pv < E) = false := by simpa using ht
          clear ht
          go_wp2_with fail
          refine Plan.wp_plan [.blk [0, 1, 2, 3, 4, 5, 6, 7, 8, 9, 10, 11, 12, 13, 14, 15, 16, 17, 18, 19]] (fun w' => w'.cell? ⟨q, 0, none⟩ = some (.slice (some ⟨b, off, none⟩) n oc) ∧ w'.cell? ⟨b, off + (j + 1) * 6, none⟩ = some (.int .i64 x) ∧ w'.cell? ⟨b, off + j * 6, none⟩ = some (.int .i64 pv)) (by kernel_rfl) (by kernel_rfl) (by intro _ _ d _ _ h; cases d <;> exact h) (⟨d0, c0, hp2⟩) (fun hS => ?_)
          clear hS
          clear d0 c0 d8 hp2
          apply Plan.blk_intro
          · intro w' hw Φ HΦ
            obtain ⟨d0, c0, hp2⟩ := hw
            simp only [Plan.pick, List.map_cons, List.map_nil, List.getD_cons_zero, List.getD_cons_succ]
            repeat (first | go_values | go_skip | go_guarded | go_step | go_upon)
            exact ⟨rfl, HΦ.out⟩
          · kernel_rfl
          refine Plan.plan_done ?_
          go_wp2_with fail
          go_roundg (n - ((j + 1) + 1))
          case measure => omega
          case rel =>
            refine ⟨(j + 1) + 1, U + bk, bk, rfl, by omega, by go_num, rfl, rfl, Lib.hid HST.out.1.symm, Lib.hid HST.out.2.symm, Lib.hid (HV.out.trans HX.out).drew, Lib.hid (fun m hm => ?_)⟩
            rcases Nat.eq_or_lt_of_le (show m ≤ (j + 1) by omega) with rfl | h3
            · exact HL.out
            · exact HP.out m h3
    · obtain rfl : j = n := by omega
      have HE : Hid (R ↔ U = used) := Lib.hid (by rw [HR.out j HN.out HP.out, HUS.out, List.take_of_length_le (by rw [HN.out]; omega)])
      go_wp2_with fail
      go_ret
      exact ⟨_, rfl, by rw [HE.out]; simp; omega, (HU.out.trans HV.out).below⟩
end Go.Proofs.Ytnhgmmjlhhgdoaa
