/- The program's fifth rule of a view. -/
import Derived.Test.YtnhgmmjlhhgdoaaPr4
namespace Go.Proofs.Ytnhgmmjlhhgdoaa
open Go Go.RowKit

set_option maxRecDepth 100000 in
set_option maxHeartbeats 1600000 in
theorem ref_no (v : Vw) (sh mb : Nat) (a : Int) (w : World) (H : ShAt w v sh mb) (hno : ∀ j, j < v.os.length → (v.os.getD j ob0).adr = a → (v.os.getD j ob0).kind ≠ 4) : Calls Try.prog 60 #[.pointer (some ⟨sh, 0, none⟩), .int .i64 a] w fun e w' => e = .returned (.tuple #[.slice none 0 0, .bool false]) ∧ Below w.heap.size w w' := by
  have hm : w.cell? ⟨sh, 10, none⟩ = some (.map (some mb)) := H.cell (Upd.refl [] w) (by simp) rfl
  have HT := Lib.hid H.tab
  clear H
  rcases mapK_full (os := v.os) a with ⟨h1, -⟩ | ⟨j, hj, h1, h2, -⟩
  · have H1 := Lib.hid h1
    clear h1 hno
    generalize v.os.length = n at *
    go_enter Try.func60, Try.ntmps60
    go_wp2_with (at_lookup; refine wpList_look_tab_ok rfl _ _ 58 3 37 rfl Try.underlying58 Try.underlying3 HT.out (zObj _) (by rfl) a (by rfl) ?_; rw [H1.out]; simp only [Option.getD_none, Option.isSome_none])
    go_ret2
    exact ⟨rfl, ((Below.refl _ _).alloc (Nat.le_refl _) _)⟩
  · have H1 := Lib.hid h1
    have hk := hno j hj h2
    clear h1 hno hj h2
    generalize v.os.length = n at *
    generalize v.os.getD j ob0 = ob at *
    obtain ⟨ad, kd, cl, ln, fi, wa, wc, ws⟩ := ob
    simp only [Ob.val] at H1 hk
    generalize ws.length = zz at *
    have hk2 : (kd == 4) = false := by simpa using hk
    have hk3 : (kd != 4) = true := by simpa using hk
    clear hk
    go_enter Try.func60, Try.ntmps60
    go_wp2_with (at_lookup; refine wpList_look_tab_ok rfl _ _ 58 3 37 rfl Try.underlying58 Try.underlying3 HT.out (zObj _) (by rfl) a (by rfl) ?_; rw [H1.out]; simp only [Option.getD_some, Option.isSome_some])
    go_ret2
    exact ⟨rfl, ((Below.refl _ _).alloc (Nat.le_refl _) _)⟩
set_option maxRecDepth 100000 in
set_option maxHeartbeats 1600000 in
theorem ref_yes (v : Vw) (sh mb : Nat) (j : Nat) (a : Int) (w : World) (H : ShAt w v sh mb) (h1 : R1 v.os) (hj : j < v.os.length) (ha : (v.os.getD j ob0).adr = a) (hk : (v.os.getD j ob0).kind = 4) : Calls Try.prog 60 #[.pointer (some ⟨sh, 0, none⟩), .int .i64 a] w fun e w' => e = .returned (.tuple #[.slice (v.os.getD j ob0).wa 5 (v.os.getD j ob0).wc, .bool true]) ∧ Below w.heap.size w w' := by
  have hm : w.cell? ⟨sh, 10, none⟩ = some (.map (some mb)) := H.cell (Upd.refl [] w) (by simp) rfl
  have HT := Lib.hid H.tab
  have h5 := h1.ref5 hj hk
  have H1 := Lib.hid (mapK_some h1 _ hj (Nat.le_refl _))
  rw [ha] at H1
  clear H h1 hj ha
  generalize v.os.length = n at *
  generalize v.os.getD j ob0 = ob at *
  obtain ⟨ad, kd, cl, ln, fi, wa, wc, ws⟩ := ob
  simp only [Ob.val] at H1 hk h5 ⊢
  rw [h5] at H1
  subst hk
  clear h5
  go_enter Try.func60, Try.ntmps60
  go_wp2_with (at_lookup; refine wpList_look_tab_ok rfl _ _ 58 3 37 rfl Try.underlying58 Try.underlying3 HT.out (zObj _) (by rfl) a (by rfl) ?_; rw [H1.out]; simp only [Option.getD_some, Option.isSome_some])
  go_ret2
  exact ⟨rfl, ((Below.refl _ _).alloc (Nat.le_refl _) _)⟩
/-- A set of numbers as a map of Bools. -/
def setF (came : List Int) : Int → Option Value := fun y => if y ∈ came then some (.bool true) else none
theorem setF_nil : setF [] = fun _ => none := by funext y; simp [setF]
theorem setF_add (came : List Int) (x : Int) : (fun y => if y = x then some (Value.bool true) else setF came y) = setF (came ++ [x]) := by
  funext y
  unfold setF
  by_cases h : y = x <;> simp [h]
theorem setF_look {w : World} {b n : Nat} {came : List Int} (h : Tab w b n (setF came)) (x : Int) : (Instr.lookup 76 (.map (some b)) (.int .i64 x) false).run Try.prog w = .ok (.bool (decide (x ∈ came))) w := by
  rw [h.look Try.underlying76 Try.underlying3 (zBool _) x]
  unfold setF
  by_cases hx : x ∈ came <;> simp [hx]
set_option maxRecDepth 100000 in
set_option maxHeartbeats 3200000 in
theorem queues_walk (v : Vw) (sh mb : Nat) (w : World) (H : ShAt w v sh mb) (h1 : R1 v.os) (hlq : v.qs.length ≤ 4611686018427387903) (hql : ∀ q ∈ v.qs, q.length ≤ 4611686018427387903) : Calls Try.prog 35 #[.agg #[.pointer (some ⟨sh, 0, none⟩)]] w (Says (R5 v.os v.qs) w) := by
  have HRN : Hid (∀ a W, Upd [] w W → (∀ j, j < v.os.length → (v.os.getD j ob0).adr = a → (v.os.getD j ob0).kind ≠ 4) → Calls Try.prog 60 #[.pointer (some ⟨sh, 0, none⟩), .int .i64 a] W fun e w' => e = .returned (.tuple #[.slice none 0 0, .bool false]) ∧ Below W.heap.size W w') := Lib.hid (fun a W u h => ref_no v sh mb a W (H.upd u (by simp)) h)
  have HRY : Hid (∀ j a W, Upd [] w W → j < v.os.length → (v.os.getD j ob0).adr = a → (v.os.getD j ob0).kind = 4 → Calls Try.prog 60 #[.pointer (some ⟨sh, 0, none⟩), .int .i64 a] W fun e w' => e = .returned (.tuple #[.slice (v.os.getD j ob0).wa 5 (v.os.getD j ob0).wc, .bool true]) ∧ Below W.heap.size W w') := Lib.hid (fun j a W u hj ha hk => ref_yes v sh mb j a W (H.upd u (by simp)) h1 hj ha hk)
  have HR : Hid (∀ nq, v.qs.length = nq → (∀ i, i < nq → ∀ k, k < (v.qs.getD i []).length → Ok5 v.os (came5 v.qs i k) ((v.qs.getD i []).getD k 0) ((v.qs.getD i []).getD (k + 1) 0)) → R5 v.os v.qs) := Lib.hid (fun _ h1 h2 i hi => h2 i (by omega))
  have HN' : Hid (∀ nq i k, v.qs.length = nq → i < nq → k < (v.qs.getD i []).length → ¬ Ok5 v.os (came5 v.qs i k) ((v.qs.getD i []).getD k 0) ((v.qs.getD i []).getD (k + 1) 0) → ¬ R5 v.os v.qs) := Lib.hid (fun n i k h hi hk h1 h2 => h1 (h2 i (by omega) k hk))
  have HLN : Hid (∀ nq i, v.qs.length = nq → i < nq → (v.qs.getD i []).length ≤ 4611686018427387903) := Lib.hid (fun n i h hi => by rw [getD_of (by omega)]; exact hql _ (List.getElem_mem _))
  have HNX : Hid (∀ nq i, v.qs.length = nq → i < nq → came5 v.qs (i + 1) 0 = came5 v.qs i (v.qs.getD i []).length) := Lib.hid (fun nq i h hi => came5_next (by omega))
  have H5 : Hid (∀ j, j < v.os.length → (v.os.getD j ob0).kind = 4 → (v.os.getD j ob0).ws.length = 5) := Lib.hid (fun j hj => h1.ref5 hj)
  have HO5 : Hid (∀ j, j < v.os.length → ∀ came a next, (v.os.getD j ob0).adr = a → (Ok5 v.os came a next ↔ ((v.os.getD j ob0).kind = 4 ∧ (v.os.getD j ob0).ws.getD 1 0 = -1 ∧ (v.os.getD j ob0).ws.getD 0 0 = 0 ∧ (v.os.getD j ob0).ws.getD 2 0 = next) ∧ a ∉ came)) := Lib.hid (fun j hj came a next e => ok5_iff h1 hj e)
  have HNOB : Hid (∀ x, (¬ ∃ j, j < v.os.length ∧ (v.os.getD j ob0).adr = x ∧ (v.os.getD j ob0).kind = 4) → ∀ came next, ¬ Ok5 v.os came x next) := Lib.hid (fun x h came next ho => by
    obtain ⟨⟨o, hm, e1, e2, _⟩, _⟩ := ho
    obtain ⟨i, hi, rfl⟩ := List.mem_iff_getElem.1 hm
    exact h ⟨i, hi, by rw [getD_of hi]; exact e1, by rw [getD_of hi]; exact e2⟩)
  have HSH := Lib.hid H
  clear h1 hql H
  generalize R5 v.os v.qs = R at *
  obtain ⟨nqs, hnq⟩ : ∃ n, v.qs.length = n := ⟨_, rfl⟩
  rw [hnq] at hlq
  have HNQ := Lib.hid hnq
  clear hnq
  have hmm := @run_makeMap Try.prog
  go_enter Try.func35, Try.ntmps35
  go_upto_region 1 with fail
  generalize hW : World.alloc w (Obj.cells _ 62) = w1
  have HB : Hid (Blk w1 w.heap.size 62 #[.pointer (some ⟨sh, 0, none⟩)]) := Lib.hid (by rw [← hW]; exact Blk.new _ _ _)
  have HU : Hid (Upd [] w w1) := Lib.hid (by rw [← hW]; exact (Upd.refl [] w).alloc _)
  have HS1 : Hid (ShAt w1 v sh mb) := Lib.hid (HSH.out.upd HU.out (by simp))
  clear hW
  generalize hq0 : w.heap.size = rb at *
  have hrw : rb < w1.heap.size := HB.out.lt
  have HQ0 := Lib.hid hq0
  clear hq0
  have HCS : Hid (∀ W, Upd [] w1 W → W.cell? ⟨rb, 0, none⟩ = some (.pointer (some ⟨sh, 0, none⟩)) ∧ W.cell? ⟨sh, 3, none⟩ = some (.slice v.qa nqs v.qc)) := Lib.hid (fun W u => ⟨(HB.out.upd u (by simp)).one_of, by rw [← HNQ.out]; exact HS1.out.cell u (by simp) rfl⟩)
  have HQU := Lib.hid HSH.out.sees.queues
  have HOB := Lib.hid HSH.out.sees.obs
  generalize v.qa = qa at *
  generalize v.qc = qc at *
  generalize v.qs = qs at *
  obtain ⟨r0, s3⟩ := HCS.out _ (Upd.refl [] w1)
  go_upto_region 2 with fail
  generalize hW : World.alloc w1 (Obj.map _ _) = w2
  have HT2 : Hid (Tab w2 w1.heap.size 0 (setF [])) := Lib.hid (by rw [← hW, setF_nil]; exact Tab.new w1)
  have H12 : Hid (Upd [] w1 w2) := Lib.hid (by rw [← hW]; exact (Upd.refl [] w1).alloc _)
  clear hW r0 s3 hmm
  generalize hhb : w1.heap.size = hb at *
  have HHB := Lib.hid (Nat.le_of_eq hhb)
  have hrh : rb < hb := hrw
  clear hhb
  obtain ⟨r0, s3⟩ := HCS.out _ H12.out
  go_wp2_with fail
  clear r0 s3
  go_loopg [19] nqs (fun gk i wr => ∃ (j kk : Nat), gk = nqs - j ∧ j ≤ nqs ∧ i = .int .i64 j ∧ Hid (Upd [] w1 wr) ∧ Hid (Tab wr hb kk (setF (came5 qs j 0))) ∧ Hid (∀ m, m < j → ∀ k, k < (qs.getD m []).length → Ok5 v.os (came5 qs m k) ((qs.getD m []).getD k 0) ((qs.getD m []).getD (k + 1) 0)))
  case atStart => exact ⟨0, 0, rfl, by omega, rfl, H12, HT2, Lib.hid (fun m h => by omega)⟩
  case round =>
    obtain ⟨j, kk, rfl, hj, rfl, HV, HT, HP⟩ := hrel
    by_cases hlt : j < nqs
    · obtain ⟨bq, oq, Ai, ci, hqa, hbq, cq0, hai, -⟩ := HQU.out.at HNQ.out hlt
      subst hqa
      have cq := ((HU.out.trans HV.out).cell (p := ⟨bq, oq + j, none⟩) hbq (by simp)).trans cq0
      clear cq0
      have HAI := Lib.hid hai
      clear hai
      have hz := HLN.out nqs j HNQ.out hlt
      have HJN : Hid (∀ k, k < (qs.getD j []).length → ¬ Ok5 v.os (came5 qs j k) ((qs.getD j []).getD k 0) ((qs.getD j []).getD (k + 1) 0) → ¬ R) := Lib.hid (fun k hk => HN'.out nqs j k HNQ.out hlt hk)
      have HNXJ := Lib.hid (HNX.out nqs j HNQ.out hlt)
      have HSTP : Hid (∀ k, k < (qs.getD j []).length → came5 qs j (k + 1) = came5 qs j k ++ [(qs.getD j []).getD k 0]) := Lib.hid (fun k hk => came5_step hk)
      have HST : Hid ((∀ k, k < (qs.getD j []).length → Ok5 v.os (came5 qs j k) ((qs.getD j []).getD k 0) ((qs.getD j []).getD (k + 1) 0)) → ∀ m, m < j + 1 → ∀ k, k < (qs.getD m []).length → Ok5 v.os (came5 qs m k) ((qs.getD m []).getD k 0) ((qs.getD m []).getD (k + 1) 0)) := Lib.hid (fun h m hm => by
        rcases Nat.eq_or_lt_of_le (show m ≤ j by omega) with rfl | h3
        · exact h
        · exact HP.out m h3)
      clear HP
      generalize hqj : qs.getD j [] = l at *
      have HQJ := Lib.hid hqj
      clear hqj
      obtain ⟨z, hlz⟩ : ∃ z, l.length = z := ⟨_, rfl⟩
      rw [hlz] at hz cq HJN HNXJ HSTP HST
      have HLZ := Lib.hid hlz
      clear hlz
      go_wp2_with fail
      clear cq
      go_loopg [25] z (fun gk i wr => ∃ (k kk : Nat), gk = z - k ∧ k ≤ z ∧ i = .int .i64 k ∧ Hid (Upd [] w1 wr) ∧ Hid (Tab wr hb kk (setF (came5 qs j k))) ∧ Hid (∀ m, m < k → Ok5 v.os (came5 qs j m) (l.getD m 0) (l.getD (m + 1) 0)))
      case atStart => exact ⟨0, kk, rfl, by omega, rfl, HV, HT, Lib.hid (fun m h => by omega)⟩
      case round =>
        clear HV HT
        obtain ⟨k, kk, rfl, hk, rfl, HV, HT, HPI⟩ := hrel
        have HUI : Hid (Upd [] w wr) := Lib.hid (HU.out.trans HV.out)
        by_cases hlk : k < z
        · obtain ⟨b, off, hAi, hb0, c0⟩ := (Reads.upd HAI.out HUI.out (by simp)).at HLZ.out hlk
          subst hAi
          have HNO : Hid (¬ Ok5 v.os (came5 qs j k) (l.getD k 0) (l.getD (k + 1) 0) → ¬ R) := Lib.hid (HJN.out k hlk)
          have HSO := Lib.hid (HSTP.out k hlk)
          have HPN : Hid (Ok5 v.os (came5 qs j k) (l.getD k 0) (l.getD (k + 1) 0) → ∀ m, m < k + 1 → Ok5 v.os (came5 qs j m) (l.getD m 0) (l.getD (m + 1) 0)) := Lib.hid (fun h m hm => by
            rcases Nat.eq_or_lt_of_le (show m ≤ k by omega) with rfl | h3
            · exact h
            · exact HPI.out m h3)
          have hnx : (k + 1 < z ∧ ((k + 1 : Nat) : Int) < z ∧ wr.cell? ⟨b, off + (k + 1), none⟩ = some (.int .i64 (l.getD (k + 1) 0))) ∨ (¬ k + 1 < z ∧ l.getD (k + 1) 0 = 0) := by
            by_cases h : k + 1 < z
            · obtain ⟨b', off', he, _, c'⟩ := (Reads.upd HAI.out HUI.out (by simp)).at HLZ.out h
              simp only [Option.some.injEq, Addr.mk.injEq] at he
              obtain ⟨rfl, rfl, _⟩ := he
              exact .inl ⟨h, by omega, c'⟩
            · exact .inr ⟨h, by rw [List.getD_eq_getElem?_getD, List.getElem?_eq_none (by rw [HLZ.out]; omega)]; rfl⟩
          obtain ⟨x, hx⟩ : ∃ x, l.getD k 0 = x := ⟨_, rfl⟩
          obtain ⟨nx, hnxe⟩ : ∃ x, l.getD (k + 1) 0 = x := ⟨_, rfl⟩
          obtain ⟨L, hL⟩ : ∃ L, came5 qs j k = L := ⟨_, rfl⟩
          rw [hx] at HNO HPN HSO c0
          rw [hnxe] at HNO HPN hnx
          rw [hL] at HNO HPN HSO HT
          clear hx hnxe hL HPI
          have HNXC := Lib.hid hnx
          obtain ⟨r0, -⟩ := HCS.out _ HV.out
          clear hnx
          by_cases hex : ∃ j, j < v.os.length ∧ (v.os.getD j ob0).adr = x ∧ (v.os.getD j ob0).kind = 4
          · obtain ⟨jj, hjn, hadr, hkd⟩ := hex
            have hws : IsInts w (v.os.getD jj ob0).wa (v.os.getD jj ob0).ws := by
              obtain ⟨_, _, _, _, _, hw⟩ := HOB.out.at rfl hjn
              exact hw
            have h5 := H5.out jj hjn hkd
            have HADR := Lib.hid hadr
            have HKD := Lib.hid hkd
            have hrc := fun W (u : Upd [] wr W) => HRY.out jj x W (HUI.out.trans u) hjn hadr hkd
            have hws5 : Reads w .i64 (v.os.getD jj ob0).wa (v.os.getD jj ob0).ws := hws
            obtain ⟨wb, wo, hwa, hwb, y0⟩ := hws5.at h5 (show 0 < 5 by omega)
            obtain ⟨wb1, wo1, hwa1, -, y1⟩ := hws5.at h5 (show 1 < 5 by omega)
            obtain ⟨wb2, wo2, hwa2, -, y2⟩ := hws5.at h5 (show 2 < 5 by omega)
            rw [hwa] at hwa1 hwa2 hrc
            simp only [Option.some.injEq, Addr.mk.injEq] at hwa1 hwa2
            obtain ⟨rfl, rfl, -⟩ := hwa1
            obtain ⟨rfl, rfl, -⟩ := hwa2
            rw [Nat.add_zero] at y0
            have HRC := Lib.hid hrc
            clear hws hws5 h5 hadr hkd hwa hrc
            generalize hv0 : (v.os.getD jj ob0).ws.getD 0 0 = v0 at *
            generalize hv1 : (v.os.getD jj ob0).ws.getD 1 0 = v1 at *
            generalize hv2 : (v.os.getD jj ob0).ws.getD 2 0 = v2 at *
            have HYS : Hid (∀ W, Upd [] wr W → W.cell? ⟨wb, wo, none⟩ = some (.int .i64 v0) ∧ W.cell? ⟨wb, wo + 1, none⟩ = some (.int .i64 v1) ∧ W.cell? ⟨wb, wo + 2, none⟩ = some (.int .i64 v2)) := Lib.hid (fun W u => ⟨((HUI.out.trans u).cell (p := ⟨wb, wo, none⟩) hwb (by simp)).trans y0, ((HUI.out.trans u).cell (p := ⟨wb, wo + 1, none⟩) hwb (by simp)).trans y1, ((HUI.out.trans u).cell (p := ⟨wb, wo + 2, none⟩) hwb (by simp)).trans y2⟩)
            have HV0 := Lib.hid hv0
            have HV1 := Lib.hid hv1
            have HV2 := Lib.hid hv2
            clear y0 y1 y2 hv0 hv1 hv2
            generalize (v.os.getD jj ob0).wc = wc at *
            rcases HNXC.out with ⟨hk1, hk1i, cn⟩ | ⟨hk1, hk0⟩
            · have hkb : decide ((k : Int) + 1 < (z : Int)) = true := by simp; omega
              have hk1j : (k : Int) + 1 < (z : Int) := by omega
              clear hk1 hk1i
              go_wp2_with fail
              refine (HRC.out _ (Upd.refl [] wr)).mono ?_
              rintro e w5 ⟨rfl, hb5⟩
              have HX : Hid (Upd [] wr w5) := Lib.hid (Upd.of_below hb5)
              have HT5 : Hid (Tab w5 hb kk (setF L)) := Lib.hid (HT.out.upd HX.out (by simp))
              have hlk := setF_look HT5.out x
              have hki := HO5.out jj hjn L x nx HADR.out
              rw [HV0.out, HV1.out, HV2.out] at hki
              have HKI := Lib.hid hki
              clear hki
              obtain ⟨b0, hb0⟩ : ∃ b, decide (x ∈ L) = b := ⟨_, rfl⟩
              rw [hb0] at hlk
              have y0 := (HYS.out w5 HX.out).1
              have y1 := (HYS.out w5 HX.out).2.1
              have y2 := (HYS.out w5 HX.out).2.2
              clear hb5
              cases b0 with
              | true =>
                have hin : x ∈ L := by simpa using hb0
                have HFR := Lib.hid (HNO.out (fun h => h.2 hin))
                clear hb0 hin
                go_wp2_with fail
                go_ret
                exact ⟨false, rfl, by simp; exact HFR.out, (HUI.out.trans HX.out).below⟩
              | false =>
                have hin : x ∉ L := by simpa using hb0
                clear hb0
                by_cases hv1 : v1 = -1
                · have hv1b : (v1 != -1) = false := by simpa using hv1
                  by_cases hv0 : v0 = 0
                  · have hv0b : (v0 != 0) = false := by simpa using hv0
                    by_cases hv2 : v2 = nx
                    · have hv2b : (v2 != nx) = false := by simpa using hv2
                      have HL := Lib.hid (HKI.out.2 ⟨⟨HKD.out, hv1, hv0, hv2⟩, hin⟩)
                      clear hv1 hv0 hv2 hin
                      go_upto_region 14 with fail
                      clear y0 y1 y2 hlk hv1b hv0b hv2b
                      go_wp2_with (at_mapUpdate; refine wpList_put_tab rfl _ _ _ 76 3 4 rfl Try.underlying76 Try.underlying3 HT5.out (by rfl) x (.bool true) (by rfl) (by rfl) ?_)
                      intro w6 hT6 hg6
                      have HT6 : Hid (Tab w6 hb (kk + 1) (setF (came5 qs j (k + 1)))) := Lib.hid (by rw [HSO.out, ← setF_add]; exact hT6)
                      have HU6 : Hid (Upd [] w1 w6) := Lib.hid ((HV.out.trans HX.out).grown hg6 (fun i hi => .inr (by simp only [Option.some.injEq] at hi; rw [← hi]; exact HHB.out)))
                      clear hT6 hg6
                      go_wp2_with fail
                      go_roundg (z - (k + 1))
                      case measure => omega
                      case rel => exact ⟨k + 1, kk + 1, rfl, by omega, by go_num, HU6, HT6, Lib.hid (HPN.out HL.out)⟩
                    · have hv2b : (v2 != nx) = true := by simpa using hv2
                      have HFR := Lib.hid (HNO.out (fun h => hv2 (HKI.out.1 h).1.2.2.2))
                      clear hv1 hv0 hv2 hin
                      go_wp2_with fail
                      go_ret
                      exact ⟨false, rfl, by simp; exact HFR.out, (HUI.out.trans HX.out).below⟩
                  · have hv0b : (v0 != 0) = true := by simpa using hv0
                    have HFR := Lib.hid (HNO.out (fun h => hv0 (HKI.out.1 h).1.2.2.1))
                    clear hv1 hv0 hin
                    go_wp2_with fail
                    go_ret
                    exact ⟨false, rfl, by simp; exact HFR.out, (HUI.out.trans HX.out).below⟩
                · have hv1b : (v1 != -1) = true := by simpa using hv1
                  have HFR := Lib.hid (HNO.out (fun h => hv1 (HKI.out.1 h).1.2.1))
                  clear hv1 hin
                  go_wp2_with fail
                  go_ret
                  exact ⟨false, rfl, by simp; exact HFR.out, (HUI.out.trans HX.out).below⟩
            · have hkb : decide ((k : Int) + 1 < (z : Int)) = false := by simp; omega
              obtain rfl := hk0
              clear hk1
              go_wp2_with fail
              refine (HRC.out _ (Upd.refl [] wr)).mono ?_
              rintro e w5 ⟨rfl, hb5⟩
              have HX : Hid (Upd [] wr w5) := Lib.hid (Upd.of_below hb5)
              have HT5 : Hid (Tab w5 hb kk (setF L)) := Lib.hid (HT.out.upd HX.out (by simp))
              have hlk := setF_look HT5.out x
              have hki := HO5.out jj hjn L x 0 HADR.out
              rw [HV0.out, HV1.out, HV2.out] at hki
              have HKI := Lib.hid hki
              clear hki
              obtain ⟨b0, hb0⟩ : ∃ b, decide (x ∈ L) = b := ⟨_, rfl⟩
              rw [hb0] at hlk
              have y0 := (HYS.out w5 HX.out).1
              have y1 := (HYS.out w5 HX.out).2.1
              have y2 := (HYS.out w5 HX.out).2.2
              clear hb5
              cases b0 with
              | true =>
                have hin : x ∈ L := by simpa using hb0
                have HFR := Lib.hid (HNO.out (fun h => h.2 hin))
                clear hb0 hin
                go_wp2_with fail
                go_ret
                exact ⟨false, rfl, by simp; exact HFR.out, (HUI.out.trans HX.out).below⟩
              | false =>
                have hin : x ∉ L := by simpa using hb0
                clear hb0
                by_cases hv1 : v1 = -1
                · have hv1b : (v1 != -1) = false := by simpa using hv1
                  by_cases hv0 : v0 = 0
                  · have hv0b : (v0 != 0) = false := by simpa using hv0
                    by_cases hv2 : v2 = 0
                    · have hv2b : (v2 != 0) = false := by simpa using hv2
                      have HL := Lib.hid (HKI.out.2 ⟨⟨HKD.out, hv1, hv0, hv2⟩, hin⟩)
                      clear hv1 hv0 hv2 hin
                      go_upto_region 14 with fail
                      clear y0 y1 y2 hlk hv1b hv0b hv2b
                      go_wp2_with (at_mapUpdate; refine wpList_put_tab rfl _ _ _ 76 3 4 rfl Try.underlying76 Try.underlying3 HT5.out (by rfl) x (.bool true) (by rfl) (by rfl) ?_)
                      intro w6 hT6 hg6
                      have HT6 : Hid (Tab w6 hb (kk + 1) (setF (came5 qs j (k + 1)))) := Lib.hid (by rw [HSO.out, ← setF_add]; exact hT6)
                      have HU6 : Hid (Upd [] w1 w6) := Lib.hid ((HV.out.trans HX.out).grown hg6 (fun i hi => .inr (by simp only [Option.some.injEq] at hi; rw [← hi]; exact HHB.out)))
                      clear hT6 hg6
                      go_wp2_with fail
                      go_roundg (z - (k + 1))
                      case measure => omega
                      case rel => exact ⟨k + 1, kk + 1, rfl, by omega, by go_num, HU6, HT6, Lib.hid (HPN.out HL.out)⟩
                    · have hv2b : (v2 != 0) = true := by simpa using hv2
                      have HFR := Lib.hid (HNO.out (fun h => hv2 (HKI.out.1 h).1.2.2.2))
                      clear hv1 hv0 hv2 hin
                      go_wp2_with fail
                      go_ret
                      exact ⟨false, rfl, by simp; exact HFR.out, (HUI.out.trans HX.out).below⟩
                  · have hv0b : (v0 != 0) = true := by simpa using hv0
                    have HFR := Lib.hid (HNO.out (fun h => hv0 (HKI.out.1 h).1.2.2.1))
                    clear hv1 hv0 hin
                    go_wp2_with fail
                    go_ret
                    exact ⟨false, rfl, by simp; exact HFR.out, (HUI.out.trans HX.out).below⟩
                · have hv1b : (v1 != -1) = true := by simpa using hv1
                  have HFR := Lib.hid (HNO.out (fun h => hv1 (HKI.out.1 h).1.2.1))
                  clear hv1 hin
                  go_wp2_with fail
                  go_ret
                  exact ⟨false, rfl, by simp; exact HFR.out, (HUI.out.trans HX.out).below⟩
          · have HFR := Lib.hid (HNO.out (HNOB.out x hex _ _))
            have HRC : Hid (∀ W, Upd [] wr W → Calls Try.prog 60 #[.pointer (some ⟨sh, 0, none⟩), .int .i64 x] W fun e w' => e = .returned (.tuple #[.slice none 0 0, .bool false]) ∧ Below W.heap.size W w') := Lib.hid (fun W u => HRN.out x W (HUI.out.trans u) (fun j hj ha hk => hex ⟨j, hj, ha, hk⟩))
            clear hex
            rcases HNXC.out with ⟨hk1, hk1i, cn⟩ | ⟨hk1, hk0⟩
            · have hkb : decide ((k : Int) + 1 < (z : Int)) = true := by simp; omega
              have hk1j : (k : Int) + 1 < (z : Int) := by omega
              clear hk1 hk1i
              go_wp2_with fail
              refine (HRC.out _ (Upd.refl [] wr)).mono ?_
              rintro e w5 ⟨rfl, hb5⟩
              have HX : Hid (Upd [] wr w5) := Lib.hid (Upd.of_below hb5)
              clear hb5
              go_wp2_with fail
              go_ret
              exact ⟨false, rfl, by simp; exact HFR.out, (HUI.out.trans HX.out).below⟩
            · have hkb : decide ((k : Int) + 1 < (z : Int)) = false := by simp; omega
              obtain rfl := hk0
              clear hk1
              go_wp2_with fail
              refine (HRC.out _ (Upd.refl [] wr)).mono ?_
              rintro e w5 ⟨rfl, hb5⟩
              have HX : Hid (Upd [] wr w5) := Lib.hid (Upd.of_below hb5)
              clear hb5
              go_wp2_with fail
              go_ret
              exact ⟨false, rfl, by simp; exact HFR.out, (HUI.out.trans HX.out).below⟩
        · obtain rfl : k = z := by omega
          have HL := Lib.hid (HST.out HPI.out)
          rw [← HNXJ.out] at HT
          go_wp2_with fail
          go_roundg (nqs - (j + 1))
          case measure => omega
          case rel => exact ⟨j + 1, kk, rfl, by omega, by go_num, HV, HT, HL⟩
    · obtain rfl : j = nqs := by omega
      have HTR := Lib.hid (HR.out _ HNQ.out HP.out)
      go_wp2_with fail
      go_ret
      exact ⟨true, rfl, by simp; exact HTR.out, (HU.out.trans HV.out).below⟩
end Go.Proofs.Ytnhgmmjlhhgdoaa
