/- The contract of Used; a law's own example. -/
import Derived.Test.YtpichhnihppicaaSpace8
namespace Go.Proofs.Ytpichhnihppicaa
open Go Go.RowKit

theorem sum_snoc (l : List Int) (x : Int) : (l ++ [x]).sum = l.sum + x := by
  induction l with
  | nil => simp
  | cons y l ih => simp only [List.cons_append, List.sum_cons, ih]; omega
theorem many_le {S : Sp} (h : S.WF) (f : Nat) : manyOf (atP S.pg f) ≤ 256 := by
  cases hx : atP S.pg f <;> simp only [manyOf] <;> try omega
  have := (h.first f _ hx).2.1
  have := h.n2
  omega
theorem find_bd {S : Sp} (h : S.WF) (a : Int) : 0 ≤ (S.find a).2.1 ∧ (S.find a).2.1 ≤ 16384 := by
  unfold Sp.find
  split
  · exact ⟨by decide, by decide⟩
  · cases hx : atP S.pg (a / 64).toNat
    case small c l =>
      have := words_pos (h.small _ _ _ hx).1
      by_cases hb : hasB l (a % 64 / wordsOf c) = true
      · simp only [hb, if_true]; omega
      · simp only [hb]; show (0 : Int) ≤ 0 ∧ (0 : Int) ≤ 16384; omega
    case first k =>
      have := (h.first _ _ hx).2.1
      have := h.n2
      simp only
      omega
    case rest f =>
      have := many_le h f
      simp only
      omega
    all_goals (show (0 : Int) ≤ 0 ∧ (0 : Int) ≤ 16384; omega)

theorem used_nil (w : World) : Calls Try.prog 17 #[.pointer none] w fun e w' => e = .returned (.int .i64 0) ∧ w = w' := by
  go_enter Try.func17, Try.ntmps17
  go_wp2_with fail
  refine (each_nil _).mono ?_
  rintro e w' ⟨rfl, rfl⟩
  go_wp2_with fail
  go_loopg [3, 12] 1 (fun gk n i wr => gk = 1 ∧ n = .int .i64 0 ∧ i = .int .i64 0 ∧ w = wr)
  case atStart => exact ⟨rfl, rfl, rfl, rfl⟩
  case round =>
    obtain ⟨rfl, rfl, rfl, rfl⟩ := hrel
    go_wp2_with fail
    go_ret
    exact ⟨rfl, rfl⟩

theorem used_calls (s : Nat) (L : Lay) (S : Sp) (w : World) (h : IsSpace w s L S) :
    Calls Try.prog 17 #[.pointer (some ⟨s, 0, none⟩)] w fun e w' => e = .returned (.int .i64 S.used) ∧ Upd [] w w' := by
  have H := Lib.hid h
  have HBD : Hid (∀ j, 0 ≤ ((S.each.take j).map fun a => (S.find a).2.1).sum ∧ ((S.each.take j).map fun a => (S.find a).2.1).sum ≤ 16384 * 16384) := Lib.hid fun j => by
    have hgen : ∀ l : List Int, 0 ≤ (l.map fun a => (S.find a).2.1).sum ∧ (l.map fun a => (S.find a).2.1).sum ≤ l.length * 16384 := fun l => by
      induction l with
      | nil => simp
      | cons x l ih =>
        have := find_bd h.wf x
        simp only [List.map_cons, List.sum_cons, List.length_cons]
        omega
    have h1 := hgen (S.each.take j)
    have h2 : (S.each.take j).length ≤ 16384 := by rw [List.length_take]; have := each_length h.wf; omega
    omega
  have HSUC : Hid (∀ j, j < S.each.length → ((S.each.take (j + 1)).map fun a => (S.find a).2.1).sum = ((S.each.take j).map fun a => (S.find a).2.1).sum + (S.find (S.each.getD j 0)).2.1) := Lib.hid fun j hj => by
    rw [List.take_succ_eq_append_getElem hj, List.map_append]
    show (_ ++ [_]).sum = _
    rw [sum_snoc, List.getD_eq_getElem?_getD, List.getElem?_eq_getElem hj]
    rfl
  have HEND : Hid (((S.each.take S.each.length).map fun a => (S.find a).2.1).sum = S.used) := Lib.hid (by rw [List.take_length]; rfl)
  have hnl := each_length h.wf
  obtain ⟨N, hN⟩ : ∃ N, S.each.length = N := ⟨_, rfl⟩
  rw [hN] at HSUC HEND hnl
  have HN := Lib.hid hN
  clear h hN
  go_enter Try.func17, Try.ntmps17
  go_wp2_with fail
  refine (each_calls s L S _ H.out).mono ?_
  rintro e w1 ⟨v, rfl, hO, hu⟩
  obtain ⟨A, cap, hv, hI, _⟩ := hO.form
  rw [HN.out] at hv
  subst hv
  have HI := Lib.hid hI
  have HU := Lib.hid hu
  clear hO hI hu
  go_wp2_with fail
  go_loopg [3, 12] N (fun gk n i wr => ∃ j : Nat, gk = N - j ∧ j ≤ N ∧ i = .int .i64 j ∧ n = .int .i64 ((S.each.take j).map fun a => (S.find a).2.1).sum ∧ Hid (Upd [] w1 wr))
  case atStart => exact ⟨0, rfl, by omega, rfl, by simp, Lib.hid (Upd.refl _ _)⟩
  case round =>
    obtain ⟨j, rfl, hj, rfl, rfl, HV⟩ := hrel
    by_cases hlt : j < N
    · have hbd := HBD.out j
      have hsuc := HSUC.out j hlt
      generalize ((S.each.take j).map fun a => (S.find a).2.1).sum = t at *
      obtain ⟨b, off, rfl, hb, ce⟩ := (Reads.upd (k := .i64) HI.out HV.out (by simp)).at HN.out hlt
      generalize S.each.getD j 0 = y at *
      have hfb := find_bd H.out.wf y
      have hf := find_calls s L S y wr (H.out.upd0 (HU.out.trans HV.out))
      unfold FindVal at hf
      obtain ⟨z, hz⟩ : ∃ z, S.find y = z := ⟨_, rfl⟩
      rw [hz] at hf hfb hsuc
      clear hz
      obtain ⟨z1, z2, z3⟩ := z
      simp only at hf hfb hsuc
      have HF := Lib.hid hf
      have HS := Lib.hid hsuc
      clear hf hsuc
      go_wp2_with fail
      refine HF.out.mono ?_
      rintro e w2 ⟨rfl, hu⟩
      have HV2 : Hid (Upd [] w1 w2) := Lib.hid (HV.out.trans hu)
      clear hu
      go_wp2_with fail
      go_roundg (N - (j + 1))
      case measure => omega
      case rel => exact ⟨j + 1, rfl, by omega, by go_num, by rw [HS.out], HV2⟩
    · obtain rfl : j = N := by omega
      have hend := HEND.out
      generalize ((S.each.take j).map fun a => (S.find a).2.1).sum = t at *
      subst hend
      go_wp2_with fail
      go_ret
      exact ⟨rfl, HU.out.trans HV.out⟩

theorem After.space {s : Nat} {L : Lay} {S S' : Sp} {w w' : World} (h : After s L S S' w w') : ∃ L', IsSpace w' s L' S' := by obtain ⟨L', h1, _⟩ := h; exact ⟨L', h1⟩

set_option maxHeartbeats 800000 in
theorem awake6_calls (w : World) : Calls Try.prog 14 #[] w fun e w' => e = .returned (.bool true) ∧ Below w.heap.size w w' := by
  have hal : (newSp 2).alloc 3 = (((newSp 2).alloc 3).1, 64, 0) := Prod.ext rfl (show ((newSp 2).alloc 3).2 = (64, 0) from by decide +kernel)
  have hus : ((newSp 2).alloc 3).1.used = 4 := by decide +kernel
  have hln : (((newSp 2).alloc 3).1.pg.length : Int) - 1 = 1 := by decide +kernel
  generalize ((newSp 2).alloc 3).1 = S1 at *
  have HAL := Lib.hid hal
  have HUS := Lib.hid hus
  have HLN := Lib.hid hln
  clear hal hus hln
  go_enter Try.func14, Try.ntmps14
  go_wp2_with fail
  refine (space_new_yes 2 _ (by omega) (by omega)).mono ?_
  rintro e w1 ⟨s, L, rfl, hS, hown, hu⟩
  have HS := Lib.hid hS
  have HU := Lib.hid hu
  have HOW := Lib.hid hown
  have c0 : w1.cell? ⟨s, 0, none⟩ = some (.pointer (some ⟨L.pa, 0, none⟩)) := HS.out.box.cell 0
  have c1 : w1.cell? ⟨s, 1, none⟩ = some (.pointer (some ⟨L.q0, 0, none⟩)) := HS.out.box.cell 1
  clear hS hu hown
  go_wp2_with fail
  have hA := alloc_calls s L (newSp 2) 3 w1 HS.out
  rw [HAL.out] at hA
  unfold AllocVal at hA
  refine hA.mono ?_
  clear hA
  rintro e w2 ⟨rfl, hA⟩
  obtain ⟨L2, hS2, hu2, hF2, _⟩ := hA
  have HS2 := Lib.hid hS2
  have HU2 : Hid (Upd [] w w2) := Lib.hid (HU.out.step hu2 (fun i hi => .inr (HOW.out i (foot_owns hi))))
  clear hS2 hu2 hF2
  go_wp2_with fail
  refine (err0 _).mono ?_
  rintro e w' ⟨rfl, rfl⟩
  go_wp2_with fail
  refine (err0 _).mono ?_
  rintro e w' ⟨rfl, rfl⟩
  have hus := used_calls s L2 S1 w2 HS2.out
  rw [HUS.out] at hus
  go_wp2_with fail
  refine hus.mono ?_
  clear hus
  rintro e w3 ⟨rfl, hu⟩
  have HU3 : Hid (Upd [] w w3) := Lib.hid (HU2.out.trans hu)
  have hcp := cap_calls s L2 S1 w3 (HS2.out.upd0 hu)
  rw [HLN.out] at hcp
  have HCP := Lib.hid hcp
  clear hu hcp
  go_wp2_with fail
  refine HCP.out.mono ?_
  rintro e w' ⟨rfl, rfl⟩
  go_wp2_with fail
  go_ret
  exact ⟨rfl, HU3.out.below⟩
end Go.Proofs.Ytpichhnihppicaa
