/- The contracts of references: Clear, Enqueue. -/
import Derived.Test.YtendjhobemlhoaaRefs4
import Derived.Test.YtendjhobemlhoaaP3
namespace Go.Proofs.Ytendjhobemlhoaa
open Go Go.RowKit

/-- All of some references refer to nothing. -/
def clearF (F : Int → Ob) (xs : List Int) : Int → Ob := xs.foldl (fun F a => putF F a 0 0) F
theorem clearF_snoc (F : Int → Ob) (xs : List Int) (a : Int) : clearF F (xs ++ [a]) = putF (clearF F xs) a 0 0 := by unfold clearF; rw [List.foldl_append]; rfl
theorem clearF_k (xs : List Int) (F : Int → Ob) (b : Int) : (clearF F xs b).k = (F b).k := by
  induction xs generalizing F with
  | nil => rfl
  | cons a t ih => exact (ih _).trans (putF_k ..)
theorem clearF_c (xs : List Int) (F : Int → Ob) (b : Int) : (clearF F xs b).c = (F b).c := by
  induction xs generalizing F with
  | nil => rfl
  | cons a t ih => exact (ih _).trans (putF_c ..)
theorem clearF_len (xs : List Int) (F : Int → Ob) (b : Int) : (clearF F xs b).ws.length = (F b).ws.length := by
  induction xs generalizing F with
  | nil => rfl
  | cons a t ih => exact (ih _).trans (putF_len ..)
theorem clearF_get (xs : List Int) (F : Int → Ob) (b : Int) (i : Nat) : (clearF F xs b).ws.getD i 0 = if i = 0 ∧ b ∈ xs then 0 else (F b).ws.getD i 0 := by
  induction xs generalizing F with
  | nil => simp [clearF]
  | cons a t ih =>
    show (clearF (putF F a 0 0) t b).ws.getD i 0 = _
    rw [ih, putF_get]
    by_cases h0 : i = 0
    · subst h0
      by_cases hb : b ∈ t
      · simp [hb]
      · by_cases e : b = a
        · subst e
          simp only [hb, and_false, if_false, true_and, List.mem_cons, true_or, and_true, if_true]
          split
          · rfl
          · rename_i h
            rw [List.getD_eq_getElem?_getD, List.getElem?_eq_none (by omega)]; rfl
        · simp [hb, e]
    · rw [if_neg (by omega), if_neg (by omega), if_neg (by omega)]
section
variable {l : List Int} {F : Int → Ob} {rows : List (List Int)} {O : Nat → Prop}
theorem clear_nil13 (A : Option Addr) (m cap : Nat) (w : World) : Calls Try.prog 45 #[.pointer none, .slice A m cap] w fun e w' => e = .returned (.int .i64 5) ∧ w = w' := by
  go_enter Try.func45, Try.ntmps45
  go_wp2_with fail
  go_ret
  exact ⟨rfl, rfl⟩
theorem ref_strength (r q h np n : Nat) (a : Int) (w : World) (H : RefO w r q h np l F rows n O) (ha : a ∈ l ∧ (F a).k = 4) : Calls Try.prog 63 #[.pointer (some ⟨r, 0, none⟩), .int .i64 a] w fun e w' => ∃ c : Int, e = .returned (.tuple #[.int .i64 c, .int .i64 0]) ∧ Upd [] w w' :=
  (strength_yes r q h np n a _ w H ha.1 ha.2 rfl).mono fun _ _ h => ⟨_, h⟩
set_option maxRecDepth 100000 in
set_option maxHeartbeats 1600000 in
/-- The first that is no reference is told; nothing has turned. -/
theorem clear_no (r q h np n : Nat) (A : Option Addr) (xs ys : List Int) (z : Int) (cap : Nat) (w : World) (H : RefO w r q h np l F rows n O) (hA : ReadsO w A (xs ++ z :: ys) O) (hx : ∀ a ∈ xs, a ∈ l ∧ (F a).k = 4) (hz : z ∉ l ∨ z ∈ l ∧ (F z).k ≠ 4) (hl : (xs ++ z :: ys).length ≤ 4294967296) :
    Calls Try.prog 45 #[.pointer (some ⟨r, 0, none⟩), .slice A (xs ++ z :: ys).length cap] w fun e w' => e = .returned (.int .i64 5) ∧ Upd [] w w' := by
  obtain ⟨L, hL⟩ : ∃ L, xs ++ z :: ys = L := ⟨_, rfl⟩
  obtain ⟨M, hM⟩ : ∃ M, L.length = M := ⟨_, rfl⟩
  obtain ⟨K, hK⟩ : ∃ K, xs.length = K := ⟨_, rfl⟩
  have hKM : K < M := by rw [← hM, ← hL, ← hK]; simp
  have HLO : Hid (∀ i, i < K → L.getD i 0 ∈ l ∧ (F (L.getD i 0)).k = 4) := Lib.hid fun i hi => by
    have : L.getD i 0 = xs.getD i 0 := by rw [← hL, List.getD_eq_getElem?_getD, List.getD_eq_getElem?_getD, List.getElem?_append_left (by omega)]
    rw [this]; exact hx _ (getD_mem (by omega))
  have HZ : Hid (L.getD K 0 = z) := Lib.hid (by rw [← hL, List.getD_eq_getElem?_getD, List.getElem?_append_right (by omega), hK]; simp)
  rw [hL] at hA hl ⊢
  rw [hM] at hl ⊢
  have HR := Lib.hid H
  have HA := Lib.hid hA
  have HM := Lib.hid hM
  have HZZ := Lib.hid hz
  clear H hA hx hz hL hM hK
  go_enter Try.func45, Try.ntmps45
  go_wp2_with fail
  go_loopg [15] M (fun gk i wr => ∃ k : Nat, gk = M - k ∧ k ≤ K ∧ i = .int .i64 k ∧ Hid (Upd [] w wr))
  case atStart => exact ⟨0, rfl, by omega, rfl, Lib.hid (Upd.refl _ _)⟩
  case round =>
    obtain ⟨k, rfl, hk, rfl, HU⟩ := hrel
    have hkM : k < M := by omega
    obtain ⟨b, off, rfl, hb, hc⟩ := (HA.out.upd0 HU.out).at HM.out hkM
    by_cases hlt : k < K
    · have HLK := Lib.hid (HLO.out k hlt)
      generalize L.getD k 0 = x at *
      go_wp2_with fail
      refine (ref_strength r q h np n x _ (HR.out.upd0 HU.out) HLK.out).mono ?_
      rintro e w2 ⟨c, rfl, hu⟩
      have HU2 := Lib.hid (HU.out.trans hu)
      clear hu
      go_wp2_with fail
      go_roundg (M - (k + 1))
      case measure => omega
      case rel => exact ⟨k + 1, rfl, by omega, by go_num, HU2⟩
    · obtain rfl : k = K := by omega
      rw [HZ.out] at hc
      go_wp2_with fail
      refine (strength_no r q h np n z _ (HR.out.upd0 HU.out) HZZ.out).mono ?_
      rintro e w2 ⟨rfl, hu⟩
      have HU2 := Lib.hid (HU.out.trans hu)
      clear hu
      go_wp2_with fail
      go_ret
      exact ⟨rfl, HU2.out⟩

set_option maxRecDepth 100000 in
set_option maxHeartbeats 1600000 in
theorem clear_yes (r q h np n : Nat) (A : Option Addr) (L : List Int) (M cap : Nat) (w : World) (H : RefO w r q h np l F rows n O) (hA : ReadsO w A L O) (hx : ∀ a ∈ L, a ∈ l ∧ (F a).k = 4) (hM : L.length = M) (hl : M ≤ 4294967296) :
    Calls Try.prog 45 #[.pointer (some ⟨r, 0, none⟩), .slice A M cap] w fun e w' => e = .returned (.int .i64 0) ∧ ∃ O', RefO w' r q h np l (clearF F L) rows n O' ∧ StepO O w O' w' := by
  have HLO : Hid (∀ i, i < M → L.getD i 0 ∈ l ∧ (F (L.getD i 0)).k = 4 ∧ 0 < (F (L.getD i 0)).ws.length) := Lib.hid fun i hi => by
    have h1 := hx _ (getD_mem (by omega : i < L.length))
    have := (H.ref5 h1.1 h1.2).1
    exact ⟨h1.1, h1.2, by omega⟩
  have HTK : Hid (∀ k, k < M → clearF F (L.take (k + 1)) = putF (clearF F (L.take k)) (L.getD k 0) 0 0) := Lib.hid fun k hk => by
    rw [← clearF_snoc, List.take_succ_eq_append_getElem (by omega : k < L.length), List.getD_eq_getElem?_getD, List.getElem?_eq_getElem (by omega : k < L.length)]; rfl
  have HR := Lib.hid H
  have HA := Lib.hid hA
  have HM := Lib.hid hM
  clear H hA hx hM
  go_enter Try.func45, Try.ntmps45
  go_wp2_with fail
  go_loopg [15] M (fun gk i wr => ∃ k : Nat, gk = M - k ∧ k ≤ M ∧ i = .int .i64 k ∧ Hid (Upd [] w wr))
  case atStart => exact ⟨0, rfl, by omega, rfl, Lib.hid (Upd.refl _ _)⟩
  case round =>
    obtain ⟨k, rfl, hk, rfl, HU⟩ := hrel
    by_cases hlt : k < M
    · obtain ⟨b, off, rfl, hb, hc⟩ := (HA.out.upd0 HU.out).at HM.out hlt
      have HLK := Lib.hid (HLO.out k hlt)
      generalize L.getD k 0 = x at *
      go_wp2_with fail
      refine (ref_strength r q h np n x _ (HR.out.upd0 HU.out) ⟨HLK.out.1, HLK.out.2.1⟩).mono ?_
      rintro e w2 ⟨c, rfl, hu⟩
      have HU2 := Lib.hid (HU.out.trans hu)
      clear hu
      go_wp2_with fail
      go_roundg (M - (k + 1))
      case measure => omega
      case rel => exact ⟨k + 1, rfl, by omega, by go_num, HU2⟩
    · obtain rfl : k = M := by omega
      obtain ⟨wo, rfl⟩ : ∃ wo : World, wo = wr := ⟨_, rfl⟩
      go_wp2_with fail
      go_loopg [31] k (fun gk i wr => ∃ (j : Nat) (O' : Nat → Prop), gk = k - j ∧ j ≤ k ∧ i = .int .i64 j ∧ Hid (RefO wr r q h np l (clearF F (L.take j)) rows n O') ∧ Hid (StepO O w O' wr))
      case atStart => exact ⟨0, O, rfl, by omega, rfl, Lib.hid (HR.out.upd0 HU.out), Lib.hid (.upd O HU.out)⟩
      case round =>
        obtain ⟨j, O', rfl, hj, rfl, HR2, HS⟩ := hrel
        by_cases hlt : j < k
        · obtain ⟨b, off, rfl, hb, hc⟩ := (HA.out.step HS.out).at HM.out hlt
          have HLK := Lib.hid (HLO.out j hlt)
          have HT := Lib.hid (HTK.out j hlt)
          obtain ⟨c0, c1, c2, c3⟩ := HR2.out.cells
          generalize L.getD j 0 = x at *
          go_wp2_with fail
          refine (ref_put r q h np n x 0 0 0 _ HR2.out HLK.out.1 rfl (by rw [clearF_len]; exact HLK.out.2.2) (by omega)).mono ?_
          rintro e w2 ⟨rfl, O2, hr, hs⟩
          rw [← HT.out] at hr
          have HR3 := Lib.hid hr
          have HS3 := Lib.hid (HS.out.trans hs)
          clear hr hs
          go_wp2_with fail
          go_roundg (k - (j + 1))
          case measure => omega
          case rel => exact ⟨j + 1, O2, rfl, by omega, by go_num, HR3, HS3⟩
        · obtain rfl : j = k := by omega
          go_wp2_with fail
          go_ret
          have := HR2.out
          rw [List.take_of_length_le (by rw [HM.out]; exact Nat.le_refl _)] at this
          exact ⟨rfl, O', this, HS.out⟩

end
end Go.Proofs.Ytendjhobemlhoaa
