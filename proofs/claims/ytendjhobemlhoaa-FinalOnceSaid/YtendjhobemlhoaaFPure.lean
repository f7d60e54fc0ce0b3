/- What becomes of those that wait, of those that are pending: plain lists. No program in sight. -/
import Derived.Test.YtendjhobemlhoaaFLaw
import Derived.Test.YtendjhobemlhoaaSame
namespace Go.Proofs.Ytendjhobemlhoaa
open Go Go.RowKit

theorem ReadsO.take {w : World} {A : Option Addr} {xs : List Int} {O : Nat → Prop} (h : ReadsO w A xs O) (k : Nat) : ReadsO w A (xs.take k) O := by
  rcases h with rfl | ⟨b, off, h1, h2, h3, h4⟩
  · exact .inl (by simp)
  · refine .inr ⟨b, off, h1, h2, h3, fun i hi => ?_⟩
    rw [List.length_take] at hi
    rw [h4 i (by omega), List.getD_eq_getElem?_getD, List.getD_eq_getElem?_getD, List.getElem?_take_of_lt (by omega)]
theorem IsInts.take {w : World} {A : Option Addr} {xs : List Int} (h : IsInts w A xs) (k : Nat) : IsInts w A (xs.take k) := by
  rcases h with rfl | ⟨b, off, h1, h2, h4⟩
  · exact .inl (by simp)
  · refine .inr ⟨b, off, h1, h2, fun i hi => ?_⟩
    rw [List.length_take] at hi
    rw [h4 i (by omega), List.getD_eq_getElem?_getD, List.getD_eq_getElem?_getD, List.getElem?_take_of_lt (by omega)]
theorem OwnA.ints {w : World} {B : Nat} {b off n cap : Nat} {l : List Int} {O : Nat → Prop} (h : OwnA w B (.slice (some ⟨b, off, none⟩) n cap) l O) : IsInts w (some ⟨b, off, none⟩) l := by
  obtain ⟨A', cap', hv', hI, _⟩ := h.own.form
  simp only [Value.slice.injEq] at hv'
  rw [hv'.1]; exact hI
theorem OwnA.readsO {w : World} {B : Nat} {b off n cap : Nat} {l : List Int} {O : Nat → Prop} (h : OwnA w B (.slice (some ⟨b, off, none⟩) n cap) l O) : ReadsO w (some ⟨b, off, none⟩) l O := by
  obtain ⟨A', cap', hv', hI⟩ := h.reads
  simp only [Value.slice.injEq] at hv'
  rw [hv'.1]; exact hI
theorem OwnA.updE {w w' : World} {B : Nat} {v : Value} {xs : List Int} {O : Nat → Prop} {E : List Nat} (h : OwnA w B v xs O) (hu : Upd E w w') (hE : ∀ i ∈ E, v.ownBlock ≠ some i) : OwnA w' B v xs O :=
  ⟨h.own.moved fun g hg => hu.block g (World.ownsRow.lt h.own g hg).2 fun hm => hE g hm hg, h.far⟩
theorem take_push {l : List Int} {j : Nat} (hj : j < l.length) : l.take j ++ [l.getD j 0] = l.take (j + 1) := by
  rw [List.take_succ_eq_append_getElem hj, List.getD_eq_getElem?_getD, List.getElem?_eq_getElem hj]; rfl
theorem pendZ_none (ps xs : List Int) : pendZ ([], ps) xs = ([], ps) := by
  induction xs with
  | nil => rfl
  | cons x t ih => exact ih
/-- All that wait, in order. -/
theorem pendZ_all (xs ps : List Int) (h : xs.Nodup) : pendZ (xs, ps) xs = ([], ps ++ xs) := by
  induction xs generalizing ps with
  | nil => simp [pendZ]
  | cons x t ih =>
    have e : pend1 (x :: t, ps) x = (t, ps ++ [x]) := by
      unfold pend1
      rw [if_pos (by simp)]
      simp
    show pendZ (pend1 (x :: t, ps) x) t = _
    rw [e, ih _ (List.nodup_cons.1 h).2]
    simp
/-- Without the J-th of the first so many. -/
theorem wants_skip {l : List Int} {i J : Nat} (hi : i < l.length) (e : i ≠ J) : (l.take i).eraseIdx J ++ [l.getD i 0] = (l.take (i + 1)).eraseIdx J := by
  have hl : (l.take i).length = i := by rw [List.length_take]; omega
  rw [← take_push hi]
  by_cases h : J < i
  · rw [List.eraseIdx_append_of_lt_length (by omega)]
  · rw [List.eraseIdx_of_length_le (by omega), List.eraseIdx_of_length_le (by rw [List.length_append, hl]; simp; omega)]
theorem wants_at {l : List Int} {J : Nat} (hi : J < l.length) : (l.take J).eraseIdx J = (l.take (J + 1)).eraseIdx J := by
  have hl : (l.take J).length = J := by rw [List.length_take]; omega
  rw [← take_push hi, List.eraseIdx_of_length_le (by omega), List.eraseIdx_append_of_length_le (by omega), hl, Nat.sub_self]
  simp
/-- Objects that have no finalizer yet. -/
structure Waits (l : List Int) (F : Int → Ob) (n i : Nat) : Prop where
  len : l.length = n + 1
  data : ∀ j, i ≤ j → j < n → F (l.getD j 0) = ⟨3, 0, false, [0]⟩
  done : ∀ j, j < i → j < n → (F (l.getD j 0)).k ≠ 4 ∧ (F (l.getD j 0)).f = true
  ref : (F (l.getD n 0)).k = 4
  one : ∀ j, j < n → (F (l.getD j 0)).ws.length = 1
theorem Objs15.waits {l : List Int} {F : Int → Ob} {n : Nat} (h : Objs15 l F n) : Waits l F n 0 := ⟨h.len, fun j _ hj => h.data j hj, fun j hj => by omega, h.ref, fun j hj => by rw [h.data j hj]; rfl⟩
theorem Waits.put {l : List Int} {F : Int → Ob} {n i : Nat} (h : Waits l F n i) (hn : l.Nodup) (hi : i < n) : Waits l (fset F (l.getD i 0) { F (l.getD i 0) with f := true }) n (i + 1) := by
  have hl := h.len
  have hne : ∀ j, j ≤ n → j ≠ i → l.getD j 0 ≠ l.getD i 0 := fun j hj e e2 => e (nodup_inj hn (by omega) (by omega) e2)
  refine ⟨hl, fun j hj hjn => ?_, fun j hj hjn => ?_, ?_, fun j hj => ?_⟩
  · rw [fset_ne _ (hne j (by omega) (by omega))]
    exact h.data j (by omega) hjn
  · by_cases e : j = i
    · subst e
      rw [fset_same]
      exact ⟨by show (F (l.getD j 0)).k ≠ 4; rw [h.data j (Nat.le_refl _) hjn]; simp, rfl⟩
    · rw [fset_ne _ (hne j (by omega) e)]
      exact h.done j (by omega) hjn
  · rw [fset_ne _ (hne n (Nat.le_refl _) (by omega))]
    exact h.ref
  · by_cases e : j = i
    · subst e
      rw [fset_same]
      exact h.one j hj
    · rw [fset_ne _ (hne j (by omega) e)]
      exact h.one j hj
end Go.Proofs.Ytendjhobemlhoaa
