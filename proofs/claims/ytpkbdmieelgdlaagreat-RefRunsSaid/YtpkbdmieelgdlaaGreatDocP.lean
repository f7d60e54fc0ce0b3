/- What the document says of the pages, behind each step. No program in sight. -/
import Derived.Test.YtpkbdmieelgdlaaGreatDoc
namespace Go.Proofs.YtpkbdmieelgdlaaGreat
open Go Go.RowKit

/-- k places from p on are x. -/
def spanZ (l : List Int) (x : Int) (p k : Nat) : List Int := (List.range l.length).map fun j => if p ≤ j ∧ j < p + k then x else l.getD j 0
section
variable {l : List Int} {x : Int} {p k : Nat}
theorem spanZ_len : (spanZ l x p k).length = l.length := by simp [spanZ]
theorem spanZ_get (j : Nat) (hj : j < l.length) : (spanZ l x p k).getD j 0 = if p ≤ j ∧ j < p + k then x else l.getD j 0 := by
  unfold spanZ
  rw [List.getD_eq_getElem?_getD, List.getElem?_map, List.getElem?_range hj]; rfl
theorem ext_ints {a b : List Int} (hl : a.length = b.length) (h : ∀ j, j < a.length → a.getD j 0 = b.getD j 0) : a = b := by
  apply List.ext_getElem hl
  intro j h1 h2
  have := h j h1
  rwa [List.getD_eq_getElem?_getD, List.getD_eq_getElem?_getD, List.getElem?_eq_getElem h1, List.getElem?_eq_getElem h2] at this
theorem set_getZ (a : List Int) (i j : Nat) (y : Int) (hj : j < a.length) : (a.set i y).getD j 0 = if i = j then y else a.getD j 0 := by
  rw [List.getD_eq_getElem?_getD, List.getD_eq_getElem?_getD, List.getElem?_set]
  by_cases h : i = j
  · subst h; rw [if_pos rfl, if_pos rfl, if_pos hj]; rfl
  · rw [if_neg h, if_neg h]
theorem spanZ_zero : spanZ l x p 0 = l := ext_ints spanZ_len fun j hj => by
  rw [spanZ_len] at hj
  rw [spanZ_get _ hj, if_neg (by omega)]
theorem spanZ_succ : (spanZ l x p k).set (p + k) x = spanZ l x p (k + 1) := ext_ints (by rw [List.length_set, spanZ_len, spanZ_len]) fun j hj => by
  rw [List.length_set, spanZ_len] at hj
  rw [set_getZ _ _ _ _ (by rw [spanZ_len]; exact hj), spanZ_get _ hj, spanZ_get _ hj]
  by_cases h1 : p + k = j
  · rw [if_pos h1, if_pos (by omega)]
  · rw [if_neg h1]
    by_cases h2 : p ≤ j ∧ j < p + k
    · rw [if_pos h2, if_pos (by omega)]
    · rw [if_neg h2, if_neg (by omega)]
theorem spanZ_fill {W : List Int} {a n : Nat} (h : a + n ≤ W.length) : spanZ W 0 a n = filledAt W a n := ext_ints (by rw [spanZ_len, filledAt_length _ _ _ h]) fun j hj => by
  rw [spanZ_len] at hj
  rw [spanZ_get _ hj, filledAt_get _ _ _ _ h]
end
section
variable {pg : List Pst} {p k : Nat} {x : Pst}
theorem kinds_set : (kindsL pg).set p (kindZ x) = kindsL (pg.set p x) := by unfold kindsL; rw [List.map_set]
theorem manys_set : (manysL pg).set p (manyZ x) = manysL (pg.set p x) := by unfold manysL; rw [List.map_set]
theorem manys_keep (hp : p < pg.length) (h : manyZ x = manyZ (atP pg p)) : manysL (pg.set p x) = manysL pg := by
  rw [← manys_set, h]
  refine ext_ints (by simp) fun j hj => ?_
  rw [List.length_set, manys_len] at hj
  rw [set_getZ _ _ _ _ (by rw [manys_len]; exact hj)]
  by_cases e : p = j
  · subst e; rw [if_pos rfl, manys_at hp]
  · rw [if_neg e]
theorem kinds_keep (hp : p < pg.length) (h : kindZ x = kindZ (atP pg p)) : kindsL (pg.set p x) = kindsL pg := by
  rw [← kinds_set, h]
  refine ext_ints (by simp) fun j hj => ?_
  rw [List.length_set, kinds_len] at hj
  rw [set_getZ _ _ _ _ (by rw [kinds_len]; exact hj)]
  by_cases e : p = j
  · subst e; rw [if_pos rfl, kinds_at hp]
  · rw [if_neg e]
theorem kinds_large (hpk : p + k ≤ pg.length) (hk : 1 ≤ k) : (spanZ (kindsL pg) 7 p k).set p 6 = kindsL (putLarge pg p k) := ext_ints (by rw [List.length_set, spanZ_len, kinds_len, kinds_len, putLarge_length]) fun j hj => by
  rw [List.length_set, spanZ_len, kinds_len] at hj
  rw [set_getZ _ _ _ _ (by rw [spanZ_len, kinds_len]; exact hj), spanZ_get _ (by rw [kinds_len]; exact hj), kinds_at hj, kinds_at (by rw [putLarge_length]; exact hj), atP_large hpk hk]
  by_cases h1 : p = j
  · rw [if_pos h1, if_pos h1.symm]; rfl
  · rw [if_neg h1, if_neg (Ne.symm h1)]
    by_cases h2 : p < j ∧ j < p + k
    · rw [if_pos (by omega), if_pos h2]; rfl
    · rw [if_neg (by omega), if_neg h2]
theorem manys_large (hpk : p + k ≤ pg.length) (hk : 1 ≤ k) (hf : ∀ j, p ≤ j → j < p + k → atP pg j = .free) : (manysL pg).set p (k : Int) = manysL (putLarge pg p k) := ext_ints (by rw [List.length_set, manys_len, manys_len, putLarge_length]) fun j hj => by
  rw [List.length_set, manys_len] at hj
  rw [set_getZ _ _ _ _ (by rw [manys_len]; exact hj), manys_at hj, manys_at (by rw [putLarge_length]; exact hj), atP_large hpk hk]
  by_cases h1 : p = j
  · rw [if_pos h1, if_pos h1.symm]; rfl
  · rw [if_neg h1, if_neg (Ne.symm h1)]
    by_cases h2 : p < j ∧ j < p + k
    · rw [if_pos h2, hf j (by omega) h2.2]; rfl
    · rw [if_neg h2]
theorem takens_ext {D D' : DLay} {pg pg' : List Pst} (hl : pg.length = pg'.length) (h : ∀ j, j < pg.length → takenV (D.tk j) (atP pg j) = takenV (D'.tk j) (atP pg' j)) : takensA D pg = takensA D' pg' := by
  unfold takensA
  rw [← hl]
  congr 1
  apply List.map_congr_left
  intro j hj
  exact h j (List.mem_range.1 hj)
theorem takens_large (D : DLay) (hpk : p + k ≤ pg.length) (hk : 1 ≤ k) (hf : ∀ j, p ≤ j → j < p + k → atP pg j = .free) : takensA D (putLarge pg p k) = takensA D pg := (takens_ext putLarge_length.symm fun j hj => by
  rw [atP_large hpk hk]
  by_cases h1 : j = p
  · rw [if_pos h1, h1, hf p (by omega) (by omega)]; rfl
  · rw [if_neg h1]
    by_cases h2 : p < j ∧ j < p + k
    · rw [if_pos h2, hf j (by omega) h2.2]; rfl
    · rw [if_neg h2]).symm
theorem takens_set (D : DLay) (D' : DLay) (v : Value) (hv : v = takenV (D'.tk p) x) (hD : ∀ j, j ≠ p → D'.tk j = D.tk j) (hp : p < pg.length) : (takensA D pg).setIfInBounds p v = takensA D' (pg.set p x) := by
  subst hv
  apply Array.ext
  · simp [takensA]
  · intro j h1 h2
    have hj : j < pg.length := by simpa [takensA] using h1
    rw [Array.getElem_setIfInBounds (by simpa [takensA] using hj)]
    have e1 : (takensA D pg)[j]? = some (takenV (D.tk j) (atP pg j)) := takens_at D hj
    have e2 : (takensA D' (pg.set p x))[j]? = some (takenV (D'.tk j) (atP (pg.set p x) j)) := takens_at D' (by simpa using hj)
    rw [Array.getElem?_eq_getElem (by simpa [takensA] using hj)] at e1
    rw [Array.getElem?_eq_getElem (by simpa [takensA] using hj)] at e2
    rw [Option.some.inj e1, Option.some.inj e2, atP_set _ hp]
    by_cases e : p = j
    · subst e; rw [if_pos rfl, if_pos rfl]
    · rw [if_neg e, if_neg (Ne.symm e), hD j (Ne.symm e)]
theorem kinds_clear (hpk : p + k ≤ pg.length) : spanZ (kindsL pg) 0 p k = kindsL (clearPg pg p k) := ext_ints (by rw [spanZ_len, kinds_len, kinds_len, clearPg_length]) fun j hj => by
  rw [spanZ_len, kinds_len] at hj
  rw [spanZ_get _ (by rw [kinds_len]; exact hj), kinds_at hj, kinds_at (by rw [clearPg_length]; exact hj), atP_clear hpk]
  by_cases h2 : p ≤ j ∧ j < p + k
  · rw [if_pos h2, if_pos h2]; rfl
  · rw [if_neg h2, if_neg h2]
theorem manys_clear (hpk : p + k ≤ pg.length) (hr : ∀ j, p < j → j < p + k → atP pg j = .rest p) : (manysL pg).set p 0 = manysL (clearPg pg p k) ∨ k = 0 := by
  by_cases h0 : k = 0
  · exact .inr h0
  · refine .inl (ext_ints (by rw [List.length_set, manys_len, manys_len, clearPg_length]) fun j hj => ?_)
    rw [List.length_set, manys_len] at hj
    rw [set_getZ _ _ _ _ (by rw [manys_len]; exact hj), manys_at hj, manys_at (by rw [clearPg_length]; exact hj), atP_clear hpk]
    by_cases h1 : p = j
    · rw [if_pos h1, if_pos (by omega)]; rfl
    · rw [if_neg h1]
      by_cases h2 : p ≤ j ∧ j < p + k
      · rw [if_pos h2, hr j (by omega) h2.2]; rfl
      · rw [if_neg h2]
theorem takens_clear (D : DLay) (hpk : p + k ≤ pg.length) (hf : atP pg p = .first k) (hr : ∀ j, p < j → j < p + k → atP pg j = .rest p) : takensA D (clearPg pg p k) = takensA D pg := (takens_ext clearPg_length.symm fun j hj => by
  rw [atP_clear hpk]
  by_cases h2 : p ≤ j ∧ j < p + k
  · rw [if_pos h2]
    by_cases h1 : j = p
    · rw [h1, hf]; rfl
    · rw [hr j (by omega) h2.2]; rfl
  · rw [if_neg h2]).symm
end
end Go.Proofs.YtpkbdmieelgdlaaGreat
