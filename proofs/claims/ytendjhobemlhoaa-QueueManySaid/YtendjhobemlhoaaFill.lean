/- Lists of Bools: the first so many are so. No program in sight. -/
import Derived.Test.YtendjhobemlhoaaBits3
namespace Go.Proofs.Ytendjhobemlhoaa

theorem ext_getD {l l' : List Bool} (h : l.length = l'.length) (hg : ∀ j, j < l.length → l.getD j false = l'.getD j false) : l = l' := by
  apply List.ext_getElem h
  intro j h1 h2
  have := hg j h1
  rwa [List.getD_eq_getElem?_getD, List.getD_eq_getElem?_getD, List.getElem?_eq_getElem h1, List.getElem?_eq_getElem h2] at this
theorem getD_set (l : List Bool) (i j : Nat) (b : Bool) : (l.set i b).getD j false = if i = j ∧ j < l.length then b else l.getD j false := by
  rw [List.getD_eq_getElem?_getD, List.getElem?_set, List.getD_eq_getElem?_getD]
  by_cases h : i = j
  · subst h
    by_cases h2 : i < l.length
    · rw [if_pos rfl, if_pos h2, if_pos ⟨rfl, h2⟩]; rfl
    · rw [if_pos rfl, if_neg h2, if_neg (fun h => h2 h.2), List.getElem?_eq_none (by omega)]
  · rw [if_neg h, if_neg (fun h2 => h h2.1)]
theorem getD_out {l : List Bool} {j : Nat} (h : l.length ≤ j) : l.getD j false = false := by rw [List.getD_eq_getElem?_getD, List.getElem?_eq_none h]; rfl

def fillB (n i : Nat) : List Bool := List.replicate i true ++ List.replicate (n - i) false
section
variable {n i : Nat}
theorem fillB_length (h : i ≤ n) : (fillB n i).length = n := by simp [fillB]; omega
theorem fillB_get (n i j : Nat) : (fillB n i).getD j false = decide (j < i) := by
  unfold fillB
  rw [List.getD_eq_getElem?_getD, List.getElem?_append, List.length_replicate]
  by_cases h : j < i
  · rw [if_pos h, List.getElem?_replicate, if_pos h]; simp [h]
  · rw [if_neg h, List.getElem?_replicate]
    split <;> simp [h]
theorem fillB_zero (n : Nat) : fillB n 0 = List.replicate n false := by simp [fillB]
theorem fillB_set (h : i < n) : (fillB n i).set i true = fillB n (i + 1) := by
  apply ext_getD
  · rw [List.length_set, fillB_length (by omega), fillB_length (by omega)]
  · intro j hj
    rw [getD_set, fillB_get, fillB_get, fillB_length (by omega)]
    rw [List.length_set, fillB_length (by omega)] at hj
    by_cases h1 : i = j
    · rw [if_pos ⟨h1, hj⟩]; simp; omega
    · rw [if_neg (fun h2 => h1 h2.1)]
      have : (j < i) ↔ (j < i + 1) := by omega
      simp [this]
theorem fillB_next (h : i < n) : nextZ (fillB n i) false 0 = i :=
  nextZ_eq (.inr ⟨i, rfl, by omega, by rw [fillB_length (by omega)]; exact h, by rw [fillB_get]; simp, fun j h1 h2 => by rw [fillB_get]; simp; omega⟩)
theorem fillB_none (n : Nat) : nextZ (fillB n n) false 0 = -1 :=
  nextZ_eq (.inl ⟨rfl, fun j h1 h2 => by rw [fillB_length (Nat.le_refl _)] at h2; rw [fillB_get]; simp; omega⟩)
theorem fillB_count (n i : Nat) : countB (fillB n i) = i := by
  unfold countB fillB
  rw [List.count_append, List.count_replicate, List.count_replicate]
  simp
theorem hasB_fill {x : Nat} (h : x < i) : hasB (fillB n i) x = true := by rw [hasB_nat, fillB_get]; simp [h]
end
/-- The first of two that are not so. -/
theorem two_next {n x y : Nat} (hx : x < n) (hy : y < n) : nextZ (((fillB n n).set x false).set y false) false 0 = (min x y : Nat) := by
  have hlen : (((fillB n n).set x false).set y false).length = n := by rw [List.length_set, List.length_set, fillB_length (Nat.le_refl _)]
  have hget : ∀ j, j < n → (((fillB n n).set x false).set y false).getD j false = !(decide (j = x) || decide (j = y)) := by
    intro j hj
    rw [getD_set, getD_set, fillB_get, List.length_set, fillB_length (Nat.le_refl _)]
    by_cases h1 : y = j
    · rw [if_pos ⟨h1, hj⟩]; simp [h1]
    · have h1' : ¬ j = y := fun h => h1 h.symm
      rw [if_neg (fun h => h1 h.1)]
      by_cases h2 : x = j
      · rw [if_pos ⟨h2, hj⟩]; simp [h2]
      · have h2' : ¬ j = x := fun h => h2 h.symm
        rw [if_neg (fun h => h2 h.1)]; simp [h1', h2', hj]
  refine nextZ_eq (.inr ⟨min x y, rfl, by omega, by rw [hlen]; omega, ?_, fun j h1 h2 => ?_⟩)
  · rw [hget _ (by omega)]
    rcases Nat.le_total x y with h | h
    · rw [Nat.min_eq_left h]; simp
    · rw [Nat.min_eq_right h]; simp
  · rw [hget _ (by omega)]
    have h3 : ¬ j = x := by omega
    have h4 : ¬ j = y := by omega
    simp [h3, h4]
theorem same_set {n x : Nat} : ((fillB n n).set x false).set x false = (fillB n n).set x false := by rw [List.set_set]
end Go.Proofs.Ytendjhobemlhoaa
