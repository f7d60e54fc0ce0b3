/- Places side by side: set, all so, how many. No program in sight. -/
import Derived.Test.YtendjhobemlhoaaFill
namespace Go.Proofs.Ytendjhobemlhoaa

/-- So many places from one on. -/
def rowZ (a k : Nat) : List Int := (List.range k).map fun i => ((a + i : Nat) : Int)
section
variable {a k : Nat} {l : List Bool} {is : Bool}
theorem rowZ_length (a k : Nat) : (rowZ a k).length = k := by simp [rowZ]
theorem rowZ_succ (a k : Nat) : rowZ a (k + 1) = rowZ a k ++ [((a + k : Nat) : Int)] := by simp [rowZ, List.range_succ]
theorem mem_rowZ {x : Int} (h : x ∈ rowZ a k) : 0 ≤ x ∧ (a : Int) ≤ x ∧ x < (a + k : Nat) := by
  unfold rowZ at h
  obtain ⟨i, hi, rfl⟩ := List.mem_map.1 h
  rw [List.mem_range] at hi
  omega
/-- So many places from one on be so, or not. -/
def span (l : List Bool) (is : Bool) (a k : Nat) : List Bool := setAll l is (rowZ a k)
theorem span_zero (l : List Bool) (is : Bool) (a : Nat) : span l is a 0 = l := rfl
theorem span_succ (l : List Bool) (is : Bool) (a k : Nat) : span l is a (k + 1) = (span l is a k).set (a + k) is := by
  unfold span
  rw [rowZ_succ]
  unfold setAll
  rw [List.foldl_append, List.foldl_cons, List.foldl_nil, Int.toNat_natCast]
theorem span_length (l : List Bool) (is : Bool) (a k : Nat) : (span l is a k).length = l.length := setAll_length _ _ _
theorem span_get (l : List Bool) (is : Bool) (a k j : Nat) (hj : j < l.length) : (span l is a k).getD j false = if a ≤ j ∧ j < a + k then is else l.getD j false := by
  induction k with
  | zero => rw [span_zero, if_neg (by omega)]
  | succ k ih =>
    rw [span_succ, getD_set, span_length, ih]
    by_cases h : a + k = j
    · rw [if_pos ⟨h, hj⟩, if_pos (by omega)]
    · rw [if_neg (fun h2 => h h2.1)]
      have : (a ≤ j ∧ j < a + k) ↔ (a ≤ j ∧ j < a + (k + 1)) := by omega
      simp only [this]
theorem span_one (l : List Bool) (is : Bool) (a : Nat) : span l is a 1 = l.set a is := by rw [span_succ, span_zero, Nat.add_zero]
/-- Are so many places from one on so? -/
def fullB (l : List Bool) (a : Nat) : Nat → Bool
  | 0 => true
  | n + 1 => l.getD (a + n) false && fullB l a n
theorem fullB_true {l : List Bool} {a n : Nat} : fullB l a n = true ↔ ∀ j, a ≤ j → j < a + n → l.getD j false = true := by
  induction n with
  | zero => simp [fullB]; intro j h1 h2; omega
  | succ n ih =>
    unfold fullB
    rw [Bool.and_eq_true, ih]
    constructor
    · rintro ⟨h1, h2⟩ j hj hl
      rcases Nat.eq_or_lt_of_le (show j ≤ a + n by omega) with rfl | hlt
      · exact h1
      · exact h2 j hj hlt
    · intro h
      exact ⟨h _ (by omega) (by omega), fun j hj hl => h j hj (by omega)⟩
theorem fullB_false {l : List Bool} {a n : Nat} (h : fullB l a n = false) : ∃ j, a ≤ j ∧ j < a + n ∧ l.getD j false = false := by
  induction n with
  | zero => simp [fullB] at h
  | succ n ih =>
    unfold fullB at h
    rw [Bool.and_eq_false_iff] at h
    rcases h with h | h
    · exact ⟨a + n, by omega, by omega, h⟩
    · obtain ⟨j, h1, h2, h3⟩ := ih h
      exact ⟨j, h1, by omega, h3⟩
/-- The first that is not so lies behind them just if all are so. -/
theorem full_next (h : a + k ≤ l.length) : fullB l a k = true ↔ (nextZ l false a < 0 ∨ ((a + k : Nat) : Int) ≤ nextZ l false a) := by
  have hn := isNext_nextZ l false (a : Int)
  rw [Int.toNat_natCast] at hn
  rw [fullB_true]
  rcases hn with ⟨h1, h2⟩ | ⟨r, h1, h2, h3, h4, h5⟩
  · rw [h1]
    constructor
    · intro _; left; omega
    · intro _ j hj hl
      have := h2 j hj (by omega)
      simpa using this
  · rw [h1]
    constructor
    · intro hf
      right
      rcases Nat.lt_or_ge r (a + k) with hlt | hge
      · have := hf r h2 hlt; rw [h4] at this; cases this
      · omega
    · intro hr j hj hl
      have := h5 j hj (by omega)
      simpa using this
theorem count_set (l : List Bool) (j : Nat) (is : Bool) (hj : j < l.length) : countB (l.set j is) + (if l.getD j false = true then 1 else 0) = countB l + (if is = true then 1 else 0) := by
  have h2 : l.getD j false = l[j] := by rw [List.getD_eq_getElem?_getD, List.getElem?_eq_getElem hj]; rfl
  rw [h2]
  unfold countB
  rw [List.count_set hj]
  have : l[j] = true → 0 < List.count true l := fun h => List.count_pos_iff.2 (h ▸ List.getElem_mem hj)
  cases hv : l[j] with
  | true => have := this hv; cases is <;> simp <;> omega
  | false => cases is <;> simp
theorem count_take {l : List Bool} {a k : Nat} (h : a + k ≤ l.length) (hf : freeB l a k = true) : countB (span l true a k) = countB l + k := by
  rw [freeB_true] at hf
  have key : ∀ i, i ≤ k → countB (span l true a i) = countB l + i := by
    intro i
    induction i with
    | zero => intro _; rfl
    | succ i ih =>
      intro hi
      have h1 := ih (by omega)
      have h2 := count_set (span l true a i) (a + i) true (by rw [span_length]; omega)
      have hg : (span l true a i).getD (a + i) false = false := by
        rw [span_get _ _ _ _ _ (by omega), if_neg (by omega)]
        exact hf (a + i) (by omega) (by omega)
      rw [hg] at h2
      rw [span_succ]
      simp at h2
      omega
  exact key k (Nat.le_refl _)
theorem count_give' {l : List Bool} {a k : Nat} (h : a + k ≤ l.length) (hf : fullB l a k = true) : countB (span l false a k) + k = countB l := by
  rw [fullB_true] at hf
  have key : ∀ i, i ≤ k → countB (span l false a i) + i = countB l := by
    intro i
    induction i with
    | zero => intro _; rfl
    | succ i ih =>
      intro hi
      have h1 := ih (by omega)
      have h2 := count_set (span l false a i) (a + i) false (by rw [span_length]; omega)
      have hg : (span l false a i).getD (a + i) false = true := by
        rw [span_get _ _ _ _ _ (by omega), if_neg (by omega)]
        exact hf (a + i) (by omega) (by omega)
      rw [hg] at h2
      rw [span_succ]
      simp at h2
      omega
  exact key k (Nat.le_refl _)
/-- A run that is found: it is free. -/
theorem run_free {l : List Bool} {i : Int} {k : Nat} {x : Nat} (hk : 1 ≤ k) (h : runZ l i k = x) : x + k ≤ l.length ∧ freeB l x k = true ∧ i.toNat ≤ x := by
  have h1 := isRun_runZ l i k (by omega)
  rw [h] at h1
  rcases h1 with ⟨h1, _⟩ | ⟨b, h1, h2, h3, h4, _⟩
  · omega
  · obtain rfl : x = b := by omega
    simp only [Int.toNat_natCast] at h3 h4
    exact ⟨h3, freeB_true.2 h4, h2⟩
end
end Go.Proofs.Ytendjhobemlhoaa
