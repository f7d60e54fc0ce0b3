/- All blocks of a space in order, gathered page by page in any order. No program in sight. -/
import Derived.Test.YtendjhobemlhoaaSp
import Derived.Lib.SlKeysI
namespace Go.Proofs.Ytendjhobemlhoaa
open Go Go.RowKit

/-- Where the blocks of a page begin that stand ahead of place j. -/
def stU (p c : Nat) (l : List Bool) (j : Nat) : List Int := ((List.range j).filter (fun i => l.getD i false)).map fun i => ((p * 64 + i * wordsOf c : Nat) : Int)
theorem stU_all (p c : Nat) (l : List Bool) : stU p c l l.length = startsOf p (.small c l) := rfl
theorem stU_zero (p c : Nat) (l : List Bool) : stU p c l 0 = [] := rfl
theorem stU_succ (p c : Nat) (l : List Bool) (j : Nat) : stU p c l (j + 1) = stU p c l j ++ if l.getD j false = true then [((p * 64 + j * wordsOf c : Nat) : Int)] else [] := by
  unfold stU
  rw [List.range_succ, List.filter_append, List.map_append]
  by_cases h : l.getD j false = true
  · rw [if_pos h, show [j].filter (fun i => l.getD i false) = [j] from List.filter_cons_of_pos (p := fun i => l.getD i false) h]; rfl
  · rw [if_neg h, show [j].filter (fun i => l.getD i false) = [] from List.filter_cons_of_neg (p := fun i => l.getD i false) h]; rfl
theorem stU_flat (p c : Nat) (l : List Bool) (j n : Nat) (hjn : j ≤ n) (h : ∀ i, j ≤ i → i < n → l.getD i false ≠ true) : stU p c l n = stU p c l j := by
  induction n with
  | zero => obtain rfl : j = 0 := by omega
            rfl
  | succ n ih =>
    by_cases e : j = n + 1
    · rw [e]
    · rw [stU_succ, if_neg (h n (by omega) (by omega)), List.append_nil, ih (by omega) (fun i h1 h2 => h i h1 (by omega))]
theorem stU_next {p c : Nat} {l : List Bool} {j m : Nat} (h : nextZ l true j = m) : stU p c l (m + 1) = stU p c l j ++ [((p * 64 + m * wordsOf c : Nat) : Int)] ∧ j ≤ m ∧ m < l.length := by
  rcases isNext_nextZ l true j with ⟨h1, _⟩ | ⟨m', h1, h2, h3, h4, h5⟩
  · omega
  · obtain rfl : m = m' := by omega
    rw [Int.toNat_natCast] at h2 h5
    rw [stU_succ, if_pos h4, stU_flat p c l j m h2 (fun i h6 h7 => h5 i h6 h7)]
    exact ⟨rfl, h2, h3⟩
theorem stU_done {p c : Nat} {l : List Bool} {j : Nat} (h : nextZ l true j = -1) (hj : j ≤ l.length) : stU p c l j = startsOf p (.small c l) := by
  rcases isNext_nextZ l true j with ⟨_, h2⟩ | ⟨m', h1, _⟩
  · rw [Int.toNat_natCast] at h2
    rw [← stU_all, stU_flat p c l j l.length hj h2]
  · omega
theorem stU_length (p c : Nat) (l : List Bool) (j : Nat) : (stU p c l j).length ≤ j := by
  unfold stU
  rw [List.length_map]
  exact Nat.le_trans (List.length_filter_le _ _) (by simp)

/-- The blocks of the pages of which k holds. -/
def Done (pg : List Pst) (k : Nat → Bool) : List Int := ((List.range pg.length).filter k).flatMap fun p => startsOf p (atP pg p)
theorem done_none (pg : List Pst) {k : Nat → Bool} (h : ∀ p, k p = false) : Done pg k = [] := by
  unfold Done
  rw [List.filter_eq_nil_iff.2 (fun p _ => by rw [h]; simp)]
  rfl
theorem filter_add {l : List Nat} (hn : l.Nodup) {p : Nat} (hp : p ∈ l) {k k' : Nat → Bool} (hk : k p = false) (hk' : ∀ z, k' z = (k z || decide (z = p))) : (l.filter k').Perm (l.filter k ++ [p]) := by
  induction l with
  | nil => cases hp
  | cons x l ih =>
    obtain ⟨h1, h2⟩ := List.nodup_cons.1 hn
    by_cases e : x = p
    · subst e
      have hl : l.filter k' = l.filter k := List.filter_congr fun z hz => by
        rw [hk', decide_eq_false (by rintro rfl; exact h1 hz), Bool.or_false]
      rw [List.filter_cons_of_pos (by rw [hk']; simp), List.filter_cons_of_neg (by rw [hk]; simp), hl]
      exact (List.perm_append_comm (l₁ := [x]) (l₂ := l.filter k))
    · have hx : k' x = k x := by rw [hk', decide_eq_false e, Bool.or_false]
      have hpl : p ∈ l := by rcases List.mem_cons.1 hp with h | h; exact absurd h.symm e; exact h
      by_cases hkx : k x = true
      · rw [List.filter_cons_of_pos (by rw [hx]; exact hkx), List.filter_cons_of_pos hkx]
        exact (ih h2 hpl).cons x
      · rw [List.filter_cons_of_neg (by rw [hx]; exact hkx), List.filter_cons_of_neg hkx]
        exact ih h2 hpl
theorem done_step {pg : List Pst} {k k' : Nat → Bool} {p : Nat} (hp : p < pg.length) (hk : k p = false) (hk' : ∀ z, k' z = (k z || decide (z = p))) : (Done pg k').Perm (Done pg k ++ startsOf p (atP pg p)) := by
  unfold Done
  have := (filter_add List.nodup_range (List.mem_range.2 hp) hk hk').flatMap_right fun p => startsOf p (atP pg p)
  rw [List.flatMap_append] at this
  simpa using this
theorem done_all {S : Sp} {k : Nat → Bool} (h : ∀ p, k p = false → startsOf p (atP S.pg p) = []) : Done S.pg k = S.each := by
  unfold Done Sp.each
  generalize List.range S.pg.length = l
  induction l with
  | nil => rfl
  | cons p l ih =>
    by_cases hk : k p = true
    · rw [List.filter_cons_of_pos hk, List.flatMap_cons, List.flatMap_cons, ih]
    · rw [List.filter_cons_of_neg hk, List.flatMap_cons, h p (by simpa using hk), ih, List.nil_append]
theorem done_le (S : Sp) (k : Nat → Bool) : (Done S.pg k).length ≤ S.each.length := by
  unfold Done Sp.each
  generalize List.range S.pg.length = l
  induction l with
  | nil => exact Nat.le_refl _
  | cons p l ih =>
    by_cases hk : k p = true
    · rw [List.filter_cons_of_pos hk, List.flatMap_cons, List.flatMap_cons, List.length_append, List.length_append]; omega
    · rw [List.filter_cons_of_neg hk, List.flatMap_cons, List.length_append]; omega
theorem done_congr {pg : List Pst} {k k' : Nat → Bool} (h : ∀ p, k p = k' p) : Done pg k = Done pg k' := by
  rw [show k = k' from funext h]

theorem starts_range {S : Sp} (h : S.WF) {p : Nat} {x : Int} (hx : x ∈ startsOf p (atP S.pg p)) : (p : Int) * 64 ≤ x ∧ x < (p : Int) * 64 + 64 ∧ x % 64 = x - p * 64 := by
  cases ha : atP S.pg p <;> rw [ha] at hx
  case small c l =>
    obtain ⟨hc, hl⟩ := h.small p c l ha
    simp only [startsOf, List.mem_map, List.mem_filter, List.mem_range] at hx
    obtain ⟨i, ⟨hi, _⟩, rfl⟩ := hx
    have := block_fits hc (i := i) (by omega)
    have := words_pos hc
    omega
  case first k =>
    simp only [startsOf, List.mem_singleton] at hx
    omega
  all_goals (simp [startsOf] at hx)
theorem each_sorted {S : Sp} (h : S.WF) : S.each.Pairwise (· < ·) := by
  unfold Sp.each
  rw [List.pairwise_flatMap]
  refine ⟨fun p _ => ?_, List.pairwise_lt_range.imp fun {p q} hpq x hx y hy => ?_⟩
  · cases ha : atP S.pg p
    case small c l =>
      obtain ⟨hc, hl⟩ := h.small p c l ha
      unfold startsOf
      refine List.pairwise_map.2 ((List.pairwise_lt_range.filter _).imp fun {i j} hij => ?_)
      have h1 : (i + 1) * wordsOf c ≤ j * wordsOf c := Nat.mul_le_mul_right _ hij
      have h2 := words_pos hc
      rw [Nat.add_mul] at h1
      omega
    all_goals simp [startsOf]
  · have h1 := starts_range h hx
    have h2 := starts_range h hy
    omega
theorem each_mem {S : Sp} {x : Int} : x ∈ S.each ↔ ∃ p, p < S.pg.length ∧ x ∈ startsOf p (atP S.pg p) := by
  unfold Sp.each
  simp [List.mem_flatMap]
theorem each_length {S : Sp} (h : S.WF) : S.each.length ≤ 16384 := by
  have h1 : ∀ x ∈ S.each, 0 ≤ x ∧ x < 16384 := fun x hx => by
    obtain ⟨p, hp, hx⟩ := each_mem.1 hx
    have := starts_range h hx
    have := h.n2
    omega
  have hnd : (S.each.map Int.toNat).Nodup := by
    refine List.pairwise_map.2 ((each_sorted h).imp_of_mem fun {x y} hx hy hxy e => ?_)
    have := h1 x hx
    have := h1 y hy
    omega
  have h2 : ∀ (m : Nat) (l : List Nat), l.Nodup → (∀ x ∈ l, x < m) → l.length ≤ m := by
    intro m
    induction m with
    | zero => intro l _ h; cases l with
      | nil => simp
      | cons x l => exact absurd (h x (by simp)) (by omega)
    | succ m ih =>
      intro l hn h
      have h1 := ih (l.filter (· ≠ m)) (hn.filter _) (fun x hx => by
        have := List.mem_filter.1 hx
        have h2 := h x this.1
        have h3 : x ≠ m := by simpa using this.2
        omega)
      have h2 : l.length ≤ (l.filter (· ≠ m)).length + 1 := by
        clear h h1
        induction l with
        | nil => simp
        | cons y l ih2 =>
          by_cases hy : y = m
          · subst hy
            have hnot : y ∉ l := (List.nodup_cons.1 hn).1
            have : l.filter (· ≠ y) = l := List.filter_eq_self.2 (fun x hx => by simp; rintro rfl; exact hnot hx)
            rw [List.filter_cons_of_neg (by simp), this]
            simp
          · have h3 := ih2 (List.nodup_cons.1 hn).2
            have hf : (y :: l).filter (· ≠ m) = y :: l.filter (· ≠ m) := List.filter_cons_of_pos (by simp [hy])
            rw [hf]
            simp only [List.length_cons]
            omega
      omega
  have := h2 16384 _ hnd (fun x hx => by
    obtain ⟨y, hy, rfl⟩ := List.mem_map.1 hx
    have := h1 y hy
    omega)
  simpa using this
/-- Sorted, whatever was gathered in whatever order is all blocks in order. -/
theorem sort_each {S : Sp} (h : S.WF) {out : List Int} (hp : out.Perm S.each) : (out.mergeSort fun x y => decide (x ≤ y)) = S.each := by
  have e := mergeSort_of_perm_i hp
  have e2 : S.each.mergeSort leI = S.each := List.mergeSort_of_pairwise ((each_sorted h).imp fun hxy => by simp only [leI, decide_eq_true_eq]; omega)
  exact e.trans e2
end Go.Proofs.Ytendjhobemlhoaa
