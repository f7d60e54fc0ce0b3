/- What Merge makes of numbers: rising, each once, those above 0; told by that alone. No program in sight. -/
import Derived.Lib.SlicesCompact
import Derived.Lib.RowBridge
namespace Go.Proofs.Ytnhgmmjlhhgdoaa

def sortL (zs : List Int) : List Int := zs.mergeSort fun x y => decide (x ≤ y)
/-- What Merge makes of numbers: sorted, each once, those above 0. -/
def mergeZ (zs : List Int) : List Int := (Lib.compact (sortL zs)).filter fun x => !decide (x < 1)

theorem rising_unique : ∀ (l l' : List Int), l.Pairwise (· < ·) → l'.Pairwise (· < ·) → (∀ x, x ∈ l ↔ x ∈ l') → l = l'
  | [], l', _, _, h => by
    cases l' with
    | nil => rfl
    | cons a l' => exact absurd ((h a).2 List.mem_cons_self) (by simp)
  | a :: l, [], _, _, h => absurd ((h a).1 List.mem_cons_self) (by simp)
  | a :: l, b :: l', h1, h2, h => by
    rw [List.pairwise_cons] at h1 h2
    have hab : a = b := by
      rcases List.mem_cons.1 ((h a).1 List.mem_cons_self) with e | e
      · exact e
      · rcases List.mem_cons.1 ((h b).2 List.mem_cons_self) with e2 | e2
        · exact e2.symm
        · have := h1.1 b e2
          have := h2.1 a e
          omega
    subst hab
    rw [rising_unique l l' h1.2 h2.2 (fun x => ?_)]
    constructor
    · intro hx
      rcases List.mem_cons.1 ((h x).1 (List.mem_cons_of_mem _ hx)) with e | e
      · have := h1.1 x hx; omega
      · exact e
    · intro hx
      rcases List.mem_cons.1 ((h x).2 (List.mem_cons_of_mem _ hx)) with e | e
      · have := h2.1 x hx; omega
      · exact e

theorem compact_spec (d : Array Int) (hs : ∀ i j, i ≤ j → j < d.size → d[i]! ≤ d[j]!) : ∀ m, m ≤ d.size → (Lib.compactUpTo d m).Pairwise (· < ·) ∧ ∀ x, x ∈ Lib.compactUpTo d m ↔ ∃ j, j < m ∧ d[j]! = x
  | 0, _ => ⟨by simp [Lib.compactUpTo], fun x => by simp [Lib.compactUpTo]⟩
  | m + 1, hm => by
    obtain ⟨h1, h2⟩ := compact_spec d hs m (by omega)
    rw [Lib.compactUpTo_succ]
    by_cases hk : m = 0
    · subst hk
      have : Lib.keeps d 0 = true := Lib.keeps_lt_one d 0 (by omega)
      rw [this]
      refine ⟨by simp [Lib.compactUpTo], fun x => ?_⟩
      simp only [Lib.compactUpTo, List.range_zero, List.filter_nil, List.map_nil, List.nil_append, if_true, List.mem_singleton]
      constructor
      · rintro rfl; exact ⟨0, by omega, rfl⟩
      · rintro ⟨j, hj, rfl⟩; obtain rfl : j = 0 := by omega
        rfl
    · by_cases he : d[m]! = d[m - 1]!
      · rw [Lib.keeps_neg (by omega) he]
        refine ⟨by simpa using h1, fun x => ?_⟩
        simp only [Bool.false_eq_true, if_false, List.append_nil]
        rw [h2]
        constructor
        · rintro ⟨j, hj, rfl⟩; exact ⟨j, by omega, rfl⟩
        · rintro ⟨j, hj, rfl⟩
          rcases Nat.eq_or_lt_of_le (show j ≤ m by omega) with rfl | hlt
          · exact ⟨j - 1, by omega, he.symm⟩
          · exact ⟨j, hlt, rfl⟩
      · rw [Lib.keeps_pos he]
        refine ⟨?_, fun x => ?_⟩
        · rw [if_pos rfl, List.pairwise_append]
          refine ⟨h1, by simp, fun a ha b hb => ?_⟩
          rw [List.mem_singleton] at hb
          subst hb
          obtain ⟨j, hj, rfl⟩ := (h2 a).1 ha
          have h3 := hs j (m - 1) (by omega) (by omega)
          have h4 := hs (m - 1) m (by omega) (by omega)
          omega
        · rw [if_pos rfl, List.mem_append, h2, List.mem_singleton]
          constructor
          · rintro (⟨j, hj, rfl⟩ | rfl)
            · exact ⟨j, by omega, rfl⟩
            · exact ⟨m, by omega, rfl⟩
          · rintro ⟨j, hj, rfl⟩
            rcases Nat.eq_or_lt_of_le (show j ≤ m by omega) with rfl | hlt
            · exact .inr rfl
            · exact .inl ⟨j, hlt, rfl⟩

theorem mergeZ_spec (zs : List Int) : (mergeZ zs).Pairwise (· < ·) ∧ ∀ x, x ∈ mergeZ zs ↔ x ∈ zs ∧ 1 ≤ x := by
  have hp : (sortL zs).Pairwise (fun a b => decide (a ≤ b) = true) := List.pairwise_mergeSort (fun a b c h1 h2 => by simp at *; omega) (fun a b => by simp; omega) zs
  have hs : ∀ i j, i ≤ j → j < (sortL zs).toArray.size → (sortL zs).toArray[i]! ≤ (sortL zs).toArray[j]! := by
    intro i j hij hj
    rw [List.size_toArray] at hj
    rw [getElem!_pos _ i (by simp; omega), getElem!_pos _ j (by simpa using hj)]
    simp only [List.getElem_toArray]
    rcases Nat.eq_or_lt_of_le hij with rfl | hlt
    · exact Int.le_refl _
    · have := List.pairwise_iff_getElem.1 hp i j (by omega) hj hlt
      simpa using this
  obtain ⟨h1, h2⟩ := compact_spec (sortL zs).toArray hs (sortL zs).length (by simp)
  refine ⟨List.Pairwise.filter _ h1, fun x => ?_⟩
  unfold mergeZ
  rw [List.mem_filter]
  show x ∈ Lib.compactUpTo (sortL zs).toArray (sortL zs).length ∧ _ ↔ _
  rw [h2]
  have hm : (∃ j, j < (sortL zs).length ∧ (sortL zs).toArray[j]! = x) ↔ x ∈ zs := by
    rw [← List.mem_mergeSort (le := fun x y => decide (x ≤ y)) (l := zs)]
    constructor
    · rintro ⟨j, hj, rfl⟩
      rw [getElem!_pos _ j (by rw [List.size_toArray]; exact hj)]
      simp only [List.getElem_toArray]
      exact List.getElem_mem hj
    · intro hx
      obtain ⟨j, hj, rfl⟩ := List.getElem_of_mem hx
      exact ⟨j, hj, by rw [getElem!_pos _ j (by rw [List.size_toArray]; exact hj)]; simp [sortL]⟩
  rw [hm]
  simp
theorem mergeZ_eq {zs l : List Int} (h : l.Pairwise (· < ·)) (hm : ∀ x, x ∈ l ↔ x ∈ zs ∧ 1 ≤ x) : mergeZ zs = l :=
  rising_unique _ _ (mergeZ_spec zs).1 h fun x => by rw [(mergeZ_spec zs).2, hm]
theorem mergeZ_length (zs : List Int) : (mergeZ zs).length ≤ zs.length := by
  unfold mergeZ
  refine Nat.le_trans (List.length_filter_le _ _) (Nat.le_trans (Lib.compact_length_le _) ?_)
  unfold sortL
  rw [List.length_mergeSort]
  exact Nat.le_refl _
theorem mergeZ_example : mergeZ [3, 0, 1, 3] = [1, 3] := mergeZ_eq (by decide) fun x => by simp; omega
theorem mergeZ_nil : mergeZ [] = [] := mergeZ_eq (by simp) fun x => by simp
end Go.Proofs.Ytnhgmmjlhhgdoaa
