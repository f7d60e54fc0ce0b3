/- What is found in a list of Bools: the first from one on, the first run from one on, how many. No program in sight. -/
import Derived.RowKit
namespace Go.Proofs.Ytendjhobemlhoaa

def IsNext (l : List Bool) (is : Bool) (s : Nat) (r : Int) : Prop := (r = -1 ∧ ∀ j, s ≤ j → j < l.length → l.getD j false ≠ is) ∨
  ∃ k : Nat, r = k ∧ s ≤ k ∧ k < l.length ∧ l.getD k false = is ∧ ∀ j, s ≤ j → j < k → l.getD j false ≠ is
def nextGo (l : List Bool) (is : Bool) : Nat → Nat → Int
  | 0, _ => -1
  | n + 1, i => if l.getD i false = is then i else nextGo l is n (i + 1)
def nextZ (l : List Bool) (is : Bool) (i : Int) : Int := nextGo l is (l.length - i.toNat) i.toNat
theorem isNext_go (l : List Bool) (is : Bool) (n s : Nat) (h : n = l.length - s) : IsNext l is s (nextGo l is n s) := by
  induction n generalizing s with
  | zero => exact .inl ⟨rfl, fun j h1 h2 => by omega⟩
  | succ n ih =>
    unfold nextGo
    by_cases hs : l.getD s false = is
    · rw [if_pos hs]
      exact .inr ⟨s, rfl, Nat.le_refl _, by omega, hs, fun j h1 h2 => by omega⟩
    · rw [if_neg hs]
      rcases ih (s + 1) (by omega) with ⟨h1, h2⟩ | ⟨k, h1, h2, h3, h4, h5⟩
      · refine .inl ⟨h1, fun j hj hl => ?_⟩
        rcases Nat.eq_or_lt_of_le hj with rfl | hlt
        · exact hs
        · exact h2 j hlt hl
      · refine .inr ⟨k, h1, by omega, h3, h4, fun j hj hl => ?_⟩
        rcases Nat.eq_or_lt_of_le hj with rfl | hlt
        · exact hs
        · exact h5 j hlt hl
theorem isNext_nextZ (l : List Bool) (is : Bool) (i : Int) : IsNext l is i.toNat (nextZ l is i) := isNext_go l is _ _ rfl
theorem isNext_unique {l : List Bool} {is : Bool} {s : Nat} {r r' : Int} (h : IsNext l is s r) (h' : IsNext l is s r') : r = r' := by
  rcases h with ⟨h1, h2⟩ | ⟨k, h1, h2, h3, h4, h5⟩ <;> rcases h' with ⟨h1', h2'⟩ | ⟨k', h1', h2', h3', h4', h5'⟩
  · rw [h1, h1']
  · exact absurd h4' (h2 k' h2' h3')
  · exact absurd h4 (h2' k h2 h3)
  · rcases Nat.lt_trichotomy k k' with hk | rfl | hk
    · exact absurd h4 (h5' k h2 hk)
    · rw [h1, h1']
    · exact absurd h4' (h5 k' h2' hk)
theorem nextZ_eq {l : List Bool} {is : Bool} {i r : Int} (h : IsNext l is i.toNat r) : nextZ l is i = r := isNext_unique (isNext_nextZ l is i) h
theorem nextZ_range (l : List Bool) (is : Bool) (i : Int) : -1 ≤ nextZ l is i ∧ nextZ l is i < l.length := by
  rcases isNext_nextZ l is i with ⟨h1, _⟩ | ⟨k, h1, _, h3, _⟩ <;> omega

def IsRun (l : List Bool) (s K : Nat) (r : Int) : Prop := (r = -1 ∧ ∀ a, s ≤ a → a + K ≤ l.length → ∃ j, a ≤ j ∧ j < a + K ∧ l.getD j false = true) ∨
  ∃ a : Nat, r = a ∧ s ≤ a ∧ a + K ≤ l.length ∧ (∀ j, a ≤ j → j < a + K → l.getD j false = false) ∧ ∀ b, s ≤ b → b < a → ∃ j, b ≤ j ∧ j < b + K ∧ l.getD j false = true
def freeB (l : List Bool) (a : Nat) : Nat → Bool
  | 0 => true
  | n + 1 => !l.getD (a + n) false && freeB l a n
theorem freeB_true {l : List Bool} {a n : Nat} : freeB l a n = true ↔ ∀ j, a ≤ j → j < a + n → l.getD j false = false := by
  induction n with
  | zero => exact ⟨fun _ j h1 h2 => by omega, fun _ => rfl⟩
  | succ n ih =>
    unfold freeB
    rw [Bool.and_eq_true, ih, Bool.not_eq_true']
    constructor
    · rintro ⟨h1, h2⟩ j h3 h4
      rcases Nat.eq_or_lt_of_le (show j ≤ a + n by omega) with rfl | hlt
      · exact h1
      · exact h2 j h3 hlt
    · exact fun h => ⟨h _ (by omega) (by omega), fun j h1 h2 => h j h1 (by omega)⟩
theorem freeB_false {l : List Bool} {a n : Nat} (h : freeB l a n = false) : ∃ j, a ≤ j ∧ j < a + n ∧ l.getD j false = true := by
  induction n with
  | zero => cases h
  | succ n ih =>
    unfold freeB at h
    cases hv : l.getD (a + n) false with
    | true => exact ⟨a + n, by omega, by omega, hv⟩
    | false =>
      rw [hv] at h
      obtain ⟨j, h1, h2, h3⟩ := ih (by simpa using h)
      exact ⟨j, h1, by omega, h3⟩
def runGo (l : List Bool) (K : Nat) : Nat → Nat → Int
  | 0, _ => -1
  | n + 1, a => if freeB l a K = true then a else runGo l K n (a + 1)
def runZ (l : List Bool) (i k : Int) : Int := if k < 1 then -1 else runGo l k.toNat (l.length + 1 - k.toNat - i.toNat) i.toNat
theorem isRun_go (l : List Bool) (K n s : Nat) (h : n = l.length + 1 - K - s) : IsRun l s K (runGo l K n s) := by
  induction n generalizing s with
  | zero => exact .inl ⟨rfl, fun j h1 h2 => by omega⟩
  | succ n ih =>
    unfold runGo
    by_cases hs : freeB l s K = true
    · rw [if_pos hs]
      exact .inr ⟨s, rfl, Nat.le_refl _, by omega, freeB_true.1 hs, fun j h1 h2 => by omega⟩
    · rw [if_neg hs]
      have hb := freeB_false (by simpa using hs)
      rcases ih (s + 1) (by omega) with ⟨h1, h2⟩ | ⟨k, h1, h2, h3, h4, h5⟩
      · refine .inl ⟨h1, fun j hj hl => ?_⟩
        rcases Nat.eq_or_lt_of_le hj with rfl | hlt
        · exact hb
        · exact h2 j hlt hl
      · refine .inr ⟨k, h1, by omega, h3, h4, fun j hj hl => ?_⟩
        rcases Nat.eq_or_lt_of_le hj with rfl | hlt
        · exact hb
        · exact h5 j hlt hl
theorem isRun_runZ (l : List Bool) (i k : Int) (hk : 1 ≤ k) : IsRun l i.toNat k.toNat (runZ l i k) := by
  unfold runZ
  rw [if_neg (by omega)]
  exact isRun_go l _ _ _ rfl
theorem isRun_unique {l : List Bool} {s K : Nat} {r r' : Int} (h : IsRun l s K r) (h' : IsRun l s K r') : r = r' := by
  have aux : ∀ {a : Nat}, (∀ j, a ≤ j → j < a + K → l.getD j false = false) → (∃ j, a ≤ j ∧ j < a + K ∧ l.getD j false = true) → False := by
    rintro a h ⟨j, h1, h2, h3⟩
    rw [h j h1 h2] at h3
    cases h3
  rcases h with ⟨h1, h2⟩ | ⟨k, h1, h2, h3, h4, h5⟩ <;> rcases h' with ⟨h1', h2'⟩ | ⟨k', h1', h2', h3', h4', h5'⟩
  · rw [h1, h1']
  · exact (aux h4' (h2 k' h2' h3')).elim
  · exact (aux h4 (h2' k h2 h3)).elim
  · rcases Nat.lt_trichotomy k k' with hk | rfl | hk
    · exact (aux h4 (h5' k h2 hk)).elim
    · rw [h1, h1']
    · exact (aux h4' (h5 k' h2' hk)).elim
theorem runZ_eq {l : List Bool} {i k r : Int} (hk : 1 ≤ k) (h : IsRun l i.toNat k.toNat r) : runZ l i k = r := isRun_unique (isRun_runZ l i k hk) h
theorem runZ_no {l : List Bool} {i k : Int} (h : k < 1) : runZ l i k = -1 := if_pos h

def countB (l : List Bool) : Nat := l.count true
theorem countB_le (l : List Bool) : countB l ≤ l.length := List.count_le_length
theorem countB_take (l : List Bool) (k : Nat) (hk : k < l.length) : countB (l.take (k + 1)) = countB (l.take k) + (if l.getD k false = true then 1 else 0) := by
  unfold countB
  rw [List.take_add_one, List.getElem?_eq_getElem hk, List.getD_eq_getElem?_getD, List.getElem?_eq_getElem hk]
  simp only [Option.toList_some, Option.getD_some, List.count_append]
  cases l[k] <;> simp
theorem countB_flat (l : List Bool) (s k : Nat) (hsk : s ≤ k) (hk : k ≤ l.length) (h : ∀ j, s ≤ j → j < k → l.getD j false ≠ true) : countB (l.take k) = countB (l.take s) := by
  induction k with
  | zero => rw [show s = 0 by omega]
  | succ k ih =>
    rcases Nat.eq_or_lt_of_le hsk with rfl | hlt
    · rfl
    · rw [countB_take l k (by omega), if_neg (h k (by omega) (by omega)), ih (by omega) (by omega) (fun j h1 h2 => h j h1 (by omega))]
      rfl
theorem countB_all (l : List Bool) : countB (l.take l.length) = countB l := by rw [List.take_length]
theorem countB_take_le (l : List Bool) (k : Nat) : countB (l.take k) ≤ l.length := Nat.le_trans (countB_le _) (by simp; omega)
end Go.Proofs.Ytendjhobemlhoaa
