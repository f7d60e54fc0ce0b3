/- Which heads may be: the document's answer, and the program's. -/
import Derived.Test.YtnhgmmjlhhgdoaaSize
import Derived.Test.YtnhgmmjlhhgdoaaErr
namespace Go.Proofs.Ytnhgmmjlhhgdoaa
open Go Go.RowKit

def mayB (k c l : Int) (f : Bool) : Bool :=
  if l < 0 ∨ 1023 < l then false else if k = 1 then decide (1 ≤ c ∧ c ≤ 256) else if k = 2 ∨ k = 3 then decide (c = 0) else if k = 4 then decide (1 ≤ c ∧ c ≤ 3 ∧ l = 5) && !f else false

theorem may_cases (k c l : Int) (f : Bool) : (l < 0 ∧ mayB k c l f = false) ∨ (0 ≤ l ∧ 1023 < l ∧ mayB k c l f = false) ∨ (0 ≤ l ∧ l ≤ 1023 ∧
    ((k = 1 ∧ ((c < 1 ∧ mayB k c l f = false) ∨ (1 ≤ c ∧ 256 < c ∧ mayB k c l f = false) ∨ (1 ≤ c ∧ c ≤ 256 ∧ mayB k c l f = true))) ∨
     (k = 2 ∧ ((c < 0 ∧ mayB k c l f = false) ∨ (0 ≤ c ∧ 0 < c ∧ mayB k c l f = false) ∨ (c = 0 ∧ mayB k c l f = true))) ∨
     (k = 3 ∧ ((c < 0 ∧ mayB k c l f = false) ∨ (0 ≤ c ∧ 0 < c ∧ mayB k c l f = false) ∨ (c = 0 ∧ mayB k c l f = true))) ∨
     (k = 4 ∧ ((c < 1 ∧ mayB k c l f = false) ∨ (1 ≤ c ∧ 3 < c ∧ mayB k c l f = false) ∨ (1 ≤ c ∧ c ≤ 3 ∧ l ≠ 5 ∧ mayB k c l f = false) ∨
        (1 ≤ c ∧ c ≤ 3 ∧ l = 5 ∧ f = true ∧ mayB k c l f = false) ∨ (1 ≤ c ∧ c ≤ 3 ∧ l = 5 ∧ f = false ∧ mayB k c l f = true))) ∨
     (k ≠ 1 ∧ k ≠ 2 ∧ k ≠ 3 ∧ k ≠ 4 ∧ mayB k c l f = false))) := by
  unfold mayB
  by_cases h1 : l < 0
  · exact .inl ⟨h1, if_pos (.inl h1)⟩
  by_cases h2 : 1023 < l
  · exact .inr (.inl ⟨by omega, h2, if_pos (.inr h2)⟩)
  refine .inr (.inr ⟨by omega, by omega, ?_⟩)
  rw [if_neg (by omega)]
  by_cases k1 : k = 1
  · refine .inl ⟨k1, ?_⟩
    rw [if_pos k1]
    simp only [decide_eq_false_iff_not, decide_eq_true_eq]
    omega
  by_cases k2 : k = 2
  · refine .inr (.inl ⟨k2, ?_⟩)
    rw [if_neg k1, if_pos (.inl k2)]
    simp only [decide_eq_false_iff_not, decide_eq_true_eq]
    omega
  by_cases k3 : k = 3
  · refine .inr (.inr (.inl ⟨k3, ?_⟩))
    rw [if_neg k1, if_pos (.inr k3)]
    simp only [decide_eq_false_iff_not, decide_eq_true_eq]
    omega
  by_cases k4 : k = 4
  · refine .inr (.inr (.inr (.inl ⟨k4, ?_⟩)))
    rw [if_neg k1, if_neg (by omega), if_pos k4]
    cases f <;> simp <;> omega
  · refine .inr (.inr (.inr (.inr ⟨k1, k2, k3, k4, ?_⟩)))
    rw [if_neg k1, if_neg (by omega), if_neg k4]

set_option maxRecDepth 100000 in
set_option maxHeartbeats 6400000 in
theorem mayhead_walk (k c l : Int) (f : Bool) (w : World) : Calls Try.prog 62 #[.agg #[.int .i64 k, .int .i64 c, .int .i64 l, .bool f]] w fun e w' => e = .returned (.bool (mayB k c l f)) ∧ Below w.heap.size w w' := by
  have hm := may_cases k c l f
  generalize mayB k c l f = r at *
  have key : ∀ w' : World, w' = w.alloc (.cells #[.int .i64 k, .int .i64 c, .int .i64 l, .bool f] 35) → Below w.heap.size w w' := fun w' h => by rw [h]; exact (Below.refl _ _).alloc (Nat.le_refl _) _
  have HK := Lib.hid key
  clear key
  rcases hm with ⟨h1, rfl⟩ | ⟨h1, h2, rfl⟩ | ⟨h1, h2, ⟨rfl, ⟨h3, rfl⟩ | ⟨h3, h4, rfl⟩ | ⟨h3, h4, rfl⟩⟩ | ⟨rfl, ⟨h3, rfl⟩ | ⟨h3, h4, rfl⟩ | ⟨rfl, rfl⟩⟩ | ⟨rfl, ⟨h3, rfl⟩ | ⟨h3, h4, rfl⟩ | ⟨rfl, rfl⟩⟩ |
      ⟨rfl, ⟨h3, rfl⟩ | ⟨h3, h4, rfl⟩ | ⟨h3, h4, h5, rfl⟩ | ⟨h3, h4, rfl, rfl, rfl⟩ | ⟨h3, h4, rfl, rfl, rfl⟩⟩ | ⟨h3, h4, h5, h6, rfl⟩⟩
  all_goals
    go_enter Try.func62, Try.ntmps62
    go_wp2_with fail
    go_ret
    first | exact ⟨rfl, HK.out _ rfl⟩ | (refine ⟨?_, HK.out _ rfl⟩; simp; done) | (refine ⟨?_, HK.out _ rfl⟩; simp; omega)
end Go.Proofs.Ytnhgmmjlhhgdoaa
