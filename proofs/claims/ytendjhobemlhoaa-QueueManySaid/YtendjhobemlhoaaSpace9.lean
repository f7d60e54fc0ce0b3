/- The contract of Used; a law's own example. -/
import Derived.Test.YtendjhobemlhoaaSpace8
namespace Go.Proofs.Ytendjhobemlhoaa
open Go Go.RowKit

theorem sum_snoc (l : List Int) (x : Int) : (l ++ [x]).sum = l.sum + x := by
  induction l with
  | nil => simp
  | cons y l ih => simp only [List.cons_append, List.sum_cons, ih]; omega
theorem many_le {S : Sp} (h : S.WF) (f : Nat) : manyOf (atP S.pg f) ≤ 256 := by
  cases hx : atP S.pg f <;> simp only [manyOf] <;> try omega
  have := (h.first f _ hx).2.1
  have := h.n2
  omega
theorem find_bd {S : Sp} (h : S.WF) (a : Int) : 0 ≤ (S.find a).2.1 ∧ (S.find a).2.1 ≤ 16384 := by
  unfold Sp.find
  split
  · exact ⟨by decide, by decide⟩
  · cases hx : atP S.pg (a / 64).toNat
    case small c l =>
      have := words_pos (h.small _ _ _ hx).1
      by_cases hb : hasB l (a % 64 / wordsOf c) = true
      · simp only [hb, if_true]; omega
      · simp only [hb]; show (0 : Int) ≤ 0 ∧ (0 : Int) ≤ 16384; omega
    case first k =>
      have := (h.first _ _ hx).2.1
      have := h.n2
      simp only
      omega
    case rest f =>
      have := many_le h f
      simp only
      omega
    all_goals (show (0 : Int) ≤ 0 ∧ (0 : Int) ≤ 16384; omega)

theorem After.space {s : Nat} {L : Lay} {S S' : Sp} {w w' : World} (h : After s L S S' w w') : ∃ L', IsSpace w' s L' S' := by obtain ⟨L', h1, _⟩ := h; exact ⟨L', h1⟩

end Go.Proofs.Ytendjhobemlhoaa
