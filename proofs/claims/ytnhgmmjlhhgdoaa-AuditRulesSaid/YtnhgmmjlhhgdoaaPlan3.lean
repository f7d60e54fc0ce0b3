/- A plan's blocks, walked without the end state in the goal. No program in sight. -/
import Derived.Test.YtnhgmmjlhhgdoaaPlan2
import Derived.Lib.Hide
namespace Go.Proofs.Ytnhgmmjlhhgdoaa.Plan
open Go Go.RowKit

section
variable {P : Program} {lst : List Oper} {S : World → Prop} {Q : Exit → Act → World → Prop}
theorem blk_intro {l : List Nat} {r : List Step} {a : Act} {w : World} {a' : Act}
    (h1 : ∀ w', S w' → ∀ Φ : Act → Prop, Hid (Φ a') → wpList P lst.toArray (fun e b _ => e = .normal ∧ Φ b) (pick lst l) a w')
    (h2 : restB lst.toArray (pick lst l) a' = true) (h3 : wpPlan P lst S Q r a' w) : wpPlan P lst S Q (.blk l :: r) a w :=
  ⟨a', fun w' hw => h1 w' hw (· = a') (Lib.hid rfl), h2, h3⟩
theorem eff_intro {i : Nat} {r : List Step} {a : Act} {w : World}
    (h : ∀ K : Exit → Act → World → Prop, (∀ b w', S w' → wpPlan P lst S Q r b w' → K .normal b w') → (∀ e b w', e ≠ .normal → Q e b w' → K e b w') → wpList P lst.toArray K (pick lst [i]) a w) : wpPlan P lst S Q (.eff i :: r) a w := by
  unfold wpPlan
  refine h _ (fun b w' h1 h2 => ⟨h1, h2⟩) (fun e b w' he h2 => ?_)
  cases e <;> first | exact absurd rfl he | exact h2
theorem plan_done {a : Act} {w : World} (h : Q .normal a w) : wpPlan P lst S Q [] a w := h
end
end Go.Proofs.Ytnhgmmjlhhgdoaa.Plan
