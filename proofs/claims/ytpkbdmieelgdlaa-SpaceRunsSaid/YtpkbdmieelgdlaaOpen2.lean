/- What BitsRuns is handed, opened: a slice of structs of a Bool, a slice of numbers, two numbers. -/
import Derived.Test.YtpkbdmieelgdlaaChecked
import Derived.Test.YtpkbdmieelgdlaaP1
import Derived.KernelRfl
import Derived.ProofKit
namespace Go.Proofs.Ytpkbdmieelgdlaa
open Go Go.RowKit Go.ChangeShapes Go.WideShapes Go.Deep

/-- What is asked of places. -/
structure AskB where
  is : Bool
  A : Option Addr
  cap : Nat
  xs : List Int
  N : Int
  K : Int
/-- It lies in four cells. -/
structure AskAt (w : World) (b o : Nat) (r : AskB) : Prop where
  c0 : w.cell? ⟨b, o, none⟩ = some (.bool r.is)
  c1 : w.cell? ⟨b, o + 1, none⟩ = some (.slice r.A r.xs.length r.cap)
  c2 : w.cell? ⟨b, o + 2, none⟩ = some (.int .i64 r.N)
  c3 : w.cell? ⟨b, o + 3, none⟩ = some (.int .i64 r.K)
  len : r.xs.length ≤ maxLen
  xs : Reads w .i64 r.A r.xs
  N : -9223372036854775808 ≤ r.N ∧ r.N ≤ 9223372036854775807
  K : -9223372036854775808 ≤ r.K ∧ r.K ≤ 9223372036854775807

theorem ints_field {H : Type} {enc : TypeId × Value → H} {w : World} {base : Nat} {fuel : Nat} {v : Value} {y : DataW H × List MemPlace}
    (hf : DataW.trod enc Try.prog w base (fun _ => true) true fuel 40 [v] = some y) : ∃ (A : Option Addr) (cap : Nat) (xs : List Int), v = .slice A xs.length cap ∧ xs.length ≤ maxLen ∧ Reads w .i64 A xs := by
  rcases open_ints Try.underlying40 Try.underlying3 (by kernel_rfl) hf with ⟨hcs, _⟩ | ⟨x, l, c, zs, hcs, _, hl, hm, hz, _, hcell, hwz⟩
  · simp only [List.cons.injEq, and_true] at hcs
    subst hcs
    exact ⟨none, 0, [], rfl, Nat.zero_le _, .inl rfl⟩
  · simp only [List.cons.injEq, and_true] at hcs
    subst hcs
    obtain ⟨xs, h1, h2, h3, h4⟩ := reads_of (A := some x) (len := l) (cap := c) (zs := zs) (k := .i64) (w := w) (.inr ⟨x, rfl, hl, hm, by simpa using hz, hcell, hwz⟩)
    exact ⟨some x, c, xs, by rw [h1], by omega, h3⟩

end Go.Proofs.Ytpkbdmieelgdlaa
