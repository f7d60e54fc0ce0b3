/- The walk of SpaceRuns, whole: at every number of pages and every list of asks the law returns true. -/
import Derived.Test.YtpkbdmieelgdlaaSpaceRuns2
namespace Go.Proofs.Ytpkbdmieelgdlaa
open Go Go.RowKit

theorem sruns_all (n : Int) (A : Option Addr) (len cap : Nat) (w : World) (hA : Asks6 w A len) :
    Calls Try.prog 3 #[.int .i64 n, .slice A len cap] w fun e w' => e = .returned (.bool true) ∧ Below w.heap.size w w' := by
  by_cases h : n < 1 ∨ 256 < n
  · exact sruns_no n A len cap w h
  · obtain ⟨m, rfl⟩ : ∃ m : Nat, n = m := ⟨n.toNat, by omega⟩
    by_cases h2 : 40 < m
    · exact sruns_big m A len cap w h2 (by omega)
    · exact sruns_yes m A len cap w (by omega) (by omega) hA
end Go.Proofs.Ytpkbdmieelgdlaa
