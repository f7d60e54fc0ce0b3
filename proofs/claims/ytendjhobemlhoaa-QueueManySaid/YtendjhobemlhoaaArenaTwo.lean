/- The walk of ArenaTwo: at every place and every two numbers the law returns true, and nothing that was there has turned. -/
import Derived.Test.YtendjhobemlhoaaArena
namespace Go.Proofs.Ytendjhobemlhoaa
open Go Go.RowKit

theorem err0 (w : World) : Calls Try.prog 17 #[.int .i64 0] w fun e w' => e = .returned (.int .i64 0) ∧ w = w' := err_calls 0 w (by omega)
theorem err1 (w : World) : Calls Try.prog 17 #[.int .i64 1] w fun e w' => e = .returned (.int .i64 1) ∧ w = w' := err_calls 1 w (by omega)
theorem err2 (w : World) : Calls Try.prog 17 #[.int .i64 2] w fun e w' => e = .returned (.int .i64 2) ∧ w = w' := err_calls 2 w (by omega)
theorem err3 (w : World) : Calls Try.prog 17 #[.int .i64 3] w fun e w' => e = .returned (.int .i64 3) ∧ w = w' := err_calls 3 w (by omega)

end Go.Proofs.Ytendjhobemlhoaa
