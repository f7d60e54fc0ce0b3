/- The law's own error numbers; the row of the table for int. -/
import Derived.Test.YtnhgmmjlhhgdoaaChecked
import Derived.Test.YtnhgmmjlhhgdoaaBase
namespace Go.Proofs.Ytnhgmmjlhhgdoaa
open Go Go.RowKit
theorem int_info : (Try.prog.info? 3).map (fun i => (i.zero, i.size, i.bytes)) = some (some (.int .i64 0), 1, 8) := by kernel_rfl
theorem err_calls (n : Int) (w : World) (h : 0 ≤ n ∧ n ≤ 7) : Calls Try.prog 26 #[.int .i64 n] w fun e w' => e = .returned (.int .i64 n) ∧ w = w' := by
  obtain ⟨h1, h2⟩ := h
  go_enter Try.func26, Try.ntmps26
  go_wp2
  go_ret
  exact ⟨rfl, rfl⟩
theorem err0 (w : World) : Calls Try.prog 26 #[.int .i64 0] w fun e w' => e = .returned (.int .i64 0) ∧ w = w' := err_calls 0 w (by omega)
theorem err1 (w : World) : Calls Try.prog 26 #[.int .i64 1] w fun e w' => e = .returned (.int .i64 1) ∧ w = w' := err_calls 1 w (by omega)
theorem err2 (w : World) : Calls Try.prog 26 #[.int .i64 2] w fun e w' => e = .returned (.int .i64 2) ∧ w = w' := err_calls 2 w (by omega)
theorem err3 (w : World) : Calls Try.prog 26 #[.int .i64 3] w fun e w' => e = .returned (.int .i64 3) ∧ w = w' := err_calls 3 w (by omega)
end Go.Proofs.Ytnhgmmjlhhgdoaa
