/-
  ActGone: WHAT ITS RUNS ANSWER, part 2.
-/
import Derived.Test.YtmncnjolillclaaGreatDoorS16
set_option maxRecDepth 100000
namespace Go.Sk.Seat
noncomputable def gnA1b : List V := [.int .i64 (.lit 1), .int .i64 (.var 1)]
noncomputable def gnM1b : List (BinOp × IE × IE × Bool) := []
theorem gn1b : valIs (callN (cxA glob gnM1b) (orcL gnM1b (.var 1) 4 1) (fns glob gnM1b) 1000 6 gnA1b heap0) (.bool true) = true := by kernel_rfl
end Go.Sk.Seat
