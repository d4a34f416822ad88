/-
  ActGone: WHAT ITS RUNS ANSWER, part 0.
-/
import Derived.Test.YtmncnjolillclaaGreatDoorS16
set_option maxRecDepth 100000
namespace Go.Sk.Seat
noncomputable def gnA0 : List V := [.int .i64 (.var 0), .int .i64 (.var 1)]
noncomputable def gnM0 : List (BinOp × IE × IE × Bool) := []
theorem gn0 : valIs (callN (cxA glob gnM0) (orcL gnM0 (.var 1) 4 0) (fns glob gnM0) 1000 6 gnA0 heap0) (.bool true) = true := by kernel_rfl
end Go.Sk.Seat
