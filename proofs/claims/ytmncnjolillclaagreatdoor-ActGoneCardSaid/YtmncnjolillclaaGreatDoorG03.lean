/-
  ActGone: WHAT ITS RUNS ANSWER, part 3.
-/
import Derived.Test.YtmncnjolillclaaGreatDoorS16
set_option maxRecDepth 100000
namespace Go.Sk.Seat
noncomputable def gnA2 : List V := [.int .i64 (.var 0), .int .i64 (.var 1)]
noncomputable def gnM2 : List (BinOp × IE × IE × Bool) := []
theorem gn2 : valIs (callN (cxA glob gnM2) (orcL gnM2 (.var 1) 4 2) (fns glob gnM2) 1000 6 gnA2 heap0) (.bool true) = true := by kernel_rfl
end Go.Sk.Seat
