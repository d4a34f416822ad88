/-
  ActGone: WHAT ITS RUNS ANSWER, part 4.
-/
import Derived.Test.YtmncnjolillclaaGreatDoorS16
set_option maxRecDepth 100000
namespace Go.Sk.Seat
noncomputable def gnA3 : List V := [.int .i64 (.var 0), .int .i64 (.var 1)]
noncomputable def gnM3 : List (BinOp × IE × IE × Bool) := []
theorem gn3 : valIs (callN (cxA glob gnM3) (orcL gnM3 (.var 1) 4 3) (fns glob gnM3) 1000 6 gnA3 heap0) (.bool true) = true := by kernel_rfl
end Go.Sk.Seat
