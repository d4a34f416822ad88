/-
  ActGone: WHAT ITS RUNS ANSWER, part 1.
-/
import Derived.Test.YtmncnjolillclaaGreatDoorS16
set_option maxRecDepth 100000
namespace Go.Sk.Seat
noncomputable def gnA1 : List V := [.int .i64 (.var 0), .int .i64 (.var 1)]
noncomputable def gnM1 : List (BinOp × IE × IE × Bool) := [(.eql, .lit 1, .var 0, false)]
theorem gn1 : valIs (callN (cxA glob gnM1) (orcL gnM1 (.var 1) 4 1) (fns glob gnM1) 1000 6 gnA1 heap0) (.bool true) = true := by kernel_rfl
end Go.Sk.Seat
