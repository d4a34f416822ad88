/-
  ActReckons: WHAT ITS RUNS ANSWER, part 0.
-/
import Derived.Test.YtmncnjolillclaaGreatDoorS16
set_option maxRecDepth 100000
namespace Go.Sk.Seat
noncomputable def rkA0 : List V := [.int .i64 (.var 0), .int .i64 (.var 1), .int .i64 (.var 2)]
noncomputable def rkM0 : List (BinOp × IE × IE × Bool) := []
theorem rk0 : valIs (callN (cxA glob rkM0) (orcL rkM0 (.var 2) 5 0) (fns glob rkM0) 1000 4 rkA0 heap0) (.bool true) = true := by kernel_rfl
noncomputable def rkM1 : List (BinOp × IE × IE × Bool) := []
theorem rk1 : valIs (callN (cxA glob rkM1) (orcL rkM1 (.var 2) 5 1) (fns glob rkM1) 1000 4 rkA0 heap0) (.bool true) = true := by kernel_rfl
noncomputable def rkM2 : List (BinOp × IE × IE × Bool) := []
theorem rk2 : valIs (callN (cxA glob rkM2) (orcL rkM2 (.var 2) 5 2) (fns glob rkM2) 1000 4 rkA0 heap0) (.bool true) = true := by kernel_rfl
end Go.Sk.Seat
