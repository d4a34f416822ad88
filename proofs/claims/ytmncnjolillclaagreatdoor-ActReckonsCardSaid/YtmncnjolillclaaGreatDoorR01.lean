/-
  ActReckons: WHAT ITS RUNS ANSWER, part 1.
-/
import Derived.Test.YtmncnjolillclaaGreatDoorS16
set_option maxRecDepth 100000
namespace Go.Sk.Seat
noncomputable def rkA3 : List V := [.int .i64 (.var 0), .int .i64 (.var 1), .int .i64 (.var 2)]
noncomputable def rkM3 : List (BinOp × IE × IE × Bool) := [(.eql, .var 1, .lit 0, false)]
theorem rk3 : valIs (callN (cxA glob rkM3) (orcL rkM3 (.var 2) 5 3) (fns glob rkM3) 1000 4 rkA3 heap0) (.bool true) = true := by kernel_rfl
noncomputable def rkA3b : List V := [.int .i64 (.var 0), .int .i64 (.lit 0), .int .i64 (.var 2)]
noncomputable def rkM3b : List (BinOp × IE × IE × Bool) := [(.eql, .lit 0, .var 0, false)]
theorem rk3b : valIs (callN (cxA glob rkM3b) (orcL rkM3b (.var 2) 5 3) (fns glob rkM3b) 1000 4 rkA3b heap0) (.bool true) = true := by kernel_rfl
noncomputable def rkA3c : List V := [.int .i64 (.lit 0), .int .i64 (.lit 0), .int .i64 (.var 2)]
noncomputable def rkM3c : List (BinOp × IE × IE × Bool) := []
theorem rk3c : valIs (callN (cxA glob rkM3c) (orcL rkM3c (.var 2) 5 3) (fns glob rkM3c) 1000 4 rkA3c heap0) (.bool true) = true := by kernel_rfl
end Go.Sk.Seat
