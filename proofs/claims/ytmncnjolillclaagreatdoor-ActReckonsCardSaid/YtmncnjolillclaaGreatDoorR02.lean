/-
  ActReckons: WHAT ITS RUNS ANSWER, part 2.
-/
import Derived.Test.YtmncnjolillclaaGreatDoorS16
set_option maxRecDepth 100000
namespace Go.Sk.Seat
noncomputable def rkA4 : List V := [.int .i64 (.var 0), .int .i64 (.var 1), .int .i64 (.var 2)]
noncomputable def rkM4 : List (BinOp × IE × IE × Bool) := [(.eql, .var 1, .lit 0, false)]
theorem rk4 : valIs (callN (cxA glob rkM4) (orcL rkM4 (.var 2) 5 4) (fns glob rkM4) 1000 4 rkA4 heap0) (.bool true) = true := by kernel_rfl
noncomputable def rkA4b : List V := [.int .i64 (.var 0), .int .i64 (.lit 0), .int .i64 (.var 2)]
noncomputable def rkM4b : List (BinOp × IE × IE × Bool) := [(.eql, .lit 0, .var 0, false)]
theorem rk4b : valIs (callN (cxA glob rkM4b) (orcL rkM4b (.var 2) 5 4) (fns glob rkM4b) 1000 4 rkA4b heap0) (.bool true) = true := by kernel_rfl
noncomputable def rkA4c : List V := [.int .i64 (.lit 0), .int .i64 (.lit 0), .int .i64 (.var 2)]
noncomputable def rkM4c : List (BinOp × IE × IE × Bool) := []
theorem rk4c : valIs (callN (cxA glob rkM4c) (orcL rkM4c (.var 2) 5 4) (fns glob rkM4c) 1000 4 rkA4c heap0) (.bool true) = true := by kernel_rfl
end Go.Sk.Seat
