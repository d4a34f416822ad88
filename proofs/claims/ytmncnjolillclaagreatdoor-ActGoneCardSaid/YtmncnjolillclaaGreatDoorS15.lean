/-
  awake ANSWERS true.
-/
import Derived.Test.YtmncnjolillclaaGreatDoorS14
set_option maxRecDepth 100000
namespace Go.Sk.Seat
theorem awakeRun : valIs (callN (cxA glob []) (orcOf glob []) (fns glob []) 1000 7 [] heap0) (.bool true) = true := by kernel_rfl
end Go.Sk.Seat
