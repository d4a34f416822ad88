/-
  ActGone: the closed facts of its row.
-/
import Derived.Test.YtmncnjolillclaaGreatDoorG06
import Derived.Test.YtmncnjolillclaaGreatDoorG07
import Derived.Test.YtmncnjolillclaaGreatDoorG08
import Derived.Test.YtmncnjolillclaaGreatDoorG09
set_option maxRecDepth 100000
namespace Go.Proofs.YtmncnjolillclaaGreatDoor.actGone
theorem closed : joinedFacts Tryz.prog 6 Tryz.f6 (OpenSpec.ofChange Rows.actGoneSpec).bare Rows.actGoneRow = true := by
  unfold joinedFacts
  rw [j1, j2, j3, j4]
  kernel_rfl
end Go.Proofs.YtmncnjolillclaaGreatDoor.actGone
