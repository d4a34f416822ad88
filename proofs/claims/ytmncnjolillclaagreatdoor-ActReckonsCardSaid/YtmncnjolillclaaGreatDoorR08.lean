/-
  ActReckons: the closed facts of its row.
-/
import Derived.Test.YtmncnjolillclaaGreatDoorR04
import Derived.Test.YtmncnjolillclaaGreatDoorR05
import Derived.Test.YtmncnjolillclaaGreatDoorR06
import Derived.Test.YtmncnjolillclaaGreatDoorR07
set_option maxRecDepth 100000
namespace Go.Proofs.YtmncnjolillclaaGreatDoor.actReckons
theorem closed : joinedFacts Tryz.prog 4 Tryz.f4 (OpenSpec.ofChange Rows.actReckonsSpec).bare Rows.actReckonsRow = true := by
  unfold joinedFacts
  rw [j1, j2, j3, j4]
  kernel_rfl
end Go.Proofs.YtmncnjolillclaaGreatDoor.actReckons
