/-
  ActReckons: no goroutine is left behind.
-/
import Derived.Test.YtmncnjolillclaaGreatDoorCards
import Derived.Test.YtmncnjolillclaaGreatDoorTie
import Derived.ProofKit
import Derived.Deep.DeepHandedRow
set_option maxRecDepth 100000
namespace Go.Proofs.YtmncnjolillclaaGreatDoor
theorem actReckons_goes : false = Rows.actReckonsRow.goesBy Tryz.pinned.checked.prog := by kernel_rfl
theorem actReckons_wf : Rows.actReckonsRow.wfByText (OpenSpec.ofChange Rows.actReckonsSpec) = true := by kernel_rfl
end Go.Proofs.YtmncnjolillclaaGreatDoor
