/-
  ActGone: no goroutine is left behind.
-/
import Derived.Test.YtmncnjolillclaaGreatDoorCards
import Derived.Test.YtmncnjolillclaaGreatDoorTie
import Derived.ProofKit
import Derived.Deep.DeepHandedRow
set_option maxRecDepth 100000
namespace Go.Proofs.YtmncnjolillclaaGreatDoor
theorem actGone_goes : false = Rows.actGoneRow.goesBy Tryz.pinned.checked.prog := by kernel_rfl
theorem actGone_wf : Rows.actGoneRow.wfByText (OpenSpec.ofChange Rows.actGoneSpec) = true := by kernel_rfl
end Go.Proofs.YtmncnjolillclaaGreatDoor
