/-
  ActGone: a closed fact of its row.
-/
import Derived.Test.YtmncnjolillclaaGreatDoorCards
import Derived.Test.YtmncnjolillclaaGreatDoorTie
import Derived.ProofKit
import Derived.Deep.DeepHandedRow
set_option maxRecDepth 100000
namespace Go.Proofs.YtmncnjolillclaaGreatDoor.actGone
theorem j3 : (Rows.actGoneRow.recurses == Tryz.prog.recurses 6) = true := by kernel_rfl
end Go.Proofs.YtmncnjolillclaaGreatDoor.actGone
