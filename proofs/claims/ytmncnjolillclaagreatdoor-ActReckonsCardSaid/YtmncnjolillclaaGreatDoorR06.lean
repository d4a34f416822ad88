/-
  ActReckons: a closed fact of its row.
-/
import Derived.Test.YtmncnjolillclaaGreatDoorCards
import Derived.Test.YtmncnjolillclaaGreatDoorTie
import Derived.ProofKit
import Derived.Deep.DeepHandedRow
set_option maxRecDepth 100000
namespace Go.Proofs.YtmncnjolillclaaGreatDoor.actReckons
theorem j3 : (Rows.actReckonsRow.recurses == Tryz.prog.recurses 4) = true := by kernel_rfl
end Go.Proofs.YtmncnjolillclaaGreatDoor.actReckons
