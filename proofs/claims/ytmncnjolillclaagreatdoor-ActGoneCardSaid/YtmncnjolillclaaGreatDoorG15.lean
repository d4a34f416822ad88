/-
  The program's main is the harness that the cards name.
-/
import Derived.Test.YtmncnjolillclaaGreatDoorCards
import Derived.Test.YtmncnjolillclaaGreatDoorTie
import Derived.ProofKit
import Derived.Deep.DeepHandedRow
set_option maxRecDepth 100000
namespace Go.Proofs.YtmncnjolillclaaGreatDoor
theorem mainIs_eq : Tryz.pinned.checked.prog.mainIs = some (true, "1f18ce1bb49bc74c6ed53f9c0ebb68d81b69778807a9561d26cbe0a7cdb18326".toList) := by kernel_rfl
end Go.Proofs.YtmncnjolillclaaGreatDoor
