/-
  The program's own looks are off.
-/
import Derived.Test.YtmncnjolillclaaGreatDoorCards
import Derived.Test.YtmncnjolillclaaGreatDoorTie
import Derived.ProofKit
import Derived.Deep.DeepHandedRow
set_option maxRecDepth 100000
namespace Go.Proofs.YtmncnjolillclaaGreatDoor
theorem looks_eq : false = Tryz.pinned.checked.prog.looks [] := by kernel_rfl
end Go.Proofs.YtmncnjolillclaaGreatDoor
