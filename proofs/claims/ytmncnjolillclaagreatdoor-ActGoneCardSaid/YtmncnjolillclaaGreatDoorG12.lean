/-
  ActGone: the witness reads as data.
-/
import Derived.Test.YtmncnjolillclaaGreatDoorS17
set_option maxRecDepth 100000
namespace Go.Proofs.YtmncnjolillclaaGreatDoor.actGone
open Go.Sk Go.Sk.Seat Go.ChangeShapes Go.WideShapes Go.ChangeAt Go.RowKit

theorem reads (os : Os) {H : Type} (enc : TypeId × Value → H) : ∃ places, DataW.whole enc Tryz.prog ((laidWorld os).forCall (fun _ _ => 0) ⟨#[], #[.int .i64 0, .int .i64 0], []⟩).memory Tryz.f6.params.toList Rows.actGoneSpec.vars false #[Value.int .i64 0, Value.int .i64 0].toList 8 =
    some ([.lit (.int .i64 0), .lit (.int .i64 0)], [], places) := ⟨[], by kernel_rfl⟩

end Go.Proofs.YtmncnjolillclaaGreatDoor.actGone
