/-
  ActReckons: lifted to every start.
-/
import Derived.Test.YtmncnjolillclaaGreatDoorR03
import Derived.Test.YtmncnjolillclaaGreatDoorR09
import Derived.Test.YtmncnjolillclaaGreatDoorR10
set_option maxRecDepth 100000
namespace Go.Proofs.YtmncnjolillclaaGreatDoor.actReckons
open Go.Sk Go.Sk.Seat Go.ChangeShapes Go.WideShapes Go.ChangeAt Go.RowKit

theorem lifted (os : Os) (started : os.Started) (H : Type) (enc : TypeId × Value → H) (F : Stop.Interp) :
    ReturnsInHanded {} Tryz.checked os 4 .any ((OpenSpec.ofChange Rows.actReckonsSpec).preRow enc Tryz.prog Tryz.f4 Rows.actReckonsRow.domain false Rows.actReckonsRow.laid) (((OpenSpec.ofChange Rows.actReckonsSpec).at F).post enc Tryz.prog Tryz.f4 false true false false) := by
  obtain ⟨places, hx⟩ := reads os enc
  refine returnsInHanded_of_row (C := Tryz.checked) (s := OpenSpec.ofChange Rows.actReckonsSpec) own started (by kernel_rfl) Tryz.func4
    (witness_row_at (enc := enc) (C := Tryz.checked) false (laidWorld os) #[.int .i64 0, .int .i64 0, .int .i64 0] rfl (by kernel_rfl) (by kernel_rfl) (by kernel_rfl)
      (OpenSpec.preRow_of_cond 8 hx (by kernel_rfl) (fun k hk => by cases hk) (by kernel_rfl) (laid_met os))) ?_
  intro W base args ds gs before hval hW _ _ _ hL _ _
  exact contract H enc W base args ds gs before hval hW hL

end Go.Proofs.YtmncnjolillclaaGreatDoor.actReckons
