/-
  ActGone: lifted to every start.
-/
import Derived.Test.YtmncnjolillclaaGreatDoorG05
import Derived.Test.YtmncnjolillclaaGreatDoorG11
import Derived.Test.YtmncnjolillclaaGreatDoorG12
set_option maxRecDepth 100000
namespace Go.Proofs.YtmncnjolillclaaGreatDoor.actGone
open Go.Sk Go.Sk.Seat Go.ChangeShapes Go.WideShapes Go.ChangeAt Go.RowKit

theorem lifted (os : Os) (started : os.Started) (H : Type) (enc : TypeId × Value → H) (F : Stop.Interp) :
    ReturnsInHanded {} Tryz.checked os 6 .any ((OpenSpec.ofChange Rows.actGoneSpec).preRow enc Tryz.prog Tryz.f6 Rows.actGoneRow.domain false Rows.actGoneRow.laid) (((OpenSpec.ofChange Rows.actGoneSpec).at F).post enc Tryz.prog Tryz.f6 false true false false) := by
  obtain ⟨places, hx⟩ := reads os enc
  refine returnsInHanded_of_row (C := Tryz.checked) (s := OpenSpec.ofChange Rows.actGoneSpec) own started (by kernel_rfl) Tryz.func6
    (witness_row_at (enc := enc) (C := Tryz.checked) false (laidWorld os) #[.int .i64 0, .int .i64 0] rfl (by kernel_rfl) (by kernel_rfl) (by kernel_rfl)
      (OpenSpec.preRow_of_cond 8 hx (by kernel_rfl) (fun k hk => by cases hk) (by kernel_rfl) (laid_met os))) ?_
  intro W base args ds gs before hval hW _ _ _ hL _ _
  exact contract H enc W base args ds gs before hval hW hL

end Go.Proofs.YtmncnjolillclaaGreatDoor.actGone
