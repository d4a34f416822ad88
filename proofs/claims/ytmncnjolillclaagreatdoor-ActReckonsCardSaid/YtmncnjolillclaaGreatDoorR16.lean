/-
  ActReckons: THE CARD: for every a, b and op the call answers true and leaves all that was there as it was. No condition.
-/
import Derived.Test.YtmncnjolillclaaGreatDoorR12
import Derived.Test.YtmncnjolillclaaGreatDoorR13
import Derived.Test.YtmncnjolillclaaGreatDoorR14
import Derived.Test.YtmncnjolillclaaGreatDoorR15
set_option maxRecDepth 100000
namespace Go.Proofs.YtmncnjolillclaaGreatDoor.actReckons
open Go.Sk Go.Sk.Seat Go.ChangeShapes Go.WideShapes Go.ChangeAt Go.RowKit

/-- No parameter wants a stand-in; the program's own looks are off. -/
theorem plain (f : FuncId) (fn : Func) (hf : Tryz.pinned.checked.prog.funcNamed "roadstead/roadkeep1.ActReckons" = some f) (hfn : Tryz.pinned.checked.prog.funcs[f]? = some fn) :
    false = Tryz.pinned.checked.prog.looks [] ∧ ∀ (j : Nat) t, fn.params[j]? = some t → Tryz.pinned.checked.prog.wantsStandIn t = false := by
  obtain rfl : f = 4 := Option.some.inj ((show Tryz.prog.funcNamed "roadstead/roadkeep1.ActReckons" = some 4 by kernel_rfl).symm.trans hf) |>.symm
  obtain rfl : fn = Tryz.f4 := (Option.some.inj (Tryz.func4.symm.trans hfn)).symm
  refine ⟨looks_eq, fun j t ht => ?_⟩
  rw [Tryz.params4] at ht
  obtain rfl : t = 3 := by simpa using Array.mem_of_getElem? ht
  exact (show Tryz.prog.wantsStandIn 3 = false by kernel_rfl)

end Go.Proofs.YtmncnjolillclaaGreatDoor.actReckons
namespace Go.Proofs.YtmncnjolillclaaGreatDoor
/-- ACTRECKONS, THE TIED CARD. -/
theorem actReckons_holds : Rows.ActReckonsCardSaid :=
  Claim7.holds_tied_plain_at .later [] _ _ _ _ actReckons.said (fun _ h => by cases h) actReckons_wf (fun _ h => by cases h) actReckons_row_tie rfl ⟨rfl, rfl⟩ mainIs_eq rfl actReckons.plain actReckons_goes
#print axioms actReckons_holds
end Go.Proofs.YtmncnjolillclaaGreatDoor
