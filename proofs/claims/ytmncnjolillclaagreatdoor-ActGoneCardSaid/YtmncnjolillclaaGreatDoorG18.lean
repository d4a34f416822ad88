/-
  ActGone: THE CARD: for every n and how the call answers true and leaves all that was there as it was. No condition.
-/
import Derived.Test.YtmncnjolillclaaGreatDoorG14
import Derived.Test.YtmncnjolillclaaGreatDoorG15
import Derived.Test.YtmncnjolillclaaGreatDoorG16
import Derived.Test.YtmncnjolillclaaGreatDoorG17
set_option maxRecDepth 100000
namespace Go.Proofs.YtmncnjolillclaaGreatDoor.actGone
open Go.Sk Go.Sk.Seat Go.ChangeShapes Go.WideShapes Go.ChangeAt Go.RowKit

/-- No parameter wants a stand-in; the program's own looks are off. -/
theorem plain (f : FuncId) (fn : Func) (hf : Tryz.pinned.checked.prog.funcNamed "roadstead/roadkeep1.ActGone" = some f) (hfn : Tryz.pinned.checked.prog.funcs[f]? = some fn) :
    false = Tryz.pinned.checked.prog.looks [] ∧ ∀ (j : Nat) t, fn.params[j]? = some t → Tryz.pinned.checked.prog.wantsStandIn t = false := by
  obtain rfl : f = 6 := Option.some.inj ((show Tryz.prog.funcNamed "roadstead/roadkeep1.ActGone" = some 6 by kernel_rfl).symm.trans hf) |>.symm
  obtain rfl : fn = Tryz.f6 := (Option.some.inj (Tryz.func6.symm.trans hfn)).symm
  refine ⟨looks_eq, fun j t ht => ?_⟩
  rw [Tryz.params6] at ht
  obtain rfl : t = 3 := by simpa using Array.mem_of_getElem? ht
  exact (show Tryz.prog.wantsStandIn 3 = false by kernel_rfl)

end Go.Proofs.YtmncnjolillclaaGreatDoor.actGone
namespace Go.Proofs.YtmncnjolillclaaGreatDoor
/-- ACTRECKONS, THE TIED CARD. -/
theorem actGone_holds : Rows.ActGoneCardSaid :=
  Claim7.holds_tied_plain_at .later [] _ _ _ _ actGone.said (fun _ h => by cases h) actGone_wf (fun _ h => by cases h) actGone_row_tie rfl ⟨rfl, rfl⟩ mainIs_eq rfl actGone.plain actGone_goes
#print axioms actGone_holds
end Go.Proofs.YtmncnjolillclaaGreatDoor
