/-
  WHAT THE ROWS' LISTS GIVE, A WORLD FOR THE WITNESSES, AND WHAT A CALL THAT ANSWERS true LEAVES.
-/
import Derived.Test.YtmncnjolillclaaGreatDoorS16
import Derived.Test.YtmncnjolillclaaGreatDoorCards
import Derived.Test.YtmncnjolillclaaGreatDoorTie
import Derived.WalkKit
import Derived.ProofKit
import Derived.OpenShut
import Derived.Deep.DeepHandedRow
import Derived.Lib.LaidTab
set_option maxRecDepth 100000
namespace Go.Sk.Seat
open Go.Proofs Go.ChangeShapes Go.WideShapes Go.ChangeAt Go.RowKit

theorem own : ownKnob Tryz.prog.godebug = none := by kernel_rfl
theorem gTab : (Tryz.prog).globalNamed "math/bits.deBruijn64tab" = some 0 := by kernel_rfl
theorem gTabType : ((Tryz.prog).globals[0]?).map (·.type) = some 442 := by kernel_rfl
theorem cells442 : (Tryz.prog).cellsOf 442 = 64 := by kernel_rfl
theorem cells5 : (Tryz.prog).cellsOf 5 = 1 := by kernel_rfl
noncomputable def dbz : List Int := [0,1,56,2,57,49,28,3,61,58,42,50,38,29,17,4,62,47,59,36,45,43,51,22,53,39,33,30,24,18,12,5,63,55,48,27,60,41,37,16,46,35,44,21,52,32,23,11,54,26,40,15,34,20,31,10,25,14,19,9,13,8,7,6]
theorem dbz_eq : dbz = db.map Int.ofNat := by kernel_rfl

abbrev laidL : List (String × DataW Unit) := [("math/bits.deBruijn64tab", YtmncnjolillclaaGreatDoor.Rows.laid_math_bits_deBruijn64tab), ("unicode/utf8.acceptRanges", YtmncnjolillclaaGreatDoor.Rows.laid_unicode_utf8_acceptRanges), ("unicode/utf8.first", YtmncnjolillclaaGreatDoor.Rows.laid_unicode_utf8_first)]
theorem table {W : World} (h : laidMetH Tryz.prog laidL W) : Lib.TabIs Tryz.prog W "math/bits.deBruijn64tab" .u8 dbz :=
  Lib.tabIs_of_head (rest := [("unicode/utf8.acceptRanges", YtmncnjolillclaaGreatDoor.Rows.laid_unicode_utf8_acceptRanges), ("unicode/utf8.first", YtmncnjolillclaaGreatDoor.Rows.laid_unicode_utf8_first)]) gTab gTabType Tryz.underlying442 Tryz.underlying5 cells5 cells442 h
theorem hglob {W : World} {ρ : Nat → Int} (hL : laidMetH Tryz.prog laidL W) : ∀ g o v, glob g o = some v → ∃ x, W.cell? ⟨g, o, none⟩ = some x ∧ VR ρ none0 v x := by
  intro g o v h
  unfold glob at h
  rw [nbeq, bif_ite] at h
  split at h
  · rename_i hg
    subst hg
    split at h
    · rename_i n hn
      simp only [Option.some.injEq] at h
      subst h
      have hlt := (List.getElem?_eq_some_iff.1 hn).1
      have hc := (table hL).cell gTab o (by rw [dbz_eq, List.length_map]; exact hlt)
      have hv : dbz.getD o 0 = Int.ofNat n := by rw [dbz_eq]; simp [List.getD, hn]
      rw [hv] at hc
      exact ⟨_, hc, .int .u8 (.lit (.ofNat n))⟩
    · cases h
  · cases h

/-- What a call that answers true leaves is what is asked, whatever the numbers. -/
theorem kept_of {W W' : World} (hg : Grew W W') (p : MemPlace → Prop) : W.keptBut W' p := by
  refine ⟨hg.os, hg.out, fun i hi => ?_⟩
  rw [hg.old i hi]
  cases W.heap[i]? with
  | none => rfl
  | some o => cases o <;> simp

noncomputable def layCells (l : List Value) : Go.Obj → Go.Obj
  | .cells _ t frozen => .cells l.toArray t frozen
  | o => o
noncomputable def u8s (l : List Nat) : List Value := l.map fun n => .int .u8 (Int.ofNat n)
noncomputable def ranges : List Nat := [128, 191, 160, 191, 128, 159, 144, 191, 128, 143, 0, 0, 0, 0, 0, 0, 0, 0, 0, 0, 0, 0, 0, 0, 0, 0, 0, 0, 0, 0, 0, 0]
/-- A WORLD FOR THE WITNESS: the settled one, the three listed variables (blocks 0, 2, 3) holding what their initialisers lay. -/
noncomputable def laidWorld (os : Os) : World :=
  { World.holding Tryz.prog os ⟨#[], #[], []⟩ with heap := (((World.holding Tryz.prog os ⟨#[], #[], []⟩).heap.modify 0 (layCells (u8s db))).modify 2 (layCells (u8s Pinned.utf8FirstZ))).modify 3 (layCells (u8s ranges)) }
end Go.Sk.Seat
