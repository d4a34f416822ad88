/-
  DERIVED. GIVEN WITH THE SEED: THE CARDS: each row of YtmncnjolillclaaGreatDoorRows.lean that lists a variable, with what it lists TIED to the program's text (the seventh form; the later family's looks); each row that meets fmt, with fmt's text TOLD by the authors' own Lean function (tested against real Go, not proved from fmt's source: count such statements apart). THE CARD IS WHAT COUNTS. Prove the row's statement (the work); the ties are given (YtmncnjolillclaaGreatDoorTie.lean); close each card by the builder's one call (the guide's Derived/Test/ToyasCard.lean, 'card_holds'). Laid BY PROGRAM, IN A SANDBOX (cutbox-door.mjs). By AI agents, Wed Nov 11 2026. No macro, syntax, notation, axiom, sorry.
-/
import Derived.Test.YtmncnjolillclaaGreatDoorRows
import GoSem.ClaimSeven
namespace Go.Proofs.YtmncnjolillclaaGreatDoor
namespace Rows

/-- THE TIED CARD OF 'roadkeep1.CodeSpread'. -/
def codeSpreadCard : Claim7 := { stood := { row := codeSpreadRow, standIns := [], harness := (true, "1f18ce1bb49bc74c6ed53f9c0ebb68d81b69778807a9561d26cbe0a7cdb18326"), looks := false }, kinds := [], alts := [], laidByText := true, laidKinds := [.data, .data, .pinned], laidTests := true, laidLooks := .later }
def CodeSpreadCardSaid : Prop := Claim7.holds Tryz.pinned (.plain (OpenSpec.ofChange codeSpreadSpec)) codeSpreadCard

/-- THE TIED CARD OF 'roadkeep1.ActReckons'. -/
def actReckonsCard : Claim7 := { stood := { row := actReckonsRow, standIns := [], harness := (true, "1f18ce1bb49bc74c6ed53f9c0ebb68d81b69778807a9561d26cbe0a7cdb18326"), looks := false }, kinds := [], alts := [], laidByText := true, laidKinds := [.data, .data, .pinned], laidTests := true, laidLooks := .later }
def ActReckonsCardSaid : Prop := Claim7.holds Tryz.pinned (.plain (OpenSpec.ofChange actReckonsSpec)) actReckonsCard

/-- THE TIED CARD OF 'roadkeep1.ActDeep'. -/
def actDeepCard : Claim7 := { stood := { row := actDeepRow, standIns := [], harness := (true, "1f18ce1bb49bc74c6ed53f9c0ebb68d81b69778807a9561d26cbe0a7cdb18326"), looks := false }, kinds := [], alts := [], laidByText := true, laidKinds := [.data, .data, .pinned], laidTests := true, laidLooks := .later }
def ActDeepCardSaid : Prop := Claim7.holds Tryz.pinned (.plain (OpenSpec.ofChange actDeepSpec)) actDeepCard

/-- THE TIED CARD OF 'roadkeep1.ActGone'. -/
def actGoneCard : Claim7 := { stood := { row := actGoneRow, standIns := [], harness := (true, "1f18ce1bb49bc74c6ed53f9c0ebb68d81b69778807a9561d26cbe0a7cdb18326"), looks := false }, kinds := [], alts := [], laidByText := true, laidKinds := [.data, .data, .pinned], laidTests := true, laidLooks := .later }
def ActGoneCardSaid : Prop := Claim7.holds Tryz.pinned (.plain (OpenSpec.ofChange actGoneSpec)) actGoneCard

/-- THE SECOND FORM's CARD OF 'roadkeep1.CodeSpread'. -/
def codeSpreadUptoCard : Claim7 := { stood := { row := codeSpreadUptoRow, standIns := [], harness := (true, "1f18ce1bb49bc74c6ed53f9c0ebb68d81b69778807a9561d26cbe0a7cdb18326"), looks := false }, kinds := [], alts := [], laidByText := true, laidKinds := [.data, .data, .pinned], laidTests := true, laidLooks := .later }
def CodeSpreadUptoCardSaid : Prop := Claim7.holds Tryz.pinned (.plain (OpenSpec.upto codeSpreadSpec)) codeSpreadUptoCard

/-- THE SECOND FORM's CARD OF 'roadkeep1.ActReckons'. -/
def actReckonsUptoCard : Claim7 := { stood := { row := actReckonsUptoRow, standIns := [], harness := (true, "1f18ce1bb49bc74c6ed53f9c0ebb68d81b69778807a9561d26cbe0a7cdb18326"), looks := false }, kinds := [], alts := [], laidByText := true, laidKinds := [.data, .data, .pinned], laidTests := true, laidLooks := .later }
def ActReckonsUptoCardSaid : Prop := Claim7.holds Tryz.pinned (.plain (OpenSpec.upto actReckonsSpec)) actReckonsUptoCard

/-- THE SECOND FORM's CARD OF 'roadkeep1.ActDeep'. -/
def actDeepUptoCard : Claim7 := { stood := { row := actDeepUptoRow, standIns := [], harness := (true, "1f18ce1bb49bc74c6ed53f9c0ebb68d81b69778807a9561d26cbe0a7cdb18326"), looks := false }, kinds := [], alts := [], laidByText := true, laidKinds := [.data, .data, .pinned], laidTests := true, laidLooks := .later }
def ActDeepUptoCardSaid : Prop := Claim7.holds Tryz.pinned (.plain (OpenSpec.upto actDeepSpec)) actDeepUptoCard

/-- THE SECOND FORM's CARD OF 'roadkeep1.ActGone'. -/
def actGoneUptoCard : Claim7 := { stood := { row := actGoneUptoRow, standIns := [], harness := (true, "1f18ce1bb49bc74c6ed53f9c0ebb68d81b69778807a9561d26cbe0a7cdb18326"), looks := false }, kinds := [], alts := [], laidByText := true, laidKinds := [.data, .data, .pinned], laidTests := true, laidLooks := .later }
def ActGoneUptoCardSaid : Prop := Claim7.holds Tryz.pinned (.plain (OpenSpec.upto actGoneSpec)) actGoneUptoCard
end Rows
end Go.Proofs.YtmncnjolillclaaGreatDoor
