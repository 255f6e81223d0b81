/-
  DERIVED. GIVEN WITH THE SEED: THE CARDS: each row of YtjcdfjldcinopaaGreatDoorRows.lean that lists a variable, with what it lists TIED to the program's text (the seventh form; the later family's looks); each row that meets fmt, with fmt's text TOLD by the authors' own Lean function (tested against real Go, not proved from fmt's source: count such statements apart). THE CARD IS WHAT COUNTS. Prove the row's statement (the work); the ties are given (YtjcdfjldcinopaaGreatDoorTie.lean); close each card by the builder's one call (the guide's Derived/Test/ToyasCard.lean, 'card_holds'). Laid BY PROGRAM, IN A SANDBOX (cutbox-door.mjs). By AI agents, Wed Nov 11 2026. No macro, syntax, notation, axiom, sorry.
-/
import Derived.Test.YtjcdfjldcinopaaGreatDoorRows
import GoSem.ClaimSeven
namespace Go.Proofs.YtjcdfjldcinopaaGreatDoor
namespace Rows

/-- THE TIED CARD OF 'rivermarklaw23.LeafRootsAsSpecified'. -/
def leafRootsAsSpecifiedCard : Claim7 := { stood := { row := leafRootsAsSpecifiedRow, standIns := [], harness := (true, "9a737f114f7d0f4064c359a5961274b907a5bcffab745cc0f882df0ab73e6e6b"), looks := true }, kinds := [], alts := [], laidByText := true, laidKinds := [.data, .data, .data], laidTests := true, laidLooks := .later }
def LeafRootsAsSpecifiedCardSaid : Prop := Claim7.holds Tryz.pinned (.plain (OpenSpec.ofChange leafRootsAsSpecifiedSpec)) leafRootsAsSpecifiedCard

/-- THE TIED CARD OF 'rivermarklaw23.LeavesAreAsSpecified'. -/
def leavesAreAsSpecifiedCard : Claim7 := { stood := { row := leavesAreAsSpecifiedRow, standIns := [], harness := (true, "9a737f114f7d0f4064c359a5961274b907a5bcffab745cc0f882df0ab73e6e6b"), looks := true }, kinds := [], alts := [], laidByText := true, laidKinds := [.data, .data], laidTests := true, laidLooks := .later }
def LeavesAreAsSpecifiedCardSaid : Prop := Claim7.holds Tryz.pinned (.plain (OpenSpec.ofChange leavesAreAsSpecifiedSpec)) leavesAreAsSpecifiedCard

/-- THE SECOND FORM's CARD OF 'rivermarklaw23.LeafRootsAsSpecified'. -/
def leafRootsAsSpecifiedUptoCard : Claim7 := { stood := { row := leafRootsAsSpecifiedUptoRow, standIns := [], harness := (true, "9a737f114f7d0f4064c359a5961274b907a5bcffab745cc0f882df0ab73e6e6b"), looks := true }, kinds := [], alts := [], laidByText := true, laidKinds := [.data, .data, .data], laidTests := true, laidLooks := .later }
def LeafRootsAsSpecifiedUptoCardSaid : Prop := Claim7.holds Tryz.pinned (.plain (OpenSpec.upto leafRootsAsSpecifiedSpec)) leafRootsAsSpecifiedUptoCard

/-- THE SECOND FORM's CARD OF 'rivermarklaw23.LeavesAreAsSpecified'. -/
def leavesAreAsSpecifiedUptoCard : Claim7 := { stood := { row := leavesAreAsSpecifiedUptoRow, standIns := [], harness := (true, "9a737f114f7d0f4064c359a5961274b907a5bcffab745cc0f882df0ab73e6e6b"), looks := true }, kinds := [], alts := [], laidByText := true, laidKinds := [.data, .data], laidTests := true, laidLooks := .later }
def LeavesAreAsSpecifiedUptoCardSaid : Prop := Claim7.holds Tryz.pinned (.plain (OpenSpec.upto leavesAreAsSpecifiedSpec)) leavesAreAsSpecifiedUptoCard
end Rows
end Go.Proofs.YtjcdfjldcinopaaGreatDoor
