/-
  DERIVED. GIVEN WITH THE SEED: THE CARDS: each row of YtjhhgpencphgoaaDoorRows.lean that lists a variable, with what it lists TIED to the program's text (the seventh form; the later family's looks); each row that meets fmt, with fmt's text TOLD by the authors' own Lean function (tested against real Go, not proved from fmt's source: count such statements apart). THE CARD IS WHAT COUNTS. Prove the row's statement (the work); the ties are given (YtjhhgpencphgoaaDoorTie.lean); close each card by the builder's one call (the guide's Derived/Test/ToyasCard.lean, 'card_holds'). Laid BY PROGRAM, IN A SANDBOX (cutbox-door.mjs). By AI agents, Wed Nov 11 2026. No macro, syntax, notation, axiom, sorry.
-/
import Derived.Test.YtjhhgpencphgoaaDoorRows
import GoSem.ClaimSeven
namespace Go.Proofs.YtjhhgpencphgoaaDoor
namespace Rows

/-- THE TIED CARD OF 'rivermarklaw03.MerkleProofsMatchSpec'. -/
def merkleProofsMatchSpecCard : Claim7 := { stood := { row := merkleProofsMatchSpecRow, standIns := [], harness := (true, "81ac52f078b63a2afad7e3117cff2836913e2444110d93355cacfc2370b8fad1"), looks := true }, kinds := [], alts := [], laidByText := true, laidKinds := [.data, .data, .data, .data], laidTests := true, laidLooks := .later }
def MerkleProofsMatchSpecCardSaid : Prop := Claim7.holds Tryd.pinned (.plain (OpenSpec.ofChange merkleProofsMatchSpecSpec)) merkleProofsMatchSpecCard

/-- THE TIED CARD OF 'rivermarklaw03.MerkleManyAsSpecified'. -/
def merkleManyAsSpecifiedCard : Claim7 := { stood := { row := merkleManyAsSpecifiedRow, standIns := [], harness := (true, "81ac52f078b63a2afad7e3117cff2836913e2444110d93355cacfc2370b8fad1"), looks := true }, kinds := [], alts := [], laidByText := true, laidKinds := [.data, .data, .data, .data], laidTests := true, laidLooks := .later }
def MerkleManyAsSpecifiedCardSaid : Prop := Claim7.holds Tryd.pinned (.plain (OpenSpec.ofChange merkleManyAsSpecifiedSpec)) merkleManyAsSpecifiedCard

/-- THE TIED CARD OF 'rivermarklaw03.MerkleProofsAreAccepted'. -/
def merkleProofsAreAcceptedCard : Claim7 := { stood := { row := merkleProofsAreAcceptedRow, standIns := [], harness := (true, "81ac52f078b63a2afad7e3117cff2836913e2444110d93355cacfc2370b8fad1"), looks := true }, kinds := [], alts := [], laidByText := true, laidKinds := [.data, .data, .data, .data], laidTests := true, laidLooks := .later }
def MerkleProofsAreAcceptedCardSaid : Prop := Claim7.holds Tryd.pinned (.plain (OpenSpec.ofChange merkleProofsAreAcceptedSpec)) merkleProofsAreAcceptedCard

/-- THE TIED CARD OF 'rivermarklaw03.MerkleProofsBind'. -/
def merkleProofsBindCard : Claim7 := { stood := { row := merkleProofsBindRow, standIns := [], harness := (true, "81ac52f078b63a2afad7e3117cff2836913e2444110d93355cacfc2370b8fad1"), looks := true }, kinds := [], alts := [], laidByText := true, laidKinds := [.data, .data, .data, .data], laidTests := true, laidLooks := .later }
def MerkleProofsBindCardSaid : Prop := Claim7.holds Tryd.pinned (.plain (OpenSpec.ofChange merkleProofsBindSpec)) merkleProofsBindCard

/-- THE TIED CARD OF 'rivermarklaw03.MerklePeaksMatchSpec'. -/
def merklePeaksMatchSpecCard : Claim7 := { stood := { row := merklePeaksMatchSpecRow, standIns := [], harness := (true, "81ac52f078b63a2afad7e3117cff2836913e2444110d93355cacfc2370b8fad1"), looks := true }, kinds := [], alts := [], laidByText := true, laidKinds := [.data, .data, .data, .data], laidTests := true, laidLooks := .later }
def MerklePeaksMatchSpecCardSaid : Prop := Claim7.holds Tryd.pinned (.plain (OpenSpec.ofChange merklePeaksMatchSpecSpec)) merklePeaksMatchSpecCard

/-- THE TIED CARD OF 'rivermarklaw03.MerklePeaksGrow'. -/
def merklePeaksGrowCard : Claim7 := { stood := { row := merklePeaksGrowRow, standIns := [], harness := (true, "81ac52f078b63a2afad7e3117cff2836913e2444110d93355cacfc2370b8fad1"), looks := true }, kinds := [], alts := [], laidByText := true, laidKinds := [.data, .data, .data, .data], laidTests := true, laidLooks := .later }
def MerklePeaksGrowCardSaid : Prop := Claim7.holds Tryd.pinned (.plain (OpenSpec.ofChange merklePeaksGrowSpec)) merklePeaksGrowCard

/-- THE TIED CARD OF 'rivermarklaw23.LeafProofsAreAccepted'. -/
def leafProofsAreAcceptedCard : Claim7 := { stood := { row := leafProofsAreAcceptedRow, standIns := [], harness := (true, "81ac52f078b63a2afad7e3117cff2836913e2444110d93355cacfc2370b8fad1"), looks := true }, kinds := [], alts := [], laidByText := true, laidKinds := [.data, .data], laidTests := true, laidLooks := .later }
def LeafProofsAreAcceptedCardSaid : Prop := Claim7.holds Tryd.pinned (.plain (OpenSpec.ofChange leafProofsAreAcceptedSpec)) leafProofsAreAcceptedCard

/-- THE TIED CARD OF 'rivermarklaw23.LeafBinds'. -/
def leafBindsCard : Claim7 := { stood := { row := leafBindsRow, standIns := [], harness := (true, "81ac52f078b63a2afad7e3117cff2836913e2444110d93355cacfc2370b8fad1"), looks := true }, kinds := [], alts := [], laidByText := true, laidKinds := [.data, .data], laidTests := true, laidLooks := .later }
def LeafBindsCardSaid : Prop := Claim7.holds Tryd.pinned (.plain (OpenSpec.ofChange leafBindsSpec)) leafBindsCard

/-- THE TIED CARD OF 'rivermarklaw23.LeavesComeBack'. -/
def leavesComeBackCard : Claim7 := { stood := { row := leavesComeBackRow, standIns := [], harness := (true, "81ac52f078b63a2afad7e3117cff2836913e2444110d93355cacfc2370b8fad1"), looks := true }, kinds := [], alts := [], laidByText := true, laidKinds := [.data, .data], laidTests := true, laidLooks := .later }
def LeavesComeBackCardSaid : Prop := Claim7.holds Tryd.pinned (.plain (OpenSpec.ofChange leavesComeBackSpec)) leavesComeBackCard

/-- THE SECOND FORM's CARD OF 'rivermarklaw03.MerkleProofsMatchSpec'. -/
def merkleProofsMatchSpecUptoCard : Claim7 := { stood := { row := merkleProofsMatchSpecUptoRow, standIns := [], harness := (true, "81ac52f078b63a2afad7e3117cff2836913e2444110d93355cacfc2370b8fad1"), looks := true }, kinds := [], alts := [], laidByText := true, laidKinds := [.data, .data, .data, .data], laidTests := true, laidLooks := .later }
def MerkleProofsMatchSpecUptoCardSaid : Prop := Claim7.holds Tryd.pinned (.plain (OpenSpec.upto merkleProofsMatchSpecSpec)) merkleProofsMatchSpecUptoCard

/-- THE SECOND FORM's CARD OF 'rivermarklaw03.MerkleManyAsSpecified'. -/
def merkleManyAsSpecifiedUptoCard : Claim7 := { stood := { row := merkleManyAsSpecifiedUptoRow, standIns := [], harness := (true, "81ac52f078b63a2afad7e3117cff2836913e2444110d93355cacfc2370b8fad1"), looks := true }, kinds := [], alts := [], laidByText := true, laidKinds := [.data, .data, .data, .data], laidTests := true, laidLooks := .later }
def MerkleManyAsSpecifiedUptoCardSaid : Prop := Claim7.holds Tryd.pinned (.plain (OpenSpec.upto merkleManyAsSpecifiedSpec)) merkleManyAsSpecifiedUptoCard

/-- THE SECOND FORM's CARD OF 'rivermarklaw03.MerkleProofsAreAccepted'. -/
def merkleProofsAreAcceptedUptoCard : Claim7 := { stood := { row := merkleProofsAreAcceptedUptoRow, standIns := [], harness := (true, "81ac52f078b63a2afad7e3117cff2836913e2444110d93355cacfc2370b8fad1"), looks := true }, kinds := [], alts := [], laidByText := true, laidKinds := [.data, .data, .data, .data], laidTests := true, laidLooks := .later }
def MerkleProofsAreAcceptedUptoCardSaid : Prop := Claim7.holds Tryd.pinned (.plain (OpenSpec.upto merkleProofsAreAcceptedSpec)) merkleProofsAreAcceptedUptoCard

/-- THE SECOND FORM's CARD OF 'rivermarklaw03.MerkleProofsBind'. -/
def merkleProofsBindUptoCard : Claim7 := { stood := { row := merkleProofsBindUptoRow, standIns := [], harness := (true, "81ac52f078b63a2afad7e3117cff2836913e2444110d93355cacfc2370b8fad1"), looks := true }, kinds := [], alts := [], laidByText := true, laidKinds := [.data, .data, .data, .data], laidTests := true, laidLooks := .later }
def MerkleProofsBindUptoCardSaid : Prop := Claim7.holds Tryd.pinned (.plain (OpenSpec.upto merkleProofsBindSpec)) merkleProofsBindUptoCard

/-- THE SECOND FORM's CARD OF 'rivermarklaw03.MerklePeaksMatchSpec'. -/
def merklePeaksMatchSpecUptoCard : Claim7 := { stood := { row := merklePeaksMatchSpecUptoRow, standIns := [], harness := (true, "81ac52f078b63a2afad7e3117cff2836913e2444110d93355cacfc2370b8fad1"), looks := true }, kinds := [], alts := [], laidByText := true, laidKinds := [.data, .data, .data, .data], laidTests := true, laidLooks := .later }
def MerklePeaksMatchSpecUptoCardSaid : Prop := Claim7.holds Tryd.pinned (.plain (OpenSpec.upto merklePeaksMatchSpecSpec)) merklePeaksMatchSpecUptoCard

/-- THE SECOND FORM's CARD OF 'rivermarklaw03.MerklePeaksGrow'. -/
def merklePeaksGrowUptoCard : Claim7 := { stood := { row := merklePeaksGrowUptoRow, standIns := [], harness := (true, "81ac52f078b63a2afad7e3117cff2836913e2444110d93355cacfc2370b8fad1"), looks := true }, kinds := [], alts := [], laidByText := true, laidKinds := [.data, .data, .data, .data], laidTests := true, laidLooks := .later }
def MerklePeaksGrowUptoCardSaid : Prop := Claim7.holds Tryd.pinned (.plain (OpenSpec.upto merklePeaksGrowSpec)) merklePeaksGrowUptoCard

/-- THE SECOND FORM's CARD OF 'rivermarklaw23.LeafProofsAreAccepted'. -/
def leafProofsAreAcceptedUptoCard : Claim7 := { stood := { row := leafProofsAreAcceptedUptoRow, standIns := [], harness := (true, "81ac52f078b63a2afad7e3117cff2836913e2444110d93355cacfc2370b8fad1"), looks := true }, kinds := [], alts := [], laidByText := true, laidKinds := [.data, .data], laidTests := true, laidLooks := .later }
def LeafProofsAreAcceptedUptoCardSaid : Prop := Claim7.holds Tryd.pinned (.plain (OpenSpec.upto leafProofsAreAcceptedSpec)) leafProofsAreAcceptedUptoCard

/-- THE SECOND FORM's CARD OF 'rivermarklaw23.LeafBinds'. -/
def leafBindsUptoCard : Claim7 := { stood := { row := leafBindsUptoRow, standIns := [], harness := (true, "81ac52f078b63a2afad7e3117cff2836913e2444110d93355cacfc2370b8fad1"), looks := true }, kinds := [], alts := [], laidByText := true, laidKinds := [.data, .data], laidTests := true, laidLooks := .later }
def LeafBindsUptoCardSaid : Prop := Claim7.holds Tryd.pinned (.plain (OpenSpec.upto leafBindsSpec)) leafBindsUptoCard

/-- THE SECOND FORM's CARD OF 'rivermarklaw23.LeavesComeBack'. -/
def leavesComeBackUptoCard : Claim7 := { stood := { row := leavesComeBackUptoRow, standIns := [], harness := (true, "81ac52f078b63a2afad7e3117cff2836913e2444110d93355cacfc2370b8fad1"), looks := true }, kinds := [], alts := [], laidByText := true, laidKinds := [.data, .data], laidTests := true, laidLooks := .later }
def LeavesComeBackUptoCardSaid : Prop := Claim7.holds Tryd.pinned (.plain (OpenSpec.upto leavesComeBackSpec)) leavesComeBackUptoCard
end Rows
end Go.Proofs.YtjhhgpencphgoaaDoor
