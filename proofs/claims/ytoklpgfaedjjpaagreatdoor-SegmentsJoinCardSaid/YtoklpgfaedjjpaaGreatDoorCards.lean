/-
  DERIVED. GIVEN WITH THE SEED: THE CARDS: each row of YtoklpgfaedjjpaaGreatDoorRows.lean that lists a variable, with what it lists TIED to the program's text (the seventh form; the later family's looks); each row that meets fmt, with fmt's text TOLD by the authors' own Lean function (tested against real Go, not proved from fmt's source: count such statements apart). THE CARD IS WHAT COUNTS. Prove the row's statement (the work); the ties are given (YtoklpgfaedjjpaaGreatDoorTie.lean); close each card by the builder's one call (the guide's Derived/Test/ToyasCard.lean, 'card_holds'). Laid BY PROGRAM, IN A SANDBOX (cutbox-door.mjs). By AI agents, Wed Nov 11 2026. No macro, syntax, notation, axiom, sorry.
-/
import Derived.Test.YtoklpgfaedjjpaaGreatDoorRows
import GoSem.ClaimSeven
namespace Go.Proofs.YtoklpgfaedjjpaaGreatDoor
namespace Rows

/-- THE TIED CARD OF 'rivermarklaw28.SegmentsAreAsSpecified'. -/
def segmentsAreAsSpecifiedCard : Claim7 := { stood := { row := segmentsAreAsSpecifiedRow, standIns := [], harness := (true, "5ede771ee4b7715823b03378c7d23a47e2f93f051d795c06d729354d3baed675"), looks := true }, kinds := [], alts := [], laidByText := true, laidKinds := [.data, .data, .data, .pinned], laidTests := true, laidLooks := .later }
def SegmentsAreAsSpecifiedCardSaid : Prop := Claim7.holds Tryz.pinned (.plain (OpenSpec.ofChange segmentsAreAsSpecifiedSpec)) segmentsAreAsSpecifiedCard

/-- THE TIED CARD OF 'rivermarklaw28.SegmentsMergeAsSpecified'. -/
def segmentsMergeAsSpecifiedCard : Claim7 := { stood := { row := segmentsMergeAsSpecifiedRow, standIns := [], harness := (true, "5ede771ee4b7715823b03378c7d23a47e2f93f051d795c06d729354d3baed675"), looks := true }, kinds := [], alts := [], laidByText := true, laidKinds := [.data, .data, .pinned], laidTests := true, laidLooks := .later }
def SegmentsMergeAsSpecifiedCardSaid : Prop := Claim7.holds Tryz.pinned (.plain (OpenSpec.ofChange segmentsMergeAsSpecifiedSpec)) segmentsMergeAsSpecifiedCard

/-- THE TIED CARD OF 'rivermarklaw28.SegmentsJoin'. -/
def segmentsJoinCard : Claim7 := { stood := { row := segmentsJoinRow, standIns := [], harness := (true, "5ede771ee4b7715823b03378c7d23a47e2f93f051d795c06d729354d3baed675"), looks := true }, kinds := [], alts := [], laidByText := true, laidKinds := [.data, .data, .pinned], laidTests := true, laidLooks := .later }
def SegmentsJoinCardSaid : Prop := Claim7.holds Tryz.pinned (.plain (OpenSpec.ofChange segmentsJoinSpec)) segmentsJoinCard

/-- THE TIED CARD OF 'rivermarklaw28.SegmentsAreASet'. -/
def segmentsAreASetCard : Claim7 := { stood := { row := segmentsAreASetRow, standIns := [], harness := (true, "5ede771ee4b7715823b03378c7d23a47e2f93f051d795c06d729354d3baed675"), looks := true }, kinds := [], alts := [], laidByText := true, laidKinds := [.data, .data, .pinned], laidTests := true, laidLooks := .later }
def SegmentsAreASetCardSaid : Prop := Claim7.holds Tryz.pinned (.plain (OpenSpec.ofChange segmentsAreASetSpec)) segmentsAreASetCard

/-- THE TIED CARD OF 'rivermarklaw28.SegmentsAreNamed'. -/
def segmentsAreNamedCard : Claim7 := { stood := { row := segmentsAreNamedRow, standIns := [], harness := (true, "5ede771ee4b7715823b03378c7d23a47e2f93f051d795c06d729354d3baed675"), looks := true }, kinds := [], alts := [], laidByText := true, laidKinds := [.data, .data, .pinned], laidTests := true, laidLooks := .later }
def SegmentsAreNamedCardSaid : Prop := Claim7.holds Tryz.pinned (.plain (OpenSpec.ofChange segmentsAreNamedSpec)) segmentsAreNamedCard

/-- THE SECOND FORM's CARD OF 'rivermarklaw28.SegmentsAreAsSpecified'. -/
def segmentsAreAsSpecifiedUptoCard : Claim7 := { stood := { row := segmentsAreAsSpecifiedUptoRow, standIns := [], harness := (true, "5ede771ee4b7715823b03378c7d23a47e2f93f051d795c06d729354d3baed675"), looks := true }, kinds := [], alts := [], laidByText := true, laidKinds := [.data, .data, .data, .pinned], laidTests := true, laidLooks := .later }
def SegmentsAreAsSpecifiedUptoCardSaid : Prop := Claim7.holds Tryz.pinned (.plain (OpenSpec.upto segmentsAreAsSpecifiedSpec)) segmentsAreAsSpecifiedUptoCard

/-- THE SECOND FORM's CARD OF 'rivermarklaw28.SegmentsMergeAsSpecified'. -/
def segmentsMergeAsSpecifiedUptoCard : Claim7 := { stood := { row := segmentsMergeAsSpecifiedUptoRow, standIns := [], harness := (true, "5ede771ee4b7715823b03378c7d23a47e2f93f051d795c06d729354d3baed675"), looks := true }, kinds := [], alts := [], laidByText := true, laidKinds := [.data, .data, .pinned], laidTests := true, laidLooks := .later }
def SegmentsMergeAsSpecifiedUptoCardSaid : Prop := Claim7.holds Tryz.pinned (.plain (OpenSpec.upto segmentsMergeAsSpecifiedSpec)) segmentsMergeAsSpecifiedUptoCard

/-- THE SECOND FORM's CARD OF 'rivermarklaw28.SegmentsJoin'. -/
def segmentsJoinUptoCard : Claim7 := { stood := { row := segmentsJoinUptoRow, standIns := [], harness := (true, "5ede771ee4b7715823b03378c7d23a47e2f93f051d795c06d729354d3baed675"), looks := true }, kinds := [], alts := [], laidByText := true, laidKinds := [.data, .data, .pinned], laidTests := true, laidLooks := .later }
def SegmentsJoinUptoCardSaid : Prop := Claim7.holds Tryz.pinned (.plain (OpenSpec.upto segmentsJoinSpec)) segmentsJoinUptoCard

/-- THE SECOND FORM's CARD OF 'rivermarklaw28.SegmentsAreASet'. -/
def segmentsAreASetUptoCard : Claim7 := { stood := { row := segmentsAreASetUptoRow, standIns := [], harness := (true, "5ede771ee4b7715823b03378c7d23a47e2f93f051d795c06d729354d3baed675"), looks := true }, kinds := [], alts := [], laidByText := true, laidKinds := [.data, .data, .pinned], laidTests := true, laidLooks := .later }
def SegmentsAreASetUptoCardSaid : Prop := Claim7.holds Tryz.pinned (.plain (OpenSpec.upto segmentsAreASetSpec)) segmentsAreASetUptoCard

/-- THE SECOND FORM's CARD OF 'rivermarklaw28.SegmentsAreNamed'. -/
def segmentsAreNamedUptoCard : Claim7 := { stood := { row := segmentsAreNamedUptoRow, standIns := [], harness := (true, "5ede771ee4b7715823b03378c7d23a47e2f93f051d795c06d729354d3baed675"), looks := true }, kinds := [], alts := [], laidByText := true, laidKinds := [.data, .data, .pinned], laidTests := true, laidLooks := .later }
def SegmentsAreNamedUptoCardSaid : Prop := Claim7.holds Tryz.pinned (.plain (OpenSpec.upto segmentsAreNamedSpec)) segmentsAreNamedUptoCard
end Rows
end Go.Proofs.YtoklpgfaedjjpaaGreatDoor
