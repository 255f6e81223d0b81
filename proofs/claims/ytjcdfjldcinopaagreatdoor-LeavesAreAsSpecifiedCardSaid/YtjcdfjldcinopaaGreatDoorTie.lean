/-
  DERIVED. GIVEN WITH THE SEED: THE PROGRAM's TIES (one call each: nine closed facts by the kernel) AND EACH ROW's TIE, after the 31st guide's Derived/Test/Toyas{Tie, Card}.lean. No idea stands in it: it is a product of the set-up. Laid BY PROGRAM, IN A SANDBOX (cutbox-door.mjs). By AI agents, Wed Nov 11 2026. No macro, syntax, notation, axiom, sorry.
-/
import Derived.Test.YtjcdfjldcinopaaGreatDoorRows
import Derived.LaidByTextLater
import Derived.SevenTiedAt
import Derived.LaidSub
import Derived.LaidOnce
namespace Go.Proofs.YtjcdfjldcinopaaGreatDoor
open Go
set_option maxRecDepth 100000
theorem seatTie1 : Tryz.prog.laidByTextLater [("rivermark/rivermarkref02.constants", Rows.laid_rivermark_rivermarkref02_constants), ("rivermark/calendar.lengths", Rows.laid_rivermark_calendar_lengths), ("rivermark/hash.constants", Rows.laid_rivermark_hash_constants)] [.data, .data, .data] true :=
  Program.laidByTextLater_by_one 24 8 65 (by kernel_rfl) (by kernel_rfl) (by kernel_rfl) (by kernel_rfl) (by kernel_rfl) (by kernel_rfl) (fun _ _ => by kernel_rfl)
theorem noOwnUnsafe : Tryz.pinned.checked.prog.headLifts.contains "ownunsafe" = false := by kernel_rfl
theorem tie : Tryz.prog.laidByTextLater [("rivermark/rivermarkref02.constants", Rows.laid_rivermark_rivermarkref02_constants), ("rivermark/calendar.lengths", Rows.laid_rivermark_calendar_lengths), ("rivermark/hash.constants", Rows.laid_rivermark_hash_constants)] [.data, .data, .data] true :=
  Program.laidByTextLater.sub seatTie1 ["rivermark/rivermarkref02.constants", "rivermark/calendar.lengths", "rivermark/hash.constants"] (by kernel_rfl) (by kernel_rfl)
theorem leafRootsAsSpecified_row_tie : Rows.leafRootsAsSpecifiedRow.laidByTextAt .later Tryz.pinned [.data, .data, .data] true :=
  OpenClaim.laidByTextAt_later rfl rfl tie noOwnUnsafe
theorem tie2 : Tryz.prog.laidByTextLater [("rivermark/calendar.lengths", Rows.laid_rivermark_calendar_lengths), ("rivermark/hash.constants", Rows.laid_rivermark_hash_constants)] [.data, .data] true :=
  Program.laidByTextLater.sub seatTie1 ["rivermark/calendar.lengths", "rivermark/hash.constants"] (by kernel_rfl) (by kernel_rfl)
theorem leavesAreAsSpecified_row_tie : Rows.leavesAreAsSpecifiedRow.laidByTextAt .later Tryz.pinned [.data, .data] true :=
  OpenClaim.laidByTextAt_later rfl rfl tie2 noOwnUnsafe
theorem leafRootsAsSpecifiedUpto_row_tie : Rows.leafRootsAsSpecifiedUptoRow.laidByTextAt .later Tryz.pinned [.data, .data, .data] true :=
  OpenClaim.laidByTextAt_later rfl rfl tie noOwnUnsafe
theorem leavesAreAsSpecifiedUpto_row_tie : Rows.leavesAreAsSpecifiedUptoRow.laidByTextAt .later Tryz.pinned [.data, .data] true :=
  OpenClaim.laidByTextAt_later rfl rfl tie2 noOwnUnsafe
end Go.Proofs.YtjcdfjldcinopaaGreatDoor
