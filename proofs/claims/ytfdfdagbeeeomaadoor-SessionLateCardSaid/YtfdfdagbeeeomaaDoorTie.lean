/-
  DERIVED. GIVEN WITH THE SEED: THE PROGRAM's TIES (one call each: nine closed facts by the kernel) AND EACH ROW's TIE, after the 31st guide's Derived/Test/Toyas{Tie, Card}.lean. No idea stands in it: it is a product of the set-up. Laid BY PROGRAM, IN A SANDBOX (cutbox-door.mjs). By AI agents, Wed Nov 11 2026. No macro, syntax, notation, axiom, sorry.
-/
import Derived.Test.YtfdfdagbeeeomaaDoorRows
import Derived.LaidByTextLater
import Derived.SevenTiedAt
import Derived.LaidSub
import Derived.LaidOnce
namespace Go.Proofs.YtfdfdagbeeeomaaDoor
open Go
set_option maxRecDepth 100000
theorem seatTie1 : Tryd.prog.laidByTextLater [("longwire/hash.start", Rows.laid_longwire_hash_start), ("longwire/hash.constants", Rows.laid_longwire_hash_constants), ("longwire/scribe.table", Rows.laid_longwire_scribe_table), ("longwire/frame.may", Rows.laid_longwire_frame_may)] [.data, .data, .data, .funcs] true :=
  Program.laidByTextLater_by_one 29 8 65 (by kernel_rfl) (by kernel_rfl) (by kernel_rfl) (by kernel_rfl) (by kernel_rfl) (by kernel_rfl) (fun _ _ => by kernel_rfl)
theorem noOwnUnsafe : Tryd.pinned.checked.prog.headLifts.contains "ownunsafe" = false := by kernel_rfl
theorem tie : Tryd.prog.laidByTextLater [("longwire/hash.start", Rows.laid_longwire_hash_start), ("longwire/hash.constants", Rows.laid_longwire_hash_constants), ("longwire/scribe.table", Rows.laid_longwire_scribe_table), ("longwire/frame.may", Rows.laid_longwire_frame_may)] [.data, .data, .data, .funcs] true :=
  Program.laidByTextLater.sub seatTie1 ["longwire/hash.start", "longwire/hash.constants", "longwire/scribe.table", "longwire/frame.may"] (by kernel_rfl) (by kernel_rfl)
theorem sessionLate_row_tie : Rows.sessionLateRow.laidByTextAt .later Tryd.pinned [.data, .data, .data, .funcs] true :=
  OpenClaim.laidByTextAt_later rfl rfl tie noOwnUnsafe
theorem sessionBoth_row_tie : Rows.sessionBothRow.laidByTextAt .later Tryd.pinned [.data, .data, .data, .funcs] true :=
  OpenClaim.laidByTextAt_later rfl rfl tie noOwnUnsafe
theorem sessionLateUpto_row_tie : Rows.sessionLateUptoRow.laidByTextAt .later Tryd.pinned [.data, .data, .data, .funcs] true :=
  OpenClaim.laidByTextAt_later rfl rfl tie noOwnUnsafe
theorem sessionBothUpto_row_tie : Rows.sessionBothUptoRow.laidByTextAt .later Tryd.pinned [.data, .data, .data, .funcs] true :=
  OpenClaim.laidByTextAt_later rfl rfl tie noOwnUnsafe
end Go.Proofs.YtfdfdagbeeeomaaDoor
