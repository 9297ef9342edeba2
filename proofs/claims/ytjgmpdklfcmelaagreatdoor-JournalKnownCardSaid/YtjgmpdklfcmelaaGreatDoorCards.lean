/-
  DERIVED. GIVEN WITH THE SEED: THE CARDS: each row of YtjgmpdklfcmelaaGreatDoorRows.lean that lists a variable, with what it lists TIED to the program's text (the seventh form; the later family's looks); each row that meets fmt, with fmt's text TOLD by the authors' own Lean function (tested against real Go, not proved from fmt's source: count such statements apart). THE CARD IS WHAT COUNTS. Prove the row's statement (the work); the ties are given (YtjgmpdklfcmelaaGreatDoorTie.lean); close each card by the builder's one call (the guide's Derived/Test/ToyasCard.lean, 'card_holds'). Laid BY PROGRAM, IN A SANDBOX (cutbox-door.mjs). By AI agents, Wed Nov 11 2026. No macro, syntax, notation, axiom, sorry.
-/
import Derived.Test.YtjgmpdklfcmelaaGreatDoorRows
import GoSem.ClaimSeven
namespace Go.Proofs.YtjgmpdklfcmelaaGreatDoor
namespace Rows

/-- THE TIED CARD OF 'longwirelaw08.ArqKnown'. -/
def arqKnownCard : Claim7 := { stood := { row := arqKnownRow, standIns := [], harness := (true, "46bb49c921fa6f5219421e36c3cdd794e321820093ec924fc093f8f26b463680"), looks := true }, kinds := [], alts := [], laidByText := true, laidKinds := [.data, .data, .data, .funcs], laidTests := true, laidLooks := .later }
def ArqKnownCardSaid : Prop := Claim7.holds Tryz.pinned (.plain (OpenSpec.ofChange arqKnownSpec)) arqKnownCard

/-- THE TIED CARD OF 'longwirelaw20.FilesKnown'. -/
def filesKnownCard : Claim7 := { stood := { row := filesKnownRow, standIns := [], harness := (true, "46bb49c921fa6f5219421e36c3cdd794e321820093ec924fc093f8f26b463680"), looks := true }, kinds := [], alts := [], laidByText := true, laidKinds := [.data, .pinned], laidTests := true, laidLooks := .later }
def FilesKnownCardSaid : Prop := Claim7.holds Tryz.pinned (.plain (OpenSpec.ofChange filesKnownSpec)) filesKnownCard

/-- THE TIED CARD OF 'longwirelaw10.MuxKnown'. -/
def muxKnownCard : Claim7 := { stood := { row := muxKnownRow, standIns := [], harness := (true, "46bb49c921fa6f5219421e36c3cdd794e321820093ec924fc093f8f26b463680"), looks := true }, kinds := [], alts := [], laidByText := true, laidKinds := [.data, .data, .data, .funcs, .data], laidTests := true, laidLooks := .later }
def MuxKnownCardSaid : Prop := Claim7.holds Tryz.pinned (.plain (OpenSpec.ofChange muxKnownSpec)) muxKnownCard

/-- THE TIED CARD OF 'longwirelaw27.JournalKnown'. -/
def journalKnownCard : Claim7 := { stood := { row := journalKnownRow, standIns := [], harness := (true, "46bb49c921fa6f5219421e36c3cdd794e321820093ec924fc093f8f26b463680"), looks := true }, kinds := [], alts := [], laidByText := true, laidKinds := [.data, .data, .pinned], laidTests := true, laidLooks := .later }
def JournalKnownCardSaid : Prop := Claim7.holds Tryz.pinned (.plain (OpenSpec.ofChange journalKnownSpec)) journalKnownCard

/-- THE SECOND FORM's CARD OF 'longwirelaw08.ArqKnown'. -/
def arqKnownUptoCard : Claim7 := { stood := { row := arqKnownUptoRow, standIns := [], harness := (true, "46bb49c921fa6f5219421e36c3cdd794e321820093ec924fc093f8f26b463680"), looks := true }, kinds := [], alts := [], laidByText := true, laidKinds := [.data, .data, .data, .funcs], laidTests := true, laidLooks := .later }
def ArqKnownUptoCardSaid : Prop := Claim7.holds Tryz.pinned (.plain (OpenSpec.upto arqKnownSpec)) arqKnownUptoCard

/-- THE SECOND FORM's CARD OF 'longwirelaw20.FilesKnown'. -/
def filesKnownUptoCard : Claim7 := { stood := { row := filesKnownUptoRow, standIns := [], harness := (true, "46bb49c921fa6f5219421e36c3cdd794e321820093ec924fc093f8f26b463680"), looks := true }, kinds := [], alts := [], laidByText := true, laidKinds := [.data, .pinned], laidTests := true, laidLooks := .later }
def FilesKnownUptoCardSaid : Prop := Claim7.holds Tryz.pinned (.plain (OpenSpec.upto filesKnownSpec)) filesKnownUptoCard

/-- THE SECOND FORM's CARD OF 'longwirelaw10.MuxKnown'. -/
def muxKnownUptoCard : Claim7 := { stood := { row := muxKnownUptoRow, standIns := [], harness := (true, "46bb49c921fa6f5219421e36c3cdd794e321820093ec924fc093f8f26b463680"), looks := true }, kinds := [], alts := [], laidByText := true, laidKinds := [.data, .data, .data, .funcs, .data], laidTests := true, laidLooks := .later }
def MuxKnownUptoCardSaid : Prop := Claim7.holds Tryz.pinned (.plain (OpenSpec.upto muxKnownSpec)) muxKnownUptoCard

/-- THE SECOND FORM's CARD OF 'longwirelaw27.JournalKnown'. -/
def journalKnownUptoCard : Claim7 := { stood := { row := journalKnownUptoRow, standIns := [], harness := (true, "46bb49c921fa6f5219421e36c3cdd794e321820093ec924fc093f8f26b463680"), looks := true }, kinds := [], alts := [], laidByText := true, laidKinds := [.data, .data, .pinned], laidTests := true, laidLooks := .later }
def JournalKnownUptoCardSaid : Prop := Claim7.holds Tryz.pinned (.plain (OpenSpec.upto journalKnownSpec)) journalKnownUptoCard
end Rows
end Go.Proofs.YtjgmpdklfcmelaaGreatDoor
