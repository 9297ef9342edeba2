/-
  DERIVED. GIVEN WITH THE SEED: THE CARDS: each row of YtjoakhpdajlhiaaGreatDoorRows.lean that lists a variable, with what it lists TIED to the program's text (the seventh form; the later family's looks); each row that meets fmt, with fmt's text TOLD by the authors' own Lean function (tested against real Go, not proved from fmt's source: count such statements apart). THE CARD IS WHAT COUNTS. Prove the row's statement (the work); the ties are given (YtjoakhpdajlhiaaGreatDoorTie.lean); close each card by the builder's one call (the guide's Derived/Test/ToyasCard.lean, 'card_holds'). Laid BY PROGRAM, IN A SANDBOX (cutbox-door.mjs). By AI agents, Wed Nov 11 2026. No macro, syntax, notation, axiom, sorry.
-/
import Derived.Test.YtjoakhpdajlhiaaGreatDoorRows
import GoSem.ClaimSeven
namespace Go.Proofs.YtjoakhpdajlhiaaGreatDoor
namespace Rows

/-- THE TIED CARD OF 'longwirelaw20.FilesPlays'. -/
def filesPlaysCard : Claim7 := { stood := { row := filesPlaysRow, standIns := [], harness := (true, "73f655a10d4e082b1d4136d1596d66d94800e9e33acbc9fa1f77a76a7b4b2ab5"), looks := true }, kinds := [], alts := [], laidByText := true, laidKinds := [.data, .pinned], laidTests := true, laidLooks := .later }
def FilesPlaysCardSaid : Prop := Claim7.holds Tryz.pinned (.plain (OpenSpec.ofChange filesPlaysSpec)) filesPlaysCard

/-- THE SECOND FORM's CARD OF 'longwirelaw20.FilesPlays'. -/
def filesPlaysUptoCard : Claim7 := { stood := { row := filesPlaysUptoRow, standIns := [], harness := (true, "73f655a10d4e082b1d4136d1596d66d94800e9e33acbc9fa1f77a76a7b4b2ab5"), looks := true }, kinds := [], alts := [], laidByText := true, laidKinds := [.data, .pinned], laidTests := true, laidLooks := .later }
def FilesPlaysUptoCardSaid : Prop := Claim7.holds Tryz.pinned (.plain (OpenSpec.upto filesPlaysSpec)) filesPlaysUptoCard
end Rows
end Go.Proofs.YtjoakhpdajlhiaaGreatDoor
