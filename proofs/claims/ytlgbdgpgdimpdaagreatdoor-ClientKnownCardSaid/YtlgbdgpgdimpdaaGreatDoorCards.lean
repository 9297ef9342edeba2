/-
  DERIVED. GIVEN WITH THE SEED: THE CARDS: each row of YtlgbdgpgdimpdaaGreatDoorRows.lean that lists a variable, with what it lists TIED to the program's text (the seventh form; the later family's looks); each row that meets fmt, with fmt's text TOLD by the authors' own Lean function (tested against real Go, not proved from fmt's source: count such statements apart). THE CARD IS WHAT COUNTS. Prove the row's statement (the work); the ties are given (YtlgbdgpgdimpdaaGreatDoorTie.lean); close each card by the builder's one call (the guide's Derived/Test/ToyasCard.lean, 'card_holds'). Laid BY PROGRAM, IN A SANDBOX (cutbox-door.mjs). By AI agents, Wed Nov 11 2026. No macro, syntax, notation, axiom, sorry.
-/
import Derived.Test.YtlgbdgpgdimpdaaGreatDoorRows
import GoSem.ClaimSeven
namespace Go.Proofs.YtlgbdgpgdimpdaaGreatDoor
namespace Rows

/-- THE TIED CARD OF 'longwirelaw29.ClientKnown'. -/
def clientKnownCard : Claim7 := { stood := { row := clientKnownRow, standIns := [], harness := (true, "2ce8e6a960520b091e836cf5524e546ee1772abb17d1de2475e11d58765f3640"), looks := true }, kinds := [], alts := [], laidByText := true, laidKinds := [.data, .data, .data, .funcs, .data], laidTests := true, laidLooks := .later }
def ClientKnownCardSaid : Prop := Claim7.holds Tryz.pinned (.plain (OpenSpec.ofChange clientKnownSpec)) clientKnownCard

/-- THE SECOND FORM's CARD OF 'longwirelaw29.ClientKnown'. -/
def clientKnownUptoCard : Claim7 := { stood := { row := clientKnownUptoRow, standIns := [], harness := (true, "2ce8e6a960520b091e836cf5524e546ee1772abb17d1de2475e11d58765f3640"), looks := true }, kinds := [], alts := [], laidByText := true, laidKinds := [.data, .data, .data, .funcs, .data], laidTests := true, laidLooks := .later }
def ClientKnownUptoCardSaid : Prop := Claim7.holds Tryz.pinned (.plain (OpenSpec.upto clientKnownSpec)) clientKnownUptoCard
end Rows
end Go.Proofs.YtlgbdgpgdimpdaaGreatDoor
