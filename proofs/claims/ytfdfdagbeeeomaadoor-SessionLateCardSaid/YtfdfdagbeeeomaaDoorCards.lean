/-
  DERIVED. GIVEN WITH THE SEED: THE CARDS: each row of YtfdfdagbeeeomaaDoorRows.lean that lists a variable, with what it lists TIED to the program's text (the seventh form; the later family's looks); each row that meets fmt, with fmt's text TOLD by the authors' own Lean function (tested against real Go, not proved from fmt's source: count such statements apart). THE CARD IS WHAT COUNTS. Prove the row's statement (the work); the ties are given (YtfdfdagbeeeomaaDoorTie.lean); close each card by the builder's one call (the guide's Derived/Test/ToyasCard.lean, 'card_holds'). Laid BY PROGRAM, IN A SANDBOX (cutbox-door.mjs). By AI agents, Wed Nov 11 2026. No macro, syntax, notation, axiom, sorry.
-/
import Derived.Test.YtfdfdagbeeeomaaDoorRows
import GoSem.ClaimSeven
namespace Go.Proofs.YtfdfdagbeeeomaaDoor
namespace Rows

/-- THE TIED CARD OF 'longwirelaw12.SessionLate'. -/
def sessionLateCard : Claim7 := { stood := { row := sessionLateRow, standIns := [], harness := (true, "1508e93a34ec643ad1e57e70dd69e91ccc89bd2ca0d9d5af0b342d71ff230b71"), looks := false }, kinds := [], alts := [], laidByText := true, laidKinds := [.data, .data, .data, .funcs], laidTests := true, laidLooks := .later }
def SessionLateCardSaid : Prop := Claim7.holds Tryd.pinned (.plain (OpenSpec.ofChange sessionLateSpec)) sessionLateCard

/-- THE TIED CARD OF 'longwirelaw12.SessionBoth'. -/
def sessionBothCard : Claim7 := { stood := { row := sessionBothRow, standIns := [], harness := (true, "1508e93a34ec643ad1e57e70dd69e91ccc89bd2ca0d9d5af0b342d71ff230b71"), looks := false }, kinds := [], alts := [], laidByText := true, laidKinds := [.data, .data, .data, .funcs], laidTests := true, laidLooks := .later }
def SessionBothCardSaid : Prop := Claim7.holds Tryd.pinned (.plain (OpenSpec.ofChange sessionBothSpec)) sessionBothCard

/-- THE SECOND FORM's CARD OF 'longwirelaw12.SessionLate'. -/
def sessionLateUptoCard : Claim7 := { stood := { row := sessionLateUptoRow, standIns := [], harness := (true, "1508e93a34ec643ad1e57e70dd69e91ccc89bd2ca0d9d5af0b342d71ff230b71"), looks := false }, kinds := [], alts := [], laidByText := true, laidKinds := [.data, .data, .data, .funcs], laidTests := true, laidLooks := .later }
def SessionLateUptoCardSaid : Prop := Claim7.holds Tryd.pinned (.plain (OpenSpec.upto sessionLateSpec)) sessionLateUptoCard

/-- THE SECOND FORM's CARD OF 'longwirelaw12.SessionBoth'. -/
def sessionBothUptoCard : Claim7 := { stood := { row := sessionBothUptoRow, standIns := [], harness := (true, "1508e93a34ec643ad1e57e70dd69e91ccc89bd2ca0d9d5af0b342d71ff230b71"), looks := false }, kinds := [], alts := [], laidByText := true, laidKinds := [.data, .data, .data, .funcs], laidTests := true, laidLooks := .later }
def SessionBothUptoCardSaid : Prop := Claim7.holds Tryd.pinned (.plain (OpenSpec.upto sessionBothSpec)) sessionBothUptoCard
end Rows
end Go.Proofs.YtfdfdagbeeeomaaDoor
