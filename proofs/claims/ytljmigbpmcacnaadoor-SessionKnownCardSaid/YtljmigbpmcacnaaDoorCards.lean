/-
  DERIVED. GIVEN WITH THE SEED: THE CARDS: each row of YtljmigbpmcacnaaDoorRows.lean that lists a variable, with what it lists TIED to the program's text (the seventh form; the later family's looks); each row that meets fmt, with fmt's text TOLD by the authors' own Lean function (tested against real Go, not proved from fmt's source: count such statements apart). THE CARD IS WHAT COUNTS. Prove the row's statement (the work); the ties are given (YtljmigbpmcacnaaDoorTie.lean); close each card by the builder's one call (the guide's Derived/Test/ToyasCard.lean, 'card_holds'). Laid BY PROGRAM, IN A SANDBOX (cutbox-door.mjs). By AI agents, Wed Nov 11 2026. No macro, syntax, notation, axiom, sorry.
-/
import Derived.Test.YtljmigbpmcacnaaDoorRows
import GoSem.ClaimSeven
namespace Go.Proofs.YtljmigbpmcacnaaDoor
namespace Rows

/-- THE TIED CARD OF 'longwirelaw12.SessionLate'. -/
def sessionLateCard : Claim7 := { stood := { row := sessionLateRow, standIns := [], harness := (true, "3daa5f5f2661f187de33d41529ab2ec424444567d23553dae16f283402f54bff"), looks := false }, kinds := [], alts := [], laidByText := true, laidKinds := [.data, .data, .data, .funcs], laidTests := true, laidLooks := .later }
def SessionLateCardSaid : Prop := Claim7.holds Tryd.pinned (.plain (OpenSpec.ofChange sessionLateSpec)) sessionLateCard

/-- THE TIED CARD OF 'longwirelaw12.SessionKnown'. -/
def sessionKnownCard : Claim7 := { stood := { row := sessionKnownRow, standIns := [], harness := (true, "3daa5f5f2661f187de33d41529ab2ec424444567d23553dae16f283402f54bff"), looks := false }, kinds := [], alts := [], laidByText := true, laidKinds := [.data, .data, .data, .funcs], laidTests := true, laidLooks := .later }
def SessionKnownCardSaid : Prop := Claim7.holds Tryd.pinned (.plain (OpenSpec.ofChange sessionKnownSpec)) sessionKnownCard

/-- THE TIED CARD OF 'longwirelaw12.SessionBoth'. -/
def sessionBothCard : Claim7 := { stood := { row := sessionBothRow, standIns := [], harness := (true, "3daa5f5f2661f187de33d41529ab2ec424444567d23553dae16f283402f54bff"), looks := false }, kinds := [], alts := [], laidByText := true, laidKinds := [.data, .data, .data, .funcs], laidTests := true, laidLooks := .later }
def SessionBothCardSaid : Prop := Claim7.holds Tryd.pinned (.plain (OpenSpec.ofChange sessionBothSpec)) sessionBothCard

/-- THE SECOND FORM's CARD OF 'longwirelaw12.SessionLate'. -/
def sessionLateUptoCard : Claim7 := { stood := { row := sessionLateUptoRow, standIns := [], harness := (true, "3daa5f5f2661f187de33d41529ab2ec424444567d23553dae16f283402f54bff"), looks := false }, kinds := [], alts := [], laidByText := true, laidKinds := [.data, .data, .data, .funcs], laidTests := true, laidLooks := .later }
def SessionLateUptoCardSaid : Prop := Claim7.holds Tryd.pinned (.plain (OpenSpec.upto sessionLateSpec)) sessionLateUptoCard

/-- THE SECOND FORM's CARD OF 'longwirelaw12.SessionKnown'. -/
def sessionKnownUptoCard : Claim7 := { stood := { row := sessionKnownUptoRow, standIns := [], harness := (true, "3daa5f5f2661f187de33d41529ab2ec424444567d23553dae16f283402f54bff"), looks := false }, kinds := [], alts := [], laidByText := true, laidKinds := [.data, .data, .data, .funcs], laidTests := true, laidLooks := .later }
def SessionKnownUptoCardSaid : Prop := Claim7.holds Tryd.pinned (.plain (OpenSpec.upto sessionKnownSpec)) sessionKnownUptoCard

/-- THE SECOND FORM's CARD OF 'longwirelaw12.SessionBoth'. -/
def sessionBothUptoCard : Claim7 := { stood := { row := sessionBothUptoRow, standIns := [], harness := (true, "3daa5f5f2661f187de33d41529ab2ec424444567d23553dae16f283402f54bff"), looks := false }, kinds := [], alts := [], laidByText := true, laidKinds := [.data, .data, .data, .funcs], laidTests := true, laidLooks := .later }
def SessionBothUptoCardSaid : Prop := Claim7.holds Tryd.pinned (.plain (OpenSpec.upto sessionBothSpec)) sessionBothUptoCard
end Rows
end Go.Proofs.YtljmigbpmcacnaaDoor
