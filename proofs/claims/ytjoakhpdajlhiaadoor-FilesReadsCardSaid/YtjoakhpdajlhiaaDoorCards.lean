/-
  DERIVED. GIVEN WITH THE SEED: THE CARDS: each row of YtjoakhpdajlhiaaDoorRows.lean that lists a variable, with what it lists TIED to the program's text (the seventh form; the later family's looks); each row that meets fmt, with fmt's text TOLD by the authors' own Lean function (tested against real Go, not proved from fmt's source: count such statements apart). THE CARD IS WHAT COUNTS. Prove the row's statement (the work); the ties are given (YtjoakhpdajlhiaaDoorTie.lean); close each card by the builder's one call (the guide's Derived/Test/ToyasCard.lean, 'card_holds'). Laid BY PROGRAM, IN A SANDBOX (cutbox-door.mjs). By AI agents, Wed Nov 11 2026. No macro, syntax, notation, axiom, sorry.
-/
import Derived.Test.YtjoakhpdajlhiaaDoorRows
import GoSem.ClaimSeven
namespace Go.Proofs.YtjoakhpdajlhiaaDoor
namespace Rows

/-- THE TIED CARD OF 'longwirelaw20.FilesKeeps'. -/
def filesKeepsCard : Claim7 := { stood := { row := filesKeepsRow, standIns := [], harness := (true, "a9373640dee6d02a9283d80d287416b90bf129b01fd703901d425b947b00d5ea"), looks := true }, kinds := [], alts := [], laidByText := true, laidKinds := [.data, .pinned], laidTests := true, laidLooks := .later }
def FilesKeepsCardSaid : Prop := Claim7.holds Tryd.pinned (.plain (OpenSpec.ofChange filesKeepsSpec)) filesKeepsCard

/-- THE TIED CARD OF 'longwirelaw20.FilesReads'. -/
def filesReadsCard : Claim7 := { stood := { row := filesReadsRow, standIns := [], harness := (true, "a9373640dee6d02a9283d80d287416b90bf129b01fd703901d425b947b00d5ea"), looks := true }, kinds := [], alts := [], laidByText := true, laidKinds := [.data, .pinned], laidTests := true, laidLooks := .later }
def FilesReadsCardSaid : Prop := Claim7.holds Tryd.pinned (.plain (OpenSpec.ofChange filesReadsSpec)) filesReadsCard

/-- THE TIED CARD OF 'longwirelaw20.FilesWhole'. -/
def filesWholeCard : Claim7 := { stood := { row := filesWholeRow, standIns := [], harness := (true, "a9373640dee6d02a9283d80d287416b90bf129b01fd703901d425b947b00d5ea"), looks := true }, kinds := [], alts := [], laidByText := true, laidKinds := [.data, .pinned], laidTests := true, laidLooks := .later }
def FilesWholeCardSaid : Prop := Claim7.holds Tryd.pinned (.plain (OpenSpec.ofChange filesWholeSpec)) filesWholeCard

/-- THE TIED CARD OF 'longwirelaw20.FilesPaths'. -/
def filesPathsCard : Claim7 := { stood := { row := filesPathsRow, standIns := [], harness := (true, "a9373640dee6d02a9283d80d287416b90bf129b01fd703901d425b947b00d5ea"), looks := true }, kinds := [], alts := [], laidByText := true, laidKinds := [.data, .pinned], laidTests := true, laidLooks := .later }
def FilesPathsCardSaid : Prop := Claim7.holds Tryd.pinned (.plain (OpenSpec.ofChange filesPathsSpec)) filesPathsCard

/-- THE SECOND FORM's CARD OF 'longwirelaw20.FilesKeeps'. -/
def filesKeepsUptoCard : Claim7 := { stood := { row := filesKeepsUptoRow, standIns := [], harness := (true, "a9373640dee6d02a9283d80d287416b90bf129b01fd703901d425b947b00d5ea"), looks := true }, kinds := [], alts := [], laidByText := true, laidKinds := [.data, .pinned], laidTests := true, laidLooks := .later }
def FilesKeepsUptoCardSaid : Prop := Claim7.holds Tryd.pinned (.plain (OpenSpec.upto filesKeepsSpec)) filesKeepsUptoCard

/-- THE SECOND FORM's CARD OF 'longwirelaw20.FilesReads'. -/
def filesReadsUptoCard : Claim7 := { stood := { row := filesReadsUptoRow, standIns := [], harness := (true, "a9373640dee6d02a9283d80d287416b90bf129b01fd703901d425b947b00d5ea"), looks := true }, kinds := [], alts := [], laidByText := true, laidKinds := [.data, .pinned], laidTests := true, laidLooks := .later }
def FilesReadsUptoCardSaid : Prop := Claim7.holds Tryd.pinned (.plain (OpenSpec.upto filesReadsSpec)) filesReadsUptoCard

/-- THE SECOND FORM's CARD OF 'longwirelaw20.FilesWhole'. -/
def filesWholeUptoCard : Claim7 := { stood := { row := filesWholeUptoRow, standIns := [], harness := (true, "a9373640dee6d02a9283d80d287416b90bf129b01fd703901d425b947b00d5ea"), looks := true }, kinds := [], alts := [], laidByText := true, laidKinds := [.data, .pinned], laidTests := true, laidLooks := .later }
def FilesWholeUptoCardSaid : Prop := Claim7.holds Tryd.pinned (.plain (OpenSpec.upto filesWholeSpec)) filesWholeUptoCard

/-- THE SECOND FORM's CARD OF 'longwirelaw20.FilesPaths'. -/
def filesPathsUptoCard : Claim7 := { stood := { row := filesPathsUptoRow, standIns := [], harness := (true, "a9373640dee6d02a9283d80d287416b90bf129b01fd703901d425b947b00d5ea"), looks := true }, kinds := [], alts := [], laidByText := true, laidKinds := [.data, .pinned], laidTests := true, laidLooks := .later }
def FilesPathsUptoCardSaid : Prop := Claim7.holds Tryd.pinned (.plain (OpenSpec.upto filesPathsSpec)) filesPathsUptoCard
end Rows
end Go.Proofs.YtjoakhpdajlhiaaDoor
