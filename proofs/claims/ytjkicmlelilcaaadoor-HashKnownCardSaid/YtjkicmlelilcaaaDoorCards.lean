/-
  DERIVED. GIVEN WITH THE SEED: THE CARDS: each row of YtjkicmlelilcaaaDoorRows.lean that lists a variable, with what it lists TIED to the program's text (the seventh form; the later family's looks); each row that meets fmt, with fmt's text TOLD by the authors' own Lean function (tested against real Go, not proved from fmt's source: count such statements apart). THE CARD IS WHAT COUNTS. Prove the row's statement (the work); the ties are given (YtjkicmlelilcaaaDoorTie.lean); close each card by the builder's one call (the guide's Derived/Test/ToyasCard.lean, 'card_holds'). Laid BY PROGRAM, IN A SANDBOX (cutbox-door.mjs). By AI agents, Wed Nov 11 2026. No macro, syntax, notation, axiom, sorry.
-/
import Derived.Test.YtjkicmlelilcaaaDoorRows
import GoSem.ClaimSeven
namespace Go.Proofs.YtjkicmlelilcaaaDoor
namespace Rows

/-- THE TIED CARD OF 'longwirelaw02.HashTells'. -/
def hashTellsCard : Claim7 := { stood := { row := hashTellsRow, standIns := [], harness := (true, "b95c51890e0ac00223192fa573d04c92426d528cabe609b227e415e40407efd9"), looks := false }, kinds := [], alts := [], laidByText := true, laidKinds := [.data, .widerDeep, .data, .data], laidTests := true, laidLooks := .later }
def HashTellsCardSaid : Prop := Claim7.holds Tryd.pinned (.plain (OpenSpec.ofChange hashTellsSpec)) hashTellsCard

/-- THE TIED CARD OF 'longwirelaw02.HashParts'. -/
def hashPartsCard : Claim7 := { stood := { row := hashPartsRow, standIns := [], harness := (true, "b95c51890e0ac00223192fa573d04c92426d528cabe609b227e415e40407efd9"), looks := false }, kinds := [], alts := [], laidByText := true, laidKinds := [.data, .data], laidTests := true, laidLooks := .later }
def HashPartsCardSaid : Prop := Claim7.holds Tryd.pinned (.plain (OpenSpec.ofChange hashPartsSpec)) hashPartsCard

/-- THE TIED CARD OF 'longwirelaw02.HashKeys'. -/
def hashKeysCard : Claim7 := { stood := { row := hashKeysRow, standIns := [], harness := (true, "b95c51890e0ac00223192fa573d04c92426d528cabe609b227e415e40407efd9"), looks := false }, kinds := [], alts := [], laidByText := true, laidKinds := [.data, .data], laidTests := true, laidLooks := .later }
def HashKeysCardSaid : Prop := Claim7.holds Tryd.pinned (.plain (OpenSpec.ofChange hashKeysSpec)) hashKeysCard

/-- THE TIED CARD OF 'longwirelaw02.HashKnown'. -/
def hashKnownCard : Claim7 := { stood := { row := hashKnownRow, standIns := [], harness := (true, "b95c51890e0ac00223192fa573d04c92426d528cabe609b227e415e40407efd9"), looks := false }, kinds := [], alts := [], laidByText := true, laidKinds := [.data, .data], laidTests := true, laidLooks := .later }
def HashKnownCardSaid : Prop := Claim7.holds Tryd.pinned (.plain (OpenSpec.ofChange hashKnownSpec)) hashKnownCard

/-- THE TIED CARD OF 'longwirelaw03.SealDerives'. -/
def sealDerivesCard : Claim7 := { stood := { row := sealDerivesRow, standIns := [], harness := (true, "b95c51890e0ac00223192fa573d04c92426d528cabe609b227e415e40407efd9"), looks := false }, kinds := [], alts := [], laidByText := true, laidKinds := [.data, .widerDeep, .data, .data], laidTests := true, laidLooks := .later }
def SealDerivesCardSaid : Prop := Claim7.holds Tryd.pinned (.plain (OpenSpec.ofChange sealDerivesSpec)) sealDerivesCard

/-- THE TIED CARD OF 'longwirelaw03.SealTags'. -/
def sealTagsCard : Claim7 := { stood := { row := sealTagsRow, standIns := [], harness := (true, "b95c51890e0ac00223192fa573d04c92426d528cabe609b227e415e40407efd9"), looks := false }, kinds := [], alts := [], laidByText := true, laidKinds := [.data, .data], laidTests := true, laidLooks := .later }
def SealTagsCardSaid : Prop := Claim7.holds Tryd.pinned (.plain (OpenSpec.ofChange sealTagsSpec)) sealTagsCard

/-- THE TIED CARD OF 'longwirelaw03.SealApart'. -/
def sealApartCard : Claim7 := { stood := { row := sealApartRow, standIns := [], harness := (true, "b95c51890e0ac00223192fa573d04c92426d528cabe609b227e415e40407efd9"), looks := false }, kinds := [], alts := [], laidByText := true, laidKinds := [.data, .data], laidTests := true, laidLooks := .later }
def SealApartCardSaid : Prop := Claim7.holds Tryd.pinned (.plain (OpenSpec.ofChange sealApartSpec)) sealApartCard

/-- THE TIED CARD OF 'longwirelaw03.SealRings'. -/
def sealRingsCard : Claim7 := { stood := { row := sealRingsRow, standIns := [], harness := (true, "b95c51890e0ac00223192fa573d04c92426d528cabe609b227e415e40407efd9"), looks := false }, kinds := [], alts := [], laidByText := true, laidKinds := [.data, .widerDeep, .data, .data], laidTests := true, laidLooks := .later }
def SealRingsCardSaid : Prop := Claim7.holds Tryd.pinned (.plain (OpenSpec.ofChange sealRingsSpec)) sealRingsCard

/-- THE TIED CARD OF 'longwirelaw03.SealWays'. -/
def sealWaysCard : Claim7 := { stood := { row := sealWaysRow, standIns := [], harness := (true, "b95c51890e0ac00223192fa573d04c92426d528cabe609b227e415e40407efd9"), looks := false }, kinds := [], alts := [], laidByText := true, laidKinds := [.data, .data], laidTests := true, laidLooks := .later }
def SealWaysCardSaid : Prop := Claim7.holds Tryd.pinned (.plain (OpenSpec.ofChange sealWaysSpec)) sealWaysCard

/-- THE SECOND FORM's CARD OF 'longwirelaw02.HashTells'. -/
def hashTellsUptoCard : Claim7 := { stood := { row := hashTellsUptoRow, standIns := [], harness := (true, "b95c51890e0ac00223192fa573d04c92426d528cabe609b227e415e40407efd9"), looks := false }, kinds := [], alts := [], laidByText := true, laidKinds := [.data, .widerDeep, .data, .data], laidTests := true, laidLooks := .later }
def HashTellsUptoCardSaid : Prop := Claim7.holds Tryd.pinned (.plain (OpenSpec.upto hashTellsSpec)) hashTellsUptoCard

/-- THE SECOND FORM's CARD OF 'longwirelaw02.HashParts'. -/
def hashPartsUptoCard : Claim7 := { stood := { row := hashPartsUptoRow, standIns := [], harness := (true, "b95c51890e0ac00223192fa573d04c92426d528cabe609b227e415e40407efd9"), looks := false }, kinds := [], alts := [], laidByText := true, laidKinds := [.data, .data], laidTests := true, laidLooks := .later }
def HashPartsUptoCardSaid : Prop := Claim7.holds Tryd.pinned (.plain (OpenSpec.upto hashPartsSpec)) hashPartsUptoCard

/-- THE SECOND FORM's CARD OF 'longwirelaw02.HashKeys'. -/
def hashKeysUptoCard : Claim7 := { stood := { row := hashKeysUptoRow, standIns := [], harness := (true, "b95c51890e0ac00223192fa573d04c92426d528cabe609b227e415e40407efd9"), looks := false }, kinds := [], alts := [], laidByText := true, laidKinds := [.data, .data], laidTests := true, laidLooks := .later }
def HashKeysUptoCardSaid : Prop := Claim7.holds Tryd.pinned (.plain (OpenSpec.upto hashKeysSpec)) hashKeysUptoCard

/-- THE SECOND FORM's CARD OF 'longwirelaw02.HashKnown'. -/
def hashKnownUptoCard : Claim7 := { stood := { row := hashKnownUptoRow, standIns := [], harness := (true, "b95c51890e0ac00223192fa573d04c92426d528cabe609b227e415e40407efd9"), looks := false }, kinds := [], alts := [], laidByText := true, laidKinds := [.data, .data], laidTests := true, laidLooks := .later }
def HashKnownUptoCardSaid : Prop := Claim7.holds Tryd.pinned (.plain (OpenSpec.upto hashKnownSpec)) hashKnownUptoCard

/-- THE SECOND FORM's CARD OF 'longwirelaw03.SealDerives'. -/
def sealDerivesUptoCard : Claim7 := { stood := { row := sealDerivesUptoRow, standIns := [], harness := (true, "b95c51890e0ac00223192fa573d04c92426d528cabe609b227e415e40407efd9"), looks := false }, kinds := [], alts := [], laidByText := true, laidKinds := [.data, .widerDeep, .data, .data], laidTests := true, laidLooks := .later }
def SealDerivesUptoCardSaid : Prop := Claim7.holds Tryd.pinned (.plain (OpenSpec.upto sealDerivesSpec)) sealDerivesUptoCard

/-- THE SECOND FORM's CARD OF 'longwirelaw03.SealTags'. -/
def sealTagsUptoCard : Claim7 := { stood := { row := sealTagsUptoRow, standIns := [], harness := (true, "b95c51890e0ac00223192fa573d04c92426d528cabe609b227e415e40407efd9"), looks := false }, kinds := [], alts := [], laidByText := true, laidKinds := [.data, .data], laidTests := true, laidLooks := .later }
def SealTagsUptoCardSaid : Prop := Claim7.holds Tryd.pinned (.plain (OpenSpec.upto sealTagsSpec)) sealTagsUptoCard

/-- THE SECOND FORM's CARD OF 'longwirelaw03.SealApart'. -/
def sealApartUptoCard : Claim7 := { stood := { row := sealApartUptoRow, standIns := [], harness := (true, "b95c51890e0ac00223192fa573d04c92426d528cabe609b227e415e40407efd9"), looks := false }, kinds := [], alts := [], laidByText := true, laidKinds := [.data, .data], laidTests := true, laidLooks := .later }
def SealApartUptoCardSaid : Prop := Claim7.holds Tryd.pinned (.plain (OpenSpec.upto sealApartSpec)) sealApartUptoCard

/-- THE SECOND FORM's CARD OF 'longwirelaw03.SealRings'. -/
def sealRingsUptoCard : Claim7 := { stood := { row := sealRingsUptoRow, standIns := [], harness := (true, "b95c51890e0ac00223192fa573d04c92426d528cabe609b227e415e40407efd9"), looks := false }, kinds := [], alts := [], laidByText := true, laidKinds := [.data, .widerDeep, .data, .data], laidTests := true, laidLooks := .later }
def SealRingsUptoCardSaid : Prop := Claim7.holds Tryd.pinned (.plain (OpenSpec.upto sealRingsSpec)) sealRingsUptoCard

/-- THE SECOND FORM's CARD OF 'longwirelaw03.SealWays'. -/
def sealWaysUptoCard : Claim7 := { stood := { row := sealWaysUptoRow, standIns := [], harness := (true, "b95c51890e0ac00223192fa573d04c92426d528cabe609b227e415e40407efd9"), looks := false }, kinds := [], alts := [], laidByText := true, laidKinds := [.data, .data], laidTests := true, laidLooks := .later }
def SealWaysUptoCardSaid : Prop := Claim7.holds Tryd.pinned (.plain (OpenSpec.upto sealWaysSpec)) sealWaysUptoCard
end Rows
end Go.Proofs.YtjkicmlelilcaaaDoor
