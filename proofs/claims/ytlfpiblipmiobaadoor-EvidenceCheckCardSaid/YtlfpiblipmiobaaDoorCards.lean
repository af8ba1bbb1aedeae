/-
  DERIVED. GIVEN WITH THE SEED: THE CARDS: each row of YtlfpiblipmiobaaDoorRows.lean that lists a variable, with what it lists TIED to the program's text (the seventh form; the later family's looks); each row that meets fmt, with fmt's text TOLD by the authors' own Lean function (tested against real Go, not proved from fmt's source: count such statements apart). THE CARD IS WHAT COUNTS. Prove the row's statement (the work); the ties are given (YtlfpiblipmiobaaDoorTie.lean); close each card by the builder's one call (the guide's Derived/Test/ToyasCard.lean, 'card_holds'). Laid BY PROGRAM, IN A SANDBOX (cutbox-door.mjs). By AI agents, Wed Nov 11 2026. No macro, syntax, notation, axiom, sorry.
-/
import Derived.Test.YtlfpiblipmiobaaDoorRows
import GoSem.ClaimSeven
namespace Go.Proofs.YtlfpiblipmiobaaDoor
namespace Rows

/-- THE TIED CARD OF 'speculumlaw32.EvidenceCheck'. -/
def evidenceCheckCard : Claim7 := { stood := { row := evidenceCheckRow, standIns := [], harness := (true, "1ae6f6b28677195b730cec59f6380c4dccecc70544ad29a31bc12f052b979ed2"), looks := false }, kinds := [], alts := [], laidByText := true, laidKinds := [.data, .data], laidTests := true, laidLooks := .later }
def EvidenceCheckCardSaid : Prop := Claim7.holds Tryd.pinned (.plain (OpenSpec.ofChange evidenceCheckSpec)) evidenceCheckCard

/-- THE TIED CARD OF 'speculumlaw32.EvidenceFind'. -/
def evidenceFindCard : Claim7 := { stood := { row := evidenceFindRow, standIns := [], harness := (true, "1ae6f6b28677195b730cec59f6380c4dccecc70544ad29a31bc12f052b979ed2"), looks := false }, kinds := [], alts := [], laidByText := true, laidKinds := [.data, .data], laidTests := true, laidLooks := .later }
def EvidenceFindCardSaid : Prop := Claim7.holds Tryd.pinned (.plain (OpenSpec.ofChange evidenceFindSpec)) evidenceFindCard

/-- THE TIED CARD OF 'speculumlaw31.PoolFull'. -/
def poolFullCard : Claim7 := { stood := { row := poolFullRow, standIns := [], harness := (true, "1ae6f6b28677195b730cec59f6380c4dccecc70544ad29a31bc12f052b979ed2"), looks := false }, kinds := [], alts := [], laidByText := true, laidKinds := [.data, .data], laidTests := true, laidLooks := .later }
def PoolFullCardSaid : Prop := Claim7.holds Tryd.pinned (.plain (OpenSpec.ofChange poolFullSpec)) poolFullCard

/-- THE TIED CARD OF 'speculumlaw31.PoolForks'. -/
def poolForksCard : Claim7 := { stood := { row := poolForksRow, standIns := [], harness := (true, "1ae6f6b28677195b730cec59f6380c4dccecc70544ad29a31bc12f052b979ed2"), looks := false }, kinds := [], alts := [], laidByText := true, laidKinds := [.data, .data], laidTests := true, laidLooks := .later }
def PoolForksCardSaid : Prop := Claim7.holds Tryd.pinned (.plain (OpenSpec.ofChange poolForksSpec)) poolForksCard

/-- THE TIED CARD OF 'speculumlaw31.PoolOrder'. -/
def poolOrderCard : Claim7 := { stood := { row := poolOrderRow, standIns := [], harness := (true, "1ae6f6b28677195b730cec59f6380c4dccecc70544ad29a31bc12f052b979ed2"), looks := false }, kinds := [], alts := [], laidByText := true, laidKinds := [.data, .data], laidTests := true, laidLooks := .later }
def PoolOrderCardSaid : Prop := Claim7.holds Tryd.pinned (.plain (OpenSpec.ofChange poolOrderSpec)) poolOrderCard

/-- THE TIED CARD OF 'speculumlaw31.PoolNone'. -/
def poolNoneCard : Claim7 := { stood := { row := poolNoneRow, standIns := [], harness := (true, "1ae6f6b28677195b730cec59f6380c4dccecc70544ad29a31bc12f052b979ed2"), looks := false }, kinds := [], alts := [], laidByText := true, laidKinds := [.data, .data], laidTests := true, laidLooks := .later }
def PoolNoneCardSaid : Prop := Claim7.holds Tryd.pinned (.plain (OpenSpec.ofChange poolNoneSpec)) poolNoneCard

/-- THE TIED CARD OF 'speculumlaw32.EvidenceBack'. -/
def evidenceBackCard : Claim7 := { stood := { row := evidenceBackRow, standIns := [], harness := (true, "1ae6f6b28677195b730cec59f6380c4dccecc70544ad29a31bc12f052b979ed2"), looks := false }, kinds := [], alts := [], laidByText := true, laidKinds := [.data, .data], laidTests := true, laidLooks := .later }
def EvidenceBackCardSaid : Prop := Claim7.holds Tryd.pinned (.plain (OpenSpec.ofChange evidenceBackSpec)) evidenceBackCard

/-- THE SECOND FORM's CARD OF 'speculumlaw32.EvidenceCheck'. -/
def evidenceCheckUptoCard : Claim7 := { stood := { row := evidenceCheckUptoRow, standIns := [], harness := (true, "1ae6f6b28677195b730cec59f6380c4dccecc70544ad29a31bc12f052b979ed2"), looks := false }, kinds := [], alts := [], laidByText := true, laidKinds := [.data, .data], laidTests := true, laidLooks := .later }
def EvidenceCheckUptoCardSaid : Prop := Claim7.holds Tryd.pinned (.plain (OpenSpec.upto evidenceCheckSpec)) evidenceCheckUptoCard

/-- THE SECOND FORM's CARD OF 'speculumlaw32.EvidenceFind'. -/
def evidenceFindUptoCard : Claim7 := { stood := { row := evidenceFindUptoRow, standIns := [], harness := (true, "1ae6f6b28677195b730cec59f6380c4dccecc70544ad29a31bc12f052b979ed2"), looks := false }, kinds := [], alts := [], laidByText := true, laidKinds := [.data, .data], laidTests := true, laidLooks := .later }
def EvidenceFindUptoCardSaid : Prop := Claim7.holds Tryd.pinned (.plain (OpenSpec.upto evidenceFindSpec)) evidenceFindUptoCard

/-- THE SECOND FORM's CARD OF 'speculumlaw31.PoolFull'. -/
def poolFullUptoCard : Claim7 := { stood := { row := poolFullUptoRow, standIns := [], harness := (true, "1ae6f6b28677195b730cec59f6380c4dccecc70544ad29a31bc12f052b979ed2"), looks := false }, kinds := [], alts := [], laidByText := true, laidKinds := [.data, .data], laidTests := true, laidLooks := .later }
def PoolFullUptoCardSaid : Prop := Claim7.holds Tryd.pinned (.plain (OpenSpec.upto poolFullSpec)) poolFullUptoCard

/-- THE SECOND FORM's CARD OF 'speculumlaw31.PoolForks'. -/
def poolForksUptoCard : Claim7 := { stood := { row := poolForksUptoRow, standIns := [], harness := (true, "1ae6f6b28677195b730cec59f6380c4dccecc70544ad29a31bc12f052b979ed2"), looks := false }, kinds := [], alts := [], laidByText := true, laidKinds := [.data, .data], laidTests := true, laidLooks := .later }
def PoolForksUptoCardSaid : Prop := Claim7.holds Tryd.pinned (.plain (OpenSpec.upto poolForksSpec)) poolForksUptoCard

/-- THE SECOND FORM's CARD OF 'speculumlaw31.PoolOrder'. -/
def poolOrderUptoCard : Claim7 := { stood := { row := poolOrderUptoRow, standIns := [], harness := (true, "1ae6f6b28677195b730cec59f6380c4dccecc70544ad29a31bc12f052b979ed2"), looks := false }, kinds := [], alts := [], laidByText := true, laidKinds := [.data, .data], laidTests := true, laidLooks := .later }
def PoolOrderUptoCardSaid : Prop := Claim7.holds Tryd.pinned (.plain (OpenSpec.upto poolOrderSpec)) poolOrderUptoCard

/-- THE SECOND FORM's CARD OF 'speculumlaw31.PoolNone'. -/
def poolNoneUptoCard : Claim7 := { stood := { row := poolNoneUptoRow, standIns := [], harness := (true, "1ae6f6b28677195b730cec59f6380c4dccecc70544ad29a31bc12f052b979ed2"), looks := false }, kinds := [], alts := [], laidByText := true, laidKinds := [.data, .data], laidTests := true, laidLooks := .later }
def PoolNoneUptoCardSaid : Prop := Claim7.holds Tryd.pinned (.plain (OpenSpec.upto poolNoneSpec)) poolNoneUptoCard

/-- THE SECOND FORM's CARD OF 'speculumlaw32.EvidenceBack'. -/
def evidenceBackUptoCard : Claim7 := { stood := { row := evidenceBackUptoRow, standIns := [], harness := (true, "1ae6f6b28677195b730cec59f6380c4dccecc70544ad29a31bc12f052b979ed2"), looks := false }, kinds := [], alts := [], laidByText := true, laidKinds := [.data, .data], laidTests := true, laidLooks := .later }
def EvidenceBackUptoCardSaid : Prop := Claim7.holds Tryd.pinned (.plain (OpenSpec.upto evidenceBackSpec)) evidenceBackUptoCard
end Rows
end Go.Proofs.YtlfpiblipmiobaaDoor
