/-
  DERIVED. GIVEN WITH THE SEED: THE CARDS: each row of YtlfpiblipmiobaaGreatDoorRows.lean that lists a variable, with what it lists TIED to the program's text (the seventh form; the later family's looks); each row that meets fmt, with fmt's text TOLD by the authors' own Lean function (tested against real Go, not proved from fmt's source: count such statements apart). THE CARD IS WHAT COUNTS. Prove the row's statement (the work); the ties are given (YtlfpiblipmiobaaGreatDoorTie.lean); close each card by the builder's one call (the guide's Derived/Test/ToyasCard.lean, 'card_holds'). Laid BY PROGRAM, IN A SANDBOX (cutbox-door.mjs). By AI agents, Wed Nov 11 2026. No macro, syntax, notation, axiom, sorry.
-/
import Derived.Test.YtlfpiblipmiobaaGreatDoorRows
import GoSem.ClaimSeven
namespace Go.Proofs.YtlfpiblipmiobaaGreatDoor
namespace Rows

/-- THE TIED CARD OF 'speculumlaw32.EvidenceTell'. -/
def evidenceTellCard : Claim7 := { stood := { row := evidenceTellRow, standIns := [], harness := (true, "0d64418ba2edc0062dd808dc9e084e16f28c33d937eaf9cfd8050d747737b828"), looks := false }, kinds := [], alts := [], laidByText := true, laidKinds := [.data, .data], laidTests := true, laidLooks := .later }
def EvidenceTellCardSaid : Prop := Claim7.holds Tryz.pinned (.plain (OpenSpec.ofChange evidenceTellSpec)) evidenceTellCard

/-- THE TIED CARD OF 'speculumlaw32.EvidenceGet'. -/
def evidenceGetCard : Claim7 := { stood := { row := evidenceGetRow, standIns := [], harness := (true, "0d64418ba2edc0062dd808dc9e084e16f28c33d937eaf9cfd8050d747737b828"), looks := false }, kinds := [], alts := [], laidByText := true, laidKinds := [.data, .data], laidTests := true, laidLooks := .later }
def EvidenceGetCardSaid : Prop := Claim7.holds Tryz.pinned (.plain (OpenSpec.ofChange evidenceGetSpec)) evidenceGetCard

/-- THE TIED CARD OF 'speculumlaw31.PoolPlay'. -/
def poolPlayCard : Claim7 := { stood := { row := poolPlayRow, standIns := [], harness := (true, "0d64418ba2edc0062dd808dc9e084e16f28c33d937eaf9cfd8050d747737b828"), looks := false }, kinds := [], alts := [], laidByText := true, laidKinds := [.data, .data], laidTests := true, laidLooks := .later }
def PoolPlayCardSaid : Prop := Claim7.holds Tryz.pinned (.plain (OpenSpec.ofChange poolPlaySpec)) poolPlayCard

/-- THE SECOND FORM's CARD OF 'speculumlaw32.EvidenceTell'. -/
def evidenceTellUptoCard : Claim7 := { stood := { row := evidenceTellUptoRow, standIns := [], harness := (true, "0d64418ba2edc0062dd808dc9e084e16f28c33d937eaf9cfd8050d747737b828"), looks := false }, kinds := [], alts := [], laidByText := true, laidKinds := [.data, .data], laidTests := true, laidLooks := .later }
def EvidenceTellUptoCardSaid : Prop := Claim7.holds Tryz.pinned (.plain (OpenSpec.upto evidenceTellSpec)) evidenceTellUptoCard

/-- THE SECOND FORM's CARD OF 'speculumlaw32.EvidenceGet'. -/
def evidenceGetUptoCard : Claim7 := { stood := { row := evidenceGetUptoRow, standIns := [], harness := (true, "0d64418ba2edc0062dd808dc9e084e16f28c33d937eaf9cfd8050d747737b828"), looks := false }, kinds := [], alts := [], laidByText := true, laidKinds := [.data, .data], laidTests := true, laidLooks := .later }
def EvidenceGetUptoCardSaid : Prop := Claim7.holds Tryz.pinned (.plain (OpenSpec.upto evidenceGetSpec)) evidenceGetUptoCard

/-- THE SECOND FORM's CARD OF 'speculumlaw31.PoolPlay'. -/
def poolPlayUptoCard : Claim7 := { stood := { row := poolPlayUptoRow, standIns := [], harness := (true, "0d64418ba2edc0062dd808dc9e084e16f28c33d937eaf9cfd8050d747737b828"), looks := false }, kinds := [], alts := [], laidByText := true, laidKinds := [.data, .data], laidTests := true, laidLooks := .later }
def PoolPlayUptoCardSaid : Prop := Claim7.holds Tryz.pinned (.plain (OpenSpec.upto poolPlaySpec)) poolPlayUptoCard
end Rows
end Go.Proofs.YtlfpiblipmiobaaGreatDoor
