/-
  DERIVED. GIVEN WITH THE SEED: THE CARDS: each row of YtfldkpghggbdkaaGreatDoorRows.lean that lists a variable, with what it lists TIED to the program's text (the seventh form; the later family's looks); each row that meets fmt, with fmt's text TOLD by the authors' own Lean function (tested against real Go, not proved from fmt's source: count such statements apart). THE CARD IS WHAT COUNTS. Prove the row's statement (the work); the ties are given (YtfldkpghggbdkaaGreatDoorTie.lean); close each card by the builder's one call (the guide's Derived/Test/ToyasCard.lean, 'card_holds'). Laid BY PROGRAM, IN A SANDBOX (cutbox-door.mjs). By AI agents, Wed Nov 11 2026. No macro, syntax, notation, axiom, sorry.
-/
import Derived.Test.YtfldkpghggbdkaaGreatDoorRows
import GoSem.ClaimSeven
namespace Go.Proofs.YtfldkpghggbdkaaGreatDoor
namespace Rows

/-- THE TIED CARD OF 'speculumlaw33.AuditPlay'. -/
def auditPlayCard : Claim7 := { stood := { row := auditPlayRow, standIns := [], harness := (true, "d68d38bc55b56e0e2ec2179de4df2bb891ea10ae467e8cc961feff9197a601e0"), looks := false }, kinds := [], alts := [], laidByText := true, laidKinds := [.data, .data], laidTests := true, laidLooks := .later }
def AuditPlayCardSaid : Prop := Claim7.holds Tryz.pinned (.plain (OpenSpec.ofChange auditPlaySpec)) auditPlayCard

/-- THE TIED CARD OF 'speculumlaw32.EvidenceTell'. -/
def evidenceTellCard : Claim7 := { stood := { row := evidenceTellRow, standIns := [], harness := (true, "d68d38bc55b56e0e2ec2179de4df2bb891ea10ae467e8cc961feff9197a601e0"), looks := false }, kinds := [], alts := [], laidByText := true, laidKinds := [.data, .data], laidTests := true, laidLooks := .later }
def EvidenceTellCardSaid : Prop := Claim7.holds Tryz.pinned (.plain (OpenSpec.ofChange evidenceTellSpec)) evidenceTellCard

/-- THE TIED CARD OF 'speculumlaw32.EvidenceGet'. -/
def evidenceGetCard : Claim7 := { stood := { row := evidenceGetRow, standIns := [], harness := (true, "d68d38bc55b56e0e2ec2179de4df2bb891ea10ae467e8cc961feff9197a601e0"), looks := false }, kinds := [], alts := [], laidByText := true, laidKinds := [.data, .data], laidTests := true, laidLooks := .later }
def EvidenceGetCardSaid : Prop := Claim7.holds Tryz.pinned (.plain (OpenSpec.ofChange evidenceGetSpec)) evidenceGetCard

/-- THE SECOND FORM's CARD OF 'speculumlaw33.AuditPlay'. -/
def auditPlayUptoCard : Claim7 := { stood := { row := auditPlayUptoRow, standIns := [], harness := (true, "d68d38bc55b56e0e2ec2179de4df2bb891ea10ae467e8cc961feff9197a601e0"), looks := false }, kinds := [], alts := [], laidByText := true, laidKinds := [.data, .data], laidTests := true, laidLooks := .later }
def AuditPlayUptoCardSaid : Prop := Claim7.holds Tryz.pinned (.plain (OpenSpec.upto auditPlaySpec)) auditPlayUptoCard

/-- THE SECOND FORM's CARD OF 'speculumlaw32.EvidenceTell'. -/
def evidenceTellUptoCard : Claim7 := { stood := { row := evidenceTellUptoRow, standIns := [], harness := (true, "d68d38bc55b56e0e2ec2179de4df2bb891ea10ae467e8cc961feff9197a601e0"), looks := false }, kinds := [], alts := [], laidByText := true, laidKinds := [.data, .data], laidTests := true, laidLooks := .later }
def EvidenceTellUptoCardSaid : Prop := Claim7.holds Tryz.pinned (.plain (OpenSpec.upto evidenceTellSpec)) evidenceTellUptoCard

/-- THE SECOND FORM's CARD OF 'speculumlaw32.EvidenceGet'. -/
def evidenceGetUptoCard : Claim7 := { stood := { row := evidenceGetUptoRow, standIns := [], harness := (true, "d68d38bc55b56e0e2ec2179de4df2bb891ea10ae467e8cc961feff9197a601e0"), looks := false }, kinds := [], alts := [], laidByText := true, laidKinds := [.data, .data], laidTests := true, laidLooks := .later }
def EvidenceGetUptoCardSaid : Prop := Claim7.holds Tryz.pinned (.plain (OpenSpec.upto evidenceGetSpec)) evidenceGetUptoCard
end Rows
end Go.Proofs.YtfldkpghggbdkaaGreatDoor
