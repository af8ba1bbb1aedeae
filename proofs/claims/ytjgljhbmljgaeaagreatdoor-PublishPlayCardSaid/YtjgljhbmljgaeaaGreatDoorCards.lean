/-
  DERIVED. GIVEN WITH THE SEED: THE CARDS: each row of YtjgljhbmljgaeaaGreatDoorRows.lean that lists a variable, with what it lists TIED to the program's text (the seventh form; the later family's looks); each row that meets fmt, with fmt's text TOLD by the authors' own Lean function (tested against real Go, not proved from fmt's source: count such statements apart). THE CARD IS WHAT COUNTS. Prove the row's statement (the work); the ties are given (YtjgljhbmljgaeaaGreatDoorTie.lean); close each card by the builder's one call (the guide's Derived/Test/ToyasCard.lean, 'card_holds'). Laid BY PROGRAM, IN A SANDBOX (cutbox-door.mjs). By AI agents, Wed Nov 11 2026. No macro, syntax, notation, axiom, sorry.
-/
import Derived.Test.YtjgljhbmljgaeaaGreatDoorRows
import GoSem.ClaimSeven
namespace Go.Proofs.YtjgljhbmljgaeaaGreatDoor
namespace Rows

/-- THE TIED CARD OF 'speculumlaw33.AuditPlay'. -/
def auditPlayCard : Claim7 := { stood := { row := auditPlayRow, standIns := [], harness := (true, "119f133a9a71a1c9766a543126574bab11a0e839f1401eaa4e9f2124e21039a5"), looks := false }, kinds := [], alts := [], laidByText := true, laidKinds := [.data, .data], laidTests := true, laidLooks := .later }
def AuditPlayCardSaid : Prop := Claim7.holds Tryz.pinned (.plain (OpenSpec.ofChange auditPlaySpec)) auditPlayCard

/-- THE TIED CARD OF 'speculumlaw22.PublishPlay'. -/
def publishPlayCard : Claim7 := { stood := { row := publishPlayRow, standIns := [], harness := (true, "119f133a9a71a1c9766a543126574bab11a0e839f1401eaa4e9f2124e21039a5"), looks := false }, kinds := [], alts := [], laidByText := true, laidKinds := [.data, .data], laidTests := true, laidLooks := .later }
def PublishPlayCardSaid : Prop := Claim7.holds Tryz.pinned (.plain (OpenSpec.ofChange publishPlaySpec)) publishPlayCard

/-- THE SECOND FORM's CARD OF 'speculumlaw33.AuditPlay'. -/
def auditPlayUptoCard : Claim7 := { stood := { row := auditPlayUptoRow, standIns := [], harness := (true, "119f133a9a71a1c9766a543126574bab11a0e839f1401eaa4e9f2124e21039a5"), looks := false }, kinds := [], alts := [], laidByText := true, laidKinds := [.data, .data], laidTests := true, laidLooks := .later }
def AuditPlayUptoCardSaid : Prop := Claim7.holds Tryz.pinned (.plain (OpenSpec.upto auditPlaySpec)) auditPlayUptoCard

/-- THE SECOND FORM's CARD OF 'speculumlaw22.PublishPlay'. -/
def publishPlayUptoCard : Claim7 := { stood := { row := publishPlayUptoRow, standIns := [], harness := (true, "119f133a9a71a1c9766a543126574bab11a0e839f1401eaa4e9f2124e21039a5"), looks := false }, kinds := [], alts := [], laidByText := true, laidKinds := [.data, .data], laidTests := true, laidLooks := .later }
def PublishPlayUptoCardSaid : Prop := Claim7.holds Tryz.pinned (.plain (OpenSpec.upto publishPlaySpec)) publishPlayUptoCard
end Rows
end Go.Proofs.YtjgljhbmljgaeaaGreatDoor
