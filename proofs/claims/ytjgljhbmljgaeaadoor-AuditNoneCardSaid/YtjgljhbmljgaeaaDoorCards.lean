/-
  DERIVED. GIVEN WITH THE SEED: THE CARDS: each row of YtjgljhbmljgaeaaDoorRows.lean that lists a variable, with what it lists TIED to the program's text (the seventh form; the later family's looks); each row that meets fmt, with fmt's text TOLD by the authors' own Lean function (tested against real Go, not proved from fmt's source: count such statements apart). THE CARD IS WHAT COUNTS. Prove the row's statement (the work); the ties are given (YtjgljhbmljgaeaaDoorTie.lean); close each card by the builder's one call (the guide's Derived/Test/ToyasCard.lean, 'card_holds'). Laid BY PROGRAM, IN A SANDBOX (cutbox-door.mjs). By AI agents, Wed Nov 11 2026. No macro, syntax, notation, axiom, sorry.
-/
import Derived.Test.YtjgljhbmljgaeaaDoorRows
import GoSem.ClaimSeven
namespace Go.Proofs.YtjgljhbmljgaeaaDoor
namespace Rows

/-- THE TIED CARD OF 'speculumlaw33.AuditNone'. -/
def auditNoneCard : Claim7 := { stood := { row := auditNoneRow, standIns := [], harness := (true, "0ef6db64b8e0e8b73d8e197044001a25092c5be032f66b5ac3277408f0fa5a9f"), looks := false }, kinds := [], alts := [], laidByText := true, laidKinds := [.data, .data], laidTests := true, laidLooks := .later }
def AuditNoneCardSaid : Prop := Claim7.holds Tryd.pinned (.plain (OpenSpec.ofChange auditNoneSpec)) auditNoneCard

/-- THE TIED CARD OF 'speculumlaw22.PublishNone'. -/
def publishNoneCard : Claim7 := { stood := { row := publishNoneRow, standIns := [], harness := (true, "0ef6db64b8e0e8b73d8e197044001a25092c5be032f66b5ac3277408f0fa5a9f"), looks := false }, kinds := [], alts := [], laidByText := true, laidKinds := [.data, .data], laidTests := true, laidLooks := .later }
def PublishNoneCardSaid : Prop := Claim7.holds Tryd.pinned (.plain (OpenSpec.ofChange publishNoneSpec)) publishNoneCard

/-- THE TIED CARD OF 'speculumlaw22.PublishHeads'. -/
def publishHeadsCard : Claim7 := { stood := { row := publishHeadsRow, standIns := [], harness := (true, "0ef6db64b8e0e8b73d8e197044001a25092c5be032f66b5ac3277408f0fa5a9f"), looks := false }, kinds := [], alts := [], laidByText := true, laidKinds := [.data, .data], laidTests := true, laidLooks := .later }
def PublishHeadsCardSaid : Prop := Claim7.holds Tryd.pinned (.plain (OpenSpec.ofChange publishHeadsSpec)) publishHeadsCard

/-- THE SECOND FORM's CARD OF 'speculumlaw33.AuditNone'. -/
def auditNoneUptoCard : Claim7 := { stood := { row := auditNoneUptoRow, standIns := [], harness := (true, "0ef6db64b8e0e8b73d8e197044001a25092c5be032f66b5ac3277408f0fa5a9f"), looks := false }, kinds := [], alts := [], laidByText := true, laidKinds := [.data, .data], laidTests := true, laidLooks := .later }
def AuditNoneUptoCardSaid : Prop := Claim7.holds Tryd.pinned (.plain (OpenSpec.upto auditNoneSpec)) auditNoneUptoCard

/-- THE SECOND FORM's CARD OF 'speculumlaw22.PublishNone'. -/
def publishNoneUptoCard : Claim7 := { stood := { row := publishNoneUptoRow, standIns := [], harness := (true, "0ef6db64b8e0e8b73d8e197044001a25092c5be032f66b5ac3277408f0fa5a9f"), looks := false }, kinds := [], alts := [], laidByText := true, laidKinds := [.data, .data], laidTests := true, laidLooks := .later }
def PublishNoneUptoCardSaid : Prop := Claim7.holds Tryd.pinned (.plain (OpenSpec.upto publishNoneSpec)) publishNoneUptoCard

/-- THE SECOND FORM's CARD OF 'speculumlaw22.PublishHeads'. -/
def publishHeadsUptoCard : Claim7 := { stood := { row := publishHeadsUptoRow, standIns := [], harness := (true, "0ef6db64b8e0e8b73d8e197044001a25092c5be032f66b5ac3277408f0fa5a9f"), looks := false }, kinds := [], alts := [], laidByText := true, laidKinds := [.data, .data], laidTests := true, laidLooks := .later }
def PublishHeadsUptoCardSaid : Prop := Claim7.holds Tryd.pinned (.plain (OpenSpec.upto publishHeadsSpec)) publishHeadsUptoCard
end Rows
end Go.Proofs.YtjgljhbmljgaeaaDoor
