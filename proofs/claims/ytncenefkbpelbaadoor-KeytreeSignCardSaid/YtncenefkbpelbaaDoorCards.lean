/-
  DERIVED. GIVEN WITH THE SEED: THE CARDS: each row of YtncenefkbpelbaaDoorRows.lean that lists a variable, with what it lists TIED to the program's text (the seventh form; the later family's looks); each row that meets fmt, with fmt's text TOLD by the authors' own Lean function (tested against real Go, not proved from fmt's source: count such statements apart). THE CARD IS WHAT COUNTS. Prove the row's statement (the work); the ties are given (YtncenefkbpelbaaDoorTie.lean); close each card by the builder's one call (the guide's Derived/Test/ToyasCard.lean, 'card_holds'). Laid BY PROGRAM, IN A SANDBOX (cutbox-door.mjs). By AI agents, Wed Nov 11 2026. No macro, syntax, notation, axiom, sorry.
-/
import Derived.Test.YtncenefkbpelbaaDoorRows
import GoSem.ClaimSeven
namespace Go.Proofs.YtncenefkbpelbaaDoor
namespace Rows

/-- THE TIED CARD OF 'speculumlaw25.StageRaw'. -/
def stageRawCard : Claim7 := { stood := { row := stageRawRow, standIns := [], harness := (true, "1a34e4f6fedfc175f5c618272b0dba17a3c777ba5a1ffeff9bbb84440a4d9e54"), looks := false }, kinds := [], alts := [], laidByText := true, laidKinds := [.data, .data], laidTests := true, laidLooks := .later }
def StageRawCardSaid : Prop := Claim7.holds Tryd.pinned (.plain (OpenSpec.ofChange stageRawSpec)) stageRawCard

/-- THE TIED CARD OF 'speculumlaw25.StagePlay'. -/
def stagePlayCard : Claim7 := { stood := { row := stagePlayRow, standIns := [], harness := (true, "1a34e4f6fedfc175f5c618272b0dba17a3c777ba5a1ffeff9bbb84440a4d9e54"), looks := false }, kinds := [], alts := [], laidByText := true, laidKinds := [.data, .data], laidTests := true, laidLooks := .later }
def StagePlayCardSaid : Prop := Claim7.holds Tryd.pinned (.plain (OpenSpec.ofChange stagePlaySpec)) stagePlayCard

/-- THE TIED CARD OF 'speculumlaw33.AuditNone'. -/
def auditNoneCard : Claim7 := { stood := { row := auditNoneRow, standIns := [], harness := (true, "1a34e4f6fedfc175f5c618272b0dba17a3c777ba5a1ffeff9bbb84440a4d9e54"), looks := false }, kinds := [], alts := [], laidByText := true, laidKinds := [.data, .data], laidTests := true, laidLooks := .later }
def AuditNoneCardSaid : Prop := Claim7.holds Tryd.pinned (.plain (OpenSpec.ofChange auditNoneSpec)) auditNoneCard

/-- THE TIED CARD OF 'speculumlaw22.PublishNone'. -/
def publishNoneCard : Claim7 := { stood := { row := publishNoneRow, standIns := [], harness := (true, "1a34e4f6fedfc175f5c618272b0dba17a3c777ba5a1ffeff9bbb84440a4d9e54"), looks := false }, kinds := [], alts := [], laidByText := true, laidKinds := [.data, .data], laidTests := true, laidLooks := .later }
def PublishNoneCardSaid : Prop := Claim7.holds Tryd.pinned (.plain (OpenSpec.ofChange publishNoneSpec)) publishNoneCard

/-- THE TIED CARD OF 'speculumlaw22.PublishHeads'. -/
def publishHeadsCard : Claim7 := { stood := { row := publishHeadsRow, standIns := [], harness := (true, "1a34e4f6fedfc175f5c618272b0dba17a3c777ba5a1ffeff9bbb84440a4d9e54"), looks := false }, kinds := [], alts := [], laidByText := true, laidKinds := [.data, .data], laidTests := true, laidLooks := .later }
def PublishHeadsCardSaid : Prop := Claim7.holds Tryd.pinned (.plain (OpenSpec.ofChange publishHeadsSpec)) publishHeadsCard

/-- THE TIED CARD OF 'speculumlaw09.KeytreeSign'. -/
def keytreeSignCard : Claim7 := { stood := { row := keytreeSignRow, standIns := [], harness := (true, "1a34e4f6fedfc175f5c618272b0dba17a3c777ba5a1ffeff9bbb84440a4d9e54"), looks := false }, kinds := [], alts := [], laidByText := true, laidKinds := [.data, .data], laidTests := true, laidLooks := .later }
def KeytreeSignCardSaid : Prop := Claim7.holds Tryd.pinned (.plain (OpenSpec.ofChange keytreeSignSpec)) keytreeSignCard

/-- THE TIED CARD OF 'speculumlaw09.KeytreeVerify'. -/
def keytreeVerifyCard : Claim7 := { stood := { row := keytreeVerifyRow, standIns := [], harness := (true, "1a34e4f6fedfc175f5c618272b0dba17a3c777ba5a1ffeff9bbb84440a4d9e54"), looks := false }, kinds := [], alts := [], laidByText := true, laidKinds := [.data, .data], laidTests := true, laidLooks := .later }
def KeytreeVerifyCardSaid : Prop := Claim7.holds Tryd.pinned (.plain (OpenSpec.ofChange keytreeVerifySpec)) keytreeVerifyCard

/-- THE TIED CARD OF 'speculumlaw09.KeytreeNone'. -/
def keytreeNoneCard : Claim7 := { stood := { row := keytreeNoneRow, standIns := [], harness := (true, "1a34e4f6fedfc175f5c618272b0dba17a3c777ba5a1ffeff9bbb84440a4d9e54"), looks := false }, kinds := [], alts := [], laidByText := true, laidKinds := [.data, .data], laidTests := true, laidLooks := .later }
def KeytreeNoneCardSaid : Prop := Claim7.holds Tryd.pinned (.plain (OpenSpec.ofChange keytreeNoneSpec)) keytreeNoneCard

/-- THE SECOND FORM's CARD OF 'speculumlaw25.StageRaw'. -/
def stageRawUptoCard : Claim7 := { stood := { row := stageRawUptoRow, standIns := [], harness := (true, "1a34e4f6fedfc175f5c618272b0dba17a3c777ba5a1ffeff9bbb84440a4d9e54"), looks := false }, kinds := [], alts := [], laidByText := true, laidKinds := [.data, .data], laidTests := true, laidLooks := .later }
def StageRawUptoCardSaid : Prop := Claim7.holds Tryd.pinned (.plain (OpenSpec.upto stageRawSpec)) stageRawUptoCard

/-- THE SECOND FORM's CARD OF 'speculumlaw25.StagePlay'. -/
def stagePlayUptoCard : Claim7 := { stood := { row := stagePlayUptoRow, standIns := [], harness := (true, "1a34e4f6fedfc175f5c618272b0dba17a3c777ba5a1ffeff9bbb84440a4d9e54"), looks := false }, kinds := [], alts := [], laidByText := true, laidKinds := [.data, .data], laidTests := true, laidLooks := .later }
def StagePlayUptoCardSaid : Prop := Claim7.holds Tryd.pinned (.plain (OpenSpec.upto stagePlaySpec)) stagePlayUptoCard

/-- THE SECOND FORM's CARD OF 'speculumlaw33.AuditNone'. -/
def auditNoneUptoCard : Claim7 := { stood := { row := auditNoneUptoRow, standIns := [], harness := (true, "1a34e4f6fedfc175f5c618272b0dba17a3c777ba5a1ffeff9bbb84440a4d9e54"), looks := false }, kinds := [], alts := [], laidByText := true, laidKinds := [.data, .data], laidTests := true, laidLooks := .later }
def AuditNoneUptoCardSaid : Prop := Claim7.holds Tryd.pinned (.plain (OpenSpec.upto auditNoneSpec)) auditNoneUptoCard

/-- THE SECOND FORM's CARD OF 'speculumlaw22.PublishNone'. -/
def publishNoneUptoCard : Claim7 := { stood := { row := publishNoneUptoRow, standIns := [], harness := (true, "1a34e4f6fedfc175f5c618272b0dba17a3c777ba5a1ffeff9bbb84440a4d9e54"), looks := false }, kinds := [], alts := [], laidByText := true, laidKinds := [.data, .data], laidTests := true, laidLooks := .later }
def PublishNoneUptoCardSaid : Prop := Claim7.holds Tryd.pinned (.plain (OpenSpec.upto publishNoneSpec)) publishNoneUptoCard

/-- THE SECOND FORM's CARD OF 'speculumlaw22.PublishHeads'. -/
def publishHeadsUptoCard : Claim7 := { stood := { row := publishHeadsUptoRow, standIns := [], harness := (true, "1a34e4f6fedfc175f5c618272b0dba17a3c777ba5a1ffeff9bbb84440a4d9e54"), looks := false }, kinds := [], alts := [], laidByText := true, laidKinds := [.data, .data], laidTests := true, laidLooks := .later }
def PublishHeadsUptoCardSaid : Prop := Claim7.holds Tryd.pinned (.plain (OpenSpec.upto publishHeadsSpec)) publishHeadsUptoCard

/-- THE SECOND FORM's CARD OF 'speculumlaw09.KeytreeSign'. -/
def keytreeSignUptoCard : Claim7 := { stood := { row := keytreeSignUptoRow, standIns := [], harness := (true, "1a34e4f6fedfc175f5c618272b0dba17a3c777ba5a1ffeff9bbb84440a4d9e54"), looks := false }, kinds := [], alts := [], laidByText := true, laidKinds := [.data, .data], laidTests := true, laidLooks := .later }
def KeytreeSignUptoCardSaid : Prop := Claim7.holds Tryd.pinned (.plain (OpenSpec.upto keytreeSignSpec)) keytreeSignUptoCard

/-- THE SECOND FORM's CARD OF 'speculumlaw09.KeytreeVerify'. -/
def keytreeVerifyUptoCard : Claim7 := { stood := { row := keytreeVerifyUptoRow, standIns := [], harness := (true, "1a34e4f6fedfc175f5c618272b0dba17a3c777ba5a1ffeff9bbb84440a4d9e54"), looks := false }, kinds := [], alts := [], laidByText := true, laidKinds := [.data, .data], laidTests := true, laidLooks := .later }
def KeytreeVerifyUptoCardSaid : Prop := Claim7.holds Tryd.pinned (.plain (OpenSpec.upto keytreeVerifySpec)) keytreeVerifyUptoCard

/-- THE SECOND FORM's CARD OF 'speculumlaw09.KeytreeNone'. -/
def keytreeNoneUptoCard : Claim7 := { stood := { row := keytreeNoneUptoRow, standIns := [], harness := (true, "1a34e4f6fedfc175f5c618272b0dba17a3c777ba5a1ffeff9bbb84440a4d9e54"), looks := false }, kinds := [], alts := [], laidByText := true, laidKinds := [.data, .data], laidTests := true, laidLooks := .later }
def KeytreeNoneUptoCardSaid : Prop := Claim7.holds Tryd.pinned (.plain (OpenSpec.upto keytreeNoneSpec)) keytreeNoneUptoCard
end Rows
end Go.Proofs.YtncenefkbpelbaaDoor
