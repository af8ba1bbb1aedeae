/-
  DERIVED. GIVEN WITH THE SEED: THE CARDS: each row of YthgcooppjhcgcaaDoorRows.lean that lists a variable, with what it lists TIED to the program's text (the seventh form; the later family's looks); each row that meets fmt, with fmt's text TOLD by the authors' own Lean function (tested against real Go, not proved from fmt's source: count such statements apart). THE CARD IS WHAT COUNTS. Prove the row's statement (the work); the ties are given (YthgcooppjhcgcaaDoorTie.lean); close each card by the builder's one call (the guide's Derived/Test/ToyasCard.lean, 'card_holds'). Laid BY PROGRAM, IN A SANDBOX (cutbox-door.mjs). By AI agents, Wed Nov 11 2026. No macro, syntax, notation, axiom, sorry.
-/
import Derived.Test.YthgcooppjhcgcaaDoorRows
import GoSem.ClaimSeven
namespace Go.Proofs.YthgcooppjhcgcaaDoor
namespace Rows

/-- THE TIED CARD OF 'speculumlaw05.RangesTell'. -/
def rangesTellCard : Claim7 := { stood := { row := rangesTellRow, standIns := [], harness := (true, "a131524f10b169a0af8dcad53f9f842aa6460abac531797e151dd1f66b497e6f"), looks := false }, kinds := [], alts := [], laidByText := true, laidKinds := [.data, .data], laidTests := true, laidLooks := .later }
def RangesTellCardSaid : Prop := Claim7.holds Tryd.pinned (.plain (OpenSpec.ofChange rangesTellSpec)) rangesTellCard

/-- THE TIED CARD OF 'speculumlaw05.RangesSame'. -/
def rangesSameCard : Claim7 := { stood := { row := rangesSameRow, standIns := [], harness := (true, "a131524f10b169a0af8dcad53f9f842aa6460abac531797e151dd1f66b497e6f"), looks := false }, kinds := [], alts := [], laidByText := true, laidKinds := [.data, .data], laidTests := true, laidLooks := .later }
def RangesSameCardSaid : Prop := Claim7.holds Tryd.pinned (.plain (OpenSpec.ofChange rangesSameSpec)) rangesSameCard

/-- THE TIED CARD OF 'speculumlaw10.HeadsGet'. -/
def headsGetCard : Claim7 := { stood := { row := headsGetRow, standIns := [], harness := (true, "a131524f10b169a0af8dcad53f9f842aa6460abac531797e151dd1f66b497e6f"), looks := false }, kinds := [], alts := [], laidByText := true, laidKinds := [.data, .data], laidTests := true, laidLooks := .later }
def HeadsGetCardSaid : Prop := Claim7.holds Tryd.pinned (.plain (OpenSpec.ofChange headsGetSpec)) headsGetCard

/-- THE TIED CARD OF 'speculumlaw10.HeadsBack'. -/
def headsBackCard : Claim7 := { stood := { row := headsBackRow, standIns := [], harness := (true, "a131524f10b169a0af8dcad53f9f842aa6460abac531797e151dd1f66b497e6f"), looks := false }, kinds := [], alts := [], laidByText := true, laidKinds := [.data, .data], laidTests := true, laidLooks := .later }
def HeadsBackCardSaid : Prop := Claim7.holds Tryd.pinned (.plain (OpenSpec.ofChange headsBackSpec)) headsBackCard

/-- THE TIED CARD OF 'speculumlaw09.KeytreeSign'. -/
def keytreeSignCard : Claim7 := { stood := { row := keytreeSignRow, standIns := [], harness := (true, "a131524f10b169a0af8dcad53f9f842aa6460abac531797e151dd1f66b497e6f"), looks := false }, kinds := [], alts := [], laidByText := true, laidKinds := [.data, .data], laidTests := true, laidLooks := .later }
def KeytreeSignCardSaid : Prop := Claim7.holds Tryd.pinned (.plain (OpenSpec.ofChange keytreeSignSpec)) keytreeSignCard

/-- THE TIED CARD OF 'speculumlaw09.KeytreeVerify'. -/
def keytreeVerifyCard : Claim7 := { stood := { row := keytreeVerifyRow, standIns := [], harness := (true, "a131524f10b169a0af8dcad53f9f842aa6460abac531797e151dd1f66b497e6f"), looks := false }, kinds := [], alts := [], laidByText := true, laidKinds := [.data, .data], laidTests := true, laidLooks := .later }
def KeytreeVerifyCardSaid : Prop := Claim7.holds Tryd.pinned (.plain (OpenSpec.ofChange keytreeVerifySpec)) keytreeVerifyCard

/-- THE TIED CARD OF 'speculumlaw09.KeytreeNone'. -/
def keytreeNoneCard : Claim7 := { stood := { row := keytreeNoneRow, standIns := [], harness := (true, "a131524f10b169a0af8dcad53f9f842aa6460abac531797e151dd1f66b497e6f"), looks := false }, kinds := [], alts := [], laidByText := true, laidKinds := [.data, .data], laidTests := true, laidLooks := .later }
def KeytreeNoneCardSaid : Prop := Claim7.holds Tryd.pinned (.plain (OpenSpec.ofChange keytreeNoneSpec)) keytreeNoneCard

/-- THE TIED CARD OF 'speculumlaw10.HeadsTell'. -/
def headsTellCard : Claim7 := { stood := { row := headsTellRow, standIns := [], harness := (true, "a131524f10b169a0af8dcad53f9f842aa6460abac531797e151dd1f66b497e6f"), looks := false }, kinds := [], alts := [], laidByText := true, laidKinds := [.data, .data], laidTests := true, laidLooks := .later }
def HeadsTellCardSaid : Prop := Claim7.holds Tryd.pinned (.plain (OpenSpec.ofChange headsTellSpec)) headsTellCard

/-- THE TIED CARD OF 'speculumlaw25.StageRaw'. -/
def stageRawCard : Claim7 := { stood := { row := stageRawRow, standIns := [], harness := (true, "a131524f10b169a0af8dcad53f9f842aa6460abac531797e151dd1f66b497e6f"), looks := false }, kinds := [], alts := [], laidByText := true, laidKinds := [.data, .data], laidTests := true, laidLooks := .later }
def StageRawCardSaid : Prop := Claim7.holds Tryd.pinned (.plain (OpenSpec.ofChange stageRawSpec)) stageRawCard

/-- THE TIED CARD OF 'speculumlaw25.StagePlay'. -/
def stagePlayCard : Claim7 := { stood := { row := stagePlayRow, standIns := [], harness := (true, "a131524f10b169a0af8dcad53f9f842aa6460abac531797e151dd1f66b497e6f"), looks := false }, kinds := [], alts := [], laidByText := true, laidKinds := [.data, .data], laidTests := true, laidLooks := .later }
def StagePlayCardSaid : Prop := Claim7.holds Tryd.pinned (.plain (OpenSpec.ofChange stagePlaySpec)) stagePlayCard

/-- THE TIED CARD OF 'speculumlaw33.AuditNone'. -/
def auditNoneCard : Claim7 := { stood := { row := auditNoneRow, standIns := [], harness := (true, "a131524f10b169a0af8dcad53f9f842aa6460abac531797e151dd1f66b497e6f"), looks := false }, kinds := [], alts := [], laidByText := true, laidKinds := [.data, .data], laidTests := true, laidLooks := .later }
def AuditNoneCardSaid : Prop := Claim7.holds Tryd.pinned (.plain (OpenSpec.ofChange auditNoneSpec)) auditNoneCard

/-- THE SECOND FORM's CARD OF 'speculumlaw05.RangesTell'. -/
def rangesTellUptoCard : Claim7 := { stood := { row := rangesTellUptoRow, standIns := [], harness := (true, "a131524f10b169a0af8dcad53f9f842aa6460abac531797e151dd1f66b497e6f"), looks := false }, kinds := [], alts := [], laidByText := true, laidKinds := [.data, .data], laidTests := true, laidLooks := .later }
def RangesTellUptoCardSaid : Prop := Claim7.holds Tryd.pinned (.plain (OpenSpec.upto rangesTellSpec)) rangesTellUptoCard

/-- THE SECOND FORM's CARD OF 'speculumlaw05.RangesSame'. -/
def rangesSameUptoCard : Claim7 := { stood := { row := rangesSameUptoRow, standIns := [], harness := (true, "a131524f10b169a0af8dcad53f9f842aa6460abac531797e151dd1f66b497e6f"), looks := false }, kinds := [], alts := [], laidByText := true, laidKinds := [.data, .data], laidTests := true, laidLooks := .later }
def RangesSameUptoCardSaid : Prop := Claim7.holds Tryd.pinned (.plain (OpenSpec.upto rangesSameSpec)) rangesSameUptoCard

/-- THE SECOND FORM's CARD OF 'speculumlaw10.HeadsGet'. -/
def headsGetUptoCard : Claim7 := { stood := { row := headsGetUptoRow, standIns := [], harness := (true, "a131524f10b169a0af8dcad53f9f842aa6460abac531797e151dd1f66b497e6f"), looks := false }, kinds := [], alts := [], laidByText := true, laidKinds := [.data, .data], laidTests := true, laidLooks := .later }
def HeadsGetUptoCardSaid : Prop := Claim7.holds Tryd.pinned (.plain (OpenSpec.upto headsGetSpec)) headsGetUptoCard

/-- THE SECOND FORM's CARD OF 'speculumlaw10.HeadsBack'. -/
def headsBackUptoCard : Claim7 := { stood := { row := headsBackUptoRow, standIns := [], harness := (true, "a131524f10b169a0af8dcad53f9f842aa6460abac531797e151dd1f66b497e6f"), looks := false }, kinds := [], alts := [], laidByText := true, laidKinds := [.data, .data], laidTests := true, laidLooks := .later }
def HeadsBackUptoCardSaid : Prop := Claim7.holds Tryd.pinned (.plain (OpenSpec.upto headsBackSpec)) headsBackUptoCard

/-- THE SECOND FORM's CARD OF 'speculumlaw09.KeytreeSign'. -/
def keytreeSignUptoCard : Claim7 := { stood := { row := keytreeSignUptoRow, standIns := [], harness := (true, "a131524f10b169a0af8dcad53f9f842aa6460abac531797e151dd1f66b497e6f"), looks := false }, kinds := [], alts := [], laidByText := true, laidKinds := [.data, .data], laidTests := true, laidLooks := .later }
def KeytreeSignUptoCardSaid : Prop := Claim7.holds Tryd.pinned (.plain (OpenSpec.upto keytreeSignSpec)) keytreeSignUptoCard

/-- THE SECOND FORM's CARD OF 'speculumlaw09.KeytreeVerify'. -/
def keytreeVerifyUptoCard : Claim7 := { stood := { row := keytreeVerifyUptoRow, standIns := [], harness := (true, "a131524f10b169a0af8dcad53f9f842aa6460abac531797e151dd1f66b497e6f"), looks := false }, kinds := [], alts := [], laidByText := true, laidKinds := [.data, .data], laidTests := true, laidLooks := .later }
def KeytreeVerifyUptoCardSaid : Prop := Claim7.holds Tryd.pinned (.plain (OpenSpec.upto keytreeVerifySpec)) keytreeVerifyUptoCard

/-- THE SECOND FORM's CARD OF 'speculumlaw09.KeytreeNone'. -/
def keytreeNoneUptoCard : Claim7 := { stood := { row := keytreeNoneUptoRow, standIns := [], harness := (true, "a131524f10b169a0af8dcad53f9f842aa6460abac531797e151dd1f66b497e6f"), looks := false }, kinds := [], alts := [], laidByText := true, laidKinds := [.data, .data], laidTests := true, laidLooks := .later }
def KeytreeNoneUptoCardSaid : Prop := Claim7.holds Tryd.pinned (.plain (OpenSpec.upto keytreeNoneSpec)) keytreeNoneUptoCard

/-- THE SECOND FORM's CARD OF 'speculumlaw10.HeadsTell'. -/
def headsTellUptoCard : Claim7 := { stood := { row := headsTellUptoRow, standIns := [], harness := (true, "a131524f10b169a0af8dcad53f9f842aa6460abac531797e151dd1f66b497e6f"), looks := false }, kinds := [], alts := [], laidByText := true, laidKinds := [.data, .data], laidTests := true, laidLooks := .later }
def HeadsTellUptoCardSaid : Prop := Claim7.holds Tryd.pinned (.plain (OpenSpec.upto headsTellSpec)) headsTellUptoCard

/-- THE SECOND FORM's CARD OF 'speculumlaw25.StageRaw'. -/
def stageRawUptoCard : Claim7 := { stood := { row := stageRawUptoRow, standIns := [], harness := (true, "a131524f10b169a0af8dcad53f9f842aa6460abac531797e151dd1f66b497e6f"), looks := false }, kinds := [], alts := [], laidByText := true, laidKinds := [.data, .data], laidTests := true, laidLooks := .later }
def StageRawUptoCardSaid : Prop := Claim7.holds Tryd.pinned (.plain (OpenSpec.upto stageRawSpec)) stageRawUptoCard

/-- THE SECOND FORM's CARD OF 'speculumlaw25.StagePlay'. -/
def stagePlayUptoCard : Claim7 := { stood := { row := stagePlayUptoRow, standIns := [], harness := (true, "a131524f10b169a0af8dcad53f9f842aa6460abac531797e151dd1f66b497e6f"), looks := false }, kinds := [], alts := [], laidByText := true, laidKinds := [.data, .data], laidTests := true, laidLooks := .later }
def StagePlayUptoCardSaid : Prop := Claim7.holds Tryd.pinned (.plain (OpenSpec.upto stagePlaySpec)) stagePlayUptoCard

/-- THE SECOND FORM's CARD OF 'speculumlaw33.AuditNone'. -/
def auditNoneUptoCard : Claim7 := { stood := { row := auditNoneUptoRow, standIns := [], harness := (true, "a131524f10b169a0af8dcad53f9f842aa6460abac531797e151dd1f66b497e6f"), looks := false }, kinds := [], alts := [], laidByText := true, laidKinds := [.data, .data], laidTests := true, laidLooks := .later }
def AuditNoneUptoCardSaid : Prop := Claim7.holds Tryd.pinned (.plain (OpenSpec.upto auditNoneSpec)) auditNoneUptoCard
end Rows
end Go.Proofs.YthgcooppjhcgcaaDoor
