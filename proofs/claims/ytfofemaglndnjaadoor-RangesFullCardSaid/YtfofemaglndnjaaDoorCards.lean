/-
  DERIVED. GIVEN WITH THE SEED: THE CARDS: each row of YtfofemaglndnjaaDoorRows.lean that lists a variable, with what it lists TIED to the program's text (the seventh form; the later family's looks); each row that meets fmt, with fmt's text TOLD by the authors' own Lean function (tested against real Go, not proved from fmt's source: count such statements apart). THE CARD IS WHAT COUNTS. Prove the row's statement (the work); the ties are given (YtfofemaglndnjaaDoorTie.lean); close each card by the builder's one call (the guide's Derived/Test/ToyasCard.lean, 'card_holds'). Laid BY PROGRAM, IN A SANDBOX (cutbox-door.mjs). By AI agents, Wed Nov 11 2026. No macro, syntax, notation, axiom, sorry.
-/
import Derived.Test.YtfofemaglndnjaaDoorRows
import GoSem.ClaimSeven
namespace Go.Proofs.YtfofemaglndnjaaDoor
namespace Rows

/-- THE TIED CARD OF 'speculumlaw07.ProofsProof'. -/
def proofsProofCard : Claim7 := { stood := { row := proofsProofRow, standIns := [], harness := (true, "46305ca194b444ef78174caa256c985b265db57b90742ed54969cf1efc71752f"), looks := false }, kinds := [], alts := [], laidByText := true, laidKinds := [.data, .data], laidTests := true, laidLooks := .later }
def ProofsProofCardSaid : Prop := Claim7.holds Tryd.pinned (.plain (OpenSpec.ofChange proofsProofSpec)) proofsProofCard

/-- THE TIED CARD OF 'speculumlaw07.ProofsCheck'. -/
def proofsCheckCard : Claim7 := { stood := { row := proofsCheckRow, standIns := [], harness := (true, "46305ca194b444ef78174caa256c985b265db57b90742ed54969cf1efc71752f"), looks := false }, kinds := [], alts := [], laidByText := true, laidKinds := [.data, .data], laidTests := true, laidLooks := .later }
def ProofsCheckCardSaid : Prop := Claim7.holds Tryd.pinned (.plain (OpenSpec.ofChange proofsCheckSpec)) proofsCheckCard

/-- THE TIED CARD OF 'speculumlaw07.ProofsBack'. -/
def proofsBackCard : Claim7 := { stood := { row := proofsBackRow, standIns := [], harness := (true, "46305ca194b444ef78174caa256c985b265db57b90742ed54969cf1efc71752f"), looks := false }, kinds := [], alts := [], laidByText := true, laidKinds := [.data, .data], laidTests := true, laidLooks := .later }
def ProofsBackCardSaid : Prop := Claim7.holds Tryd.pinned (.plain (OpenSpec.ofChange proofsBackSpec)) proofsBackCard

/-- THE TIED CARD OF 'speculumlaw05.RangesPart'. -/
def rangesPartCard : Claim7 := { stood := { row := rangesPartRow, standIns := [], harness := (true, "46305ca194b444ef78174caa256c985b265db57b90742ed54969cf1efc71752f"), looks := false }, kinds := [], alts := [], laidByText := true, laidKinds := [.data, .data], laidTests := true, laidLooks := .later }
def RangesPartCardSaid : Prop := Claim7.holds Tryd.pinned (.plain (OpenSpec.ofChange rangesPartSpec)) rangesPartCard

/-- THE TIED CARD OF 'speculumlaw05.RangesFull'. -/
def rangesFullCard : Claim7 := { stood := { row := rangesFullRow, standIns := [], harness := (true, "46305ca194b444ef78174caa256c985b265db57b90742ed54969cf1efc71752f"), looks := false }, kinds := [], alts := [], laidByText := true, laidKinds := [.data, .data], laidTests := true, laidLooks := .later }
def RangesFullCardSaid : Prop := Claim7.holds Tryd.pinned (.plain (OpenSpec.ofChange rangesFullSpec)) rangesFullCard

/-- THE TIED CARD OF 'speculumlaw05.RangesTell'. -/
def rangesTellCard : Claim7 := { stood := { row := rangesTellRow, standIns := [], harness := (true, "46305ca194b444ef78174caa256c985b265db57b90742ed54969cf1efc71752f"), looks := false }, kinds := [], alts := [], laidByText := true, laidKinds := [.data, .data], laidTests := true, laidLooks := .later }
def RangesTellCardSaid : Prop := Claim7.holds Tryd.pinned (.plain (OpenSpec.ofChange rangesTellSpec)) rangesTellCard

/-- THE TIED CARD OF 'speculumlaw05.RangesSame'. -/
def rangesSameCard : Claim7 := { stood := { row := rangesSameRow, standIns := [], harness := (true, "46305ca194b444ef78174caa256c985b265db57b90742ed54969cf1efc71752f"), looks := false }, kinds := [], alts := [], laidByText := true, laidKinds := [.data, .data], laidTests := true, laidLooks := .later }
def RangesSameCardSaid : Prop := Claim7.holds Tryd.pinned (.plain (OpenSpec.ofChange rangesSameSpec)) rangesSameCard

/-- THE TIED CARD OF 'speculumlaw10.HeadsGet'. -/
def headsGetCard : Claim7 := { stood := { row := headsGetRow, standIns := [], harness := (true, "46305ca194b444ef78174caa256c985b265db57b90742ed54969cf1efc71752f"), looks := false }, kinds := [], alts := [], laidByText := true, laidKinds := [.data, .data], laidTests := true, laidLooks := .later }
def HeadsGetCardSaid : Prop := Claim7.holds Tryd.pinned (.plain (OpenSpec.ofChange headsGetSpec)) headsGetCard

/-- THE TIED CARD OF 'speculumlaw10.HeadsBack'. -/
def headsBackCard : Claim7 := { stood := { row := headsBackRow, standIns := [], harness := (true, "46305ca194b444ef78174caa256c985b265db57b90742ed54969cf1efc71752f"), looks := false }, kinds := [], alts := [], laidByText := true, laidKinds := [.data, .data], laidTests := true, laidLooks := .later }
def HeadsBackCardSaid : Prop := Claim7.holds Tryd.pinned (.plain (OpenSpec.ofChange headsBackSpec)) headsBackCard

/-- THE TIED CARD OF 'speculumlaw09.KeytreeSign'. -/
def keytreeSignCard : Claim7 := { stood := { row := keytreeSignRow, standIns := [], harness := (true, "46305ca194b444ef78174caa256c985b265db57b90742ed54969cf1efc71752f"), looks := false }, kinds := [], alts := [], laidByText := true, laidKinds := [.data, .data], laidTests := true, laidLooks := .later }
def KeytreeSignCardSaid : Prop := Claim7.holds Tryd.pinned (.plain (OpenSpec.ofChange keytreeSignSpec)) keytreeSignCard

/-- THE TIED CARD OF 'speculumlaw09.KeytreeVerify'. -/
def keytreeVerifyCard : Claim7 := { stood := { row := keytreeVerifyRow, standIns := [], harness := (true, "46305ca194b444ef78174caa256c985b265db57b90742ed54969cf1efc71752f"), looks := false }, kinds := [], alts := [], laidByText := true, laidKinds := [.data, .data], laidTests := true, laidLooks := .later }
def KeytreeVerifyCardSaid : Prop := Claim7.holds Tryd.pinned (.plain (OpenSpec.ofChange keytreeVerifySpec)) keytreeVerifyCard

/-- THE TIED CARD OF 'speculumlaw09.KeytreeNone'. -/
def keytreeNoneCard : Claim7 := { stood := { row := keytreeNoneRow, standIns := [], harness := (true, "46305ca194b444ef78174caa256c985b265db57b90742ed54969cf1efc71752f"), looks := false }, kinds := [], alts := [], laidByText := true, laidKinds := [.data, .data], laidTests := true, laidLooks := .later }
def KeytreeNoneCardSaid : Prop := Claim7.holds Tryd.pinned (.plain (OpenSpec.ofChange keytreeNoneSpec)) keytreeNoneCard

/-- THE SECOND FORM's CARD OF 'speculumlaw07.ProofsProof'. -/
def proofsProofUptoCard : Claim7 := { stood := { row := proofsProofUptoRow, standIns := [], harness := (true, "46305ca194b444ef78174caa256c985b265db57b90742ed54969cf1efc71752f"), looks := false }, kinds := [], alts := [], laidByText := true, laidKinds := [.data, .data], laidTests := true, laidLooks := .later }
def ProofsProofUptoCardSaid : Prop := Claim7.holds Tryd.pinned (.plain (OpenSpec.upto proofsProofSpec)) proofsProofUptoCard

/-- THE SECOND FORM's CARD OF 'speculumlaw07.ProofsCheck'. -/
def proofsCheckUptoCard : Claim7 := { stood := { row := proofsCheckUptoRow, standIns := [], harness := (true, "46305ca194b444ef78174caa256c985b265db57b90742ed54969cf1efc71752f"), looks := false }, kinds := [], alts := [], laidByText := true, laidKinds := [.data, .data], laidTests := true, laidLooks := .later }
def ProofsCheckUptoCardSaid : Prop := Claim7.holds Tryd.pinned (.plain (OpenSpec.upto proofsCheckSpec)) proofsCheckUptoCard

/-- THE SECOND FORM's CARD OF 'speculumlaw07.ProofsBack'. -/
def proofsBackUptoCard : Claim7 := { stood := { row := proofsBackUptoRow, standIns := [], harness := (true, "46305ca194b444ef78174caa256c985b265db57b90742ed54969cf1efc71752f"), looks := false }, kinds := [], alts := [], laidByText := true, laidKinds := [.data, .data], laidTests := true, laidLooks := .later }
def ProofsBackUptoCardSaid : Prop := Claim7.holds Tryd.pinned (.plain (OpenSpec.upto proofsBackSpec)) proofsBackUptoCard

/-- THE SECOND FORM's CARD OF 'speculumlaw05.RangesPart'. -/
def rangesPartUptoCard : Claim7 := { stood := { row := rangesPartUptoRow, standIns := [], harness := (true, "46305ca194b444ef78174caa256c985b265db57b90742ed54969cf1efc71752f"), looks := false }, kinds := [], alts := [], laidByText := true, laidKinds := [.data, .data], laidTests := true, laidLooks := .later }
def RangesPartUptoCardSaid : Prop := Claim7.holds Tryd.pinned (.plain (OpenSpec.upto rangesPartSpec)) rangesPartUptoCard

/-- THE SECOND FORM's CARD OF 'speculumlaw05.RangesFull'. -/
def rangesFullUptoCard : Claim7 := { stood := { row := rangesFullUptoRow, standIns := [], harness := (true, "46305ca194b444ef78174caa256c985b265db57b90742ed54969cf1efc71752f"), looks := false }, kinds := [], alts := [], laidByText := true, laidKinds := [.data, .data], laidTests := true, laidLooks := .later }
def RangesFullUptoCardSaid : Prop := Claim7.holds Tryd.pinned (.plain (OpenSpec.upto rangesFullSpec)) rangesFullUptoCard

/-- THE SECOND FORM's CARD OF 'speculumlaw05.RangesTell'. -/
def rangesTellUptoCard : Claim7 := { stood := { row := rangesTellUptoRow, standIns := [], harness := (true, "46305ca194b444ef78174caa256c985b265db57b90742ed54969cf1efc71752f"), looks := false }, kinds := [], alts := [], laidByText := true, laidKinds := [.data, .data], laidTests := true, laidLooks := .later }
def RangesTellUptoCardSaid : Prop := Claim7.holds Tryd.pinned (.plain (OpenSpec.upto rangesTellSpec)) rangesTellUptoCard

/-- THE SECOND FORM's CARD OF 'speculumlaw05.RangesSame'. -/
def rangesSameUptoCard : Claim7 := { stood := { row := rangesSameUptoRow, standIns := [], harness := (true, "46305ca194b444ef78174caa256c985b265db57b90742ed54969cf1efc71752f"), looks := false }, kinds := [], alts := [], laidByText := true, laidKinds := [.data, .data], laidTests := true, laidLooks := .later }
def RangesSameUptoCardSaid : Prop := Claim7.holds Tryd.pinned (.plain (OpenSpec.upto rangesSameSpec)) rangesSameUptoCard

/-- THE SECOND FORM's CARD OF 'speculumlaw10.HeadsGet'. -/
def headsGetUptoCard : Claim7 := { stood := { row := headsGetUptoRow, standIns := [], harness := (true, "46305ca194b444ef78174caa256c985b265db57b90742ed54969cf1efc71752f"), looks := false }, kinds := [], alts := [], laidByText := true, laidKinds := [.data, .data], laidTests := true, laidLooks := .later }
def HeadsGetUptoCardSaid : Prop := Claim7.holds Tryd.pinned (.plain (OpenSpec.upto headsGetSpec)) headsGetUptoCard

/-- THE SECOND FORM's CARD OF 'speculumlaw10.HeadsBack'. -/
def headsBackUptoCard : Claim7 := { stood := { row := headsBackUptoRow, standIns := [], harness := (true, "46305ca194b444ef78174caa256c985b265db57b90742ed54969cf1efc71752f"), looks := false }, kinds := [], alts := [], laidByText := true, laidKinds := [.data, .data], laidTests := true, laidLooks := .later }
def HeadsBackUptoCardSaid : Prop := Claim7.holds Tryd.pinned (.plain (OpenSpec.upto headsBackSpec)) headsBackUptoCard

/-- THE SECOND FORM's CARD OF 'speculumlaw09.KeytreeSign'. -/
def keytreeSignUptoCard : Claim7 := { stood := { row := keytreeSignUptoRow, standIns := [], harness := (true, "46305ca194b444ef78174caa256c985b265db57b90742ed54969cf1efc71752f"), looks := false }, kinds := [], alts := [], laidByText := true, laidKinds := [.data, .data], laidTests := true, laidLooks := .later }
def KeytreeSignUptoCardSaid : Prop := Claim7.holds Tryd.pinned (.plain (OpenSpec.upto keytreeSignSpec)) keytreeSignUptoCard

/-- THE SECOND FORM's CARD OF 'speculumlaw09.KeytreeVerify'. -/
def keytreeVerifyUptoCard : Claim7 := { stood := { row := keytreeVerifyUptoRow, standIns := [], harness := (true, "46305ca194b444ef78174caa256c985b265db57b90742ed54969cf1efc71752f"), looks := false }, kinds := [], alts := [], laidByText := true, laidKinds := [.data, .data], laidTests := true, laidLooks := .later }
def KeytreeVerifyUptoCardSaid : Prop := Claim7.holds Tryd.pinned (.plain (OpenSpec.upto keytreeVerifySpec)) keytreeVerifyUptoCard

/-- THE SECOND FORM's CARD OF 'speculumlaw09.KeytreeNone'. -/
def keytreeNoneUptoCard : Claim7 := { stood := { row := keytreeNoneUptoRow, standIns := [], harness := (true, "46305ca194b444ef78174caa256c985b265db57b90742ed54969cf1efc71752f"), looks := false }, kinds := [], alts := [], laidByText := true, laidKinds := [.data, .data], laidTests := true, laidLooks := .later }
def KeytreeNoneUptoCardSaid : Prop := Claim7.holds Tryd.pinned (.plain (OpenSpec.upto keytreeNoneSpec)) keytreeNoneUptoCard
end Rows
end Go.Proofs.YtfofemaglndnjaaDoor
