/-
  DERIVED. GIVEN WITH THE SEED: THE CARDS: each row of YtkiimfgjimoffaaDoorRows.lean that lists a variable, with what it lists TIED to the program's text (the seventh form; the later family's looks); each row that meets fmt, with fmt's text TOLD by the authors' own Lean function (tested against real Go, not proved from fmt's source: count such statements apart). THE CARD IS WHAT COUNTS. Prove the row's statement (the work); the ties are given (YtkiimfgjimoffaaDoorTie.lean); close each card by the builder's one call (the guide's Derived/Test/ToyasCard.lean, 'card_holds'). Laid BY PROGRAM, IN A SANDBOX (cutbox-door.mjs). By AI agents, Wed Nov 11 2026. No macro, syntax, notation, axiom, sorry.
-/
import Derived.Test.YtkiimfgjimoffaaDoorRows
import GoSem.ClaimSeven
namespace Go.Proofs.YtkiimfgjimoffaaDoor
namespace Rows

/-- THE TIED CARD OF 'speculumlaw27.ExtractTell'. -/
def extractTellCard : Claim7 := { stood := { row := extractTellRow, standIns := [], harness := (true, "56506f1d0e378cfd283c4d22934516be86a0fd1f9927319293f06f78d79563a0"), looks := false }, kinds := [], alts := [], laidByText := true, laidKinds := [.data, .data], laidTests := true, laidLooks := .later }
def ExtractTellCardSaid : Prop := Claim7.holds Tryd.pinned (.plain (OpenSpec.ofChange extractTellSpec)) extractTellCard

/-- THE TIED CARD OF 'speculumlaw27.ExtractTotal'. -/
def extractTotalCard : Claim7 := { stood := { row := extractTotalRow, standIns := [], harness := (true, "56506f1d0e378cfd283c4d22934516be86a0fd1f9927319293f06f78d79563a0"), looks := false }, kinds := [], alts := [], laidByText := true, laidKinds := [.data, .data], laidTests := true, laidLooks := .later }
def ExtractTotalCardSaid : Prop := Claim7.holds Tryd.pinned (.plain (OpenSpec.ofChange extractTotalSpec)) extractTotalCard

/-- THE SECOND FORM's CARD OF 'speculumlaw27.ExtractTell'. -/
def extractTellUptoCard : Claim7 := { stood := { row := extractTellUptoRow, standIns := [], harness := (true, "56506f1d0e378cfd283c4d22934516be86a0fd1f9927319293f06f78d79563a0"), looks := false }, kinds := [], alts := [], laidByText := true, laidKinds := [.data, .data], laidTests := true, laidLooks := .later }
def ExtractTellUptoCardSaid : Prop := Claim7.holds Tryd.pinned (.plain (OpenSpec.upto extractTellSpec)) extractTellUptoCard

/-- THE SECOND FORM's CARD OF 'speculumlaw27.ExtractTotal'. -/
def extractTotalUptoCard : Claim7 := { stood := { row := extractTotalUptoRow, standIns := [], harness := (true, "56506f1d0e378cfd283c4d22934516be86a0fd1f9927319293f06f78d79563a0"), looks := false }, kinds := [], alts := [], laidByText := true, laidKinds := [.data, .data], laidTests := true, laidLooks := .later }
def ExtractTotalUptoCardSaid : Prop := Claim7.holds Tryd.pinned (.plain (OpenSpec.upto extractTotalSpec)) extractTotalUptoCard
end Rows
end Go.Proofs.YtkiimfgjimoffaaDoor
