/-
  DERIVED. GIVEN WITH THE SEED: THE CARDS: each row of YtkiimfgjimoffaaGreatDoorRows.lean that lists a variable, with what it lists TIED to the program's text (the seventh form; the later family's looks); each row that meets fmt, with fmt's text TOLD by the authors' own Lean function (tested against real Go, not proved from fmt's source: count such statements apart). THE CARD IS WHAT COUNTS. Prove the row's statement (the work); the ties are given (YtkiimfgjimoffaaGreatDoorTie.lean); close each card by the builder's one call (the guide's Derived/Test/ToyasCard.lean, 'card_holds'). Laid BY PROGRAM, IN A SANDBOX (cutbox-door.mjs). By AI agents, Wed Nov 11 2026. No macro, syntax, notation, axiom, sorry.
-/
import Derived.Test.YtkiimfgjimoffaaGreatDoorRows
import GoSem.ClaimSeven
namespace Go.Proofs.YtkiimfgjimoffaaGreatDoor
namespace Rows

/-- THE TIED CARD OF 'speculumlaw27.ExtractForged'. -/
def extractForgedCard : Claim7 := { stood := { row := extractForgedRow, standIns := [], harness := (true, "21e048f1c2481c228fb13f4f9dfb3eba55bad10344ea626916e557e9e76d4319"), looks := false }, kinds := [], alts := [], laidByText := true, laidKinds := [.data, .data], laidTests := true, laidLooks := .later }
def ExtractForgedCardSaid : Prop := Claim7.holds Tryz.pinned (.plain (OpenSpec.ofChange extractForgedSpec)) extractForgedCard

/-- THE SECOND FORM's CARD OF 'speculumlaw27.ExtractForged'. -/
def extractForgedUptoCard : Claim7 := { stood := { row := extractForgedUptoRow, standIns := [], harness := (true, "21e048f1c2481c228fb13f4f9dfb3eba55bad10344ea626916e557e9e76d4319"), looks := false }, kinds := [], alts := [], laidByText := true, laidKinds := [.data, .data], laidTests := true, laidLooks := .later }
def ExtractForgedUptoCardSaid : Prop := Claim7.holds Tryz.pinned (.plain (OpenSpec.upto extractForgedSpec)) extractForgedUptoCard
end Rows
end Go.Proofs.YtkiimfgjimoffaaGreatDoor
