/-
  DERIVED. GIVEN WITH THE SEED: THE CARDS: each row of YtcdcmgjnbjoajaaGreatDoorRows.lean that lists a variable, with what it lists TIED to the program's text (the seventh form; the later family's looks); each row that meets fmt, with fmt's text TOLD by the authors' own Lean function (tested against real Go, not proved from fmt's source: count such statements apart). THE CARD IS WHAT COUNTS. Prove the row's statement (the work); the ties are given (YtcdcmgjnbjoajaaGreatDoorTie.lean); close each card by the builder's one call (the guide's Derived/Test/ToyasCard.lean, 'card_holds'). Laid BY PROGRAM, IN A SANDBOX (cutbox-door.mjs). By AI agents, Wed Nov 11 2026. No macro, syntax, notation, axiom, sorry.
-/
import Derived.Test.YtcdcmgjnbjoajaaGreatDoorRows
import GoSem.ClaimSeven
namespace Go.Proofs.YtcdcmgjnbjoajaaGreatDoor
namespace Rows

/-- THE TIED CARD OF 'speculumlaw31.PoolPlay'. -/
def poolPlayCard : Claim7 := { stood := { row := poolPlayRow, standIns := [], harness := (true, "44ff5c91dda6698606ecf5b4d6b7d38345943e4af3bd566e26ff015cd808b0a5"), looks := false }, kinds := [], alts := [], laidByText := true, laidKinds := [.data, .data], laidTests := true, laidLooks := .later }
def PoolPlayCardSaid : Prop := Claim7.holds Tryz.pinned (.plain (OpenSpec.ofChange poolPlaySpec)) poolPlayCard

/-- THE TIED CARD OF 'speculumlaw38.CircleNone'. -/
def circleNoneCard : Claim7 := { stood := { row := circleNoneRow, standIns := [], harness := (true, "44ff5c91dda6698606ecf5b4d6b7d38345943e4af3bd566e26ff015cd808b0a5"), looks := false }, kinds := [], alts := [], laidByText := true, laidKinds := [.data, .data], laidTests := true, laidLooks := .later }
def CircleNoneCardSaid : Prop := Claim7.holds Tryz.pinned (.plain (OpenSpec.ofChange circleNoneSpec)) circleNoneCard

/-- THE TIED CARD OF 'speculumlaw38.CircleGrows'. -/
def circleGrowsCard : Claim7 := { stood := { row := circleGrowsRow, standIns := [], harness := (true, "44ff5c91dda6698606ecf5b4d6b7d38345943e4af3bd566e26ff015cd808b0a5"), looks := false }, kinds := [], alts := [], laidByText := true, laidKinds := [.data, .data], laidTests := true, laidLooks := .later }
def CircleGrowsCardSaid : Prop := Claim7.holds Tryz.pinned (.plain (OpenSpec.ofChange circleGrowsSpec)) circleGrowsCard

/-- THE TIED CARD OF 'speculumlaw38.CircleAll'. -/
def circleAllCard : Claim7 := { stood := { row := circleAllRow, standIns := [], harness := (true, "44ff5c91dda6698606ecf5b4d6b7d38345943e4af3bd566e26ff015cd808b0a5"), looks := false }, kinds := [], alts := [], laidByText := true, laidKinds := [.data, .data], laidTests := true, laidLooks := .later }
def CircleAllCardSaid : Prop := Claim7.holds Tryz.pinned (.plain (OpenSpec.ofChange circleAllSpec)) circleAllCard

/-- THE TIED CARD OF 'speculumlaw38.CirclePlay'. -/
def circlePlayCard : Claim7 := { stood := { row := circlePlayRow, standIns := [], harness := (true, "44ff5c91dda6698606ecf5b4d6b7d38345943e4af3bd566e26ff015cd808b0a5"), looks := false }, kinds := [], alts := [], laidByText := true, laidKinds := [.data, .data], laidTests := true, laidLooks := .later }
def CirclePlayCardSaid : Prop := Claim7.holds Tryz.pinned (.plain (OpenSpec.ofChange circlePlaySpec)) circlePlayCard

/-- THE SECOND FORM's CARD OF 'speculumlaw31.PoolPlay'. -/
def poolPlayUptoCard : Claim7 := { stood := { row := poolPlayUptoRow, standIns := [], harness := (true, "44ff5c91dda6698606ecf5b4d6b7d38345943e4af3bd566e26ff015cd808b0a5"), looks := false }, kinds := [], alts := [], laidByText := true, laidKinds := [.data, .data], laidTests := true, laidLooks := .later }
def PoolPlayUptoCardSaid : Prop := Claim7.holds Tryz.pinned (.plain (OpenSpec.upto poolPlaySpec)) poolPlayUptoCard

/-- THE SECOND FORM's CARD OF 'speculumlaw38.CircleNone'. -/
def circleNoneUptoCard : Claim7 := { stood := { row := circleNoneUptoRow, standIns := [], harness := (true, "44ff5c91dda6698606ecf5b4d6b7d38345943e4af3bd566e26ff015cd808b0a5"), looks := false }, kinds := [], alts := [], laidByText := true, laidKinds := [.data, .data], laidTests := true, laidLooks := .later }
def CircleNoneUptoCardSaid : Prop := Claim7.holds Tryz.pinned (.plain (OpenSpec.upto circleNoneSpec)) circleNoneUptoCard

/-- THE SECOND FORM's CARD OF 'speculumlaw38.CircleGrows'. -/
def circleGrowsUptoCard : Claim7 := { stood := { row := circleGrowsUptoRow, standIns := [], harness := (true, "44ff5c91dda6698606ecf5b4d6b7d38345943e4af3bd566e26ff015cd808b0a5"), looks := false }, kinds := [], alts := [], laidByText := true, laidKinds := [.data, .data], laidTests := true, laidLooks := .later }
def CircleGrowsUptoCardSaid : Prop := Claim7.holds Tryz.pinned (.plain (OpenSpec.upto circleGrowsSpec)) circleGrowsUptoCard

/-- THE SECOND FORM's CARD OF 'speculumlaw38.CircleAll'. -/
def circleAllUptoCard : Claim7 := { stood := { row := circleAllUptoRow, standIns := [], harness := (true, "44ff5c91dda6698606ecf5b4d6b7d38345943e4af3bd566e26ff015cd808b0a5"), looks := false }, kinds := [], alts := [], laidByText := true, laidKinds := [.data, .data], laidTests := true, laidLooks := .later }
def CircleAllUptoCardSaid : Prop := Claim7.holds Tryz.pinned (.plain (OpenSpec.upto circleAllSpec)) circleAllUptoCard

/-- THE SECOND FORM's CARD OF 'speculumlaw38.CirclePlay'. -/
def circlePlayUptoCard : Claim7 := { stood := { row := circlePlayUptoRow, standIns := [], harness := (true, "44ff5c91dda6698606ecf5b4d6b7d38345943e4af3bd566e26ff015cd808b0a5"), looks := false }, kinds := [], alts := [], laidByText := true, laidKinds := [.data, .data], laidTests := true, laidLooks := .later }
def CirclePlayUptoCardSaid : Prop := Claim7.holds Tryz.pinned (.plain (OpenSpec.upto circlePlaySpec)) circlePlayUptoCard
end Rows
end Go.Proofs.YtcdcmgjnbjoajaaGreatDoor
