/-
  DERIVED. GIVEN WITH THE SEED: THE CARDS: each row of YtcdcmgjnbjoajaaDoorRows.lean that lists a variable, with what it lists TIED to the program's text (the seventh form; the later family's looks); each row that meets fmt, with fmt's text TOLD by the authors' own Lean function (tested against real Go, not proved from fmt's source: count such statements apart). THE CARD IS WHAT COUNTS. Prove the row's statement (the work); the ties are given (YtcdcmgjnbjoajaaDoorTie.lean); close each card by the builder's one call (the guide's Derived/Test/ToyasCard.lean, 'card_holds'). Laid BY PROGRAM, IN A SANDBOX (cutbox-door.mjs). By AI agents, Wed Nov 11 2026. No macro, syntax, notation, axiom, sorry.
-/
import Derived.Test.YtcdcmgjnbjoajaaDoorRows
import GoSem.ClaimSeven
namespace Go.Proofs.YtcdcmgjnbjoajaaDoor
namespace Rows

/-- THE TIED CARD OF 'speculumlaw31.PoolFull'. -/
def poolFullCard : Claim7 := { stood := { row := poolFullRow, standIns := [], harness := (true, "911afc842e6ad504de8a4fe25144d833ce60d3b0313bf1ccf40c9a489937efde"), looks := false }, kinds := [], alts := [], laidByText := true, laidKinds := [.data, .data], laidTests := true, laidLooks := .later }
def PoolFullCardSaid : Prop := Claim7.holds Tryd.pinned (.plain (OpenSpec.ofChange poolFullSpec)) poolFullCard

/-- THE TIED CARD OF 'speculumlaw31.PoolForks'. -/
def poolForksCard : Claim7 := { stood := { row := poolForksRow, standIns := [], harness := (true, "911afc842e6ad504de8a4fe25144d833ce60d3b0313bf1ccf40c9a489937efde"), looks := false }, kinds := [], alts := [], laidByText := true, laidKinds := [.data, .data], laidTests := true, laidLooks := .later }
def PoolForksCardSaid : Prop := Claim7.holds Tryd.pinned (.plain (OpenSpec.ofChange poolForksSpec)) poolForksCard

/-- THE TIED CARD OF 'speculumlaw31.PoolOrder'. -/
def poolOrderCard : Claim7 := { stood := { row := poolOrderRow, standIns := [], harness := (true, "911afc842e6ad504de8a4fe25144d833ce60d3b0313bf1ccf40c9a489937efde"), looks := false }, kinds := [], alts := [], laidByText := true, laidKinds := [.data, .data], laidTests := true, laidLooks := .later }
def PoolOrderCardSaid : Prop := Claim7.holds Tryd.pinned (.plain (OpenSpec.ofChange poolOrderSpec)) poolOrderCard

/-- THE TIED CARD OF 'speculumlaw31.PoolNone'. -/
def poolNoneCard : Claim7 := { stood := { row := poolNoneRow, standIns := [], harness := (true, "911afc842e6ad504de8a4fe25144d833ce60d3b0313bf1ccf40c9a489937efde"), looks := false }, kinds := [], alts := [], laidByText := true, laidKinds := [.data, .data], laidTests := true, laidLooks := .later }
def PoolNoneCardSaid : Prop := Claim7.holds Tryd.pinned (.plain (OpenSpec.ofChange poolNoneSpec)) poolNoneCard

/-- THE SECOND FORM's CARD OF 'speculumlaw31.PoolFull'. -/
def poolFullUptoCard : Claim7 := { stood := { row := poolFullUptoRow, standIns := [], harness := (true, "911afc842e6ad504de8a4fe25144d833ce60d3b0313bf1ccf40c9a489937efde"), looks := false }, kinds := [], alts := [], laidByText := true, laidKinds := [.data, .data], laidTests := true, laidLooks := .later }
def PoolFullUptoCardSaid : Prop := Claim7.holds Tryd.pinned (.plain (OpenSpec.upto poolFullSpec)) poolFullUptoCard

/-- THE SECOND FORM's CARD OF 'speculumlaw31.PoolForks'. -/
def poolForksUptoCard : Claim7 := { stood := { row := poolForksUptoRow, standIns := [], harness := (true, "911afc842e6ad504de8a4fe25144d833ce60d3b0313bf1ccf40c9a489937efde"), looks := false }, kinds := [], alts := [], laidByText := true, laidKinds := [.data, .data], laidTests := true, laidLooks := .later }
def PoolForksUptoCardSaid : Prop := Claim7.holds Tryd.pinned (.plain (OpenSpec.upto poolForksSpec)) poolForksUptoCard

/-- THE SECOND FORM's CARD OF 'speculumlaw31.PoolOrder'. -/
def poolOrderUptoCard : Claim7 := { stood := { row := poolOrderUptoRow, standIns := [], harness := (true, "911afc842e6ad504de8a4fe25144d833ce60d3b0313bf1ccf40c9a489937efde"), looks := false }, kinds := [], alts := [], laidByText := true, laidKinds := [.data, .data], laidTests := true, laidLooks := .later }
def PoolOrderUptoCardSaid : Prop := Claim7.holds Tryd.pinned (.plain (OpenSpec.upto poolOrderSpec)) poolOrderUptoCard

/-- THE SECOND FORM's CARD OF 'speculumlaw31.PoolNone'. -/
def poolNoneUptoCard : Claim7 := { stood := { row := poolNoneUptoRow, standIns := [], harness := (true, "911afc842e6ad504de8a4fe25144d833ce60d3b0313bf1ccf40c9a489937efde"), looks := false }, kinds := [], alts := [], laidByText := true, laidKinds := [.data, .data], laidTests := true, laidLooks := .later }
def PoolNoneUptoCardSaid : Prop := Claim7.holds Tryd.pinned (.plain (OpenSpec.upto poolNoneSpec)) poolNoneUptoCard
end Rows
end Go.Proofs.YtcdcmgjnbjoajaaDoor
