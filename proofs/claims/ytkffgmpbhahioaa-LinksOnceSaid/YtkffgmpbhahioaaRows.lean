/-
  No cell of these rows narrows 'for every input' (looked for: loops, veiled, ifaces, maps, wideKeys, modest, calm, conditions, laid).
  DERIVED. THE GIVEN ROWS OF THIS SEAT. 7 by the template 'for every input the law returns true; each argument reads behind the call as it read before'; 0 by the template 'total and deterministic' (their statements: YtkffgmpbhahioaaTotals.lean).
  GIVEN WITH THE SEED: the statements are not yours to turn. If you find one false, say at which input.
  Laid BY PROGRAM, IN A SANDBOX (cutbox-rows.mjs): the forced cells as the released guide's own fill.sh prints them over the translation 4e7e0ced966f45f9… (all of the seat's roots in one cut). By AI agents, Wed Nov 11 2026. No macro, syntax, notation, axiom, sorry.
-/
import Derived.Test.YtkffgmpbhahioaaChecked
import GoSem.Claim
import GoSem.ClaimJoined
import GoSem.ClaimMapViews
import Derived.JoinedTies
import Derived.KernelRfl
namespace Go.Proofs.Ytkffgmpbhahioaa
/- THE CELL 'sum', in the pinned program and in every row, IS THE sha256 OF THE DUMP (.gsa) THAT YtkffgmpbhahioaaProg.lean LOADS. Nothing in Lean hashes anything: it is a label: what it is worth is what the hold of that sum in a sandbox is worth. -/
noncomputable def Try.pinned : Pinned := { name := "ytkffgmpbhahioaa", sum := "4e7e0ced966f45f92491efc1d84b5e1d4331250f46a3306f2ea41c2cfcd5a2f0", checked := Try.checked }
namespace Rows
def none {H : Type} : Left H := { results := [], args := [] }

/-- 'speculumlaw20.LinksOnce': WHATEVER THE INPUT: true; the input reads as it did. -/
def linksOnceSpec : ChangeSpec := { name := "linksOnce", fn := fun _ => fun
  | [d1, d2, d3] => { results := [.lit (.bool true)], args := [d1, d2, d3] }
  | _ => none }
def linksOnceRow : OpenClaim := { program := "ytkffgmpbhahioaa", sum := "4e7e0ced966f45f92491efc1d84b5e1d4331250f46a3306f2ea41c2cfcd5a2f0", func := "speculum/speculumlaw20.LinksOnce", spec := "linksOnce", apart := false }
def LinksOnceSaid : Prop := linksOnceRow.holds Try.pinned (OpenSpec.ofChange linksOnceSpec)

/-- ITS FALSE NEIGHBOUR: 'it returns false'. Refute it at one input. -/
def linksOnceWrong : ChangeSpec := { name := "linksOnce", fn := fun _ => fun
  | [d1, d2, d3] => { results := [.lit (.bool false)], args := [d1, d2, d3] }
  | _ => none }
def LinksOnceWrongFalsely : Prop := linksOnceRow.holds Try.pinned (OpenSpec.ofChange linksOnceWrong)

/-- 'speculumlaw20.LinksPlay': WHATEVER THE INPUT: true; the input reads as it did. -/
def linksPlaySpec : ChangeSpec := { name := "linksPlay", fn := fun _ => fun
  | [d1, d2] => { results := [.lit (.bool true)], args := [d1, d2] }
  | _ => none }
def linksPlayRow : OpenClaim := { program := "ytkffgmpbhahioaa", sum := "4e7e0ced966f45f92491efc1d84b5e1d4331250f46a3306f2ea41c2cfcd5a2f0", func := "speculum/speculumlaw20.LinksPlay", spec := "linksPlay", apart := false }
def LinksPlaySaid : Prop := linksPlayRow.holds Try.pinned (OpenSpec.ofChange linksPlaySpec)

/-- ITS FALSE NEIGHBOUR: 'it returns false'. Refute it at one input. -/
def linksPlayWrong : ChangeSpec := { name := "linksPlay", fn := fun _ => fun
  | [d1, d2] => { results := [.lit (.bool false)], args := [d1, d2] }
  | _ => none }
def LinksPlayWrongFalsely : Prop := linksPlayRow.holds Try.pinned (OpenSpec.ofChange linksPlayWrong)

/-- 'speculumlaw20.LinksNone': WHATEVER THE INPUT: true; the input reads as it did. -/
def linksNoneSpec : ChangeSpec := { name := "linksNone", fn := fun _ => fun
  | [d] => { results := [.lit (.bool true)], args := [d] }
  | _ => none }
def linksNoneRow : OpenClaim := { program := "ytkffgmpbhahioaa", sum := "4e7e0ced966f45f92491efc1d84b5e1d4331250f46a3306f2ea41c2cfcd5a2f0", func := "speculum/speculumlaw20.LinksNone", spec := "linksNone", apart := false }
def LinksNoneSaid : Prop := linksNoneRow.holds Try.pinned (OpenSpec.ofChange linksNoneSpec)

/-- ITS FALSE NEIGHBOUR: 'it returns false'. Refute it at one input. -/
def linksNoneWrong : ChangeSpec := { name := "linksNone", fn := fun _ => fun
  | [d] => { results := [.lit (.bool false)], args := [d] }
  | _ => none }
def LinksNoneWrongFalsely : Prop := linksNoneRow.holds Try.pinned (OpenSpec.ofChange linksNoneWrong)

/-- 'speculumlaw01.BitsTell': WHATEVER THE INPUT: true; the input reads as it did. -/
def bitsTellSpec : ChangeSpec := { name := "bitsTell", fn := fun _ => fun
  | [d1, d2, d3] => { results := [.lit (.bool true)], args := [d1, d2, d3] }
  | _ => none }
def bitsTellRow : OpenClaim := { program := "ytkffgmpbhahioaa", sum := "4e7e0ced966f45f92491efc1d84b5e1d4331250f46a3306f2ea41c2cfcd5a2f0", func := "speculum/speculumlaw01.BitsTell", spec := "bitsTell", apart := false }
def BitsTellSaid : Prop := bitsTellRow.holds Try.pinned (OpenSpec.ofChange bitsTellSpec)

/-- ITS FALSE NEIGHBOUR: 'it returns false'. Refute it at one input. -/
def bitsTellWrong : ChangeSpec := { name := "bitsTell", fn := fun _ => fun
  | [d1, d2, d3] => { results := [.lit (.bool false)], args := [d1, d2, d3] }
  | _ => none }
def BitsTellWrongFalsely : Prop := bitsTellRow.holds Try.pinned (OpenSpec.ofChange bitsTellWrong)

/-- 'speculumlaw01.BitsBytes': WHATEVER THE INPUT: true; the input reads as it did. -/
def bitsBytesSpec : ChangeSpec := { name := "bitsBytes", fn := fun _ => fun
  | [d1, d2] => { results := [.lit (.bool true)], args := [d1, d2] }
  | _ => none }
def bitsBytesRow : OpenClaim := { program := "ytkffgmpbhahioaa", sum := "4e7e0ced966f45f92491efc1d84b5e1d4331250f46a3306f2ea41c2cfcd5a2f0", func := "speculum/speculumlaw01.BitsBytes", spec := "bitsBytes", apart := false }
def BitsBytesSaid : Prop := bitsBytesRow.holds Try.pinned (OpenSpec.ofChange bitsBytesSpec)

/-- ITS FALSE NEIGHBOUR: 'it returns false'. Refute it at one input. -/
def bitsBytesWrong : ChangeSpec := { name := "bitsBytes", fn := fun _ => fun
  | [d1, d2] => { results := [.lit (.bool false)], args := [d1, d2] }
  | _ => none }
def BitsBytesWrongFalsely : Prop := bitsBytesRow.holds Try.pinned (OpenSpec.ofChange bitsBytesWrong)

/-- 'speculumlaw01.BitsBack': WHATEVER THE INPUT: true; the input reads as it did. -/
def bitsBackSpec : ChangeSpec := { name := "bitsBack", fn := fun _ => fun
  | [d1, d2, d3] => { results := [.lit (.bool true)], args := [d1, d2, d3] }
  | _ => none }
def bitsBackRow : OpenClaim := { program := "ytkffgmpbhahioaa", sum := "4e7e0ced966f45f92491efc1d84b5e1d4331250f46a3306f2ea41c2cfcd5a2f0", func := "speculum/speculumlaw01.BitsBack", spec := "bitsBack", apart := false }
def BitsBackSaid : Prop := bitsBackRow.holds Try.pinned (OpenSpec.ofChange bitsBackSpec)

/-- ITS FALSE NEIGHBOUR: 'it returns false'. Refute it at one input. -/
def bitsBackWrong : ChangeSpec := { name := "bitsBack", fn := fun _ => fun
  | [d1, d2, d3] => { results := [.lit (.bool false)], args := [d1, d2, d3] }
  | _ => none }
def BitsBackWrongFalsely : Prop := bitsBackRow.holds Try.pinned (OpenSpec.ofChange bitsBackWrong)

/-- 'speculumlaw01.BitsLog': WHATEVER THE INPUT: true; the input reads as it did. -/
def bitsLogSpec : ChangeSpec := { name := "bitsLog", fn := fun _ => fun
  | [d] => { results := [.lit (.bool true)], args := [d] }
  | _ => none }
def bitsLogRow : OpenClaim := { program := "ytkffgmpbhahioaa", sum := "4e7e0ced966f45f92491efc1d84b5e1d4331250f46a3306f2ea41c2cfcd5a2f0", func := "speculum/speculumlaw01.BitsLog", spec := "bitsLog", apart := false }
def BitsLogSaid : Prop := bitsLogRow.holds Try.pinned (OpenSpec.ofChange bitsLogSpec)

/-- ITS FALSE NEIGHBOUR: 'it returns false'. Refute it at one input. -/
def bitsLogWrong : ChangeSpec := { name := "bitsLog", fn := fun _ => fun
  | [d] => { results := [.lit (.bool false)], args := [d] }
  | _ => none }
def BitsLogWrongFalsely : Prop := bitsLogRow.holds Try.pinned (OpenSpec.ofChange bitsLogWrong)

/- THE SECOND FORM. 'bulk': how many values and letters a reading holds, each counted each time it is reached (what is shared counts as often as it is met; a slice's spare places count too). A statement '..UptoSaid' is the law's where the arguments, and the package variables that the reading takes, are together of bulk at most 1048576: NARROWER than '..Said'. Prove '..Said' where nothing that the law and all that it calls make is longer than what came in: it says more and counts as full. Else prove '..UptoSaid'. A law counts once. -/
mutual
def uptoBulk {H : Type} : DataW H → Nat
  | .lit (.string bytes) => bytes.length + 1
  | .lit _ => 1
  | .nil => 1
  | .ptr d => uptoBulk d + 1
  | .slice elems spare => uptoBulkAll elems + uptoBulkAll spare + 1
  | .agg parts => uptoBulkAll parts + 1
  | .iface _ d => uptoBulk d + 1
  | .map entries => uptoBulkEntries entries + 1
  | .held _ => 1
def uptoBulkAll {H : Type} : List (DataW H) → Nat
  | [] => 0
  | d :: r => uptoBulk d + uptoBulkAll r
def uptoBulkEntries {H : Type} : List (Lit × DataW H) → Nat
  | [] => 0
  | x :: r => uptoBulkEntry x + uptoBulkEntries r
def uptoBulkEntry {H : Type} : Lit × DataW H → Nat
  | (.string bytes, d) => bytes.length + uptoBulk d + 1
  | (_, d) => uptoBulk d + 1
 end
def uptoSmall : (H : Type) → List (DataW H) → Bool := fun _ ds => decide (uptoBulkAll ds ≤ 1048576)
def OpenSpec.upto (s : _root_.Go.ChangeSpec) : _root_.Go.OpenSpec := { _root_.Go.OpenSpec.ofChange s with cond := some uptoSmall }

/-- 'speculumlaw20.LinksOnce', WHERE WHAT IT READS IS OF BULK AT MOST 1048576: true; the input reads as it did. -/
def linksOnceUptoRow : OpenClaim := { program := "ytkffgmpbhahioaa", sum := "4e7e0ced966f45f92491efc1d84b5e1d4331250f46a3306f2ea41c2cfcd5a2f0", func := "speculum/speculumlaw20.LinksOnce", spec := "linksOnce", apart := false, narrowed := true }
def LinksOnceUptoSaid : Prop := linksOnceUptoRow.holds Try.pinned (OpenSpec.upto linksOnceSpec)

/-- 'speculumlaw20.LinksPlay', WHERE WHAT IT READS IS OF BULK AT MOST 1048576: true; the input reads as it did. -/
def linksPlayUptoRow : OpenClaim := { program := "ytkffgmpbhahioaa", sum := "4e7e0ced966f45f92491efc1d84b5e1d4331250f46a3306f2ea41c2cfcd5a2f0", func := "speculum/speculumlaw20.LinksPlay", spec := "linksPlay", apart := false, narrowed := true }
def LinksPlayUptoSaid : Prop := linksPlayUptoRow.holds Try.pinned (OpenSpec.upto linksPlaySpec)

/-- 'speculumlaw20.LinksNone', WHERE WHAT IT READS IS OF BULK AT MOST 1048576: true; the input reads as it did. -/
def linksNoneUptoRow : OpenClaim := { program := "ytkffgmpbhahioaa", sum := "4e7e0ced966f45f92491efc1d84b5e1d4331250f46a3306f2ea41c2cfcd5a2f0", func := "speculum/speculumlaw20.LinksNone", spec := "linksNone", apart := false, narrowed := true }
def LinksNoneUptoSaid : Prop := linksNoneUptoRow.holds Try.pinned (OpenSpec.upto linksNoneSpec)

/-- 'speculumlaw01.BitsTell', WHERE WHAT IT READS IS OF BULK AT MOST 1048576: true; the input reads as it did. -/
def bitsTellUptoRow : OpenClaim := { program := "ytkffgmpbhahioaa", sum := "4e7e0ced966f45f92491efc1d84b5e1d4331250f46a3306f2ea41c2cfcd5a2f0", func := "speculum/speculumlaw01.BitsTell", spec := "bitsTell", apart := false, narrowed := true }
def BitsTellUptoSaid : Prop := bitsTellUptoRow.holds Try.pinned (OpenSpec.upto bitsTellSpec)

/-- 'speculumlaw01.BitsBytes', WHERE WHAT IT READS IS OF BULK AT MOST 1048576: true; the input reads as it did. -/
def bitsBytesUptoRow : OpenClaim := { program := "ytkffgmpbhahioaa", sum := "4e7e0ced966f45f92491efc1d84b5e1d4331250f46a3306f2ea41c2cfcd5a2f0", func := "speculum/speculumlaw01.BitsBytes", spec := "bitsBytes", apart := false, narrowed := true }
def BitsBytesUptoSaid : Prop := bitsBytesUptoRow.holds Try.pinned (OpenSpec.upto bitsBytesSpec)

/-- 'speculumlaw01.BitsBack', WHERE WHAT IT READS IS OF BULK AT MOST 1048576: true; the input reads as it did. -/
def bitsBackUptoRow : OpenClaim := { program := "ytkffgmpbhahioaa", sum := "4e7e0ced966f45f92491efc1d84b5e1d4331250f46a3306f2ea41c2cfcd5a2f0", func := "speculum/speculumlaw01.BitsBack", spec := "bitsBack", apart := false, narrowed := true }
def BitsBackUptoSaid : Prop := bitsBackUptoRow.holds Try.pinned (OpenSpec.upto bitsBackSpec)

/-- 'speculumlaw01.BitsLog', WHERE WHAT IT READS IS OF BULK AT MOST 1048576: true; the input reads as it did. -/
def bitsLogUptoRow : OpenClaim := { program := "ytkffgmpbhahioaa", sum := "4e7e0ced966f45f92491efc1d84b5e1d4331250f46a3306f2ea41c2cfcd5a2f0", func := "speculum/speculumlaw01.BitsLog", spec := "bitsLog", apart := false, narrowed := true }
def BitsLogUptoSaid : Prop := bitsLogUptoRow.holds Try.pinned (OpenSpec.upto bitsLogSpec)

end Rows
end Go.Proofs.Ytkffgmpbhahioaa
