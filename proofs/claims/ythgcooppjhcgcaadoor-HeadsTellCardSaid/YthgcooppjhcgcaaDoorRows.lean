/-
  NARROWER THAN 'FOR EVERY INPUT', by the rows' own cells (each row's printed sentence says how): RangesTell: laid · RangesSame: laid · HeadsGet: laid · HeadsBack: laid · KeytreeSign: laid · KeytreeVerify: laid · KeytreeNone: laid · HeadsTell: laid · StageRaw: laid · StagePlay: laid · AuditNone: laid.
  DERIVED. THE GIVEN ROWS OF THIS SEAT. 11 by the template 'for every input the law returns true; each argument reads behind the call as it read before'; 0 by the template 'total and deterministic' (their statements: YthgcooppjhcgcaaDoorTotals.lean).
  GIVEN WITH THE SEED: the statements are not yours to turn. If you find one false, say at which input.
  Laid BY PROGRAM, IN A SANDBOX (cutbox-rows.mjs): the forced cells as the released guide's own fill.sh prints them over the translation bb89c209a20d8668… (all of the seat's roots in one cut). By AI agents, Wed Nov 11 2026. No macro, syntax, notation, axiom, sorry.
-/
import Derived.Test.YthgcooppjhcgcaaDoorChecked
import GoSem.Claim
import GoSem.ClaimJoined
import GoSem.ClaimMapViews
import Derived.JoinedTies
import Derived.KernelRfl
namespace Go.Proofs.YthgcooppjhcgcaaDoor
/- THE CELL 'sum', in the pinned program and in every row, IS THE sha256 OF THE DUMP (.gsa) THAT YthgcooppjhcgcaaDoorProg.lean LOADS. Nothing in Lean hashes anything: it is a label: what it is worth is what the hold of that sum in a sandbox is worth. -/
noncomputable def Tryd.pinned : Pinned := { name := "ythgcooppjhcgcaadoor", sum := "bb89c209a20d8668183efb753e6f49ea707ef37b42d63acfb5c2981626f1be5c", checked := Tryd.checked }
namespace Rows
def none {H : Type} : Left H := { results := [], args := [] }

/- WHAT THE LISTED PACKAGE-LEVEL VARIABLES READ AS WHEN THE CALL BEGINS. Each datum BY PROGRAM (the guide's laid-datum.mjs) off the statement by which the dump's own 'gosem.cut.vars' lays the variable. In a bare row this is a premise. The card (YthgcooppjhcgcaaDoorCards.lean) ties it to the program's text. -/
def laid_speculum_sha_first {H : Type} : DataW H := .agg [.lit (.int .u32 1779033703), .lit (.int .u32 3144134277), .lit (.int .u32 1013904242), .lit (.int .u32 2773480762), .lit (.int .u32 1359893119), .lit (.int .u32 2600822924), .lit (.int .u32 528734635), .lit (.int .u32 1541459225)]
def laid_speculum_sha_rounds {H : Type} : DataW H := .agg [.lit (.int .u32 1116352408), .lit (.int .u32 1899447441), .lit (.int .u32 3049323471), .lit (.int .u32 3921009573), .lit (.int .u32 961987163), .lit (.int .u32 1508970993), .lit (.int .u32 2453635748), .lit (.int .u32 2870763221), .lit (.int .u32 3624381080), .lit (.int .u32 310598401), .lit (.int .u32 607225278), .lit (.int .u32 1426881987), .lit (.int .u32 1925078388), .lit (.int .u32 2162078206), .lit (.int .u32 2614888103), .lit (.int .u32 3248222580), .lit (.int .u32 3835390401), .lit (.int .u32 4022224774), .lit (.int .u32 264347078), .lit (.int .u32 604807628), .lit (.int .u32 770255983), .lit (.int .u32 1249150122), .lit (.int .u32 1555081692), .lit (.int .u32 1996064986), .lit (.int .u32 2554220882), .lit (.int .u32 2821834349), .lit (.int .u32 2952996808), .lit (.int .u32 3210313671), .lit (.int .u32 3336571891), .lit (.int .u32 3584528711), .lit (.int .u32 113926993), .lit (.int .u32 338241895), .lit (.int .u32 666307205), .lit (.int .u32 773529912), .lit (.int .u32 1294757372), .lit (.int .u32 1396182291), .lit (.int .u32 1695183700), .lit (.int .u32 1986661051), .lit (.int .u32 2177026350), .lit (.int .u32 2456956037), .lit (.int .u32 2730485921), .lit (.int .u32 2820302411), .lit (.int .u32 3259730800), .lit (.int .u32 3345764771), .lit (.int .u32 3516065817), .lit (.int .u32 3600352804), .lit (.int .u32 4094571909), .lit (.int .u32 275423344), .lit (.int .u32 430227734), .lit (.int .u32 506948616), .lit (.int .u32 659060556), .lit (.int .u32 883997877), .lit (.int .u32 958139571), .lit (.int .u32 1322822218), .lit (.int .u32 1537002063), .lit (.int .u32 1747873779), .lit (.int .u32 1955562222), .lit (.int .u32 2024104815), .lit (.int .u32 2227730452), .lit (.int .u32 2361852424), .lit (.int .u32 2428436474), .lit (.int .u32 2756734187), .lit (.int .u32 3204031479), .lit (.int .u32 3329325298)]

/-- 'speculumlaw05.RangesTell': WHATEVER THE INPUT: true; the input reads as it did. -/
def rangesTellSpec : ChangeSpec := { name := "rangesTell", fn := fun _ => fun
  | [d1, d2, d3] => { results := [.lit (.bool true)], args := [d1, d2, d3] }
  | _ => none }
def rangesTellRow : OpenClaim := { program := "ythgcooppjhcgcaadoor", sum := "bb89c209a20d8668183efb753e6f49ea707ef37b42d63acfb5c2981626f1be5c", func := "speculum/speculumlaw05.RangesTell", spec := "rangesTell", inPlace := ["internal/abi.NoEscape", "internal/bytealg.MakeNoZero"], unfollowed := true, recurses := true, named := ["speculum/sha.first", "speculum/sha.rounds"], apart := false, laid := [("speculum/sha.first", laid_speculum_sha_first), ("speculum/sha.rounds", laid_speculum_sha_rounds)] }
def RangesTellSaid : Prop := rangesTellRow.holds Tryd.pinned (OpenSpec.ofChange rangesTellSpec)

/-- ITS FALSE NEIGHBOUR: 'it returns false'. Refute it at one input. -/
def rangesTellWrong : ChangeSpec := { name := "rangesTell", fn := fun _ => fun
  | [d1, d2, d3] => { results := [.lit (.bool false)], args := [d1, d2, d3] }
  | _ => none }
def RangesTellWrongFalsely : Prop := rangesTellRow.holds Tryd.pinned (OpenSpec.ofChange rangesTellWrong)

/-- 'speculumlaw05.RangesSame': WHATEVER THE INPUT: true; the input reads as it did. -/
def rangesSameSpec : ChangeSpec := { name := "rangesSame", fn := fun _ => fun
  | [d1, d2] => { results := [.lit (.bool true)], args := [d1, d2] }
  | _ => none }
def rangesSameRow : OpenClaim := { program := "ythgcooppjhcgcaadoor", sum := "bb89c209a20d8668183efb753e6f49ea707ef37b42d63acfb5c2981626f1be5c", func := "speculum/speculumlaw05.RangesSame", spec := "rangesSame", inPlace := ["internal/abi.NoEscape", "internal/bytealg.MakeNoZero"], unfollowed := true, recurses := true, named := ["speculum/sha.first", "speculum/sha.rounds"], apart := false, laid := [("speculum/sha.first", laid_speculum_sha_first), ("speculum/sha.rounds", laid_speculum_sha_rounds)] }
def RangesSameSaid : Prop := rangesSameRow.holds Tryd.pinned (OpenSpec.ofChange rangesSameSpec)

/-- ITS FALSE NEIGHBOUR: 'it returns false'. Refute it at one input. -/
def rangesSameWrong : ChangeSpec := { name := "rangesSame", fn := fun _ => fun
  | [d1, d2] => { results := [.lit (.bool false)], args := [d1, d2] }
  | _ => none }
def RangesSameWrongFalsely : Prop := rangesSameRow.holds Tryd.pinned (OpenSpec.ofChange rangesSameWrong)

/-- 'speculumlaw10.HeadsGet': WHATEVER THE INPUT: true; the input reads as it did. -/
def headsGetSpec : ChangeSpec := { name := "headsGet", fn := fun _ => fun
  | [d1, d2, d3] => { results := [.lit (.bool true)], args := [d1, d2, d3] }
  | _ => none }
def headsGetRow : OpenClaim := { program := "ythgcooppjhcgcaadoor", sum := "bb89c209a20d8668183efb753e6f49ea707ef37b42d63acfb5c2981626f1be5c", func := "speculum/speculumlaw10.HeadsGet", spec := "headsGet", inPlace := ["internal/abi.NoEscape", "internal/bytealg.MakeNoZero"], recurses := true, named := ["speculum/sha.first", "speculum/sha.rounds"], apart := false, laid := [("speculum/sha.first", laid_speculum_sha_first), ("speculum/sha.rounds", laid_speculum_sha_rounds)] }
def HeadsGetSaid : Prop := headsGetRow.holds Tryd.pinned (OpenSpec.ofChange headsGetSpec)

/-- ITS FALSE NEIGHBOUR: 'it returns false'. Refute it at one input. -/
def headsGetWrong : ChangeSpec := { name := "headsGet", fn := fun _ => fun
  | [d1, d2, d3] => { results := [.lit (.bool false)], args := [d1, d2, d3] }
  | _ => none }
def HeadsGetWrongFalsely : Prop := headsGetRow.holds Tryd.pinned (OpenSpec.ofChange headsGetWrong)

/-- 'speculumlaw10.HeadsBack': WHATEVER THE INPUT: true; the input reads as it did. -/
def headsBackSpec : ChangeSpec := { name := "headsBack", fn := fun _ => fun
  | [d1, d2, d3] => { results := [.lit (.bool true)], args := [d1, d2, d3] }
  | _ => none }
def headsBackRow : OpenClaim := { program := "ythgcooppjhcgcaadoor", sum := "bb89c209a20d8668183efb753e6f49ea707ef37b42d63acfb5c2981626f1be5c", func := "speculum/speculumlaw10.HeadsBack", spec := "headsBack", inPlace := ["internal/abi.NoEscape", "internal/bytealg.MakeNoZero"], named := ["speculum/sha.first", "speculum/sha.rounds"], apart := false, laid := [("speculum/sha.first", laid_speculum_sha_first), ("speculum/sha.rounds", laid_speculum_sha_rounds)] }
def HeadsBackSaid : Prop := headsBackRow.holds Tryd.pinned (OpenSpec.ofChange headsBackSpec)

/-- ITS FALSE NEIGHBOUR: 'it returns false'. Refute it at one input. -/
def headsBackWrong : ChangeSpec := { name := "headsBack", fn := fun _ => fun
  | [d1, d2, d3] => { results := [.lit (.bool false)], args := [d1, d2, d3] }
  | _ => none }
def HeadsBackWrongFalsely : Prop := headsBackRow.holds Tryd.pinned (OpenSpec.ofChange headsBackWrong)

/-- 'speculumlaw09.KeytreeSign': WHATEVER THE INPUT: true; the input reads as it did. -/
def keytreeSignSpec : ChangeSpec := { name := "keytreeSign", fn := fun _ => fun
  | [d1, d2, d3] => { results := [.lit (.bool true)], args := [d1, d2, d3] }
  | _ => none }
def keytreeSignRow : OpenClaim := { program := "ythgcooppjhcgcaadoor", sum := "bb89c209a20d8668183efb753e6f49ea707ef37b42d63acfb5c2981626f1be5c", func := "speculum/speculumlaw09.KeytreeSign", spec := "keytreeSign", inPlace := ["internal/abi.NoEscape", "internal/bytealg.MakeNoZero"], unfollowed := true, recurses := true, named := ["speculum/sha.first", "speculum/sha.rounds"], apart := false, laid := [("speculum/sha.first", laid_speculum_sha_first), ("speculum/sha.rounds", laid_speculum_sha_rounds)] }
def KeytreeSignSaid : Prop := keytreeSignRow.holds Tryd.pinned (OpenSpec.ofChange keytreeSignSpec)

/-- ITS FALSE NEIGHBOUR: 'it returns false'. Refute it at one input. -/
def keytreeSignWrong : ChangeSpec := { name := "keytreeSign", fn := fun _ => fun
  | [d1, d2, d3] => { results := [.lit (.bool false)], args := [d1, d2, d3] }
  | _ => none }
def KeytreeSignWrongFalsely : Prop := keytreeSignRow.holds Tryd.pinned (OpenSpec.ofChange keytreeSignWrong)

/-- 'speculumlaw09.KeytreeVerify': WHATEVER THE INPUT: true; the input reads as it did. -/
def keytreeVerifySpec : ChangeSpec := { name := "keytreeVerify", fn := fun _ => fun
  | [d1, d2, d3] => { results := [.lit (.bool true)], args := [d1, d2, d3] }
  | _ => none }
def keytreeVerifyRow : OpenClaim := { program := "ythgcooppjhcgcaadoor", sum := "bb89c209a20d8668183efb753e6f49ea707ef37b42d63acfb5c2981626f1be5c", func := "speculum/speculumlaw09.KeytreeVerify", spec := "keytreeVerify", inPlace := ["internal/abi.NoEscape", "internal/bytealg.MakeNoZero"], unfollowed := true, recurses := true, named := ["speculum/sha.first", "speculum/sha.rounds"], apart := false, laid := [("speculum/sha.first", laid_speculum_sha_first), ("speculum/sha.rounds", laid_speculum_sha_rounds)] }
def KeytreeVerifySaid : Prop := keytreeVerifyRow.holds Tryd.pinned (OpenSpec.ofChange keytreeVerifySpec)

/-- ITS FALSE NEIGHBOUR: 'it returns false'. Refute it at one input. -/
def keytreeVerifyWrong : ChangeSpec := { name := "keytreeVerify", fn := fun _ => fun
  | [d1, d2, d3] => { results := [.lit (.bool false)], args := [d1, d2, d3] }
  | _ => none }
def KeytreeVerifyWrongFalsely : Prop := keytreeVerifyRow.holds Tryd.pinned (OpenSpec.ofChange keytreeVerifyWrong)

/-- 'speculumlaw09.KeytreeNone': WHATEVER THE INPUT: true; the input reads as it did. -/
def keytreeNoneSpec : ChangeSpec := { name := "keytreeNone", fn := fun _ => fun
  | [d1, d2] => { results := [.lit (.bool true)], args := [d1, d2] }
  | _ => none }
def keytreeNoneRow : OpenClaim := { program := "ythgcooppjhcgcaadoor", sum := "bb89c209a20d8668183efb753e6f49ea707ef37b42d63acfb5c2981626f1be5c", func := "speculum/speculumlaw09.KeytreeNone", spec := "keytreeNone", inPlace := ["internal/abi.NoEscape", "internal/bytealg.MakeNoZero"], unfollowed := true, recurses := true, named := ["speculum/sha.first", "speculum/sha.rounds"], apart := false, laid := [("speculum/sha.first", laid_speculum_sha_first), ("speculum/sha.rounds", laid_speculum_sha_rounds)] }
def KeytreeNoneSaid : Prop := keytreeNoneRow.holds Tryd.pinned (OpenSpec.ofChange keytreeNoneSpec)

/-- ITS FALSE NEIGHBOUR: 'it returns false'. Refute it at one input. -/
def keytreeNoneWrong : ChangeSpec := { name := "keytreeNone", fn := fun _ => fun
  | [d1, d2] => { results := [.lit (.bool false)], args := [d1, d2] }
  | _ => none }
def KeytreeNoneWrongFalsely : Prop := keytreeNoneRow.holds Tryd.pinned (OpenSpec.ofChange keytreeNoneWrong)

/-- 'speculumlaw10.HeadsTell': WHATEVER THE INPUT: true; the input reads as it did. -/
def headsTellSpec : ChangeSpec := { name := "headsTell", fn := fun _ => fun
  | [d1, d2, d3] => { results := [.lit (.bool true)], args := [d1, d2, d3] }
  | _ => none }
def headsTellRow : OpenClaim := { program := "ythgcooppjhcgcaadoor", sum := "bb89c209a20d8668183efb753e6f49ea707ef37b42d63acfb5c2981626f1be5c", func := "speculum/speculumlaw10.HeadsTell", spec := "headsTell", inPlace := ["internal/abi.NoEscape", "internal/bytealg.MakeNoZero"], recurses := true, named := ["speculum/sha.first", "speculum/sha.rounds"], apart := false, laid := [("speculum/sha.first", laid_speculum_sha_first), ("speculum/sha.rounds", laid_speculum_sha_rounds)] }
def HeadsTellSaid : Prop := headsTellRow.holds Tryd.pinned (OpenSpec.ofChange headsTellSpec)

/-- ITS FALSE NEIGHBOUR: 'it returns false'. Refute it at one input. -/
def headsTellWrong : ChangeSpec := { name := "headsTell", fn := fun _ => fun
  | [d1, d2, d3] => { results := [.lit (.bool false)], args := [d1, d2, d3] }
  | _ => none }
def HeadsTellWrongFalsely : Prop := headsTellRow.holds Tryd.pinned (OpenSpec.ofChange headsTellWrong)

/-- 'speculumlaw25.StageRaw': WHATEVER THE INPUT: true; the input reads as it did. -/
def stageRawSpec : ChangeSpec := { name := "stageRaw", fn := fun _ => fun
  | [d1, d2, d3] => { results := [.lit (.bool true)], args := [d1, d2, d3] }
  | _ => none }
def stageRawRow : OpenClaim := { program := "ythgcooppjhcgcaadoor", sum := "bb89c209a20d8668183efb753e6f49ea707ef37b42d63acfb5c2981626f1be5c", func := "speculum/speculumlaw25.StageRaw", spec := "stageRaw", inPlace := ["internal/abi.NoEscape", "internal/bytealg.MakeNoZero"], unfollowed := true, recurses := true, named := ["speculum/sha.first", "speculum/sha.rounds"], apart := false, laid := [("speculum/sha.first", laid_speculum_sha_first), ("speculum/sha.rounds", laid_speculum_sha_rounds)] }
def StageRawSaid : Prop := stageRawRow.holds Tryd.pinned (OpenSpec.ofChange stageRawSpec)

/-- ITS FALSE NEIGHBOUR: 'it returns false'. Refute it at one input. -/
def stageRawWrong : ChangeSpec := { name := "stageRaw", fn := fun _ => fun
  | [d1, d2, d3] => { results := [.lit (.bool false)], args := [d1, d2, d3] }
  | _ => none }
def StageRawWrongFalsely : Prop := stageRawRow.holds Tryd.pinned (OpenSpec.ofChange stageRawWrong)

/-- 'speculumlaw25.StagePlay': WHATEVER THE INPUT: true; the input reads as it did. -/
def stagePlaySpec : ChangeSpec := { name := "stagePlay", fn := fun _ => fun
  | [d1, d2, d3] => { results := [.lit (.bool true)], args := [d1, d2, d3] }
  | _ => none }
def stagePlayRow : OpenClaim := { program := "ythgcooppjhcgcaadoor", sum := "bb89c209a20d8668183efb753e6f49ea707ef37b42d63acfb5c2981626f1be5c", func := "speculum/speculumlaw25.StagePlay", spec := "stagePlay", inPlace := ["internal/abi.NoEscape", "internal/bytealg.MakeNoZero"], unfollowed := true, recurses := true, named := ["speculum/sha.first", "speculum/sha.rounds"], apart := false, laid := [("speculum/sha.first", laid_speculum_sha_first), ("speculum/sha.rounds", laid_speculum_sha_rounds)] }
def StagePlaySaid : Prop := stagePlayRow.holds Tryd.pinned (OpenSpec.ofChange stagePlaySpec)

/-- ITS FALSE NEIGHBOUR: 'it returns false'. Refute it at one input. -/
def stagePlayWrong : ChangeSpec := { name := "stagePlay", fn := fun _ => fun
  | [d1, d2, d3] => { results := [.lit (.bool false)], args := [d1, d2, d3] }
  | _ => none }
def StagePlayWrongFalsely : Prop := stagePlayRow.holds Tryd.pinned (OpenSpec.ofChange stagePlayWrong)

/-- 'speculumlaw33.AuditNone': WHATEVER THE INPUT: true; the input reads as it did. -/
def auditNoneSpec : ChangeSpec := { name := "auditNone", fn := fun _ => fun
  | [d1, d2] => { results := [.lit (.bool true)], args := [d1, d2] }
  | _ => none }
def auditNoneRow : OpenClaim := { program := "ythgcooppjhcgcaadoor", sum := "bb89c209a20d8668183efb753e6f49ea707ef37b42d63acfb5c2981626f1be5c", func := "speculum/speculumlaw33.AuditNone", spec := "auditNone", inPlace := ["internal/abi.NoEscape", "internal/bytealg.MakeNoZero"], unfollowed := true, recurses := true, named := ["speculum/sha.first", "speculum/sha.rounds"], apart := false, laid := [("speculum/sha.first", laid_speculum_sha_first), ("speculum/sha.rounds", laid_speculum_sha_rounds)] }
def AuditNoneSaid : Prop := auditNoneRow.holds Tryd.pinned (OpenSpec.ofChange auditNoneSpec)

/-- ITS FALSE NEIGHBOUR: 'it returns false'. Refute it at one input. -/
def auditNoneWrong : ChangeSpec := { name := "auditNone", fn := fun _ => fun
  | [d1, d2] => { results := [.lit (.bool false)], args := [d1, d2] }
  | _ => none }
def AuditNoneWrongFalsely : Prop := auditNoneRow.holds Tryd.pinned (OpenSpec.ofChange auditNoneWrong)

/- THE SECOND FORM. 'bulk': how many values and letters a reading holds, each counted each time it is reached (what is shared counts as often as it is met; a slice's spare places count too). A statement '..UptoSaid' is the law's where the arguments, and the package variables that the reading takes, are together of bulk at most 1048576: NARROWER than '..Said'. Prove '..Said' where nothing that the law and all that it calls make is longer than what came in: it says more and counts as full. Else prove '..UptoSaid'. A law counts once. -/
mutual
def uptoBulk {H : Type} : DataW H → Nat
  | .lit (.string bytes) => bytes.length + 1
  | .lit _ => 1
  | .nil => 1
  | .ptr d => uptoBulk d + 1
  | .slice elems spare => uptoBulkAll elems + uptoBulkAll spare + 1
  | .agg parts => uptoBulkAll parts + 1
  | .iface _ d => uptoBulk d + 1
  | .map entries => uptoBulkEntries entries + 1
  | .held _ => 1
def uptoBulkAll {H : Type} : List (DataW H) → Nat
  | [] => 0
  | d :: r => uptoBulk d + uptoBulkAll r
def uptoBulkEntries {H : Type} : List (Lit × DataW H) → Nat
  | [] => 0
  | x :: r => uptoBulkEntry x + uptoBulkEntries r
def uptoBulkEntry {H : Type} : Lit × DataW H → Nat
  | (.string bytes, d) => bytes.length + uptoBulk d + 1
  | (_, d) => uptoBulk d + 1
 end
def uptoSmall : (H : Type) → List (DataW H) → Bool := fun _ ds => decide (uptoBulkAll ds ≤ 1048576)
def OpenSpec.upto (s : _root_.Go.ChangeSpec) : _root_.Go.OpenSpec := { _root_.Go.OpenSpec.ofChange s with cond := some uptoSmall }

/-- 'speculumlaw05.RangesTell', WHERE WHAT IT READS IS OF BULK AT MOST 1048576: true; the input reads as it did. -/
def rangesTellUptoRow : OpenClaim := { program := "ythgcooppjhcgcaadoor", sum := "bb89c209a20d8668183efb753e6f49ea707ef37b42d63acfb5c2981626f1be5c", func := "speculum/speculumlaw05.RangesTell", spec := "rangesTell", inPlace := ["internal/abi.NoEscape", "internal/bytealg.MakeNoZero"], unfollowed := true, recurses := true, named := ["speculum/sha.first", "speculum/sha.rounds"], apart := false, laid := [("speculum/sha.first", laid_speculum_sha_first), ("speculum/sha.rounds", laid_speculum_sha_rounds)], narrowed := true }
def RangesTellUptoSaid : Prop := rangesTellUptoRow.holds Tryd.pinned (OpenSpec.upto rangesTellSpec)

/-- 'speculumlaw05.RangesSame', WHERE WHAT IT READS IS OF BULK AT MOST 1048576: true; the input reads as it did. -/
def rangesSameUptoRow : OpenClaim := { program := "ythgcooppjhcgcaadoor", sum := "bb89c209a20d8668183efb753e6f49ea707ef37b42d63acfb5c2981626f1be5c", func := "speculum/speculumlaw05.RangesSame", spec := "rangesSame", inPlace := ["internal/abi.NoEscape", "internal/bytealg.MakeNoZero"], unfollowed := true, recurses := true, named := ["speculum/sha.first", "speculum/sha.rounds"], apart := false, laid := [("speculum/sha.first", laid_speculum_sha_first), ("speculum/sha.rounds", laid_speculum_sha_rounds)], narrowed := true }
def RangesSameUptoSaid : Prop := rangesSameUptoRow.holds Tryd.pinned (OpenSpec.upto rangesSameSpec)

/-- 'speculumlaw10.HeadsGet', WHERE WHAT IT READS IS OF BULK AT MOST 1048576: true; the input reads as it did. -/
def headsGetUptoRow : OpenClaim := { program := "ythgcooppjhcgcaadoor", sum := "bb89c209a20d8668183efb753e6f49ea707ef37b42d63acfb5c2981626f1be5c", func := "speculum/speculumlaw10.HeadsGet", spec := "headsGet", inPlace := ["internal/abi.NoEscape", "internal/bytealg.MakeNoZero"], recurses := true, named := ["speculum/sha.first", "speculum/sha.rounds"], apart := false, laid := [("speculum/sha.first", laid_speculum_sha_first), ("speculum/sha.rounds", laid_speculum_sha_rounds)], narrowed := true }
def HeadsGetUptoSaid : Prop := headsGetUptoRow.holds Tryd.pinned (OpenSpec.upto headsGetSpec)

/-- 'speculumlaw10.HeadsBack', WHERE WHAT IT READS IS OF BULK AT MOST 1048576: true; the input reads as it did. -/
def headsBackUptoRow : OpenClaim := { program := "ythgcooppjhcgcaadoor", sum := "bb89c209a20d8668183efb753e6f49ea707ef37b42d63acfb5c2981626f1be5c", func := "speculum/speculumlaw10.HeadsBack", spec := "headsBack", inPlace := ["internal/abi.NoEscape", "internal/bytealg.MakeNoZero"], named := ["speculum/sha.first", "speculum/sha.rounds"], apart := false, laid := [("speculum/sha.first", laid_speculum_sha_first), ("speculum/sha.rounds", laid_speculum_sha_rounds)], narrowed := true }
def HeadsBackUptoSaid : Prop := headsBackUptoRow.holds Tryd.pinned (OpenSpec.upto headsBackSpec)

/-- 'speculumlaw09.KeytreeSign', WHERE WHAT IT READS IS OF BULK AT MOST 1048576: true; the input reads as it did. -/
def keytreeSignUptoRow : OpenClaim := { program := "ythgcooppjhcgcaadoor", sum := "bb89c209a20d8668183efb753e6f49ea707ef37b42d63acfb5c2981626f1be5c", func := "speculum/speculumlaw09.KeytreeSign", spec := "keytreeSign", inPlace := ["internal/abi.NoEscape", "internal/bytealg.MakeNoZero"], unfollowed := true, recurses := true, named := ["speculum/sha.first", "speculum/sha.rounds"], apart := false, laid := [("speculum/sha.first", laid_speculum_sha_first), ("speculum/sha.rounds", laid_speculum_sha_rounds)], narrowed := true }
def KeytreeSignUptoSaid : Prop := keytreeSignUptoRow.holds Tryd.pinned (OpenSpec.upto keytreeSignSpec)

/-- 'speculumlaw09.KeytreeVerify', WHERE WHAT IT READS IS OF BULK AT MOST 1048576: true; the input reads as it did. -/
def keytreeVerifyUptoRow : OpenClaim := { program := "ythgcooppjhcgcaadoor", sum := "bb89c209a20d8668183efb753e6f49ea707ef37b42d63acfb5c2981626f1be5c", func := "speculum/speculumlaw09.KeytreeVerify", spec := "keytreeVerify", inPlace := ["internal/abi.NoEscape", "internal/bytealg.MakeNoZero"], unfollowed := true, recurses := true, named := ["speculum/sha.first", "speculum/sha.rounds"], apart := false, laid := [("speculum/sha.first", laid_speculum_sha_first), ("speculum/sha.rounds", laid_speculum_sha_rounds)], narrowed := true }
def KeytreeVerifyUptoSaid : Prop := keytreeVerifyUptoRow.holds Tryd.pinned (OpenSpec.upto keytreeVerifySpec)

/-- 'speculumlaw09.KeytreeNone', WHERE WHAT IT READS IS OF BULK AT MOST 1048576: true; the input reads as it did. -/
def keytreeNoneUptoRow : OpenClaim := { program := "ythgcooppjhcgcaadoor", sum := "bb89c209a20d8668183efb753e6f49ea707ef37b42d63acfb5c2981626f1be5c", func := "speculum/speculumlaw09.KeytreeNone", spec := "keytreeNone", inPlace := ["internal/abi.NoEscape", "internal/bytealg.MakeNoZero"], unfollowed := true, recurses := true, named := ["speculum/sha.first", "speculum/sha.rounds"], apart := false, laid := [("speculum/sha.first", laid_speculum_sha_first), ("speculum/sha.rounds", laid_speculum_sha_rounds)], narrowed := true }
def KeytreeNoneUptoSaid : Prop := keytreeNoneUptoRow.holds Tryd.pinned (OpenSpec.upto keytreeNoneSpec)

/-- 'speculumlaw10.HeadsTell', WHERE WHAT IT READS IS OF BULK AT MOST 1048576: true; the input reads as it did. -/
def headsTellUptoRow : OpenClaim := { program := "ythgcooppjhcgcaadoor", sum := "bb89c209a20d8668183efb753e6f49ea707ef37b42d63acfb5c2981626f1be5c", func := "speculum/speculumlaw10.HeadsTell", spec := "headsTell", inPlace := ["internal/abi.NoEscape", "internal/bytealg.MakeNoZero"], recurses := true, named := ["speculum/sha.first", "speculum/sha.rounds"], apart := false, laid := [("speculum/sha.first", laid_speculum_sha_first), ("speculum/sha.rounds", laid_speculum_sha_rounds)], narrowed := true }
def HeadsTellUptoSaid : Prop := headsTellUptoRow.holds Tryd.pinned (OpenSpec.upto headsTellSpec)

/-- 'speculumlaw25.StageRaw', WHERE WHAT IT READS IS OF BULK AT MOST 1048576: true; the input reads as it did. -/
def stageRawUptoRow : OpenClaim := { program := "ythgcooppjhcgcaadoor", sum := "bb89c209a20d8668183efb753e6f49ea707ef37b42d63acfb5c2981626f1be5c", func := "speculum/speculumlaw25.StageRaw", spec := "stageRaw", inPlace := ["internal/abi.NoEscape", "internal/bytealg.MakeNoZero"], unfollowed := true, recurses := true, named := ["speculum/sha.first", "speculum/sha.rounds"], apart := false, laid := [("speculum/sha.first", laid_speculum_sha_first), ("speculum/sha.rounds", laid_speculum_sha_rounds)], narrowed := true }
def StageRawUptoSaid : Prop := stageRawUptoRow.holds Tryd.pinned (OpenSpec.upto stageRawSpec)

/-- 'speculumlaw25.StagePlay', WHERE WHAT IT READS IS OF BULK AT MOST 1048576: true; the input reads as it did. -/
def stagePlayUptoRow : OpenClaim := { program := "ythgcooppjhcgcaadoor", sum := "bb89c209a20d8668183efb753e6f49ea707ef37b42d63acfb5c2981626f1be5c", func := "speculum/speculumlaw25.StagePlay", spec := "stagePlay", inPlace := ["internal/abi.NoEscape", "internal/bytealg.MakeNoZero"], unfollowed := true, recurses := true, named := ["speculum/sha.first", "speculum/sha.rounds"], apart := false, laid := [("speculum/sha.first", laid_speculum_sha_first), ("speculum/sha.rounds", laid_speculum_sha_rounds)], narrowed := true }
def StagePlayUptoSaid : Prop := stagePlayUptoRow.holds Tryd.pinned (OpenSpec.upto stagePlaySpec)

/-- 'speculumlaw33.AuditNone', WHERE WHAT IT READS IS OF BULK AT MOST 1048576: true; the input reads as it did. -/
def auditNoneUptoRow : OpenClaim := { program := "ythgcooppjhcgcaadoor", sum := "bb89c209a20d8668183efb753e6f49ea707ef37b42d63acfb5c2981626f1be5c", func := "speculum/speculumlaw33.AuditNone", spec := "auditNone", inPlace := ["internal/abi.NoEscape", "internal/bytealg.MakeNoZero"], unfollowed := true, recurses := true, named := ["speculum/sha.first", "speculum/sha.rounds"], apart := false, laid := [("speculum/sha.first", laid_speculum_sha_first), ("speculum/sha.rounds", laid_speculum_sha_rounds)], narrowed := true }
def AuditNoneUptoSaid : Prop := auditNoneUptoRow.holds Tryd.pinned (OpenSpec.upto auditNoneSpec)

end Rows
end Go.Proofs.YthgcooppjhcgcaaDoor
