import Derived.Shelf.Strings.Builder1
import Derived.Shelf.Strings.Builder2
import Derived.Shelf.Strings.BuilderF
import Derived.Shelf.Strings.Prefix
import Derived.Shelf.Bits.Mul64
import Derived.Shelf.Strings.Repeat
import Derived.Test.YtjgljhbmljgaeaaDoorProg
import Derived.Test.YtjgljhbmljgaeaaDoorK3ade1e851
set_option linter.unusedSimpArgs false
set_option linter.unusedVariables false
open Nat (reduceEqDiff reduceAdd reduceMul reduceSub reduceLeDiff)
open Int (reduceToNat reducePow)
section
/- Contracts of library functions, laid off the kit's shelf for this program. -/
namespace Go.Proofs
open Go.Shelf
def Tryd.lays169_ren : Go.Shelf.Ren := ⟨fun | 169 => 80 | n => n, fun | 70 => 130 | 9 => 9 | 0 => 0 | 72 => 132 | 37 => 128 | 127 => 152 | 3 => 3 | 5 => 5 | n => n, fun | n => n⟩
theorem Tryd.lays169 : Go.Proofs.Lays.n169 Tryd.prog Tryd.lays169_ren := {
  mixed := by kernel_rfl
  f169 := Tryd.func80.trans (congrArg some (by kernel_rfl))
  t0 := Tryd.underlying0
  a0 := Tryd.isAgg0
  z0 := Tryd.sizeOf0
  v0 := Tryd.zeroValue0
  t3 := Tryd.underlying3
  a3 := Tryd.isAgg3
  z3 := Tryd.sizeOf3
  v3 := Tryd.zeroValue3
  t9 := Tryd.underlying9
  a9 := Tryd.isAgg9
  z9 := Tryd.sizeOf9
  v9 := Tryd.zeroValue9
  t37 := Tryd.underlying128
  a37 := Tryd.isAgg128
  z37 := Tryd.sizeOf128
  v37 := Tryd.zeroValue128
  t70 := Tryd.underlying130
  a70 := Tryd.isAgg130
  z70 := Tryd.sizeOf130
  v70 := Tryd.zeroValue130
  t72 := Tryd.underlying132
  a72 := Tryd.isAgg132
  z72 := Tryd.sizeOf132
  v72 := Tryd.zeroValue132
  t127 := Tryd.underlying152
  a127 := Tryd.isAgg152
  z127 := Tryd.sizeOf152
  v127 := Tryd.zeroValue152 }
theorem Tryd.Builder_Extra_169 : Builder.Extra Tryd.prog Tryd.lays169_ren := {
  sizeBuilder := by kernel_rfl
  liesBuilder := by kernel_rfl
  t5 := Tryd.underlying5
  a5 := Tryd.isAgg5
  z5 := Tryd.sizeOf5
  v5 := Tryd.zeroValue5
  infoByte := by kernel_rfl
  cellsByte := by kernel_rfl
  sizeByte := by kernel_rfl
  neB5 := by decide }
open Go.RowKit in
theorem Tryd.Builder_String_any (B b : Nat) (l : List UInt8) (w : World) (h : Lib.IsBuilder 132 5 B b (Lib.byteCells l) w) (hBw : B <= w.heap.size) :
    Calls Tryd.prog 80 #[.pointer (some ⟨b, 0, none⟩)] w fun e w' => e = .returned (.string ⟨l.toArray⟩) /\ Below B w w' := Any.Builder_String_any Tryd.lays169 Tryd.Builder_Extra_169 B b l w h hBw
def Tryd.lays105_ren : Go.Shelf.Ren := ⟨fun | 105 => 85 | 212 => 94 | 99 => 95 | 165 => 96 | 166 => 78 | 170 => 97 | 169 => 80 | 263 => 104 | 264 => 105 | 206 => 106 | 240 => 91 | 241 => 107 | 276 => 102 | 277 => 108 | n => n, fun | 9 => 9 | 3 => 3 | 4 => 4 | 20 => 20 | 0 => 0 | 46 => 140 | 109 => 155 | 5 => 5 | 72 => 132 | 76 => 136 | 51 => 124 | 146 => 166 | 53 => 119 | 148 => 168 | 70 => 130 | 37 => 128 | 75 => 135 | 127 => 152 | 164 => 163 | 80 => 139 | n => n, fun | n => n⟩
theorem Tryd.lays105 : Go.Proofs.Lays.n105 Tryd.prog Tryd.lays105_ren := {
  mixed := by kernel_rfl
  f99 := Tryd.func95.trans (congrArg some (by kernel_rfl))
  f105 := Tryd.func85.trans (congrArg some (by kernel_rfl))
  f165 := Tryd.func96.trans (congrArg some (by kernel_rfl))
  f166 := Tryd.func78.trans (congrArg some (by kernel_rfl))
  f169 := Tryd.func80.trans (congrArg some (by kernel_rfl))
  f170 := Tryd.func97.trans (congrArg some (by kernel_rfl))
  f206 := Tryd.func106.trans (congrArg some (by kernel_rfl))
  f212 := Tryd.func94.trans (congrArg some (by kernel_rfl))
  f240 := Tryd.func91.trans (congrArg some (by kernel_rfl))
  f241 := Tryd.func107.trans (congrArg some (by kernel_rfl))
  f263 := Tryd.func104.trans (congrArg some (by kernel_rfl))
  f264 := Tryd.func105.trans (congrArg some (by kernel_rfl))
  f276 := Tryd.func102.trans (congrArg some (by kernel_rfl))
  f277 := Tryd.func108.trans (congrArg some (by kernel_rfl))
  t0 := Tryd.underlying0
  a0 := Tryd.isAgg0
  z0 := Tryd.sizeOf0
  v0 := Tryd.zeroValue0
  t3 := Tryd.underlying3
  a3 := Tryd.isAgg3
  z3 := Tryd.sizeOf3
  v3 := Tryd.zeroValue3
  t4 := Tryd.underlying4
  a4 := Tryd.isAgg4
  z4 := Tryd.sizeOf4
  v4 := Tryd.zeroValue4
  t5 := Tryd.underlying5
  a5 := Tryd.isAgg5
  z5 := Tryd.sizeOf5
  v5 := Tryd.zeroValue5
  t9 := Tryd.underlying9
  a9 := Tryd.isAgg9
  z9 := Tryd.sizeOf9
  v9 := Tryd.zeroValue9
  t20 := Tryd.underlying20
  a20 := Tryd.isAgg20
  z20 := Tryd.sizeOf20
  v20 := Tryd.zeroValue20
  t37 := Tryd.underlying128
  a37 := Tryd.isAgg128
  z37 := Tryd.sizeOf128
  v37 := Tryd.zeroValue128
  t46 := Tryd.underlying140
  a46 := Tryd.isAgg140
  z46 := Tryd.sizeOf140
  v46 := Tryd.zeroValue140
  t51 := Tryd.underlying124
  a51 := Tryd.isAgg124
  z51 := Tryd.sizeOf124
  v51 := Tryd.zeroValue124
  t53 := Tryd.underlying119
  a53 := Tryd.isAgg119
  z53 := Tryd.sizeOf119
  v53 := Tryd.zeroValue119
  t70 := Tryd.underlying130
  a70 := Tryd.isAgg130
  z70 := Tryd.sizeOf130
  v70 := Tryd.zeroValue130
  t72 := Tryd.underlying132
  a72 := Tryd.isAgg132
  z72 := Tryd.sizeOf132
  v72 := Tryd.zeroValue132
  t75 := Tryd.underlying135
  a75 := Tryd.isAgg135
  z75 := Tryd.sizeOf135
  v75 := Tryd.zeroValue135
  t76 := Tryd.underlying136
  a76 := Tryd.isAgg136
  z76 := Tryd.sizeOf136
  v76 := Tryd.zeroValue136
  t109 := Tryd.underlying155
  a109 := Tryd.isAgg155
  z109 := Tryd.sizeOf155
  v109 := Tryd.zeroValue155
  t127 := Tryd.underlying152
  a127 := Tryd.isAgg152
  z127 := Tryd.sizeOf152
  v127 := Tryd.zeroValue152
  t146 := Tryd.underlying166
  a146 := Tryd.isAgg166
  z146 := Tryd.sizeOf166
  v146 := Tryd.zeroValue166
  t148 := Tryd.underlying168
  a148 := Tryd.isAgg168
  z148 := Tryd.sizeOf168
  v148 := Tryd.zeroValue168
  t164 := Tryd.underlying163
  a164 := Tryd.isAgg163
  z164 := Tryd.sizeOf163
  v164 := Tryd.zeroValue163 }
theorem Tryd.Builder_Extra_105 : Builder.Extra Tryd.prog Tryd.lays105_ren := {
  sizeBuilder := by kernel_rfl
  liesBuilder := by kernel_rfl
  t5 := Tryd.underlying5
  a5 := Tryd.isAgg5
  z5 := Tryd.sizeOf5
  v5 := Tryd.zeroValue5
  infoByte := by kernel_rfl
  cellsByte := by kernel_rfl
  sizeByte := by kernel_rfl
  neB5 := by decide }
open Go.RowKit Go.Lib in
theorem Tryd.strings_Repeat (s : ByteArray) (c : Nat) (w : World) (hc : c <= 9223372036854775807) (hlen : s.size * c <= 140737488355328) :
    Calls Tryd.prog 85 #[.string s, .int .i64 c] w fun e w' => e = .returned (.string ⟨(Lib.repeatL s.data.toList c).toArray⟩) /\ Below w.heap.size w w' := Any.strings_Repeat Tryd.lays105 Tryd.Builder_Extra_105 s c w hc hlen
end Go.Proofs
end
section
/- SHA-256: contracts: strings.Repeat (off the shelf), filled, Sum. -/
namespace Go.Proofs.YtjgljhbmljgaeaaDoor
namespace Am
open Go.RowKit
/-- A hash's cells. -/
def zz (l : List UInt8) : List AV := l.map fun b => .int .u8 b.toNat
theorem z2z {k : Nat} : ∀ (l : List UInt8), RLs k (zz l)
  | [] => by simp [zz, RLs]
  | _ :: l => by have := z2z (k := k) l; simp only [zz] at this; simp [zz, RLs, RL, this]
theorem Rel.below {C : Ctx} {Z : Places} {Y : Store} {w w' : World} (h : Rel C Z Y w) (hb : Below w.heap.size w w') : Step Z w Z w' /\ Rel C Z Y w' := by
  have hs : Step Z w Z w' := ⟨fun r fl pl h => ⟨fl, h⟩, hb.size, fun b hb' _ => hb.block b hb', fun r pl h => .inl ⟨r, pl, h, rfl⟩, hb.os, hb.tape, hb.output⟩
  refine ⟨hs, h.len, fun r o hr => ?_, h.dead, h.inj, fun g cs hg => (h.gl g cs hg).mono hs⟩
  obtain ⟨pl, h1, h2⟩ := h.alive r o hr
  exact ⟨pl, h1, h2.mono hs (hb.block _ h2.lt)⟩
/-- A contract that lies elsewhere: the call leaves what was there. -/
theorem ACallsTo.of_calls {C : Ctx} {f : FuncId} {args : List AV} {Y : Store} {v : AV} (hc : (cFn C f).isSome = true)
    (h : ∀ (Z : Places) (w : World) (cargs : List Value), VRt Z w args cargs -> Calls C.P f cargs.toArray w fun e w' => ∃ cv, e = .returned cv /\ VR Z w' v cv /\ Below w.heap.size w w') : ACallsTo C f args Y v Y := by
  obtain ⟨e, hc⟩ := Option.isSome_iff_exists.1 hc
  simp only [cFn, Option.bind_eq_some_iff] at hc
  obtain ⟨fn, hf, hc⟩ := hc
  split at hc
  · cases hc
  · rename_i hname
    simp only [Option.bind_eq_some_iff, Option.map_eq_some_iff] at hc
    obtain ⟨c, hb, _⟩ := hc
    intro Z w cargs hR ha
    left
    constructor
    · have h1 : fn.name ≠ "runtime.NumGoroutine" := by simpa using hname
      simp [callFunc, hf, h1, hb]
    · refine (h Z w cargs ha).mono ?_
      rintro e w' ⟨cv, rfl, hv, hbl⟩
      obtain ⟨s1, s2⟩ := hR.below hbl
      exact ⟨cv, Z, rfl, s1, s2, hv⟩
theorem zq1 (b : UInt8) : ∀ n, Lib.repeatL [b] n = List.replicate n b := by
  intro n
  induction n with
  | zero => simp [Lib.repeatL]
  | succ n ih => simp [Lib.repeatL, List.replicate_succ] at ih ⊢ <;> simp [ih]
theorem zhb (Y : Store) (b : UInt8) (c : Nat) (h : c <= 1000000) : ACallsTo TC 85 [.str [b], .int .i64 c] Y (.str (List.replicate c b)) Y := by
  refine ACallsTo.of_calls (by kernel_rfl) ?_
  intro Z w cargs ha
  simp only [VRt, VR] at ha
  obtain ⟨_, _, rfl, rfl, _, _, rfl, rfl, rfl⟩ := ha
  refine (Tryd.strings_Repeat ⟨[b].toArray⟩ c w (by omega) (by simp [ByteArray.size]; omega)).mono ?_
  rintro e w' ⟨rfl, hb⟩
  refine ⟨_, rfl, ?_, hb⟩
  simp only [VR]
  rw [zq1]
theorem zla (Y : Store) (s : List UInt8) (h : s.length < 1000000000000) : ACallsTo TC 67 [.str s] Y (.str (padS s)) Y := by
  refine ACallsTo.of_body q9ok (by simp) fun hw _ => ?_
  obtain ⟨z, hz⟩ : ∃ z : Nat, z = (119 - s.length % 64) % 64 := ⟨_, rfl⟩
  have hz64 : z < 64 := by rw [hz]; exact Nat.mod_lt _ (by decide)
  have hz2 : (119 - (s.length : Int) % 64) % 64 = z := by omega
  have hp : putS ((s.length : Int) * 8) 8 = be 8 (s.length * 8) := by
    unfold putS
    rw [if_pos (by omega)]
    rfl
  have hpl : (be 8 (s.length * 8)).length = 8 := z3w _ _
  repeat' (first|refine zW.zs ?_|refine zW.zb ?_|refine zW.zc ?_|refine zW.zt rfl ?_|refine zW.zf rfl ?_|(refine zW.zd rfl (fun ht => ?_) (fun ht => ?_)<;>try (exfalso;omega))|((first|refine zW.zr ?_|refine zW.zk ?_|refine zW.ze ?_|refine zW.zq ?_|(apply callW.mk_pu; (first | exact (fun _ => zhb _ 0 z (by omega)) | exact (fun _ => z61 _ ((s.length : Int) * 8) 8 (by omega) (by omega)))) | (apply callW.za; (first | exact (zhb _ 0 z (by omega)) | exact (z61 _ ((s.length : Int) * 8) 8 (by omega) (by omega)))) | ((first|apply zg0|apply zg1|apply zg2|apply zg3|apply zg4|apply zg5|apply zg6|apply zg7)<;>intro ht));all_goals try simp (disch:=first|omega|(simp only [lens];first|done|omega)) only [go_sem,reduceEqDiff,Nat.reduceBEq,reduceAdd,reduceMul,reduceSub,reduceLeDiff,reduceToNat,reducePow, hz2, hp, hpl, List.length_replicate]))
  have e : s ++ ([128] ++ (List.replicate z 0 ++ be 8 (s.length * 8))) = padS s := by unfold padS; rw [<- hz]; rfl
  rw [show s ++ 128 :: (List.replicate z 0 ++ be 8 (s.length * 8)) = padS s by unfold padS; rw [<- hz]]
  exact DownV.same hw (z13 _ rfl)
theorem zog (s : List UInt8) : (padS s).length % 64 = 0 /\ (padS s).length < s.length + 80 := by
  unfold padS
  simp only [List.length_append, List.length_cons, List.length_replicate, z3w]
  omega
theorem zlg : zbn = v0.c8 := rfl
theorem put4 (x : W) : putS (x.toNat : Int) 4 = be 4 x.toNat := by
  unfold putS
  rw [if_pos (by omega)]
  rfl
theorem mix_c8 (Y : Store) (v : V8) (s : List UInt8) (h : 64 <= s.length) (hs : s.length < 9223372036854775808) : ACallsTo TC 68 [.agg v.c8, .str s] Y (.agg (mixS v s).c8) Y := mix_to Y v s h hs
theorem zld {l : List W} {j : Nat} (h : j < l.length) : (l.flatMap fun x => be 4 x.toNat).take (4 * j) ++ be 4 (l[j]).toNat = (l.flatMap fun x => be 4 x.toNat).take (4 * (j + 1)) := by
  induction l generalizing j with
  | nil => simp at h
  | cons x l ih =>
    have hb : (be 4 x.toNat).length = 4 := z3w _ _
    rw [List.flatMap_cons]
    cases j with
    | zero =>
      simp only [Nat.mul_zero, List.take_zero, List.nil_append, List.getElem_cons_zero, Nat.zero_add, Nat.mul_one]
      rw [List.take_append_of_le_length (by omega), List.take_of_length_le (by omega)]
    | succ j =>
      simp only [List.length_cons] at h
      have e1 : (be 4 x.toNat).take (4 * (j + 1)) = be 4 x.toNat := List.take_of_length_le (by omega)
      have e2 : (be 4 x.toNat).take (4 * (j + 1 + 1)) = be 4 x.toNat := List.take_of_length_le (by omega)
      rw [List.getElem_cons_succ, List.take_append, List.take_append, e1, e2, hb, List.append_assoc, show 4 * (j + 1) - 4 = 4 * j by omega, show 4 * (j + 1 + 1) - 4 = 4 * (j + 1) by omega, ih (by omega)]
theorem z8b (v : V8) : (outV v).length = 32 := by
  simp [outV, V8.l, z3w]
def z3p (v : V8) (j : Nat) : List AV := zz ((outV v).take (4 * j)) ++ List.replicate (32 - 4 * j) (.int .u8 0)
theorem z14 (l : List UInt8) : (zz l).length = l.length := by simp [zz]
theorem zls (v : V8) {j : Nat} (h : j <= 8) : (z3p v j).length = 32 := by
  simp [z3p, z14, z8b]; omega
theorem zen (l : List UInt8) : (zo l).flatten = zz l := by
  induction l with
  | nil => rfl
  | cons b l ih => simp [zo, zz, B8] at ih ⊢; exact ih
theorem zlt (v : V8) {j : Nat} (h : j < 8) : z16 (z3p v j) (4 * j) (zz (be 4 (wat v.l j).toNat)) = z3p v (j + 1) := by
  have hl : v.l.length = 8 := rfl
  have e := zld (l := v.l) (j := j) (by omega)
  have hw : wat v.l j = v.l[j]'(by omega) := by simp [wat, List.getD_eq_getElem?_getD, List.getElem?_eq_getElem (show j < v.l.length by omega)]
  have h1 : (zz ((outV v).take (4 * j))).length = 4 * j := by rw [z14, List.length_take, z8b]; omega
  have h2 : (zz (be 4 (wat v.l j).toNat)).length = 4 := by rw [z14, z3w]
  unfold z16 z3p
  rw [List.take_append_of_le_length (by omega), List.take_of_length_le (by omega), List.drop_append, List.drop_of_length_le (by omega), h1, h2, List.nil_append]
  rw [show 4 * j + 4 - 4 * j = 4 by omega, List.drop_replicate, show 32 - 4 * j - 4 = 32 - 4 * (j + 1) by omega]
  congr 1
  unfold zz
  rw [<- List.map_append]
  congr 1
  rw [hw]
  exact e
set_option maxHeartbeats 4000000 in
theorem z73 (Y : Store) (s : List UInt8) (h : s.length < 100000000000) : ACallsTo TC 46 [.str s] Y (.agg (zz (shaS s))) Y := by
  obtain ⟨p, hp⟩ : ∃ p, p = padS s := ⟨_, rfl⟩
  obtain ⟨hp1, hp2⟩ := zog s
  rw [<- hp] at hp1 hp2
  obtain ⟨N, hN⟩ : ∃ N, p.length = 64 * N := ⟨p.length / 64, by omega⟩
  obtain ⟨V, hV⟩ : ∃ V, V = blocks N v0 p := ⟨_, rfl⟩
  have hS : shaS s = outV V := by
    unfold shaS
    rw [<- hp, hV]
    have : p.length / 64 = N := by omega
    rw [this]
  rw [hS]
  have hf := fun Y => zla Y s (by omega)
  rw [<- hp] at hf
  refine ACallsTo.of_body q8ok (by simp) fun hw _ => ?_
  repeat' (first|refine zW.zs ?_|refine zW.zb ?_|refine zW.zc ?_|refine zW.zt rfl ?_|refine zW.zf rfl ?_|(refine zW.zd rfl (fun ht => ?_) (fun ht => ?_)<;>try (exfalso;omega))|((first|refine zW.zr ?_|refine zW.zk ?_|refine zW.ze ?_|refine zW.zq ?_|(apply callW.mk_pu; (first | exact (fun _ => hf _))) | (apply callW.za; (first | exact (hf _))) | ((first|apply zg0|apply zg1|apply zg2|apply zg3|apply zg4|apply zg5|apply zg6|apply zg7)<;>intro ht));all_goals try simp (disch:=first|omega|(simp only [lens];first|done|omega)) only [go_sem,reduceEqDiff,Nat.reduceBEq,reduceAdd,reduceMul,reduceSub,reduceLeDiff,reduceToNat,reducePow, zlg, V8.c8]))
  refine zW.loop (fun m O Y' => ∃ u q, q.length = 64 * m /\ q.length <= p.length /\ blocks m u q = V /\ O 2 = .ptr Y.length 0 0 /\ O 3 = .ptr (Y.length + 1) 0 0 /\ O 4 = .str q /\ Y' = Y ++ [some [zz (List.replicate 32 0)], some [u.c8]]) N ?_ ?_
  · exact ⟨v0, p, hN, Nat.le_refl _, hV.symm, by simp (disch:=first|omega|(simp only [lens];first|done|omega)) only [go_sem,reduceEqDiff,Nat.reduceBEq,reduceAdd,reduceMul,reduceSub,reduceLeDiff,reduceToNat,reducePow], by simp (disch:=first|omega|(simp only [lens];first|done|omega)) only [go_sem,reduceEqDiff,Nat.reduceBEq,reduceAdd,reduceMul,reduceSub,reduceLeDiff,reduceToNat,reducePow], by simp (disch:=first|omega|(simp only [lens];first|done|omega)) only [go_sem,reduceEqDiff,Nat.reduceBEq,reduceAdd,reduceMul,reduceSub,reduceLeDiff,reduceToNat,reducePow], rfl⟩
  · rintro m O Y' ⟨u, q, hq, hqp, hb, q2, q3, q4, rfl⟩
    have hz : (zz (List.replicate 32 0)).length = 32 := rfl
    cases m with
    | succ m =>
      have hne : (q == []) = false := by cases q with
        | nil => simp at hq
        | cons a q => rfl
      have hmix := fun Y => mix_c8 Y u (q.take 64) (by rw [List.length_take]; omega) (by rw [List.length_take]; omega)
      obtain ⟨M, hM⟩ : ∃ M, M = mixS u (q.take 64) := ⟨_, rfl⟩
      rw [<- hM] at hmix
      have hb2 : blocks m M (q.drop 64) = V := by rw [hM]; exact hb
      unfold V8.c8 at hmix
      repeat' (first | refine zW.zs ?_ | refine zW.zb ?_ | refine zW.zc ?_ | refine zW.zt rfl ?_ | refine zW.zf rfl ?_ | (refine zW.zd rfl (fun ht => ?_) (fun ht => ?_) <;> try (exfalso; omega)) | ((first | refine zW.regS ?_ | refine zW.zk ?_ | refine zW.ze ?_ | refine zW.zq ?_ | (apply callW.mk_pu; (first | exact (fun _ => hmix _))) | (apply callW.za; (first | exact (hmix _))) | ((first|apply zg0|apply zg1|apply zg2|apply zg3|apply zg4|apply zg5|apply zg6|apply zg7)<;>intro ht));all_goals try simp (disch:=first|omega|(simp only [lens];first|done|omega)) only [go_sem,reduceEqDiff,Nat.reduceBEq,reduceAdd,reduceMul,reduceSub,reduceLeDiff,reduceToNat,reducePow, q2, q3, q4, hne, V8.c8]))
      refine ⟨m, by omega, M, q.drop 64, by rw [List.length_drop]; omega, by rw [List.length_drop]; omega, hb2, rfl, rfl⟩
    | zero =>
      have hq0 : q = [] := List.eq_nil_of_length_eq_zero (by omega)
      subst hq0
      have hu : u = V := hb
      subst hu
      repeat' (first|refine zW.zs ?_|refine zW.zb ?_|refine zW.zc ?_|refine zW.zt rfl ?_|refine zW.zf rfl ?_|(refine zW.zd rfl (fun ht => ?_) (fun ht => ?_)<;>try (exfalso;omega))|((first|refine zW.zr ?_|refine zW.zk ?_|refine zW.ze ?_|refine zW.zq ?_|((first|apply zg0|apply zg1|apply zg2|apply zg3|apply zg4|apply zg5|apply zg6|apply zg7)<;>intro ht));all_goals try simp (disch:=first|omega|(simp only [lens];first|done|omega)) only [go_sem,reduceEqDiff,Nat.reduceBEq,reduceAdd,reduceMul,reduceSub,reduceLeDiff,reduceToNat,reducePow, q2, q3, q4, V8.c8]))
      refine zW.loop (fun m O Y' => ∃ j : Nat, m + j = 8 /\ O 2 = .ptr Y.length 0 0 /\ O 5 = .ptr (Y.length + 2) 0 0 /\ O 19 = .agg u.c8 /\ O 20 = .int .i64 j /\ Y' = Y ++ [some [zz (List.replicate 32 0)], some [u.c8], some [z3p u j]]) 8 ?_ ?_
      · exact ⟨0, by omega, by simp (disch:=first|omega|(simp only [lens];first|done|omega)) only [go_sem,reduceEqDiff,Nat.reduceBEq,reduceAdd,reduceMul,reduceSub,reduceLeDiff,reduceToNat,reducePow, q2], by simp (disch:=first|omega|(simp only [lens];first|done|omega)) only [go_sem,reduceEqDiff,Nat.reduceBEq,reduceAdd,reduceMul,reduceSub,reduceLeDiff,reduceToNat,reducePow], by simp (disch:=first|omega|(simp only [lens];first|done|omega)) only [go_sem,reduceEqDiff,Nat.reduceBEq,reduceAdd,reduceMul,reduceSub,reduceLeDiff,reduceToNat,reducePow]; rfl, by simp (disch:=first|omega|(simp only [lens];first|done|omega)) only [go_sem,reduceEqDiff,Nat.reduceBEq,reduceAdd,reduceMul,reduceSub,reduceLeDiff,reduceToNat,reducePow]; rfl, rfl⟩
      · clear q2 q3 q4
        rintro m O Y' ⟨j, hm, q2, q5, q19, q20, rfl⟩
        have hlen := zls u (j := j) (by omega)
        have h8 : u.c8.length = 8 := rfl
        by_cases hj : j < 8
        · have hst := zlt u hj
          have hw := zdu (w := u.l) (i := j) (by simpa [V8.l] using hj)
          rw [ws_l] at hw
          generalize wat u.l j = x at *
          generalize z3p u j = cc at *
          generalize hcc : z3p u (j + 1) = cc' at *
          have hx : x.toNat < 4294967296 := x.isLt
          have hb4 : (be 4 x.toNat).length = 4 := z3w _ _
          have ht4 : (zo (be 4 x.toNat)).take (32 - 4 * j) = zo (be 4 x.toNat) := List.take_of_length_le (by rw [z15, hb4]; omega)
          have hn4 : (4 * (j : Int)).toNat = 4 * j := by omega
          repeat' (first | refine zW.zs ?_ | refine zW.zb ?_ | refine zW.zc ?_ | refine zW.zt rfl ?_ | refine zW.zf rfl ?_ | (refine zW.zd rfl (fun ht => ?_) (fun ht => ?_) <;> try (exfalso; omega)) | ((first | refine zW.regS ?_ | refine zW.zk ?_ | refine zW.ze ?_ | refine zW.zq ?_ | (apply callW.mk_pu; (first | exact (fun _ => z61 _ _ _ (by omega) (by omega)))) | (apply callW.za; (first | exact (z61 _ _ _ (by omega) (by omega)))) | ((first|apply zg0|apply zg1|apply zg2|apply zg3|apply zg4|apply zg5|apply zg6|apply zg7)<;>intro ht));all_goals try simp (disch:=first|omega|(simp only [lens];first|done|omega)) only [go_sem,reduceEqDiff,Nat.reduceBEq,reduceAdd,reduceMul,reduceSub,reduceLeDiff,reduceToNat,reducePow, q2, q5, q19, q20, hlen, h8, hw, put4, hb4, ht4, hst, hn4, zen]))
          unfold z16 at hst
          rw [List.append_assoc] at hst
          exact ⟨8 - (j + 1), by omega, j + 1, by omega, by simp, by rw [hst, hcc]⟩
        · obtain rfl : j = 8 := by omega
          have e8 : z3p u 8 = zz (outV u) := by
            unfold z3p
            rw [List.take_of_length_le (by rw [z8b]; decide)]
            exact List.append_nil _
          have hd : List.drop 32 (zz (List.replicate 32 0)) = [] := rfl
          have hl : (zz (outV u)).length = 32 := by rw [z14, z8b]
          rw [e8] at *
          repeat' (first|refine zW.zs ?_|refine zW.zb ?_|refine zW.zc ?_|refine zW.zt rfl ?_|refine zW.zf rfl ?_|(refine zW.zd rfl (fun ht => ?_) (fun ht => ?_)<;>try (exfalso;omega))|((first|refine zW.zr ?_|refine zW.zk ?_|refine zW.ze ?_|refine zW.zq ?_|((first|apply zg0|apply zg1|apply zg2|apply zg3|apply zg4|apply zg5|apply zg6|apply zg7)<;>intro ht));all_goals try simp (disch:=first|omega|(simp only [lens];first|done|omega)) only [go_sem,reduceEqDiff,Nat.reduceBEq,reduceAdd,reduceMul,reduceSub,reduceLeDiff,reduceToNat,reducePow, q2, q5, q19, q20, hl, h8, hd]))
          exact DownV.pure hw (z5p (z2z _))
end Am
end Go.Proofs.YtjgljhbmljgaeaaDoor
end
section
/- strings.Builder: the contracts of copyCheck and String over the abstract store. -/
namespace Go.Proofs
open Go.Shelf Go.RowKit
def Tryd.lays240_ren : Go.Shelf.Ren := ⟨fun | 240 => 91 | 276 => 102 | n => n, fun | 0 => 0 | 4 => 4 | 9 => 9 | 20 => 20 | 70 => 130 | 72 => 132 | 164 => 163 | 37 => 128 | n => n, fun | n => n⟩
theorem Tryd.lays240 : Go.Proofs.Lays.n240 Tryd.prog Tryd.lays240_ren := {
  mixed := by kernel_rfl
  f240 := Tryd.func91.trans (congrArg some (by kernel_rfl))
  f276 := Tryd.func102.trans (congrArg some (by kernel_rfl))
  t0 := Tryd.underlying0
  a0 := Tryd.isAgg0
  z0 := Tryd.sizeOf0
  v0 := Tryd.zeroValue0
  t4 := Tryd.underlying4
  a4 := Tryd.isAgg4
  z4 := Tryd.sizeOf4
  v4 := Tryd.zeroValue4
  t9 := Tryd.underlying9
  a9 := Tryd.isAgg9
  z9 := Tryd.sizeOf9
  v9 := Tryd.zeroValue9
  t20 := Tryd.underlying20
  a20 := Tryd.isAgg20
  z20 := Tryd.sizeOf20
  v20 := Tryd.zeroValue20
  t70 := Tryd.underlying130
  a70 := Tryd.isAgg130
  z70 := Tryd.sizeOf130
  v70 := Tryd.zeroValue130
  t72 := Tryd.underlying132
  a72 := Tryd.isAgg132
  z72 := Tryd.sizeOf132
  v72 := Tryd.zeroValue132
  t164 := Tryd.underlying163
  a164 := Tryd.isAgg163
  z164 := Tryd.sizeOf163
  v164 := Tryd.zeroValue163 }
theorem Tryd.x72_240 : Builder.X72 Tryd.prog Tryd.lays240_ren := {
  sizeBuilder := by kernel_rfl
  liesBuilder := by kernel_rfl }
section
variable {P : Program} {O : Ren}
set_option maxHeartbeats 1000000 in
set_option maxRecDepth 100000 in
/-- String, with all that it turns: the bytes are frozen. -/
theorem Tryd.string_ex (L : Lays.n169 P O) (X : Builder.Extra P O) (b g cap : Nat) (cur : Array Value) (p : Value) (fb fg : Nat × Nat) (l : List UInt8) (w : World) (h0 : l ≠ [])
    (hbk : w.heap[b]? = some (.cells #[p, .slice (some ⟨g, 0, none⟩) l.length cap] (O.t 72) fb)) (hg : w.heap[g]? = some (.cells cur (O.t 5) fg)) (hnc : l.length <= cap) (hcs : l.length <= cur.size) (hln : l.length <= 9223372036854775807)
    (hcl : ∀ j x, l[j]? = some x -> w.cell? ((⟨g, 0, none⟩ : Addr).add j) = some (.int .u8 x.toNat)) :
    Calls P (O.f 169) #[.pointer (some ⟨b, 0, none⟩)] w fun e w' => e = .returned (.string ⟨l.toArray⟩) /\ w' = w.drew.freeze ⟨g, 0, none⟩ l.length := by
  have hl0 : l.length ≠ 0 := by simpa using h0
  have c1 : w.drew.cell? ⟨b, 1, none⟩ = some (.slice (some ⟨g, 0, none⟩) l.length cap) := by
    have : w.drew.heap[b]? = some (.cells #[p, .slice (some ⟨g, 0, none⟩) l.length cap] (O.t 72) fb) := hbk
    rw [Lib.cell_of_heap this]; rfl
  have hSD : (Builtin.unsafeSliceData_ #[(O.t 37)] (O.t 127) #[.slice (some ⟨g, 0, none⟩) l.length cap]).run P w.drew = .ok (.pointer (some ⟨g, 0, none⟩)) w.drew :=
    Lib.run_unsafeSliceData_row _ _ _ _ _ _ (by omega)
  have hUS : (Builtin.unsafeString_ #[(O.t 127), (O.t 3)] (O.t 9) #[.pointer (some ⟨g, 0, none⟩), .int .i64 l.length]).run P w.drew = .ok (.string ⟨l.toArray⟩) (w.drew.freeze ⟨g, 0, none⟩ l.length) :=
    Lib.run_unsafeString_row w.drew (O.t 127) (O.t 3) (O.t 9) (O.t 5) L.t127 X.cellsByte g cur.size (by have hg' : w.drew.heap[g]? = some (.cells cur (O.t 5) fg) := hg; simp [World.shape?, hg']) l h0 hcs hln hcl
  have mixed := L.mixed
  have t72 := L.t72; have a72 := L.a72; have z72 := L.z72; have v72 := L.v72; have u72 := run_underlying L.t72
  have t70 := L.t70; have a70 := L.a70; have z70 := L.z70; have v70 := L.v70; have u70 := run_underlying L.t70
  have t37 := L.t37; have a37 := L.a37; have z37 := L.z37; have v37 := L.v37; have u37 := run_underlying L.t37
  have t127 := L.t127; have a127 := L.a127; have z127 := L.z127; have v127 := L.v127; have u127 := run_underlying L.t127
  have t3 := L.t3; have a3 := L.a3; have z3 := L.z3; have v3 := L.v3; have u3 := run_underlying L.t3
  have t9 := L.t9; have a9 := L.a9; have z9 := L.z9; have v9 := L.v9; have u9 := run_underlying L.t9
  have t5 := X.t5; have a5 := X.a5; have z5 := X.z5; have v5 := X.v5; have u5 := run_underlying X.t5
  clear hcl hcs hln hg hbk hnc
  go_enter L.f169, Body.n169_ntmps O
  go_wp2
  go_region_o
  all_goals (go_wp2; go_ret; exact ⟨rfl, rfl⟩)
end
end Go.Proofs
namespace Go.Proofs.YtjgljhbmljgaeaaDoor
namespace Am
open Go.RowKit
section
variable {C : Ctx} {Z : Places} {Y : Store} {w w' : World}
/-- A row is lost: its block may become what it will. -/
theorem Rel.lose (h : Rel C Z Y w) {r : Nat} {pl : Place} (hr : Z[r]? = some (true, pl)) (hsz : w'.heap.size = w.heap.size) (hother : ∀ b, b ≠ pl.b -> w'.heap[b]? = w.heap[b]?) (ho : w'.os = w.os) (ht : w'.tape = w.tape) (hp : w'.output = w.output) :
    Step Z w (Z.set r (false, pl)) w' /\ Rel C (Z.set r (false, pl)) (Y.set r none) w' := by
  obtain ⟨k1, k2⟩ := h.kill hr
  have hrl : r < Z.length := (List.getElem?_eq_some_iff.1 hr).1
  have hs : Step Z w (Z.set r (false, pl)) w' := ⟨k1.keep, by omega, fun b _ hn => hother b fun e => hn r pl hr e.symm, fun q x hx => by
    rcases k1.new q x hx with h | h
    · exact .inl h
    · exact .inr h, ho, ht, hp⟩
  refine ⟨hs, by simp [h.len], fun q o hq => ?_, fun q hq => k2.dead q hq, fun q q' x x' h1 h2 h3 => k2.inj q q' x x' h1 h2 h3, fun g cs hg => (h.gl g cs hg).mono hs⟩
  by_cases e : r = q
  · subst e
    rw [List.getElem?_set_self (by rw [<- h.len]; exact hrl)] at hq; cases hq
  · rw [List.getElem?_set_ne e] at hq
    obtain ⟨x, h1, h2⟩ := h.alive q o hq
    exact ⟨x, by rw [List.getElem?_set_ne e]; exact h1, h2.mono hs (hother _ fun e' => e (h.inj r q pl x hr h1 e'.symm))⟩
/-- A builder in memory. -/
theorem Rel.bld_at (hR : Rel C Z Y w) {r : Nat} {x : AV} (hr : Y[r]? = some (some [[.bld r, x]])) : ∃ (pl : Place) (v0 v1 : Value) (fz : Nat × Nat), Z[r]? = some (true, pl) /\ pl.base = 0 /\ pl.esz = 2 /\ w.heap[pl.b]? = some (.cells #[v0, v1] bldT fz) ∧
    (v0 = .pointer none \/ v0 = .pointer (some ⟨pl.b, 0, none⟩)) /\ VR Z w x v1 /\ (∀ k, k < 2 -> (decide (fz.1 <= k) && decide (k < fz.2)) = false) := by
  obtain ⟨pl, hpl, hok⟩ := hR.alive r _ hr
  obtain ⟨c, ty, fz, pre, mid, post, q1, q2, q3, q4, q5, q6⟩ := hok.ex
  simp only [List.flatten_cons, List.flatten_nil, List.append_nil, VRs] at q5
  obtain ⟨v0, _, rfl, ⟨k1, _⟩, v1, _, rfl, ⟨k2, _⟩, rfl⟩ := q5
  simp only [VR] at k1
  obtain ⟨fl, pl', hpl', ⟨e1, e2, e3, e4, e5⟩, k3⟩ := k1
  rw [hpl] at hpl'; cases hpl'
  have hty : ty = bldT := by
    obtain ⟨c0, fz0, h0⟩ := hok.tyk
    rw [q1] at h0; cases h0; exact e1
  have hpre : pre = [] := List.eq_nil_of_length_eq_zero (by omega)
  subst hpre
  have hlen : c.toList.length = 2 := by rw [Array.length_toList, q4, e5]
  have hpost : post = [] := by
    rw [q2] at hlen
    simpa using hlen
  subst hpost
  have hc : c = #[v0, v1] := by
    apply Array.ext'
    rw [q2]; rfl
  subst hc hty
  exact ⟨pl, v0, v1, fz, hpl, e2, e3, q1, k3, k2, fun k hk => q6 k hk⟩
end
theorem zqn {Y : Store} {r : Nat} {x : Option AObj} (h : Y[r]? = some x) : Y.set r x = Y := by
  apply List.ext_getElem?
  intro i
  by_cases e : r = i
  · subst e
    rw [List.getElem?_set_self (List.getElem?_eq_some_iff.1 h).1, h]
  · rw [List.getElem?_set_ne e]
theorem zbc (Y : Store) (r : Nat) (x : AV) (hr : Y[r]? = some (some [[.bld r, x]])) : ACallsTo TC 91 [.ptr r 0 0] Y (.tup []) Y := by
  obtain ⟨e, hc⟩ := Option.isSome_iff_exists.1 (show (cFn TC 91).isSome = true by kernel_rfl)
  simp only [cFn, Option.bind_eq_some_iff] at hc
  obtain ⟨fn, hf, hc⟩ := hc
  split at hc
  · cases hc
  · rename_i hname
    simp only [Option.bind_eq_some_iff, Option.map_eq_some_iff] at hc
    obtain ⟨c, hb, _⟩ := hc
    intro Z w cargs hR ha
    left
    constructor
    · have h1 : fn.name ≠ "runtime.NumGoroutine" := by simpa using hname
      simp [callFunc, hf, h1, hb]
    · obtain ⟨pl, v0, v1, fz, hpl, hb0, hez, hw, hv0, hv1, hfz⟩ := hR.bld_at hr
      simp only [VRt, VR] at ha
      obtain ⟨_, _, rfl, ⟨fl, pl', hpl', rfl⟩, rfl⟩ := ha
      rw [hpl] at hpl'; cases hpl'
      have ea : pl.base + 0 * pl.esz + 0 = 0 := by rw [hb0]; omega
      rw [ea]
      have hcell : w.cell? ⟨pl.b, 0, none⟩ = some v0 := by rw [Lib.cell_of_heap hw]; rfl
      rcases hv0 with rfl | rfl
      · refine (Any.Builder_copyCheck_fresh Tryd.lays240 Tryd.x72_240 pl.b w hcell (by simp [World.shape?, hw]; rfl) (by simp only [World.frozen?, hw]; exact hfz 0 (by omega))).mono ?_
        rintro e w' ⟨rfl, rfl⟩
        obtain ⟨w2, k1, k2, k3⟩ := hR.storeElem (i := 0) (off := 0) (vs := [.bld r]) (vals := [.pointer (some ⟨pl.b, 0, none⟩)]) hr hpl rfl (by simp) (VRs.one ⟨by
          simp only [VR]
          obtain ⟨pl2, hpl2, hok⟩ := hR.alive r _ hr
          rw [hpl] at hpl2; cases hpl2
          obtain ⟨c, ty, fz2, pre, mid, post, q1, q2, q3, q4, q5, q6⟩ := hok.ex
          simp only [List.flatten_cons, List.flatten_nil, List.append_nil, VRs, VR] at q5
          obtain ⟨u0, _, _, ⟨⟨fl3, pl3, hpl3, k, _⟩, _⟩, _⟩ := q5
          rw [hpl] at hpl3; cases hpl3
          exact ⟨true, pl, hpl, k, .inr rfl⟩, rfl⟩)
        rw [ea] at k1
        have e2 : w2 = w.setCell ⟨pl.b, 0, none⟩ (.pointer (some ⟨pl.b, 0, none⟩)) := by
          have hfr : w.frozen? ⟨pl.b, 0, none⟩ = false := by simp only [World.frozen?, hw]; exact hfz 0 (by omega)
          have hst : (store ⟨pl.b, 0, none⟩ (.pointer (some ⟨pl.b, 0, none⟩))).run TC.P w = .ok () (w.setCell ⟨pl.b, 0, none⟩ (.pointer (some ⟨pl.b, 0, none⟩))) := by
            rw [run_store TC.P w _ _ _ rfl, hcell]; simp [hfr]
          have := k1
          simp only [storeCells, z2i, Nat.add_zero, Sem.run_bind, hst, Result.andThen_ok, Sem.run_pure, Result.ok.injEq, true_and] at this
          exact this.symm
        rw [<- e2]
        have e3 : Y.set r (some ([[.bld r, x]].set 0 (z16 [.bld r, x] 0 [.bld r]))) = Y := by
          have : ([[AV.bld r, x]] : List (List AV)).set 0 (z16 [.bld r, x] 0 [.bld r]) = [[.bld r, x]] := by simp [z16]
          rw [this]
          exact zqn hr
        rw [e3] at k3
        exact ⟨_, Z, rfl, k2, k3, by simp only [VR]; exact ⟨[], rfl, VRt.nil⟩⟩
      · refine (Any.Builder_copyCheck_used Tryd.lays240 Tryd.x72_240 pl.b w hcell).mono ?_
        rintro e w' ⟨rfl, rfl⟩
        exact ⟨_, Z, rfl, Step.refl _ _, hR, by simp only [VR]; exact ⟨[], rfl, VRt.nil⟩⟩
theorem zb0 (Y : Store) (r rb : Nat) (s : List UInt8) (h0 : s ≠ []) (hs : s.length <= 1073741824) (h1 : Y[r]? = some (some [[.bld r, .bsl rb s.length]])) (h2 : Y[rb]? = some (some (zo s))) :
    ACallsTo TC 80 [.ptr r 0 0] Y (.str s) (Y.set rb none) := by
  obtain ⟨e, hc⟩ := Option.isSome_iff_exists.1 (show (cFn TC 80).isSome = true by kernel_rfl)
  simp only [cFn, Option.bind_eq_some_iff] at hc
  obtain ⟨fn, hf, hc⟩ := hc
  split at hc
  · cases hc
  · rename_i hname
    simp only [Option.bind_eq_some_iff, Option.map_eq_some_iff] at hc
    obtain ⟨c, hb, _⟩ := hc
    intro Z w cargs hR ha
    left
    constructor
    · have h1 : fn.name ≠ "runtime.NumGoroutine" := by simpa using hname
      simp [callFunc, hf, h1, hb]
    · obtain ⟨pl, v0, v1, fz, hpl, hb0, hez, hw, hv0, hv1, hfz⟩ := hR.bld_at h1
      simp only [VRt, VR] at ha
      obtain ⟨_, _, rfl, ⟨fl, pl', hpl', rfl⟩, rfl⟩ := ha
      rw [hpl] at hpl'; cases hpl'
      have ea : pl.base + 0 * pl.esz + 0 = 0 := by rw [hb0]; omega
      rw [ea]
      simp only [VR] at hv1
      obtain ⟨fl2, pb, cap, hpb, ⟨t1, t2, t3⟩, rfl, hso⟩ := hv1
      obtain ⟨pb', hpb', hok⟩ := hR.alive rb _ h2
      rw [hpb] at hpb'; cases hpb'
      obtain ⟨cur, ty, fg, pre, mid, post, q1, q2, q3, q4, q5, q6⟩ := hok.ex
      have hty : ty = u8T := by
        obtain ⟨c0, fz0, h0⟩ := hok.tyk
        rw [q1] at h0; cases h0; exact t1
      subst hty
      have hpre : pre = [] := List.eq_nil_of_length_eq_zero (by omega)
      subst hpre
      rw [zb3] at q5
      have hml := q5.length
      rw [List.length_map] at hml
      have hcs : s.length <= cur.size := by
        rw [<- Array.length_toList, q2]; simp; omega
      refine (Tryd.string_ex Tryd.lays169 Tryd.Builder_Extra_169 pl.b pb.b cap cur v0 fz fg s w h0 hw q1 hso.le hcs (by omega) (fun j x hj => ?_)).mono ?_
      · obtain ⟨v, k1, k2⟩ := q5.get (i := j) (a := B8 x) (by rw [List.getElem?_map, hj]; rfl)
        have hv := k2.1
        simp only [B8, VR] at hv
        rw [z2i, Nat.zero_add, Lib.cell_of_heap q1]
        show cur[j]? = _
        rw [<- Array.getElem?_toList, q2, List.nil_append, List.getElem?_append_left (by
          rcases Nat.lt_or_ge j mid.length with h | h
          · exact h
          · simp [List.getElem?_eq_none h] at k1), k1, hv]
      · rintro e w' ⟨rfl, rfl⟩
        have hz : s.length ≠ 0 := by simpa using h0
        obtain ⟨k1, k2⟩ := hR.lose (w' := w.drew.freeze ⟨pb.b, 0, none⟩ s.length) hpb (by show (World.freeze w.drew _ _).heap.size = w.drew.heap.size; unfold World.freeze; rw [if_neg hz]; exact Array.size_modify) (fun b hb => by
          show (World.freeze w.drew _ _).heap[b]? = w.drew.heap[b]?
          unfold World.freeze
          rw [if_neg hz]
          simp only [Array.getElem?_modify]
          rw [if_neg (fun e => hb e.symm)]) (by unfold World.freeze; rw [if_neg hz]; rfl) (by unfold World.freeze; rw [if_neg hz]; rfl) (by unfold World.freeze; rw [if_neg hz]; rfl)
        exact ⟨_, _, rfl, k1, k2, by simp only [VR]⟩
end Am
end Go.Proofs.YtjgljhbmljgaeaaDoor
end
section
/- SHA-256: contracts of the reference: pad. -/
namespace Go.Proofs.YtjgljhbmljgaeaaDoor
namespace Am
theorem zj0 {k : Nat} (l : List UInt8) : RLss k (zo l) := by
  induction l with
  | nil => simp [zo, RLss]
  | cons b l ih => simp only [zo, B8] at ih; simp [zo, RLss, B8, RLs, RL, ih]
/-- Own bytes behind what was there. -/
def OwnB (Y Y' : Store) (v : AV) (b : List UInt8) : Prop := ∃ news j, Y' = Y ++ news /\ v = .sl (Y.length + j) 0 b.length none 1 /\ news[j]? = some (some (zo b))
theorem OwnB.down {Y Y' : Store} {v : AV} {b : List UInt8} (hw : Wf Y.length Y) (h : OwnB Y Y' v b) : DownV Y.length v Y' (.vsl 1 (zo b) false) Y := by
  obtain ⟨news, j, rfl, rfl, h⟩ := h
  have hl : (zo b).length = b.length := z15 b
  have e : ((zo b).drop 0).take b.length = zo b := by rw [List.drop_zero, List.take_of_length_le (by omega)]
  have := DownV.froze (off := 0) (len := b.length) (esz := 1) (lim := none) hw h (by omega) (by rw [e]; exact zj0 b)
  rw [e] at this
  exact this
theorem OwnB.app {Y Y' : Store} {r n : Nat} {b c : List UInt8} (h : OwnB Y Y' (.sl r 0 n none 1) b) : OwnB Y (Y'.set r none ++ [some (zo c)]) (.sl Y'.length 0 c.length none 1) c := by
  obtain ⟨news, j, rfl, e, h⟩ := h
  simp only [AV.sl.injEq, true_and, and_true] at e
  obtain ⟨rfl, rfl⟩ := e
  refine ⟨news.set j none ++ [some (zo c)], news.length, ?_, by simp, ?_⟩
  · rw [List.set_append_right _ _ (by omega), Nat.add_sub_cancel_left, List.append_assoc]
  · rw [List.getElem?_append_right (by simp)]; simp
theorem OwnB.get {Y Y' : Store} {v : AV} {b : List UInt8} (h : OwnB Y Y' v b) : ∃ r, v = .sl r 0 b.length none 1 /\ Y'[r]? = some (some (zo b)) := by
  obtain ⟨news, j, rfl, rfl, h⟩ := h
  exact ⟨_, rfl, by rw [List.getElem?_append_right (by omega), Nat.add_sub_cancel_left]; exact h⟩
end Am
end Go.Proofs.YtjgljhbmljgaeaaDoor
end
section
/- SHA-256: the reference's Sum: the words. -/
namespace Go.Proofs.YtjgljhbmljgaeaaDoor
namespace Am
def z32 : List AV := zz (List.replicate 32 0)
section
variable {k : Nat} {Q : AExit -> Env -> Store -> Prop} {O : Env} {G : Store} {u : V8} {p : List UInt8} {n : Nat}
end
end Am
end Go.Proofs.YtjgljhbmljgaeaaDoor
end
section
/- SHA-256: the reference's Sum: the rounds. -/
namespace Go.Proofs.YtjgljhbmljgaeaaDoor
namespace Am
section
variable {k : Nat} {Q : AExit -> Env -> Store -> Prop} {O : Env} {G : Store} {u : V8} {p : List UInt8} {n : Nat}
end
end Am
end Go.Proofs.YtjgljhbmljgaeaaDoor
end
section
/- SHA-256: the reference's Sum. -/
namespace Go.Proofs.YtjgljhbmljgaeaaDoor
namespace Am
end Am
end Go.Proofs.YtjgljhbmljgaeaaDoor
end
section
/- Abstract code. (Printed by wip/gen.) -/
set_option maxRecDepth 10000
namespace Go.Proofs.YtjgljhbmljgaeaaDoor
namespace Am



@[go_sem] def qcr0 : List AIns := [
  ⟨some 1,none,.no,.box (.t 0)⟩,
  ⟨some 2,none,.no,.alloc zZ0⟩]
@[go_sem] def qcr1 : List AIns := [
  ⟨some 4,none,.no,.load false 1 (.t 1)⟩,
  ⟨some 5,none,.no,.lenSl (.t 4)⟩,
  ⟨some 6,none,.no,.bin .eql .none (.t 5) (.v (.int .i64 0))⟩]
@[go_sem] def qcr2 : List AIns := [
  ⟨some 7,none,.no,.call (.v (.fn 46 [])) [(.v (.str []))]⟩,
  ⟨none,none,.no,.store 32 (.t 2) (.t 7)⟩]
def qcc3 : ACode := .seq (.reg qcr2) .ret
def qcc4 : ACode := .cond (.t 6) qcc3 .skip
def qcc5 : ACode := .seq (.reg qcr1) qcc4
@[go_sem] def qcr6 : List AIns := [
  ⟨some 3,none,.no,.alloc [.nilfn]⟩]
@[go_sem] def qcr7 : List AIns := [
  ⟨some 8,none,.no,.mkfn 47 [(.t 1), (.t 3)]⟩,
  ⟨none,none,.no,.store 1 (.t 3) (.t 8)⟩]
@[go_sem] def qcr8 : List AIns := [
  ⟨some 9,none,.no,.load false 1 (.t 3)⟩,
  ⟨some 10,none,.no,.load false 1 (.t 1)⟩,
  ⟨some 11,none,.no,.lenSl (.t 10)⟩,
  ⟨some 12,none,.no,.call (.t 9) [(.v (.int .i64 0)), (.t 11)]⟩,
  ⟨none,none,.no,.store 32 (.t 2) (.t 12)⟩]
def qcc9 : ACode := .seq (.reg qcr8) .ret
def qcc10 : ACode := .seq (.reg qcr7) qcc9
def qcc11 : ACode := .seq (.reg qcr6) qcc10
def qcc12 : ACode := .seq qcc5 qcc11
def qcc13 : ACode := .seq (.reg qcr0) qcc12
theorem qcok : cFn TC 24 = some (13, [.c 2 true 32], qcc13) := by kernel_rfl

@[go_sem] def qdr0 : List AIns := [
  ⟨some 2,none,.no,.box (.t 0)⟩,
  ⟨some 3,none,.no,.box (.t 1)⟩,
  ⟨some 4,none,.no,.alloc zZ0⟩]
@[go_sem] def qdr1 : List AIns := [
  ⟨some 5, none, .rd, .load true 32 (.t 2)⟩,
  ⟨some 6, none, .ef, .call (.v (.fn 62 [])) [(.t 5)]⟩,
  ⟨some 7,none,.no,.bin .add .none (.v (.str [1])) (.t 6)⟩,
  ⟨some 8, none, .rd, .load true 32 (.t 3)⟩,
  ⟨some 9,none,.no,.call (.v (.fn 62 [])) [(.t 8)]⟩,
  ⟨some 10,none,.no,.bin .add .none (.t 7) (.t 9)⟩,
  ⟨some 11,none,.no,.call (.v (.fn 46 [])) [(.t 10)]⟩,
  ⟨none,none,.no,.store 32 (.t 4) (.t 11)⟩]
def qdc2 : ACode := .seq (.reg qdr1) .ret
def qdc3 : ACode := .seq (.reg qdr0) qdc2
theorem qdok : cFn TC 49 = some (12, [.c 4 true 32], qdc3) := by kernel_rfl

@[go_sem] def qer0 : List AIns := [
  ⟨some 2,none,.no,.mv (.v (.int .i64 0))⟩]
@[go_sem] def qer1 : List AIns := [
  ⟨some 4,none,.no,.mv (.t 0)⟩,
  ⟨some 5,none,.no,.bin .lss .none (.t 4) (.v (.int .i64 2))⟩]
@[go_sem] def qer2 : List AIns := [
  ⟨some 2,none,.no,.mv (.v (.int .i64 0))⟩]
def qec3 : ACode := .seq (.reg qer2) .ret
def qec4 : ACode := .cond (.t 5) qec3 .skip
def qec5 : ACode := .seq (.reg qer1) qec4
@[go_sem] def qer6 : List AIns := [
  ⟨some 3,none,.no,.mv (.v (.int .i64 1))⟩]
@[go_sem] def qer7 : List AIns := [
  ⟨some 6,none,.no,.mv (.t 3)⟩,
  ⟨some 7,none,.no,.mv (.t 0)⟩,
  ⟨some 8,none,.no,.mv (.t 3)⟩,
  ⟨some 9,none,.no,.bin .sub .none (.t 7) (.t 8)⟩,
  ⟨some 10,none,.no,.bin .lss .none (.t 6) (.t 9)⟩]
def qec8 : ACode := .cond (.t 10) .skip (.exit 0)
def qec9 : ACode := .seq (.reg qer7) qec8
@[go_sem] def qer10 : List AIns := [
  ⟨some 11,none,.no,.mv (.t 3)⟩,
  ⟨some 12,none,.no,.bin .mul .none (.t 11) (.v (.int .i64 2))⟩,
  ⟨some 3,none,.no,.mv (.t 12)⟩]
def qec11 : ACode := .block 1 (.reg qer10)
def qec12 : ACode := .seq qec9 qec11
def qec13 : ACode := .loop qec12
@[go_sem] def qer14 : List AIns := [
  ⟨some 13,none,.no,.mv (.t 3)⟩,
  ⟨some 2,none,.no,.mv (.t 13)⟩]
def qec15 : ACode := .seq (.reg qer14) .ret
def qec16 : ACode := .seq (.block 0 qec13) qec15
def qec17 : ACode := .seq (.reg qer6) qec16
def qec18 : ACode := .seq qec5 qec17
def qec19 : ACode := .seq (.reg qer0) qec18
theorem qeok : cFn TC 48 = some (14, [.t 2], qec19) := by kernel_rfl

@[go_sem] def qfr0 : List AIns := [
  ⟨some 6,none,.no,.alloc zZ0⟩]
@[go_sem] def qfr1 : List AIns := [
  ⟨some 8,none,.no,.mv (.t 1)⟩,
  ⟨some 9,none,.no,.mv (.t 0)⟩,
  ⟨some 10,none,.no,.bin .sub .none (.t 8) (.t 9)⟩,
  ⟨some 11,none,.no,.call (.v (.fn 48 [])) [(.t 10)]⟩,
  ⟨some 7,none,.no,.mv (.t 11)⟩]
@[go_sem] def qfr2 : List AIns := [
  ⟨some 12,none,.no,.mv (.t 7)⟩,
  ⟨some 13,none,.no,.bin .eql .none (.t 12) (.v (.int .i64 0))⟩]
@[go_sem] def qfr3 : List AIns := [
  ⟨some 14,none,.no,.load false 1 (.t 2)⟩,
  ⟨some 15,none,.no,.mv (.t 0)⟩,
  ⟨some 16,none,.no,.iaSl 32 (.t 14) (.t 15)⟩,
  ⟨some 17,none,.no,.load true 32 (.t 16)⟩,
  ⟨none,none,.no,.store 32 (.t 6) (.t 17)⟩]
def qfc4 : ACode := .seq (.reg qfr3) .ret
def qfc5 : ACode := .cond (.t 13) qfc4 .skip
def qfc6 : ACode := .seq (.reg qfr2) qfc5
@[go_sem] def qfr7 : List AIns := [
  ⟨some 18, none, .rd, .load false 1 (.t 3)⟩,
  ⟨some 19,none,.no,.mv (.t 0)⟩,
  ⟨some 20,none,.no,.mv (.t 0)⟩,
  ⟨some 21,none,.no,.mv (.t 7)⟩,
  ⟨some 22,none,.no,.bin .add .none (.t 20) (.t 21)⟩,
  ⟨some 23, none, .ef, .call (.t 18) [(.t 19), (.t 22)]⟩,
  ⟨some 24, none, .rd, .load false 1 (.t 3)⟩,
  ⟨some 25,none,.no,.mv (.t 0)⟩,
  ⟨some 26,none,.no,.mv (.t 7)⟩,
  ⟨some 27,none,.no,.bin .add .none (.t 25) (.t 26)⟩,
  ⟨some 28,none,.no,.mv (.t 1)⟩,
  ⟨some 29,none,.no,.call (.t 24) [(.t 27), (.t 28)]⟩,
  ⟨some 30,none,.no,.call (.v (.fn 49 [])) [(.t 23), (.t 29)]⟩,
  ⟨none,none,.no,.store 32 (.t 6) (.t 30)⟩]
def qfc8 : ACode := .seq (.reg qfr7) .ret
def qfc9 : ACode := .seq qfc6 qfc8
def qfc10 : ACode := .seq (.reg qfr1) qfc9
def qfc11 : ACode := .seq (.reg qfr0) qfc10
theorem qfok : cFn TC 47 = some (31, [.c 6 true 32], qfc11) := by kernel_rfl

@[go_sem] def qgr0 : List AIns := [
  ⟨some 1,none,.no,.box (.t 0)⟩,
  ⟨some 2,none,.no,.mv (.v (.str []))⟩]
@[go_sem] def qgr1 : List AIns := [
  ⟨some 3,none,.no,.slice (.arr 32 1) (.t 1) none none none⟩,
  ⟨some 4,none,.no,.conv .str (.t 3)⟩,
  ⟨some 2,none,.no,.mv (.t 4)⟩]
def qgc2 : ACode := .seq (.reg qgr1) .ret
def qgc3 : ACode := .seq (.reg qgr0) qgc2
theorem qgok : cFn TC 62 = some (5, [.t 2], qgc3) := by kernel_rfl

end Am
end Go.Proofs.YtjgljhbmljgaeaaDoor
end
section
/- Trees: contracts: a hash's bytes, Node. -/
namespace Go.Proofs.YtjgljhbmljgaeaaDoor
namespace Am
theorem zda (s : List UInt8) : (shaS s).length = 32 := z8b _
def z36 (a b : List UInt8) : List UInt8 := shaS (1 :: (a ++ b))
theorem zc9 (a b : List UInt8) : (z36 a b).length = 32 := zda _
theorem zf1 : ∀ (l : List UInt8), chunk 1 l.length (zz l) = zo l
  | [] => rfl
  | b :: l => by
    have := zf1 l
    simp only [zz, zo] at this
    simp [zz, zo, chunk, B8] at this ⊢
    exact this
theorem z7x (Y : Store) (h : List UInt8) (hl : h.length = 32) : ACallsTo TC 62 [.agg (zz h)] Y (.str h) Y := by
  refine ACallsTo.of_body qgok (by simp) fun hw _ => ?_
  have h1 := z14 h
  have hc := zf1 h
  rw [hl] at h1 hc
  repeat' (first|refine zW.zs ?_|refine zW.zb ?_|refine zW.zc ?_|refine zW.zt rfl ?_|refine zW.zf rfl ?_|(refine zW.zd rfl (fun ht => ?_) (fun ht => ?_)<;>try (exfalso;omega))|((first|refine zW.zr ?_|refine zW.zk ?_|refine zW.ze ?_|refine zW.zq ?_|((first|apply zg0|apply zg1|apply zg2|apply zg3|apply zg4|apply zg5|apply zg6|apply zg7)<;>intro ht));all_goals try simp (disch:=first|omega|(simp only [lens];first|done|omega)) only [go_sem,reduceEqDiff,Nat.reduceBEq,reduceAdd,reduceMul,reduceSub,reduceLeDiff,reduceToNat,reducePow, h1, hc]))
  exact DownV.pure hw (z13 _ rfl)
/-- Own elements behind what was there, or none yet. -/
def OwnN (sz : Nat) (G Y' : Store) (v : AV) (es : List (List AV)) : Prop :=
  ∃ news, Y' = G ++ news /\ ((es = [] /\ v = .nilsl) \/ ∃ j, es ≠ [] /\ v = .sl (G.length + j) 0 es.length none sz /\ news[j]? = some (some es))
theorem OwnN.len {sz : Nat} {G Y' : Store} {v : AV} {es : List (List AV)} (h : OwnN sz G Y' v es) : z1j v = some (.int .i64 es.length) := by
  obtain ⟨news, rfl, ⟨rfl, rfl⟩ | ⟨j, _, rfl, h⟩⟩ := h <;> rfl
theorem OwnN.appB {sz : Nat} {G Y' : Store} {v : AV} {es ys : List (List AV)} (h : OwnN sz G Y' v es) : z3l Y' v ys = aApp Y' 1 v ys := by
  obtain ⟨news, rfl, ⟨rfl, rfl⟩ | ⟨j, _, rfl, h⟩⟩ := h <;> rfl
theorem OwnN.nil {sz : Nat} {G news : Store} : OwnN sz G (G ++ news) .nilsl [] := ⟨news, rfl, .inl ⟨rfl, rfl⟩⟩
theorem OwnN.ext {sz : Nat} {G Y' : Store} {v : AV} {es : List (List AV)} (h : OwnN sz G Y' v es) : ∃ news, Y' = G ++ news := by
  obtain ⟨news, h, _⟩ := h; exact ⟨news, h⟩
/-- What others append behind leaves it. -/
theorem OwnN.more {sz : Nat} {G Y' : Store} {v : AV} {es : List (List AV)} (h : OwnN sz G Y' v es) (y : Store) : OwnN sz G (Y' ++ y) v es := by
  obtain ⟨news, rfl, h | ⟨j, h0, rfl, h⟩⟩ := h
  · exact ⟨news ++ y, by rw [List.append_assoc], .inl h⟩
  · exact ⟨news ++ y, by rw [List.append_assoc], .inr ⟨j, h0, rfl, by rw [List.getElem?_append_left (List.getElem?_eq_some_iff.1 h).1]; exact h⟩⟩
theorem OwnN.app {sz : Nat} {G Y' : Store} {v : AV} {es ys : List (List AV)} (h : OwnN sz G Y' v es) (h0 : ys.length ≠ 0) (hl : es.length + ys.length <= 1073741824) :
    ∃ v' Y'', aApp Y' sz v ys = some (v', Y'') /\ OwnN sz G Y'' v' (es ++ ys) := by
  have hne : es ++ ys ≠ [] := fun e => h0 (by rw [(List.append_eq_nil_iff.1 e).2]; rfl)
  obtain ⟨news, rfl, ⟨rfl, rfl⟩ | ⟨j, _, rfl, h⟩⟩ := h
  · refine ⟨_, _, by rw [zaz, if_neg h0, if_pos (by simpa using hl)], news ++ [some ys], by rw [List.append_assoc], .inr ⟨news.length, hne, by simp, by rw [List.getElem?_append_right (Nat.le_refl _)]; simp⟩⟩
  · have hj := (List.getElem?_eq_some_iff.1 h).1
    have hg : (G ++ news)[G.length + j]? = some (some es) := by rw [List.getElem?_append_right (by omega), Nat.add_sub_cancel_left]; exact h
    refine ⟨.sl (G ++ news).length 0 (es.length + ys.length) none sz, (G ++ news).set (G.length + j) none ++ [some (es ++ ys)], ?_, news.set j none ++ [some (es ++ ys)], ?_, .inr ⟨news.length, hne, by simp, by rw [List.getElem?_append_right (by simp)]; simp⟩⟩
    · rw [z9i, if_neg h0, hg]
      simp only
      rw [if_pos ⟨trivial, by omega, by omega⟩, if_neg (by omega), List.drop_zero, List.take_of_length_le (Nat.le_refl _)]
    · rw [List.set_append_right _ _ (by omega), Nat.add_sub_cancel_left, List.append_assoc]
theorem OwnN.sl {sz : Nat} {G Y' : Store} {v : AV} {es : List (List AV)} (h : OwnN sz G Y' v es) (h0 : es ≠ []) : ∃ r, v = .sl r 0 es.length none sz /\ Y'[r]? = some (some es) /\ G.length <= r := by
  obtain ⟨news, rfl, ⟨rfl, rfl⟩ | ⟨j, _, rfl, h⟩⟩ := h
  · exact absurd rfl h0
  · exact ⟨_, rfl, by rw [List.getElem?_append_right (by omega), Nat.add_sub_cancel_left]; exact h, by omega⟩
/-- A slice that nobody writes. -/
def SlV (sz : Nat) (es : List (List AV)) (x : AV) : Prop := (x = .nilsl /\ es = []) \/ ∃ ex, x = .vsl sz es ex
theorem SlV.len {sz : Nat} {es : List (List AV)} {x : AV} (h : SlV sz es x) : z1j x = some (.int .i64 es.length) := by
  rcases h with ⟨rfl, rfl⟩ | ⟨ex, rfl⟩ <;> rfl
theorem SlV.vsl {sz : Nat} {es : List (List AV)} {x : AV} (h : SlV sz es x) (h0 : 0 < es.length) : ∃ ex, x = .vsl sz es ex := by
  rcases h with ⟨rfl, rfl⟩ | h
  · simp at h0
  · exact h
def z10 (sz : Nat) (es : List (List AV)) : AV := if es = [] then .nilsl else .vsl sz es false
theorem z5t (sz : Nat) (es : List (List AV)) : SlV sz es (z10 sz es) := by
  unfold z10
  split
  · rename_i h; exact .inl ⟨rfl, h⟩
  · exact .inr ⟨false, rfl⟩
/-- A new slice for the caller: who, and the store with it. -/
def ownV (Y : Store) (sz : Nat) (es : List (List AV)) : AV := if es = [] then .nilsl else .sl Y.length 0 es.length none sz
def ownS (Y : Store) (es : List (List AV)) : Store := if es = [] then Y else Y ++ [some es]
theorem za4 (Y : Store) (sz : Nat) (es : List (List AV)) : OwnN sz Y (ownS Y es) (ownV Y sz es) es := by
  unfold ownV ownS
  by_cases h : es = []
  · rw [if_pos h, if_pos h]; exact ⟨[], by simp, .inl ⟨h, rfl⟩⟩
  · rw [if_neg h, if_neg h]; exact ⟨[some es], rfl, .inr ⟨0, h, rfl, rfl⟩⟩
/-- At a function's end it is a value .. -/
theorem OwnN.froze {sz : Nat} {Y Y' : Store} {v : AV} {es : List (List AV)} (hw : Wf Y.length Y) (h : OwnN sz Y Y' v es) (hr : RLss Y.length es) : DownV Y.length v Y' (z10 sz es) Y := by
  unfold z10
  obtain ⟨news, rfl, ⟨rfl, rfl⟩ | ⟨j, h0, rfl, h⟩⟩ := h
  · rw [if_pos rfl]; exact DownV.pure hw (z13 _ rfl)
  · have e : (es.drop 0).take es.length = es := by rw [List.drop_zero, List.take_of_length_le (Nat.le_refl _)]
    have := DownV.froze (off := 0) (len := es.length) (esz := sz) (lim := none) hw h (by omega) (by rw [e]; exact hr)
    rw [e] at this
    rw [if_neg h0]; exact this
/-- .. or its caller's own. -/
theorem OwnN.own {sz : Nat} {Y Y' : Store} {v : AV} {es : List (List AV)} (hw : Wf Y.length Y) (h : OwnN sz Y Y' v es) (hr : RLss Y.length es) : DownV Y.length v Y' (ownV Y sz es) (ownS Y es) := by
  unfold ownV ownS
  obtain ⟨news, rfl, ⟨rfl, rfl⟩ | ⟨j, h0, rfl, h⟩⟩ := h
  · rw [if_pos rfl, if_pos rfl]; exact DownV.pure hw (z13 _ rfl)
  · rw [if_neg h0, if_neg h0]; exact DownV.own (off := 0) (len := es.length) (esz := sz) (lim := none) hw h hr
theorem zdo (Y : Store) (a b : List UInt8) (ha : a.length = 32) (hb : b.length = 32) : ACallsTo TC 49 [.agg (zz a), .agg (zz b)] Y (.agg (zz (z36 a b))) Y := by
  refine ACallsTo.of_body qdok (by simp) fun hw _ => ?_
  have h1 := z14 a
  have h2 := z14 b
  have h3 := z14 (z36 a b)
  rw [ha] at h1
  rw [hb] at h2
  rw [zc9] at h3
  obtain ⟨n, hn⟩ : ∃ n, n = z36 a b := ⟨_, rfl⟩
  have hs : ∀ Y, ACallsTo TC 46 [.str (1 :: (a ++ b))] Y (.agg (zz n)) Y := fun Y => by rw [hn]; exact z73 Y _ (by simp; omega)
  rw [<- hn] at h3 ⊢
  repeat' (first | refine zW.zs ?_ | refine zW.zb ?_ | refine zW.zc ?_ | refine zW.zt rfl ?_ | refine zW.zf rfl ?_ | (refine zW.zd rfl (fun ht => ?_) (fun ht => ?_) <;> try (exfalso; omega)) | ((first | refine zW.regS ?_ | refine zW.zk ?_ | refine zW.ze ?_ | refine zW.zq ?_ | (apply callW.mk_pu; (first | exact (fun _ => z7x _ _ ha) | exact (fun _ => z7x _ _ hb) | exact (fun _ => hs _))) | (apply callW.za; (first | exact (z7x _ _ ha) | exact (z7x _ _ hb) | exact (hs _))) | ((first|apply zg0|apply zg1|apply zg2|apply zg3|apply zg4|apply zg5|apply zg6|apply zg7)<;>intro ht));all_goals try simp (disch:=first|omega|(simp only [lens];first|done|omega)) only [go_sem,reduceEqDiff,Nat.reduceBEq,reduceAdd,reduceMul,reduceSub,reduceLeDiff,reduceToNat,reducePow, h1, h2, h3]))
  exact DownV.pure hw (z5p (z2z _))
end Am
end Go.Proofs.YtjgljhbmljgaeaaDoor
end
section
/- Trees: contracts: Split, Root. -/
namespace Go.Proofs.YtjgljhbmljgaeaaDoor
namespace Am
def z17 (n : Nat) : Nat := if n < 2 then 0 else 2 ^ Nat.log2 (n - 1)
theorem zde {n : Nat} (h : 2 <= n) : z17 n < n /\ n <= 2 * z17 n /\ 0 < z17 n := by
  unfold z17
  rw [if_neg (by omega)]
  have h1 := Nat.log2_self_le (n := n - 1) (by omega)
  have h2 := Nat.lt_log2_self (n := n - 1)
  rw [Nat.pow_succ] at h2
  have h3 : 0 < 2 ^ Nat.log2 (n - 1) := Nat.pow_pos (by decide)
  omega
theorem zdf {n j : Nat} (h1 : 2 ^ j < n) (h2 : n <= 2 ^ (j + 1)) : z17 n = 2 ^ j := by
  have h3 : 0 < 2 ^ j := Nat.pow_pos (by decide)
  unfold z17
  rw [if_neg (by omega)]
  have h4 := Nat.log2_self_le (n := n - 1) (by omega)
  have h5 := Nat.lt_log2_self (n := n - 1)
  congr 1
  generalize Nat.log2 (n - 1) = i at *
  have a1 : 2 ^ j < 2 ^ (i + 1) := by omega
  have a2 : 2 ^ i < 2 ^ (j + 1) := by omega
  have b1 := (Nat.pow_lt_pow_iff_right (by decide : 1 < 2)).1 a1
  have b2 := (Nat.pow_lt_pow_iff_right (by decide : 1 < 2)).1 a2
  omega
theorem zdp (Y : Store) (n : Nat) (h : n < 1000000000000) : ACallsTo TC 48 [.int .i64 n] Y (.int .i64 (z17 n)) Y := by
  refine ACallsTo.of_body qeok (by simp) fun hw _ => ?_
  by_cases h2 : n < 2
  · have e : z17 n = 0 := by unfold z17; rw [if_pos h2]
    rw [e]
    repeat' (first|refine zW.zs ?_|refine zW.zb ?_|refine zW.zc ?_|refine zW.zt rfl ?_|refine zW.zf rfl ?_|(refine zW.zd rfl (fun ht => ?_) (fun ht => ?_)<;>try (exfalso;omega))|((first|refine zW.zr ?_|refine zW.zk ?_|refine zW.ze ?_|refine zW.zq ?_|((first|apply zg0|apply zg1|apply zg2|apply zg3|apply zg4|apply zg5|apply zg6|apply zg7)<;>intro ht));all_goals try simp (disch:=first|omega|(simp only [lens];first|done|omega)) only [go_sem,reduceEqDiff,Nat.reduceBEq,reduceAdd,reduceMul,reduceSub,reduceLeDiff,reduceToNat,reducePow]))
    exact DownV.same hw (z13 _ rfl)
  · repeat' (first|refine zW.zs ?_|refine zW.zb ?_|refine zW.zc ?_|refine zW.zt rfl ?_|refine zW.zf rfl ?_|(refine zW.zd rfl (fun ht => ?_) (fun ht => ?_)<;>try (exfalso;omega))|((first|refine zW.zr ?_|refine zW.zk ?_|refine zW.ze ?_|refine zW.zq ?_|((first|apply zg0|apply zg1|apply zg2|apply zg3|apply zg4|apply zg5|apply zg6|apply zg7)<;>intro ht));all_goals try simp (disch:=first|omega|(simp only [lens];first|done|omega)) only [go_sem,reduceEqDiff,Nat.reduceBEq,reduceAdd,reduceMul,reduceSub,reduceLeDiff,reduceToNat,reducePow]))
    refine zW.loop (fun m O Y' => ∃ j : Nat, m = n - 2 ^ j /\ 2 ^ j < n /\ O 0 = .int .i64 n /\ O 3 = .int .i64 ((2 ^ j : Nat) : Int) /\ Y' = Y) (n - 1) ?_ ?_
    · exact ⟨0, rfl, by omega, by simp (disch:=first|omega|(simp only [lens];first|done|omega)) only [go_sem,reduceEqDiff,Nat.reduceBEq,reduceAdd,reduceMul,reduceSub,reduceLeDiff,reduceToNat,reducePow], by simp (disch:=first|omega|(simp only [lens];first|done|omega)) only [go_sem,reduceEqDiff,Nat.reduceBEq,reduceAdd,reduceMul,reduceSub,reduceLeDiff,reduceToNat,reducePow]; rfl, rfl⟩
    · rintro m O Y' ⟨j, hm, hj, q0, q3, rfl⟩
      have hp : 0 < 2 ^ j := Nat.pow_pos (by decide)
      have hs : 2 ^ (j + 1) = 2 ^ j * 2 := Nat.pow_succ ..
      generalize hk : 2 ^ j = k at *
      by_cases hc : (k : Int) < n - k
      · repeat' (first|refine zW.zs ?_|refine zW.zb ?_|refine zW.zc ?_|refine zW.zt rfl ?_|refine zW.zf rfl ?_|(refine zW.zd rfl (fun ht => ?_) (fun ht => ?_)<;>try (exfalso;omega))|((first|refine zW.zr ?_|refine zW.zk ?_|refine zW.ze ?_|refine zW.zq ?_|((first|apply zg0|apply zg1|apply zg2|apply zg3|apply zg4|apply zg5|apply zg6|apply zg7)<;>intro ht));all_goals try simp (disch:=first|omega|(simp only [lens];first|done|omega)) only [go_sem,reduceEqDiff,Nat.reduceBEq,reduceAdd,reduceMul,reduceSub,reduceLeDiff,reduceToNat,reducePow, q0, q3]))
        exact ⟨n - k * 2, by omega, j + 1, by rw [hs], by omega, by rw [hs]; rfl⟩
      · have e : z17 n = k := by rw [<- hk]; exact zdf (by omega) (by omega)
        rw [e]
        repeat' (first|refine zW.zs ?_|refine zW.zb ?_|refine zW.zc ?_|refine zW.zt rfl ?_|refine zW.zf rfl ?_|(refine zW.zd rfl (fun ht => ?_) (fun ht => ?_)<;>try (exfalso;omega))|((first|refine zW.zr ?_|refine zW.zk ?_|refine zW.ze ?_|refine zW.zq ?_|((first|apply zg0|apply zg1|apply zg2|apply zg3|apply zg4|apply zg5|apply zg6|apply zg7)<;>intro ht));all_goals try simp (disch:=first|omega|(simp only [lens];first|done|omega)) only [go_sem,reduceEqDiff,Nat.reduceBEq,reduceAdd,reduceMul,reduceSub,reduceLeDiff,reduceToNat,reducePow, q0, q3]))
        exact DownV.same hw (z13 _ rfl)
def z69 : Nat -> List (List UInt8) -> List UInt8
  | 0, _ => []
  | _ + 1, [] => shaS []
  | _ + 1, [h] => h
  | f + 1, a :: b :: l => z36 (z69 f ((a :: b :: l).take (z17 (l.length + 2)))) (z69 f ((a :: b :: l).drop (z17 (l.length + 2))))
theorem zah : ∀ (f g : Nat) (l : List (List UInt8)), l.length < f -> l.length < g -> z69 f l = z69 g l
  | 0, _, _, h, _ => by omega
  | _ + 1, 0, _, _, h => by omega
  | f + 1, g + 1, [], _, _ => rfl
  | f + 1, g + 1, [_], _, _ => rfl
  | f + 1, g + 1, a :: b :: l, h, h' => by
    obtain ⟨s1, s2, s3⟩ := zde (n := l.length + 2) (by omega)
    simp only [List.length_cons] at h h'
    simp only [z69]
    rw [zah f g ((a :: b :: l).take (z17 (l.length + 2))) (by rw [List.length_take]; simp; omega) (by rw [List.length_take]; simp; omega),
      zah f g ((a :: b :: l).drop (z17 (l.length + 2))) (by rw [List.length_drop]; simp; omega) (by rw [List.length_drop]; simp; omega)]
/-- The root of leaves. -/
def z1y (l : List (List UInt8)) : List UInt8 := z69 (l.length + 1) l
theorem zq6 : z1y [] = shaS [] := rfl
theorem zcy {l : List (List UInt8)} (h : 2 <= l.length) : z1y l = z36 (z1y (l.take (z17 l.length))) (z1y (l.drop (z17 l.length))) := by
  match l, h with
  | a :: b :: l, _ =>
    obtain ⟨s1, s2, s3⟩ := zde (n := l.length + 2) (by omega)
    unfold z1y
    simp only [z69, List.length_cons]
    congr 1
    · refine zah _ _ _ ?_ (Nat.lt_succ_self _)
      rw [List.length_take]
      simp only [List.length_cons]
      omega
    · refine zah _ _ _ ?_ (Nat.lt_succ_self _)
      rw [List.length_drop]
      simp only [List.length_cons]
      omega
def H32 (l : List (List UInt8)) : Prop := ∀ h ∈ l, h.length = 32
theorem H32.take {l : List (List UInt8)} (h : H32 l) (n : Nat) : H32 (l.take n) := fun x hx => h x (List.mem_of_mem_take hx)
theorem H32.drop {l : List (List UInt8)} (h : H32 l) (n : Nat) : H32 (l.drop n) := fun x hx => h x (List.mem_of_mem_drop hx)
theorem z8j {l : List (List UInt8)} (h : H32 l) : (z1y l).length = 32 := by
  match l, h with
  | [], _ => exact zda _
  | [x], h => exact h x (by simp)
  | a :: b :: l, _ => rw [zcy (by simp)]; exact zc9 _ _
end Am
end Go.Proofs.YtjgljhbmljgaeaaDoor
end
section
/- Trees: contracts: Root. -/
namespace Go.Proofs.YtjgljhbmljgaeaaDoor
namespace Am
/-- Hashes as_ rows. -/
def z23 (l : List (List UInt8)) : List (List AV) := l.map zz
theorem zft (l : List (List UInt8)) : (z23 l).length = l.length := by simp [z23]
theorem zcv {k : Nat} : ∀ (l : List (List UInt8)), RLss k (z23 l)
  | [] => by simp [z23, RLss]
  | h :: l => by have := zcv (k := k) l; simp only [z23] at this; simp [z23, RLss, this, z2z]
set_option maxHeartbeats 4000000 in
theorem zj4 (hs : List (List UInt8)) (hH : H32 hs) (hl : hs.length < 1000000000) (ex : Bool) (r1 r3 : Nat) :
    ∀ (d : Nat) (Y : Store) (a : Nat), 0 < d -> a + d <= hs.length -> Y[r1]? = some (some [[.vsl 32 (z23 hs) ex]]) -> Y[r3]? = some (some [[.fn 47 [.ptr r1 0 0, .ptr r3 0 0]]]) ->
      ACallsTo TC 47 [.int .i64 a, .int .i64 ((a + d : Nat) : Int), .ptr r1 0 0, .ptr r3 0 0] Y (.agg (zz (z1y ((hs.drop a).take d)))) Y := by
  intro d
  induction d using Nat.strongRecOn with
  | _ d ih =>
    intro Y a h0 had hg1 hg3
    have hr1 := (List.getElem?_eq_some_iff.1 hg1).1
    have hr3 := (List.getElem?_eq_some_iff.1 hg3).1
    obtain ⟨L, hL⟩ : ∃ L, L = (hs.drop a).take d := ⟨_, rfl⟩
    have hLl : L.length = d := by rw [hL, List.length_take, List.length_drop]; omega
    have hLH : H32 L := by rw [hL]; exact (hH.drop a).take d
    have hn := z8j hLH
    have hc := z14 (z1y L)
    rw [hn] at hc
    rw [<- hL]
    have hsub : ((a + d : Nat) : Int) - a = d := by omega
    by_cases h1 : d = 1
    · have e0 : z17 d = 0 := by unfold z17; rw [if_pos (by omega)]
      have hsp := fun Y => zdp Y d (by omega)
      rw [e0] at hsp
      obtain ⟨x, hx⟩ : ∃ x, hs[a]? = some x := ⟨_, List.getElem?_eq_getElem (by omega)⟩
      have hgr : (z23 hs)[a]? = some (zz x) := by simp [z23, hx]
      have eL : z1y L = x := by
        have : L = [x] := by
          rw [hL, h1]
          apply List.ext_getElem?
          intro i
          cases i with
          | zero => simp [List.getElem?_take, List.getElem?_drop, hx]
          | succ i => simp [List.getElem?_take]
        rw [this]; rfl
      rw [eL] at hc ⊢
      have hrl := zft hs
      clear eL
      generalize z23 hs = rows at *
      refine ACallsTo.of_body qfok (by simp) fun hw _ => ?_
      repeat' (first|refine zW.zs ?_|refine zW.zb ?_|refine zW.zc ?_|refine zW.zt rfl ?_|refine zW.zf rfl ?_|(refine zW.zd rfl (fun ht => ?_) (fun ht => ?_)<;>try (exfalso;omega))|((first|refine zW.zr ?_|refine zW.zk ?_|refine zW.ze ?_|refine zW.zq ?_|(apply callW.mk_pu; (first | exact (fun _ => hsp _))) | (apply callW.za; (first | exact (hsp _))) | ((first|apply zg0|apply zg1|apply zg2|apply zg3|apply zg4|apply zg5|apply zg6|apply zg7)<;>intro ht));all_goals try simp (disch:=first|omega|(simp only [lens];first|done|omega)) only [go_sem,reduceEqDiff,Nat.reduceBEq,reduceAdd,reduceMul,reduceSub,reduceLeDiff,reduceToNat,reducePow, hsub, hg1, hgr, hc]))
      exact DownV.pure hw (z5p (z2z _))
    · obtain ⟨s1, s2, s3⟩ := zde (n := d) (by omega)
      have hsp := fun Y => zdp Y d (by omega)
      have eL := zcy (l := L) (by omega)
      rw [hLl] at eL
      have t1 : L.take (z17 d) = (hs.drop a).take (z17 d) := by rw [hL, List.take_take, Nat.min_eq_left (by omega)]
      have t2 : L.drop (z17 d) = (hs.drop (a + z17 d)).take (d - z17 d) := by rw [hL, List.drop_take, List.drop_drop]
      generalize hk : z17 d = k at *
      have i1 := fun y => ih k (by omega) (Y ++ y) a (by omega) (by omega) (by rw [gapp hr1]; exact hg1) (by rw [gapp hr3]; exact hg3)
      have i2 := fun y => ih (d - k) (by omega) (Y ++ y) (a + k) (by omega) (by omega) (by rw [gapp hr1]; exact hg1) (by rw [gapp hr3]; exact hg3)
      rw [<- t1] at i1
      rw [<- t2] at i2
      rw [show a + k + (d - k) = a + d by omega] at i2
      have n1 := z8j (hLH.take k)
      have n2 := z8j (hLH.drop k)
      have e1 : ((a : Int) + k) = ((a + k : Nat) : Int) := by omega
      rw [eL] at hc ⊢
      generalize z1y (L.take k) = A at *
      generalize z1y (L.drop k) = B at *
      have k0 : ¬ (k : Int) = 0 := by omega
      refine ACallsTo.of_body qfok (by simp) fun hw _ => ?_
      repeat' (first | refine zW.zs ?_ | refine zW.zb ?_ | refine zW.zc ?_ | refine zW.zt rfl ?_ | refine zW.zf rfl ?_ | (refine zW.zd rfl (fun ht => ?_) (fun ht => ?_) <;> try (exfalso; omega)) | ((first | refine zW.regS ?_ | refine zW.zk ?_ | refine zW.ze ?_ | refine zW.zq ?_ | (apply callW.mk_pu; (first | exact (fun _ => hsp _) | exact (fun _ => i1 _) | exact (fun _ => i2 _) | exact (fun _ => zdo _ _ _ n1 n2))) | (apply callW.za; (first | exact (hsp _) | exact (i1 _) | exact (i2 _) | exact (zdo _ _ _ n1 n2))) | ((first|apply zg0|apply zg1|apply zg2|apply zg3|apply zg4|apply zg5|apply zg6|apply zg7)<;>intro ht));all_goals try simp (disch:=first|omega|(simp only [lens];first|done|omega)) only [go_sem,reduceEqDiff,Nat.reduceBEq,reduceAdd,reduceMul,reduceSub,reduceLeDiff,reduceToNat,reducePow, hsub, hg1, hg3, hc, e1]))
      exact DownV.pure hw (z5p (z2z _))
theorem zs1 (Y : Store) (hs : List (List UInt8)) (x : AV) (hx : SlV 32 (z23 hs) x) (hH : H32 hs) (hl : hs.length < 1000000000) : ACallsTo TC 24 [x] Y (.agg (zz (z1y hs))) Y := by
  have hc := z14 (z1y hs)
  rw [z8j hH] at hc
  have hrl := zft hs
  by_cases h0 : hs = []
  · subst h0
    have hx' := hx.len
    unfold z1j at hx'
    refine ACallsTo.of_body qcok (by simp) fun hw _ => ?_
    rw [zq6] at hc ⊢
    rcases hx with ⟨rfl, h⟩ | ⟨ex, rfl⟩
    · repeat' (first|refine zW.zs ?_|refine zW.zb ?_|refine zW.zc ?_|refine zW.zt rfl ?_|refine zW.zf rfl ?_|(refine zW.zd rfl (fun ht => ?_) (fun ht => ?_)<;>try (exfalso;omega))|((first|refine zW.zr ?_|refine zW.zk ?_|refine zW.ze ?_|refine zW.zq ?_|(apply callW.mk_pu; (first | exact (fun _ => z73 _ [] (by simp)))) | (apply callW.za; (first | exact (z73 _ [] (by simp)))) | ((first|apply zg0|apply zg1|apply zg2|apply zg3|apply zg4|apply zg5|apply zg6|apply zg7)<;>intro ht));all_goals try simp (disch:=first|omega|(simp only [lens];first|done|omega)) only [go_sem,reduceEqDiff,Nat.reduceBEq,reduceAdd,reduceMul,reduceSub,reduceLeDiff,reduceToNat,reducePow, hc]))
      exact DownV.pure hw (z5p (z2z _))
    · repeat' (first|refine zW.zs ?_|refine zW.zb ?_|refine zW.zc ?_|refine zW.zt rfl ?_|refine zW.zf rfl ?_|(refine zW.zd rfl (fun ht => ?_) (fun ht => ?_)<;>try (exfalso;omega))|((first|refine zW.zr ?_|refine zW.zk ?_|refine zW.ze ?_|refine zW.zq ?_|(apply callW.mk_pu; (first | exact (fun _ => z73 _ [] (by simp)))) | (apply callW.za; (first | exact (z73 _ [] (by simp)))) | ((first|apply zg0|apply zg1|apply zg2|apply zg3|apply zg4|apply zg5|apply zg6|apply zg7)<;>intro ht));all_goals try simp (disch:=first|omega|(simp only [lens];first|done|omega)) only [go_sem,reduceEqDiff,Nat.reduceBEq,reduceAdd,reduceMul,reduceSub,reduceLeDiff,reduceToNat,reducePow, hc, hrl]))
      exact DownV.pure hw (z5p (z2z _))
  · have hpos : 0 < hs.length := List.length_pos_iff.2 h0
    obtain ⟨ex, rfl⟩ := hx.vsl (by rw [hrl]; exact hpos)
    have h1 := zj4 hs hH hl ex Y.length (Y.length + 2) hs.length
    refine ACallsTo.of_body qcok (by simp) fun hw _ => ?_
    have h1 := fun Y' => h1 Y' 0 hpos (by omega)
    simp only [Nat.zero_add, List.drop_zero, List.take_length] at h1
    generalize z1y hs = R at *
    generalize z23 hs = rows at *
    repeat' (first|refine zW.zs ?_|refine zW.zb ?_|refine zW.zc ?_|refine zW.zt rfl ?_|refine zW.zf rfl ?_|(refine zW.zd rfl (fun ht => ?_) (fun ht => ?_)<;>try (exfalso;omega))|((first|refine zW.zr ?_|refine zW.zk ?_|refine zW.ze ?_|refine zW.zq ?_|(apply callW.mk_pu; (first | exact (fun _ => h1 _ (by simp) (by simp)))) | (apply callW.za; (first | exact (h1 _ (by simp) (by simp)))) | ((first|apply zg0|apply zg1|apply zg2|apply zg3|apply zg4|apply zg5|apply zg6|apply zg7)<;>intro ht));all_goals try simp (disch:=first|omega|(simp only [lens];first|done|omega)) only [go_sem,reduceEqDiff,Nat.reduceBEq,reduceAdd,reduceMul,reduceSub,reduceLeDiff,reduceToNat,reducePow, hc, hrl]))
    exact DownV.pure hw (z5p (z2z _))
end Am
end Go.Proofs.YtjgljhbmljgaeaaDoor
end
section
/- Slices that are read: values, or own rows lent; Same; Some. -/
namespace Go.Proofs.YtjgljhbmljgaeaaDoor
namespace Am
/-- A slice that is read: a value, or an own row. -/
def RdSl (Y : Store) (sz : Nat) (es : List (List AV)) (x : AV) : Prop :=
  SlV sz es x \/ ∃ r off lim o, x = .sl r off es.length lim sz /\ Y[r]? = some (some o) /\ off + es.length <= o.length /\ (o.drop off).take es.length = es
theorem RdSl.of {Y : Store} {sz : Nat} {es : List (List AV)} {x : AV} (h : SlV sz es x) : RdSl Y sz es x := .inl h
theorem OwnN.rd {sz : Nat} {G Y' : Store} {v : AV} {es : List (List AV)} (h : OwnN sz G Y' v es) : RdSl Y' sz es v := by
  by_cases h0 : es = []
  · obtain ⟨news, rfl, ⟨rfl, rfl⟩ | ⟨j, h1, _⟩⟩ := h
    · exact .inl (.inl ⟨rfl, rfl⟩)
    · exact absurd h0 h1
  · obtain ⟨r, rfl, hg, _⟩ := h.sl h0
    exact .inr ⟨r, 0, none, es, rfl, hg, by omega, by rw [List.drop_zero, List.take_of_length_le (Nat.le_refl _)]⟩
theorem RdSl.app {Y y : Store} {sz : Nat} {es : List (List AV)} {x : AV} (h : RdSl Y sz es x) : RdSl (Y ++ y) sz es x := by
  rcases h with h | ⟨r, off, lim, o, rfl, hg, h1, h2⟩
  · exact .inl h
  · exact .inr ⟨r, off, lim, o, rfl, by rw [gapp (List.getElem?_eq_some_iff.1 hg).1]; exact hg, h1, h2⟩
theorem RdSl.len {Y : Store} {sz : Nat} {es : List (List AV)} {x : AV} (h : RdSl Y sz es x) : z1j x = some (.int .i64 es.length) := by
  rcases h with h | ⟨r, off, lim, o, rfl, _⟩
  · exact h.len
  · rfl
theorem RdSl.lend {Y : Store} {sz : Nat} {es : List (List AV)} {x : AV} (h : RdSl Y sz es x) (hr : RLss 0 es) : ∃ x0, SlV sz es x0 /\ DR (z34 Y) x0 x := by
  rcases h with h | ⟨r, off, lim, o, rfl, hg, h1, h2⟩
  · refine ⟨x, h, DR.refl (k := 0) (by omega) x ?_⟩
    rcases h with ⟨rfl, _⟩ | ⟨ex, rfl⟩
    · simp [RL]
    · simpa only [RL] using hr
  · refine ⟨.vsl sz es false, .inr ⟨false, rfl⟩, ?_⟩
    simp only [DR, z34]
    exact .inr (.inl ⟨r, off, lim, o, rfl, trivial, hg, h1, by simp, by rw [h2]; exact DRss.refl (k := 0) (by omega) es hr⟩)
/-- A slice of an array in memory, lent. -/
theorem zmu {Y : Store} {r i off cap esz : Nat} {o es : List (List AV)} {cs rest : List AV} (hg : Y[r]? = some (some o)) (hi : o[i]? = some cs) (ho : off <= cs.length) (hd : cs.drop off = es.flatten ++ rest) (he : ∀ e ∈ es, e.length = esz) (hn : es.length ≠ 0) (hr : RLss 0 es) :
    DR (z34 Y) (.vsl esz es false) (.asl r i off es.length cap esz) := by
  simp only [DR, z34]
  exact .inr (.inr ⟨r, i, off, cap, o, cs, es, rest, rfl, trivial, hg, hi, ho, hd, he, hn, by simp, DRss.refl (k := 0) (by omega) es hr⟩)
theorem rl0 {a : AV} (h : RL 0 a) (Y : Store) : DR (z34 Y) a a := DR.refl (k := 0) (by omega) a h
theorem drs1 {D : DC} {a b : AV} (h : DR D a b) : DRs D [a] [b] := by simp only [DRs]; exact ⟨b, [], rfl, h, rfl⟩
theorem drsc {D : DC} {a b : AV} {l m : List AV} (h : DR D a b) (h2 : DRs D l m) : DRs D (a :: l) (b :: m) := by simp only [DRs]; exact ⟨b, m, rfl, h, h2⟩
theorem zdb (k : Nat) : ∀ (l : List UInt8), shs k (zz l) = zz l
  | [] => rfl
  | b :: l => by have := zdb k l; simp only [zz] at this; simp [zz, shs, sh, this]
theorem zqu (k : Nat) (l : List UInt8) : sh k (.agg (zz l)) = .agg (zz l) := by simp only [sh, zdb]
theorem z8o (k : Nat) : shS k [] = [] := rfl
theorem zs0 (Y : Store) (hs : List (List UInt8)) (x : AV) (hx : RdSl Y 32 (z23 hs) x) (hH : H32 hs) (hl : hs.length < 1000000000) : ACallsTo TC 24 [x] Y (.agg (zz (z1y hs))) Y := by
  obtain ⟨x0, h0, hd⟩ := hx.lend (zcv hs)
  have := ACallsTo.lend glok (zs1 [] hs x0 h0 hH hl) (drs1 hd)
  rwa [zqu, z8o, List.append_nil] at this
theorem zfa : ∀ (a b : List UInt8), z1w (zz a) (zz b) = decide (a = b)
  | [], [] => rfl
  | [], _ :: _ => rfl
  | _ :: _, [] => rfl
  | a :: l, b :: m => by
    have ih := zfa l m
    simp only [zz, List.map_cons, z1w, z7z] at ih ⊢
    rw [ih, Bool.eq_iff_iff]
    simp [<- UInt8.toNat_inj]
    intro _
    omega
theorem zfy : ∀ (l : List UInt8), (zz l).map z1i = List.replicate l.length (some (LK.i .u8))
  | [] => rfl
  | _ :: l => by have := zfy l; simp only [zz] at this; simp [zz, z1i, this, List.replicate_succ]
theorem zmn {l : List UInt8} (h : l.length = 32) : (zz l).map z1i = (List.replicate 32 (LK.i .u8)).map some := by rw [zfy, h]; rfl
end Am
end Go.Proofs.YtjgljhbmljgaeaaDoor
end
section
/- Abstract code. (Printed by wip/gen.) -/
set_option maxRecDepth 10000
namespace Go.Proofs.YtjgljhbmljgaeaaDoor
namespace Am



@[go_sem] def zp7 : List AIns := [
  ⟨some 95,none,.no,.mv (.t 12)⟩,
  ⟨some 96,none,.no,.bin .gtr .none (.t 95) (.v (.int .i64 0))⟩]
def zol : ACode := .cond (.t 96) .skip (.exit 3)
def zom : ACode := .seq (.reg zp7) zol
@[go_sem] def zp8 : List AIns := [
  ⟨some 98,none,.no,.mv (.t 13)⟩,
  ⟨some 99,none,.no,.call (.t 98) []⟩,
  ⟨some 97,none,.no,.mv (.t 99)⟩,
  ⟨some 100,none,.no,.ext 0 (.t 97)⟩,
  ⟨some 101,none,.no,.ext 1 (.t 97)⟩,
  ⟨some 18,none,.no,.alloc zZ0⟩,
  ⟨none,none,.no,.store 32 (.t 18) (.t 100)⟩,
  ⟨some 19,none,.no,.mv (.t 101)⟩]
@[go_sem] def zp9 : List AIns := [
  ⟨some 106,none,.no,.mv (.t 19)⟩,
  ⟨some 107,none,.no,.un .not (.t 106)⟩,
  ⟨some 105,none,.no,.mv (.t 107)⟩]
@[go_sem] def zpa : List AIns := [
  ⟨some 10,none,.no,.mv (.v (.int .i64 80))⟩]
def zon : ACode := .seq (.reg zpa) .ret
@[go_sem] def zpb : List AIns := [
  ⟨some 109,none,.no,.mv (.t 11)⟩,
  ⟨some 110,none,.no,.bin .rem .none (.t 109) (.v (.int .i64 2))⟩,
  ⟨some 111,none,.no,.bin .eql .none (.t 110) (.v (.int .i64 1))⟩,
  ⟨some 112,none,.no,.mv (.t 111)⟩,
  ⟨some 113, some (112, false), .no, .mv (.t 11)⟩,
  ⟨some 114, some (112, false), .no, .mv (.t 12)⟩,
  ⟨some 115, some (112, false), .no, .bin .eql .none (.t 113) (.t 114)⟩,
  ⟨some 116,none,.no,.pick (.t 112) (.v (.bool true)) (.t 115)⟩,
  ⟨some 108,none,.no,.mv (.t 116)⟩]
@[go_sem] def zpc : List AIns := [
  ⟨some 117, none, .rd, .load true 32 (.t 18)⟩,
  ⟨some 118, none, .rd, .load true 32 (.t 14)⟩,
  ⟨some 119, none, .ef, .call (.v (.fn 49 [])) [(.t 117), (.t 118)]⟩,
  ⟨some 120, none, .rd, .load true 32 (.t 18)⟩,
  ⟨some 121, none, .rd, .load true 32 (.t 15)⟩,
  ⟨some 122,none,.no,.call (.v (.fn 49 [])) [(.t 120), (.t 121)]⟩,
  ⟨none,none,.no,.store 32 (.t 14) (.t 119)⟩,
  ⟨none,none,.no,.store 32 (.t 15) (.t 122)⟩]
@[go_sem] def zpd : List AIns := [
  ⟨some 123,none,.no,.mv (.t 11)⟩,
  ⟨some 124,none,.no,.bin .rem .none (.t 123) (.v (.int .i64 2))⟩,
  ⟨some 125,none,.no,.bin .eql .none (.t 124) (.v (.int .i64 0))⟩,
  ⟨some 126,none,.no,.mv (.t 125)⟩,
  ⟨some 127, some (126, true), .no, .mv (.t 11)⟩,
  ⟨some 128, some (126, true), .no, .bin .gtr .none (.t 127) (.v (.int .i64 0))⟩,
  ⟨some 129,none,.no,.pick (.t 126) (.t 128) (.v (.bool false))⟩]
def zoo : ACode := .cond (.t 129) .skip (.exit 6)
def zop : ACode := .seq (.reg zpd) zoo
@[go_sem] def zpe : List AIns := [
  ⟨some 130,none,.no,.mv (.t 11)⟩,
  ⟨some 131,none,.no,.bin .quo .none (.t 130) (.v (.int .i64 2))⟩,
  ⟨some 132,none,.no,.mv (.t 12)⟩,
  ⟨some 133,none,.no,.bin .quo .none (.t 132) (.v (.int .i64 2))⟩,
  ⟨some 11,none,.no,.mv (.t 131)⟩,
  ⟨some 12,none,.no,.mv (.t 133)⟩]
def zoq : ACode := .block 7 (.reg zpe)
def zor : ACode := .seq zop zoq
def zos : ACode := .loop zor
def zot : ACode := .block 6 zos
def zou : ACode := .seq (.reg zpc) zot
@[go_sem] def zpf : List AIns := [
  ⟨some 102,none,.no,.load true 32 (.t 15)⟩,
  ⟨some 103,none,.no,.load true 32 (.t 18)⟩,
  ⟨some 104,none,.no,.call (.v (.fn 49 [])) [(.t 102), (.t 103)]⟩,
  ⟨none,none,.no,.store 32 (.t 15) (.t 104)⟩]
def zov : ACode := .cond (.t 108) zou (.reg zpf)
def zow : ACode := .seq (.reg zpb) zov
def zox : ACode := .cond (.t 105) zon zow
def zoy : ACode := .seq (.reg zp9) zox
def zoz : ACode := .block 5 zoy
def zp0 : ACode := .seq (.reg zp8) zoz
@[go_sem] def zpg : List AIns := [
  ⟨some 134,none,.no,.mv (.t 11)⟩,
  ⟨some 135,none,.no,.bin .quo .none (.t 134) (.v (.int .i64 2))⟩,
  ⟨some 136,none,.no,.mv (.t 12)⟩,
  ⟨some 137,none,.no,.bin .quo .none (.t 136) (.v (.int .i64 2))⟩,
  ⟨some 11,none,.no,.mv (.t 135)⟩,
  ⟨some 12,none,.no,.mv (.t 137)⟩]
def zp1 : ACode := .seq zp0 (.reg zpg)
def zp2 : ACode := .block 4 zp1
def zp3 : ACode := .seq zom zp2
def zp4 : ACode := .loop zp3
@[go_sem] def zph : List AIns := [
  ⟨some 138,none,.no,.load false 1 (.t 9)⟩,
  ⟨some 139,none,.no,.lenSl (.t 138)⟩,
  ⟨some 140,none,.no,.bin .eql .none (.t 139) (.v (.int .i64 0))⟩,
  ⟨some 141,none,.no,.mv (.t 140)⟩,
  ⟨some 142, some (141, true), .no, .load true 32 (.t 14)⟩,
  ⟨some 143, some (141, true), .no, .load true 32 (.t 7)⟩,
  ⟨some 144, some (141, true), .no, .bin .eql (.agg (List.replicate 32 (.i .u8) ++ [])) (.t 142) (.t 143)⟩,
  ⟨some 145,none,.no,.pick (.t 141) (.t 144) (.v (.bool false))⟩,
  ⟨some 146,none,.no,.mv (.t 145)⟩,
  ⟨some 147, some (146, true), .no, .load true 32 (.t 15)⟩,
  ⟨some 148, some (146, true), .no, .load true 32 (.t 8)⟩,
  ⟨some 149, some (146, true), .no, .bin .eql (.agg (List.replicate 32 (.i .u8) ++ [])) (.t 147) (.t 148)⟩,
  ⟨some 150,none,.no,.pick (.t 146) (.t 149) (.v (.bool false))⟩,
  ⟨some 151,none,.no,.call (.v (.fn 56 [])) [(.t 150)]⟩,
  ⟨some 10,none,.no,.mv (.t 151)⟩]
def zp5 : ACode := .seq (.reg zph) .ret
def zp6 : ACode := .seq (.block 3 zp4) zp5
end Am
end Go.Proofs.YtjgljhbmljgaeaaDoor
end
section
/- Proofs: contracts: Proof of the program. -/
namespace Go.Proofs.YtjgljhbmljgaeaaDoor
namespace Am
/-- A sub-proof. -/
def subF : Nat -> List (List UInt8) -> Nat -> Bool -> List (List UInt8)
  | 0, _, _, _ => []
  | f + 1, l, m, known =>
    if m = l.length then (if known then [] else [z1y l])
    else if m <= z17 l.length then subF f (l.take (z17 l.length)) m known ++ [z1y (l.drop (z17 l.length))]
    else subF f (l.drop (z17 l.length)) (m - z17 l.length) false ++ [z1y (l.take (z17 l.length))]
def subS (l : List (List UInt8)) (m : Nat) (known : Bool) : List (List UInt8) := subF (l.length + 1) l m known
/-- What Proof has in memory: its own proof, itself, and rows of its own. -/
structure PrS (Y0 Y' : Store) (v : AV) (es : List (List AV)) : Prop where
  out : Y'[Y0.length]? = some (some [[v]])
  fn : Y'[Y0.length + 1]? = some (some [[.fn 50 [.ptr Y0.length 0 0, .ptr (Y0.length + 1) 0 0]]])
  keep : ∀ q, q < Y0.length -> Y'[q]? = Y0[q]?
  sl : (es = [] /\ v = .nilsl) \/ ∃ r, Y0.length + 2 <= r /\ es ≠ [] /\ v = .sl r 0 es.length none 32 /\ Y'[r]? = some (some es)
theorem PrS.lt {Y0 Y' : Store} {v : AV} {es : List (List AV)} (h : PrS Y0 Y' v es) : Y0.length + 2 <= Y'.length := by
  have := (List.getElem?_eq_some_iff.1 h.fn).1; omega
/-- One more. -/
theorem PrS.add {Y0 Y' : Store} {v : AV} {es : List (List AV)} (h : PrS Y0 Y' v es) (row : List AV) (hl : es.length + 1 <= 1073741824) :
    ∃ r Y2, aApp Y' 32 v [row] = some (.sl r 0 (es.length + 1) none 32, Y2) /\ Y2[Y0.length]? = some (some [[v]]) /\ PrS Y0 (Y2.set Y0.length (some [[.sl r 0 (es.length + 1) none 32]])) (.sl r 0 (es.length + 1) none 32) (es ++ [row]) := by
  have hlt := h.lt
  obtain ⟨h1, h2, h3, ⟨rfl, rfl⟩ | ⟨r, hr, h0, rfl, hg⟩⟩ := h
  · refine ⟨Y'.length, Y' ++ [some [row]], rfl, by rw [gapp (by omega)]; exact h1, ⟨?_, ?_, ?_, .inr ⟨Y'.length, by omega, by simp, by simp, ?_⟩⟩⟩
    · rw [z2o (by simp; omega)]
    · rw [z1g (by omega), gapp (by omega)]; exact h2
    · intro q hq; rw [z1g (by omega), gapp (by omega)]; exact h3 q hq
    · rw [z1g (by omega), z1l (Nat.le_refl _), Nat.sub_self]; rfl
  · have hrl := (List.getElem?_eq_some_iff.1 hg).1
    refine ⟨Y'.length, Y'.set r none ++ [some (es ++ [row])], ?_, ?_, ⟨?_, ?_, ?_, .inr ⟨Y'.length, by omega, by simp, by simp, ?_⟩⟩⟩
    · rw [z9i, if_neg (by simp), hg]
      simp only [List.length_cons, List.length_nil]
      rw [if_pos ⟨trivial, by omega, by omega⟩, if_neg (by omega), List.drop_zero, List.take_of_length_le (Nat.le_refl _)]
    · rw [gapp (by simp; omega), z1g (by omega)]; exact h1
    · rw [z2o (by simp; omega)]
    · rw [z1g (by omega), gapp (by simp; omega), z1g (by omega)]; exact h2
    · intro q hq; rw [z1g (by omega), gapp (by simp; omega), z1g (by omega)]; exact h3 q hq
    · rw [z1g (by omega), z1l (by simp), List.length_set, Nat.sub_self]; rfl
theorem PrS.ex (Y0 : Store) (es : List (List AV)) : ∃ v Y', PrS Y0 Y' v es := by
  by_cases h : es = []
  · exact ⟨.nilsl, Y0 ++ [some [[.nilsl]], some [[.fn 50 [.ptr Y0.length 0 0, .ptr (Y0.length + 1) 0 0]]]], by simp, by simp, fun q hq => gapp hq, .inl ⟨h, rfl⟩⟩
  · exact ⟨.sl (Y0.length + 2) 0 es.length none 32, Y0 ++ [some [[.sl (Y0.length + 2) 0 es.length none 32]], some [[.fn 50 [.ptr Y0.length 0 0, .ptr (Y0.length + 1) 0 0]]], some es], by simp, by simp, fun q hq => gapp hq, .inr ⟨_, Nat.le_refl _, h, rfl, by simp⟩⟩
theorem DownV.tup2 {k : Nat} {v v2 : AV} {Y Y2 : Store} {i : IntKind} {e : Int} (h : DownV k v Y v2 Y2) : DownV k (.tup [v, .int i e]) Y (.tup [v2, .int i e]) Y2 := by
  obtain ⟨D, a, b, c⟩ := h
  exact ⟨D, a, b, by simp only [DR, DRs]; exact ⟨_, rfl, _, _, rfl, c, _, _, rfl, rfl, rfl⟩⟩
theorem zbi {Y Y' : Store} (h : Y.length <= Y'.length) (h2 : ∀ q, q < Y.length -> Y'[q]? = Y[q]?) : ∃ y, Y' = Y ++ y := by
  refine ⟨Y'.drop Y.length, ?_⟩
  have e : Y'.take Y.length = Y := by
    refine List.ext_getElem? fun i => ?_
    by_cases hi : i < Y.length
    · rw [List.getElem?_take_of_lt hi]; exact h2 i hi
    · rw [List.getElem?_eq_none (by simp; omega), List.getElem?_eq_none (by omega)]
  calc Y' = Y'.take Y.length ++ Y'.drop Y.length := (List.take_append_drop _ _).symm
    _ = Y ++ Y'.drop Y.length := by rw [e]
theorem PrS.own {Y0 Y' : Store} {v : AV} {es : List (List AV)} (h : PrS Y0 Y' v es) : OwnN 32 Y0 Y' v es := by
  have hlt := h.lt
  obtain ⟨y, rfl⟩ := zbi (by omega) h.keep
  obtain ⟨h1, h2, h3, h4 | ⟨r, hr, h0, rfl, hg⟩⟩ := h
  · exact ⟨y, rfl, .inl h4⟩
  · refine ⟨y, rfl, .inr ⟨r - Y0.length, h0, by rw [show Y0.length + (r - Y0.length) = r by omega], ?_⟩⟩
    rw [List.getElem?_append_right (by omega)] at hg; exact hg
/-- What Proof answers. -/
def za9 (hs : List (List UInt8)) (m : Int) : List (List UInt8) := if 0 < m /\ m < hs.length then subS hs m.toNat true else []
def za8 (hs : List (List UInt8)) (m : Int) : Int := if m < 0 \/ (hs.length : Int) < m then 2 else 0
def ProofP (Y : Store) (hs : List (List UInt8)) (m : Int) (v : AV) (Y' : Store) : Prop := ∃ v2, v = .tup [v2, .int .i64 (za8 hs m)] /\ OwnN 32 Y Y' v2 (z23 (za9 hs m))
theorem ProofP.ex (Y : Store) (hs : List (List UInt8)) (m : Int) : ∃ v Y', ProofP Y hs m v Y' := ⟨_, _, _, rfl, za4 Y 32 _⟩
theorem ProofP.none {Y : Store} {hs : List (List UInt8)} {m : Int} (h : za9 hs m = []) : ProofP Y hs m (.tup [.nilsl, .int .i64 (za8 hs m)]) Y := ⟨.nilsl, rfl, by rw [h]; exact ⟨[], by simp, .inl ⟨rfl, rfl⟩⟩⟩
end Am
end Go.Proofs.YtjgljhbmljgaeaaDoor
end
section
/- Proofs: contracts: Proof of the reference. -/
namespace Go.Proofs.YtjgljhbmljgaeaaDoor
namespace Am
/-- Own elements, or a literal that can be gone on with. -/
def OwnA (sz : Nat) (G Y' : Store) (v : AV) (es : List (List AV)) : Prop := OwnN sz G Y' v es \/ (v = .vsl sz es true /\ es ≠ [] /\ ∃ news, Y' = G ++ news)
theorem OwnA.app {sz : Nat} {G Y' : Store} {v : AV} {es ys : List (List AV)} (h : OwnA sz G Y' v es) (h0 : ys.length ≠ 0) (hl : es.length + ys.length <= 1073741824) :
    ∃ v' Y'', aApp Y' sz v ys = some (v', Y'') /\ OwnN sz G Y'' v' (es ++ ys) := by
  rcases h with h | ⟨rfl, h1, news, rfl⟩
  · exact h.app h0 hl
  · refine ⟨.sl (G ++ news).length 0 (es.length + ys.length) none sz, (G ++ news) ++ [some (es ++ ys)], by rw [z7n, if_neg h0, if_pos ⟨rfl, rfl, hl⟩], news ++ [some (es ++ ys)], by rw [List.append_assoc], .inr ⟨news.length, by simp [h1], by simp, by rw [List.getElem?_append_right (Nat.le_refl _)]; simp⟩⟩
theorem OwnA.rd {sz : Nat} {G Y' : Store} {v : AV} {es : List (List AV)} (h : OwnA sz G Y' v es) : RdSl Y' sz es v := by
  rcases h with h | ⟨rfl, _⟩
  · exact h.rd
  · exact .inl (.inr ⟨true, rfl⟩)
theorem OwnA.more {sz : Nat} {G Y' : Store} {v : AV} {es : List (List AV)} (h : OwnA sz G Y' v es) (y : Store) : OwnA sz G (Y' ++ y) v es := by
  rcases h with h | ⟨rfl, h1, news, rfl⟩
  · exact .inl (h.more y)
  · exact .inr ⟨rfl, h1, news ++ y, by rw [List.append_assoc]⟩
theorem OwnA.ext {sz : Nat} {G Y' : Store} {v : AV} {es : List (List AV)} (h : OwnA sz G Y' v es) : ∃ news, Y' = G ++ news := by
  rcases h with h | ⟨_, _, h⟩
  · exact h.ext
  · exact h
theorem OwnA.down {sz : Nat} {Y Y' : Store} {v : AV} {es : List (List AV)} (hw : Wf Y.length Y) (h : OwnA sz Y Y' v es) (hr : RLss Y.length es) : ∃ v2 Y2, OwnA sz Y Y2 v2 es /\ DownV Y.length v Y' v2 Y2 := by
  rcases h with h | ⟨rfl, h1, news, rfl⟩
  · exact ⟨_, _, .inl (za4 Y sz es), h.own hw hr⟩
  · exact ⟨_, Y, .inr ⟨rfl, h1, [], by simp⟩, DownV.pure hw (by simpa only [RL] using hr)⟩
end Am
end Go.Proofs.YtjgljhbmljgaeaaDoor
end
section
/- Proofs: what a proof says, by plain loops; the reference's Proof; a proof's next hash. -/
namespace Go.Proofs.YtjgljhbmljgaeaaDoor
namespace Am
def RefP (Y : Store) (hs : List (List UInt8)) (m : Int) (v : AV) (Y' : Store) : Prop := ∃ v2, v = .tup [v2, .int .i64 (za8 hs m)] /\ OwnA 32 Y Y' v2 (z23 (za9 hs m))
/-- Up to where the older tree's last full one hangs. -/
def st (i last : Nat) : Nat × Nat := if h : i % 2 = 1 then st (i / 2) (last / 2) else (i, last)
termination_by i
decreasing_by omega
/-- On which side each hash stands: true: left of both. -/
def lp (i last : Nat) : List Bool :=
  if h : last = 0 then [] else if i % 2 = 1 then true :: lp (i / 2) (last / 2) else if i = last then lp (i / 2) (last / 2) else false :: lp (i / 2) (last / 2)
termination_by last
decreasing_by all_goals omega
/-- Two roots, of the hashes. -/
def run : List Bool -> List (List UInt8) -> List UInt8 -> List UInt8 -> Option (List UInt8 × List UInt8)
  | [], [], a, b => some (a, b)
  | true :: p, h :: ps, a, b => run p ps (z36 h a) (z36 h b)
  | false :: p, h :: ps, a, b => run p ps a (z36 b h)
  | _, _, _, _ => none
def chkG (i last : Nat) (o : List UInt8) (ps : List (List UInt8)) : Option (List UInt8 × List UInt8) :=
  if 0 < i then match ps with
    | [] => none
    | h :: ps => run (lp i last) ps h h
  else run (lp i last) ps o o
def chkS (i last : Nat) (o : List UInt8) (ps : List (List UInt8)) : Option (List UInt8 × List UInt8) := chkG (st i last).1 (st i last).2 o ps
/-- What Check answers. -/
def fitI (r : Option (List UInt8 × List UInt8)) (o nw : List UInt8) : Int :=
  match r with
  | some (a, b) => if a = o /\ b = nw then 0 else 80
  | none => 80
def chkI (m n : Int) (o nw : List UInt8) (ps : List (List UInt8)) : Int :=
  if n < 0 \/ 4096 < n \/ m < 0 \/ n < m then 2
  else if m = 0 then (if ps = [] /\ o = z1y [] /\ (0 < n \/ nw = o) then 0 else 80)
  else if m = n then (if ps = [] /\ o = nw then 0 else 80)
  else fitI (chkS (m.toNat - 1) (n.toNat - 1) o ps) o nw
end Am
end Go.Proofs.YtjgljhbmljgaeaaDoor
end
section
/- Proofs: contract: Check of the program. -/
namespace Go.Proofs.YtjgljhbmljgaeaaDoor
namespace Am
/-- What Check has in memory. -/
structure ChkM (ia ib : Nat) (Y Y' : Store) (o nw : List UInt8) (pv : AV) (ps : List (List UInt8)) (a b : List UInt8) : Prop where
  hab : (ia = 3 /\ ib = 4) \/ (ia = 4 /\ ib = 3)
  len : Y.length + 5 <= Y'.length
  keep : ∀ q, q < Y.length -> Y'[q]? = Y[q]?
  g0 : Y'[Y.length]? = some (some [zz o])
  g1 : Y'[Y.length + 1]? = some (some [zz nw])
  g2 : Y'[Y.length + 2]? = some (some [[pv]])
  g3 : Y'[Y.length + ia]? = some (some [zz a])
  g4 : Y'[Y.length + ib]? = some (some [zz b])
  hp : SlV 32 (z23 ps) pv
  ha : a.length = 32
  hb : b.length = 32
theorem ChkM.app {ia ib : Nat} {Y Y' y : Store} {o nw : List UInt8} {pv : AV} {ps : List (List UInt8)} {a b : List UInt8} (h : ChkM ia ib Y Y' o nw pv ps a b) : ChkM ia ib Y (Y' ++ y) o nw pv ps a b := by
  have hl := h.len
  have hab := h.hab
  refine ⟨hab, by rw [List.length_append]; omega, fun q hq => ?_, ?_, ?_, ?_, ?_, ?_, h.hp, h.ha, h.hb⟩
  · rw [gapp (by omega)]; exact h.keep q hq
  · rw [gapp (by omega)]; exact h.g0
  · rw [gapp (by omega)]; exact h.g1
  · rw [gapp (by omega)]; exact h.g2
  · rw [gapp (by omega)]; exact h.g3
  · rw [gapp (by omega)]; exact h.g4
theorem ChkM.fin {ia ib : Nat} {Y Y' : Store} {o nw : List UInt8} {pv : AV} {ps : List (List UInt8)} {a b : List UInt8} (h : ChkM ia ib Y Y' o nw pv ps a b) (hw : Wf Y.length Y) {i : Int} : DownV Y.length (.int .i64 i) Y' (.int .i64 i) Y := by
  have hl := h.len
  have hab := h.hab
  obtain ⟨y, rfl⟩ := zbi (by omega) h.keep
  exact DownV.pure hw (z13 _ rfl)
theorem SlV.cells {sz : Nat} {es : List (List AV)} {x : AV} (h : SlV sz es x) : cellsOf x = some [x] := by
  rcases h with ⟨rfl, rfl⟩ | ⟨ex, rfl⟩ <;> rfl
end Am
end Go.Proofs.YtjgljhbmljgaeaaDoor
end
section
/- Proofs: contract: Check of the program, the loop. -/
namespace Go.Proofs.YtjgljhbmljgaeaaDoor
namespace Am
end Am
end Go.Proofs.YtjgljhbmljgaeaaDoor
end
section
/- Proofs: contract: Check of the program. -/
namespace Go.Proofs.YtjgljhbmljgaeaaDoor
namespace Am
attribute [local irreducible] zp6
end Am
end Go.Proofs.YtjgljhbmljgaeaaDoor
end
section
/- Proofs: contract: the law's own example. -/
namespace Go.Proofs.YtjgljhbmljgaeaaDoor
namespace Am
theorem split2 : z17 2 = 1 := by decide
theorem split4 : z17 4 = 2 := by decide
theorem ProofP.is {Y Y' : Store} {hs : List (List UInt8)} {m : Int} {v : AV} (h : ProofP Y hs m v Y') : ∃ v2, v = .tup [v2, .int .i64 (za8 hs m)] /\ OwnN 32 Y Y' v2 (z23 (za9 hs m)) := h
end Am
end Go.Proofs.YtjgljhbmljgaeaaDoor
end
section
/- Proofs: the law ProofsProof: its contract. -/
namespace Go.Proofs.YtjgljhbmljgaeaaDoor
namespace Am
theorem RefP.ex (Y : Store) (hs : List (List UInt8)) (m : Int) : ∃ v Y', RefP Y hs m v Y' := ⟨_, _, _, rfl, .inl (za4 Y 32 _)⟩
end Am
end Go.Proofs.YtjgljhbmljgaeaaDoor
end
section
/- Hashes as_ one thing each: 32 bytes, hidden behind a name. -/
namespace Go.Proofs.YtjgljhbmljgaeaaDoor
namespace Am
abbrev Hash := {l : List UInt8 // l.length = 32}
def hc (h : Hash) : List AV := zz h.1
def hr (l : List Hash) : List (List AV) := l.map hc
def hb (l : List Hash) : List (List UInt8) := l.map (·.1)
theorem hb_H (l : List Hash) : H32 (hb l) := fun x hx => by
  simp only [hb, List.mem_map] at hx
  obtain ⟨h, _, rfl⟩ := hx
  exact h.2
theorem zbp (l : List Hash) : (hb l).length = l.length := by simp [hb]
theorem zlp (l : List Hash) (n : Nat) : (hb l).take n = hb (l.take n) := by simp [hb, List.map_take]
theorem zlo (l : List Hash) (n : Nat) : (hb l).drop n = hb (l.drop n) := by simp [hb, List.map_drop]
theorem hr_hb (l : List Hash) : z23 (hb l) = hr l := by simp [z23, hb, hr, hc]
@[go_sem] theorem z7 (h : Hash) : (hc h).length = 32 := by rw [hc, z14, h.2]
@[go_sem] theorem zlq (h : Hash) : (hc h).drop 32 = [] := List.drop_of_length_le (by rw [z7]; decide)
@[go_sem] theorem zlr (h : Hash) : (hc h).take 32 = hc h := List.take_of_length_le (by rw [z7]; decide)
@[go_sem] theorem z82 (h : Hash) (l : List AV) : (hc h ++ l).take 32 = hc h := by
  have := z7 h
  rw [List.take_append_of_le_length (by omega), zlr]
@[go_sem] theorem zbq (h : Hash) (l : List AV) : (hc h ++ l).drop 32 = l := by
  have := z7 h
  rw [List.drop_append_of_le_length (by omega), zlq, List.nil_append]
@[go_sem] theorem hc_eq (a b : Hash) : z1w (hc a) (hc b) = decide (a = b) := by
  rw [hc, hc, zfa, Bool.eq_iff_iff]
  simp [Subtype.ext_iff]
@[go_sem] theorem hc_kinds (h : Hash) : (hc h).map z1i = (List.replicate 32 (LK.i .u8)).map some := zmn h.2
@[go_sem] theorem z6 (l : List Hash) : (hr l).length = l.length := by simp [hr]
@[go_sem] theorem zfr (l : List Hash) (n : Nat) : (hr l).take n = hr (l.take n) := by simp [hr, List.map_take]
@[go_sem] theorem hr_drop (l : List Hash) (n : Nat) : (hr l).drop n = hr (l.drop n) := by simp [hr, List.map_drop]
@[go_sem] theorem hr_set (l : List Hash) (i : Nat) (h : Hash) : (hr l).set i (hc h) = hr (l.set i h) := by simp [hr, List.map_set]
theorem zbv : hr [] = [] := rfl
theorem z83 (h : Hash) (l : List Hash) : hr (h :: l) = hc h :: hr l := rfl
theorem hr_nil_iff {l : List Hash} : hr l = [] ↔ l = [] := by simp [hr]
def zeroH : Hash := ⟨List.replicate 32 0, by simp⟩
def hd (l : List Hash) (i : Nat) : Hash := l.getD i zeroH
@[go_sem] theorem z84 {l : List Hash} {i : Nat} (h : i < l.length) : (hr l)[i]? = some (hc (hd l i)) := by
  simp [hr, hd, List.getElem?_map, List.getElem?_eq_getElem h]
theorem z6n {l : List Hash} {i : Nat} (h : i < l.length) : hd l i = l[i] := by simp [hd, h]
theorem z6w {k : Nat} (h : Hash) : RLs k (hc h) := z2z _
theorem z2q {k : Nat} (l : List Hash) : RLss k (hr l) := by rw [<- hr_hb]; exact zcv _
theorem zal (k : Nat) (h : Hash) : shs k (hc h) = hc h := zdb k _
def zu (a b : Hash) : Hash := ⟨z36 a.1 b.1, zc9 _ _⟩
def z19 (l : List Hash) : Hash := ⟨z1y (hb l), z8j (hb_H l)⟩
def shaH (s : List UInt8) : Hash := ⟨shaS s, zda s⟩
theorem zcx (h : Hash) : z19 [h] = h := rfl
theorem z8i {l : List Hash} (h : 2 <= l.length) : z19 l = zu (z19 (l.take (z17 l.length))) (z19 (l.drop (z17 l.length))) := by
  apply Subtype.ext
  show z1y (hb l) = z36 (z1y (hb _)) (z1y (hb _))
  rw [<- zlp, <- zlo]
  have := zcy (l := hb l) (by rw [zbp]; exact h)
  rwa [zbp] at this
theorem z8t (Y : Store) (a b : Hash) : ACallsTo TC 49 [.agg (hc a), .agg (hc b)] Y (.agg (hc (zu a b))) Y := zdo Y a.1 b.1 a.2 b.2
theorem z8u (Y : Store) (l : List Hash) (x : AV) (hx : RdSl Y 32 (hr l) x) (hl : l.length < 1000000000) : ACallsTo TC 24 [x] Y (.agg (hc (z19 l))) Y :=
  zs0 Y (hb l) x (by rw [hr_hb]; exact hx) (hb_H l) (by rw [zbp]; exact hl)
end Am
end Go.Proofs.YtjgljhbmljgaeaaDoor
end
section
/- Ranges: plain laws: trees side by side, and what is pushed behind them. -/
namespace Go.Proofs.YtjgljhbmljgaeaaDoor
namespace Am
/-- A tree behind others, the last one first. -/
def z27 : Nat -> List Hash -> Hash -> List Hash
  | _, [], h => [h]
  | m, x :: rs, h => if m % 2 = 1 then z27 (m / 2) rs (zu x h) else h :: x :: rs
theorem z8f {m : Nat} {rs : List Hash} {h : Hash} (hm : m % 2 = 0) : z27 m rs h = h :: rs := by
  cases rs with
  | nil => rfl
  | cons x rs => simp [z27, hm]
theorem z8g {m : Nat} {rs : List Hash} {x h : Hash} (hm : m % 2 = 1) : z27 m (x :: rs) h = z27 (m / 2) rs (zu x h) := by simp [z27, hm]
theorem zcm : ∀ (f m : Nat) (rs : List Hash) (h : Hash), m + 1 < 2 ^ f -> rs.length = pc f m -> (z27 m rs h).length = pc f (m + 1)
  | 0, _, _, _, h, _ => by simp at h
  | f + 1, m, rs, h, hm, hl => by
    have e2 := Nat.pow_succ (n := 2) (m := f)
    simp only [pc] at hl ⊢
    by_cases h1 : m % 2 = 1
    · match rs, hl with
      | [], hl => simp at hl; omega
      | x :: rs, hl =>
        simp only [List.length_cons] at hl
        rw [z8g h1, zcm f (m / 2) rs (zu x h) (by omega) (by omega), show (m + 1) / 2 = m / 2 + 1 by omega]
        omega
    · rw [z8f (by omega), List.length_cons, show (m + 1) / 2 = m / 2 by omega]
      omega
theorem pc_two (j f m : Nat) : pc (f + j) (2 ^ j * m) = pc f m := by
  induction j with
  | zero => simp
  | succ j ih =>
    have h1 : 2 ^ (j + 1) * m = 2 * (2 ^ j * m) := by rw [Nat.pow_succ, Nat.mul_comm (2 ^ j) 2, Nat.mul_assoc]
    show pc ((f + j) + 1) _ = _
    simp only [pc]
    rw [h1, Nat.mul_div_cancel_left _ (by decide), ih]; omega
/-- Leaves behind a range, one by one. -/
def extR : Nat -> List Hash -> List Hash -> List Hash
  | _, rs, [] => rs
  | n, rs, x :: l => extR (n + 1) (z27 n rs x) l
theorem z80 : ∀ (n : Nat) (rs l m : List Hash), extR n rs (l ++ m) = extR (n + l.length) (extR n rs l) m
  | n, rs, [], m => by simp [extR]
  | n, rs, x :: l, m => by
    simp only [List.cons_append, extR, List.length_cons]
    rw [z80 (n + 1), show n + 1 + l.length = n + (l.length + 1) by omega]
theorem z9w : ∀ (f n : Nat) (rs l : List Hash), n + l.length < 2 ^ f -> rs.length = pc f n -> (extR n rs l).length = pc f (n + l.length)
  | _, _, _, [], _, h => h
  | f, n, rs, x :: l, h, hl => by
    simp only [List.length_cons] at h ⊢
    simp only [extR]
    rw [z9w f (n + 1) _ l (by omega) (zcm f n rs x (by omega) hl), show n + 1 + l.length = n + (l.length + 1) by omega]
def ofR (l : List Hash) : List Hash := extR 0 [] l
theorem z8r (j : Nat) : z17 (2 ^ (j + 1)) = 2 ^ j := by
  have : 0 < 2 ^ j := Nat.pow_pos (by decide)
  exact zdf (by rw [Nat.pow_succ]; omega) (Nat.le_refl _)
theorem zq7 {j : Nat} {c : List Hash} (h : c.length = 2 ^ (j + 1)) : z19 c = zu (z19 (c.take (2 ^ j))) (z19 (c.drop (2 ^ j))) := by
  have : 0 < 2 ^ j := Nat.pow_pos (by decide)
  rw [z8i (by rw [h, Nat.pow_succ]; omega), h, z8r]
/-- A full tree is pushed at once. -/
theorem z9x : ∀ (j q : Nat) (rs c : List Hash), c.length = 2 ^ j -> extR (2 ^ j * q) rs c = z27 q rs (z19 c)
  | 0, q, rs, c, h => by
    match c, h with
    | [x], _ => simp [extR, zcx]
  | j + 1, q, rs, c, h => by
    have hp : 0 < 2 ^ j := Nat.pow_pos (by decide)
    have e2 := Nat.pow_succ (n := 2) (m := j)
    have l1 : (c.take (2 ^ j)).length = 2 ^ j := by rw [List.length_take]; omega
    have l2 : (c.drop (2 ^ j)).length = 2 ^ j := by rw [List.length_drop]; omega
    have e : extR (2 ^ (j + 1) * q) rs c = extR (2 ^ (j + 1) * q) rs (c.take (2 ^ j) ++ c.drop (2 ^ j)) := by rw [List.take_append_drop]
    rw [e, z80, l1, show 2 ^ (j + 1) * q = 2 ^ j * (2 * q) by rw [e2, Nat.mul_assoc], z9x j (2 * q) rs _ l1, show 2 ^ j * (2 * q) + 2 ^ j = 2 ^ j * (2 * q + 1) by rw [Nat.mul_add, Nat.mul_one],
      z9x j (2 * q + 1) _ _ l2, z8f (m := 2 * q) (by omega), z8g (by omega), show (2 * q + 1) / 2 = q by omega, zq7 h]
/-- The root of trees. -/
def z5q : List Hash -> Hash
  | [] => shaH []
  | x :: rs => rs.foldl (fun o h => zu h o) x
theorem zh6 : ∀ (j f i : Nat) (rs : List Hash) (a x : Hash), i + 1 < 2 ^ j -> rs.length = pc f i -> j <= f -> z27 (2 ^ j + i) (rs ++ [a]) x = z27 i rs x ++ [a]
  | 0, _, _, _, _, _, h, _, _ => by simp at h
  | j + 1, 0, _, _, _, _, _, _, h => by omega
  | j + 1, f + 1, i, rs, a, x, h, hl, hj => by
    have e2 := Nat.pow_succ (n := 2) (m := j)
    simp only [pc] at hl
    by_cases h1 : i % 2 = 1
    · match rs, hl with
      | [], hl => simp at hl; omega
      | y :: rs, hl =>
        simp only [List.length_cons] at hl
        rw [List.cons_append, z8g (by omega), z8g h1, show (2 ^ (j + 1) + i) / 2 = 2 ^ j + i / 2 by omega]
        exact zh6 j f (i / 2) rs a _ (by omega) (by omega) (by omega)
    · rw [z8f (by omega), z8f (by omega)]; rfl
theorem zfe : ∀ (j : Nat) (b : List Hash) (i : Nat) (rs : List Hash) (a : Hash), i + b.length < 2 ^ j -> rs.length = pc j i -> extR (2 ^ j + i) (rs ++ [a]) b = extR i rs b ++ [a]
  | _, [], _, _, _, _, _ => rfl
  | j, x :: b, i, rs, a, h, hl => by
    simp only [List.length_cons] at h
    simp only [extR]
    rw [zh6 j j i rs a x (by omega) hl (Nat.le_refl _), Nat.add_assoc]
    exact zfe j b (i + 1) _ a (by omega) (zcm j i rs x (by omega) hl)
theorem zq4 {l : List Hash} {a : Hash} (h : l ≠ []) : z5q (l ++ [a]) = zu a (z5q l) := by
  match l, h with
  | x :: l, _ => simp [z5q]
theorem zgn : ∀ (f : Nat) (l : List Hash), l.length < f -> z5q (ofR l) = z19 l
  | 0, _, h => by omega
  | f + 1, [], _ => rfl
  | f + 1, x :: m, h => by
    obtain ⟨l, hl⟩ : ∃ l, l = x :: m := ⟨_, rfl⟩
    have hp : 0 < l.length := by rw [hl]; simp
    rw [<- hl] at h ⊢
    clear hl
    have h1 := Nat.log2_self_le (n := l.length) (by omega)
    have h2 := Nat.lt_log2_self (n := l.length)
    generalize Nat.log2 l.length = j at *
    rw [Nat.pow_succ] at h2
    have hj : 0 < 2 ^ j := Nat.pow_pos (by decide)
    by_cases h3 : l.length = 2 ^ j
    · have := z9x j 0 [] l h3
      rw [Nat.mul_zero] at this
      rw [ofR, this]; rfl
    · have l1 : (l.take (2 ^ j)).length = 2 ^ j := by rw [List.length_take]; omega
      have e : ofR l = extR 0 [] (l.take (2 ^ j) ++ l.drop (2 ^ j)) := by rw [List.take_append_drop]; rfl
      have c := z9x j 0 [] _ l1
      rw [Nat.mul_zero] at c
      have b := zfe j (l.drop (2 ^ j)) 0 [] (z19 (l.take (2 ^ j))) (by rw [List.length_drop]; omega) (by rw [za7]; rfl)
      have hne : extR 0 [] (l.drop (2 ^ j)) ≠ [] := by
        intro hn
        have := z9w (j + 1) 0 [] (l.drop (2 ^ j)) (by rw [List.length_drop, Nat.pow_succ]; omega) (by rw [za7]; rfl)
        rw [hn] at this
        exact z8d (j + 1) _ (by rw [List.length_drop]; omega) (by rw [List.length_drop, Nat.pow_succ]; omega) this.symm
      have ih := zgn f (l.drop (2 ^ j)) (by rw [List.length_drop]; omega)
      simp only [ofR] at ih
      rw [e, z80, l1, c, show z27 0 [] (z19 (l.take (2 ^ j))) = [] ++ [z19 (l.take (2 ^ j))] from rfl, show 0 + 2 ^ j = 2 ^ j + 0 by omega, b, zq4 hne, ih, z8i (l := l) (by omega),
        zdf (n := l.length) (j := j) (by omega) (by rw [Nat.pow_succ]; omega)]
where
  z8d : ∀ (f n : Nat), 0 < n -> n < 2 ^ f -> pc f n ≠ 0
    | 0, n, h, h' => by simp at h'; omega
    | f + 1, n, h, h' => by
      rw [Nat.pow_succ] at h'
      simp only [pc]
      by_cases h1 : n % 2 = 1
      · omega
      · have := z8d f (n / 2) (by omega) (by omega); omega
end Am
end Go.Proofs.YtjgljhbmljgaeaaDoor
end
section
/- Ranges: plain laws: the parts of leaves that stand behind others. -/
namespace Go.Proofs.YtjgljhbmljgaeaaDoor
namespace Am
end Am
end Go.Proofs.YtjgljhbmljgaeaaDoor
end
section
/- Abstract code. (Printed by wip/gen.) -/
set_option maxRecDepth 10000
namespace Go.Proofs.YtjgljhbmljgaeaaDoor
namespace Am



@[go_sem] def qhr0 : List AIns := [
  ⟨some 2,none,.no,.box (.t 0)⟩,
  ⟨some 3,none,.no,.box (.t 1)⟩,
  ⟨some 4,none,.no,.alloc [(.int .i64 0), .nilsl]⟩,
  ⟨some 5,none,.no,.mv (.v (.int .i64 0))⟩]
@[go_sem] def qhr1 : List AIns := [
  ⟨some 6,none,.no,.load true 2 (.t 2)⟩,
  ⟨some 7,none,.no,.load true 32 (.t 3)⟩,
  ⟨some 8,none,.no,.lit 32 [(.t 7)]⟩,
  ⟨some 9,none,.no,.call (.v (.fn 63 [])) [(.t 6), (.t 8)]⟩,
  ⟨some 10,none,.no,.ext 0 (.t 9)⟩,
  ⟨some 11,none,.no,.ext 1 (.t 9)⟩,
  ⟨none,none,.no,.store 2 (.t 4) (.t 10)⟩,
  ⟨some 5,none,.no,.mv (.t 11)⟩]
def qhc2 : ACode := .seq (.reg qhr1) .ret
def qhc3 : ACode := .seq (.reg qhr0) qhc2
theorem qhok : cFn TC 42 = some (12, [.c 4 true 2, .t 5], qhc3) := by kernel_rfl

@[go_sem] def qir0 : List AIns := [
  ⟨some 2,none,.no,.box (.t 0)⟩,
  ⟨some 4,none,.no,.alloc [(.int .i64 0), .nilsl]⟩,
  ⟨some 5,none,.no,.mv (.v (.int .i64 0))⟩]
@[go_sem] def qir1 : List AIns := [
  ⟨some 9,none,.no,.load true 2 (.t 2)⟩,
  ⟨some 10,none,.no,.call (.v (.fn 58 [])) [(.t 9)]⟩,
  ⟨some 11,none,.no,.un .not (.t 10)⟩,
  ⟨some 8,none,.no,.mv (.t 11)⟩]
@[go_sem] def qir2 : List AIns := [
  ⟨some 12,none,.no,.build [(.int .i64 0), .nilsl] []⟩,
  ⟨none,none,.no,.store 2 (.t 4) (.t 12)⟩,
  ⟨some 5,none,.no,.mv (.v (.int .i64 2))⟩]
def qic3 : ACode := .seq (.reg qir2) .ret
@[go_sem] def qir4 : List AIns := [
  ⟨some 14,none,.no,.mv (.t 1)⟩,
  ⟨some 15,none,.no,.lenSl (.t 14)⟩,
  ⟨some 16,none,.no,.fa 0 (.t 2)⟩,
  ⟨some 17,none,.no,.load false 1 (.t 16)⟩,
  ⟨some 18,none,.no,.bin .sub .none (.v (.int .i64 4096)) (.t 17)⟩,
  ⟨some 19,none,.no,.bin .gtr .none (.t 15) (.t 18)⟩,
  ⟨some 13,none,.no,.mv (.t 19)⟩]
@[go_sem] def qir5 : List AIns := [
  ⟨some 20,none,.no,.build [(.int .i64 0), .nilsl] []⟩,
  ⟨none,none,.no,.store 2 (.t 4) (.t 20)⟩,
  ⟨some 5,none,.no,.mv (.v (.int .i64 60))⟩]
def qic6 : ACode := .seq (.reg qir5) .ret
def qic7 : ACode := .cond (.t 13) qic6 .skip
def qic8 : ACode := .seq (.reg qir4) qic7
def qic9 : ACode := .cond (.t 8) qic3 qic8
def qic10 : ACode := .seq (.reg qir1) qic9
@[go_sem] def qir11 : List AIns := [
  ⟨some 21,none,.no,.fa 1 (.t 2)⟩,
  ⟨some 22,none,.no,.load false 1 (.t 21)⟩,
  ⟨some 23,none,.no,.call (.v (.fn 55 [])) [(.t 22)]⟩,
  ⟨some 24,none,.no,.fa 1 (.t 2)⟩,
  ⟨none,none,.no,.store 1 (.t 24) (.t 23)⟩]
@[go_sem] def qir12 : List AIns := [
  ⟨some 25,none,.no,.mv (.t 1)⟩,
  ⟨some 26,none,.no,.lenSl (.t 25)⟩,
  ⟨some 27,none,.no,.mv (.v (.int .i64 0))⟩]
@[go_sem] def qir13 : List AIns := [
  ⟨some 28,none,.no,.bin .lss .none (.t 27) (.t 26)⟩]
@[go_sem] def qir14 : List AIns := [
  ⟨some 29,none,.no,.iaSl 32 (.t 25) (.t 27)⟩,
  ⟨some 30,none,.no,.load true 32 (.t 29)⟩,
  ⟨some 7,none,.no,.alloc zZ0⟩,
  ⟨none,none,.no,.store 32 (.t 7) (.t 30)⟩]
@[go_sem] def qir15 : List AIns := [
  ⟨some 31,none,.no,.load true 2 (.t 2)⟩,
  ⟨some 32,none,.no,.load true 32 (.t 7)⟩,
  ⟨some 33,none,.no,.call (.v (.fn 81 [])) [(.t 31), (.v (.int .i64 1)), (.t 32)]⟩,
  ⟨none,none,.no,.store 2 (.t 2) (.t 33)⟩]
def qic16 : ACode := .seq (.reg qir14) (.reg qir15)
@[go_sem] def qir17 : List AIns := [
  ⟨some 34,none,.no,.bin .add .none (.t 27) (.v (.int .i64 1))⟩,
  ⟨some 27,none,.no,.mv (.t 34)⟩]
def qic18 : ACode := .seq (.block 2 qic16) (.reg qir17)
def qic19 : ACode := .seq (.cond (.t 28) .skip (.exit 1)) qic18
def qic20 : ACode := .seq (.reg qir13) qic19
def qic21 : ACode := .loop qic20
def qic22 : ACode := .block 1 qic21
def qic23 : ACode := .seq (.reg qir12) qic22
@[go_sem] def qir24 : List AIns := [
  ⟨some 35,none,.no,.load true 2 (.t 2)⟩,
  ⟨none,none,.no,.store 2 (.t 4) (.t 35)⟩,
  ⟨some 5,none,.no,.mv (.v (.int .i64 0))⟩]
def qic25 : ACode := .seq (.reg qir24) .ret
def qic26 : ACode := .seq qic23 qic25
def qic27 : ACode := .seq (.reg qir11) qic26
def qic28 : ACode := .seq (.block 0 qic10) qic27
def qic29 : ACode := .seq (.reg qir0) qic28
theorem qiok : cFn TC 63 = some (36, [.c 4 true 2, .t 5], qic29) := by kernel_rfl

@[go_sem] def qjr0 : List AIns := [
  ⟨some 1,none,.no,.box (.t 0)⟩,
  ⟨some 2,none,.no,.mv (.v (.bool false))⟩]
@[go_sem] def qjr1 : List AIns := [
  ⟨some 3,none,.no,.fa 0 (.t 1)⟩,
  ⟨some 4,none,.no,.load false 1 (.t 3)⟩,
  ⟨some 5,none,.no,.bin .geq .none (.t 4) (.v (.int .i64 0))⟩,
  ⟨some 6,none,.no,.mv (.t 5)⟩,
  ⟨some 7, some (6, true), .no, .fa 0 (.t 1)⟩,
  ⟨some 8, some (6, true), .no, .load false 1 (.t 7)⟩,
  ⟨some 9, some (6, true), .no, .bin .leq .none (.t 8) (.v (.int .i64 4096))⟩,
  ⟨some 10,none,.no,.pick (.t 6) (.t 9) (.v (.bool false))⟩,
  ⟨some 11,none,.no,.mv (.t 10)⟩,
  ⟨some 12, some (11, true), .no, .fa 1 (.t 1)⟩,
  ⟨some 13, some (11, true), .rd, .load false 1 (.t 12)⟩,
  ⟨some 14, some (11, true), .no, .lenSl (.t 13)⟩,
  ⟨some 15, some (11, true), .no, .fa 0 (.t 1)⟩,
  ⟨some 16, some (11, true), .rd, .load false 1 (.t 15)⟩,
  ⟨some 17, some (11, true), .ef, .call (.v (.fn 75 [])) [(.t 16)]⟩,
  ⟨some 18, some (11, true), .no, .bin .eql .none (.t 14) (.t 17)⟩,
  ⟨some 19,none,.no,.pick (.t 11) (.t 18) (.v (.bool false))⟩,
  ⟨some 2,none,.no,.mv (.t 19)⟩]
def qjc2 : ACode := .seq (.reg qjr1) .ret
def qjc3 : ACode := .seq (.reg qjr0) qjc2
theorem qjok : cFn TC 58 = some (20, [.t 2], qjc3) := by kernel_rfl



@[go_sem] def qkr0 : List AIns := [
  ⟨some 1,none,.no,.box (.t 0)⟩,
  ⟨some 2,none,.no,.alloc zZ0⟩,
  ⟨some 3,none,.no,.mv (.v (.int .i64 0))⟩]
@[go_sem] def qkr1 : List AIns := [
  ⟨some 9,none,.no,.load true 2 (.t 1)⟩,
  ⟨some 10,none,.no,.call (.v (.fn 58 [])) [(.t 9)]⟩,
  ⟨some 11,none,.no,.un .not (.t 10)⟩,
  ⟨some 8,none,.no,.mv (.t 11)⟩]
@[go_sem] def qkr2 : List AIns := [
  ⟨some 12,none,.no,.build zZ0 []⟩,
  ⟨none,none,.no,.store 32 (.t 2) (.t 12)⟩,
  ⟨some 3,none,.no,.mv (.v (.int .i64 2))⟩]
def qkc3 : ACode := .seq (.reg qkr2) .ret
@[go_sem] def qkr4 : List AIns := [
  ⟨some 14,none,.no,.fa 0 (.t 1)⟩,
  ⟨some 15,none,.no,.load false 1 (.t 14)⟩,
  ⟨some 16,none,.no,.bin .eql .none (.t 15) (.v (.int .i64 0))⟩,
  ⟨some 13,none,.no,.mv (.t 16)⟩]
@[go_sem] def qkr5 : List AIns := [
  ⟨some 17,none,.no,.call (.v (.fn 24 [])) [(.v .nilsl)]⟩,
  ⟨none,none,.no,.store 32 (.t 2) (.t 17)⟩,
  ⟨some 3,none,.no,.mv (.v (.int .i64 0))⟩]
def qkc6 : ACode := .seq (.reg qkr5) .ret
def qkc7 : ACode := .cond (.t 13) qkc6 .skip
def qkc8 : ACode := .seq (.reg qkr4) qkc7
def qkc9 : ACode := .cond (.t 8) qkc3 qkc8
def qkc10 : ACode := .seq (.reg qkr1) qkc9
@[go_sem] def qkr11 : List AIns := [
  ⟨some 18,none,.no,.fa 1 (.t 1)⟩,
  ⟨some 19,none,.no,.load false 1 (.t 18)⟩,
  ⟨some 20,none,.no,.lenSl (.t 19)⟩,
  ⟨some 21,none,.no,.bin .sub .none (.t 20) (.v (.int .i64 1))⟩,
  ⟨some 4,none,.no,.mv (.t 21)⟩]
@[go_sem] def qkr12 : List AIns := [
  ⟨some 22,none,.no,.fa 1 (.t 1)⟩,
  ⟨some 23,none,.no,.load false 1 (.t 22)⟩,
  ⟨some 24,none,.no,.mv (.t 4)⟩,
  ⟨some 25,none,.no,.iaSl 32 (.t 23) (.t 24)⟩,
  ⟨some 26,none,.no,.load true 32 (.t 25)⟩,
  ⟨some 5,none,.no,.alloc zZ0⟩,
  ⟨none,none,.no,.store 32 (.t 5) (.t 26)⟩]
@[go_sem] def qkr13 : List AIns := [
  ⟨some 27,none,.no,.fa 1 (.t 1)⟩,
  ⟨some 28,none,.no,.load false 1 (.t 27)⟩,
  ⟨some 29,none,.no,.mv (.t 4)⟩,
  ⟨some 30,none,.no,.slice (.sl 32) (.t 28) none (some (.t 29)) none⟩,
  ⟨some 31,none,.no,.call (.v (.fn 59 [])) [(.t 30)]⟩]
@[go_sem] def qkr14 : List AIns := [
  ⟨some 7,none,.no,.alloc zZ0⟩,
  ⟨none,none,.no,.store 32 (.t 7) (.t 33)⟩]
@[go_sem] def qkr15 : List AIns := [
  ⟨some 34,none,.no,.load true 32 (.t 7)⟩,
  ⟨some 35,none,.no,.load true 32 (.t 5)⟩,
  ⟨some 36,none,.no,.call (.v (.fn 49 [])) [(.t 34), (.t 35)]⟩,
  ⟨none,none,.no,.store 32 (.t 5) (.t 36)⟩]
def qkc16 : ACode := .block 2 (.reg qkr15)
def qkc17 : ACode := .rangef (.t 31) [32, 33] (.reg qkr14) qkc16
def qkc18 : ACode := .block 1 qkc17
def qkc19 : ACode := .seq (.reg qkr13) qkc18
@[go_sem] def qkr20 : List AIns := [
  ⟨some 37,none,.no,.load true 32 (.t 5)⟩,
  ⟨none,none,.no,.store 32 (.t 2) (.t 37)⟩,
  ⟨some 3,none,.no,.mv (.v (.int .i64 0))⟩]
def qkc21 : ACode := .seq (.reg qkr20) .ret
def qkc22 : ACode := .seq qkc19 qkc21
def qkc23 : ACode := .seq (.reg qkr12) qkc22
def qkc24 : ACode := .seq (.reg qkr11) qkc23
def qkc25 : ACode := .seq (.block 0 qkc10) qkc24
def qkc26 : ACode := .seq (.reg qkr0) qkc25
theorem qkok : cFn TC 38 = some (38, [.c 2 true 32, .t 3], qkc26) := by kernel_rfl

@[go_sem] def qlr0 : List AIns := [
  ⟨some 2,none,.no,.mv (.v .nilsl)⟩]
@[go_sem] def qlr1 : List AIns := [
  ⟨some 3,none,.no,.mv (.t 0)⟩,
  ⟨some 4,none,.no,.bin .eql .slc (.t 3) (.v .nilsl)⟩]
@[go_sem] def qlr2 : List AIns := [
  ⟨some 2,none,.no,.mv (.v .nilsl)⟩]
def qlc3 : ACode := .seq (.reg qlr2) .ret
def qlc4 : ACode := .cond (.t 4) qlc3 .skip
def qlc5 : ACode := .seq (.reg qlr1) qlc4
@[go_sem] def qlr6 : List AIns := [
  ⟨some 5,none,.no,.lit 32 []⟩,
  ⟨some 6,none,.no,.mv (.t 0)⟩,
  ⟨some 7,none,.no,.app 32 (.t 5) (.t 6)⟩,
  ⟨some 2,none,.no,.mv (.t 7)⟩]
def qlc7 : ACode := .seq (.reg qlr6) .ret
def qlc8 : ACode := .seq qlc5 qlc7
def qlc9 : ACode := .seq (.reg qlr0) qlc8
theorem qlok : cFn TC 55 = some (8, [.t 2], qlc9) := by kernel_rfl

@[go_sem] def qmr0 : List AIns := [
  ⟨some 3,none,.no,.box (.t 0)⟩,
  ⟨some 5,none,.no,.box (.t 2)⟩,
  ⟨some 6,none,.no,.alloc [(.int .i64 0), .nilsl]⟩]
@[go_sem] def qmr1 : List AIns := [
  ⟨some 9,none,.no,.fa 1 (.t 3)⟩,
  ⟨some 10,none,.no,.load false 1 (.t 9)⟩,
  ⟨some 11,none,.no,.call (.v (.fn 55 [])) [(.t 10)]⟩,
  ⟨some 7,none,.no,.mv (.t 11)⟩]
@[go_sem] def qmr2 : List AIns := [
  ⟨some 12,none,.no,.mv (.t 1)⟩,
  ⟨some 8,none,.no,.mv (.t 12)⟩]
@[go_sem] def qmr3 : List AIns := [
  ⟨some 13,none,.no,.fa 0 (.t 3)⟩,
  ⟨some 14,none,.no,.load false 1 (.t 13)⟩,
  ⟨some 15,none,.no,.mv (.t 8)⟩,
  ⟨some 16,none,.no,.bin .and .none (.t 14) (.t 15)⟩,
  ⟨some 17,none,.no,.bin .neq .none (.t 16) (.v (.int .i64 0))⟩]
def qmc4 : ACode := .cond (.t 17) .skip (.exit 0)
def qmc5 : ACode := .seq (.reg qmr3) qmc4
@[go_sem] def qmr6 : List AIns := [
  ⟨some 20,none,.no,.mv (.t 7)⟩,
  ⟨some 21,none,.no,.mv (.t 7)⟩,
  ⟨some 22,none,.no,.lenSl (.t 21)⟩,
  ⟨some 23,none,.no,.bin .sub .none (.t 22) (.v (.int .i64 1))⟩,
  ⟨some 24,none,.no,.iaSl 32 (.t 20) (.t 23)⟩,
  ⟨some 25, none, .rd, .load true 32 (.t 24)⟩,
  ⟨some 26, none, .rd, .load true 32 (.t 5)⟩,
  ⟨some 27,none,.no,.call (.v (.fn 49 [])) [(.t 25), (.t 26)]⟩,
  ⟨none,none,.no,.store 32 (.t 5) (.t 27)⟩]
@[go_sem] def qmr7 : List AIns := [
  ⟨some 28,none,.no,.mv (.t 7)⟩,
  ⟨some 29,none,.no,.mv (.t 7)⟩,
  ⟨some 30,none,.no,.lenSl (.t 29)⟩,
  ⟨some 31,none,.no,.bin .sub .none (.t 30) (.v (.int .i64 1))⟩,
  ⟨some 32,none,.no,.slice (.sl 32) (.t 28) none (some (.t 31)) none⟩,
  ⟨some 7,none,.no,.mv (.t 32)⟩]
def qmc8 : ACode := .seq (.reg qmr6) (.reg qmr7)
@[go_sem] def qmr9 : List AIns := [
  ⟨some 18,none,.no,.mv (.t 8)⟩,
  ⟨some 19,none,.no,.bin .mul .none (.t 18) (.v (.int .i64 2))⟩,
  ⟨some 8,none,.no,.mv (.t 19)⟩]
def qmc10 : ACode := .seq (.block 1 qmc8) (.reg qmr9)
def qmc11 : ACode := .seq qmc5 qmc10
def qmc12 : ACode := .loop qmc11
def qmc13 : ACode := .block 0 qmc12
def qmc14 : ACode := .seq (.reg qmr2) qmc13
@[go_sem] def qmr15 : List AIns := [
  ⟨some 33,none,.no,.fa 0 (.t 3)⟩,
  ⟨some 34, none, .rd, .load false 1 (.t 33)⟩,
  ⟨some 35,none,.no,.mv (.t 1)⟩,
  ⟨some 36,none,.no,.bin .add .none (.t 34) (.t 35)⟩,
  ⟨some 37,none,.no,.mv (.t 7)⟩,
  ⟨some 38, none, .rd, .load true 32 (.t 5)⟩,
  ⟨some 39,none,.no,.lit 32 [(.t 38)]⟩,
  ⟨some 40, none, .ef, .app 32 (.t 37) (.t 39)⟩,
  ⟨some 41,none,.no,.build [(.int .i64 0), .nilsl] [(0, 1, (.t 36)), (1, 1, (.t 40))]⟩,
  ⟨none,none,.no,.store 2 (.t 6) (.t 41)⟩]
def qmc16 : ACode := .seq (.reg qmr15) .ret
def qmc17 : ACode := .seq qmc14 qmc16
def qmc18 : ACode := .seq (.reg qmr1) qmc17
def qmc19 : ACode := .seq (.reg qmr0) qmc18
theorem qmok : cFn TC 81 = some (42, [.c 6 true 2], qmc19) := by kernel_rfl

@[go_sem] def qnr0 : List AIns := [
  ⟨some 1,none,.no,.box (.t 0)⟩,
  ⟨some 2,none,.no,.mv (.v .nilfn)⟩]
@[go_sem] def qnr1 : List AIns := [
  ⟨some 3,none,.no,.mkfn 76 [(.t 1)]⟩,
  ⟨some 2,none,.no,.mv (.t 3)⟩]
def qnc2 : ACode := .seq (.reg qnr1) .ret
def qnc3 : ACode := .seq (.reg qnr0) qnc2
theorem qnok : cFn TC 59 = some (4, [.t 2], qnc3) := by kernel_rfl

end Am
end Go.Proofs.YtjgljhbmljgaeaaDoor
end
section
/- Ranges: contracts: slices.Clone, slices.Equal, Valid; how many leaves the next part has. -/
namespace Go.Proofs.YtjgljhbmljgaeaaDoor
namespace Am
theorem ACallsP.toDown {C : Ctx} {f : FuncId} {args : List AV} {Y Y2 : Store} {v2 : AV} {P : AV -> Store -> Prop} (h : ACallsP C f args Y P)
    (hd : Wf Y.length Y -> ∀ v Y', P v Y' -> DownV Y.length v Y' v2 Y2) : ACallsTo C f args Y v2 Y2 := by
  intro Z w cargs hR ha
  rcases h Z w cargs hR ha with ⟨h1, h2⟩ | ⟨cv, v, Z', Y', w', h1, hp, h2, h3, h4⟩
  · refine .inl ⟨h1, h2.mono ?_⟩
    rintro e w' ⟨cv, v, Z', Y', rfl, hp, k1, k2, k3⟩
    obtain ⟨Z2, q1, q2, q3⟩ := (hd hR.wf v Y' hp).sound k2 k3 k1 hR.gl (by rw [hR.len]; exact Nat.le_refl _)
    exact ⟨cv, Z2, rfl, q1, q2, q3⟩
  · obtain ⟨Z2, q1, q2, q3⟩ := (hd hR.wf v Y' hp).sound h3 h4 h2 hR.gl (by rw [hR.len]; exact Nat.le_refl _)
    exact .inr ⟨cv, Z2, w', h1, q1, q2, q3⟩
theorem slen {Y : Store} {r : Nat} {x : Option AObj} (h : Y[r]? = some x) : r < Y.length := (List.getElem?_eq_some_iff.1 h).1
/-- All new objects are let go, and read as_ they are. -/
def FrzD (G news : Store) : DC := z25 G news [] id (fun _ => true)
theorem DownV.all {G news : Store} {v v2 : AV} (hw : Wf G.length G) (h : DR (FrzD G news) v2 v) : DownV G.length v (G ++ news) v2 G :=
  ⟨FrzD G news, rfl, by show DownS G.length (z25 G news [] id (fun _ => true)) G; simpa using za0 (kept := []) (idx := id) (fzl := fun _ => true) (news := news) hw (by simp) (by simp) (by simp) (by simp), h⟩
theorem FrzD.same {G news : Store} {v : AV} (h : RL G.length v) : DR (FrzD G news) v v := DR.refl (z65 _ _ _) v h
theorem FrzD.sl {G news : Store} {r off : Nat} {lim : Option Nat} {esz : Nat} {o es : AObj} (hk : G.length <= r) (ho : (G ++ news)[r]? = some (some o)) (hl : off + es.length <= o.length) (he : (o.drop off).take es.length = es) (hr : RLss G.length es) :
    DR (FrzD G news) (.vsl esz es false) (.sl r off es.length lim esz) := by
  simp only [DR, FrzD, z25]
  right
  left
  exact ⟨r, off, lim, o, rfl, by simpa using hk, ho, hl, by simp, by rw [he]; exact DRss.refl (z65 [] id (fun _ => true)) _ hr⟩
theorem drA {D : DC} {a b : List AV} (h : DRs D a b) : DR D (.agg a) (.agg b) := by simp only [DR]; exact ⟨b, rfl, h⟩
theorem drT {D : DC} {a b : List AV} (h : DRs D a b) : DR D (.tup a) (.tup b) := by simp only [DR]; exact ⟨b, rfl, h⟩
theorem OwnN.frz {sz : Nat} {G news : Store} {v : AV} {es : List (List AV)} (h : OwnN sz G (G ++ news) v es) (hr : RLss G.length es) : DR (FrzD G news) (z10 sz es) v := by
  by_cases h0 : es = []
  · obtain ⟨n2, _, ⟨rfl, rfl⟩ | ⟨j, h1, _⟩⟩ := h
    · simp [z10, DR]
    · exact absurd h0 h1
  · obtain ⟨r, rfl, hg, hk⟩ := h.sl h0
    unfold z10
    rw [if_neg h0]
    exact FrzD.sl hk hg (by omega) (by simp) hr
/-- Slots, as_ a list. -/
def lkp : List (Nat × AV) -> Env
  | [], _ => .any
  | (a, v) :: l, t => bif t == a then v else lkp l t
@[go_sem] theorem lkp_cons {a t : Nat} {v : AV} {l : List (Nat × AV)} : lkp ((a, v) :: l) t = bif t == a then v else lkp l t := rfl
/-- Own elements, or an empty literal. -/
def OwnE (sz : Nat) (G Y' : Store) (v : AV) (es : List (List AV)) : Prop := OwnN sz G Y' v es \/ (es = [] /\ v = .vsl sz [] true /\ ∃ news, Y' = G ++ news)
theorem OwnE.ext {sz : Nat} {G Y' : Store} {v : AV} {es : List (List AV)} (h : OwnE sz G Y' v es) : ∃ news, Y' = G ++ news := by
  rcases h with h | ⟨_, _, h⟩
  · exact h.ext
  · exact h
theorem OwnE.rd {sz : Nat} {G Y' : Store} {v : AV} {es : List (List AV)} (h : OwnE sz G Y' v es) : RdSl Y' sz es v := by
  rcases h with h | ⟨rfl, rfl, _⟩
  · exact h.rd
  · exact .inl (.inr ⟨true, rfl⟩)
theorem OwnE.len {sz : Nat} {G Y' : Store} {v : AV} {es : List (List AV)} (h : OwnE sz G Y' v es) : z1j v = some (.int .i64 es.length) := h.rd.len
theorem OwnE.app {sz : Nat} {G Y' : Store} {v : AV} {es ys : List (List AV)} (h : OwnE sz G Y' v es) (h0 : ys.length ≠ 0) (hl : es.length + ys.length <= 1073741824) :
    ∃ v' Y'', aApp Y' sz v ys = some (v', Y'') /\ OwnN sz G Y'' v' (es ++ ys) := by
  rcases h with h | ⟨rfl, rfl, news, rfl⟩
  · exact h.app h0 hl
  · refine ⟨.sl (G ++ news).length 0 ys.length none sz, (G ++ news) ++ [some ys], by rw [z7n, if_neg h0, if_pos ⟨rfl, rfl, hl⟩]; simp, news ++ [some ys], by rw [List.append_assoc], .inr ⟨news.length, ?_, by simp, by rw [List.getElem?_append_right (Nat.le_refl _)]; simp⟩⟩
    intro e; exact h0 (by rw [(List.append_eq_nil_iff.1 e).2]; rfl)
theorem RdSl.elems {Y : Store} {sz : Nat} {es : List (List AV)} {x : AV} (h : RdSl Y sz es x) : z1z Y x = some es := by
  rcases h with (⟨rfl, rfl⟩ | ⟨ex, rfl⟩) | ⟨r, off, lim, o, rfl, hg, h1, h2⟩
  · rfl
  · rfl
  · rw [zan, hg]; simp only; rw [if_pos h1, h2]
set_option maxHeartbeats 4000000 in
theorem zdx (Y : Store) (l : List Hash) (x : AV) (hx : RdSl Y 32 (hr l) x) (hl : l.length < 1000000) :
    ACallsP TC 55 [x] Y (fun v Y' => OwnE 32 Y Y' v (hr l) /\ (x = .nilsl ↔ v = .nilsl)) := by
  rcases hx with (⟨rfl, hnil⟩ | ⟨ex, rfl⟩) | ⟨r, off, lim, o, rfl, hg, h1, h2⟩
  · refine ACallsTo.toP (v := .nilsl) (Y' := Y) ?_ ⟨.inl ⟨[], by simp, .inl ⟨hnil, rfl⟩⟩, Iff.rfl⟩
    refine ACallsTo.of_body qlok (by simp) fun hw _ => ?_
    repeat' (first|refine zW.zs ?_|refine zW.zb ?_|refine zW.zc ?_|refine zW.zt rfl ?_|refine zW.zf rfl ?_|(refine zW.zd rfl (fun ht => ?_) (fun ht => ?_)<;>try (exfalso;omega))|((first|refine zW.zr ?_|refine zW.zk ?_|refine zW.ze ?_|refine zW.zq ?_|((first|apply zg0|apply zg1|apply zg2|apply zg3|apply zg4|apply zg5|apply zg6|apply zg7)<;>intro ht));all_goals try simp (disch:=first|omega|(simp only [lens];first|done|omega)) only [go_sem,reduceEqDiff,Nat.reduceBEq,reduceAdd,reduceMul,reduceSub,reduceLeDiff,reduceToNat,reducePow]))
    exact DownV.same hw (z13 _ rfl)
  · by_cases h0 : l = []
    · subst h0
      refine ACallsTo.toP (v := .vsl 32 [] true) (Y' := Y) ?_ ⟨.inr ⟨rfl, rfl, [], by simp⟩, by simp⟩
      refine ACallsTo.of_body qlok (by simp) fun hw _ => ?_
      rw [zbv]
      repeat' (first|refine zW.zs ?_|refine zW.zb ?_|refine zW.zc ?_|refine zW.zt rfl ?_|refine zW.zf rfl ?_|(refine zW.zd rfl (fun ht => ?_) (fun ht => ?_)<;>try (exfalso;omega))|((first|refine zW.zr ?_|refine zW.zk ?_|refine zW.ze ?_|refine zW.zq ?_|((first|apply zg0|apply zg1|apply zg2|apply zg3|apply zg4|apply zg5|apply zg6|apply zg7)<;>intro ht));all_goals try simp (disch:=first|omega|(simp only [lens];first|done|omega)) only [go_sem,reduceEqDiff,Nat.reduceBEq,reduceAdd,reduceMul,reduceSub,reduceLeDiff,reduceToNat,reducePow]))
      exact DownV.same hw (z13 _ rfl)
    · have hne : ¬ l.length = 0 := fun e => h0 (List.eq_nil_of_length_eq_zero e)
      refine ACallsP.of_keep qlok (by simp) ?_
      repeat' (first|refine zW.zs ?_|refine zW.zb ?_|refine zW.zc ?_|refine zW.zt rfl ?_|refine zW.zf rfl ?_|(refine zW.zd rfl (fun ht => ?_) (fun ht => ?_)<;>try (exfalso;omega))|((first|refine zW.zr ?_|refine zW.zk ?_|refine zW.ze ?_|refine zW.zq ?_|((first|apply zg0|apply zg1|apply zg2|apply zg3|apply zg4|apply zg5|apply zg6|apply zg7)<;>intro ht));all_goals try simp (disch:=first|omega|(simp only [lens];first|done|omega)) only [go_sem,reduceEqDiff,Nat.reduceBEq,reduceAdd,reduceMul,reduceSub,reduceLeDiff,reduceToNat,reducePow, hne, z7n]))
      refine .inl ⟨[some (hr l)], by simp, .inr ⟨0, by rw [Ne, hr_nil_iff]; exact h0, ?_, by simp⟩⟩
      simp [z6]
  · have hrl := z6 l
    by_cases h0 : l = []
    · subst h0
      refine ACallsTo.toP (v := .vsl 32 [] true) (Y' := Y) ?_ ⟨.inr ⟨rfl, rfl, [], by simp⟩, by simp⟩
      refine ACallsTo.of_body qlok (by simp) fun hw _ => ?_
      rw [zbv] at *
      repeat' (first|refine zW.zs ?_|refine zW.zb ?_|refine zW.zc ?_|refine zW.zt rfl ?_|refine zW.zf rfl ?_|(refine zW.zd rfl (fun ht => ?_) (fun ht => ?_)<;>try (exfalso;omega))|((first|refine zW.zr ?_|refine zW.zk ?_|refine zW.ze ?_|refine zW.zq ?_|((first|apply zg0|apply zg1|apply zg2|apply zg3|apply zg4|apply zg5|apply zg6|apply zg7)<;>intro ht));all_goals try simp (disch:=first|omega|(simp only [lens];first|done|omega)) only [go_sem,reduceEqDiff,Nat.reduceBEq,reduceAdd,reduceMul,reduceSub,reduceLeDiff,reduceToNat,reducePow, hg, zan, h1, h2]))
      exact DownV.same hw (z13 _ rfl)
    · have hne : ¬ l.length = 0 := fun e => h0 (List.eq_nil_of_length_eq_zero e)
      rw [hrl] at h1 h2
      refine ACallsP.of_keep qlok (by simp) ?_
      repeat' (first|refine zW.zs ?_|refine zW.zb ?_|refine zW.zc ?_|refine zW.zt rfl ?_|refine zW.zf rfl ?_|(refine zW.zd rfl (fun ht => ?_) (fun ht => ?_)<;>try (exfalso;omega))|((first|refine zW.zr ?_|refine zW.zk ?_|refine zW.ze ?_|refine zW.zq ?_|((first|apply zg0|apply zg1|apply zg2|apply zg3|apply zg4|apply zg5|apply zg6|apply zg7)<;>intro ht));all_goals try simp (disch:=first|omega|(simp only [lens];first|done|omega)) only [go_sem,reduceEqDiff,Nat.reduceBEq,reduceAdd,reduceMul,reduceSub,reduceLeDiff,reduceToNat,reducePow, hg, hne, z7n, zan, h1, h2]))
      refine .inl ⟨[some (hr l)], by simp, .inr ⟨0, by rw [Ne, hr_nil_iff]; exact h0, ?_, by simp⟩⟩
      simp [z6]
end Am
end Go.Proofs.YtjgljhbmljgaeaaDoor
end
section
/- Ranges: contracts: slices.Equal, Valid, step, push. -/
namespace Go.Proofs.YtjgljhbmljgaeaaDoor
namespace Am
theorem z74 {l : List Hash} {i : Nat} (h : i < l.length) : l.take (i + 1) = l.take i ++ [hd l i] := by
  rw [z6n h]; exact (List.take_append_getElem h).symm
def z3k (n : Int) (len : Nat) : Bool := decide (0 <= n /\ n <= 4096 /\ len = pc 64 n.toNat)
theorem zh7 (Y : Store) (n : Int) (hs : List Hash) (x : AV) (hx : RdSl Y 32 (hr hs) x) :
    ACallsTo TC 58 [.agg [.int .i64 n, x]] Y (.bool (z3k n hs.length)) Y := by
  have r1 := hx.len
  rw [z6] at r1
  unfold z1j at r1
  refine ACallsTo.of_body qjok (by simp) fun hw _ => ?_
  by_cases h1 : 0 <= n /\ n <= 4096
  · have h := fun Y => zjj Y n (by omega)
    by_cases h2 : hs.length = pc 64 n.toNat
    · have e : z3k n hs.length = true := decide_eq_true ⟨h1.1, h1.2, h2⟩
      have h2' : (hs.length : Int) = pc 64 n.toNat := by omega
      rw [e]
      repeat' (first|refine zW.zs ?_|refine zW.zb ?_|refine zW.zc ?_|refine zW.zt rfl ?_|refine zW.zf rfl ?_|(refine zW.zd rfl (fun ht => ?_) (fun ht => ?_)<;>try (exfalso;omega))|((first|refine zW.zr ?_|refine zW.zk ?_|refine zW.ze ?_|refine zW.zq ?_|(apply callW.mk_pu; (first | exact (fun _ => h _))) | (apply callW.za; (first | exact (h _))) | ((first|apply zg0|apply zg1|apply zg2|apply zg3|apply zg4|apply zg5|apply zg6|apply zg7)<;>intro ht));all_goals try simp (disch:=first|omega|(simp only [lens];first|done|omega)) only [go_sem,reduceEqDiff,Nat.reduceBEq,reduceAdd,reduceMul,reduceSub,reduceLeDiff,reduceToNat,reducePow, r1, h2']))
      exact DownV.pure hw (z13 _ rfl)
    · have e : z3k n hs.length = false := decide_eq_false fun e => h2 e.2.2
      have h2' : ¬ (hs.length : Int) = pc 64 n.toNat := by omega
      rw [e]
      repeat' (first|refine zW.zs ?_|refine zW.zb ?_|refine zW.zc ?_|refine zW.zt rfl ?_|refine zW.zf rfl ?_|(refine zW.zd rfl (fun ht => ?_) (fun ht => ?_)<;>try (exfalso;omega))|((first|refine zW.zr ?_|refine zW.zk ?_|refine zW.ze ?_|refine zW.zq ?_|(apply callW.mk_pu; (first | exact (fun _ => h _))) | (apply callW.za; (first | exact (h _))) | ((first|apply zg0|apply zg1|apply zg2|apply zg3|apply zg4|apply zg5|apply zg6|apply zg7)<;>intro ht));all_goals try simp (disch:=first|omega|(simp only [lens];first|done|omega)) only [go_sem,reduceEqDiff,Nat.reduceBEq,reduceAdd,reduceMul,reduceSub,reduceLeDiff,reduceToNat,reducePow, r1, h2']))
      exact DownV.pure hw (z13 _ rfl)
  · have e : z3k n hs.length = false := decide_eq_false fun e => h1 ⟨e.1, e.2.1⟩
    rw [e]
    repeat' (first|refine zW.zs ?_|refine zW.zb ?_|refine zW.zc ?_|refine zW.zt rfl ?_|refine zW.zf rfl ?_|(refine zW.zd rfl (fun ht => ?_) (fun ht => ?_)<;>try (exfalso;omega))|((first|refine zW.zr ?_|refine zW.zk ?_|refine zW.ze ?_|refine zW.zq ?_|((first|apply zg0|apply zg1|apply zg2|apply zg3|apply zg4|apply zg5|apply zg6|apply zg7)<;>intro ht));all_goals try simp (disch:=first|omega|(simp only [lens];first|done|omega)) only [go_sem,reduceEqDiff,Nat.reduceBEq,reduceAdd,reduceMul,reduceSub,reduceLeDiff,reduceToNat,reducePow, r1]))
    all_goals exact DownV.pure hw (z13 _ rfl)
end Am
end Go.Proofs.YtjgljhbmljgaeaaDoor
end
section
/- Ranges: contracts: push. -/
namespace Go.Proofs.YtjgljhbmljgaeaaDoor
namespace Am
def Ext (Y Y' : Store) : Prop := ∃ news, Y' = Y ++ news
theorem Ext.refl (Y : Store) : Ext Y Y := ⟨[], by simp⟩
theorem Ext.app {Y Y' y : Store} (h : Ext Y Y') : Ext Y (Y' ++ y) := by
  obtain ⟨n, rfl⟩ := h
  exact ⟨n ++ y, by rw [List.append_assoc]⟩
theorem Ext.set {Y Y' : Store} {r : Nat} {x : Option AObj} (h : Ext Y Y') (hr : Y.length <= r) : Ext Y (Y'.set r x) := by
  obtain ⟨n, rfl⟩ := h
  exact ⟨n.set (r - Y.length) x, List.set_append_right _ _ hr⟩
theorem Ext.trans {Y Y' Y'' : Store} (h : Ext Y Y') (h' : Ext Y' Y'') : Ext Y Y'' := by
  obtain ⟨n, rfl⟩ := h
  obtain ⟨m, rfl⟩ := h'
  exact ⟨n ++ m, by rw [List.append_assoc]⟩
theorem Ext.le {Y Y' : Store} (h : Ext Y Y') : Y.length <= Y'.length := by
  obtain ⟨n, rfl⟩ := h; simp
theorem zir (Y : Store) (l : List Hash) (x : AV) (hx : RdSl Y 32 (hr l) x) : ∃ v Y', OwnE 32 Y Y' v (hr l) /\ (x = .nilsl ↔ v = .nilsl) := by
  have h1 := za4 Y 32 (hr l)
  rcases hx with (⟨rfl, h⟩ | ⟨ex, rfl⟩) | ⟨r, off, lim, o, rfl, _⟩
  · exact ⟨.nilsl, Y, .inl ⟨[], by simp, .inl ⟨h, rfl⟩⟩, Iff.rfl⟩
  · by_cases h0 : hr l = []
    · exact ⟨.vsl 32 [] true, Y, .inr ⟨h0, rfl, [], by simp⟩, by simp⟩
    · refine ⟨_, _, .inl h1, ?_⟩
      unfold ownV; rw [if_neg h0]; simp
  · by_cases h0 : hr l = []
    · exact ⟨.vsl 32 [] true, Y, .inr ⟨h0, rfl, [], by simp⟩, by simp⟩
    · refine ⟨_, _, .inl h1, ?_⟩
      unfold ownV; rw [if_neg h0]; simp
theorem zef {n i : Nat} : n &&& 2 ^ i = if n / 2 ^ i % 2 = 1 then 2 ^ i else 0 := by
  apply Nat.eq_of_testBit_eq
  intro k
  rw [Nat.testBit_and, Nat.testBit_two_pow]
  by_cases hk : i = k
  · subst hk
    rw [Nat.testBit_eq_decide_div_mod_eq]
    split
    · rename_i h; simp [h, Nat.testBit_two_pow]
    · rename_i h; simp [h]
  · split
    · simp [hk, Nat.testBit_two_pow]
    · simp [hk]
theorem zgz {f q : Nat} (h : q % 2 = 1) (hf : 0 < f) : pc f q = 1 + pc (f - 1) (q / 2) := by
  match f, hf with
  | f + 1, _ => simp [pc, h]
/-- A loop that is left in its first round. -/
theorem zW.once {C : Ctx} {n k : Nat} {Q : AExit -> Env -> Store -> Prop} {O : Env} {Y : Store} {x : ACode} (h : zW C n k x (z29 (fun _ _ => False) Q) O Y) : zW C n k (.loop x) Q O Y :=
  zW.loop (fun _ O' Y' => O' = O /\ Y' = Y) 0 ⟨rfl, rfl⟩ (by
    rintro m _ _ ⟨rfl, rfl⟩
    refine h.mono fun e O Y h => ?_
    cases e
    · exact h.elim
    · exact h
    · exact h)
set_option maxHeartbeats 8000000 in
theorem zpv (Y : Store) (n j : Nat) (x : AV) (hs : List Hash) (h : Hash) (hx : RdSl Y 32 (hr hs) x) (hj : 2 ^ j ∣ n) (hn : n + 2 ^ j <= 4096) (hl : hs.length = pc 13 n) :
    ACallsTo TC 81 [.agg [.int .i64 n, x], .int .i64 ((2 ^ j : Nat) : Int), .agg (hc h)] Y (.agg [.int .i64 ((n + 2 ^ j : Nat) : Int), .vsl 32 (hr (z27 (n / 2 ^ j) hs.reverse h).reverse) false]) Y := by
  have hp : 0 < 2 ^ j := Nat.pow_pos (by decide)
  have hj12 : j <= 12 := by
    rcases Nat.lt_or_ge j 13 with h | h
    · omega
    · have := Nat.pow_le_pow_right (n := 2) (by decide) h
      omega
  have hlen : hs.length < 1000000 := by
    have : ∀ f q, pc f q <= f := fun f => by
      induction f with
      | zero => intro q; simp [pc]
      | succ f ih => intro q; simp only [pc]; have := ih (q / 2); omega
    have := this 13 n; omega
  obtain ⟨q0, hq0⟩ := hj
  have hdiv : n / 2 ^ j = q0 := by rw [hq0]; exact Nat.mul_div_cancel_left _ hp
  have hpl : hs.length = pc (13 - j) (n / 2 ^ j) := by
    have := pc_two j (13 - j) q0
    rw [<- hq0, show 13 - j + j = 13 by omega] at this
    rw [hl, this, hdiv]
  generalize hk0 : 2 ^ j = k0 at *
  have hadd : ((n : Int) + k0) = ((n + k0 : Nat) : Int) := by omega
  refine ACallsTo.of_body qmok (by simp) fun hw _ => ?_
  repeat' (first|refine zW.zs ?_|refine zW.zb ?_|refine zW.zc ?_|refine zW.zt rfl ?_|refine zW.zf rfl ?_|(refine zW.zd rfl (fun ht => ?_) (fun ht => ?_)<;>try (exfalso;omega))|((first|refine zW.zr ?_|refine zW.zk ?_|refine zW.ze ?_|refine zW.zq ?_|((first|apply zg0|apply zg1|apply zg2|apply zg3|apply zg4|apply zg5|apply zg6|apply zg7)<;>intro ht));all_goals try simp (disch:=first|omega|(simp only [lens];first|done|omega)) only [go_sem,reduceEqDiff,Nat.reduceBEq,reduceAdd,reduceMul,reduceSub,reduceLeDiff,reduceToNat,reducePow]))
  refine callW.mkP (zdx _ hs x hx.app hlen) (zir _ hs x hx.app) ?_
  rintro v Y1 ⟨hO, _⟩
  obtain ⟨y, hy⟩ := hO.ext
  have b0 : Y1[Y.length]? = some (some [[.int .i64 n, x]]) := by rw [hy]; simp
  have b1 : Y1[Y.length + 1]? = some (some [hc h]) := by rw [hy]; simp
  have b2 : Y1[Y.length + 2]? = some (some [[.int .i64 0, .nilsl]]) := by rw [hy]; simp
  have b3 : Ext Y Y1 := by rw [hy]; exact (Ext.refl Y).app.app
  have g0 := slen b0
  have g1 := slen b1
  have g2 := slen b2
  by_cases h0 : hs = []
  · subst h0
    have hn0 : n / k0 % 2 = 0 := by
      have := hpl
      simp at this
      rcases Nat.mod_two_eq_zero_or_one (n / k0) with h | h
      · exact h
      · rw [zgz h (by omega)] at this; omega
    have hand := zef (n := n) (i := j)
    rw [hk0, if_neg (by omega)] at hand
    have hres : hr (z27 (n / k0) ([] : List Hash).reverse h).reverse = [hc h] := rfl
    rw [hres]
    have hv : v = .nilsl \/ v = .vsl 32 [] true := by
      rcases hO with ⟨_, _, ⟨_, rfl⟩ | ⟨_, h1, _⟩⟩ | ⟨_, rfl, _⟩
      · exact .inl rfl
      · exact absurd rfl h1
      · exact .inr rfl
    have fin : ∀ Y2 r, Ext Y Y2 -> Y.length <= r -> Y2[r]? = some (some [hc h]) -> DownV Y.length (.agg [.int .i64 ((n + k0 : Nat) : Int), .sl r 0 1 none 32]) Y2 (.agg [.int .i64 ((n + k0 : Nat) : Int), .vsl 32 [hc h] false]) Y := fun Y2 r e hr hg => by
      obtain ⟨news, rfl⟩ := e
      exact DownV.all hw (drA (drsc (FrzD.same (by simp [RL])) (drs1 (FrzD.sl (es := [hc h]) hr hg (by simp) (by simp) (by simp only [RLss]; exact ⟨z6w _, trivial⟩)))))
    rcases hv with rfl | rfl
    · repeat' (first|refine zW.zs ?_|refine zW.zb ?_|refine zW.zc ?_|refine zW.zt rfl ?_|refine zW.zf rfl ?_|(refine zW.zd rfl (fun ht => ?_) (fun ht => ?_)<;>try (exfalso;omega))|((first|refine zW.zr ?_|refine zW.zk ?_|refine zW.ze ?_|refine zW.zq ?_|((first|apply zg0|apply zg1|apply zg2|apply zg3|apply zg4|apply zg5|apply zg6|apply zg7)<;>intro ht));all_goals try simp (disch:=first|omega|(simp only [lens];first|done|omega)) only [go_sem,reduceEqDiff,Nat.reduceBEq,reduceAdd,reduceMul,reduceSub,reduceLeDiff,reduceToNat,reducePow, b0, b1, b2]))
      refine zW.once ?_
      repeat' (first|refine zW.zs ?_|refine zW.zb ?_|refine zW.zc ?_|refine zW.zt rfl ?_|refine zW.zf rfl ?_|(refine zW.zd rfl (fun ht => ?_) (fun ht => ?_)<;>try (exfalso;omega))|((first|refine zW.zr ?_|refine zW.zk ?_|refine zW.ze ?_|refine zW.zq ?_|((first|apply zg0|apply zg1|apply zg2|apply zg3|apply zg4|apply zg5|apply zg6|apply zg7)<;>intro ht));all_goals try simp (disch:=first|omega|(simp only [lens];first|done|omega)) only [go_sem,reduceEqDiff,Nat.reduceBEq,reduceAdd,reduceMul,reduceSub,reduceLeDiff,reduceToNat,reducePow, b0, b1, b2, hand, hadd]))
      exact fin _ _ (b3.set (by omega)).app (by omega) (by simp)
    · repeat' (first|refine zW.zs ?_|refine zW.zb ?_|refine zW.zc ?_|refine zW.zt rfl ?_|refine zW.zf rfl ?_|(refine zW.zd rfl (fun ht => ?_) (fun ht => ?_)<;>try (exfalso;omega))|((first|refine zW.zr ?_|refine zW.zk ?_|refine zW.ze ?_|refine zW.zq ?_|((first|apply zg0|apply zg1|apply zg2|apply zg3|apply zg4|apply zg5|apply zg6|apply zg7)<;>intro ht));all_goals try simp (disch:=first|omega|(simp only [lens];first|done|omega)) only [go_sem,reduceEqDiff,Nat.reduceBEq,reduceAdd,reduceMul,reduceSub,reduceLeDiff,reduceToNat,reducePow, b0, b1, b2]))
      refine zW.once ?_
      repeat' (first|refine zW.zs ?_|refine zW.zb ?_|refine zW.zc ?_|refine zW.zt rfl ?_|refine zW.zf rfl ?_|(refine zW.zd rfl (fun ht => ?_) (fun ht => ?_)<;>try (exfalso;omega))|((first|refine zW.zr ?_|refine zW.zk ?_|refine zW.ze ?_|refine zW.zq ?_|((first|apply zg0|apply zg1|apply zg2|apply zg3|apply zg4|apply zg5|apply zg6|apply zg7)<;>intro ht));all_goals try simp (disch:=first|omega|(simp only [lens];first|done|omega)) only [go_sem,reduceEqDiff,Nat.reduceBEq,reduceAdd,reduceMul,reduceSub,reduceLeDiff,reduceToNat,reducePow, b0, b1, b2, hand, hadd]))
      exact fin _ _ (b3.set (by omega)).app (by omega) (by simp)
  · have hpos : 0 < hs.length := List.length_pos_iff.2 h0
    obtain ⟨r, rfl, hgr, hrl⟩ : ∃ r, v = .sl r 0 hs.length none 32 /\ Y1[r]? = some (some (hr hs)) /\ Y.length + 3 <= r := by
      rcases hO with hO | hO
      · obtain ⟨r, h1, h2, h3⟩ := hO.sl (by rw [Ne, hr_nil_iff]; exact h0)
        rw [z6] at h1
        exact ⟨r, h1, h2, by simpa using h3⟩
      · exact absurd (hr_nil_iff.1 hO.1) h0
    have g3 := slen hgr
    repeat' (first|refine zW.zs ?_|refine zW.zb ?_|refine zW.zc ?_|refine zW.zt rfl ?_|refine zW.zf rfl ?_|(refine zW.zd rfl (fun ht => ?_) (fun ht => ?_)<;>try (exfalso;omega))|((first|refine zW.zr ?_|refine zW.zk ?_|refine zW.ze ?_|refine zW.zq ?_|((first|apply zg0|apply zg1|apply zg2|apply zg3|apply zg4|apply zg5|apply zg6|apply zg7)<;>intro ht));all_goals try simp (disch:=first|omega|(simp only [lens];first|done|omega)) only [go_sem,reduceEqDiff,Nat.reduceBEq,reduceAdd,reduceMul,reduceSub,reduceLeDiff,reduceToNat,reducePow, b0, b1, b2, hadd]))
    refine zW.loop (fun m O Y' => ∃ (i : Nat) (h' : Hash), m <= hs.length /\ j <= i /\ i <= 13 /\ m = pc (13 - i) (n / 2 ^ i) /\ z27 (n / 2 ^ i) (hs.take m).reverse h' = z27 (n / k0) hs.reverse h ∧
      Y'[Y.length]? = some (some [[.int .i64 n, x]]) /\ Y'[Y.length + 1]? = some (some [hc h']) /\ Y'[Y.length + 2]? = some (some [[.int .i64 0, .nilsl]]) /\ Y'[r]? = some (some (hr hs)) /\ Ext Y Y' ∧
      O 1 = .int .i64 k0 /\ O 3 = .ptr Y.length 0 0 /\ O 5 = .ptr (Y.length + 1) 0 0 /\ O 6 = .ptr (Y.length + 2) 0 0 /\ O 7 = .sl r 0 m none 32 /\ O 8 = .int .i64 ((2 ^ i : Nat) : Int)) hs.length ?_ ?_
    · refine ⟨j, h, Nat.le_refl _, Nat.le_refl _, by omega, ?_, ?_, b0, b1, b2, hgr, b3, by simp (disch:=first|omega|(simp only [lens];first|done|omega)) only [go_sem,reduceEqDiff,Nat.reduceBEq,reduceAdd,reduceMul,reduceSub,reduceLeDiff,reduceToNat,reducePow], by simp (disch:=first|omega|(simp only [lens];first|done|omega)) only [go_sem,reduceEqDiff,Nat.reduceBEq,reduceAdd,reduceMul,reduceSub,reduceLeDiff,reduceToNat,reducePow], by simp (disch:=first|omega|(simp only [lens];first|done|omega)) only [go_sem,reduceEqDiff,Nat.reduceBEq,reduceAdd,reduceMul,reduceSub,reduceLeDiff,reduceToNat,reducePow], by simp (disch:=first|omega|(simp only [lens];first|done|omega)) only [go_sem,reduceEqDiff,Nat.reduceBEq,reduceAdd,reduceMul,reduceSub,reduceLeDiff,reduceToNat,reducePow], by simp (disch:=first|omega|(simp only [lens];first|done|omega)) only [go_sem,reduceEqDiff,Nat.reduceBEq,reduceAdd,reduceMul,reduceSub,reduceLeDiff,reduceToNat,reducePow], by simp (disch:=first|omega|(simp only [lens];first|done|omega)) only [go_sem,reduceEqDiff,Nat.reduceBEq,reduceAdd,reduceMul,reduceSub,reduceLeDiff,reduceToNat,reducePow]; rw [hk0]⟩
      · rw [hk0]; exact hpl
      · rw [hk0, List.take_of_length_le (Nat.le_refl _)]
    · rintro m O Y' ⟨i, h', hm, hji, hi13, hmp, hpush, c0, c1, c2, cr, ce, q1, q3, q5, q6, q7, q8⟩
      have d0 := slen c0
      have d1 := slen c1
      have d2 := slen c2
      have dr := slen cr
      have hki : 0 < 2 ^ i := Nat.pow_pos (by decide)
      have hand := zef (n := n) (i := i)
      have hi8 : 2 ^ i <= 8192 := by
        have := Nat.pow_le_pow_right (n := 2) (by decide) hi13
        exact this
      have hs2 : 2 ^ (i + 1) = 2 ^ i * 2 := Nat.pow_succ ..
      have hdd : n / 2 ^ i / 2 = n / 2 ^ (i + 1) := by rw [Nat.div_div_eq_div_mul, hs2]
      by_cases hbit : n / 2 ^ i % 2 = 1
      · rw [if_pos hbit] at hand
        have hi12 : i < 13 := by
          rcases Nat.lt_or_ge i 13 with h | h
          · exact h
          · have e13 : i = 13 := by omega
            rw [e13, Nat.div_eq_of_lt (by omega)] at hbit
            simp at hbit
        rw [zgz hbit (by omega)] at hmp
        obtain ⟨l, rfl⟩ : ∃ l, m = l + 1 := ⟨m - 1, by omega⟩
        have hrev : (hs.take (l + 1)).reverse = hd hs l :: (hs.take l).reverse := by rw [z74 (by omega)]; simp
        rw [hrev, z8g hbit, hdd] at hpush
        rw [hdd, show 13 - i - 1 = 13 - (i + 1) by omega] at hmp
        generalize hki2 : 2 ^ i = k at *
        have hne : ¬ (k : Int) = 0 := by omega
        have hl1 : ((l + 1 : Nat) : Int) - 1 = l := by omega
        repeat' (first | refine zW.zs ?_ | refine zW.zb ?_ | refine zW.zc ?_ | refine zW.zt rfl ?_ | refine zW.zf rfl ?_ | (refine zW.zd rfl (fun ht => ?_) (fun ht => ?_) <;> try (exfalso; omega)) | ((first | refine zW.regS ?_ | refine zW.zk ?_ | refine zW.ze ?_ | refine zW.zq ?_ | (apply callW.mk_pu; (first | exact (fun _ => z8t _ _ _))) | (apply callW.za; (first | exact (z8t _ _ _))) | ((first|apply zg0|apply zg1|apply zg2|apply zg3|apply zg4|apply zg5|apply zg6|apply zg7)<;>intro ht));all_goals try simp (disch:=first|omega|(simp only [lens];first|done|omega)) only [go_sem,reduceEqDiff,Nat.reduceBEq,reduceAdd,reduceMul,reduceSub,reduceLeDiff,reduceToNat,reducePow, q1, q3, q5, q6, q7, q8, c0, c1, c2, cr, hand, hne, hl1]))
        exact ⟨l, by omega, i + 1, zu (hd hs l) h', by omega, by omega, by omega, by omega, hpush, rfl, ce.set (by omega), by simp, by rw [hs2]; simp⟩
      · rw [if_neg hbit] at hand
        rw [z8f (by omega)] at hpush
        have hres : (z27 (n / k0) hs.reverse h).reverse = hs.take m ++ [h'] := by rw [<- hpush]; simp
        rw [hres]
        generalize hki2 : 2 ^ i = k at *
        have fin : ∀ Y2 r2 o, Ext Y Y2 -> Y.length <= r2 -> Y2[r2]? = some (some o) -> m + 1 <= o.length -> o.take (m + 1) = hr (hs.take m ++ [h']) -> DownV Y.length (.agg [.int .i64 ((n + k0 : Nat) : Int), .sl r2 0 (m + 1) none 32]) Y2 (.agg [.int .i64 ((n + k0 : Nat) : Int), .vsl 32 (hr (hs.take m ++ [h'])) false]) Y := fun Y2 r2 o e hr2 hg ho1 ho2 => by
          obtain ⟨news, rfl⟩ := e
          have hl3 : (hr (hs.take m ++ [h'])).length = m + 1 := by simp [z6]; omega
          have := FrzD.sl (G := Y) (news := news) (r := r2) (off := 0) (lim := none) (esz := 32) (o := o) (es := hr (hs.take m ++ [h'])) hr2 hg (by omega) (by rw [hl3, List.drop_zero]; exact ho2) (z2q _)
          rw [hl3] at this
          exact DownV.all hw (drA (drsc (FrzD.same (by simp [RL])) (drs1 this)))
        by_cases hfull : m < hs.length
        · repeat' (first|refine zW.zs ?_|refine zW.zb ?_|refine zW.zc ?_|refine zW.zt rfl ?_|refine zW.zf rfl ?_|(refine zW.zd rfl (fun ht => ?_) (fun ht => ?_)<;>try (exfalso;omega))|((first|refine zW.zr ?_|refine zW.zk ?_|refine zW.ze ?_|refine zW.zq ?_|((first|apply zg0|apply zg1|apply zg2|apply zg3|apply zg4|apply zg5|apply zg6|apply zg7)<;>intro ht));all_goals try simp (disch:=first|omega|(simp only [lens];first|done|omega)) only [go_sem,reduceEqDiff,Nat.reduceBEq,reduceAdd,reduceMul,reduceSub,reduceLeDiff,reduceToNat,reducePow, q1, q3, q5, q6, q7, q8, c0, c1, c2, cr, hand, hadd]))
          refine fin _ r _ ((ce.set (by omega)).set (by omega)) (by omega) (by rw [z1g (by omega), z2o dr]) (by simp [z6]; omega) ?_
          rw [show hr (hs.take m) ++ hc h' :: hr (hs.drop (m + 1)) = hr ((hs.take m ++ [h']) ++ hs.drop (m + 1)) by simp [hr], zfr, List.take_left' (by simp; omega)]
        · have hm' : hs.take m = hs := List.take_of_length_le (by omega)
          rw [hm'] at fin
          repeat' (first|refine zW.zs ?_|refine zW.zb ?_|refine zW.zc ?_|refine zW.zt rfl ?_|refine zW.zf rfl ?_|(refine zW.zd rfl (fun ht => ?_) (fun ht => ?_)<;>try (exfalso;omega))|((first|refine zW.zr ?_|refine zW.zk ?_|refine zW.ze ?_|refine zW.zq ?_|((first|apply zg0|apply zg1|apply zg2|apply zg3|apply zg4|apply zg5|apply zg6|apply zg7)<;>intro ht));all_goals try simp (disch:=first|omega|(simp only [lens];first|done|omega)) only [go_sem,reduceEqDiff,Nat.reduceBEq,reduceAdd,reduceMul,reduceSub,reduceLeDiff,reduceToNat,reducePow, q1, q3, q5, q6, q7, q8, c0, c1, c2, cr, hand, hadd]))
          refine fin _ _ _ ((ce.set (by omega)).set (by omega)).app (by omega) (by rw [z1l (by simp), List.length_set, List.length_set, Nat.sub_self]; rfl) (by simp [z6]; omega) ?_
          rw [show hr hs ++ [hc h'] = hr (hs ++ [h']) by simp [hr], zfr, List.take_of_length_le (by simp; omega)]
end Am
end Go.Proofs.YtjgljhbmljgaeaaDoor
end
section
/- Ranges: contracts: Extend, Append, Of. -/
namespace Go.Proofs.YtjgljhbmljgaeaaDoor
namespace Am
/-- Nil if it was nil. -/
def knil (es : List (List AV)) : AV -> AV
  | .nilsl => .nilsl
  | _ => .vsl 32 es false
theorem zby {es : List (List AV)} {x : AV} (h : x ≠ .nilsl) : knil es x = .vsl 32 es false := by
  cases x <;> first | rfl | exact absurd rfl h
theorem zfz {Y : Store} {l : List Hash} {x : AV} (h : RdSl Y 32 (hr l) x) : SlV 32 (hr l) (knil (hr l) x) := by
  rcases h with (⟨rfl, h⟩ | ⟨ex, rfl⟩) | ⟨r, off, lim, o, rfl, _⟩
  · exact .inl ⟨rfl, h⟩
  · exact .inr ⟨false, rfl⟩
  · exact .inr ⟨false, rfl⟩
theorem zq2 {k : Nat} (l : List Hash) (x : AV) : RL k (knil (hr l) x) := by
  by_cases h : x = .nilsl
  · subst h; simp [knil, RL]
  · rw [zby h]; simp only [RL]; exact z2q _
theorem zis (Y : Store) (l : List Hash) (x : AV) (hx : RdSl Y 32 (hr l) x) (hl : l.length < 1000000) :
    ACallsTo TC 55 [x] Y (knil (hr l) x) Y := by
  refine ACallsP.toDown (zdx Y l x hx hl) fun hw v Y' h => ?_
  obtain ⟨h, hn⟩ := h
  obtain ⟨y, rfl⟩ := h.ext
  refine DownV.all hw ?_
  by_cases h0 : x = .nilsl
  · rw [hn.1 h0, h0]; simp [knil, DR]
  · have hv : v ≠ .nilsl := fun e => h0 (hn.2 e)
    rw [zby h0]
    rcases h with h | ⟨h1, rfl, _⟩
    · have h2 := h.frz (z2q l)
      unfold z10 at h2
      split at h2
      · simp only [DR] at h2; exact absurd h2 hv
      · exact h2
    · rw [h1]
      simp only [DR]
      exact .inl ⟨_, _, rfl, by simp, by simp [DRss]⟩
theorem Ext.pure {Y Y' : Store} {v : AV} (hw : Wf Y.length Y) (h : Ext Y Y') (hv : RL Y.length v) : DownV Y.length v Y' v Y := by
  obtain ⟨n, rfl⟩ := h
  exact DownV.pure hw hv
/-- The hashes of a range that was gone on with: nil if it was nil, and nothing came. -/
def zv (x : AV) (first : Bool) (l : List Hash) : AV := if first then knil (hr l) x else .vsl 32 (hr l) false
theorem zil {Y : Store} {x : AV} {first : Bool} {l : List Hash} (h : first = true -> RdSl Y 32 (hr l) x) : SlV 32 (hr l) (zv x first l) := by
  unfold zv
  cases first with
  | true => exact zfz (h rfl)
  | false => exact .inr ⟨false, rfl⟩
theorem rl_zv {k : Nat} (x : AV) (first : Bool) (l : List Hash) : RL k (zv x first l) := by
  unfold zv
  cases first with
  | true => exact zq2 _ _
  | false => simp only [Bool.false_eq_true, if_false, RL]; exact z2q _
theorem zik (x : AV) (first : Bool) (l : List Hash) : cellsOf (zv x first l) = some [zv x first l] := by
  unfold zv
  cases first with
  | true =>
    by_cases h : x = .nilsl
    · subst h; rfl
    · simp only [if_true]; rw [zby h]; rfl
  | false => rfl
def rg (n : Int) (z : AV) (e : Int) : AV := .tup [.agg [.int .i64 n, z], .int .i64 e]
theorem zaf {k : Nat} {n e : Int} {z : AV} (h : RL k z) : RL k (rg n z e) := by simp only [rg, RL, RLs]; exact ⟨⟨trivial, h, trivial⟩, trivial, trivial⟩
/-- What Extend answers. -/
def extA (n : Int) (hs l : List Hash) (x : AV) : AV :=
  if z3k n hs.length = false then rg 0 .nilsl 2
  else if 4096 - n < l.length then rg 0 .nilsl 60
  else rg (n + l.length) (zv x l.isEmpty (extR n.toNat hs.reverse l).reverse) 0
theorem pc13 {n : Nat} (h : n <= 4096) : pc 64 n = pc 13 n := zgy 13 n (by omega) 51
theorem zpu (Y : Store) (n : Nat) (x : AV) (hs : List Hash) (h : Hash) (hx : RdSl Y 32 (hr hs) x) (hn : n + 1 <= 4096) (hl : hs.length = pc 13 n) :
    ACallsTo TC 81 [.agg [.int .i64 n, x], .int .i64 1, .agg (hc h)] Y (.agg [.int .i64 ((n + 1 : Nat) : Int), .vsl 32 (hr (z27 n hs.reverse h).reverse) false]) Y := by
  have := zpv Y n 0 x hs h hx ⟨n, by simp⟩ hn hl
  simpa using this
attribute [local irreducible] ACallsTo ACallsP
set_option maxHeartbeats 8000000 in
theorem zit (Y : Store) (n : Int) (hs l : List Hash) (x y : AV) (hx : RdSl Y 32 (hr hs) x) (hy : SlV 32 (hr l) y) (hn : -9223372036854775808 <= n /\ n <= 9223372036854775807) (hhl : hs.length < 1000000) (hl : l.length < 1000000) :
    ACallsTo TC 63 [.agg [.int .i64 n, x], y] Y (extA n hs l x) Y := by
  have r1 := hy.len
  rw [z6] at r1
  unfold z1j at r1
  have hV := fun y => zh7 (Y ++ y) n hs x hx.app
  unfold extA
  by_cases hv : z3k n hs.length = true
  · rw [if_neg (by simp [hv])]
    rw [hv] at hV
    have hv' := of_decide_eq_true hv
    obtain ⟨n, rfl⟩ : ∃ k : Nat, n = k := ⟨n.toNat, by omega⟩
    rw [Int.toNat_natCast] at hv' ⊢
    have hhs : hs.length = pc 13 n := by rw [hv'.2.2, pc13 (by omega)]
    by_cases hf : 4096 - (n : Int) < l.length
    · rw [if_pos hf]
      refine ACallsTo.of_body qiok (by simp) fun hw _ => ?_
      repeat' (first|refine zW.zs ?_|refine zW.zb ?_|refine zW.zc ?_|refine zW.zt rfl ?_|refine zW.zf rfl ?_|(refine zW.zd rfl (fun ht => ?_) (fun ht => ?_)<;>try (exfalso;omega))|((first|refine zW.zr ?_|refine zW.zk ?_|refine zW.ze ?_|refine zW.zq ?_|(apply callW.mk_pu; (first | exact (fun _ => hV _))) | (apply callW.za; (first | exact (hV _))) | ((first|apply zg0|apply zg1|apply zg2|apply zg3|apply zg4|apply zg5|apply zg6|apply zg7)<;>intro ht));all_goals try simp (disch:=first|omega|(simp only [lens];first|done|omega)) only [go_sem,reduceEqDiff,Nat.reduceBEq,reduceAdd,reduceMul,reduceSub,reduceLeDiff,reduceToNat,reducePow, r1]))
      exact DownV.pure hw (zaf (by simp [RL]))
    · rw [if_neg hf]
      refine ACallsTo.of_body qiok (by simp) fun hw _ => ?_
      have hCl := fun y => zis (Y ++ y) hs x hx.app (by omega)
      have hk := zfz hx
      have e0 : knil (hr hs) x = zv x true (extR n hs.reverse (l.take 0)).reverse := by simp [zv, extR]
      rw [e0] at hCl
      have z0 := zik x true (extR n hs.reverse (l.take 0)).reverse
      generalize hzz : zv x true (extR n hs.reverse (l.take 0)).reverse = z at *
      unfold cellsOf at z0
      repeat' (first|refine zW.zs ?_|refine zW.zb ?_|refine zW.zc ?_|refine zW.zt rfl ?_|refine zW.zf rfl ?_|(refine zW.zd rfl (fun ht => ?_) (fun ht => ?_)<;>try (exfalso;omega))|((first|refine zW.zr ?_|refine zW.zk ?_|refine zW.ze ?_|refine zW.zq ?_|(apply callW.mk_pu; (first | exact (fun _ => hV _) | exact (fun _ => hCl _))) | (apply callW.za; (first | exact (hV _) | exact (hCl _))) | ((first|apply zg0|apply zg1|apply zg2|apply zg3|apply zg4|apply zg5|apply zg6|apply zg7)<;>intro ht));all_goals try simp (disch:=first|omega|(simp only [lens];first|done|omega)) only [go_sem,reduceEqDiff,Nat.reduceBEq,reduceAdd,reduceMul,reduceSub,reduceLeDiff,reduceToNat,reducePow, r1, z0]))
      refine zW.loop (fun m O Y' => ∃ i : Nat, m + i = l.length /\ Ext Y Y' /\ Y'[Y.length]? = some (some [[.int .i64 ((n + i : Nat) : Int), zv x (decide (i = 0)) (extR n hs.reverse (l.take i)).reverse]]) /\ Y'[Y.length + 1]? = some (some [[.int .i64 0, .nilsl]]) ∧
        O 2 = .ptr Y.length 0 0 /\ O 4 = .ptr (Y.length + 1) 0 0 /\ O 5 = .int .i64 0 /\ O 25 = y /\ O 26 = .int .i64 l.length /\ O 27 = .int .i64 i) l.length ?_ ?_
      · refine ⟨0, by omega, ?_, ?_, ?_, by simp (disch:=first|omega|(simp only [lens];first|done|omega)) only [go_sem,reduceEqDiff,Nat.reduceBEq,reduceAdd,reduceMul,reduceSub,reduceLeDiff,reduceToNat,reducePow], by simp (disch:=first|omega|(simp only [lens];first|done|omega)) only [go_sem,reduceEqDiff,Nat.reduceBEq,reduceAdd,reduceMul,reduceSub,reduceLeDiff,reduceToNat,reducePow], by simp (disch:=first|omega|(simp only [lens];first|done|omega)) only [go_sem,reduceEqDiff,Nat.reduceBEq,reduceAdd,reduceMul,reduceSub,reduceLeDiff,reduceToNat,reducePow], by simp (disch:=first|omega|(simp only [lens];first|done|omega)) only [go_sem,reduceEqDiff,Nat.reduceBEq,reduceAdd,reduceMul,reduceSub,reduceLeDiff,reduceToNat,reducePow], by simp (disch:=first|omega|(simp only [lens];first|done|omega)) only [go_sem,reduceEqDiff,Nat.reduceBEq,reduceAdd,reduceMul,reduceSub,reduceLeDiff,reduceToNat,reducePow, r1], by simp (disch:=first|omega|(simp only [lens];first|done|omega)) only [go_sem,reduceEqDiff,Nat.reduceBEq,reduceAdd,reduceMul,reduceSub,reduceLeDiff,reduceToNat,reducePow]; rfl⟩
        · first | exact (Ext.refl Y).app | exact ⟨_, rfl⟩
        · rw [<- hzz]; simp
        · simp
      · rintro m O Y' ⟨i, hm, he, c0, c1, q2, q4, q5, q25, q26, q27⟩
        have d0 := slen c0
        have d1 := slen c1
        by_cases hi : i < l.length
        · obtain ⟨ex, rfl⟩ := hy.vsl (by rw [z6]; omega)
          have hz : SlV 32 (hr (extR n hs.reverse (l.take i)).reverse) (zv x (decide (i = 0)) (extR n hs.reverse (l.take i)).reverse) := zil fun h => by
            have : i = 0 := of_decide_eq_true h
            subst this
            simpa [extR] using hx
          have hlen : (extR n hs.reverse (l.take i)).reverse.length = pc 13 (n + i) := by
            rw [List.length_reverse, z9w 13 n hs.reverse (l.take i) (by rw [List.length_take]; omega) (by rw [List.length_reverse]; exact hhs), List.length_take, Nat.min_eq_left (by omega)]
          have hP := fun Y => zpu Y (n + i) _ _ (hd l i) (.of hz) (by omega) hlen
          have hnext : z27 (n + i) (extR n hs.reverse (l.take i)) (hd l i) = extR n hs.reverse (l.take (i + 1)) := by
            rw [z74 hi, z80, List.length_take, Nat.min_eq_left (by omega)]; rfl
          simp only [List.reverse_reverse, hnext] at hP
          clear hz hlen hnext
          generalize zv x (decide (i = 0)) (extR n hs.reverse (l.take i)).reverse = z at *
          repeat' (first|refine zW.zs ?_|refine zW.zb ?_|refine zW.zc ?_|refine zW.zt rfl ?_|refine zW.zf rfl ?_|(refine zW.zd rfl (fun ht => ?_) (fun ht => ?_)<;>try (exfalso;omega))|((first|refine zW.zr ?_|refine zW.zk ?_|refine zW.ze ?_|refine zW.zq ?_|(apply callW.mk_pu; (first | exact (fun _ => hP _))) | (apply callW.za; (first | exact (hP _))) | ((first|apply zg0|apply zg1|apply zg2|apply zg3|apply zg4|apply zg5|apply zg6|apply zg7)<;>intro ht));all_goals try simp (disch:=first|omega|(simp only [lens];first|done|omega)) only [go_sem,reduceEqDiff,Nat.reduceBEq,reduceAdd,reduceMul,reduceSub,reduceLeDiff,reduceToNat,reducePow, q2, q4, q5, q25, q26, q27, c0, c1]))
          refine ⟨l.length - (i + 1), by omega, i + 1, by omega, ?_, ?_, ?_⟩
          · first | exact (he.app.set (by omega)) | exact (he.set (by omega)).app
          · simp [zv]; omega
          · simp
        · have hil : i = l.length := by omega
          subst hil
          rw [List.take_of_length_le (Nat.le_refl _)] at c0
          have e1 : decide (l.length = 0) = l.isEmpty := by cases l <;> simp
          rw [e1] at c0
          have hz := rl_zv (k := Y.length) x l.isEmpty (extR n hs.reverse l).reverse
          have hcast : (n : Int) + l.length = ((n + l.length : Nat) : Int) := by omega
          rw [hcast]
          generalize zv x l.isEmpty (extR n hs.reverse l).reverse = z at *
          repeat' (first|refine zW.zs ?_|refine zW.zb ?_|refine zW.zc ?_|refine zW.zt rfl ?_|refine zW.zf rfl ?_|(refine zW.zd rfl (fun ht => ?_) (fun ht => ?_)<;>try (exfalso;omega))|((first|refine zW.zr ?_|refine zW.zk ?_|refine zW.ze ?_|refine zW.zq ?_|((first|apply zg0|apply zg1|apply zg2|apply zg3|apply zg4|apply zg5|apply zg6|apply zg7)<;>intro ht));all_goals try simp (disch:=first|omega|(simp only [lens];first|done|omega)) only [go_sem,reduceEqDiff,Nat.reduceBEq,reduceAdd,reduceMul,reduceSub,reduceLeDiff,reduceToNat,reducePow, q2, q4, q5, q25, q26, q27, c0, c1]))
          exact Ext.pure hw (he.set (by omega)) (zaf hz)
  · have hv0 : z3k n hs.length = false := by simpa using hv
    rw [if_pos hv0]
    rw [hv0] at hV
    refine ACallsTo.of_body qiok (by simp) fun hw _ => ?_
    repeat' (first|refine zW.zs ?_|refine zW.zb ?_|refine zW.zc ?_|refine zW.zt rfl ?_|refine zW.zf rfl ?_|(refine zW.zd rfl (fun ht => ?_) (fun ht => ?_)<;>try (exfalso;omega))|((first|refine zW.zr ?_|refine zW.zk ?_|refine zW.ze ?_|refine zW.zq ?_|(apply callW.mk_pu; (first | exact (fun _ => hV _))) | (apply callW.za; (first | exact (hV _))) | ((first|apply zg0|apply zg1|apply zg2|apply zg3|apply zg4|apply zg5|apply zg6|apply zg7)<;>intro ht));all_goals try simp (disch:=first|omega|(simp only [lens];first|done|omega)) only [go_sem,reduceEqDiff,Nat.reduceBEq,reduceAdd,reduceMul,reduceSub,reduceLeDiff,reduceToNat,reducePow, r1]))
    exact DownV.pure hw (zaf (by simp [RL]))
end Am
end Go.Proofs.YtjgljhbmljgaeaaDoor
end
section
/- Rows: numbers, trees. (The laws are printed by wip/rows.py.) -/
namespace Go.Proofs.YtjgljhbmljgaeaaDoor
namespace Am
def zca : Nat -> List AV := fun n => [.int .i64 n]
def nums (l : List (Nat)) : List (List AV) := l.map zca
@[go_sem] theorem znf (l : List (Nat)) : (nums l).length = l.length := by simp [nums]
@[go_sem] theorem nums_take (l : List (Nat)) (n : Nat) : (nums l).take n = nums (l.take n) := by simp [nums, List.map_take]
@[go_sem] theorem nums_drop (l : List (Nat)) (n : Nat) : (nums l).drop n = nums (l.drop n) := by simp [nums, List.map_drop]
@[go_sem] theorem nums_set (l : List (Nat)) (i : Nat) (x : Nat) : (nums l).set i (zca x) = nums (l.set i x) := by simp [nums, List.map_set]
def numsD (l : List (Nat)) (i : Nat) : Nat := l.getD i 0
@[go_sem] theorem nums_get {l : List (Nat)} {i : Nat} (h : i < l.length) : (nums l)[i]? = some (zca (numsD l i)) := by
  simp [nums, numsD, List.getElem?_map, List.getElem?_eq_getElem h]
def trsR : Nat × Hash -> List AV := fun t => .int .i64 t.1 :: hc t.2
def trs (l : List (Nat × Hash)) : List (List AV) := l.map trsR
@[go_sem] theorem zs2 (l : List (Nat × Hash)) : (trs l).length = l.length := by simp [trs]
@[go_sem] theorem trs_take (l : List (Nat × Hash)) (n : Nat) : (trs l).take n = trs (l.take n) := by simp [trs, List.map_take]
@[go_sem] theorem trs_drop (l : List (Nat × Hash)) (n : Nat) : (trs l).drop n = trs (l.drop n) := by simp [trs, List.map_drop]
@[go_sem] theorem trs_set (l : List (Nat × Hash)) (i : Nat) (x : Nat × Hash) : (trs l).set i (trsR x) = trs (l.set i x) := by simp [trs, List.map_set]
def trsD (l : List (Nat × Hash)) (i : Nat) : Nat × Hash := l.getD i (0, zeroH)
@[go_sem] theorem trs_get {l : List (Nat × Hash)} {i : Nat} (h : i < l.length) : (trs l)[i]? = some (trsR (trsD l i)) := by
  simp [trs, trsD, List.getElem?_map, List.getElem?_eq_getElem h]
/-- All that is new is let go; what is read of a slice stays. -/
theorem RdSl.frz {sz : Nat} {G news : Store} {v : AV} {es : List (List AV)} (h : RdSl (G ++ news) sz es v) (hn : ∀ r off len lim e, v = .sl r off len lim e -> G.length <= r) (hr : RLss G.length es) : ∃ v2, SlV sz es v2 /\ DR (FrzD G news) v2 v := by
  rcases h with (⟨rfl, rfl⟩ | ⟨ex, rfl⟩) | ⟨r, off, lim, o, rfl, hg, h1, h2⟩
  · exact ⟨.nilsl, .inl ⟨rfl, rfl⟩, by simp [DR]⟩
  · exact ⟨.vsl sz es ex, .inr ⟨ex, rfl⟩, FrzD.same (by simpa only [RL] using hr)⟩
  · exact ⟨.vsl sz es false, .inr ⟨false, rfl⟩, FrzD.sl (hn _ _ _ _ _ rfl) hg h1 h2 hr⟩
theorem Ext.all {Y Y' : Store} {v v2 : AV} (hw : Wf Y.length Y) (he : Ext Y Y') (h : ∀ news, Y' = Y ++ news -> DR (FrzD Y news) v2 v) : DownV Y.length v Y' v2 Y := by
  obtain ⟨news, rfl⟩ := he
  exact DownV.all hw (h news rfl)
/-- Own elements in memory, from the k-th object on. -/
def OwnR (sz k : Nat) (Y' : Store) (v : AV) (es : List (List AV)) : Prop := (es = [] /\ v = .nilsl) \/ ∃ r, k <= r /\ es ≠ [] /\ v = .sl r 0 es.length none sz /\ Y'[r]? = some (some es)
theorem OwnR.nil {sz k : Nat} {Y' : Store} : OwnR sz k Y' .nilsl [] := .inl ⟨rfl, rfl⟩
theorem OwnR.cells {sz k : Nat} {Y' : Store} {v : AV} {es : List (List AV)} (h : OwnR sz k Y' v es) : cellsOf v = some [v] := by
  rcases h with ⟨_, rfl⟩ | ⟨r, _, _, rfl, _⟩ <;> rfl
theorem OwnR.rd {sz k : Nat} {Y' : Store} {v : AV} {es : List (List AV)} (h : OwnR sz k Y' v es) : RdSl Y' sz es v := by
  rcases h with ⟨h, rfl⟩ | ⟨r, _, _, rfl, hg⟩
  · exact .inl (.inl ⟨rfl, h⟩)
  · exact .inr ⟨r, 0, none, es, rfl, hg, by omega, by simp⟩
theorem OwnR.len {sz k : Nat} {Y' : Store} {v : AV} {es : List (List AV)} (h : OwnR sz k Y' v es) : z1j v = some (.int .i64 es.length) := h.rd.len
theorem OwnR.set {sz k q : Nat} {Y' : Store} {v : AV} {es : List (List AV)} {x : Option AObj} (h : OwnR sz k Y' v es) (hq : q < k) : OwnR sz k (Y'.set q x) v es := by
  rcases h with h | ⟨r, h1, h2, h3, h4⟩
  · exact .inl h
  · exact .inr ⟨r, h1, h2, h3, by rw [z1g (by omega)]; exact h4⟩
theorem OwnR.more {sz k : Nat} {Y' y : Store} {v : AV} {es : List (List AV)} (h : OwnR sz k Y' v es) : OwnR sz k (Y' ++ y) v es := by
  rcases h with h | ⟨r, h1, h2, h3, h4⟩
  · exact .inl h
  · exact .inr ⟨r, h1, h2, h3, by rw [gapp (slen h4)]; exact h4⟩
theorem OwnR.app {sz k : Nat} {Y' : Store} {v : AV} {es ys : List (List AV)} (h : OwnR sz k Y' v es) (hk : k <= Y'.length) (h0 : ys.length ≠ 0) (hl : es.length + ys.length <= 1073741824) :
    ∃ v' Y2, aApp Y' sz v ys = some (v', Y2) /\ OwnR sz k Y2 v' (es ++ ys) /\ (∀ q, q < k -> Y2[q]? = Y'[q]?) /\ (∀ Y : Store, Y.length <= k -> Ext Y Y' -> Ext Y Y2) /\ k <= Y2.length := by
  have hne : es ++ ys ≠ [] := fun e => h0 (by rw [(List.append_eq_nil_iff.1 e).2]; rfl)
  rcases h with ⟨rfl, rfl⟩ | ⟨r, h1, h2, rfl, hg⟩
  · refine ⟨.sl Y'.length 0 ys.length none sz, Y' ++ [some ys], by rw [zaz, if_neg h0, if_pos (by simpa using hl)], .inr ⟨Y'.length, hk, hne, by simp, by simp⟩, fun q hq => gapp (by omega), fun Y _ he => he.app, by simp; omega⟩
  · have hr := slen hg
    refine ⟨.sl Y'.length 0 (es.length + ys.length) none sz, Y'.set r none ++ [some (es ++ ys)], ?_, .inr ⟨Y'.length, hk, hne, by simp, by rw [z1l (by simp)]; simp⟩, fun q hq => by rw [gapp (by simp; omega), z1g (by omega)], fun Y hs he => (he.set (by omega)).app, by simp; omega⟩
    rw [z9i, if_neg h0, hg]
    simp only
    rw [if_pos ⟨trivial, by omega, by omega⟩, if_neg (by omega), List.drop_zero, List.take_of_length_le (Nat.le_refl _)]
theorem OwnR.frz {sz k : Nat} {G news : Store} {v : AV} {es : List (List AV)} (h : OwnR sz k (G ++ news) v es) (hk : G.length <= k) (hr : RLss G.length es) : DR (FrzD G news) (z10 sz es) v := by
  unfold z10
  rcases h with ⟨rfl, rfl⟩ | ⟨r, h1, h2, rfl, hg⟩
  · simp [DR]
  · rw [if_neg h2]
    exact FrzD.sl (by omega) hg (by omega) (by simp) hr
theorem OwnR.fr {sz k : Nat} {G Y' news : Store} {v : AV} {es : List (List AV)} (h : OwnR sz k Y' v es) (e : Y' = G ++ news) (hk : G.length <= k) (hr : RLss G.length es) : DR (FrzD G news) (z10 sz es) v := by
  subst e; exact h.frz hk hr
end Am
end Go.Proofs.YtjgljhbmljgaeaaDoor
end
section
/- Ranges: contracts: the reference's open, join, close. -/
namespace Go.Proofs.YtjgljhbmljgaeaaDoor
namespace Am
attribute [local irreducible] ACallsTo ACallsP
theorem zcj : ∀ (f n : Nat), pc f n <= f
  | 0, _ => Nat.le_refl _
  | f + 1, n => by simp only [pc]; have := zcj f (n / 2); omega
theorem OwnN.base {sz : Nat} {G y Y' : Store} {v : AV} {es : List (List AV)} (h : OwnN sz (G ++ y) Y' v es) : OwnN sz G Y' v es := by
  obtain ⟨news, rfl, h⟩ := h
  refine ⟨y ++ news, by rw [List.append_assoc], ?_⟩
  rcases h with h | ⟨j, h0, rfl, hj⟩
  · exact .inl h
  · exact .inr ⟨y.length + j, h0, by rw [List.length_append]; congr 1; omega, by rw [List.getElem?_append_right (by omega), Nat.add_sub_cancel_left]; exact hj⟩
end Am
end Go.Proofs.YtjgljhbmljgaeaaDoor
end
section
/- Ranges: contracts: the reference's Extend. -/
namespace Go.Proofs.YtjgljhbmljgaeaaDoor
namespace Am
attribute [local irreducible] ACallsTo ACallsP
theorem zq3 {k sz : Nat} {es : List (List AV)} (h : RLss k es) : RL k (z10 sz es) := by
  unfold z10
  split
  · simp [RL]
  · simpa only [RL] using h
theorem RdSl.rel {Y : Store} {sz : Nat} {es : List (List AV)} {x : AV} (h : RdSl Y sz es x) : z3i Y sz x = some es := by
  rcases h with (⟨rfl, rfl⟩ | ⟨ex, rfl⟩) | ⟨r, off, lim, o, rfl, hg, h1, h2⟩
  · rfl
  · simp [z3i]
  · simp [z3i, zan, hg, h1, h2]
end Am
end Go.Proofs.YtjgljhbmljgaeaaDoor
end
section
/- Ranges: contracts: Of, Append, Same, the parts, Part. -/
namespace Go.Proofs.YtjgljhbmljgaeaaDoor
namespace Am
attribute [local irreducible] ACallsTo ACallsP
theorem zkt (n : Int) (hs l : List Hash) (x : AV) : ∃ n' z e, extA n hs l x = .tup [.agg [.int .i64 n', z], .int .i64 e] /\ (∀ k, RL k z) /\ cellsOf z = some [z] := by
  unfold extA
  split
  · exact ⟨0, .nilsl, 2, rfl, fun k => by simp [RL], rfl⟩
  · split
    · exact ⟨0, .nilsl, 60, rfl, fun k => by simp [RL], rfl⟩
    · exact ⟨_, _, 0, rfl, fun k => rl_zv _ _ _, zik _ _ _⟩
theorem zim (Y : Store) (n : Int) (hs : List Hash) (x : AV) (h : Hash) (hx : RdSl Y 32 (hr hs) x) (hn : -9223372036854775808 <= n /\ n <= 9223372036854775807) (hhl : hs.length < 1000000) :
    ACallsTo TC 42 [.agg [.int .i64 n, x], .agg (hc h)] Y (extA n hs [h] x) Y := by
  have hE := fun y => zit (Y ++ y) n hs [h] x (.vsl 32 [hc h] true) hx.app (.inr ⟨true, rfl⟩) hn hhl (by simp)
  obtain ⟨n', z, e, h', hz, hcz⟩ := zkt n hs [h] x
  rw [h'] at hE ⊢
  unfold cellsOf at hcz
  refine ACallsTo.of_body qhok (by simp) fun hw _ => ?_
  repeat' (first|refine zW.zs ?_|refine zW.zb ?_|refine zW.zc ?_|refine zW.zt rfl ?_|refine zW.zf rfl ?_|(refine zW.zd rfl (fun ht => ?_) (fun ht => ?_)<;>try (exfalso;omega))|((first|refine zW.zr ?_|refine zW.zk ?_|refine zW.ze ?_|refine zW.zq ?_|(apply callW.mk_pu; (first | exact (fun _ => hE _))) | (apply callW.za; (first | exact (hE _))) | ((first|apply zg0|apply zg1|apply zg2|apply zg3|apply zg4|apply zg5|apply zg6|apply zg7)<;>intro ht));all_goals try simp (disch:=first|omega|(simp only [lens,z7,z6,zs2,znf,List.length_reverse];first|done|omega)) only [go_sem,reduceEqDiff,Nat.reduceBEq,reduceAdd,reduceMul,reduceSub,reduceLeDiff,reduceToNat,reducePow, hcz]))
  exact DownV.pure hw (zaf (hz _))
end Am
end Go.Proofs.YtjgljhbmljgaeaaDoor
end
section
/- Ranges: contracts: Part. -/
namespace Go.Proofs.YtjgljhbmljgaeaaDoor
namespace Am
attribute [local irreducible] ACallsTo ACallsP
end Am
end Go.Proofs.YtjgljhbmljgaeaaDoor
end
section
/- Ranges: contracts: the reference's Of, the program's Merge. -/
namespace Go.Proofs.YtjgljhbmljgaeaaDoor
namespace Am
attribute [local irreducible] ACallsTo ACallsP
theorem z8q {sz : Nat} {es : List (List AV)} {z : AV} (h : SlV sz es z) : cellsOf z = some [z] := by
  rcases h with ⟨rfl, _⟩ | ⟨ex, rfl⟩ <;> rfl
end Am
end Go.Proofs.YtjgljhbmljgaeaaDoor
end
section
/- Ranges: the chapter's example. -/
namespace Go.Proofs.YtjgljhbmljgaeaaDoor
namespace Am
theorem zhf (a b : Hash) : z19 [a, b] = zu a b := by
  rw [z8i (by simp)]; simp [split2, zcx]
theorem zhg (a b c d : Hash) : z19 [a, b, c, d] = zu (zu a b) (zu c d) := by
  rw [z8i (by simp)]; simp [split4, zhf]
attribute [local irreducible] ACallsTo ACallsP
end Am
end Go.Proofs.YtjgljhbmljgaeaaDoor
end
section
/- Ranges: the law RangesPart: its contract. -/
namespace Go.Proofs.YtjgljhbmljgaeaaDoor
namespace Am
attribute [local irreducible] ACallsTo ACallsP
end Am
end Go.Proofs.YtjgljhbmljgaeaaDoor
end
section
/- Ranges: the law RangesFull: its contract. -/
namespace Go.Proofs.YtjgljhbmljgaeaaDoor
namespace Am
attribute [local irreducible] ACallsTo ACallsP
end Am
end Go.Proofs.YtjgljhbmljgaeaaDoor
end
section
/- Ranges: the root of a range. -/
namespace Go.Proofs.YtjgljhbmljgaeaaDoor
namespace Am
attribute [local irreducible] ACallsTo ACallsP
theorem zin (Y : Store) (x : AV) (hx : cellsOf x = some [x]) :
    ACallsTo TC 59 [x] Y (.fn 76 [.ptr Y.length 0 0]) (Y ++ [some [[x]]]) := by
  unfold cellsOf at hx
  refine ACallsTo.of_body_keep qnok (by simp) ?_
  repeat' (first|refine zW.zs ?_|refine zW.zb ?_|refine zW.zc ?_|refine zW.zt rfl ?_|refine zW.zf rfl ?_|(refine zW.zd rfl (fun ht => ?_) (fun ht => ?_)<;>try (exfalso;omega))|((first|refine zW.zr ?_|refine zW.zk ?_|refine zW.ze ?_|refine zW.zq ?_|((first|apply zg0|apply zg1|apply zg2|apply zg3|apply zg4|apply zg5|apply zg6|apply zg7)<;>intro ht));all_goals try simp (disch:=first|omega|(simp only [lens,z7,z6,List.length_reverse];first|done|omega)) only [go_sem,reduceEqDiff,Nat.reduceBEq,reduceAdd,reduceMul,reduceSub,reduceLeDiff,reduceToNat,reducePow, hx, z43]))
def z68 (n : Int) (hs : List Hash) : AV := if z3k n hs.length = false then .tup [.agg (hc zeroH), .int .i64 2] else .tup [.agg (hc (z5q hs.reverse)), .int .i64 0]
theorem zcs {k : Nat} {h : Hash} {e : Int} : RL k (.tup [.agg (hc h), .int .i64 e]) := by simp only [RL, RLs]; exact ⟨z6w h, trivial, trivial⟩
theorem zq5 {hs : List Hash} {m : Nat} (h : hs.length = m + 1) : z5q hs.reverse = ((hs.take m).reverse.take m).foldl (fun o h => zu h o) (hd hs m) := by
  have e : hs = hs.take m ++ [hd hs m] := by rw [<- z74 (by omega), List.take_of_length_le (by omega)]
  have e2 : hs.reverse = hd hs m :: (hs.take m).reverse := by
    conv => lhs; rw [e]
    rw [List.reverse_append, List.reverse_singleton, List.singleton_append]
  have e3 : (hs.take m).reverse.take m = (hs.take m).reverse := List.take_of_length_le (by simp; omega)
  rw [e2, z5q, e3]
theorem zlf {R : List Hash} {j : Nat} (x : Hash) (h : j < R.length) : (R.reverse.take (j + 1)).foldl (fun o h => zu h o) x = zu (hd R (R.length - 1 - j)) ((R.reverse.take j).foldl (fun o h => zu h o) x) := by
  have hj : j < R.reverse.length := by rw [List.length_reverse]; exact h
  rw [List.take_add_one, List.getElem?_eq_getElem hj]
  simp only [Option.toList_some, List.foldl_append, List.foldl_cons, List.foldl_nil]
  rw [z6n (by omega), List.getElem_reverse]
theorem z8d : ∀ (f m : Nat), 0 < m -> m < 2 ^ f -> 0 < pc f m
  | 0, m, h, h1 => by simp at h1; omega
  | f + 1, m, h, h1 => by
    simp only [pc]
    by_cases h2 : m % 2 = 1
    · omega
    · have := z8d f (m / 2) (by omega) (by rw [Nat.pow_succ] at h1; omega)
      omega
set_option maxHeartbeats 16000000 in
theorem Root_v (Y : Store) (n : Int) (hs : List Hash) (x : AV) (hx : SlV 32 (hr hs) x) (hl : hs.length < 1000000) (hn : -9223372036854775808 <= n /\ n <= 9223372036854775807) :
    ACallsTo TC 38 [.agg [.int .i64 n, x]] Y (z68 n hs) Y := by
  have xc := z8q hx
  unfold cellsOf at xc
  have r1 := hx.len
  rw [z6] at r1
  unfold z1j at r1
  have hV := fun Y => zh7 Y n hs x (.of hx)
  have hT := fun Y => z8u Y [] .nilsl (.of (.inl ⟨rfl, rfl⟩)) (by decide)
  refine ACallsTo.of_bodyD qkok (by simp) fun hw _ => ?_
  unfold z68
  refine SWpD.seqS ?_
  repeat' (first|refine zW.zs ?_|refine zW.zb ?_|refine zW.zc ?_|refine zW.zt rfl ?_|refine zW.zf rfl ?_|(refine zW.zd rfl (fun ht => ?_) (fun ht => ?_)<;>try (exfalso;omega))|((first|refine zW.zr ?_|refine zW.zk ?_|refine zW.ze ?_|refine zW.zq ?_|((first|apply zg0|apply zg1|apply zg2|apply zg3|apply zg4|apply zg5|apply zg6|apply zg7)<;>intro ht));all_goals try simp (disch:=first|omega|(simp only [lens,z7,z6,List.length_reverse];first|done|omega)) only [go_sem,reduceEqDiff,Nat.reduceBEq,reduceAdd,reduceMul,reduceSub,reduceLeDiff,reduceToNat,reducePow, xc]))
  refine SWpD.seqS ?_
  cases hv : z3k n hs.length with
  | false =>
    rw [hv] at hV
    rw [if_pos rfl]
    repeat' (first|refine zW.zs ?_|refine zW.zb ?_|refine zW.zc ?_|refine zW.zt rfl ?_|refine zW.zf rfl ?_|(refine zW.zd rfl (fun ht => ?_) (fun ht => ?_)<;>try (exfalso;omega))|((first|refine zW.zr ?_|refine zW.zk ?_|refine zW.ze ?_|refine zW.zq ?_|(apply callW.mk_pu; (first | exact (fun _ => hV _))) | (apply callW.za; (first | exact (hV _))) | ((first|apply zg0|apply zg1|apply zg2|apply zg3|apply zg4|apply zg5|apply zg6|apply zg7)<;>intro ht));all_goals try simp (disch:=first|omega|(simp only [lens,z7,z6,List.length_reverse];first|done|omega)) only [go_sem,reduceEqDiff,Nat.reduceBEq,reduceAdd,reduceMul,reduceSub,reduceLeDiff,reduceToNat,reducePow, xc]))
    exact DownV.pure hw (zcs (h := zeroH))
  | true =>
    rw [hv] at hV
    rw [if_neg (by simp)]
    by_cases hn0 : n = 0
    · subst hn0
      have h0 : hs = [] := by
        have := of_decide_eq_true hv
        exact List.eq_nil_of_length_eq_zero this.2.2
      subst h0
      repeat' (first|refine zW.zs ?_|refine zW.zb ?_|refine zW.zc ?_|refine zW.zt rfl ?_|refine zW.zf rfl ?_|(refine zW.zd rfl (fun ht => ?_) (fun ht => ?_)<;>try (exfalso;omega))|((first|refine zW.zr ?_|refine zW.zk ?_|refine zW.ze ?_|refine zW.zq ?_|(apply callW.mk_pu; (first | exact (fun _ => hV _) | exact (fun _ => hT _))) | (apply callW.za; (first | exact (hV _) | exact (hT _))) | ((first|apply zg0|apply zg1|apply zg2|apply zg3|apply zg4|apply zg5|apply zg6|apply zg7)<;>intro ht));all_goals try simp (disch:=first|omega|(simp only [lens,z7,z6,List.length_reverse];first|done|omega)) only [go_sem,reduceEqDiff,Nat.reduceBEq,reduceAdd,reduceMul,reduceSub,reduceLeDiff,reduceToNat,reducePow, xc]))
      exact DownV.pure hw zcs
    · obtain ⟨_, hn2, hpc⟩ := of_decide_eq_true hv
      have hlen : ∃ m, hs.length = m + 1 := by
        rcases Nat.eq_zero_or_pos hs.length with h | h
        · exfalso
          have := z8d 64 n.toNat (by omega) (by omega)
          omega
        · exact ⟨hs.length - 1, by omega⟩
      obtain ⟨m, hm⟩ := hlen
      obtain ⟨ex, rfl⟩ := hx.vsl (by rw [z6]; omega)
      have hm1 : ((hs.length : Nat) : Int) - 1 = (m : Int) := by omega
      have hmm : ((m : Nat) : Int).toNat = m := rfl
      have hB := fun Y t => zin Y (.vsl 32 (hr (hs.take m)) t) rfl
      have hlt : (hs.take m).length = m := by rw [List.length_take]; omega
      have hR := zq5 hm
      repeat' (first|refine zW.zs ?_|refine zW.zb ?_|refine zW.zc ?_|refine zW.zt rfl ?_|refine zW.zf rfl ?_|(refine zW.zd rfl (fun ht => ?_) (fun ht => ?_)<;>try (exfalso;omega))|((first|refine zW.zr ?_|refine zW.zk ?_|refine zW.ze ?_|refine zW.zq ?_|(apply callW.mk_pu; (first | exact (fun _ => hV _))) | (apply callW.za; (first | exact (hV _))) | ((first|apply zg0|apply zg1|apply zg2|apply zg3|apply zg4|apply zg5|apply zg6|apply zg7)<;>intro ht));all_goals try simp (disch:=first|omega|(simp only [lens,z7,z6,List.length_reverse];first|done|omega)) only [go_sem,reduceEqDiff,Nat.reduceBEq,reduceAdd,reduceMul,reduceSub,reduceLeDiff,reduceToNat,reducePow, xc, hn0]))
      refine SWpD.seqS ?_
      repeat' (first|refine zW.zs ?_|refine zW.zb ?_|refine zW.zc ?_|refine zW.zt rfl ?_|refine zW.zf rfl ?_|(refine zW.zd rfl (fun ht => ?_) (fun ht => ?_)<;>try (exfalso;omega))|((first|refine zW.zr ?_|refine zW.zk ?_|refine zW.ze ?_|refine zW.zq ?_|((first|apply zg0|apply zg1|apply zg2|apply zg3|apply zg4|apply zg5|apply zg6|apply zg7)<;>intro ht));all_goals try simp (disch:=first|omega|(simp only [lens,z7,z6,List.length_reverse];first|done|omega)) only [go_sem,reduceEqDiff,Nat.reduceBEq,reduceAdd,reduceMul,reduceSub,reduceLeDiff,reduceToNat,reducePow, xc, r1, hm1]))
      refine SWpD.seqS ?_
      repeat' (first|refine zW.zs ?_|refine zW.zb ?_|refine zW.zc ?_|refine zW.zt rfl ?_|refine zW.zf rfl ?_|(refine zW.zd rfl (fun ht => ?_) (fun ht => ?_)<;>try (exfalso;omega))|((first|refine zW.zr ?_|refine zW.zk ?_|refine zW.ze ?_|refine zW.zq ?_|((first|apply zg0|apply zg1|apply zg2|apply zg3|apply zg4|apply zg5|apply zg6|apply zg7)<;>intro ht));all_goals try simp (disch:=first|omega|(simp only [lens,z7,z6,List.length_reverse];first|done|omega)) only [go_sem,reduceEqDiff,Nat.reduceBEq,reduceAdd,reduceMul,reduceSub,reduceLeDiff,reduceToNat,reducePow, xc, r1, hm1, hmm]))
      refine SWpD.seqR ?_
      refine SWpD.seqS ?_
      repeat' (first|refine zW.zs ?_|refine zW.zb ?_|refine zW.zc ?_|refine zW.zt rfl ?_|refine zW.zf rfl ?_|(refine zW.zd rfl (fun ht => ?_) (fun ht => ?_)<;>try (exfalso;omega))|((first|refine zW.zr ?_|refine zW.zk ?_|refine zW.ze ?_|refine zW.zq ?_|(apply callW.mk_pu; (first | exact (fun _ => hB _ _))) | (apply callW.za; (first | exact (hB _ _))) | ((first|apply zg0|apply zg1|apply zg2|apply zg3|apply zg4|apply zg5|apply zg6|apply zg7)<;>intro ht));all_goals try simp (disch:=first|omega|(simp only [lens,z7,z6,List.length_reverse];first|done|omega)) only [go_sem,reduceEqDiff,Nat.reduceBEq,reduceAdd,reduceMul,reduceSub,reduceLeDiff,reduceToNat,reducePow, xc, r1, hm1, hmm]))
      refine SWpD.block ?_
      refine zpy (rB := Y.length + 3) (es := hr (hs.take m)) (by simp (disch:=first|omega|(simp only [lens,z7,z6,List.length_reverse];first|done|omega)) only [go_sem,reduceEqDiff,Nat.reduceBEq,reduceAdd,reduceMul,reduceSub,reduceLeDiff,reduceToNat,reducePow] <;> rfl) (by rw [z6]; omega) (by decide) (by decide) (fun e he => by
          simp only [hr, List.mem_map] at he
          obtain ⟨h, _, rfl⟩ := he
          exact z7 h)
        (fun j Y' => Y'[Y.length + 1]? = some (some [hc zeroH]) /\ Y'[Y.length + 2]? = some (some [hc (((hs.take m).reverse.take j).foldl (fun o h => zu h o) (hd hs m))]) /\ (∃ ex, Y'[Y.length + 3]? = some (some [[.vsl 32 (hr (hs.take m)) ex]])) /\ ∃ news, Y' = Y ++ news) ?_ ?_ ?_ ?_
      · refine ⟨by simp (disch:=first|omega|(simp only [lens,z7,z6,List.length_reverse];first|done|omega)) only [go_sem,reduceEqDiff,Nat.reduceBEq,reduceAdd,reduceMul,reduceSub,reduceLeDiff,reduceToNat,reducePow] <;> rfl, by simp (disch:=first|omega|(simp only [lens,z7,z6,List.length_reverse];first|done|omega)) only [go_sem,reduceEqDiff,Nat.reduceBEq,reduceAdd,reduceMul,reduceSub,reduceLeDiff,reduceToNat,reducePow] <;> rfl, ⟨_, by simp (disch:=first|omega|(simp only [lens,z7,z6,List.length_reverse];first|done|omega)) only [go_sem,reduceEqDiff,Nat.reduceBEq,reduceAdd,reduceMul,reduceSub,reduceLeDiff,reduceToNat,reducePow] <;> rfl⟩, _, rfl⟩
      · rintro j Y' ⟨_, _, ⟨ex, h⟩, _⟩
        exact ⟨_, h, .inr ⟨ex, rfl⟩⟩
      · rintro l j Y' cs ⟨i1, i2, ⟨ex2, i3⟩, news, rfl⟩ hj hcs
        rw [z6, hlt] at hj
        have hcs2 : cs = hc (hd (hs.take m) (m - 1 - j)) := by
          rw [z6, hlt, z84 (by omega)] at hcs
          exact (Option.some.inj hcs).symm
        subst hcs2
        have hN := fun Y => z8t Y (hd (hs.take m) (m - 1 - j)) (((hs.take m).reverse.take j).foldl (fun o h => zu h o) (hd hs m))
        have hst := zlf (R := hs.take m) (j := j) (hd hs m) (by omega)
        rw [hlt] at hst
        rw [<- hst] at hN
        generalize ((hs.take m).reverse.take j).foldl (fun o h => zu h o) (hd hs m) = A at *
        generalize ((hs.take m).reverse.take (j + 1)).foldl (fun o h => zu h o) (hd hs m) = B at *
        generalize hd (hs.take m) (m - 1 - j) = H at *
        rw [getElem?_app] at i1 i2 i3
        have l1 := slen i1
        have l2 := slen i2
        have l3 := slen i3
        refine SWpI.reg rfl ?_
        simp (disch:=first|omega|(simp only [lens,z7,z6,List.length_reverse];first|done|omega)) only [go_sem,reduceEqDiff,Nat.reduceBEq,reduceAdd,reduceMul,reduceSub,reduceLeDiff,reduceToNat,reducePow]
        refine SWpI.block ?_
        refine SWpI.reg rfl ?_
        simp (disch:=first|omega|(simp only [lens,z7,z6,List.length_reverse];first|done|omega)) only [go_sem,reduceEqDiff,Nat.reduceBEq,reduceAdd,reduceMul,reduceSub,reduceLeDiff,reduceToNat,reducePow, i1, i2, i3, l1, l2, l3]
        refine callW.za (hN _) trivial ?_
        simp (disch:=first|omega|(simp only [lens,z7,z6,List.length_reverse];first|done|omega)) only [go_sem,reduceEqDiff,Nat.reduceBEq,reduceAdd,reduceMul,reduceSub,reduceLeDiff,reduceToNat,reducePow, i1, i2, i3, l1, l2, l3]
        exact ⟨⟨_, rfl⟩, _, rfl⟩
      · rintro Y' ⟨i1, i2, ⟨ex2, i3⟩, news, rfl⟩
        rw [z6, hlt] at i2
        rw [<- hR] at i2
        rw [getElem?_app] at i1 i2
        have l1 := slen i1
        have l2 := slen i2
        repeat' (first|refine zW.zs ?_|refine zW.zb ?_|refine zW.zc ?_|refine zW.zt rfl ?_|refine zW.zf rfl ?_|(refine zW.zd rfl (fun ht => ?_) (fun ht => ?_)<;>try (exfalso;omega))|((first|refine zW.zr ?_|refine zW.zk ?_|refine zW.ze ?_|refine zW.zq ?_|((first|apply zg0|apply zg1|apply zg2|apply zg3|apply zg4|apply zg5|apply zg6|apply zg7)<;>intro ht));all_goals try simp (disch:=first|omega|(simp only [lens,z7,z6,List.length_reverse];first|done|omega)) only [go_sem,reduceEqDiff,Nat.reduceBEq,reduceAdd,reduceMul,reduceSub,reduceLeDiff,reduceToNat,reducePow, i1, i2, l1, l2]))
        exact DownV.pure hw zcs
end Am
end Go.Proofs.YtjgljhbmljgaeaaDoor
end
section
/- Ranges: the law RangesSame: its contract. -/
namespace Go.Proofs.YtjgljhbmljgaeaaDoor
namespace Am
attribute [local irreducible] ACallsTo ACallsP
theorem Root_h (Y : Store) (n : Int) (hs : List Hash) (x : AV) (hx : RdSl Y 32 (hr hs) x) (hl : hs.length < 1000000) (hn : -9223372036854775808 <= n /\ n <= 9223372036854775807) :
    ACallsTo TC 38 [.agg [.int .i64 n, x]] Y (z68 n hs) Y := by
  obtain ⟨x0, h0, hd⟩ := hx.lend (z2q hs)
  have hi : ∀ i : Int, RL 0 (.int .i64 i) := fun i => by simp [RL]
  have := ACallsTo.lend glok (Root_v [] n hs x0 h0 hl hn) (drs1 (drA (drsc (rl0 (hi n) Y) (drs1 hd))))
  have e : sh Y.length (z68 n hs) = z68 n hs := by
    unfold z68
    split
    all_goals simp only [sh, shs, zal]
  rwa [e, z8o, List.append_nil] at this
theorem ext_ok {Y : Store} {n : Nat} {hs l : List Hash} {x : AV} (hx : RdSl Y 32 (hr hs) x) (hl : hs.length = pc 13 n) (h : n + l.length <= 4096) :
    ∃ z, extA n hs l x = .tup [.agg [.int .i64 ((n + l.length : Nat) : Int), z], .int .i64 0] /\ SlV 32 (hr (extR n hs.reverse l).reverse) z := by
  have hv : z3k n hs.length = true := decide_eq_true ⟨by omega, by omega, by rw [Int.toNat_natCast, pc13 (by omega)]; exact hl⟩
  refine ⟨zv x l.isEmpty (extR n hs.reverse l).reverse, ?_, zil (Y := Y) fun h => ?_⟩
  · unfold extA
    rw [hv, if_neg (by simp), if_neg (by omega), Int.toNat_natCast]; rfl
  · have : l = [] := by cases l <;> simp at h ⊢
    subst this
    simpa [extR] using hx
theorem za3 (l : List Hash) (h : l.length <= 4096) : (ofR l).length = pc 13 l.length := by
  have := z9w 13 0 [] l (by omega) (by rw [za7]; rfl)
  rwa [Nat.zero_add] at this
end Am
end Go.Proofs.YtjgljhbmljgaeaaDoor
end
section
/- Ranges: the reference's Root and Merge. -/
namespace Go.Proofs.YtjgljhbmljgaeaaDoor
namespace Am
attribute [local irreducible] ACallsTo ACallsP
end Am
end Go.Proofs.YtjgljhbmljgaeaaDoor
end
section
/- Ranges: the reference's Merge. -/
namespace Go.Proofs.YtjgljhbmljgaeaaDoor
namespace Am
attribute [local irreducible] ACallsTo ACallsP
end Am
end Go.Proofs.YtjgljhbmljgaeaaDoor
end
section
/- Ranges: the law RangesTell: its contract. -/
namespace Go.Proofs.YtjgljhbmljgaeaaDoor
namespace Am
attribute [local irreducible] ACallsTo ACallsP
end Am
end Go.Proofs.YtjgljhbmljgaeaaDoor
end
section
/- Proofs: plain laws: a proof that Proof gives is checked; one of another length is not. -/
namespace Go.Proofs.YtjgljhbmljgaeaaDoor
namespace Am
end Am
end Go.Proofs.YtjgljhbmljgaeaaDoor
end
section
/- Proofs: the law ProofsBack: its contract. -/
namespace Go.Proofs.YtjgljhbmljgaeaaDoor
namespace Am
end Am
end Go.Proofs.YtjgljhbmljgaeaaDoor
end
section
/- Proofs: plain laws: what the reference says of a proof is what the program's loop says. -/
namespace Go.Proofs.YtjgljhbmljgaeaaDoor
namespace Am
end Am
end Go.Proofs.YtjgljhbmljgaeaaDoor
end
section
/- Proofs: contract: the reference's says. -/
namespace Go.Proofs.YtjgljhbmljgaeaaDoor
namespace Am
end Am
end Go.Proofs.YtjgljhbmljgaeaaDoor
end
section
/- Proofs: contract: the reference's Check. -/
namespace Go.Proofs.YtjgljhbmljgaeaaDoor
namespace Am
def chkH (m n : Int) (o nw : Hash) (ps : List Hash) : Int := chkI m n o.1 nw.1 (hb ps)
end Am
end Go.Proofs.YtjgljhbmljgaeaaDoor
end
section
/- Proofs: the law ProofsCheck: its contract. -/
namespace Go.Proofs.YtjgljhbmljgaeaaDoor
namespace Am
attribute [local irreducible] ACallsTo ACallsP
end Am
end Go.Proofs.YtjgljhbmljgaeaaDoor
end
section
/- Abstract code. (Printed by wip/gen.) -/
set_option maxRecDepth 10000
namespace Go.Proofs.YtjgljhbmljgaeaaDoor
namespace Am



@[go_sem] def qor0 : List AIns := [
  ⟨some 2,none,.no,.alloc zZ0⟩,
  ⟨some 3,none,.no,.mv (.v (.str []))⟩,
  ⟨some 4,none,.no,.mv (.v (.bool false))⟩]
@[go_sem] def qor1 : List AIns := [
  ⟨some 7,none,.no,.mv (.t 0)⟩,
  ⟨some 8,none,.no,.call (.v (.fn 93 [])) [(.t 7), (.v (.int .u64 32))]⟩,
  ⟨some 6,none,.no,.mv (.t 8)⟩,
  ⟨some 9,none,.no,.ext 0 (.t 6)⟩,
  ⟨some 10,none,.no,.ext 1 (.t 6)⟩,
  ⟨some 11,none,.no,.ext 2 (.t 6)⟩,
  ⟨some 5,none,.no,.mv (.t 9)⟩,
  ⟨some 3,none,.no,.mv (.t 10)⟩,
  ⟨some 4,none,.no,.mv (.t 11)⟩]
@[go_sem] def qor2 : List AIns := [
  ⟨some 12,none,.no,.slice (.arr 32 1) (.t 2) none none none⟩,
  ⟨some 13,none,.no,.mv (.t 5)⟩,
  ⟨some 14,none,.no,.copy 1 (.t 12) (.t 13)⟩]
@[go_sem] def qor3 : List AIns := [
  ⟨some 15,none,.no,.load true 32 (.t 2)⟩,
  ⟨some 16,none,.no,.mv (.t 3)⟩,
  ⟨some 17,none,.no,.mv (.t 4)⟩,
  ⟨none,none,.no,.store 32 (.t 2) (.t 15)⟩,
  ⟨some 3,none,.no,.mv (.t 16)⟩,
  ⟨some 4,none,.no,.mv (.t 17)⟩]
def qoc4 : ACode := .seq (.reg qor3) .ret
def qoc5 : ACode := .seq (.reg qor2) qoc4
def qoc6 : ACode := .seq (.reg qor1) qoc5
def qoc7 : ACode := .seq (.reg qor0) qoc6
theorem qook : cFn TC 84 = some (18, [.c 2 true 32, .t 3, .t 4], qoc7) := by kernel_rfl

@[go_sem] def qpr0 : List AIns := [
  ⟨some 2,none,.no,.mv (.v (.str []))⟩]
@[go_sem] def qpr1 : List AIns := [
  ⟨some 4,none,.no,.mv (.t 0)⟩,
  ⟨some 5,none,.no,.bin .rem .none (.t 4) (.v (.int .u64 128))⟩,
  ⟨some 6,none,.no,.conv (.int .u8) (.t 5)⟩,
  ⟨some 7,none,.no,.lit 1 [(.t 6)]⟩,
  ⟨some 3,none,.no,.mv (.t 7)⟩]
@[go_sem] def qpr2 : List AIns := [
  ⟨some 8,none,.no,.mv (.t 0)⟩,
  ⟨some 9,none,.no,.bin .quo .none (.t 8) (.v (.int .u64 128))⟩,
  ⟨some 0,none,.no,.mv (.t 9)⟩]
@[go_sem] def qpr3 : List AIns := [
  ⟨some 10,none,.no,.mv (.t 0)⟩,
  ⟨some 11,none,.no,.bin .gtr .none (.t 10) (.v (.int .u64 0))⟩]
def qpc4 : ACode := .cond (.t 11) .skip (.exit 0)
def qpc5 : ACode := .seq (.reg qpr3) qpc4
@[go_sem] def qpr6 : List AIns := [
  ⟨some 14,none,.no,.mv (.t 0)⟩,
  ⟨some 15,none,.no,.bin .rem .none (.t 14) (.v (.int .u64 128))⟩,
  ⟨some 16,none,.no,.conv (.int .u8) (.t 15)⟩,
  ⟨some 17,none,.no,.bin .or .none (.t 16) (.v (.int .u8 128))⟩,
  ⟨some 18,none,.no,.lit 1 [(.t 17)]⟩,
  ⟨some 19,none,.no,.mv (.t 3)⟩,
  ⟨some 20,none,.no,.appB (.t 18) (.t 19)⟩,
  ⟨some 3,none,.no,.mv (.t 20)⟩]
@[go_sem] def qpr7 : List AIns := [
  ⟨some 12,none,.no,.mv (.t 0)⟩,
  ⟨some 13,none,.no,.bin .quo .none (.t 12) (.v (.int .u64 128))⟩,
  ⟨some 0,none,.no,.mv (.t 13)⟩]
def qpc8 : ACode := .seq (.block 1 (.reg qpr6)) (.reg qpr7)
def qpc9 : ACode := .seq qpc5 qpc8
def qpc10 : ACode := .loop qpc9
def qpc11 : ACode := .block 0 qpc10
def qpc12 : ACode := .seq (.reg qpr2) qpc11
@[go_sem] def qpr13 : List AIns := [
  ⟨some 21,none,.no,.mv (.t 3)⟩,
  ⟨some 22,none,.no,.conv .str (.t 21)⟩,
  ⟨some 2,none,.no,.mv (.t 22)⟩]
def qpc14 : ACode := .seq (.reg qpr13) .ret
def qpc15 : ACode := .seq qpc12 qpc14
def qpc16 : ACode := .seq (.reg qpr1) qpc15
def qpc17 : ACode := .seq (.reg qpr0) qpc16
theorem qpok : cFn TC 103 = some (23, [.t 2], qpc17) := by kernel_rfl

@[go_sem] def qqr0 : List AIns := [
  ⟨some 2,none,.no,.mv (.v (.str []))⟩]
@[go_sem] def qqr1 : List AIns := [
  ⟨some 3,none,.no,.mv (.t 0)⟩,
  ⟨some 4,none,.no,.lenStr (.t 3)⟩,
  ⟨some 5,none,.no,.conv (.int .u64) (.t 4)⟩,
  ⟨some 6,none,.no,.call (.v (.fn 103 [])) [(.t 5)]⟩,
  ⟨some 7,none,.no,.mv (.t 0)⟩,
  ⟨some 8,none,.no,.bin .add .none (.t 6) (.t 7)⟩,
  ⟨some 2,none,.no,.mv (.t 8)⟩]
def qqc2 : ACode := .seq (.reg qqr1) .ret
def qqc3 : ACode := .seq (.reg qqr0) qqc2
theorem qqok : cFn TC 92 = some (9, [.t 2], qqc3) := by kernel_rfl

@[go_sem] def qrr0 : List AIns := [
  ⟨some 4,none,.no,.mv (.v (.str []))⟩,
  ⟨some 5,none,.no,.mv (.v (.str []))⟩,
  ⟨some 6,none,.no,.mv (.v (.bool false))⟩]
@[go_sem] def qrr1 : List AIns := [
  ⟨some 7,none,.no,.mv (.t 1)⟩,
  ⟨some 8,none,.no,.mv (.t 0)⟩,
  ⟨some 9,none,.no,.lenStr (.t 8)⟩,
  ⟨some 10,none,.no,.conv (.int .u64) (.t 9)⟩,
  ⟨some 11,none,.no,.bin .gtr .none (.t 7) (.t 10)⟩]
@[go_sem] def qrr2 : List AIns := [
  ⟨some 4,none,.no,.mv (.v (.str []))⟩,
  ⟨some 5,none,.no,.mv (.v (.str []))⟩,
  ⟨some 6,none,.no,.mv (.v (.bool false))⟩]
def qrc3 : ACode := .seq (.reg qrr2) .ret
def qrc4 : ACode := .cond (.t 11) qrc3 .skip
def qrc5 : ACode := .seq (.reg qrr1) qrc4
@[go_sem] def qrr6 : List AIns := [
  ⟨some 12,none,.no,.mv (.t 0)⟩,
  ⟨some 13,none,.no,.mv (.t 1)⟩,
  ⟨some 14,none,.no,.slice .str (.t 12) none (some (.t 13)) none⟩,
  ⟨some 15,none,.no,.mv (.t 0)⟩,
  ⟨some 16,none,.no,.mv (.t 1)⟩,
  ⟨some 17,none,.no,.slice .str (.t 15) (some (.t 16)) none none⟩,
  ⟨some 4,none,.no,.mv (.t 14)⟩,
  ⟨some 5,none,.no,.mv (.t 17)⟩,
  ⟨some 6,none,.no,.mv (.v (.bool true))⟩]
def qrc7 : ACode := .seq (.reg qrr6) .ret
def qrc8 : ACode := .seq qrc5 qrc7
def qrc9 : ACode := .seq (.reg qrr0) qrc8
theorem qrok : cFn TC 93 = some (18, [.t 4, .t 5, .t 6], qrc9) := by kernel_rfl

end Am
end Go.Proofs.YtjgljhbmljgaeaaDoor
end
section
/- Codec: plain laws: numbers as_ bytes, and back. -/
namespace Go.Proofs.YtjgljhbmljgaeaaDoor
namespace Am
def u8 (n : Nat) : UInt8 := UInt8.ofNat n
theorem zib {n : Nat} (h : n < 256) : (u8 n).toNat = n := by unfold u8; rw [UInt8.toNat_ofNat']; omega
/-- Bytes behind which there are more. -/
def z3m : Nat -> Nat -> List UInt8
  | 0, _ => []
  | f + 1, n => if n < 128 then [u8 (n + 128)] else z3m f (n / 128) ++ [u8 (n % 128 + 128)]
theorem zee (f n : Nat) : z3m (f + 1) n = if n < 128 then [u8 (n + 128)] else z3m f (n / 128) ++ [u8 (n % 128 + 128)] := rfl
theorem zed : ∀ (f g n : Nat), n < 128 ^ f -> n < 128 ^ g -> 0 < f -> 0 < g -> z3m f n = z3m g n
  | 0, _, _, _, _, h, _ => by omega
  | _ + 1, 0, _, _, _, _, h => by omega
  | f + 1, g + 1, n, h, h', _, _ => by
    simp only [z3m]
    by_cases h1 : n < 128
    · rw [if_pos h1, if_pos h1]
    · rw [if_neg h1, if_neg h1]
      rw [Nat.pow_succ] at h h'
      have hf : 0 < f := by
        rcases Nat.eq_zero_or_pos f with h0 | h0
        · subst h0; simp at h; omega
        · exact h0
      have hg : 0 < g := by
        rcases Nat.eq_zero_or_pos g with h0 | h0
        · subst h0; simp at h'; omega
        · exact h0
      rw [zed f g (n / 128) (by omega) (by omega) hf hg]
/-- A number's bytes. -/
def numS (n : Nat) : List UInt8 := if n < 128 then [u8 n] else z3m 10 (n / 128) ++ [u8 (n % 128)]
end Am
end Go.Proofs.YtjgljhbmljgaeaaDoor
end
section
/- Codec: contracts: numbers. -/
namespace Go.Proofs.YtjgljhbmljgaeaaDoor
namespace Am
attribute [local irreducible] ACallsTo ACallsP
theorem or128 {n : Nat} (h : n < 128) : n ||| 128 = n + 128 := by
  have := Nat.two_pow_add_eq_or_of_lt (i := 7) (b := n) h 1
  simp at this
  rw [Nat.or_comm, <- this, Nat.add_comm]
theorem zjp (b : UInt8) (s : List UInt8) : zo (b :: s) = [.int .u8 b.toNat] :: zo s := by simp [zo, B8]
/-- Digits ahead of others. -/
def preF (m : Nat) : List UInt8 := if m = 0 then [] else z3m 10 m
theorem zok {m : Nat} (h : 0 < m) (h2 : m < 18446744073709551616) : preF m = preF (m / 128) ++ [u8 (m % 128 + 128)] := by
  unfold preF
  rw [if_neg (by omega), show (10 : Nat) = 9 + 1 from rfl, zee]
  by_cases h1 : m < 128
  · rw [if_pos h1, if_pos (by omega), show m % 128 + 128 = m + 128 by omega]; rfl
  · rw [if_neg h1, if_neg (by omega), zed 9 10 (m / 128) (by omega) (by omega) (by decide) (by decide)]
theorem zne (n : Nat) : numS n = preF (n / 128) ++ [u8 (n % 128)] := by
  unfold numS preF
  by_cases h1 : n < 128
  · rw [if_pos h1, if_pos (by omega), show n % 128 = n by omega]; rfl
  · rw [if_neg h1, if_neg (by omega)]
set_option maxHeartbeats 4000000 in
theorem zkd (Y : Store) (n : Nat) (h : n < 18446744073709551616) : ACallsTo TC 103 [.int .u64 n] Y (.str (numS n)) Y := by
  refine ACallsTo.of_body qpok (by simp) fun hw _ => ?_
  have hb : [[AV.int .u8 ((n : Int) % 128)]] = zo [u8 (n % 128)] := by
    have := zib (n := n % 128) (by omega)
    simp [zo, B8, this]
  have hd : (n : Int) / 128 = ((n / 128 : Nat) : Int) := by simp
  have hn := zne n
  generalize u8 (n % 128) = c0 at *
  repeat' (first|refine zW.zs ?_|refine zW.zb ?_|refine zW.zc ?_|refine zW.zt rfl ?_|refine zW.zf rfl ?_|(refine zW.zd rfl (fun ht => ?_) (fun ht => ?_)<;>try (exfalso;omega))|((first|refine zW.zr ?_|refine zW.zk ?_|refine zW.ze ?_|refine zW.zq ?_|((first|apply zg0|apply zg1|apply zg2|apply zg3|apply zg4|apply zg5|apply zg6|apply zg7)<;>intro ht));all_goals try simp (disch:=first|omega|(simp only [lens,z7,z6,List.length_reverse,z15];first|done|omega)) only [go_sem,reduceEqDiff,Nat.reduceBEq,reduceAdd,reduceMul,reduceSub,reduceLeDiff,reduceToNat,reducePow, hb, hd]))
  refine zW.loop (fun k O Y' => ∃ (m : Nat) (b : List UInt8) (v : AV), m < 128 ^ k /\ m < 18446744073709551616 /\ preF m ++ b = numS n /\ 0 < b.length /\ b.length + k <= 12 /\ Ext Y Y' /\ (v = .vsl 1 (zo b) true \/ ∃ r, Y.length <= r /\ v = .sl r 0 b.length none 1 /\ Y'[r]? = some (some (zo b))) /\ O 0 = .int .u64 m /\ O 3 = v) 10 ?_ ?_
  · exact ⟨n / 128, [c0], _, by omega, by omega, hn.symm, by simp, by simp, Ext.refl _, .inl rfl, by simp (disch:=first|omega|(simp only [lens,z7,z6,List.length_reverse,z15];first|done|omega)) only [go_sem,reduceEqDiff,Nat.reduceBEq,reduceAdd,reduceMul,reduceSub,reduceLeDiff,reduceToNat,reducePow], by simp (disch:=first|omega|(simp only [lens,z7,z6,List.length_reverse,z15];first|done|omega)) only [go_sem,reduceEqDiff,Nat.reduceBEq,reduceAdd,reduceMul,reduceSub,reduceLeDiff,reduceToNat,reducePow, hb]⟩
  · rintro k O Y' ⟨m, b, v, hmk, hm, hmb, hb0, hbk, he, hv, q0, q3⟩
    by_cases h0 : m = 0
    · subst h0
      rw [<- hmb]
      have e0 : preF 0 ++ b = b := rfl
      rw [e0]
      rcases hv with rfl | ⟨r, hr, rfl, hg⟩
      · repeat' (first|refine zW.zs ?_|refine zW.zb ?_|refine zW.zc ?_|refine zW.zt rfl ?_|refine zW.zf rfl ?_|(refine zW.zd rfl (fun ht => ?_) (fun ht => ?_)<;>try (exfalso;omega))|((first|refine zW.zr ?_|refine zW.zk ?_|refine zW.ze ?_|refine zW.zq ?_|((first|apply zg0|apply zg1|apply zg2|apply zg3|apply zg4|apply zg5|apply zg6|apply zg7)<;>intro ht));all_goals try simp (disch:=first|omega|(simp only [lens,z7,z6,List.length_reverse,z15];first|done|omega)) only [go_sem,reduceEqDiff,Nat.reduceBEq,reduceAdd,reduceMul,reduceSub,reduceLeDiff,reduceToNat,reducePow, q0, q3]))
        exact Ext.pure hw he (z13 _ rfl)
      · repeat' (first|refine zW.zs ?_|refine zW.zb ?_|refine zW.zc ?_|refine zW.zt rfl ?_|refine zW.zf rfl ?_|(refine zW.zd rfl (fun ht => ?_) (fun ht => ?_)<;>try (exfalso;omega))|((first|refine zW.zr ?_|refine zW.zk ?_|refine zW.ze ?_|refine zW.zq ?_|((first|apply zg0|apply zg1|apply zg2|apply zg3|apply zg4|apply zg5|apply zg6|apply zg7)<;>intro ht));all_goals try simp (disch:=first|omega|(simp only [lens,z7,z6,List.length_reverse,z15];first|done|omega)) only [go_sem,reduceEqDiff,Nat.reduceBEq,reduceAdd,reduceMul,reduceSub,reduceLeDiff,reduceToNat,reducePow, q0, q3, hg]))
        exact Ext.pure hw he (z13 _ rfl)
    · have hst := zok (m := m) (by omega) hm
      have hc8 := zib (n := m % 128 + 128) (by omega)
      have hor : ((((m : Int) % 128).toNat ||| 128 : Nat) : Int) = (((u8 (m % 128 + 128)).toNat : Nat) : Int) := by
        have : ((m : Int) % 128).toNat = m % 128 := by omega
        rw [this, or128 (by omega), hc8]
      have hd2 : (m : Int) / 128 = ((m / 128 : Nat) : Int) := by simp
      rw [hst, List.append_assoc] at hmb
      have hkk : ∃ k', k = k' + 1 := by
        cases k with
        | zero => simp at hmk; omega
        | succ k => exact ⟨k, rfl⟩
      obtain ⟨k, rfl⟩ := hkk
      rw [Nat.pow_succ] at hmk
      generalize u8 (m % 128 + 128) = c at *
      have hcat : [AV.int .u8 (c.toNat : Int)] :: zo b = zo (c :: b) := (zjp c b).symm
      have hlen : (zo b).length = b.length := z15 b
      rcases hv with rfl | ⟨r, hr, rfl, hg⟩
      · repeat' (first|refine zW.zs ?_|refine zW.zb ?_|refine zW.zc ?_|refine zW.zt rfl ?_|refine zW.zf rfl ?_|(refine zW.zd rfl (fun ht => ?_) (fun ht => ?_)<;>try (exfalso;omega))|((first|refine zW.zr ?_|refine zW.zk ?_|refine zW.ze ?_|refine zW.zq ?_|((first|apply zg0|apply zg1|apply zg2|apply zg3|apply zg4|apply zg5|apply zg6|apply zg7)<;>intro ht));all_goals try simp (disch:=first|omega|(simp only [lens,z7,z6,List.length_reverse,z15];first|done|omega)) only [go_sem,reduceEqDiff,Nat.reduceBEq,reduceAdd,reduceMul,reduceSub,reduceLeDiff,reduceToNat,reducePow, q0, q3, hor, hd2, hcat]))
        exact ⟨k, by omega, m / 128, c :: b, _, by omega, by omega, hmb, by simp, by simp; omega, he.app, .inr ⟨Y'.length, he.le, by simp [Nat.add_comm], by simp⟩, rfl, rfl⟩
      · repeat' (first|refine zW.zs ?_|refine zW.zb ?_|refine zW.zc ?_|refine zW.zt rfl ?_|refine zW.zf rfl ?_|(refine zW.zd rfl (fun ht => ?_) (fun ht => ?_)<;>try (exfalso;omega))|((first|refine zW.zr ?_|refine zW.zk ?_|refine zW.ze ?_|refine zW.zq ?_|((first|apply zg0|apply zg1|apply zg2|apply zg3|apply zg4|apply zg5|apply zg6|apply zg7)<;>intro ht));all_goals try simp (disch:=first|omega|(simp only [lens,z7,z6,List.length_reverse,z15];first|done|omega)) only [go_sem,reduceEqDiff,Nat.reduceBEq,reduceAdd,reduceMul,reduceSub,reduceLeDiff,reduceToNat,reducePow, q0, q3, hor, hd2, hcat, hg]))
        exact ⟨k, by omega, m / 128, c :: b, _, by omega, by omega, hmb, by simp, by simp; omega, he.app, .inr ⟨Y'.length, he.le, by simp [Nat.add_comm], by simp⟩, rfl, rfl⟩
end Am
end Go.Proofs.YtjgljhbmljgaeaaDoor
end
section
/- Codec: contracts: the number that stands ahead. -/
namespace Go.Proofs.YtjgljhbmljgaeaaDoor
namespace Am
attribute [local irreducible] ACallsTo ACallsP
end Am
end Go.Proofs.YtjgljhbmljgaeaaDoor
end
section
/- Codec: contracts: texts, what is cut off, hashes. -/
namespace Go.Proofs.YtjgljhbmljgaeaaDoor
namespace Am
attribute [local irreducible] ACallsTo ACallsP
def z3v (s : List UInt8) (n : Nat) : Option (List UInt8 × List UInt8) := if n <= s.length then some (s.take n, s.drop n) else none
def stV : Option (List UInt8 × List UInt8) -> AV
  | none => .tup [.str [], .str [], .bool false]
  | some (a, r) => .tup [.str a, .str r, .bool true]
def z6c (s : List UInt8) : List UInt8 := numS s.length ++ s
theorem zgm (n : Nat) : (numS n).length <= 11 := by
  unfold numS
  split
  · simp
  · have : ∀ f m, (z3m f m).length <= f := by
      intro f
      induction f with
      | zero => intro m; simp [z3m]
      | succ f ih =>
        intro m
        rw [zee]
        split
        · simp
        · have := ih (m / 128); simp; omega
    have := this 10 (n / 128)
    simp; omega
set_option maxHeartbeats 4000000 in
theorem zke (Y : Store) (s : List UInt8) (hs : s.length < 1000000000) : ACallsTo TC 92 [.str s] Y (.str (z6c s)) Y := by
  refine ACallsTo.of_body qqok (by simp) fun hw _ => ?_
  have hN := fun Y => zkd Y s.length (by omega)
  have h1 := zgm s.length
  unfold z6c
  generalize numS s.length = N at *
  repeat' (first|refine zW.zs ?_|refine zW.zb ?_|refine zW.zc ?_|refine zW.zt rfl ?_|refine zW.zf rfl ?_|(refine zW.zd rfl (fun ht => ?_) (fun ht => ?_)<;>try (exfalso;omega))|((first|refine zW.zr ?_|refine zW.zk ?_|refine zW.ze ?_|refine zW.zq ?_|(apply callW.mk_pu; (first | exact (fun _ => hN _))) | (apply callW.za; (first | exact (hN _))) | ((first|apply zg0|apply zg1|apply zg2|apply zg3|apply zg4|apply zg5|apply zg6|apply zg7)<;>intro ht));all_goals try simp (disch:=first|omega|(simp only [lens,z7,z6,List.length_reverse,z15,z14];first|done|omega)) only [go_sem,reduceEqDiff,Nat.reduceBEq,reduceAdd,reduceMul,reduceSub,reduceLeDiff,reduceToNat,reducePow]))
  exact DownV.same hw (z13 _ rfl)
set_option maxHeartbeats 4000000 in
theorem zrq (Y : Store) (s : List UInt8) (n : Nat) (hs : s.length < 1000000000) (hn : n < 18446744073709551616) : ACallsTo TC 93 [.str s, .int .u64 n] Y (stV (z3v s n)) Y := by
  refine ACallsTo.of_body qrok (by simp) fun hw _ => ?_
  by_cases h : n <= s.length
  · unfold z3v
    rw [if_pos h]
    unfold stV
    repeat' (first|refine zW.zs ?_|refine zW.zb ?_|refine zW.zc ?_|refine zW.zt rfl ?_|refine zW.zf rfl ?_|(refine zW.zd rfl (fun ht => ?_) (fun ht => ?_)<;>try (exfalso;omega))|((first|refine zW.zr ?_|refine zW.zk ?_|refine zW.ze ?_|refine zW.zq ?_|((first|apply zg0|apply zg1|apply zg2|apply zg3|apply zg4|apply zg5|apply zg6|apply zg7)<;>intro ht));all_goals try simp (disch:=first|omega|(simp only [lens,z7,z6,List.length_reverse,z15,z14];first|done|omega)) only [go_sem,reduceEqDiff,Nat.reduceBEq,reduceAdd,reduceMul,reduceSub,reduceLeDiff,reduceToNat,reducePow]))
    exact DownV.same hw (z13 _ rfl)
  · unfold z3v
    rw [if_neg h]
    unfold stV
    repeat' (first|refine zW.zs ?_|refine zW.zb ?_|refine zW.zc ?_|refine zW.zt rfl ?_|refine zW.zf rfl ?_|(refine zW.zd rfl (fun ht => ?_) (fun ht => ?_)<;>try (exfalso;omega))|((first|refine zW.zr ?_|refine zW.zk ?_|refine zW.ze ?_|refine zW.zq ?_|((first|apply zg0|apply zg1|apply zg2|apply zg3|apply zg4|apply zg5|apply zg6|apply zg7)<;>intro ht));all_goals try simp (disch:=first|omega|(simp only [lens,z7,z6,List.length_reverse,z15,z14];first|done|omega)) only [go_sem,reduceEqDiff,Nat.reduceBEq,reduceAdd,reduceMul,reduceSub,reduceLeDiff,reduceToNat,reducePow]))
    exact DownV.same hw (z13 _ rfl)
end Am
end Go.Proofs.YtjgljhbmljgaeaaDoor
end
section
/- Codec: contracts: the hash that stands ahead. -/
namespace Go.Proofs.YtjgljhbmljgaeaaDoor
namespace Am
attribute [local irreducible] ACallsTo ACallsP
def toH (l : List UInt8) : Hash := if h : l.length = 32 then ⟨l, h⟩ else zeroH
theorem hc_toH {l : List UInt8} (h : l.length = 32) : hc (toH l) = zz l := by simp [toH, h, hc]
theorem zru (h : Hash) : toH h.1 = h := by simp [toH, h.2]
def unS (s : List UInt8) : Option (Hash × List UInt8) := (z3v s 32).map fun x => (toH x.1, x.2)
def unV : Option (Hash × List UInt8) -> AV
  | none => .tup [.agg (hc zeroH), .str [], .bool false]
  | some (h, r) => .tup [.agg (hc h), .str r, .bool true]
theorem zs5 {s : List UInt8} (h : ¬ 32 <= s.length) : unS s = none := by simp [unS, z3v, h]
theorem zic {s : List UInt8} (h : 32 <= s.length) : unS s = some (toH (s.take 32), s.drop 32) := by simp [unS, z3v, h]
theorem zid (h : Hash) (r : List UInt8) : unV (some (h, r)) = .tup [.agg (hc h), .str r, .bool true] := rfl
theorem zs6 : unV none = .tup [.agg z32, .str [], .bool false] := rfl
theorem rl_un {k : Nat} {cs : List AV} {r : List UInt8} {b : Bool} (h : RLs k cs) : RL k (.tup [.agg cs, .str r, .bool b]) := by
  simp only [RL, RLs]; exact ⟨h, trivial, trivial, trivial⟩
theorem zij : z32.length = 32 := rfl
set_option maxHeartbeats 4000000 in
theorem zkf (Y : Store) (s : List UInt8) (hs : s.length < 1000000000) : ACallsTo TC 84 [.str s] Y (unV (unS s)) Y := by
  refine ACallsTo.of_body qook (by simp) fun hw _ => ?_
  have hT := fun Y => zrq Y s 32 hs (by omega)
  by_cases h : 32 <= s.length
  · rw [zic h]
    rw [zid, hc_toH (by simp; omega)]
    have ht : z3v s 32 = some (s.take 32, s.drop 32) := by simp [z3v, h]
    rw [ht] at hT
    unfold stV at hT
    have hl : (s.take 32).length = 32 := by simp; omega
    generalize s.take 32 = a at *
    have hf := zen a
    have hft : (zo a).take 32 = zo a := List.take_of_length_le (by rw [z15]; omega)
    have hfc : (zz a).length = 32 := by rw [z14]; exact hl
    have hfd : (zz a).drop 32 = [] := List.drop_of_length_le (by omega)
    have hfk : (zz a).take 32 = zz a := List.take_of_length_le (by omega)
    repeat' (first|refine zW.zs ?_|refine zW.zb ?_|refine zW.zc ?_|refine zW.zt rfl ?_|refine zW.zf rfl ?_|(refine zW.zd rfl (fun ht => ?_) (fun ht => ?_)<;>try (exfalso;omega))|((first|refine zW.zr ?_|refine zW.zk ?_|refine zW.ze ?_|refine zW.zq ?_|(apply callW.mk_pu; (first | exact (fun _ => hT _))) | (apply callW.za; (first | exact (hT _))) | ((first|apply zg0|apply zg1|apply zg2|apply zg3|apply zg4|apply zg5|apply zg6|apply zg7)<;>intro ht));all_goals try simp (disch:=first|omega|(simp only [lens,z7,z6,List.length_reverse,z15,z14];first|done|omega)) only [go_sem,reduceEqDiff,Nat.reduceBEq,reduceAdd,reduceMul,reduceSub,reduceLeDiff,reduceToNat,reducePow, hf, hft, hl, hfc, hfd, hfk, List.append_nil, zij]))
    exact DownV.pure hw (rl_un (z2z _))
  · rw [zs5 h, zs6]
    have ht : z3v s 32 = none := by simp [z3v, h]
    rw [ht] at hT
    unfold stV at hT
    have hbe : (zo []).flatten = ([] : List AV) := rfl
    repeat' (first|refine zW.zs ?_|refine zW.zb ?_|refine zW.zc ?_|refine zW.zt rfl ?_|refine zW.zf rfl ?_|(refine zW.zd rfl (fun ht => ?_) (fun ht => ?_)<;>try (exfalso;omega))|((first|refine zW.zr ?_|refine zW.zk ?_|refine zW.ze ?_|refine zW.zq ?_|(apply callW.mk_pu; (first | exact (fun _ => hT _))) | (apply callW.za; (first | exact (hT _))) | ((first|apply zg0|apply zg1|apply zg2|apply zg3|apply zg4|apply zg5|apply zg6|apply zg7)<;>intro ht));all_goals try simp (disch:=first|omega|(simp only [lens,z7,z6,List.length_reverse,z15,z14];first|done|omega)) only [go_sem,reduceEqDiff,Nat.reduceBEq,reduceAdd,reduceMul,reduceSub,reduceLeDiff,reduceToNat,reducePow, zij, hbe, List.nil_append, List.drop_zero]))
    exact DownV.pure hw (rl_un (cs := z32) (z2z (List.replicate 32 0)))
end Am
end Go.Proofs.YtjgljhbmljgaeaaDoor
end
section
/- Codec: contracts: the list that stands ahead. -/
namespace Go.Proofs.YtjgljhbmljgaeaaDoor
namespace Am
attribute [local irreducible] ACallsTo ACallsP
end Am
end Go.Proofs.YtjgljhbmljgaeaaDoor
end
section
/- Codec: contracts: the reference's list. -/
namespace Go.Proofs.YtjgljhbmljgaeaaDoor
namespace Am
attribute [local irreducible] ACallsTo ACallsP
def catS (l : List Hash) : List UInt8 := (l.map (·.1)).flatten
theorem zb9 : ∀ (l : List Hash), (catS l).length = 32 * l.length
  | [] => rfl
  | h :: l => by
    have := zb9 l
    simp only [catS, List.map_cons, List.flatten_cons, List.length_append, List.length_cons, h.2] at this ⊢
    omega
theorem zk9 {l : List Hash} {i : Nat} (h : i < l.length) : catS (l.take (i + 1)) = catS (l.take i) ++ (hd l i).1 := by
  rw [z74 h]; simp [catS]
end Am
end Go.Proofs.YtjgljhbmljgaeaaDoor
end
section
/- Abstract code. (Printed by wip/gen.) -/
set_option maxRecDepth 10000
namespace Go.Proofs.YtjgljhbmljgaeaaDoor
namespace Am



@[go_sem] def qsr0 : List AIns := [
  ⟨some 4,none,.no,.mv (.v .nilsl)⟩,
  ⟨some 5,none,.no,.mv (.v (.int .i64 0))⟩]
@[go_sem] def qsr1 : List AIns := [
  ⟨some 8,none,.no,.mv (.t 1)⟩,
  ⟨some 9,none,.no,.bin .lss .none (.t 8) (.v (.int .i64 0))⟩,
  ⟨some 10,none,.no,.mv (.t 9)⟩,
  ⟨some 11, some (10, false), .no, .mv (.t 1)⟩,
  ⟨some 12, some (10, false), .no, .mv (.t 0)⟩,
  ⟨some 13, some (10, false), .no, .lenSl (.t 12)⟩,
  ⟨some 14, some (10, false), .no, .bin .geq .none (.t 11) (.t 13)⟩,
  ⟨some 15,none,.no,.pick (.t 10) (.v (.bool true)) (.t 14)⟩]
@[go_sem] def qsr2 : List AIns := [
  ⟨some 4,none,.no,.mv (.v .nilsl)⟩,
  ⟨some 5,none,.no,.mv (.v (.int .i64 2))⟩]
def qsc3 : ACode := .seq (.reg qsr2) .ret
def qsc4 : ACode := .cond (.t 15) qsc3 .skip
def qsc5 : ACode := .seq (.reg qsr1) qsc4
@[go_sem] def qsr6 : List AIns := [
  ⟨some 6,none,.no,.mv (.v .nilsl)⟩]
@[go_sem] def qsr7 : List AIns := [
  ⟨some 16,none,.no,.mv (.t 0)⟩,
  ⟨some 17,none,.no,.lenSl (.t 16)⟩,
  ⟨some 18,none,.no,.bin .gtr .none (.t 17) (.v (.int .i64 1))⟩]
def qsc8 : ACode := .cond (.t 18) .skip (.exit 0)
def qsc9 : ACode := .seq (.reg qsr7) qsc8
@[go_sem] def qsr10 : List AIns := [
  ⟨some 19,none,.no,.mv (.t 0)⟩,
  ⟨some 20,none,.no,.lenSl (.t 19)⟩,
  ⟨some 21,none,.no,.call (.v (.fn 48 [])) [(.t 20)]⟩,
  ⟨some 7,none,.no,.mv (.t 21)⟩]
@[go_sem] def qsr11 : List AIns := [
  ⟨some 22,none,.no,.mv (.t 1)⟩,
  ⟨some 23,none,.no,.mv (.t 7)⟩,
  ⟨some 24,none,.no,.bin .lss .none (.t 22) (.t 23)⟩]
@[go_sem] def qsr12 : List AIns := [
  ⟨some 25,none,.no,.mv (.t 6)⟩,
  ⟨some 26,none,.no,.mv (.t 0)⟩,
  ⟨some 27,none,.no,.mv (.t 7)⟩,
  ⟨some 28,none,.no,.slice (.sl 32) (.t 26) (some (.t 27)) none none⟩,
  ⟨some 29,none,.no,.call (.v (.fn 24 [])) [(.t 28)]⟩,
  ⟨some 30,none,.no,.lit 32 [(.t 29)]⟩,
  ⟨some 31,none,.no,.app 32 (.t 25) (.t 30)⟩,
  ⟨some 6,none,.no,.mv (.t 31)⟩]
@[go_sem] def qsr13 : List AIns := [
  ⟨some 32,none,.no,.mv (.t 0)⟩,
  ⟨some 33,none,.no,.mv (.t 7)⟩,
  ⟨some 34,none,.no,.slice (.sl 32) (.t 32) none (some (.t 33)) none⟩,
  ⟨some 0,none,.no,.mv (.t 34)⟩]
def qsc14 : ACode := .seq (.reg qsr12) (.reg qsr13)
@[go_sem] def qsr15 : List AIns := [
  ⟨some 35,none,.no,.mv (.t 6)⟩,
  ⟨some 36,none,.no,.mv (.t 0)⟩,
  ⟨some 37,none,.no,.mv (.t 7)⟩,
  ⟨some 38,none,.no,.slice (.sl 32) (.t 36) none (some (.t 37)) none⟩,
  ⟨some 39,none,.no,.call (.v (.fn 24 [])) [(.t 38)]⟩,
  ⟨some 40,none,.no,.lit 32 [(.t 39)]⟩,
  ⟨some 41,none,.no,.app 32 (.t 35) (.t 40)⟩,
  ⟨some 6,none,.no,.mv (.t 41)⟩]
@[go_sem] def qsr16 : List AIns := [
  ⟨some 42,none,.no,.mv (.t 0)⟩,
  ⟨some 43,none,.no,.mv (.t 7)⟩,
  ⟨some 44,none,.no,.slice (.sl 32) (.t 42) (some (.t 43)) none none⟩,
  ⟨some 45,none,.no,.mv (.t 1)⟩,
  ⟨some 46,none,.no,.mv (.t 7)⟩,
  ⟨some 47,none,.no,.bin .sub .none (.t 45) (.t 46)⟩,
  ⟨some 0,none,.no,.mv (.t 44)⟩,
  ⟨some 1,none,.no,.mv (.t 47)⟩]
def qsc17 : ACode := .seq (.reg qsr15) (.reg qsr16)
def qsc18 : ACode := .cond (.t 24) qsc14 qsc17
def qsc19 : ACode := .seq (.reg qsr11) qsc18
def qsc20 : ACode := .seq (.reg qsr10) qsc19
def qsc21 : ACode := .block 1 qsc20
def qsc22 : ACode := .seq qsc9 qsc21
def qsc23 : ACode := .loop qsc22
@[go_sem] def qsr24 : List AIns := [
  ⟨some 48,none,.no,.mv (.t 6)⟩,
  ⟨some 49,none,.no,.call (.v (.fn 54 [])) [(.t 48)]⟩]
@[go_sem] def qsr25 : List AIns := [
  ⟨some 50,none,.no,.mv (.t 6)⟩,
  ⟨some 4,none,.no,.mv (.t 50)⟩,
  ⟨some 5,none,.no,.mv (.v (.int .i64 0))⟩]
def qsc26 : ACode := .seq (.reg qsr25) .ret
def qsc27 : ACode := .seq (.reg qsr24) qsc26
def qsc28 : ACode := .seq (.block 0 qsc23) qsc27
def qsc29 : ACode := .seq (.reg qsr6) qsc28
def qsc30 : ACode := .seq qsc5 qsc29
def qsc31 : ACode := .seq (.reg qsr0) qsc30
theorem qsok : cFn TC 30 = some (51, [.t 4, .t 5], qsc31) := by kernel_rfl

@[go_sem] def qtr0 : List AIns := [
  ⟨some 5,none,.no,.box (.t 0)⟩,
  ⟨some 9,none,.no,.box (.t 4)⟩,
  ⟨some 10,none,.no,.mv (.v (.int .i64 0))⟩]
@[go_sem] def qtr1 : List AIns := [
  ⟨some 15,none,.no,.mv (.t 2)⟩,
  ⟨some 16,none,.no,.bin .lss .none (.t 15) (.v (.int .i64 1))⟩,
  ⟨some 17,none,.no,.mv (.t 16)⟩,
  ⟨some 18, some (17, false), .no, .mv (.t 2)⟩,
  ⟨some 19, some (17, false), .no, .bin .gtr .none (.t 18) (.v (.int .i64 4096))⟩,
  ⟨some 20,none,.no,.pick (.t 17) (.v (.bool true)) (.t 19)⟩,
  ⟨some 21,none,.no,.mv (.t 20)⟩,
  ⟨some 22, some (21, false), .no, .mv (.t 1)⟩,
  ⟨some 23, some (21, false), .no, .bin .lss .none (.t 22) (.v (.int .i64 0))⟩,
  ⟨some 24,none,.no,.pick (.t 21) (.v (.bool true)) (.t 23)⟩,
  ⟨some 25,none,.no,.mv (.t 24)⟩,
  ⟨some 26, some (25, false), .no, .mv (.t 1)⟩,
  ⟨some 27, some (25, false), .no, .mv (.t 2)⟩,
  ⟨some 28, some (25, false), .no, .bin .geq .none (.t 26) (.t 27)⟩,
  ⟨some 29,none,.no,.pick (.t 25) (.v (.bool true)) (.t 28)⟩]
@[go_sem] def qtr2 : List AIns := [
  ⟨some 10,none,.no,.mv (.v (.int .i64 2))⟩]
def qtc3 : ACode := .seq (.reg qtr2) .ret
def qtc4 : ACode := .cond (.t 29) qtc3 .skip
def qtc5 : ACode := .seq (.reg qtr1) qtc4
@[go_sem] def qtr6 : List AIns := [
  ⟨some 30,none,.no,.mv (.t 2)⟩,
  ⟨some 31,none,.no,.bin .sub .none (.t 30) (.v (.int .i64 1))⟩,
  ⟨some 11,none,.no,.mv (.t 31)⟩]
@[go_sem] def qtr7 : List AIns := [
  ⟨some 12,none,.no,.mv (.v (.int .i64 0))⟩]
@[go_sem] def qtr8 : List AIns := [
  ⟨some 32,none,.no,.mv (.t 3)⟩,
  ⟨some 33,none,.no,.lenSl (.t 32)⟩,
  ⟨some 34,none,.no,.mv (.v (.int .i64 0))⟩]
@[go_sem] def qtr9 : List AIns := [
  ⟨some 35,none,.no,.bin .lss .none (.t 34) (.t 33)⟩]
@[go_sem] def qtr10 : List AIns := [
  ⟨some 36,none,.no,.iaSl 32 (.t 32) (.t 34)⟩,
  ⟨some 37,none,.no,.load true 32 (.t 36)⟩,
  ⟨some 14,none,.no,.alloc zZ0⟩,
  ⟨none,none,.no,.store 32 (.t 14) (.t 37)⟩]
@[go_sem] def qtr11 : List AIns := [
  ⟨some 38,none,.no,.mv (.t 11)⟩,
  ⟨some 39,none,.no,.bin .eql .none (.t 38) (.v (.int .i64 0))⟩]
def qtc12 : ACode := .cond (.t 39) (.exit 0) .skip
def qtc13 : ACode := .seq (.reg qtr11) qtc12
@[go_sem] def qtr14 : List AIns := [
  ⟨some 40,none,.no,.mv (.t 1)⟩,
  ⟨some 41,none,.no,.bin .rem .none (.t 40) (.v (.int .i64 2))⟩,
  ⟨some 42,none,.no,.bin .eql .none (.t 41) (.v (.int .i64 1))⟩,
  ⟨some 43,none,.no,.mv (.t 42)⟩,
  ⟨some 44, some (43, false), .no, .mv (.t 1)⟩,
  ⟨some 45, some (43, false), .no, .mv (.t 11)⟩,
  ⟨some 46, some (43, false), .no, .bin .eql .none (.t 44) (.t 45)⟩,
  ⟨some 47,none,.no,.pick (.t 43) (.v (.bool true)) (.t 46)⟩]
@[go_sem] def qtr15 : List AIns := [
  ⟨some 48,none,.no,.load true 32 (.t 14)⟩,
  ⟨some 49,none,.no,.load true 32 (.t 5)⟩,
  ⟨some 50,none,.no,.call (.v (.fn 49 [])) [(.t 48), (.t 49)]⟩,
  ⟨none,none,.no,.store 32 (.t 5) (.t 50)⟩]
@[go_sem] def qtr16 : List AIns := [
  ⟨some 51,none,.no,.mv (.t 1)⟩,
  ⟨some 52,none,.no,.bin .rem .none (.t 51) (.v (.int .i64 2))⟩,
  ⟨some 53,none,.no,.bin .eql .none (.t 52) (.v (.int .i64 0))⟩,
  ⟨some 54,none,.no,.mv (.t 53)⟩,
  ⟨some 55, some (54, true), .no, .mv (.t 1)⟩,
  ⟨some 56, some (54, true), .no, .bin .gtr .none (.t 55) (.v (.int .i64 0))⟩,
  ⟨some 57,none,.no,.pick (.t 54) (.t 56) (.v (.bool false))⟩]
def qtc17 : ACode := .cond (.t 57) .skip (.exit 2)
def qtc18 : ACode := .seq (.reg qtr16) qtc17
@[go_sem] def qtr19 : List AIns := [
  ⟨some 58,none,.no,.mv (.t 1)⟩,
  ⟨some 59,none,.no,.bin .quo .none (.t 58) (.v (.int .i64 2))⟩,
  ⟨some 60,none,.no,.mv (.t 11)⟩,
  ⟨some 61,none,.no,.bin .quo .none (.t 60) (.v (.int .i64 2))⟩,
  ⟨some 1,none,.no,.mv (.t 59)⟩,
  ⟨some 11,none,.no,.mv (.t 61)⟩]
def qtc20 : ACode := .block 3 (.reg qtr19)
def qtc21 : ACode := .seq qtc18 qtc20
def qtc22 : ACode := .loop qtc21
def qtc23 : ACode := .block 2 qtc22
def qtc24 : ACode := .seq (.reg qtr15) qtc23
@[go_sem] def qtr25 : List AIns := [
  ⟨some 62,none,.no,.load true 32 (.t 5)⟩,
  ⟨some 63,none,.no,.load true 32 (.t 14)⟩,
  ⟨some 64,none,.no,.call (.v (.fn 49 [])) [(.t 62), (.t 63)]⟩,
  ⟨none,none,.no,.store 32 (.t 5) (.t 64)⟩]
def qtc26 : ACode := .cond (.t 47) qtc24 (.reg qtr25)
def qtc27 : ACode := .seq (.reg qtr14) qtc26
@[go_sem] def qtr28 : List AIns := [
  ⟨some 65,none,.no,.mv (.t 1)⟩,
  ⟨some 66,none,.no,.bin .quo .none (.t 65) (.v (.int .i64 2))⟩,
  ⟨some 67,none,.no,.mv (.t 11)⟩,
  ⟨some 68,none,.no,.bin .quo .none (.t 67) (.v (.int .i64 2))⟩,
  ⟨some 1,none,.no,.mv (.t 66)⟩,
  ⟨some 11,none,.no,.mv (.t 68)⟩]
@[go_sem] def qtr29 : List AIns := [
  ⟨some 69,none,.no,.mv (.t 12)⟩,
  ⟨some 70,none,.no,.bin .add .none (.t 69) (.v (.int .i64 1))⟩,
  ⟨some 12,none,.no,.mv (.t 70)⟩]
def qtc30 : ACode := .seq (.reg qtr28) (.reg qtr29)
def qtc31 : ACode := .seq qtc27 qtc30
def qtc32 : ACode := .seq qtc13 qtc31
def qtc33 : ACode := .seq (.reg qtr10) qtc32
@[go_sem] def qtr34 : List AIns := [
  ⟨some 71,none,.no,.bin .add .none (.t 34) (.v (.int .i64 1))⟩,
  ⟨some 34,none,.no,.mv (.t 71)⟩]
def qtc35 : ACode := .seq (.block 1 qtc33) (.reg qtr34)
def qtc36 : ACode := .seq (.cond (.t 35) .skip (.exit 0)) qtc35
def qtc37 : ACode := .seq (.reg qtr9) qtc36
def qtc38 : ACode := .loop qtc37
def qtc39 : ACode := .block 0 qtc38
def qtc40 : ACode := .seq (.reg qtr8) qtc39
@[go_sem] def qtr41 : List AIns := [
  ⟨some 72,none,.no,.mv (.t 11)⟩,
  ⟨some 73,none,.no,.bin .neq .none (.t 72) (.v (.int .i64 0))⟩,
  ⟨some 74,none,.no,.mv (.t 73)⟩,
  ⟨some 75, some (74, false), .no, .mv (.t 12)⟩,
  ⟨some 76, some (74, false), .no, .mv (.t 3)⟩,
  ⟨some 77, some (74, false), .no, .lenSl (.t 76)⟩,
  ⟨some 78, some (74, false), .no, .bin .neq .none (.t 75) (.t 77)⟩,
  ⟨some 79,none,.no,.pick (.t 74) (.v (.bool true)) (.t 78)⟩,
  ⟨some 80,none,.no,.mv (.t 79)⟩,
  ⟨some 81, some (80, false), .no, .load true 32 (.t 5)⟩,
  ⟨some 82, some (80, false), .no, .load true 32 (.t 9)⟩,
  ⟨some 83, some (80, false), .no, .bin .neq (.agg (List.replicate 32 (.i .u8) ++ [])) (.t 81) (.t 82)⟩,
  ⟨some 84,none,.no,.pick (.t 80) (.v (.bool true)) (.t 83)⟩]
@[go_sem] def qtr42 : List AIns := [
  ⟨some 10,none,.no,.mv (.v (.int .i64 80))⟩]
def qtc43 : ACode := .seq (.reg qtr42) .ret
def qtc44 : ACode := .cond (.t 84) qtc43 .skip
def qtc45 : ACode := .seq (.reg qtr41) qtc44
@[go_sem] def qtr46 : List AIns := [
  ⟨some 10,none,.no,.mv (.v (.int .i64 0))⟩]
def qtc47 : ACode := .seq (.reg qtr46) .ret
def qtc48 : ACode := .seq qtc45 qtc47
def qtc49 : ACode := .seq qtc40 qtc48
def qtc50 : ACode := .seq .skip qtc49
def qtc51 : ACode := .seq (.reg qtr7) qtc50
def qtc52 : ACode := .seq (.reg qtr6) qtc51
def qtc53 : ACode := .seq qtc5 qtc52
def qtc54 : ACode := .scope qtc53
def qtc55 : ACode := .seq (.reg qtr0) qtc54
theorem qtok : cFn TC 36 = some (85, [.t 10], qtc55) := by kernel_rfl

@[go_sem] def qur0 : List AIns := [
  ⟨some 4,none,.no,.mv (.t 0)⟩,
  ⟨some 5,none,.no,.lenSl (.t 4)⟩,
  ⟨some 6,none,.no,.bin .sub .none (.t 5) (.v (.int .i64 1))⟩,
  ⟨some 2,none,.no,.mv (.v (.int .i64 0))⟩,
  ⟨some 3,none,.no,.mv (.t 6)⟩]
@[go_sem] def qur1 : List AIns := [
  ⟨some 7,none,.no,.mv (.t 2)⟩,
  ⟨some 8,none,.no,.mv (.t 3)⟩,
  ⟨some 9,none,.no,.bin .lss .none (.t 7) (.t 8)⟩]
def quc2 : ACode := .cond (.t 9) .skip (.exit 0)
def quc3 : ACode := .seq (.reg qur1) quc2
@[go_sem] def qur4 : List AIns := [
  ⟨some 14,none,.no,.mv (.t 0)⟩,
  ⟨some 15,none,.no,.mv (.t 2)⟩,
  ⟨some 16,none,.no,.mv (.t 0)⟩,
  ⟨some 17,none,.no,.mv (.t 3)⟩,
  ⟨some 18,none,.no,.mv (.t 0)⟩,
  ⟨some 19,none,.no,.mv (.t 3)⟩,
  ⟨some 20,none,.no,.iaSl 32 (.t 18) (.t 19)⟩,
  ⟨some 21, none, .rd, .load true 32 (.t 20)⟩,
  ⟨some 22,none,.no,.mv (.t 0)⟩,
  ⟨some 23,none,.no,.mv (.t 2)⟩,
  ⟨some 24,none,.no,.iaSl 32 (.t 22) (.t 23)⟩,
  ⟨some 25, none, .rd, .load true 32 (.t 24)⟩,
  ⟨some 26,none,.no,.iaSl 32 (.t 14) (.t 15)⟩,
  ⟨none,none,.no,.store 32 (.t 26) (.t 21)⟩,
  ⟨some 27,none,.no,.iaSl 32 (.t 16) (.t 17)⟩,
  ⟨none,none,.no,.store 32 (.t 27) (.t 25)⟩]
@[go_sem] def qur5 : List AIns := [
  ⟨some 10,none,.no,.mv (.t 2)⟩,
  ⟨some 11,none,.no,.bin .add .none (.t 10) (.v (.int .i64 1))⟩,
  ⟨some 12,none,.no,.mv (.t 3)⟩,
  ⟨some 13,none,.no,.bin .sub .none (.t 12) (.v (.int .i64 1))⟩,
  ⟨some 2,none,.no,.mv (.t 11)⟩,
  ⟨some 3,none,.no,.mv (.t 13)⟩]
def quc6 : ACode := .seq (.block 1 (.reg qur4)) (.reg qur5)
def quc7 : ACode := .seq quc3 quc6
def quc8 : ACode := .loop quc7
def quc9 : ACode := .block 0 quc8
def quc10 : ACode := .seq (.reg qur0) quc9
theorem quok : cFn TC 54 = some (28, [], quc10) := by kernel_rfl

end Am
end Go.Proofs.YtjgljhbmljgaeaaDoor
end
section
/- Abstract code. (Printed by wip/gen.) -/
set_option maxRecDepth 10000
namespace Go.Proofs.YtjgljhbmljgaeaaDoor
namespace Am

@[go_sem] def qvr0 : List AIns := [
  ⟨some 2,none,.no,.alloc zZ0⟩]
@[go_sem] def qvr1 : List AIns := [
  ⟨some 6,none,.no,.mv (.t 0)⟩,
  ⟨some 7,none,.no,.lenSl (.t 6)⟩,
  ⟨some 8,none,.no,.bin .neq .none (.t 7) (.v (.int .i64 512))⟩]
@[go_sem] def qvr2 : List AIns := [
  ⟨some 9,none,.no,.build zZ0 []⟩,
  ⟨none,none,.no,.store 32 (.t 2) (.t 9)⟩]
def qvc3 : ACode := .seq (.reg qvr2) .ret
def qvc4 : ACode := .cond (.t 8) qvc3 .skip
def qvc5 : ACode := .seq (.reg qvr1) qvc4
@[go_sem] def qvr6 : List AIns := [
  ⟨some 3,none,.no,.allB⟩]
@[go_sem] def qvr7 : List AIns := [
  ⟨some 10,none,.no,.call (.v (.fn 82 [])) [(.t 3), (.v (.int .u8 4))]⟩]
@[go_sem] def qvr8 : List AIns := [
  ⟨some 11,none,.no,.mv (.t 0)⟩,
  ⟨some 12,none,.no,.lenSl (.t 11)⟩,
  ⟨some 13,none,.no,.mv (.v (.int .i64 0))⟩]
@[go_sem] def qvr9 : List AIns := [
  ⟨some 14,none,.no,.bin .lss .none (.t 13) (.t 12)⟩]
@[go_sem] def qvr10 : List AIns := [
  ⟨some 15,none,.no,.iaSl 32 (.t 11) (.t 13)⟩,
  ⟨some 16,none,.no,.load true 32 (.t 15)⟩,
  ⟨some 5,none,.no,.alloc zZ0⟩,
  ⟨none,none,.no,.store 32 (.t 5) (.t 16)⟩]
@[go_sem] def qvr11 : List AIns := [
  ⟨some 17,none,.no,.load true 32 (.t 5)⟩,
  ⟨some 18,none,.no,.call (.v (.fn 62 [])) [(.t 17)]⟩,
  ⟨some 19,none,.no,.call (.v (.fn 78 [])) [(.t 3), (.t 18)]⟩]
def qvc12 : ACode := .seq (.reg qvr10) (.reg qvr11)
@[go_sem] def qvr13 : List AIns := [
  ⟨some 20,none,.no,.bin .add .none (.t 13) (.v (.int .i64 1))⟩,
  ⟨some 13,none,.no,.mv (.t 20)⟩]
def qvc14 : ACode := .seq (.block 1 qvc12) (.reg qvr13)
def qvc15 : ACode := .seq (.cond (.t 14) .skip (.exit 0)) qvc14
def qvc16 : ACode := .seq (.reg qvr9) qvc15
def qvc17 : ACode := .loop qvc16
def qvc18 : ACode := .block 0 qvc17
def qvc19 : ACode := .seq (.reg qvr8) qvc18
@[go_sem] def qvr20 : List AIns := [
  ⟨some 21,none,.no,.call (.v (.fn 80 [])) [(.t 3)]⟩,
  ⟨some 22,none,.no,.call (.v (.fn 46 [])) [(.t 21)]⟩,
  ⟨none,none,.no,.store 32 (.t 2) (.t 22)⟩]
def qvc21 : ACode := .seq (.reg qvr20) .ret
def qvc22 : ACode := .seq qvc19 qvc21
def qvc23 : ACode := .seq (.reg qvr7) qvc22
def qvc24 : ACode := .seq (.reg qvr6) qvc23
def qvc25 : ACode := .seq qvc5 qvc24
def qvc26 : ACode := .seq (.reg qvr0) qvc25
theorem qvok : cFn TC 64 = some (23, [.c 2 true 32], qvc26) := by kernel_rfl

@[go_sem] def qwr0 : List AIns := [
  ⟨some 4,none,.no,.mv (.v .nilsl)⟩]
@[go_sem] def qwr1 : List AIns := [
  ⟨some 7,none,.no,.mv (.t 1)⟩,
  ⟨some 8,none,.no,.bin .lss .none (.t 7) (.v (.int .i64 0))⟩,
  ⟨some 9,none,.no,.mv (.t 8)⟩,
  ⟨some 10, some (9, false), .no, .mv (.t 1)⟩,
  ⟨some 11, some (9, false), .no, .bin .geq .none (.t 10) (.v (.int .i64 2147483648))⟩,
  ⟨some 12,none,.no,.pick (.t 9) (.v (.bool true)) (.t 11)⟩]
@[go_sem] def qwr2 : List AIns := [
  ⟨some 4,none,.no,.mv (.v .nilsl)⟩]
def qwc3 : ACode := .seq (.reg qwr2) .ret
def qwc4 : ACode := .cond (.t 12) qwc3 .skip
def qwc5 : ACode := .seq (.reg qwr1) qwc4
@[go_sem] def qwr6 : List AIns := [
  ⟨some 13,none,.no,.make 32 zZ0 (.v (.int .i64 512)) (.v (.int .i64 512))⟩,
  ⟨some 5,none,.no,.mv (.t 13)⟩]
@[go_sem] def qwr7 : List AIns := [
  ⟨some 14,none,.no,.mv (.t 5)⟩,
  ⟨some 15,none,.no,.lenSl (.t 14)⟩,
  ⟨some 16,none,.no,.mv (.v (.int .i64 0))⟩]
@[go_sem] def qwr8 : List AIns := [
  ⟨some 17,none,.no,.bin .lss .none (.t 16) (.t 15)⟩]
@[go_sem] def qwr9 : List AIns := [
  ⟨some 18,none,.no,.mv (.t 16)⟩,
  ⟨some 6,none,.no,.mv (.t 18)⟩]
@[go_sem] def qwr10 : List AIns := [
  ⟨some 19,none,.no,.mv (.t 5)⟩,
  ⟨some 20,none,.no,.mv (.t 6)⟩,
  ⟨some 21,none,.no,.mv (.t 0)⟩,
  ⟨some 22,none,.no,.mv (.t 1)⟩,
  ⟨some 23,none,.no,.mv (.t 6)⟩,
  ⟨some 24,none,.no,.bin .quo .none (.t 23) (.v (.int .i64 2))⟩,
  ⟨some 25,none,.no,.mv (.t 6)⟩,
  ⟨some 26,none,.no,.bin .rem .none (.t 25) (.v (.int .i64 2))⟩,
  ⟨some 27,none,.no,.call (.v (.fn 79 [])) [(.t 21), (.t 22), (.t 24), (.t 26)]⟩,
  ⟨some 28,none,.no,.call (.v (.fn 62 [])) [(.t 27)]⟩,
  ⟨some 29,none,.no,.call (.v (.fn 83 [])) [(.t 28)]⟩,
  ⟨some 30,none,.no,.iaSl 32 (.t 19) (.t 20)⟩,
  ⟨none,none,.no,.store 32 (.t 30) (.t 29)⟩]
def qwc11 : ACode := .seq (.reg qwr9) (.reg qwr10)
@[go_sem] def qwr12 : List AIns := [
  ⟨some 31,none,.no,.bin .add .none (.t 16) (.v (.int .i64 1))⟩,
  ⟨some 16,none,.no,.mv (.t 31)⟩]
def qwc13 : ACode := .seq (.block 1 qwc11) (.reg qwr12)
def qwc14 : ACode := .seq (.cond (.t 17) .skip (.exit 0)) qwc13
def qwc15 : ACode := .seq (.reg qwr8) qwc14
def qwc16 : ACode := .loop qwc15
def qwc17 : ACode := .block 0 qwc16
def qwc18 : ACode := .seq (.reg qwr7) qwc17
@[go_sem] def qwr19 : List AIns := [
  ⟨some 32,none,.no,.mv (.t 5)⟩,
  ⟨some 4,none,.no,.mv (.t 32)⟩]
def qwc20 : ACode := .seq (.reg qwr19) .ret
def qwc21 : ACode := .seq qwc18 qwc20
def qwc22 : ACode := .seq (.reg qwr6) qwc21
def qwc23 : ACode := .seq qwc5 qwc22
def qwc24 : ACode := .seq (.reg qwr0) qwc23
theorem qwok : cFn TC 65 = some (33, [.t 4], qwc24) := by kernel_rfl

@[go_sem] def qxr0 : List AIns := [
  ⟨some 5,none,.no,.box (.t 2)⟩,
  ⟨some 6,none,.no,.mv (.v (.str []))⟩]
@[go_sem] def qxr1 : List AIns := [
  ⟨some 13,none,.no,.mv (.t 0)⟩,
  ⟨some 14,none,.no,.mv (.t 1)⟩,
  ⟨some 15,none,.no,.call (.v (.fn 65 [])) [(.t 13), (.t 14)]⟩,
  ⟨some 7,none,.no,.mv (.t 15)⟩]
@[go_sem] def qxr2 : List AIns := [
  ⟨some 16,none,.no,.mv (.t 7)⟩,
  ⟨some 17,none,.no,.bin .eql .slc (.t 16) (.v .nilsl)⟩]
@[go_sem] def qxr3 : List AIns := [
  ⟨some 6,none,.no,.mv (.v (.str []))⟩]
def qxc4 : ACode := .seq (.reg qxr3) .ret
def qxc5 : ACode := .cond (.t 17) qxc4 .skip
def qxc6 : ACode := .seq (.reg qxr2) qxc5
@[go_sem] def qxr7 : List AIns := [
  ⟨some 18,none,.no,.load true 32 (.t 5)⟩,
  ⟨some 19,none,.no,.call (.v (.fn 62 [])) [(.t 18)]⟩,
  ⟨some 8,none,.no,.mv (.t 19)⟩]
@[go_sem] def qxr8 : List AIns := [
  ⟨some 9,none,.no,.allB⟩,
  ⟨some 10,none,.no,.allB⟩]
@[go_sem] def qxr9 : List AIns := [
  ⟨some 20,none,.no,.mv (.v (.int .i64 0))⟩]
@[go_sem] def qxr10 : List AIns := [
  ⟨some 21,none,.no,.bin .lss .none (.t 20) (.v (.int .i64 256))⟩]
@[go_sem] def qxr11 : List AIns := [
  ⟨some 22,none,.no,.mv (.t 20)⟩,
  ⟨some 11,none,.no,.mv (.t 22)⟩]
@[go_sem] def qxr12 : List AIns := [
  ⟨some 23,none,.no,.mv (.t 8)⟩,
  ⟨some 24,none,.no,.mv (.t 11)⟩,
  ⟨some 25,none,.no,.call (.v (.fn 77 [])) [(.t 23), (.t 24)]⟩,
  ⟨some 12,none,.no,.mv (.t 25)⟩]
@[go_sem] def qxr13 : List AIns := [
  ⟨some 26,none,.no,.mv (.t 0)⟩,
  ⟨some 27,none,.no,.mv (.t 1)⟩,
  ⟨some 28,none,.no,.mv (.t 11)⟩,
  ⟨some 29,none,.no,.mv (.t 12)⟩,
  ⟨some 30,none,.no,.call (.v (.fn 79 [])) [(.t 26), (.t 27), (.t 28), (.t 29)]⟩,
  ⟨some 31,none,.no,.call (.v (.fn 62 [])) [(.t 30)]⟩,
  ⟨some 32,none,.no,.call (.v (.fn 78 [])) [(.t 9), (.t 31)]⟩]
@[go_sem] def qxr14 : List AIns := [
  ⟨some 33,none,.no,.mv (.t 7)⟩,
  ⟨some 34,none,.no,.mv (.t 11)⟩,
  ⟨some 35,none,.no,.bin .mul .none (.v (.int .i64 2)) (.t 34)⟩,
  ⟨some 36,none,.no,.bin .add .none (.t 35) (.v (.int .i64 1))⟩,
  ⟨some 37,none,.no,.mv (.t 12)⟩,
  ⟨some 38,none,.no,.bin .sub .none (.t 36) (.t 37)⟩,
  ⟨some 39,none,.no,.iaSl 32 (.t 33) (.t 38)⟩,
  ⟨some 40,none,.no,.load true 32 (.t 39)⟩,
  ⟨some 41,none,.no,.call (.v (.fn 62 [])) [(.t 40)]⟩,
  ⟨some 42,none,.no,.call (.v (.fn 78 [])) [(.t 10), (.t 41)]⟩]
def qxc15 : ACode := .seq (.reg qxr13) (.reg qxr14)
def qxc16 : ACode := .seq (.reg qxr12) qxc15
def qxc17 : ACode := .seq (.reg qxr11) qxc16
@[go_sem] def qxr18 : List AIns := [
  ⟨some 43,none,.no,.bin .add .none (.t 20) (.v (.int .i64 1))⟩,
  ⟨some 20,none,.no,.mv (.t 43)⟩]
def qxc19 : ACode := .seq (.block 1 qxc17) (.reg qxr18)
def qxc20 : ACode := .seq (.cond (.t 21) .skip (.exit 0)) qxc19
def qxc21 : ACode := .seq (.reg qxr10) qxc20
def qxc22 : ACode := .loop qxc21
def qxc23 : ACode := .block 0 qxc22
def qxc24 : ACode := .seq (.reg qxr9) qxc23
@[go_sem] def qxr25 : List AIns := [
  ⟨some 44,none,.no,.call (.v (.fn 80 [])) [(.t 9)]⟩,
  ⟨some 45,none,.no,.call (.v (.fn 80 [])) [(.t 10)]⟩,
  ⟨some 46,none,.no,.bin .add .none (.t 44) (.t 45)⟩,
  ⟨some 6,none,.no,.mv (.t 46)⟩]
def qxc26 : ACode := .seq (.reg qxr25) .ret
def qxc27 : ACode := .seq qxc24 qxc26
def qxc28 : ACode := .seq (.reg qxr8) qxc27
def qxc29 : ACode := .seq (.reg qxr7) qxc28
def qxc30 : ACode := .seq qxc6 qxc29
def qxc31 : ACode := .seq (.reg qxr1) qxc30
def qxc32 : ACode := .seq (.reg qxr0) qxc31
theorem qxok : cFn TC 60 = some (47, [.t 6], qxc32) := by kernel_rfl

@[go_sem] def qyr0 : List AIns := [
  ⟨some 3,none,.no,.box (.t 1)⟩,
  ⟨some 4,none,.no,.alloc zZ0⟩,
  ⟨some 5,none,.no,.mv (.v (.int .i64 0))⟩]
@[go_sem] def qyr1 : List AIns := [
  ⟨some 12,none,.no,.mv (.t 0)⟩,
  ⟨some 13,none,.no,.lenStr (.t 12)⟩,
  ⟨some 14,none,.no,.bin .neq .none (.t 13) (.v (.int .i64 16384))⟩]
@[go_sem] def qyr2 : List AIns := [
  ⟨some 15,none,.no,.build zZ0 []⟩,
  ⟨none,none,.no,.store 32 (.t 4) (.t 15)⟩,
  ⟨some 5,none,.no,.mv (.v (.int .i64 10))⟩]
def qyc3 : ACode := .seq (.reg qyr2) .ret
def qyc4 : ACode := .cond (.t 14) qyc3 .skip
def qyc5 : ACode := .seq (.reg qyr1) qyc4
@[go_sem] def qyr6 : List AIns := [
  ⟨some 16,none,.no,.load true 32 (.t 3)⟩,
  ⟨some 17,none,.no,.call (.v (.fn 62 [])) [(.t 16)]⟩,
  ⟨some 6,none,.no,.mv (.t 17)⟩]
@[go_sem] def qyr7 : List AIns := [
  ⟨some 18,none,.no,.make 32 zZ0 (.v (.int .i64 512)) (.v (.int .i64 512))⟩,
  ⟨some 7,none,.no,.mv (.t 18)⟩]
@[go_sem] def qyr8 : List AIns := [
  ⟨some 19,none,.no,.mv (.v (.int .i64 0))⟩]
@[go_sem] def qyr9 : List AIns := [
  ⟨some 20,none,.no,.bin .lss .none (.t 19) (.v (.int .i64 256))⟩]
@[go_sem] def qyr10 : List AIns := [
  ⟨some 21,none,.no,.mv (.t 19)⟩,
  ⟨some 8,none,.no,.mv (.t 21)⟩]
@[go_sem] def qyr11 : List AIns := [
  ⟨some 22,none,.no,.mv (.t 6)⟩,
  ⟨some 23,none,.no,.mv (.t 8)⟩,
  ⟨some 24,none,.no,.call (.v (.fn 77 [])) [(.t 22), (.t 23)]⟩,
  ⟨some 9,none,.no,.mv (.t 24)⟩]
@[go_sem] def qyr12 : List AIns := [
  ⟨some 25,none,.no,.mv (.t 0)⟩,
  ⟨some 26,none,.no,.mv (.t 8)⟩,
  ⟨some 27,none,.no,.bin .mul .none (.t 26) (.v (.int .i64 32))⟩,
  ⟨some 28,none,.no,.mv (.t 8)⟩,
  ⟨some 29,none,.no,.bin .add .none (.t 28) (.v (.int .i64 1))⟩,
  ⟨some 30,none,.no,.bin .mul .none (.t 29) (.v (.int .i64 32))⟩,
  ⟨some 31,none,.no,.slice .str (.t 25) (some (.t 27)) (some (.t 30)) none⟩,
  ⟨some 32,none,.no,.mv (.t 0)⟩,
  ⟨some 33,none,.no,.mv (.t 8)⟩,
  ⟨some 34,none,.no,.bin .add .none (.v (.int .i64 256)) (.t 33)⟩,
  ⟨some 35,none,.no,.bin .mul .none (.t 34) (.v (.int .i64 32))⟩,
  ⟨some 36,none,.no,.slice .str (.t 32) (some (.t 35)) none none⟩,
  ⟨some 10,none,.no,.mv (.t 31)⟩,
  ⟨some 11,none,.no,.mv (.t 36)⟩]
@[go_sem] def qyr13 : List AIns := [
  ⟨some 37,none,.no,.mv (.t 7)⟩,
  ⟨some 38,none,.no,.mv (.t 8)⟩,
  ⟨some 39,none,.no,.bin .mul .none (.v (.int .i64 2)) (.t 38)⟩,
  ⟨some 40,none,.no,.mv (.t 9)⟩,
  ⟨some 41,none,.no,.bin .add .none (.t 39) (.t 40)⟩,
  ⟨some 42,none,.no,.mv (.t 10)⟩,
  ⟨some 43,none,.no,.call (.v (.fn 83 [])) [(.t 42)]⟩,
  ⟨some 44,none,.no,.iaSl 32 (.t 37) (.t 41)⟩,
  ⟨none,none,.no,.store 32 (.t 44) (.t 43)⟩]
@[go_sem] def qyr14 : List AIns := [
  ⟨some 46,none,.no,.mv (.t 7)⟩,
  ⟨some 47,none,.no,.mv (.t 8)⟩,
  ⟨some 48,none,.no,.bin .mul .none (.v (.int .i64 2)) (.t 47)⟩,
  ⟨some 49,none,.no,.bin .add .none (.t 48) (.v (.int .i64 1))⟩,
  ⟨some 50,none,.no,.mv (.t 9)⟩,
  ⟨some 51,none,.no,.bin .sub .none (.t 49) (.t 50)⟩,
  ⟨some 52,none,.no,.mv (.t 11)⟩,
  ⟨some 53,none,.no,.call (.v (.fn 84 [])) [(.t 52)]⟩,
  ⟨some 45,none,.no,.mv (.t 53)⟩,
  ⟨some 54,none,.no,.ext 0 (.t 45)⟩,
  ⟨some 55,none,.no,.ext 1 (.t 45)⟩,
  ⟨some 56,none,.no,.ext 2 (.t 45)⟩,
  ⟨some 57,none,.no,.iaSl 32 (.t 46) (.t 51)⟩,
  ⟨none,none,.no,.store 32 (.t 57) (.t 54)⟩]
def qyc15 : ACode := .seq (.reg qyr13) (.reg qyr14)
def qyc16 : ACode := .seq (.reg qyr12) qyc15
def qyc17 : ACode := .seq (.reg qyr11) qyc16
def qyc18 : ACode := .seq (.reg qyr10) qyc17
@[go_sem] def qyr19 : List AIns := [
  ⟨some 58,none,.no,.bin .add .none (.t 19) (.v (.int .i64 1))⟩,
  ⟨some 19,none,.no,.mv (.t 58)⟩]
def qyc20 : ACode := .seq (.block 1 qyc18) (.reg qyr19)
def qyc21 : ACode := .seq (.cond (.t 20) .skip (.exit 0)) qyc20
def qyc22 : ACode := .seq (.reg qyr9) qyc21
def qyc23 : ACode := .loop qyc22
def qyc24 : ACode := .block 0 qyc23
def qyc25 : ACode := .seq (.reg qyr8) qyc24
@[go_sem] def qyr26 : List AIns := [
  ⟨some 59,none,.no,.mv (.t 7)⟩,
  ⟨some 60,none,.no,.call (.v (.fn 64 [])) [(.t 59)]⟩,
  ⟨none,none,.no,.store 32 (.t 4) (.t 60)⟩,
  ⟨some 5,none,.no,.mv (.v (.int .i64 0))⟩]
def qyc27 : ACode := .seq (.reg qyr26) .ret
def qyc28 : ACode := .seq qyc25 qyc27
def qyc29 : ACode := .seq (.reg qyr7) qyc28
def qyc30 : ACode := .seq (.reg qyr6) qyc29
def qyc31 : ACode := .seq qyc5 qyc30
def qyc32 : ACode := .seq (.reg qyr0) qyc31
theorem qyok : cFn TC 66 = some (61, [.c 4 true 32, .t 5], qyc32) := by kernel_rfl

@[go_sem] def qzr0 : List AIns := [
  ⟨some 4,none,.no,.mv (.v (.int .i64 0))⟩,
  ⟨some 5,none,.no,.mv (.v .any)⟩]
@[go_sem] def qzr1 : List AIns := [
  ⟨some 6,none,.no,.mv (.t 0)⟩,
  ⟨some 7,none,.no,.call (.v (.fn 91 [])) [(.t 6)]⟩]
@[go_sem] def qzr2 : List AIns := [
  ⟨some 8,none,.no,.mv (.t 0)⟩,
  ⟨some 9,none,.no,.mv (.t 0)⟩,
  ⟨some 10,none,.no,.nilc (.t 9)⟩,
  ⟨some 11,none,.no,.fa 1 (.t 10)⟩,
  ⟨some 12,none,.no,.load false 1 (.t 11)⟩,
  ⟨some 13,none,.no,.mv (.t 1)⟩,
  ⟨some 14,none,.no,.appB (.t 12) (.t 13)⟩,
  ⟨some 15,none,.no,.nilc (.t 8)⟩,
  ⟨some 16,none,.no,.fa 1 (.t 15)⟩,
  ⟨none,none,.no,.store 1 (.t 16) (.t 14)⟩]
@[go_sem] def qzr3 : List AIns := [
  ⟨some 17,none,.no,.mv (.t 1)⟩,
  ⟨some 18,none,.no,.lenStr (.t 17)⟩,
  ⟨some 4,none,.no,.mv (.t 18)⟩,
  ⟨some 5,none,.no,.mv (.v .any)⟩]
def qzc4 : ACode := .seq (.reg qzr3) .ret
def qzc5 : ACode := .seq (.reg qzr2) qzc4
def qzc6 : ACode := .seq (.reg qzr1) qzc5
def qzc7 : ACode := .seq (.reg qzr0) qzc6
theorem qzok : cFn TC 78 = some (19, [.t 4, .t 5], qzc7) := by kernel_rfl

@[go_sem] def q10r0 : List AIns := [
  ⟨some 4,none,.no,.mv (.v .any)⟩]
@[go_sem] def q10r1 : List AIns := [
  ⟨some 5,none,.no,.mv (.t 0)⟩,
  ⟨some 6,none,.no,.call (.v (.fn 91 [])) [(.t 5)]⟩]
@[go_sem] def q10r2 : List AIns := [
  ⟨some 7,none,.no,.mv (.t 0)⟩,
  ⟨some 8,none,.no,.mv (.t 0)⟩,
  ⟨some 9,none,.no,.nilc (.t 8)⟩,
  ⟨some 10,none,.no,.fa 1 (.t 9)⟩,
  ⟨some 11,none,.no,.load false 1 (.t 10)⟩,
  ⟨some 12,none,.no,.mv (.t 1)⟩,
  ⟨some 13,none,.no,.lit 1 [(.t 12)]⟩,
  ⟨some 14,none,.no,.appB (.t 11) (.t 13)⟩,
  ⟨some 15,none,.no,.nilc (.t 7)⟩,
  ⟨some 16,none,.no,.fa 1 (.t 15)⟩,
  ⟨none,none,.no,.store 1 (.t 16) (.t 14)⟩]
@[go_sem] def q10r3 : List AIns := [
  ⟨some 4,none,.no,.mv (.v .any)⟩]
def q10c4 : ACode := .seq (.reg q10r3) .ret
def q10c5 : ACode := .seq (.reg q10r2) q10c4
def q10c6 : ACode := .seq (.reg q10r1) q10c5
def q10c7 : ACode := .seq (.reg q10r0) q10c6
theorem q10ok : cFn TC 82 = some (17, [.t 4], q10c7) := by kernel_rfl

@[go_sem] def q11r0 : List AIns := [
  ⟨some 2,none,.no,.alloc zZ0⟩]
@[go_sem] def q11r1 : List AIns := [
  ⟨some 3,none,.no,.mv (.t 0)⟩,
  ⟨some 4,none,.no,.bin .add .none (.v (.str [3])) (.t 3)⟩,
  ⟨some 5,none,.no,.call (.v (.fn 46 [])) [(.t 4)]⟩,
  ⟨none,none,.no,.store 32 (.t 2) (.t 5)⟩]
def q11c2 : ACode := .seq (.reg q11r1) .ret
def q11c3 : ACode := .seq (.reg q11r0) q11c2
theorem q11ok : cFn TC 83 = some (6, [.c 2 true 32], q11c3) := by kernel_rfl

@[go_sem] def q12r0 : List AIns := [
  ⟨some 8,none,.no,.alloc zZ0⟩]
@[go_sem] def q12r1 : List AIns := [
  ⟨some 9,none,.no,.mv (.t 1)⟩,
  ⟨some 10,none,.no,.bin .lss .none (.t 9) (.v (.int .i64 0))⟩,
  ⟨some 11,none,.no,.mv (.t 10)⟩,
  ⟨some 12, some (11, false), .no, .mv (.t 1)⟩,
  ⟨some 13, some (11, false), .no, .bin .geq .none (.t 12) (.v (.int .i64 2147483648))⟩,
  ⟨some 14,none,.no,.pick (.t 11) (.v (.bool true)) (.t 13)⟩,
  ⟨some 15,none,.no,.mv (.t 14)⟩,
  ⟨some 16, some (15, false), .no, .mv (.t 2)⟩,
  ⟨some 17, some (15, false), .no, .bin .lss .none (.t 16) (.v (.int .i64 0))⟩,
  ⟨some 18,none,.no,.pick (.t 15) (.v (.bool true)) (.t 17)⟩,
  ⟨some 19,none,.no,.mv (.t 18)⟩,
  ⟨some 20, some (19, false), .no, .mv (.t 2)⟩,
  ⟨some 21, some (19, false), .no, .bin .geq .none (.t 20) (.v (.int .i64 256))⟩,
  ⟨some 22,none,.no,.pick (.t 19) (.v (.bool true)) (.t 21)⟩,
  ⟨some 23,none,.no,.mv (.t 22)⟩,
  ⟨some 24, some (23, false), .no, .mv (.t 3)⟩,
  ⟨some 25, some (23, false), .no, .bin .lss .none (.t 24) (.v (.int .i64 0))⟩,
  ⟨some 26,none,.no,.pick (.t 23) (.v (.bool true)) (.t 25)⟩,
  ⟨some 27,none,.no,.mv (.t 26)⟩,
  ⟨some 28, some (27, false), .no, .mv (.t 3)⟩,
  ⟨some 29, some (27, false), .no, .bin .gtr .none (.t 28) (.v (.int .i64 1))⟩,
  ⟨some 30,none,.no,.pick (.t 27) (.v (.bool true)) (.t 29)⟩]
@[go_sem] def q12r2 : List AIns := [
  ⟨some 31,none,.no,.build zZ0 []⟩,
  ⟨none,none,.no,.store 32 (.t 8) (.t 31)⟩]
def q12c3 : ACode := .seq (.reg q12r2) .ret
def q12c4 : ACode := .cond (.t 30) q12c3 .skip
def q12c5 : ACode := .seq (.reg q12r1) q12c4
@[go_sem] def q12r6 : List AIns := [
  ⟨some 32,none,.no,.mv (.t 0)⟩,
  ⟨some 33,none,.no,.call (.v (.fn 92 [])) [(.t 32)]⟩,
  ⟨some 34,none,.no,.bin .add .none (.v (.str [2])) (.t 33)⟩,
  ⟨some 35,none,.no,.mv (.t 1)⟩,
  ⟨some 36,none,.no,.conv (.int .u64) (.t 35)⟩,
  ⟨some 37,none,.no,.call (.v (.fn 61 [])) [(.t 36), (.v (.int .i64 4))]⟩,
  ⟨some 38,none,.no,.bin .add .none (.t 34) (.t 37)⟩,
  ⟨some 39,none,.no,.mv (.t 2)⟩,
  ⟨some 40,none,.no,.bin .mul .none (.v (.int .i64 2)) (.t 39)⟩,
  ⟨some 41,none,.no,.mv (.t 3)⟩,
  ⟨some 42,none,.no,.bin .add .none (.t 40) (.t 41)⟩,
  ⟨some 43,none,.no,.conv (.int .u64) (.t 42)⟩,
  ⟨some 44,none,.no,.call (.v (.fn 61 [])) [(.t 43), (.v (.int .i64 2))]⟩,
  ⟨some 45,none,.no,.bin .add .none (.t 38) (.t 44)⟩,
  ⟨some 46,none,.no,.call (.v (.fn 46 [])) [(.t 45)]⟩,
  ⟨none,none,.no,.store 32 (.t 8) (.t 46)⟩]
def q12c7 : ACode := .seq (.reg q12r6) .ret
def q12c8 : ACode := .seq q12c5 q12c7
def q12c9 : ACode := .seq (.reg q12r0) q12c8
theorem q12ok : cFn TC 79 = some (47, [.c 8 true 32], q12c9) := by kernel_rfl

end Am
end Go.Proofs.YtjgljhbmljgaeaaDoor
end
section
/- Abstract code. (Printed by wip/gen.) -/
set_option maxRecDepth 10000
namespace Go.Proofs.YtjgljhbmljgaeaaDoor
namespace Am



@[go_sem] def q13r0 : List AIns := [
  ⟨some 2,none,.no,.mv (.v .nilp)⟩]
@[go_sem] def q13r1 : List AIns := [
  ⟨some 5,none,.no,.mv (.t 0)⟩,
  ⟨some 6,none,.no,.build [(.bool false), (.str []), (.int .u8 0), (.int .u8 0), (.int .u8 0), (.int .u8 0), (.int .u8 0), (.int .u8 0), (.int .u8 0), (.int .u8 0), (.int .u8 0), (.int .u8 0), (.int .u8 0), (.int .u8 0), (.int .u8 0), (.int .u8 0), (.int .u8 0), (.int .u8 0), (.int .u8 0), (.int .u8 0), (.int .u8 0), (.int .u8 0), (.int .u8 0), (.int .u8 0), (.int .u8 0), (.int .u8 0), (.int .u8 0), (.int .u8 0), (.int .u8 0), (.int .u8 0), (.int .u8 0), (.int .u8 0), (.int .u8 0), (.int .u8 0), (.int .u8 0), (.int .u8 0), (.int .u8 0), (.int .u8 0), (.int .u8 0), (.int .u8 0), (.int .u8 0), (.int .u8 0), (.int .u8 0), (.int .u8 0), (.int .u8 0), (.int .u8 0), (.int .u8 0), (.int .u8 0), (.int .u8 0), (.int .u8 0), (.int .u8 0), (.int .u8 0), (.int .u8 0), (.int .u8 0), (.int .u8 0), (.int .u8 0), (.int .u8 0), (.int .u8 0), (.int .u8 0), (.int .u8 0), (.int .u8 0), (.int .u8 0), (.int .u8 0), (.int .u8 0), (.int .u8 0), (.int .u8 0), (.int .u8 0), (.int .u8 0), (.int .u8 0), (.int .u8 0), (.int .u8 0), (.int .u8 0), (.int .u8 0), (.int .u8 0), (.int .u8 0), (.int .u8 0), (.int .u8 0), (.int .u8 0), (.int .u8 0), (.int .u8 0), (.int .u8 0), (.int .u8 0), (.int .u8 0), (.int .u8 0), (.int .u8 0), (.int .u8 0), (.int .u8 0), (.int .u8 0), (.int .u8 0), (.int .u8 0), (.int .u8 0), (.int .u8 0), (.int .u8 0), (.int .u8 0), (.int .u8 0), (.int .u8 0), (.int .u8 0), (.int .u8 0), (.int .u8 0), (.int .u8 0), (.int .u8 0), (.int .u8 0), (.int .u8 0), (.int .u8 0), (.int .u8 0), (.int .u8 0), (.int .u8 0), (.int .u8 0), (.int .u8 0), (.int .u8 0), (.int .u8 0), (.int .u8 0), (.int .u8 0), (.int .u8 0), (.int .u8 0), (.int .u8 0), (.int .u8 0), (.int .u8 0), (.int .u8 0), (.int .u8 0), (.int .u8 0), (.int .u8 0), (.int .u8 0), (.int .u8 0), (.int .u8 0), (.int .u8 0), (.int .u8 0), (.int .u8 0), (.int .u8 0), (.int .u8 0), (.int .u8 0), (.int .u8 0), (.int .u8 0), (.int .u8 0), (.int .u8 0), (.int .u8 0), (.int .u8 0), (.int .u8 0), (.int .u8 0), (.int .u8 0), (.int .u8 0), (.int .u8 0), (.int .u8 0), (.int .u8 0), (.int .u8 0), (.int .u8 0), (.int .u8 0), (.int .u8 0), (.int .u8 0), (.int .u8 0), (.int .u8 0), (.int .u8 0), (.int .u8 0), (.int .u8 0), (.int .u8 0), (.int .u8 0), (.int .u8 0), (.int .u8 0), (.int .u8 0), (.int .u8 0), (.int .u8 0), (.int .u8 0), (.int .u8 0), (.int .u8 0), (.int .u8 0), (.int .u8 0), (.int .u8 0), (.int .u8 0), (.int .u8 0), (.int .u8 0), (.int .u8 0), (.int .u8 0), (.int .u8 0), (.int .u8 0), (.int .u8 0), (.int .u8 0), (.int .u8 0), (.int .u8 0), (.int .u8 0), (.int .u8 0), (.int .u8 0), (.int .u8 0), (.int .u8 0), (.int .u8 0), (.int .u8 0), (.int .u8 0), (.int .u8 0), (.int .u8 0), (.int .u8 0), (.int .u8 0), (.int .u8 0), (.int .u8 0), (.int .u8 0), (.int .u8 0), (.int .u8 0), (.int .u8 0), (.int .u8 0), (.int .u8 0), (.int .u8 0), (.int .u8 0), (.int .u8 0), (.int .u8 0), (.int .u8 0), (.int .u8 0), (.int .u8 0), (.int .u8 0), (.int .u8 0), (.int .u8 0), (.int .u8 0), (.int .u8 0), (.int .u8 0), (.int .u8 0), (.int .u8 0), (.int .u8 0), (.int .u8 0), (.int .u8 0), (.int .u8 0), (.int .u8 0), (.int .u8 0), (.int .u8 0), (.int .u8 0), (.int .u8 0), (.int .u8 0), (.int .u8 0), (.int .u8 0), (.int .u8 0), (.int .u8 0), (.int .u8 0), (.int .u8 0), (.int .u8 0), (.int .u8 0), (.int .u8 0), (.int .u8 0), (.int .u8 0), (.int .u8 0), (.int .u8 0), (.int .u8 0), (.int .u8 0), (.int .u8 0), (.int .u8 0), (.int .u8 0), (.int .u8 0), (.int .u8 0), (.int .u8 0), (.int .u8 0), (.int .u8 0), (.int .u8 0), (.int .u8 0), (.int .u8 0), (.int .u8 0), (.int .u8 0), (.int .u8 0), (.int .u8 0), (.int .u8 0), (.int .u8 0), (.int .u8 0), (.int .u8 0), (.int .u8 0)] [(0, 1, (.v (.bool true))), (1, 1, (.t 5))]⟩,
  ⟨some 7,none,.no,.box (.t 6)⟩,
  ⟨some 3,none,.no,.mv (.t 7)⟩]
@[go_sem] def q13r2 : List AIns := [
  ⟨some 8,none,.no,.mv (.v (.int .i64 0))⟩]
@[go_sem] def q13r3 : List AIns := [
  ⟨some 9,none,.no,.bin .lss .none (.t 8) (.v (.int .i64 8))⟩]
@[go_sem] def q13r4 : List AIns := [
  ⟨some 10,none,.no,.mv (.t 8)⟩,
  ⟨some 4,none,.no,.mv (.t 10)⟩]
@[go_sem] def q13r5 : List AIns := [
  ⟨some 11,none,.no,.mv (.t 3)⟩,
  ⟨some 12,none,.no,.mv (.t 4)⟩,
  ⟨some 13,none,.no,.mv (.t 0)⟩,
  ⟨some 14,none,.no,.mv (.t 4)⟩,
  ⟨some 15,none,.no,.call (.v (.fn 65 [])) [(.t 13), (.t 14)]⟩,
  ⟨some 16,none,.no,.call (.v (.fn 64 [])) [(.t 15)]⟩,
  ⟨some 17,none,.no,.nilc (.t 11)⟩,
  ⟨some 18,none,.no,.fa 2 (.t 17)⟩,
  ⟨some 19,none,.no,.iaArr 8 32 (.t 18) (.t 12)⟩,
  ⟨none,none,.no,.store 32 (.t 19) (.t 16)⟩]
def q13c6 : ACode := .seq (.reg q13r4) (.reg q13r5)
@[go_sem] def q13r7 : List AIns := [
  ⟨some 20,none,.no,.bin .add .none (.t 8) (.v (.int .i64 1))⟩,
  ⟨some 8,none,.no,.mv (.t 20)⟩]
def q13c8 : ACode := .seq (.block 1 q13c6) (.reg q13r7)
def q13c9 : ACode := .seq (.cond (.t 9) .skip (.exit 0)) q13c8
def q13c10 : ACode := .seq (.reg q13r3) q13c9
def q13c11 : ACode := .loop q13c10
def q13c12 : ACode := .block 0 q13c11
def q13c13 : ACode := .seq (.reg q13r2) q13c12
@[go_sem] def q13r14 : List AIns := [
  ⟨some 21,none,.no,.mv (.t 3)⟩,
  ⟨some 2,none,.no,.mv (.t 21)⟩]
def q13c15 : ACode := .seq (.reg q13r14) .ret
def q13c16 : ACode := .seq q13c13 q13c15
def q13c17 : ACode := .seq (.reg q13r1) q13c16
def q13c18 : ACode := .seq (.reg q13r0) q13c17
theorem q13ok : cFn TC 43 = some (22, [.t 2], q13c18) := by kernel_rfl

@[go_sem] def q14r0 : List AIns := [
  ⟨some 2,none,.no,.alloc zZ0⟩]
@[go_sem] def q14r1 : List AIns := [
  ⟨some 3,none,.no,.mv (.t 0)⟩,
  ⟨some 4,none,.no,.bin .eql .ptr (.t 3) (.v .nilp)⟩,
  ⟨some 5,none,.no,.mv (.t 4)⟩,
  ⟨some 6, some (5, false), .no, .mv (.t 0)⟩,
  ⟨some 7, some (5, false), .no, .nilc (.t 6)⟩,
  ⟨some 8, some (5, false), .no, .fa 0 (.t 7)⟩,
  ⟨some 9, some (5, false), .no, .load false 1 (.t 8)⟩,
  ⟨some 10, some (5, false), .no, .un .not (.t 9)⟩,
  ⟨some 11,none,.no,.pick (.t 5) (.v (.bool true)) (.t 10)⟩]
@[go_sem] def q14r2 : List AIns := [
  ⟨some 12,none,.no,.build zZ0 []⟩,
  ⟨none,none,.no,.store 32 (.t 2) (.t 12)⟩]
def q14c3 : ACode := .seq (.reg q14r2) .ret
def q14c4 : ACode := .cond (.t 11) q14c3 .skip
def q14c5 : ACode := .seq (.reg q14r1) q14c4
@[go_sem] def q14r6 : List AIns := [
  ⟨some 13,none,.no,.mv (.t 0)⟩,
  ⟨some 14,none,.no,.nilc (.t 13)⟩,
  ⟨some 15,none,.no,.fa 2 (.t 14)⟩,
  ⟨some 16,none,.no,.slice (.arr 8 32) (.t 15) none none none⟩,
  ⟨some 17,none,.no,.call (.v (.fn 24 [])) [(.t 16)]⟩,
  ⟨none,none,.no,.store 32 (.t 2) (.t 17)⟩]
def q14c7 : ACode := .seq (.reg q14r6) .ret
def q14c8 : ACode := .seq q14c5 q14c7
def q14c9 : ACode := .seq (.reg q14r0) q14c8
theorem q14ok : cFn TC 28 = some (18, [.c 2 true 32], q14c9) := by kernel_rfl

@[go_sem] def q15r0 : List AIns := [
  ⟨some 5,none,.no,.box (.t 2)⟩,
  ⟨some 6,none,.no,.alloc [(.int .i64 0), (.str []), .nilsl]⟩,
  ⟨some 7,none,.no,.mv (.v (.int .i64 0))⟩]
@[go_sem] def q15r1 : List AIns := [
  ⟨some 11,none,.no,.mv (.t 0)⟩,
  ⟨some 12,none,.no,.bin .eql .ptr (.t 11) (.v .nilp)⟩,
  ⟨some 13,none,.no,.mv (.t 12)⟩,
  ⟨some 14, some (13, false), .no, .mv (.t 0)⟩,
  ⟨some 15, some (13, false), .no, .nilc (.t 14)⟩,
  ⟨some 16, some (13, false), .no, .fa 0 (.t 15)⟩,
  ⟨some 17, some (13, false), .no, .load false 1 (.t 16)⟩,
  ⟨some 18, some (13, false), .no, .un .not (.t 17)⟩,
  ⟨some 19,none,.no,.pick (.t 13) (.v (.bool true)) (.t 18)⟩,
  ⟨some 10,none,.no,.mv (.t 19)⟩]
@[go_sem] def q15r2 : List AIns := [
  ⟨some 20,none,.no,.build [(.int .i64 0), (.str []), .nilsl] []⟩,
  ⟨none,none,.no,.store 3 (.t 6) (.t 20)⟩,
  ⟨some 7,none,.no,.mv (.v (.int .i64 1))⟩]
def q15c3 : ACode := .seq (.reg q15r2) .ret
@[go_sem] def q15r4 : List AIns := [
  ⟨some 22,none,.no,.mv (.t 1)⟩,
  ⟨some 23,none,.no,.bin .lss .none (.t 22) (.v (.int .i64 0))⟩,
  ⟨some 24,none,.no,.mv (.t 23)⟩,
  ⟨some 25, some (24, false), .no, .mv (.t 1)⟩,
  ⟨some 26, some (24, false), .no, .bin .geq .none (.t 25) (.v (.int .i64 8))⟩,
  ⟨some 27,none,.no,.pick (.t 24) (.v (.bool true)) (.t 26)⟩,
  ⟨some 21,none,.no,.mv (.t 27)⟩]
@[go_sem] def q15r5 : List AIns := [
  ⟨some 28,none,.no,.build [(.int .i64 0), (.str []), .nilsl] []⟩,
  ⟨none,none,.no,.store 3 (.t 6) (.t 28)⟩,
  ⟨some 7,none,.no,.mv (.v (.int .i64 2))⟩]
def q15c6 : ACode := .seq (.reg q15r5) .ret
def q15c7 : ACode := .cond (.t 21) q15c6 .skip
def q15c8 : ACode := .seq (.reg q15r4) q15c7
def q15c9 : ACode := .cond (.t 10) q15c3 q15c8
def q15c10 : ACode := .seq (.reg q15r1) q15c9
@[go_sem] def q15r11 : List AIns := [
  ⟨some 30,none,.no,.mv (.t 0)⟩,
  ⟨some 31,none,.no,.nilc (.t 30)⟩,
  ⟨some 32,none,.no,.fa 2 (.t 31)⟩,
  ⟨some 33,none,.no,.slice (.arr 8 32) (.t 32) none none none⟩,
  ⟨some 34,none,.no,.mv (.t 1)⟩,
  ⟨some 35,none,.no,.call (.v (.fn 30 [])) [(.t 33), (.t 34)]⟩,
  ⟨some 29,none,.no,.mv (.t 35)⟩,
  ⟨some 36,none,.no,.ext 0 (.t 29)⟩,
  ⟨some 37,none,.no,.ext 1 (.t 29)⟩,
  ⟨some 8,none,.no,.mv (.t 36)⟩,
  ⟨some 9,none,.no,.mv (.t 37)⟩]
@[go_sem] def q15r12 : List AIns := [
  ⟨some 38,none,.no,.mv (.t 1)⟩,
  ⟨some 39,none,.no,.mv (.t 0)⟩,
  ⟨some 40,none,.no,.nilc (.t 39)⟩,
  ⟨some 41,none,.no,.fa 1 (.t 40)⟩,
  ⟨some 42, none, .rd, .load false 1 (.t 41)⟩,
  ⟨some 43,none,.no,.mv (.t 1)⟩,
  ⟨some 44, none, .rd, .load true 32 (.t 5)⟩,
  ⟨some 45,none,.no,.call (.v (.fn 60 [])) [(.t 42), (.t 43), (.t 44)]⟩,
  ⟨some 46,none,.no,.mv (.t 8)⟩,
  ⟨some 47,none,.no,.build [(.int .i64 0), (.str []), .nilsl] [(0, 1, (.t 38)), (1, 1, (.t 45)), (2, 1, (.t 46))]⟩,
  ⟨none,none,.no,.store 3 (.t 6) (.t 47)⟩,
  ⟨some 7,none,.no,.mv (.v (.int .i64 0))⟩]
def q15c13 : ACode := .seq (.reg q15r12) .ret
def q15c14 : ACode := .seq (.reg q15r11) q15c13
def q15c15 : ACode := .seq (.block 0 q15c10) q15c14
def q15c16 : ACode := .seq (.reg q15r0) q15c15
theorem q15ok : cFn TC 39 = some (48, [.c 6 true 3, .t 7], q15c16) := by kernel_rfl

@[go_sem] def q16r0 : List AIns := [
  ⟨some 3,none,.no,.box (.t 0)⟩,
  ⟨some 4,none,.no,.box (.t 1)⟩,
  ⟨some 5,none,.no,.box (.t 2)⟩,
  ⟨some 6,none,.no,.mv (.v (.int .i64 0))⟩]
@[go_sem] def q16r1 : List AIns := [
  ⟨some 9,none,.no,.fa 0 (.t 5)⟩,
  ⟨some 10,none,.no,.load false 1 (.t 9)⟩,
  ⟨some 11,none,.no,.bin .lss .none (.t 10) (.v (.int .i64 0))⟩,
  ⟨some 12,none,.no,.mv (.t 11)⟩,
  ⟨some 13, some (12, false), .no, .fa 0 (.t 5)⟩,
  ⟨some 14, some (12, false), .no, .load false 1 (.t 13)⟩,
  ⟨some 15, some (12, false), .no, .bin .geq .none (.t 14) (.v (.int .i64 8))⟩,
  ⟨some 16,none,.no,.pick (.t 12) (.v (.bool true)) (.t 15)⟩]
@[go_sem] def q16r2 : List AIns := [
  ⟨some 6,none,.no,.mv (.v (.int .i64 2))⟩]
def q16c3 : ACode := .seq (.reg q16r2) .ret
def q16c4 : ACode := .cond (.t 16) q16c3 .skip
def q16c5 : ACode := .seq (.reg q16r1) q16c4
@[go_sem] def q16r6 : List AIns := [
  ⟨some 18,none,.no,.fa 1 (.t 5)⟩,
  ⟨some 19,none,.no,.load false 1 (.t 18)⟩,
  ⟨some 20,none,.no,.load true 32 (.t 4)⟩,
  ⟨some 21,none,.no,.call (.v (.fn 66 [])) [(.t 19), (.t 20)]⟩,
  ⟨some 17,none,.no,.mv (.t 21)⟩,
  ⟨some 22,none,.no,.ext 0 (.t 17)⟩,
  ⟨some 23,none,.no,.ext 1 (.t 17)⟩,
  ⟨some 7,none,.no,.alloc zZ0⟩,
  ⟨none,none,.no,.store 32 (.t 7) (.t 22)⟩,
  ⟨some 8,none,.no,.mv (.t 23)⟩]
@[go_sem] def q16r7 : List AIns := [
  ⟨some 24,none,.no,.mv (.t 8)⟩,
  ⟨some 25,none,.no,.bin .neq .none (.t 24) (.v (.int .i64 0))⟩,
  ⟨some 26,none,.no,.mv (.t 25)⟩,
  ⟨some 27, some (26, false), .no, .load true 32 (.t 7)⟩,
  ⟨some 28, some (26, false), .no, .fa 0 (.t 5)⟩,
  ⟨some 29, some (26, false), .no, .load false 1 (.t 28)⟩,
  ⟨some 30, some (26, false), .no, .fa 2 (.t 5)⟩,
  ⟨some 31, some (26, false), .no, .load false 1 (.t 30)⟩,
  ⟨some 32, some (26, false), .no, .load true 32 (.t 3)⟩,
  ⟨some 33, some (26, false), .no, .call (.v (.fn 36 [])) [(.t 27), (.t 29), (.v (.int .i64 8)), (.t 31), (.t 32)]⟩,
  ⟨some 34, some (26, false), .no, .bin .neq .none (.t 33) (.v (.int .i64 0))⟩,
  ⟨some 35,none,.no,.pick (.t 26) (.v (.bool true)) (.t 34)⟩]
@[go_sem] def q16r8 : List AIns := [
  ⟨some 6,none,.no,.mv (.v (.int .i64 81))⟩]
def q16c9 : ACode := .seq (.reg q16r8) .ret
def q16c10 : ACode := .cond (.t 35) q16c9 .skip
def q16c11 : ACode := .seq (.reg q16r7) q16c10
@[go_sem] def q16r12 : List AIns := [
  ⟨some 6,none,.no,.mv (.v (.int .i64 0))⟩]
def q16c13 : ACode := .seq (.reg q16r12) .ret
def q16c14 : ACode := .seq q16c11 q16c13
def q16c15 : ACode := .seq (.reg q16r6) q16c14
def q16c16 : ACode := .seq q16c5 q16c15
def q16c17 : ACode := .seq (.reg q16r0) q16c16
theorem q16ok : cFn TC 45 = some (36, [.t 6], q16c17) := by kernel_rfl

end Am
end Go.Proofs.YtjgljhbmljgaeaaDoor
end
section
/- strings.Builder: the contracts of WriteString and WriteByte; a builder of one's own. -/
namespace Go.Proofs.YtjgljhbmljgaeaaDoor
namespace Am
attribute [local irreducible] ACallsTo ACallsP
theorem ze9 (Y : Store) (r : Nat) (t : List UInt8) (hr : Y[r]? = some (some [[.bld r, .bnil]])) (h0 : t ≠ []) (hl : t.length <= 1073741824) :
    ACallsTo TC 78 [.ptr r 0 0, .str t] Y (.tup [.int .i64 t.length, .any]) (Y.set r (some [[.bld r, .bsl Y.length t.length]]) ++ [some (zo t)]) := by
  have hz : t.length ≠ 0 := by simpa using h0
  have hs := slen hr
  have hc := zbc Y r _ hr
  refine ACallsTo.of_body_keep qzok (by simp) ?_
  repeat' (first|refine zW.zs ?_|refine zW.zb ?_|refine zW.zc ?_|refine zW.zt rfl ?_|refine zW.zf rfl ?_|(refine zW.zd rfl (fun ht => ?_) (fun ht => ?_)<;>try (exfalso;omega))|((first|refine zW.zr ?_|refine zW.zk ?_|refine zW.ze ?_|refine zW.zq ?_|(apply callW.mk_pu; (first | exact (fun _ => hc))) | (apply callW.za; (first | exact (hc))) | ((first|apply zg0|apply zg1|apply zg2|apply zg3|apply zg4|apply zg5|apply zg6|apply zg7)<;>intro ht));all_goals try simp (disch:=first|omega|(simp only [lens,z15,z14,List.length_drop];first|done|omega)) only [go_sem,reduceEqDiff,Nat.reduceBEq,reduceAdd,reduceMul,reduceSub,reduceLeDiff,reduceToNat,reducePow, hr, hz, hs, z43]))
theorem zea (Y : Store) (r rb : Nat) (s t : List UInt8) (hr : Y[r]? = some (some [[.bld r, .bsl rb s.length]])) (hb : Y[rb]? = some (some (zo s))) (hne : rb ≠ r) (h0 : t ≠ []) (hl : s.length + t.length <= 1073741824) :
    ACallsTo TC 78 [.ptr r 0 0, .str t] Y (.tup [.int .i64 t.length, .any]) ((Y.set rb none).set r (some [[.bld r, .bsl Y.length (s.length + t.length)]]) ++ [some (zo (s ++ t))]) := by
  have hz : t.length ≠ 0 := by simpa using h0
  have hs := slen hr
  have hc := zbc Y r _ hr
  refine ACallsTo.of_body_keep qzok (by simp) ?_
  repeat' (first|refine zW.zs ?_|refine zW.zb ?_|refine zW.zc ?_|refine zW.zt rfl ?_|refine zW.zf rfl ?_|(refine zW.zd rfl (fun ht => ?_) (fun ht => ?_)<;>try (exfalso;omega))|((first|refine zW.zr ?_|refine zW.zk ?_|refine zW.ze ?_|refine zW.zq ?_|(apply callW.mk_pu; (first | exact (fun _ => hc))) | (apply callW.za; (first | exact (hc))) | ((first|apply zg0|apply zg1|apply zg2|apply zg3|apply zg4|apply zg5|apply zg6|apply zg7)<;>intro ht));all_goals try simp (disch:=first|omega|(simp only [lens,z15,z14,List.length_drop];first|done|omega)) only [go_sem,reduceEqDiff,Nat.reduceBEq,reduceAdd,reduceMul,reduceSub,reduceLeDiff,reduceToNat,reducePow, hr, hb, hz, hs, hne, z43]))
theorem zj9 (Y : Store) (r : Nat) (b : UInt8) (hr : Y[r]? = some (some [[.bld r, .bnil]])) :
    ACallsTo TC 82 [.ptr r 0 0, .int .u8 b.toNat] Y .any (Y.set r (some [[.bld r, .bsl Y.length 1]]) ++ [some (zo [b])]) := by
  have hs := slen hr
  have hc := zbc Y r _ hr
  have hb : zo [b] = [[.int .u8 b.toNat]] := rfl
  rw [hb]
  refine ACallsTo.of_body_keep q10ok (by simp) ?_
  repeat' (first|refine zW.zs ?_|refine zW.zb ?_|refine zW.zc ?_|refine zW.zt rfl ?_|refine zW.zf rfl ?_|(refine zW.zd rfl (fun ht => ?_) (fun ht => ?_)<;>try (exfalso;omega))|((first|refine zW.zr ?_|refine zW.zk ?_|refine zW.ze ?_|refine zW.zq ?_|(apply callW.mk_pu; (first | exact (fun _ => hc))) | (apply callW.za; (first | exact (hc))) | ((first|apply zg0|apply zg1|apply zg2|apply zg3|apply zg4|apply zg5|apply zg6|apply zg7)<;>intro ht));all_goals try simp (disch:=first|omega|(simp only [lens,z15,z14,List.length_drop];first|done|omega)) only [go_sem,reduceEqDiff,Nat.reduceBEq,reduceAdd,reduceMul,reduceSub,reduceLeDiff,reduceToNat,reducePow, hr, hs, z43]))
/-- A builder of one's own, with its bytes. -/
def BldN (G Y' : Store) (r : Nat) (s : List UInt8) : Prop :=
  G.length <= r /\ (∃ news, Y' = G ++ news) /\ ((s = [] /\ Y'[r]? = some (some [[.bld r, .bnil]])) ∨
    (s ≠ [] /\ ∃ rb, G.length <= rb /\ rb ≠ r /\ Y'[r]? = some (some [[.bld r, .bsl rb s.length]]) /\ Y'[rb]? = some (some (zo s))))
theorem BldN.new {G news : Store} {r : Nat} (hr : G.length <= r) (h : (G ++ news)[r]? = some (some [[.bld r, .bnil]])) : BldN G (G ++ news) r [] := ⟨hr, ⟨news, rfl⟩, .inl ⟨rfl, h⟩⟩
theorem BldN.ext {G Y' : Store} {r : Nat} {s : List UInt8} (h : BldN G Y' r s) : ∃ news, Y' = G ++ news := h.2.1
theorem BldN.more {G Y' : Store} {r : Nat} {s : List UInt8} (h : BldN G Y' r s) (y : Store) : BldN G (Y' ++ y) r s := by
  obtain ⟨h1, ⟨news, rfl⟩, h2⟩ := h
  refine ⟨h1, ⟨news ++ y, by rw [List.append_assoc]⟩, ?_⟩
  rcases h2 with ⟨e, h2⟩ | ⟨e, rb, h3, h4, h5, h6⟩
  · exact .inl ⟨e, by rw [List.getElem?_append_left (slen h2)]; exact h2⟩
  · exact .inr ⟨e, rb, h3, h4, by rw [List.getElem?_append_left (slen h5)]; exact h5, by rw [List.getElem?_append_left (slen h6)]; exact h6⟩
theorem z8n {G news : Store} {r : Nat} (x : Option AObj) (h : G.length <= r) : (G ++ news).set r x = G ++ news.set (r - G.length) x := by rw [List.set_append_right _ _ h]
theorem BldN.write {G Y' : Store} {r : Nat} {s t : List UInt8} (h : BldN G Y' r s) (h0 : t ≠ []) (hl : s.length + t.length <= 1073741824) :
    ∃ Y2, ACallsTo TC 78 [.ptr r 0 0, .str t] Y' (.tup [.int .i64 t.length, .any]) Y2 /\ BldN G Y2 r (s ++ t) := by
  obtain ⟨h1, ⟨news, rfl⟩, ⟨rfl, h2⟩ | ⟨e, rb, h3, h4, h5, h6⟩⟩ := h
  · refine ⟨_, ze9 _ r t h2 h0 (by simpa using hl), h1, ⟨_, by rw [z8n _ h1, List.append_assoc]⟩, .inr ⟨by simpa using h0, (G ++ news).length, by simp, ?_, ?_, ?_⟩⟩
    · have := slen h2; omega
    · rw [List.getElem?_append_left (by rw [List.length_set]; exact slen h2), List.getElem?_set_self (slen h2)]; rfl
    · rw [List.getElem?_append_right (by rw [List.length_set]; exact Nat.le_refl _), List.length_set, Nat.sub_self]; rfl
  · refine ⟨_, zea _ r rb s t h5 h6 h4 h0 hl, h1, ⟨_, by rw [z8n _ h3, z8n _ h1, List.append_assoc]⟩, .inr ⟨by simp [e], (G ++ news).length, by simp, ?_, ?_, ?_⟩⟩
    · have := slen h5; omega
    · rw [List.getElem?_append_left (by rw [List.length_set, List.length_set]; exact slen h5), List.getElem?_set_self (by rw [List.length_set]; exact slen h5)]; simp
    · rw [List.getElem?_append_right (by rw [List.length_set, List.length_set]; exact Nat.le_refl _), List.length_set, List.length_set, Nat.sub_self]; rfl
theorem BldN.byte {G Y' : Store} {r : Nat} (b : UInt8) (h : BldN G Y' r []) : ∃ Y2, ACallsTo TC 82 [.ptr r 0 0, .int .u8 b.toNat] Y' .any Y2 /\ BldN G Y2 r [b] := by
  obtain ⟨h1, ⟨news, rfl⟩, ⟨_, h2⟩ | ⟨e, _⟩⟩ := h
  · refine ⟨_, zj9 _ r b h2, h1, ⟨_, by rw [z8n _ h1, List.append_assoc]⟩, .inr ⟨by simp, (G ++ news).length, by simp, ?_, ?_, ?_⟩⟩
    · have := slen h2; omega
    · rw [List.getElem?_append_left (by rw [List.length_set]; exact slen h2), List.getElem?_set_self (slen h2)]; rfl
    · rw [List.getElem?_append_right (by rw [List.length_set]; exact Nat.le_refl _), List.length_set, Nat.sub_self]; rfl
  · exact absurd rfl e
theorem BldN.string {G Y' : Store} {r : Nat} {s : List UInt8} (h : BldN G Y' r s) (h0 : s ≠ []) (hl : s.length <= 1073741824) :
    ∃ news, ACallsTo TC 80 [.ptr r 0 0] Y' (.str s) (G ++ news) := by
  obtain ⟨h1, ⟨news, rfl⟩, ⟨rfl, h2⟩ | ⟨e, rb, h3, h4, h5, h6⟩⟩ := h
  · exact absurd rfl h0
  · have := zb0 _ r rb s h0 hl h5 h6
    rw [z8n _ h3] at this
    exact ⟨_, this⟩
end Am
end Go.Proofs.YtjgljhbmljgaeaaDoor
end
section
/- Codec: contracts: the program's list. -/
namespace Go.Proofs.YtjgljhbmljgaeaaDoor
namespace Am
attribute [local irreducible] ACallsTo ACallsP
theorem z62 (Y : Store) (h : Hash) : ACallsTo TC 62 [.agg (hc h)] Y (.str h.1) Y := z7x Y h.1 h.2
end Am
end Go.Proofs.YtjgljhbmljgaeaaDoor
end
section
/- Lamport: contracts: shown, Leaf. -/
namespace Go.Proofs.YtjgljhbmljgaeaaDoor
namespace Am
attribute [local irreducible] ACallsTo ACallsP
def z5s (s : List UInt8) : Hash := shaH (3 :: s)
def z26 (hs : List Hash) : Hash := if hs.length = 512 then shaH (4 :: catS hs) else zeroH
theorem zbo (h : Hash) : h.1 ≠ [] := fun e => by have := h.2; rw [e] at this; simp at this
theorem z3r {k : Nat} (h : Hash) : RL k (.agg (hc h)) := by simp only [RL]; exact z6w h
theorem zbr : hc zeroH = [.int .u8 0, .int .u8 0, .int .u8 0, .int .u8 0, .int .u8 0, .int .u8 0, .int .u8 0, .int .u8 0, .int .u8 0, .int .u8 0, .int .u8 0, .int .u8 0, .int .u8 0, .int .u8 0, .int .u8 0, .int .u8 0, .int .u8 0, .int .u8 0, .int .u8 0, .int .u8 0, .int .u8 0, .int .u8 0, .int .u8 0, .int .u8 0, .int .u8 0, .int .u8 0, .int .u8 0, .int .u8 0, .int .u8 0, .int .u8 0, .int .u8 0, .int .u8 0] := rfl
theorem z8p (Y : Store) (s : List UInt8) (h : s.length < 100000000000) : ACallsTo TC 46 [.str s] Y (.agg (hc (shaH s))) Y := z73 Y s h
theorem zhw (Y : Store) (s : List UInt8) (h : s.length < 1000000) : ACallsTo TC 83 [.str s] Y (.agg (hc (z5s s))) Y := by
  have hS := fun Y => z8p Y (3 :: s) (by simp; omega)
  refine ACallsTo.of_body q11ok (by simp) fun hw _ => ?_
  unfold z5s
  repeat' (first|refine zW.zs ?_|refine zW.zb ?_|refine zW.zc ?_|refine zW.zt rfl ?_|refine zW.zf rfl ?_|(refine zW.zd rfl (fun ht => ?_) (fun ht => ?_)<;>try (exfalso;omega))|((first|refine zW.zr ?_|refine zW.zk ?_|refine zW.ze ?_|refine zW.zq ?_|(apply callW.mk_pu; (first | exact (fun _ => hS _))) | (apply callW.za; (first | exact (hS _))) | ((first|apply zg0|apply zg1|apply zg2|apply zg3|apply zg4|apply zg5|apply zg6|apply zg7)<;>intro ht));all_goals try simp (disch:=first|omega|(simp only [lens,z7,z6,List.length_reverse,z15,z14,List.length_drop];first|done|omega)) only [go_sem,reduceEqDiff,Nat.reduceBEq,reduceAdd,reduceMul,reduceSub,reduceLeDiff,reduceToNat,reducePow]))
  exact DownV.pure hw (z3r _)
set_option maxHeartbeats 4000000 in
theorem zdz (Y : Store) (hs : List Hash) (x : AV) (hx : SlV 32 (hr hs) x) (hl : hs.length < 1000000) : ACallsTo TC 64 [x] Y (.agg (hc (z26 hs))) Y := by
  refine ACallsTo.of_body qvok (by simp) fun hw _ => ?_
  have r1 := hx.len
  rw [z6] at r1
  unfold z1j at r1
  unfold z26
  by_cases h5 : hs.length = 512
  · rw [if_pos h5]
    have h5' : (hs.length : Int) = 512 := by omega
    have hτ : (Y ++ [some [hc zeroH]]).length = Y.length + 1 := by simp
    have b0 : BldN (Y ++ [some [hc zeroH]]) (Y ++ [some [hc zeroH]] ++ [some [[.bld (Y.length + 1), .bnil]]]) (Y.length + 1) [] := BldN.new (by omega) (by rw [List.getElem?_append_right (by omega)]; simp)
    have out : ∀ {Y' : Store} {s : List UInt8}, BldN (Y ++ [some [hc zeroH]]) Y' (Y.length + 1) s -> Y'[Y.length]? = some (some [hc zeroH]) /\ Ext Y Y' := fun h => by
      obtain ⟨news, rfl⟩ := h.ext
      exact ⟨by simp, ⟨some [hc zeroH] :: news, by simp⟩⟩
    obtain ⟨Y1, w1, b1⟩ : ∃ Y1, ACallsTo TC 82 [.ptr (Y.length + 1) 0 0, .int .u8 4] (Y ++ [some [hc zeroH]] ++ [some [[AV.bld (Y.length + 1), AV.bnil]]]) .any Y1 /\ BldN (Y ++ [some [hc zeroH]]) Y1 (Y.length + 1) [4] := b0.byte 4
    rw [List.append_assoc, zbr] at w1
    repeat' (first|refine zW.zs ?_|refine zW.zb ?_|refine zW.zc ?_|refine zW.zt rfl ?_|refine zW.zf rfl ?_|(refine zW.zd rfl (fun ht => ?_) (fun ht => ?_)<;>try (exfalso;omega))|((first|refine zW.zr ?_|refine zW.zk ?_|refine zW.ze ?_|refine zW.zq ?_|(apply callW.mk_pu; (first | exact (fun _ => w1))) | (apply callW.za; (first | exact (w1))) | ((first|apply zg0|apply zg1|apply zg2|apply zg3|apply zg4|apply zg5|apply zg6|apply zg7)<;>intro ht));all_goals try simp (disch:=first|omega|(simp only [lens,z7,z6,List.length_reverse,z15,z14,List.length_drop];first|done|omega)) only [go_sem,reduceEqDiff,Nat.reduceBEq,reduceAdd,reduceMul,reduceSub,reduceLeDiff,reduceToNat,reducePow, r1, h5']))
    refine zW.loop (fun m O Y' => ∃ i : Nat, m + i = hs.length /\ BldN (Y ++ [some [hc zeroH]]) Y' (Y.length + 1) (4 :: catS (hs.take i)) /\ O 2 = .ptr Y.length 0 0 /\ O 3 = .ptr (Y.length + 1) 0 0 /\ O 11 = x /\ O 12 = .int .i64 512 /\ O 13 = .int .i64 i) hs.length ?_ ?_
    · exact ⟨0, by omega, by simpa [catS] using b1, by simp (disch:=first|omega|(simp only [lens,z7,z6,List.length_reverse,z15,z14,List.length_drop];first|done|omega)) only [go_sem,reduceEqDiff,Nat.reduceBEq,reduceAdd,reduceMul,reduceSub,reduceLeDiff,reduceToNat,reducePow], by simp (disch:=first|omega|(simp only [lens,z7,z6,List.length_reverse,z15,z14,List.length_drop];first|done|omega)) only [go_sem,reduceEqDiff,Nat.reduceBEq,reduceAdd,reduceMul,reduceSub,reduceLeDiff,reduceToNat,reducePow], by simp (disch:=first|omega|(simp only [lens,z7,z6,List.length_reverse,z15,z14,List.length_drop];first|done|omega)) only [go_sem,reduceEqDiff,Nat.reduceBEq,reduceAdd,reduceMul,reduceSub,reduceLeDiff,reduceToNat,reducePow], by simp (disch:=first|omega|(simp only [lens,z7,z6,List.length_reverse,z15,z14,List.length_drop];first|done|omega)) only [go_sem,reduceEqDiff,Nat.reduceBEq,reduceAdd,reduceMul,reduceSub,reduceLeDiff,reduceToNat,reducePow], by simp (disch:=first|omega|(simp only [lens,z7,z6,List.length_reverse,z15,z14,List.length_drop];first|done|omega)) only [go_sem,reduceEqDiff,Nat.reduceBEq,reduceAdd,reduceMul,reduceSub,reduceLeDiff,reduceToNat,reducePow]; rfl⟩
    · clear w1 b1 b0
      rintro m O Y' ⟨i, hm, hB, q2, q3, q11, q12, q13⟩
      have hcl := zb9 (hs.take i)
      rw [List.length_take] at hcl
      by_cases hi : i < hs.length
      · obtain ⟨e1, rfl⟩ := hx.vsl (by rw [z6]; omega)
        have hH := fun Y => z62 Y (hd hs i)
        have hst := zk9 hi
        have h32 := (hd hs i).2
        obtain ⟨Y2, w2, b2⟩ := (hB.more [some [hc (hd hs i)]]).write (t := (hd hs i).1) (zbo _) (by simp; omega)
        have hi5 : (i : Int) < 512 := by omega
        repeat' (first|refine zW.zs ?_|refine zW.zb ?_|refine zW.zc ?_|refine zW.zt rfl ?_|refine zW.zf rfl ?_|(refine zW.zd rfl (fun ht => ?_) (fun ht => ?_)<;>try (exfalso;omega))|((first|refine zW.zr ?_|refine zW.zk ?_|refine zW.ze ?_|refine zW.zq ?_|(apply callW.mk_pu; (first | exact (fun _ => hH _) | exact (fun _ => w2))) | (apply callW.za; (first | exact (hH _) | exact (w2))) | ((first|apply zg0|apply zg1|apply zg2|apply zg3|apply zg4|apply zg5|apply zg6|apply zg7)<;>intro ht));all_goals try simp (disch:=first|omega|(simp only [lens,z7,z6,List.length_reverse,z15,z14,List.length_drop];first|done|omega)) only [go_sem,reduceEqDiff,Nat.reduceBEq,reduceAdd,reduceMul,reduceSub,reduceLeDiff,reduceToNat,reducePow, q2, q3, q11, q12, q13, hi5]))
        refine ⟨m - 1, by omega, i + 1, by omega, ?_, by simp⟩
        rw [hst, <- List.cons_append]; exact b2
      · have e : hs.take i = hs := List.take_of_length_le (by omega)
        rw [e] at hB
        have hcl2 := zb9 hs
        obtain ⟨c0, he⟩ := out hB
        obtain ⟨news, w3⟩ := hB.string (by simp) (by simp; omega)
        have hi5 : ¬ (i : Int) < 512 := by omega
        have hS := fun Y => z8p Y (4 :: catS hs) (by simp; omega)
        have ha : Y ++ [some [hc zeroH]] ++ news = Y ++ (some [hc zeroH] :: news) := by simp
        rw [ha] at w3
        repeat' (first|refine zW.zs ?_|refine zW.zb ?_|refine zW.zc ?_|refine zW.zt rfl ?_|refine zW.zf rfl ?_|(refine zW.zd rfl (fun ht => ?_) (fun ht => ?_)<;>try (exfalso;omega))|((first|refine zW.zr ?_|refine zW.zk ?_|refine zW.ze ?_|refine zW.zq ?_|(apply callW.mk_pu; (first | exact (fun _ => w3) | exact (fun _ => hS _))) | (apply callW.za; (first | exact (w3) | exact (hS _))) | ((first|apply zg0|apply zg1|apply zg2|apply zg3|apply zg4|apply zg5|apply zg6|apply zg7)<;>intro ht));all_goals try simp (disch:=first|omega|(simp only [lens,z7,z6,List.length_reverse,z15,z14,List.length_drop];first|done|omega)) only [go_sem,reduceEqDiff,Nat.reduceBEq,reduceAdd,reduceMul,reduceSub,reduceLeDiff,reduceToNat,reducePow, q2, q3, q11, q12, q13, hi5]))
        exact DownV.pure hw (z3r _)
  · have h5' : ¬ (hs.length : Int) = 512 := by omega
    rw [if_neg h5]
    repeat' (first|refine zW.zs ?_|refine zW.zb ?_|refine zW.zc ?_|refine zW.zt rfl ?_|refine zW.zf rfl ?_|(refine zW.zd rfl (fun ht => ?_) (fun ht => ?_)<;>try (exfalso;omega))|((first|refine zW.zr ?_|refine zW.zk ?_|refine zW.ze ?_|refine zW.zq ?_|((first|apply zg0|apply zg1|apply zg2|apply zg3|apply zg4|apply zg5|apply zg6|apply zg7)<;>intro ht));all_goals try simp (disch:=first|omega|(simp only [lens,z7,z6,List.length_reverse,z15,z14,List.length_drop];first|done|omega)) only [go_sem,reduceEqDiff,Nat.reduceBEq,reduceAdd,reduceMul,reduceSub,reduceLeDiff,reduceToNat,reducePow, r1, h5']))
    exact DownV.pure hw (z3r zeroH)
end Am
end Go.Proofs.YtjgljhbmljgaeaaDoor
end
section
/- Lamport: contracts: the reference's Leaf. -/
namespace Go.Proofs.YtjgljhbmljgaeaaDoor
namespace Am
attribute [local irreducible] ACallsTo ACallsP
theorem Leaf_h (Y : Store) (hs : List Hash) (x : AV) (hx : RdSl Y 32 (hr hs) x) (hl : hs.length < 1000000) : ACallsTo TC 64 [x] Y (.agg (hc (z26 hs))) Y := by
  obtain ⟨x0, h0, hd⟩ := hx.lend (z2q hs)
  have := ACallsTo.lend glok (zdz [] hs x0 h0 hl) (drs1 hd)
  rwa [show sh Y.length (.agg (hc (z26 hs))) = .agg (hc (z26 hs)) from by simp only [sh, zal], z8o, List.append_nil] at this
theorem OwnR.appB {k : Nat} {Y' : Store} {v : AV} {es ys : List (List AV)} (h : OwnR 1 k Y' v es) : z3l Y' v ys = aApp Y' 1 v ys := by
  rcases h with ⟨rfl, rfl⟩ | ⟨r, _, _, rfl, h⟩ <;> rfl
end Am
end Go.Proofs.YtjgljhbmljgaeaaDoor
end
section
/- Lamport: contracts: Recover. -/
namespace Go.Proofs.YtjgljhbmljgaeaaDoor
namespace Am
def recS (sig d : List UInt8) (i : Nat) (L : List Hash) : List Hash :=
  (L.set (2 * i + bitS d i) (z5s ((sig.take (32 * i + 32)).drop (32 * i)))).set (2 * i + 1 - bitS d i) (toH ((sig.drop (8192 + 32 * i)).take 32))
def recF (sig d : List UInt8) : Nat -> List Hash
  | 0 => List.replicate 512 zeroH
  | i + 1 => recS sig d i (recF sig d i)
theorem z3f (sig d : List UInt8) : ∀ i, (recF sig d i).length = 512
  | 0 => by rw [recF, List.length_replicate]
  | i + 1 => by rw [recF, recS, List.length_set, List.length_set, z3f sig d i]
theorem z9j (s : List UInt8) (i : Int) : bitS s i <= 1 := by
  unfold bitS
  split <;> omega
def recV (sig d : List UInt8) : AV := if sig.length = 16384 then .tup [.agg (hc (z26 (recF sig d 256))), .int .i64 0] else .tup [.agg (hc zeroH), .int .i64 10]
theorem zfs : List.replicate 512 (hc zeroH) = hr (List.replicate 512 zeroH) := by rw [hr, List.map_replicate]
theorem rl_hi {k : Nat} {h : Hash} {e : Int} : RL k (.tup [.agg (hc h), .int .i64 e]) := by simp only [RL, RLs]; exact ⟨z6w h, trivial, trivial⟩
attribute [local irreducible] ACallsTo ACallsP
set_option maxHeartbeats 8000000 in
theorem zj2 (Y : Store) (sig : List UInt8) (dg : Hash) (hs : sig.length < 1000000) : ACallsTo TC 66 [.str sig, .agg (hc dg)] Y (recV sig dg.1) Y := by
  refine ACallsTo.of_body qyok (by simp) fun hw _ => ?_
  unfold recV
  by_cases hl : sig.length = 16384
  · have hl' : (sig.length : Int) = 16384 := by omega
    rw [if_pos hl]
    have hC := fun Y => z62 Y dg
    have hz := zfs
    rw [zbr] at hz
    repeat' (first|refine zW.zs ?_|refine zW.zb ?_|refine zW.zc ?_|refine zW.zt rfl ?_|refine zW.zf rfl ?_|(refine zW.zd rfl (fun ht => ?_) (fun ht => ?_)<;>try (exfalso;omega))|((first|refine zW.zr ?_|refine zW.zk ?_|refine zW.ze ?_|refine zW.zq ?_|(apply callW.mk_pu; (first | exact (fun _ => hC _))) | (apply callW.za; (first | exact (hC _))) | ((first|apply zg0|apply zg1|apply zg2|apply zg3|apply zg4|apply zg5|apply zg6|apply zg7)<;>intro ht));all_goals try simp (disch:=first|omega|(simp only [lens,z7,z6,List.length_reverse,z15,z14,List.length_drop,z3f];first|done|omega)) only [go_sem,reduceEqDiff,Nat.reduceBEq,reduceAdd,reduceMul,reduceSub,reduceLeDiff,reduceToNat,reducePow, hl', hz]))
    refine zW.loop (fun m O Y' => ∃ i : Nat, m + i = 256 /\ Ext Y Y' /\ Y'[Y.length + 1]? = some (some [hc zeroH]) /\ Y'[Y.length + 2]? = some (some (hr (recF sig dg.1 i))) /\ O 0 = .str sig /\ O 4 = .ptr (Y.length + 1) 0 0 /\ O 6 = .str dg.1 /\ O 7 = .sl (Y.length + 2) 0 512 (some 512) 32 /\ O 19 = .int .i64 i) 256 ?_ ?_
    · exact ⟨0, by omega, (Ext.refl Y).app, by rw [z1l (by omega), Nat.add_sub_cancel_left]; rfl, by rw [z1l (by omega), Nat.add_sub_cancel_left]; rfl, by simp (disch:=first|omega|(simp only [lens,z7,z6,List.length_reverse,z15,z14,List.length_drop,z3f];first|done|omega)) only [go_sem,reduceEqDiff,Nat.reduceBEq,reduceAdd,reduceMul,reduceSub,reduceLeDiff,reduceToNat,reducePow], by simp (disch:=first|omega|(simp only [lens,z7,z6,List.length_reverse,z15,z14,List.length_drop,z3f];first|done|omega)) only [go_sem,reduceEqDiff,Nat.reduceBEq,reduceAdd,reduceMul,reduceSub,reduceLeDiff,reduceToNat,reducePow], by simp (disch:=first|omega|(simp only [lens,z7,z6,List.length_reverse,z15,z14,List.length_drop,z3f];first|done|omega)) only [go_sem,reduceEqDiff,Nat.reduceBEq,reduceAdd,reduceMul,reduceSub,reduceLeDiff,reduceToNat,reducePow], by simp (disch:=first|omega|(simp only [lens,z7,z6,List.length_reverse,z15,z14,List.length_drop,z3f];first|done|omega)) only [go_sem,reduceEqDiff,Nat.reduceBEq,reduceAdd,reduceMul,reduceSub,reduceLeDiff,reduceToNat,reducePow], by simp (disch:=first|omega|(simp only [lens,z7,z6,List.length_reverse,z15,z14,List.length_drop,z3f];first|done|omega)) only [go_sem,reduceEqDiff,Nat.reduceBEq,reduceAdd,reduceMul,reduceSub,reduceLeDiff,reduceToNat,reducePow]; rfl⟩
    · rintro m O Y' ⟨i, hm, he, c1, c2, q0, q4, q6, q7, q19⟩
      have d1 := slen c1
      have d2 := slen c2
      have hrl := z3f sig dg.1 i
      by_cases hi : i < 256
      · have hi' : (i : Int) < 256 := by omega
        have hdl := dg.2
        have hB := fun Y => zei Y dg.1 i (by omega) (by omega)
        have hb1 := z9j dg.1 i
        have hnx : recF sig dg.1 (i + 1) = recS sig dg.1 i (recF sig dg.1 i) := rfl
        unfold recS at hnx
        have hSh := fun Y => zhw Y ((sig.take (32 * i + 32)).drop (32 * i)) (by rw [List.length_drop, List.length_take]; omega)
        have hU := fun Y => zkf Y (sig.drop (8192 + 32 * i)) (by rw [List.length_drop]; omega)
        rw [zic (by rw [List.length_drop]; omega), zid] at hU
        generalize recF sig dg.1 i = L at *
        generalize bitS dg.1 i = b at *
        generalize z5s ((sig.take (32 * i + 32)).drop (32 * i)) = A at *
        generalize toH ((sig.drop (8192 + 32 * i)).take 32) = B at *
        have n1 : ((i : Int) * 32).toNat = 32 * i := by omega
        have n2 : (((i : Int) + 1) * 32).toNat = 32 * i + 32 := by omega
        have n3 : ((256 + (i : Int)) * 32).toNat = 8192 + 32 * i := by omega
        have n4 : (2 * (i : Int) + b).toNat = 2 * i + b := by omega
        have n5 : (2 * (i : Int) + 1 - b).toNat = 2 * i + 1 - b := by omega
        have m1 : (L.set (2 * i + b) A).length = 512 := by rw [List.length_set]; exact hrl
        have g1 := z84 (l := L) (i := 2 * i + b) (by omega)
        have g2 := z84 (l := L.set (2 * i + b) A) (i := 2 * i + 1 - b) (by omega)
        repeat' (first|refine zW.zs ?_|refine zW.zb ?_|refine zW.zc ?_|refine zW.zt rfl ?_|refine zW.zf rfl ?_|(refine zW.zd rfl (fun ht => ?_) (fun ht => ?_)<;>try (exfalso;omega))|((first|refine zW.zr ?_|refine zW.zk ?_|refine zW.ze ?_|refine zW.zq ?_|(apply callW.mk_pu; (first | exact (fun _ => hB _) | exact (fun _ => hSh _) | exact (fun _ => hU _))) | (apply callW.za; (first | exact (hB _) | exact (hSh _) | exact (hU _))) | ((first|apply zg0|apply zg1|apply zg2|apply zg3|apply zg4|apply zg5|apply zg6|apply zg7)<;>intro ht));all_goals try simp (disch:=first|omega|(simp only [lens,z7,z6,List.length_reverse,z15,z14,List.length_drop,z3f];first|done|omega)) only [go_sem,reduceEqDiff,Nat.reduceBEq,reduceAdd,reduceMul,reduceSub,reduceLeDiff,reduceToNat,reducePow, q0, q4, q6, q7, q19, c1, c2, hi', hl', n1, n2, n3, n4, n5, hrl, m1, g1, g2]))
        exact ⟨m - 1, by omega, i + 1, by omega, he.set (by omega), by rw [hnx], by simp⟩
      · have hi' : ¬ (i : Int) < 256 := by omega
        obtain rfl : i = 256 := by omega
        have hL := fun y => Leaf_h (Y' ++ y) (recF sig dg.1 256) (.sl (Y.length + 2) 0 512 (some 512) 32) (.inr ⟨Y.length + 2, 0, some 512, hr (recF sig dg.1 256), by rw [z6, hrl], by rw [gapp d2]; exact c2, by rw [z6, hrl]; decide, by rw [List.drop_zero, List.take_of_length_le (Nat.le_refl _)]⟩) (by omega)
        have hL0 := hL []
        rw [List.append_nil] at hL0
        repeat' (first|refine zW.zs ?_|refine zW.zb ?_|refine zW.zc ?_|refine zW.zt rfl ?_|refine zW.zf rfl ?_|(refine zW.zd rfl (fun ht => ?_) (fun ht => ?_)<;>try (exfalso;omega))|((first|refine zW.zr ?_|refine zW.zk ?_|refine zW.ze ?_|refine zW.zq ?_|(apply callW.mk_pu; (first | exact (fun _ => hL0))) | (apply callW.za; (first | exact (hL0))) | ((first|apply zg0|apply zg1|apply zg2|apply zg3|apply zg4|apply zg5|apply zg6|apply zg7)<;>intro ht));all_goals try simp (disch:=first|omega|(simp only [lens,z7,z6,List.length_reverse,z15,z14,List.length_drop,z3f];first|done|omega)) only [go_sem,reduceEqDiff,Nat.reduceBEq,reduceAdd,reduceMul,reduceSub,reduceLeDiff,reduceToNat,reducePow, q0, q4, q6, q7, q19, c1, c2, hi']))
        exact Ext.pure hw (he.set (by omega)) rl_hi
  · have hl' : ¬ (sig.length : Int) = 16384 := by omega
    rw [if_neg hl]
    repeat' (first|refine zW.zs ?_|refine zW.zb ?_|refine zW.zc ?_|refine zW.zt rfl ?_|refine zW.zf rfl ?_|(refine zW.zd rfl (fun ht => ?_) (fun ht => ?_)<;>try (exfalso;omega))|((first|refine zW.zr ?_|refine zW.zk ?_|refine zW.ze ?_|refine zW.zq ?_|((first|apply zg0|apply zg1|apply zg2|apply zg3|apply zg4|apply zg5|apply zg6|apply zg7)<;>intro ht));all_goals try simp (disch:=first|omega|(simp only [lens,z7,z6,List.length_reverse,z15,z14,List.length_drop,z3f];first|done|omega)) only [go_sem,reduceEqDiff,Nat.reduceBEq,reduceAdd,reduceMul,reduceSub,reduceLeDiff,reduceToNat,reducePow, hl']))
    exact DownV.pure hw (rl_hi (h := zeroH))
end Am
end Go.Proofs.YtjgljhbmljgaeaaDoor
end
