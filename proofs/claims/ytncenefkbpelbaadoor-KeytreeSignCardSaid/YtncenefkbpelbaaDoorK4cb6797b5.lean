import Derived.Test.YtncenefkbpelbaaDoorK309174ad1
set_option linter.unusedSimpArgs false
set_option linter.unusedVariables false
open Nat (reduceEqDiff reduceAdd reduceMul reduceSub reduceLeDiff)
open Int (reduceToNat reducePow)
section
/- SHA-256: contracts: strings.Repeat (off the shelf), filled, Sum. -/
namespace Go.Proofs.YtncenefkbpelbaaDoor
namespace Am
open Go.RowKit
/-- A hash's cells. -/
def zm (l : List UInt8) : List AV := l.map fun b => .int .u8 b.toNat
theorem z24 {k : Nat} : ∀ (l : List UInt8), RLs k (zm l)
  | [] => by simp [zm, RLs]
  | _ :: l => by have := z24 (k := k) l; simp only [zm] at this; simp [zm, RLs, RL, this]
theorem Rel.below {C : Ctx} {J : Places} {Y : Store} {w w' : World} (h : Rel C J Y w) (hb : Below w.heap.size w w') : Step J w J w' /\ Rel C J Y w' := by
  have hs : Step J w J w' := ⟨fun r fl pl h => ⟨fl, h⟩, hb.size, fun b hb' _ => hb.block b hb', fun r pl h => .inl ⟨r, pl, h, rfl⟩, hb.os, hb.tape, hb.output⟩
  refine ⟨hs, h.len, fun r o hr => ?_, h.dead, h.inj, fun g cs hg => (h.gl g cs hg).mono hs⟩
  obtain ⟨pl, h1, h2⟩ := h.alive r o hr
  exact ⟨pl, h1, h2.mono hs (hb.block _ h2.lt)⟩
/-- A contract that lies elsewhere: the call leaves what was there. -/
theorem ACallsTo.of_calls {C : Ctx} {f : FuncId} {args : List AV} {Y : Store} {v : AV} (hc : (cFn C f).isSome = true)
    (h : ∀ (J : Places) (w : World) (cargs : List Value), VRt J w args cargs -> Calls C.P f cargs.toArray w fun e w' => ∃ cv, e = .returned cv /\ VR J w' v cv /\ Below w.heap.size w w') : ACallsTo C f args Y v Y := by
  obtain ⟨e, hc⟩ := Option.isSome_iff_exists.1 hc
  simp only [cFn, Option.bind_eq_some_iff] at hc
  obtain ⟨fn, hf, hc⟩ := hc
  split at hc
  · cases hc
  · rename_i hname
    simp only [Option.bind_eq_some_iff, Option.map_eq_some_iff] at hc
    obtain ⟨c, hb, _⟩ := hc
    intro J w cargs hR ha
    left
    constructor
    · have h1 : fn.name ≠ "runtime.NumGoroutine" := by simpa using hname
      simp [callFunc, hf, h1, hb]
    · refine (h J w cargs ha).mono ?_
      rintro e w' ⟨cv, rfl, hv, hbl⟩
      obtain ⟨s1, s2⟩ := hR.below hbl
      exact ⟨cv, J, rfl, s1, s2, hv⟩
theorem zp1 (b : UInt8) : ∀ n, Lib.repeatL [b] n = List.replicate n b := by
  intro n
  induction n with
  | zero => simp [Lib.repeatL]
  | succ n ih => simp [Lib.repeatL, List.replicate_succ] at ih ⊢ <;> simp [ih]
theorem zgm (Y : Store) (b : UInt8) (c : Nat) (h : c <= 1000000) : ACallsTo TC 138 [.str [b], .int .i64 c] Y (.str (List.replicate c b)) Y := by
  refine ACallsTo.of_calls (by kernel_rfl) ?_
  intro J w cargs ha
  simp only [VRt, VR] at ha
  obtain ⟨_, _, rfl, rfl, _, _, rfl, rfl, rfl⟩ := ha
  refine (Tryd.strings_Repeat ⟨[b].toArray⟩ c w (by omega) (by simp [ByteArray.size]; omega)).mono ?_
  rintro e w' ⟨rfl, hb⟩
  refine ⟨_, rfl, ?_, hb⟩
  simp only [VR]
  rw [zp1]
theorem zk7 (Y : Store) (s : List UInt8) (h : s.length < 1000000000000) : ACallsTo TC 122 [.str s] Y (.str (padS s)) Y := by
  refine ACallsTo.of_body qbok (by simp) fun hw _ => ?_
  obtain ⟨z, hz⟩ : ∃ z : Nat, z = (119 - s.length % 64) % 64 := ⟨_, rfl⟩
  have hz64 : z < 64 := by rw [hz]; exact Nat.mod_lt _ (by decide)
  have hz2 : (119 - (s.length : Int) % 64) % 64 = z := by omega
  have hp : putS ((s.length : Int) * 8) 8 = be 8 (s.length * 8) := by
    unfold putS
    rw [if_pos (by omega)]
    rfl
  have hpl : (be 8 (s.length * 8)).length = 8 := z36 _ _
  repeat' (first|refine zW.zs ?_|refine zW.zb ?_|refine zW.zc ?_|refine zW.zt rfl ?_|refine zW.zf rfl ?_|(refine zW.zd rfl (fun ht => ?_) (fun ht => ?_)<;>try (exfalso;omega))|((first|refine zW.zr ?_|refine zW.zk ?_|refine zW.ze ?_|refine zW.zq ?_|(apply callW.mk_pu; (first | exact (fun _ => zgm _ 0 z (by omega)) | exact (fun _ => z6k _ ((s.length : Int) * 8) 8 (by omega) (by omega)))) | (apply callW.za; (first | exact (zgm _ 0 z (by omega)) | exact (z6k _ ((s.length : Int) * 8) 8 (by omega) (by omega)))) | ((first|apply zg0|apply zg1|apply zg2|apply zg3|apply zg4|apply zg5|apply zg6|apply zg7)<;>intro ht));all_goals try simp (disch:=first|omega|(simp only [lens];first|done|omega)) only [go_sem,reduceEqDiff,Nat.reduceBEq,reduceAdd,reduceMul,reduceSub,reduceLeDiff,reduceToNat,reducePow, hz2, hp, hpl, List.length_replicate]))
  have e : s ++ ([128] ++ (List.replicate z 0 ++ be 8 (s.length * 8))) = padS s := by unfold padS; rw [<- hz]; rfl
  rw [show s ++ 128 :: (List.replicate z 0 ++ be 8 (s.length * 8)) = padS s by unfold padS; rw [<- hz]]
  exact DownV.same hw (z11 _ rfl)
theorem zfy (s : List UInt8) : (padS s).length % 64 = 0 /\ (padS s).length < s.length + 80 := by
  unfold padS
  simp only [List.length_append, List.length_cons, List.length_replicate, z36]
  omega
theorem zke : zbm = v0.c8 := rfl
theorem put4 (x : W) : putS (x.toNat : Int) 4 = be 4 x.toNat := by
  unfold putS
  rw [if_pos (by omega)]
  rfl
theorem mix_c8 (Y : Store) (v : V8) (s : List UInt8) (h : 64 <= s.length) (hs : s.length < 9223372036854775808) : ACallsTo TC 123 [.agg v.c8, .str s] Y (.agg (mixS v s).c8) Y := mix_to Y v s h hs
theorem zkb {l : List W} {j : Nat} (h : j < l.length) : (l.flatMap fun x => be 4 x.toNat).take (4 * j) ++ be 4 (l[j]).toNat = (l.flatMap fun x => be 4 x.toNat).take (4 * (j + 1)) := by
  induction l generalizing j with
  | nil => simp at h
  | cons x l ih =>
    have hb : (be 4 x.toNat).length = 4 := z36 _ _
    rw [List.flatMap_cons]
    cases j with
    | zero =>
      simp only [Nat.mul_zero, List.take_zero, List.nil_append, List.getElem_cons_zero, Nat.zero_add, Nat.mul_one]
      rw [List.take_append_of_le_length (by omega), List.take_of_length_le (by omega)]
    | succ j =>
      simp only [List.length_cons] at h
      have e1 : (be 4 x.toNat).take (4 * (j + 1)) = be 4 x.toNat := List.take_of_length_le (by omega)
      have e2 : (be 4 x.toNat).take (4 * (j + 1 + 1)) = be 4 x.toNat := List.take_of_length_le (by omega)
      rw [List.getElem_cons_succ, List.take_append, List.take_append, e1, e2, hb, List.append_assoc, show 4 * (j + 1) - 4 = 4 * j by omega, show 4 * (j + 1 + 1) - 4 = 4 * (j + 1) by omega, ih (by omega)]
theorem z48 (v : V8) : (outV v).length = 32 := by
  simp [outV, V8.l, z36]
def z3n (v : V8) (j : Nat) : List AV := zm ((outV v).take (4 * j)) ++ List.replicate (32 - 4 * j) (.int .u8 0)
theorem zo (l : List UInt8) : (zm l).length = l.length := by simp [zm]
theorem zkq (v : V8) {j : Nat} (h : j <= 8) : (z3n v j).length = 32 := by
  simp [z3n, zo, z48]; omega
theorem ze4 (l : List UInt8) : (z8 l).flatten = zm l := by
  induction l with
  | nil => rfl
  | cons b l ih => simp [z8, zm, B8] at ih ⊢; exact ih
theorem zkr (v : V8) {j : Nat} (h : j < 8) : z12 (z3n v j) (4 * j) (zm (be 4 (wat v.l j).toNat)) = z3n v (j + 1) := by
  have hl : v.l.length = 8 := rfl
  have e := zkb (l := v.l) (j := j) (by omega)
  have hw : wat v.l j = v.l[j]'(by omega) := by simp [wat, List.getD_eq_getElem?_getD, List.getElem?_eq_getElem (show j < v.l.length by omega)]
  have h1 : (zm ((outV v).take (4 * j))).length = 4 * j := by rw [zo, List.length_take, z48]; omega
  have h2 : (zm (be 4 (wat v.l j).toNat)).length = 4 := by rw [zo, z36]
  unfold z12 z3n
  rw [List.take_append_of_le_length (by omega), List.take_of_length_le (by omega), List.drop_append, List.drop_of_length_le (by omega), h1, h2, List.nil_append]
  rw [show 4 * j + 4 - 4 * j = 4 by omega, List.drop_replicate, show 32 - 4 * j - 4 = 32 - 4 * (j + 1) by omega]
  congr 1
  unfold zm
  rw [<- List.map_append]
  congr 1
  rw [hw]
  exact e
set_option maxHeartbeats 4000000 in
theorem z7d (Y : Store) (s : List UInt8) (h : s.length < 100000000000) : ACallsTo TC 87 [.str s] Y (.agg (zm (shaS s))) Y := by
  obtain ⟨p, hp⟩ : ∃ p, p = padS s := ⟨_, rfl⟩
  obtain ⟨hp1, hp2⟩ := zfy s
  rw [<- hp] at hp1 hp2
  obtain ⟨N, hN⟩ : ∃ N, p.length = 64 * N := ⟨p.length / 64, by omega⟩
  obtain ⟨V, hV⟩ : ∃ V, V = blocks N v0 p := ⟨_, rfl⟩
  have hS : shaS s = outV V := by
    unfold shaS
    rw [<- hp, hV]
    have : p.length / 64 = N := by omega
    rw [this]
  rw [hS]
  have hf := fun Y => zk7 Y s (by omega)
  rw [<- hp] at hf
  refine ACallsTo.of_body q8ok (by simp) fun hw _ => ?_
  repeat' (first|refine zW.zs ?_|refine zW.zb ?_|refine zW.zc ?_|refine zW.zt rfl ?_|refine zW.zf rfl ?_|(refine zW.zd rfl (fun ht => ?_) (fun ht => ?_)<;>try (exfalso;omega))|((first|refine zW.zr ?_|refine zW.zk ?_|refine zW.ze ?_|refine zW.zq ?_|(apply callW.mk_pu; (first | exact (fun _ => hf _))) | (apply callW.za; (first | exact (hf _))) | ((first|apply zg0|apply zg1|apply zg2|apply zg3|apply zg4|apply zg5|apply zg6|apply zg7)<;>intro ht));all_goals try simp (disch:=first|omega|(simp only [lens];first|done|omega)) only [go_sem,reduceEqDiff,Nat.reduceBEq,reduceAdd,reduceMul,reduceSub,reduceLeDiff,reduceToNat,reducePow, zke, V8.c8]))
  refine zW.loop (fun m O Y' => ∃ u q, q.length = 64 * m /\ q.length <= p.length /\ blocks m u q = V /\ O 2 = .ptr Y.length 0 0 /\ O 3 = .ptr (Y.length + 1) 0 0 /\ O 4 = .str q /\ Y' = Y ++ [some [zm (List.replicate 32 0)], some [u.c8]]) N ?_ ?_
  · exact ⟨v0, p, hN, Nat.le_refl _, hV.symm, by simp (disch:=first|omega|(simp only [lens];first|done|omega)) only [go_sem,reduceEqDiff,Nat.reduceBEq,reduceAdd,reduceMul,reduceSub,reduceLeDiff,reduceToNat,reducePow], by simp (disch:=first|omega|(simp only [lens];first|done|omega)) only [go_sem,reduceEqDiff,Nat.reduceBEq,reduceAdd,reduceMul,reduceSub,reduceLeDiff,reduceToNat,reducePow], by simp (disch:=first|omega|(simp only [lens];first|done|omega)) only [go_sem,reduceEqDiff,Nat.reduceBEq,reduceAdd,reduceMul,reduceSub,reduceLeDiff,reduceToNat,reducePow], rfl⟩
  · rintro m O Y' ⟨u, q, hq, hqp, hb, q2, q3, q4, rfl⟩
    have hz : (zm (List.replicate 32 0)).length = 32 := rfl
    cases m with
    | succ m =>
      have hne : (q == []) = false := by cases q with
        | nil => simp at hq
        | cons a q => rfl
      have hmix := fun Y => mix_c8 Y u (q.take 64) (by rw [List.length_take]; omega) (by rw [List.length_take]; omega)
      obtain ⟨M, hM⟩ : ∃ M, M = mixS u (q.take 64) := ⟨_, rfl⟩
      rw [<- hM] at hmix
      have hb2 : blocks m M (q.drop 64) = V := by rw [hM]; exact hb
      unfold V8.c8 at hmix
      repeat' (first | refine zW.zs ?_ | refine zW.zb ?_ | refine zW.zc ?_ | refine zW.zt rfl ?_ | refine zW.zf rfl ?_ | (refine zW.zd rfl (fun ht => ?_) (fun ht => ?_) <;> try (exfalso; omega)) | ((first | refine zW.regS ?_ | refine zW.zk ?_ | refine zW.ze ?_ | refine zW.zq ?_ | (apply callW.mk_pu; (first | exact (fun _ => hmix _))) | (apply callW.za; (first | exact (hmix _))) | ((first|apply zg0|apply zg1|apply zg2|apply zg3|apply zg4|apply zg5|apply zg6|apply zg7)<;>intro ht));all_goals try simp (disch:=first|omega|(simp only [lens];first|done|omega)) only [go_sem,reduceEqDiff,Nat.reduceBEq,reduceAdd,reduceMul,reduceSub,reduceLeDiff,reduceToNat,reducePow, q2, q3, q4, hne, V8.c8]))
      refine ⟨m, by omega, M, q.drop 64, by rw [List.length_drop]; omega, by rw [List.length_drop]; omega, hb2, rfl, rfl⟩
    | zero =>
      have hq0 : q = [] := List.eq_nil_of_length_eq_zero (by omega)
      subst hq0
      have hu : u = V := hb
      subst hu
      repeat' (first|refine zW.zs ?_|refine zW.zb ?_|refine zW.zc ?_|refine zW.zt rfl ?_|refine zW.zf rfl ?_|(refine zW.zd rfl (fun ht => ?_) (fun ht => ?_)<;>try (exfalso;omega))|((first|refine zW.zr ?_|refine zW.zk ?_|refine zW.ze ?_|refine zW.zq ?_|((first|apply zg0|apply zg1|apply zg2|apply zg3|apply zg4|apply zg5|apply zg6|apply zg7)<;>intro ht));all_goals try simp (disch:=first|omega|(simp only [lens];first|done|omega)) only [go_sem,reduceEqDiff,Nat.reduceBEq,reduceAdd,reduceMul,reduceSub,reduceLeDiff,reduceToNat,reducePow, q2, q3, q4, V8.c8]))
      refine zW.loop (fun m O Y' => ∃ j : Nat, m + j = 8 /\ O 2 = .ptr Y.length 0 0 /\ O 5 = .ptr (Y.length + 2) 0 0 /\ O 19 = .agg u.c8 /\ O 20 = .int .i64 j /\ Y' = Y ++ [some [zm (List.replicate 32 0)], some [u.c8], some [z3n u j]]) 8 ?_ ?_
      · exact ⟨0, by omega, by simp (disch:=first|omega|(simp only [lens];first|done|omega)) only [go_sem,reduceEqDiff,Nat.reduceBEq,reduceAdd,reduceMul,reduceSub,reduceLeDiff,reduceToNat,reducePow, q2], by simp (disch:=first|omega|(simp only [lens];first|done|omega)) only [go_sem,reduceEqDiff,Nat.reduceBEq,reduceAdd,reduceMul,reduceSub,reduceLeDiff,reduceToNat,reducePow], by simp (disch:=first|omega|(simp only [lens];first|done|omega)) only [go_sem,reduceEqDiff,Nat.reduceBEq,reduceAdd,reduceMul,reduceSub,reduceLeDiff,reduceToNat,reducePow]; rfl, by simp (disch:=first|omega|(simp only [lens];first|done|omega)) only [go_sem,reduceEqDiff,Nat.reduceBEq,reduceAdd,reduceMul,reduceSub,reduceLeDiff,reduceToNat,reducePow]; rfl, rfl⟩
      · clear q2 q3 q4
        rintro m O Y' ⟨j, hm, q2, q5, q19, q20, rfl⟩
        have hlen := zkq u (j := j) (by omega)
        have h8 : u.c8.length = 8 := rfl
        by_cases hj : j < 8
        · have hst := zkr u hj
          have hw := z7j (w := u.l) (i := j) (by simpa [V8.l] using hj)
          rw [ws_l] at hw
          generalize wat u.l j = x at *
          generalize z3n u j = cc at *
          generalize hcc : z3n u (j + 1) = cc' at *
          have hx : x.toNat < 4294967296 := x.isLt
          have hb4 : (be 4 x.toNat).length = 4 := z36 _ _
          have ht4 : (z8 (be 4 x.toNat)).take (32 - 4 * j) = z8 (be 4 x.toNat) := List.take_of_length_le (by rw [zg, hb4]; omega)
          have hn4 : (4 * (j : Int)).toNat = 4 * j := by omega
          repeat' (first | refine zW.zs ?_ | refine zW.zb ?_ | refine zW.zc ?_ | refine zW.zt rfl ?_ | refine zW.zf rfl ?_ | (refine zW.zd rfl (fun ht => ?_) (fun ht => ?_) <;> try (exfalso; omega)) | ((first | refine zW.regS ?_ | refine zW.zk ?_ | refine zW.ze ?_ | refine zW.zq ?_ | (apply callW.mk_pu; (first | exact (fun _ => z6k _ _ _ (by omega) (by omega)))) | (apply callW.za; (first | exact (z6k _ _ _ (by omega) (by omega)))) | ((first|apply zg0|apply zg1|apply zg2|apply zg3|apply zg4|apply zg5|apply zg6|apply zg7)<;>intro ht));all_goals try simp (disch:=first|omega|(simp only [lens];first|done|omega)) only [go_sem,reduceEqDiff,Nat.reduceBEq,reduceAdd,reduceMul,reduceSub,reduceLeDiff,reduceToNat,reducePow, q2, q5, q19, q20, hlen, h8, hw, put4, hb4, ht4, hst, hn4, ze4]))
          unfold z12 at hst
          rw [List.append_assoc] at hst
          exact ⟨8 - (j + 1), by omega, j + 1, by omega, by simp, by rw [hst, hcc]⟩
        · obtain rfl : j = 8 := by omega
          have e8 : z3n u 8 = zm (outV u) := by
            unfold z3n
            rw [List.take_of_length_le (by rw [z48]; decide)]
            exact List.append_nil _
          have hd : List.drop 32 (zm (List.replicate 32 0)) = [] := rfl
          have hl : (zm (outV u)).length = 32 := by rw [zo, z48]
          rw [e8] at *
          repeat' (first|refine zW.zs ?_|refine zW.zb ?_|refine zW.zc ?_|refine zW.zt rfl ?_|refine zW.zf rfl ?_|(refine zW.zd rfl (fun ht => ?_) (fun ht => ?_)<;>try (exfalso;omega))|((first|refine zW.zr ?_|refine zW.zk ?_|refine zW.ze ?_|refine zW.zq ?_|((first|apply zg0|apply zg1|apply zg2|apply zg3|apply zg4|apply zg5|apply zg6|apply zg7)<;>intro ht));all_goals try simp (disch:=first|omega|(simp only [lens];first|done|omega)) only [go_sem,reduceEqDiff,Nat.reduceBEq,reduceAdd,reduceMul,reduceSub,reduceLeDiff,reduceToNat,reducePow, q2, q5, q19, q20, hl, h8, hd]))
          exact DownV.pure hw (z2q (z24 _))
end Am
end Go.Proofs.YtncenefkbpelbaaDoor
end
section
/- strings.Builder: the contracts of copyCheck and String over the abstract store. -/
namespace Go.Proofs
open Go.Shelf Go.RowKit
def Tryd.lays240_ren : Go.Shelf.Ren := ⟨fun | 240 => 141 | 276 => 153 | n => n, fun | 0 => 0 | 4 => 4 | 9 => 9 | 20 => 20 | 70 => 178 | 72 => 180 | 164 => 206 | 37 => 112 | n => n, fun | n => n⟩
theorem Tryd.lays240 : Go.Proofs.Lays.n240 Tryd.prog Tryd.lays240_ren := {
  mixed := by kernel_rfl
  f240 := Tryd.func141.trans (congrArg some (by kernel_rfl))
  f276 := Tryd.func153.trans (congrArg some (by kernel_rfl))
  t0 := Tryd.underlying0
  a0 := Tryd.isAgg0
  z0 := Tryd.sizeOf0
  v0 := Tryd.zeroValue0
  t4 := Tryd.underlying4
  a4 := Tryd.isAgg4
  z4 := Tryd.sizeOf4
  v4 := Tryd.zeroValue4
  t9 := Tryd.underlying9
  a9 := Tryd.isAgg9
  z9 := Tryd.sizeOf9
  v9 := Tryd.zeroValue9
  t20 := Tryd.underlying20
  a20 := Tryd.isAgg20
  z20 := Tryd.sizeOf20
  v20 := Tryd.zeroValue20
  t70 := Tryd.underlying178
  a70 := Tryd.isAgg178
  z70 := Tryd.sizeOf178
  v70 := Tryd.zeroValue178
  t72 := Tryd.underlying180
  a72 := Tryd.isAgg180
  z72 := Tryd.sizeOf180
  v72 := Tryd.zeroValue180
  t164 := Tryd.underlying206
  a164 := Tryd.isAgg206
  z164 := Tryd.sizeOf206
  v164 := Tryd.zeroValue206 }
theorem Tryd.x72_240 : Builder.X72 Tryd.prog Tryd.lays240_ren := {
  sizeBuilder := by kernel_rfl
  liesBuilder := by kernel_rfl }
section
variable {P : Program} {O : Ren}
set_option maxHeartbeats 1000000 in
set_option maxRecDepth 100000 in
/-- String, with all that it turns: the bytes are frozen. -/
theorem Tryd.string_ex (L : Lays.n169 P O) (X : Builder.Extra P O) (b g cap : Nat) (cur : Array Value) (p : Value) (fb fg : Nat × Nat) (l : List UInt8) (w : World) (h0 : l ≠ [])
    (hbk : w.heap[b]? = some (.cells #[p, .slice (some ⟨g, 0, none⟩) l.length cap] (O.t 72) fb)) (hg : w.heap[g]? = some (.cells cur (O.t 5) fg)) (hnc : l.length <= cap) (hcs : l.length <= cur.size) (hln : l.length <= 9223372036854775807)
    (hcl : ∀ j x, l[j]? = some x -> w.cell? ((⟨g, 0, none⟩ : Addr).add j) = some (.int .u8 x.toNat)) :
    Calls P (O.f 169) #[.pointer (some ⟨b, 0, none⟩)] w fun e w' => e = .returned (.string ⟨l.toArray⟩) /\ w' = w.drew.freeze ⟨g, 0, none⟩ l.length := by
  have hl0 : l.length ≠ 0 := by simpa using h0
  have c1 : w.drew.cell? ⟨b, 1, none⟩ = some (.slice (some ⟨g, 0, none⟩) l.length cap) := by
    have : w.drew.heap[b]? = some (.cells #[p, .slice (some ⟨g, 0, none⟩) l.length cap] (O.t 72) fb) := hbk
    rw [Lib.cell_of_heap this]; rfl
  have hSD : (Builtin.unsafeSliceData_ #[(O.t 37)] (O.t 127) #[.slice (some ⟨g, 0, none⟩) l.length cap]).run P w.drew = .ok (.pointer (some ⟨g, 0, none⟩)) w.drew :=
    Lib.run_unsafeSliceData_row _ _ _ _ _ _ (by omega)
  have hUS : (Builtin.unsafeString_ #[(O.t 127), (O.t 3)] (O.t 9) #[.pointer (some ⟨g, 0, none⟩), .int .i64 l.length]).run P w.drew = .ok (.string ⟨l.toArray⟩) (w.drew.freeze ⟨g, 0, none⟩ l.length) :=
    Lib.run_unsafeString_row w.drew (O.t 127) (O.t 3) (O.t 9) (O.t 5) L.t127 X.cellsByte g cur.size (by have hg' : w.drew.heap[g]? = some (.cells cur (O.t 5) fg) := hg; simp [World.shape?, hg']) l h0 hcs hln hcl
  have mixed := L.mixed
  have t72 := L.t72; have a72 := L.a72; have z72 := L.z72; have v72 := L.v72; have u72 := run_underlying L.t72
  have t70 := L.t70; have a70 := L.a70; have z70 := L.z70; have v70 := L.v70; have u70 := run_underlying L.t70
  have t37 := L.t37; have a37 := L.a37; have z37 := L.z37; have v37 := L.v37; have u37 := run_underlying L.t37
  have t127 := L.t127; have a127 := L.a127; have z127 := L.z127; have v127 := L.v127; have u127 := run_underlying L.t127
  have t3 := L.t3; have a3 := L.a3; have z3 := L.z3; have v3 := L.v3; have u3 := run_underlying L.t3
  have t9 := L.t9; have a9 := L.a9; have z9 := L.z9; have v9 := L.v9; have u9 := run_underlying L.t9
  have t5 := X.t5; have a5 := X.a5; have z5 := X.z5; have v5 := X.v5; have u5 := run_underlying X.t5
  clear hcl hcs hln hg hbk hnc
  go_enter L.f169, Body.n169_ntmps O
  go_wp2
  go_region_o
  all_goals (go_wp2; go_ret; exact ⟨rfl, rfl⟩)
end
end Go.Proofs
namespace Go.Proofs.YtncenefkbpelbaaDoor
namespace Am
open Go.RowKit
section
variable {C : Ctx} {J : Places} {Y : Store} {w w' : World}
/-- A row is lost: its block may become what it will. -/
theorem Rel.lose (h : Rel C J Y w) {r : Nat} {pl : Place} (hr : J[r]? = some (true, pl)) (hsz : w'.heap.size = w.heap.size) (hother : ∀ b, b ≠ pl.b -> w'.heap[b]? = w.heap[b]?) (ho : w'.os = w.os) (ht : w'.tape = w.tape) (hp : w'.output = w.output) :
    Step J w (J.set r (false, pl)) w' /\ Rel C (J.set r (false, pl)) (Y.set r none) w' := by
  obtain ⟨k1, k2⟩ := h.kill hr
  have hrl : r < J.length := (List.getElem?_eq_some_iff.1 hr).1
  have hs : Step J w (J.set r (false, pl)) w' := ⟨k1.keep, by omega, fun b _ hn => hother b fun e => hn r pl hr e.symm, fun q x hx => by
    rcases k1.new q x hx with h | h
    · exact .inl h
    · exact .inr h, ho, ht, hp⟩
  refine ⟨hs, by simp [h.len], fun q o hq => ?_, fun q hq => k2.dead q hq, fun q q' x x' h1 h2 h3 => k2.inj q q' x x' h1 h2 h3, fun g cs hg => (h.gl g cs hg).mono hs⟩
  by_cases e : r = q
  · subst e
    rw [List.getElem?_set_self (by rw [<- h.len]; exact hrl)] at hq; cases hq
  · rw [List.getElem?_set_ne e] at hq
    obtain ⟨x, h1, h2⟩ := h.alive q o hq
    exact ⟨x, by rw [List.getElem?_set_ne e]; exact h1, h2.mono hs (hother _ fun e' => e (h.inj r q pl x hr h1 e'.symm))⟩
/-- A builder in memory. -/
theorem Rel.bld_at (hR : Rel C J Y w) {r : Nat} {x : AV} (hr : Y[r]? = some (some [[.bld r, x]])) : ∃ (pl : Place) (v0 v1 : Value) (fz : Nat × Nat), J[r]? = some (true, pl) /\ pl.base = 0 /\ pl.esz = 2 /\ w.heap[pl.b]? = some (.cells #[v0, v1] bldT fz) ∧
    (v0 = .pointer none \/ v0 = .pointer (some ⟨pl.b, 0, none⟩)) /\ VR J w x v1 /\ (∀ k, k < 2 -> (decide (fz.1 <= k) && decide (k < fz.2)) = false) := by
  obtain ⟨pl, hpl, hok⟩ := hR.alive r _ hr
  obtain ⟨c, ty, fz, pre, mid, post, q1, q2, q3, q4, q5, q6⟩ := hok.ex
  simp only [List.flatten_cons, List.flatten_nil, List.append_nil, VRs] at q5
  obtain ⟨v0, _, rfl, ⟨k1, _⟩, v1, _, rfl, ⟨k2, _⟩, rfl⟩ := q5
  simp only [VR] at k1
  obtain ⟨fl, pl', hpl', ⟨e1, e2, e3, e4, e5⟩, k3⟩ := k1
  rw [hpl] at hpl'; cases hpl'
  have hty : ty = bldT := by
    obtain ⟨c0, fz0, h0⟩ := hok.tyk
    rw [q1] at h0; cases h0; exact e1
  have hpre : pre = [] := List.eq_nil_of_length_eq_zero (by omega)
  subst hpre
  have hlen : c.toList.length = 2 := by rw [Array.length_toList, q4, e5]
  have hpost : post = [] := by
    rw [q2] at hlen
    simpa using hlen
  subst hpost
  have hc : c = #[v0, v1] := by
    apply Array.ext'
    rw [q2]; rfl
  subst hc hty
  exact ⟨pl, v0, v1, fz, hpl, e2, e3, q1, k3, k2, fun k hk => q6 k hk⟩
end
theorem zpi {Y : Store} {r : Nat} {x : Option AObj} (h : Y[r]? = some x) : Y.set r x = Y := by
  apply List.ext_getElem?
  intro i
  by_cases e : r = i
  · subst e
    rw [List.getElem?_set_self (List.getElem?_eq_some_iff.1 h).1, h]
  · rw [List.getElem?_set_ne e]
theorem zb9 (Y : Store) (r : Nat) (x : AV) (hr : Y[r]? = some (some [[.bld r, x]])) : ACallsTo TC 141 [.ptr r 0 0] Y (.tup []) Y := by
  obtain ⟨e, hc⟩ := Option.isSome_iff_exists.1 (show (cFn TC 141).isSome = true by kernel_rfl)
  simp only [cFn, Option.bind_eq_some_iff] at hc
  obtain ⟨fn, hf, hc⟩ := hc
  split at hc
  · cases hc
  · rename_i hname
    simp only [Option.bind_eq_some_iff, Option.map_eq_some_iff] at hc
    obtain ⟨c, hb, _⟩ := hc
    intro J w cargs hR ha
    left
    constructor
    · have h1 : fn.name ≠ "runtime.NumGoroutine" := by simpa using hname
      simp [callFunc, hf, h1, hb]
    · obtain ⟨pl, v0, v1, fz, hpl, hb0, hez, hw, hv0, hv1, hfz⟩ := hR.bld_at hr
      simp only [VRt, VR] at ha
      obtain ⟨_, _, rfl, ⟨fl, pl', hpl', rfl⟩, rfl⟩ := ha
      rw [hpl] at hpl'; cases hpl'
      have ea : pl.base + 0 * pl.esz + 0 = 0 := by rw [hb0]; omega
      rw [ea]
      have hcell : w.cell? ⟨pl.b, 0, none⟩ = some v0 := by rw [Lib.cell_of_heap hw]; rfl
      rcases hv0 with rfl | rfl
      · refine (Any.Builder_copyCheck_fresh Tryd.lays240 Tryd.x72_240 pl.b w hcell (by simp [World.shape?, hw]; rfl) (by simp only [World.frozen?, hw]; exact hfz 0 (by omega))).mono ?_
        rintro e w' ⟨rfl, rfl⟩
        obtain ⟨w2, k1, k2, k3⟩ := hR.storeElem (i := 0) (off := 0) (vs := [.bld r]) (vals := [.pointer (some ⟨pl.b, 0, none⟩)]) hr hpl rfl (by simp) (VRs.one ⟨by
          simp only [VR]
          obtain ⟨pl2, hpl2, hok⟩ := hR.alive r _ hr
          rw [hpl] at hpl2; cases hpl2
          obtain ⟨c, ty, fz2, pre, mid, post, q1, q2, q3, q4, q5, q6⟩ := hok.ex
          simp only [List.flatten_cons, List.flatten_nil, List.append_nil, VRs, VR] at q5
          obtain ⟨u0, _, _, ⟨⟨fl3, pl3, hpl3, k, _⟩, _⟩, _⟩ := q5
          rw [hpl] at hpl3; cases hpl3
          exact ⟨true, pl, hpl, k, .inr rfl⟩, rfl⟩)
        rw [ea] at k1
        have e2 : w2 = w.setCell ⟨pl.b, 0, none⟩ (.pointer (some ⟨pl.b, 0, none⟩)) := by
          have hfr : w.frozen? ⟨pl.b, 0, none⟩ = false := by simp only [World.frozen?, hw]; exact hfz 0 (by omega)
          have hst : (store ⟨pl.b, 0, none⟩ (.pointer (some ⟨pl.b, 0, none⟩))).run TC.P w = .ok () (w.setCell ⟨pl.b, 0, none⟩ (.pointer (some ⟨pl.b, 0, none⟩))) := by
            rw [run_store TC.P w _ _ _ rfl, hcell]; simp [hfr]
          have := k1
          simp only [storeCells, z2i, Nat.add_zero, Sem.run_bind, hst, Result.andThen_ok, Sem.run_pure, Result.ok.injEq, true_and] at this
          exact this.symm
        rw [<- e2]
        have e3 : Y.set r (some ([[.bld r, x]].set 0 (z12 [.bld r, x] 0 [.bld r]))) = Y := by
          have : ([[AV.bld r, x]] : List (List AV)).set 0 (z12 [.bld r, x] 0 [.bld r]) = [[.bld r, x]] := by simp [z12]
          rw [this]
          exact zpi hr
        rw [e3] at k3
        exact ⟨_, J, rfl, k2, k3, by simp only [VR]; exact ⟨[], rfl, VRt.nil⟩⟩
      · refine (Any.Builder_copyCheck_used Tryd.lays240 Tryd.x72_240 pl.b w hcell).mono ?_
        rintro e w' ⟨rfl, rfl⟩
        exact ⟨_, J, rfl, Step.refl _ _, hR, by simp only [VR]; exact ⟨[], rfl, VRt.nil⟩⟩
theorem zay (Y : Store) (r rb : Nat) (s : List UInt8) (h0 : s ≠ []) (hs : s.length <= 1073741824) (h1 : Y[r]? = some (some [[.bld r, .bsl rb s.length]])) (h2 : Y[rb]? = some (some (z8 s))) :
    ACallsTo TC 126 [.ptr r 0 0] Y (.str s) (Y.set rb none) := by
  obtain ⟨e, hc⟩ := Option.isSome_iff_exists.1 (show (cFn TC 126).isSome = true by kernel_rfl)
  simp only [cFn, Option.bind_eq_some_iff] at hc
  obtain ⟨fn, hf, hc⟩ := hc
  split at hc
  · cases hc
  · rename_i hname
    simp only [Option.bind_eq_some_iff, Option.map_eq_some_iff] at hc
    obtain ⟨c, hb, _⟩ := hc
    intro J w cargs hR ha
    left
    constructor
    · have h1 : fn.name ≠ "runtime.NumGoroutine" := by simpa using hname
      simp [callFunc, hf, h1, hb]
    · obtain ⟨pl, v0, v1, fz, hpl, hb0, hez, hw, hv0, hv1, hfz⟩ := hR.bld_at h1
      simp only [VRt, VR] at ha
      obtain ⟨_, _, rfl, ⟨fl, pl', hpl', rfl⟩, rfl⟩ := ha
      rw [hpl] at hpl'; cases hpl'
      have ea : pl.base + 0 * pl.esz + 0 = 0 := by rw [hb0]; omega
      rw [ea]
      simp only [VR] at hv1
      obtain ⟨fl2, pb, cap, hpb, ⟨t1, t2, t3⟩, rfl, hso⟩ := hv1
      obtain ⟨pb', hpb', hok⟩ := hR.alive rb _ h2
      rw [hpb] at hpb'; cases hpb'
      obtain ⟨cur, ty, fg, pre, mid, post, q1, q2, q3, q4, q5, q6⟩ := hok.ex
      have hty : ty = u8T := by
        obtain ⟨c0, fz0, h0⟩ := hok.tyk
        rw [q1] at h0; cases h0; exact t1
      subst hty
      have hpre : pre = [] := List.eq_nil_of_length_eq_zero (by omega)
      subst hpre
      rw [zaz] at q5
      have hml := q5.length
      rw [List.length_map] at hml
      have hcs : s.length <= cur.size := by
        rw [<- Array.length_toList, q2]; simp; omega
      refine (Tryd.string_ex Tryd.lays169 Tryd.Builder_Extra_169 pl.b pb.b cap cur v0 fz fg s w h0 hw q1 hso.le hcs (by omega) (fun j x hj => ?_)).mono ?_
      · obtain ⟨v, k1, k2⟩ := q5.get (i := j) (a := B8 x) (by rw [List.getElem?_map, hj]; rfl)
        have hv := k2.1
        simp only [B8, VR] at hv
        rw [z2i, Nat.zero_add, Lib.cell_of_heap q1]
        show cur[j]? = _
        rw [<- Array.getElem?_toList, q2, List.nil_append, List.getElem?_append_left (by
          rcases Nat.lt_or_ge j mid.length with h | h
          · exact h
          · simp [List.getElem?_eq_none h] at k1), k1, hv]
      · rintro e w' ⟨rfl, rfl⟩
        have hz : s.length ≠ 0 := by simpa using h0
        obtain ⟨k1, k2⟩ := hR.lose (w' := w.drew.freeze ⟨pb.b, 0, none⟩ s.length) hpb (by show (World.freeze w.drew _ _).heap.size = w.drew.heap.size; unfold World.freeze; rw [if_neg hz]; exact Array.size_modify) (fun b hb => by
          show (World.freeze w.drew _ _).heap[b]? = w.drew.heap[b]?
          unfold World.freeze
          rw [if_neg hz]
          simp only [Array.getElem?_modify]
          rw [if_neg (fun e => hb e.symm)]) (by unfold World.freeze; rw [if_neg hz]; rfl) (by unfold World.freeze; rw [if_neg hz]; rfl) (by unfold World.freeze; rw [if_neg hz]; rfl)
        exact ⟨_, _, rfl, k1, k2, by simp only [VR]⟩
end Am
end Go.Proofs.YtncenefkbpelbaaDoor
end
section
/- SHA-256: contracts of the reference: pad. -/
namespace Go.Proofs.YtncenefkbpelbaaDoor
namespace Am
theorem zi4 {k : Nat} (l : List UInt8) : RLss k (z8 l) := by
  induction l with
  | nil => simp [z8, RLss]
  | cons b l ih => simp only [z8, B8] at ih; simp [z8, RLss, B8, RLs, RL, ih]
/-- Own bytes behind what was there. -/
def OwnB (Y Y' : Store) (v : AV) (b : List UInt8) : Prop := ∃ news j, Y' = Y ++ news /\ v = .sl (Y.length + j) 0 b.length none 1 /\ news[j]? = some (some (z8 b))
theorem OwnB.down {Y Y' : Store} {v : AV} {b : List UInt8} (hw : Wf Y.length Y) (h : OwnB Y Y' v b) : DownV Y.length v Y' (.vsl 1 (z8 b) false) Y := by
  obtain ⟨news, j, rfl, rfl, h⟩ := h
  have hl : (z8 b).length = b.length := zg b
  have e : ((z8 b).drop 0).take b.length = z8 b := by rw [List.drop_zero, List.take_of_length_le (by omega)]
  have := DownV.froze (off := 0) (len := b.length) (esz := 1) (lim := none) hw h (by omega) (by rw [e]; exact zi4 b)
  rw [e] at this
  exact this
theorem OwnB.app {Y Y' : Store} {r n : Nat} {b c : List UInt8} (h : OwnB Y Y' (.sl r 0 n none 1) b) : OwnB Y (Y'.set r none ++ [some (z8 c)]) (.sl Y'.length 0 c.length none 1) c := by
  obtain ⟨news, j, rfl, e, h⟩ := h
  simp only [AV.sl.injEq, true_and, and_true] at e
  obtain ⟨rfl, rfl⟩ := e
  refine ⟨news.set j none ++ [some (z8 c)], news.length, ?_, by simp, ?_⟩
  · rw [List.set_append_right _ _ (by omega), Nat.add_sub_cancel_left, List.append_assoc]
  · rw [List.getElem?_append_right (by simp)]; simp
theorem OwnB.get {Y Y' : Store} {v : AV} {b : List UInt8} (h : OwnB Y Y' v b) : ∃ r, v = .sl r 0 b.length none 1 /\ Y'[r]? = some (some (z8 b)) := by
  obtain ⟨news, j, rfl, rfl, h⟩ := h
  exact ⟨_, rfl, by rw [List.getElem?_append_right (by omega), Nat.add_sub_cancel_left]; exact h⟩
theorem ze5 (b : List UInt8) (x : Nat) (m : Int) (h : m = ((x % 256 : Nat) : Int)) : z8 b ++ [[AV.int .u8 m]] = z8 (b ++ [UInt8.ofNat x]) := by
  subst h
  simp [z8, B8]
theorem zil (x : Nat) {j : Nat} (h : j < 8) : (be 8 x).take j ++ [UInt8.ofNat (x / 2 ^ (8 * (7 - j)))] = (be 8 x).take (j + 1) := by
  have e : be 8 x = [UInt8.ofNat (x / 256 ^ 7), UInt8.ofNat (x / 256 ^ 6), UInt8.ofNat (x / 256 ^ 5), UInt8.ofNat (x / 256 ^ 4), UInt8.ofNat (x / 256 ^ 3), UInt8.ofNat (x / 256 ^ 2), UInt8.ofNat (x / 256 ^ 1), UInt8.ofNat (x / 256 ^ 0)] := by
    simp only [z7z]
    rfl
  rw [e]
  have hj : j = 0 \/ j = 1 \/ j = 2 \/ j = 3 \/ j = 4 \/ j = 5 \/ j = 6 \/ j = 7 := by omega
  rcases hj with rfl | rfl | rfl | rfl | rfl | rfl | rfl | rfl <;> rfl
set_option maxHeartbeats 4000000 in
theorem pad_to (Y : Store) (s : List UInt8) (h : s.length < 1000000000) : ACallsTo TC 114 [.str s] Y (.vsl 1 (z8 (padS s)) false) Y := by
  obtain ⟨z, hz⟩ : ∃ z : Nat, z = (119 - s.length % 64) % 64 := ⟨_, rfl⟩
  have hz64 : z < 64 := by rw [hz]; exact Nat.mod_lt _ (by decide)
  obtain ⟨P, hP⟩ : ∃ P, P = padS s := ⟨_, rfl⟩
  have hP2 : P = (s ++ 128 :: List.replicate z 0) ++ be 8 (s.length * 8) := by rw [hP, padS, hz]; simp
  rw [<- hP]
  refine ACallsTo.of_body q9ok (by simp) fun hw _ => ?_
  repeat' (first|refine zW.zs ?_|refine zW.zb ?_|refine zW.zc ?_|refine zW.zt rfl ?_|refine zW.zf rfl ?_|(refine zW.zd rfl (fun ht => ?_) (fun ht => ?_)<;>try (exfalso;omega))|((first|refine zW.zr ?_|refine zW.zk ?_|refine zW.ze ?_|refine zW.zq ?_|((first|apply zg0|apply zg1|apply zg2|apply zg3|apply zg4|apply zg5|apply zg6|apply zg7)<;>intro ht));all_goals try simp (disch:=first|omega|(simp only [lens];first|done|omega)) only [go_sem,reduceEqDiff,Nat.reduceBEq,reduceAdd,reduceMul,reduceSub,reduceLeDiff,reduceToNat,reducePow]))
  refine zW.loop (fun m O Y' => ∃ k : Nat, m + k = z /\ O 0 = .str s /\ OwnB Y Y' (O 3) (s ++ 128 :: List.replicate k 0)) z ?_ ?_
  · refine ⟨0, by omega, by simp (disch:=first|omega|(simp only [lens];first|done|omega)) only [go_sem,reduceEqDiff,Nat.reduceBEq,reduceAdd,reduceMul,reduceSub,reduceLeDiff,reduceToNat,reducePow], ?_⟩
    simp (disch:=first|omega|(simp only [lens];first|done|omega)) only [go_sem,reduceEqDiff,Nat.reduceBEq,reduceAdd,reduceMul,reduceSub,reduceLeDiff,reduceToNat,reducePow]
    refine ⟨[none, some (z8 (s ++ [128]))], 1, ?_, ?_, rfl⟩
    · simp [z8, B8]
    · simp
  · rintro m O Y' ⟨k, hm, q0, hO⟩
    obtain ⟨r, q3, hg⟩ := hO.get
    have hb : (s ++ 128 :: List.replicate k 0).length = s.length + 1 + k := by simp; omega
    have hbe := zg (s ++ 128 :: List.replicate k 0)
    by_cases hk : k < z
    · rw [q3] at hO
      rw [hb] at q3 hbe hO
      have e0 : z8 (s ++ 128 :: List.replicate k 0) ++ [[AV.int .u8 0]] = z8 (s ++ 128 :: List.replicate (k + 1) 0) := by
        rw [ze5 _ 0 0 (by simp), List.append_assoc, List.cons_append, List.replicate_succ']
        rfl
      have hO2 := hO.app (c := s ++ 128 :: List.replicate (k + 1) 0)
      have hc : (s ++ 128 :: List.replicate (k + 1) 0).length = s.length + 1 + k + 1 := by simp; omega
      rw [hc] at hO2
      generalize z8 (s ++ 128 :: List.replicate k 0) = bb at *
      repeat' (first|refine zW.zs ?_|refine zW.zb ?_|refine zW.zc ?_|refine zW.zt rfl ?_|refine zW.zf rfl ?_|(refine zW.zd rfl (fun ht => ?_) (fun ht => ?_)<;>try (exfalso;omega))|((first|refine zW.zr ?_|refine zW.zk ?_|refine zW.ze ?_|refine zW.zq ?_|((first|apply zg0|apply zg1|apply zg2|apply zg3|apply zg4|apply zg5|apply zg6|apply zg7)<;>intro ht));all_goals try simp (disch:=first|omega|(simp only [lens];first|done|omega)) only [go_sem,reduceEqDiff,Nat.reduceBEq,reduceAdd,reduceMul,reduceSub,reduceLeDiff,reduceToNat,reducePow, q0, q3, hg, hbe, e0]))
      exact ⟨z - (k + 1), by omega, k + 1, by omega, hO2⟩
    · obtain rfl : k = z := by omega
      obtain ⟨N, hN⟩ : ∃ N, N = s.length * 8 := ⟨_, rfl⟩
      have hN2 : (s.length : Int) * 8 = N := by omega
      have hb8 : (be 8 N).length = 8 := z36 _ _
      rw [<- hN] at hP2
      rw [hb] at q3 hbe
      have h56 : ((s.length : Int) + 1 + k) % 64 = 56 := by omega
      generalize hB : s ++ 128 :: List.replicate k 0 = B at *
      repeat' (first|refine zW.zs ?_|refine zW.zb ?_|refine zW.zc ?_|refine zW.zt rfl ?_|refine zW.zf rfl ?_|(refine zW.zd rfl (fun ht => ?_) (fun ht => ?_)<;>try (exfalso;omega))|((first|refine zW.zr ?_|refine zW.zk ?_|refine zW.ze ?_|refine zW.zq ?_|((first|apply zg0|apply zg1|apply zg2|apply zg3|apply zg4|apply zg5|apply zg6|apply zg7)<;>intro ht));all_goals try simp (disch:=first|omega|(simp only [lens];first|done|omega)) only [go_sem,reduceEqDiff,Nat.reduceBEq,reduceAdd,reduceMul,reduceSub,reduceLeDiff,reduceToNat,reducePow, q0, q3, h56, hN2, Int.natCast_add, Int.natCast_one]))
      refine zW.loop (fun m O Y' => ∃ j : Nat, m + j = 8 /\ O 4 = .int .u64 N /\ O 5 = .int .i64 (7 - j) /\ OwnB Y Y' (O 3) (B ++ (be 8 N).take j)) 8 ?_ ?_
      · refine ⟨0, by omega, by simp (disch:=first|omega|(simp only [lens];first|done|omega)) only [go_sem,reduceEqDiff,Nat.reduceBEq,reduceAdd,reduceMul,reduceSub,reduceLeDiff,reduceToNat,reducePow], by simp (disch:=first|omega|(simp only [lens];first|done|omega)) only [go_sem,reduceEqDiff,Nat.reduceBEq,reduceAdd,reduceMul,reduceSub,reduceLeDiff,reduceToNat,reducePow]; rfl, ?_⟩
        simp (disch:=first|omega|(simp only [lens];first|done|omega)) only [go_sem,reduceEqDiff,Nat.reduceBEq,reduceAdd,reduceMul,reduceSub,reduceLeDiff,reduceToNat,reducePow, q3]
        rw [q3] at hO
        exact hO
      · clear q0 q3 hO hg
        rintro m O Y' ⟨j, hm, q4, q5, hO⟩
        obtain ⟨r, q3, hg⟩ := hO.get
        have hl : (B ++ (be 8 N).take j).length = s.length + 1 + k + j := by rw [List.length_append, hb, List.length_take, hb8]; omega
        have hbe := zg (B ++ (be 8 N).take j)
        by_cases hj : j < 8
        · rw [q3] at hO
          rw [hl] at q3 hbe hO
          have hO2 := hO.app (c := B ++ (be 8 N).take (j + 1))
          have hc : (B ++ (be 8 N).take (j + 1)).length = s.length + 1 + k + j + 1 := by rw [List.length_append, hb, List.length_take, hb8]; omega
          rw [hc] at hO2
          have hs : (8 * (7 - (j : Int))).toNat = 8 * (7 - j) := by omega
          have e0 : z8 (B ++ (be 8 N).take j) ++ [[AV.int .u8 ((N : Int) / 2 ^ (8 * (7 - j)) % 256)]] = z8 (B ++ (be 8 N).take (j + 1)) := by
            rw [ze5 _ (N / 2 ^ (8 * (7 - j))) _ (by rw [Int.natCast_emod, Int.natCast_ediv, Int.natCast_pow]; rfl), List.append_assoc, zil N hj]
          generalize z8 (B ++ (be 8 N).take j) = bb at *
          repeat' (first|refine zW.zs ?_|refine zW.zb ?_|refine zW.zc ?_|refine zW.zt rfl ?_|refine zW.zf rfl ?_|(refine zW.zd rfl (fun ht => ?_) (fun ht => ?_)<;>try (exfalso;omega))|((first|refine zW.zr ?_|refine zW.zk ?_|refine zW.ze ?_|refine zW.zq ?_|((first|apply zg0|apply zg1|apply zg2|apply zg3|apply zg4|apply zg5|apply zg6|apply zg7)<;>intro ht));all_goals try simp (disch:=first|omega|(simp only [lens];first|done|omega)) only [go_sem,reduceEqDiff,Nat.reduceBEq,reduceAdd,reduceMul,reduceSub,reduceLeDiff,reduceToNat,reducePow, q3, q4, q5, hg, hbe, hs, e0]))
          exact ⟨8 - (j + 1), by omega, j + 1, by omega, by rw [show (7 : Int) - ((j + 1 : Nat) : Int) = 7 - j - 1 by omega], hO2⟩
        · obtain rfl : j = 8 := by omega
          have e8 : B ++ (be 8 N).take 8 = P := by rw [List.take_of_length_le (by omega)]; exact hP2.symm
          rw [e8] at hO q3
          repeat' (first|refine zW.zs ?_|refine zW.zb ?_|refine zW.zc ?_|refine zW.zt rfl ?_|refine zW.zf rfl ?_|(refine zW.zd rfl (fun ht => ?_) (fun ht => ?_)<;>try (exfalso;omega))|((first|refine zW.zr ?_|refine zW.zk ?_|refine zW.ze ?_|refine zW.zq ?_|((first|apply zg0|apply zg1|apply zg2|apply zg3|apply zg4|apply zg5|apply zg6|apply zg7)<;>intro ht));all_goals try simp (disch:=first|omega|(simp only [lens];first|done|omega)) only [go_sem,reduceEqDiff,Nat.reduceBEq,reduceAdd,reduceMul,reduceSub,reduceLeDiff,reduceToNat,reducePow, q3, q5]))
          rw [q3] at hO
          exact hO.down hw
end Am
end Go.Proofs.YtncenefkbpelbaaDoor
end
section
/- SHA-256: the reference's Sum: the words. -/
namespace Go.Proofs.YtncenefkbpelbaaDoor
namespace Am
def z32 : List AV := zm (List.replicate 32 0)
/-- What the reference has in memory. -/
def mkS (Z : Store) (u : V8) (cells : List AV) : Store := Z ++ [some [z32], some [gl_sha_rounds], some [u.c8], some [cells]]
def Rk (O : Env) (a : Nat) (p : List UInt8) (n : Nat) : Prop :=
  O 2 = .ptr a 0 0 /\ O 3 = .ptr (a + 1) 0 0 /\ O 4 = .ptr (a + 2) 0 0 /\ O 5 = .vsl 1 (z8 p) false /\ O 6 = .ptr (a + 3) 0 0 /\ O 7 = .int .i64 n
theorem zel {w : List W} {x : W} {n : Nat} {rest : List AV} (h : w.length = n) (hr : 0 < rest.length) : (ws w ++ rest).take n ++ AV.int .u32 x.toNat :: (ws w ++ rest).drop (n + 1) = ws (w ++ [x]) ++ rest.drop 1 := by
  have hl : (ws w).length = n := by rw [z3i, h]
  rw [List.take_append_of_le_length (by omega), List.take_of_length_le (by omega), List.drop_append, List.drop_of_length_le (by omega), hl]
  rw [show n + 1 - n = 1 by omega, List.nil_append]
  simp [ws, wc]
theorem zqt {p : List UInt8} {n i : Nat} (h : n + 4 * i + 4 <= p.length) (hi : i < 16) :
    ((p.getD (n + 4 * i) 0).toNat : Int) * 16777216 + (p.getD (n + 4 * i + 1) 0).toNat * 65536 + (p.getD (n + 4 * i + 2) 0).toNat * 256 + (p.getD (n + 4 * i + 3) 0).toNat = ((zh ((p.drop n).take 64) i).toNat : Int) := by
  have e : ((((p.drop n).take 64).drop (4 * i)).take 4) = [p.getD (n + 4 * i) 0, p.getD (n + 4 * i + 1) 0, p.getD (n + 4 * i + 2) 0, p.getD (n + 4 * i + 3) 0] := by
    rw [List.drop_take, List.take_take, List.drop_drop, show min 4 (64 - 4 * i) = 4 by omega]
    obtain ⟨A, hA⟩ : ∃ A, A = p.drop (n + 4 * i) := ⟨_, rfl⟩
    have g : ∀ k, p.getD (n + 4 * i + k) 0 = A.getD k 0 := by
      intro k
      rw [hA, List.getD_eq_getElem?_getD, List.getD_eq_getElem?_getD, List.getElem?_drop]
    have g0 := g 0
    rw [Nat.add_zero] at g0
    rw [g0, g 1, g 2, g 3, <- hA]
    have hl : 4 <= A.length := by rw [hA, List.length_drop]; omega
    match A, hl with
    | a :: b :: c :: d :: A, _ => rfl
  unfold zh
  rw [e]
  generalize p.getD (n + 4 * i) 0 = a
  generalize p.getD (n + 4 * i + 1) 0 = b
  generalize p.getD (n + 4 * i + 2) 0 = c
  generalize p.getD (n + 4 * i + 3) 0 = d
  have h1 := a.toNat_lt
  have h2 := b.toNat_lt
  have h3 := c.toNat_lt
  have h4 := d.toNat_lt
  simp only [getS, val, List.take_of_length_le (show [a, b, c, d].length <= 8 by simp), List.foldl_cons, List.foldl_nil, BitVec.toNat_ofNat]
  omega
section
variable {k : Nat} {Q : AExit -> Env -> Store -> Prop} {O : Env} {Z : Store} {u : V8} {p : List UInt8} {n : Nat}
set_option maxHeartbeats 4000000 in
theorem zp0 {cells : List AV} (K : Rk O Z.length p n) (hp : n + 64 <= p.length) (hpl : p.length < 2000000000) (hc : cells.length = 64)
    (hQ : ∀ O' rest, rest.length = 48 -> Rk O' Z.length p n -> Q .normal O' (mkS Z u (ws (zw ((p.drop n).take 64) 16) ++ rest))) : zW TC 252 k q7c21 Q O (mkS Z u cells) := by
  obtain ⟨k2, k3, k4, k5, k6, k7⟩ := K
  obtain ⟨q, hq⟩ : ∃ q, q = (p.drop n).take 64 := ⟨_, rfl⟩
  rw [<- hq] at hQ
  repeat' (first|refine zW.zs ?_|refine zW.zb ?_|refine zW.zc ?_|refine zW.zt rfl ?_|refine zW.zf rfl ?_|(refine zW.zd rfl (fun ht => ?_) (fun ht => ?_)<;>try (exfalso;omega))|((first|refine zW.zr ?_|refine zW.zk ?_|refine zW.ze ?_|refine zW.zq ?_|((first|apply zg0|apply zg1|apply zg2|apply zg3|apply zg4|apply zg5|apply zg6|apply zg7)<;>intro ht));all_goals try simp (disch:=first|omega|(simp only [lens];first|done|omega)) only [go_sem,reduceEqDiff,Nat.reduceBEq,reduceAdd,reduceMul,reduceSub,reduceLeDiff,reduceToNat,reducePow]))
  refine zW.loop (fun m O Y' => ∃ (i : Nat) (rest : List AV), m + i = 16 /\ rest.length = 64 - i /\ Rk O Z.length p n /\ O 8 = .int .i64 i /\ Y' = mkS Z u (ws (zw q i) ++ rest)) 16 ?_ ?_
  · exact ⟨0, cells, by omega, hc, ⟨by simp (disch:=first|omega|(simp only [lens];first|done|omega)) only [go_sem,reduceEqDiff,Nat.reduceBEq,reduceAdd,reduceMul,reduceSub,reduceLeDiff,reduceToNat,reducePow, k2], by simp (disch:=first|omega|(simp only [lens];first|done|omega)) only [go_sem,reduceEqDiff,Nat.reduceBEq,reduceAdd,reduceMul,reduceSub,reduceLeDiff,reduceToNat,reducePow, k3], by simp (disch:=first|omega|(simp only [lens];first|done|omega)) only [go_sem,reduceEqDiff,Nat.reduceBEq,reduceAdd,reduceMul,reduceSub,reduceLeDiff,reduceToNat,reducePow, k4], by simp (disch:=first|omega|(simp only [lens];first|done|omega)) only [go_sem,reduceEqDiff,Nat.reduceBEq,reduceAdd,reduceMul,reduceSub,reduceLeDiff,reduceToNat,reducePow, k5], by simp (disch:=first|omega|(simp only [lens];first|done|omega)) only [go_sem,reduceEqDiff,Nat.reduceBEq,reduceAdd,reduceMul,reduceSub,reduceLeDiff,reduceToNat,reducePow, k6], by simp (disch:=first|omega|(simp only [lens];first|done|omega)) only [go_sem,reduceEqDiff,Nat.reduceBEq,reduceAdd,reduceMul,reduceSub,reduceLeDiff,reduceToNat,reducePow, k7]⟩, by simp (disch:=first|omega|(simp only [lens];first|done|omega)) only [go_sem,reduceEqDiff,Nat.reduceBEq,reduceAdd,reduceMul,reduceSub,reduceLeDiff,reduceToNat,reducePow]; rfl, rfl⟩
  · rintro m O Y' ⟨i, rest, hm, hr, ⟨q2, q3, q4, q5, q6, q7⟩, q8, rfl⟩
    by_cases hi : i < 16
    · have hwd := zqt (p := p) (n := n) (i := i) (by omega) hi
      rw [<- hq] at hwd
      have hset := zel (x := zh q i) (rest := rest) (z3r q i) (by omega)
      have hlen : (ws (zw q i) ++ rest).length = 64 := by rw [List.length_append, z3i, z3r, hr]; omega
      have hsc : zw q (i + 1) = zw q i ++ [zh q i] := by rw [zw, z2g, z3r, if_pos hi]
      have n0 : ((n : Int) + 4 * i).toNat = n + 4 * i := by omega
      have n1 : ((n : Int) + 4 * i + 1).toNat = n + 4 * i + 1 := by omega
      have n2 : ((n : Int) + 4 * i + 2).toNat = n + 4 * i + 2 := by omega
      have n3 : ((n : Int) + 4 * i + 3).toNat = n + 4 * i + 3 := by omega
      have b0 := (p.getD (n + 4 * i) 0).toNat_lt
      have b1 := (p.getD (n + 4 * i + 1) 0).toNat_lt
      have b2 := (p.getD (n + 4 * i + 2) 0).toNat_lt
      have b3 := (p.getD (n + 4 * i + 3) 0).toNat_lt
      have g0 := zf3 (s := p) (i := n + 4 * i) (by omega)
      have e0 := z81 (s := p) (i := n + 4 * i) (by omega)
      have e1 := z81 (s := p) (i := n + 4 * i + 1) (by omega)
      have e2 := z81 (s := p) (i := n + 4 * i + 2) (by omega)
      have e3 := z81 (s := p) (i := n + 4 * i + 3) (by omega)
      have hpb := zg p
      unfold mkS
      generalize p.getD (n + 4 * i) 0 = x0 at *
      generalize p.getD (n + 4 * i + 1) 0 = x1 at *
      generalize p.getD (n + 4 * i + 2) 0 = x2 at *
      generalize p.getD (n + 4 * i + 3) 0 = x3 at *
      generalize hpb2 : z8 p = pb at *
      generalize hcc : ws (zw q i) ++ rest = cc at *
      repeat' (first | refine zW.zs ?_ | refine zW.zb ?_ | refine zW.zc ?_ | refine zW.zt rfl ?_ | refine zW.zf rfl ?_ | (refine zW.zd rfl (fun ht => ?_) (fun ht => ?_) <;> try (exfalso; omega)) | ((first | refine zW.regS ?_ | refine zW.zk ?_ | refine zW.ze ?_ | refine zW.zq ?_ | ((first|apply zg0|apply zg1|apply zg2|apply zg3|apply zg4|apply zg5|apply zg6|apply zg7)<;>intro ht));all_goals try simp (disch:=first|omega|(simp only [lens];first|done|omega)) only [go_sem,reduceEqDiff,Nat.reduceBEq,reduceAdd,reduceMul,reduceSub,reduceLeDiff,reduceToNat,reducePow, q2, q3, q4, q5, q6, q7, q8, hlen, n0, n1, n2, n3, e0, e1, e2, e3]))
      refine ⟨16 - (i + 1), by omega, i + 1, rest.drop 1, by omega, by rw [List.length_drop]; omega, ⟨by simp (disch:=first|omega|(simp only [lens];first|done|omega)) only [go_sem,reduceEqDiff,Nat.reduceBEq,reduceAdd,reduceMul,reduceSub,reduceLeDiff,reduceToNat,reducePow, q2], by simp (disch:=first|omega|(simp only [lens];first|done|omega)) only [go_sem,reduceEqDiff,Nat.reduceBEq,reduceAdd,reduceMul,reduceSub,reduceLeDiff,reduceToNat,reducePow, q3], by simp (disch:=first|omega|(simp only [lens];first|done|omega)) only [go_sem,reduceEqDiff,Nat.reduceBEq,reduceAdd,reduceMul,reduceSub,reduceLeDiff,reduceToNat,reducePow, q4], (by simp (disch:=first|omega|(simp only [lens];first|done|omega)) only [go_sem,reduceEqDiff,Nat.reduceBEq,reduceAdd,reduceMul,reduceSub,reduceLeDiff,reduceToNat,reducePow, q5]; rw [hpb2]), by simp (disch:=first|omega|(simp only [lens];first|done|omega)) only [go_sem,reduceEqDiff,Nat.reduceBEq,reduceAdd,reduceMul,reduceSub,reduceLeDiff,reduceToNat,reducePow, q6], by simp (disch:=first|omega|(simp only [lens];first|done|omega)) only [go_sem,reduceEqDiff,Nat.reduceBEq,reduceAdd,reduceMul,reduceSub,reduceLeDiff,reduceToNat,reducePow, q7]⟩, by simp, ?_⟩
      rw [hwd, hset, hsc]
    · obtain rfl : i = 16 := by omega
      repeat' (first|refine zW.zs ?_|refine zW.zb ?_|refine zW.zc ?_|refine zW.zt rfl ?_|refine zW.zf rfl ?_|(refine zW.zd rfl (fun ht => ?_) (fun ht => ?_)<;>try (exfalso;omega))|((first|refine zW.zr ?_|refine zW.zk ?_|refine zW.ze ?_|refine zW.zq ?_|((first|apply zg0|apply zg1|apply zg2|apply zg3|apply zg4|apply zg5|apply zg6|apply zg7)<;>intro ht));all_goals try simp (disch:=first|omega|(simp only [lens];first|done|omega)) only [go_sem,reduceEqDiff,Nat.reduceBEq,reduceAdd,reduceMul,reduceSub,reduceLeDiff,reduceToNat,reducePow, q8]))
      exact hQ _ rest (by omega) ⟨by simp (disch:=first|omega|(simp only [lens];first|done|omega)) only [go_sem,reduceEqDiff,Nat.reduceBEq,reduceAdd,reduceMul,reduceSub,reduceLeDiff,reduceToNat,reducePow, q2], by simp (disch:=first|omega|(simp only [lens];first|done|omega)) only [go_sem,reduceEqDiff,Nat.reduceBEq,reduceAdd,reduceMul,reduceSub,reduceLeDiff,reduceToNat,reducePow, q3], by simp (disch:=first|omega|(simp only [lens];first|done|omega)) only [go_sem,reduceEqDiff,Nat.reduceBEq,reduceAdd,reduceMul,reduceSub,reduceLeDiff,reduceToNat,reducePow, q4], by simp (disch:=first|omega|(simp only [lens];first|done|omega)) only [go_sem,reduceEqDiff,Nat.reduceBEq,reduceAdd,reduceMul,reduceSub,reduceLeDiff,reduceToNat,reducePow, q5], by simp (disch:=first|omega|(simp only [lens];first|done|omega)) only [go_sem,reduceEqDiff,Nat.reduceBEq,reduceAdd,reduceMul,reduceSub,reduceLeDiff,reduceToNat,reducePow, q6], by simp (disch:=first|omega|(simp only [lens];first|done|omega)) only [go_sem,reduceEqDiff,Nat.reduceBEq,reduceAdd,reduceMul,reduceSub,reduceLeDiff,reduceToNat,reducePow, q7]⟩
set_option maxHeartbeats 4000000 in
theorem zoz {q : List UInt8} {rest : List AV} (K : Rk O Z.length p n) (hr : rest.length = 48)
    (hQ : ∀ O', Rk O' Z.length p n -> Q .normal O' (mkS Z u (ws (zw q 64)))) : zW TC 252 k q7c34 Q O (mkS Z u (ws (zw q 16) ++ rest)) := by
  obtain ⟨R, hR⟩ : ∃ R, R = zw q 64 := ⟨_, rfl⟩
  rw [<- hR] at hQ
  obtain ⟨k2, k3, k4, k5, k6, k7⟩ := K
  repeat' (first|refine zW.zs ?_|refine zW.zb ?_|refine zW.zc ?_|refine zW.zt rfl ?_|refine zW.zf rfl ?_|(refine zW.zd rfl (fun ht => ?_) (fun ht => ?_)<;>try (exfalso;omega))|((first|refine zW.zr ?_|refine zW.zk ?_|refine zW.ze ?_|refine zW.zq ?_|((first|apply zg0|apply zg1|apply zg2|apply zg3|apply zg4|apply zg5|apply zg6|apply zg7)<;>intro ht));all_goals try simp (disch:=first|omega|(simp only [lens];first|done|omega)) only [go_sem,reduceEqDiff,Nat.reduceBEq,reduceAdd,reduceMul,reduceSub,reduceLeDiff,reduceToNat,reducePow]))
  refine zW.loop (fun m O Y' => ∃ (i : Nat) (rest : List AV), m + i = 64 /\ 16 <= i /\ rest.length = 64 - i /\ Rk O Z.length p n /\ O 10 = .int .i64 i /\ Y' = mkS Z u (ws (zw q i) ++ rest)) 48 ?_ ?_
  · exact ⟨16, rest, by omega, by omega, hr, ⟨by simp (disch:=first|omega|(simp only [lens];first|done|omega)) only [go_sem,reduceEqDiff,Nat.reduceBEq,reduceAdd,reduceMul,reduceSub,reduceLeDiff,reduceToNat,reducePow, k2], by simp (disch:=first|omega|(simp only [lens];first|done|omega)) only [go_sem,reduceEqDiff,Nat.reduceBEq,reduceAdd,reduceMul,reduceSub,reduceLeDiff,reduceToNat,reducePow, k3], by simp (disch:=first|omega|(simp only [lens];first|done|omega)) only [go_sem,reduceEqDiff,Nat.reduceBEq,reduceAdd,reduceMul,reduceSub,reduceLeDiff,reduceToNat,reducePow, k4], by simp (disch:=first|omega|(simp only [lens];first|done|omega)) only [go_sem,reduceEqDiff,Nat.reduceBEq,reduceAdd,reduceMul,reduceSub,reduceLeDiff,reduceToNat,reducePow, k5], by simp (disch:=first|omega|(simp only [lens];first|done|omega)) only [go_sem,reduceEqDiff,Nat.reduceBEq,reduceAdd,reduceMul,reduceSub,reduceLeDiff,reduceToNat,reducePow, k6], by simp (disch:=first|omega|(simp only [lens];first|done|omega)) only [go_sem,reduceEqDiff,Nat.reduceBEq,reduceAdd,reduceMul,reduceSub,reduceLeDiff,reduceToNat,reducePow, k7]⟩, by simp (disch:=first|omega|(simp only [lens];first|done|omega)) only [go_sem,reduceEqDiff,Nat.reduceBEq,reduceAdd,reduceMul,reduceSub,reduceLeDiff,reduceToNat,reducePow]; rfl, rfl⟩
  · clear hr
    rintro m O Y' ⟨i, rest, hm, h16, hr, ⟨q2, q3, q4, q5, q6, q7⟩, q10, rfl⟩
    have hsl := z3r q i
    by_cases hi : i < 64
    · have hset := zel (x := z2g q (zw q i)) (rest := rest) hsl (by omega)
      have hlen : (ws (zw q i) ++ rest).length = 64 := by rw [List.length_append, z3i, z3r, hr]; omega
      have hsc : zw q (i + 1) = zw q i ++ [z2g q (zw q i)] := by rw [zw]
      have en : z2g q (zw q i) = wat (zw q i) (i - 16) + wat (zw q i) (i - 7) + ss0 (wat (zw q i) (i - 15)) + ss1 (wat (zw q i) (i - 2)) := by rw [z2g, if_neg (by omega), hsl]
      have hwi : ∀ j, j < i -> (ws (zw q i) ++ rest)[j]? = some (.int .u32 (wat (zw q i) j).toNat) := by
        intro j hj
        rw [List.getElem?_append_left (by rw [z3i]; omega), z7j (by omega)]
      have g16 := hwi (i - 16) (by omega)
      have g7 := hwi (i - 7) (by omega)
      have g15 := hwi (i - 15) (by omega)
      have g2 := hwi (i - 2) (by omega)
      have t16 : ((i : Int) - 16).toNat = i - 16 := by omega
      have t7 : ((i : Int) - 7).toNat = i - 7 := by omega
      have t15 : ((i : Int) - 15).toNat = i - 15 := by omega
      have t2 : ((i : Int) - 2).toNat = i - 2 := by omega
      have r7 : 32 - (7 : Int).toNat = 25 := rfl
      clear hwi
      generalize z2g q (zw q i) = nx at *
      generalize wat (zw q i) (i - 16) = w16 at *
      generalize wat (zw q i) (i - 7) = w7 at *
      generalize wat (zw q i) (i - 15) = w15 at *
      generalize wat (zw q i) (i - 2) = w2 at *
      unfold mkS
      generalize hpb2 : z8 p = pb at *
      generalize hcc : ws (zw q i) ++ rest = cc at *
      repeat' (first | refine zW.zs ?_ | refine zW.zb ?_ | refine zW.zc ?_ | refine zW.zt rfl ?_ | refine zW.zf rfl ?_ | (refine zW.zd rfl (fun ht => ?_) (fun ht => ?_) <;> try (exfalso; omega)) | ((first | refine zW.regS ?_ | refine zW.zk ?_ | refine zW.ze ?_ | refine zW.zq ?_ | (apply callW.mk_pu; (first | exact (fun _ => zak _ _ _ (by omega)))) | (apply callW.za; (first | exact (zak _ _ _ (by omega)))) | ((first|apply zg0|apply zg1|apply zg2|apply zg3|apply zg4|apply zg5|apply zg6|apply zg7)<;>intro ht));all_goals try simp (disch:=first|omega|(simp only [lens];first|done|omega)) only [go_sem,reduceEqDiff,Nat.reduceBEq,reduceAdd,reduceMul,reduceSub,reduceLeDiff,reduceToNat,reducePow, q2, q3, q4, q5, q6, q7, q10, hlen, g16, g7, g15, g2, t16, t7, t15, t2]))
      refine ⟨64 - (i + 1), by omega, i + 1, rest.drop 1, by omega, by omega, by rw [List.length_drop]; omega, ⟨by simp (disch:=first|omega|(simp only [lens];first|done|omega)) only [go_sem,reduceEqDiff,Nat.reduceBEq,reduceAdd,reduceMul,reduceSub,reduceLeDiff,reduceToNat,reducePow, q2], by simp (disch:=first|omega|(simp only [lens];first|done|omega)) only [go_sem,reduceEqDiff,Nat.reduceBEq,reduceAdd,reduceMul,reduceSub,reduceLeDiff,reduceToNat,reducePow, q3], by simp (disch:=first|omega|(simp only [lens];first|done|omega)) only [go_sem,reduceEqDiff,Nat.reduceBEq,reduceAdd,reduceMul,reduceSub,reduceLeDiff,reduceToNat,reducePow, q4], (by simp (disch:=first|omega|(simp only [lens];first|done|omega)) only [go_sem,reduceEqDiff,Nat.reduceBEq,reduceAdd,reduceMul,reduceSub,reduceLeDiff,reduceToNat,reducePow, q5]; rw [hpb2]), by simp (disch:=first|omega|(simp only [lens];first|done|omega)) only [go_sem,reduceEqDiff,Nat.reduceBEq,reduceAdd,reduceMul,reduceSub,reduceLeDiff,reduceToNat,reducePow, q6], by simp (disch:=first|omega|(simp only [lens];first|done|omega)) only [go_sem,reduceEqDiff,Nat.reduceBEq,reduceAdd,reduceMul,reduceSub,reduceLeDiff,reduceToNat,reducePow, q7]⟩, by simp, ?_⟩
      rw [hsc, <- hset, en]
      have ec : ∀ s t : W, w16 + s + w7 + t = w16 + w7 + s + t := fun s t => by rw [BitVec.add_assoc w16 s w7, BitVec.add_comm s w7, <- BitVec.add_assoc w16 w7 s]
      rw [ec]
      rfl
    · obtain rfl : i = 64 := by omega
      have hr0 : rest = [] := List.eq_nil_of_length_eq_zero (by omega)
      rw [hr0, <- hR, List.append_nil]
      clear hsl hR
      repeat' (first|refine zW.zs ?_|refine zW.zb ?_|refine zW.zc ?_|refine zW.zt rfl ?_|refine zW.zf rfl ?_|(refine zW.zd rfl (fun ht => ?_) (fun ht => ?_)<;>try (exfalso;omega))|((first|refine zW.zr ?_|refine zW.zk ?_|refine zW.ze ?_|refine zW.zq ?_|((first|apply zg0|apply zg1|apply zg2|apply zg3|apply zg4|apply zg5|apply zg6|apply zg7)<;>intro ht));all_goals try simp (disch:=first|omega|(simp only [lens];first|done|omega)) only [go_sem,reduceEqDiff,Nat.reduceBEq,reduceAdd,reduceMul,reduceSub,reduceLeDiff,reduceToNat,reducePow, q10]))
      exact hQ _ ⟨by simp (disch:=first|omega|(simp only [lens];first|done|omega)) only [go_sem,reduceEqDiff,Nat.reduceBEq,reduceAdd,reduceMul,reduceSub,reduceLeDiff,reduceToNat,reducePow, q2], by simp (disch:=first|omega|(simp only [lens];first|done|omega)) only [go_sem,reduceEqDiff,Nat.reduceBEq,reduceAdd,reduceMul,reduceSub,reduceLeDiff,reduceToNat,reducePow, q3], by simp (disch:=first|omega|(simp only [lens];first|done|omega)) only [go_sem,reduceEqDiff,Nat.reduceBEq,reduceAdd,reduceMul,reduceSub,reduceLeDiff,reduceToNat,reducePow, q4], by simp (disch:=first|omega|(simp only [lens];first|done|omega)) only [go_sem,reduceEqDiff,Nat.reduceBEq,reduceAdd,reduceMul,reduceSub,reduceLeDiff,reduceToNat,reducePow, q5], by simp (disch:=first|omega|(simp only [lens];first|done|omega)) only [go_sem,reduceEqDiff,Nat.reduceBEq,reduceAdd,reduceMul,reduceSub,reduceLeDiff,reduceToNat,reducePow, q6], by simp (disch:=first|omega|(simp only [lens];first|done|omega)) only [go_sem,reduceEqDiff,Nat.reduceBEq,reduceAdd,reduceMul,reduceSub,reduceLeDiff,reduceToNat,reducePow, q7]⟩
end
end Am
end Go.Proofs.YtncenefkbpelbaaDoor
end
section
/- SHA-256: the reference's Sum: the rounds. -/
namespace Go.Proofs.YtncenefkbpelbaaDoor
namespace Am
theorem k_get {i : Nat} (h : i < 64) : gl_sha_rounds[i]? = some (.int .u32 (kAt i).toNat) := by
  have := zfe h
  rwa [List.getElem?_drop, Nat.add_zero] at this
section
variable {k : Nat} {Q : AExit -> Env -> Store -> Prop} {O : Env} {Z : Store} {u : V8} {p : List UInt8} {n : Nat}
set_option maxHeartbeats 8000000 in
theorem zoy {q : List UInt8} (K : Rk O Z.length p n)
    (hQ : ∀ O', Rk O' Z.length p n -> Q .normal O' (mkS Z (mixS u q) (ws (zw q 64)))) : zW TC 252 k q7c53 Q O (mkS Z u (ws (zw q 64))) := by
  obtain ⟨R, hR⟩ : ∃ R, R = zw q 64 := ⟨_, rfl⟩
  have hRl : R.length = 64 := by rw [hR, z3r]
  have hwR : (ws R).length = 64 := by rw [z3i, hRl]
  have hst : ∀ n, rnds q u (n + 1) = rnd (rnds q u n) (kAt n) (wat R n) := fun n => by rw [rnds, hR]
  obtain ⟨U, hU⟩ : ∃ U, U = rnds q u 64 := ⟨_, rfl⟩
  have hmix : mixS u q = U.add u := by rw [mixS, hU]
  rw [hmix] at hQ
  rw [<- hR] at hQ ⊢
  obtain ⟨k2, k3, k4, k5, k6, k7⟩ := K
  unfold mkS
  refine zW.zs ?_
  (refine zW.regS ?_; (simp (disch:=first|omega|(simp only [lens];first|done|omega)) only [go_sem,reduceEqDiff,Nat.reduceBEq,reduceAdd,reduceMul,reduceSub,reduceLeDiff,reduceToNat,reducePow, k4, V8.c8]))
  (refine zW.slots [2, 3, 4, 5, 6, 7, 13, 14, 15, 16, 17, 18, 19, 20] ?_; intro O1 hs; simp (disch:=first|omega|(simp only [lens];first|done|omega)) only [go_sem,reduceEqDiff,Nat.reduceBEq,reduceAdd,reduceMul,reduceSub,reduceLeDiff,reduceToNat,reducePow, k2, k3, k4, k5, k6, k7] at hs; obtain ⟨s2, s3, s4, s5, s6, s7, s13, s14, s15, s16, s17, s18, s19, s20⟩ := hs)
  refine zW.zs ?_
  refine zW.zs ?_
  (refine zW.regS ?_; (simp (disch:=first|omega|(simp only [lens];first|done|omega)) only [go_sem,reduceEqDiff,Nat.reduceBEq,reduceAdd,reduceMul,reduceSub,reduceLeDiff,reduceToNat,reducePow]))
  refine zW.zb ?_
  refine zW.loop (fun m O Y' => ∃ i : Nat, m + i = 64 /\ Rk O Z.length p n /\ O 21 = .int .i64 i /\ O 13 = .int .u32 (rnds q u i).a.toNat /\ O 14 = .int .u32 (rnds q u i).b.toNat /\ O 15 = .int .u32 (rnds q u i).c.toNat /\ O 16 = .int .u32 (rnds q u i).d.toNat ∧
    O 17 = .int .u32 (rnds q u i).e.toNat /\ O 18 = .int .u32 (rnds q u i).f.toNat /\ O 19 = .int .u32 (rnds q u i).g.toNat /\ O 20 = .int .u32 (rnds q u i).h.toNat /\ Y' = mkS Z u (ws R)) 64 ?_ ?_
  · exact ⟨0, by omega, ⟨by simp (disch:=first|omega|(simp only [lens];first|done|omega)) only [go_sem,reduceEqDiff,Nat.reduceBEq,reduceAdd,reduceMul,reduceSub,reduceLeDiff,reduceToNat,reducePow, s2], by simp (disch:=first|omega|(simp only [lens];first|done|omega)) only [go_sem,reduceEqDiff,Nat.reduceBEq,reduceAdd,reduceMul,reduceSub,reduceLeDiff,reduceToNat,reducePow, s3], by simp (disch:=first|omega|(simp only [lens];first|done|omega)) only [go_sem,reduceEqDiff,Nat.reduceBEq,reduceAdd,reduceMul,reduceSub,reduceLeDiff,reduceToNat,reducePow, s4], by simp (disch:=first|omega|(simp only [lens];first|done|omega)) only [go_sem,reduceEqDiff,Nat.reduceBEq,reduceAdd,reduceMul,reduceSub,reduceLeDiff,reduceToNat,reducePow, s5], by simp (disch:=first|omega|(simp only [lens];first|done|omega)) only [go_sem,reduceEqDiff,Nat.reduceBEq,reduceAdd,reduceMul,reduceSub,reduceLeDiff,reduceToNat,reducePow, s6], by simp (disch:=first|omega|(simp only [lens];first|done|omega)) only [go_sem,reduceEqDiff,Nat.reduceBEq,reduceAdd,reduceMul,reduceSub,reduceLeDiff,reduceToNat,reducePow, s7]⟩, by simp (disch:=first|omega|(simp only [lens];first|done|omega)) only [go_sem,reduceEqDiff,Nat.reduceBEq,reduceAdd,reduceMul,reduceSub,reduceLeDiff,reduceToNat,reducePow]; rfl, by simp (disch:=first|omega|(simp only [lens];first|done|omega)) only [go_sem,reduceEqDiff,Nat.reduceBEq,reduceAdd,reduceMul,reduceSub,reduceLeDiff,reduceToNat,reducePow, s13]; rfl, by simp (disch:=first|omega|(simp only [lens];first|done|omega)) only [go_sem,reduceEqDiff,Nat.reduceBEq,reduceAdd,reduceMul,reduceSub,reduceLeDiff,reduceToNat,reducePow, s14]; rfl, by simp (disch:=first|omega|(simp only [lens];first|done|omega)) only [go_sem,reduceEqDiff,Nat.reduceBEq,reduceAdd,reduceMul,reduceSub,reduceLeDiff,reduceToNat,reducePow, s15]; rfl, by simp (disch:=first|omega|(simp only [lens];first|done|omega)) only [go_sem,reduceEqDiff,Nat.reduceBEq,reduceAdd,reduceMul,reduceSub,reduceLeDiff,reduceToNat,reducePow, s16]; rfl, by simp (disch:=first|omega|(simp only [lens];first|done|omega)) only [go_sem,reduceEqDiff,Nat.reduceBEq,reduceAdd,reduceMul,reduceSub,reduceLeDiff,reduceToNat,reducePow, s17]; rfl, by simp (disch:=first|omega|(simp only [lens];first|done|omega)) only [go_sem,reduceEqDiff,Nat.reduceBEq,reduceAdd,reduceMul,reduceSub,reduceLeDiff,reduceToNat,reducePow, s18]; rfl, by simp (disch:=first|omega|(simp only [lens];first|done|omega)) only [go_sem,reduceEqDiff,Nat.reduceBEq,reduceAdd,reduceMul,reduceSub,reduceLeDiff,reduceToNat,reducePow, s19]; rfl, by simp (disch:=first|omega|(simp only [lens];first|done|omega)) only [go_sem,reduceEqDiff,Nat.reduceBEq,reduceAdd,reduceMul,reduceSub,reduceLeDiff,reduceToNat,reducePow, s20]; rfl, rfl⟩
  · clear s2 s3 s4 s5 s6 s7 s13 s14 s15 s16 s17 s18 s19 s20
    rintro m O Y' ⟨i, hm, ⟨q2, q3, q4, q5, q6, q7⟩, q21, q13, q14, q15, q16, q17, q18, q19, q20, rfl⟩
    by_cases hi : i < 64
    · have hk := k_get hi
      have hw := z7j (w := R) (i := i) (by omega)
      have hst := hst i
      generalize rnds q u i = v at *
      obtain ⟨a, b, c, d, e, f, g, h⟩ := v
      simp only at q13 q14 q15 q16 q17 q18 q19 q20
      generalize kAt i = kk at *
      generalize wat R i = ww at *
      generalize hpb : z8 p = pb at *
      unfold mkS
      refine zW.zs ?_
      refine zW.zs ?_
      (refine zW.regS ?_; (simp (disch:=first|omega|(simp only [lens];first|done|omega)) only [go_sem,reduceEqDiff,Nat.reduceBEq,reduceAdd,reduceMul,reduceSub,reduceLeDiff,reduceToNat,reducePow, q21]))
      refine zW.zt rfl ?_
      refine zW.zk ?_
      simp (disch:=first|omega|(simp only [lens];first|done|omega)) only [go_sem,reduceEqDiff,Nat.reduceBEq,reduceAdd,reduceMul,reduceSub,reduceLeDiff,reduceToNat,reducePow]
      refine zW.zs ?_
      refine zW.zb ?_
      refine zW.zs ?_
      (refine zW.regS ?_; (simp (disch:=first|omega|(simp only [lens];first|done|omega)) only [go_sem,reduceEqDiff,Nat.reduceBEq,reduceAdd,reduceMul,reduceSub,reduceLeDiff,reduceToNat,reducePow, q3, q6, q17, q18, q19, q20, q21, hwR, hk, hw, z8e]); repeat' (apply callW.za; (first | exact (zak _ _ _ (by omega))); all_goals try (simp (disch:=first|omega|(simp only [lens];first|done|omega)) only [go_sem,reduceEqDiff,Nat.reduceBEq,reduceAdd,reduceMul,reduceSub,reduceLeDiff,reduceToNat,reducePow, q3, q6, q17, q18, q19, q20, q21, hwR, hk, hw, z8e])))
      (refine zW.slots [2, 3, 4, 5, 6, 7, 13, 14, 15, 16, 17, 18, 19, 20, 21, 22] ?_; intro O2 hs; simp (disch:=first|omega|(simp only [lens];first|done|omega)) only [go_sem,reduceEqDiff,Nat.reduceBEq,reduceAdd,reduceMul,reduceSub,reduceLeDiff,reduceToNat,reducePow, q2, q3, q4, q5, q6, q7, q13, q14, q15, q16, q17, q18, q19, q20, q21] at hs; obtain ⟨s2, s3, s4, s5, s6, s7, s13, s14, s15, s16, s17, s18, s19, s20, s21, s22⟩ := hs)
      refine zW.zs ?_
      (refine zW.regS ?_; (simp (disch:=first|omega|(simp only [lens];first|done|omega)) only [go_sem,reduceEqDiff,Nat.reduceBEq,reduceAdd,reduceMul,reduceSub,reduceLeDiff,reduceToNat,reducePow, s13, s14, s15]); repeat' (apply callW.za; (first | exact (zak _ _ _ (by omega))); all_goals try (simp (disch:=first|omega|(simp only [lens];first|done|omega)) only [go_sem,reduceEqDiff,Nat.reduceBEq,reduceAdd,reduceMul,reduceSub,reduceLeDiff,reduceToNat,reducePow, s13, s14, s15])))
      (refine zW.slots [2, 3, 4, 5, 6, 7, 13, 14, 15, 16, 17, 18, 19, 20, 21, 22, 23] ?_; intro O3 hs; simp (disch:=first|omega|(simp only [lens];first|done|omega)) only [go_sem,reduceEqDiff,Nat.reduceBEq,reduceAdd,reduceMul,reduceSub,reduceLeDiff,reduceToNat,reducePow, s2, s3, s4, s5, s6, s7, s13, s14, s15, s16, s17, s18, s19, s20, s21, s22] at hs; obtain ⟨s2, s3, s4, s5, s6, s7, s13, s14, s15, s16, s17, s18, s19, s20, s21, s22, s23⟩ := hs)
      (refine zW.regS ?_; (simp (disch:=first|omega|(simp only [lens];first|done|omega)) only [go_sem,reduceEqDiff,Nat.reduceBEq,reduceAdd,reduceMul,reduceSub,reduceLeDiff,reduceToNat,reducePow, s13, s14, s15, s16, s17, s18, s19, s22, s23]))
      (refine zW.slots [2, 3, 4, 5, 6, 7, 13, 14, 15, 16, 17, 18, 19, 20, 21] ?_; intro O4 hs; simp (disch:=first|omega|(simp only [lens];first|done|omega)) only [go_sem,reduceEqDiff,Nat.reduceBEq,reduceAdd,reduceMul,reduceSub,reduceLeDiff,reduceToNat,reducePow, s2, s3, s4, s5, s6, s7, s21] at hs; obtain ⟨s2, s3, s4, s5, s6, s7, s13, s14, s15, s16, s17, s18, s19, s20, s21⟩ := hs)
      (refine zW.regS ?_; (simp (disch:=first|omega|(simp only [lens];first|done|omega)) only [go_sem,reduceEqDiff,Nat.reduceBEq,reduceAdd,reduceMul,reduceSub,reduceLeDiff,reduceToNat,reducePow, s21]))
      refine ⟨64 - (i + 1), by omega, i + 1, by omega, ⟨s2, s3, s4, by rw [hpb]; exact s5, s6, s7⟩, by simp, ?_⟩
      rw [hst]
      simp only [rnd, bs1, chW, bs0, majW]
      exact ⟨s13, s14, s15, s16, s17, s18, s19, s20⟩
    · obtain rfl : i = 64 := by omega
      rw [<- hU] at q13 q14 q15 q16 q17 q18 q19 q20
      clear hst hU hmix
      obtain ⟨a, b, c, d, e, f, g, h⟩ := U
      obtain ⟨a', b', c', d', e', f', g', h'⟩ := u
      simp only at q13 q14 q15 q16 q17 q18 q19 q20
      unfold mkS
      unfold mkS at hQ
      simp only [V8.add, V8.c8] at hQ
      simp only [V8.c8]
      generalize hpb : z8 p = pb at *
      refine zW.zs ?_
      refine zW.zs ?_
      (refine zW.regS ?_; (simp (disch:=first|omega|(simp only [lens];first|done|omega)) only [go_sem,reduceEqDiff,Nat.reduceBEq,reduceAdd,reduceMul,reduceSub,reduceLeDiff,reduceToNat,reducePow, q21]))
      refine zW.zf rfl ?_
      refine zW.ze ?_
      simp (disch:=first|omega|(simp only [lens];first|done|omega)) only [go_sem,reduceEqDiff,Nat.reduceBEq,reduceAdd,reduceMul,reduceSub,reduceLeDiff,reduceToNat,reducePow]
      (refine zW.regS ?_; (simp (disch:=first|omega|(simp only [lens];first|done|omega)) only [go_sem,reduceEqDiff,Nat.reduceBEq,reduceAdd,reduceMul,reduceSub,reduceLeDiff,reduceToNat,reducePow, q4, q13, q14, q15, q16, q17, q18, q19, q20]))
      rw [BitVec.add_comm a' a, BitVec.add_comm b' b, BitVec.add_comm c' c, BitVec.add_comm d' d, BitVec.add_comm e' e, BitVec.add_comm f' f, BitVec.add_comm g' g, BitVec.add_comm h' h]
      exact hQ _ ⟨by simp (disch:=first|omega|(simp only [lens];first|done|omega)) only [go_sem,reduceEqDiff,Nat.reduceBEq,reduceAdd,reduceMul,reduceSub,reduceLeDiff,reduceToNat,reducePow, q2], by simp (disch:=first|omega|(simp only [lens];first|done|omega)) only [go_sem,reduceEqDiff,Nat.reduceBEq,reduceAdd,reduceMul,reduceSub,reduceLeDiff,reduceToNat,reducePow, q3], by simp (disch:=first|omega|(simp only [lens];first|done|omega)) only [go_sem,reduceEqDiff,Nat.reduceBEq,reduceAdd,reduceMul,reduceSub,reduceLeDiff,reduceToNat,reducePow, q4], (by simp (disch:=first|omega|(simp only [lens];first|done|omega)) only [go_sem,reduceEqDiff,Nat.reduceBEq,reduceAdd,reduceMul,reduceSub,reduceLeDiff,reduceToNat,reducePow, q5]; rw [hpb]), by simp (disch:=first|omega|(simp only [lens];first|done|omega)) only [go_sem,reduceEqDiff,Nat.reduceBEq,reduceAdd,reduceMul,reduceSub,reduceLeDiff,reduceToNat,reducePow, q6], by simp (disch:=first|omega|(simp only [lens];first|done|omega)) only [go_sem,reduceEqDiff,Nat.reduceBEq,reduceAdd,reduceMul,reduceSub,reduceLeDiff,reduceToNat,reducePow, q7]⟩
end
end Am
end Go.Proofs.YtncenefkbpelbaaDoor
end
section
/- SHA-256: the reference's Sum. -/
namespace Go.Proofs.YtncenefkbpelbaaDoor
namespace Am
theorem sum_r1 {C : Ctx} {K : Env -> Store -> Prop} {H : Hist} {O : Env} {Y : Store} : zl C K q7r1 H O Y = zl C K (q7r1.drop 1) H (upd O 26 (.agg gl_sha_rounds)) Y := by kernel_rfl
theorem zka {l : List W} {i : Nat} (h : i < 4 * l.length) : (l.flatMap fun x => be 4 x.toNat)[i]? = (be 4 (wat l (i / 4)).toNat)[i % 4]? := by
  induction l generalizing i with
  | nil => simp at h
  | cons x l ih =>
    have hb : (be 4 x.toNat).length = 4 := z36 _ _
    rw [List.flatMap_cons]
    by_cases hi : i < 4
    · rw [List.getElem?_append_left (by omega), Nat.div_eq_of_lt hi, Nat.mod_eq_of_lt hi]; rfl
    · simp only [List.length_cons] at h
      rw [List.getElem?_append_right (by omega), hb, ih (by omega), show i / 4 = (i - 4) / 4 + 1 by omega, show (i - 4) % 4 = i % 4 by omega]
      rfl
theorem zik (x : Nat) {j : Nat} (h : j < 4) : (be 4 x)[j]? = some (UInt8.ofNat (x / 2 ^ (24 - 8 * j))) := by
  have e : be 4 x = [UInt8.ofNat (x / 256 ^ 3), UInt8.ofNat (x / 256 ^ 2), UInt8.ofNat (x / 256 ^ 1), UInt8.ofNat (x / 256 ^ 0)] := by
    simp only [z7z]
    rfl
  rw [e]
  have hj : j = 0 \/ j = 1 \/ j = 2 \/ j = 3 := by omega
  rcases hj with rfl | rfl | rfl | rfl <;> rfl
theorem zn0 (v : V8) {i : Nat} (h : i < 32) : (outV v)[i]? = some (UInt8.ofNat ((wat v.l (i / 4)).toNat / 2 ^ (24 - 8 * (i % 4)))) := by
  unfold outV
  rw [zka (by simp [V8.l]; omega), zik _ (Nat.mod_lt _ (by decide))]
def z3p (v : V8) (i : Nat) : List AV := zm ((outV v).take i) ++ List.replicate (32 - i) (.int .u8 0)
theorem zm7 (v : V8) {i : Nat} (h : i <= 32) : (z3p v i).length = 32 := by simp [z3p, zo, z48]; omega
theorem zm8 (v : V8) {i : Nat} (h : i < 32) {b : Int} (hb : b = (((wat v.l (i / 4)).toNat / 2 ^ (24 - 8 * (i % 4)) % 256 : Nat) : Int)) :
    (z3p v i).take i ++ AV.int .u8 b :: (z3p v i).drop (i + 1) = z3p v (i + 1) := by
  have h1 : (zm ((outV v).take i)).length = i := by rw [zo, List.length_take, z48]; omega
  have hg := zn0 v h
  have hs : (outV v).take (i + 1) = (outV v).take i ++ [UInt8.ofNat ((wat v.l (i / 4)).toNat / 2 ^ (24 - 8 * (i % 4)))] := by
    rw [List.take_add_one, hg]; rfl
  unfold z3p
  rw [List.take_append_of_le_length (by omega), List.take_of_length_le (by omega), List.drop_append, List.drop_of_length_le (by omega), h1, show i + 1 - i = 1 by omega, List.nil_append, hs]
  rw [List.drop_replicate, show 32 - i - 1 = 32 - (i + 1) by omega]
  simp [zm, hb]
set_option maxHeartbeats 8000000 in
theorem z77 (Y : Store) (s : List UInt8) (h : s.length < 900000000) : ACallsTo TC 70 [.str s] Y (.agg (zm (shaS s))) Y := by
  obtain ⟨p, hp⟩ : ∃ p, p = padS s := ⟨_, rfl⟩
  obtain ⟨hp1, hp2⟩ := zfy s
  rw [<- hp] at hp1 hp2
  obtain ⟨N, hN⟩ : ∃ N, p.length = 64 * N := ⟨p.length / 64, by omega⟩
  obtain ⟨V, hV⟩ : ∃ V, V = blocks N v0 p := ⟨_, rfl⟩
  have hS : shaS s = outV V := by
    unfold shaS
    rw [<- hp, hV]
    have : p.length / 64 = N := by omega
    rw [this]
  rw [hS]
  have hf := fun Y => pad_to Y s (by omega)
  rw [<- hp] at hf
  refine ACallsTo.of_body q7ok (by simp) fun hw _ => ?_
  refine zW.zs ?_
  refine zW.zr ?_
  simp (disch:=first|omega|(simp only [lens];first|done|omega)) only [go_sem,reduceEqDiff,Nat.reduceBEq,reduceAdd,reduceMul,reduceSub,reduceLeDiff,reduceToNat,reducePow]
  refine zW.zs ?_
  refine zW.zr ?_
  rw [sum_r1]
  simp (disch:=first|omega|(simp only [lens];first|done|omega)) only [go_sem,reduceEqDiff,Nat.reduceBEq,reduceAdd,reduceMul,reduceSub,reduceLeDiff,reduceToNat,reducePow, z8e]
  refine zW.zs ?_
  refine zW.zr ?_
  simp (disch:=first|omega|(simp only [lens];first|done|omega)) only [go_sem,reduceEqDiff,Nat.reduceBEq,reduceAdd,reduceMul,reduceSub,reduceLeDiff,reduceToNat,reducePow]
  refine zW.zs ?_
  repeat' (first|refine zW.zs ?_|refine zW.zb ?_|refine zW.zc ?_|refine zW.zt rfl ?_|refine zW.zf rfl ?_|(refine zW.zd rfl (fun ht => ?_) (fun ht => ?_)<;>try (exfalso;omega))|((first|refine zW.zr ?_|refine zW.zk ?_|refine zW.ze ?_|refine zW.zq ?_|(apply callW.mk_pu; (first | exact (fun _ => hf _))) | (apply callW.za; (first | exact (hf _))) | ((first|apply zg0|apply zg1|apply zg2|apply zg3|apply zg4|apply zg5|apply zg6|apply zg7)<;>intro ht));all_goals try simp (disch:=first|omega|(simp only [lens];first|done|omega)) only [go_sem,reduceEqDiff,Nat.reduceBEq,reduceAdd,reduceMul,reduceSub,reduceLeDiff,reduceToNat,reducePow]))
  refine zW.loop (fun m O Y' => ∃ (u : V8) (n : Nat) (cells : List AV), n + 64 * m = p.length /\ Rk O Y.length p n /\ cells.length = 64 /\ blocks m u (p.drop n) = V /\ Y' = mkS Y u cells) N ?_ ?_
  · exact ⟨v0, 0, List.replicate 64 (.int .u32 0), by omega, ⟨by simp (disch:=first|omega|(simp only [lens];first|done|omega)) only [go_sem,reduceEqDiff,Nat.reduceBEq,reduceAdd,reduceMul,reduceSub,reduceLeDiff,reduceToNat,reducePow], by simp (disch:=first|omega|(simp only [lens];first|done|omega)) only [go_sem,reduceEqDiff,Nat.reduceBEq,reduceAdd,reduceMul,reduceSub,reduceLeDiff,reduceToNat,reducePow], by simp (disch:=first|omega|(simp only [lens];first|done|omega)) only [go_sem,reduceEqDiff,Nat.reduceBEq,reduceAdd,reduceMul,reduceSub,reduceLeDiff,reduceToNat,reducePow], by simp (disch:=first|omega|(simp only [lens];first|done|omega)) only [go_sem,reduceEqDiff,Nat.reduceBEq,reduceAdd,reduceMul,reduceSub,reduceLeDiff,reduceToNat,reducePow], by simp (disch:=first|omega|(simp only [lens];first|done|omega)) only [go_sem,reduceEqDiff,Nat.reduceBEq,reduceAdd,reduceMul,reduceSub,reduceLeDiff,reduceToNat,reducePow], by simp (disch:=first|omega|(simp only [lens];first|done|omega)) only [go_sem,reduceEqDiff,Nat.reduceBEq,reduceAdd,reduceMul,reduceSub,reduceLeDiff,reduceToNat,reducePow]; rfl⟩, rfl, by rw [List.drop_zero]; exact hV.symm, rfl⟩
  · rintro m O Y' ⟨u, n, cells, hn, ⟨q2, q3, q4, q5, q6, q7⟩, hc, hb, rfl⟩
    have hpb := zg p
    cases m with
    | succ m =>
      refine zW.zs ?_
      refine zW.zs ?_
      (refine zW.regS ?_; (simp (disch:=first|omega|(simp only [lens];first|done|omega)) only [go_sem,reduceEqDiff,Nat.reduceBEq,reduceAdd,reduceMul,reduceSub,reduceLeDiff,reduceToNat,reducePow, q5, q7, hpb]))
      refine zW.zt rfl ?_
      refine zW.zk ?_
      simp (disch:=first|omega|(simp only [lens];first|done|omega)) only [go_sem,reduceEqDiff,Nat.reduceBEq,reduceAdd,reduceMul,reduceSub,reduceLeDiff,reduceToNat,reducePow]
      refine zW.zs ?_
      refine zW.zb ?_
      refine zW.zs ?_
      refine zp0 (p := p) (n := n) (u := u) (cells := cells) ⟨by simp (disch:=first|omega|(simp only [lens];first|done|omega)) only [go_sem,reduceEqDiff,Nat.reduceBEq,reduceAdd,reduceMul,reduceSub,reduceLeDiff,reduceToNat,reducePow, q2], by simp (disch:=first|omega|(simp only [lens];first|done|omega)) only [go_sem,reduceEqDiff,Nat.reduceBEq,reduceAdd,reduceMul,reduceSub,reduceLeDiff,reduceToNat,reducePow, q3], by simp (disch:=first|omega|(simp only [lens];first|done|omega)) only [go_sem,reduceEqDiff,Nat.reduceBEq,reduceAdd,reduceMul,reduceSub,reduceLeDiff,reduceToNat,reducePow, q4], by simp (disch:=first|omega|(simp only [lens];first|done|omega)) only [go_sem,reduceEqDiff,Nat.reduceBEq,reduceAdd,reduceMul,reduceSub,reduceLeDiff,reduceToNat,reducePow, q5], by simp (disch:=first|omega|(simp only [lens];first|done|omega)) only [go_sem,reduceEqDiff,Nat.reduceBEq,reduceAdd,reduceMul,reduceSub,reduceLeDiff,reduceToNat,reducePow, q6], by simp (disch:=first|omega|(simp only [lens];first|done|omega)) only [go_sem,reduceEqDiff,Nat.reduceBEq,reduceAdd,reduceMul,reduceSub,reduceLeDiff,reduceToNat,reducePow, q7]⟩ (by omega) (by omega) hc ?_
      intro O1 rest hr K1
      refine zW.zs ?_
      refine zoz K1 hr ?_
      intro O2 K2
      refine zoy K2 ?_
      intro O3 ⟨t2, t3, t4, t5, t6, t7⟩
      simp only [z27, blkQ]
      (refine zW.regS ?_; (simp (disch:=first|omega|(simp only [lens];first|done|omega)) only [go_sem,reduceEqDiff,Nat.reduceBEq,reduceAdd,reduceMul,reduceSub,reduceLeDiff,reduceToNat,reducePow, t7]))
      refine ⟨m, by omega, mixS u ((p.drop n).take 64), n + 64, ws (zw ((p.drop n).take 64) 64), by omega, ⟨by simp (disch:=first|omega|(simp only [lens];first|done|omega)) only [go_sem,reduceEqDiff,Nat.reduceBEq,reduceAdd,reduceMul,reduceSub,reduceLeDiff,reduceToNat,reducePow, t2], by simp (disch:=first|omega|(simp only [lens];first|done|omega)) only [go_sem,reduceEqDiff,Nat.reduceBEq,reduceAdd,reduceMul,reduceSub,reduceLeDiff,reduceToNat,reducePow, t3], by simp (disch:=first|omega|(simp only [lens];first|done|omega)) only [go_sem,reduceEqDiff,Nat.reduceBEq,reduceAdd,reduceMul,reduceSub,reduceLeDiff,reduceToNat,reducePow, t4], by simp (disch:=first|omega|(simp only [lens];first|done|omega)) only [go_sem,reduceEqDiff,Nat.reduceBEq,reduceAdd,reduceMul,reduceSub,reduceLeDiff,reduceToNat,reducePow, t5], by simp (disch:=first|omega|(simp only [lens];first|done|omega)) only [go_sem,reduceEqDiff,Nat.reduceBEq,reduceAdd,reduceMul,reduceSub,reduceLeDiff,reduceToNat,reducePow, t6], by simp (disch:=first|omega|(simp only [lens];first|done|omega)) only [go_sem,reduceEqDiff,Nat.reduceBEq,reduceAdd,reduceMul,reduceSub,reduceLeDiff,reduceToNat,reducePow]; rw [Int.natCast_add]; rfl⟩, by rw [z3i, z3r], ?_, rfl⟩
      rw [<- hb, blocks, List.drop_drop]
    | zero =>
      have hd : p.drop n = [] := List.drop_of_length_le (by omega)
      rw [hd] at hb
      have hu : u = V := hb
      subst hu
      clear hb hd hV
      unfold mkS
      repeat' (first|refine zW.zs ?_|refine zW.zb ?_|refine zW.zc ?_|refine zW.zt rfl ?_|refine zW.zf rfl ?_|(refine zW.zd rfl (fun ht => ?_) (fun ht => ?_)<;>try (exfalso;omega))|((first|refine zW.zr ?_|refine zW.zk ?_|refine zW.ze ?_|refine zW.zq ?_|((first|apply zg0|apply zg1|apply zg2|apply zg3|apply zg4|apply zg5|apply zg6|apply zg7)<;>intro ht));all_goals try simp (disch:=first|omega|(simp only [lens];first|done|omega)) only [go_sem,reduceEqDiff,Nat.reduceBEq,reduceAdd,reduceMul,reduceSub,reduceLeDiff,reduceToNat,reducePow, q5, q7, hpb]))
      refine zW.loop (fun m O Y' => ∃ i : Nat, m + i = 32 /\ O 2 = .ptr Y.length 0 0 /\ O 4 = .ptr (Y.length + 2) 0 0 /\ O 24 = .ptr (Y.length + 4) 0 0 /\ O 25 = .int .i64 i /\ Y' = Y ++ [some [z32], some [gl_sha_rounds], some [u.c8], some [cells], some [z3p u i]]) 32 ?_ ?_
      · exact ⟨0, by omega, by simp (disch:=first|omega|(simp only [lens];first|done|omega)) only [go_sem,reduceEqDiff,Nat.reduceBEq,reduceAdd,reduceMul,reduceSub,reduceLeDiff,reduceToNat,reducePow, q2], by simp (disch:=first|omega|(simp only [lens];first|done|omega)) only [go_sem,reduceEqDiff,Nat.reduceBEq,reduceAdd,reduceMul,reduceSub,reduceLeDiff,reduceToNat,reducePow, q4], by simp (disch:=first|omega|(simp only [lens];first|done|omega)) only [go_sem,reduceEqDiff,Nat.reduceBEq,reduceAdd,reduceMul,reduceSub,reduceLeDiff,reduceToNat,reducePow], by simp (disch:=first|omega|(simp only [lens];first|done|omega)) only [go_sem,reduceEqDiff,Nat.reduceBEq,reduceAdd,reduceMul,reduceSub,reduceLeDiff,reduceToNat,reducePow]; rfl, rfl⟩
      · clear q2 q3 q4 q5 q6 q7
        rintro m O Y' ⟨i, hm, q2, q4, q24, q25, rfl⟩
        have hlen := zm7 u (i := i) (by omega)
        have h8 : u.c8.length = 8 := rfl
        have hz : z32.length = 32 := rfl
        by_cases hi : i < 32
        · have hst := zm8 u hi (b := ((((wat u.l (i / 4)).toNat / 2 ^ (24 - 8 * (i % 4)) % 256 : Nat)) : Int)) rfl
          have hw := z7j (w := u.l) (i := i / 4) (by simp [V8.l]; omega)
          rw [ws_l] at hw
          generalize wat u.l (i / 4) = x at *
          generalize z3p u i = cc at *
          have hd4 : ((i : Int) / 4).toNat = i / 4 := by omega
          have hsh : (24 - 8 * ((i : Int) % 4)).toNat = 24 - 8 * (i % 4) := by omega
          repeat' (first | refine zW.zs ?_ | refine zW.zb ?_ | refine zW.zc ?_ | refine zW.zt rfl ?_ | refine zW.zf rfl ?_ | (refine zW.zd rfl (fun ht => ?_) (fun ht => ?_) <;> try (exfalso; omega)) | ((first | refine zW.regS ?_ | refine zW.zk ?_ | refine zW.ze ?_ | refine zW.zq ?_ | ((first|apply zg0|apply zg1|apply zg2|apply zg3|apply zg4|apply zg5|apply zg6|apply zg7)<;>intro ht));all_goals try simp (disch:=first|omega|(simp only [lens];first|done|omega)) only [go_sem,reduceEqDiff,Nat.reduceBEq,reduceAdd,reduceMul,reduceSub,reduceLeDiff,reduceToNat,reducePow, q2, q4, q24, q25, hlen, h8, hw, hd4, hsh]))
          refine ⟨32 - (i + 1), by omega, i + 1, by omega, by simp, ?_⟩
          rw [BitVec.toNat_ushiftRight, Nat.shiftRight_eq_div_pow, <- hst, Int.natCast_emod]
          rfl
        · obtain rfl : i = 32 := by omega
          have e32 : z3p u 32 = zm (outV u) := by
            unfold z3p
            rw [List.take_of_length_le (by rw [z48]; decide)]
            exact List.append_nil _
          have hd : List.drop 32 z32 = [] := rfl
          have hl : (zm (outV u)).length = 32 := by rw [zo, z48]
          rw [e32] at *
          repeat' (first|refine zW.zs ?_|refine zW.zb ?_|refine zW.zc ?_|refine zW.zt rfl ?_|refine zW.zf rfl ?_|(refine zW.zd rfl (fun ht => ?_) (fun ht => ?_)<;>try (exfalso;omega))|((first|refine zW.zr ?_|refine zW.zk ?_|refine zW.ze ?_|refine zW.zq ?_|((first|apply zg0|apply zg1|apply zg2|apply zg3|apply zg4|apply zg5|apply zg6|apply zg7)<;>intro ht));all_goals try simp (disch:=first|omega|(simp only [lens];first|done|omega)) only [go_sem,reduceEqDiff,Nat.reduceBEq,reduceAdd,reduceMul,reduceSub,reduceLeDiff,reduceToNat,reducePow, q2, q4, q24, q25, hl, h8, hd, hz]))
          exact DownV.pure hw (z2q (z24 _))
end Am
end Go.Proofs.YtncenefkbpelbaaDoor
end
section
/- Abstract code. (Printed by wip/gen.) -/
set_option maxRecDepth 10000
namespace Go.Proofs.YtncenefkbpelbaaDoor
namespace Am



@[go_sem] def qer0 : List AIns := [
  ⟨some 4,none,.no,.mv (.v (.bool false))⟩]
@[go_sem] def qer1 : List AIns := [
  ⟨some 6,none,.no,.mv (.t 0)⟩,
  ⟨some 7,none,.no,.lenSl (.t 6)⟩,
  ⟨some 8,none,.no,.mv (.t 1)⟩,
  ⟨some 9,none,.no,.lenSl (.t 8)⟩,
  ⟨some 10,none,.no,.bin .neq .none (.t 7) (.t 9)⟩]
@[go_sem] def qer2 : List AIns := [
  ⟨some 4,none,.no,.mv (.v (.bool false))⟩]
def qec3 : ACode := .seq (.reg qer2) .ret
def qec4 : ACode := .cond (.t 10) qec3 .skip
def qec5 : ACode := .seq (.reg qer1) qec4
@[go_sem] def qer6 : List AIns := [
  ⟨some 5,none,.no,.mv (.v (.int .i64 0))⟩]
@[go_sem] def qer7 : List AIns := [
  ⟨some 11,none,.no,.mv (.t 5)⟩,
  ⟨some 12,none,.no,.mv (.t 0)⟩,
  ⟨some 13,none,.no,.lenSl (.t 12)⟩,
  ⟨some 14,none,.no,.bin .lss .none (.t 11) (.t 13)⟩]
def qec8 : ACode := .cond (.t 14) .skip (.exit 0)
def qec9 : ACode := .seq (.reg qer7) qec8
@[go_sem] def qer10 : List AIns := [
  ⟨some 17,none,.no,.mv (.t 0)⟩,
  ⟨some 18,none,.no,.mv (.t 5)⟩,
  ⟨some 19,none,.no,.iaSl 32 (.t 17) (.t 18)⟩,
  ⟨some 20, none, .rd, .load true 32 (.t 19)⟩,
  ⟨some 21,none,.no,.mv (.t 1)⟩,
  ⟨some 22,none,.no,.mv (.t 5)⟩,
  ⟨some 23,none,.no,.iaSl 32 (.t 21) (.t 22)⟩,
  ⟨some 24, none, .rd, .load true 32 (.t 23)⟩,
  ⟨some 25,none,.no,.bin .neq (.agg (List.replicate 32 (.i .u8) ++ [])) (.t 20) (.t 24)⟩]
@[go_sem] def qer11 : List AIns := [
  ⟨some 4,none,.no,.mv (.v (.bool false))⟩]
def qec12 : ACode := .seq (.reg qer11) .ret
def qec13 : ACode := .cond (.t 25) qec12 .skip
def qec14 : ACode := .seq (.reg qer10) qec13
@[go_sem] def qer15 : List AIns := [
  ⟨some 15,none,.no,.mv (.t 5)⟩,
  ⟨some 16,none,.no,.bin .add .none (.t 15) (.v (.int .i64 1))⟩,
  ⟨some 5,none,.no,.mv (.t 16)⟩]
def qec16 : ACode := .seq (.block 1 qec14) (.reg qer15)
def qec17 : ACode := .seq qec9 qec16
def qec18 : ACode := .loop qec17
def qec19 : ACode := .block 0 qec18
def qec20 : ACode := .seq (.reg qer6) qec19
@[go_sem] def qer21 : List AIns := [
  ⟨some 4,none,.no,.mv (.v (.bool true))⟩]
def qec22 : ACode := .seq (.reg qer21) .ret
def qec23 : ACode := .seq qec20 qec22
def qec24 : ACode := .seq qec5 qec23
def qec25 : ACode := .seq (.reg qer0) qec24
theorem qeok : cFn TC 98 = some (26, [.t 4], qec25) := by kernel_rfl

@[go_sem] def qfr0 : List AIns := [
  ⟨some 1,none,.no,.box (.t 0)⟩,
  ⟨some 2,none,.no,.alloc zZ0⟩]
@[go_sem] def qfr1 : List AIns := [
  ⟨some 4,none,.no,.load false 1 (.t 1)⟩,
  ⟨some 5,none,.no,.lenSl (.t 4)⟩,
  ⟨some 6,none,.no,.bin .eql .none (.t 5) (.v (.int .i64 0))⟩]
@[go_sem] def qfr2 : List AIns := [
  ⟨some 7,none,.no,.call (.v (.fn 87 [])) [(.v (.str []))]⟩,
  ⟨none,none,.no,.store 32 (.t 2) (.t 7)⟩]
def qfc3 : ACode := .seq (.reg qfr2) .ret
def qfc4 : ACode := .cond (.t 6) qfc3 .skip
def qfc5 : ACode := .seq (.reg qfr1) qfc4
@[go_sem] def qfr6 : List AIns := [
  ⟨some 3,none,.no,.alloc [.nilfn]⟩]
@[go_sem] def qfr7 : List AIns := [
  ⟨some 8,none,.no,.mkfn 88 [(.t 1), (.t 3)]⟩,
  ⟨none,none,.no,.store 1 (.t 3) (.t 8)⟩]
@[go_sem] def qfr8 : List AIns := [
  ⟨some 9,none,.no,.load false 1 (.t 3)⟩,
  ⟨some 10,none,.no,.load false 1 (.t 1)⟩,
  ⟨some 11,none,.no,.lenSl (.t 10)⟩,
  ⟨some 12,none,.no,.call (.t 9) [(.v (.int .i64 0)), (.t 11)]⟩,
  ⟨none,none,.no,.store 32 (.t 2) (.t 12)⟩]
def qfc9 : ACode := .seq (.reg qfr8) .ret
def qfc10 : ACode := .seq (.reg qfr7) qfc9
def qfc11 : ACode := .seq (.reg qfr6) qfc10
def qfc12 : ACode := .seq qfc5 qfc11
def qfc13 : ACode := .seq (.reg qfr0) qfc12
theorem qfok : cFn TC 45 = some (13, [.c 2 true 32], qfc13) := by kernel_rfl

@[go_sem] def qgr0 : List AIns := [
  ⟨some 2,none,.no,.box (.t 0)⟩,
  ⟨some 3,none,.no,.box (.t 1)⟩,
  ⟨some 4,none,.no,.alloc zZ0⟩]
@[go_sem] def qgr1 : List AIns := [
  ⟨some 5, none, .rd, .load true 32 (.t 2)⟩,
  ⟨some 6, none, .ef, .call (.v (.fn 121 [])) [(.t 5)]⟩,
  ⟨some 7,none,.no,.bin .add .none (.v (.str [1])) (.t 6)⟩,
  ⟨some 8, none, .rd, .load true 32 (.t 3)⟩,
  ⟨some 9,none,.no,.call (.v (.fn 121 [])) [(.t 8)]⟩,
  ⟨some 10,none,.no,.bin .add .none (.t 7) (.t 9)⟩,
  ⟨some 11,none,.no,.call (.v (.fn 87 [])) [(.t 10)]⟩,
  ⟨none,none,.no,.store 32 (.t 4) (.t 11)⟩]
def qgc2 : ACode := .seq (.reg qgr1) .ret
def qgc3 : ACode := .seq (.reg qgr0) qgc2
theorem qgok : cFn TC 90 = some (12, [.c 4 true 32], qgc3) := by kernel_rfl

@[go_sem] def qhr0 : List AIns := [
  ⟨some 2,none,.no,.mv (.v (.int .i64 0))⟩]
@[go_sem] def qhr1 : List AIns := [
  ⟨some 4,none,.no,.mv (.t 0)⟩,
  ⟨some 5,none,.no,.bin .lss .none (.t 4) (.v (.int .i64 2))⟩]
@[go_sem] def qhr2 : List AIns := [
  ⟨some 2,none,.no,.mv (.v (.int .i64 0))⟩]
def qhc3 : ACode := .seq (.reg qhr2) .ret
def qhc4 : ACode := .cond (.t 5) qhc3 .skip
def qhc5 : ACode := .seq (.reg qhr1) qhc4
@[go_sem] def qhr6 : List AIns := [
  ⟨some 3,none,.no,.mv (.v (.int .i64 1))⟩]
@[go_sem] def qhr7 : List AIns := [
  ⟨some 6,none,.no,.mv (.t 3)⟩,
  ⟨some 7,none,.no,.mv (.t 0)⟩,
  ⟨some 8,none,.no,.mv (.t 3)⟩,
  ⟨some 9,none,.no,.bin .sub .none (.t 7) (.t 8)⟩,
  ⟨some 10,none,.no,.bin .lss .none (.t 6) (.t 9)⟩]
def qhc8 : ACode := .cond (.t 10) .skip (.exit 0)
def qhc9 : ACode := .seq (.reg qhr7) qhc8
@[go_sem] def qhr10 : List AIns := [
  ⟨some 11,none,.no,.mv (.t 3)⟩,
  ⟨some 12,none,.no,.bin .mul .none (.t 11) (.v (.int .i64 2))⟩,
  ⟨some 3,none,.no,.mv (.t 12)⟩]
def qhc11 : ACode := .block 1 (.reg qhr10)
def qhc12 : ACode := .seq qhc9 qhc11
def qhc13 : ACode := .loop qhc12
@[go_sem] def qhr14 : List AIns := [
  ⟨some 13,none,.no,.mv (.t 3)⟩,
  ⟨some 2,none,.no,.mv (.t 13)⟩]
def qhc15 : ACode := .seq (.reg qhr14) .ret
def qhc16 : ACode := .seq (.block 0 qhc13) qhc15
def qhc17 : ACode := .seq (.reg qhr6) qhc16
def qhc18 : ACode := .seq qhc5 qhc17
def qhc19 : ACode := .seq (.reg qhr0) qhc18
theorem qhok : cFn TC 89 = some (14, [.t 2], qhc19) := by kernel_rfl

@[go_sem] def qir0 : List AIns := [
  ⟨some 6,none,.no,.alloc zZ0⟩]
@[go_sem] def qir1 : List AIns := [
  ⟨some 8,none,.no,.mv (.t 1)⟩,
  ⟨some 9,none,.no,.mv (.t 0)⟩,
  ⟨some 10,none,.no,.bin .sub .none (.t 8) (.t 9)⟩,
  ⟨some 11,none,.no,.call (.v (.fn 89 [])) [(.t 10)]⟩,
  ⟨some 7,none,.no,.mv (.t 11)⟩]
@[go_sem] def qir2 : List AIns := [
  ⟨some 12,none,.no,.mv (.t 7)⟩,
  ⟨some 13,none,.no,.bin .eql .none (.t 12) (.v (.int .i64 0))⟩]
@[go_sem] def qir3 : List AIns := [
  ⟨some 14,none,.no,.load false 1 (.t 2)⟩,
  ⟨some 15,none,.no,.mv (.t 0)⟩,
  ⟨some 16,none,.no,.iaSl 32 (.t 14) (.t 15)⟩,
  ⟨some 17,none,.no,.load true 32 (.t 16)⟩,
  ⟨none,none,.no,.store 32 (.t 6) (.t 17)⟩]
def qic4 : ACode := .seq (.reg qir3) .ret
def qic5 : ACode := .cond (.t 13) qic4 .skip
def qic6 : ACode := .seq (.reg qir2) qic5
@[go_sem] def qir7 : List AIns := [
  ⟨some 18, none, .rd, .load false 1 (.t 3)⟩,
  ⟨some 19,none,.no,.mv (.t 0)⟩,
  ⟨some 20,none,.no,.mv (.t 0)⟩,
  ⟨some 21,none,.no,.mv (.t 7)⟩,
  ⟨some 22,none,.no,.bin .add .none (.t 20) (.t 21)⟩,
  ⟨some 23, none, .ef, .call (.t 18) [(.t 19), (.t 22)]⟩,
  ⟨some 24, none, .rd, .load false 1 (.t 3)⟩,
  ⟨some 25,none,.no,.mv (.t 0)⟩,
  ⟨some 26,none,.no,.mv (.t 7)⟩,
  ⟨some 27,none,.no,.bin .add .none (.t 25) (.t 26)⟩,
  ⟨some 28,none,.no,.mv (.t 1)⟩,
  ⟨some 29,none,.no,.call (.t 24) [(.t 27), (.t 28)]⟩,
  ⟨some 30,none,.no,.call (.v (.fn 90 [])) [(.t 23), (.t 29)]⟩,
  ⟨none,none,.no,.store 32 (.t 6) (.t 30)⟩]
def qic8 : ACode := .seq (.reg qir7) .ret
def qic9 : ACode := .seq qic6 qic8
def qic10 : ACode := .seq (.reg qir1) qic9
def qic11 : ACode := .seq (.reg qir0) qic10
theorem qiok : cFn TC 88 = some (31, [.c 6 true 32], qic11) := by kernel_rfl

@[go_sem] def qjr0 : List AIns := [
  ⟨some 2,none,.no,.alloc zZ0⟩]
@[go_sem] def qjr1 : List AIns := [
  ⟨some 4,none,.no,.mv (.t 0)⟩,
  ⟨some 5,none,.no,.lenSl (.t 4)⟩,
  ⟨some 6,none,.no,.bin .eql .none (.t 5) (.v (.int .i64 0))⟩]
@[go_sem] def qjr2 : List AIns := [
  ⟨some 7,none,.no,.call (.v (.fn 70 [])) [(.v (.str []))]⟩,
  ⟨none,none,.no,.store 32 (.t 2) (.t 7)⟩]
def qjc3 : ACode := .seq (.reg qjr2) .ret
def qjc4 : ACode := .cond (.t 6) qjc3 .skip
def qjc5 : ACode := .seq (.reg qjr1) qjc4
@[go_sem] def qjr6 : List AIns := [
  ⟨some 8,none,.no,.mv (.t 0)⟩,
  ⟨some 9,none,.no,.lenSl (.t 8)⟩,
  ⟨some 10,none,.no,.bin .eql .none (.t 9) (.v (.int .i64 1))⟩]
@[go_sem] def qjr7 : List AIns := [
  ⟨some 11,none,.no,.mv (.t 0)⟩,
  ⟨some 12,none,.no,.iaSl 32 (.t 11) (.v (.int .i64 0))⟩,
  ⟨some 13,none,.no,.load true 32 (.t 12)⟩,
  ⟨none,none,.no,.store 32 (.t 2) (.t 13)⟩]
def qjc8 : ACode := .seq (.reg qjr7) .ret
def qjc9 : ACode := .cond (.t 10) qjc8 .skip
def qjc10 : ACode := .seq (.reg qjr6) qjc9
@[go_sem] def qjr11 : List AIns := [
  ⟨some 14,none,.no,.mv (.t 0)⟩,
  ⟨some 15,none,.no,.lenSl (.t 14)⟩,
  ⟨some 16,none,.no,.call (.v (.fn 71 [])) [(.t 15)]⟩,
  ⟨some 3,none,.no,.mv (.t 16)⟩]
@[go_sem] def qjr12 : List AIns := [
  ⟨some 17,none,.no,.mv (.t 0)⟩,
  ⟨some 18,none,.no,.mv (.t 3)⟩,
  ⟨some 19,none,.no,.slice (.sl 32) (.t 17) none (some (.t 18)) none⟩,
  ⟨some 20,none,.no,.call (.v (.fn 25 [])) [(.t 19)]⟩,
  ⟨some 21,none,.no,.mv (.t 0)⟩,
  ⟨some 22,none,.no,.mv (.t 3)⟩,
  ⟨some 23,none,.no,.slice (.sl 32) (.t 21) (some (.t 22)) none none⟩,
  ⟨some 24,none,.no,.call (.v (.fn 25 [])) [(.t 23)]⟩,
  ⟨some 25,none,.no,.call (.v (.fn 72 [])) [(.t 20), (.t 24)]⟩,
  ⟨none,none,.no,.store 32 (.t 2) (.t 25)⟩]
def qjc13 : ACode := .seq (.reg qjr12) .ret
def qjc14 : ACode := .seq (.reg qjr11) qjc13
def qjc15 : ACode := .seq qjc10 qjc14
def qjc16 : ACode := .seq qjc5 qjc15
def qjc17 : ACode := .seq (.reg qjr0) qjc16
theorem qjok : cFn TC 25 = some (26, [.c 2 true 32], qjc17) := by kernel_rfl

@[go_sem] def qkr0 : List AIns := [
  ⟨some 2,none,.no,.box (.t 0)⟩,
  ⟨some 3,none,.no,.box (.t 1)⟩,
  ⟨some 4,none,.no,.alloc zZ0⟩]
@[go_sem] def qkr1 : List AIns := [
  ⟨some 5, none, .rd, .load true 32 (.t 2)⟩,
  ⟨some 6, none, .ef, .call (.v (.fn 116 [])) [(.t 5)]⟩,
  ⟨some 7,none,.no,.bin .add .none (.v (.str [1])) (.t 6)⟩,
  ⟨some 8, none, .rd, .load true 32 (.t 3)⟩,
  ⟨some 9,none,.no,.call (.v (.fn 116 [])) [(.t 8)]⟩,
  ⟨some 10,none,.no,.bin .add .none (.t 7) (.t 9)⟩,
  ⟨some 11,none,.no,.call (.v (.fn 70 [])) [(.t 10)]⟩,
  ⟨none,none,.no,.store 32 (.t 4) (.t 11)⟩]
def qkc2 : ACode := .seq (.reg qkr1) .ret
def qkc3 : ACode := .seq (.reg qkr0) qkc2
theorem qkok : cFn TC 72 = some (12, [.c 4 true 32], qkc3) := by kernel_rfl

@[go_sem] def qlr0 : List AIns := [
  ⟨some 1,none,.no,.box (.t 0)⟩,
  ⟨some 2,none,.no,.mv (.v (.str []))⟩]
@[go_sem] def qlr1 : List AIns := [
  ⟨some 3,none,.no,.mv (.v .nilsl)⟩]
@[go_sem] def qlr2 : List AIns := [
  ⟨some 4,none,.no,.mv (.v (.int .i64 0))⟩]
@[go_sem] def qlr3 : List AIns := [
  ⟨some 5,none,.no,.mv (.t 4)⟩,
  ⟨some 6,none,.no,.bin .lss .none (.t 5) (.v (.int .i64 32))⟩]
def qlc4 : ACode := .cond (.t 6) .skip (.exit 0)
def qlc5 : ACode := .seq (.reg qlr3) qlc4
@[go_sem] def qlr6 : List AIns := [
  ⟨some 9,none,.no,.mv (.t 3)⟩,
  ⟨some 10,none,.no,.mv (.t 4)⟩,
  ⟨some 11,none,.no,.iaArr 32 1 (.t 1) (.t 10)⟩,
  ⟨some 12,none,.no,.load false 1 (.t 11)⟩,
  ⟨some 13,none,.no,.lit 1 [(.t 12)]⟩,
  ⟨some 14,none,.no,.appB (.t 9) (.t 13)⟩,
  ⟨some 3,none,.no,.mv (.t 14)⟩]
@[go_sem] def qlr7 : List AIns := [
  ⟨some 7,none,.no,.mv (.t 4)⟩,
  ⟨some 8,none,.no,.bin .add .none (.t 7) (.v (.int .i64 1))⟩,
  ⟨some 4,none,.no,.mv (.t 8)⟩]
def qlc8 : ACode := .seq (.block 1 (.reg qlr6)) (.reg qlr7)
def qlc9 : ACode := .seq qlc5 qlc8
def qlc10 : ACode := .loop qlc9
def qlc11 : ACode := .block 0 qlc10
def qlc12 : ACode := .seq (.reg qlr2) qlc11
@[go_sem] def qlr13 : List AIns := [
  ⟨some 15,none,.no,.mv (.t 3)⟩,
  ⟨some 16,none,.no,.conv .str (.t 15)⟩,
  ⟨some 2,none,.no,.mv (.t 16)⟩]
def qlc14 : ACode := .seq (.reg qlr13) .ret
def qlc15 : ACode := .seq qlc12 qlc14
def qlc16 : ACode := .seq (.reg qlr1) qlc15
def qlc17 : ACode := .seq (.reg qlr0) qlc16
theorem qlok : cFn TC 116 = some (17, [.t 2], qlc17) := by kernel_rfl

@[go_sem] def qmr0 : List AIns := [
  ⟨some 1,none,.no,.box (.t 0)⟩,
  ⟨some 2,none,.no,.mv (.v (.str []))⟩]
@[go_sem] def qmr1 : List AIns := [
  ⟨some 3,none,.no,.slice (.arr 32 1) (.t 1) none none none⟩,
  ⟨some 4,none,.no,.conv .str (.t 3)⟩,
  ⟨some 2,none,.no,.mv (.t 4)⟩]
def qmc2 : ACode := .seq (.reg qmr1) .ret
def qmc3 : ACode := .seq (.reg qmr0) qmc2
theorem qmok : cFn TC 121 = some (5, [.t 2], qmc3) := by kernel_rfl

@[go_sem] def qnr0 : List AIns := [
  ⟨some 2,none,.no,.mv (.v (.int .i64 0))⟩]
@[go_sem] def qnr1 : List AIns := [
  ⟨some 3,none,.no,.mv (.v (.int .i64 0))⟩]
@[go_sem] def qnr2 : List AIns := [
  ⟨some 4,none,.no,.mv (.v (.int .i64 1))⟩]
@[go_sem] def qnr3 : List AIns := [
  ⟨some 5,none,.no,.mv (.t 4)⟩,
  ⟨some 6,none,.no,.mv (.t 0)⟩,
  ⟨some 7,none,.no,.bin .lss .none (.t 5) (.t 6)⟩,
  ⟨some 8,none,.no,.mv (.t 7)⟩,
  ⟨some 9, some (8, true), .no, .mv (.t 4)⟩,
  ⟨some 10, some (8, true), .no, .bin .gtr .none (.t 9) (.v (.int .i64 0))⟩,
  ⟨some 11,none,.no,.pick (.t 8) (.t 10) (.v (.bool false))⟩]
def qnc4 : ACode := .cond (.t 11) .skip (.exit 0)
def qnc5 : ACode := .seq (.reg qnr3) qnc4
@[go_sem] def qnr6 : List AIns := [
  ⟨some 14,none,.no,.mv (.t 4)⟩,
  ⟨some 3,none,.no,.mv (.t 14)⟩]
@[go_sem] def qnr7 : List AIns := [
  ⟨some 12,none,.no,.mv (.t 4)⟩,
  ⟨some 13,none,.no,.bin .mul .none (.t 12) (.v (.int .i64 2))⟩,
  ⟨some 4,none,.no,.mv (.t 13)⟩]
def qnc8 : ACode := .seq (.block 1 (.reg qnr6)) (.reg qnr7)
def qnc9 : ACode := .seq qnc5 qnc8
def qnc10 : ACode := .loop qnc9
def qnc11 : ACode := .block 0 qnc10
def qnc12 : ACode := .seq (.reg qnr2) qnc11
@[go_sem] def qnr13 : List AIns := [
  ⟨some 15,none,.no,.mv (.t 3)⟩,
  ⟨some 2,none,.no,.mv (.t 15)⟩]
def qnc14 : ACode := .seq (.reg qnr13) .ret
def qnc15 : ACode := .seq qnc12 qnc14
def qnc16 : ACode := .seq (.reg qnr1) qnc15
def qnc17 : ACode := .seq (.reg qnr0) qnc16
theorem qnok : cFn TC 71 = some (16, [.t 2], qnc17) := by kernel_rfl
end Am
end Go.Proofs.YtncenefkbpelbaaDoor
end
section
/- Trees: contracts: a hash's bytes, Node. -/
namespace Go.Proofs.YtncenefkbpelbaaDoor
namespace Am
theorem zcx (s : List UInt8) : (shaS s).length = 32 := z48 _
def z1l (a b : List UInt8) : List UInt8 := shaS (1 :: (a ++ b))
theorem za1 (a b : List UInt8) : (z1l a b).length = 32 := zcx _
theorem zb8 : ∀ (l : List UInt8), z2x 1 l.length (zm l) = z8 l
  | [] => rfl
  | b :: l => by
    have := zb8 l
    simp only [zm, z8] at this
    simp [zm, z8, z2x, B8] at this ⊢
    exact this
theorem z8b (Y : Store) (h : List UInt8) (hl : h.length = 32) : ACallsTo TC 121 [.agg (zm h)] Y (.str h) Y := by
  refine ACallsTo.of_body qmok (by simp) fun hw _ => ?_
  have h1 := zo h
  have hc := zb8 h
  rw [hl] at h1 hc
  repeat' (first|refine zW.zs ?_|refine zW.zb ?_|refine zW.zc ?_|refine zW.zt rfl ?_|refine zW.zf rfl ?_|(refine zW.zd rfl (fun ht => ?_) (fun ht => ?_)<;>try (exfalso;omega))|((first|refine zW.zr ?_|refine zW.zk ?_|refine zW.ze ?_|refine zW.zq ?_|((first|apply zg0|apply zg1|apply zg2|apply zg3|apply zg4|apply zg5|apply zg6|apply zg7)<;>intro ht));all_goals try simp (disch:=first|omega|(simp only [lens];first|done|omega)) only [go_sem,reduceEqDiff,Nat.reduceBEq,reduceAdd,reduceMul,reduceSub,reduceLeDiff,reduceToNat,reducePow, h1, hc]))
  exact DownV.pure hw (z11 _ rfl)
/-- Own elements behind what was there, or none yet. -/
def OwnN (sz : Nat) (Z Y' : Store) (v : AV) (es : List (List AV)) : Prop :=
  ∃ news, Y' = Z ++ news /\ ((es = [] /\ v = .nilsl) \/ ∃ j, es ≠ [] /\ v = .sl (Z.length + j) 0 es.length none sz /\ news[j]? = some (some es))
theorem OwnN.len {sz : Nat} {Z Y' : Store} {v : AV} {es : List (List AV)} (h : OwnN sz Z Y' v es) : z1t v = some (.int .i64 es.length) := by
  obtain ⟨news, rfl, ⟨rfl, rfl⟩ | ⟨j, _, rfl, h⟩⟩ := h <;> rfl
theorem OwnN.appB {sz : Nat} {Z Y' : Store} {v : AV} {es ys : List (List AV)} (h : OwnN sz Z Y' v es) : z2d Y' v ys = aApp Y' 1 v ys := by
  obtain ⟨news, rfl, ⟨rfl, rfl⟩ | ⟨j, _, rfl, h⟩⟩ := h <;> rfl
theorem OwnN.nil {sz : Nat} {Z news : Store} : OwnN sz Z (Z ++ news) .nilsl [] := ⟨news, rfl, .inl ⟨rfl, rfl⟩⟩
theorem OwnN.ext {sz : Nat} {Z Y' : Store} {v : AV} {es : List (List AV)} (h : OwnN sz Z Y' v es) : ∃ news, Y' = Z ++ news := by
  obtain ⟨news, h, _⟩ := h; exact ⟨news, h⟩
/-- What others append behind leaves it. -/
theorem OwnN.more {sz : Nat} {Z Y' : Store} {v : AV} {es : List (List AV)} (h : OwnN sz Z Y' v es) (y : Store) : OwnN sz Z (Y' ++ y) v es := by
  obtain ⟨news, rfl, h | ⟨j, h0, rfl, h⟩⟩ := h
  · exact ⟨news ++ y, by rw [List.append_assoc], .inl h⟩
  · exact ⟨news ++ y, by rw [List.append_assoc], .inr ⟨j, h0, rfl, by rw [List.getElem?_append_left (List.getElem?_eq_some_iff.1 h).1]; exact h⟩⟩
theorem OwnN.app {sz : Nat} {Z Y' : Store} {v : AV} {es ys : List (List AV)} (h : OwnN sz Z Y' v es) (h0 : ys.length ≠ 0) (hl : es.length + ys.length <= 1073741824) :
    ∃ v' Y'', aApp Y' sz v ys = some (v', Y'') /\ OwnN sz Z Y'' v' (es ++ ys) := by
  have hne : es ++ ys ≠ [] := fun e => h0 (by rw [(List.append_eq_nil_iff.1 e).2]; rfl)
  obtain ⟨news, rfl, ⟨rfl, rfl⟩ | ⟨j, _, rfl, h⟩⟩ := h
  · refine ⟨_, _, by rw [z9l, if_neg h0, if_pos (by simpa using hl)], news ++ [some ys], by rw [List.append_assoc], .inr ⟨news.length, hne, by simp, by rw [List.getElem?_append_right (Nat.le_refl _)]; simp⟩⟩
  · have hj := (List.getElem?_eq_some_iff.1 h).1
    have hg : (Z ++ news)[Z.length + j]? = some (some es) := by rw [List.getElem?_append_right (by omega), Nat.add_sub_cancel_left]; exact h
    refine ⟨.sl (Z ++ news).length 0 (es.length + ys.length) none sz, (Z ++ news).set (Z.length + j) none ++ [some (es ++ ys)], ?_, news.set j none ++ [some (es ++ ys)], ?_, .inr ⟨news.length, hne, by simp, by rw [List.getElem?_append_right (by simp)]; simp⟩⟩
    · rw [z7x, if_neg h0, hg]
      simp only
      rw [if_pos ⟨trivial, by omega, by omega⟩, if_neg (by omega), List.drop_zero, List.take_of_length_le (Nat.le_refl _)]
    · rw [List.set_append_right _ _ (by omega), Nat.add_sub_cancel_left, List.append_assoc]
theorem OwnN.sl {sz : Nat} {Z Y' : Store} {v : AV} {es : List (List AV)} (h : OwnN sz Z Y' v es) (h0 : es ≠ []) : ∃ r, v = .sl r 0 es.length none sz /\ Y'[r]? = some (some es) /\ Z.length <= r := by
  obtain ⟨news, rfl, ⟨rfl, rfl⟩ | ⟨j, _, rfl, h⟩⟩ := h
  · exact absurd rfl h0
  · exact ⟨_, rfl, by rw [List.getElem?_append_right (by omega), Nat.add_sub_cancel_left]; exact h, by omega⟩
/-- A slice that nobody writes. -/
def SlV (sz : Nat) (es : List (List AV)) (x : AV) : Prop := (x = .nilsl /\ es = []) \/ ∃ ex, x = .vsl sz es ex
theorem SlV.len {sz : Nat} {es : List (List AV)} {x : AV} (h : SlV sz es x) : z1t x = some (.int .i64 es.length) := by
  rcases h with ⟨rfl, rfl⟩ | ⟨ex, rfl⟩ <;> rfl
theorem SlV.vsl {sz : Nat} {es : List (List AV)} {x : AV} (h : SlV sz es x) (h0 : 0 < es.length) : ∃ ex, x = .vsl sz es ex := by
  rcases h with ⟨rfl, rfl⟩ | h
  · simp at h0
  · exact h
def z1c (sz : Nat) (es : List (List AV)) : AV := if es = [] then .nilsl else .vsl sz es false
theorem z7e (sz : Nat) (es : List (List AV)) : SlV sz es (z1c sz es) := by
  unfold z1c
  split
  · rename_i h; exact .inl ⟨rfl, h⟩
  · exact .inr ⟨false, rfl⟩
/-- A new slice for the caller: who, and the store with it. -/
def ownV (Y : Store) (sz : Nat) (es : List (List AV)) : AV := if es = [] then .nilsl else .sl Y.length 0 es.length none sz
def ownS (Y : Store) (es : List (List AV)) : Store := if es = [] then Y else Y ++ [some es]
theorem z8n (Y : Store) (sz : Nat) (es : List (List AV)) : OwnN sz Y (ownS Y es) (ownV Y sz es) es := by
  unfold ownV ownS
  by_cases h : es = []
  · rw [if_pos h, if_pos h]; exact ⟨[], by simp, .inl ⟨h, rfl⟩⟩
  · rw [if_neg h, if_neg h]; exact ⟨[some es], rfl, .inr ⟨0, h, rfl, rfl⟩⟩
/-- At a function's end it is a value .. -/
theorem OwnN.froze {sz : Nat} {Y Y' : Store} {v : AV} {es : List (List AV)} (hw : Wf Y.length Y) (h : OwnN sz Y Y' v es) (hr : RLss Y.length es) : DownV Y.length v Y' (z1c sz es) Y := by
  unfold z1c
  obtain ⟨news, rfl, ⟨rfl, rfl⟩ | ⟨j, h0, rfl, h⟩⟩ := h
  · rw [if_pos rfl]; exact DownV.pure hw (z11 _ rfl)
  · have e : (es.drop 0).take es.length = es := by rw [List.drop_zero, List.take_of_length_le (Nat.le_refl _)]
    have := DownV.froze (off := 0) (len := es.length) (esz := sz) (lim := none) hw h (by omega) (by rw [e]; exact hr)
    rw [e] at this
    rw [if_neg h0]; exact this
/-- .. or its caller's own. -/
theorem OwnN.own {sz : Nat} {Y Y' : Store} {v : AV} {es : List (List AV)} (hw : Wf Y.length Y) (h : OwnN sz Y Y' v es) (hr : RLss Y.length es) : DownV Y.length v Y' (ownV Y sz es) (ownS Y es) := by
  unfold ownV ownS
  obtain ⟨news, rfl, ⟨rfl, rfl⟩ | ⟨j, h0, rfl, h⟩⟩ := h
  · rw [if_pos rfl, if_pos rfl]; exact DownV.pure hw (z11 _ rfl)
  · rw [if_neg h0, if_neg h0]; exact DownV.own (off := 0) (len := es.length) (esz := sz) (lim := none) hw h hr
theorem ziq {l : List UInt8} {i : Nat} (h : i < l.length) : (zm l)[i]? = some (.int .u8 (l.getD i 0).toNat) := by
  simp [zm, List.getD_eq_getElem?_getD, List.getElem?_eq_getElem h]
set_option maxHeartbeats 4000000 in
theorem za7 (Y : Store) (h : List UInt8) (hl : h.length = 32) : ACallsTo TC 116 [.agg (zm h)] Y (.str h) Y := by
  refine ACallsTo.of_body qlok (by simp) fun hw _ => ?_
  have h1 := zo h
  rw [hl] at h1
  repeat' (first|refine zW.zs ?_|refine zW.zb ?_|refine zW.zc ?_|refine zW.zt rfl ?_|refine zW.zf rfl ?_|(refine zW.zd rfl (fun ht => ?_) (fun ht => ?_)<;>try (exfalso;omega))|((first|refine zW.zr ?_|refine zW.zk ?_|refine zW.ze ?_|refine zW.zq ?_|((first|apply zg0|apply zg1|apply zg2|apply zg3|apply zg4|apply zg5|apply zg6|apply zg7)<;>intro ht));all_goals try simp (disch:=first|omega|(simp only [lens];first|done|omega)) only [go_sem,reduceEqDiff,Nat.reduceBEq,reduceAdd,reduceMul,reduceSub,reduceLeDiff,reduceToNat,reducePow, h1]))
  refine zW.loop (fun m O Y' => ∃ i : Nat, m + i = 32 /\ O 1 = .ptr Y.length 0 0 /\ O 4 = .int .i64 i /\ OwnN 1 (Y ++ [some [zm h]]) Y' (O 3) (z8 (h.take i))) 32 ?_ ?_
  · refine ⟨0, by omega, by simp (disch:=first|omega|(simp only [lens];first|done|omega)) only [go_sem,reduceEqDiff,Nat.reduceBEq,reduceAdd,reduceMul,reduceSub,reduceLeDiff,reduceToNat,reducePow], by simp (disch:=first|omega|(simp only [lens];first|done|omega)) only [go_sem,reduceEqDiff,Nat.reduceBEq,reduceAdd,reduceMul,reduceSub,reduceLeDiff,reduceToNat,reducePow]; rfl, ?_⟩
    simp (disch:=first|omega|(simp only [lens];first|done|omega)) only [go_sem,reduceEqDiff,Nat.reduceBEq,reduceAdd,reduceMul,reduceSub,reduceLeDiff,reduceToNat,reducePow]
    have := OwnN.nil (sz := 1) (Z := Y ++ [some [zm h]]) (news := [])
    rwa [List.append_nil] at this
  · rintro m O Y' ⟨i, hm, q1, q4, hO⟩
    by_cases hi : i < 32
    · have hg := ziq (l := h) (i := i) (by omega)
      have hs : h.take (i + 1) = h.take i ++ [h.getD i 0] := by
        rw [List.take_add_one, List.getD_eq_getElem?_getD, List.getElem?_eq_getElem (by omega)]; rfl
      obtain ⟨v', Y2, he, hO2⟩ := hO.app (ys := z8 [h.getD i 0]) (by simp [z8]) (by simp [zg]; omega)
      have ho : Y'[Y.length]? = some (some [zm h]) := by
        obtain ⟨news, rfl, _⟩ := hO
        rw [List.append_assoc, List.getElem?_append_right (Nat.le_refl _), Nat.sub_self]; rfl
      have hb : z8 [h.getD i 0] = [[.int .u8 (h.getD i 0).toNat]] := rfl
      rw [hb] at he
      rw [<- hO.appB] at he
      generalize h.getD i 0 = x at *
      generalize hv : O 3 = v at *
      repeat' (first|refine zW.zs ?_|refine zW.zb ?_|refine zW.zc ?_|refine zW.zt rfl ?_|refine zW.zf rfl ?_|(refine zW.zd rfl (fun ht => ?_) (fun ht => ?_)<;>try (exfalso;omega))|((first|refine zW.zr ?_|refine zW.zk ?_|refine zW.ze ?_|refine zW.zq ?_|((first|apply zg0|apply zg1|apply zg2|apply zg3|apply zg4|apply zg5|apply zg6|apply zg7)<;>intro ht));all_goals try simp (disch:=first|omega|(simp only [lens];first|done|omega)) only [go_sem,reduceEqDiff,Nat.reduceBEq,reduceAdd,reduceMul,reduceSub,reduceLeDiff,reduceToNat,reducePow, q1, q4, hv, ho, h1, hg, he]))
      refine ⟨32 - (i + 1), by omega, i + 1, by omega, by simp, ?_⟩
      rw [hs, <- z80]
      exact hO2
    · obtain rfl : i = 32 := by omega
      rw [List.take_of_length_le (by omega)] at hO
      obtain ⟨r, q3, hg, _⟩ := hO.sl (by intro e; have := zg h; rw [e] at this; simp at this; omega)
      rw [zg] at q3
      repeat' (first|refine zW.zs ?_|refine zW.zb ?_|refine zW.zc ?_|refine zW.zt rfl ?_|refine zW.zf rfl ?_|(refine zW.zd rfl (fun ht => ?_) (fun ht => ?_)<;>try (exfalso;omega))|((first|refine zW.zr ?_|refine zW.zk ?_|refine zW.ze ?_|refine zW.zq ?_|((first|apply zg0|apply zg1|apply zg2|apply zg3|apply zg4|apply zg5|apply zg6|apply zg7)<;>intro ht));all_goals try simp (disch:=first|omega|(simp only [lens];first|done|omega)) only [go_sem,reduceEqDiff,Nat.reduceBEq,reduceAdd,reduceMul,reduceSub,reduceLeDiff,reduceToNat,reducePow, q1, q4, q3, hg]))
      obtain ⟨news, rfl, _⟩ := hO
      rw [List.append_assoc]
      exact DownV.pure hw (z11 _ rfl)
theorem zdb (Y : Store) (a b : List UInt8) (ha : a.length = 32) (hb : b.length = 32) : ACallsTo TC 90 [.agg (zm a), .agg (zm b)] Y (.agg (zm (z1l a b))) Y := by
  refine ACallsTo.of_body qgok (by simp) fun hw _ => ?_
  have h1 := zo a
  have h2 := zo b
  have h3 := zo (z1l a b)
  rw [ha] at h1
  rw [hb] at h2
  rw [za1] at h3
  obtain ⟨n, hn⟩ : ∃ n, n = z1l a b := ⟨_, rfl⟩
  have hs : ∀ Y, ACallsTo TC 87 [.str (1 :: (a ++ b))] Y (.agg (zm n)) Y := fun Y => by rw [hn]; exact z7d Y _ (by simp; omega)
  rw [<- hn] at h3 ⊢
  repeat' (first | refine zW.zs ?_ | refine zW.zb ?_ | refine zW.zc ?_ | refine zW.zt rfl ?_ | refine zW.zf rfl ?_ | (refine zW.zd rfl (fun ht => ?_) (fun ht => ?_) <;> try (exfalso; omega)) | ((first | refine zW.regS ?_ | refine zW.zk ?_ | refine zW.ze ?_ | refine zW.zq ?_ | (apply callW.mk_pu; (first | exact (fun _ => z8b _ _ ha) | exact (fun _ => z8b _ _ hb) | exact (fun _ => hs _))) | (apply callW.za; (first | exact (z8b _ _ ha) | exact (z8b _ _ hb) | exact (hs _))) | ((first|apply zg0|apply zg1|apply zg2|apply zg3|apply zg4|apply zg5|apply zg6|apply zg7)<;>intro ht));all_goals try simp (disch:=first|omega|(simp only [lens];first|done|omega)) only [go_sem,reduceEqDiff,Nat.reduceBEq,reduceAdd,reduceMul,reduceSub,reduceLeDiff,reduceToNat,reducePow, h1, h2, h3]))
  exact DownV.pure hw (z2q (z24 _))
theorem zcj (Y : Store) (a b : List UInt8) (ha : a.length = 32) (hb : b.length = 32) : ACallsTo TC 72 [.agg (zm a), .agg (zm b)] Y (.agg (zm (z1l a b))) Y := by
  refine ACallsTo.of_body qkok (by simp) fun hw _ => ?_
  have h1 := zo a
  have h2 := zo b
  have h3 := zo (z1l a b)
  rw [ha] at h1
  rw [hb] at h2
  rw [za1] at h3
  obtain ⟨n, hn⟩ : ∃ n, n = z1l a b := ⟨_, rfl⟩
  have hs : ∀ Y, ACallsTo TC 70 [.str (1 :: (a ++ b))] Y (.agg (zm n)) Y := fun Y => by rw [hn]; exact z77 Y _ (by simp; omega)
  rw [<- hn] at h3 ⊢
  repeat' (first | refine zW.zs ?_ | refine zW.zb ?_ | refine zW.zc ?_ | refine zW.zt rfl ?_ | refine zW.zf rfl ?_ | (refine zW.zd rfl (fun ht => ?_) (fun ht => ?_) <;> try (exfalso; omega)) | ((first | refine zW.regS ?_ | refine zW.zk ?_ | refine zW.ze ?_ | refine zW.zq ?_ | (apply callW.mk_pu; (first | exact (fun _ => za7 _ _ ha) | exact (fun _ => za7 _ _ hb) | exact (fun _ => hs _))) | (apply callW.za; (first | exact (za7 _ _ ha) | exact (za7 _ _ hb) | exact (hs _))) | ((first|apply zg0|apply zg1|apply zg2|apply zg3|apply zg4|apply zg5|apply zg6|apply zg7)<;>intro ht));all_goals try simp (disch:=first|omega|(simp only [lens];first|done|omega)) only [go_sem,reduceEqDiff,Nat.reduceBEq,reduceAdd,reduceMul,reduceSub,reduceLeDiff,reduceToNat,reducePow, h1, h2, h3]))
  exact DownV.pure hw (z2q (z24 _))
end Am
end Go.Proofs.YtncenefkbpelbaaDoor
end
section
/- Trees: contracts: Split, Root. -/
namespace Go.Proofs.YtncenefkbpelbaaDoor
namespace Am
def zu (n : Nat) : Nat := if n < 2 then 0 else 2 ^ Nat.log2 (n - 1)
theorem z7f {n : Nat} (h : 2 <= n) : zu n < n /\ n <= 2 * zu n /\ 0 < zu n := by
  unfold zu
  rw [if_neg (by omega)]
  have h1 := Nat.log2_self_le (n := n - 1) (by omega)
  have h2 := Nat.lt_log2_self (n := n - 1)
  rw [Nat.pow_succ] at h2
  have h3 : 0 < 2 ^ Nat.log2 (n - 1) := Nat.pow_pos (by decide)
  omega
theorem zd3 {n j : Nat} (h1 : 2 ^ j < n) (h2 : n <= 2 ^ (j + 1)) : zu n = 2 ^ j := by
  have h3 : 0 < 2 ^ j := Nat.pow_pos (by decide)
  unfold zu
  rw [if_neg (by omega)]
  have h4 := Nat.log2_self_le (n := n - 1) (by omega)
  have h5 := Nat.lt_log2_self (n := n - 1)
  congr 1
  generalize Nat.log2 (n - 1) = i at *
  have a1 : 2 ^ j < 2 ^ (i + 1) := by omega
  have a2 : 2 ^ i < 2 ^ (j + 1) := by omega
  have b1 := (Nat.pow_lt_pow_iff_right (by decide : 1 < 2)).1 a1
  have b2 := (Nat.pow_lt_pow_iff_right (by decide : 1 < 2)).1 a2
  omega
theorem zdd (Y : Store) (n : Nat) (h : n < 1000000000000) : ACallsTo TC 89 [.int .i64 n] Y (.int .i64 (zu n)) Y := by
  refine ACallsTo.of_body qhok (by simp) fun hw _ => ?_
  by_cases h2 : n < 2
  · have e : zu n = 0 := by unfold zu; rw [if_pos h2]
    rw [e]
    repeat' (first|refine zW.zs ?_|refine zW.zb ?_|refine zW.zc ?_|refine zW.zt rfl ?_|refine zW.zf rfl ?_|(refine zW.zd rfl (fun ht => ?_) (fun ht => ?_)<;>try (exfalso;omega))|((first|refine zW.zr ?_|refine zW.zk ?_|refine zW.ze ?_|refine zW.zq ?_|((first|apply zg0|apply zg1|apply zg2|apply zg3|apply zg4|apply zg5|apply zg6|apply zg7)<;>intro ht));all_goals try simp (disch:=first|omega|(simp only [lens];first|done|omega)) only [go_sem,reduceEqDiff,Nat.reduceBEq,reduceAdd,reduceMul,reduceSub,reduceLeDiff,reduceToNat,reducePow]))
    exact DownV.same hw (z11 _ rfl)
  · repeat' (first|refine zW.zs ?_|refine zW.zb ?_|refine zW.zc ?_|refine zW.zt rfl ?_|refine zW.zf rfl ?_|(refine zW.zd rfl (fun ht => ?_) (fun ht => ?_)<;>try (exfalso;omega))|((first|refine zW.zr ?_|refine zW.zk ?_|refine zW.ze ?_|refine zW.zq ?_|((first|apply zg0|apply zg1|apply zg2|apply zg3|apply zg4|apply zg5|apply zg6|apply zg7)<;>intro ht));all_goals try simp (disch:=first|omega|(simp only [lens];first|done|omega)) only [go_sem,reduceEqDiff,Nat.reduceBEq,reduceAdd,reduceMul,reduceSub,reduceLeDiff,reduceToNat,reducePow]))
    refine zW.loop (fun m O Y' => ∃ j : Nat, m = n - 2 ^ j /\ 2 ^ j < n /\ O 0 = .int .i64 n /\ O 3 = .int .i64 ((2 ^ j : Nat) : Int) /\ Y' = Y) (n - 1) ?_ ?_
    · exact ⟨0, rfl, by omega, by simp (disch:=first|omega|(simp only [lens];first|done|omega)) only [go_sem,reduceEqDiff,Nat.reduceBEq,reduceAdd,reduceMul,reduceSub,reduceLeDiff,reduceToNat,reducePow], by simp (disch:=first|omega|(simp only [lens];first|done|omega)) only [go_sem,reduceEqDiff,Nat.reduceBEq,reduceAdd,reduceMul,reduceSub,reduceLeDiff,reduceToNat,reducePow]; rfl, rfl⟩
    · rintro m O Y' ⟨j, hm, hj, q0, q3, rfl⟩
      have hp : 0 < 2 ^ j := Nat.pow_pos (by decide)
      have hs : 2 ^ (j + 1) = 2 ^ j * 2 := Nat.pow_succ ..
      generalize hk : 2 ^ j = k at *
      by_cases hc : (k : Int) < n - k
      · repeat' (first|refine zW.zs ?_|refine zW.zb ?_|refine zW.zc ?_|refine zW.zt rfl ?_|refine zW.zf rfl ?_|(refine zW.zd rfl (fun ht => ?_) (fun ht => ?_)<;>try (exfalso;omega))|((first|refine zW.zr ?_|refine zW.zk ?_|refine zW.ze ?_|refine zW.zq ?_|((first|apply zg0|apply zg1|apply zg2|apply zg3|apply zg4|apply zg5|apply zg6|apply zg7)<;>intro ht));all_goals try simp (disch:=first|omega|(simp only [lens];first|done|omega)) only [go_sem,reduceEqDiff,Nat.reduceBEq,reduceAdd,reduceMul,reduceSub,reduceLeDiff,reduceToNat,reducePow, q0, q3]))
        exact ⟨n - k * 2, by omega, j + 1, by rw [hs], by omega, by rw [hs]; rfl⟩
      · have e : zu n = k := by rw [<- hk]; exact zd3 (by omega) (by omega)
        rw [e]
        repeat' (first|refine zW.zs ?_|refine zW.zb ?_|refine zW.zc ?_|refine zW.zt rfl ?_|refine zW.zf rfl ?_|(refine zW.zd rfl (fun ht => ?_) (fun ht => ?_)<;>try (exfalso;omega))|((first|refine zW.zr ?_|refine zW.zk ?_|refine zW.ze ?_|refine zW.zq ?_|((first|apply zg0|apply zg1|apply zg2|apply zg3|apply zg4|apply zg5|apply zg6|apply zg7)<;>intro ht));all_goals try simp (disch:=first|omega|(simp only [lens];first|done|omega)) only [go_sem,reduceEqDiff,Nat.reduceBEq,reduceAdd,reduceMul,reduceSub,reduceLeDiff,reduceToNat,reducePow, q0, q3]))
        exact DownV.same hw (z11 _ rfl)
theorem zcl (Y : Store) (n : Nat) (h : n < 1000000000000) : ACallsTo TC 71 [.int .i64 n] Y (.int .i64 (zu n)) Y := by
  refine ACallsTo.of_body qnok (by simp) fun hw _ => ?_
  repeat' (first|refine zW.zs ?_|refine zW.zb ?_|refine zW.zc ?_|refine zW.zt rfl ?_|refine zW.zf rfl ?_|(refine zW.zd rfl (fun ht => ?_) (fun ht => ?_)<;>try (exfalso;omega))|((first|refine zW.zr ?_|refine zW.zk ?_|refine zW.ze ?_|refine zW.zq ?_|((first|apply zg0|apply zg1|apply zg2|apply zg3|apply zg4|apply zg5|apply zg6|apply zg7)<;>intro ht));all_goals try simp (disch:=first|omega|(simp only [lens];first|done|omega)) only [go_sem,reduceEqDiff,Nat.reduceBEq,reduceAdd,reduceMul,reduceSub,reduceLeDiff,reduceToNat,reducePow]))
  refine zW.loop (fun m O Y' => ∃ j k : Nat, m = n - 2 ^ j /\ ((j = 0 /\ k = 0) \/ (k < n /\ 2 ^ j = k * 2 /\ ∃ i, k = 2 ^ i)) /\ O 0 = .int .i64 n /\ O 3 = .int .i64 k /\ O 4 = .int .i64 ((2 ^ j : Nat) : Int) /\ Y' = Y) (n - 1) ?_ ?_
  · exact ⟨0, 0, rfl, .inl ⟨rfl, rfl⟩, by simp (disch:=first|omega|(simp only [lens];first|done|omega)) only [go_sem,reduceEqDiff,Nat.reduceBEq,reduceAdd,reduceMul,reduceSub,reduceLeDiff,reduceToNat,reducePow], by simp (disch:=first|omega|(simp only [lens];first|done|omega)) only [go_sem,reduceEqDiff,Nat.reduceBEq,reduceAdd,reduceMul,reduceSub,reduceLeDiff,reduceToNat,reducePow]; rfl, by simp (disch:=first|omega|(simp only [lens];first|done|omega)) only [go_sem,reduceEqDiff,Nat.reduceBEq,reduceAdd,reduceMul,reduceSub,reduceLeDiff,reduceToNat,reducePow]; rfl, rfl⟩
  · rintro m O Y' ⟨j, k, hm, hk, q0, q3, q4, rfl⟩
    have hp : 0 < 2 ^ j := Nat.pow_pos (by decide)
    have hs : 2 ^ (j + 1) = 2 ^ j * 2 := Nat.pow_succ ..
    by_cases hc : 2 ^ j < n
    · generalize hmm : 2 ^ j = mm at *
      repeat' (first|refine zW.zs ?_|refine zW.zb ?_|refine zW.zc ?_|refine zW.zt rfl ?_|refine zW.zf rfl ?_|(refine zW.zd rfl (fun ht => ?_) (fun ht => ?_)<;>try (exfalso;omega))|((first|refine zW.zr ?_|refine zW.zk ?_|refine zW.ze ?_|refine zW.zq ?_|((first|apply zg0|apply zg1|apply zg2|apply zg3|apply zg4|apply zg5|apply zg6|apply zg7)<;>intro ht));all_goals try simp (disch:=first|omega|(simp only [lens];first|done|omega)) only [go_sem,reduceEqDiff,Nat.reduceBEq,reduceAdd,reduceMul,reduceSub,reduceLeDiff,reduceToNat,reducePow, q0, q3, q4]))
      clear hk
      exact ⟨n - mm * 2, by omega, j + 1, mm, by rw [hs], .inr ⟨hc, hs, j, hmm.symm⟩, rfl, by rw [hs]; rfl⟩
    · have e : zu n = k := by
        rcases hk with ⟨rfl, rfl⟩ | ⟨h1, h2, i, rfl⟩
        · unfold zu; rw [if_pos (by simp at hc; omega)]
        · exact zd3 h1 (by rw [Nat.pow_succ]; omega)
      rw [e]
      clear e hk hs
      generalize hmm : 2 ^ j = mm at *
      repeat' (first|refine zW.zs ?_|refine zW.zb ?_|refine zW.zc ?_|refine zW.zt rfl ?_|refine zW.zf rfl ?_|(refine zW.zd rfl (fun ht => ?_) (fun ht => ?_)<;>try (exfalso;omega))|((first|refine zW.zr ?_|refine zW.zk ?_|refine zW.ze ?_|refine zW.zq ?_|((first|apply zg0|apply zg1|apply zg2|apply zg3|apply zg4|apply zg5|apply zg6|apply zg7)<;>intro ht));all_goals try simp (disch:=first|omega|(simp only [lens];first|done|omega)) only [go_sem,reduceEqDiff,Nat.reduceBEq,reduceAdd,reduceMul,reduceSub,reduceLeDiff,reduceToNat,reducePow, q0, q3, q4]))
      exact DownV.same hw (z11 _ rfl)
def z6a : Nat -> List (List UInt8) -> List UInt8
  | 0, _ => []
  | _ + 1, [] => shaS []
  | _ + 1, [h] => h
  | f + 1, a :: b :: l => z1l (z6a f ((a :: b :: l).take (zu (l.length + 2)))) (z6a f ((a :: b :: l).drop (zu (l.length + 2))))
theorem zac : ∀ (f g : Nat) (l : List (List UInt8)), l.length < f -> l.length < g -> z6a f l = z6a g l
  | 0, _, _, h, _ => by omega
  | _ + 1, 0, _, _, h => by omega
  | f + 1, g + 1, [], _, _ => rfl
  | f + 1, g + 1, [_], _, _ => rfl
  | f + 1, g + 1, a :: b :: l, h, h' => by
    obtain ⟨s1, s2, s3⟩ := z7f (n := l.length + 2) (by omega)
    simp only [List.length_cons] at h h'
    simp only [z6a]
    rw [zac f g ((a :: b :: l).take (zu (l.length + 2))) (by rw [List.length_take]; simp; omega) (by rw [List.length_take]; simp; omega),
      zac f g ((a :: b :: l).drop (zu (l.length + 2))) (by rw [List.length_drop]; simp; omega) (by rw [List.length_drop]; simp; omega)]
/-- The root of leaves. -/
def z1j (l : List (List UInt8)) : List UInt8 := z6a (l.length + 1) l
theorem zcq : z1j [] = shaS [] := rfl
theorem zp3 (h : List UInt8) : z1j [h] = h := rfl
theorem zad {l : List (List UInt8)} (h : 2 <= l.length) : z1j l = z1l (z1j (l.take (zu l.length))) (z1j (l.drop (zu l.length))) := by
  match l, h with
  | a :: b :: l, _ =>
    obtain ⟨s1, s2, s3⟩ := z7f (n := l.length + 2) (by omega)
    unfold z1j
    simp only [z6a, List.length_cons]
    congr 1
    · refine zac _ _ _ ?_ (Nat.lt_succ_self _)
      rw [List.length_take]
      simp only [List.length_cons]
      omega
    · refine zac _ _ _ ?_ (Nat.lt_succ_self _)
      rw [List.length_drop]
      simp only [List.length_cons]
      omega
def H32 (l : List (List UInt8)) : Prop := ∀ h ∈ l, h.length = 32
theorem H32.take {l : List (List UInt8)} (h : H32 l) (n : Nat) : H32 (l.take n) := fun x hx => h x (List.mem_of_mem_take hx)
theorem H32.drop {l : List (List UInt8)} (h : H32 l) (n : Nat) : H32 (l.drop n) := fun x hx => h x (List.mem_of_mem_drop hx)
theorem z55 {l : List (List UInt8)} (h : H32 l) : (z1j l).length = 32 := by
  match l, h with
  | [], _ => exact zcx _
  | [x], h => exact h x (by simp)
  | a :: b :: l, _ => rw [zad (by simp)]; exact za1 _ _
end Am
end Go.Proofs.YtncenefkbpelbaaDoor
end
section
/- Trees: contracts: Root. -/
namespace Go.Proofs.YtncenefkbpelbaaDoor
namespace Am
/-- Hashes as_ rows. -/
def z13 (l : List (List UInt8)) : List (List AV) := l.map zm
theorem z5p (l : List (List UInt8)) : (z13 l).length = l.length := by simp [z13]
theorem zf9 {l : List (List UInt8)} {i : Nat} (h : i < l.length) : (z13 l)[i]? = some (zm l[i]) := by
  simp [z13, List.getElem?_map, List.getElem?_eq_getElem h]
theorem zku (l : List (List UInt8)) (n : Nat) : (z13 l).take n = z13 (l.take n) := by simp [z13, List.map_take]
theorem zkt (l : List (List UInt8)) (n : Nat) : (z13 l).drop n = z13 (l.drop n) := by simp [z13, List.map_drop]
theorem hrows_nil {l : List (List UInt8)} : z13 l = [] ↔ l = [] := by simp [z13]
theorem z7a {k : Nat} : ∀ (l : List (List UInt8)), RLss k (z13 l)
  | [] => by simp [z13, RLss]
  | h :: l => by have := z7a (k := k) l; simp only [z13] at this; simp [z13, RLss, this, z24]
set_option maxHeartbeats 4000000 in
theorem zi8 (hs : List (List UInt8)) (hH : H32 hs) (hl : hs.length < 1000000000) (ex : Bool) (r1 r3 : Nat) :
    ∀ (d : Nat) (Y : Store) (a : Nat), 0 < d -> a + d <= hs.length -> Y[r1]? = some (some [[.vsl 32 (z13 hs) ex]]) -> Y[r3]? = some (some [[.fn 88 [.ptr r1 0 0, .ptr r3 0 0]]]) ->
      ACallsTo TC 88 [.int .i64 a, .int .i64 ((a + d : Nat) : Int), .ptr r1 0 0, .ptr r3 0 0] Y (.agg (zm (z1j ((hs.drop a).take d)))) Y := by
  intro d
  induction d using Nat.strongRecOn with
  | _ d ih =>
    intro Y a h0 had hg1 hg3
    have hr1 := (List.getElem?_eq_some_iff.1 hg1).1
    have hr3 := (List.getElem?_eq_some_iff.1 hg3).1
    obtain ⟨L, hL⟩ : ∃ L, L = (hs.drop a).take d := ⟨_, rfl⟩
    have hLl : L.length = d := by rw [hL, List.length_take, List.length_drop]; omega
    have hLH : H32 L := by rw [hL]; exact (hH.drop a).take d
    have hn := z55 hLH
    have hc := zo (z1j L)
    rw [hn] at hc
    rw [<- hL]
    have hsub : ((a + d : Nat) : Int) - a = d := by omega
    by_cases h1 : d = 1
    · have e0 : zu d = 0 := by unfold zu; rw [if_pos (by omega)]
      have hsp := fun Y => zdd Y d (by omega)
      rw [e0] at hsp
      obtain ⟨x, hx⟩ : ∃ x, hs[a]? = some x := ⟨_, List.getElem?_eq_getElem (by omega)⟩
      have hgr : (z13 hs)[a]? = some (zm x) := by simp [z13, hx]
      have eL : z1j L = x := by
        have : L = [x] := by
          rw [hL, h1]
          apply List.ext_getElem?
          intro i
          cases i with
          | zero => simp [List.getElem?_take, List.getElem?_drop, hx]
          | succ i => simp [List.getElem?_take]
        rw [this]; rfl
      rw [eL] at hc ⊢
      have hrl := z5p hs
      clear eL
      generalize z13 hs = rows at *
      refine ACallsTo.of_body qiok (by simp) fun hw _ => ?_
      repeat' (first|refine zW.zs ?_|refine zW.zb ?_|refine zW.zc ?_|refine zW.zt rfl ?_|refine zW.zf rfl ?_|(refine zW.zd rfl (fun ht => ?_) (fun ht => ?_)<;>try (exfalso;omega))|((first|refine zW.zr ?_|refine zW.zk ?_|refine zW.ze ?_|refine zW.zq ?_|(apply callW.mk_pu; (first | exact (fun _ => hsp _))) | (apply callW.za; (first | exact (hsp _))) | ((first|apply zg0|apply zg1|apply zg2|apply zg3|apply zg4|apply zg5|apply zg6|apply zg7)<;>intro ht));all_goals try simp (disch:=first|omega|(simp only [lens];first|done|omega)) only [go_sem,reduceEqDiff,Nat.reduceBEq,reduceAdd,reduceMul,reduceSub,reduceLeDiff,reduceToNat,reducePow, hsub, hg1, hgr, hc]))
      exact DownV.pure hw (z2q (z24 _))
    · obtain ⟨s1, s2, s3⟩ := z7f (n := d) (by omega)
      have hsp := fun Y => zdd Y d (by omega)
      have eL := zad (l := L) (by omega)
      rw [hLl] at eL
      have t1 : L.take (zu d) = (hs.drop a).take (zu d) := by rw [hL, List.take_take, Nat.min_eq_left (by omega)]
      have t2 : L.drop (zu d) = (hs.drop (a + zu d)).take (d - zu d) := by rw [hL, List.drop_take, List.drop_drop]
      generalize hk : zu d = k at *
      have i1 := fun y => ih k (by omega) (Y ++ y) a (by omega) (by omega) (by rw [gapp hr1]; exact hg1) (by rw [gapp hr3]; exact hg3)
      have i2 := fun y => ih (d - k) (by omega) (Y ++ y) (a + k) (by omega) (by omega) (by rw [gapp hr1]; exact hg1) (by rw [gapp hr3]; exact hg3)
      rw [<- t1] at i1
      rw [<- t2] at i2
      rw [show a + k + (d - k) = a + d by omega] at i2
      have n1 := z55 (hLH.take k)
      have n2 := z55 (hLH.drop k)
      have e1 : ((a : Int) + k) = ((a + k : Nat) : Int) := by omega
      rw [eL] at hc ⊢
      generalize z1j (L.take k) = A at *
      generalize z1j (L.drop k) = B at *
      have k0 : ¬ (k : Int) = 0 := by omega
      refine ACallsTo.of_body qiok (by simp) fun hw _ => ?_
      repeat' (first | refine zW.zs ?_ | refine zW.zb ?_ | refine zW.zc ?_ | refine zW.zt rfl ?_ | refine zW.zf rfl ?_ | (refine zW.zd rfl (fun ht => ?_) (fun ht => ?_) <;> try (exfalso; omega)) | ((first | refine zW.regS ?_ | refine zW.zk ?_ | refine zW.ze ?_ | refine zW.zq ?_ | (apply callW.mk_pu; (first | exact (fun _ => hsp _) | exact (fun _ => i1 _) | exact (fun _ => i2 _) | exact (fun _ => zdb _ _ _ n1 n2))) | (apply callW.za; (first | exact (hsp _) | exact (i1 _) | exact (i2 _) | exact (zdb _ _ _ n1 n2))) | ((first|apply zg0|apply zg1|apply zg2|apply zg3|apply zg4|apply zg5|apply zg6|apply zg7)<;>intro ht));all_goals try simp (disch:=first|omega|(simp only [lens];first|done|omega)) only [go_sem,reduceEqDiff,Nat.reduceBEq,reduceAdd,reduceMul,reduceSub,reduceLeDiff,reduceToNat,reducePow, hsub, hg1, hg3, hc, e1]))
      exact DownV.pure hw (z2q (z24 _))
theorem zqj (Y : Store) (hs : List (List UInt8)) (x : AV) (hx : SlV 32 (z13 hs) x) (hH : H32 hs) (hl : hs.length < 1000000000) : ACallsTo TC 45 [x] Y (.agg (zm (z1j hs))) Y := by
  have hc := zo (z1j hs)
  rw [z55 hH] at hc
  have hrl := z5p hs
  by_cases h0 : hs = []
  · subst h0
    have hx' := hx.len
    unfold z1t at hx'
    refine ACallsTo.of_body qfok (by simp) fun hw _ => ?_
    rw [zcq] at hc ⊢
    rcases hx with ⟨rfl, h⟩ | ⟨ex, rfl⟩
    · repeat' (first|refine zW.zs ?_|refine zW.zb ?_|refine zW.zc ?_|refine zW.zt rfl ?_|refine zW.zf rfl ?_|(refine zW.zd rfl (fun ht => ?_) (fun ht => ?_)<;>try (exfalso;omega))|((first|refine zW.zr ?_|refine zW.zk ?_|refine zW.ze ?_|refine zW.zq ?_|(apply callW.mk_pu; (first | exact (fun _ => z7d _ [] (by simp)))) | (apply callW.za; (first | exact (z7d _ [] (by simp)))) | ((first|apply zg0|apply zg1|apply zg2|apply zg3|apply zg4|apply zg5|apply zg6|apply zg7)<;>intro ht));all_goals try simp (disch:=first|omega|(simp only [lens];first|done|omega)) only [go_sem,reduceEqDiff,Nat.reduceBEq,reduceAdd,reduceMul,reduceSub,reduceLeDiff,reduceToNat,reducePow, hc]))
      exact DownV.pure hw (z2q (z24 _))
    · repeat' (first|refine zW.zs ?_|refine zW.zb ?_|refine zW.zc ?_|refine zW.zt rfl ?_|refine zW.zf rfl ?_|(refine zW.zd rfl (fun ht => ?_) (fun ht => ?_)<;>try (exfalso;omega))|((first|refine zW.zr ?_|refine zW.zk ?_|refine zW.ze ?_|refine zW.zq ?_|(apply callW.mk_pu; (first | exact (fun _ => z7d _ [] (by simp)))) | (apply callW.za; (first | exact (z7d _ [] (by simp)))) | ((first|apply zg0|apply zg1|apply zg2|apply zg3|apply zg4|apply zg5|apply zg6|apply zg7)<;>intro ht));all_goals try simp (disch:=first|omega|(simp only [lens];first|done|omega)) only [go_sem,reduceEqDiff,Nat.reduceBEq,reduceAdd,reduceMul,reduceSub,reduceLeDiff,reduceToNat,reducePow, hc, hrl]))
      exact DownV.pure hw (z2q (z24 _))
  · have hpos : 0 < hs.length := List.length_pos_iff.2 h0
    obtain ⟨ex, rfl⟩ := hx.vsl (by rw [hrl]; exact hpos)
    have h1 := zi8 hs hH hl ex Y.length (Y.length + 2) hs.length
    refine ACallsTo.of_body qfok (by simp) fun hw _ => ?_
    have h1 := fun Y' => h1 Y' 0 hpos (by omega)
    simp only [Nat.zero_add, List.drop_zero, List.take_length] at h1
    generalize z1j hs = R at *
    generalize z13 hs = rows at *
    repeat' (first|refine zW.zs ?_|refine zW.zb ?_|refine zW.zc ?_|refine zW.zt rfl ?_|refine zW.zf rfl ?_|(refine zW.zd rfl (fun ht => ?_) (fun ht => ?_)<;>try (exfalso;omega))|((first|refine zW.zr ?_|refine zW.zk ?_|refine zW.ze ?_|refine zW.zq ?_|(apply callW.mk_pu; (first | exact (fun _ => h1 _ (by simp) (by simp)))) | (apply callW.za; (first | exact (h1 _ (by simp) (by simp)))) | ((first|apply zg0|apply zg1|apply zg2|apply zg3|apply zg4|apply zg5|apply zg6|apply zg7)<;>intro ht));all_goals try simp (disch:=first|omega|(simp only [lens];first|done|omega)) only [go_sem,reduceEqDiff,Nat.reduceBEq,reduceAdd,reduceMul,reduceSub,reduceLeDiff,reduceToNat,reducePow, hc, hrl]))
    exact DownV.pure hw (z2q (z24 _))
set_option maxHeartbeats 4000000 in
theorem zov (f : Nat) : ∀ (Y : Store) (hs : List (List UInt8)) (ex : Bool), hs.length < f -> H32 hs -> hs.length < 1000000000 -> ACallsTo TC 25 [.vsl 32 (z13 hs) ex] Y (.agg (zm (z1j hs))) Y := by
  induction f with
  | zero => intro Y hs ex h; omega
  | succ f ih =>
    intro Y hs ex hf hH hl
    have hc := zo (z1j hs)
    rw [z55 hH] at hc
    have hrl := z5p hs
    by_cases h0 : hs.length = 0
    · obtain rfl : hs = [] := List.eq_nil_of_length_eq_zero h0
      rw [zcq] at hc ⊢
      refine ACallsTo.of_body qjok (by simp) fun hw _ => ?_
      repeat' (first|refine zW.zs ?_|refine zW.zb ?_|refine zW.zc ?_|refine zW.zt rfl ?_|refine zW.zf rfl ?_|(refine zW.zd rfl (fun ht => ?_) (fun ht => ?_)<;>try (exfalso;omega))|((first|refine zW.zr ?_|refine zW.zk ?_|refine zW.ze ?_|refine zW.zq ?_|(apply callW.mk_pu; (first | exact (fun _ => z77 _ [] (by simp)))) | (apply callW.za; (first | exact (z77 _ [] (by simp)))) | ((first|apply zg0|apply zg1|apply zg2|apply zg3|apply zg4|apply zg5|apply zg6|apply zg7)<;>intro ht));all_goals try simp (disch:=first|omega|(simp only [lens];first|done|omega)) only [go_sem,reduceEqDiff,Nat.reduceBEq,reduceAdd,reduceMul,reduceSub,reduceLeDiff,reduceToNat,reducePow, hc, hrl]))
      exact DownV.pure hw (z2q (z24 _))
    · by_cases h1 : hs.length = 1
      · obtain ⟨x, rfl⟩ := List.length_eq_one_iff.1 h1
        rw [zp3] at hc ⊢
        refine ACallsTo.of_body qjok (by simp) fun hw _ => ?_
        simp only [z13, List.map_cons, List.map_nil]
        repeat' (first|refine zW.zs ?_|refine zW.zb ?_|refine zW.zc ?_|refine zW.zt rfl ?_|refine zW.zf rfl ?_|(refine zW.zd rfl (fun ht => ?_) (fun ht => ?_)<;>try (exfalso;omega))|((first|refine zW.zr ?_|refine zW.zk ?_|refine zW.ze ?_|refine zW.zq ?_|((first|apply zg0|apply zg1|apply zg2|apply zg3|apply zg4|apply zg5|apply zg6|apply zg7)<;>intro ht));all_goals try simp (disch:=first|omega|(simp only [lens];first|done|omega)) only [go_sem,reduceEqDiff,Nat.reduceBEq,reduceAdd,reduceMul,reduceSub,reduceLeDiff,reduceToNat,reducePow, hc]))
        exact DownV.pure hw (z2q (z24 _))
      · obtain ⟨s1, s2, s3⟩ := z7f (n := hs.length) (by omega)
        have hsp := fun Y => zcl Y hs.length (by omega)
        have eL := zad (l := hs) (by omega)
        have n1 := z55 (hH.take (zu hs.length))
        have n2 := z55 (hH.drop (zu hs.length))
        have i1 := fun Y ex => ih Y (hs.take (zu hs.length)) ex (by rw [List.length_take]; omega) (hH.take _) (by rw [List.length_take]; omega)
        have i2 := fun Y ex => ih Y (hs.drop (zu hs.length)) ex (by rw [List.length_drop]; omega) (hH.drop _) (by rw [List.length_drop]; omega)
        rw [eL] at hc ⊢
        have tk := zku hs (zu hs.length)
        have dk := zkt hs (zu hs.length)
        generalize z1j (hs.take (zu hs.length)) = A at *
        generalize z1j (hs.drop (zu hs.length)) = B at *
        generalize z13 (hs.take (zu hs.length)) = ra at *
        generalize z13 (hs.drop (zu hs.length)) = rb at *
        generalize z13 hs = rows at *
        generalize zu hs.length = k at *
        have k0 : ¬ (hs.length : Int) = 0 := by omega
        have k1 : ¬ (hs.length : Int) = 1 := by omega
        refine ACallsTo.of_body qjok (by simp) fun hw _ => ?_
        repeat' (first | refine zW.zs ?_ | refine zW.zb ?_ | refine zW.zc ?_ | refine zW.zt rfl ?_ | refine zW.zf rfl ?_ | (refine zW.zd rfl (fun ht => ?_) (fun ht => ?_) <;> try (exfalso; omega)) | ((first | refine zW.regS ?_ | refine zW.zk ?_ | refine zW.ze ?_ | refine zW.zq ?_ | (apply callW.mk_pu; (first | exact (fun _ => hsp _) | exact (fun _ => i1 _ _) | exact (fun _ => i2 _ _) | exact (fun _ => zcj _ _ _ n1 n2))) | (apply callW.za; (first | exact (hsp _) | exact (i1 _ _) | exact (i2 _ _) | exact (zcj _ _ _ n1 n2))) | ((first|apply zg0|apply zg1|apply zg2|apply zg3|apply zg4|apply zg5|apply zg6|apply zg7)<;>intro ht));all_goals try simp (disch:=first|omega|(simp only [lens];first|done|omega)) only [go_sem,reduceEqDiff,Nat.reduceBEq,reduceAdd,reduceMul,reduceSub,reduceLeDiff,reduceToNat,reducePow, hc, hrl, tk, dk]))
        exact DownV.pure hw (z2q (z24 _))
theorem zou (Y : Store) (hs : List (List UInt8)) (x : AV) (hx : SlV 32 (z13 hs) x) (hH : H32 hs) (hl : hs.length < 1000000000) : ACallsTo TC 25 [x] Y (.agg (zm (z1j hs))) Y := by
  rcases hx with ⟨rfl, h⟩ | ⟨ex, rfl⟩
  · obtain rfl := hrows_nil.1 h
    have hc := zo (z1j [])
    rw [z55 hH] at hc
    rw [zcq] at hc ⊢
    refine ACallsTo.of_body qjok (by simp) fun hw _ => ?_
    repeat' (first|refine zW.zs ?_|refine zW.zb ?_|refine zW.zc ?_|refine zW.zt rfl ?_|refine zW.zf rfl ?_|(refine zW.zd rfl (fun ht => ?_) (fun ht => ?_)<;>try (exfalso;omega))|((first|refine zW.zr ?_|refine zW.zk ?_|refine zW.ze ?_|refine zW.zq ?_|(apply callW.mk_pu; (first | exact (fun _ => z77 _ [] (by simp)))) | (apply callW.za; (first | exact (z77 _ [] (by simp)))) | ((first|apply zg0|apply zg1|apply zg2|apply zg3|apply zg4|apply zg5|apply zg6|apply zg7)<;>intro ht));all_goals try simp (disch:=first|omega|(simp only [lens];first|done|omega)) only [go_sem,reduceEqDiff,Nat.reduceBEq,reduceAdd,reduceMul,reduceSub,reduceLeDiff,reduceToNat,reducePow, hc]))
    exact DownV.pure hw (z2q (z24 _))
  · exact zov (hs.length + 1) Y hs ex (by omega) hH hl
end Am
end Go.Proofs.YtncenefkbpelbaaDoor
end
section
/- Slices that are read: values, or own rows lent; Same; Some. -/
namespace Go.Proofs.YtncenefkbpelbaaDoor
namespace Am
/-- A slice that is read: a value, or an own row. -/
def RdSl (Y : Store) (sz : Nat) (es : List (List AV)) (x : AV) : Prop :=
  SlV sz es x \/ ∃ r off lim o, x = .sl r off es.length lim sz /\ Y[r]? = some (some o) /\ off + es.length <= o.length /\ (o.drop off).take es.length = es
theorem RdSl.of {Y : Store} {sz : Nat} {es : List (List AV)} {x : AV} (h : SlV sz es x) : RdSl Y sz es x := .inl h
theorem OwnN.rd {sz : Nat} {Z Y' : Store} {v : AV} {es : List (List AV)} (h : OwnN sz Z Y' v es) : RdSl Y' sz es v := by
  by_cases h0 : es = []
  · obtain ⟨news, rfl, ⟨rfl, rfl⟩ | ⟨j, h1, _⟩⟩ := h
    · exact .inl (.inl ⟨rfl, rfl⟩)
    · exact absurd h0 h1
  · obtain ⟨r, rfl, hg, _⟩ := h.sl h0
    exact .inr ⟨r, 0, none, es, rfl, hg, by omega, by rw [List.drop_zero, List.take_of_length_le (Nat.le_refl _)]⟩
theorem RdSl.app {Y y : Store} {sz : Nat} {es : List (List AV)} {x : AV} (h : RdSl Y sz es x) : RdSl (Y ++ y) sz es x := by
  rcases h with h | ⟨r, off, lim, o, rfl, hg, h1, h2⟩
  · exact .inl h
  · exact .inr ⟨r, off, lim, o, rfl, by rw [gapp (List.getElem?_eq_some_iff.1 hg).1]; exact hg, h1, h2⟩
theorem RdSl.len {Y : Store} {sz : Nat} {es : List (List AV)} {x : AV} (h : RdSl Y sz es x) : z1t x = some (.int .i64 es.length) := by
  rcases h with h | ⟨r, off, lim, o, rfl, _⟩
  · exact h.len
  · rfl
theorem RdSl.lend {Y : Store} {sz : Nat} {es : List (List AV)} {x : AV} (h : RdSl Y sz es x) (hr : RLss 0 es) : ∃ x0, SlV sz es x0 /\ DR (z39 Y) x0 x := by
  rcases h with h | ⟨r, off, lim, o, rfl, hg, h1, h2⟩
  · refine ⟨x, h, DR.refl (k := 0) (by omega) x ?_⟩
    rcases h with ⟨rfl, _⟩ | ⟨ex, rfl⟩
    · simp [RL]
    · simpa only [RL] using hr
  · refine ⟨.vsl sz es false, .inr ⟨false, rfl⟩, ?_⟩
    simp only [DR, z39]
    exact .inr (.inl ⟨r, off, lim, o, rfl, trivial, hg, h1, by simp, by rw [h2]; exact DRss.refl (k := 0) (by omega) es hr⟩)
/-- A slice of an array in memory, lent. -/
theorem zlp {Y : Store} {r i off cap esz : Nat} {o es : List (List AV)} {cs rest : List AV} (hg : Y[r]? = some (some o)) (hi : o[i]? = some cs) (ho : off <= cs.length) (hd : cs.drop off = es.flatten ++ rest) (he : ∀ e ∈ es, e.length = esz) (hn : es.length ≠ 0) (hr : RLss 0 es) :
    DR (z39 Y) (.vsl esz es false) (.asl r i off es.length cap esz) := by
  simp only [DR, z39]
  exact .inr (.inr ⟨r, i, off, cap, o, cs, es, rest, rfl, trivial, hg, hi, ho, hd, he, hn, by simp, DRss.refl (k := 0) (by omega) es hr⟩)
theorem rl0 {a : AV} (h : RL 0 a) (Y : Store) : DR (z39 Y) a a := DR.refl (k := 0) (by omega) a h
theorem drs1 {D : DC} {a b : AV} (h : DR D a b) : DRs D [a] [b] := by simp only [DRs]; exact ⟨b, [], rfl, h, rfl⟩
theorem drsc {D : DC} {a b : AV} {l m : List AV} (h : DR D a b) (h2 : DRs D l m) : DRs D (a :: l) (b :: m) := by simp only [DRs]; exact ⟨b, m, rfl, h, h2⟩
theorem zcz (k : Nat) : ∀ (l : List UInt8), shs k (zm l) = zm l
  | [] => rfl
  | b :: l => by have := zcz k l; simp only [zm] at this; simp [zm, shs, sh, this]
theorem zh5 (k : Nat) (l : List UInt8) : sh k (.agg (zm l)) = .agg (zm l) := by simp only [sh, zcz]
theorem z6d (k : Nat) : shS k [] = [] := rfl
theorem zqi (Y : Store) (hs : List (List UInt8)) (x : AV) (hx : RdSl Y 32 (z13 hs) x) (hH : H32 hs) (hl : hs.length < 1000000000) : ACallsTo TC 45 [x] Y (.agg (zm (z1j hs))) Y := by
  obtain ⟨x0, h0, hd⟩ := hx.lend (z7a hs)
  have := ACallsTo.lend glok (zqj [] hs x0 h0 hH hl) (drs1 hd)
  rwa [zh5, z6d, List.append_nil] at this
theorem zot (Y : Store) (hs : List (List UInt8)) (x : AV) (hx : RdSl Y 32 (z13 hs) x) (hH : H32 hs) (hl : hs.length < 1000000000) : ACallsTo TC 25 [x] Y (.agg (zm (z1j hs))) Y := by
  obtain ⟨x0, h0, hd⟩ := hx.lend (z7a hs)
  have := ACallsTo.lend glok (zou [] hs x0 h0 hH hl) (drs1 hd)
  rwa [zh5, z6d, List.append_nil] at this
theorem zbf : ∀ (a b : List UInt8), z1w (zm a) (zm b) = decide (a = b)
  | [], [] => rfl
  | [], _ :: _ => rfl
  | _ :: _, [] => rfl
  | a :: l, b :: m => by
    have ih := zbf l m
    simp only [zm, List.map_cons, z1w, z8d] at ih ⊢
    rw [ih, Bool.eq_iff_iff]
    simp [<- UInt8.toNat_inj]
    intro _
    omega
theorem zfg : ∀ (l : List UInt8), (zm l).map z1e = List.replicate l.length (some (LK.i .u8))
  | [] => rfl
  | _ :: l => by have := zfg l; simp only [zm] at this; simp [zm, z1e, this, List.replicate_succ]
theorem zbs {l : List UInt8} (h : l.length = 32) : (zm l).map z1e = (List.replicate 32 (LK.i .u8)).map some := by rw [zfg, h]; rfl
set_option maxHeartbeats 4000000 in
theorem zib (Y : Store) (A B : List (List UInt8)) (x y : AV) (hx : SlV 32 (z13 A) x) (hy : SlV 32 (z13 B) y) (hA : H32 A) (hB : H32 B) (hl : A.length < 1000000000) (hl2 : B.length < 1000000000) :
    ACallsTo TC 98 [x, y] Y (.bool (decide (A = B))) Y := by
  refine ACallsTo.of_body qeok (by simp) fun hw _ => ?_
  have r1 := hx.len
  have r2 := hy.len
  rw [z5p] at r1 r2
  unfold z1t at r1 r2
  by_cases hL : A.length = B.length
  · repeat' (first|refine zW.zs ?_|refine zW.zb ?_|refine zW.zc ?_|refine zW.zt rfl ?_|refine zW.zf rfl ?_|(refine zW.zd rfl (fun ht => ?_) (fun ht => ?_)<;>try (exfalso;omega))|((first|refine zW.zr ?_|refine zW.zk ?_|refine zW.ze ?_|refine zW.zq ?_|((first|apply zg0|apply zg1|apply zg2|apply zg3|apply zg4|apply zg5|apply zg6|apply zg7)<;>intro ht));all_goals try simp (disch:=first|omega|(simp only [lens];first|done|omega)) only [go_sem,reduceEqDiff,Nat.reduceBEq,reduceAdd,reduceMul,reduceSub,reduceLeDiff,reduceToNat,reducePow, r1, r2]))
    refine zW.loop (fun m O Y' => ∃ i : Nat, Y' = Y /\ m + i = A.length /\ A.take i = B.take i /\ O 0 = x /\ O 1 = y /\ O 5 = .int .i64 i) A.length ?_ ?_
    · exact ⟨0, rfl, by omega, rfl, by simp (disch:=first|omega|(simp only [lens];first|done|omega)) only [go_sem,reduceEqDiff,Nat.reduceBEq,reduceAdd,reduceMul,reduceSub,reduceLeDiff,reduceToNat,reducePow], by simp (disch:=first|omega|(simp only [lens];first|done|omega)) only [go_sem,reduceEqDiff,Nat.reduceBEq,reduceAdd,reduceMul,reduceSub,reduceLeDiff,reduceToNat,reducePow], by simp (disch:=first|omega|(simp only [lens];first|done|omega)) only [go_sem,reduceEqDiff,Nat.reduceBEq,reduceAdd,reduceMul,reduceSub,reduceLeDiff,reduceToNat,reducePow]; rfl⟩
    · rintro m O Y' ⟨i, rfl, hm, hp, q0, q1, q5⟩
      by_cases hi : i < A.length
      · have hi2 : i < B.length := by omega
        obtain ⟨e1, rfl⟩ := hx.vsl (by rw [z5p]; omega)
        obtain ⟨e2, rfl⟩ := hy.vsl (by rw [z5p]; omega)
        have g1 := zf9 hi
        have g2 := zf9 hi2
        have c1 := zo A[i]
        have c2 := zo B[i]
        rw [hA _ (List.getElem_mem _)] at c1
        rw [hB _ (List.getElem_mem _)] at c2
        have k1 := zbs (hA _ (List.getElem_mem hi))
        have k2 := zbs (hB _ (List.getElem_mem hi2))
        have heq := zbf A[i] B[i]
        have l1 := z5p A
        have l2 := z5p B
        have hn1 : A.take (i + 1) = A.take i ++ [A[i]] := (List.take_append_getElem hi).symm
        have hn2 : B.take (i + 1) = B.take i ++ [B[i]] := (List.take_append_getElem hi2).symm
        by_cases he : A[i] = B[i]
        · have hn : A.take (i + 1) = B.take (i + 1) := by rw [hn1, hn2, hp, he]
          rw [decide_eq_true he] at heq
          clear hn1 hn2 he
          generalize zm A[i] = ra at *
          generalize zm B[i] = rb at *
          generalize z13 A = rA at *
          generalize z13 B = rB at *
          repeat' (first | refine zW.zs ?_ | refine zW.zb ?_ | refine zW.zc ?_ | refine zW.zt rfl ?_ | refine zW.zf rfl ?_ | (refine zW.zd rfl (fun ht => ?_) (fun ht => ?_) <;> try (exfalso; omega)) | ((first | refine zW.regS ?_ | refine zW.zk ?_ | refine zW.ze ?_ | refine zW.zq ?_ | ((first|apply zg0|apply zg1|apply zg2|apply zg3|apply zg4|apply zg5|apply zg6|apply zg7)<;>intro ht));all_goals try simp (disch:=first|omega|(simp only [lens];first|done|omega)) only [go_sem,reduceEqDiff,Nat.reduceBEq,reduceAdd,reduceMul,reduceSub,reduceLeDiff,reduceToNat,reducePow, q0, q1, q5, g1, g2, c1, c2, k1, k2, heq, l1, l2]))
          exact ⟨A.length - (i + 1), by omega, i + 1, by omega, hn, by simp⟩
        · have e : decide (A = B) = false := decide_eq_false fun e => he (by subst e; rfl)
          rw [decide_eq_false he] at heq
          rw [e]
          clear hn1 hn2 he
          generalize zm A[i] = ra at *
          generalize zm B[i] = rb at *
          generalize z13 A = rA at *
          generalize z13 B = rB at *
          repeat' (first | refine zW.zs ?_ | refine zW.zb ?_ | refine zW.zc ?_ | refine zW.zt rfl ?_ | refine zW.zf rfl ?_ | (refine zW.zd rfl (fun ht => ?_) (fun ht => ?_) <;> try (exfalso; omega)) | ((first | refine zW.regS ?_ | refine zW.zk ?_ | refine zW.ze ?_ | refine zW.zq ?_ | ((first|apply zg0|apply zg1|apply zg2|apply zg3|apply zg4|apply zg5|apply zg6|apply zg7)<;>intro ht));all_goals try simp (disch:=first|omega|(simp only [lens];first|done|omega)) only [go_sem,reduceEqDiff,Nat.reduceBEq,reduceAdd,reduceMul,reduceSub,reduceLeDiff,reduceToNat,reducePow, q0, q1, q5, g1, g2, c1, c2, k1, k2, heq, l1, l2]))
          exact DownV.same hw (z11 _ rfl)
      · have e : decide (A = B) = true := decide_eq_true (by
          rw [List.take_of_length_le (by omega), List.take_of_length_le (by omega)] at hp
          exact hp)
        rw [e]
        repeat' (first|refine zW.zs ?_|refine zW.zb ?_|refine zW.zc ?_|refine zW.zt rfl ?_|refine zW.zf rfl ?_|(refine zW.zd rfl (fun ht => ?_) (fun ht => ?_)<;>try (exfalso;omega))|((first|refine zW.zr ?_|refine zW.zk ?_|refine zW.ze ?_|refine zW.zq ?_|((first|apply zg0|apply zg1|apply zg2|apply zg3|apply zg4|apply zg5|apply zg6|apply zg7)<;>intro ht));all_goals try simp (disch:=first|omega|(simp only [lens];first|done|omega)) only [go_sem,reduceEqDiff,Nat.reduceBEq,reduceAdd,reduceMul,reduceSub,reduceLeDiff,reduceToNat,reducePow, q0, q1, q5, r1, r2]))
        exact DownV.same hw (z11 _ rfl)
  · have e : decide (A = B) = false := decide_eq_false fun e => hL (by rw [e])
    rw [e]
    repeat' (first|refine zW.zs ?_|refine zW.zb ?_|refine zW.zc ?_|refine zW.zt rfl ?_|refine zW.zf rfl ?_|(refine zW.zd rfl (fun ht => ?_) (fun ht => ?_)<;>try (exfalso;omega))|((first|refine zW.zr ?_|refine zW.zk ?_|refine zW.ze ?_|refine zW.zq ?_|((first|apply zg0|apply zg1|apply zg2|apply zg3|apply zg4|apply zg5|apply zg6|apply zg7)<;>intro ht));all_goals try simp (disch:=first|omega|(simp only [lens];first|done|omega)) only [go_sem,reduceEqDiff,Nat.reduceBEq,reduceAdd,reduceMul,reduceSub,reduceLeDiff,reduceToNat,reducePow, r1, r2]))
    exact DownV.same hw (z11 _ rfl)
theorem zia (Y : Store) (A B : List (List UInt8)) (x y : AV) (hx : RdSl Y 32 (z13 A) x) (hy : RdSl Y 32 (z13 B) y) (hA : H32 A) (hB : H32 B) (hl : A.length < 1000000000) (hl2 : B.length < 1000000000) :
    ACallsTo TC 98 [x, y] Y (.bool (decide (A = B))) Y := by
  obtain ⟨x0, h0, hd⟩ := hx.lend (z7a A)
  obtain ⟨y0, h1, hd1⟩ := hy.lend (z7a B)
  have := ACallsTo.lend glok (zib [] A B x0 y0 h0 h1 hA hB hl hl2) (drsc hd (drs1 hd1))
  rwa [show sh Y.length (.bool (decide (A = B))) = .bool (decide (A = B)) from rfl, z6d, List.append_nil] at this
end Am
end Go.Proofs.YtncenefkbpelbaaDoor
end
section
/- Abstract code. (Printed by wip/gen.) -/
set_option maxRecDepth 10000
namespace Go.Proofs.YtncenefkbpelbaaDoor
namespace Am



@[go_sem] def zo0 : List AIns := [
  ⟨some 95,none,.no,.mv (.t 12)⟩,
  ⟨some 96,none,.no,.bin .gtr .none (.t 95) (.v (.int .i64 0))⟩]
def zne : ACode := .cond (.t 96) .skip (.exit 3)
def znf : ACode := .seq (.reg zo0) zne
@[go_sem] def zo1 : List AIns := [
  ⟨some 98,none,.no,.mv (.t 13)⟩,
  ⟨some 99,none,.no,.call (.t 98) []⟩,
  ⟨some 97,none,.no,.mv (.t 99)⟩,
  ⟨some 100,none,.no,.ext 0 (.t 97)⟩,
  ⟨some 101,none,.no,.ext 1 (.t 97)⟩,
  ⟨some 18,none,.no,.alloc zZ0⟩,
  ⟨none,none,.no,.store 32 (.t 18) (.t 100)⟩,
  ⟨some 19,none,.no,.mv (.t 101)⟩]
@[go_sem] def zo2 : List AIns := [
  ⟨some 106,none,.no,.mv (.t 19)⟩,
  ⟨some 107,none,.no,.un .not (.t 106)⟩,
  ⟨some 105,none,.no,.mv (.t 107)⟩]
@[go_sem] def zo3 : List AIns := [
  ⟨some 10,none,.no,.mv (.v (.int .i64 80))⟩]
def zng : ACode := .seq (.reg zo3) .ret
@[go_sem] def zo4 : List AIns := [
  ⟨some 109,none,.no,.mv (.t 11)⟩,
  ⟨some 110,none,.no,.bin .rem .none (.t 109) (.v (.int .i64 2))⟩,
  ⟨some 111,none,.no,.bin .eql .none (.t 110) (.v (.int .i64 1))⟩,
  ⟨some 112,none,.no,.mv (.t 111)⟩,
  ⟨some 113, some (112, false), .no, .mv (.t 11)⟩,
  ⟨some 114, some (112, false), .no, .mv (.t 12)⟩,
  ⟨some 115, some (112, false), .no, .bin .eql .none (.t 113) (.t 114)⟩,
  ⟨some 116,none,.no,.pick (.t 112) (.v (.bool true)) (.t 115)⟩,
  ⟨some 108,none,.no,.mv (.t 116)⟩]
@[go_sem] def zo5 : List AIns := [
  ⟨some 117, none, .rd, .load true 32 (.t 18)⟩,
  ⟨some 118, none, .rd, .load true 32 (.t 14)⟩,
  ⟨some 119, none, .ef, .call (.v (.fn 90 [])) [(.t 117), (.t 118)]⟩,
  ⟨some 120, none, .rd, .load true 32 (.t 18)⟩,
  ⟨some 121, none, .rd, .load true 32 (.t 15)⟩,
  ⟨some 122,none,.no,.call (.v (.fn 90 [])) [(.t 120), (.t 121)]⟩,
  ⟨none,none,.no,.store 32 (.t 14) (.t 119)⟩,
  ⟨none,none,.no,.store 32 (.t 15) (.t 122)⟩]
@[go_sem] def zo6 : List AIns := [
  ⟨some 123,none,.no,.mv (.t 11)⟩,
  ⟨some 124,none,.no,.bin .rem .none (.t 123) (.v (.int .i64 2))⟩,
  ⟨some 125,none,.no,.bin .eql .none (.t 124) (.v (.int .i64 0))⟩,
  ⟨some 126,none,.no,.mv (.t 125)⟩,
  ⟨some 127, some (126, true), .no, .mv (.t 11)⟩,
  ⟨some 128, some (126, true), .no, .bin .gtr .none (.t 127) (.v (.int .i64 0))⟩,
  ⟨some 129,none,.no,.pick (.t 126) (.t 128) (.v (.bool false))⟩]
def znh : ACode := .cond (.t 129) .skip (.exit 6)
def zni : ACode := .seq (.reg zo6) znh
@[go_sem] def zo7 : List AIns := [
  ⟨some 130,none,.no,.mv (.t 11)⟩,
  ⟨some 131,none,.no,.bin .quo .none (.t 130) (.v (.int .i64 2))⟩,
  ⟨some 132,none,.no,.mv (.t 12)⟩,
  ⟨some 133,none,.no,.bin .quo .none (.t 132) (.v (.int .i64 2))⟩,
  ⟨some 11,none,.no,.mv (.t 131)⟩,
  ⟨some 12,none,.no,.mv (.t 133)⟩]
def znj : ACode := .block 7 (.reg zo7)
def znk : ACode := .seq zni znj
def znl : ACode := .loop znk
def znm : ACode := .block 6 znl
def znn : ACode := .seq (.reg zo5) znm
@[go_sem] def zo8 : List AIns := [
  ⟨some 102,none,.no,.load true 32 (.t 15)⟩,
  ⟨some 103,none,.no,.load true 32 (.t 18)⟩,
  ⟨some 104,none,.no,.call (.v (.fn 90 [])) [(.t 102), (.t 103)]⟩,
  ⟨none,none,.no,.store 32 (.t 15) (.t 104)⟩]
def zno : ACode := .cond (.t 108) znn (.reg zo8)
def znp : ACode := .seq (.reg zo4) zno
def znq : ACode := .cond (.t 105) zng znp
def znr : ACode := .seq (.reg zo2) znq
def zns : ACode := .block 5 znr
def znt : ACode := .seq (.reg zo1) zns
@[go_sem] def zo9 : List AIns := [
  ⟨some 134,none,.no,.mv (.t 11)⟩,
  ⟨some 135,none,.no,.bin .quo .none (.t 134) (.v (.int .i64 2))⟩,
  ⟨some 136,none,.no,.mv (.t 12)⟩,
  ⟨some 137,none,.no,.bin .quo .none (.t 136) (.v (.int .i64 2))⟩,
  ⟨some 11,none,.no,.mv (.t 135)⟩,
  ⟨some 12,none,.no,.mv (.t 137)⟩]
def znu : ACode := .seq znt (.reg zo9)
def znv : ACode := .block 4 znu
def znw : ACode := .seq znf znv
def znx : ACode := .loop znw
@[go_sem] def zoa : List AIns := [
  ⟨some 138,none,.no,.load false 1 (.t 9)⟩,
  ⟨some 139,none,.no,.lenSl (.t 138)⟩,
  ⟨some 140,none,.no,.bin .eql .none (.t 139) (.v (.int .i64 0))⟩,
  ⟨some 141,none,.no,.mv (.t 140)⟩,
  ⟨some 142, some (141, true), .no, .load true 32 (.t 14)⟩,
  ⟨some 143, some (141, true), .no, .load true 32 (.t 7)⟩,
  ⟨some 144, some (141, true), .no, .bin .eql (.agg (List.replicate 32 (.i .u8) ++ [])) (.t 142) (.t 143)⟩,
  ⟨some 145,none,.no,.pick (.t 141) (.t 144) (.v (.bool false))⟩,
  ⟨some 146,none,.no,.mv (.t 145)⟩,
  ⟨some 147, some (146, true), .no, .load true 32 (.t 15)⟩,
  ⟨some 148, some (146, true), .no, .load true 32 (.t 8)⟩,
  ⟨some 149, some (146, true), .no, .bin .eql (.agg (List.replicate 32 (.i .u8) ++ [])) (.t 147) (.t 148)⟩,
  ⟨some 150,none,.no,.pick (.t 146) (.t 149) (.v (.bool false))⟩,
  ⟨some 151,none,.no,.call (.v (.fn 108 [])) [(.t 150)]⟩,
  ⟨some 10,none,.no,.mv (.t 151)⟩]
def zny : ACode := .seq (.reg zoa) .ret
def znz : ACode := .seq (.block 3 znx) zny
end Am
end Go.Proofs.YtncenefkbpelbaaDoor
end
section
/- Proofs: contracts: Proof of the program. -/
namespace Go.Proofs.YtncenefkbpelbaaDoor
namespace Am
/-- A sub-proof. -/
def subF : Nat -> List (List UInt8) -> Nat -> Bool -> List (List UInt8)
  | 0, _, _, _ => []
  | f + 1, l, m, known =>
    if m = l.length then (if known then [] else [z1j l])
    else if m <= zu l.length then subF f (l.take (zu l.length)) m known ++ [z1j (l.drop (zu l.length))]
    else subF f (l.drop (zu l.length)) (m - zu l.length) false ++ [z1j (l.take (zu l.length))]
def subS (l : List (List UInt8)) (m : Nat) (known : Bool) : List (List UInt8) := subF (l.length + 1) l m known
/-- What Proof has in memory: its own proof, itself, and rows of its own. -/
structure PrS (Y0 Y' : Store) (v : AV) (es : List (List AV)) : Prop where
  out : Y'[Y0.length]? = some (some [[v]])
  fn : Y'[Y0.length + 1]? = some (some [[.fn 102 [.ptr Y0.length 0 0, .ptr (Y0.length + 1) 0 0]]])
  keep : ∀ q, q < Y0.length -> Y'[q]? = Y0[q]?
  sl : (es = [] /\ v = .nilsl) \/ ∃ r, Y0.length + 2 <= r /\ es ≠ [] /\ v = .sl r 0 es.length none 32 /\ Y'[r]? = some (some es)
theorem PrS.lt {Y0 Y' : Store} {v : AV} {es : List (List AV)} (h : PrS Y0 Y' v es) : Y0.length + 2 <= Y'.length := by
  have := (List.getElem?_eq_some_iff.1 h.fn).1; omega
/-- One more. -/
theorem PrS.add {Y0 Y' : Store} {v : AV} {es : List (List AV)} (h : PrS Y0 Y' v es) (row : List AV) (hl : es.length + 1 <= 1073741824) :
    ∃ r Y2, aApp Y' 32 v [row] = some (.sl r 0 (es.length + 1) none 32, Y2) /\ Y2[Y0.length]? = some (some [[v]]) /\ PrS Y0 (Y2.set Y0.length (some [[.sl r 0 (es.length + 1) none 32]])) (.sl r 0 (es.length + 1) none 32) (es ++ [row]) := by
  have hlt := h.lt
  obtain ⟨h1, h2, h3, ⟨rfl, rfl⟩ | ⟨r, hr, h0, rfl, hg⟩⟩ := h
  · refine ⟨Y'.length, Y' ++ [some [row]], rfl, by rw [gapp (by omega)]; exact h1, ⟨?_, ?_, ?_, .inr ⟨Y'.length, by omega, by simp, by simp, ?_⟩⟩⟩
    · rw [z6r (by simp; omega)]
    · rw [z22 (by omega), gapp (by omega)]; exact h2
    · intro q hq; rw [z22 (by omega), gapp (by omega)]; exact h3 q hq
    · rw [z22 (by omega), z17 (Nat.le_refl _), Nat.sub_self]; rfl
  · have hrl := (List.getElem?_eq_some_iff.1 hg).1
    refine ⟨Y'.length, Y'.set r none ++ [some (es ++ [row])], ?_, ?_, ⟨?_, ?_, ?_, .inr ⟨Y'.length, by omega, by simp, by simp, ?_⟩⟩⟩
    · rw [z7x, if_neg (by simp), hg]
      simp only [List.length_cons, List.length_nil]
      rw [if_pos ⟨trivial, by omega, by omega⟩, if_neg (by omega), List.drop_zero, List.take_of_length_le (Nat.le_refl _)]
    · rw [gapp (by simp; omega), z22 (by omega)]; exact h1
    · rw [z6r (by simp; omega)]
    · rw [z22 (by omega), gapp (by simp; omega), z22 (by omega)]; exact h2
    · intro q hq; rw [z22 (by omega), gapp (by simp; omega), z22 (by omega)]; exact h3 q hq
    · rw [z22 (by omega), z17 (by simp), List.length_set, Nat.sub_self]; rfl
theorem PrS.ex (Y0 : Store) (es : List (List AV)) : ∃ v Y', PrS Y0 Y' v es := by
  by_cases h : es = []
  · exact ⟨.nilsl, Y0 ++ [some [[.nilsl]], some [[.fn 102 [.ptr Y0.length 0 0, .ptr (Y0.length + 1) 0 0]]]], by simp, by simp, fun q hq => gapp hq, .inl ⟨h, rfl⟩⟩
  · exact ⟨.sl (Y0.length + 2) 0 es.length none 32, Y0 ++ [some [[.sl (Y0.length + 2) 0 es.length none 32]], some [[.fn 102 [.ptr Y0.length 0 0, .ptr (Y0.length + 1) 0 0]]], some es], by simp, by simp, fun q hq => gapp hq, .inr ⟨_, Nat.le_refl _, h, rfl, by simp⟩⟩
theorem DownV.tup2 {k : Nat} {v v2 : AV} {Y Y2 : Store} {i : IntKind} {e : Int} (h : DownV k v Y v2 Y2) : DownV k (.tup [v, .int i e]) Y (.tup [v2, .int i e]) Y2 := by
  obtain ⟨D, a, b, c⟩ := h
  exact ⟨D, a, b, by simp only [DR, DRs]; exact ⟨_, rfl, _, _, rfl, c, _, _, rfl, rfl, rfl⟩⟩
theorem z9w {Y Y' : Store} (h : Y.length <= Y'.length) (h2 : ∀ q, q < Y.length -> Y'[q]? = Y[q]?) : ∃ y, Y' = Y ++ y := by
  refine ⟨Y'.drop Y.length, ?_⟩
  have e : Y'.take Y.length = Y := by
    refine List.ext_getElem? fun i => ?_
    by_cases hi : i < Y.length
    · rw [List.getElem?_take_of_lt hi]; exact h2 i hi
    · rw [List.getElem?_eq_none (by simp; omega), List.getElem?_eq_none (by omega)]
  calc Y' = Y'.take Y.length ++ Y'.drop Y.length := (List.take_append_drop _ _).symm
    _ = Y ++ Y'.drop Y.length := by rw [e]
theorem PrS.own {Y0 Y' : Store} {v : AV} {es : List (List AV)} (h : PrS Y0 Y' v es) : OwnN 32 Y0 Y' v es := by
  have hlt := h.lt
  obtain ⟨y, rfl⟩ := z9w (by omega) h.keep
  obtain ⟨h1, h2, h3, h4 | ⟨r, hr, h0, rfl, hg⟩⟩ := h
  · exact ⟨y, rfl, .inl h4⟩
  · refine ⟨y, rfl, .inr ⟨r - Y0.length, h0, by rw [show Y0.length + (r - Y0.length) = r by omega], ?_⟩⟩
    rw [List.getElem?_append_right (by omega)] at hg; exact hg
/-- What Proof answers. -/
def za5 (hs : List (List UInt8)) (m : Int) : List (List UInt8) := if 0 < m /\ m < hs.length then subS hs m.toNat true else []
def za4 (hs : List (List UInt8)) (m : Int) : Int := if m < 0 \/ (hs.length : Int) < m then 2 else 0
def ProofP (Y : Store) (hs : List (List UInt8)) (m : Int) (v : AV) (Y' : Store) : Prop := ∃ v2, v = .tup [v2, .int .i64 (za4 hs m)] /\ OwnN 32 Y Y' v2 (z13 (za5 hs m))
theorem ProofP.ex (Y : Store) (hs : List (List UInt8)) (m : Int) : ∃ v Y', ProofP Y hs m v Y' := ⟨_, _, _, rfl, z8n Y 32 _⟩
theorem ProofP.none {Y : Store} {hs : List (List UInt8)} {m : Int} (h : za5 hs m = []) : ProofP Y hs m (.tup [.nilsl, .int .i64 (za4 hs m)]) Y := ⟨.nilsl, rfl, by rw [h]; exact ⟨[], by simp, .inl ⟨rfl, rfl⟩⟩⟩
end Am
end Go.Proofs.YtncenefkbpelbaaDoor
end
section
/- Proofs: contracts: Proof of the reference. -/
namespace Go.Proofs.YtncenefkbpelbaaDoor
namespace Am
/-- Own elements, or a literal that can be gone on with. -/
def OwnA (sz : Nat) (Z Y' : Store) (v : AV) (es : List (List AV)) : Prop := OwnN sz Z Y' v es \/ (v = .vsl sz es true /\ es ≠ [] /\ ∃ news, Y' = Z ++ news)
theorem OwnA.app {sz : Nat} {Z Y' : Store} {v : AV} {es ys : List (List AV)} (h : OwnA sz Z Y' v es) (h0 : ys.length ≠ 0) (hl : es.length + ys.length <= 1073741824) :
    ∃ v' Y'', aApp Y' sz v ys = some (v', Y'') /\ OwnN sz Z Y'' v' (es ++ ys) := by
  rcases h with h | ⟨rfl, h1, news, rfl⟩
  · exact h.app h0 hl
  · refine ⟨.sl (Z ++ news).length 0 (es.length + ys.length) none sz, (Z ++ news) ++ [some (es ++ ys)], by rw [zax, if_neg h0, if_pos ⟨rfl, rfl, hl⟩], news ++ [some (es ++ ys)], by rw [List.append_assoc], .inr ⟨news.length, by simp [h1], by simp, by rw [List.getElem?_append_right (Nat.le_refl _)]; simp⟩⟩
theorem OwnA.rd {sz : Nat} {Z Y' : Store} {v : AV} {es : List (List AV)} (h : OwnA sz Z Y' v es) : RdSl Y' sz es v := by
  rcases h with h | ⟨rfl, _⟩
  · exact h.rd
  · exact .inl (.inr ⟨true, rfl⟩)
theorem OwnA.more {sz : Nat} {Z Y' : Store} {v : AV} {es : List (List AV)} (h : OwnA sz Z Y' v es) (y : Store) : OwnA sz Z (Y' ++ y) v es := by
  rcases h with h | ⟨rfl, h1, news, rfl⟩
  · exact .inl (h.more y)
  · exact .inr ⟨rfl, h1, news ++ y, by rw [List.append_assoc]⟩
theorem OwnA.ext {sz : Nat} {Z Y' : Store} {v : AV} {es : List (List AV)} (h : OwnA sz Z Y' v es) : ∃ news, Y' = Z ++ news := by
  rcases h with h | ⟨_, _, h⟩
  · exact h.ext
  · exact h
theorem OwnA.down {sz : Nat} {Y Y' : Store} {v : AV} {es : List (List AV)} (hw : Wf Y.length Y) (h : OwnA sz Y Y' v es) (hr : RLss Y.length es) : ∃ v2 Y2, OwnA sz Y Y2 v2 es /\ DownV Y.length v Y' v2 Y2 := by
  rcases h with h | ⟨rfl, h1, news, rfl⟩
  · exact ⟨_, _, .inl (z8n Y sz es), h.own hw hr⟩
  · exact ⟨_, Y, .inr ⟨rfl, h1, [], by simp⟩, DownV.pure hw (by simpa only [RL] using hr)⟩
end Am
end Go.Proofs.YtncenefkbpelbaaDoor
end
section
/- Proofs: what a proof says, by plain loops; the reference's Proof; a proof's next hash. -/
namespace Go.Proofs.YtncenefkbpelbaaDoor
namespace Am
def RefP (Y : Store) (hs : List (List UInt8)) (m : Int) (v : AV) (Y' : Store) : Prop := ∃ v2, v = .tup [v2, .int .i64 (za4 hs m)] /\ OwnA 32 Y Y' v2 (z13 (za5 hs m))
/-- Up to where the older tree's last full one hangs. -/
def st (i last : Nat) : Nat × Nat := if h : i % 2 = 1 then st (i / 2) (last / 2) else (i, last)
termination_by i
decreasing_by omega
/-- Two roots, of the hashes. -/
def run : List Bool -> List (List UInt8) -> List UInt8 -> List UInt8 -> Option (List UInt8 × List UInt8)
  | [], [], a, b => some (a, b)
  | true :: p, h :: ps, a, b => run p ps (z1l h a) (z1l h b)
  | false :: p, h :: ps, a, b => run p ps a (z1l b h)
  | _, _, _, _ => none
end Am
end Go.Proofs.YtncenefkbpelbaaDoor
end
section
/- Proofs: contract: Check of the program. -/
namespace Go.Proofs.YtncenefkbpelbaaDoor
namespace Am
/-- What Check has in memory. -/
structure ChkM (ia ib : Nat) (Y Y' : Store) (o nw : List UInt8) (pv : AV) (ps : List (List UInt8)) (a b : List UInt8) : Prop where
  hab : (ia = 3 /\ ib = 4) \/ (ia = 4 /\ ib = 3)
  len : Y.length + 5 <= Y'.length
  keep : ∀ q, q < Y.length -> Y'[q]? = Y[q]?
  g0 : Y'[Y.length]? = some (some [zm o])
  g1 : Y'[Y.length + 1]? = some (some [zm nw])
  g2 : Y'[Y.length + 2]? = some (some [[pv]])
  g3 : Y'[Y.length + ia]? = some (some [zm a])
  g4 : Y'[Y.length + ib]? = some (some [zm b])
  hp : SlV 32 (z13 ps) pv
  ha : a.length = 32
  hb : b.length = 32
theorem ChkM.app {ia ib : Nat} {Y Y' y : Store} {o nw : List UInt8} {pv : AV} {ps : List (List UInt8)} {a b : List UInt8} (h : ChkM ia ib Y Y' o nw pv ps a b) : ChkM ia ib Y (Y' ++ y) o nw pv ps a b := by
  have hl := h.len
  have hab := h.hab
  refine ⟨hab, by rw [List.length_append]; omega, fun q hq => ?_, ?_, ?_, ?_, ?_, ?_, h.hp, h.ha, h.hb⟩
  · rw [gapp (by omega)]; exact h.keep q hq
  · rw [gapp (by omega)]; exact h.g0
  · rw [gapp (by omega)]; exact h.g1
  · rw [gapp (by omega)]; exact h.g2
  · rw [gapp (by omega)]; exact h.g3
  · rw [gapp (by omega)]; exact h.g4
theorem ChkM.fin {ia ib : Nat} {Y Y' : Store} {o nw : List UInt8} {pv : AV} {ps : List (List UInt8)} {a b : List UInt8} (h : ChkM ia ib Y Y' o nw pv ps a b) (hw : Wf Y.length Y) {i : Int} : DownV Y.length (.int .i64 i) Y' (.int .i64 i) Y := by
  have hl := h.len
  have hab := h.hab
  obtain ⟨y, rfl⟩ := z9w (by omega) h.keep
  exact DownV.pure hw (z11 _ rfl)
theorem SlV.cells {sz : Nat} {es : List (List AV)} {x : AV} (h : SlV sz es x) : cellsOf x = some [x] := by
  rcases h with ⟨rfl, rfl⟩ | ⟨ex, rfl⟩ <;> rfl
end Am
end Go.Proofs.YtncenefkbpelbaaDoor
end
section
/- Proofs: contract: Check of the program, the loop. -/
namespace Go.Proofs.YtncenefkbpelbaaDoor
namespace Am
end Am
end Go.Proofs.YtncenefkbpelbaaDoor
end
section
/- Proofs: contract: Check of the program. -/
namespace Go.Proofs.YtncenefkbpelbaaDoor
namespace Am
attribute [local irreducible] znz
end Am
end Go.Proofs.YtncenefkbpelbaaDoor
end
section
/- Proofs: contract: the law's own example. -/
namespace Go.Proofs.YtncenefkbpelbaaDoor
namespace Am
theorem split2 : zu 2 = 1 := by decide
theorem split4 : zu 4 = 2 := by decide
theorem ProofP.is {Y Y' : Store} {hs : List (List UInt8)} {m : Int} {v : AV} (h : ProofP Y hs m v Y') : ∃ v2, v = .tup [v2, .int .i64 (za4 hs m)] /\ OwnN 32 Y Y' v2 (z13 (za5 hs m)) := h
end Am
end Go.Proofs.YtncenefkbpelbaaDoor
end
section
/- Proofs: the law ProofsProof: its contract. -/
namespace Go.Proofs.YtncenefkbpelbaaDoor
namespace Am
def z3m : Ty := .row (List.replicate 32 (.int .u8))
theorem zb0 : ∀ (n : Nat) (cs : List AV), z35 (List.replicate n (.int .u8)) cs -> ∃ h : List UInt8, cs = zm h /\ h.length = n
  | 0, cs, h => ⟨[], by simpa only [List.replicate_zero, z35, zm, List.map_nil] using h, rfl⟩
  | n + 1, cs, h => by
    simp only [List.replicate_succ, z35, ShC] at h
    obtain ⟨_, b, rfl, ⟨x, rfl, h1, h2⟩, h3⟩ := h
    obtain ⟨l, rfl, hl⟩ := zb0 n b h3
    simp only [IntKind.min, IntKind.max, IntKind.signed, IntKind.bits] at h1 h2
    simp at h1 h2
    refine ⟨UInt8.ofNat x.toNat :: l, ?_, by simp [hl]⟩
    have : ((UInt8.ofNat x.toNat).toNat : Int) = x := by rw [UInt8.toNat_ofNat']; omega
    simp only [zm, List.map_cons, List.singleton_append, this]
theorem zkl {cs : List AV} (h : ShC z3m cs) : ∃ l : List UInt8, cs = zm l /\ l.length = 32 := zb0 32 cs (by simpa only [z3m, ShC] using h)
theorem zf6 : ∀ (es : List (List AV)), (∀ x ∈ es, ShC z3m x) -> ∃ hs, es = z13 hs /\ H32 hs
  | [], _ => ⟨[], rfl, fun _ h => by simp at h⟩
  | e :: es, h => by
    obtain ⟨l, rfl, hl⟩ := zkl (h e (by simp))
    obtain ⟨hs, rfl, hH⟩ := zf6 es (fun x hx => h x (by simp [hx]))
    refine ⟨l :: hs, rfl, fun x hx => ?_⟩
    rcases List.mem_cons.1 hx with rfl | hx
    · exact hl
    · exact hH x hx
theorem i64_of {a : AV} (h : Sh (.int .i64) a) : ∃ n : Int, a = .int .i64 n /\ -9223372036854775808 <= n /\ n <= 9223372036854775807 := by
  simp only [Sh, ShC] at h
  obtain ⟨n, h, h1, h2⟩ := h
  cases h
  simp only [IntKind.min, IntKind.max, IntKind.signed, IntKind.bits] at h1 h2
  simp at h1 h2
  exact ⟨n, rfl, h1, h2⟩
theorem RefP.ex (Y : Store) (hs : List (List UInt8)) (m : Int) : ∃ v Y', RefP Y hs m v Y' := ⟨_, _, _, rfl, .inl (z8n Y 32 _)⟩
end Am
end Go.Proofs.YtncenefkbpelbaaDoor
end
section
/- Hashes as_ one thing each: 32 bytes, hidden behind a name. -/
namespace Go.Proofs.YtncenefkbpelbaaDoor
namespace Am
abbrev Hash := {l : List UInt8 // l.length = 32}
def hc (h : Hash) : List AV := zm h.1
def hr (l : List Hash) : List (List AV) := l.map hc
def hb (l : List Hash) : List (List UInt8) := l.map (·.1)
theorem hb_H (l : List Hash) : H32 (hb l) := fun x hx => by
  simp only [hb, List.mem_map] at hx
  obtain ⟨h, _, rfl⟩ := hx
  exact h.2
theorem z6s (l : List Hash) : (hb l).length = l.length := by simp [hb]
theorem zkn (l : List Hash) (n : Nat) : (hb l).take n = hb (l.take n) := by simp [hb, List.map_take]
theorem zkm (l : List Hash) (n : Nat) : (hb l).drop n = hb (l.drop n) := by simp [hb, List.map_drop]
theorem z6u (l : List Hash) : z13 (hb l) = hr l := by simp [z13, hb, hr, hc]
theorem hb_of : ∀ {l : List (List UInt8)}, H32 l -> ∃ m : List Hash, l = hb m
  | [], _ => ⟨[], rfl⟩
  | x :: l, h => by
    obtain ⟨m, hm⟩ := hb_of (l := l) fun y hy => h y (by simp [hy])
    exact ⟨⟨x, h x (by simp)⟩ :: m, by simp [hb, hm]⟩
theorem zf7 : ∀ {a b : List Hash}, hb a = hb b -> a = b
  | [], [], _ => rfl
  | [], _ :: _, h => by simp [hb] at h
  | _ :: _, [], h => by simp [hb] at h
  | x :: a, y :: b, h => by
    simp only [hb, List.map_cons, List.cons.injEq] at h
    rw [Subtype.ext h.1, zf7 (a := a) (b := b) h.2]
@[go_sem] theorem z7 (h : Hash) : (hc h).length = 32 := by rw [hc, zo, h.2]
@[go_sem] theorem zko (h : Hash) : (hc h).drop 32 = [] := List.drop_of_length_le (by rw [z7]; decide)
@[go_sem] theorem zkp (h : Hash) : (hc h).take 32 = hc h := List.take_of_length_le (by rw [z7]; decide)
@[go_sem] theorem zqx (h : Hash) (l : List AV) : (hc h ++ l).take 32 = hc h := by
  have := z7 h
  rw [List.take_append_of_le_length (by omega), zkp]
@[go_sem] theorem zqw (h : Hash) (l : List AV) : (hc h ++ l).drop 32 = l := by
  have := z7 h
  rw [List.drop_append_of_le_length (by omega), zko, List.nil_append]
@[go_sem] theorem hc_eq (a b : Hash) : z1w (hc a) (hc b) = decide (a = b) := by
  rw [hc, hc, zbf, Bool.eq_iff_iff]
  simp [Subtype.ext_iff]
@[go_sem] theorem hc_kinds (h : Hash) : (hc h).map z1e = (List.replicate 32 (LK.i .u8)).map some := zbs h.2
@[go_sem] theorem z6 (l : List Hash) : (hr l).length = l.length := by simp [hr]
@[go_sem] theorem hr_take (l : List Hash) (n : Nat) : (hr l).take n = hr (l.take n) := by simp [hr, List.map_take]
@[go_sem] theorem hr_drop (l : List Hash) (n : Nat) : (hr l).drop n = hr (l.drop n) := by simp [hr, List.map_drop]
@[go_sem] theorem hr_set (l : List Hash) (i : Nat) (h : Hash) : (hr l).set i (hc h) = hr (l.set i h) := by simp [hr, List.map_set]
theorem zbo (a b : List Hash) : hr (a ++ b) = hr a ++ hr b := by simp [hr]
theorem z8h (h : Hash) (l : List Hash) : hr (h :: l) = hc h :: hr l := rfl
theorem zks {l : List Hash} : hr l = [] ↔ l = [] := by simp [hr]
def zeroH : Hash := ⟨List.replicate 32 0, by simp⟩
def hd (l : List Hash) (i : Nat) : Hash := l.getD i zeroH
@[go_sem] theorem z5o {l : List Hash} {i : Nat} (h : i < l.length) : (hr l)[i]? = some (hc (hd l i)) := by
  simp [hr, hd, List.getElem?_map, List.getElem?_eq_getElem h]
theorem z8g {l : List Hash} {i : Nat} (h : i < l.length) : hd l i = l[i] := by simp [hd, h]
theorem zcm {k : Nat} (h : Hash) : RLs k (hc h) := z24 _
theorem z31 {k : Nat} (l : List Hash) : RLss k (hr l) := by rw [<- z6u]; exact z7a _
theorem zd0 (k : Nat) (h : Hash) : shs k (hc h) = hc h := zcz k _
def zj (a b : Hash) : Hash := ⟨z1l a.1 b.1, za1 _ _⟩
def z1i (l : List Hash) : Hash := ⟨z1j (hb l), z55 (hb_H l)⟩
def shaH (s : List UInt8) : Hash := ⟨shaS s, zcx s⟩
theorem zgo (h : Hash) : z1i [h] = h := rfl
theorem zcp {l : List Hash} (h : 2 <= l.length) : z1i l = zj (z1i (l.take (zu l.length))) (z1i (l.drop (zu l.length))) := by
  apply Subtype.ext
  show z1j (hb l) = z1l (z1j (hb _)) (z1j (hb _))
  rw [<- zkn, <- zkm]
  have := zad (l := hb l) (by rw [z6s]; exact h)
  rwa [z6s] at this
theorem zho (Y : Store) (a b : Hash) : ACallsTo TC 90 [.agg (hc a), .agg (hc b)] Y (.agg (hc (zj a b))) Y := zdb Y a.1 b.1 a.2 b.2
theorem zgj (Y : Store) (a b : Hash) : ACallsTo TC 72 [.agg (hc a), .agg (hc b)] Y (.agg (hc (zj a b))) Y := zcj Y a.1 b.1 a.2 b.2
theorem zdc (Y : Store) (l : List Hash) (x : AV) (hx : RdSl Y 32 (hr l) x) (hl : l.length < 1000000000) : ACallsTo TC 45 [x] Y (.agg (hc (z1i l))) Y :=
  zqi Y (hb l) x (by rw [z6u]; exact hx) (hb_H l) (by rw [z6s]; exact hl)
theorem zck (Y : Store) (l : List Hash) (x : AV) (hx : RdSl Y 32 (hr l) x) (hl : l.length < 1000000000) : ACallsTo TC 25 [x] Y (.agg (hc (z1i l))) Y :=
  zot Y (hb l) x (by rw [z6u]; exact hx) (hb_H l) (by rw [z6s]; exact hl)
theorem Same_h (Y : Store) (A B : List Hash) (x y : AV) (hx : RdSl Y 32 (hr A) x) (hy : RdSl Y 32 (hr B) y) (hl : A.length < 1000000000) (hl2 : B.length < 1000000000) :
    ACallsTo TC 98 [x, y] Y (.bool (decide (A = B))) Y := by
  have := zia Y (hb A) (hb B) x y (by rw [z6u]; exact hx) (by rw [z6u]; exact hy) (hb_H A) (hb_H B) (by rw [z6s]; exact hl) (by rw [z6s]; exact hl2)
  rwa [show decide (hb A = hb B) = decide (A = B) by rw [Bool.eq_iff_iff]; simp only [decide_eq_true_eq]; exact ⟨zf7, fun e => by rw [e]⟩] at this
theorem zig (a : Int) (j : Nat) (hj : j < 63) : zy .and .i64 a ((2 ^ j - 1 : Nat) : Int) = some (.int .i64 (a % 2 ^ j)) := by
  have hp : 0 < 2 ^ j := Nat.pow_pos (by decide)
  have hlt : 2 ^ j < 2 ^ 63 := Nat.pow_lt_pow_right (by decide) hj
  have e64 : (2 : Nat) ^ 64 = 2 ^ j * 2 ^ (64 - j) := by rw [<- Nat.pow_add]; congr 1; omega
  have h : (BitVec.ofInt IntKind.i64.bits a &&& BitVec.ofInt IntKind.i64.bits ((2 ^ j - 1 : Nat) : Int)).toNat = (a % 2 ^ j).toNat := by
    rw [BitVec.toNat_and, BitVec.toNat_ofInt, BitVec.toNat_ofInt]
    simp only [IntKind.bits]
    have e1 : (((2 ^ j - 1 : Nat) : Int) % ((2 ^ 64 : Nat) : Int)).toNat = 2 ^ j - 1 := by
      rw [Int.emod_eq_of_lt (by omega) (by omega)]; simp
    rw [e1, Nat.and_two_pow_sub_one_eq_mod]
    have e2 : 0 <= a % ((2 ^ 64 : Nat) : Int) := Int.emod_nonneg _ (by decide)
    have e3 : ((a % ((2 ^ 64 : Nat) : Int)).toNat : Int) = a % ((2 ^ 64 : Nat) : Int) := Int.toNat_of_nonneg e2
    have e4 : (((a % ((2 ^ 64 : Nat) : Int)).toNat % 2 ^ j : Nat) : Int) = a % 2 ^ j := by
      rw [Int.natCast_emod, e3, e64, Int.natCast_mul, Int.natCast_pow]
      exact Int.emod_emod_of_dvd _ ⟨_, rfl⟩
    rw [<- e4, Int.toNat_natCast]
  have n0 : (2 : Int) ^ j ≠ 0 := by
    have h0 : ((2 ^ j : Nat) : Int) ≠ 0 := by omega
    rwa [Int.natCast_pow] at h0
  have n1 : 0 <= a % 2 ^ j := Int.emod_nonneg _ n0
  have n2 : a % 2 ^ j < ((2 ^ j : Nat) : Int) := by
    have := Int.emod_lt_of_pos a (b := ((2 ^ j : Nat) : Int)) (by omega)
    simpa using this
  simp only [zy]
  rw [h, Int.toNat_of_nonneg n1, z93 ⟨by omega, by omega⟩]
/-- Arguments. -/
theorem zbn {a : AV} (h : Sh z3m a) : ∃ l : Hash, a = .agg (hc l) := by
  simp only [z3m, Sh] at h
  obtain ⟨cs, rfl, h⟩ := h
  obtain ⟨l, rfl, hl⟩ := zb0 32 cs h
  exact ⟨⟨l, hl⟩, rfl⟩
end Am
end Go.Proofs.YtncenefkbpelbaaDoor
end
section
/- Ranges: plain laws: trees side by side, and what is pushed behind them. -/
namespace Go.Proofs.YtncenefkbpelbaaDoor
namespace Am
theorem z8x (j : Nat) : zu (2 ^ (j + 1)) = 2 ^ j := by
  have : 0 < 2 ^ j := Nat.pow_pos (by decide)
  exact zd3 (by rw [Nat.pow_succ]; omega) (Nat.le_refl _)
end Am
end Go.Proofs.YtncenefkbpelbaaDoor
end
section
/- Ranges: plain laws: the parts of leaves that stand behind others. -/
namespace Go.Proofs.YtncenefkbpelbaaDoor
namespace Am
end Am
end Go.Proofs.YtncenefkbpelbaaDoor
end
section
/- Abstract code. (Printed by wip/gen.) -/
set_option maxRecDepth 10000
namespace Go.Proofs.YtncenefkbpelbaaDoor
namespace Am



end Am
end Go.Proofs.YtncenefkbpelbaaDoor
end
section
/- Ranges: contracts: slices.Clone, slices.Equal, Valid; how many leaves the next part has. -/
namespace Go.Proofs.YtncenefkbpelbaaDoor
namespace Am
theorem slen {Y : Store} {r : Nat} {x : Option AObj} (h : Y[r]? = some x) : r < Y.length := (List.getElem?_eq_some_iff.1 h).1
/-- All new objects are let go, and read as_ they are. -/
def FrzD (Z news : Store) : DC := z25 Z news [] id (fun _ => true)
theorem DownV.all {Z news : Store} {v v2 : AV} (hw : Wf Z.length Z) (h : DR (FrzD Z news) v2 v) : DownV Z.length v (Z ++ news) v2 Z :=
  ⟨FrzD Z news, rfl, by show DownS Z.length (z25 Z news [] id (fun _ => true)) Z; simpa using z9z (kept := []) (idx := id) (fzl := fun _ => true) (news := news) hw (by simp) (by simp) (by simp) (by simp), h⟩
theorem FrzD.same {Z news : Store} {v : AV} (h : RL Z.length v) : DR (FrzD Z news) v v := DR.refl (z63 _ _ _) v h
theorem FrzD.sl {Z news : Store} {r off : Nat} {lim : Option Nat} {esz : Nat} {o es : AObj} (hk : Z.length <= r) (ho : (Z ++ news)[r]? = some (some o)) (hl : off + es.length <= o.length) (he : (o.drop off).take es.length = es) (hr : RLss Z.length es) :
    DR (FrzD Z news) (.vsl esz es false) (.sl r off es.length lim esz) := by
  simp only [DR, FrzD, z25]
  right
  left
  exact ⟨r, off, lim, o, rfl, by simpa using hk, ho, hl, by simp, by rw [he]; exact DRss.refl (z63 [] id (fun _ => true)) _ hr⟩
theorem drA {D : DC} {a b : List AV} (h : DRs D a b) : DR D (.agg a) (.agg b) := by simp only [DR]; exact ⟨b, rfl, h⟩
theorem drT {D : DC} {a b : List AV} (h : DRs D a b) : DR D (.tup a) (.tup b) := by simp only [DR]; exact ⟨b, rfl, h⟩
theorem OwnN.frz {sz : Nat} {Z news : Store} {v : AV} {es : List (List AV)} (h : OwnN sz Z (Z ++ news) v es) (hr : RLss Z.length es) : DR (FrzD Z news) (z1c sz es) v := by
  by_cases h0 : es = []
  · obtain ⟨n2, _, ⟨rfl, rfl⟩ | ⟨j, h1, _⟩⟩ := h
    · simp [z1c, DR]
    · exact absurd h0 h1
  · obtain ⟨r, rfl, hg, hk⟩ := h.sl h0
    unfold z1c
    rw [if_neg h0]
    exact FrzD.sl hk hg (by omega) (by simp) hr
/-- Slots, as_ a list. -/
def lkp : List (Nat × AV) -> Env
  | [], _ => .any
  | (a, v) :: l, t => bif t == a then v else lkp l t
@[go_sem] theorem lkp_cons {a t : Nat} {v : AV} {l : List (Nat × AV)} : lkp ((a, v) :: l) t = bif t == a then v else lkp l t := rfl
/-- Own elements, or an empty literal. -/
def OwnE (sz : Nat) (Z Y' : Store) (v : AV) (es : List (List AV)) : Prop := OwnN sz Z Y' v es \/ (es = [] /\ v = .vsl sz [] true /\ ∃ news, Y' = Z ++ news)
theorem OwnE.ext {sz : Nat} {Z Y' : Store} {v : AV} {es : List (List AV)} (h : OwnE sz Z Y' v es) : ∃ news, Y' = Z ++ news := by
  rcases h with h | ⟨_, _, h⟩
  · exact h.ext
  · exact h
theorem OwnE.rd {sz : Nat} {Z Y' : Store} {v : AV} {es : List (List AV)} (h : OwnE sz Z Y' v es) : RdSl Y' sz es v := by
  rcases h with h | ⟨rfl, rfl, _⟩
  · exact h.rd
  · exact .inl (.inr ⟨true, rfl⟩)
theorem OwnE.len {sz : Nat} {Z Y' : Store} {v : AV} {es : List (List AV)} (h : OwnE sz Z Y' v es) : z1t v = some (.int .i64 es.length) := h.rd.len
theorem OwnE.app {sz : Nat} {Z Y' : Store} {v : AV} {es ys : List (List AV)} (h : OwnE sz Z Y' v es) (h0 : ys.length ≠ 0) (hl : es.length + ys.length <= 1073741824) :
    ∃ v' Y'', aApp Y' sz v ys = some (v', Y'') /\ OwnN sz Z Y'' v' (es ++ ys) := by
  rcases h with h | ⟨rfl, rfl, news, rfl⟩
  · exact h.app h0 hl
  · refine ⟨.sl (Z ++ news).length 0 ys.length none sz, (Z ++ news) ++ [some ys], by rw [zax, if_neg h0, if_pos ⟨rfl, rfl, hl⟩]; simp, news ++ [some ys], by rw [List.append_assoc], .inr ⟨news.length, ?_, by simp, by rw [List.getElem?_append_right (Nat.le_refl _)]; simp⟩⟩
    intro e; exact h0 (by rw [(List.append_eq_nil_iff.1 e).2]; rfl)
theorem RdSl.elems {Y : Store} {sz : Nat} {es : List (List AV)} {x : AV} (h : RdSl Y sz es x) : z21 Y x = some es := by
  rcases h with (⟨rfl, rfl⟩ | ⟨ex, rfl⟩) | ⟨r, off, lim, o, rfl, hg, h1, h2⟩
  · rfl
  · rfl
  · rw [zpv, hg]; simp only; rw [if_pos h1, h2]
end Am
end Go.Proofs.YtncenefkbpelbaaDoor
end
section
/- Ranges: contracts: slices.Equal, Valid, step, push. -/
namespace Go.Proofs.YtncenefkbpelbaaDoor
namespace Am
theorem z8z {l : List Hash} {i : Nat} (h : i < l.length) : l.take (i + 1) = l.take i ++ [hd l i] := by
  rw [z8g h]; exact (List.take_append_getElem h).symm
end Am
end Go.Proofs.YtncenefkbpelbaaDoor
end
section
/- Ranges: contracts: push. -/
namespace Go.Proofs.YtncenefkbpelbaaDoor
namespace Am
def Ext (Y Y' : Store) : Prop := ∃ news, Y' = Y ++ news
theorem Ext.refl (Y : Store) : Ext Y Y := ⟨[], by simp⟩
theorem Ext.app {Y Y' y : Store} (h : Ext Y Y') : Ext Y (Y' ++ y) := by
  obtain ⟨n, rfl⟩ := h
  exact ⟨n ++ y, by rw [List.append_assoc]⟩
theorem Ext.set {Y Y' : Store} {r : Nat} {x : Option AObj} (h : Ext Y Y') (hr : Y.length <= r) : Ext Y (Y'.set r x) := by
  obtain ⟨n, rfl⟩ := h
  exact ⟨n.set (r - Y.length) x, List.set_append_right _ _ hr⟩
theorem Ext.trans {Y Y' Y'' : Store} (h : Ext Y Y') (h' : Ext Y' Y'') : Ext Y Y'' := by
  obtain ⟨n, rfl⟩ := h
  obtain ⟨m, rfl⟩ := h'
  exact ⟨n ++ m, by rw [List.append_assoc]⟩
theorem Ext.le {Y Y' : Store} (h : Ext Y Y') : Y.length <= Y'.length := by
  obtain ⟨n, rfl⟩ := h; simp
/-- A loop that is left in its first round. -/
theorem zW.once {C : Ctx} {n k : Nat} {Q : AExit -> Env -> Store -> Prop} {O : Env} {Y : Store} {x : ACode} (h : zW C n k x (z27 (fun _ _ => False) Q) O Y) : zW C n k (.loop x) Q O Y :=
  zW.loop (fun _ O' Y' => O' = O /\ Y' = Y) 0 ⟨rfl, rfl⟩ (by
    rintro m _ _ ⟨rfl, rfl⟩
    refine h.mono fun e O Y h => ?_
    cases e
    · exact h.elim
    · exact h
    · exact h)
end Am
end Go.Proofs.YtncenefkbpelbaaDoor
end
section
/- Ranges: contracts: Extend, Append, Of. -/
namespace Go.Proofs.YtncenefkbpelbaaDoor
namespace Am
/-- Nil if it was nil. -/
def knil (es : List (List AV)) : AV -> AV
  | .nilsl => .nilsl
  | _ => .vsl 32 es false
theorem Ext.pure {Y Y' : Store} {v : AV} (hw : Wf Y.length Y) (h : Ext Y Y') (hv : RL Y.length v) : DownV Y.length v Y' v Y := by
  obtain ⟨n, rfl⟩ := h
  exact DownV.pure hw hv
/-- The hashes of a range that was gone on with: nil if it was nil, and nothing came. -/
def zv (x : AV) (first : Bool) (l : List Hash) : AV := if first then knil (hr l) x else .vsl 32 (hr l) false
def rg (n : Int) (z : AV) (e : Int) : AV := .tup [.agg [.int .i64 n, z], .int .i64 e]
attribute [local irreducible] ACallsTo ACallsP
end Am
end Go.Proofs.YtncenefkbpelbaaDoor
end
section
/- Rows: numbers, trees. (The laws are printed by wip/rows.py.) -/
namespace Go.Proofs.YtncenefkbpelbaaDoor
namespace Am
def zc1 : Nat -> List AV := fun n => [.int .i64 n]
def nums (l : List (Nat)) : List (List AV) := l.map zc1
@[go_sem] theorem nums_len (l : List (Nat)) : (nums l).length = l.length := by simp [nums]
@[go_sem] theorem nums_take (l : List (Nat)) (n : Nat) : (nums l).take n = nums (l.take n) := by simp [nums, List.map_take]
@[go_sem] theorem nums_drop (l : List (Nat)) (n : Nat) : (nums l).drop n = nums (l.drop n) := by simp [nums, List.map_drop]
@[go_sem] theorem nums_set (l : List (Nat)) (i : Nat) (x : Nat) : (nums l).set i (zc1 x) = nums (l.set i x) := by simp [nums, List.map_set]
def numsD (l : List (Nat)) (i : Nat) : Nat := l.getD i 0
@[go_sem] theorem nums_get {l : List (Nat)} {i : Nat} (h : i < l.length) : (nums l)[i]? = some (zc1 (numsD l i)) := by
  simp [nums, numsD, List.getElem?_map, List.getElem?_eq_getElem h]
def trsR : Nat × Hash -> List AV := fun t => .int .i64 t.1 :: hc t.2
def trs (l : List (Nat × Hash)) : List (List AV) := l.map trsR
@[go_sem] theorem trs_len (l : List (Nat × Hash)) : (trs l).length = l.length := by simp [trs]
@[go_sem] theorem trs_take (l : List (Nat × Hash)) (n : Nat) : (trs l).take n = trs (l.take n) := by simp [trs, List.map_take]
@[go_sem] theorem trs_drop (l : List (Nat × Hash)) (n : Nat) : (trs l).drop n = trs (l.drop n) := by simp [trs, List.map_drop]
@[go_sem] theorem trs_set (l : List (Nat × Hash)) (i : Nat) (x : Nat × Hash) : (trs l).set i (trsR x) = trs (l.set i x) := by simp [trs, List.map_set]
def trsD (l : List (Nat × Hash)) (i : Nat) : Nat × Hash := l.getD i (0, zeroH)
@[go_sem] theorem trs_get {l : List (Nat × Hash)} {i : Nat} (h : i < l.length) : (trs l)[i]? = some (trsR (trsD l i)) := by
  simp [trs, trsD, List.getElem?_map, List.getElem?_eq_getElem h]
/-- All that is new is let go; what is read of a slice stays. -/
theorem RdSl.frz {sz : Nat} {Z news : Store} {v : AV} {es : List (List AV)} (h : RdSl (Z ++ news) sz es v) (hn : ∀ r off len lim e, v = .sl r off len lim e -> Z.length <= r) (hr : RLss Z.length es) : ∃ v2, SlV sz es v2 /\ DR (FrzD Z news) v2 v := by
  rcases h with (⟨rfl, rfl⟩ | ⟨ex, rfl⟩) | ⟨r, off, lim, o, rfl, hg, h1, h2⟩
  · exact ⟨.nilsl, .inl ⟨rfl, rfl⟩, by simp [DR]⟩
  · exact ⟨.vsl sz es ex, .inr ⟨ex, rfl⟩, FrzD.same (by simpa only [RL] using hr)⟩
  · exact ⟨.vsl sz es false, .inr ⟨false, rfl⟩, FrzD.sl (hn _ _ _ _ _ rfl) hg h1 h2 hr⟩
theorem Ext.all {Y Y' : Store} {v v2 : AV} (hw : Wf Y.length Y) (he : Ext Y Y') (h : ∀ news, Y' = Y ++ news -> DR (FrzD Y news) v2 v) : DownV Y.length v Y' v2 Y := by
  obtain ⟨news, rfl⟩ := he
  exact DownV.all hw (h news rfl)
/-- Own elements in memory, from the k-th object on. -/
def OwnR (sz k : Nat) (Y' : Store) (v : AV) (es : List (List AV)) : Prop := (es = [] /\ v = .nilsl) \/ ∃ r, k <= r /\ es ≠ [] /\ v = .sl r 0 es.length none sz /\ Y'[r]? = some (some es)
theorem OwnR.nil {sz k : Nat} {Y' : Store} : OwnR sz k Y' .nilsl [] := .inl ⟨rfl, rfl⟩
theorem OwnR.cells {sz k : Nat} {Y' : Store} {v : AV} {es : List (List AV)} (h : OwnR sz k Y' v es) : cellsOf v = some [v] := by
  rcases h with ⟨_, rfl⟩ | ⟨r, _, _, rfl, _⟩ <;> rfl
theorem OwnR.rd {sz k : Nat} {Y' : Store} {v : AV} {es : List (List AV)} (h : OwnR sz k Y' v es) : RdSl Y' sz es v := by
  rcases h with ⟨h, rfl⟩ | ⟨r, _, _, rfl, hg⟩
  · exact .inl (.inl ⟨rfl, h⟩)
  · exact .inr ⟨r, 0, none, es, rfl, hg, by omega, by simp⟩
theorem OwnR.len {sz k : Nat} {Y' : Store} {v : AV} {es : List (List AV)} (h : OwnR sz k Y' v es) : z1t v = some (.int .i64 es.length) := h.rd.len
theorem OwnR.set {sz k q : Nat} {Y' : Store} {v : AV} {es : List (List AV)} {x : Option AObj} (h : OwnR sz k Y' v es) (hq : q < k) : OwnR sz k (Y'.set q x) v es := by
  rcases h with h | ⟨r, h1, h2, h3, h4⟩
  · exact .inl h
  · exact .inr ⟨r, h1, h2, h3, by rw [z22 (by omega)]; exact h4⟩
theorem OwnR.more {sz k : Nat} {Y' y : Store} {v : AV} {es : List (List AV)} (h : OwnR sz k Y' v es) : OwnR sz k (Y' ++ y) v es := by
  rcases h with h | ⟨r, h1, h2, h3, h4⟩
  · exact .inl h
  · exact .inr ⟨r, h1, h2, h3, by rw [gapp (slen h4)]; exact h4⟩
theorem OwnR.app {sz k : Nat} {Y' : Store} {v : AV} {es ys : List (List AV)} (h : OwnR sz k Y' v es) (hk : k <= Y'.length) (h0 : ys.length ≠ 0) (hl : es.length + ys.length <= 1073741824) :
    ∃ v' Y2, aApp Y' sz v ys = some (v', Y2) /\ OwnR sz k Y2 v' (es ++ ys) /\ (∀ q, q < k -> Y2[q]? = Y'[q]?) /\ (∀ Y : Store, Y.length <= k -> Ext Y Y' -> Ext Y Y2) /\ k <= Y2.length := by
  have hne : es ++ ys ≠ [] := fun e => h0 (by rw [(List.append_eq_nil_iff.1 e).2]; rfl)
  rcases h with ⟨rfl, rfl⟩ | ⟨r, h1, h2, rfl, hg⟩
  · refine ⟨.sl Y'.length 0 ys.length none sz, Y' ++ [some ys], by rw [z9l, if_neg h0, if_pos (by simpa using hl)], .inr ⟨Y'.length, hk, hne, by simp, by simp⟩, fun q hq => gapp (by omega), fun Y _ he => he.app, by simp; omega⟩
  · have hr := slen hg
    refine ⟨.sl Y'.length 0 (es.length + ys.length) none sz, Y'.set r none ++ [some (es ++ ys)], ?_, .inr ⟨Y'.length, hk, hne, by simp, by rw [z17 (by simp)]; simp⟩, fun q hq => by rw [gapp (by simp; omega), z22 (by omega)], fun Y hs he => (he.set (by omega)).app, by simp; omega⟩
    rw [z7x, if_neg h0, hg]
    simp only
    rw [if_pos ⟨trivial, by omega, by omega⟩, if_neg (by omega), List.drop_zero, List.take_of_length_le (Nat.le_refl _)]
theorem OwnR.frz {sz k : Nat} {Z news : Store} {v : AV} {es : List (List AV)} (h : OwnR sz k (Z ++ news) v es) (hk : Z.length <= k) (hr : RLss Z.length es) : DR (FrzD Z news) (z1c sz es) v := by
  unfold z1c
  rcases h with ⟨rfl, rfl⟩ | ⟨r, h1, h2, rfl, hg⟩
  · simp [DR]
  · rw [if_neg h2]
    exact FrzD.sl (by omega) hg (by omega) (by simp) hr
theorem OwnR.fr {sz k : Nat} {Z Y' news : Store} {v : AV} {es : List (List AV)} (h : OwnR sz k Y' v es) (e : Y' = Z ++ news) (hk : Z.length <= k) (hr : RLss Z.length es) : DR (FrzD Z news) (z1c sz es) v := by
  subst e; exact h.frz hk hr
end Am
end Go.Proofs.YtncenefkbpelbaaDoor
end
section
/- Ranges: contracts: the reference's open, join, close. -/
namespace Go.Proofs.YtncenefkbpelbaaDoor
namespace Am
attribute [local irreducible] ACallsTo ACallsP
theorem OwnN.base {sz : Nat} {Z y Y' : Store} {v : AV} {es : List (List AV)} (h : OwnN sz (Z ++ y) Y' v es) : OwnN sz Z Y' v es := by
  obtain ⟨news, rfl, h⟩ := h
  refine ⟨y ++ news, by rw [List.append_assoc], ?_⟩
  rcases h with h | ⟨j, h0, rfl, hj⟩
  · exact .inl h
  · exact .inr ⟨y.length + j, h0, by rw [List.length_append]; congr 1; omega, by rw [List.getElem?_append_right (by omega), Nat.add_sub_cancel_left]; exact hj⟩
end Am
end Go.Proofs.YtncenefkbpelbaaDoor
end
section
/- Ranges: contracts: the reference's Extend. -/
namespace Go.Proofs.YtncenefkbpelbaaDoor
namespace Am
attribute [local irreducible] ACallsTo ACallsP
end Am
end Go.Proofs.YtncenefkbpelbaaDoor
end
section
/- Ranges: contracts: Of, Append, Same, the parts, Part. -/
namespace Go.Proofs.YtncenefkbpelbaaDoor
namespace Am
attribute [local irreducible] ACallsTo ACallsP
theorem zhf {sz : Nat} {es : List (List AV)} : cellsOf (z1c sz es) = some [z1c sz es] := by
  unfold z1c; split <;> rfl
end Am
end Go.Proofs.YtncenefkbpelbaaDoor
end
section
/- Ranges: contracts: Part. -/
namespace Go.Proofs.YtncenefkbpelbaaDoor
namespace Am
attribute [local irreducible] ACallsTo ACallsP
end Am
end Go.Proofs.YtncenefkbpelbaaDoor
end
section
/- Ranges: contracts: the reference's Of, the program's Merge. -/
namespace Go.Proofs.YtncenefkbpelbaaDoor
namespace Am
attribute [local irreducible] ACallsTo ACallsP
theorem zhg {sz : Nat} {es : List (List AV)} {z : AV} (h : SlV sz es z) : cellsOf z = some [z] := by
  rcases h with ⟨rfl, _⟩ | ⟨ex, rfl⟩ <;> rfl
end Am
end Go.Proofs.YtncenefkbpelbaaDoor
end
section
/- Ranges: the chapter's example. -/
namespace Go.Proofs.YtncenefkbpelbaaDoor
namespace Am
theorem zgp (a b : Hash) : z1i [a, b] = zj a b := by
  rw [zcp (by simp)]; simp [split2, zgo]
theorem zgq (a b c d : Hash) : z1i [a, b, c, d] = zj (zj a b) (zj c d) := by
  rw [zcp (by simp)]; simp [split4, zgp]
attribute [local irreducible] ACallsTo ACallsP
end Am
end Go.Proofs.YtncenefkbpelbaaDoor
end
section
/- Ranges: the law RangesPart: its contract. -/
namespace Go.Proofs.YtncenefkbpelbaaDoor
namespace Am
attribute [local irreducible] ACallsTo ACallsP
theorem hslC_h {cs : List AV} (h : ShC (.sl 32 z3m) cs) : ∃ (l : List Hash) (a : AV), cs = [a] /\ SlV 32 (hr l) a /\ l.length <= maxLen := by
  simp only [ShC] at h
  rcases h with rfl | ⟨es, rfl, hl, _, h2⟩
  · exact ⟨[], .nilsl, rfl, .inl ⟨rfl, rfl⟩, Nat.zero_le _⟩
  · obtain ⟨hs, rfl, hH⟩ := zf6 es h2
    obtain ⟨m, rfl⟩ := hb_of hH
    rw [z6u] at *
    exact ⟨m, _, rfl, .inr ⟨false, rfl⟩, by rwa [z6] at hl⟩
end Am
end Go.Proofs.YtncenefkbpelbaaDoor
end
section
/- Ranges: the law RangesFull: its contract. -/
namespace Go.Proofs.YtncenefkbpelbaaDoor
namespace Am
attribute [local irreducible] ACallsTo ACallsP
end Am
end Go.Proofs.YtncenefkbpelbaaDoor
end
section
/- Ranges: the root of a range. -/
namespace Go.Proofs.YtncenefkbpelbaaDoor
namespace Am
attribute [local irreducible] ACallsTo ACallsP
end Am
end Go.Proofs.YtncenefkbpelbaaDoor
end
section
/- Abstract code. (Printed by wip/gen.) -/
set_option maxRecDepth 10000
namespace Go.Proofs.YtncenefkbpelbaaDoor
namespace Am



@[go_sem] def qor0 : List AIns := [
  ⟨some 2,none,.no,.mv (.v (.str []))⟩]
@[go_sem] def qor1 : List AIns := [
  ⟨some 3,none,.no,.mv (.t 0)⟩,
  ⟨some 4,none,.no,.bin .lss .none (.t 3) (.v (.int .u64 128))⟩]
@[go_sem] def qor2 : List AIns := [
  ⟨some 5,none,.no,.mv (.t 0)⟩,
  ⟨some 6,none,.no,.conv (.int .u8) (.t 5)⟩,
  ⟨some 7,none,.no,.lit 1 [(.t 6)]⟩,
  ⟨some 8,none,.no,.conv .str (.t 7)⟩,
  ⟨some 2,none,.no,.mv (.t 8)⟩]
def qoc3 : ACode := .seq (.reg qor2) .ret
def qoc4 : ACode := .cond (.t 4) qoc3 .skip
def qoc5 : ACode := .seq (.reg qor1) qoc4
@[go_sem] def qor6 : List AIns := [
  ⟨some 9,none,.no,.mv (.t 0)⟩,
  ⟨some 10,none,.no,.bin .quo .none (.t 9) (.v (.int .u64 128))⟩,
  ⟨some 11, none, .same, .call (.v (.fn 160 [])) [(.t 10)]⟩,
  ⟨some 12,none,.no,.mv (.t 0)⟩,
  ⟨some 13,none,.no,.bin .rem .none (.t 12) (.v (.int .u64 128))⟩,
  ⟨some 14,none,.no,.conv (.int .u8) (.t 13)⟩,
  ⟨some 15,none,.no,.lit 1 [(.t 14)]⟩,
  ⟨some 16, none, .same, .conv .str (.t 15)⟩,
  ⟨some 17,none,.no,.bin .add .none (.t 11) (.t 16)⟩,
  ⟨some 2,none,.no,.mv (.t 17)⟩]
def qoc7 : ACode := .seq (.reg qor6) .ret
def qoc8 : ACode := .seq qoc5 qoc7
def qoc9 : ACode := .seq (.reg qor0) qoc8
theorem qook : cFn TC 155 = some (18, [.t 2], qoc9) := by kernel_rfl

@[go_sem] def qpr0 : List AIns := [
  ⟨some 2,none,.no,.mv (.v (.str []))⟩]
@[go_sem] def qpr1 : List AIns := [
  ⟨some 3,none,.no,.mv (.t 0)⟩,
  ⟨some 4,none,.no,.lenStr (.t 3)⟩,
  ⟨some 5,none,.no,.conv (.int .u64) (.t 4)⟩,
  ⟨some 6,none,.no,.call (.v (.fn 155 [])) [(.t 5)]⟩,
  ⟨some 7,none,.no,.mv (.t 0)⟩,
  ⟨some 8,none,.no,.bin .add .none (.t 6) (.t 7)⟩,
  ⟨some 2,none,.no,.mv (.t 8)⟩]
def qpc2 : ACode := .seq (.reg qpr1) .ret
def qpc3 : ACode := .seq (.reg qpr0) qpc2
theorem qpok : cFn TC 143 = some (9, [.t 2], qpc3) := by kernel_rfl

@[go_sem] def qqr0 : List AIns := [
  ⟨some 2,none,.no,.alloc zZ0⟩,
  ⟨some 3,none,.no,.mv (.v (.str []))⟩,
  ⟨some 4,none,.no,.mv (.v (.bool false))⟩]
@[go_sem] def qqr1 : List AIns := [
  ⟨some 7,none,.no,.mv (.t 0)⟩,
  ⟨some 8,none,.no,.call (.v (.fn 144 [])) [(.t 7), (.v (.int .u64 32))]⟩,
  ⟨some 6,none,.no,.mv (.t 8)⟩,
  ⟨some 9,none,.no,.ext 0 (.t 6)⟩,
  ⟨some 10,none,.no,.ext 1 (.t 6)⟩,
  ⟨some 11,none,.no,.ext 2 (.t 6)⟩,
  ⟨some 5,none,.no,.mv (.t 9)⟩,
  ⟨some 3,none,.no,.mv (.t 10)⟩,
  ⟨some 4,none,.no,.mv (.t 11)⟩]
@[go_sem] def qqr2 : List AIns := [
  ⟨some 12,none,.no,.slice (.arr 32 1) (.t 2) none none none⟩,
  ⟨some 13,none,.no,.mv (.t 5)⟩,
  ⟨some 14,none,.no,.copy 1 (.t 12) (.t 13)⟩]
@[go_sem] def qqr3 : List AIns := [
  ⟨some 15,none,.no,.load true 32 (.t 2)⟩,
  ⟨some 16,none,.no,.mv (.t 3)⟩,
  ⟨some 17,none,.no,.mv (.t 4)⟩,
  ⟨none,none,.no,.store 32 (.t 2) (.t 15)⟩,
  ⟨some 3,none,.no,.mv (.t 16)⟩,
  ⟨some 4,none,.no,.mv (.t 17)⟩]
def qqc4 : ACode := .seq (.reg qqr3) .ret
def qqc5 : ACode := .seq (.reg qqr2) qqc4
def qqc6 : ACode := .seq (.reg qqr1) qqc5
def qqc7 : ACode := .seq (.reg qqr0) qqc6
theorem qqok : cFn TC 132 = some (18, [.c 2 true 32, .t 3, .t 4], qqc7) := by kernel_rfl

@[go_sem] def qrr0 : List AIns := [
  ⟨some 2,none,.no,.alloc zZ0⟩,
  ⟨some 3,none,.no,.mv (.v (.str []))⟩,
  ⟨some 4,none,.no,.mv (.v (.bool false))⟩]
@[go_sem] def qrr1 : List AIns := [
  ⟨some 5,none,.no,.alloc zZ0⟩]
@[go_sem] def qrr2 : List AIns := [
  ⟨some 7,none,.no,.mv (.t 0)⟩,
  ⟨some 8,none,.no,.lenStr (.t 7)⟩,
  ⟨some 9,none,.no,.bin .lss .none (.t 8) (.v (.int .i64 32))⟩]
@[go_sem] def qrr3 : List AIns := [
  ⟨some 10,none,.no,.load true 32 (.t 5)⟩,
  ⟨none,none,.no,.store 32 (.t 2) (.t 10)⟩,
  ⟨some 3,none,.no,.mv (.v (.str []))⟩,
  ⟨some 4,none,.no,.mv (.v (.bool false))⟩]
def qrc4 : ACode := .seq (.reg qrr3) .ret
def qrc5 : ACode := .cond (.t 9) qrc4 .skip
def qrc6 : ACode := .seq (.reg qrr2) qrc5
@[go_sem] def qrr7 : List AIns := [
  ⟨some 6,none,.no,.mv (.v (.int .i64 0))⟩]
@[go_sem] def qrr8 : List AIns := [
  ⟨some 11,none,.no,.mv (.t 6)⟩,
  ⟨some 12,none,.no,.bin .lss .none (.t 11) (.v (.int .i64 32))⟩]
def qrc9 : ACode := .cond (.t 12) .skip (.exit 0)
def qrc10 : ACode := .seq (.reg qrr8) qrc9
@[go_sem] def qrr11 : List AIns := [
  ⟨some 15,none,.no,.mv (.t 6)⟩,
  ⟨some 16,none,.no,.mv (.t 0)⟩,
  ⟨some 17,none,.no,.mv (.t 6)⟩,
  ⟨some 18,none,.no,.ixStr (.t 16) (.t 17)⟩,
  ⟨some 19,none,.no,.iaArr 32 1 (.t 5) (.t 15)⟩,
  ⟨none,none,.no,.store 1 (.t 19) (.t 18)⟩]
@[go_sem] def qrr12 : List AIns := [
  ⟨some 13,none,.no,.mv (.t 6)⟩,
  ⟨some 14,none,.no,.bin .add .none (.t 13) (.v (.int .i64 1))⟩,
  ⟨some 6,none,.no,.mv (.t 14)⟩]
def qrc13 : ACode := .seq (.block 1 (.reg qrr11)) (.reg qrr12)
def qrc14 : ACode := .seq qrc10 qrc13
def qrc15 : ACode := .loop qrc14
def qrc16 : ACode := .block 0 qrc15
def qrc17 : ACode := .seq (.reg qrr7) qrc16
@[go_sem] def qrr18 : List AIns := [
  ⟨some 20,none,.no,.load true 32 (.t 5)⟩,
  ⟨some 21,none,.no,.mv (.t 0)⟩,
  ⟨some 22,none,.no,.slice .str (.t 21) (some (.v (.int .i64 32))) none none⟩,
  ⟨none,none,.no,.store 32 (.t 2) (.t 20)⟩,
  ⟨some 3,none,.no,.mv (.t 22)⟩,
  ⟨some 4,none,.no,.mv (.v (.bool true))⟩]
def qrc19 : ACode := .seq (.reg qrr18) .ret
def qrc20 : ACode := .seq qrc17 qrc19
def qrc21 : ACode := .seq qrc6 qrc20
def qrc22 : ACode := .seq (.reg qrr1) qrc21
def qrc23 : ACode := .seq (.reg qrr0) qrc22
theorem qrok : cFn TC 133 = some (23, [.c 2 true 32, .t 3, .t 4], qrc23) := by kernel_rfl

@[go_sem] def qsr0 : List AIns := [
  ⟨some 2,none,.no,.mv (.v (.str []))⟩]
@[go_sem] def qsr1 : List AIns := [
  ⟨some 4,none,.no,.mv (.t 0)⟩,
  ⟨some 5,none,.no,.bin .rem .none (.t 4) (.v (.int .u64 128))⟩,
  ⟨some 6,none,.no,.conv (.int .u8) (.t 5)⟩,
  ⟨some 7,none,.no,.lit 1 [(.t 6)]⟩,
  ⟨some 3,none,.no,.mv (.t 7)⟩]
@[go_sem] def qsr2 : List AIns := [
  ⟨some 8,none,.no,.mv (.t 0)⟩,
  ⟨some 9,none,.no,.bin .quo .none (.t 8) (.v (.int .u64 128))⟩,
  ⟨some 0,none,.no,.mv (.t 9)⟩]
@[go_sem] def qsr3 : List AIns := [
  ⟨some 10,none,.no,.mv (.t 0)⟩,
  ⟨some 11,none,.no,.bin .gtr .none (.t 10) (.v (.int .u64 0))⟩]
def qsc4 : ACode := .cond (.t 11) .skip (.exit 0)
def qsc5 : ACode := .seq (.reg qsr3) qsc4
@[go_sem] def qsr6 : List AIns := [
  ⟨some 14,none,.no,.mv (.t 0)⟩,
  ⟨some 15,none,.no,.bin .rem .none (.t 14) (.v (.int .u64 128))⟩,
  ⟨some 16,none,.no,.conv (.int .u8) (.t 15)⟩,
  ⟨some 17,none,.no,.bin .or .none (.t 16) (.v (.int .u8 128))⟩,
  ⟨some 18,none,.no,.lit 1 [(.t 17)]⟩,
  ⟨some 19,none,.no,.mv (.t 3)⟩,
  ⟨some 20,none,.no,.appB (.t 18) (.t 19)⟩,
  ⟨some 3,none,.no,.mv (.t 20)⟩]
@[go_sem] def qsr7 : List AIns := [
  ⟨some 12,none,.no,.mv (.t 0)⟩,
  ⟨some 13,none,.no,.bin .quo .none (.t 12) (.v (.int .u64 128))⟩,
  ⟨some 0,none,.no,.mv (.t 13)⟩]
def qsc8 : ACode := .seq (.block 1 (.reg qsr6)) (.reg qsr7)
def qsc9 : ACode := .seq qsc5 qsc8
def qsc10 : ACode := .loop qsc9
def qsc11 : ACode := .block 0 qsc10
def qsc12 : ACode := .seq (.reg qsr2) qsc11
@[go_sem] def qsr13 : List AIns := [
  ⟨some 21,none,.no,.mv (.t 3)⟩,
  ⟨some 22,none,.no,.conv .str (.t 21)⟩,
  ⟨some 2,none,.no,.mv (.t 22)⟩]
def qsc14 : ACode := .seq (.reg qsr13) .ret
def qsc15 : ACode := .seq qsc12 qsc14
def qsc16 : ACode := .seq (.reg qsr1) qsc15
def qsc17 : ACode := .seq (.reg qsr0) qsc16
theorem qsok : cFn TC 154 = some (23, [.t 2], qsc17) := by kernel_rfl

@[go_sem] def qtr0 : List AIns := [
  ⟨some 2,none,.no,.mv (.v (.str []))⟩]
@[go_sem] def qtr1 : List AIns := [
  ⟨some 3,none,.no,.mv (.t 0)⟩,
  ⟨some 4,none,.no,.lenStr (.t 3)⟩,
  ⟨some 5,none,.no,.conv (.int .u64) (.t 4)⟩,
  ⟨some 6,none,.no,.call (.v (.fn 154 [])) [(.t 5)]⟩,
  ⟨some 7,none,.no,.mv (.t 0)⟩,
  ⟨some 8,none,.no,.bin .add .none (.t 6) (.t 7)⟩,
  ⟨some 2,none,.no,.mv (.t 8)⟩]
def qtc2 : ACode := .seq (.reg qtr1) .ret
def qtc3 : ACode := .seq (.reg qtr0) qtc2
theorem qtok : cFn TC 142 = some (9, [.t 2], qtc3) := by kernel_rfl

@[go_sem] def qur0 : List AIns := [
  ⟨some 2,none,.no,.mv (.v (.str []))⟩]
@[go_sem] def qur1 : List AIns := [
  ⟨some 4,none,.no,.mv (.t 0)⟩,
  ⟨some 5,none,.no,.bin .rem .none (.t 4) (.v (.int .u64 128))⟩,
  ⟨some 6,none,.no,.conv (.int .u8) (.t 5)⟩,
  ⟨some 7,none,.no,.bin .add .none (.t 6) (.v (.int .u8 128))⟩,
  ⟨some 8,none,.no,.lit 1 [(.t 7)]⟩,
  ⟨some 9,none,.no,.conv .str (.t 8)⟩,
  ⟨some 3,none,.no,.mv (.t 9)⟩]
@[go_sem] def qur2 : List AIns := [
  ⟨some 10,none,.no,.mv (.t 0)⟩,
  ⟨some 11,none,.no,.bin .lss .none (.t 10) (.v (.int .u64 128))⟩]
@[go_sem] def qur3 : List AIns := [
  ⟨some 12,none,.no,.mv (.t 3)⟩,
  ⟨some 2,none,.no,.mv (.t 12)⟩]
def quc4 : ACode := .seq (.reg qur3) .ret
def quc5 : ACode := .cond (.t 11) quc4 .skip
def quc6 : ACode := .seq (.reg qur2) quc5
@[go_sem] def qur7 : List AIns := [
  ⟨some 13,none,.no,.mv (.t 0)⟩,
  ⟨some 14,none,.no,.bin .quo .none (.t 13) (.v (.int .u64 128))⟩,
  ⟨some 15,none,.no,.call (.v (.fn 160 [])) [(.t 14)]⟩,
  ⟨some 16,none,.no,.mv (.t 3)⟩,
  ⟨some 17,none,.no,.bin .add .none (.t 15) (.t 16)⟩,
  ⟨some 2,none,.no,.mv (.t 17)⟩]
def quc8 : ACode := .seq (.reg qur7) .ret
def quc9 : ACode := .seq quc6 quc8
def quc10 : ACode := .seq (.reg qur1) quc9
def quc11 : ACode := .seq (.reg qur0) quc10
theorem quok : cFn TC 160 = some (18, [.t 2], quc11) := by kernel_rfl

@[go_sem] def qvr0 : List AIns := [
  ⟨some 4,none,.no,.mv (.v (.str []))⟩,
  ⟨some 5,none,.no,.mv (.v (.str []))⟩,
  ⟨some 6,none,.no,.mv (.v (.bool false))⟩]
@[go_sem] def qvr1 : List AIns := [
  ⟨some 7,none,.no,.mv (.t 1)⟩,
  ⟨some 8,none,.no,.mv (.t 0)⟩,
  ⟨some 9,none,.no,.lenStr (.t 8)⟩,
  ⟨some 10,none,.no,.conv (.int .u64) (.t 9)⟩,
  ⟨some 11,none,.no,.bin .gtr .none (.t 7) (.t 10)⟩]
@[go_sem] def qvr2 : List AIns := [
  ⟨some 4,none,.no,.mv (.v (.str []))⟩,
  ⟨some 5,none,.no,.mv (.v (.str []))⟩,
  ⟨some 6,none,.no,.mv (.v (.bool false))⟩]
def qvc3 : ACode := .seq (.reg qvr2) .ret
def qvc4 : ACode := .cond (.t 11) qvc3 .skip
def qvc5 : ACode := .seq (.reg qvr1) qvc4
@[go_sem] def qvr6 : List AIns := [
  ⟨some 12,none,.no,.mv (.t 0)⟩,
  ⟨some 13,none,.no,.mv (.t 1)⟩,
  ⟨some 14,none,.no,.slice .str (.t 12) none (some (.t 13)) none⟩,
  ⟨some 15,none,.no,.mv (.t 0)⟩,
  ⟨some 16,none,.no,.mv (.t 1)⟩,
  ⟨some 17,none,.no,.slice .str (.t 15) (some (.t 16)) none none⟩,
  ⟨some 4,none,.no,.mv (.t 14)⟩,
  ⟨some 5,none,.no,.mv (.t 17)⟩,
  ⟨some 6,none,.no,.mv (.v (.bool true))⟩]
def qvc7 : ACode := .seq (.reg qvr6) .ret
def qvc8 : ACode := .seq qvc5 qvc7
def qvc9 : ACode := .seq (.reg qvr0) qvc8
theorem qvok : cFn TC 144 = some (18, [.t 4, .t 5, .t 6], qvc9) := by kernel_rfl

end Am
end Go.Proofs.YtncenefkbpelbaaDoor
end
section
/- Codec: plain laws: numbers as_ bytes, and back. -/
namespace Go.Proofs.YtncenefkbpelbaaDoor
namespace Am
def u8 (n : Nat) : UInt8 := UInt8.ofNat n
theorem z5e {n : Nat} (h : n < 256) : (u8 n).toNat = n := by unfold u8; rw [UInt8.toNat_ofNat']; omega
/-- Bytes behind which there are more. -/
def z2e : Nat -> Nat -> List UInt8
  | 0, _ => []
  | f + 1, n => if n < 128 then [u8 (n + 128)] else z2e f (n / 128) ++ [u8 (n % 128 + 128)]
theorem zdy (f n : Nat) : z2e (f + 1) n = if n < 128 then [u8 (n + 128)] else z2e f (n / 128) ++ [u8 (n % 128 + 128)] := rfl
theorem zdx : ∀ (f g n : Nat), n < 128 ^ f -> n < 128 ^ g -> 0 < f -> 0 < g -> z2e f n = z2e g n
  | 0, _, _, _, _, h, _ => by omega
  | _ + 1, 0, _, _, _, _, h => by omega
  | f + 1, g + 1, n, h, h', _, _ => by
    simp only [z2e]
    by_cases h1 : n < 128
    · rw [if_pos h1, if_pos h1]
    · rw [if_neg h1, if_neg h1]
      rw [Nat.pow_succ] at h h'
      have hf : 0 < f := by
        rcases Nat.eq_zero_or_pos f with h0 | h0
        · subst h0; simp at h; omega
        · exact h0
      have hg : 0 < g := by
        rcases Nat.eq_zero_or_pos g with h0 | h0
        · subst h0; simp at h'; omega
        · exact h0
      rw [zdx f g (n / 128) (by omega) (by omega) hf hg]
/-- A number's bytes. -/
def numS (n : Nat) : List UInt8 := if n < 128 then [u8 n] else z2e 10 (n / 128) ++ [u8 (n % 128)]
/-- What digits say. -/
def dval (l : List UInt8) : Nat := l.foldl (fun n b => 128 * n + b.toNat % 128) 0
theorem zjm (l : List UInt8) (b : UInt8) : dval (l ++ [b]) = 128 * dval l + b.toNat % 128 := by simp [dval]
theorem zaw : ∀ (f n : Nat), 0 < f -> n < 128 ^ f -> (∀ b ∈ z2e f n, 128 <= b.toNat) /\ (z2e f n).length <= f /\ dval (z2e f n) = n
  | 0, _, h, _ => by omega
  | f + 1, n, _, h => by
    simp only [z2e]
    by_cases h1 : n < 128
    · rw [if_pos h1]
      refine ⟨fun b hb => ?_, by simp, ?_⟩
      · simp at hb; subst hb; rw [z5e (by omega)]; omega
      · simp only [dval, List.foldl_cons, List.foldl_nil]; rw [z5e (by omega)]; omega
    · rw [if_neg h1]
      rw [Nat.pow_succ] at h
      have hf : 0 < f := by
        rcases Nat.eq_zero_or_pos f with h0 | h0
        · subst h0; simp at h; omega
        · exact h0
      obtain ⟨i1, i2, i3⟩ := zaw f (n / 128) hf (by omega)
      refine ⟨fun b hb => ?_, by simp; omega, ?_⟩
      · rcases List.mem_append.1 hb with hb | hb
        · exact i1 b hb
        · simp at hb; subst hb; rw [z5e (by omega)]; omega
      · rw [zjm, i3, z5e (by omega)]; omega
end Am
end Go.Proofs.YtncenefkbpelbaaDoor
end
section
/- Codec: contracts: numbers. -/
namespace Go.Proofs.YtncenefkbpelbaaDoor
namespace Am
attribute [local irreducible] ACallsTo ACallsP
theorem or128 {n : Nat} (h : n < 128) : n ||| 128 = n + 128 := by
  have := Nat.two_pow_add_eq_or_of_lt (i := 7) (b := n) h 1
  simp at this
  rw [Nat.or_comm, <- this, Nat.add_comm]
theorem zir (b : UInt8) (s : List UInt8) : z8 (b :: s) = [.int .u8 b.toNat] :: z8 s := by simp [z8, B8]
theorem zgk : ∀ (f : Nat) (Y : Store) (n : Nat), 0 < f -> f <= 100 -> n < 128 ^ f -> n < 18446744073709551616 -> ACallsTo TC 160 [.int .u64 n] Y (.str (z2e f n)) Y
  | 0, _, _, h, _, _, _ => by omega
  | f + 1, Y, n, _, hf100, h, h64 => by
    refine ACallsTo.of_body quok (by simp) fun hw _ => ?_
    have hb : [[AV.int .u8 ((n : Int) % 128 + 128)]] = z8 [u8 (n % 128 + 128)] := by
      have := z5e (n := n % 128 + 128) (by omega)
      simp [z8, B8, this]
    simp only [z2e]
    by_cases h1 : n < 128
    · have e : u8 (n + 128) = u8 (n % 128 + 128) := by congr 1; omega
      rw [if_pos h1, e]
      generalize u8 (n % 128 + 128) = c at *
      repeat' (first|refine zW.zs ?_|refine zW.zb ?_|refine zW.zc ?_|refine zW.zt rfl ?_|refine zW.zf rfl ?_|(refine zW.zd rfl (fun ht => ?_) (fun ht => ?_)<;>try (exfalso;omega))|((first|refine zW.zr ?_|refine zW.zk ?_|refine zW.ze ?_|refine zW.zq ?_|((first|apply zg0|apply zg1|apply zg2|apply zg3|apply zg4|apply zg5|apply zg6|apply zg7)<;>intro ht));all_goals try simp (disch:=first|omega|(simp only [lens,z7,z6,List.length_reverse,zg];first|done|omega)) only [go_sem,reduceEqDiff,Nat.reduceBEq,reduceAdd,reduceMul,reduceSub,reduceLeDiff,reduceToNat,reducePow, hb]))
      exact DownV.same hw (z11 _ rfl)
    · rw [if_neg h1]
      rw [Nat.pow_succ] at h
      have hf : 0 < f := by
        rcases Nat.eq_zero_or_pos f with h0 | h0
        · subst h0; simp at h; omega
        · exact h0
      have ih := fun Y => zgk f Y (n / 128) hf (by omega) (by omega) (by omega)
      have hlen := (zaw f (n / 128) hf (by omega)).2.1
      have hd : (n : Int) / 128 = ((n / 128 : Nat) : Int) := by simp
      generalize u8 (n % 128 + 128) = c at *
      repeat' (first|refine zW.zs ?_|refine zW.zb ?_|refine zW.zc ?_|refine zW.zt rfl ?_|refine zW.zf rfl ?_|(refine zW.zd rfl (fun ht => ?_) (fun ht => ?_)<;>try (exfalso;omega))|((first|refine zW.zr ?_|refine zW.zk ?_|refine zW.ze ?_|refine zW.zq ?_|(apply callW.mk_pu; (first | exact (fun _ => ih _))) | (apply callW.za; (first | exact (ih _))) | ((first|apply zg0|apply zg1|apply zg2|apply zg3|apply zg4|apply zg5|apply zg6|apply zg7)<;>intro ht));all_goals try simp (disch:=first|omega|(simp only [lens,z7,z6,List.length_reverse,zg];first|done|omega)) only [go_sem,reduceEqDiff,Nat.reduceBEq,reduceAdd,reduceMul,reduceSub,reduceLeDiff,reduceToNat,reducePow, hb, hd]))
      exact DownV.same hw (z11 _ rfl)
theorem zos (Y : Store) (n : Nat) (h : n < 18446744073709551616) : ACallsTo TC 155 [.int .u64 n] Y (.str (numS n)) Y := by
  refine ACallsTo.of_body qook (by simp) fun hw _ => ?_
  unfold numS
  by_cases h1 : n < 128
  · have hb : [[AV.int .u8 (n : Int)]] = z8 [u8 n] := by
      have := z5e (n := n) (by omega)
      simp [z8, B8, this]
    rw [if_pos h1]
    generalize u8 n = c at *
    repeat' (first|refine zW.zs ?_|refine zW.zb ?_|refine zW.zc ?_|refine zW.zt rfl ?_|refine zW.zf rfl ?_|(refine zW.zd rfl (fun ht => ?_) (fun ht => ?_)<;>try (exfalso;omega))|((first|refine zW.zr ?_|refine zW.zk ?_|refine zW.ze ?_|refine zW.zq ?_|((first|apply zg0|apply zg1|apply zg2|apply zg3|apply zg4|apply zg5|apply zg6|apply zg7)<;>intro ht));all_goals try simp (disch:=first|omega|(simp only [lens,z7,z6,List.length_reverse,zg];first|done|omega)) only [go_sem,reduceEqDiff,Nat.reduceBEq,reduceAdd,reduceMul,reduceSub,reduceLeDiff,reduceToNat,reducePow, hb]))
    exact DownV.same hw (z11 _ rfl)
  · have hb : [[AV.int .u8 ((n : Int) % 128)]] = z8 [u8 (n % 128)] := by
      have := z5e (n := n % 128) (by omega)
      simp [z8, B8, this]
    have hA := fun Y => zgk 10 Y (n / 128) (by decide) (by decide) (by omega) (by omega)
    have hlen := (zaw 10 (n / 128) (by decide) (by omega)).2.1
    have hd : (n : Int) / 128 = ((n / 128 : Nat) : Int) := by simp
    rw [if_neg h1]
    generalize u8 (n % 128) = c at *
    repeat' (first|refine zW.zs ?_|refine zW.zb ?_|refine zW.zc ?_|refine zW.zt rfl ?_|refine zW.zf rfl ?_|(refine zW.zd rfl (fun ht => ?_) (fun ht => ?_)<;>try (exfalso;omega))|((first|refine zW.zr ?_|refine zW.zk ?_|refine zW.ze ?_|refine zW.zq ?_|(apply callW.mk_pu; (first | exact (fun _ => hA _))) | (apply callW.za; (first | exact (hA _))) | ((first|apply zg0|apply zg1|apply zg2|apply zg3|apply zg4|apply zg5|apply zg6|apply zg7)<;>intro ht));all_goals try simp (disch:=first|omega|(simp only [lens,z7,z6,List.length_reverse,zg];first|done|omega)) only [go_sem,reduceEqDiff,Nat.reduceBEq,reduceAdd,reduceMul,reduceSub,reduceLeDiff,reduceToNat,reducePow, hb, hd]))
    exact DownV.same hw (z11 _ rfl)
/-- Digits ahead of others. -/
def preF (m : Nat) : List UInt8 := if m = 0 then [] else z2e 10 m
theorem znd {m : Nat} (h : 0 < m) (h2 : m < 18446744073709551616) : preF m = preF (m / 128) ++ [u8 (m % 128 + 128)] := by
  unfold preF
  rw [if_neg (by omega), show (10 : Nat) = 9 + 1 from rfl, zdy]
  by_cases h1 : m < 128
  · rw [if_pos h1, if_pos (by omega), show m % 128 + 128 = m + 128 by omega]; rfl
  · rw [if_neg h1, if_neg (by omega), zdx 9 10 (m / 128) (by omega) (by omega) (by decide) (by decide)]
theorem zm6 (n : Nat) : numS n = preF (n / 128) ++ [u8 (n % 128)] := by
  unfold numS preF
  by_cases h1 : n < 128
  · rw [if_pos h1, if_pos (by omega), show n % 128 = n by omega]; rfl
  · rw [if_neg h1, if_neg (by omega)]
set_option maxHeartbeats 4000000 in
theorem zjc (Y : Store) (n : Nat) (h : n < 18446744073709551616) : ACallsTo TC 154 [.int .u64 n] Y (.str (numS n)) Y := by
  refine ACallsTo.of_body qsok (by simp) fun hw _ => ?_
  have hb : [[AV.int .u8 ((n : Int) % 128)]] = z8 [u8 (n % 128)] := by
    have := z5e (n := n % 128) (by omega)
    simp [z8, B8, this]
  have hd : (n : Int) / 128 = ((n / 128 : Nat) : Int) := by simp
  have hn := zm6 n
  generalize u8 (n % 128) = c0 at *
  repeat' (first|refine zW.zs ?_|refine zW.zb ?_|refine zW.zc ?_|refine zW.zt rfl ?_|refine zW.zf rfl ?_|(refine zW.zd rfl (fun ht => ?_) (fun ht => ?_)<;>try (exfalso;omega))|((first|refine zW.zr ?_|refine zW.zk ?_|refine zW.ze ?_|refine zW.zq ?_|((first|apply zg0|apply zg1|apply zg2|apply zg3|apply zg4|apply zg5|apply zg6|apply zg7)<;>intro ht));all_goals try simp (disch:=first|omega|(simp only [lens,z7,z6,List.length_reverse,zg];first|done|omega)) only [go_sem,reduceEqDiff,Nat.reduceBEq,reduceAdd,reduceMul,reduceSub,reduceLeDiff,reduceToNat,reducePow, hb, hd]))
  refine zW.loop (fun k O Y' => ∃ (m : Nat) (b : List UInt8) (v : AV), m < 128 ^ k /\ m < 18446744073709551616 /\ preF m ++ b = numS n /\ 0 < b.length /\ b.length + k <= 12 /\ Ext Y Y' /\ (v = .vsl 1 (z8 b) true \/ ∃ r, Y.length <= r /\ v = .sl r 0 b.length none 1 /\ Y'[r]? = some (some (z8 b))) /\ O 0 = .int .u64 m /\ O 3 = v) 10 ?_ ?_
  · exact ⟨n / 128, [c0], _, by omega, by omega, hn.symm, by simp, by simp, Ext.refl _, .inl rfl, by simp (disch:=first|omega|(simp only [lens,z7,z6,List.length_reverse,zg];first|done|omega)) only [go_sem,reduceEqDiff,Nat.reduceBEq,reduceAdd,reduceMul,reduceSub,reduceLeDiff,reduceToNat,reducePow], by simp (disch:=first|omega|(simp only [lens,z7,z6,List.length_reverse,zg];first|done|omega)) only [go_sem,reduceEqDiff,Nat.reduceBEq,reduceAdd,reduceMul,reduceSub,reduceLeDiff,reduceToNat,reducePow, hb]⟩
  · rintro k O Y' ⟨m, b, v, hmk, hm, hmb, hb0, hbk, he, hv, q0, q3⟩
    by_cases h0 : m = 0
    · subst h0
      rw [<- hmb]
      have e0 : preF 0 ++ b = b := rfl
      rw [e0]
      rcases hv with rfl | ⟨r, hr, rfl, hg⟩
      · repeat' (first|refine zW.zs ?_|refine zW.zb ?_|refine zW.zc ?_|refine zW.zt rfl ?_|refine zW.zf rfl ?_|(refine zW.zd rfl (fun ht => ?_) (fun ht => ?_)<;>try (exfalso;omega))|((first|refine zW.zr ?_|refine zW.zk ?_|refine zW.ze ?_|refine zW.zq ?_|((first|apply zg0|apply zg1|apply zg2|apply zg3|apply zg4|apply zg5|apply zg6|apply zg7)<;>intro ht));all_goals try simp (disch:=first|omega|(simp only [lens,z7,z6,List.length_reverse,zg];first|done|omega)) only [go_sem,reduceEqDiff,Nat.reduceBEq,reduceAdd,reduceMul,reduceSub,reduceLeDiff,reduceToNat,reducePow, q0, q3]))
        exact Ext.pure hw he (z11 _ rfl)
      · repeat' (first|refine zW.zs ?_|refine zW.zb ?_|refine zW.zc ?_|refine zW.zt rfl ?_|refine zW.zf rfl ?_|(refine zW.zd rfl (fun ht => ?_) (fun ht => ?_)<;>try (exfalso;omega))|((first|refine zW.zr ?_|refine zW.zk ?_|refine zW.ze ?_|refine zW.zq ?_|((first|apply zg0|apply zg1|apply zg2|apply zg3|apply zg4|apply zg5|apply zg6|apply zg7)<;>intro ht));all_goals try simp (disch:=first|omega|(simp only [lens,z7,z6,List.length_reverse,zg];first|done|omega)) only [go_sem,reduceEqDiff,Nat.reduceBEq,reduceAdd,reduceMul,reduceSub,reduceLeDiff,reduceToNat,reducePow, q0, q3, hg]))
        exact Ext.pure hw he (z11 _ rfl)
    · have hst := znd (m := m) (by omega) hm
      have hc8 := z5e (n := m % 128 + 128) (by omega)
      have hor : ((((m : Int) % 128).toNat ||| 128 : Nat) : Int) = (((u8 (m % 128 + 128)).toNat : Nat) : Int) := by
        have : ((m : Int) % 128).toNat = m % 128 := by omega
        rw [this, or128 (by omega), hc8]
      have hd2 : (m : Int) / 128 = ((m / 128 : Nat) : Int) := by simp
      rw [hst, List.append_assoc] at hmb
      have hkk : ∃ k', k = k' + 1 := by
        cases k with
        | zero => simp at hmk; omega
        | succ k => exact ⟨k, rfl⟩
      obtain ⟨k, rfl⟩ := hkk
      rw [Nat.pow_succ] at hmk
      generalize u8 (m % 128 + 128) = c at *
      have hcat : [AV.int .u8 (c.toNat : Int)] :: z8 b = z8 (c :: b) := (zir c b).symm
      have hlen : (z8 b).length = b.length := zg b
      rcases hv with rfl | ⟨r, hr, rfl, hg⟩
      · repeat' (first|refine zW.zs ?_|refine zW.zb ?_|refine zW.zc ?_|refine zW.zt rfl ?_|refine zW.zf rfl ?_|(refine zW.zd rfl (fun ht => ?_) (fun ht => ?_)<;>try (exfalso;omega))|((first|refine zW.zr ?_|refine zW.zk ?_|refine zW.ze ?_|refine zW.zq ?_|((first|apply zg0|apply zg1|apply zg2|apply zg3|apply zg4|apply zg5|apply zg6|apply zg7)<;>intro ht));all_goals try simp (disch:=first|omega|(simp only [lens,z7,z6,List.length_reverse,zg];first|done|omega)) only [go_sem,reduceEqDiff,Nat.reduceBEq,reduceAdd,reduceMul,reduceSub,reduceLeDiff,reduceToNat,reducePow, q0, q3, hor, hd2, hcat]))
        exact ⟨k, by omega, m / 128, c :: b, _, by omega, by omega, hmb, by simp, by simp; omega, he.app, .inr ⟨Y'.length, he.le, by simp [Nat.add_comm], by simp⟩, rfl, rfl⟩
      · repeat' (first|refine zW.zs ?_|refine zW.zb ?_|refine zW.zc ?_|refine zW.zt rfl ?_|refine zW.zf rfl ?_|(refine zW.zd rfl (fun ht => ?_) (fun ht => ?_)<;>try (exfalso;omega))|((first|refine zW.zr ?_|refine zW.zk ?_|refine zW.ze ?_|refine zW.zq ?_|((first|apply zg0|apply zg1|apply zg2|apply zg3|apply zg4|apply zg5|apply zg6|apply zg7)<;>intro ht));all_goals try simp (disch:=first|omega|(simp only [lens,z7,z6,List.length_reverse,zg];first|done|omega)) only [go_sem,reduceEqDiff,Nat.reduceBEq,reduceAdd,reduceMul,reduceSub,reduceLeDiff,reduceToNat,reducePow, q0, q3, hor, hd2, hcat, hg]))
        exact ⟨k, by omega, m / 128, c :: b, _, by omega, by omega, hmb, by simp, by simp; omega, he.app, .inr ⟨Y'.length, he.le, by simp [Nat.add_comm], by simp⟩, rfl, rfl⟩
end Am
end Go.Proofs.YtncenefkbpelbaaDoor
end
section
/- Codec: contracts: the number that stands ahead. -/
namespace Go.Proofs.YtncenefkbpelbaaDoor
namespace Am
attribute [local irreducible] ACallsTo ACallsP
end Am
end Go.Proofs.YtncenefkbpelbaaDoor
end
section
/- Codec: contracts: texts, what is cut off, hashes. -/
namespace Go.Proofs.YtncenefkbpelbaaDoor
namespace Am
attribute [local irreducible] ACallsTo ACallsP
def z3u (s : List UInt8) (n : Nat) : Option (List UInt8 × List UInt8) := if n <= s.length then some (s.take n, s.drop n) else none
def stV : Option (List UInt8 × List UInt8) -> AV
  | none => .tup [.str [], .str [], .bool false]
  | some (a, r) => .tup [.str a, .str r, .bool true]
def z3v (s : List UInt8) : List UInt8 := numS s.length ++ s
theorem zc0 (n : Nat) : (numS n).length <= 11 := by
  unfold numS
  split
  · simp
  · have : ∀ f m, (z2e f m).length <= f := by
      intro f
      induction f with
      | zero => intro m; simp [z2e]
      | succ f ih =>
        intro m
        rw [zdy]
        split
        · simp
        · have := ih (m / 128); simp; omega
    have := this 10 (n / 128)
    simp; omega
set_option maxHeartbeats 4000000 in
theorem zjd (Y : Store) (s : List UInt8) (hs : s.length < 1000000000) : ACallsTo TC 142 [.str s] Y (.str (z3v s)) Y := by
  refine ACallsTo.of_body qtok (by simp) fun hw _ => ?_
  have hN := fun Y => zjc Y s.length (by omega)
  have h1 := zc0 s.length
  unfold z3v
  generalize numS s.length = N at *
  repeat' (first|refine zW.zs ?_|refine zW.zb ?_|refine zW.zc ?_|refine zW.zt rfl ?_|refine zW.zf rfl ?_|(refine zW.zd rfl (fun ht => ?_) (fun ht => ?_)<;>try (exfalso;omega))|((first|refine zW.zr ?_|refine zW.zk ?_|refine zW.ze ?_|refine zW.zq ?_|(apply callW.mk_pu; (first | exact (fun _ => hN _))) | (apply callW.za; (first | exact (hN _))) | ((first|apply zg0|apply zg1|apply zg2|apply zg3|apply zg4|apply zg5|apply zg6|apply zg7)<;>intro ht));all_goals try simp (disch:=first|omega|(simp only [lens,z7,z6,List.length_reverse,zg,zo];first|done|omega)) only [go_sem,reduceEqDiff,Nat.reduceBEq,reduceAdd,reduceMul,reduceSub,reduceLeDiff,reduceToNat,reducePow]))
  exact DownV.same hw (z11 _ rfl)
set_option maxHeartbeats 4000000 in
theorem zow (Y : Store) (s : List UInt8) (hs : s.length < 1000000000) : ACallsTo TC 143 [.str s] Y (.str (z3v s)) Y := by
  refine ACallsTo.of_body qpok (by simp) fun hw _ => ?_
  have hN := fun Y => zos Y s.length (by omega)
  have h1 := zc0 s.length
  unfold z3v
  generalize numS s.length = N at *
  repeat' (first|refine zW.zs ?_|refine zW.zb ?_|refine zW.zc ?_|refine zW.zt rfl ?_|refine zW.zf rfl ?_|(refine zW.zd rfl (fun ht => ?_) (fun ht => ?_)<;>try (exfalso;omega))|((first|refine zW.zr ?_|refine zW.zk ?_|refine zW.ze ?_|refine zW.zq ?_|(apply callW.mk_pu; (first | exact (fun _ => hN _))) | (apply callW.za; (first | exact (hN _))) | ((first|apply zg0|apply zg1|apply zg2|apply zg3|apply zg4|apply zg5|apply zg6|apply zg7)<;>intro ht));all_goals try simp (disch:=first|omega|(simp only [lens,z7,z6,List.length_reverse,zg,zo];first|done|omega)) only [go_sem,reduceEqDiff,Nat.reduceBEq,reduceAdd,reduceMul,reduceSub,reduceLeDiff,reduceToNat,reducePow]))
  exact DownV.same hw (z11 _ rfl)
set_option maxHeartbeats 4000000 in
theorem zq9 (Y : Store) (s : List UInt8) (n : Nat) (hs : s.length < 1000000000) (hn : n < 18446744073709551616) : ACallsTo TC 144 [.str s, .int .u64 n] Y (stV (z3u s n)) Y := by
  refine ACallsTo.of_body qvok (by simp) fun hw _ => ?_
  by_cases h : n <= s.length
  · unfold z3u
    rw [if_pos h]
    unfold stV
    repeat' (first|refine zW.zs ?_|refine zW.zb ?_|refine zW.zc ?_|refine zW.zt rfl ?_|refine zW.zf rfl ?_|(refine zW.zd rfl (fun ht => ?_) (fun ht => ?_)<;>try (exfalso;omega))|((first|refine zW.zr ?_|refine zW.zk ?_|refine zW.ze ?_|refine zW.zq ?_|((first|apply zg0|apply zg1|apply zg2|apply zg3|apply zg4|apply zg5|apply zg6|apply zg7)<;>intro ht));all_goals try simp (disch:=first|omega|(simp only [lens,z7,z6,List.length_reverse,zg,zo];first|done|omega)) only [go_sem,reduceEqDiff,Nat.reduceBEq,reduceAdd,reduceMul,reduceSub,reduceLeDiff,reduceToNat,reducePow]))
    exact DownV.same hw (z11 _ rfl)
  · unfold z3u
    rw [if_neg h]
    unfold stV
    repeat' (first|refine zW.zs ?_|refine zW.zb ?_|refine zW.zc ?_|refine zW.zt rfl ?_|refine zW.zf rfl ?_|(refine zW.zd rfl (fun ht => ?_) (fun ht => ?_)<;>try (exfalso;omega))|((first|refine zW.zr ?_|refine zW.zk ?_|refine zW.ze ?_|refine zW.zq ?_|((first|apply zg0|apply zg1|apply zg2|apply zg3|apply zg4|apply zg5|apply zg6|apply zg7)<;>intro ht));all_goals try simp (disch:=first|omega|(simp only [lens,z7,z6,List.length_reverse,zg,zo];first|done|omega)) only [go_sem,reduceEqDiff,Nat.reduceBEq,reduceAdd,reduceMul,reduceSub,reduceLeDiff,reduceToNat,reducePow]))
    exact DownV.same hw (z11 _ rfl)
end Am
end Go.Proofs.YtncenefkbpelbaaDoor
end
section
/- Codec: contracts: the hash that stands ahead. -/
namespace Go.Proofs.YtncenefkbpelbaaDoor
namespace Am
attribute [local irreducible] ACallsTo ACallsP
def toH (l : List UInt8) : Hash := if h : l.length = 32 then ⟨l, h⟩ else zeroH
theorem zf8 {l : List UInt8} (h : l.length = 32) : hc (toH l) = zm l := by simp [toH, h, hc]
theorem zqd (h : Hash) : toH h.1 = h := by simp [toH, h.2]
def unS (s : List UInt8) : Option (Hash × List UInt8) := (z3u s 32).map fun x => (toH x.1, x.2)
def unV : Option (Hash × List UInt8) -> AV
  | none => .tup [.agg (hc zeroH), .str [], .bool false]
  | some (h, r) => .tup [.agg (hc h), .str r, .bool true]
theorem zhr {s : List UInt8} (h : ¬ 32 <= s.length) : unS s = none := by simp [unS, z3u, h]
theorem zan {s : List UInt8} (h : 32 <= s.length) : unS s = some (toH (s.take 32), s.drop 32) := by simp [unS, z3u, h]
theorem zao (h : Hash) (r : List UInt8) : unV (some (h, r)) = .tup [.agg (hc h), .str r, .bool true] := rfl
theorem zhs : unV none = .tup [.agg z32, .str [], .bool false] := rfl
theorem zab {k : Nat} {cs : List AV} {r : List UInt8} {b : Bool} (h : RLs k cs) : RL k (.tup [.agg cs, .str r, .bool b]) := by
  simp only [RL, RLs]; exact ⟨h, trivial, trivial, trivial⟩
theorem z7l : z32.length = 32 := rfl
set_option maxHeartbeats 4000000 in
theorem zje (Y : Store) (s : List UInt8) (hs : s.length < 1000000000) : ACallsTo TC 132 [.str s] Y (unV (unS s)) Y := by
  refine ACallsTo.of_body qqok (by simp) fun hw _ => ?_
  have hT := fun Y => zq9 Y s 32 hs (by omega)
  by_cases h : 32 <= s.length
  · rw [zan h]
    rw [zao, zf8 (by simp; omega)]
    have ht : z3u s 32 = some (s.take 32, s.drop 32) := by simp [z3u, h]
    rw [ht] at hT
    unfold stV at hT
    have hl : (s.take 32).length = 32 := by simp; omega
    generalize s.take 32 = a at *
    have hf := ze4 a
    have hft : (z8 a).take 32 = z8 a := List.take_of_length_le (by rw [zg]; omega)
    have hfc : (zm a).length = 32 := by rw [zo]; exact hl
    have hfd : (zm a).drop 32 = [] := List.drop_of_length_le (by omega)
    have hfk : (zm a).take 32 = zm a := List.take_of_length_le (by omega)
    repeat' (first|refine zW.zs ?_|refine zW.zb ?_|refine zW.zc ?_|refine zW.zt rfl ?_|refine zW.zf rfl ?_|(refine zW.zd rfl (fun ht => ?_) (fun ht => ?_)<;>try (exfalso;omega))|((first|refine zW.zr ?_|refine zW.zk ?_|refine zW.ze ?_|refine zW.zq ?_|(apply callW.mk_pu; (first | exact (fun _ => hT _))) | (apply callW.za; (first | exact (hT _))) | ((first|apply zg0|apply zg1|apply zg2|apply zg3|apply zg4|apply zg5|apply zg6|apply zg7)<;>intro ht));all_goals try simp (disch:=first|omega|(simp only [lens,z7,z6,List.length_reverse,zg,zo];first|done|omega)) only [go_sem,reduceEqDiff,Nat.reduceBEq,reduceAdd,reduceMul,reduceSub,reduceLeDiff,reduceToNat,reducePow, hf, hft, hl, hfc, hfd, hfk, List.append_nil, z7l]))
    exact DownV.pure hw (zab (z24 _))
  · rw [zhr h, zhs]
    have ht : z3u s 32 = none := by simp [z3u, h]
    rw [ht] at hT
    unfold stV at hT
    have hbe : (z8 []).flatten = ([] : List AV) := rfl
    repeat' (first|refine zW.zs ?_|refine zW.zb ?_|refine zW.zc ?_|refine zW.zt rfl ?_|refine zW.zf rfl ?_|(refine zW.zd rfl (fun ht => ?_) (fun ht => ?_)<;>try (exfalso;omega))|((first|refine zW.zr ?_|refine zW.zk ?_|refine zW.ze ?_|refine zW.zq ?_|(apply callW.mk_pu; (first | exact (fun _ => hT _))) | (apply callW.za; (first | exact (hT _))) | ((first|apply zg0|apply zg1|apply zg2|apply zg3|apply zg4|apply zg5|apply zg6|apply zg7)<;>intro ht));all_goals try simp (disch:=first|omega|(simp only [lens,z7,z6,List.length_reverse,zg,zo];first|done|omega)) only [go_sem,reduceEqDiff,Nat.reduceBEq,reduceAdd,reduceMul,reduceSub,reduceLeDiff,reduceToNat,reducePow, z7l, hbe, List.nil_append, List.drop_zero]))
    exact DownV.pure hw (zab (cs := z32) (z24 (List.replicate 32 0)))
def z3w (s : List UInt8) (i : Nat) : List AV := zm (s.take i) ++ List.replicate (32 - i) (.int .u8 0)
theorem zqn {s : List UInt8} {i : Nat} (h : i <= 32) (hs : 32 <= s.length) : (z3w s i).length = 32 := by simp [z3w, zo]; omega
theorem zqo {s : List UInt8} {i : Nat} (h : i < 32) (hs : 32 <= s.length) :
    (z3w s i).take i ++ AV.int .u8 (s.getD i 0).toNat :: (z3w s i).drop (i + 1) = z3w s (i + 1) := by
  have h1 : (zm (s.take i)).length = i := by rw [zo, List.length_take]; omega
  have hs2 : s.take (i + 1) = s.take i ++ [s.getD i 0] := by
    rw [<- List.take_append_getElem (by omega : i < s.length)]; simp [show i < s.length by omega]
  unfold z3w
  rw [List.take_append_of_le_length (by omega), List.take_of_length_le (by omega), List.drop_append, List.drop_of_length_le (by omega), h1, show i + 1 - i = 1 by omega, List.nil_append, hs2]
  rw [List.drop_replicate, show 32 - i - 1 = 32 - (i + 1) by omega]
  simp [zm]
theorem zqm {s : List UInt8} : z3w s 32 = zm (s.take 32) := by simp [z3w]
set_option maxHeartbeats 4000000 in
theorem zox (Y : Store) (s : List UInt8) (hs : s.length < 1000000000) : ACallsTo TC 133 [.str s] Y (unV (unS s)) Y := by
  refine ACallsTo.of_body qrok (by simp) fun hw _ => ?_
  by_cases h : 32 <= s.length
  · rw [zan h]
    rw [zao, zf8 (by simp; omega)]
    repeat' (first|refine zW.zs ?_|refine zW.zb ?_|refine zW.zc ?_|refine zW.zt rfl ?_|refine zW.zf rfl ?_|(refine zW.zd rfl (fun ht => ?_) (fun ht => ?_)<;>try (exfalso;omega))|((first|refine zW.zr ?_|refine zW.zk ?_|refine zW.ze ?_|refine zW.zq ?_|((first|apply zg0|apply zg1|apply zg2|apply zg3|apply zg4|apply zg5|apply zg6|apply zg7)<;>intro ht));all_goals try simp (disch:=first|omega|(simp only [lens,z7,z6,List.length_reverse,zg,zo];first|done|omega)) only [go_sem,reduceEqDiff,Nat.reduceBEq,reduceAdd,reduceMul,reduceSub,reduceLeDiff,reduceToNat,reducePow, z7l]))
    refine zW.loop (fun m O Y' => ∃ i : Nat, m + i = 32 /\ O 0 = .str s /\ O 2 = .ptr Y.length 0 0 /\ O 5 = .ptr (Y.length + 1) 0 0 /\ O 6 = .int .i64 i /\ Y' = Y ++ [some [z32], some [z3w s i]]) 32 ?_ ?_
    · exact ⟨0, by omega, by simp (disch:=first|omega|(simp only [lens,z7,z6,List.length_reverse,zg,zo];first|done|omega)) only [go_sem,reduceEqDiff,Nat.reduceBEq,reduceAdd,reduceMul,reduceSub,reduceLeDiff,reduceToNat,reducePow], by simp (disch:=first|omega|(simp only [lens,z7,z6,List.length_reverse,zg,zo];first|done|omega)) only [go_sem,reduceEqDiff,Nat.reduceBEq,reduceAdd,reduceMul,reduceSub,reduceLeDiff,reduceToNat,reducePow], by simp (disch:=first|omega|(simp only [lens,z7,z6,List.length_reverse,zg,zo];first|done|omega)) only [go_sem,reduceEqDiff,Nat.reduceBEq,reduceAdd,reduceMul,reduceSub,reduceLeDiff,reduceToNat,reducePow], by simp (disch:=first|omega|(simp only [lens,z7,z6,List.length_reverse,zg,zo];first|done|omega)) only [go_sem,reduceEqDiff,Nat.reduceBEq,reduceAdd,reduceMul,reduceSub,reduceLeDiff,reduceToNat,reducePow]; rfl, rfl⟩
    · rintro m O Y' ⟨i, hm, q0, q2, q5, q6, rfl⟩
      have hlen := zqn (s := s) (i := i) (by omega) h
      by_cases hi : i < 32
      · have hst := zqo hi h
        generalize z3w s i = cc at *
        repeat' (first|refine zW.zs ?_|refine zW.zb ?_|refine zW.zc ?_|refine zW.zt rfl ?_|refine zW.zf rfl ?_|(refine zW.zd rfl (fun ht => ?_) (fun ht => ?_)<;>try (exfalso;omega))|((first|refine zW.zr ?_|refine zW.zk ?_|refine zW.ze ?_|refine zW.zq ?_|((first|apply zg0|apply zg1|apply zg2|apply zg3|apply zg4|apply zg5|apply zg6|apply zg7)<;>intro ht));all_goals try simp (disch:=first|omega|(simp only [lens,z7,z6,List.length_reverse,zg,zo];first|done|omega)) only [go_sem,reduceEqDiff,Nat.reduceBEq,reduceAdd,reduceMul,reduceSub,reduceLeDiff,reduceToNat,reducePow, q0, q2, q5, q6, hlen, hst, z7l]))
        exact ⟨31 - i, by omega, i + 1, by omega, by simp, rfl⟩
      · obtain rfl : i = 32 := by omega
        rw [zqm] at *
        have hd : List.drop 32 z32 = [] := rfl
        repeat' (first|refine zW.zs ?_|refine zW.zb ?_|refine zW.zc ?_|refine zW.zt rfl ?_|refine zW.zf rfl ?_|(refine zW.zd rfl (fun ht => ?_) (fun ht => ?_)<;>try (exfalso;omega))|((first|refine zW.zr ?_|refine zW.zk ?_|refine zW.ze ?_|refine zW.zq ?_|((first|apply zg0|apply zg1|apply zg2|apply zg3|apply zg4|apply zg5|apply zg6|apply zg7)<;>intro ht));all_goals try simp (disch:=first|omega|(simp only [lens,z7,z6,List.length_reverse,zg,zo];first|done|omega)) only [go_sem,reduceEqDiff,Nat.reduceBEq,reduceAdd,reduceMul,reduceSub,reduceLeDiff,reduceToNat,reducePow, q0, q2, q5, q6, hlen, hd, z7l]))
        exact DownV.pure hw (zab (z24 _))
  · rw [zhr h, zhs]
    have hd : List.drop 32 z32 = [] := rfl
    repeat' (first|refine zW.zs ?_|refine zW.zb ?_|refine zW.zc ?_|refine zW.zt rfl ?_|refine zW.zf rfl ?_|(refine zW.zd rfl (fun ht => ?_) (fun ht => ?_)<;>try (exfalso;omega))|((first|refine zW.zr ?_|refine zW.zk ?_|refine zW.ze ?_|refine zW.zq ?_|((first|apply zg0|apply zg1|apply zg2|apply zg3|apply zg4|apply zg5|apply zg6|apply zg7)<;>intro ht));all_goals try simp (disch:=first|omega|(simp only [lens,z7,z6,List.length_reverse,zg,zo];first|done|omega)) only [go_sem,reduceEqDiff,Nat.reduceBEq,reduceAdd,reduceMul,reduceSub,reduceLeDiff,reduceToNat,reducePow, z7l, hd]))
    exact DownV.pure hw (zab (cs := z32) (z24 (List.replicate 32 0)))
end Am
end Go.Proofs.YtncenefkbpelbaaDoor
end
section
/- Codec: contracts: the list that stands ahead. -/
namespace Go.Proofs.YtncenefkbpelbaaDoor
namespace Am
attribute [local irreducible] ACallsTo ACallsP
end Am
end Go.Proofs.YtncenefkbpelbaaDoor
end
section
/- Codec: contracts: the reference's list. -/
namespace Go.Proofs.YtncenefkbpelbaaDoor
namespace Am
attribute [local irreducible] ACallsTo ACallsP
def catS (l : List Hash) : List UInt8 := (l.map (·.1)).flatten
theorem z6n : ∀ (l : List Hash), (catS l).length = 32 * l.length
  | [] => rfl
  | h :: l => by
    have := z6n l
    simp only [catS, List.map_cons, List.flatten_cons, List.length_append, List.length_cons, h.2] at this ⊢
    omega
theorem zei {l : List Hash} {i : Nat} (h : i < l.length) : catS (l.take (i + 1)) = catS (l.take i) ++ (hd l i).1 := by
  rw [z8z h]; simp [catS]
end Am
end Go.Proofs.YtncenefkbpelbaaDoor
end
section
/- Abstract code. (Printed by wip/gen.) -/
set_option maxRecDepth 10000
namespace Go.Proofs.YtncenefkbpelbaaDoor
namespace Am



@[go_sem] def qwr0 : List AIns := [
  ⟨some 4,none,.no,.mv (.v .nilsl)⟩,
  ⟨some 5,none,.no,.mv (.v (.int .i64 0))⟩]
@[go_sem] def qwr1 : List AIns := [
  ⟨some 8,none,.no,.mv (.t 1)⟩,
  ⟨some 9,none,.no,.bin .lss .none (.t 8) (.v (.int .i64 0))⟩,
  ⟨some 10,none,.no,.mv (.t 9)⟩,
  ⟨some 11, some (10, false), .no, .mv (.t 1)⟩,
  ⟨some 12, some (10, false), .no, .mv (.t 0)⟩,
  ⟨some 13, some (10, false), .no, .lenSl (.t 12)⟩,
  ⟨some 14, some (10, false), .no, .bin .geq .none (.t 11) (.t 13)⟩,
  ⟨some 15,none,.no,.pick (.t 10) (.v (.bool true)) (.t 14)⟩]
@[go_sem] def qwr2 : List AIns := [
  ⟨some 4,none,.no,.mv (.v .nilsl)⟩,
  ⟨some 5,none,.no,.mv (.v (.int .i64 2))⟩]
def qwc3 : ACode := .seq (.reg qwr2) .ret
def qwc4 : ACode := .cond (.t 15) qwc3 .skip
def qwc5 : ACode := .seq (.reg qwr1) qwc4
@[go_sem] def qwr6 : List AIns := [
  ⟨some 6,none,.no,.mv (.v .nilsl)⟩]
@[go_sem] def qwr7 : List AIns := [
  ⟨some 16,none,.no,.mv (.t 0)⟩,
  ⟨some 17,none,.no,.lenSl (.t 16)⟩,
  ⟨some 18,none,.no,.bin .gtr .none (.t 17) (.v (.int .i64 1))⟩]
def qwc8 : ACode := .cond (.t 18) .skip (.exit 0)
def qwc9 : ACode := .seq (.reg qwr7) qwc8
@[go_sem] def qwr10 : List AIns := [
  ⟨some 19,none,.no,.mv (.t 0)⟩,
  ⟨some 20,none,.no,.lenSl (.t 19)⟩,
  ⟨some 21,none,.no,.call (.v (.fn 89 [])) [(.t 20)]⟩,
  ⟨some 7,none,.no,.mv (.t 21)⟩]
@[go_sem] def qwr11 : List AIns := [
  ⟨some 22,none,.no,.mv (.t 1)⟩,
  ⟨some 23,none,.no,.mv (.t 7)⟩,
  ⟨some 24,none,.no,.bin .lss .none (.t 22) (.t 23)⟩]
@[go_sem] def qwr12 : List AIns := [
  ⟨some 25,none,.no,.mv (.t 6)⟩,
  ⟨some 26,none,.no,.mv (.t 0)⟩,
  ⟨some 27,none,.no,.mv (.t 7)⟩,
  ⟨some 28,none,.no,.slice (.sl 32) (.t 26) (some (.t 27)) none none⟩,
  ⟨some 29,none,.no,.call (.v (.fn 45 [])) [(.t 28)]⟩,
  ⟨some 30,none,.no,.lit 32 [(.t 29)]⟩,
  ⟨some 31,none,.no,.app 32 (.t 25) (.t 30)⟩,
  ⟨some 6,none,.no,.mv (.t 31)⟩]
@[go_sem] def qwr13 : List AIns := [
  ⟨some 32,none,.no,.mv (.t 0)⟩,
  ⟨some 33,none,.no,.mv (.t 7)⟩,
  ⟨some 34,none,.no,.slice (.sl 32) (.t 32) none (some (.t 33)) none⟩,
  ⟨some 0,none,.no,.mv (.t 34)⟩]
def qwc14 : ACode := .seq (.reg qwr12) (.reg qwr13)
@[go_sem] def qwr15 : List AIns := [
  ⟨some 35,none,.no,.mv (.t 6)⟩,
  ⟨some 36,none,.no,.mv (.t 0)⟩,
  ⟨some 37,none,.no,.mv (.t 7)⟩,
  ⟨some 38,none,.no,.slice (.sl 32) (.t 36) none (some (.t 37)) none⟩,
  ⟨some 39,none,.no,.call (.v (.fn 45 [])) [(.t 38)]⟩,
  ⟨some 40,none,.no,.lit 32 [(.t 39)]⟩,
  ⟨some 41,none,.no,.app 32 (.t 35) (.t 40)⟩,
  ⟨some 6,none,.no,.mv (.t 41)⟩]
@[go_sem] def qwr16 : List AIns := [
  ⟨some 42,none,.no,.mv (.t 0)⟩,
  ⟨some 43,none,.no,.mv (.t 7)⟩,
  ⟨some 44,none,.no,.slice (.sl 32) (.t 42) (some (.t 43)) none none⟩,
  ⟨some 45,none,.no,.mv (.t 1)⟩,
  ⟨some 46,none,.no,.mv (.t 7)⟩,
  ⟨some 47,none,.no,.bin .sub .none (.t 45) (.t 46)⟩,
  ⟨some 0,none,.no,.mv (.t 44)⟩,
  ⟨some 1,none,.no,.mv (.t 47)⟩]
def qwc17 : ACode := .seq (.reg qwr15) (.reg qwr16)
def qwc18 : ACode := .cond (.t 24) qwc14 qwc17
def qwc19 : ACode := .seq (.reg qwr11) qwc18
def qwc20 : ACode := .seq (.reg qwr10) qwc19
def qwc21 : ACode := .block 1 qwc20
def qwc22 : ACode := .seq qwc9 qwc21
def qwc23 : ACode := .loop qwc22
@[go_sem] def qwr24 : List AIns := [
  ⟨some 48,none,.no,.mv (.t 6)⟩,
  ⟨some 49,none,.no,.call (.v (.fn 119 [])) [(.t 48)]⟩]
@[go_sem] def qwr25 : List AIns := [
  ⟨some 50,none,.no,.mv (.t 6)⟩,
  ⟨some 4,none,.no,.mv (.t 50)⟩,
  ⟨some 5,none,.no,.mv (.v (.int .i64 0))⟩]
def qwc26 : ACode := .seq (.reg qwr25) .ret
def qwc27 : ACode := .seq (.reg qwr24) qwc26
def qwc28 : ACode := .seq (.block 0 qwc23) qwc27
def qwc29 : ACode := .seq (.reg qwr6) qwc28
def qwc30 : ACode := .seq qwc5 qwc29
def qwc31 : ACode := .seq (.reg qwr0) qwc30
theorem qwok : cFn TC 76 = some (51, [.t 4, .t 5], qwc31) := by kernel_rfl

@[go_sem] def qxr0 : List AIns := [
  ⟨some 4,none,.no,.mv (.v .nilsl)⟩,
  ⟨some 5,none,.no,.mv (.v (.int .i64 0))⟩]
@[go_sem] def qxr1 : List AIns := [
  ⟨some 11,none,.no,.mv (.t 1)⟩,
  ⟨some 12,none,.no,.bin .lss .none (.t 11) (.v (.int .i64 0))⟩,
  ⟨some 13,none,.no,.mv (.t 12)⟩,
  ⟨some 14, some (13, false), .no, .mv (.t 1)⟩,
  ⟨some 15, some (13, false), .no, .mv (.t 0)⟩,
  ⟨some 16, some (13, false), .no, .lenSl (.t 15)⟩,
  ⟨some 17, some (13, false), .no, .bin .geq .none (.t 14) (.t 16)⟩,
  ⟨some 18,none,.no,.pick (.t 13) (.v (.bool true)) (.t 17)⟩]
@[go_sem] def qxr2 : List AIns := [
  ⟨some 4,none,.no,.mv (.v .nilsl)⟩,
  ⟨some 5,none,.no,.mv (.v (.int .i64 2))⟩]
def qxc3 : ACode := .seq (.reg qxr2) .ret
def qxc4 : ACode := .cond (.t 18) qxc3 .skip
def qxc5 : ACode := .seq (.reg qxr1) qxc4
@[go_sem] def qxr6 : List AIns := [
  ⟨some 19,none,.no,.mv (.t 0)⟩,
  ⟨some 20,none,.no,.lenSl (.t 19)⟩,
  ⟨some 21,none,.no,.bin .eql .none (.t 20) (.v (.int .i64 1))⟩]
@[go_sem] def qxr7 : List AIns := [
  ⟨some 4,none,.no,.mv (.v .nilsl)⟩,
  ⟨some 5,none,.no,.mv (.v (.int .i64 0))⟩]
def qxc8 : ACode := .seq (.reg qxr7) .ret
def qxc9 : ACode := .cond (.t 21) qxc8 .skip
def qxc10 : ACode := .seq (.reg qxr6) qxc9
@[go_sem] def qxr11 : List AIns := [
  ⟨some 22,none,.no,.mv (.t 0)⟩,
  ⟨some 23,none,.no,.lenSl (.t 22)⟩,
  ⟨some 24,none,.no,.call (.v (.fn 71 [])) [(.t 23)]⟩,
  ⟨some 6,none,.no,.mv (.t 24)⟩]
@[go_sem] def qxr12 : List AIns := [
  ⟨some 25,none,.no,.mv (.t 1)⟩,
  ⟨some 26,none,.no,.mv (.t 6)⟩,
  ⟨some 27,none,.no,.bin .lss .none (.t 25) (.t 26)⟩]
@[go_sem] def qxr13 : List AIns := [
  ⟨some 29,none,.no,.mv (.t 0)⟩,
  ⟨some 30,none,.no,.mv (.t 6)⟩,
  ⟨some 31,none,.no,.slice (.sl 32) (.t 29) none (some (.t 30)) none⟩,
  ⟨some 32,none,.no,.mv (.t 1)⟩,
  ⟨some 33,none,.no,.call (.v (.fn 96 [])) [(.t 31), (.t 32)]⟩,
  ⟨some 28,none,.no,.mv (.t 33)⟩,
  ⟨some 34,none,.no,.ext 0 (.t 28)⟩,
  ⟨some 35,none,.no,.ext 1 (.t 28)⟩,
  ⟨some 7,none,.no,.mv (.t 34)⟩,
  ⟨some 8,none,.no,.mv (.t 35)⟩]
@[go_sem] def qxr14 : List AIns := [
  ⟨some 36,none,.no,.mv (.t 7)⟩,
  ⟨some 37,none,.no,.mv (.t 0)⟩,
  ⟨some 38,none,.no,.mv (.t 6)⟩,
  ⟨some 39,none,.no,.slice (.sl 32) (.t 37) (some (.t 38)) none none⟩,
  ⟨some 40,none,.no,.call (.v (.fn 25 [])) [(.t 39)]⟩,
  ⟨some 41,none,.no,.lit 32 [(.t 40)]⟩,
  ⟨some 42,none,.no,.app 32 (.t 36) (.t 41)⟩,
  ⟨some 4,none,.no,.mv (.t 42)⟩,
  ⟨some 5,none,.no,.mv (.v (.int .i64 0))⟩]
def qxc15 : ACode := .seq (.reg qxr14) .ret
def qxc16 : ACode := .seq (.reg qxr13) qxc15
def qxc17 : ACode := .cond (.t 27) qxc16 .skip
def qxc18 : ACode := .seq (.reg qxr12) qxc17
@[go_sem] def qxr19 : List AIns := [
  ⟨some 44,none,.no,.mv (.t 0)⟩,
  ⟨some 45,none,.no,.mv (.t 6)⟩,
  ⟨some 46,none,.no,.slice (.sl 32) (.t 44) (some (.t 45)) none none⟩,
  ⟨some 47,none,.no,.mv (.t 1)⟩,
  ⟨some 48,none,.no,.mv (.t 6)⟩,
  ⟨some 49,none,.no,.bin .sub .none (.t 47) (.t 48)⟩,
  ⟨some 50,none,.no,.call (.v (.fn 96 [])) [(.t 46), (.t 49)]⟩,
  ⟨some 43,none,.no,.mv (.t 50)⟩,
  ⟨some 51,none,.no,.ext 0 (.t 43)⟩,
  ⟨some 52,none,.no,.ext 1 (.t 43)⟩,
  ⟨some 9,none,.no,.mv (.t 51)⟩,
  ⟨some 10,none,.no,.mv (.t 52)⟩]
@[go_sem] def qxr20 : List AIns := [
  ⟨some 53,none,.no,.mv (.t 9)⟩,
  ⟨some 54,none,.no,.mv (.t 0)⟩,
  ⟨some 55,none,.no,.mv (.t 6)⟩,
  ⟨some 56,none,.no,.slice (.sl 32) (.t 54) none (some (.t 55)) none⟩,
  ⟨some 57,none,.no,.call (.v (.fn 25 [])) [(.t 56)]⟩,
  ⟨some 58,none,.no,.lit 32 [(.t 57)]⟩,
  ⟨some 59,none,.no,.app 32 (.t 53) (.t 58)⟩,
  ⟨some 4,none,.no,.mv (.t 59)⟩,
  ⟨some 5,none,.no,.mv (.v (.int .i64 0))⟩]
def qxc21 : ACode := .seq (.reg qxr20) .ret
def qxc22 : ACode := .seq (.reg qxr19) qxc21
def qxc23 : ACode := .seq qxc18 qxc22
def qxc24 : ACode := .seq (.reg qxr11) qxc23
def qxc25 : ACode := .seq qxc10 qxc24
def qxc26 : ACode := .seq qxc5 qxc25
def qxc27 : ACode := .seq (.reg qxr0) qxc26
theorem qxok : cFn TC 96 = some (60, [.t 4, .t 5], qxc27) := by kernel_rfl

@[go_sem] def qyr0 : List AIns := [
  ⟨some 5,none,.no,.box (.t 0)⟩,
  ⟨some 9,none,.no,.box (.t 4)⟩,
  ⟨some 10,none,.no,.mv (.v (.int .i64 0))⟩]
@[go_sem] def qyr1 : List AIns := [
  ⟨some 15,none,.no,.mv (.t 2)⟩,
  ⟨some 16,none,.no,.bin .lss .none (.t 15) (.v (.int .i64 1))⟩,
  ⟨some 17,none,.no,.mv (.t 16)⟩,
  ⟨some 18, some (17, false), .no, .mv (.t 2)⟩,
  ⟨some 19, some (17, false), .no, .bin .gtr .none (.t 18) (.v (.int .i64 4096))⟩,
  ⟨some 20,none,.no,.pick (.t 17) (.v (.bool true)) (.t 19)⟩,
  ⟨some 21,none,.no,.mv (.t 20)⟩,
  ⟨some 22, some (21, false), .no, .mv (.t 1)⟩,
  ⟨some 23, some (21, false), .no, .bin .lss .none (.t 22) (.v (.int .i64 0))⟩,
  ⟨some 24,none,.no,.pick (.t 21) (.v (.bool true)) (.t 23)⟩,
  ⟨some 25,none,.no,.mv (.t 24)⟩,
  ⟨some 26, some (25, false), .no, .mv (.t 1)⟩,
  ⟨some 27, some (25, false), .no, .mv (.t 2)⟩,
  ⟨some 28, some (25, false), .no, .bin .geq .none (.t 26) (.t 27)⟩,
  ⟨some 29,none,.no,.pick (.t 25) (.v (.bool true)) (.t 28)⟩]
@[go_sem] def qyr2 : List AIns := [
  ⟨some 10,none,.no,.mv (.v (.int .i64 2))⟩]
def qyc3 : ACode := .seq (.reg qyr2) .ret
def qyc4 : ACode := .cond (.t 29) qyc3 .skip
def qyc5 : ACode := .seq (.reg qyr1) qyc4
@[go_sem] def qyr6 : List AIns := [
  ⟨some 30,none,.no,.mv (.t 2)⟩,
  ⟨some 31,none,.no,.bin .sub .none (.t 30) (.v (.int .i64 1))⟩,
  ⟨some 11,none,.no,.mv (.t 31)⟩]
@[go_sem] def qyr7 : List AIns := [
  ⟨some 12,none,.no,.mv (.v (.int .i64 0))⟩]
@[go_sem] def qyr8 : List AIns := [
  ⟨some 32,none,.no,.mv (.t 3)⟩,
  ⟨some 33,none,.no,.lenSl (.t 32)⟩,
  ⟨some 34,none,.no,.mv (.v (.int .i64 0))⟩]
@[go_sem] def qyr9 : List AIns := [
  ⟨some 35,none,.no,.bin .lss .none (.t 34) (.t 33)⟩]
@[go_sem] def qyr10 : List AIns := [
  ⟨some 36,none,.no,.iaSl 32 (.t 32) (.t 34)⟩,
  ⟨some 37,none,.no,.load true 32 (.t 36)⟩,
  ⟨some 14,none,.no,.alloc zZ0⟩,
  ⟨none,none,.no,.store 32 (.t 14) (.t 37)⟩]
@[go_sem] def qyr11 : List AIns := [
  ⟨some 38,none,.no,.mv (.t 11)⟩,
  ⟨some 39,none,.no,.bin .eql .none (.t 38) (.v (.int .i64 0))⟩]
def qyc12 : ACode := .cond (.t 39) (.exit 0) .skip
def qyc13 : ACode := .seq (.reg qyr11) qyc12
@[go_sem] def qyr14 : List AIns := [
  ⟨some 40,none,.no,.mv (.t 1)⟩,
  ⟨some 41,none,.no,.bin .rem .none (.t 40) (.v (.int .i64 2))⟩,
  ⟨some 42,none,.no,.bin .eql .none (.t 41) (.v (.int .i64 1))⟩,
  ⟨some 43,none,.no,.mv (.t 42)⟩,
  ⟨some 44, some (43, false), .no, .mv (.t 1)⟩,
  ⟨some 45, some (43, false), .no, .mv (.t 11)⟩,
  ⟨some 46, some (43, false), .no, .bin .eql .none (.t 44) (.t 45)⟩,
  ⟨some 47,none,.no,.pick (.t 43) (.v (.bool true)) (.t 46)⟩]
@[go_sem] def qyr15 : List AIns := [
  ⟨some 48,none,.no,.load true 32 (.t 14)⟩,
  ⟨some 49,none,.no,.load true 32 (.t 5)⟩,
  ⟨some 50,none,.no,.call (.v (.fn 90 [])) [(.t 48), (.t 49)]⟩,
  ⟨none,none,.no,.store 32 (.t 5) (.t 50)⟩]
@[go_sem] def qyr16 : List AIns := [
  ⟨some 51,none,.no,.mv (.t 1)⟩,
  ⟨some 52,none,.no,.bin .rem .none (.t 51) (.v (.int .i64 2))⟩,
  ⟨some 53,none,.no,.bin .eql .none (.t 52) (.v (.int .i64 0))⟩,
  ⟨some 54,none,.no,.mv (.t 53)⟩,
  ⟨some 55, some (54, true), .no, .mv (.t 1)⟩,
  ⟨some 56, some (54, true), .no, .bin .gtr .none (.t 55) (.v (.int .i64 0))⟩,
  ⟨some 57,none,.no,.pick (.t 54) (.t 56) (.v (.bool false))⟩]
def qyc17 : ACode := .cond (.t 57) .skip (.exit 2)
def qyc18 : ACode := .seq (.reg qyr16) qyc17
@[go_sem] def qyr19 : List AIns := [
  ⟨some 58,none,.no,.mv (.t 1)⟩,
  ⟨some 59,none,.no,.bin .quo .none (.t 58) (.v (.int .i64 2))⟩,
  ⟨some 60,none,.no,.mv (.t 11)⟩,
  ⟨some 61,none,.no,.bin .quo .none (.t 60) (.v (.int .i64 2))⟩,
  ⟨some 1,none,.no,.mv (.t 59)⟩,
  ⟨some 11,none,.no,.mv (.t 61)⟩]
def qyc20 : ACode := .block 3 (.reg qyr19)
def qyc21 : ACode := .seq qyc18 qyc20
def qyc22 : ACode := .loop qyc21
def qyc23 : ACode := .block 2 qyc22
def qyc24 : ACode := .seq (.reg qyr15) qyc23
@[go_sem] def qyr25 : List AIns := [
  ⟨some 62,none,.no,.load true 32 (.t 5)⟩,
  ⟨some 63,none,.no,.load true 32 (.t 14)⟩,
  ⟨some 64,none,.no,.call (.v (.fn 90 [])) [(.t 62), (.t 63)]⟩,
  ⟨none,none,.no,.store 32 (.t 5) (.t 64)⟩]
def qyc26 : ACode := .cond (.t 47) qyc24 (.reg qyr25)
def qyc27 : ACode := .seq (.reg qyr14) qyc26
@[go_sem] def qyr28 : List AIns := [
  ⟨some 65,none,.no,.mv (.t 1)⟩,
  ⟨some 66,none,.no,.bin .quo .none (.t 65) (.v (.int .i64 2))⟩,
  ⟨some 67,none,.no,.mv (.t 11)⟩,
  ⟨some 68,none,.no,.bin .quo .none (.t 67) (.v (.int .i64 2))⟩,
  ⟨some 1,none,.no,.mv (.t 66)⟩,
  ⟨some 11,none,.no,.mv (.t 68)⟩]
@[go_sem] def qyr29 : List AIns := [
  ⟨some 69,none,.no,.mv (.t 12)⟩,
  ⟨some 70,none,.no,.bin .add .none (.t 69) (.v (.int .i64 1))⟩,
  ⟨some 12,none,.no,.mv (.t 70)⟩]
def qyc30 : ACode := .seq (.reg qyr28) (.reg qyr29)
def qyc31 : ACode := .seq qyc27 qyc30
def qyc32 : ACode := .seq qyc13 qyc31
def qyc33 : ACode := .seq (.reg qyr10) qyc32
@[go_sem] def qyr34 : List AIns := [
  ⟨some 71,none,.no,.bin .add .none (.t 34) (.v (.int .i64 1))⟩,
  ⟨some 34,none,.no,.mv (.t 71)⟩]
def qyc35 : ACode := .seq (.block 1 qyc33) (.reg qyr34)
def qyc36 : ACode := .seq (.cond (.t 35) .skip (.exit 0)) qyc35
def qyc37 : ACode := .seq (.reg qyr9) qyc36
def qyc38 : ACode := .loop qyc37
def qyc39 : ACode := .block 0 qyc38
def qyc40 : ACode := .seq (.reg qyr8) qyc39
@[go_sem] def qyr41 : List AIns := [
  ⟨some 72,none,.no,.mv (.t 11)⟩,
  ⟨some 73,none,.no,.bin .neq .none (.t 72) (.v (.int .i64 0))⟩,
  ⟨some 74,none,.no,.mv (.t 73)⟩,
  ⟨some 75, some (74, false), .no, .mv (.t 12)⟩,
  ⟨some 76, some (74, false), .no, .mv (.t 3)⟩,
  ⟨some 77, some (74, false), .no, .lenSl (.t 76)⟩,
  ⟨some 78, some (74, false), .no, .bin .neq .none (.t 75) (.t 77)⟩,
  ⟨some 79,none,.no,.pick (.t 74) (.v (.bool true)) (.t 78)⟩,
  ⟨some 80,none,.no,.mv (.t 79)⟩,
  ⟨some 81, some (80, false), .no, .load true 32 (.t 5)⟩,
  ⟨some 82, some (80, false), .no, .load true 32 (.t 9)⟩,
  ⟨some 83, some (80, false), .no, .bin .neq (.agg (List.replicate 32 (.i .u8) ++ [])) (.t 81) (.t 82)⟩,
  ⟨some 84,none,.no,.pick (.t 80) (.v (.bool true)) (.t 83)⟩]
@[go_sem] def qyr42 : List AIns := [
  ⟨some 10,none,.no,.mv (.v (.int .i64 80))⟩]
def qyc43 : ACode := .seq (.reg qyr42) .ret
def qyc44 : ACode := .cond (.t 84) qyc43 .skip
def qyc45 : ACode := .seq (.reg qyr41) qyc44
@[go_sem] def qyr46 : List AIns := [
  ⟨some 10,none,.no,.mv (.v (.int .i64 0))⟩]
def qyc47 : ACode := .seq (.reg qyr46) .ret
def qyc48 : ACode := .seq qyc45 qyc47
def qyc49 : ACode := .seq qyc40 qyc48
def qyc50 : ACode := .seq .skip qyc49
def qyc51 : ACode := .seq (.reg qyr7) qyc50
def qyc52 : ACode := .seq (.reg qyr6) qyc51
def qyc53 : ACode := .seq qyc5 qyc52
def qyc54 : ACode := .scope qyc53
def qyc55 : ACode := .seq (.reg qyr0) qyc54
theorem qyok : cFn TC 81 = some (85, [.t 10], qyc55) := by kernel_rfl

@[go_sem] def qzr0 : List AIns := [
  ⟨some 5,none,.no,.box (.t 0)⟩,
  ⟨some 9,none,.no,.box (.t 4)⟩,
  ⟨some 10,none,.no,.mv (.v (.int .i64 0))⟩]
@[go_sem] def qzr1 : List AIns := [
  ⟨some 13,none,.no,.mv (.t 2)⟩,
  ⟨some 14,none,.no,.bin .lss .none (.t 13) (.v (.int .i64 1))⟩,
  ⟨some 15,none,.no,.mv (.t 14)⟩,
  ⟨some 16, some (15, false), .no, .mv (.t 2)⟩,
  ⟨some 17, some (15, false), .no, .bin .gtr .none (.t 16) (.v (.int .i64 4096))⟩,
  ⟨some 18,none,.no,.pick (.t 15) (.v (.bool true)) (.t 17)⟩,
  ⟨some 19,none,.no,.mv (.t 18)⟩,
  ⟨some 20, some (19, false), .no, .mv (.t 1)⟩,
  ⟨some 21, some (19, false), .no, .bin .lss .none (.t 20) (.v (.int .i64 0))⟩,
  ⟨some 22,none,.no,.pick (.t 19) (.v (.bool true)) (.t 21)⟩,
  ⟨some 23,none,.no,.mv (.t 22)⟩,
  ⟨some 24, some (23, false), .no, .mv (.t 1)⟩,
  ⟨some 25, some (23, false), .no, .mv (.t 2)⟩,
  ⟨some 26, some (23, false), .no, .bin .geq .none (.t 24) (.t 25)⟩,
  ⟨some 27,none,.no,.pick (.t 23) (.v (.bool true)) (.t 26)⟩]
@[go_sem] def qzr2 : List AIns := [
  ⟨some 10,none,.no,.mv (.v (.int .i64 2))⟩]
def qzc3 : ACode := .seq (.reg qzr2) .ret
def qzc4 : ACode := .cond (.t 27) qzc3 .skip
def qzc5 : ACode := .seq (.reg qzr1) qzc4
@[go_sem] def qzr6 : List AIns := [
  ⟨some 29,none,.no,.load true 32 (.t 5)⟩,
  ⟨some 30,none,.no,.mv (.t 1)⟩,
  ⟨some 31,none,.no,.mv (.t 2)⟩,
  ⟨some 32,none,.no,.mv (.t 3)⟩,
  ⟨some 33,none,.no,.call (.v (.fn 134 [])) [(.t 29), (.t 30), (.t 31), (.t 32)]⟩,
  ⟨some 28,none,.no,.mv (.t 33)⟩,
  ⟨some 34,none,.no,.ext 0 (.t 28)⟩,
  ⟨some 35,none,.no,.ext 1 (.t 28)⟩,
  ⟨some 11,none,.no,.alloc zZ0⟩,
  ⟨none,none,.no,.store 32 (.t 11) (.t 34)⟩,
  ⟨some 12,none,.no,.mv (.t 35)⟩]
@[go_sem] def qzr7 : List AIns := [
  ⟨some 36,none,.no,.mv (.t 12)⟩,
  ⟨some 37,none,.no,.un .not (.t 36)⟩,
  ⟨some 38,none,.no,.mv (.t 37)⟩,
  ⟨some 39, some (38, false), .no, .load true 32 (.t 11)⟩,
  ⟨some 40, some (38, false), .no, .load true 32 (.t 9)⟩,
  ⟨some 41, some (38, false), .no, .bin .neq (.agg (List.replicate 32 (.i .u8) ++ [])) (.t 39) (.t 40)⟩,
  ⟨some 42,none,.no,.pick (.t 38) (.v (.bool true)) (.t 41)⟩]
@[go_sem] def qzr8 : List AIns := [
  ⟨some 10,none,.no,.mv (.v (.int .i64 80))⟩]
def qzc9 : ACode := .seq (.reg qzr8) .ret
def qzc10 : ACode := .cond (.t 42) qzc9 .skip
def qzc11 : ACode := .seq (.reg qzr7) qzc10
@[go_sem] def qzr12 : List AIns := [
  ⟨some 10,none,.no,.mv (.v (.int .i64 0))⟩]
def qzc13 : ACode := .seq (.reg qzr12) .ret
def qzc14 : ACode := .seq qzc11 qzc13
def qzc15 : ACode := .seq (.reg qzr6) qzc14
def qzc16 : ACode := .seq qzc5 qzc15
def qzc17 : ACode := .seq (.reg qzr0) qzc16
theorem qzok : cFn TC 101 = some (43, [.t 10], qzc17) := by kernel_rfl

@[go_sem] def q10r0 : List AIns := [
  ⟨some 4,none,.no,.mv (.t 0)⟩,
  ⟨some 5,none,.no,.lenSl (.t 4)⟩,
  ⟨some 6,none,.no,.bin .sub .none (.t 5) (.v (.int .i64 1))⟩,
  ⟨some 2,none,.no,.mv (.v (.int .i64 0))⟩,
  ⟨some 3,none,.no,.mv (.t 6)⟩]
@[go_sem] def q10r1 : List AIns := [
  ⟨some 7,none,.no,.mv (.t 2)⟩,
  ⟨some 8,none,.no,.mv (.t 3)⟩,
  ⟨some 9,none,.no,.bin .lss .none (.t 7) (.t 8)⟩]
def q10c2 : ACode := .cond (.t 9) .skip (.exit 0)
def q10c3 : ACode := .seq (.reg q10r1) q10c2
@[go_sem] def q10r4 : List AIns := [
  ⟨some 14,none,.no,.mv (.t 0)⟩,
  ⟨some 15,none,.no,.mv (.t 2)⟩,
  ⟨some 16,none,.no,.mv (.t 0)⟩,
  ⟨some 17,none,.no,.mv (.t 3)⟩,
  ⟨some 18,none,.no,.mv (.t 0)⟩,
  ⟨some 19,none,.no,.mv (.t 3)⟩,
  ⟨some 20,none,.no,.iaSl 32 (.t 18) (.t 19)⟩,
  ⟨some 21, none, .rd, .load true 32 (.t 20)⟩,
  ⟨some 22,none,.no,.mv (.t 0)⟩,
  ⟨some 23,none,.no,.mv (.t 2)⟩,
  ⟨some 24,none,.no,.iaSl 32 (.t 22) (.t 23)⟩,
  ⟨some 25, none, .rd, .load true 32 (.t 24)⟩,
  ⟨some 26,none,.no,.iaSl 32 (.t 14) (.t 15)⟩,
  ⟨none,none,.no,.store 32 (.t 26) (.t 21)⟩,
  ⟨some 27,none,.no,.iaSl 32 (.t 16) (.t 17)⟩,
  ⟨none,none,.no,.store 32 (.t 27) (.t 25)⟩]
@[go_sem] def q10r5 : List AIns := [
  ⟨some 10,none,.no,.mv (.t 2)⟩,
  ⟨some 11,none,.no,.bin .add .none (.t 10) (.v (.int .i64 1))⟩,
  ⟨some 12,none,.no,.mv (.t 3)⟩,
  ⟨some 13,none,.no,.bin .sub .none (.t 12) (.v (.int .i64 1))⟩,
  ⟨some 2,none,.no,.mv (.t 11)⟩,
  ⟨some 3,none,.no,.mv (.t 13)⟩]
def q10c6 : ACode := .seq (.block 1 (.reg q10r4)) (.reg q10r5)
def q10c7 : ACode := .seq q10c3 q10c6
def q10c8 : ACode := .loop q10c7
def q10c9 : ACode := .block 0 q10c8
def q10c10 : ACode := .seq (.reg q10r0) q10c9
theorem q10ok : cFn TC 119 = some (28, [], q10c10) := by kernel_rfl

@[go_sem] def q11r0 : List AIns := [
  ⟨some 4,none,.no,.box (.t 0)⟩,
  ⟨some 8,none,.no,.alloc zZ0⟩,
  ⟨some 9,none,.no,.mv (.v (.bool false))⟩]
@[go_sem] def q11r1 : List AIns := [
  ⟨some 17,none,.no,.mv (.t 2)⟩,
  ⟨some 18,none,.no,.bin .eql .none (.t 17) (.v (.int .i64 1))⟩]
@[go_sem] def q11r2 : List AIns := [
  ⟨some 19,none,.no,.load true 32 (.t 4)⟩,
  ⟨some 20,none,.no,.mv (.t 3)⟩,
  ⟨some 21,none,.no,.lenSl (.t 20)⟩,
  ⟨some 22,none,.no,.bin .eql .none (.t 21) (.v (.int .i64 0))⟩,
  ⟨none,none,.no,.store 32 (.t 8) (.t 19)⟩,
  ⟨some 9,none,.no,.mv (.t 22)⟩]
def q11c3 : ACode := .seq (.reg q11r2) .ret
def q11c4 : ACode := .cond (.t 18) q11c3 .skip
def q11c5 : ACode := .seq (.reg q11r1) q11c4
@[go_sem] def q11r6 : List AIns := [
  ⟨some 23,none,.no,.mv (.t 3)⟩,
  ⟨some 24,none,.no,.lenSl (.t 23)⟩,
  ⟨some 25,none,.no,.bin .eql .none (.t 24) (.v (.int .i64 0))⟩]
@[go_sem] def q11r7 : List AIns := [
  ⟨some 26,none,.no,.load true 32 (.t 4)⟩,
  ⟨none,none,.no,.store 32 (.t 8) (.t 26)⟩,
  ⟨some 9,none,.no,.mv (.v (.bool false))⟩]
def q11c8 : ACode := .seq (.reg q11r7) .ret
def q11c9 : ACode := .cond (.t 25) q11c8 .skip
def q11c10 : ACode := .seq (.reg q11r6) q11c9
@[go_sem] def q11r11 : List AIns := [
  ⟨some 27,none,.no,.mv (.t 2)⟩,
  ⟨some 28, none, .ef, .call (.v (.fn 71 [])) [(.t 27)]⟩,
  ⟨some 29,none,.no,.mv (.t 3)⟩,
  ⟨some 30,none,.no,.mv (.t 3)⟩,
  ⟨some 31,none,.no,.lenSl (.t 30)⟩,
  ⟨some 32,none,.no,.bin .sub .none (.t 31) (.v (.int .i64 1))⟩,
  ⟨some 33,none,.no,.iaSl 32 (.t 29) (.t 32)⟩,
  ⟨some 34, none, .rd, .load true 32 (.t 33)⟩,
  ⟨some 11, none, .ef, .alloc zZ0⟩,
  ⟨some 10,none,.no,.mv (.t 28)⟩,
  ⟨none,none,.no,.store 32 (.t 11) (.t 34)⟩]
@[go_sem] def q11r12 : List AIns := [
  ⟨some 27,none,.no,.mv (.t 2)⟩,
  ⟨some 11, none, .ef, .alloc zZ0⟩,
  ⟨some 28, none, .ef, .call (.v (.fn 71 [])) [(.t 27)]⟩,
  ⟨some 29,none,.no,.mv (.t 3)⟩,
  ⟨some 30,none,.no,.mv (.t 3)⟩,
  ⟨some 31,none,.no,.lenSl (.t 30)⟩,
  ⟨some 32,none,.no,.bin .sub .none (.t 31) (.v (.int .i64 1))⟩,
  ⟨some 33,none,.no,.iaSl 32 (.t 29) (.t 32)⟩,
  ⟨some 34, none, .rd, .load true 32 (.t 33)⟩,
  ⟨some 10,none,.no,.mv (.t 28)⟩,
  ⟨none,none,.no,.store 32 (.t 11) (.t 34)⟩]
@[go_sem] def q11r13 : List AIns := [
  ⟨some 35,none,.no,.mv (.t 3)⟩,
  ⟨some 36,none,.no,.mv (.t 3)⟩,
  ⟨some 37,none,.no,.lenSl (.t 36)⟩,
  ⟨some 38,none,.no,.bin .sub .none (.t 37) (.v (.int .i64 1))⟩,
  ⟨some 39,none,.no,.slice (.sl 32) (.t 35) none (some (.t 38)) none⟩,
  ⟨some 12,none,.no,.mv (.t 39)⟩]
@[go_sem] def q11r14 : List AIns := [
  ⟨some 40,none,.no,.mv (.t 1)⟩,
  ⟨some 41,none,.no,.mv (.t 10)⟩,
  ⟨some 42,none,.no,.bin .lss .none (.t 40) (.t 41)⟩]
@[go_sem] def q11r15 : List AIns := [
  ⟨some 44,none,.no,.load true 32 (.t 4)⟩,
  ⟨some 45,none,.no,.mv (.t 1)⟩,
  ⟨some 46,none,.no,.mv (.t 10)⟩,
  ⟨some 47,none,.no,.mv (.t 12)⟩,
  ⟨some 48,none,.no,.call (.v (.fn 134 [])) [(.t 44), (.t 45), (.t 46), (.t 47)]⟩,
  ⟨some 43,none,.no,.mv (.t 48)⟩,
  ⟨some 49,none,.no,.ext 0 (.t 43)⟩,
  ⟨some 50,none,.no,.ext 1 (.t 43)⟩,
  ⟨some 13,none,.no,.alloc zZ0⟩,
  ⟨none,none,.no,.store 32 (.t 13) (.t 49)⟩,
  ⟨some 14,none,.no,.mv (.t 50)⟩]
@[go_sem] def q11r16 : List AIns := [
  ⟨some 51,none,.no,.load true 32 (.t 13)⟩,
  ⟨some 52,none,.no,.load true 32 (.t 11)⟩,
  ⟨some 53,none,.no,.call (.v (.fn 72 [])) [(.t 51), (.t 52)]⟩,
  ⟨some 54,none,.no,.mv (.t 14)⟩,
  ⟨none,none,.no,.store 32 (.t 8) (.t 53)⟩,
  ⟨some 9,none,.no,.mv (.t 54)⟩]
def q11c17 : ACode := .seq (.reg q11r16) .ret
def q11c18 : ACode := .seq (.reg q11r15) q11c17
def q11c19 : ACode := .cond (.t 42) q11c18 .skip
def q11c20 : ACode := .seq (.reg q11r14) q11c19
@[go_sem] def q11r21 : List AIns := [
  ⟨some 56,none,.no,.load true 32 (.t 4)⟩,
  ⟨some 57,none,.no,.mv (.t 1)⟩,
  ⟨some 58,none,.no,.mv (.t 10)⟩,
  ⟨some 59,none,.no,.bin .sub .none (.t 57) (.t 58)⟩,
  ⟨some 60,none,.no,.mv (.t 2)⟩,
  ⟨some 61,none,.no,.mv (.t 10)⟩,
  ⟨some 62,none,.no,.bin .sub .none (.t 60) (.t 61)⟩,
  ⟨some 63,none,.no,.mv (.t 12)⟩,
  ⟨some 64,none,.no,.call (.v (.fn 134 [])) [(.t 56), (.t 59), (.t 62), (.t 63)]⟩,
  ⟨some 55,none,.no,.mv (.t 64)⟩,
  ⟨some 65,none,.no,.ext 0 (.t 55)⟩,
  ⟨some 66,none,.no,.ext 1 (.t 55)⟩,
  ⟨some 15,none,.no,.alloc zZ0⟩,
  ⟨none,none,.no,.store 32 (.t 15) (.t 65)⟩,
  ⟨some 16,none,.no,.mv (.t 66)⟩]
@[go_sem] def q11r22 : List AIns := [
  ⟨some 67,none,.no,.load true 32 (.t 11)⟩,
  ⟨some 68,none,.no,.load true 32 (.t 15)⟩,
  ⟨some 69,none,.no,.call (.v (.fn 72 [])) [(.t 67), (.t 68)]⟩,
  ⟨some 70,none,.no,.mv (.t 16)⟩,
  ⟨none,none,.no,.store 32 (.t 8) (.t 69)⟩,
  ⟨some 9,none,.no,.mv (.t 70)⟩]
def q11c23 : ACode := .seq (.reg q11r22) .ret
def q11c24 : ACode := .seq (.reg q11r21) q11c23
def q11c25 : ACode := .seq q11c20 q11c24
def q11c26 : ACode := .seq (.reg q11r13) q11c25
def q11c27 : ACode := .seq (.reg2 q11r11 q11r12) q11c26
def q11c28 : ACode := .seq q11c10 q11c27
def q11c29 : ACode := .seq q11c5 q11c28
def q11c30 : ACode := .seq (.reg q11r0) q11c29
theorem q11ok : cFn TC 134 = some (71, [.c 8 true 32, .t 9], q11c30) := by kernel_rfl
end Am
end Go.Proofs.YtncenefkbpelbaaDoor
end
