import Derived.Test.YtncenefkbpelbaaDoorK39c86df3a
set_option linter.unusedSimpArgs false
set_option linter.unusedVariables false
open Nat (reduceEqDiff reduceAdd reduceMul reduceSub reduceLeDiff)
open Int (reduceToNat reducePow)
section
/- SHA-256: contracts: strings.Repeat (off the shelf), filled, Sum. -/
namespace Go.Proofs.YtncenefkbpelbaaDoor
namespace Am
open Go.RowKit
/-- A hash's cells. -/
def zl (l : List UInt8) : List AV := l.map fun b => .int .u8 b.toNat
theorem z2c {k : Nat} : ∀ (l : List UInt8), RLs k (zl l)
  | [] => by simp [zl, RLs]
  | _ :: l => by have := z2c (k := k) l; simp only [zl] at this; simp [zl, RLs, RL, this]
theorem Rel.below {C : Ctx} {J : Places} {Y : Store} {w w' : World} (h : Rel C J Y w) (hb : Below w.heap.size w w') : Step J w J w' /\ Rel C J Y w' := by
  have hs : Step J w J w' := ⟨fun r fl pl h => ⟨fl, h⟩, hb.size, fun b hb' _ => hb.block b hb', fun r pl h => .inl ⟨r, pl, h, rfl⟩, hb.os, hb.tape, hb.output⟩
  refine ⟨hs, h.len, fun r o hr => ?_, h.dead, h.inj, fun g cs hg => (h.gl g cs hg).mono hs⟩
  obtain ⟨pl, h1, h2⟩ := h.alive r o hr
  exact ⟨pl, h1, h2.mono hs (hb.block _ h2.lt)⟩
/-- A contract that lies elsewhere: the call leaves what was there. -/
theorem ACallsTo.of_calls {C : Ctx} {f : FuncId} {args : List AV} {Y : Store} {v : AV} (hc : (cFn C f).isSome = true)
    (h : ∀ (J : Places) (w : World) (cargs : List Value), VRt J w args cargs -> Calls C.P f cargs.toArray w fun e w' => ∃ cv, e = .returned cv /\ VR J w' v cv /\ Below w.heap.size w w') : ACallsTo C f args Y v Y := by
  obtain ⟨e, hc⟩ := Option.isSome_iff_exists.1 hc
  simp only [cFn, Option.bind_eq_some_iff] at hc
  obtain ⟨fn, hf, hc⟩ := hc
  split at hc
  · cases hc
  · rename_i hname
    simp only [Option.bind_eq_some_iff, Option.map_eq_some_iff] at hc
    obtain ⟨c, hb, _⟩ := hc
    intro J w cargs hR ha
    left
    constructor
    · have h1 : fn.name ≠ "runtime.NumGoroutine" := by simpa using hname
      simp [callFunc, hf, h1, hb]
    · refine (h J w cargs ha).mono ?_
      rintro e w' ⟨cv, rfl, hv, hbl⟩
      obtain ⟨s1, s2⟩ := hR.below hbl
      exact ⟨cv, J, rfl, s1, s2, hv⟩
theorem zob (b : UInt8) : ∀ n, Lib.repeatL [b] n = List.replicate n b := by
  intro n
  induction n with
  | zero => simp [Lib.repeatL]
  | succ n ih => simp [Lib.repeatL, List.replicate_succ] at ih ⊢ <;> simp [ih]
theorem zfy (Y : Store) (b : UInt8) (c : Nat) (h : c <= 1000000) : ACallsTo TC 138 [.str [b], .int .i64 c] Y (.str (List.replicate c b)) Y := by
  refine ACallsTo.of_calls (by kernel_rfl) ?_
  intro J w cargs ha
  simp only [VRt, VR] at ha
  obtain ⟨_, _, rfl, rfl, _, _, rfl, rfl, rfl⟩ := ha
  refine (Tryd.strings_Repeat ⟨[b].toArray⟩ c w (by omega) (by simp [ByteArray.size]; omega)).mono ?_
  rintro e w' ⟨rfl, hb⟩
  refine ⟨_, rfl, ?_, hb⟩
  simp only [VR]
  rw [zob]
theorem zjp (Y : Store) (s : List UInt8) (h : s.length < 1000000000000) : ACallsTo TC 122 [.str s] Y (.str (padS s)) Y := by
  refine ACallsTo.of_body qaok (by simp) fun hw _ => ?_
  obtain ⟨z, hz⟩ : ∃ z : Nat, z = (119 - s.length % 64) % 64 := ⟨_, rfl⟩
  have hz64 : z < 64 := by rw [hz]; exact Nat.mod_lt _ (by decide)
  have hz2 : (119 - (s.length : Int) % 64) % 64 = z := by omega
  have hp : putS ((s.length : Int) * 8) 8 = be 8 (s.length * 8) := by
    unfold putS
    rw [if_pos (by omega)]
    rfl
  have hpl : (be 8 (s.length * 8)).length = 8 := z3f _ _
  repeat' (first|refine zW.zs ?_|refine zW.zb ?_|refine zW.zc ?_|refine zW.zt rfl ?_|refine zW.zf rfl ?_|(refine zW.zd rfl (fun ht => ?_) (fun ht => ?_)<;>try (exfalso;omega))|((first|refine zW.zr ?_|refine zW.zk ?_|refine zW.ze ?_|refine zW.zq ?_|(apply callW.mk_pu; (first | exact (fun _ => zfy _ 0 z (by omega)) | exact (fun _ => z6e _ ((s.length : Int) * 8) 8 (by omega) (by omega)))) | (apply callW.za; (first | exact (zfy _ 0 z (by omega)) | exact (z6e _ ((s.length : Int) * 8) 8 (by omega) (by omega)))) | ((first|apply zg0|apply zg1|apply zg2|apply zg3|apply zg4|apply zg5|apply zg6|apply zg7)<;>intro ht));all_goals try simp (disch:=first|omega|(simp only [lens];first|done|omega)) only [go_sem,reduceEqDiff,Nat.reduceBEq,reduceAdd,reduceMul,reduceSub,reduceLeDiff,reduceToNat,reducePow, hz2, hp, hpl, List.length_replicate]))
  have e : s ++ ([128] ++ (List.replicate z 0 ++ be 8 (s.length * 8))) = padS s := by unfold padS; rw [<- hz]; rfl
  rw [show s ++ 128 :: (List.replicate z 0 ++ be 8 (s.length * 8)) = padS s by unfold padS; rw [<- hz]]
  exact DownV.same hw (z12 _ rfl)
theorem zfk (s : List UInt8) : (padS s).length % 64 = 0 /\ (padS s).length < s.length + 80 := by
  unfold padS
  simp only [List.length_append, List.length_cons, List.length_replicate, z3f]
  omega
theorem zjw : zbd = v0.c8 := rfl
theorem put4 (x : W) : putS (x.toNat : Int) 4 = be 4 x.toNat := by
  unfold putS
  rw [if_pos (by omega)]
  rfl
theorem mix_c8 (Y : Store) (v : V8) (s : List UInt8) (h : 64 <= s.length) (hs : s.length < 9223372036854775808) : ACallsTo TC 123 [.agg v.c8, .str s] Y (.agg (mixS v s).c8) Y := mix_to Y v s h hs
theorem zjt {l : List W} {j : Nat} (h : j < l.length) : (l.flatMap fun x => be 4 x.toNat).take (4 * j) ++ be 4 (l[j]).toNat = (l.flatMap fun x => be 4 x.toNat).take (4 * (j + 1)) := by
  induction l generalizing j with
  | nil => simp at h
  | cons x l ih =>
    have hb : (be 4 x.toNat).length = 4 := z3f _ _
    rw [List.flatMap_cons]
    cases j with
    | zero =>
      simp only [Nat.mul_zero, List.take_zero, List.nil_append, List.getElem_cons_zero, Nat.zero_add, Nat.mul_one]
      rw [List.take_append_of_le_length (by omega), List.take_of_length_le (by omega)]
    | succ j =>
      simp only [List.length_cons] at h
      have e1 : (be 4 x.toNat).take (4 * (j + 1)) = be 4 x.toNat := List.take_of_length_le (by omega)
      have e2 : (be 4 x.toNat).take (4 * (j + 1 + 1)) = be 4 x.toNat := List.take_of_length_le (by omega)
      rw [List.getElem_cons_succ, List.take_append, List.take_append, e1, e2, hb, List.append_assoc, show 4 * (j + 1) - 4 = 4 * j by omega, show 4 * (j + 1 + 1) - 4 = 4 * (j + 1) by omega, ih (by omega)]
theorem z45 (v : V8) : (outV v).length = 32 := by
  simp [outV, V8.l, z3f]
def z3j (v : V8) (j : Nat) : List AV := zl ((outV v).take (4 * j)) ++ List.replicate (32 - 4 * j) (.int .u8 0)
theorem zo (l : List UInt8) : (zl l).length = l.length := by simp [zl]
theorem zk8 (v : V8) {j : Nat} (h : j <= 8) : (z3j v j).length = 32 := by
  simp [z3j, zo, z45]; omega
theorem zdo (l : List UInt8) : (z8 l).flatten = zl l := by
  induction l with
  | nil => rfl
  | cons b l ih => simp [z8, zl, B8] at ih ⊢; exact ih
theorem zk9 (v : V8) {j : Nat} (h : j < 8) : z11 (z3j v j) (4 * j) (zl (be 4 (wat v.l j).toNat)) = z3j v (j + 1) := by
  have hl : v.l.length = 8 := rfl
  have e := zjt (l := v.l) (j := j) (by omega)
  have hw : wat v.l j = v.l[j]'(by omega) := by simp [wat, List.getD_eq_getElem?_getD, List.getElem?_eq_getElem (show j < v.l.length by omega)]
  have h1 : (zl ((outV v).take (4 * j))).length = 4 * j := by rw [zo, List.length_take, z45]; omega
  have h2 : (zl (be 4 (wat v.l j).toNat)).length = 4 := by rw [zo, z3f]
  unfold z11 z3j
  rw [List.take_append_of_le_length (by omega), List.take_of_length_le (by omega), List.drop_append, List.drop_of_length_le (by omega), h1, h2, List.nil_append]
  rw [show 4 * j + 4 - 4 * j = 4 by omega, List.drop_replicate, show 32 - 4 * j - 4 = 32 - 4 * (j + 1) by omega]
  congr 1
  unfold zl
  rw [<- List.map_append]
  congr 1
  rw [hw]
  exact e
set_option maxHeartbeats 4000000 in
theorem z6z (Y : Store) (s : List UInt8) (h : s.length < 100000000000) : ACallsTo TC 87 [.str s] Y (.agg (zl (shaS s))) Y := by
  obtain ⟨p, hp⟩ : ∃ p, p = padS s := ⟨_, rfl⟩
  obtain ⟨hp1, hp2⟩ := zfk s
  rw [<- hp] at hp1 hp2
  obtain ⟨N, hN⟩ : ∃ N, p.length = 64 * N := ⟨p.length / 64, by omega⟩
  obtain ⟨V, hV⟩ : ∃ V, V = blocks N v0 p := ⟨_, rfl⟩
  have hS : shaS s = outV V := by
    unfold shaS
    rw [<- hp, hV]
    have : p.length / 64 = N := by omega
    rw [this]
  rw [hS]
  have hf := fun Y => zjp Y s (by omega)
  rw [<- hp] at hf
  refine ACallsTo.of_body q7ok (by simp) fun hw _ => ?_
  repeat' (first|refine zW.zs ?_|refine zW.zb ?_|refine zW.zc ?_|refine zW.zt rfl ?_|refine zW.zf rfl ?_|(refine zW.zd rfl (fun ht => ?_) (fun ht => ?_)<;>try (exfalso;omega))|((first|refine zW.zr ?_|refine zW.zk ?_|refine zW.ze ?_|refine zW.zq ?_|(apply callW.mk_pu; (first | exact (fun _ => hf _))) | (apply callW.za; (first | exact (hf _))) | ((first|apply zg0|apply zg1|apply zg2|apply zg3|apply zg4|apply zg5|apply zg6|apply zg7)<;>intro ht));all_goals try simp (disch:=first|omega|(simp only [lens];first|done|omega)) only [go_sem,reduceEqDiff,Nat.reduceBEq,reduceAdd,reduceMul,reduceSub,reduceLeDiff,reduceToNat,reducePow, zjw, V8.c8]))
  refine zW.loop (fun m O Y' => ∃ u q, q.length = 64 * m /\ q.length <= p.length /\ blocks m u q = V /\ O 2 = .ptr Y.length 0 0 /\ O 3 = .ptr (Y.length + 1) 0 0 /\ O 4 = .str q /\ Y' = Y ++ [some [zl (List.replicate 32 0)], some [u.c8]]) N ?_ ?_
  · exact ⟨v0, p, hN, Nat.le_refl _, hV.symm, by simp (disch:=first|omega|(simp only [lens];first|done|omega)) only [go_sem,reduceEqDiff,Nat.reduceBEq,reduceAdd,reduceMul,reduceSub,reduceLeDiff,reduceToNat,reducePow], by simp (disch:=first|omega|(simp only [lens];first|done|omega)) only [go_sem,reduceEqDiff,Nat.reduceBEq,reduceAdd,reduceMul,reduceSub,reduceLeDiff,reduceToNat,reducePow], by simp (disch:=first|omega|(simp only [lens];first|done|omega)) only [go_sem,reduceEqDiff,Nat.reduceBEq,reduceAdd,reduceMul,reduceSub,reduceLeDiff,reduceToNat,reducePow], rfl⟩
  · rintro m O Y' ⟨u, q, hq, hqp, hb, q2, q3, q4, rfl⟩
    have hz : (zl (List.replicate 32 0)).length = 32 := rfl
    cases m with
    | succ m =>
      have hne : (q == []) = false := by cases q with
        | nil => simp at hq
        | cons a q => rfl
      have hmix := fun Y => mix_c8 Y u (q.take 64) (by rw [List.length_take]; omega) (by rw [List.length_take]; omega)
      obtain ⟨M, hM⟩ : ∃ M, M = mixS u (q.take 64) := ⟨_, rfl⟩
      rw [<- hM] at hmix
      have hb2 : blocks m M (q.drop 64) = V := by rw [hM]; exact hb
      unfold V8.c8 at hmix
      repeat' (first | refine zW.zs ?_ | refine zW.zb ?_ | refine zW.zc ?_ | refine zW.zt rfl ?_ | refine zW.zf rfl ?_ | (refine zW.zd rfl (fun ht => ?_) (fun ht => ?_) <;> try (exfalso; omega)) | ((first | refine zW.regS ?_ | refine zW.zk ?_ | refine zW.ze ?_ | refine zW.zq ?_ | (apply callW.mk_pu; (first | exact (fun _ => hmix _))) | (apply callW.za; (first | exact (hmix _))) | ((first|apply zg0|apply zg1|apply zg2|apply zg3|apply zg4|apply zg5|apply zg6|apply zg7)<;>intro ht));all_goals try simp (disch:=first|omega|(simp only [lens];first|done|omega)) only [go_sem,reduceEqDiff,Nat.reduceBEq,reduceAdd,reduceMul,reduceSub,reduceLeDiff,reduceToNat,reducePow, q2, q3, q4, hne, V8.c8]))
      refine ⟨m, by omega, M, q.drop 64, by rw [List.length_drop]; omega, by rw [List.length_drop]; omega, hb2, rfl, rfl⟩
    | zero =>
      have hq0 : q = [] := List.eq_nil_of_length_eq_zero (by omega)
      subst hq0
      have hu : u = V := hb
      subst hu
      repeat' (first|refine zW.zs ?_|refine zW.zb ?_|refine zW.zc ?_|refine zW.zt rfl ?_|refine zW.zf rfl ?_|(refine zW.zd rfl (fun ht => ?_) (fun ht => ?_)<;>try (exfalso;omega))|((first|refine zW.zr ?_|refine zW.zk ?_|refine zW.ze ?_|refine zW.zq ?_|((first|apply zg0|apply zg1|apply zg2|apply zg3|apply zg4|apply zg5|apply zg6|apply zg7)<;>intro ht));all_goals try simp (disch:=first|omega|(simp only [lens];first|done|omega)) only [go_sem,reduceEqDiff,Nat.reduceBEq,reduceAdd,reduceMul,reduceSub,reduceLeDiff,reduceToNat,reducePow, q2, q3, q4, V8.c8]))
      refine zW.loop (fun m O Y' => ∃ j : Nat, m + j = 8 /\ O 2 = .ptr Y.length 0 0 /\ O 5 = .ptr (Y.length + 2) 0 0 /\ O 19 = .agg u.c8 /\ O 20 = .int .i64 j /\ Y' = Y ++ [some [zl (List.replicate 32 0)], some [u.c8], some [z3j u j]]) 8 ?_ ?_
      · exact ⟨0, by omega, by simp (disch:=first|omega|(simp only [lens];first|done|omega)) only [go_sem,reduceEqDiff,Nat.reduceBEq,reduceAdd,reduceMul,reduceSub,reduceLeDiff,reduceToNat,reducePow, q2], by simp (disch:=first|omega|(simp only [lens];first|done|omega)) only [go_sem,reduceEqDiff,Nat.reduceBEq,reduceAdd,reduceMul,reduceSub,reduceLeDiff,reduceToNat,reducePow], by simp (disch:=first|omega|(simp only [lens];first|done|omega)) only [go_sem,reduceEqDiff,Nat.reduceBEq,reduceAdd,reduceMul,reduceSub,reduceLeDiff,reduceToNat,reducePow]; rfl, by simp (disch:=first|omega|(simp only [lens];first|done|omega)) only [go_sem,reduceEqDiff,Nat.reduceBEq,reduceAdd,reduceMul,reduceSub,reduceLeDiff,reduceToNat,reducePow]; rfl, rfl⟩
      · clear q2 q3 q4
        rintro m O Y' ⟨j, hm, q2, q5, q19, q20, rfl⟩
        have hlen := zk8 u (j := j) (by omega)
        have h8 : u.c8.length = 8 := rfl
        by_cases hj : j < 8
        · have hst := zk9 u hj
          have hw := z77 (w := u.l) (i := j) (by simpa [V8.l] using hj)
          rw [ws_l] at hw
          generalize wat u.l j = x at *
          generalize z3j u j = cc at *
          generalize hcc : z3j u (j + 1) = cc' at *
          have hx : x.toNat < 4294967296 := x.isLt
          have hb4 : (be 4 x.toNat).length = 4 := z3f _ _
          have ht4 : (z8 (be 4 x.toNat)).take (32 - 4 * j) = z8 (be 4 x.toNat) := List.take_of_length_le (by rw [zn, hb4]; omega)
          have hn4 : (4 * (j : Int)).toNat = 4 * j := by omega
          repeat' (first | refine zW.zs ?_ | refine zW.zb ?_ | refine zW.zc ?_ | refine zW.zt rfl ?_ | refine zW.zf rfl ?_ | (refine zW.zd rfl (fun ht => ?_) (fun ht => ?_) <;> try (exfalso; omega)) | ((first | refine zW.regS ?_ | refine zW.zk ?_ | refine zW.ze ?_ | refine zW.zq ?_ | (apply callW.mk_pu; (first | exact (fun _ => z6e _ _ _ (by omega) (by omega)))) | (apply callW.za; (first | exact (z6e _ _ _ (by omega) (by omega)))) | ((first|apply zg0|apply zg1|apply zg2|apply zg3|apply zg4|apply zg5|apply zg6|apply zg7)<;>intro ht));all_goals try simp (disch:=first|omega|(simp only [lens];first|done|omega)) only [go_sem,reduceEqDiff,Nat.reduceBEq,reduceAdd,reduceMul,reduceSub,reduceLeDiff,reduceToNat,reducePow, q2, q5, q19, q20, hlen, h8, hw, put4, hb4, ht4, hst, hn4, zdo]))
          unfold z11 at hst
          rw [List.append_assoc] at hst
          exact ⟨8 - (j + 1), by omega, j + 1, by omega, by simp, by rw [hst, hcc]⟩
        · obtain rfl : j = 8 := by omega
          have e8 : z3j u 8 = zl (outV u) := by
            unfold z3j
            rw [List.take_of_length_le (by rw [z45]; decide)]
            exact List.append_nil _
          have hd : List.drop 32 (zl (List.replicate 32 0)) = [] := rfl
          have hl : (zl (outV u)).length = 32 := by rw [zo, z45]
          rw [e8] at *
          repeat' (first|refine zW.zs ?_|refine zW.zb ?_|refine zW.zc ?_|refine zW.zt rfl ?_|refine zW.zf rfl ?_|(refine zW.zd rfl (fun ht => ?_) (fun ht => ?_)<;>try (exfalso;omega))|((first|refine zW.zr ?_|refine zW.zk ?_|refine zW.ze ?_|refine zW.zq ?_|((first|apply zg0|apply zg1|apply zg2|apply zg3|apply zg4|apply zg5|apply zg6|apply zg7)<;>intro ht));all_goals try simp (disch:=first|omega|(simp only [lens];first|done|omega)) only [go_sem,reduceEqDiff,Nat.reduceBEq,reduceAdd,reduceMul,reduceSub,reduceLeDiff,reduceToNat,reducePow, q2, q5, q19, q20, hl, h8, hd]))
          exact DownV.pure hw (z3m (z2c _))
end Am
end Go.Proofs.YtncenefkbpelbaaDoor
end
section
/- strings.Builder: the contracts of copyCheck and String over the abstract store. -/
namespace Go.Proofs
open Go.Shelf Go.RowKit
def Tryd.lays240_ren : Go.Shelf.Ren := ⟨fun | 240 => 141 | 276 => 153 | n => n, fun | 0 => 0 | 4 => 4 | 9 => 9 | 20 => 20 | 70 => 178 | 72 => 180 | 164 => 206 | 37 => 112 | n => n, fun | n => n⟩
theorem Tryd.lays240 : Go.Proofs.Lays.n240 Tryd.prog Tryd.lays240_ren := {
  mixed := by kernel_rfl
  f240 := Tryd.func141.trans (congrArg some (by kernel_rfl))
  f276 := Tryd.func153.trans (congrArg some (by kernel_rfl))
  t0 := Tryd.underlying0
  a0 := Tryd.isAgg0
  z0 := Tryd.sizeOf0
  v0 := Tryd.zeroValue0
  t4 := Tryd.underlying4
  a4 := Tryd.isAgg4
  z4 := Tryd.sizeOf4
  v4 := Tryd.zeroValue4
  t9 := Tryd.underlying9
  a9 := Tryd.isAgg9
  z9 := Tryd.sizeOf9
  v9 := Tryd.zeroValue9
  t20 := Tryd.underlying20
  a20 := Tryd.isAgg20
  z20 := Tryd.sizeOf20
  v20 := Tryd.zeroValue20
  t70 := Tryd.underlying178
  a70 := Tryd.isAgg178
  z70 := Tryd.sizeOf178
  v70 := Tryd.zeroValue178
  t72 := Tryd.underlying180
  a72 := Tryd.isAgg180
  z72 := Tryd.sizeOf180
  v72 := Tryd.zeroValue180
  t164 := Tryd.underlying206
  a164 := Tryd.isAgg206
  z164 := Tryd.sizeOf206
  v164 := Tryd.zeroValue206 }
theorem Tryd.x72_240 : Builder.X72 Tryd.prog Tryd.lays240_ren := {
  sizeBuilder := by kernel_rfl
  liesBuilder := by kernel_rfl }
section
variable {P : Program} {O : Ren}
set_option maxHeartbeats 1000000 in
set_option maxRecDepth 100000 in
/-- String, with all that it turns: the bytes are frozen. -/
theorem Tryd.string_ex (L : Lays.n169 P O) (X : Builder.Extra P O) (b g cap : Nat) (cur : Array Value) (p : Value) (fb fg : Nat × Nat) (l : List UInt8) (w : World) (h0 : l ≠ [])
    (hbk : w.heap[b]? = some (.cells #[p, .slice (some ⟨g, 0, none⟩) l.length cap] (O.t 72) fb)) (hg : w.heap[g]? = some (.cells cur (O.t 5) fg)) (hnc : l.length <= cap) (hcs : l.length <= cur.size) (hln : l.length <= 9223372036854775807)
    (hcl : ∀ j x, l[j]? = some x -> w.cell? ((⟨g, 0, none⟩ : Addr).add j) = some (.int .u8 x.toNat)) :
    Calls P (O.f 169) #[.pointer (some ⟨b, 0, none⟩)] w fun e w' => e = .returned (.string ⟨l.toArray⟩) /\ w' = w.drew.freeze ⟨g, 0, none⟩ l.length := by
  have hl0 : l.length ≠ 0 := by simpa using h0
  have c1 : w.drew.cell? ⟨b, 1, none⟩ = some (.slice (some ⟨g, 0, none⟩) l.length cap) := by
    have : w.drew.heap[b]? = some (.cells #[p, .slice (some ⟨g, 0, none⟩) l.length cap] (O.t 72) fb) := hbk
    rw [Lib.cell_of_heap this]; rfl
  have hSD : (Builtin.unsafeSliceData_ #[(O.t 37)] (O.t 127) #[.slice (some ⟨g, 0, none⟩) l.length cap]).run P w.drew = .ok (.pointer (some ⟨g, 0, none⟩)) w.drew :=
    Lib.run_unsafeSliceData_row _ _ _ _ _ _ (by omega)
  have hUS : (Builtin.unsafeString_ #[(O.t 127), (O.t 3)] (O.t 9) #[.pointer (some ⟨g, 0, none⟩), .int .i64 l.length]).run P w.drew = .ok (.string ⟨l.toArray⟩) (w.drew.freeze ⟨g, 0, none⟩ l.length) :=
    Lib.run_unsafeString_row w.drew (O.t 127) (O.t 3) (O.t 9) (O.t 5) L.t127 X.cellsByte g cur.size (by have hg' : w.drew.heap[g]? = some (.cells cur (O.t 5) fg) := hg; simp [World.shape?, hg']) l h0 hcs hln hcl
  have mixed := L.mixed
  have t72 := L.t72; have a72 := L.a72; have z72 := L.z72; have v72 := L.v72; have u72 := run_underlying L.t72
  have t70 := L.t70; have a70 := L.a70; have z70 := L.z70; have v70 := L.v70; have u70 := run_underlying L.t70
  have t37 := L.t37; have a37 := L.a37; have z37 := L.z37; have v37 := L.v37; have u37 := run_underlying L.t37
  have t127 := L.t127; have a127 := L.a127; have z127 := L.z127; have v127 := L.v127; have u127 := run_underlying L.t127
  have t3 := L.t3; have a3 := L.a3; have z3 := L.z3; have v3 := L.v3; have u3 := run_underlying L.t3
  have t9 := L.t9; have a9 := L.a9; have z9 := L.z9; have v9 := L.v9; have u9 := run_underlying L.t9
  have t5 := X.t5; have a5 := X.a5; have z5 := X.z5; have v5 := X.v5; have u5 := run_underlying X.t5
  clear hcl hcs hln hg hbk hnc
  go_enter L.f169, Body.n169_ntmps O
  go_wp2
  go_region_o
  all_goals (go_wp2; go_ret; exact ⟨rfl, rfl⟩)
end
end Go.Proofs
namespace Go.Proofs.YtncenefkbpelbaaDoor
namespace Am
open Go.RowKit
section
variable {C : Ctx} {J : Places} {Y : Store} {w w' : World}
/-- A row is lost: its block may become what it will. -/
theorem Rel.lose (h : Rel C J Y w) {r : Nat} {pl : Place} (hr : J[r]? = some (true, pl)) (hsz : w'.heap.size = w.heap.size) (hother : ∀ b, b ≠ pl.b -> w'.heap[b]? = w.heap[b]?) (ho : w'.os = w.os) (ht : w'.tape = w.tape) (hp : w'.output = w.output) :
    Step J w (J.set r (false, pl)) w' /\ Rel C (J.set r (false, pl)) (Y.set r none) w' := by
  obtain ⟨k1, k2⟩ := h.kill hr
  have hrl : r < J.length := (List.getElem?_eq_some_iff.1 hr).1
  have hs : Step J w (J.set r (false, pl)) w' := ⟨k1.keep, by omega, fun b _ hn => hother b fun e => hn r pl hr e.symm, fun q x hx => by
    rcases k1.new q x hx with h | h
    · exact .inl h
    · exact .inr h, ho, ht, hp⟩
  refine ⟨hs, by simp [h.len], fun q o hq => ?_, fun q hq => k2.dead q hq, fun q q' x x' h1 h2 h3 => k2.inj q q' x x' h1 h2 h3, fun g cs hg => (h.gl g cs hg).mono hs⟩
  by_cases e : r = q
  · subst e
    rw [List.getElem?_set_self (by rw [<- h.len]; exact hrl)] at hq; cases hq
  · rw [List.getElem?_set_ne e] at hq
    obtain ⟨x, h1, h2⟩ := h.alive q o hq
    exact ⟨x, by rw [List.getElem?_set_ne e]; exact h1, h2.mono hs (hother _ fun e' => e (h.inj r q pl x hr h1 e'.symm))⟩
/-- A builder in memory. -/
theorem Rel.bld_at (hR : Rel C J Y w) {r : Nat} {x : AV} (hr : Y[r]? = some (some [[.bld r, x]])) : ∃ (pl : Place) (v0 v1 : Value) (fz : Nat × Nat), J[r]? = some (true, pl) /\ pl.base = 0 /\ pl.esz = 2 /\ w.heap[pl.b]? = some (.cells #[v0, v1] bldT fz) ∧
    (v0 = .pointer none \/ v0 = .pointer (some ⟨pl.b, 0, none⟩)) /\ VR J w x v1 /\ (∀ k, k < 2 -> (decide (fz.1 <= k) && decide (k < fz.2)) = false) := by
  obtain ⟨pl, hpl, hok⟩ := hR.alive r _ hr
  obtain ⟨c, ty, fz, pre, mid, post, q1, q2, q3, q4, q5, q6⟩ := hok.ex
  simp only [List.flatten_cons, List.flatten_nil, List.append_nil, VRs] at q5
  obtain ⟨v0, _, rfl, ⟨k1, _⟩, v1, _, rfl, ⟨k2, _⟩, rfl⟩ := q5
  simp only [VR] at k1
  obtain ⟨fl, pl', hpl', ⟨e1, e2, e3, e4, e5⟩, k3⟩ := k1
  rw [hpl] at hpl'; cases hpl'
  have hty : ty = bldT := by
    obtain ⟨c0, fz0, h0⟩ := hok.tyk
    rw [q1] at h0; cases h0; exact e1
  have hpre : pre = [] := List.eq_nil_of_length_eq_zero (by omega)
  subst hpre
  have hlen : c.toList.length = 2 := by rw [Array.length_toList, q4, e5]
  have hpost : post = [] := by
    rw [q2] at hlen
    simpa using hlen
  subst hpost
  have hc : c = #[v0, v1] := by
    apply Array.ext'
    rw [q2]; rfl
  subst hc hty
  exact ⟨pl, v0, v1, fz, hpl, e2, e3, q1, k3, k2, fun k hk => q6 k hk⟩
end
theorem zot {Y : Store} {r : Nat} {x : Option AObj} (h : Y[r]? = some x) : Y.set r x = Y := by
  apply List.ext_getElem?
  intro i
  by_cases e : r = i
  · subst e
    rw [List.getElem?_set_self (List.getElem?_eq_some_iff.1 h).1, h]
  · rw [List.getElem?_set_ne e]
theorem zaz (Y : Store) (r : Nat) (x : AV) (hr : Y[r]? = some (some [[.bld r, x]])) : ACallsTo TC 141 [.ptr r 0 0] Y (.tup []) Y := by
  obtain ⟨e, hc⟩ := Option.isSome_iff_exists.1 (show (cFn TC 141).isSome = true by kernel_rfl)
  simp only [cFn, Option.bind_eq_some_iff] at hc
  obtain ⟨fn, hf, hc⟩ := hc
  split at hc
  · cases hc
  · rename_i hname
    simp only [Option.bind_eq_some_iff, Option.map_eq_some_iff] at hc
    obtain ⟨c, hb, _⟩ := hc
    intro J w cargs hR ha
    left
    constructor
    · have h1 : fn.name ≠ "runtime.NumGoroutine" := by simpa using hname
      simp [callFunc, hf, h1, hb]
    · obtain ⟨pl, v0, v1, fz, hpl, hb0, hez, hw, hv0, hv1, hfz⟩ := hR.bld_at hr
      simp only [VRt, VR] at ha
      obtain ⟨_, _, rfl, ⟨fl, pl', hpl', rfl⟩, rfl⟩ := ha
      rw [hpl] at hpl'; cases hpl'
      have ea : pl.base + 0 * pl.esz + 0 = 0 := by rw [hb0]; omega
      rw [ea]
      have hcell : w.cell? ⟨pl.b, 0, none⟩ = some v0 := by rw [Lib.cell_of_heap hw]; rfl
      rcases hv0 with rfl | rfl
      · refine (Any.Builder_copyCheck_fresh Tryd.lays240 Tryd.x72_240 pl.b w hcell (by simp [World.shape?, hw]; rfl) (by simp only [World.frozen?, hw]; exact hfz 0 (by omega))).mono ?_
        rintro e w' ⟨rfl, rfl⟩
        obtain ⟨w2, k1, k2, k3⟩ := hR.storeElem (i := 0) (off := 0) (vs := [.bld r]) (vals := [.pointer (some ⟨pl.b, 0, none⟩)]) hr hpl rfl (by simp) (VRs.one ⟨by
          simp only [VR]
          obtain ⟨pl2, hpl2, hok⟩ := hR.alive r _ hr
          rw [hpl] at hpl2; cases hpl2
          obtain ⟨c, ty, fz2, pre, mid, post, q1, q2, q3, q4, q5, q6⟩ := hok.ex
          simp only [List.flatten_cons, List.flatten_nil, List.append_nil, VRs, VR] at q5
          obtain ⟨u0, _, _, ⟨⟨fl3, pl3, hpl3, k, _⟩, _⟩, _⟩ := q5
          rw [hpl] at hpl3; cases hpl3
          exact ⟨true, pl, hpl, k, .inr rfl⟩, rfl⟩)
        rw [ea] at k1
        have e2 : w2 = w.setCell ⟨pl.b, 0, none⟩ (.pointer (some ⟨pl.b, 0, none⟩)) := by
          have hfr : w.frozen? ⟨pl.b, 0, none⟩ = false := by simp only [World.frozen?, hw]; exact hfz 0 (by omega)
          have hst : (store ⟨pl.b, 0, none⟩ (.pointer (some ⟨pl.b, 0, none⟩))).run TC.P w = .ok () (w.setCell ⟨pl.b, 0, none⟩ (.pointer (some ⟨pl.b, 0, none⟩))) := by
            rw [run_store TC.P w _ _ _ rfl, hcell]; simp [hfr]
          have := k1
          simp only [storeCells, z2f, Nat.add_zero, Sem.run_bind, hst, Result.andThen_ok, Sem.run_pure, Result.ok.injEq, true_and] at this
          exact this.symm
        rw [<- e2]
        have e3 : Y.set r (some ([[.bld r, x]].set 0 (z11 [.bld r, x] 0 [.bld r]))) = Y := by
          have : ([[AV.bld r, x]] : List (List AV)).set 0 (z11 [.bld r, x] 0 [.bld r]) = [[.bld r, x]] := by simp [z11]
          rw [this]
          exact zot hr
        rw [e3] at k3
        exact ⟨_, J, rfl, k2, k3, by simp only [VR]; exact ⟨[], rfl, VRt.nil⟩⟩
      · refine (Any.Builder_copyCheck_used Tryd.lays240 Tryd.x72_240 pl.b w hcell).mono ?_
        rintro e w' ⟨rfl, rfl⟩
        exact ⟨_, J, rfl, Step.refl _ _, hR, by simp only [VR]; exact ⟨[], rfl, VRt.nil⟩⟩
theorem zao (Y : Store) (r rb : Nat) (s : List UInt8) (h0 : s ≠ []) (hs : s.length <= 1073741824) (h1 : Y[r]? = some (some [[.bld r, .bsl rb s.length]])) (h2 : Y[rb]? = some (some (z8 s))) :
    ACallsTo TC 126 [.ptr r 0 0] Y (.str s) (Y.set rb none) := by
  obtain ⟨e, hc⟩ := Option.isSome_iff_exists.1 (show (cFn TC 126).isSome = true by kernel_rfl)
  simp only [cFn, Option.bind_eq_some_iff] at hc
  obtain ⟨fn, hf, hc⟩ := hc
  split at hc
  · cases hc
  · rename_i hname
    simp only [Option.bind_eq_some_iff, Option.map_eq_some_iff] at hc
    obtain ⟨c, hb, _⟩ := hc
    intro J w cargs hR ha
    left
    constructor
    · have h1 : fn.name ≠ "runtime.NumGoroutine" := by simpa using hname
      simp [callFunc, hf, h1, hb]
    · obtain ⟨pl, v0, v1, fz, hpl, hb0, hez, hw, hv0, hv1, hfz⟩ := hR.bld_at h1
      simp only [VRt, VR] at ha
      obtain ⟨_, _, rfl, ⟨fl, pl', hpl', rfl⟩, rfl⟩ := ha
      rw [hpl] at hpl'; cases hpl'
      have ea : pl.base + 0 * pl.esz + 0 = 0 := by rw [hb0]; omega
      rw [ea]
      simp only [VR] at hv1
      obtain ⟨fl2, pb, cap, hpb, ⟨t1, t2, t3⟩, rfl, hso⟩ := hv1
      obtain ⟨pb', hpb', hok⟩ := hR.alive rb _ h2
      rw [hpb] at hpb'; cases hpb'
      obtain ⟨cur, ty, fg, pre, mid, post, q1, q2, q3, q4, q5, q6⟩ := hok.ex
      have hty : ty = u8T := by
        obtain ⟨c0, fz0, h0⟩ := hok.tyk
        rw [q1] at h0; cases h0; exact t1
      subst hty
      have hpre : pre = [] := List.eq_nil_of_length_eq_zero (by omega)
      subst hpre
      rw [zap] at q5
      have hml := q5.length
      rw [List.length_map] at hml
      have hcs : s.length <= cur.size := by
        rw [<- Array.length_toList, q2]; simp; omega
      refine (Tryd.string_ex Tryd.lays169 Tryd.Builder_Extra_169 pl.b pb.b cap cur v0 fz fg s w h0 hw q1 hso.le hcs (by omega) (fun j x hj => ?_)).mono ?_
      · obtain ⟨v, k1, k2⟩ := q5.get (i := j) (a := B8 x) (by rw [List.getElem?_map, hj]; rfl)
        have hv := k2.1
        simp only [B8, VR] at hv
        rw [z2f, Nat.zero_add, Lib.cell_of_heap q1]
        show cur[j]? = _
        rw [<- Array.getElem?_toList, q2, List.nil_append, List.getElem?_append_left (by
          rcases Nat.lt_or_ge j mid.length with h | h
          · exact h
          · simp [List.getElem?_eq_none h] at k1), k1, hv]
      · rintro e w' ⟨rfl, rfl⟩
        have hz : s.length ≠ 0 := by simpa using h0
        obtain ⟨k1, k2⟩ := hR.lose (w' := w.drew.freeze ⟨pb.b, 0, none⟩ s.length) hpb (by show (World.freeze w.drew _ _).heap.size = w.drew.heap.size; unfold World.freeze; rw [if_neg hz]; exact Array.size_modify) (fun b hb => by
          show (World.freeze w.drew _ _).heap[b]? = w.drew.heap[b]?
          unfold World.freeze
          rw [if_neg hz]
          simp only [Array.getElem?_modify]
          rw [if_neg (fun e => hb e.symm)]) (by unfold World.freeze; rw [if_neg hz]; rfl) (by unfold World.freeze; rw [if_neg hz]; rfl) (by unfold World.freeze; rw [if_neg hz]; rfl)
        exact ⟨_, _, rfl, k1, k2, by simp only [VR]⟩
end Am
end Go.Proofs.YtncenefkbpelbaaDoor
end
section
/- SHA-256: contracts of the reference: pad. -/
namespace Go.Proofs.YtncenefkbpelbaaDoor
namespace Am
theorem zhn {k : Nat} (l : List UInt8) : RLss k (z8 l) := by
  induction l with
  | nil => simp [z8, RLss]
  | cons b l ih => simp only [z8, B8] at ih; simp [z8, RLss, B8, RLs, RL, ih]
/-- Own bytes behind what was there. -/
def OwnB (Y Y' : Store) (v : AV) (b : List UInt8) : Prop := ∃ news j, Y' = Y ++ news /\ v = .sl (Y.length + j) 0 b.length none 1 /\ news[j]? = some (some (z8 b))
theorem OwnB.down {Y Y' : Store} {v : AV} {b : List UInt8} (hw : Wf Y.length Y) (h : OwnB Y Y' v b) : DownV Y.length v Y' (.vsl 1 (z8 b) false) Y := by
  obtain ⟨news, j, rfl, rfl, h⟩ := h
  have hl : (z8 b).length = b.length := zn b
  have e : ((z8 b).drop 0).take b.length = z8 b := by rw [List.drop_zero, List.take_of_length_le (by omega)]
  have := DownV.froze (off := 0) (len := b.length) (esz := 1) (lim := none) hw h (by omega) (by rw [e]; exact zhn b)
  rw [e] at this
  exact this
theorem OwnB.app {Y Y' : Store} {r n : Nat} {b c : List UInt8} (h : OwnB Y Y' (.sl r 0 n none 1) b) : OwnB Y (Y'.set r none ++ [some (z8 c)]) (.sl Y'.length 0 c.length none 1) c := by
  obtain ⟨news, j, rfl, e, h⟩ := h
  simp only [AV.sl.injEq, true_and, and_true] at e
  obtain ⟨rfl, rfl⟩ := e
  refine ⟨news.set j none ++ [some (z8 c)], news.length, ?_, by simp, ?_⟩
  · rw [List.set_append_right _ _ (by omega), Nat.add_sub_cancel_left, List.append_assoc]
  · rw [List.getElem?_append_right (by simp)]; simp
theorem OwnB.get {Y Y' : Store} {v : AV} {b : List UInt8} (h : OwnB Y Y' v b) : ∃ r, v = .sl r 0 b.length none 1 /\ Y'[r]? = some (some (z8 b)) := by
  obtain ⟨news, j, rfl, rfl, h⟩ := h
  exact ⟨_, rfl, by rw [List.getElem?_append_right (by omega), Nat.add_sub_cancel_left]; exact h⟩
theorem zdp (b : List UInt8) (x : Nat) (m : Int) (h : m = ((x % 256 : Nat) : Int)) : z8 b ++ [[AV.int .u8 m]] = z8 (b ++ [UInt8.ofNat x]) := by
  subst h
  simp [z8, B8]
theorem zi4 (x : Nat) {j : Nat} (h : j < 8) : (be 8 x).take j ++ [UInt8.ofNat (x / 2 ^ (8 * (7 - j)))] = (be 8 x).take (j + 1) := by
  have e : be 8 x = [UInt8.ofNat (x / 256 ^ 7), UInt8.ofNat (x / 256 ^ 6), UInt8.ofNat (x / 256 ^ 5), UInt8.ofNat (x / 256 ^ 4), UInt8.ofNat (x / 256 ^ 3), UInt8.ofNat (x / 256 ^ 2), UInt8.ofNat (x / 256 ^ 1), UInt8.ofNat (x / 256 ^ 0)] := by
    simp only [z98]
    rfl
  rw [e]
  have hj : j = 0 \/ j = 1 \/ j = 2 \/ j = 3 \/ j = 4 \/ j = 5 \/ j = 6 \/ j = 7 := by omega
  rcases hj with rfl | rfl | rfl | rfl | rfl | rfl | rfl | rfl <;> rfl
set_option maxHeartbeats 4000000 in
theorem pad_to (Y : Store) (s : List UInt8) (h : s.length < 1000000000) : ACallsTo TC 114 [.str s] Y (.vsl 1 (z8 (padS s)) false) Y := by
  obtain ⟨z, hz⟩ : ∃ z : Nat, z = (119 - s.length % 64) % 64 := ⟨_, rfl⟩
  have hz64 : z < 64 := by rw [hz]; exact Nat.mod_lt _ (by decide)
  obtain ⟨P, hP⟩ : ∃ P, P = padS s := ⟨_, rfl⟩
  have hP2 : P = (s ++ 128 :: List.replicate z 0) ++ be 8 (s.length * 8) := by rw [hP, padS, hz]; simp
  rw [<- hP]
  refine ACallsTo.of_body q8ok (by simp) fun hw _ => ?_
  repeat' (first|refine zW.zs ?_|refine zW.zb ?_|refine zW.zc ?_|refine zW.zt rfl ?_|refine zW.zf rfl ?_|(refine zW.zd rfl (fun ht => ?_) (fun ht => ?_)<;>try (exfalso;omega))|((first|refine zW.zr ?_|refine zW.zk ?_|refine zW.ze ?_|refine zW.zq ?_|((first|apply zg0|apply zg1|apply zg2|apply zg3|apply zg4|apply zg5|apply zg6|apply zg7)<;>intro ht));all_goals try simp (disch:=first|omega|(simp only [lens];first|done|omega)) only [go_sem,reduceEqDiff,Nat.reduceBEq,reduceAdd,reduceMul,reduceSub,reduceLeDiff,reduceToNat,reducePow]))
  refine zW.loop (fun m O Y' => ∃ k : Nat, m + k = z /\ O 0 = .str s /\ OwnB Y Y' (O 3) (s ++ 128 :: List.replicate k 0)) z ?_ ?_
  · refine ⟨0, by omega, by simp (disch:=first|omega|(simp only [lens];first|done|omega)) only [go_sem,reduceEqDiff,Nat.reduceBEq,reduceAdd,reduceMul,reduceSub,reduceLeDiff,reduceToNat,reducePow], ?_⟩
    simp (disch:=first|omega|(simp only [lens];first|done|omega)) only [go_sem,reduceEqDiff,Nat.reduceBEq,reduceAdd,reduceMul,reduceSub,reduceLeDiff,reduceToNat,reducePow]
    refine ⟨[none, some (z8 (s ++ [128]))], 1, ?_, ?_, rfl⟩
    · simp [z8, B8]
    · simp
  · rintro m O Y' ⟨k, hm, q0, hO⟩
    obtain ⟨r, q3, hg⟩ := hO.get
    have hb : (s ++ 128 :: List.replicate k 0).length = s.length + 1 + k := by simp; omega
    have hbe := zn (s ++ 128 :: List.replicate k 0)
    by_cases hk : k < z
    · rw [q3] at hO
      rw [hb] at q3 hbe hO
      have e0 : z8 (s ++ 128 :: List.replicate k 0) ++ [[AV.int .u8 0]] = z8 (s ++ 128 :: List.replicate (k + 1) 0) := by
        rw [zdp _ 0 0 (by simp), List.append_assoc, List.cons_append, List.replicate_succ']
        rfl
      have hO2 := hO.app (c := s ++ 128 :: List.replicate (k + 1) 0)
      have hc : (s ++ 128 :: List.replicate (k + 1) 0).length = s.length + 1 + k + 1 := by simp; omega
      rw [hc] at hO2
      generalize z8 (s ++ 128 :: List.replicate k 0) = bb at *
      repeat' (first|refine zW.zs ?_|refine zW.zb ?_|refine zW.zc ?_|refine zW.zt rfl ?_|refine zW.zf rfl ?_|(refine zW.zd rfl (fun ht => ?_) (fun ht => ?_)<;>try (exfalso;omega))|((first|refine zW.zr ?_|refine zW.zk ?_|refine zW.ze ?_|refine zW.zq ?_|((first|apply zg0|apply zg1|apply zg2|apply zg3|apply zg4|apply zg5|apply zg6|apply zg7)<;>intro ht));all_goals try simp (disch:=first|omega|(simp only [lens];first|done|omega)) only [go_sem,reduceEqDiff,Nat.reduceBEq,reduceAdd,reduceMul,reduceSub,reduceLeDiff,reduceToNat,reducePow, q0, q3, hg, hbe, e0]))
      exact ⟨z - (k + 1), by omega, k + 1, by omega, hO2⟩
    · obtain rfl : k = z := by omega
      obtain ⟨N, hN⟩ : ∃ N, N = s.length * 8 := ⟨_, rfl⟩
      have hN2 : (s.length : Int) * 8 = N := by omega
      have hb8 : (be 8 N).length = 8 := z3f _ _
      rw [<- hN] at hP2
      rw [hb] at q3 hbe
      have h56 : ((s.length : Int) + 1 + k) % 64 = 56 := by omega
      generalize hB : s ++ 128 :: List.replicate k 0 = B at *
      repeat' (first|refine zW.zs ?_|refine zW.zb ?_|refine zW.zc ?_|refine zW.zt rfl ?_|refine zW.zf rfl ?_|(refine zW.zd rfl (fun ht => ?_) (fun ht => ?_)<;>try (exfalso;omega))|((first|refine zW.zr ?_|refine zW.zk ?_|refine zW.ze ?_|refine zW.zq ?_|((first|apply zg0|apply zg1|apply zg2|apply zg3|apply zg4|apply zg5|apply zg6|apply zg7)<;>intro ht));all_goals try simp (disch:=first|omega|(simp only [lens];first|done|omega)) only [go_sem,reduceEqDiff,Nat.reduceBEq,reduceAdd,reduceMul,reduceSub,reduceLeDiff,reduceToNat,reducePow, q0, q3, h56, hN2, Int.natCast_add, Int.natCast_one]))
      refine zW.loop (fun m O Y' => ∃ j : Nat, m + j = 8 /\ O 4 = .int .u64 N /\ O 5 = .int .i64 (7 - j) /\ OwnB Y Y' (O 3) (B ++ (be 8 N).take j)) 8 ?_ ?_
      · refine ⟨0, by omega, by simp (disch:=first|omega|(simp only [lens];first|done|omega)) only [go_sem,reduceEqDiff,Nat.reduceBEq,reduceAdd,reduceMul,reduceSub,reduceLeDiff,reduceToNat,reducePow], by simp (disch:=first|omega|(simp only [lens];first|done|omega)) only [go_sem,reduceEqDiff,Nat.reduceBEq,reduceAdd,reduceMul,reduceSub,reduceLeDiff,reduceToNat,reducePow]; rfl, ?_⟩
        simp (disch:=first|omega|(simp only [lens];first|done|omega)) only [go_sem,reduceEqDiff,Nat.reduceBEq,reduceAdd,reduceMul,reduceSub,reduceLeDiff,reduceToNat,reducePow, q3]
        rw [q3] at hO
        exact hO
      · clear q0 q3 hO hg
        rintro m O Y' ⟨j, hm, q4, q5, hO⟩
        obtain ⟨r, q3, hg⟩ := hO.get
        have hl : (B ++ (be 8 N).take j).length = s.length + 1 + k + j := by rw [List.length_append, hb, List.length_take, hb8]; omega
        have hbe := zn (B ++ (be 8 N).take j)
        by_cases hj : j < 8
        · rw [q3] at hO
          rw [hl] at q3 hbe hO
          have hO2 := hO.app (c := B ++ (be 8 N).take (j + 1))
          have hc : (B ++ (be 8 N).take (j + 1)).length = s.length + 1 + k + j + 1 := by rw [List.length_append, hb, List.length_take, hb8]; omega
          rw [hc] at hO2
          have hs : (8 * (7 - (j : Int))).toNat = 8 * (7 - j) := by omega
          have e0 : z8 (B ++ (be 8 N).take j) ++ [[AV.int .u8 ((N : Int) / 2 ^ (8 * (7 - j)) % 256)]] = z8 (B ++ (be 8 N).take (j + 1)) := by
            rw [zdp _ (N / 2 ^ (8 * (7 - j))) _ (by rw [Int.natCast_emod, Int.natCast_ediv, Int.natCast_pow]; rfl), List.append_assoc, zi4 N hj]
          generalize z8 (B ++ (be 8 N).take j) = bb at *
          repeat' (first|refine zW.zs ?_|refine zW.zb ?_|refine zW.zc ?_|refine zW.zt rfl ?_|refine zW.zf rfl ?_|(refine zW.zd rfl (fun ht => ?_) (fun ht => ?_)<;>try (exfalso;omega))|((first|refine zW.zr ?_|refine zW.zk ?_|refine zW.ze ?_|refine zW.zq ?_|((first|apply zg0|apply zg1|apply zg2|apply zg3|apply zg4|apply zg5|apply zg6|apply zg7)<;>intro ht));all_goals try simp (disch:=first|omega|(simp only [lens];first|done|omega)) only [go_sem,reduceEqDiff,Nat.reduceBEq,reduceAdd,reduceMul,reduceSub,reduceLeDiff,reduceToNat,reducePow, q3, q4, q5, hg, hbe, hs, e0]))
          exact ⟨8 - (j + 1), by omega, j + 1, by omega, by rw [show (7 : Int) - ((j + 1 : Nat) : Int) = 7 - j - 1 by omega], hO2⟩
        · obtain rfl : j = 8 := by omega
          have e8 : B ++ (be 8 N).take 8 = P := by rw [List.take_of_length_le (by omega)]; exact hP2.symm
          rw [e8] at hO q3
          repeat' (first|refine zW.zs ?_|refine zW.zb ?_|refine zW.zc ?_|refine zW.zt rfl ?_|refine zW.zf rfl ?_|(refine zW.zd rfl (fun ht => ?_) (fun ht => ?_)<;>try (exfalso;omega))|((first|refine zW.zr ?_|refine zW.zk ?_|refine zW.ze ?_|refine zW.zq ?_|((first|apply zg0|apply zg1|apply zg2|apply zg3|apply zg4|apply zg5|apply zg6|apply zg7)<;>intro ht));all_goals try simp (disch:=first|omega|(simp only [lens];first|done|omega)) only [go_sem,reduceEqDiff,Nat.reduceBEq,reduceAdd,reduceMul,reduceSub,reduceLeDiff,reduceToNat,reducePow, q3, q5]))
          rw [q3] at hO
          exact hO.down hw
end Am
end Go.Proofs.YtncenefkbpelbaaDoor
end
section
/- SHA-256: the reference's Sum: the words. -/
namespace Go.Proofs.YtncenefkbpelbaaDoor
namespace Am
def z32 : List AV := zl (List.replicate 32 0)
/-- What the reference has in memory. -/
def mkS (Z : Store) (u : V8) (cells : List AV) : Store := Z ++ [some [z32], some [gl_sha_rounds], some [u.c8], some [cells]]
def Rk (O : Env) (a : Nat) (p : List UInt8) (n : Nat) : Prop :=
  O 2 = .ptr a 0 0 /\ O 3 = .ptr (a + 1) 0 0 /\ O 4 = .ptr (a + 2) 0 0 /\ O 5 = .vsl 1 (z8 p) false /\ O 6 = .ptr (a + 3) 0 0 /\ O 7 = .int .i64 n
theorem ze5 {w : List W} {x : W} {n : Nat} {rest : List AV} (h : w.length = n) (hr : 0 < rest.length) : (ws w ++ rest).take n ++ AV.int .u32 x.toNat :: (ws w ++ rest).drop (n + 1) = ws (w ++ [x]) ++ rest.drop 1 := by
  have hl : (ws w).length = n := by rw [z3b, h]
  rw [List.take_append_of_le_length (by omega), List.take_of_length_le (by omega), List.drop_append, List.drop_of_length_le (by omega), hl]
  rw [show n + 1 - n = 1 by omega, List.nil_append]
  simp [ws, wc]
theorem zq9 {p : List UInt8} {n i : Nat} (h : n + 4 * i + 4 <= p.length) (hi : i < 16) :
    ((p.getD (n + 4 * i) 0).toNat : Int) * 16777216 + (p.getD (n + 4 * i + 1) 0).toNat * 65536 + (p.getD (n + 4 * i + 2) 0).toNat * 256 + (p.getD (n + 4 * i + 3) 0).toNat = ((zg ((p.drop n).take 64) i).toNat : Int) := by
  have e : ((((p.drop n).take 64).drop (4 * i)).take 4) = [p.getD (n + 4 * i) 0, p.getD (n + 4 * i + 1) 0, p.getD (n + 4 * i + 2) 0, p.getD (n + 4 * i + 3) 0] := by
    rw [List.drop_take, List.take_take, List.drop_drop, show min 4 (64 - 4 * i) = 4 by omega]
    obtain ⟨A, hA⟩ : ∃ A, A = p.drop (n + 4 * i) := ⟨_, rfl⟩
    have g : ∀ k, p.getD (n + 4 * i + k) 0 = A.getD k 0 := by
      intro k
      rw [hA, List.getD_eq_getElem?_getD, List.getD_eq_getElem?_getD, List.getElem?_drop]
    have g0 := g 0
    rw [Nat.add_zero] at g0
    rw [g0, g 1, g 2, g 3, <- hA]
    have hl : 4 <= A.length := by rw [hA, List.length_drop]; omega
    match A, hl with
    | a :: b :: c :: d :: A, _ => rfl
  unfold zg
  rw [e]
  generalize p.getD (n + 4 * i) 0 = a
  generalize p.getD (n + 4 * i + 1) 0 = b
  generalize p.getD (n + 4 * i + 2) 0 = c
  generalize p.getD (n + 4 * i + 3) 0 = d
  have h1 := a.toNat_lt
  have h2 := b.toNat_lt
  have h3 := c.toNat_lt
  have h4 := d.toNat_lt
  simp only [getS, val, List.take_of_length_le (show [a, b, c, d].length <= 8 by simp), List.foldl_cons, List.foldl_nil, BitVec.toNat_ofNat]
  omega
section
variable {k : Nat} {Q : AExit -> Env -> Store -> Prop} {O : Env} {Z : Store} {u : V8} {p : List UInt8} {n : Nat}
set_option maxHeartbeats 4000000 in
theorem zoa {cells : List AV} (K : Rk O Z.length p n) (hp : n + 64 <= p.length) (hpl : p.length < 2000000000) (hc : cells.length = 64)
    (hQ : ∀ O' rest, rest.length = 48 -> Rk O' Z.length p n -> Q .normal O' (mkS Z u (ws (zu ((p.drop n).take 64) 16) ++ rest))) : zW TC 252 k q6c21 Q O (mkS Z u cells) := by
  obtain ⟨k2, k3, k4, k5, k6, k7⟩ := K
  obtain ⟨q, hq⟩ : ∃ q, q = (p.drop n).take 64 := ⟨_, rfl⟩
  rw [<- hq] at hQ
  repeat' (first|refine zW.zs ?_|refine zW.zb ?_|refine zW.zc ?_|refine zW.zt rfl ?_|refine zW.zf rfl ?_|(refine zW.zd rfl (fun ht => ?_) (fun ht => ?_)<;>try (exfalso;omega))|((first|refine zW.zr ?_|refine zW.zk ?_|refine zW.ze ?_|refine zW.zq ?_|((first|apply zg0|apply zg1|apply zg2|apply zg3|apply zg4|apply zg5|apply zg6|apply zg7)<;>intro ht));all_goals try simp (disch:=first|omega|(simp only [lens];first|done|omega)) only [go_sem,reduceEqDiff,Nat.reduceBEq,reduceAdd,reduceMul,reduceSub,reduceLeDiff,reduceToNat,reducePow]))
  refine zW.loop (fun m O Y' => ∃ (i : Nat) (rest : List AV), m + i = 16 /\ rest.length = 64 - i /\ Rk O Z.length p n /\ O 8 = .int .i64 i /\ Y' = mkS Z u (ws (zu q i) ++ rest)) 16 ?_ ?_
  · exact ⟨0, cells, by omega, hc, ⟨by simp (disch:=first|omega|(simp only [lens];first|done|omega)) only [go_sem,reduceEqDiff,Nat.reduceBEq,reduceAdd,reduceMul,reduceSub,reduceLeDiff,reduceToNat,reducePow, k2], by simp (disch:=first|omega|(simp only [lens];first|done|omega)) only [go_sem,reduceEqDiff,Nat.reduceBEq,reduceAdd,reduceMul,reduceSub,reduceLeDiff,reduceToNat,reducePow, k3], by simp (disch:=first|omega|(simp only [lens];first|done|omega)) only [go_sem,reduceEqDiff,Nat.reduceBEq,reduceAdd,reduceMul,reduceSub,reduceLeDiff,reduceToNat,reducePow, k4], by simp (disch:=first|omega|(simp only [lens];first|done|omega)) only [go_sem,reduceEqDiff,Nat.reduceBEq,reduceAdd,reduceMul,reduceSub,reduceLeDiff,reduceToNat,reducePow, k5], by simp (disch:=first|omega|(simp only [lens];first|done|omega)) only [go_sem,reduceEqDiff,Nat.reduceBEq,reduceAdd,reduceMul,reduceSub,reduceLeDiff,reduceToNat,reducePow, k6], by simp (disch:=first|omega|(simp only [lens];first|done|omega)) only [go_sem,reduceEqDiff,Nat.reduceBEq,reduceAdd,reduceMul,reduceSub,reduceLeDiff,reduceToNat,reducePow, k7]⟩, by simp (disch:=first|omega|(simp only [lens];first|done|omega)) only [go_sem,reduceEqDiff,Nat.reduceBEq,reduceAdd,reduceMul,reduceSub,reduceLeDiff,reduceToNat,reducePow]; rfl, rfl⟩
  · rintro m O Y' ⟨i, rest, hm, hr, ⟨q2, q3, q4, q5, q6, q7⟩, q8, rfl⟩
    by_cases hi : i < 16
    · have hwd := zq9 (p := p) (n := n) (i := i) (by omega) hi
      rw [<- hq] at hwd
      have hset := ze5 (x := zg q i) (rest := rest) (z3o q i) (by omega)
      have hlen : (ws (zu q i) ++ rest).length = 64 := by rw [List.length_append, z3b, z3o, hr]; omega
      have hsc : zu q (i + 1) = zu q i ++ [zg q i] := by rw [zu, z2d, z3o, if_pos hi]
      have n0 : ((n : Int) + 4 * i).toNat = n + 4 * i := by omega
      have n1 : ((n : Int) + 4 * i + 1).toNat = n + 4 * i + 1 := by omega
      have n2 : ((n : Int) + 4 * i + 2).toNat = n + 4 * i + 2 := by omega
      have n3 : ((n : Int) + 4 * i + 3).toNat = n + 4 * i + 3 := by omega
      have b0 := (p.getD (n + 4 * i) 0).toNat_lt
      have b1 := (p.getD (n + 4 * i + 1) 0).toNat_lt
      have b2 := (p.getD (n + 4 * i + 2) 0).toNat_lt
      have b3 := (p.getD (n + 4 * i + 3) 0).toNat_lt
      have g0 := zen (s := p) (i := n + 4 * i) (by omega)
      have e0 := z7n (s := p) (i := n + 4 * i) (by omega)
      have e1 := z7n (s := p) (i := n + 4 * i + 1) (by omega)
      have e2 := z7n (s := p) (i := n + 4 * i + 2) (by omega)
      have e3 := z7n (s := p) (i := n + 4 * i + 3) (by omega)
      have hpb := zn p
      unfold mkS
      generalize p.getD (n + 4 * i) 0 = x0 at *
      generalize p.getD (n + 4 * i + 1) 0 = x1 at *
      generalize p.getD (n + 4 * i + 2) 0 = x2 at *
      generalize p.getD (n + 4 * i + 3) 0 = x3 at *
      generalize hpb2 : z8 p = pb at *
      generalize hcc : ws (zu q i) ++ rest = cc at *
      repeat' (first | refine zW.zs ?_ | refine zW.zb ?_ | refine zW.zc ?_ | refine zW.zt rfl ?_ | refine zW.zf rfl ?_ | (refine zW.zd rfl (fun ht => ?_) (fun ht => ?_) <;> try (exfalso; omega)) | ((first | refine zW.regS ?_ | refine zW.zk ?_ | refine zW.ze ?_ | refine zW.zq ?_ | ((first|apply zg0|apply zg1|apply zg2|apply zg3|apply zg4|apply zg5|apply zg6|apply zg7)<;>intro ht));all_goals try simp (disch:=first|omega|(simp only [lens];first|done|omega)) only [go_sem,reduceEqDiff,Nat.reduceBEq,reduceAdd,reduceMul,reduceSub,reduceLeDiff,reduceToNat,reducePow, q2, q3, q4, q5, q6, q7, q8, hlen, n0, n1, n2, n3, e0, e1, e2, e3]))
      refine ⟨16 - (i + 1), by omega, i + 1, rest.drop 1, by omega, by rw [List.length_drop]; omega, ⟨by simp (disch:=first|omega|(simp only [lens];first|done|omega)) only [go_sem,reduceEqDiff,Nat.reduceBEq,reduceAdd,reduceMul,reduceSub,reduceLeDiff,reduceToNat,reducePow, q2], by simp (disch:=first|omega|(simp only [lens];first|done|omega)) only [go_sem,reduceEqDiff,Nat.reduceBEq,reduceAdd,reduceMul,reduceSub,reduceLeDiff,reduceToNat,reducePow, q3], by simp (disch:=first|omega|(simp only [lens];first|done|omega)) only [go_sem,reduceEqDiff,Nat.reduceBEq,reduceAdd,reduceMul,reduceSub,reduceLeDiff,reduceToNat,reducePow, q4], (by simp (disch:=first|omega|(simp only [lens];first|done|omega)) only [go_sem,reduceEqDiff,Nat.reduceBEq,reduceAdd,reduceMul,reduceSub,reduceLeDiff,reduceToNat,reducePow, q5]; rw [hpb2]), by simp (disch:=first|omega|(simp only [lens];first|done|omega)) only [go_sem,reduceEqDiff,Nat.reduceBEq,reduceAdd,reduceMul,reduceSub,reduceLeDiff,reduceToNat,reducePow, q6], by simp (disch:=first|omega|(simp only [lens];first|done|omega)) only [go_sem,reduceEqDiff,Nat.reduceBEq,reduceAdd,reduceMul,reduceSub,reduceLeDiff,reduceToNat,reducePow, q7]⟩, by simp, ?_⟩
      rw [hwd, hset, hsc]
    · obtain rfl : i = 16 := by omega
      repeat' (first|refine zW.zs ?_|refine zW.zb ?_|refine zW.zc ?_|refine zW.zt rfl ?_|refine zW.zf rfl ?_|(refine zW.zd rfl (fun ht => ?_) (fun ht => ?_)<;>try (exfalso;omega))|((first|refine zW.zr ?_|refine zW.zk ?_|refine zW.ze ?_|refine zW.zq ?_|((first|apply zg0|apply zg1|apply zg2|apply zg3|apply zg4|apply zg5|apply zg6|apply zg7)<;>intro ht));all_goals try simp (disch:=first|omega|(simp only [lens];first|done|omega)) only [go_sem,reduceEqDiff,Nat.reduceBEq,reduceAdd,reduceMul,reduceSub,reduceLeDiff,reduceToNat,reducePow, q8]))
      exact hQ _ rest (by omega) ⟨by simp (disch:=first|omega|(simp only [lens];first|done|omega)) only [go_sem,reduceEqDiff,Nat.reduceBEq,reduceAdd,reduceMul,reduceSub,reduceLeDiff,reduceToNat,reducePow, q2], by simp (disch:=first|omega|(simp only [lens];first|done|omega)) only [go_sem,reduceEqDiff,Nat.reduceBEq,reduceAdd,reduceMul,reduceSub,reduceLeDiff,reduceToNat,reducePow, q3], by simp (disch:=first|omega|(simp only [lens];first|done|omega)) only [go_sem,reduceEqDiff,Nat.reduceBEq,reduceAdd,reduceMul,reduceSub,reduceLeDiff,reduceToNat,reducePow, q4], by simp (disch:=first|omega|(simp only [lens];first|done|omega)) only [go_sem,reduceEqDiff,Nat.reduceBEq,reduceAdd,reduceMul,reduceSub,reduceLeDiff,reduceToNat,reducePow, q5], by simp (disch:=first|omega|(simp only [lens];first|done|omega)) only [go_sem,reduceEqDiff,Nat.reduceBEq,reduceAdd,reduceMul,reduceSub,reduceLeDiff,reduceToNat,reducePow, q6], by simp (disch:=first|omega|(simp only [lens];first|done|omega)) only [go_sem,reduceEqDiff,Nat.reduceBEq,reduceAdd,reduceMul,reduceSub,reduceLeDiff,reduceToNat,reducePow, q7]⟩
set_option maxHeartbeats 4000000 in
theorem zo9 {q : List UInt8} {rest : List AV} (K : Rk O Z.length p n) (hr : rest.length = 48)
    (hQ : ∀ O', Rk O' Z.length p n -> Q .normal O' (mkS Z u (ws (zu q 64)))) : zW TC 252 k q6c34 Q O (mkS Z u (ws (zu q 16) ++ rest)) := by
  obtain ⟨R, hR⟩ : ∃ R, R = zu q 64 := ⟨_, rfl⟩
  rw [<- hR] at hQ
  obtain ⟨k2, k3, k4, k5, k6, k7⟩ := K
  repeat' (first|refine zW.zs ?_|refine zW.zb ?_|refine zW.zc ?_|refine zW.zt rfl ?_|refine zW.zf rfl ?_|(refine zW.zd rfl (fun ht => ?_) (fun ht => ?_)<;>try (exfalso;omega))|((first|refine zW.zr ?_|refine zW.zk ?_|refine zW.ze ?_|refine zW.zq ?_|((first|apply zg0|apply zg1|apply zg2|apply zg3|apply zg4|apply zg5|apply zg6|apply zg7)<;>intro ht));all_goals try simp (disch:=first|omega|(simp only [lens];first|done|omega)) only [go_sem,reduceEqDiff,Nat.reduceBEq,reduceAdd,reduceMul,reduceSub,reduceLeDiff,reduceToNat,reducePow]))
  refine zW.loop (fun m O Y' => ∃ (i : Nat) (rest : List AV), m + i = 64 /\ 16 <= i /\ rest.length = 64 - i /\ Rk O Z.length p n /\ O 10 = .int .i64 i /\ Y' = mkS Z u (ws (zu q i) ++ rest)) 48 ?_ ?_
  · exact ⟨16, rest, by omega, by omega, hr, ⟨by simp (disch:=first|omega|(simp only [lens];first|done|omega)) only [go_sem,reduceEqDiff,Nat.reduceBEq,reduceAdd,reduceMul,reduceSub,reduceLeDiff,reduceToNat,reducePow, k2], by simp (disch:=first|omega|(simp only [lens];first|done|omega)) only [go_sem,reduceEqDiff,Nat.reduceBEq,reduceAdd,reduceMul,reduceSub,reduceLeDiff,reduceToNat,reducePow, k3], by simp (disch:=first|omega|(simp only [lens];first|done|omega)) only [go_sem,reduceEqDiff,Nat.reduceBEq,reduceAdd,reduceMul,reduceSub,reduceLeDiff,reduceToNat,reducePow, k4], by simp (disch:=first|omega|(simp only [lens];first|done|omega)) only [go_sem,reduceEqDiff,Nat.reduceBEq,reduceAdd,reduceMul,reduceSub,reduceLeDiff,reduceToNat,reducePow, k5], by simp (disch:=first|omega|(simp only [lens];first|done|omega)) only [go_sem,reduceEqDiff,Nat.reduceBEq,reduceAdd,reduceMul,reduceSub,reduceLeDiff,reduceToNat,reducePow, k6], by simp (disch:=first|omega|(simp only [lens];first|done|omega)) only [go_sem,reduceEqDiff,Nat.reduceBEq,reduceAdd,reduceMul,reduceSub,reduceLeDiff,reduceToNat,reducePow, k7]⟩, by simp (disch:=first|omega|(simp only [lens];first|done|omega)) only [go_sem,reduceEqDiff,Nat.reduceBEq,reduceAdd,reduceMul,reduceSub,reduceLeDiff,reduceToNat,reducePow]; rfl, rfl⟩
  · clear hr
    rintro m O Y' ⟨i, rest, hm, h16, hr, ⟨q2, q3, q4, q5, q6, q7⟩, q10, rfl⟩
    have hsl := z3o q i
    by_cases hi : i < 64
    · have hset := ze5 (x := z2d q (zu q i)) (rest := rest) hsl (by omega)
      have hlen : (ws (zu q i) ++ rest).length = 64 := by rw [List.length_append, z3b, z3o, hr]; omega
      have hsc : zu q (i + 1) = zu q i ++ [z2d q (zu q i)] := by rw [zu]
      have en : z2d q (zu q i) = wat (zu q i) (i - 16) + wat (zu q i) (i - 7) + ss0 (wat (zu q i) (i - 15)) + ss1 (wat (zu q i) (i - 2)) := by rw [z2d, if_neg (by omega), hsl]
      have hwi : ∀ j, j < i -> (ws (zu q i) ++ rest)[j]? = some (.int .u32 (wat (zu q i) j).toNat) := by
        intro j hj
        rw [List.getElem?_append_left (by rw [z3b]; omega), z77 (by omega)]
      have g16 := hwi (i - 16) (by omega)
      have g7 := hwi (i - 7) (by omega)
      have g15 := hwi (i - 15) (by omega)
      have g2 := hwi (i - 2) (by omega)
      have t16 : ((i : Int) - 16).toNat = i - 16 := by omega
      have t7 : ((i : Int) - 7).toNat = i - 7 := by omega
      have t15 : ((i : Int) - 15).toNat = i - 15 := by omega
      have t2 : ((i : Int) - 2).toNat = i - 2 := by omega
      have r7 : 32 - (7 : Int).toNat = 25 := rfl
      clear hwi
      generalize z2d q (zu q i) = nx at *
      generalize wat (zu q i) (i - 16) = w16 at *
      generalize wat (zu q i) (i - 7) = w7 at *
      generalize wat (zu q i) (i - 15) = w15 at *
      generalize wat (zu q i) (i - 2) = w2 at *
      unfold mkS
      generalize hpb2 : z8 p = pb at *
      generalize hcc : ws (zu q i) ++ rest = cc at *
      repeat' (first | refine zW.zs ?_ | refine zW.zb ?_ | refine zW.zc ?_ | refine zW.zt rfl ?_ | refine zW.zf rfl ?_ | (refine zW.zd rfl (fun ht => ?_) (fun ht => ?_) <;> try (exfalso; omega)) | ((first | refine zW.regS ?_ | refine zW.zk ?_ | refine zW.ze ?_ | refine zW.zq ?_ | (apply callW.mk_pu; (first | exact (fun _ => zaa _ _ _ (by omega)))) | (apply callW.za; (first | exact (zaa _ _ _ (by omega)))) | ((first|apply zg0|apply zg1|apply zg2|apply zg3|apply zg4|apply zg5|apply zg6|apply zg7)<;>intro ht));all_goals try simp (disch:=first|omega|(simp only [lens];first|done|omega)) only [go_sem,reduceEqDiff,Nat.reduceBEq,reduceAdd,reduceMul,reduceSub,reduceLeDiff,reduceToNat,reducePow, q2, q3, q4, q5, q6, q7, q10, hlen, g16, g7, g15, g2, t16, t7, t15, t2]))
      refine ⟨64 - (i + 1), by omega, i + 1, rest.drop 1, by omega, by omega, by rw [List.length_drop]; omega, ⟨by simp (disch:=first|omega|(simp only [lens];first|done|omega)) only [go_sem,reduceEqDiff,Nat.reduceBEq,reduceAdd,reduceMul,reduceSub,reduceLeDiff,reduceToNat,reducePow, q2], by simp (disch:=first|omega|(simp only [lens];first|done|omega)) only [go_sem,reduceEqDiff,Nat.reduceBEq,reduceAdd,reduceMul,reduceSub,reduceLeDiff,reduceToNat,reducePow, q3], by simp (disch:=first|omega|(simp only [lens];first|done|omega)) only [go_sem,reduceEqDiff,Nat.reduceBEq,reduceAdd,reduceMul,reduceSub,reduceLeDiff,reduceToNat,reducePow, q4], (by simp (disch:=first|omega|(simp only [lens];first|done|omega)) only [go_sem,reduceEqDiff,Nat.reduceBEq,reduceAdd,reduceMul,reduceSub,reduceLeDiff,reduceToNat,reducePow, q5]; rw [hpb2]), by simp (disch:=first|omega|(simp only [lens];first|done|omega)) only [go_sem,reduceEqDiff,Nat.reduceBEq,reduceAdd,reduceMul,reduceSub,reduceLeDiff,reduceToNat,reducePow, q6], by simp (disch:=first|omega|(simp only [lens];first|done|omega)) only [go_sem,reduceEqDiff,Nat.reduceBEq,reduceAdd,reduceMul,reduceSub,reduceLeDiff,reduceToNat,reducePow, q7]⟩, by simp, ?_⟩
      rw [hsc, <- hset, en]
      have ec : ∀ s t : W, w16 + s + w7 + t = w16 + w7 + s + t := fun s t => by rw [BitVec.add_assoc w16 s w7, BitVec.add_comm s w7, <- BitVec.add_assoc w16 w7 s]
      rw [ec]
      rfl
    · obtain rfl : i = 64 := by omega
      have hr0 : rest = [] := List.eq_nil_of_length_eq_zero (by omega)
      rw [hr0, <- hR, List.append_nil]
      clear hsl hR
      repeat' (first|refine zW.zs ?_|refine zW.zb ?_|refine zW.zc ?_|refine zW.zt rfl ?_|refine zW.zf rfl ?_|(refine zW.zd rfl (fun ht => ?_) (fun ht => ?_)<;>try (exfalso;omega))|((first|refine zW.zr ?_|refine zW.zk ?_|refine zW.ze ?_|refine zW.zq ?_|((first|apply zg0|apply zg1|apply zg2|apply zg3|apply zg4|apply zg5|apply zg6|apply zg7)<;>intro ht));all_goals try simp (disch:=first|omega|(simp only [lens];first|done|omega)) only [go_sem,reduceEqDiff,Nat.reduceBEq,reduceAdd,reduceMul,reduceSub,reduceLeDiff,reduceToNat,reducePow, q10]))
      exact hQ _ ⟨by simp (disch:=first|omega|(simp only [lens];first|done|omega)) only [go_sem,reduceEqDiff,Nat.reduceBEq,reduceAdd,reduceMul,reduceSub,reduceLeDiff,reduceToNat,reducePow, q2], by simp (disch:=first|omega|(simp only [lens];first|done|omega)) only [go_sem,reduceEqDiff,Nat.reduceBEq,reduceAdd,reduceMul,reduceSub,reduceLeDiff,reduceToNat,reducePow, q3], by simp (disch:=first|omega|(simp only [lens];first|done|omega)) only [go_sem,reduceEqDiff,Nat.reduceBEq,reduceAdd,reduceMul,reduceSub,reduceLeDiff,reduceToNat,reducePow, q4], by simp (disch:=first|omega|(simp only [lens];first|done|omega)) only [go_sem,reduceEqDiff,Nat.reduceBEq,reduceAdd,reduceMul,reduceSub,reduceLeDiff,reduceToNat,reducePow, q5], by simp (disch:=first|omega|(simp only [lens];first|done|omega)) only [go_sem,reduceEqDiff,Nat.reduceBEq,reduceAdd,reduceMul,reduceSub,reduceLeDiff,reduceToNat,reducePow, q6], by simp (disch:=first|omega|(simp only [lens];first|done|omega)) only [go_sem,reduceEqDiff,Nat.reduceBEq,reduceAdd,reduceMul,reduceSub,reduceLeDiff,reduceToNat,reducePow, q7]⟩
end
end Am
end Go.Proofs.YtncenefkbpelbaaDoor
end
section
/- SHA-256: the reference's Sum: the rounds. -/
namespace Go.Proofs.YtncenefkbpelbaaDoor
namespace Am
theorem k_get {i : Nat} (h : i < 64) : gl_sha_rounds[i]? = some (.int .u32 (kAt i).toNat) := by
  have := zez h
  rwa [List.getElem?_drop, Nat.add_zero] at this
section
variable {k : Nat} {Q : AExit -> Env -> Store -> Prop} {O : Env} {Z : Store} {u : V8} {p : List UInt8} {n : Nat}
set_option maxHeartbeats 8000000 in
theorem zo8 {q : List UInt8} (K : Rk O Z.length p n)
    (hQ : ∀ O', Rk O' Z.length p n -> Q .normal O' (mkS Z (mixS u q) (ws (zu q 64)))) : zW TC 252 k q6c53 Q O (mkS Z u (ws (zu q 64))) := by
  obtain ⟨R, hR⟩ : ∃ R, R = zu q 64 := ⟨_, rfl⟩
  have hRl : R.length = 64 := by rw [hR, z3o]
  have hwR : (ws R).length = 64 := by rw [z3b, hRl]
  have hst : ∀ n, rnds q u (n + 1) = rnd (rnds q u n) (kAt n) (wat R n) := fun n => by rw [rnds, hR]
  obtain ⟨U, hU⟩ : ∃ U, U = rnds q u 64 := ⟨_, rfl⟩
  have hmix : mixS u q = U.add u := by rw [mixS, hU]
  rw [hmix] at hQ
  rw [<- hR] at hQ ⊢
  obtain ⟨k2, k3, k4, k5, k6, k7⟩ := K
  unfold mkS
  refine zW.zs ?_
  (refine zW.regS ?_; (simp (disch:=first|omega|(simp only [lens];first|done|omega)) only [go_sem,reduceEqDiff,Nat.reduceBEq,reduceAdd,reduceMul,reduceSub,reduceLeDiff,reduceToNat,reducePow, k4, V8.c8]))
  (refine zW.slots [2, 3, 4, 5, 6, 7, 13, 14, 15, 16, 17, 18, 19, 20] ?_; intro O1 hs; simp (disch:=first|omega|(simp only [lens];first|done|omega)) only [go_sem,reduceEqDiff,Nat.reduceBEq,reduceAdd,reduceMul,reduceSub,reduceLeDiff,reduceToNat,reducePow, k2, k3, k4, k5, k6, k7] at hs; obtain ⟨s2, s3, s4, s5, s6, s7, s13, s14, s15, s16, s17, s18, s19, s20⟩ := hs)
  refine zW.zs ?_
  refine zW.zs ?_
  (refine zW.regS ?_; (simp (disch:=first|omega|(simp only [lens];first|done|omega)) only [go_sem,reduceEqDiff,Nat.reduceBEq,reduceAdd,reduceMul,reduceSub,reduceLeDiff,reduceToNat,reducePow]))
  refine zW.zb ?_
  refine zW.loop (fun m O Y' => ∃ i : Nat, m + i = 64 /\ Rk O Z.length p n /\ O 21 = .int .i64 i /\ O 13 = .int .u32 (rnds q u i).a.toNat /\ O 14 = .int .u32 (rnds q u i).b.toNat /\ O 15 = .int .u32 (rnds q u i).c.toNat /\ O 16 = .int .u32 (rnds q u i).d.toNat ∧
    O 17 = .int .u32 (rnds q u i).e.toNat /\ O 18 = .int .u32 (rnds q u i).f.toNat /\ O 19 = .int .u32 (rnds q u i).g.toNat /\ O 20 = .int .u32 (rnds q u i).h.toNat /\ Y' = mkS Z u (ws R)) 64 ?_ ?_
  · exact ⟨0, by omega, ⟨by simp (disch:=first|omega|(simp only [lens];first|done|omega)) only [go_sem,reduceEqDiff,Nat.reduceBEq,reduceAdd,reduceMul,reduceSub,reduceLeDiff,reduceToNat,reducePow, s2], by simp (disch:=first|omega|(simp only [lens];first|done|omega)) only [go_sem,reduceEqDiff,Nat.reduceBEq,reduceAdd,reduceMul,reduceSub,reduceLeDiff,reduceToNat,reducePow, s3], by simp (disch:=first|omega|(simp only [lens];first|done|omega)) only [go_sem,reduceEqDiff,Nat.reduceBEq,reduceAdd,reduceMul,reduceSub,reduceLeDiff,reduceToNat,reducePow, s4], by simp (disch:=first|omega|(simp only [lens];first|done|omega)) only [go_sem,reduceEqDiff,Nat.reduceBEq,reduceAdd,reduceMul,reduceSub,reduceLeDiff,reduceToNat,reducePow, s5], by simp (disch:=first|omega|(simp only [lens];first|done|omega)) only [go_sem,reduceEqDiff,Nat.reduceBEq,reduceAdd,reduceMul,reduceSub,reduceLeDiff,reduceToNat,reducePow, s6], by simp (disch:=first|omega|(simp only [lens];first|done|omega)) only [go_sem,reduceEqDiff,Nat.reduceBEq,reduceAdd,reduceMul,reduceSub,reduceLeDiff,reduceToNat,reducePow, s7]⟩, by simp (disch:=first|omega|(simp only [lens];first|done|omega)) only [go_sem,reduceEqDiff,Nat.reduceBEq,reduceAdd,reduceMul,reduceSub,reduceLeDiff,reduceToNat,reducePow]; rfl, by simp (disch:=first|omega|(simp only [lens];first|done|omega)) only [go_sem,reduceEqDiff,Nat.reduceBEq,reduceAdd,reduceMul,reduceSub,reduceLeDiff,reduceToNat,reducePow, s13]; rfl, by simp (disch:=first|omega|(simp only [lens];first|done|omega)) only [go_sem,reduceEqDiff,Nat.reduceBEq,reduceAdd,reduceMul,reduceSub,reduceLeDiff,reduceToNat,reducePow, s14]; rfl, by simp (disch:=first|omega|(simp only [lens];first|done|omega)) only [go_sem,reduceEqDiff,Nat.reduceBEq,reduceAdd,reduceMul,reduceSub,reduceLeDiff,reduceToNat,reducePow, s15]; rfl, by simp (disch:=first|omega|(simp only [lens];first|done|omega)) only [go_sem,reduceEqDiff,Nat.reduceBEq,reduceAdd,reduceMul,reduceSub,reduceLeDiff,reduceToNat,reducePow, s16]; rfl, by simp (disch:=first|omega|(simp only [lens];first|done|omega)) only [go_sem,reduceEqDiff,Nat.reduceBEq,reduceAdd,reduceMul,reduceSub,reduceLeDiff,reduceToNat,reducePow, s17]; rfl, by simp (disch:=first|omega|(simp only [lens];first|done|omega)) only [go_sem,reduceEqDiff,Nat.reduceBEq,reduceAdd,reduceMul,reduceSub,reduceLeDiff,reduceToNat,reducePow, s18]; rfl, by simp (disch:=first|omega|(simp only [lens];first|done|omega)) only [go_sem,reduceEqDiff,Nat.reduceBEq,reduceAdd,reduceMul,reduceSub,reduceLeDiff,reduceToNat,reducePow, s19]; rfl, by simp (disch:=first|omega|(simp only [lens];first|done|omega)) only [go_sem,reduceEqDiff,Nat.reduceBEq,reduceAdd,reduceMul,reduceSub,reduceLeDiff,reduceToNat,reducePow, s20]; rfl, rfl⟩
  · clear s2 s3 s4 s5 s6 s7 s13 s14 s15 s16 s17 s18 s19 s20
    rintro m O Y' ⟨i, hm, ⟨q2, q3, q4, q5, q6, q7⟩, q21, q13, q14, q15, q16, q17, q18, q19, q20, rfl⟩
    by_cases hi : i < 64
    · have hk := k_get hi
      have hw := z77 (w := R) (i := i) (by omega)
      have hst := hst i
      generalize rnds q u i = v at *
      obtain ⟨a, b, c, d, e, f, g, h⟩ := v
      simp only at q13 q14 q15 q16 q17 q18 q19 q20
      generalize kAt i = kk at *
      generalize wat R i = ww at *
      generalize hpb : z8 p = pb at *
      unfold mkS
      refine zW.zs ?_
      refine zW.zs ?_
      (refine zW.regS ?_; (simp (disch:=first|omega|(simp only [lens];first|done|omega)) only [go_sem,reduceEqDiff,Nat.reduceBEq,reduceAdd,reduceMul,reduceSub,reduceLeDiff,reduceToNat,reducePow, q21]))
      refine zW.zt rfl ?_
      refine zW.zk ?_
      simp (disch:=first|omega|(simp only [lens];first|done|omega)) only [go_sem,reduceEqDiff,Nat.reduceBEq,reduceAdd,reduceMul,reduceSub,reduceLeDiff,reduceToNat,reducePow]
      refine zW.zs ?_
      refine zW.zb ?_
      refine zW.zs ?_
      (refine zW.regS ?_; (simp (disch:=first|omega|(simp only [lens];first|done|omega)) only [go_sem,reduceEqDiff,Nat.reduceBEq,reduceAdd,reduceMul,reduceSub,reduceLeDiff,reduceToNat,reducePow, q3, q6, q17, q18, q19, q20, q21, hwR, hk, hw, z80]); repeat' (apply callW.za; (first | exact (zaa _ _ _ (by omega))); all_goals try (simp (disch:=first|omega|(simp only [lens];first|done|omega)) only [go_sem,reduceEqDiff,Nat.reduceBEq,reduceAdd,reduceMul,reduceSub,reduceLeDiff,reduceToNat,reducePow, q3, q6, q17, q18, q19, q20, q21, hwR, hk, hw, z80])))
      (refine zW.slots [2, 3, 4, 5, 6, 7, 13, 14, 15, 16, 17, 18, 19, 20, 21, 22] ?_; intro O2 hs; simp (disch:=first|omega|(simp only [lens];first|done|omega)) only [go_sem,reduceEqDiff,Nat.reduceBEq,reduceAdd,reduceMul,reduceSub,reduceLeDiff,reduceToNat,reducePow, q2, q3, q4, q5, q6, q7, q13, q14, q15, q16, q17, q18, q19, q20, q21] at hs; obtain ⟨s2, s3, s4, s5, s6, s7, s13, s14, s15, s16, s17, s18, s19, s20, s21, s22⟩ := hs)
      refine zW.zs ?_
      (refine zW.regS ?_; (simp (disch:=first|omega|(simp only [lens];first|done|omega)) only [go_sem,reduceEqDiff,Nat.reduceBEq,reduceAdd,reduceMul,reduceSub,reduceLeDiff,reduceToNat,reducePow, s13, s14, s15]); repeat' (apply callW.za; (first | exact (zaa _ _ _ (by omega))); all_goals try (simp (disch:=first|omega|(simp only [lens];first|done|omega)) only [go_sem,reduceEqDiff,Nat.reduceBEq,reduceAdd,reduceMul,reduceSub,reduceLeDiff,reduceToNat,reducePow, s13, s14, s15])))
      (refine zW.slots [2, 3, 4, 5, 6, 7, 13, 14, 15, 16, 17, 18, 19, 20, 21, 22, 23] ?_; intro O3 hs; simp (disch:=first|omega|(simp only [lens];first|done|omega)) only [go_sem,reduceEqDiff,Nat.reduceBEq,reduceAdd,reduceMul,reduceSub,reduceLeDiff,reduceToNat,reducePow, s2, s3, s4, s5, s6, s7, s13, s14, s15, s16, s17, s18, s19, s20, s21, s22] at hs; obtain ⟨s2, s3, s4, s5, s6, s7, s13, s14, s15, s16, s17, s18, s19, s20, s21, s22, s23⟩ := hs)
      (refine zW.regS ?_; (simp (disch:=first|omega|(simp only [lens];first|done|omega)) only [go_sem,reduceEqDiff,Nat.reduceBEq,reduceAdd,reduceMul,reduceSub,reduceLeDiff,reduceToNat,reducePow, s13, s14, s15, s16, s17, s18, s19, s22, s23]))
      (refine zW.slots [2, 3, 4, 5, 6, 7, 13, 14, 15, 16, 17, 18, 19, 20, 21] ?_; intro O4 hs; simp (disch:=first|omega|(simp only [lens];first|done|omega)) only [go_sem,reduceEqDiff,Nat.reduceBEq,reduceAdd,reduceMul,reduceSub,reduceLeDiff,reduceToNat,reducePow, s2, s3, s4, s5, s6, s7, s21] at hs; obtain ⟨s2, s3, s4, s5, s6, s7, s13, s14, s15, s16, s17, s18, s19, s20, s21⟩ := hs)
      (refine zW.regS ?_; (simp (disch:=first|omega|(simp only [lens];first|done|omega)) only [go_sem,reduceEqDiff,Nat.reduceBEq,reduceAdd,reduceMul,reduceSub,reduceLeDiff,reduceToNat,reducePow, s21]))
      refine ⟨64 - (i + 1), by omega, i + 1, by omega, ⟨s2, s3, s4, by rw [hpb]; exact s5, s6, s7⟩, by simp, ?_⟩
      rw [hst]
      simp only [rnd, bs1, chW, bs0, majW]
      exact ⟨s13, s14, s15, s16, s17, s18, s19, s20⟩
    · obtain rfl : i = 64 := by omega
      rw [<- hU] at q13 q14 q15 q16 q17 q18 q19 q20
      clear hst hU hmix
      obtain ⟨a, b, c, d, e, f, g, h⟩ := U
      obtain ⟨a', b', c', d', e', f', g', h'⟩ := u
      simp only at q13 q14 q15 q16 q17 q18 q19 q20
      unfold mkS
      unfold mkS at hQ
      simp only [V8.add, V8.c8] at hQ
      simp only [V8.c8]
      generalize hpb : z8 p = pb at *
      refine zW.zs ?_
      refine zW.zs ?_
      (refine zW.regS ?_; (simp (disch:=first|omega|(simp only [lens];first|done|omega)) only [go_sem,reduceEqDiff,Nat.reduceBEq,reduceAdd,reduceMul,reduceSub,reduceLeDiff,reduceToNat,reducePow, q21]))
      refine zW.zf rfl ?_
      refine zW.ze ?_
      simp (disch:=first|omega|(simp only [lens];first|done|omega)) only [go_sem,reduceEqDiff,Nat.reduceBEq,reduceAdd,reduceMul,reduceSub,reduceLeDiff,reduceToNat,reducePow]
      (refine zW.regS ?_; (simp (disch:=first|omega|(simp only [lens];first|done|omega)) only [go_sem,reduceEqDiff,Nat.reduceBEq,reduceAdd,reduceMul,reduceSub,reduceLeDiff,reduceToNat,reducePow, q4, q13, q14, q15, q16, q17, q18, q19, q20]))
      rw [BitVec.add_comm a' a, BitVec.add_comm b' b, BitVec.add_comm c' c, BitVec.add_comm d' d, BitVec.add_comm e' e, BitVec.add_comm f' f, BitVec.add_comm g' g, BitVec.add_comm h' h]
      exact hQ _ ⟨by simp (disch:=first|omega|(simp only [lens];first|done|omega)) only [go_sem,reduceEqDiff,Nat.reduceBEq,reduceAdd,reduceMul,reduceSub,reduceLeDiff,reduceToNat,reducePow, q2], by simp (disch:=first|omega|(simp only [lens];first|done|omega)) only [go_sem,reduceEqDiff,Nat.reduceBEq,reduceAdd,reduceMul,reduceSub,reduceLeDiff,reduceToNat,reducePow, q3], by simp (disch:=first|omega|(simp only [lens];first|done|omega)) only [go_sem,reduceEqDiff,Nat.reduceBEq,reduceAdd,reduceMul,reduceSub,reduceLeDiff,reduceToNat,reducePow, q4], (by simp (disch:=first|omega|(simp only [lens];first|done|omega)) only [go_sem,reduceEqDiff,Nat.reduceBEq,reduceAdd,reduceMul,reduceSub,reduceLeDiff,reduceToNat,reducePow, q5]; rw [hpb]), by simp (disch:=first|omega|(simp only [lens];first|done|omega)) only [go_sem,reduceEqDiff,Nat.reduceBEq,reduceAdd,reduceMul,reduceSub,reduceLeDiff,reduceToNat,reducePow, q6], by simp (disch:=first|omega|(simp only [lens];first|done|omega)) only [go_sem,reduceEqDiff,Nat.reduceBEq,reduceAdd,reduceMul,reduceSub,reduceLeDiff,reduceToNat,reducePow, q7]⟩
end
end Am
end Go.Proofs.YtncenefkbpelbaaDoor
end
section
/- SHA-256: the reference's Sum. -/
namespace Go.Proofs.YtncenefkbpelbaaDoor
namespace Am
theorem sum_r1 {C : Ctx} {K : Env -> Store -> Prop} {H : Hist} {O : Env} {Y : Store} : zj C K q6r1 H O Y = zj C K (q6r1.drop 1) H (upd O 26 (.agg gl_sha_rounds)) Y := by kernel_rfl
theorem zjs {l : List W} {i : Nat} (h : i < 4 * l.length) : (l.flatMap fun x => be 4 x.toNat)[i]? = (be 4 (wat l (i / 4)).toNat)[i % 4]? := by
  induction l generalizing i with
  | nil => simp at h
  | cons x l ih =>
    have hb : (be 4 x.toNat).length = 4 := z3f _ _
    rw [List.flatMap_cons]
    by_cases hi : i < 4
    · rw [List.getElem?_append_left (by omega), Nat.div_eq_of_lt hi, Nat.mod_eq_of_lt hi]; rfl
    · simp only [List.length_cons] at h
      rw [List.getElem?_append_right (by omega), hb, ih (by omega), show i / 4 = (i - 4) / 4 + 1 by omega, show (i - 4) % 4 = i % 4 by omega]
      rfl
theorem zi3 (x : Nat) {j : Nat} (h : j < 4) : (be 4 x)[j]? = some (UInt8.ofNat (x / 2 ^ (24 - 8 * j))) := by
  have e : be 4 x = [UInt8.ofNat (x / 256 ^ 3), UInt8.ofNat (x / 256 ^ 2), UInt8.ofNat (x / 256 ^ 1), UInt8.ofNat (x / 256 ^ 0)] := by
    simp only [z98]
    rfl
  rw [e]
  have hj : j = 0 \/ j = 1 \/ j = 2 \/ j = 3 := by omega
  rcases hj with rfl | rfl | rfl | rfl <;> rfl
theorem zmg (v : V8) {i : Nat} (h : i < 32) : (outV v)[i]? = some (UInt8.ofNat ((wat v.l (i / 4)).toNat / 2 ^ (24 - 8 * (i % 4)))) := by
  unfold outV
  rw [zjs (by simp [V8.l]; omega), zi3 _ (Nat.mod_lt _ (by decide))]
def z3l (v : V8) (i : Nat) : List AV := zl ((outV v).take i) ++ List.replicate (32 - i) (.int .u8 0)
theorem zln (v : V8) {i : Nat} (h : i <= 32) : (z3l v i).length = 32 := by simp [z3l, zo, z45]; omega
theorem zlo (v : V8) {i : Nat} (h : i < 32) {b : Int} (hb : b = (((wat v.l (i / 4)).toNat / 2 ^ (24 - 8 * (i % 4)) % 256 : Nat) : Int)) :
    (z3l v i).take i ++ AV.int .u8 b :: (z3l v i).drop (i + 1) = z3l v (i + 1) := by
  have h1 : (zl ((outV v).take i)).length = i := by rw [zo, List.length_take, z45]; omega
  have hg := zmg v h
  have hs : (outV v).take (i + 1) = (outV v).take i ++ [UInt8.ofNat ((wat v.l (i / 4)).toNat / 2 ^ (24 - 8 * (i % 4)))] := by
    rw [List.take_add_one, hg]; rfl
  unfold z3l
  rw [List.take_append_of_le_length (by omega), List.take_of_length_le (by omega), List.drop_append, List.drop_of_length_le (by omega), h1, show i + 1 - i = 1 by omega, List.nil_append, hs]
  rw [List.drop_replicate, show 32 - i - 1 = 32 - (i + 1) by omega]
  simp [zl, hb]
set_option maxHeartbeats 8000000 in
theorem zfw (Y : Store) (s : List UInt8) (h : s.length < 900000000) : ACallsTo TC 70 [.str s] Y (.agg (zl (shaS s))) Y := by
  obtain ⟨p, hp⟩ : ∃ p, p = padS s := ⟨_, rfl⟩
  obtain ⟨hp1, hp2⟩ := zfk s
  rw [<- hp] at hp1 hp2
  obtain ⟨N, hN⟩ : ∃ N, p.length = 64 * N := ⟨p.length / 64, by omega⟩
  obtain ⟨V, hV⟩ : ∃ V, V = blocks N v0 p := ⟨_, rfl⟩
  have hS : shaS s = outV V := by
    unfold shaS
    rw [<- hp, hV]
    have : p.length / 64 = N := by omega
    rw [this]
  rw [hS]
  have hf := fun Y => pad_to Y s (by omega)
  rw [<- hp] at hf
  refine ACallsTo.of_body q6ok (by simp) fun hw _ => ?_
  refine zW.zs ?_
  refine zW.zr ?_
  simp (disch:=first|omega|(simp only [lens];first|done|omega)) only [go_sem,reduceEqDiff,Nat.reduceBEq,reduceAdd,reduceMul,reduceSub,reduceLeDiff,reduceToNat,reducePow]
  refine zW.zs ?_
  refine zW.zr ?_
  rw [sum_r1]
  simp (disch:=first|omega|(simp only [lens];first|done|omega)) only [go_sem,reduceEqDiff,Nat.reduceBEq,reduceAdd,reduceMul,reduceSub,reduceLeDiff,reduceToNat,reducePow, z80]
  refine zW.zs ?_
  refine zW.zr ?_
  simp (disch:=first|omega|(simp only [lens];first|done|omega)) only [go_sem,reduceEqDiff,Nat.reduceBEq,reduceAdd,reduceMul,reduceSub,reduceLeDiff,reduceToNat,reducePow]
  refine zW.zs ?_
  repeat' (first|refine zW.zs ?_|refine zW.zb ?_|refine zW.zc ?_|refine zW.zt rfl ?_|refine zW.zf rfl ?_|(refine zW.zd rfl (fun ht => ?_) (fun ht => ?_)<;>try (exfalso;omega))|((first|refine zW.zr ?_|refine zW.zk ?_|refine zW.ze ?_|refine zW.zq ?_|(apply callW.mk_pu; (first | exact (fun _ => hf _))) | (apply callW.za; (first | exact (hf _))) | ((first|apply zg0|apply zg1|apply zg2|apply zg3|apply zg4|apply zg5|apply zg6|apply zg7)<;>intro ht));all_goals try simp (disch:=first|omega|(simp only [lens];first|done|omega)) only [go_sem,reduceEqDiff,Nat.reduceBEq,reduceAdd,reduceMul,reduceSub,reduceLeDiff,reduceToNat,reducePow]))
  refine zW.loop (fun m O Y' => ∃ (u : V8) (n : Nat) (cells : List AV), n + 64 * m = p.length /\ Rk O Y.length p n /\ cells.length = 64 /\ blocks m u (p.drop n) = V /\ Y' = mkS Y u cells) N ?_ ?_
  · exact ⟨v0, 0, List.replicate 64 (.int .u32 0), by omega, ⟨by simp (disch:=first|omega|(simp only [lens];first|done|omega)) only [go_sem,reduceEqDiff,Nat.reduceBEq,reduceAdd,reduceMul,reduceSub,reduceLeDiff,reduceToNat,reducePow], by simp (disch:=first|omega|(simp only [lens];first|done|omega)) only [go_sem,reduceEqDiff,Nat.reduceBEq,reduceAdd,reduceMul,reduceSub,reduceLeDiff,reduceToNat,reducePow], by simp (disch:=first|omega|(simp only [lens];first|done|omega)) only [go_sem,reduceEqDiff,Nat.reduceBEq,reduceAdd,reduceMul,reduceSub,reduceLeDiff,reduceToNat,reducePow], by simp (disch:=first|omega|(simp only [lens];first|done|omega)) only [go_sem,reduceEqDiff,Nat.reduceBEq,reduceAdd,reduceMul,reduceSub,reduceLeDiff,reduceToNat,reducePow], by simp (disch:=first|omega|(simp only [lens];first|done|omega)) only [go_sem,reduceEqDiff,Nat.reduceBEq,reduceAdd,reduceMul,reduceSub,reduceLeDiff,reduceToNat,reducePow], by simp (disch:=first|omega|(simp only [lens];first|done|omega)) only [go_sem,reduceEqDiff,Nat.reduceBEq,reduceAdd,reduceMul,reduceSub,reduceLeDiff,reduceToNat,reducePow]; rfl⟩, rfl, by rw [List.drop_zero]; exact hV.symm, rfl⟩
  · rintro m O Y' ⟨u, n, cells, hn, ⟨q2, q3, q4, q5, q6, q7⟩, hc, hb, rfl⟩
    have hpb := zn p
    cases m with
    | succ m =>
      refine zW.zs ?_
      refine zW.zs ?_
      (refine zW.regS ?_; (simp (disch:=first|omega|(simp only [lens];first|done|omega)) only [go_sem,reduceEqDiff,Nat.reduceBEq,reduceAdd,reduceMul,reduceSub,reduceLeDiff,reduceToNat,reducePow, q5, q7, hpb]))
      refine zW.zt rfl ?_
      refine zW.zk ?_
      simp (disch:=first|omega|(simp only [lens];first|done|omega)) only [go_sem,reduceEqDiff,Nat.reduceBEq,reduceAdd,reduceMul,reduceSub,reduceLeDiff,reduceToNat,reducePow]
      refine zW.zs ?_
      refine zW.zb ?_
      refine zW.zs ?_
      refine zoa (p := p) (n := n) (u := u) (cells := cells) ⟨by simp (disch:=first|omega|(simp only [lens];first|done|omega)) only [go_sem,reduceEqDiff,Nat.reduceBEq,reduceAdd,reduceMul,reduceSub,reduceLeDiff,reduceToNat,reducePow, q2], by simp (disch:=first|omega|(simp only [lens];first|done|omega)) only [go_sem,reduceEqDiff,Nat.reduceBEq,reduceAdd,reduceMul,reduceSub,reduceLeDiff,reduceToNat,reducePow, q3], by simp (disch:=first|omega|(simp only [lens];first|done|omega)) only [go_sem,reduceEqDiff,Nat.reduceBEq,reduceAdd,reduceMul,reduceSub,reduceLeDiff,reduceToNat,reducePow, q4], by simp (disch:=first|omega|(simp only [lens];first|done|omega)) only [go_sem,reduceEqDiff,Nat.reduceBEq,reduceAdd,reduceMul,reduceSub,reduceLeDiff,reduceToNat,reducePow, q5], by simp (disch:=first|omega|(simp only [lens];first|done|omega)) only [go_sem,reduceEqDiff,Nat.reduceBEq,reduceAdd,reduceMul,reduceSub,reduceLeDiff,reduceToNat,reducePow, q6], by simp (disch:=first|omega|(simp only [lens];first|done|omega)) only [go_sem,reduceEqDiff,Nat.reduceBEq,reduceAdd,reduceMul,reduceSub,reduceLeDiff,reduceToNat,reducePow, q7]⟩ (by omega) (by omega) hc ?_
      intro O1 rest hr K1
      refine zW.zs ?_
      refine zo9 K1 hr ?_
      intro O2 K2
      refine zo8 K2 ?_
      intro O3 ⟨t2, t3, t4, t5, t6, t7⟩
      simp only [z25, blkQ]
      (refine zW.regS ?_; (simp (disch:=first|omega|(simp only [lens];first|done|omega)) only [go_sem,reduceEqDiff,Nat.reduceBEq,reduceAdd,reduceMul,reduceSub,reduceLeDiff,reduceToNat,reducePow, t7]))
      refine ⟨m, by omega, mixS u ((p.drop n).take 64), n + 64, ws (zu ((p.drop n).take 64) 64), by omega, ⟨by simp (disch:=first|omega|(simp only [lens];first|done|omega)) only [go_sem,reduceEqDiff,Nat.reduceBEq,reduceAdd,reduceMul,reduceSub,reduceLeDiff,reduceToNat,reducePow, t2], by simp (disch:=first|omega|(simp only [lens];first|done|omega)) only [go_sem,reduceEqDiff,Nat.reduceBEq,reduceAdd,reduceMul,reduceSub,reduceLeDiff,reduceToNat,reducePow, t3], by simp (disch:=first|omega|(simp only [lens];first|done|omega)) only [go_sem,reduceEqDiff,Nat.reduceBEq,reduceAdd,reduceMul,reduceSub,reduceLeDiff,reduceToNat,reducePow, t4], by simp (disch:=first|omega|(simp only [lens];first|done|omega)) only [go_sem,reduceEqDiff,Nat.reduceBEq,reduceAdd,reduceMul,reduceSub,reduceLeDiff,reduceToNat,reducePow, t5], by simp (disch:=first|omega|(simp only [lens];first|done|omega)) only [go_sem,reduceEqDiff,Nat.reduceBEq,reduceAdd,reduceMul,reduceSub,reduceLeDiff,reduceToNat,reducePow, t6], by simp (disch:=first|omega|(simp only [lens];first|done|omega)) only [go_sem,reduceEqDiff,Nat.reduceBEq,reduceAdd,reduceMul,reduceSub,reduceLeDiff,reduceToNat,reducePow]; rw [Int.natCast_add]; rfl⟩, by rw [z3b, z3o], ?_, rfl⟩
      rw [<- hb, blocks, List.drop_drop]
    | zero =>
      have hd : p.drop n = [] := List.drop_of_length_le (by omega)
      rw [hd] at hb
      have hu : u = V := hb
      subst hu
      clear hb hd hV
      unfold mkS
      repeat' (first|refine zW.zs ?_|refine zW.zb ?_|refine zW.zc ?_|refine zW.zt rfl ?_|refine zW.zf rfl ?_|(refine zW.zd rfl (fun ht => ?_) (fun ht => ?_)<;>try (exfalso;omega))|((first|refine zW.zr ?_|refine zW.zk ?_|refine zW.ze ?_|refine zW.zq ?_|((first|apply zg0|apply zg1|apply zg2|apply zg3|apply zg4|apply zg5|apply zg6|apply zg7)<;>intro ht));all_goals try simp (disch:=first|omega|(simp only [lens];first|done|omega)) only [go_sem,reduceEqDiff,Nat.reduceBEq,reduceAdd,reduceMul,reduceSub,reduceLeDiff,reduceToNat,reducePow, q5, q7, hpb]))
      refine zW.loop (fun m O Y' => ∃ i : Nat, m + i = 32 /\ O 2 = .ptr Y.length 0 0 /\ O 4 = .ptr (Y.length + 2) 0 0 /\ O 24 = .ptr (Y.length + 4) 0 0 /\ O 25 = .int .i64 i /\ Y' = Y ++ [some [z32], some [gl_sha_rounds], some [u.c8], some [cells], some [z3l u i]]) 32 ?_ ?_
      · exact ⟨0, by omega, by simp (disch:=first|omega|(simp only [lens];first|done|omega)) only [go_sem,reduceEqDiff,Nat.reduceBEq,reduceAdd,reduceMul,reduceSub,reduceLeDiff,reduceToNat,reducePow, q2], by simp (disch:=first|omega|(simp only [lens];first|done|omega)) only [go_sem,reduceEqDiff,Nat.reduceBEq,reduceAdd,reduceMul,reduceSub,reduceLeDiff,reduceToNat,reducePow, q4], by simp (disch:=first|omega|(simp only [lens];first|done|omega)) only [go_sem,reduceEqDiff,Nat.reduceBEq,reduceAdd,reduceMul,reduceSub,reduceLeDiff,reduceToNat,reducePow], by simp (disch:=first|omega|(simp only [lens];first|done|omega)) only [go_sem,reduceEqDiff,Nat.reduceBEq,reduceAdd,reduceMul,reduceSub,reduceLeDiff,reduceToNat,reducePow]; rfl, rfl⟩
      · clear q2 q3 q4 q5 q6 q7
        rintro m O Y' ⟨i, hm, q2, q4, q24, q25, rfl⟩
        have hlen := zln u (i := i) (by omega)
        have h8 : u.c8.length = 8 := rfl
        have hz : z32.length = 32 := rfl
        by_cases hi : i < 32
        · have hst := zlo u hi (b := ((((wat u.l (i / 4)).toNat / 2 ^ (24 - 8 * (i % 4)) % 256 : Nat)) : Int)) rfl
          have hw := z77 (w := u.l) (i := i / 4) (by simp [V8.l]; omega)
          rw [ws_l] at hw
          generalize wat u.l (i / 4) = x at *
          generalize z3l u i = cc at *
          have hd4 : ((i : Int) / 4).toNat = i / 4 := by omega
          have hsh : (24 - 8 * ((i : Int) % 4)).toNat = 24 - 8 * (i % 4) := by omega
          repeat' (first | refine zW.zs ?_ | refine zW.zb ?_ | refine zW.zc ?_ | refine zW.zt rfl ?_ | refine zW.zf rfl ?_ | (refine zW.zd rfl (fun ht => ?_) (fun ht => ?_) <;> try (exfalso; omega)) | ((first | refine zW.regS ?_ | refine zW.zk ?_ | refine zW.ze ?_ | refine zW.zq ?_ | ((first|apply zg0|apply zg1|apply zg2|apply zg3|apply zg4|apply zg5|apply zg6|apply zg7)<;>intro ht));all_goals try simp (disch:=first|omega|(simp only [lens];first|done|omega)) only [go_sem,reduceEqDiff,Nat.reduceBEq,reduceAdd,reduceMul,reduceSub,reduceLeDiff,reduceToNat,reducePow, q2, q4, q24, q25, hlen, h8, hw, hd4, hsh]))
          refine ⟨32 - (i + 1), by omega, i + 1, by omega, by simp, ?_⟩
          rw [BitVec.toNat_ushiftRight, Nat.shiftRight_eq_div_pow, <- hst, Int.natCast_emod]
          rfl
        · obtain rfl : i = 32 := by omega
          have e32 : z3l u 32 = zl (outV u) := by
            unfold z3l
            rw [List.take_of_length_le (by rw [z45]; decide)]
            exact List.append_nil _
          have hd : List.drop 32 z32 = [] := rfl
          have hl : (zl (outV u)).length = 32 := by rw [zo, z45]
          rw [e32] at *
          repeat' (first|refine zW.zs ?_|refine zW.zb ?_|refine zW.zc ?_|refine zW.zt rfl ?_|refine zW.zf rfl ?_|(refine zW.zd rfl (fun ht => ?_) (fun ht => ?_)<;>try (exfalso;omega))|((first|refine zW.zr ?_|refine zW.zk ?_|refine zW.ze ?_|refine zW.zq ?_|((first|apply zg0|apply zg1|apply zg2|apply zg3|apply zg4|apply zg5|apply zg6|apply zg7)<;>intro ht));all_goals try simp (disch:=first|omega|(simp only [lens];first|done|omega)) only [go_sem,reduceEqDiff,Nat.reduceBEq,reduceAdd,reduceMul,reduceSub,reduceLeDiff,reduceToNat,reducePow, q2, q4, q24, q25, hl, h8, hd, hz]))
          exact DownV.pure hw (z3m (z2c _))
end Am
end Go.Proofs.YtncenefkbpelbaaDoor
end
section
/- Abstract code. (Printed by wip/gen.) -/
set_option maxRecDepth 10000
namespace Go.Proofs.YtncenefkbpelbaaDoor
namespace Am



@[go_sem] def qdr0 : List AIns := [
  ⟨some 4,none,.no,.mv (.v (.bool false))⟩]
@[go_sem] def qdr1 : List AIns := [
  ⟨some 6,none,.no,.mv (.t 0)⟩,
  ⟨some 7,none,.no,.lenSl (.t 6)⟩,
  ⟨some 8,none,.no,.mv (.t 1)⟩,
  ⟨some 9,none,.no,.lenSl (.t 8)⟩,
  ⟨some 10,none,.no,.bin .neq .none (.t 7) (.t 9)⟩]
@[go_sem] def qdr2 : List AIns := [
  ⟨some 4,none,.no,.mv (.v (.bool false))⟩]
def qdc3 : ACode := .seq (.reg qdr2) .ret
def qdc4 : ACode := .cond (.t 10) qdc3 .skip
def qdc5 : ACode := .seq (.reg qdr1) qdc4
@[go_sem] def qdr6 : List AIns := [
  ⟨some 5,none,.no,.mv (.v (.int .i64 0))⟩]
@[go_sem] def qdr7 : List AIns := [
  ⟨some 11,none,.no,.mv (.t 5)⟩,
  ⟨some 12,none,.no,.mv (.t 0)⟩,
  ⟨some 13,none,.no,.lenSl (.t 12)⟩,
  ⟨some 14,none,.no,.bin .lss .none (.t 11) (.t 13)⟩]
def qdc8 : ACode := .cond (.t 14) .skip (.exit 0)
def qdc9 : ACode := .seq (.reg qdr7) qdc8
@[go_sem] def qdr10 : List AIns := [
  ⟨some 17,none,.no,.mv (.t 0)⟩,
  ⟨some 18,none,.no,.mv (.t 5)⟩,
  ⟨some 19,none,.no,.iaSl 32 (.t 17) (.t 18)⟩,
  ⟨some 20, none, .rd, .load true 32 (.t 19)⟩,
  ⟨some 21,none,.no,.mv (.t 1)⟩,
  ⟨some 22,none,.no,.mv (.t 5)⟩,
  ⟨some 23,none,.no,.iaSl 32 (.t 21) (.t 22)⟩,
  ⟨some 24, none, .rd, .load true 32 (.t 23)⟩,
  ⟨some 25,none,.no,.bin .neq (.agg (List.replicate 32 (.i .u8) ++ [])) (.t 20) (.t 24)⟩]
@[go_sem] def qdr11 : List AIns := [
  ⟨some 4,none,.no,.mv (.v (.bool false))⟩]
def qdc12 : ACode := .seq (.reg qdr11) .ret
def qdc13 : ACode := .cond (.t 25) qdc12 .skip
def qdc14 : ACode := .seq (.reg qdr10) qdc13
@[go_sem] def qdr15 : List AIns := [
  ⟨some 15,none,.no,.mv (.t 5)⟩,
  ⟨some 16,none,.no,.bin .add .none (.t 15) (.v (.int .i64 1))⟩,
  ⟨some 5,none,.no,.mv (.t 16)⟩]
def qdc16 : ACode := .seq (.block 1 qdc14) (.reg qdr15)
def qdc17 : ACode := .seq qdc9 qdc16
def qdc18 : ACode := .loop qdc17
def qdc19 : ACode := .block 0 qdc18
def qdc20 : ACode := .seq (.reg qdr6) qdc19
@[go_sem] def qdr21 : List AIns := [
  ⟨some 4,none,.no,.mv (.v (.bool true))⟩]
def qdc22 : ACode := .seq (.reg qdr21) .ret
def qdc23 : ACode := .seq qdc20 qdc22
def qdc24 : ACode := .seq qdc5 qdc23
def qdc25 : ACode := .seq (.reg qdr0) qdc24
theorem qdok : cFn TC 98 = some (26, [.t 4], qdc25) := by kernel_rfl

@[go_sem] def qer0 : List AIns := [
  ⟨some 1,none,.no,.box (.t 0)⟩,
  ⟨some 2,none,.no,.alloc zZ0⟩]
@[go_sem] def qer1 : List AIns := [
  ⟨some 4,none,.no,.load false 1 (.t 1)⟩,
  ⟨some 5,none,.no,.lenSl (.t 4)⟩,
  ⟨some 6,none,.no,.bin .eql .none (.t 5) (.v (.int .i64 0))⟩]
@[go_sem] def qer2 : List AIns := [
  ⟨some 7,none,.no,.call (.v (.fn 87 [])) [(.v (.str []))]⟩,
  ⟨none,none,.no,.store 32 (.t 2) (.t 7)⟩]
def qec3 : ACode := .seq (.reg qer2) .ret
def qec4 : ACode := .cond (.t 6) qec3 .skip
def qec5 : ACode := .seq (.reg qer1) qec4
@[go_sem] def qer6 : List AIns := [
  ⟨some 3,none,.no,.alloc [.nilfn]⟩]
@[go_sem] def qer7 : List AIns := [
  ⟨some 8,none,.no,.mkfn 88 [(.t 1), (.t 3)]⟩,
  ⟨none,none,.no,.store 1 (.t 3) (.t 8)⟩]
@[go_sem] def qer8 : List AIns := [
  ⟨some 9,none,.no,.load false 1 (.t 3)⟩,
  ⟨some 10,none,.no,.load false 1 (.t 1)⟩,
  ⟨some 11,none,.no,.lenSl (.t 10)⟩,
  ⟨some 12,none,.no,.call (.t 9) [(.v (.int .i64 0)), (.t 11)]⟩,
  ⟨none,none,.no,.store 32 (.t 2) (.t 12)⟩]
def qec9 : ACode := .seq (.reg qer8) .ret
def qec10 : ACode := .seq (.reg qer7) qec9
def qec11 : ACode := .seq (.reg qer6) qec10
def qec12 : ACode := .seq qec5 qec11
def qec13 : ACode := .seq (.reg qer0) qec12
theorem qeok : cFn TC 45 = some (13, [.c 2 true 32], qec13) := by kernel_rfl

@[go_sem] def qfr0 : List AIns := [
  ⟨some 2,none,.no,.box (.t 0)⟩,
  ⟨some 3,none,.no,.box (.t 1)⟩,
  ⟨some 4,none,.no,.alloc zZ0⟩]
@[go_sem] def qfr1 : List AIns := [
  ⟨some 5, none, .rd, .load true 32 (.t 2)⟩,
  ⟨some 6, none, .ef, .call (.v (.fn 121 [])) [(.t 5)]⟩,
  ⟨some 7,none,.no,.bin .add .none (.v (.str [1])) (.t 6)⟩,
  ⟨some 8, none, .rd, .load true 32 (.t 3)⟩,
  ⟨some 9,none,.no,.call (.v (.fn 121 [])) [(.t 8)]⟩,
  ⟨some 10,none,.no,.bin .add .none (.t 7) (.t 9)⟩,
  ⟨some 11,none,.no,.call (.v (.fn 87 [])) [(.t 10)]⟩,
  ⟨none,none,.no,.store 32 (.t 4) (.t 11)⟩]
def qfc2 : ACode := .seq (.reg qfr1) .ret
def qfc3 : ACode := .seq (.reg qfr0) qfc2
theorem qfok : cFn TC 90 = some (12, [.c 4 true 32], qfc3) := by kernel_rfl

@[go_sem] def qgr0 : List AIns := [
  ⟨some 2,none,.no,.mv (.v (.int .i64 0))⟩]
@[go_sem] def qgr1 : List AIns := [
  ⟨some 4,none,.no,.mv (.t 0)⟩,
  ⟨some 5,none,.no,.bin .lss .none (.t 4) (.v (.int .i64 2))⟩]
@[go_sem] def qgr2 : List AIns := [
  ⟨some 2,none,.no,.mv (.v (.int .i64 0))⟩]
def qgc3 : ACode := .seq (.reg qgr2) .ret
def qgc4 : ACode := .cond (.t 5) qgc3 .skip
def qgc5 : ACode := .seq (.reg qgr1) qgc4
@[go_sem] def qgr6 : List AIns := [
  ⟨some 3,none,.no,.mv (.v (.int .i64 1))⟩]
@[go_sem] def qgr7 : List AIns := [
  ⟨some 6,none,.no,.mv (.t 3)⟩,
  ⟨some 7,none,.no,.mv (.t 0)⟩,
  ⟨some 8,none,.no,.mv (.t 3)⟩,
  ⟨some 9,none,.no,.bin .sub .none (.t 7) (.t 8)⟩,
  ⟨some 10,none,.no,.bin .lss .none (.t 6) (.t 9)⟩]
def qgc8 : ACode := .cond (.t 10) .skip (.exit 0)
def qgc9 : ACode := .seq (.reg qgr7) qgc8
@[go_sem] def qgr10 : List AIns := [
  ⟨some 11,none,.no,.mv (.t 3)⟩,
  ⟨some 12,none,.no,.bin .mul .none (.t 11) (.v (.int .i64 2))⟩,
  ⟨some 3,none,.no,.mv (.t 12)⟩]
def qgc11 : ACode := .block 1 (.reg qgr10)
def qgc12 : ACode := .seq qgc9 qgc11
def qgc13 : ACode := .loop qgc12
@[go_sem] def qgr14 : List AIns := [
  ⟨some 13,none,.no,.mv (.t 3)⟩,
  ⟨some 2,none,.no,.mv (.t 13)⟩]
def qgc15 : ACode := .seq (.reg qgr14) .ret
def qgc16 : ACode := .seq (.block 0 qgc13) qgc15
def qgc17 : ACode := .seq (.reg qgr6) qgc16
def qgc18 : ACode := .seq qgc5 qgc17
def qgc19 : ACode := .seq (.reg qgr0) qgc18
theorem qgok : cFn TC 89 = some (14, [.t 2], qgc19) := by kernel_rfl

@[go_sem] def qhr0 : List AIns := [
  ⟨some 6,none,.no,.alloc zZ0⟩]
@[go_sem] def qhr1 : List AIns := [
  ⟨some 8,none,.no,.mv (.t 1)⟩,
  ⟨some 9,none,.no,.mv (.t 0)⟩,
  ⟨some 10,none,.no,.bin .sub .none (.t 8) (.t 9)⟩,
  ⟨some 11,none,.no,.call (.v (.fn 89 [])) [(.t 10)]⟩,
  ⟨some 7,none,.no,.mv (.t 11)⟩]
@[go_sem] def qhr2 : List AIns := [
  ⟨some 12,none,.no,.mv (.t 7)⟩,
  ⟨some 13,none,.no,.bin .eql .none (.t 12) (.v (.int .i64 0))⟩]
@[go_sem] def qhr3 : List AIns := [
  ⟨some 14,none,.no,.load false 1 (.t 2)⟩,
  ⟨some 15,none,.no,.mv (.t 0)⟩,
  ⟨some 16,none,.no,.iaSl 32 (.t 14) (.t 15)⟩,
  ⟨some 17,none,.no,.load true 32 (.t 16)⟩,
  ⟨none,none,.no,.store 32 (.t 6) (.t 17)⟩]
def qhc4 : ACode := .seq (.reg qhr3) .ret
def qhc5 : ACode := .cond (.t 13) qhc4 .skip
def qhc6 : ACode := .seq (.reg qhr2) qhc5
@[go_sem] def qhr7 : List AIns := [
  ⟨some 18, none, .rd, .load false 1 (.t 3)⟩,
  ⟨some 19,none,.no,.mv (.t 0)⟩,
  ⟨some 20,none,.no,.mv (.t 0)⟩,
  ⟨some 21,none,.no,.mv (.t 7)⟩,
  ⟨some 22,none,.no,.bin .add .none (.t 20) (.t 21)⟩,
  ⟨some 23, none, .ef, .call (.t 18) [(.t 19), (.t 22)]⟩,
  ⟨some 24, none, .rd, .load false 1 (.t 3)⟩,
  ⟨some 25,none,.no,.mv (.t 0)⟩,
  ⟨some 26,none,.no,.mv (.t 7)⟩,
  ⟨some 27,none,.no,.bin .add .none (.t 25) (.t 26)⟩,
  ⟨some 28,none,.no,.mv (.t 1)⟩,
  ⟨some 29,none,.no,.call (.t 24) [(.t 27), (.t 28)]⟩,
  ⟨some 30,none,.no,.call (.v (.fn 90 [])) [(.t 23), (.t 29)]⟩,
  ⟨none,none,.no,.store 32 (.t 6) (.t 30)⟩]
def qhc8 : ACode := .seq (.reg qhr7) .ret
def qhc9 : ACode := .seq qhc6 qhc8
def qhc10 : ACode := .seq (.reg qhr1) qhc9
def qhc11 : ACode := .seq (.reg qhr0) qhc10
theorem qhok : cFn TC 88 = some (31, [.c 6 true 32], qhc11) := by kernel_rfl

@[go_sem] def qir0 : List AIns := [
  ⟨some 2,none,.no,.box (.t 0)⟩,
  ⟨some 3,none,.no,.box (.t 1)⟩,
  ⟨some 4,none,.no,.alloc zZ0⟩]
@[go_sem] def qir1 : List AIns := [
  ⟨some 5, none, .rd, .load true 32 (.t 2)⟩,
  ⟨some 6, none, .ef, .call (.v (.fn 116 [])) [(.t 5)]⟩,
  ⟨some 7,none,.no,.bin .add .none (.v (.str [1])) (.t 6)⟩,
  ⟨some 8, none, .rd, .load true 32 (.t 3)⟩,
  ⟨some 9,none,.no,.call (.v (.fn 116 [])) [(.t 8)]⟩,
  ⟨some 10,none,.no,.bin .add .none (.t 7) (.t 9)⟩,
  ⟨some 11,none,.no,.call (.v (.fn 70 [])) [(.t 10)]⟩,
  ⟨none,none,.no,.store 32 (.t 4) (.t 11)⟩]
def qic2 : ACode := .seq (.reg qir1) .ret
def qic3 : ACode := .seq (.reg qir0) qic2
theorem qiok : cFn TC 72 = some (12, [.c 4 true 32], qic3) := by kernel_rfl

@[go_sem] def qjr0 : List AIns := [
  ⟨some 1,none,.no,.box (.t 0)⟩,
  ⟨some 2,none,.no,.mv (.v (.str []))⟩]
@[go_sem] def qjr1 : List AIns := [
  ⟨some 3,none,.no,.mv (.v .nilsl)⟩]
@[go_sem] def qjr2 : List AIns := [
  ⟨some 4,none,.no,.mv (.v (.int .i64 0))⟩]
@[go_sem] def qjr3 : List AIns := [
  ⟨some 5,none,.no,.mv (.t 4)⟩,
  ⟨some 6,none,.no,.bin .lss .none (.t 5) (.v (.int .i64 32))⟩]
def qjc4 : ACode := .cond (.t 6) .skip (.exit 0)
def qjc5 : ACode := .seq (.reg qjr3) qjc4
@[go_sem] def qjr6 : List AIns := [
  ⟨some 9,none,.no,.mv (.t 3)⟩,
  ⟨some 10,none,.no,.mv (.t 4)⟩,
  ⟨some 11,none,.no,.iaArr 32 1 (.t 1) (.t 10)⟩,
  ⟨some 12,none,.no,.load false 1 (.t 11)⟩,
  ⟨some 13,none,.no,.lit 1 [(.t 12)]⟩,
  ⟨some 14,none,.no,.appB (.t 9) (.t 13)⟩,
  ⟨some 3,none,.no,.mv (.t 14)⟩]
@[go_sem] def qjr7 : List AIns := [
  ⟨some 7,none,.no,.mv (.t 4)⟩,
  ⟨some 8,none,.no,.bin .add .none (.t 7) (.v (.int .i64 1))⟩,
  ⟨some 4,none,.no,.mv (.t 8)⟩]
def qjc8 : ACode := .seq (.block 1 (.reg qjr6)) (.reg qjr7)
def qjc9 : ACode := .seq qjc5 qjc8
def qjc10 : ACode := .loop qjc9
def qjc11 : ACode := .block 0 qjc10
def qjc12 : ACode := .seq (.reg qjr2) qjc11
@[go_sem] def qjr13 : List AIns := [
  ⟨some 15,none,.no,.mv (.t 3)⟩,
  ⟨some 16,none,.no,.conv .str (.t 15)⟩,
  ⟨some 2,none,.no,.mv (.t 16)⟩]
def qjc14 : ACode := .seq (.reg qjr13) .ret
def qjc15 : ACode := .seq qjc12 qjc14
def qjc16 : ACode := .seq (.reg qjr1) qjc15
def qjc17 : ACode := .seq (.reg qjr0) qjc16
theorem qjok : cFn TC 116 = some (17, [.t 2], qjc17) := by kernel_rfl

@[go_sem] def qkr0 : List AIns := [
  ⟨some 1,none,.no,.box (.t 0)⟩,
  ⟨some 2,none,.no,.mv (.v (.str []))⟩]
@[go_sem] def qkr1 : List AIns := [
  ⟨some 3,none,.no,.slice (.arr 32 1) (.t 1) none none none⟩,
  ⟨some 4,none,.no,.conv .str (.t 3)⟩,
  ⟨some 2,none,.no,.mv (.t 4)⟩]
def qkc2 : ACode := .seq (.reg qkr1) .ret
def qkc3 : ACode := .seq (.reg qkr0) qkc2
theorem qkok : cFn TC 121 = some (5, [.t 2], qkc3) := by kernel_rfl

@[go_sem] def qlr0 : List AIns := [
  ⟨some 2,none,.no,.mv (.v (.int .i64 0))⟩]
@[go_sem] def qlr1 : List AIns := [
  ⟨some 3,none,.no,.mv (.v (.int .i64 0))⟩]
@[go_sem] def qlr2 : List AIns := [
  ⟨some 4,none,.no,.mv (.v (.int .i64 1))⟩]
@[go_sem] def qlr3 : List AIns := [
  ⟨some 5,none,.no,.mv (.t 4)⟩,
  ⟨some 6,none,.no,.mv (.t 0)⟩,
  ⟨some 7,none,.no,.bin .lss .none (.t 5) (.t 6)⟩,
  ⟨some 8,none,.no,.mv (.t 7)⟩,
  ⟨some 9, some (8, true), .no, .mv (.t 4)⟩,
  ⟨some 10, some (8, true), .no, .bin .gtr .none (.t 9) (.v (.int .i64 0))⟩,
  ⟨some 11,none,.no,.pick (.t 8) (.t 10) (.v (.bool false))⟩]
def qlc4 : ACode := .cond (.t 11) .skip (.exit 0)
def qlc5 : ACode := .seq (.reg qlr3) qlc4
@[go_sem] def qlr6 : List AIns := [
  ⟨some 14,none,.no,.mv (.t 4)⟩,
  ⟨some 3,none,.no,.mv (.t 14)⟩]
@[go_sem] def qlr7 : List AIns := [
  ⟨some 12,none,.no,.mv (.t 4)⟩,
  ⟨some 13,none,.no,.bin .mul .none (.t 12) (.v (.int .i64 2))⟩,
  ⟨some 4,none,.no,.mv (.t 13)⟩]
def qlc8 : ACode := .seq (.block 1 (.reg qlr6)) (.reg qlr7)
def qlc9 : ACode := .seq qlc5 qlc8
def qlc10 : ACode := .loop qlc9
def qlc11 : ACode := .block 0 qlc10
def qlc12 : ACode := .seq (.reg qlr2) qlc11
@[go_sem] def qlr13 : List AIns := [
  ⟨some 15,none,.no,.mv (.t 3)⟩,
  ⟨some 2,none,.no,.mv (.t 15)⟩]
def qlc14 : ACode := .seq (.reg qlr13) .ret
def qlc15 : ACode := .seq qlc12 qlc14
def qlc16 : ACode := .seq (.reg qlr1) qlc15
def qlc17 : ACode := .seq (.reg qlr0) qlc16
theorem qlok : cFn TC 71 = some (16, [.t 2], qlc17) := by kernel_rfl
end Am
end Go.Proofs.YtncenefkbpelbaaDoor
end
section
/- Trees: contracts: a hash's bytes, Node. -/
namespace Go.Proofs.YtncenefkbpelbaaDoor
namespace Am
theorem zck (s : List UInt8) : (shaS s).length = 32 := z45 _
def z1h (a b : List UInt8) : List UInt8 := shaS (1 :: (a ++ b))
theorem z9n (a b : List UInt8) : (z1h a b).length = 32 := zck _
theorem zay : ∀ (l : List UInt8), z2s 1 l.length (zl l) = z8 l
  | [] => rfl
  | b :: l => by
    have := zay l
    simp only [zl, z8] at this
    simp [zl, z8, z2s, B8] at this ⊢
    exact this
theorem z7x (Y : Store) (h : List UInt8) (hl : h.length = 32) : ACallsTo TC 121 [.agg (zl h)] Y (.str h) Y := by
  refine ACallsTo.of_body qkok (by simp) fun hw _ => ?_
  have h1 := zo h
  have hc := zay h
  rw [hl] at h1 hc
  repeat' (first|refine zW.zs ?_|refine zW.zb ?_|refine zW.zc ?_|refine zW.zt rfl ?_|refine zW.zf rfl ?_|(refine zW.zd rfl (fun ht => ?_) (fun ht => ?_)<;>try (exfalso;omega))|((first|refine zW.zr ?_|refine zW.zk ?_|refine zW.ze ?_|refine zW.zq ?_|((first|apply zg0|apply zg1|apply zg2|apply zg3|apply zg4|apply zg5|apply zg6|apply zg7)<;>intro ht));all_goals try simp (disch:=first|omega|(simp only [lens];first|done|omega)) only [go_sem,reduceEqDiff,Nat.reduceBEq,reduceAdd,reduceMul,reduceSub,reduceLeDiff,reduceToNat,reducePow, h1, hc]))
  exact DownV.pure hw (z12 _ rfl)
/-- Own elements behind what was there, or none yet. -/
def OwnN (sz : Nat) (Z Y' : Store) (v : AV) (es : List (List AV)) : Prop :=
  ∃ news, Y' = Z ++ news /\ ((es = [] /\ v = .nilsl) \/ ∃ j, es ≠ [] /\ v = .sl (Z.length + j) 0 es.length none sz /\ news[j]? = some (some es))
theorem OwnN.len {sz : Nat} {Z Y' : Store} {v : AV} {es : List (List AV)} (h : OwnN sz Z Y' v es) : z1q v = some (.int .i64 es.length) := by
  obtain ⟨news, rfl, ⟨rfl, rfl⟩ | ⟨j, _, rfl, h⟩⟩ := h <;> rfl
theorem OwnN.appB {sz : Nat} {Z Y' : Store} {v : AV} {es ys : List (List AV)} (h : OwnN sz Z Y' v es) : z3d Y' v ys = aApp Y' 1 v ys := by
  obtain ⟨news, rfl, ⟨rfl, rfl⟩ | ⟨j, _, rfl, h⟩⟩ := h <;> rfl
theorem OwnN.nil {sz : Nat} {Z news : Store} : OwnN sz Z (Z ++ news) .nilsl [] := ⟨news, rfl, .inl ⟨rfl, rfl⟩⟩
theorem OwnN.ext {sz : Nat} {Z Y' : Store} {v : AV} {es : List (List AV)} (h : OwnN sz Z Y' v es) : ∃ news, Y' = Z ++ news := by
  obtain ⟨news, h, _⟩ := h; exact ⟨news, h⟩
/-- What others append behind leaves it. -/
theorem OwnN.more {sz : Nat} {Z Y' : Store} {v : AV} {es : List (List AV)} (h : OwnN sz Z Y' v es) (y : Store) : OwnN sz Z (Y' ++ y) v es := by
  obtain ⟨news, rfl, h | ⟨j, h0, rfl, h⟩⟩ := h
  · exact ⟨news ++ y, by rw [List.append_assoc], .inl h⟩
  · exact ⟨news ++ y, by rw [List.append_assoc], .inr ⟨j, h0, rfl, by rw [List.getElem?_append_left (List.getElem?_eq_some_iff.1 h).1]; exact h⟩⟩
theorem OwnN.app {sz : Nat} {Z Y' : Store} {v : AV} {es ys : List (List AV)} (h : OwnN sz Z Y' v es) (h0 : ys.length ≠ 0) (hl : es.length + ys.length <= 1073741824) :
    ∃ v' Y'', aApp Y' sz v ys = some (v', Y'') /\ OwnN sz Z Y'' v' (es ++ ys) := by
  have hne : es ++ ys ≠ [] := fun e => h0 (by rw [(List.append_eq_nil_iff.1 e).2]; rfl)
  obtain ⟨news, rfl, ⟨rfl, rfl⟩ | ⟨j, _, rfl, h⟩⟩ := h
  · refine ⟨_, _, by rw [zam, if_neg h0, if_pos (by simpa using hl)], news ++ [some ys], by rw [List.append_assoc], .inr ⟨news.length, hne, by simp, by rw [List.getElem?_append_right (Nat.le_refl _)]; simp⟩⟩
  · have hj := (List.getElem?_eq_some_iff.1 h).1
    have hg : (Z ++ news)[Z.length + j]? = some (some es) := by rw [List.getElem?_append_right (by omega), Nat.add_sub_cancel_left]; exact h
    refine ⟨.sl (Z ++ news).length 0 (es.length + ys.length) none sz, (Z ++ news).set (Z.length + j) none ++ [some (es ++ ys)], ?_, news.set j none ++ [some (es ++ ys)], ?_, .inr ⟨news.length, hne, by simp, by rw [List.getElem?_append_right (by simp)]; simp⟩⟩
    · rw [z97, if_neg h0, hg]
      simp only
      rw [if_pos ⟨trivial, by omega, by omega⟩, if_neg (by omega), List.drop_zero, List.take_of_length_le (Nat.le_refl _)]
    · rw [List.set_append_right _ _ (by omega), Nat.add_sub_cancel_left, List.append_assoc]
theorem OwnN.sl {sz : Nat} {Z Y' : Store} {v : AV} {es : List (List AV)} (h : OwnN sz Z Y' v es) (h0 : es ≠ []) : ∃ r, v = .sl r 0 es.length none sz /\ Y'[r]? = some (some es) /\ Z.length <= r := by
  obtain ⟨news, rfl, ⟨rfl, rfl⟩ | ⟨j, _, rfl, h⟩⟩ := h
  · exact absurd rfl h0
  · exact ⟨_, rfl, by rw [List.getElem?_append_right (by omega), Nat.add_sub_cancel_left]; exact h, by omega⟩
/-- A slice that nobody writes. -/
def SlV (sz : Nat) (es : List (List AV)) (x : AV) : Prop := (x = .nilsl /\ es = []) \/ ∃ ex, x = .vsl sz es ex
theorem SlV.len {sz : Nat} {es : List (List AV)} {x : AV} (h : SlV sz es x) : z1q x = some (.int .i64 es.length) := by
  rcases h with ⟨rfl, rfl⟩ | ⟨ex, rfl⟩ <;> rfl
theorem SlV.vsl {sz : Nat} {es : List (List AV)} {x : AV} (h : SlV sz es x) (h0 : 0 < es.length) : ∃ ex, x = .vsl sz es ex := by
  rcases h with ⟨rfl, rfl⟩ | h
  · simp at h0
  · exact h
def z1m (sz : Nat) (es : List (List AV)) : AV := if es = [] then .nilsl else .vsl sz es false
theorem za5 (sz : Nat) (es : List (List AV)) : SlV sz es (z1m sz es) := by
  unfold z1m
  split
  · rename_i h; exact .inl ⟨rfl, h⟩
  · exact .inr ⟨false, rfl⟩
/-- A new slice for the caller: who, and the store with it. -/
def ownV (Y : Store) (sz : Nat) (es : List (List AV)) : AV := if es = [] then .nilsl else .sl Y.length 0 es.length none sz
def ownS (Y : Store) (es : List (List AV)) : Store := if es = [] then Y else Y ++ [some es]
theorem zby (Y : Store) (sz : Nat) (es : List (List AV)) : OwnN sz Y (ownS Y es) (ownV Y sz es) es := by
  unfold ownV ownS
  by_cases h : es = []
  · rw [if_pos h, if_pos h]; exact ⟨[], by simp, .inl ⟨h, rfl⟩⟩
  · rw [if_neg h, if_neg h]; exact ⟨[some es], rfl, .inr ⟨0, h, rfl, rfl⟩⟩
/-- At a function's end it is a value .. -/
theorem OwnN.froze {sz : Nat} {Y Y' : Store} {v : AV} {es : List (List AV)} (hw : Wf Y.length Y) (h : OwnN sz Y Y' v es) (hr : RLss Y.length es) : DownV Y.length v Y' (z1m sz es) Y := by
  unfold z1m
  obtain ⟨news, rfl, ⟨rfl, rfl⟩ | ⟨j, h0, rfl, h⟩⟩ := h
  · rw [if_pos rfl]; exact DownV.pure hw (z12 _ rfl)
  · have e : (es.drop 0).take es.length = es := by rw [List.drop_zero, List.take_of_length_le (Nat.le_refl _)]
    have := DownV.froze (off := 0) (len := es.length) (esz := sz) (lim := none) hw h (by omega) (by rw [e]; exact hr)
    rw [e] at this
    rw [if_neg h0]; exact this
/-- .. or its caller's own. -/
theorem OwnN.own {sz : Nat} {Y Y' : Store} {v : AV} {es : List (List AV)} (hw : Wf Y.length Y) (h : OwnN sz Y Y' v es) (hr : RLss Y.length es) : DownV Y.length v Y' (ownV Y sz es) (ownS Y es) := by
  unfold ownV ownS
  obtain ⟨news, rfl, ⟨rfl, rfl⟩ | ⟨j, h0, rfl, h⟩⟩ := h
  · rw [if_pos rfl, if_pos rfl]; exact DownV.pure hw (z12 _ rfl)
  · rw [if_neg h0, if_neg h0]; exact DownV.own (off := 0) (len := es.length) (esz := sz) (lim := none) hw h hr
theorem zi9 {l : List UInt8} {i : Nat} (h : i < l.length) : (zl l)[i]? = some (.int .u8 (l.getD i 0).toNat) := by
  simp [zl, List.getD_eq_getElem?_getD, List.getElem?_eq_getElem h]
set_option maxHeartbeats 4000000 in
theorem z9v (Y : Store) (h : List UInt8) (hl : h.length = 32) : ACallsTo TC 116 [.agg (zl h)] Y (.str h) Y := by
  refine ACallsTo.of_body qjok (by simp) fun hw _ => ?_
  have h1 := zo h
  rw [hl] at h1
  repeat' (first|refine zW.zs ?_|refine zW.zb ?_|refine zW.zc ?_|refine zW.zt rfl ?_|refine zW.zf rfl ?_|(refine zW.zd rfl (fun ht => ?_) (fun ht => ?_)<;>try (exfalso;omega))|((first|refine zW.zr ?_|refine zW.zk ?_|refine zW.ze ?_|refine zW.zq ?_|((first|apply zg0|apply zg1|apply zg2|apply zg3|apply zg4|apply zg5|apply zg6|apply zg7)<;>intro ht));all_goals try simp (disch:=first|omega|(simp only [lens];first|done|omega)) only [go_sem,reduceEqDiff,Nat.reduceBEq,reduceAdd,reduceMul,reduceSub,reduceLeDiff,reduceToNat,reducePow, h1]))
  refine zW.loop (fun m O Y' => ∃ i : Nat, m + i = 32 /\ O 1 = .ptr Y.length 0 0 /\ O 4 = .int .i64 i /\ OwnN 1 (Y ++ [some [zl h]]) Y' (O 3) (z8 (h.take i))) 32 ?_ ?_
  · refine ⟨0, by omega, by simp (disch:=first|omega|(simp only [lens];first|done|omega)) only [go_sem,reduceEqDiff,Nat.reduceBEq,reduceAdd,reduceMul,reduceSub,reduceLeDiff,reduceToNat,reducePow], by simp (disch:=first|omega|(simp only [lens];first|done|omega)) only [go_sem,reduceEqDiff,Nat.reduceBEq,reduceAdd,reduceMul,reduceSub,reduceLeDiff,reduceToNat,reducePow]; rfl, ?_⟩
    simp (disch:=first|omega|(simp only [lens];first|done|omega)) only [go_sem,reduceEqDiff,Nat.reduceBEq,reduceAdd,reduceMul,reduceSub,reduceLeDiff,reduceToNat,reducePow]
    have := OwnN.nil (sz := 1) (Z := Y ++ [some [zl h]]) (news := [])
    rwa [List.append_nil] at this
  · rintro m O Y' ⟨i, hm, q1, q4, hO⟩
    by_cases hi : i < 32
    · have hg := zi9 (l := h) (i := i) (by omega)
      have hs : h.take (i + 1) = h.take i ++ [h.getD i 0] := by
        rw [List.take_add_one, List.getD_eq_getElem?_getD, List.getElem?_eq_getElem (by omega)]; rfl
      obtain ⟨v', Y2, he, hO2⟩ := hO.app (ys := z8 [h.getD i 0]) (by simp [z8]) (by simp [zn]; omega)
      have ho : Y'[Y.length]? = some (some [zl h]) := by
        obtain ⟨news, rfl, _⟩ := hO
        rw [List.append_assoc, List.getElem?_append_right (Nat.le_refl _), Nat.sub_self]; rfl
      have hb : z8 [h.getD i 0] = [[.int .u8 (h.getD i 0).toNat]] := rfl
      rw [hb] at he
      rw [<- hO.appB] at he
      generalize h.getD i 0 = x at *
      generalize hv : O 3 = v at *
      repeat' (first|refine zW.zs ?_|refine zW.zb ?_|refine zW.zc ?_|refine zW.zt rfl ?_|refine zW.zf rfl ?_|(refine zW.zd rfl (fun ht => ?_) (fun ht => ?_)<;>try (exfalso;omega))|((first|refine zW.zr ?_|refine zW.zk ?_|refine zW.ze ?_|refine zW.zq ?_|((first|apply zg0|apply zg1|apply zg2|apply zg3|apply zg4|apply zg5|apply zg6|apply zg7)<;>intro ht));all_goals try simp (disch:=first|omega|(simp only [lens];first|done|omega)) only [go_sem,reduceEqDiff,Nat.reduceBEq,reduceAdd,reduceMul,reduceSub,reduceLeDiff,reduceToNat,reducePow, q1, q4, hv, ho, h1, hg, he]))
      refine ⟨32 - (i + 1), by omega, i + 1, by omega, by simp, ?_⟩
      rw [hs, <- z9b]
      exact hO2
    · obtain rfl : i = 32 := by omega
      rw [List.take_of_length_le (by omega)] at hO
      obtain ⟨r, q3, hg, _⟩ := hO.sl (by intro e; have := zn h; rw [e] at this; simp at this; omega)
      rw [zn] at q3
      repeat' (first|refine zW.zs ?_|refine zW.zb ?_|refine zW.zc ?_|refine zW.zt rfl ?_|refine zW.zf rfl ?_|(refine zW.zd rfl (fun ht => ?_) (fun ht => ?_)<;>try (exfalso;omega))|((first|refine zW.zr ?_|refine zW.zk ?_|refine zW.ze ?_|refine zW.zq ?_|((first|apply zg0|apply zg1|apply zg2|apply zg3|apply zg4|apply zg5|apply zg6|apply zg7)<;>intro ht));all_goals try simp (disch:=first|omega|(simp only [lens];first|done|omega)) only [go_sem,reduceEqDiff,Nat.reduceBEq,reduceAdd,reduceMul,reduceSub,reduceLeDiff,reduceToNat,reducePow, q1, q4, q3, hg]))
      obtain ⟨news, rfl, _⟩ := hO
      rw [List.append_assoc]
      exact DownV.pure hw (z12 _ rfl)
theorem zcv (Y : Store) (a b : List UInt8) (ha : a.length = 32) (hb : b.length = 32) : ACallsTo TC 90 [.agg (zl a), .agg (zl b)] Y (.agg (zl (z1h a b))) Y := by
  refine ACallsTo.of_body qfok (by simp) fun hw _ => ?_
  have h1 := zo a
  have h2 := zo b
  have h3 := zo (z1h a b)
  rw [ha] at h1
  rw [hb] at h2
  rw [z9n] at h3
  obtain ⟨n, hn⟩ : ∃ n, n = z1h a b := ⟨_, rfl⟩
  have hs : ∀ Y, ACallsTo TC 87 [.str (1 :: (a ++ b))] Y (.agg (zl n)) Y := fun Y => by rw [hn]; exact z6z Y _ (by simp; omega)
  rw [<- hn] at h3 ⊢
  repeat' (first | refine zW.zs ?_ | refine zW.zb ?_ | refine zW.zc ?_ | refine zW.zt rfl ?_ | refine zW.zf rfl ?_ | (refine zW.zd rfl (fun ht => ?_) (fun ht => ?_) <;> try (exfalso; omega)) | ((first | refine zW.regS ?_ | refine zW.zk ?_ | refine zW.ze ?_ | refine zW.zq ?_ | (apply callW.mk_pu; (first | exact (fun _ => z7x _ _ ha) | exact (fun _ => z7x _ _ hb) | exact (fun _ => hs _))) | (apply callW.za; (first | exact (z7x _ _ ha) | exact (z7x _ _ hb) | exact (hs _))) | ((first|apply zg0|apply zg1|apply zg2|apply zg3|apply zg4|apply zg5|apply zg6|apply zg7)<;>intro ht));all_goals try simp (disch:=first|omega|(simp only [lens];first|done|omega)) only [go_sem,reduceEqDiff,Nat.reduceBEq,reduceAdd,reduceMul,reduceSub,reduceLeDiff,reduceToNat,reducePow, h1, h2, h3]))
  exact DownV.pure hw (z3m (z2c _))
theorem zo5 (Y : Store) (a b : List UInt8) (ha : a.length = 32) (hb : b.length = 32) : ACallsTo TC 72 [.agg (zl a), .agg (zl b)] Y (.agg (zl (z1h a b))) Y := by
  refine ACallsTo.of_body qiok (by simp) fun hw _ => ?_
  have h1 := zo a
  have h2 := zo b
  have h3 := zo (z1h a b)
  rw [ha] at h1
  rw [hb] at h2
  rw [z9n] at h3
  obtain ⟨n, hn⟩ : ∃ n, n = z1h a b := ⟨_, rfl⟩
  have hs : ∀ Y, ACallsTo TC 70 [.str (1 :: (a ++ b))] Y (.agg (zl n)) Y := fun Y => by rw [hn]; exact zfw Y _ (by simp; omega)
  rw [<- hn] at h3 ⊢
  repeat' (first | refine zW.zs ?_ | refine zW.zb ?_ | refine zW.zc ?_ | refine zW.zt rfl ?_ | refine zW.zf rfl ?_ | (refine zW.zd rfl (fun ht => ?_) (fun ht => ?_) <;> try (exfalso; omega)) | ((first | refine zW.regS ?_ | refine zW.zk ?_ | refine zW.ze ?_ | refine zW.zq ?_ | (apply callW.mk_pu; (first | exact (fun _ => z9v _ _ ha) | exact (fun _ => z9v _ _ hb) | exact (fun _ => hs _))) | (apply callW.za; (first | exact (z9v _ _ ha) | exact (z9v _ _ hb) | exact (hs _))) | ((first|apply zg0|apply zg1|apply zg2|apply zg3|apply zg4|apply zg5|apply zg6|apply zg7)<;>intro ht));all_goals try simp (disch:=first|omega|(simp only [lens];first|done|omega)) only [go_sem,reduceEqDiff,Nat.reduceBEq,reduceAdd,reduceMul,reduceSub,reduceLeDiff,reduceToNat,reducePow, h1, h2, h3]))
  exact DownV.pure hw (z3m (z2c _))
end Am
end Go.Proofs.YtncenefkbpelbaaDoor
end
section
/- Trees: contracts: Split, Root. -/
namespace Go.Proofs.YtncenefkbpelbaaDoor
namespace Am
def zy (n : Nat) : Nat := if n < 2 then 0 else 2 ^ Nat.log2 (n - 1)
theorem z8j {n : Nat} (h : 2 <= n) : zy n < n /\ n <= 2 * zy n /\ 0 < zy n := by
  unfold zy
  rw [if_neg (by omega)]
  have h1 := Nat.log2_self_le (n := n - 1) (by omega)
  have h2 := Nat.lt_log2_self (n := n - 1)
  rw [Nat.pow_succ] at h2
  have h3 : 0 < 2 ^ Nat.log2 (n - 1) := Nat.pow_pos (by decide)
  omega
theorem zcq {n j : Nat} (h1 : 2 ^ j < n) (h2 : n <= 2 ^ (j + 1)) : zy n = 2 ^ j := by
  have h3 : 0 < 2 ^ j := Nat.pow_pos (by decide)
  unfold zy
  rw [if_neg (by omega)]
  have h4 := Nat.log2_self_le (n := n - 1) (by omega)
  have h5 := Nat.lt_log2_self (n := n - 1)
  congr 1
  generalize Nat.log2 (n - 1) = i at *
  have a1 : 2 ^ j < 2 ^ (i + 1) := by omega
  have a2 : 2 ^ i < 2 ^ (j + 1) := by omega
  have b1 := (Nat.pow_lt_pow_iff_right (by decide : 1 < 2)).1 a1
  have b2 := (Nat.pow_lt_pow_iff_right (by decide : 1 < 2)).1 a2
  omega
theorem zcx (Y : Store) (n : Nat) (h : n < 1000000000000) : ACallsTo TC 89 [.int .i64 n] Y (.int .i64 (zy n)) Y := by
  refine ACallsTo.of_body qgok (by simp) fun hw _ => ?_
  by_cases h2 : n < 2
  · have e : zy n = 0 := by unfold zy; rw [if_pos h2]
    rw [e]
    repeat' (first|refine zW.zs ?_|refine zW.zb ?_|refine zW.zc ?_|refine zW.zt rfl ?_|refine zW.zf rfl ?_|(refine zW.zd rfl (fun ht => ?_) (fun ht => ?_)<;>try (exfalso;omega))|((first|refine zW.zr ?_|refine zW.zk ?_|refine zW.ze ?_|refine zW.zq ?_|((first|apply zg0|apply zg1|apply zg2|apply zg3|apply zg4|apply zg5|apply zg6|apply zg7)<;>intro ht));all_goals try simp (disch:=first|omega|(simp only [lens];first|done|omega)) only [go_sem,reduceEqDiff,Nat.reduceBEq,reduceAdd,reduceMul,reduceSub,reduceLeDiff,reduceToNat,reducePow]))
    exact DownV.same hw (z12 _ rfl)
  · repeat' (first|refine zW.zs ?_|refine zW.zb ?_|refine zW.zc ?_|refine zW.zt rfl ?_|refine zW.zf rfl ?_|(refine zW.zd rfl (fun ht => ?_) (fun ht => ?_)<;>try (exfalso;omega))|((first|refine zW.zr ?_|refine zW.zk ?_|refine zW.ze ?_|refine zW.zq ?_|((first|apply zg0|apply zg1|apply zg2|apply zg3|apply zg4|apply zg5|apply zg6|apply zg7)<;>intro ht));all_goals try simp (disch:=first|omega|(simp only [lens];first|done|omega)) only [go_sem,reduceEqDiff,Nat.reduceBEq,reduceAdd,reduceMul,reduceSub,reduceLeDiff,reduceToNat,reducePow]))
    refine zW.loop (fun m O Y' => ∃ j : Nat, m = n - 2 ^ j /\ 2 ^ j < n /\ O 0 = .int .i64 n /\ O 3 = .int .i64 ((2 ^ j : Nat) : Int) /\ Y' = Y) (n - 1) ?_ ?_
    · exact ⟨0, rfl, by omega, by simp (disch:=first|omega|(simp only [lens];first|done|omega)) only [go_sem,reduceEqDiff,Nat.reduceBEq,reduceAdd,reduceMul,reduceSub,reduceLeDiff,reduceToNat,reducePow], by simp (disch:=first|omega|(simp only [lens];first|done|omega)) only [go_sem,reduceEqDiff,Nat.reduceBEq,reduceAdd,reduceMul,reduceSub,reduceLeDiff,reduceToNat,reducePow]; rfl, rfl⟩
    · rintro m O Y' ⟨j, hm, hj, q0, q3, rfl⟩
      have hp : 0 < 2 ^ j := Nat.pow_pos (by decide)
      have hs : 2 ^ (j + 1) = 2 ^ j * 2 := Nat.pow_succ ..
      generalize hk : 2 ^ j = k at *
      by_cases hc : (k : Int) < n - k
      · repeat' (first|refine zW.zs ?_|refine zW.zb ?_|refine zW.zc ?_|refine zW.zt rfl ?_|refine zW.zf rfl ?_|(refine zW.zd rfl (fun ht => ?_) (fun ht => ?_)<;>try (exfalso;omega))|((first|refine zW.zr ?_|refine zW.zk ?_|refine zW.ze ?_|refine zW.zq ?_|((first|apply zg0|apply zg1|apply zg2|apply zg3|apply zg4|apply zg5|apply zg6|apply zg7)<;>intro ht));all_goals try simp (disch:=first|omega|(simp only [lens];first|done|omega)) only [go_sem,reduceEqDiff,Nat.reduceBEq,reduceAdd,reduceMul,reduceSub,reduceLeDiff,reduceToNat,reducePow, q0, q3]))
        exact ⟨n - k * 2, by omega, j + 1, by rw [hs], by omega, by rw [hs]; rfl⟩
      · have e : zy n = k := by rw [<- hk]; exact zcq (by omega) (by omega)
        rw [e]
        repeat' (first|refine zW.zs ?_|refine zW.zb ?_|refine zW.zc ?_|refine zW.zt rfl ?_|refine zW.zf rfl ?_|(refine zW.zd rfl (fun ht => ?_) (fun ht => ?_)<;>try (exfalso;omega))|((first|refine zW.zr ?_|refine zW.zk ?_|refine zW.ze ?_|refine zW.zq ?_|((first|apply zg0|apply zg1|apply zg2|apply zg3|apply zg4|apply zg5|apply zg6|apply zg7)<;>intro ht));all_goals try simp (disch:=first|omega|(simp only [lens];first|done|omega)) only [go_sem,reduceEqDiff,Nat.reduceBEq,reduceAdd,reduceMul,reduceSub,reduceLeDiff,reduceToNat,reducePow, q0, q3]))
        exact DownV.same hw (z12 _ rfl)
theorem zo6 (Y : Store) (n : Nat) (h : n < 1000000000000) : ACallsTo TC 71 [.int .i64 n] Y (.int .i64 (zy n)) Y := by
  refine ACallsTo.of_body qlok (by simp) fun hw _ => ?_
  repeat' (first|refine zW.zs ?_|refine zW.zb ?_|refine zW.zc ?_|refine zW.zt rfl ?_|refine zW.zf rfl ?_|(refine zW.zd rfl (fun ht => ?_) (fun ht => ?_)<;>try (exfalso;omega))|((first|refine zW.zr ?_|refine zW.zk ?_|refine zW.ze ?_|refine zW.zq ?_|((first|apply zg0|apply zg1|apply zg2|apply zg3|apply zg4|apply zg5|apply zg6|apply zg7)<;>intro ht));all_goals try simp (disch:=first|omega|(simp only [lens];first|done|omega)) only [go_sem,reduceEqDiff,Nat.reduceBEq,reduceAdd,reduceMul,reduceSub,reduceLeDiff,reduceToNat,reducePow]))
  refine zW.loop (fun m O Y' => ∃ j k : Nat, m = n - 2 ^ j /\ ((j = 0 /\ k = 0) \/ (k < n /\ 2 ^ j = k * 2 /\ ∃ i, k = 2 ^ i)) /\ O 0 = .int .i64 n /\ O 3 = .int .i64 k /\ O 4 = .int .i64 ((2 ^ j : Nat) : Int) /\ Y' = Y) (n - 1) ?_ ?_
  · exact ⟨0, 0, rfl, .inl ⟨rfl, rfl⟩, by simp (disch:=first|omega|(simp only [lens];first|done|omega)) only [go_sem,reduceEqDiff,Nat.reduceBEq,reduceAdd,reduceMul,reduceSub,reduceLeDiff,reduceToNat,reducePow], by simp (disch:=first|omega|(simp only [lens];first|done|omega)) only [go_sem,reduceEqDiff,Nat.reduceBEq,reduceAdd,reduceMul,reduceSub,reduceLeDiff,reduceToNat,reducePow]; rfl, by simp (disch:=first|omega|(simp only [lens];first|done|omega)) only [go_sem,reduceEqDiff,Nat.reduceBEq,reduceAdd,reduceMul,reduceSub,reduceLeDiff,reduceToNat,reducePow]; rfl, rfl⟩
  · rintro m O Y' ⟨j, k, hm, hk, q0, q3, q4, rfl⟩
    have hp : 0 < 2 ^ j := Nat.pow_pos (by decide)
    have hs : 2 ^ (j + 1) = 2 ^ j * 2 := Nat.pow_succ ..
    by_cases hc : 2 ^ j < n
    · generalize hmm : 2 ^ j = mm at *
      repeat' (first|refine zW.zs ?_|refine zW.zb ?_|refine zW.zc ?_|refine zW.zt rfl ?_|refine zW.zf rfl ?_|(refine zW.zd rfl (fun ht => ?_) (fun ht => ?_)<;>try (exfalso;omega))|((first|refine zW.zr ?_|refine zW.zk ?_|refine zW.ze ?_|refine zW.zq ?_|((first|apply zg0|apply zg1|apply zg2|apply zg3|apply zg4|apply zg5|apply zg6|apply zg7)<;>intro ht));all_goals try simp (disch:=first|omega|(simp only [lens];first|done|omega)) only [go_sem,reduceEqDiff,Nat.reduceBEq,reduceAdd,reduceMul,reduceSub,reduceLeDiff,reduceToNat,reducePow, q0, q3, q4]))
      clear hk
      exact ⟨n - mm * 2, by omega, j + 1, mm, by rw [hs], .inr ⟨hc, hs, j, hmm.symm⟩, rfl, by rw [hs]; rfl⟩
    · have e : zy n = k := by
        rcases hk with ⟨rfl, rfl⟩ | ⟨h1, h2, i, rfl⟩
        · unfold zy; rw [if_pos (by simp at hc; omega)]
        · exact zcq h1 (by rw [Nat.pow_succ]; omega)
      rw [e]
      clear e hk hs
      generalize hmm : 2 ^ j = mm at *
      repeat' (first|refine zW.zs ?_|refine zW.zb ?_|refine zW.zc ?_|refine zW.zt rfl ?_|refine zW.zf rfl ?_|(refine zW.zd rfl (fun ht => ?_) (fun ht => ?_)<;>try (exfalso;omega))|((first|refine zW.zr ?_|refine zW.zk ?_|refine zW.ze ?_|refine zW.zq ?_|((first|apply zg0|apply zg1|apply zg2|apply zg3|apply zg4|apply zg5|apply zg6|apply zg7)<;>intro ht));all_goals try simp (disch:=first|omega|(simp only [lens];first|done|omega)) only [go_sem,reduceEqDiff,Nat.reduceBEq,reduceAdd,reduceMul,reduceSub,reduceLeDiff,reduceToNat,reducePow, q0, q3, q4]))
      exact DownV.same hw (z12 _ rfl)
def z66 : Nat -> List (List UInt8) -> List UInt8
  | 0, _ => []
  | _ + 1, [] => shaS []
  | _ + 1, [h] => h
  | f + 1, a :: b :: l => z1h (z66 f ((a :: b :: l).take (zy (l.length + 2)))) (z66 f ((a :: b :: l).drop (zy (l.length + 2))))
theorem za0 : ∀ (f g : Nat) (l : List (List UInt8)), l.length < f -> l.length < g -> z66 f l = z66 g l
  | 0, _, _, h, _ => by omega
  | _ + 1, 0, _, _, h => by omega
  | f + 1, g + 1, [], _, _ => rfl
  | f + 1, g + 1, [_], _, _ => rfl
  | f + 1, g + 1, a :: b :: l, h, h' => by
    obtain ⟨s1, s2, s3⟩ := z8j (n := l.length + 2) (by omega)
    simp only [List.length_cons] at h h'
    simp only [z66]
    rw [za0 f g ((a :: b :: l).take (zy (l.length + 2))) (by rw [List.length_take]; simp; omega) (by rw [List.length_take]; simp; omega),
      za0 f g ((a :: b :: l).drop (zy (l.length + 2))) (by rw [List.length_drop]; simp; omega) (by rw [List.length_drop]; simp; omega)]
/-- The root of leaves. -/
def z1x (l : List (List UInt8)) : List UInt8 := z66 (l.length + 1) l
theorem zod : z1x [] = shaS [] := rfl
theorem zcd {l : List (List UInt8)} (h : 2 <= l.length) : z1x l = z1h (z1x (l.take (zy l.length))) (z1x (l.drop (zy l.length))) := by
  match l, h with
  | a :: b :: l, _ =>
    obtain ⟨s1, s2, s3⟩ := z8j (n := l.length + 2) (by omega)
    unfold z1x
    simp only [z66, List.length_cons]
    congr 1
    · refine za0 _ _ _ ?_ (Nat.lt_succ_self _)
      rw [List.length_take]
      simp only [List.length_cons]
      omega
    · refine za0 _ _ _ ?_ (Nat.lt_succ_self _)
      rw [List.length_drop]
      simp only [List.length_cons]
      omega
def H32 (l : List (List UInt8)) : Prop := ∀ h ∈ l, h.length = 32
theorem H32.take {l : List (List UInt8)} (h : H32 l) (n : Nat) : H32 (l.take n) := fun x hx => h x (List.mem_of_mem_take hx)
theorem H32.drop {l : List (List UInt8)} (h : H32 l) (n : Nat) : H32 (l.drop n) := fun x hx => h x (List.mem_of_mem_drop hx)
theorem z8e {l : List (List UInt8)} (h : H32 l) : (z1x l).length = 32 := by
  match l, h with
  | [], _ => exact zck _
  | [x], h => exact h x (by simp)
  | a :: b :: l, _ => rw [zcd (by simp)]; exact z9n _ _
end Am
end Go.Proofs.YtncenefkbpelbaaDoor
end
section
/- Trees: contracts: Root. -/
namespace Go.Proofs.YtncenefkbpelbaaDoor
namespace Am
/-- Hashes as_ rows. -/
def z1f (l : List (List UInt8)) : List (List AV) := l.map zl
theorem z5x (l : List (List UInt8)) : (z1f l).length = l.length := by simp [z1f]
theorem zeu {l : List (List UInt8)} {i : Nat} (h : i < l.length) : (z1f l)[i]? = some (zl l[i]) := by
  simp [z1f, List.getElem?_map, List.getElem?_eq_getElem h]
theorem z8d {k : Nat} : ∀ (l : List (List UInt8)), RLss k (z1f l)
  | [] => by simp [z1f, RLss]
  | h :: l => by have := z8d (k := k) l; simp only [z1f] at this; simp [z1f, RLss, this, z2c]
set_option maxHeartbeats 4000000 in
theorem zhr (hs : List (List UInt8)) (hH : H32 hs) (hl : hs.length < 1000000000) (ex : Bool) (r1 r3 : Nat) :
    ∀ (d : Nat) (Y : Store) (a : Nat), 0 < d -> a + d <= hs.length -> Y[r1]? = some (some [[.vsl 32 (z1f hs) ex]]) -> Y[r3]? = some (some [[.fn 88 [.ptr r1 0 0, .ptr r3 0 0]]]) ->
      ACallsTo TC 88 [.int .i64 a, .int .i64 ((a + d : Nat) : Int), .ptr r1 0 0, .ptr r3 0 0] Y (.agg (zl (z1x ((hs.drop a).take d)))) Y := by
  intro d
  induction d using Nat.strongRecOn with
  | _ d ih =>
    intro Y a h0 had hg1 hg3
    have hr1 := (List.getElem?_eq_some_iff.1 hg1).1
    have hr3 := (List.getElem?_eq_some_iff.1 hg3).1
    obtain ⟨L, hL⟩ : ∃ L, L = (hs.drop a).take d := ⟨_, rfl⟩
    have hLl : L.length = d := by rw [hL, List.length_take, List.length_drop]; omega
    have hLH : H32 L := by rw [hL]; exact (hH.drop a).take d
    have hn := z8e hLH
    have hc := zo (z1x L)
    rw [hn] at hc
    rw [<- hL]
    have hsub : ((a + d : Nat) : Int) - a = d := by omega
    by_cases h1 : d = 1
    · have e0 : zy d = 0 := by unfold zy; rw [if_pos (by omega)]
      have hsp := fun Y => zcx Y d (by omega)
      rw [e0] at hsp
      obtain ⟨x, hx⟩ : ∃ x, hs[a]? = some x := ⟨_, List.getElem?_eq_getElem (by omega)⟩
      have hgr : (z1f hs)[a]? = some (zl x) := by simp [z1f, hx]
      have eL : z1x L = x := by
        have : L = [x] := by
          rw [hL, h1]
          apply List.ext_getElem?
          intro i
          cases i with
          | zero => simp [List.getElem?_take, List.getElem?_drop, hx]
          | succ i => simp [List.getElem?_take]
        rw [this]; rfl
      rw [eL] at hc ⊢
      have hrl := z5x hs
      clear eL
      generalize z1f hs = rows at *
      refine ACallsTo.of_body qhok (by simp) fun hw _ => ?_
      repeat' (first|refine zW.zs ?_|refine zW.zb ?_|refine zW.zc ?_|refine zW.zt rfl ?_|refine zW.zf rfl ?_|(refine zW.zd rfl (fun ht => ?_) (fun ht => ?_)<;>try (exfalso;omega))|((first|refine zW.zr ?_|refine zW.zk ?_|refine zW.ze ?_|refine zW.zq ?_|(apply callW.mk_pu; (first | exact (fun _ => hsp _))) | (apply callW.za; (first | exact (hsp _))) | ((first|apply zg0|apply zg1|apply zg2|apply zg3|apply zg4|apply zg5|apply zg6|apply zg7)<;>intro ht));all_goals try simp (disch:=first|omega|(simp only [lens];first|done|omega)) only [go_sem,reduceEqDiff,Nat.reduceBEq,reduceAdd,reduceMul,reduceSub,reduceLeDiff,reduceToNat,reducePow, hsub, hg1, hgr, hc]))
      exact DownV.pure hw (z3m (z2c _))
    · obtain ⟨s1, s2, s3⟩ := z8j (n := d) (by omega)
      have hsp := fun Y => zcx Y d (by omega)
      have eL := zcd (l := L) (by omega)
      rw [hLl] at eL
      have t1 : L.take (zy d) = (hs.drop a).take (zy d) := by rw [hL, List.take_take, Nat.min_eq_left (by omega)]
      have t2 : L.drop (zy d) = (hs.drop (a + zy d)).take (d - zy d) := by rw [hL, List.drop_take, List.drop_drop]
      generalize hk : zy d = k at *
      have i1 := fun y => ih k (by omega) (Y ++ y) a (by omega) (by omega) (by rw [gapp hr1]; exact hg1) (by rw [gapp hr3]; exact hg3)
      have i2 := fun y => ih (d - k) (by omega) (Y ++ y) (a + k) (by omega) (by omega) (by rw [gapp hr1]; exact hg1) (by rw [gapp hr3]; exact hg3)
      rw [<- t1] at i1
      rw [<- t2] at i2
      rw [show a + k + (d - k) = a + d by omega] at i2
      have n1 := z8e (hLH.take k)
      have n2 := z8e (hLH.drop k)
      have e1 : ((a : Int) + k) = ((a + k : Nat) : Int) := by omega
      rw [eL] at hc ⊢
      generalize z1x (L.take k) = A at *
      generalize z1x (L.drop k) = B at *
      have k0 : ¬ (k : Int) = 0 := by omega
      refine ACallsTo.of_body qhok (by simp) fun hw _ => ?_
      repeat' (first | refine zW.zs ?_ | refine zW.zb ?_ | refine zW.zc ?_ | refine zW.zt rfl ?_ | refine zW.zf rfl ?_ | (refine zW.zd rfl (fun ht => ?_) (fun ht => ?_) <;> try (exfalso; omega)) | ((first | refine zW.regS ?_ | refine zW.zk ?_ | refine zW.ze ?_ | refine zW.zq ?_ | (apply callW.mk_pu; (first | exact (fun _ => hsp _) | exact (fun _ => i1 _) | exact (fun _ => i2 _) | exact (fun _ => zcv _ _ _ n1 n2))) | (apply callW.za; (first | exact (hsp _) | exact (i1 _) | exact (i2 _) | exact (zcv _ _ _ n1 n2))) | ((first|apply zg0|apply zg1|apply zg2|apply zg3|apply zg4|apply zg5|apply zg6|apply zg7)<;>intro ht));all_goals try simp (disch:=first|omega|(simp only [lens];first|done|omega)) only [go_sem,reduceEqDiff,Nat.reduceBEq,reduceAdd,reduceMul,reduceSub,reduceLeDiff,reduceToNat,reducePow, hsub, hg1, hg3, hc, e1]))
      exact DownV.pure hw (z3m (z2c _))
theorem zpz (Y : Store) (hs : List (List UInt8)) (x : AV) (hx : SlV 32 (z1f hs) x) (hH : H32 hs) (hl : hs.length < 1000000000) : ACallsTo TC 45 [x] Y (.agg (zl (z1x hs))) Y := by
  have hc := zo (z1x hs)
  rw [z8e hH] at hc
  have hrl := z5x hs
  by_cases h0 : hs = []
  · subst h0
    have hx' := hx.len
    unfold z1q at hx'
    refine ACallsTo.of_body qeok (by simp) fun hw _ => ?_
    rw [zod] at hc ⊢
    rcases hx with ⟨rfl, h⟩ | ⟨ex, rfl⟩
    · repeat' (first|refine zW.zs ?_|refine zW.zb ?_|refine zW.zc ?_|refine zW.zt rfl ?_|refine zW.zf rfl ?_|(refine zW.zd rfl (fun ht => ?_) (fun ht => ?_)<;>try (exfalso;omega))|((first|refine zW.zr ?_|refine zW.zk ?_|refine zW.ze ?_|refine zW.zq ?_|(apply callW.mk_pu; (first | exact (fun _ => z6z _ [] (by simp)))) | (apply callW.za; (first | exact (z6z _ [] (by simp)))) | ((first|apply zg0|apply zg1|apply zg2|apply zg3|apply zg4|apply zg5|apply zg6|apply zg7)<;>intro ht));all_goals try simp (disch:=first|omega|(simp only [lens];first|done|omega)) only [go_sem,reduceEqDiff,Nat.reduceBEq,reduceAdd,reduceMul,reduceSub,reduceLeDiff,reduceToNat,reducePow, hc]))
      exact DownV.pure hw (z3m (z2c _))
    · repeat' (first|refine zW.zs ?_|refine zW.zb ?_|refine zW.zc ?_|refine zW.zt rfl ?_|refine zW.zf rfl ?_|(refine zW.zd rfl (fun ht => ?_) (fun ht => ?_)<;>try (exfalso;omega))|((first|refine zW.zr ?_|refine zW.zk ?_|refine zW.ze ?_|refine zW.zq ?_|(apply callW.mk_pu; (first | exact (fun _ => z6z _ [] (by simp)))) | (apply callW.za; (first | exact (z6z _ [] (by simp)))) | ((first|apply zg0|apply zg1|apply zg2|apply zg3|apply zg4|apply zg5|apply zg6|apply zg7)<;>intro ht));all_goals try simp (disch:=first|omega|(simp only [lens];first|done|omega)) only [go_sem,reduceEqDiff,Nat.reduceBEq,reduceAdd,reduceMul,reduceSub,reduceLeDiff,reduceToNat,reducePow, hc, hrl]))
      exact DownV.pure hw (z3m (z2c _))
  · have hpos : 0 < hs.length := List.length_pos_iff.2 h0
    obtain ⟨ex, rfl⟩ := hx.vsl (by rw [hrl]; exact hpos)
    have h1 := zhr hs hH hl ex Y.length (Y.length + 2) hs.length
    refine ACallsTo.of_body qeok (by simp) fun hw _ => ?_
    have h1 := fun Y' => h1 Y' 0 hpos (by omega)
    simp only [Nat.zero_add, List.drop_zero, List.take_length] at h1
    generalize z1x hs = R at *
    generalize z1f hs = rows at *
    repeat' (first|refine zW.zs ?_|refine zW.zb ?_|refine zW.zc ?_|refine zW.zt rfl ?_|refine zW.zf rfl ?_|(refine zW.zd rfl (fun ht => ?_) (fun ht => ?_)<;>try (exfalso;omega))|((first|refine zW.zr ?_|refine zW.zk ?_|refine zW.ze ?_|refine zW.zq ?_|(apply callW.mk_pu; (first | exact (fun _ => h1 _ (by simp) (by simp)))) | (apply callW.za; (first | exact (h1 _ (by simp) (by simp)))) | ((first|apply zg0|apply zg1|apply zg2|apply zg3|apply zg4|apply zg5|apply zg6|apply zg7)<;>intro ht));all_goals try simp (disch:=first|omega|(simp only [lens];first|done|omega)) only [go_sem,reduceEqDiff,Nat.reduceBEq,reduceAdd,reduceMul,reduceSub,reduceLeDiff,reduceToNat,reducePow, hc, hrl]))
    exact DownV.pure hw (z3m (z2c _))
end Am
end Go.Proofs.YtncenefkbpelbaaDoor
end
section
/- Slices that are read: values, or own rows lent; Same; Some. -/
namespace Go.Proofs.YtncenefkbpelbaaDoor
namespace Am
/-- A slice that is read: a value, or an own row. -/
def RdSl (Y : Store) (sz : Nat) (es : List (List AV)) (x : AV) : Prop :=
  SlV sz es x \/ ∃ r off lim o, x = .sl r off es.length lim sz /\ Y[r]? = some (some o) /\ off + es.length <= o.length /\ (o.drop off).take es.length = es
theorem RdSl.of {Y : Store} {sz : Nat} {es : List (List AV)} {x : AV} (h : SlV sz es x) : RdSl Y sz es x := .inl h
theorem OwnN.rd {sz : Nat} {Z Y' : Store} {v : AV} {es : List (List AV)} (h : OwnN sz Z Y' v es) : RdSl Y' sz es v := by
  by_cases h0 : es = []
  · obtain ⟨news, rfl, ⟨rfl, rfl⟩ | ⟨j, h1, _⟩⟩ := h
    · exact .inl (.inl ⟨rfl, rfl⟩)
    · exact absurd h0 h1
  · obtain ⟨r, rfl, hg, _⟩ := h.sl h0
    exact .inr ⟨r, 0, none, es, rfl, hg, by omega, by rw [List.drop_zero, List.take_of_length_le (Nat.le_refl _)]⟩
theorem RdSl.app {Y y : Store} {sz : Nat} {es : List (List AV)} {x : AV} (h : RdSl Y sz es x) : RdSl (Y ++ y) sz es x := by
  rcases h with h | ⟨r, off, lim, o, rfl, hg, h1, h2⟩
  · exact .inl h
  · exact .inr ⟨r, off, lim, o, rfl, by rw [gapp (List.getElem?_eq_some_iff.1 hg).1]; exact hg, h1, h2⟩
theorem RdSl.len {Y : Store} {sz : Nat} {es : List (List AV)} {x : AV} (h : RdSl Y sz es x) : z1q x = some (.int .i64 es.length) := by
  rcases h with h | ⟨r, off, lim, o, rfl, _⟩
  · exact h.len
  · rfl
theorem RdSl.lend {Y : Store} {sz : Nat} {es : List (List AV)} {x : AV} (h : RdSl Y sz es x) (hr : RLss 0 es) : ∃ x0, SlV sz es x0 /\ DR (z2z Y) x0 x := by
  rcases h with h | ⟨r, off, lim, o, rfl, hg, h1, h2⟩
  · refine ⟨x, h, DR.refl (k := 0) (by omega) x ?_⟩
    rcases h with ⟨rfl, _⟩ | ⟨ex, rfl⟩
    · simp [RL]
    · simpa only [RL] using hr
  · refine ⟨.vsl sz es false, .inr ⟨false, rfl⟩, ?_⟩
    simp only [DR, z2z]
    exact .inr (.inl ⟨r, off, lim, o, rfl, trivial, hg, h1, by simp, by rw [h2]; exact DRss.refl (k := 0) (by omega) es hr⟩)
/-- A slice of an array in memory, lent. -/
theorem zl5 {Y : Store} {r i off cap esz : Nat} {o es : List (List AV)} {cs rest : List AV} (hg : Y[r]? = some (some o)) (hi : o[i]? = some cs) (ho : off <= cs.length) (hd : cs.drop off = es.flatten ++ rest) (he : ∀ e ∈ es, e.length = esz) (hn : es.length ≠ 0) (hr : RLss 0 es) :
    DR (z2z Y) (.vsl esz es false) (.asl r i off es.length cap esz) := by
  simp only [DR, z2z]
  exact .inr (.inr ⟨r, i, off, cap, o, cs, es, rest, rfl, trivial, hg, hi, ho, hd, he, hn, by simp, DRss.refl (k := 0) (by omega) es hr⟩)
theorem rl0 {a : AV} (h : RL 0 a) (Y : Store) : DR (z2z Y) a a := DR.refl (k := 0) (by omega) a h
theorem drs1 {D : DC} {a b : AV} (h : DR D a b) : DRs D [a] [b] := by simp only [DRs]; exact ⟨b, [], rfl, h, rfl⟩
theorem drsc {D : DC} {a b : AV} {l m : List AV} (h : DR D a b) (h2 : DRs D l m) : DRs D (a :: l) (b :: m) := by simp only [DRs]; exact ⟨b, m, rfl, h, h2⟩
theorem zcm (k : Nat) : ∀ (l : List UInt8), shs k (zl l) = zl l
  | [] => rfl
  | b :: l => by have := zcm k l; simp only [zl] at this; simp [zl, shs, sh, this]
theorem zov (k : Nat) (l : List UInt8) : sh k (.agg (zl l)) = .agg (zl l) := by simp only [sh, zcm]
theorem z6y (k : Nat) : shS k [] = [] := rfl
theorem zpy (Y : Store) (hs : List (List UInt8)) (x : AV) (hx : RdSl Y 32 (z1f hs) x) (hH : H32 hs) (hl : hs.length < 1000000000) : ACallsTo TC 45 [x] Y (.agg (zl (z1x hs))) Y := by
  obtain ⟨x0, h0, hd⟩ := hx.lend (z8d hs)
  have := ACallsTo.lend glok (zpz [] hs x0 h0 hH hl) (drs1 hd)
  rwa [zov, z6y, List.append_nil] at this
theorem zb5 : ∀ (a b : List UInt8), z1u (zl a) (zl b) = decide (a = b)
  | [], [] => rfl
  | [], _ :: _ => rfl
  | _ :: _, [] => rfl
  | a :: l, b :: m => by
    have ih := zb5 l m
    simp only [zl, List.map_cons, z1u, z7z] at ih ⊢
    rw [ih, Bool.eq_iff_iff]
    simp [<- UInt8.toNat_inj]
    intro _
    omega
theorem zf1 : ∀ (l : List UInt8), (zl l).map z1b = List.replicate l.length (some (LK.i .u8))
  | [] => rfl
  | _ :: l => by have := zf1 l; simp only [zl] at this; simp [zl, z1b, this, List.replicate_succ]
theorem zbi {l : List UInt8} (h : l.length = 32) : (zl l).map z1b = (List.replicate 32 (LK.i .u8)).map some := by rw [zf1, h]; rfl
set_option maxHeartbeats 4000000 in
theorem zhu (Y : Store) (A B : List (List UInt8)) (x y : AV) (hx : SlV 32 (z1f A) x) (hy : SlV 32 (z1f B) y) (hA : H32 A) (hB : H32 B) (hl : A.length < 1000000000) (hl2 : B.length < 1000000000) :
    ACallsTo TC 98 [x, y] Y (.bool (decide (A = B))) Y := by
  refine ACallsTo.of_body qdok (by simp) fun hw _ => ?_
  have r1 := hx.len
  have r2 := hy.len
  rw [z5x] at r1 r2
  unfold z1q at r1 r2
  by_cases hL : A.length = B.length
  · repeat' (first|refine zW.zs ?_|refine zW.zb ?_|refine zW.zc ?_|refine zW.zt rfl ?_|refine zW.zf rfl ?_|(refine zW.zd rfl (fun ht => ?_) (fun ht => ?_)<;>try (exfalso;omega))|((first|refine zW.zr ?_|refine zW.zk ?_|refine zW.ze ?_|refine zW.zq ?_|((first|apply zg0|apply zg1|apply zg2|apply zg3|apply zg4|apply zg5|apply zg6|apply zg7)<;>intro ht));all_goals try simp (disch:=first|omega|(simp only [lens];first|done|omega)) only [go_sem,reduceEqDiff,Nat.reduceBEq,reduceAdd,reduceMul,reduceSub,reduceLeDiff,reduceToNat,reducePow, r1, r2]))
    refine zW.loop (fun m O Y' => ∃ i : Nat, Y' = Y /\ m + i = A.length /\ A.take i = B.take i /\ O 0 = x /\ O 1 = y /\ O 5 = .int .i64 i) A.length ?_ ?_
    · exact ⟨0, rfl, by omega, rfl, by simp (disch:=first|omega|(simp only [lens];first|done|omega)) only [go_sem,reduceEqDiff,Nat.reduceBEq,reduceAdd,reduceMul,reduceSub,reduceLeDiff,reduceToNat,reducePow], by simp (disch:=first|omega|(simp only [lens];first|done|omega)) only [go_sem,reduceEqDiff,Nat.reduceBEq,reduceAdd,reduceMul,reduceSub,reduceLeDiff,reduceToNat,reducePow], by simp (disch:=first|omega|(simp only [lens];first|done|omega)) only [go_sem,reduceEqDiff,Nat.reduceBEq,reduceAdd,reduceMul,reduceSub,reduceLeDiff,reduceToNat,reducePow]; rfl⟩
    · rintro m O Y' ⟨i, rfl, hm, hp, q0, q1, q5⟩
      by_cases hi : i < A.length
      · have hi2 : i < B.length := by omega
        obtain ⟨e1, rfl⟩ := hx.vsl (by rw [z5x]; omega)
        obtain ⟨e2, rfl⟩ := hy.vsl (by rw [z5x]; omega)
        have g1 := zeu hi
        have g2 := zeu hi2
        have c1 := zo A[i]
        have c2 := zo B[i]
        rw [hA _ (List.getElem_mem _)] at c1
        rw [hB _ (List.getElem_mem _)] at c2
        have k1 := zbi (hA _ (List.getElem_mem hi))
        have k2 := zbi (hB _ (List.getElem_mem hi2))
        have heq := zb5 A[i] B[i]
        have l1 := z5x A
        have l2 := z5x B
        have hn1 : A.take (i + 1) = A.take i ++ [A[i]] := (List.take_append_getElem hi).symm
        have hn2 : B.take (i + 1) = B.take i ++ [B[i]] := (List.take_append_getElem hi2).symm
        by_cases he : A[i] = B[i]
        · have hn : A.take (i + 1) = B.take (i + 1) := by rw [hn1, hn2, hp, he]
          rw [decide_eq_true he] at heq
          clear hn1 hn2 he
          generalize zl A[i] = ra at *
          generalize zl B[i] = rb at *
          generalize z1f A = rA at *
          generalize z1f B = rB at *
          repeat' (first | refine zW.zs ?_ | refine zW.zb ?_ | refine zW.zc ?_ | refine zW.zt rfl ?_ | refine zW.zf rfl ?_ | (refine zW.zd rfl (fun ht => ?_) (fun ht => ?_) <;> try (exfalso; omega)) | ((first | refine zW.regS ?_ | refine zW.zk ?_ | refine zW.ze ?_ | refine zW.zq ?_ | ((first|apply zg0|apply zg1|apply zg2|apply zg3|apply zg4|apply zg5|apply zg6|apply zg7)<;>intro ht));all_goals try simp (disch:=first|omega|(simp only [lens];first|done|omega)) only [go_sem,reduceEqDiff,Nat.reduceBEq,reduceAdd,reduceMul,reduceSub,reduceLeDiff,reduceToNat,reducePow, q0, q1, q5, g1, g2, c1, c2, k1, k2, heq, l1, l2]))
          exact ⟨A.length - (i + 1), by omega, i + 1, by omega, hn, by simp⟩
        · have e : decide (A = B) = false := decide_eq_false fun e => he (by subst e; rfl)
          rw [decide_eq_false he] at heq
          rw [e]
          clear hn1 hn2 he
          generalize zl A[i] = ra at *
          generalize zl B[i] = rb at *
          generalize z1f A = rA at *
          generalize z1f B = rB at *
          repeat' (first | refine zW.zs ?_ | refine zW.zb ?_ | refine zW.zc ?_ | refine zW.zt rfl ?_ | refine zW.zf rfl ?_ | (refine zW.zd rfl (fun ht => ?_) (fun ht => ?_) <;> try (exfalso; omega)) | ((first | refine zW.regS ?_ | refine zW.zk ?_ | refine zW.ze ?_ | refine zW.zq ?_ | ((first|apply zg0|apply zg1|apply zg2|apply zg3|apply zg4|apply zg5|apply zg6|apply zg7)<;>intro ht));all_goals try simp (disch:=first|omega|(simp only [lens];first|done|omega)) only [go_sem,reduceEqDiff,Nat.reduceBEq,reduceAdd,reduceMul,reduceSub,reduceLeDiff,reduceToNat,reducePow, q0, q1, q5, g1, g2, c1, c2, k1, k2, heq, l1, l2]))
          exact DownV.same hw (z12 _ rfl)
      · have e : decide (A = B) = true := decide_eq_true (by
          rw [List.take_of_length_le (by omega), List.take_of_length_le (by omega)] at hp
          exact hp)
        rw [e]
        repeat' (first|refine zW.zs ?_|refine zW.zb ?_|refine zW.zc ?_|refine zW.zt rfl ?_|refine zW.zf rfl ?_|(refine zW.zd rfl (fun ht => ?_) (fun ht => ?_)<;>try (exfalso;omega))|((first|refine zW.zr ?_|refine zW.zk ?_|refine zW.ze ?_|refine zW.zq ?_|((first|apply zg0|apply zg1|apply zg2|apply zg3|apply zg4|apply zg5|apply zg6|apply zg7)<;>intro ht));all_goals try simp (disch:=first|omega|(simp only [lens];first|done|omega)) only [go_sem,reduceEqDiff,Nat.reduceBEq,reduceAdd,reduceMul,reduceSub,reduceLeDiff,reduceToNat,reducePow, q0, q1, q5, r1, r2]))
        exact DownV.same hw (z12 _ rfl)
  · have e : decide (A = B) = false := decide_eq_false fun e => hL (by rw [e])
    rw [e]
    repeat' (first|refine zW.zs ?_|refine zW.zb ?_|refine zW.zc ?_|refine zW.zt rfl ?_|refine zW.zf rfl ?_|(refine zW.zd rfl (fun ht => ?_) (fun ht => ?_)<;>try (exfalso;omega))|((first|refine zW.zr ?_|refine zW.zk ?_|refine zW.ze ?_|refine zW.zq ?_|((first|apply zg0|apply zg1|apply zg2|apply zg3|apply zg4|apply zg5|apply zg6|apply zg7)<;>intro ht));all_goals try simp (disch:=first|omega|(simp only [lens];first|done|omega)) only [go_sem,reduceEqDiff,Nat.reduceBEq,reduceAdd,reduceMul,reduceSub,reduceLeDiff,reduceToNat,reducePow, r1, r2]))
    exact DownV.same hw (z12 _ rfl)
theorem zht (Y : Store) (A B : List (List UInt8)) (x y : AV) (hx : RdSl Y 32 (z1f A) x) (hy : RdSl Y 32 (z1f B) y) (hA : H32 A) (hB : H32 B) (hl : A.length < 1000000000) (hl2 : B.length < 1000000000) :
    ACallsTo TC 98 [x, y] Y (.bool (decide (A = B))) Y := by
  obtain ⟨x0, h0, hd⟩ := hx.lend (z8d A)
  obtain ⟨y0, h1, hd1⟩ := hy.lend (z8d B)
  have := ACallsTo.lend glok (zhu [] A B x0 y0 h0 h1 hA hB hl hl2) (drsc hd (drs1 hd1))
  rwa [show sh Y.length (.bool (decide (A = B))) = .bool (decide (A = B)) from rfl, z6y, List.append_nil] at this
end Am
end Go.Proofs.YtncenefkbpelbaaDoor
end
section
/- Abstract code. (Printed by wip/gen.) -/
set_option maxRecDepth 10000
namespace Go.Proofs.YtncenefkbpelbaaDoor
namespace Am



@[go_sem] def zng : List AIns := [
  ⟨some 95,none,.no,.mv (.t 12)⟩,
  ⟨some 96,none,.no,.bin .gtr .none (.t 95) (.v (.int .i64 0))⟩]
def zmu : ACode := .cond (.t 96) .skip (.exit 3)
def zmv : ACode := .seq (.reg zng) zmu
@[go_sem] def znh : List AIns := [
  ⟨some 98,none,.no,.mv (.t 13)⟩,
  ⟨some 99,none,.no,.call (.t 98) []⟩,
  ⟨some 97,none,.no,.mv (.t 99)⟩,
  ⟨some 100,none,.no,.ext 0 (.t 97)⟩,
  ⟨some 101,none,.no,.ext 1 (.t 97)⟩,
  ⟨some 18,none,.no,.alloc zZ0⟩,
  ⟨none,none,.no,.store 32 (.t 18) (.t 100)⟩,
  ⟨some 19,none,.no,.mv (.t 101)⟩]
@[go_sem] def zni : List AIns := [
  ⟨some 106,none,.no,.mv (.t 19)⟩,
  ⟨some 107,none,.no,.un .not (.t 106)⟩,
  ⟨some 105,none,.no,.mv (.t 107)⟩]
@[go_sem] def znj : List AIns := [
  ⟨some 10,none,.no,.mv (.v (.int .i64 80))⟩]
def zmw : ACode := .seq (.reg znj) .ret
@[go_sem] def znk : List AIns := [
  ⟨some 109,none,.no,.mv (.t 11)⟩,
  ⟨some 110,none,.no,.bin .rem .none (.t 109) (.v (.int .i64 2))⟩,
  ⟨some 111,none,.no,.bin .eql .none (.t 110) (.v (.int .i64 1))⟩,
  ⟨some 112,none,.no,.mv (.t 111)⟩,
  ⟨some 113, some (112, false), .no, .mv (.t 11)⟩,
  ⟨some 114, some (112, false), .no, .mv (.t 12)⟩,
  ⟨some 115, some (112, false), .no, .bin .eql .none (.t 113) (.t 114)⟩,
  ⟨some 116,none,.no,.pick (.t 112) (.v (.bool true)) (.t 115)⟩,
  ⟨some 108,none,.no,.mv (.t 116)⟩]
@[go_sem] def znl : List AIns := [
  ⟨some 117, none, .rd, .load true 32 (.t 18)⟩,
  ⟨some 118, none, .rd, .load true 32 (.t 14)⟩,
  ⟨some 119, none, .ef, .call (.v (.fn 90 [])) [(.t 117), (.t 118)]⟩,
  ⟨some 120, none, .rd, .load true 32 (.t 18)⟩,
  ⟨some 121, none, .rd, .load true 32 (.t 15)⟩,
  ⟨some 122,none,.no,.call (.v (.fn 90 [])) [(.t 120), (.t 121)]⟩,
  ⟨none,none,.no,.store 32 (.t 14) (.t 119)⟩,
  ⟨none,none,.no,.store 32 (.t 15) (.t 122)⟩]
@[go_sem] def znm : List AIns := [
  ⟨some 123,none,.no,.mv (.t 11)⟩,
  ⟨some 124,none,.no,.bin .rem .none (.t 123) (.v (.int .i64 2))⟩,
  ⟨some 125,none,.no,.bin .eql .none (.t 124) (.v (.int .i64 0))⟩,
  ⟨some 126,none,.no,.mv (.t 125)⟩,
  ⟨some 127, some (126, true), .no, .mv (.t 11)⟩,
  ⟨some 128, some (126, true), .no, .bin .gtr .none (.t 127) (.v (.int .i64 0))⟩,
  ⟨some 129,none,.no,.pick (.t 126) (.t 128) (.v (.bool false))⟩]
def zmx : ACode := .cond (.t 129) .skip (.exit 6)
def zmy : ACode := .seq (.reg znm) zmx
@[go_sem] def znn : List AIns := [
  ⟨some 130,none,.no,.mv (.t 11)⟩,
  ⟨some 131,none,.no,.bin .quo .none (.t 130) (.v (.int .i64 2))⟩,
  ⟨some 132,none,.no,.mv (.t 12)⟩,
  ⟨some 133,none,.no,.bin .quo .none (.t 132) (.v (.int .i64 2))⟩,
  ⟨some 11,none,.no,.mv (.t 131)⟩,
  ⟨some 12,none,.no,.mv (.t 133)⟩]
def zmz : ACode := .block 7 (.reg znn)
def zn0 : ACode := .seq zmy zmz
def zn1 : ACode := .loop zn0
def zn2 : ACode := .block 6 zn1
def zn3 : ACode := .seq (.reg znl) zn2
@[go_sem] def zno : List AIns := [
  ⟨some 102,none,.no,.load true 32 (.t 15)⟩,
  ⟨some 103,none,.no,.load true 32 (.t 18)⟩,
  ⟨some 104,none,.no,.call (.v (.fn 90 [])) [(.t 102), (.t 103)]⟩,
  ⟨none,none,.no,.store 32 (.t 15) (.t 104)⟩]
def zn4 : ACode := .cond (.t 108) zn3 (.reg zno)
def zn5 : ACode := .seq (.reg znk) zn4
def zn6 : ACode := .cond (.t 105) zmw zn5
def zn7 : ACode := .seq (.reg zni) zn6
def zn8 : ACode := .block 5 zn7
def zn9 : ACode := .seq (.reg znh) zn8
@[go_sem] def znp : List AIns := [
  ⟨some 134,none,.no,.mv (.t 11)⟩,
  ⟨some 135,none,.no,.bin .quo .none (.t 134) (.v (.int .i64 2))⟩,
  ⟨some 136,none,.no,.mv (.t 12)⟩,
  ⟨some 137,none,.no,.bin .quo .none (.t 136) (.v (.int .i64 2))⟩,
  ⟨some 11,none,.no,.mv (.t 135)⟩,
  ⟨some 12,none,.no,.mv (.t 137)⟩]
def zna : ACode := .seq zn9 (.reg znp)
def znb : ACode := .block 4 zna
def znc : ACode := .seq zmv znb
def znd : ACode := .loop znc
@[go_sem] def znq : List AIns := [
  ⟨some 138,none,.no,.load false 1 (.t 9)⟩,
  ⟨some 139,none,.no,.lenSl (.t 138)⟩,
  ⟨some 140,none,.no,.bin .eql .none (.t 139) (.v (.int .i64 0))⟩,
  ⟨some 141,none,.no,.mv (.t 140)⟩,
  ⟨some 142, some (141, true), .no, .load true 32 (.t 14)⟩,
  ⟨some 143, some (141, true), .no, .load true 32 (.t 7)⟩,
  ⟨some 144, some (141, true), .no, .bin .eql (.agg (List.replicate 32 (.i .u8) ++ [])) (.t 142) (.t 143)⟩,
  ⟨some 145,none,.no,.pick (.t 141) (.t 144) (.v (.bool false))⟩,
  ⟨some 146,none,.no,.mv (.t 145)⟩,
  ⟨some 147, some (146, true), .no, .load true 32 (.t 15)⟩,
  ⟨some 148, some (146, true), .no, .load true 32 (.t 8)⟩,
  ⟨some 149, some (146, true), .no, .bin .eql (.agg (List.replicate 32 (.i .u8) ++ [])) (.t 147) (.t 148)⟩,
  ⟨some 150,none,.no,.pick (.t 146) (.t 149) (.v (.bool false))⟩,
  ⟨some 151,none,.no,.call (.v (.fn 108 [])) [(.t 150)]⟩,
  ⟨some 10,none,.no,.mv (.t 151)⟩]
def zne : ACode := .seq (.reg znq) .ret
def znf : ACode := .seq (.block 3 znd) zne
end Am
end Go.Proofs.YtncenefkbpelbaaDoor
end
section
/- Proofs: contracts: Proof of the program. -/
namespace Go.Proofs.YtncenefkbpelbaaDoor
namespace Am
/-- A sub-proof. -/
def subF : Nat -> List (List UInt8) -> Nat -> Bool -> List (List UInt8)
  | 0, _, _, _ => []
  | f + 1, l, m, known =>
    if m = l.length then (if known then [] else [z1x l])
    else if m <= zy l.length then subF f (l.take (zy l.length)) m known ++ [z1x (l.drop (zy l.length))]
    else subF f (l.drop (zy l.length)) (m - zy l.length) false ++ [z1x (l.take (zy l.length))]
def subS (l : List (List UInt8)) (m : Nat) (known : Bool) : List (List UInt8) := subF (l.length + 1) l m known
/-- What Proof has in memory: its own proof, itself, and rows of its own. -/
structure PrS (Y0 Y' : Store) (v : AV) (es : List (List AV)) : Prop where
  out : Y'[Y0.length]? = some (some [[v]])
  fn : Y'[Y0.length + 1]? = some (some [[.fn 102 [.ptr Y0.length 0 0, .ptr (Y0.length + 1) 0 0]]])
  keep : ∀ q, q < Y0.length -> Y'[q]? = Y0[q]?
  sl : (es = [] /\ v = .nilsl) \/ ∃ r, Y0.length + 2 <= r /\ es ≠ [] /\ v = .sl r 0 es.length none 32 /\ Y'[r]? = some (some es)
theorem PrS.lt {Y0 Y' : Store} {v : AV} {es : List (List AV)} (h : PrS Y0 Y' v es) : Y0.length + 2 <= Y'.length := by
  have := (List.getElem?_eq_some_iff.1 h.fn).1; omega
/-- One more. -/
theorem PrS.add {Y0 Y' : Store} {v : AV} {es : List (List AV)} (h : PrS Y0 Y' v es) (row : List AV) (hl : es.length + 1 <= 1073741824) :
    ∃ r Y2, aApp Y' 32 v [row] = some (.sl r 0 (es.length + 1) none 32, Y2) /\ Y2[Y0.length]? = some (some [[v]]) /\ PrS Y0 (Y2.set Y0.length (some [[.sl r 0 (es.length + 1) none 32]])) (.sl r 0 (es.length + 1) none 32) (es ++ [row]) := by
  have hlt := h.lt
  obtain ⟨h1, h2, h3, ⟨rfl, rfl⟩ | ⟨r, hr, h0, rfl, hg⟩⟩ := h
  · refine ⟨Y'.length, Y' ++ [some [row]], rfl, by rw [gapp (by omega)]; exact h1, ⟨?_, ?_, ?_, .inr ⟨Y'.length, by omega, by simp, by simp, ?_⟩⟩⟩
    · rw [z6l (by simp; omega)]
    · rw [z23 (by omega), gapp (by omega)]; exact h2
    · intro q hq; rw [z23 (by omega), gapp (by omega)]; exact h3 q hq
    · rw [z23 (by omega), z18 (Nat.le_refl _), Nat.sub_self]; rfl
  · have hrl := (List.getElem?_eq_some_iff.1 hg).1
    refine ⟨Y'.length, Y'.set r none ++ [some (es ++ [row])], ?_, ?_, ⟨?_, ?_, ?_, .inr ⟨Y'.length, by omega, by simp, by simp, ?_⟩⟩⟩
    · rw [z97, if_neg (by simp), hg]
      simp only [List.length_cons, List.length_nil]
      rw [if_pos ⟨trivial, by omega, by omega⟩, if_neg (by omega), List.drop_zero, List.take_of_length_le (Nat.le_refl _)]
    · rw [gapp (by simp; omega), z23 (by omega)]; exact h1
    · rw [z6l (by simp; omega)]
    · rw [z23 (by omega), gapp (by simp; omega), z23 (by omega)]; exact h2
    · intro q hq; rw [z23 (by omega), gapp (by simp; omega), z23 (by omega)]; exact h3 q hq
    · rw [z23 (by omega), z18 (by simp), List.length_set, Nat.sub_self]; rfl
theorem PrS.ex (Y0 : Store) (es : List (List AV)) : ∃ v Y', PrS Y0 Y' v es := by
  by_cases h : es = []
  · exact ⟨.nilsl, Y0 ++ [some [[.nilsl]], some [[.fn 102 [.ptr Y0.length 0 0, .ptr (Y0.length + 1) 0 0]]]], by simp, by simp, fun q hq => gapp hq, .inl ⟨h, rfl⟩⟩
  · exact ⟨.sl (Y0.length + 2) 0 es.length none 32, Y0 ++ [some [[.sl (Y0.length + 2) 0 es.length none 32]], some [[.fn 102 [.ptr Y0.length 0 0, .ptr (Y0.length + 1) 0 0]]], some es], by simp, by simp, fun q hq => gapp hq, .inr ⟨_, Nat.le_refl _, h, rfl, by simp⟩⟩
theorem DownV.tup2 {k : Nat} {v v2 : AV} {Y Y2 : Store} {i : IntKind} {e : Int} (h : DownV k v Y v2 Y2) : DownV k (.tup [v, .int i e]) Y (.tup [v2, .int i e]) Y2 := by
  obtain ⟨D, a, b, c⟩ := h
  exact ⟨D, a, b, by simp only [DR, DRs]; exact ⟨_, rfl, _, _, rfl, c, _, _, rfl, rfl, rfl⟩⟩
theorem zb7 {Y Y' : Store} (h : Y.length <= Y'.length) (h2 : ∀ q, q < Y.length -> Y'[q]? = Y[q]?) : ∃ y, Y' = Y ++ y := by
  refine ⟨Y'.drop Y.length, ?_⟩
  have e : Y'.take Y.length = Y := by
    refine List.ext_getElem? fun i => ?_
    by_cases hi : i < Y.length
    · rw [List.getElem?_take_of_lt hi]; exact h2 i hi
    · rw [List.getElem?_eq_none (by simp; omega), List.getElem?_eq_none (by omega)]
  calc Y' = Y'.take Y.length ++ Y'.drop Y.length := (List.take_append_drop _ _).symm
    _ = Y ++ Y'.drop Y.length := by rw [e]
theorem PrS.own {Y0 Y' : Store} {v : AV} {es : List (List AV)} (h : PrS Y0 Y' v es) : OwnN 32 Y0 Y' v es := by
  have hlt := h.lt
  obtain ⟨y, rfl⟩ := zb7 (by omega) h.keep
  obtain ⟨h1, h2, h3, h4 | ⟨r, hr, h0, rfl, hg⟩⟩ := h
  · exact ⟨y, rfl, .inl h4⟩
  · refine ⟨y, rfl, .inr ⟨r - Y0.length, h0, by rw [show Y0.length + (r - Y0.length) = r by omega], ?_⟩⟩
    rw [List.getElem?_append_right (by omega)] at hg; exact hg
/-- What Proof answers. -/
def z9r (hs : List (List UInt8)) (m : Int) : List (List UInt8) := if 0 < m /\ m < hs.length then subS hs m.toNat true else []
def z9q (hs : List (List UInt8)) (m : Int) : Int := if m < 0 \/ (hs.length : Int) < m then 2 else 0
def ProofP (Y : Store) (hs : List (List UInt8)) (m : Int) (v : AV) (Y' : Store) : Prop := ∃ v2, v = .tup [v2, .int .i64 (z9q hs m)] /\ OwnN 32 Y Y' v2 (z1f (z9r hs m))
theorem ProofP.ex (Y : Store) (hs : List (List UInt8)) (m : Int) : ∃ v Y', ProofP Y hs m v Y' := ⟨_, _, _, rfl, zby Y 32 _⟩
theorem ProofP.none {Y : Store} {hs : List (List UInt8)} {m : Int} (h : z9r hs m = []) : ProofP Y hs m (.tup [.nilsl, .int .i64 (z9q hs m)]) Y := ⟨.nilsl, rfl, by rw [h]; exact ⟨[], by simp, .inl ⟨rfl, rfl⟩⟩⟩
end Am
end Go.Proofs.YtncenefkbpelbaaDoor
end
section
/- Proofs: contracts: Proof of the reference. -/
namespace Go.Proofs.YtncenefkbpelbaaDoor
namespace Am
/-- Own elements, or a literal that can be gone on with. -/
def OwnA (sz : Nat) (Z Y' : Store) (v : AV) (es : List (List AV)) : Prop := OwnN sz Z Y' v es \/ (v = .vsl sz es true /\ es ≠ [] /\ ∃ news, Y' = Z ++ news)
theorem OwnA.app {sz : Nat} {Z Y' : Store} {v : AV} {es ys : List (List AV)} (h : OwnA sz Z Y' v es) (h0 : ys.length ≠ 0) (hl : es.length + ys.length <= 1073741824) :
    ∃ v' Y'', aApp Y' sz v ys = some (v', Y'') /\ OwnN sz Z Y'' v' (es ++ ys) := by
  rcases h with h | ⟨rfl, h1, news, rfl⟩
  · exact h.app h0 hl
  · refine ⟨.sl (Z ++ news).length 0 (es.length + ys.length) none sz, (Z ++ news) ++ [some (es ++ ys)], by rw [zan, if_neg h0, if_pos ⟨rfl, rfl, hl⟩], news ++ [some (es ++ ys)], by rw [List.append_assoc], .inr ⟨news.length, by simp [h1], by simp, by rw [List.getElem?_append_right (Nat.le_refl _)]; simp⟩⟩
theorem OwnA.rd {sz : Nat} {Z Y' : Store} {v : AV} {es : List (List AV)} (h : OwnA sz Z Y' v es) : RdSl Y' sz es v := by
  rcases h with h | ⟨rfl, _⟩
  · exact h.rd
  · exact .inl (.inr ⟨true, rfl⟩)
theorem OwnA.more {sz : Nat} {Z Y' : Store} {v : AV} {es : List (List AV)} (h : OwnA sz Z Y' v es) (y : Store) : OwnA sz Z (Y' ++ y) v es := by
  rcases h with h | ⟨rfl, h1, news, rfl⟩
  · exact .inl (h.more y)
  · exact .inr ⟨rfl, h1, news ++ y, by rw [List.append_assoc]⟩
theorem OwnA.ext {sz : Nat} {Z Y' : Store} {v : AV} {es : List (List AV)} (h : OwnA sz Z Y' v es) : ∃ news, Y' = Z ++ news := by
  rcases h with h | ⟨_, _, h⟩
  · exact h.ext
  · exact h
theorem OwnA.down {sz : Nat} {Y Y' : Store} {v : AV} {es : List (List AV)} (hw : Wf Y.length Y) (h : OwnA sz Y Y' v es) (hr : RLss Y.length es) : ∃ v2 Y2, OwnA sz Y Y2 v2 es /\ DownV Y.length v Y' v2 Y2 := by
  rcases h with h | ⟨rfl, h1, news, rfl⟩
  · exact ⟨_, _, .inl (zby Y sz es), h.own hw hr⟩
  · exact ⟨_, Y, .inr ⟨rfl, h1, [], by simp⟩, DownV.pure hw (by simpa only [RL] using hr)⟩
end Am
end Go.Proofs.YtncenefkbpelbaaDoor
end
section
/- Proofs: what a proof says, by plain loops; the reference's Proof; a proof's next hash. -/
namespace Go.Proofs.YtncenefkbpelbaaDoor
namespace Am
def RefP (Y : Store) (hs : List (List UInt8)) (m : Int) (v : AV) (Y' : Store) : Prop := ∃ v2, v = .tup [v2, .int .i64 (z9q hs m)] /\ OwnA 32 Y Y' v2 (z1f (z9r hs m))
/-- Up to where the older tree's last full one hangs. -/
def st (i last : Nat) : Nat × Nat := if h : i % 2 = 1 then st (i / 2) (last / 2) else (i, last)
termination_by i
decreasing_by omega
/-- Two roots, of the hashes. -/
def run : List Bool -> List (List UInt8) -> List UInt8 -> List UInt8 -> Option (List UInt8 × List UInt8)
  | [], [], a, b => some (a, b)
  | true :: p, h :: ps, a, b => run p ps (z1h h a) (z1h h b)
  | false :: p, h :: ps, a, b => run p ps a (z1h b h)
  | _, _, _, _ => none
end Am
end Go.Proofs.YtncenefkbpelbaaDoor
end
section
/- Proofs: contract: Check of the program. -/
namespace Go.Proofs.YtncenefkbpelbaaDoor
namespace Am
/-- What Check has in memory. -/
structure ChkM (ia ib : Nat) (Y Y' : Store) (o nw : List UInt8) (pv : AV) (ps : List (List UInt8)) (a b : List UInt8) : Prop where
  hab : (ia = 3 /\ ib = 4) \/ (ia = 4 /\ ib = 3)
  len : Y.length + 5 <= Y'.length
  keep : ∀ q, q < Y.length -> Y'[q]? = Y[q]?
  g0 : Y'[Y.length]? = some (some [zl o])
  g1 : Y'[Y.length + 1]? = some (some [zl nw])
  g2 : Y'[Y.length + 2]? = some (some [[pv]])
  g3 : Y'[Y.length + ia]? = some (some [zl a])
  g4 : Y'[Y.length + ib]? = some (some [zl b])
  hp : SlV 32 (z1f ps) pv
  ha : a.length = 32
  hb : b.length = 32
theorem ChkM.app {ia ib : Nat} {Y Y' y : Store} {o nw : List UInt8} {pv : AV} {ps : List (List UInt8)} {a b : List UInt8} (h : ChkM ia ib Y Y' o nw pv ps a b) : ChkM ia ib Y (Y' ++ y) o nw pv ps a b := by
  have hl := h.len
  have hab := h.hab
  refine ⟨hab, by rw [List.length_append]; omega, fun q hq => ?_, ?_, ?_, ?_, ?_, ?_, h.hp, h.ha, h.hb⟩
  · rw [gapp (by omega)]; exact h.keep q hq
  · rw [gapp (by omega)]; exact h.g0
  · rw [gapp (by omega)]; exact h.g1
  · rw [gapp (by omega)]; exact h.g2
  · rw [gapp (by omega)]; exact h.g3
  · rw [gapp (by omega)]; exact h.g4
theorem ChkM.fin {ia ib : Nat} {Y Y' : Store} {o nw : List UInt8} {pv : AV} {ps : List (List UInt8)} {a b : List UInt8} (h : ChkM ia ib Y Y' o nw pv ps a b) (hw : Wf Y.length Y) {i : Int} : DownV Y.length (.int .i64 i) Y' (.int .i64 i) Y := by
  have hl := h.len
  have hab := h.hab
  obtain ⟨y, rfl⟩ := zb7 (by omega) h.keep
  exact DownV.pure hw (z12 _ rfl)
theorem SlV.cells {sz : Nat} {es : List (List AV)} {x : AV} (h : SlV sz es x) : cellsOf x = some [x] := by
  rcases h with ⟨rfl, rfl⟩ | ⟨ex, rfl⟩ <;> rfl
end Am
end Go.Proofs.YtncenefkbpelbaaDoor
end
section
/- Proofs: contract: Check of the program, the loop. -/
namespace Go.Proofs.YtncenefkbpelbaaDoor
namespace Am
end Am
end Go.Proofs.YtncenefkbpelbaaDoor
end
section
/- Proofs: contract: Check of the program. -/
namespace Go.Proofs.YtncenefkbpelbaaDoor
namespace Am
attribute [local irreducible] znf
end Am
end Go.Proofs.YtncenefkbpelbaaDoor
end
section
/- Proofs: contract: the law's own example. -/
namespace Go.Proofs.YtncenefkbpelbaaDoor
namespace Am
theorem split2 : zy 2 = 1 := by decide
theorem split4 : zy 4 = 2 := by decide
theorem ProofP.is {Y Y' : Store} {hs : List (List UInt8)} {m : Int} {v : AV} (h : ProofP Y hs m v Y') : ∃ v2, v = .tup [v2, .int .i64 (z9q hs m)] /\ OwnN 32 Y Y' v2 (z1f (z9r hs m)) := h
end Am
end Go.Proofs.YtncenefkbpelbaaDoor
end
section
/- Proofs: the law ProofsProof: its contract. -/
namespace Go.Proofs.YtncenefkbpelbaaDoor
namespace Am
def z3i : Ty := .row (List.replicate 32 (.int .u8))
theorem zaq : ∀ (n : Nat) (cs : List AV), z2x (List.replicate n (.int .u8)) cs -> ∃ h : List UInt8, cs = zl h /\ h.length = n
  | 0, cs, h => ⟨[], by simpa only [List.replicate_zero, z2x, zl, List.map_nil] using h, rfl⟩
  | n + 1, cs, h => by
    simp only [List.replicate_succ, z2x, ShC] at h
    obtain ⟨_, b, rfl, ⟨x, rfl, h1, h2⟩, h3⟩ := h
    obtain ⟨l, rfl, hl⟩ := zaq n b h3
    simp only [IntKind.min, IntKind.max, IntKind.signed, IntKind.bits] at h1 h2
    simp at h1 h2
    refine ⟨UInt8.ofNat x.toNat :: l, ?_, by simp [hl]⟩
    have : ((UInt8.ofNat x.toNat).toNat : Int) = x := by rw [UInt8.toNat_ofNat']; omega
    simp only [zl, List.map_cons, List.singleton_append, this]
theorem zk3 {cs : List AV} (h : ShC z3i cs) : ∃ l : List UInt8, cs = zl l /\ l.length = 32 := zaq 32 cs (by simpa only [z3i, ShC] using h)
theorem zeq : ∀ (es : List (List AV)), (∀ x ∈ es, ShC z3i x) -> ∃ hs, es = z1f hs /\ H32 hs
  | [], _ => ⟨[], rfl, fun _ h => by simp at h⟩
  | e :: es, h => by
    obtain ⟨l, rfl, hl⟩ := zk3 (h e (by simp))
    obtain ⟨hs, rfl, hH⟩ := zeq es (fun x hx => h x (by simp [hx]))
    refine ⟨l :: hs, rfl, fun x hx => ?_⟩
    rcases List.mem_cons.1 hx with rfl | hx
    · exact hl
    · exact hH x hx
theorem i64_of {a : AV} (h : Sh (.int .i64) a) : ∃ n : Int, a = .int .i64 n /\ -9223372036854775808 <= n /\ n <= 9223372036854775807 := by
  simp only [Sh, ShC] at h
  obtain ⟨n, h, h1, h2⟩ := h
  cases h
  simp only [IntKind.min, IntKind.max, IntKind.signed, IntKind.bits] at h1 h2
  simp at h1 h2
  exact ⟨n, rfl, h1, h2⟩
theorem RefP.ex (Y : Store) (hs : List (List UInt8)) (m : Int) : ∃ v Y', RefP Y hs m v Y' := ⟨_, _, _, rfl, .inl (zby Y 32 _)⟩
end Am
end Go.Proofs.YtncenefkbpelbaaDoor
end
section
/- Hashes as_ one thing each: 32 bytes, hidden behind a name. -/
namespace Go.Proofs.YtncenefkbpelbaaDoor
namespace Am
abbrev Hash := {l : List UInt8 // l.length = 32}
def hc (h : Hash) : List AV := zl h.1
def hr (l : List Hash) : List (List AV) := l.map hc
def hb (l : List Hash) : List (List UInt8) := l.map (·.1)
theorem hb_H (l : List Hash) : H32 (hb l) := fun x hx => by
  simp only [hb, List.mem_map] at hx
  obtain ⟨h, _, rfl⟩ := hx
  exact h.2
theorem z81 (l : List Hash) : (hb l).length = l.length := by simp [hb]
theorem zk5 (l : List Hash) (n : Nat) : (hb l).take n = hb (l.take n) := by simp [hb, List.map_take]
theorem zk4 (l : List Hash) (n : Nat) : (hb l).drop n = hb (l.drop n) := by simp [hb, List.map_drop]
theorem z85 (l : List Hash) : z1f (hb l) = hr l := by simp [z1f, hb, hr, hc]
theorem hb_of : ∀ {l : List (List UInt8)}, H32 l -> ∃ m : List Hash, l = hb m
  | [], _ => ⟨[], rfl⟩
  | x :: l, h => by
    obtain ⟨m, hm⟩ := hb_of (l := l) fun y hy => h y (by simp [hy])
    exact ⟨⟨x, h x (by simp)⟩ :: m, by simp [hb, hm]⟩
theorem zer : ∀ {a b : List Hash}, hb a = hb b -> a = b
  | [], [], _ => rfl
  | [], _ :: _, h => by simp [hb] at h
  | _ :: _, [], h => by simp [hb] at h
  | x :: a, y :: b, h => by
    simp only [hb, List.map_cons, List.cons.injEq] at h
    rw [Subtype.ext h.1, zer (a := a) (b := b) h.2]
@[go_sem] theorem z7 (h : Hash) : (hc h).length = 32 := by rw [hc, zo, h.2]
@[go_sem] theorem zk6 (h : Hash) : (hc h).drop 32 = [] := List.drop_of_length_le (by rw [z7]; decide)
@[go_sem] theorem zk7 (h : Hash) : (hc h).take 32 = hc h := List.take_of_length_le (by rw [z7]; decide)
@[go_sem] theorem zqd (h : Hash) (l : List AV) : (hc h ++ l).take 32 = hc h := by
  have := z7 h
  rw [List.take_append_of_le_length (by omega), zk7]
@[go_sem] theorem zqc (h : Hash) (l : List AV) : (hc h ++ l).drop 32 = l := by
  have := z7 h
  rw [List.drop_append_of_le_length (by omega), zk6, List.nil_append]
@[go_sem] theorem hc_eq (a b : Hash) : z1u (hc a) (hc b) = decide (a = b) := by
  rw [hc, hc, zb5, Bool.eq_iff_iff]
  simp [Subtype.ext_iff]
@[go_sem] theorem hc_kinds (h : Hash) : (hc h).map z1b = (List.replicate 32 (LK.i .u8)).map some := zbi h.2
@[go_sem] theorem z6 (l : List Hash) : (hr l).length = l.length := by simp [hr]
@[go_sem] theorem hr_take (l : List Hash) (n : Nat) : (hr l).take n = hr (l.take n) := by simp [hr, List.map_take]
@[go_sem] theorem hr_drop (l : List Hash) (n : Nat) : (hr l).drop n = hr (l.drop n) := by simp [hr, List.map_drop]
@[go_sem] theorem hr_set (l : List Hash) (i : Nat) (h : Hash) : (hr l).set i (hc h) = hr (l.set i h) := by simp [hr, List.map_set]
theorem hr_app (a b : List Hash) : hr (a ++ b) = hr a ++ hr b := by simp [hr]
theorem z84 (h : Hash) (l : List Hash) : hr (h :: l) = hc h :: hr l := rfl
theorem zka {l : List Hash} : hr l = [] ↔ l = [] := by simp [hr]
def zeroH : Hash := ⟨List.replicate 32 0, by simp⟩
def hd (l : List Hash) (i : Nat) : Hash := l.getD i zeroH
@[go_sem] theorem z5w {l : List Hash} {i : Nat} (h : i < l.length) : (hr l)[i]? = some (hc (hd l i)) := by
  simp [hr, hd, List.getElem?_map, List.getElem?_eq_getElem h]
theorem z83 {l : List Hash} {i : Nat} (h : i < l.length) : hd l i = l[i] := by simp [hd, h]
theorem zc8 {k : Nat} (h : Hash) : RLs k (hc h) := z2c _
theorem z65 {k : Nat} (l : List Hash) : RLss k (hr l) := by rw [<- z85]; exact z8d _
theorem zcn (k : Nat) (h : Hash) : shs k (hc h) = hc h := zcm k _
def zi (a b : Hash) : Hash := ⟨z1h a.1 b.1, z9n _ _⟩
def z1r (l : List Hash) : Hash := ⟨z1x (hb l), z8e (hb_H l)⟩
def shaH (s : List UInt8) : Hash := ⟨shaS s, zck s⟩
theorem zg8 (h : Hash) : z1r [h] = h := rfl
theorem zcc {l : List Hash} (h : 2 <= l.length) : z1r l = zi (z1r (l.take (zy l.length))) (z1r (l.drop (zy l.length))) := by
  apply Subtype.ext
  show z1x (hb l) = z1h (z1x (hb _)) (z1x (hb _))
  rw [<- zk5, <- zk4]
  have := zcd (l := hb l) (by rw [z81]; exact h)
  rwa [z81] at this
theorem zh6 (Y : Store) (a b : Hash) : ACallsTo TC 90 [.agg (hc a), .agg (hc b)] Y (.agg (hc (zi a b))) Y := zcv Y a.1 b.1 a.2 b.2
theorem zfu (Y : Store) (a b : Hash) : ACallsTo TC 72 [.agg (hc a), .agg (hc b)] Y (.agg (hc (zi a b))) Y := zo5 Y a.1 b.1 a.2 b.2
theorem zcw (Y : Store) (l : List Hash) (x : AV) (hx : RdSl Y 32 (hr l) x) (hl : l.length < 1000000000) : ACallsTo TC 45 [x] Y (.agg (hc (z1r l))) Y :=
  zpy Y (hb l) x (by rw [z85]; exact hx) (hb_H l) (by rw [z81]; exact hl)
theorem Same_h (Y : Store) (A B : List Hash) (x y : AV) (hx : RdSl Y 32 (hr A) x) (hy : RdSl Y 32 (hr B) y) (hl : A.length < 1000000000) (hl2 : B.length < 1000000000) :
    ACallsTo TC 98 [x, y] Y (.bool (decide (A = B))) Y := by
  have := zht Y (hb A) (hb B) x y (by rw [z85]; exact hx) (by rw [z85]; exact hy) (hb_H A) (hb_H B) (by rw [z81]; exact hl) (by rw [z81]; exact hl2)
  rwa [show decide (hb A = hb B) = decide (A = B) by rw [Bool.eq_iff_iff]; simp only [decide_eq_true_eq]; exact ⟨zer, fun e => by rw [e]⟩] at this
theorem zhz (a : Int) (j : Nat) (hj : j < 63) : zx .and .i64 a ((2 ^ j - 1 : Nat) : Int) = some (.int .i64 (a % 2 ^ j)) := by
  have hp : 0 < 2 ^ j := Nat.pow_pos (by decide)
  have hlt : 2 ^ j < 2 ^ 63 := Nat.pow_lt_pow_right (by decide) hj
  have e64 : (2 : Nat) ^ 64 = 2 ^ j * 2 ^ (64 - j) := by rw [<- Nat.pow_add]; congr 1; omega
  have h : (BitVec.ofInt IntKind.i64.bits a &&& BitVec.ofInt IntKind.i64.bits ((2 ^ j - 1 : Nat) : Int)).toNat = (a % 2 ^ j).toNat := by
    rw [BitVec.toNat_and, BitVec.toNat_ofInt, BitVec.toNat_ofInt]
    simp only [IntKind.bits]
    have e1 : (((2 ^ j - 1 : Nat) : Int) % ((2 ^ 64 : Nat) : Int)).toNat = 2 ^ j - 1 := by
      rw [Int.emod_eq_of_lt (by omega) (by omega)]; simp
    rw [e1, Nat.and_two_pow_sub_one_eq_mod]
    have e2 : 0 <= a % ((2 ^ 64 : Nat) : Int) := Int.emod_nonneg _ (by decide)
    have e3 : ((a % ((2 ^ 64 : Nat) : Int)).toNat : Int) = a % ((2 ^ 64 : Nat) : Int) := Int.toNat_of_nonneg e2
    have e4 : (((a % ((2 ^ 64 : Nat) : Int)).toNat % 2 ^ j : Nat) : Int) = a % 2 ^ j := by
      rw [Int.natCast_emod, e3, e64, Int.natCast_mul, Int.natCast_pow]
      exact Int.emod_emod_of_dvd _ ⟨_, rfl⟩
    rw [<- e4, Int.toNat_natCast]
  have n0 : (2 : Int) ^ j ≠ 0 := by
    have h0 : ((2 ^ j : Nat) : Int) ≠ 0 := by omega
    rwa [Int.natCast_pow] at h0
  have n1 : 0 <= a % 2 ^ j := Int.emod_nonneg _ n0
  have n2 : a % 2 ^ j < ((2 ^ j : Nat) : Int) := by
    have := Int.emod_lt_of_pos a (b := ((2 ^ j : Nat) : Int)) (by omega)
    simpa using this
  simp only [zx]
  rw [h, Int.toNat_of_nonneg n1, z8p ⟨by omega, by omega⟩]
/-- Arguments. -/
theorem zbe {a : AV} (h : Sh z3i a) : ∃ l : Hash, a = .agg (hc l) := by
  simp only [z3i, Sh] at h
  obtain ⟨cs, rfl, h⟩ := h
  obtain ⟨l, rfl, hl⟩ := zaq 32 cs h
  exact ⟨⟨l, hl⟩, rfl⟩
end Am
end Go.Proofs.YtncenefkbpelbaaDoor
end
section
/- Ranges: plain laws: trees side by side, and what is pushed behind them. -/
namespace Go.Proofs.YtncenefkbpelbaaDoor
namespace Am
theorem za6 (j : Nat) : zy (2 ^ (j + 1)) = 2 ^ j := by
  have : 0 < 2 ^ j := Nat.pow_pos (by decide)
  exact zcq (by rw [Nat.pow_succ]; omega) (Nat.le_refl _)
end Am
end Go.Proofs.YtncenefkbpelbaaDoor
end
section
/- Ranges: plain laws: the parts of leaves that stand behind others. -/
namespace Go.Proofs.YtncenefkbpelbaaDoor
namespace Am
end Am
end Go.Proofs.YtncenefkbpelbaaDoor
end
section
/- Abstract code. (Printed by wip/gen.) -/
set_option maxRecDepth 10000
namespace Go.Proofs.YtncenefkbpelbaaDoor
namespace Am



end Am
end Go.Proofs.YtncenefkbpelbaaDoor
end
section
/- Ranges: contracts: slices.Clone, slices.Equal, Valid; how many leaves the next part has. -/
namespace Go.Proofs.YtncenefkbpelbaaDoor
namespace Am
theorem slen {Y : Store} {r : Nat} {x : Option AObj} (h : Y[r]? = some x) : r < Y.length := (List.getElem?_eq_some_iff.1 h).1
/-- All new objects are let go, and read as_ they are. -/
def FrzD (Z news : Store) : DC := z24 Z news [] id (fun _ => true)
theorem DownV.all {Z news : Store} {v v2 : AV} (hw : Wf Z.length Z) (h : DR (FrzD Z news) v2 v) : DownV Z.length v (Z ++ news) v2 Z :=
  ⟨FrzD Z news, rfl, by show DownS Z.length (z24 Z news [] id (fun _ => true)) Z; simpa using z9l (kept := []) (idx := id) (fzl := fun _ => true) (news := news) hw (by simp) (by simp) (by simp) (by simp), h⟩
theorem FrzD.same {Z news : Store} {v : AV} (h : RL Z.length v) : DR (FrzD Z news) v v := DR.refl (z5y _ _ _) v h
theorem FrzD.sl {Z news : Store} {r off : Nat} {lim : Option Nat} {esz : Nat} {o es : AObj} (hk : Z.length <= r) (ho : (Z ++ news)[r]? = some (some o)) (hl : off + es.length <= o.length) (he : (o.drop off).take es.length = es) (hr : RLss Z.length es) :
    DR (FrzD Z news) (.vsl esz es false) (.sl r off es.length lim esz) := by
  simp only [DR, FrzD, z24]
  right
  left
  exact ⟨r, off, lim, o, rfl, by simpa using hk, ho, hl, by simp, by rw [he]; exact DRss.refl (z5y [] id (fun _ => true)) _ hr⟩
theorem drA {D : DC} {a b : List AV} (h : DRs D a b) : DR D (.agg a) (.agg b) := by simp only [DR]; exact ⟨b, rfl, h⟩
theorem drT {D : DC} {a b : List AV} (h : DRs D a b) : DR D (.tup a) (.tup b) := by simp only [DR]; exact ⟨b, rfl, h⟩
theorem OwnN.frz {sz : Nat} {Z news : Store} {v : AV} {es : List (List AV)} (h : OwnN sz Z (Z ++ news) v es) (hr : RLss Z.length es) : DR (FrzD Z news) (z1m sz es) v := by
  by_cases h0 : es = []
  · obtain ⟨n2, _, ⟨rfl, rfl⟩ | ⟨j, h1, _⟩⟩ := h
    · simp [z1m, DR]
    · exact absurd h0 h1
  · obtain ⟨r, rfl, hg, hk⟩ := h.sl h0
    unfold z1m
    rw [if_neg h0]
    exact FrzD.sl hk hg (by omega) (by simp) hr
/-- Slots, as_ a list. -/
def lkp : List (Nat × AV) -> Env
  | [], _ => .any
  | (a, v) :: l, t => bif t == a then v else lkp l t
@[go_sem] theorem lkp_cons {a t : Nat} {v : AV} {l : List (Nat × AV)} : lkp ((a, v) :: l) t = bif t == a then v else lkp l t := rfl
/-- Own elements, or an empty literal. -/
def OwnE (sz : Nat) (Z Y' : Store) (v : AV) (es : List (List AV)) : Prop := OwnN sz Z Y' v es \/ (es = [] /\ v = .vsl sz [] true /\ ∃ news, Y' = Z ++ news)
theorem OwnE.ext {sz : Nat} {Z Y' : Store} {v : AV} {es : List (List AV)} (h : OwnE sz Z Y' v es) : ∃ news, Y' = Z ++ news := by
  rcases h with h | ⟨_, _, h⟩
  · exact h.ext
  · exact h
theorem OwnE.rd {sz : Nat} {Z Y' : Store} {v : AV} {es : List (List AV)} (h : OwnE sz Z Y' v es) : RdSl Y' sz es v := by
  rcases h with h | ⟨rfl, rfl, _⟩
  · exact h.rd
  · exact .inl (.inr ⟨true, rfl⟩)
theorem OwnE.len {sz : Nat} {Z Y' : Store} {v : AV} {es : List (List AV)} (h : OwnE sz Z Y' v es) : z1q v = some (.int .i64 es.length) := h.rd.len
theorem OwnE.app {sz : Nat} {Z Y' : Store} {v : AV} {es ys : List (List AV)} (h : OwnE sz Z Y' v es) (h0 : ys.length ≠ 0) (hl : es.length + ys.length <= 1073741824) :
    ∃ v' Y'', aApp Y' sz v ys = some (v', Y'') /\ OwnN sz Z Y'' v' (es ++ ys) := by
  rcases h with h | ⟨rfl, rfl, news, rfl⟩
  · exact h.app h0 hl
  · refine ⟨.sl (Z ++ news).length 0 ys.length none sz, (Z ++ news) ++ [some ys], by rw [zan, if_neg h0, if_pos ⟨rfl, rfl, hl⟩]; simp, news ++ [some ys], by rw [List.append_assoc], .inr ⟨news.length, ?_, by simp, by rw [List.getElem?_append_right (Nat.le_refl _)]; simp⟩⟩
    intro e; exact h0 (by rw [(List.append_eq_nil_iff.1 e).2]; rfl)
theorem RdSl.elems {Y : Store} {sz : Nat} {es : List (List AV)} {x : AV} (h : RdSl Y sz es x) : z21 Y x = some es := by
  rcases h with (⟨rfl, rfl⟩ | ⟨ex, rfl⟩) | ⟨r, off, lim, o, rfl, hg, h1, h2⟩
  · rfl
  · rfl
  · rw [zp7, hg]; simp only; rw [if_pos h1, h2]
end Am
end Go.Proofs.YtncenefkbpelbaaDoor
end
section
/- Ranges: contracts: slices.Equal, Valid, step, push. -/
namespace Go.Proofs.YtncenefkbpelbaaDoor
namespace Am
theorem z8l {l : List Hash} {i : Nat} (h : i < l.length) : l.take (i + 1) = l.take i ++ [hd l i] := by
  rw [z83 h]; exact (List.take_append_getElem h).symm
end Am
end Go.Proofs.YtncenefkbpelbaaDoor
end
section
/- Ranges: contracts: push. -/
namespace Go.Proofs.YtncenefkbpelbaaDoor
namespace Am
def Ext (Y Y' : Store) : Prop := ∃ news, Y' = Y ++ news
theorem Ext.refl (Y : Store) : Ext Y Y := ⟨[], by simp⟩
theorem Ext.app {Y Y' y : Store} (h : Ext Y Y') : Ext Y (Y' ++ y) := by
  obtain ⟨n, rfl⟩ := h
  exact ⟨n ++ y, by rw [List.append_assoc]⟩
theorem Ext.set {Y Y' : Store} {r : Nat} {x : Option AObj} (h : Ext Y Y') (hr : Y.length <= r) : Ext Y (Y'.set r x) := by
  obtain ⟨n, rfl⟩ := h
  exact ⟨n.set (r - Y.length) x, List.set_append_right _ _ hr⟩
theorem Ext.trans {Y Y' Y'' : Store} (h : Ext Y Y') (h' : Ext Y' Y'') : Ext Y Y'' := by
  obtain ⟨n, rfl⟩ := h
  obtain ⟨m, rfl⟩ := h'
  exact ⟨n ++ m, by rw [List.append_assoc]⟩
theorem Ext.le {Y Y' : Store} (h : Ext Y Y') : Y.length <= Y'.length := by
  obtain ⟨n, rfl⟩ := h; simp
/-- A loop that is left in its first round. -/
theorem zW.once {C : Ctx} {n k : Nat} {Q : AExit -> Env -> Store -> Prop} {O : Env} {Y : Store} {x : ACode} (h : zW C n k x (z25 (fun _ _ => False) Q) O Y) : zW C n k (.loop x) Q O Y :=
  zW.loop (fun _ O' Y' => O' = O /\ Y' = Y) 0 ⟨rfl, rfl⟩ (by
    rintro m _ _ ⟨rfl, rfl⟩
    refine h.mono fun e O Y h => ?_
    cases e
    · exact h.elim
    · exact h
    · exact h)
end Am
end Go.Proofs.YtncenefkbpelbaaDoor
end
section
/- Ranges: contracts: Extend, Append, Of. -/
namespace Go.Proofs.YtncenefkbpelbaaDoor
namespace Am
/-- Nil if it was nil. -/
def knil (es : List (List AV)) : AV -> AV
  | .nilsl => .nilsl
  | _ => .vsl 32 es false
theorem Ext.pure {Y Y' : Store} {v : AV} (hw : Wf Y.length Y) (h : Ext Y Y') (hv : RL Y.length v) : DownV Y.length v Y' v Y := by
  obtain ⟨n, rfl⟩ := h
  exact DownV.pure hw hv
/-- The hashes of a range that was gone on with: nil if it was nil, and nothing came. -/
def zv (x : AV) (first : Bool) (l : List Hash) : AV := if first then knil (hr l) x else .vsl 32 (hr l) false
def rg (n : Int) (z : AV) (e : Int) : AV := .tup [.agg [.int .i64 n, z], .int .i64 e]
attribute [local irreducible] ACallsTo ACallsP
end Am
end Go.Proofs.YtncenefkbpelbaaDoor
end
section
/- Rows: numbers, trees. (The laws are printed by wip/rows.py.) -/
namespace Go.Proofs.YtncenefkbpelbaaDoor
namespace Am
def zbq : Nat -> List AV := fun n => [.int .i64 n]
def nums (l : List (Nat)) : List (List AV) := l.map zbq
@[go_sem] theorem nums_len (l : List (Nat)) : (nums l).length = l.length := by simp [nums]
@[go_sem] theorem nums_take (l : List (Nat)) (n : Nat) : (nums l).take n = nums (l.take n) := by simp [nums, List.map_take]
@[go_sem] theorem nums_drop (l : List (Nat)) (n : Nat) : (nums l).drop n = nums (l.drop n) := by simp [nums, List.map_drop]
@[go_sem] theorem nums_set (l : List (Nat)) (i : Nat) (x : Nat) : (nums l).set i (zbq x) = nums (l.set i x) := by simp [nums, List.map_set]
def numsD (l : List (Nat)) (i : Nat) : Nat := l.getD i 0
@[go_sem] theorem nums_get {l : List (Nat)} {i : Nat} (h : i < l.length) : (nums l)[i]? = some (zbq (numsD l i)) := by
  simp [nums, numsD, List.getElem?_map, List.getElem?_eq_getElem h]
def trsR : Nat × Hash -> List AV := fun t => .int .i64 t.1 :: hc t.2
def trs (l : List (Nat × Hash)) : List (List AV) := l.map trsR
@[go_sem] theorem trs_len (l : List (Nat × Hash)) : (trs l).length = l.length := by simp [trs]
@[go_sem] theorem trs_take (l : List (Nat × Hash)) (n : Nat) : (trs l).take n = trs (l.take n) := by simp [trs, List.map_take]
@[go_sem] theorem trs_drop (l : List (Nat × Hash)) (n : Nat) : (trs l).drop n = trs (l.drop n) := by simp [trs, List.map_drop]
@[go_sem] theorem trs_set (l : List (Nat × Hash)) (i : Nat) (x : Nat × Hash) : (trs l).set i (trsR x) = trs (l.set i x) := by simp [trs, List.map_set]
def trsD (l : List (Nat × Hash)) (i : Nat) : Nat × Hash := l.getD i (0, zeroH)
@[go_sem] theorem trs_get {l : List (Nat × Hash)} {i : Nat} (h : i < l.length) : (trs l)[i]? = some (trsR (trsD l i)) := by
  simp [trs, trsD, List.getElem?_map, List.getElem?_eq_getElem h]
/-- All that is new is let go; what is read of a slice stays. -/
theorem RdSl.frz {sz : Nat} {Z news : Store} {v : AV} {es : List (List AV)} (h : RdSl (Z ++ news) sz es v) (hn : ∀ r off len lim e, v = .sl r off len lim e -> Z.length <= r) (hr : RLss Z.length es) : ∃ v2, SlV sz es v2 /\ DR (FrzD Z news) v2 v := by
  rcases h with (⟨rfl, rfl⟩ | ⟨ex, rfl⟩) | ⟨r, off, lim, o, rfl, hg, h1, h2⟩
  · exact ⟨.nilsl, .inl ⟨rfl, rfl⟩, by simp [DR]⟩
  · exact ⟨.vsl sz es ex, .inr ⟨ex, rfl⟩, FrzD.same (by simpa only [RL] using hr)⟩
  · exact ⟨.vsl sz es false, .inr ⟨false, rfl⟩, FrzD.sl (hn _ _ _ _ _ rfl) hg h1 h2 hr⟩
theorem Ext.all {Y Y' : Store} {v v2 : AV} (hw : Wf Y.length Y) (he : Ext Y Y') (h : ∀ news, Y' = Y ++ news -> DR (FrzD Y news) v2 v) : DownV Y.length v Y' v2 Y := by
  obtain ⟨news, rfl⟩ := he
  exact DownV.all hw (h news rfl)
/-- Own elements in memory, from the k-th object on. -/
def OwnR (sz k : Nat) (Y' : Store) (v : AV) (es : List (List AV)) : Prop := (es = [] /\ v = .nilsl) \/ ∃ r, k <= r /\ es ≠ [] /\ v = .sl r 0 es.length none sz /\ Y'[r]? = some (some es)
theorem OwnR.nil {sz k : Nat} {Y' : Store} : OwnR sz k Y' .nilsl [] := .inl ⟨rfl, rfl⟩
theorem OwnR.cells {sz k : Nat} {Y' : Store} {v : AV} {es : List (List AV)} (h : OwnR sz k Y' v es) : cellsOf v = some [v] := by
  rcases h with ⟨_, rfl⟩ | ⟨r, _, _, rfl, _⟩ <;> rfl
theorem OwnR.rd {sz k : Nat} {Y' : Store} {v : AV} {es : List (List AV)} (h : OwnR sz k Y' v es) : RdSl Y' sz es v := by
  rcases h with ⟨h, rfl⟩ | ⟨r, _, _, rfl, hg⟩
  · exact .inl (.inl ⟨rfl, h⟩)
  · exact .inr ⟨r, 0, none, es, rfl, hg, by omega, by simp⟩
theorem OwnR.len {sz k : Nat} {Y' : Store} {v : AV} {es : List (List AV)} (h : OwnR sz k Y' v es) : z1q v = some (.int .i64 es.length) := h.rd.len
theorem OwnR.set {sz k q : Nat} {Y' : Store} {v : AV} {es : List (List AV)} {x : Option AObj} (h : OwnR sz k Y' v es) (hq : q < k) : OwnR sz k (Y'.set q x) v es := by
  rcases h with h | ⟨r, h1, h2, h3, h4⟩
  · exact .inl h
  · exact .inr ⟨r, h1, h2, h3, by rw [z23 (by omega)]; exact h4⟩
theorem OwnR.more {sz k : Nat} {Y' y : Store} {v : AV} {es : List (List AV)} (h : OwnR sz k Y' v es) : OwnR sz k (Y' ++ y) v es := by
  rcases h with h | ⟨r, h1, h2, h3, h4⟩
  · exact .inl h
  · exact .inr ⟨r, h1, h2, h3, by rw [gapp (slen h4)]; exact h4⟩
theorem OwnR.app {sz k : Nat} {Y' : Store} {v : AV} {es ys : List (List AV)} (h : OwnR sz k Y' v es) (hk : k <= Y'.length) (h0 : ys.length ≠ 0) (hl : es.length + ys.length <= 1073741824) :
    ∃ v' Y2, aApp Y' sz v ys = some (v', Y2) /\ OwnR sz k Y2 v' (es ++ ys) /\ (∀ q, q < k -> Y2[q]? = Y'[q]?) /\ (∀ Y : Store, Y.length <= k -> Ext Y Y' -> Ext Y Y2) /\ k <= Y2.length := by
  have hne : es ++ ys ≠ [] := fun e => h0 (by rw [(List.append_eq_nil_iff.1 e).2]; rfl)
  rcases h with ⟨rfl, rfl⟩ | ⟨r, h1, h2, rfl, hg⟩
  · refine ⟨.sl Y'.length 0 ys.length none sz, Y' ++ [some ys], by rw [zam, if_neg h0, if_pos (by simpa using hl)], .inr ⟨Y'.length, hk, hne, by simp, by simp⟩, fun q hq => gapp (by omega), fun Y _ he => he.app, by simp; omega⟩
  · have hr := slen hg
    refine ⟨.sl Y'.length 0 (es.length + ys.length) none sz, Y'.set r none ++ [some (es ++ ys)], ?_, .inr ⟨Y'.length, hk, hne, by simp, by rw [z18 (by simp)]; simp⟩, fun q hq => by rw [gapp (by simp; omega), z23 (by omega)], fun Y hs he => (he.set (by omega)).app, by simp; omega⟩
    rw [z97, if_neg h0, hg]
    simp only
    rw [if_pos ⟨trivial, by omega, by omega⟩, if_neg (by omega), List.drop_zero, List.take_of_length_le (Nat.le_refl _)]
theorem OwnR.frz {sz k : Nat} {Z news : Store} {v : AV} {es : List (List AV)} (h : OwnR sz k (Z ++ news) v es) (hk : Z.length <= k) (hr : RLss Z.length es) : DR (FrzD Z news) (z1m sz es) v := by
  unfold z1m
  rcases h with ⟨rfl, rfl⟩ | ⟨r, h1, h2, rfl, hg⟩
  · simp [DR]
  · rw [if_neg h2]
    exact FrzD.sl (by omega) hg (by omega) (by simp) hr
theorem OwnR.fr {sz k : Nat} {Z Y' news : Store} {v : AV} {es : List (List AV)} (h : OwnR sz k Y' v es) (e : Y' = Z ++ news) (hk : Z.length <= k) (hr : RLss Z.length es) : DR (FrzD Z news) (z1m sz es) v := by
  subst e; exact h.frz hk hr
end Am
end Go.Proofs.YtncenefkbpelbaaDoor
end
section
/- Ranges: contracts: the reference's open, join, close. -/
namespace Go.Proofs.YtncenefkbpelbaaDoor
namespace Am
attribute [local irreducible] ACallsTo ACallsP
theorem OwnN.base {sz : Nat} {Z y Y' : Store} {v : AV} {es : List (List AV)} (h : OwnN sz (Z ++ y) Y' v es) : OwnN sz Z Y' v es := by
  obtain ⟨news, rfl, h⟩ := h
  refine ⟨y ++ news, by rw [List.append_assoc], ?_⟩
  rcases h with h | ⟨j, h0, rfl, hj⟩
  · exact .inl h
  · exact .inr ⟨y.length + j, h0, by rw [List.length_append]; congr 1; omega, by rw [List.getElem?_append_right (by omega), Nat.add_sub_cancel_left]; exact hj⟩
end Am
end Go.Proofs.YtncenefkbpelbaaDoor
end
section
/- Ranges: contracts: the reference's Extend. -/
namespace Go.Proofs.YtncenefkbpelbaaDoor
namespace Am
attribute [local irreducible] ACallsTo ACallsP
end Am
end Go.Proofs.YtncenefkbpelbaaDoor
end
section
/- Ranges: contracts: Of, Append, Same, the parts, Part. -/
namespace Go.Proofs.YtncenefkbpelbaaDoor
namespace Am
attribute [local irreducible] ACallsTo ACallsP
theorem zp8 {sz : Nat} {es : List (List AV)} : cellsOf (z1m sz es) = some [z1m sz es] := by
  unfold z1m; split <;> rfl
end Am
end Go.Proofs.YtncenefkbpelbaaDoor
end
section
/- Ranges: contracts: Part. -/
namespace Go.Proofs.YtncenefkbpelbaaDoor
namespace Am
attribute [local irreducible] ACallsTo ACallsP
end Am
end Go.Proofs.YtncenefkbpelbaaDoor
end
section
/- Ranges: contracts: the reference's Of, the program's Merge. -/
namespace Go.Proofs.YtncenefkbpelbaaDoor
namespace Am
attribute [local irreducible] ACallsTo ACallsP
theorem zgx {sz : Nat} {es : List (List AV)} {z : AV} (h : SlV sz es z) : cellsOf z = some [z] := by
  rcases h with ⟨rfl, _⟩ | ⟨ex, rfl⟩ <;> rfl
end Am
end Go.Proofs.YtncenefkbpelbaaDoor
end
section
/- Ranges: the chapter's example. -/
namespace Go.Proofs.YtncenefkbpelbaaDoor
namespace Am
theorem zg9 (a b : Hash) : z1r [a, b] = zi a b := by
  rw [zcc (by simp)]; simp [split2, zg8]
theorem zga (a b c d : Hash) : z1r [a, b, c, d] = zi (zi a b) (zi c d) := by
  rw [zcc (by simp)]; simp [split4, zg9]
attribute [local irreducible] ACallsTo ACallsP
end Am
end Go.Proofs.YtncenefkbpelbaaDoor
end
section
/- Ranges: the law RangesPart: its contract. -/
namespace Go.Proofs.YtncenefkbpelbaaDoor
namespace Am
attribute [local irreducible] ACallsTo ACallsP
theorem hslC_h {cs : List AV} (h : ShC (.sl 32 z3i) cs) : ∃ (l : List Hash) (a : AV), cs = [a] /\ SlV 32 (hr l) a /\ l.length <= maxLen := by
  simp only [ShC] at h
  rcases h with rfl | ⟨es, rfl, hl, _, h2⟩
  · exact ⟨[], .nilsl, rfl, .inl ⟨rfl, rfl⟩, Nat.zero_le _⟩
  · obtain ⟨hs, rfl, hH⟩ := zeq es h2
    obtain ⟨m, rfl⟩ := hb_of hH
    rw [z85] at *
    exact ⟨m, _, rfl, .inr ⟨false, rfl⟩, by rwa [z6] at hl⟩
end Am
end Go.Proofs.YtncenefkbpelbaaDoor
end
section
/- Ranges: the law RangesFull: its contract. -/
namespace Go.Proofs.YtncenefkbpelbaaDoor
namespace Am
attribute [local irreducible] ACallsTo ACallsP
end Am
end Go.Proofs.YtncenefkbpelbaaDoor
end
section
/- Ranges: the root of a range. -/
namespace Go.Proofs.YtncenefkbpelbaaDoor
namespace Am
attribute [local irreducible] ACallsTo ACallsP
end Am
end Go.Proofs.YtncenefkbpelbaaDoor
end
section
/- Abstract code. (Printed by wip/gen.) -/
set_option maxRecDepth 10000
namespace Go.Proofs.YtncenefkbpelbaaDoor
namespace Am



@[go_sem] def qmr0 : List AIns := [
  ⟨some 2,none,.no,.alloc zZ0⟩,
  ⟨some 3,none,.no,.mv (.v (.str []))⟩,
  ⟨some 4,none,.no,.mv (.v (.bool false))⟩]
@[go_sem] def qmr1 : List AIns := [
  ⟨some 7,none,.no,.mv (.t 0)⟩,
  ⟨some 8,none,.no,.call (.v (.fn 144 [])) [(.t 7), (.v (.int .u64 32))]⟩,
  ⟨some 6,none,.no,.mv (.t 8)⟩,
  ⟨some 9,none,.no,.ext 0 (.t 6)⟩,
  ⟨some 10,none,.no,.ext 1 (.t 6)⟩,
  ⟨some 11,none,.no,.ext 2 (.t 6)⟩,
  ⟨some 5,none,.no,.mv (.t 9)⟩,
  ⟨some 3,none,.no,.mv (.t 10)⟩,
  ⟨some 4,none,.no,.mv (.t 11)⟩]
@[go_sem] def qmr2 : List AIns := [
  ⟨some 12,none,.no,.slice (.arr 32 1) (.t 2) none none none⟩,
  ⟨some 13,none,.no,.mv (.t 5)⟩,
  ⟨some 14,none,.no,.copy 1 (.t 12) (.t 13)⟩]
@[go_sem] def qmr3 : List AIns := [
  ⟨some 15,none,.no,.load true 32 (.t 2)⟩,
  ⟨some 16,none,.no,.mv (.t 3)⟩,
  ⟨some 17,none,.no,.mv (.t 4)⟩,
  ⟨none,none,.no,.store 32 (.t 2) (.t 15)⟩,
  ⟨some 3,none,.no,.mv (.t 16)⟩,
  ⟨some 4,none,.no,.mv (.t 17)⟩]
def qmc4 : ACode := .seq (.reg qmr3) .ret
def qmc5 : ACode := .seq (.reg qmr2) qmc4
def qmc6 : ACode := .seq (.reg qmr1) qmc5
def qmc7 : ACode := .seq (.reg qmr0) qmc6
theorem qmok : cFn TC 132 = some (18, [.c 2 true 32, .t 3, .t 4], qmc7) := by kernel_rfl

@[go_sem] def qnr0 : List AIns := [
  ⟨some 2,none,.no,.alloc zZ0⟩,
  ⟨some 3,none,.no,.mv (.v (.str []))⟩,
  ⟨some 4,none,.no,.mv (.v (.bool false))⟩]
@[go_sem] def qnr1 : List AIns := [
  ⟨some 5,none,.no,.alloc zZ0⟩]
@[go_sem] def qnr2 : List AIns := [
  ⟨some 7,none,.no,.mv (.t 0)⟩,
  ⟨some 8,none,.no,.lenStr (.t 7)⟩,
  ⟨some 9,none,.no,.bin .lss .none (.t 8) (.v (.int .i64 32))⟩]
@[go_sem] def qnr3 : List AIns := [
  ⟨some 10,none,.no,.load true 32 (.t 5)⟩,
  ⟨none,none,.no,.store 32 (.t 2) (.t 10)⟩,
  ⟨some 3,none,.no,.mv (.v (.str []))⟩,
  ⟨some 4,none,.no,.mv (.v (.bool false))⟩]
def qnc4 : ACode := .seq (.reg qnr3) .ret
def qnc5 : ACode := .cond (.t 9) qnc4 .skip
def qnc6 : ACode := .seq (.reg qnr2) qnc5
@[go_sem] def qnr7 : List AIns := [
  ⟨some 6,none,.no,.mv (.v (.int .i64 0))⟩]
@[go_sem] def qnr8 : List AIns := [
  ⟨some 11,none,.no,.mv (.t 6)⟩,
  ⟨some 12,none,.no,.bin .lss .none (.t 11) (.v (.int .i64 32))⟩]
def qnc9 : ACode := .cond (.t 12) .skip (.exit 0)
def qnc10 : ACode := .seq (.reg qnr8) qnc9
@[go_sem] def qnr11 : List AIns := [
  ⟨some 15,none,.no,.mv (.t 6)⟩,
  ⟨some 16,none,.no,.mv (.t 0)⟩,
  ⟨some 17,none,.no,.mv (.t 6)⟩,
  ⟨some 18,none,.no,.ixStr (.t 16) (.t 17)⟩,
  ⟨some 19,none,.no,.iaArr 32 1 (.t 5) (.t 15)⟩,
  ⟨none,none,.no,.store 1 (.t 19) (.t 18)⟩]
@[go_sem] def qnr12 : List AIns := [
  ⟨some 13,none,.no,.mv (.t 6)⟩,
  ⟨some 14,none,.no,.bin .add .none (.t 13) (.v (.int .i64 1))⟩,
  ⟨some 6,none,.no,.mv (.t 14)⟩]
def qnc13 : ACode := .seq (.block 1 (.reg qnr11)) (.reg qnr12)
def qnc14 : ACode := .seq qnc10 qnc13
def qnc15 : ACode := .loop qnc14
def qnc16 : ACode := .block 0 qnc15
def qnc17 : ACode := .seq (.reg qnr7) qnc16
@[go_sem] def qnr18 : List AIns := [
  ⟨some 20,none,.no,.load true 32 (.t 5)⟩,
  ⟨some 21,none,.no,.mv (.t 0)⟩,
  ⟨some 22,none,.no,.slice .str (.t 21) (some (.v (.int .i64 32))) none none⟩,
  ⟨none,none,.no,.store 32 (.t 2) (.t 20)⟩,
  ⟨some 3,none,.no,.mv (.t 22)⟩,
  ⟨some 4,none,.no,.mv (.v (.bool true))⟩]
def qnc19 : ACode := .seq (.reg qnr18) .ret
def qnc20 : ACode := .seq qnc17 qnc19
def qnc21 : ACode := .seq qnc6 qnc20
def qnc22 : ACode := .seq (.reg qnr1) qnc21
def qnc23 : ACode := .seq (.reg qnr0) qnc22
theorem qnok : cFn TC 133 = some (23, [.c 2 true 32, .t 3, .t 4], qnc23) := by kernel_rfl

@[go_sem] def qor0 : List AIns := [
  ⟨some 2,none,.no,.mv (.v (.str []))⟩]
@[go_sem] def qor1 : List AIns := [
  ⟨some 4,none,.no,.mv (.t 0)⟩,
  ⟨some 5,none,.no,.bin .rem .none (.t 4) (.v (.int .u64 128))⟩,
  ⟨some 6,none,.no,.conv (.int .u8) (.t 5)⟩,
  ⟨some 7,none,.no,.lit 1 [(.t 6)]⟩,
  ⟨some 3,none,.no,.mv (.t 7)⟩]
@[go_sem] def qor2 : List AIns := [
  ⟨some 8,none,.no,.mv (.t 0)⟩,
  ⟨some 9,none,.no,.bin .quo .none (.t 8) (.v (.int .u64 128))⟩,
  ⟨some 0,none,.no,.mv (.t 9)⟩]
@[go_sem] def qor3 : List AIns := [
  ⟨some 10,none,.no,.mv (.t 0)⟩,
  ⟨some 11,none,.no,.bin .gtr .none (.t 10) (.v (.int .u64 0))⟩]
def qoc4 : ACode := .cond (.t 11) .skip (.exit 0)
def qoc5 : ACode := .seq (.reg qor3) qoc4
@[go_sem] def qor6 : List AIns := [
  ⟨some 14,none,.no,.mv (.t 0)⟩,
  ⟨some 15,none,.no,.bin .rem .none (.t 14) (.v (.int .u64 128))⟩,
  ⟨some 16,none,.no,.conv (.int .u8) (.t 15)⟩,
  ⟨some 17,none,.no,.bin .or .none (.t 16) (.v (.int .u8 128))⟩,
  ⟨some 18,none,.no,.lit 1 [(.t 17)]⟩,
  ⟨some 19,none,.no,.mv (.t 3)⟩,
  ⟨some 20,none,.no,.appB (.t 18) (.t 19)⟩,
  ⟨some 3,none,.no,.mv (.t 20)⟩]
@[go_sem] def qor7 : List AIns := [
  ⟨some 12,none,.no,.mv (.t 0)⟩,
  ⟨some 13,none,.no,.bin .quo .none (.t 12) (.v (.int .u64 128))⟩,
  ⟨some 0,none,.no,.mv (.t 13)⟩]
def qoc8 : ACode := .seq (.block 1 (.reg qor6)) (.reg qor7)
def qoc9 : ACode := .seq qoc5 qoc8
def qoc10 : ACode := .loop qoc9
def qoc11 : ACode := .block 0 qoc10
def qoc12 : ACode := .seq (.reg qor2) qoc11
@[go_sem] def qor13 : List AIns := [
  ⟨some 21,none,.no,.mv (.t 3)⟩,
  ⟨some 22,none,.no,.conv .str (.t 21)⟩,
  ⟨some 2,none,.no,.mv (.t 22)⟩]
def qoc14 : ACode := .seq (.reg qor13) .ret
def qoc15 : ACode := .seq qoc12 qoc14
def qoc16 : ACode := .seq (.reg qor1) qoc15
def qoc17 : ACode := .seq (.reg qor0) qoc16
theorem qook : cFn TC 154 = some (23, [.t 2], qoc17) := by kernel_rfl

@[go_sem] def qpr0 : List AIns := [
  ⟨some 2,none,.no,.mv (.v (.str []))⟩]
@[go_sem] def qpr1 : List AIns := [
  ⟨some 3,none,.no,.mv (.t 0)⟩,
  ⟨some 4,none,.no,.lenStr (.t 3)⟩,
  ⟨some 5,none,.no,.conv (.int .u64) (.t 4)⟩,
  ⟨some 6,none,.no,.call (.v (.fn 154 [])) [(.t 5)]⟩,
  ⟨some 7,none,.no,.mv (.t 0)⟩,
  ⟨some 8,none,.no,.bin .add .none (.t 6) (.t 7)⟩,
  ⟨some 2,none,.no,.mv (.t 8)⟩]
def qpc2 : ACode := .seq (.reg qpr1) .ret
def qpc3 : ACode := .seq (.reg qpr0) qpc2
theorem qpok : cFn TC 142 = some (9, [.t 2], qpc3) := by kernel_rfl

@[go_sem] def qqr0 : List AIns := [
  ⟨some 4,none,.no,.mv (.v (.str []))⟩,
  ⟨some 5,none,.no,.mv (.v (.str []))⟩,
  ⟨some 6,none,.no,.mv (.v (.bool false))⟩]
@[go_sem] def qqr1 : List AIns := [
  ⟨some 7,none,.no,.mv (.t 1)⟩,
  ⟨some 8,none,.no,.mv (.t 0)⟩,
  ⟨some 9,none,.no,.lenStr (.t 8)⟩,
  ⟨some 10,none,.no,.conv (.int .u64) (.t 9)⟩,
  ⟨some 11,none,.no,.bin .gtr .none (.t 7) (.t 10)⟩]
@[go_sem] def qqr2 : List AIns := [
  ⟨some 4,none,.no,.mv (.v (.str []))⟩,
  ⟨some 5,none,.no,.mv (.v (.str []))⟩,
  ⟨some 6,none,.no,.mv (.v (.bool false))⟩]
def qqc3 : ACode := .seq (.reg qqr2) .ret
def qqc4 : ACode := .cond (.t 11) qqc3 .skip
def qqc5 : ACode := .seq (.reg qqr1) qqc4
@[go_sem] def qqr6 : List AIns := [
  ⟨some 12,none,.no,.mv (.t 0)⟩,
  ⟨some 13,none,.no,.mv (.t 1)⟩,
  ⟨some 14,none,.no,.slice .str (.t 12) none (some (.t 13)) none⟩,
  ⟨some 15,none,.no,.mv (.t 0)⟩,
  ⟨some 16,none,.no,.mv (.t 1)⟩,
  ⟨some 17,none,.no,.slice .str (.t 15) (some (.t 16)) none none⟩,
  ⟨some 4,none,.no,.mv (.t 14)⟩,
  ⟨some 5,none,.no,.mv (.t 17)⟩,
  ⟨some 6,none,.no,.mv (.v (.bool true))⟩]
def qqc7 : ACode := .seq (.reg qqr6) .ret
def qqc8 : ACode := .seq qqc5 qqc7
def qqc9 : ACode := .seq (.reg qqr0) qqc8
theorem qqok : cFn TC 144 = some (18, [.t 4, .t 5, .t 6], qqc9) := by kernel_rfl

end Am
end Go.Proofs.YtncenefkbpelbaaDoor
end
section
/- Codec: plain laws: numbers as_ bytes, and back. -/
namespace Go.Proofs.YtncenefkbpelbaaDoor
namespace Am
def u8 (n : Nat) : UInt8 := UInt8.ofNat n
theorem zh9 {n : Nat} (h : n < 256) : (u8 n).toNat = n := by unfold u8; rw [UInt8.toNat_ofNat']; omega
/-- Bytes behind which there are more. -/
def z3e : Nat -> Nat -> List UInt8
  | 0, _ => []
  | f + 1, n => if n < 128 then [u8 (n + 128)] else z3e f (n / 128) ++ [u8 (n % 128 + 128)]
theorem zdi (f n : Nat) : z3e (f + 1) n = if n < 128 then [u8 (n + 128)] else z3e f (n / 128) ++ [u8 (n % 128 + 128)] := rfl
theorem zdh : ∀ (f g n : Nat), n < 128 ^ f -> n < 128 ^ g -> 0 < f -> 0 < g -> z3e f n = z3e g n
  | 0, _, _, _, _, h, _ => by omega
  | _ + 1, 0, _, _, _, _, h => by omega
  | f + 1, g + 1, n, h, h', _, _ => by
    simp only [z3e]
    by_cases h1 : n < 128
    · rw [if_pos h1, if_pos h1]
    · rw [if_neg h1, if_neg h1]
      rw [Nat.pow_succ] at h h'
      have hf : 0 < f := by
        rcases Nat.eq_zero_or_pos f with h0 | h0
        · subst h0; simp at h; omega
        · exact h0
      have hg : 0 < g := by
        rcases Nat.eq_zero_or_pos g with h0 | h0
        · subst h0; simp at h'; omega
        · exact h0
      rw [zdh f g (n / 128) (by omega) (by omega) hf hg]
/-- A number's bytes. -/
def numS (n : Nat) : List UInt8 := if n < 128 then [u8 n] else z3e 10 (n / 128) ++ [u8 (n % 128)]
end Am
end Go.Proofs.YtncenefkbpelbaaDoor
end
section
/- Codec: contracts: numbers. -/
namespace Go.Proofs.YtncenefkbpelbaaDoor
namespace Am
attribute [local irreducible] ACallsTo ACallsP
theorem or128 {n : Nat} (h : n < 128) : n ||| 128 = n + 128 := by
  have := Nat.two_pow_add_eq_or_of_lt (i := 7) (b := n) h 1
  simp at this
  rw [Nat.or_comm, <- this, Nat.add_comm]
theorem zia (b : UInt8) (s : List UInt8) : z8 (b :: s) = [.int .u8 b.toNat] :: z8 s := by simp [z8, B8]
/-- Digits ahead of others. -/
def preF (m : Nat) : List UInt8 := if m = 0 then [] else z3e 10 m
theorem zmt {m : Nat} (h : 0 < m) (h2 : m < 18446744073709551616) : preF m = preF (m / 128) ++ [u8 (m % 128 + 128)] := by
  unfold preF
  rw [if_neg (by omega), show (10 : Nat) = 9 + 1 from rfl, zdi]
  by_cases h1 : m < 128
  · rw [if_pos h1, if_pos (by omega), show m % 128 + 128 = m + 128 by omega]; rfl
  · rw [if_neg h1, if_neg (by omega), zdh 9 10 (m / 128) (by omega) (by omega) (by decide) (by decide)]
theorem zlm (n : Nat) : numS n = preF (n / 128) ++ [u8 (n % 128)] := by
  unfold numS preF
  by_cases h1 : n < 128
  · rw [if_pos h1, if_pos (by omega), show n % 128 = n by omega]; rfl
  · rw [if_neg h1, if_neg (by omega)]
set_option maxHeartbeats 4000000 in
theorem ziv (Y : Store) (n : Nat) (h : n < 18446744073709551616) : ACallsTo TC 154 [.int .u64 n] Y (.str (numS n)) Y := by
  refine ACallsTo.of_body qook (by simp) fun hw _ => ?_
  have hb : [[AV.int .u8 ((n : Int) % 128)]] = z8 [u8 (n % 128)] := by
    have := zh9 (n := n % 128) (by omega)
    simp [z8, B8, this]
  have hd : (n : Int) / 128 = ((n / 128 : Nat) : Int) := by simp
  have hn := zlm n
  generalize u8 (n % 128) = c0 at *
  repeat' (first|refine zW.zs ?_|refine zW.zb ?_|refine zW.zc ?_|refine zW.zt rfl ?_|refine zW.zf rfl ?_|(refine zW.zd rfl (fun ht => ?_) (fun ht => ?_)<;>try (exfalso;omega))|((first|refine zW.zr ?_|refine zW.zk ?_|refine zW.ze ?_|refine zW.zq ?_|((first|apply zg0|apply zg1|apply zg2|apply zg3|apply zg4|apply zg5|apply zg6|apply zg7)<;>intro ht));all_goals try simp (disch:=first|omega|(simp only [lens,z7,z6,List.length_reverse,zn];first|done|omega)) only [go_sem,reduceEqDiff,Nat.reduceBEq,reduceAdd,reduceMul,reduceSub,reduceLeDiff,reduceToNat,reducePow, hb, hd]))
  refine zW.loop (fun k O Y' => ∃ (m : Nat) (b : List UInt8) (v : AV), m < 128 ^ k /\ m < 18446744073709551616 /\ preF m ++ b = numS n /\ 0 < b.length /\ b.length + k <= 12 /\ Ext Y Y' /\ (v = .vsl 1 (z8 b) true \/ ∃ r, Y.length <= r /\ v = .sl r 0 b.length none 1 /\ Y'[r]? = some (some (z8 b))) /\ O 0 = .int .u64 m /\ O 3 = v) 10 ?_ ?_
  · exact ⟨n / 128, [c0], _, by omega, by omega, hn.symm, by simp, by simp, Ext.refl _, .inl rfl, by simp (disch:=first|omega|(simp only [lens,z7,z6,List.length_reverse,zn];first|done|omega)) only [go_sem,reduceEqDiff,Nat.reduceBEq,reduceAdd,reduceMul,reduceSub,reduceLeDiff,reduceToNat,reducePow], by simp (disch:=first|omega|(simp only [lens,z7,z6,List.length_reverse,zn];first|done|omega)) only [go_sem,reduceEqDiff,Nat.reduceBEq,reduceAdd,reduceMul,reduceSub,reduceLeDiff,reduceToNat,reducePow, hb]⟩
  · rintro k O Y' ⟨m, b, v, hmk, hm, hmb, hb0, hbk, he, hv, q0, q3⟩
    by_cases h0 : m = 0
    · subst h0
      rw [<- hmb]
      have e0 : preF 0 ++ b = b := rfl
      rw [e0]
      rcases hv with rfl | ⟨r, hr, rfl, hg⟩
      · repeat' (first|refine zW.zs ?_|refine zW.zb ?_|refine zW.zc ?_|refine zW.zt rfl ?_|refine zW.zf rfl ?_|(refine zW.zd rfl (fun ht => ?_) (fun ht => ?_)<;>try (exfalso;omega))|((first|refine zW.zr ?_|refine zW.zk ?_|refine zW.ze ?_|refine zW.zq ?_|((first|apply zg0|apply zg1|apply zg2|apply zg3|apply zg4|apply zg5|apply zg6|apply zg7)<;>intro ht));all_goals try simp (disch:=first|omega|(simp only [lens,z7,z6,List.length_reverse,zn];first|done|omega)) only [go_sem,reduceEqDiff,Nat.reduceBEq,reduceAdd,reduceMul,reduceSub,reduceLeDiff,reduceToNat,reducePow, q0, q3]))
        exact Ext.pure hw he (z12 _ rfl)
      · repeat' (first|refine zW.zs ?_|refine zW.zb ?_|refine zW.zc ?_|refine zW.zt rfl ?_|refine zW.zf rfl ?_|(refine zW.zd rfl (fun ht => ?_) (fun ht => ?_)<;>try (exfalso;omega))|((first|refine zW.zr ?_|refine zW.zk ?_|refine zW.ze ?_|refine zW.zq ?_|((first|apply zg0|apply zg1|apply zg2|apply zg3|apply zg4|apply zg5|apply zg6|apply zg7)<;>intro ht));all_goals try simp (disch:=first|omega|(simp only [lens,z7,z6,List.length_reverse,zn];first|done|omega)) only [go_sem,reduceEqDiff,Nat.reduceBEq,reduceAdd,reduceMul,reduceSub,reduceLeDiff,reduceToNat,reducePow, q0, q3, hg]))
        exact Ext.pure hw he (z12 _ rfl)
    · have hst := zmt (m := m) (by omega) hm
      have hc8 := zh9 (n := m % 128 + 128) (by omega)
      have hor : ((((m : Int) % 128).toNat ||| 128 : Nat) : Int) = (((u8 (m % 128 + 128)).toNat : Nat) : Int) := by
        have : ((m : Int) % 128).toNat = m % 128 := by omega
        rw [this, or128 (by omega), hc8]
      have hd2 : (m : Int) / 128 = ((m / 128 : Nat) : Int) := by simp
      rw [hst, List.append_assoc] at hmb
      have hkk : ∃ k', k = k' + 1 := by
        cases k with
        | zero => simp at hmk; omega
        | succ k => exact ⟨k, rfl⟩
      obtain ⟨k, rfl⟩ := hkk
      rw [Nat.pow_succ] at hmk
      generalize u8 (m % 128 + 128) = c at *
      have hcat : [AV.int .u8 (c.toNat : Int)] :: z8 b = z8 (c :: b) := (zia c b).symm
      have hlen : (z8 b).length = b.length := zn b
      rcases hv with rfl | ⟨r, hr, rfl, hg⟩
      · repeat' (first|refine zW.zs ?_|refine zW.zb ?_|refine zW.zc ?_|refine zW.zt rfl ?_|refine zW.zf rfl ?_|(refine zW.zd rfl (fun ht => ?_) (fun ht => ?_)<;>try (exfalso;omega))|((first|refine zW.zr ?_|refine zW.zk ?_|refine zW.ze ?_|refine zW.zq ?_|((first|apply zg0|apply zg1|apply zg2|apply zg3|apply zg4|apply zg5|apply zg6|apply zg7)<;>intro ht));all_goals try simp (disch:=first|omega|(simp only [lens,z7,z6,List.length_reverse,zn];first|done|omega)) only [go_sem,reduceEqDiff,Nat.reduceBEq,reduceAdd,reduceMul,reduceSub,reduceLeDiff,reduceToNat,reducePow, q0, q3, hor, hd2, hcat]))
        exact ⟨k, by omega, m / 128, c :: b, _, by omega, by omega, hmb, by simp, by simp; omega, he.app, .inr ⟨Y'.length, he.le, by simp [Nat.add_comm], by simp⟩, rfl, rfl⟩
      · repeat' (first|refine zW.zs ?_|refine zW.zb ?_|refine zW.zc ?_|refine zW.zt rfl ?_|refine zW.zf rfl ?_|(refine zW.zd rfl (fun ht => ?_) (fun ht => ?_)<;>try (exfalso;omega))|((first|refine zW.zr ?_|refine zW.zk ?_|refine zW.ze ?_|refine zW.zq ?_|((first|apply zg0|apply zg1|apply zg2|apply zg3|apply zg4|apply zg5|apply zg6|apply zg7)<;>intro ht));all_goals try simp (disch:=first|omega|(simp only [lens,z7,z6,List.length_reverse,zn];first|done|omega)) only [go_sem,reduceEqDiff,Nat.reduceBEq,reduceAdd,reduceMul,reduceSub,reduceLeDiff,reduceToNat,reducePow, q0, q3, hor, hd2, hcat, hg]))
        exact ⟨k, by omega, m / 128, c :: b, _, by omega, by omega, hmb, by simp, by simp; omega, he.app, .inr ⟨Y'.length, he.le, by simp [Nat.add_comm], by simp⟩, rfl, rfl⟩
end Am
end Go.Proofs.YtncenefkbpelbaaDoor
end
section
/- Codec: contracts: the number that stands ahead. -/
namespace Go.Proofs.YtncenefkbpelbaaDoor
namespace Am
attribute [local irreducible] ACallsTo ACallsP
end Am
end Go.Proofs.YtncenefkbpelbaaDoor
end
section
/- Codec: contracts: texts, what is cut off, hashes. -/
namespace Go.Proofs.YtncenefkbpelbaaDoor
namespace Am
attribute [local irreducible] ACallsTo ACallsP
def z3r (s : List UInt8) (n : Nat) : Option (List UInt8 × List UInt8) := if n <= s.length then some (s.take n, s.drop n) else none
def stV : Option (List UInt8 × List UInt8) -> AV
  | none => .tup [.str [], .str [], .bool false]
  | some (a, r) => .tup [.str a, .str r, .bool true]
def z69 (s : List UInt8) : List UInt8 := numS s.length ++ s
theorem zfd (n : Nat) : (numS n).length <= 11 := by
  unfold numS
  split
  · simp
  · have : ∀ f m, (z3e f m).length <= f := by
      intro f
      induction f with
      | zero => intro m; simp [z3e]
      | succ f ih =>
        intro m
        rw [zdi]
        split
        · simp
        · have := ih (m / 128); simp; omega
    have := this 10 (n / 128)
    simp; omega
set_option maxHeartbeats 4000000 in
theorem ziw (Y : Store) (s : List UInt8) (hs : s.length < 1000000000) : ACallsTo TC 142 [.str s] Y (.str (z69 s)) Y := by
  refine ACallsTo.of_body qpok (by simp) fun hw _ => ?_
  have hN := fun Y => ziv Y s.length (by omega)
  have h1 := zfd s.length
  unfold z69
  generalize numS s.length = N at *
  repeat' (first|refine zW.zs ?_|refine zW.zb ?_|refine zW.zc ?_|refine zW.zt rfl ?_|refine zW.zf rfl ?_|(refine zW.zd rfl (fun ht => ?_) (fun ht => ?_)<;>try (exfalso;omega))|((first|refine zW.zr ?_|refine zW.zk ?_|refine zW.ze ?_|refine zW.zq ?_|(apply callW.mk_pu; (first | exact (fun _ => hN _))) | (apply callW.za; (first | exact (hN _))) | ((first|apply zg0|apply zg1|apply zg2|apply zg3|apply zg4|apply zg5|apply zg6|apply zg7)<;>intro ht));all_goals try simp (disch:=first|omega|(simp only [lens,z7,z6,List.length_reverse,zn,zo];first|done|omega)) only [go_sem,reduceEqDiff,Nat.reduceBEq,reduceAdd,reduceMul,reduceSub,reduceLeDiff,reduceToNat,reducePow]))
  exact DownV.same hw (z12 _ rfl)
set_option maxHeartbeats 4000000 in
theorem zpm (Y : Store) (s : List UInt8) (n : Nat) (hs : s.length < 1000000000) (hn : n < 18446744073709551616) : ACallsTo TC 144 [.str s, .int .u64 n] Y (stV (z3r s n)) Y := by
  refine ACallsTo.of_body qqok (by simp) fun hw _ => ?_
  by_cases h : n <= s.length
  · unfold z3r
    rw [if_pos h]
    unfold stV
    repeat' (first|refine zW.zs ?_|refine zW.zb ?_|refine zW.zc ?_|refine zW.zt rfl ?_|refine zW.zf rfl ?_|(refine zW.zd rfl (fun ht => ?_) (fun ht => ?_)<;>try (exfalso;omega))|((first|refine zW.zr ?_|refine zW.zk ?_|refine zW.ze ?_|refine zW.zq ?_|((first|apply zg0|apply zg1|apply zg2|apply zg3|apply zg4|apply zg5|apply zg6|apply zg7)<;>intro ht));all_goals try simp (disch:=first|omega|(simp only [lens,z7,z6,List.length_reverse,zn,zo];first|done|omega)) only [go_sem,reduceEqDiff,Nat.reduceBEq,reduceAdd,reduceMul,reduceSub,reduceLeDiff,reduceToNat,reducePow]))
    exact DownV.same hw (z12 _ rfl)
  · unfold z3r
    rw [if_neg h]
    unfold stV
    repeat' (first|refine zW.zs ?_|refine zW.zb ?_|refine zW.zc ?_|refine zW.zt rfl ?_|refine zW.zf rfl ?_|(refine zW.zd rfl (fun ht => ?_) (fun ht => ?_)<;>try (exfalso;omega))|((first|refine zW.zr ?_|refine zW.zk ?_|refine zW.ze ?_|refine zW.zq ?_|((first|apply zg0|apply zg1|apply zg2|apply zg3|apply zg4|apply zg5|apply zg6|apply zg7)<;>intro ht));all_goals try simp (disch:=first|omega|(simp only [lens,z7,z6,List.length_reverse,zn,zo];first|done|omega)) only [go_sem,reduceEqDiff,Nat.reduceBEq,reduceAdd,reduceMul,reduceSub,reduceLeDiff,reduceToNat,reducePow]))
    exact DownV.same hw (z12 _ rfl)
end Am
end Go.Proofs.YtncenefkbpelbaaDoor
end
section
/- Codec: contracts: the hash that stands ahead. -/
namespace Go.Proofs.YtncenefkbpelbaaDoor
namespace Am
attribute [local irreducible] ACallsTo ACallsP
def toH (l : List UInt8) : Hash := if h : l.length = 32 then ⟨l, h⟩ else zeroH
theorem zet {l : List UInt8} (h : l.length = 32) : hc (toH l) = zl l := by simp [toH, h, hc]
theorem zpq (h : Hash) : toH h.1 = h := by simp [toH, h.2]
def unS (s : List UInt8) : Option (Hash × List UInt8) := (z3r s 32).map fun x => (toH x.1, x.2)
def unV : Option (Hash × List UInt8) -> AV
  | none => .tup [.agg (hc zeroH), .str [], .bool false]
  | some (h, r) => .tup [.agg (hc h), .str r, .bool true]
theorem zha {s : List UInt8} (h : ¬ 32 <= s.length) : unS s = none := by simp [unS, z3r, h]
theorem zad {s : List UInt8} (h : 32 <= s.length) : unS s = some (toH (s.take 32), s.drop 32) := by simp [unS, z3r, h]
theorem zae (h : Hash) (r : List UInt8) : unV (some (h, r)) = .tup [.agg (hc h), .str r, .bool true] := rfl
theorem zhb : unV none = .tup [.agg z32, .str [], .bool false] := rfl
theorem z9z {k : Nat} {cs : List AV} {r : List UInt8} {b : Bool} (h : RLs k cs) : RL k (.tup [.agg cs, .str r, .bool b]) := by
  simp only [RL, RLs]; exact ⟨h, trivial, trivial, trivial⟩
theorem z79 : z32.length = 32 := rfl
set_option maxHeartbeats 4000000 in
theorem zix (Y : Store) (s : List UInt8) (hs : s.length < 1000000000) : ACallsTo TC 132 [.str s] Y (unV (unS s)) Y := by
  refine ACallsTo.of_body qmok (by simp) fun hw _ => ?_
  have hT := fun Y => zpm Y s 32 hs (by omega)
  by_cases h : 32 <= s.length
  · rw [zad h]
    rw [zae, zet (by simp; omega)]
    have ht : z3r s 32 = some (s.take 32, s.drop 32) := by simp [z3r, h]
    rw [ht] at hT
    unfold stV at hT
    have hl : (s.take 32).length = 32 := by simp; omega
    generalize s.take 32 = a at *
    have hf := zdo a
    have hft : (z8 a).take 32 = z8 a := List.take_of_length_le (by rw [zn]; omega)
    have hfc : (zl a).length = 32 := by rw [zo]; exact hl
    have hfd : (zl a).drop 32 = [] := List.drop_of_length_le (by omega)
    have hfk : (zl a).take 32 = zl a := List.take_of_length_le (by omega)
    repeat' (first|refine zW.zs ?_|refine zW.zb ?_|refine zW.zc ?_|refine zW.zt rfl ?_|refine zW.zf rfl ?_|(refine zW.zd rfl (fun ht => ?_) (fun ht => ?_)<;>try (exfalso;omega))|((first|refine zW.zr ?_|refine zW.zk ?_|refine zW.ze ?_|refine zW.zq ?_|(apply callW.mk_pu; (first | exact (fun _ => hT _))) | (apply callW.za; (first | exact (hT _))) | ((first|apply zg0|apply zg1|apply zg2|apply zg3|apply zg4|apply zg5|apply zg6|apply zg7)<;>intro ht));all_goals try simp (disch:=first|omega|(simp only [lens,z7,z6,List.length_reverse,zn,zo];first|done|omega)) only [go_sem,reduceEqDiff,Nat.reduceBEq,reduceAdd,reduceMul,reduceSub,reduceLeDiff,reduceToNat,reducePow, hf, hft, hl, hfc, hfd, hfk, List.append_nil, z79]))
    exact DownV.pure hw (z9z (z2c _))
  · rw [zha h, zhb]
    have ht : z3r s 32 = none := by simp [z3r, h]
    rw [ht] at hT
    unfold stV at hT
    have hbe : (z8 []).flatten = ([] : List AV) := rfl
    repeat' (first|refine zW.zs ?_|refine zW.zb ?_|refine zW.zc ?_|refine zW.zt rfl ?_|refine zW.zf rfl ?_|(refine zW.zd rfl (fun ht => ?_) (fun ht => ?_)<;>try (exfalso;omega))|((first|refine zW.zr ?_|refine zW.zk ?_|refine zW.ze ?_|refine zW.zq ?_|(apply callW.mk_pu; (first | exact (fun _ => hT _))) | (apply callW.za; (first | exact (hT _))) | ((first|apply zg0|apply zg1|apply zg2|apply zg3|apply zg4|apply zg5|apply zg6|apply zg7)<;>intro ht));all_goals try simp (disch:=first|omega|(simp only [lens,z7,z6,List.length_reverse,zn,zo];first|done|omega)) only [go_sem,reduceEqDiff,Nat.reduceBEq,reduceAdd,reduceMul,reduceSub,reduceLeDiff,reduceToNat,reducePow, z79, hbe, List.nil_append, List.drop_zero]))
    exact DownV.pure hw (z9z (cs := z32) (z2c (List.replicate 32 0)))
def z3s (s : List UInt8) (i : Nat) : List AV := zl (s.take i) ++ List.replicate (32 - i) (.int .u8 0)
theorem zq3 {s : List UInt8} {i : Nat} (h : i <= 32) (hs : 32 <= s.length) : (z3s s i).length = 32 := by simp [z3s, zo]; omega
theorem zq4 {s : List UInt8} {i : Nat} (h : i < 32) (hs : 32 <= s.length) :
    (z3s s i).take i ++ AV.int .u8 (s.getD i 0).toNat :: (z3s s i).drop (i + 1) = z3s s (i + 1) := by
  have h1 : (zl (s.take i)).length = i := by rw [zo, List.length_take]; omega
  have hs2 : s.take (i + 1) = s.take i ++ [s.getD i 0] := by
    rw [<- List.take_append_getElem (by omega : i < s.length)]; simp [show i < s.length by omega]
  unfold z3s
  rw [List.take_append_of_le_length (by omega), List.take_of_length_le (by omega), List.drop_append, List.drop_of_length_le (by omega), h1, show i + 1 - i = 1 by omega, List.nil_append, hs2]
  rw [List.drop_replicate, show 32 - i - 1 = 32 - (i + 1) by omega]
  simp [zl]
theorem zq2 {s : List UInt8} : z3s s 32 = zl (s.take 32) := by simp [z3s]
set_option maxHeartbeats 4000000 in
theorem zo7 (Y : Store) (s : List UInt8) (hs : s.length < 1000000000) : ACallsTo TC 133 [.str s] Y (unV (unS s)) Y := by
  refine ACallsTo.of_body qnok (by simp) fun hw _ => ?_
  by_cases h : 32 <= s.length
  · rw [zad h]
    rw [zae, zet (by simp; omega)]
    repeat' (first|refine zW.zs ?_|refine zW.zb ?_|refine zW.zc ?_|refine zW.zt rfl ?_|refine zW.zf rfl ?_|(refine zW.zd rfl (fun ht => ?_) (fun ht => ?_)<;>try (exfalso;omega))|((first|refine zW.zr ?_|refine zW.zk ?_|refine zW.ze ?_|refine zW.zq ?_|((first|apply zg0|apply zg1|apply zg2|apply zg3|apply zg4|apply zg5|apply zg6|apply zg7)<;>intro ht));all_goals try simp (disch:=first|omega|(simp only [lens,z7,z6,List.length_reverse,zn,zo];first|done|omega)) only [go_sem,reduceEqDiff,Nat.reduceBEq,reduceAdd,reduceMul,reduceSub,reduceLeDiff,reduceToNat,reducePow, z79]))
    refine zW.loop (fun m O Y' => ∃ i : Nat, m + i = 32 /\ O 0 = .str s /\ O 2 = .ptr Y.length 0 0 /\ O 5 = .ptr (Y.length + 1) 0 0 /\ O 6 = .int .i64 i /\ Y' = Y ++ [some [z32], some [z3s s i]]) 32 ?_ ?_
    · exact ⟨0, by omega, by simp (disch:=first|omega|(simp only [lens,z7,z6,List.length_reverse,zn,zo];first|done|omega)) only [go_sem,reduceEqDiff,Nat.reduceBEq,reduceAdd,reduceMul,reduceSub,reduceLeDiff,reduceToNat,reducePow], by simp (disch:=first|omega|(simp only [lens,z7,z6,List.length_reverse,zn,zo];first|done|omega)) only [go_sem,reduceEqDiff,Nat.reduceBEq,reduceAdd,reduceMul,reduceSub,reduceLeDiff,reduceToNat,reducePow], by simp (disch:=first|omega|(simp only [lens,z7,z6,List.length_reverse,zn,zo];first|done|omega)) only [go_sem,reduceEqDiff,Nat.reduceBEq,reduceAdd,reduceMul,reduceSub,reduceLeDiff,reduceToNat,reducePow], by simp (disch:=first|omega|(simp only [lens,z7,z6,List.length_reverse,zn,zo];first|done|omega)) only [go_sem,reduceEqDiff,Nat.reduceBEq,reduceAdd,reduceMul,reduceSub,reduceLeDiff,reduceToNat,reducePow]; rfl, rfl⟩
    · rintro m O Y' ⟨i, hm, q0, q2, q5, q6, rfl⟩
      have hlen := zq3 (s := s) (i := i) (by omega) h
      by_cases hi : i < 32
      · have hst := zq4 hi h
        generalize z3s s i = cc at *
        repeat' (first|refine zW.zs ?_|refine zW.zb ?_|refine zW.zc ?_|refine zW.zt rfl ?_|refine zW.zf rfl ?_|(refine zW.zd rfl (fun ht => ?_) (fun ht => ?_)<;>try (exfalso;omega))|((first|refine zW.zr ?_|refine zW.zk ?_|refine zW.ze ?_|refine zW.zq ?_|((first|apply zg0|apply zg1|apply zg2|apply zg3|apply zg4|apply zg5|apply zg6|apply zg7)<;>intro ht));all_goals try simp (disch:=first|omega|(simp only [lens,z7,z6,List.length_reverse,zn,zo];first|done|omega)) only [go_sem,reduceEqDiff,Nat.reduceBEq,reduceAdd,reduceMul,reduceSub,reduceLeDiff,reduceToNat,reducePow, q0, q2, q5, q6, hlen, hst, z79]))
        exact ⟨31 - i, by omega, i + 1, by omega, by simp, rfl⟩
      · obtain rfl : i = 32 := by omega
        rw [zq2] at *
        have hd : List.drop 32 z32 = [] := rfl
        repeat' (first|refine zW.zs ?_|refine zW.zb ?_|refine zW.zc ?_|refine zW.zt rfl ?_|refine zW.zf rfl ?_|(refine zW.zd rfl (fun ht => ?_) (fun ht => ?_)<;>try (exfalso;omega))|((first|refine zW.zr ?_|refine zW.zk ?_|refine zW.ze ?_|refine zW.zq ?_|((first|apply zg0|apply zg1|apply zg2|apply zg3|apply zg4|apply zg5|apply zg6|apply zg7)<;>intro ht));all_goals try simp (disch:=first|omega|(simp only [lens,z7,z6,List.length_reverse,zn,zo];first|done|omega)) only [go_sem,reduceEqDiff,Nat.reduceBEq,reduceAdd,reduceMul,reduceSub,reduceLeDiff,reduceToNat,reducePow, q0, q2, q5, q6, hlen, hd, z79]))
        exact DownV.pure hw (z9z (z2c _))
  · rw [zha h, zhb]
    have hd : List.drop 32 z32 = [] := rfl
    repeat' (first|refine zW.zs ?_|refine zW.zb ?_|refine zW.zc ?_|refine zW.zt rfl ?_|refine zW.zf rfl ?_|(refine zW.zd rfl (fun ht => ?_) (fun ht => ?_)<;>try (exfalso;omega))|((first|refine zW.zr ?_|refine zW.zk ?_|refine zW.ze ?_|refine zW.zq ?_|((first|apply zg0|apply zg1|apply zg2|apply zg3|apply zg4|apply zg5|apply zg6|apply zg7)<;>intro ht));all_goals try simp (disch:=first|omega|(simp only [lens,z7,z6,List.length_reverse,zn,zo];first|done|omega)) only [go_sem,reduceEqDiff,Nat.reduceBEq,reduceAdd,reduceMul,reduceSub,reduceLeDiff,reduceToNat,reducePow, z79, hd]))
    exact DownV.pure hw (z9z (cs := z32) (z2c (List.replicate 32 0)))
end Am
end Go.Proofs.YtncenefkbpelbaaDoor
end
section
/- Codec: contracts: the list that stands ahead. -/
namespace Go.Proofs.YtncenefkbpelbaaDoor
namespace Am
attribute [local irreducible] ACallsTo ACallsP
end Am
end Go.Proofs.YtncenefkbpelbaaDoor
end
section
/- Codec: contracts: the reference's list. -/
namespace Go.Proofs.YtncenefkbpelbaaDoor
namespace Am
attribute [local irreducible] ACallsTo ACallsP
def catS (l : List Hash) : List UInt8 := (l.map (·.1)).flatten
theorem z6h : ∀ (l : List Hash), (catS l).length = 32 * l.length
  | [] => rfl
  | h :: l => by
    have := z6h l
    simp only [catS, List.map_cons, List.flatten_cons, List.length_append, List.length_cons, h.2] at this ⊢
    omega
theorem ze2 {l : List Hash} {i : Nat} (h : i < l.length) : catS (l.take (i + 1)) = catS (l.take i) ++ (hd l i).1 := by
  rw [z8l h]; simp [catS]
end Am
end Go.Proofs.YtncenefkbpelbaaDoor
end
section
/- Abstract code. (Printed by wip/gen.) -/
set_option maxRecDepth 10000
namespace Go.Proofs.YtncenefkbpelbaaDoor
namespace Am



@[go_sem] def qrr0 : List AIns := [
  ⟨some 4,none,.no,.mv (.v .nilsl)⟩,
  ⟨some 5,none,.no,.mv (.v (.int .i64 0))⟩]
@[go_sem] def qrr1 : List AIns := [
  ⟨some 8,none,.no,.mv (.t 1)⟩,
  ⟨some 9,none,.no,.bin .lss .none (.t 8) (.v (.int .i64 0))⟩,
  ⟨some 10,none,.no,.mv (.t 9)⟩,
  ⟨some 11, some (10, false), .no, .mv (.t 1)⟩,
  ⟨some 12, some (10, false), .no, .mv (.t 0)⟩,
  ⟨some 13, some (10, false), .no, .lenSl (.t 12)⟩,
  ⟨some 14, some (10, false), .no, .bin .geq .none (.t 11) (.t 13)⟩,
  ⟨some 15,none,.no,.pick (.t 10) (.v (.bool true)) (.t 14)⟩]
@[go_sem] def qrr2 : List AIns := [
  ⟨some 4,none,.no,.mv (.v .nilsl)⟩,
  ⟨some 5,none,.no,.mv (.v (.int .i64 2))⟩]
def qrc3 : ACode := .seq (.reg qrr2) .ret
def qrc4 : ACode := .cond (.t 15) qrc3 .skip
def qrc5 : ACode := .seq (.reg qrr1) qrc4
@[go_sem] def qrr6 : List AIns := [
  ⟨some 6,none,.no,.mv (.v .nilsl)⟩]
@[go_sem] def qrr7 : List AIns := [
  ⟨some 16,none,.no,.mv (.t 0)⟩,
  ⟨some 17,none,.no,.lenSl (.t 16)⟩,
  ⟨some 18,none,.no,.bin .gtr .none (.t 17) (.v (.int .i64 1))⟩]
def qrc8 : ACode := .cond (.t 18) .skip (.exit 0)
def qrc9 : ACode := .seq (.reg qrr7) qrc8
@[go_sem] def qrr10 : List AIns := [
  ⟨some 19,none,.no,.mv (.t 0)⟩,
  ⟨some 20,none,.no,.lenSl (.t 19)⟩,
  ⟨some 21,none,.no,.call (.v (.fn 89 [])) [(.t 20)]⟩,
  ⟨some 7,none,.no,.mv (.t 21)⟩]
@[go_sem] def qrr11 : List AIns := [
  ⟨some 22,none,.no,.mv (.t 1)⟩,
  ⟨some 23,none,.no,.mv (.t 7)⟩,
  ⟨some 24,none,.no,.bin .lss .none (.t 22) (.t 23)⟩]
@[go_sem] def qrr12 : List AIns := [
  ⟨some 25,none,.no,.mv (.t 6)⟩,
  ⟨some 26,none,.no,.mv (.t 0)⟩,
  ⟨some 27,none,.no,.mv (.t 7)⟩,
  ⟨some 28,none,.no,.slice (.sl 32) (.t 26) (some (.t 27)) none none⟩,
  ⟨some 29,none,.no,.call (.v (.fn 45 [])) [(.t 28)]⟩,
  ⟨some 30,none,.no,.lit 32 [(.t 29)]⟩,
  ⟨some 31,none,.no,.app 32 (.t 25) (.t 30)⟩,
  ⟨some 6,none,.no,.mv (.t 31)⟩]
@[go_sem] def qrr13 : List AIns := [
  ⟨some 32,none,.no,.mv (.t 0)⟩,
  ⟨some 33,none,.no,.mv (.t 7)⟩,
  ⟨some 34,none,.no,.slice (.sl 32) (.t 32) none (some (.t 33)) none⟩,
  ⟨some 0,none,.no,.mv (.t 34)⟩]
def qrc14 : ACode := .seq (.reg qrr12) (.reg qrr13)
@[go_sem] def qrr15 : List AIns := [
  ⟨some 35,none,.no,.mv (.t 6)⟩,
  ⟨some 36,none,.no,.mv (.t 0)⟩,
  ⟨some 37,none,.no,.mv (.t 7)⟩,
  ⟨some 38,none,.no,.slice (.sl 32) (.t 36) none (some (.t 37)) none⟩,
  ⟨some 39,none,.no,.call (.v (.fn 45 [])) [(.t 38)]⟩,
  ⟨some 40,none,.no,.lit 32 [(.t 39)]⟩,
  ⟨some 41,none,.no,.app 32 (.t 35) (.t 40)⟩,
  ⟨some 6,none,.no,.mv (.t 41)⟩]
@[go_sem] def qrr16 : List AIns := [
  ⟨some 42,none,.no,.mv (.t 0)⟩,
  ⟨some 43,none,.no,.mv (.t 7)⟩,
  ⟨some 44,none,.no,.slice (.sl 32) (.t 42) (some (.t 43)) none none⟩,
  ⟨some 45,none,.no,.mv (.t 1)⟩,
  ⟨some 46,none,.no,.mv (.t 7)⟩,
  ⟨some 47,none,.no,.bin .sub .none (.t 45) (.t 46)⟩,
  ⟨some 0,none,.no,.mv (.t 44)⟩,
  ⟨some 1,none,.no,.mv (.t 47)⟩]
def qrc17 : ACode := .seq (.reg qrr15) (.reg qrr16)
def qrc18 : ACode := .cond (.t 24) qrc14 qrc17
def qrc19 : ACode := .seq (.reg qrr11) qrc18
def qrc20 : ACode := .seq (.reg qrr10) qrc19
def qrc21 : ACode := .block 1 qrc20
def qrc22 : ACode := .seq qrc9 qrc21
def qrc23 : ACode := .loop qrc22
@[go_sem] def qrr24 : List AIns := [
  ⟨some 48,none,.no,.mv (.t 6)⟩,
  ⟨some 49,none,.no,.call (.v (.fn 119 [])) [(.t 48)]⟩]
@[go_sem] def qrr25 : List AIns := [
  ⟨some 50,none,.no,.mv (.t 6)⟩,
  ⟨some 4,none,.no,.mv (.t 50)⟩,
  ⟨some 5,none,.no,.mv (.v (.int .i64 0))⟩]
def qrc26 : ACode := .seq (.reg qrr25) .ret
def qrc27 : ACode := .seq (.reg qrr24) qrc26
def qrc28 : ACode := .seq (.block 0 qrc23) qrc27
def qrc29 : ACode := .seq (.reg qrr6) qrc28
def qrc30 : ACode := .seq qrc5 qrc29
def qrc31 : ACode := .seq (.reg qrr0) qrc30
theorem qrok : cFn TC 76 = some (51, [.t 4, .t 5], qrc31) := by kernel_rfl

@[go_sem] def qsr0 : List AIns := [
  ⟨some 5,none,.no,.box (.t 0)⟩,
  ⟨some 9,none,.no,.box (.t 4)⟩,
  ⟨some 10,none,.no,.mv (.v (.int .i64 0))⟩]
@[go_sem] def qsr1 : List AIns := [
  ⟨some 15,none,.no,.mv (.t 2)⟩,
  ⟨some 16,none,.no,.bin .lss .none (.t 15) (.v (.int .i64 1))⟩,
  ⟨some 17,none,.no,.mv (.t 16)⟩,
  ⟨some 18, some (17, false), .no, .mv (.t 2)⟩,
  ⟨some 19, some (17, false), .no, .bin .gtr .none (.t 18) (.v (.int .i64 4096))⟩,
  ⟨some 20,none,.no,.pick (.t 17) (.v (.bool true)) (.t 19)⟩,
  ⟨some 21,none,.no,.mv (.t 20)⟩,
  ⟨some 22, some (21, false), .no, .mv (.t 1)⟩,
  ⟨some 23, some (21, false), .no, .bin .lss .none (.t 22) (.v (.int .i64 0))⟩,
  ⟨some 24,none,.no,.pick (.t 21) (.v (.bool true)) (.t 23)⟩,
  ⟨some 25,none,.no,.mv (.t 24)⟩,
  ⟨some 26, some (25, false), .no, .mv (.t 1)⟩,
  ⟨some 27, some (25, false), .no, .mv (.t 2)⟩,
  ⟨some 28, some (25, false), .no, .bin .geq .none (.t 26) (.t 27)⟩,
  ⟨some 29,none,.no,.pick (.t 25) (.v (.bool true)) (.t 28)⟩]
@[go_sem] def qsr2 : List AIns := [
  ⟨some 10,none,.no,.mv (.v (.int .i64 2))⟩]
def qsc3 : ACode := .seq (.reg qsr2) .ret
def qsc4 : ACode := .cond (.t 29) qsc3 .skip
def qsc5 : ACode := .seq (.reg qsr1) qsc4
@[go_sem] def qsr6 : List AIns := [
  ⟨some 30,none,.no,.mv (.t 2)⟩,
  ⟨some 31,none,.no,.bin .sub .none (.t 30) (.v (.int .i64 1))⟩,
  ⟨some 11,none,.no,.mv (.t 31)⟩]
@[go_sem] def qsr7 : List AIns := [
  ⟨some 12,none,.no,.mv (.v (.int .i64 0))⟩]
@[go_sem] def qsr8 : List AIns := [
  ⟨some 32,none,.no,.mv (.t 3)⟩,
  ⟨some 33,none,.no,.lenSl (.t 32)⟩,
  ⟨some 34,none,.no,.mv (.v (.int .i64 0))⟩]
@[go_sem] def qsr9 : List AIns := [
  ⟨some 35,none,.no,.bin .lss .none (.t 34) (.t 33)⟩]
@[go_sem] def qsr10 : List AIns := [
  ⟨some 36,none,.no,.iaSl 32 (.t 32) (.t 34)⟩,
  ⟨some 37,none,.no,.load true 32 (.t 36)⟩,
  ⟨some 14,none,.no,.alloc zZ0⟩,
  ⟨none,none,.no,.store 32 (.t 14) (.t 37)⟩]
@[go_sem] def qsr11 : List AIns := [
  ⟨some 38,none,.no,.mv (.t 11)⟩,
  ⟨some 39,none,.no,.bin .eql .none (.t 38) (.v (.int .i64 0))⟩]
def qsc12 : ACode := .cond (.t 39) (.exit 0) .skip
def qsc13 : ACode := .seq (.reg qsr11) qsc12
@[go_sem] def qsr14 : List AIns := [
  ⟨some 40,none,.no,.mv (.t 1)⟩,
  ⟨some 41,none,.no,.bin .rem .none (.t 40) (.v (.int .i64 2))⟩,
  ⟨some 42,none,.no,.bin .eql .none (.t 41) (.v (.int .i64 1))⟩,
  ⟨some 43,none,.no,.mv (.t 42)⟩,
  ⟨some 44, some (43, false), .no, .mv (.t 1)⟩,
  ⟨some 45, some (43, false), .no, .mv (.t 11)⟩,
  ⟨some 46, some (43, false), .no, .bin .eql .none (.t 44) (.t 45)⟩,
  ⟨some 47,none,.no,.pick (.t 43) (.v (.bool true)) (.t 46)⟩]
@[go_sem] def qsr15 : List AIns := [
  ⟨some 48,none,.no,.load true 32 (.t 14)⟩,
  ⟨some 49,none,.no,.load true 32 (.t 5)⟩,
  ⟨some 50,none,.no,.call (.v (.fn 90 [])) [(.t 48), (.t 49)]⟩,
  ⟨none,none,.no,.store 32 (.t 5) (.t 50)⟩]
@[go_sem] def qsr16 : List AIns := [
  ⟨some 51,none,.no,.mv (.t 1)⟩,
  ⟨some 52,none,.no,.bin .rem .none (.t 51) (.v (.int .i64 2))⟩,
  ⟨some 53,none,.no,.bin .eql .none (.t 52) (.v (.int .i64 0))⟩,
  ⟨some 54,none,.no,.mv (.t 53)⟩,
  ⟨some 55, some (54, true), .no, .mv (.t 1)⟩,
  ⟨some 56, some (54, true), .no, .bin .gtr .none (.t 55) (.v (.int .i64 0))⟩,
  ⟨some 57,none,.no,.pick (.t 54) (.t 56) (.v (.bool false))⟩]
def qsc17 : ACode := .cond (.t 57) .skip (.exit 2)
def qsc18 : ACode := .seq (.reg qsr16) qsc17
@[go_sem] def qsr19 : List AIns := [
  ⟨some 58,none,.no,.mv (.t 1)⟩,
  ⟨some 59,none,.no,.bin .quo .none (.t 58) (.v (.int .i64 2))⟩,
  ⟨some 60,none,.no,.mv (.t 11)⟩,
  ⟨some 61,none,.no,.bin .quo .none (.t 60) (.v (.int .i64 2))⟩,
  ⟨some 1,none,.no,.mv (.t 59)⟩,
  ⟨some 11,none,.no,.mv (.t 61)⟩]
def qsc20 : ACode := .block 3 (.reg qsr19)
def qsc21 : ACode := .seq qsc18 qsc20
def qsc22 : ACode := .loop qsc21
def qsc23 : ACode := .block 2 qsc22
def qsc24 : ACode := .seq (.reg qsr15) qsc23
@[go_sem] def qsr25 : List AIns := [
  ⟨some 62,none,.no,.load true 32 (.t 5)⟩,
  ⟨some 63,none,.no,.load true 32 (.t 14)⟩,
  ⟨some 64,none,.no,.call (.v (.fn 90 [])) [(.t 62), (.t 63)]⟩,
  ⟨none,none,.no,.store 32 (.t 5) (.t 64)⟩]
def qsc26 : ACode := .cond (.t 47) qsc24 (.reg qsr25)
def qsc27 : ACode := .seq (.reg qsr14) qsc26
@[go_sem] def qsr28 : List AIns := [
  ⟨some 65,none,.no,.mv (.t 1)⟩,
  ⟨some 66,none,.no,.bin .quo .none (.t 65) (.v (.int .i64 2))⟩,
  ⟨some 67,none,.no,.mv (.t 11)⟩,
  ⟨some 68,none,.no,.bin .quo .none (.t 67) (.v (.int .i64 2))⟩,
  ⟨some 1,none,.no,.mv (.t 66)⟩,
  ⟨some 11,none,.no,.mv (.t 68)⟩]
@[go_sem] def qsr29 : List AIns := [
  ⟨some 69,none,.no,.mv (.t 12)⟩,
  ⟨some 70,none,.no,.bin .add .none (.t 69) (.v (.int .i64 1))⟩,
  ⟨some 12,none,.no,.mv (.t 70)⟩]
def qsc30 : ACode := .seq (.reg qsr28) (.reg qsr29)
def qsc31 : ACode := .seq qsc27 qsc30
def qsc32 : ACode := .seq qsc13 qsc31
def qsc33 : ACode := .seq (.reg qsr10) qsc32
@[go_sem] def qsr34 : List AIns := [
  ⟨some 71,none,.no,.bin .add .none (.t 34) (.v (.int .i64 1))⟩,
  ⟨some 34,none,.no,.mv (.t 71)⟩]
def qsc35 : ACode := .seq (.block 1 qsc33) (.reg qsr34)
def qsc36 : ACode := .seq (.cond (.t 35) .skip (.exit 0)) qsc35
def qsc37 : ACode := .seq (.reg qsr9) qsc36
def qsc38 : ACode := .loop qsc37
def qsc39 : ACode := .block 0 qsc38
def qsc40 : ACode := .seq (.reg qsr8) qsc39
@[go_sem] def qsr41 : List AIns := [
  ⟨some 72,none,.no,.mv (.t 11)⟩,
  ⟨some 73,none,.no,.bin .neq .none (.t 72) (.v (.int .i64 0))⟩,
  ⟨some 74,none,.no,.mv (.t 73)⟩,
  ⟨some 75, some (74, false), .no, .mv (.t 12)⟩,
  ⟨some 76, some (74, false), .no, .mv (.t 3)⟩,
  ⟨some 77, some (74, false), .no, .lenSl (.t 76)⟩,
  ⟨some 78, some (74, false), .no, .bin .neq .none (.t 75) (.t 77)⟩,
  ⟨some 79,none,.no,.pick (.t 74) (.v (.bool true)) (.t 78)⟩,
  ⟨some 80,none,.no,.mv (.t 79)⟩,
  ⟨some 81, some (80, false), .no, .load true 32 (.t 5)⟩,
  ⟨some 82, some (80, false), .no, .load true 32 (.t 9)⟩,
  ⟨some 83, some (80, false), .no, .bin .neq (.agg (List.replicate 32 (.i .u8) ++ [])) (.t 81) (.t 82)⟩,
  ⟨some 84,none,.no,.pick (.t 80) (.v (.bool true)) (.t 83)⟩]
@[go_sem] def qsr42 : List AIns := [
  ⟨some 10,none,.no,.mv (.v (.int .i64 80))⟩]
def qsc43 : ACode := .seq (.reg qsr42) .ret
def qsc44 : ACode := .cond (.t 84) qsc43 .skip
def qsc45 : ACode := .seq (.reg qsr41) qsc44
@[go_sem] def qsr46 : List AIns := [
  ⟨some 10,none,.no,.mv (.v (.int .i64 0))⟩]
def qsc47 : ACode := .seq (.reg qsr46) .ret
def qsc48 : ACode := .seq qsc45 qsc47
def qsc49 : ACode := .seq qsc40 qsc48
def qsc50 : ACode := .seq .skip qsc49
def qsc51 : ACode := .seq (.reg qsr7) qsc50
def qsc52 : ACode := .seq (.reg qsr6) qsc51
def qsc53 : ACode := .seq qsc5 qsc52
def qsc54 : ACode := .scope qsc53
def qsc55 : ACode := .seq (.reg qsr0) qsc54
theorem qsok : cFn TC 81 = some (85, [.t 10], qsc55) := by kernel_rfl

@[go_sem] def qtr0 : List AIns := [
  ⟨some 5,none,.no,.box (.t 0)⟩,
  ⟨some 9,none,.no,.box (.t 4)⟩,
  ⟨some 10,none,.no,.mv (.v (.int .i64 0))⟩]
@[go_sem] def qtr1 : List AIns := [
  ⟨some 13,none,.no,.mv (.t 2)⟩,
  ⟨some 14,none,.no,.bin .lss .none (.t 13) (.v (.int .i64 1))⟩,
  ⟨some 15,none,.no,.mv (.t 14)⟩,
  ⟨some 16, some (15, false), .no, .mv (.t 2)⟩,
  ⟨some 17, some (15, false), .no, .bin .gtr .none (.t 16) (.v (.int .i64 4096))⟩,
  ⟨some 18,none,.no,.pick (.t 15) (.v (.bool true)) (.t 17)⟩,
  ⟨some 19,none,.no,.mv (.t 18)⟩,
  ⟨some 20, some (19, false), .no, .mv (.t 1)⟩,
  ⟨some 21, some (19, false), .no, .bin .lss .none (.t 20) (.v (.int .i64 0))⟩,
  ⟨some 22,none,.no,.pick (.t 19) (.v (.bool true)) (.t 21)⟩,
  ⟨some 23,none,.no,.mv (.t 22)⟩,
  ⟨some 24, some (23, false), .no, .mv (.t 1)⟩,
  ⟨some 25, some (23, false), .no, .mv (.t 2)⟩,
  ⟨some 26, some (23, false), .no, .bin .geq .none (.t 24) (.t 25)⟩,
  ⟨some 27,none,.no,.pick (.t 23) (.v (.bool true)) (.t 26)⟩]
@[go_sem] def qtr2 : List AIns := [
  ⟨some 10,none,.no,.mv (.v (.int .i64 2))⟩]
def qtc3 : ACode := .seq (.reg qtr2) .ret
def qtc4 : ACode := .cond (.t 27) qtc3 .skip
def qtc5 : ACode := .seq (.reg qtr1) qtc4
@[go_sem] def qtr6 : List AIns := [
  ⟨some 29,none,.no,.load true 32 (.t 5)⟩,
  ⟨some 30,none,.no,.mv (.t 1)⟩,
  ⟨some 31,none,.no,.mv (.t 2)⟩,
  ⟨some 32,none,.no,.mv (.t 3)⟩,
  ⟨some 33,none,.no,.call (.v (.fn 134 [])) [(.t 29), (.t 30), (.t 31), (.t 32)]⟩,
  ⟨some 28,none,.no,.mv (.t 33)⟩,
  ⟨some 34,none,.no,.ext 0 (.t 28)⟩,
  ⟨some 35,none,.no,.ext 1 (.t 28)⟩,
  ⟨some 11,none,.no,.alloc zZ0⟩,
  ⟨none,none,.no,.store 32 (.t 11) (.t 34)⟩,
  ⟨some 12,none,.no,.mv (.t 35)⟩]
@[go_sem] def qtr7 : List AIns := [
  ⟨some 36,none,.no,.mv (.t 12)⟩,
  ⟨some 37,none,.no,.un .not (.t 36)⟩,
  ⟨some 38,none,.no,.mv (.t 37)⟩,
  ⟨some 39, some (38, false), .no, .load true 32 (.t 11)⟩,
  ⟨some 40, some (38, false), .no, .load true 32 (.t 9)⟩,
  ⟨some 41, some (38, false), .no, .bin .neq (.agg (List.replicate 32 (.i .u8) ++ [])) (.t 39) (.t 40)⟩,
  ⟨some 42,none,.no,.pick (.t 38) (.v (.bool true)) (.t 41)⟩]
@[go_sem] def qtr8 : List AIns := [
  ⟨some 10,none,.no,.mv (.v (.int .i64 80))⟩]
def qtc9 : ACode := .seq (.reg qtr8) .ret
def qtc10 : ACode := .cond (.t 42) qtc9 .skip
def qtc11 : ACode := .seq (.reg qtr7) qtc10
@[go_sem] def qtr12 : List AIns := [
  ⟨some 10,none,.no,.mv (.v (.int .i64 0))⟩]
def qtc13 : ACode := .seq (.reg qtr12) .ret
def qtc14 : ACode := .seq qtc11 qtc13
def qtc15 : ACode := .seq (.reg qtr6) qtc14
def qtc16 : ACode := .seq qtc5 qtc15
def qtc17 : ACode := .seq (.reg qtr0) qtc16
theorem qtok : cFn TC 101 = some (43, [.t 10], qtc17) := by kernel_rfl

@[go_sem] def qur0 : List AIns := [
  ⟨some 4,none,.no,.mv (.t 0)⟩,
  ⟨some 5,none,.no,.lenSl (.t 4)⟩,
  ⟨some 6,none,.no,.bin .sub .none (.t 5) (.v (.int .i64 1))⟩,
  ⟨some 2,none,.no,.mv (.v (.int .i64 0))⟩,
  ⟨some 3,none,.no,.mv (.t 6)⟩]
@[go_sem] def qur1 : List AIns := [
  ⟨some 7,none,.no,.mv (.t 2)⟩,
  ⟨some 8,none,.no,.mv (.t 3)⟩,
  ⟨some 9,none,.no,.bin .lss .none (.t 7) (.t 8)⟩]
def quc2 : ACode := .cond (.t 9) .skip (.exit 0)
def quc3 : ACode := .seq (.reg qur1) quc2
@[go_sem] def qur4 : List AIns := [
  ⟨some 14,none,.no,.mv (.t 0)⟩,
  ⟨some 15,none,.no,.mv (.t 2)⟩,
  ⟨some 16,none,.no,.mv (.t 0)⟩,
  ⟨some 17,none,.no,.mv (.t 3)⟩,
  ⟨some 18,none,.no,.mv (.t 0)⟩,
  ⟨some 19,none,.no,.mv (.t 3)⟩,
  ⟨some 20,none,.no,.iaSl 32 (.t 18) (.t 19)⟩,
  ⟨some 21, none, .rd, .load true 32 (.t 20)⟩,
  ⟨some 22,none,.no,.mv (.t 0)⟩,
  ⟨some 23,none,.no,.mv (.t 2)⟩,
  ⟨some 24,none,.no,.iaSl 32 (.t 22) (.t 23)⟩,
  ⟨some 25, none, .rd, .load true 32 (.t 24)⟩,
  ⟨some 26,none,.no,.iaSl 32 (.t 14) (.t 15)⟩,
  ⟨none,none,.no,.store 32 (.t 26) (.t 21)⟩,
  ⟨some 27,none,.no,.iaSl 32 (.t 16) (.t 17)⟩,
  ⟨none,none,.no,.store 32 (.t 27) (.t 25)⟩]
@[go_sem] def qur5 : List AIns := [
  ⟨some 10,none,.no,.mv (.t 2)⟩,
  ⟨some 11,none,.no,.bin .add .none (.t 10) (.v (.int .i64 1))⟩,
  ⟨some 12,none,.no,.mv (.t 3)⟩,
  ⟨some 13,none,.no,.bin .sub .none (.t 12) (.v (.int .i64 1))⟩,
  ⟨some 2,none,.no,.mv (.t 11)⟩,
  ⟨some 3,none,.no,.mv (.t 13)⟩]
def quc6 : ACode := .seq (.block 1 (.reg qur4)) (.reg qur5)
def quc7 : ACode := .seq quc3 quc6
def quc8 : ACode := .loop quc7
def quc9 : ACode := .block 0 quc8
def quc10 : ACode := .seq (.reg qur0) quc9
theorem quok : cFn TC 119 = some (28, [], quc10) := by kernel_rfl

@[go_sem] def qvr0 : List AIns := [
  ⟨some 4,none,.no,.box (.t 0)⟩,
  ⟨some 8,none,.no,.alloc zZ0⟩,
  ⟨some 9,none,.no,.mv (.v (.bool false))⟩]
@[go_sem] def qvr1 : List AIns := [
  ⟨some 17,none,.no,.mv (.t 2)⟩,
  ⟨some 18,none,.no,.bin .eql .none (.t 17) (.v (.int .i64 1))⟩]
@[go_sem] def qvr2 : List AIns := [
  ⟨some 19,none,.no,.load true 32 (.t 4)⟩,
  ⟨some 20,none,.no,.mv (.t 3)⟩,
  ⟨some 21,none,.no,.lenSl (.t 20)⟩,
  ⟨some 22,none,.no,.bin .eql .none (.t 21) (.v (.int .i64 0))⟩,
  ⟨none,none,.no,.store 32 (.t 8) (.t 19)⟩,
  ⟨some 9,none,.no,.mv (.t 22)⟩]
def qvc3 : ACode := .seq (.reg qvr2) .ret
def qvc4 : ACode := .cond (.t 18) qvc3 .skip
def qvc5 : ACode := .seq (.reg qvr1) qvc4
@[go_sem] def qvr6 : List AIns := [
  ⟨some 23,none,.no,.mv (.t 3)⟩,
  ⟨some 24,none,.no,.lenSl (.t 23)⟩,
  ⟨some 25,none,.no,.bin .eql .none (.t 24) (.v (.int .i64 0))⟩]
@[go_sem] def qvr7 : List AIns := [
  ⟨some 26,none,.no,.load true 32 (.t 4)⟩,
  ⟨none,none,.no,.store 32 (.t 8) (.t 26)⟩,
  ⟨some 9,none,.no,.mv (.v (.bool false))⟩]
def qvc8 : ACode := .seq (.reg qvr7) .ret
def qvc9 : ACode := .cond (.t 25) qvc8 .skip
def qvc10 : ACode := .seq (.reg qvr6) qvc9
@[go_sem] def qvr11 : List AIns := [
  ⟨some 27,none,.no,.mv (.t 2)⟩,
  ⟨some 28, none, .ef, .call (.v (.fn 71 [])) [(.t 27)]⟩,
  ⟨some 29,none,.no,.mv (.t 3)⟩,
  ⟨some 30,none,.no,.mv (.t 3)⟩,
  ⟨some 31,none,.no,.lenSl (.t 30)⟩,
  ⟨some 32,none,.no,.bin .sub .none (.t 31) (.v (.int .i64 1))⟩,
  ⟨some 33,none,.no,.iaSl 32 (.t 29) (.t 32)⟩,
  ⟨some 34, none, .rd, .load true 32 (.t 33)⟩,
  ⟨some 11, none, .ef, .alloc zZ0⟩,
  ⟨some 10,none,.no,.mv (.t 28)⟩,
  ⟨none,none,.no,.store 32 (.t 11) (.t 34)⟩]
@[go_sem] def qvr12 : List AIns := [
  ⟨some 27,none,.no,.mv (.t 2)⟩,
  ⟨some 11, none, .ef, .alloc zZ0⟩,
  ⟨some 28, none, .ef, .call (.v (.fn 71 [])) [(.t 27)]⟩,
  ⟨some 29,none,.no,.mv (.t 3)⟩,
  ⟨some 30,none,.no,.mv (.t 3)⟩,
  ⟨some 31,none,.no,.lenSl (.t 30)⟩,
  ⟨some 32,none,.no,.bin .sub .none (.t 31) (.v (.int .i64 1))⟩,
  ⟨some 33,none,.no,.iaSl 32 (.t 29) (.t 32)⟩,
  ⟨some 34, none, .rd, .load true 32 (.t 33)⟩,
  ⟨some 10,none,.no,.mv (.t 28)⟩,
  ⟨none,none,.no,.store 32 (.t 11) (.t 34)⟩]
@[go_sem] def qvr13 : List AIns := [
  ⟨some 35,none,.no,.mv (.t 3)⟩,
  ⟨some 36,none,.no,.mv (.t 3)⟩,
  ⟨some 37,none,.no,.lenSl (.t 36)⟩,
  ⟨some 38,none,.no,.bin .sub .none (.t 37) (.v (.int .i64 1))⟩,
  ⟨some 39,none,.no,.slice (.sl 32) (.t 35) none (some (.t 38)) none⟩,
  ⟨some 12,none,.no,.mv (.t 39)⟩]
@[go_sem] def qvr14 : List AIns := [
  ⟨some 40,none,.no,.mv (.t 1)⟩,
  ⟨some 41,none,.no,.mv (.t 10)⟩,
  ⟨some 42,none,.no,.bin .lss .none (.t 40) (.t 41)⟩]
@[go_sem] def qvr15 : List AIns := [
  ⟨some 44,none,.no,.load true 32 (.t 4)⟩,
  ⟨some 45,none,.no,.mv (.t 1)⟩,
  ⟨some 46,none,.no,.mv (.t 10)⟩,
  ⟨some 47,none,.no,.mv (.t 12)⟩,
  ⟨some 48,none,.no,.call (.v (.fn 134 [])) [(.t 44), (.t 45), (.t 46), (.t 47)]⟩,
  ⟨some 43,none,.no,.mv (.t 48)⟩,
  ⟨some 49,none,.no,.ext 0 (.t 43)⟩,
  ⟨some 50,none,.no,.ext 1 (.t 43)⟩,
  ⟨some 13,none,.no,.alloc zZ0⟩,
  ⟨none,none,.no,.store 32 (.t 13) (.t 49)⟩,
  ⟨some 14,none,.no,.mv (.t 50)⟩]
@[go_sem] def qvr16 : List AIns := [
  ⟨some 51,none,.no,.load true 32 (.t 13)⟩,
  ⟨some 52,none,.no,.load true 32 (.t 11)⟩,
  ⟨some 53,none,.no,.call (.v (.fn 72 [])) [(.t 51), (.t 52)]⟩,
  ⟨some 54,none,.no,.mv (.t 14)⟩,
  ⟨none,none,.no,.store 32 (.t 8) (.t 53)⟩,
  ⟨some 9,none,.no,.mv (.t 54)⟩]
def qvc17 : ACode := .seq (.reg qvr16) .ret
def qvc18 : ACode := .seq (.reg qvr15) qvc17
def qvc19 : ACode := .cond (.t 42) qvc18 .skip
def qvc20 : ACode := .seq (.reg qvr14) qvc19
@[go_sem] def qvr21 : List AIns := [
  ⟨some 56,none,.no,.load true 32 (.t 4)⟩,
  ⟨some 57,none,.no,.mv (.t 1)⟩,
  ⟨some 58,none,.no,.mv (.t 10)⟩,
  ⟨some 59,none,.no,.bin .sub .none (.t 57) (.t 58)⟩,
  ⟨some 60,none,.no,.mv (.t 2)⟩,
  ⟨some 61,none,.no,.mv (.t 10)⟩,
  ⟨some 62,none,.no,.bin .sub .none (.t 60) (.t 61)⟩,
  ⟨some 63,none,.no,.mv (.t 12)⟩,
  ⟨some 64,none,.no,.call (.v (.fn 134 [])) [(.t 56), (.t 59), (.t 62), (.t 63)]⟩,
  ⟨some 55,none,.no,.mv (.t 64)⟩,
  ⟨some 65,none,.no,.ext 0 (.t 55)⟩,
  ⟨some 66,none,.no,.ext 1 (.t 55)⟩,
  ⟨some 15,none,.no,.alloc zZ0⟩,
  ⟨none,none,.no,.store 32 (.t 15) (.t 65)⟩,
  ⟨some 16,none,.no,.mv (.t 66)⟩]
@[go_sem] def qvr22 : List AIns := [
  ⟨some 67,none,.no,.load true 32 (.t 11)⟩,
  ⟨some 68,none,.no,.load true 32 (.t 15)⟩,
  ⟨some 69,none,.no,.call (.v (.fn 72 [])) [(.t 67), (.t 68)]⟩,
  ⟨some 70,none,.no,.mv (.t 16)⟩,
  ⟨none,none,.no,.store 32 (.t 8) (.t 69)⟩,
  ⟨some 9,none,.no,.mv (.t 70)⟩]
def qvc23 : ACode := .seq (.reg qvr22) .ret
def qvc24 : ACode := .seq (.reg qvr21) qvc23
def qvc25 : ACode := .seq qvc20 qvc24
def qvc26 : ACode := .seq (.reg qvr13) qvc25
def qvc27 : ACode := .seq (.reg2 qvr11 qvr12) qvc26
def qvc28 : ACode := .seq qvc10 qvc27
def qvc29 : ACode := .seq qvc5 qvc28
def qvc30 : ACode := .seq (.reg qvr0) qvc29
theorem qvok : cFn TC 134 = some (71, [.c 8 true 32, .t 9], qvc30) := by kernel_rfl
end Am
end Go.Proofs.YtncenefkbpelbaaDoor
end
section
/- Abstract code. (Printed by wip/gen.) -/
set_option maxRecDepth 10000
namespace Go.Proofs.YtncenefkbpelbaaDoor
namespace Am



@[go_sem] def qwr0 : List AIns := [
  ⟨some 2,none,.no,.alloc zZ0⟩]
@[go_sem] def qwr1 : List AIns := [
  ⟨some 6,none,.no,.mv (.t 0)⟩,
  ⟨some 7,none,.no,.lenSl (.t 6)⟩,
  ⟨some 8,none,.no,.bin .neq .none (.t 7) (.v (.int .i64 512))⟩]
@[go_sem] def qwr2 : List AIns := [
  ⟨some 9,none,.no,.build zZ0 []⟩,
  ⟨none,none,.no,.store 32 (.t 2) (.t 9)⟩]
def qwc3 : ACode := .seq (.reg qwr2) .ret
def qwc4 : ACode := .cond (.t 8) qwc3 .skip
def qwc5 : ACode := .seq (.reg qwr1) qwc4
@[go_sem] def qwr6 : List AIns := [
  ⟨some 3,none,.no,.allB⟩]
@[go_sem] def qwr7 : List AIns := [
  ⟨some 10,none,.no,.call (.v (.fn 124 [])) [(.t 3), (.v (.int .u8 4))]⟩]
@[go_sem] def qwr8 : List AIns := [
  ⟨some 11,none,.no,.mv (.t 0)⟩,
  ⟨some 12,none,.no,.lenSl (.t 11)⟩,
  ⟨some 13,none,.no,.mv (.v (.int .i64 0))⟩]
@[go_sem] def qwr9 : List AIns := [
  ⟨some 14,none,.no,.bin .lss .none (.t 13) (.t 12)⟩]
@[go_sem] def qwr10 : List AIns := [
  ⟨some 15,none,.no,.iaSl 32 (.t 11) (.t 13)⟩,
  ⟨some 16,none,.no,.load true 32 (.t 15)⟩,
  ⟨some 5,none,.no,.alloc zZ0⟩,
  ⟨none,none,.no,.store 32 (.t 5) (.t 16)⟩]
@[go_sem] def qwr11 : List AIns := [
  ⟨some 17,none,.no,.load true 32 (.t 5)⟩,
  ⟨some 18,none,.no,.call (.v (.fn 121 [])) [(.t 17)]⟩,
  ⟨some 19,none,.no,.call (.v (.fn 125 [])) [(.t 3), (.t 18)]⟩]
def qwc12 : ACode := .seq (.reg qwr10) (.reg qwr11)
@[go_sem] def qwr13 : List AIns := [
  ⟨some 20,none,.no,.bin .add .none (.t 13) (.v (.int .i64 1))⟩,
  ⟨some 13,none,.no,.mv (.t 20)⟩]
def qwc14 : ACode := .seq (.block 1 qwc12) (.reg qwr13)
def qwc15 : ACode := .seq (.cond (.t 14) .skip (.exit 0)) qwc14
def qwc16 : ACode := .seq (.reg qwr9) qwc15
def qwc17 : ACode := .loop qwc16
def qwc18 : ACode := .block 0 qwc17
def qwc19 : ACode := .seq (.reg qwr8) qwc18
@[go_sem] def qwr20 : List AIns := [
  ⟨some 21,none,.no,.call (.v (.fn 126 [])) [(.t 3)]⟩,
  ⟨some 22,none,.no,.call (.v (.fn 87 [])) [(.t 21)]⟩,
  ⟨none,none,.no,.store 32 (.t 2) (.t 22)⟩]
def qwc21 : ACode := .seq (.reg qwr20) .ret
def qwc22 : ACode := .seq qwc19 qwc21
def qwc23 : ACode := .seq (.reg qwr7) qwc22
def qwc24 : ACode := .seq (.reg qwr6) qwc23
def qwc25 : ACode := .seq qwc5 qwc24
def qwc26 : ACode := .seq (.reg qwr0) qwc25
theorem qwok : cFn TC 91 = some (23, [.c 2 true 32], qwc26) := by kernel_rfl

@[go_sem] def qxr0 : List AIns := [
  ⟨some 4,none,.no,.mv (.v .nilsl)⟩]
@[go_sem] def qxr1 : List AIns := [
  ⟨some 7,none,.no,.mv (.t 1)⟩,
  ⟨some 8,none,.no,.bin .lss .none (.t 7) (.v (.int .i64 0))⟩,
  ⟨some 9,none,.no,.mv (.t 8)⟩,
  ⟨some 10, some (9, false), .no, .mv (.t 1)⟩,
  ⟨some 11, some (9, false), .no, .bin .geq .none (.t 10) (.v (.int .i64 2147483648))⟩,
  ⟨some 12,none,.no,.pick (.t 9) (.v (.bool true)) (.t 11)⟩]
@[go_sem] def qxr2 : List AIns := [
  ⟨some 4,none,.no,.mv (.v .nilsl)⟩]
def qxc3 : ACode := .seq (.reg qxr2) .ret
def qxc4 : ACode := .cond (.t 12) qxc3 .skip
def qxc5 : ACode := .seq (.reg qxr1) qxc4
@[go_sem] def qxr6 : List AIns := [
  ⟨some 13,none,.no,.make 32 zZ0 (.v (.int .i64 512)) (.v (.int .i64 512))⟩,
  ⟨some 5,none,.no,.mv (.t 13)⟩]
@[go_sem] def qxr7 : List AIns := [
  ⟨some 14,none,.no,.mv (.t 5)⟩,
  ⟨some 15,none,.no,.lenSl (.t 14)⟩,
  ⟨some 16,none,.no,.mv (.v (.int .i64 0))⟩]
@[go_sem] def qxr8 : List AIns := [
  ⟨some 17,none,.no,.bin .lss .none (.t 16) (.t 15)⟩]
@[go_sem] def qxr9 : List AIns := [
  ⟨some 18,none,.no,.mv (.t 16)⟩,
  ⟨some 6,none,.no,.mv (.t 18)⟩]
@[go_sem] def qxr10 : List AIns := [
  ⟨some 19,none,.no,.mv (.t 5)⟩,
  ⟨some 20,none,.no,.mv (.t 6)⟩,
  ⟨some 21,none,.no,.mv (.t 0)⟩,
  ⟨some 22,none,.no,.mv (.t 1)⟩,
  ⟨some 23,none,.no,.mv (.t 6)⟩,
  ⟨some 24,none,.no,.bin .quo .none (.t 23) (.v (.int .i64 2))⟩,
  ⟨some 25,none,.no,.mv (.t 6)⟩,
  ⟨some 26,none,.no,.bin .rem .none (.t 25) (.v (.int .i64 2))⟩,
  ⟨some 27,none,.no,.call (.v (.fn 128 [])) [(.t 21), (.t 22), (.t 24), (.t 26)]⟩,
  ⟨some 28,none,.no,.call (.v (.fn 121 [])) [(.t 27)]⟩,
  ⟨some 29,none,.no,.call (.v (.fn 127 [])) [(.t 28)]⟩,
  ⟨some 30,none,.no,.iaSl 32 (.t 19) (.t 20)⟩,
  ⟨none,none,.no,.store 32 (.t 30) (.t 29)⟩]
def qxc11 : ACode := .seq (.reg qxr9) (.reg qxr10)
@[go_sem] def qxr12 : List AIns := [
  ⟨some 31,none,.no,.bin .add .none (.t 16) (.v (.int .i64 1))⟩,
  ⟨some 16,none,.no,.mv (.t 31)⟩]
def qxc13 : ACode := .seq (.block 1 qxc11) (.reg qxr12)
def qxc14 : ACode := .seq (.cond (.t 17) .skip (.exit 0)) qxc13
def qxc15 : ACode := .seq (.reg qxr8) qxc14
def qxc16 : ACode := .loop qxc15
def qxc17 : ACode := .block 0 qxc16
def qxc18 : ACode := .seq (.reg qxr7) qxc17
@[go_sem] def qxr19 : List AIns := [
  ⟨some 32,none,.no,.mv (.t 5)⟩,
  ⟨some 4,none,.no,.mv (.t 32)⟩]
def qxc20 : ACode := .seq (.reg qxr19) .ret
def qxc21 : ACode := .seq qxc18 qxc20
def qxc22 : ACode := .seq (.reg qxr6) qxc21
def qxc23 : ACode := .seq qxc5 qxc22
def qxc24 : ACode := .seq (.reg qxr0) qxc23
theorem qxok : cFn TC 92 = some (33, [.t 4], qxc24) := by kernel_rfl

@[go_sem] def qyr0 : List AIns := [
  ⟨some 2,none,.no,.alloc zZ0⟩]
@[go_sem] def qyr1 : List AIns := [
  ⟨some 5,none,.no,.mv (.t 0)⟩,
  ⟨some 6,none,.no,.lenSl (.t 5)⟩,
  ⟨some 7,none,.no,.bin .neq .none (.t 6) (.v (.int .i64 512))⟩]
@[go_sem] def qyr2 : List AIns := [
  ⟨some 8,none,.no,.build zZ0 []⟩,
  ⟨none,none,.no,.store 32 (.t 2) (.t 8)⟩]
def qyc3 : ACode := .seq (.reg qyr2) .ret
def qyc4 : ACode := .cond (.t 7) qyc3 .skip
def qyc5 : ACode := .seq (.reg qyr1) qyc4
@[go_sem] def qyr6 : List AIns := [
  ⟨some 9,none,.no,.lit 1 [(.v (.int .u8 4))]⟩,
  ⟨some 3,none,.no,.mv (.t 9)⟩]
@[go_sem] def qyr7 : List AIns := [
  ⟨some 4,none,.no,.mv (.v (.int .i64 0))⟩]
@[go_sem] def qyr8 : List AIns := [
  ⟨some 10,none,.no,.mv (.t 4)⟩,
  ⟨some 11,none,.no,.bin .lss .none (.t 10) (.v (.int .i64 512))⟩]
def qyc9 : ACode := .cond (.t 11) .skip (.exit 0)
def qyc10 : ACode := .seq (.reg qyr8) qyc9
@[go_sem] def qyr11 : List AIns := [
  ⟨some 14,none,.no,.mv (.t 3)⟩,
  ⟨some 15,none,.no,.mv (.t 0)⟩,
  ⟨some 16,none,.no,.mv (.t 4)⟩,
  ⟨some 17,none,.no,.iaSl 32 (.t 15) (.t 16)⟩,
  ⟨some 18,none,.no,.slice (.arr 32 1) (.t 17) none none none⟩,
  ⟨some 19,none,.no,.appB (.t 14) (.t 18)⟩,
  ⟨some 3,none,.no,.mv (.t 19)⟩]
@[go_sem] def qyr12 : List AIns := [
  ⟨some 12,none,.no,.mv (.t 4)⟩,
  ⟨some 13,none,.no,.bin .add .none (.t 12) (.v (.int .i64 1))⟩,
  ⟨some 4,none,.no,.mv (.t 13)⟩]
def qyc13 : ACode := .seq (.block 1 (.reg qyr11)) (.reg qyr12)
def qyc14 : ACode := .seq qyc10 qyc13
def qyc15 : ACode := .loop qyc14
def qyc16 : ACode := .block 0 qyc15
def qyc17 : ACode := .seq (.reg qyr7) qyc16
@[go_sem] def qyr18 : List AIns := [
  ⟨some 20,none,.no,.mv (.t 3)⟩,
  ⟨some 21,none,.no,.conv .str (.t 20)⟩,
  ⟨some 22,none,.no,.call (.v (.fn 70 [])) [(.t 21)]⟩,
  ⟨none,none,.no,.store 32 (.t 2) (.t 22)⟩]
def qyc19 : ACode := .seq (.reg qyr18) .ret
def qyc20 : ACode := .seq qyc17 qyc19
def qyc21 : ACode := .seq (.reg qyr6) qyc20
def qyc22 : ACode := .seq qyc5 qyc21
def qyc23 : ACode := .seq (.reg qyr0) qyc22
theorem qyok : cFn TC 93 = some (23, [.c 2 true 32], qyc23) := by kernel_rfl

@[go_sem] def qzr0 : List AIns := [
  ⟨some 5,none,.no,.box (.t 2)⟩,
  ⟨some 6,none,.no,.mv (.v (.str []))⟩]
@[go_sem] def qzr1 : List AIns := [
  ⟨some 13,none,.no,.mv (.t 0)⟩,
  ⟨some 14,none,.no,.mv (.t 1)⟩,
  ⟨some 15,none,.no,.call (.v (.fn 92 [])) [(.t 13), (.t 14)]⟩,
  ⟨some 7,none,.no,.mv (.t 15)⟩]
@[go_sem] def qzr2 : List AIns := [
  ⟨some 16,none,.no,.mv (.t 7)⟩,
  ⟨some 17,none,.no,.bin .eql .slc (.t 16) (.v .nilsl)⟩]
@[go_sem] def qzr3 : List AIns := [
  ⟨some 6,none,.no,.mv (.v (.str []))⟩]
def qzc4 : ACode := .seq (.reg qzr3) .ret
def qzc5 : ACode := .cond (.t 17) qzc4 .skip
def qzc6 : ACode := .seq (.reg qzr2) qzc5
@[go_sem] def qzr7 : List AIns := [
  ⟨some 18,none,.no,.load true 32 (.t 5)⟩,
  ⟨some 19,none,.no,.call (.v (.fn 121 [])) [(.t 18)]⟩,
  ⟨some 8,none,.no,.mv (.t 19)⟩]
@[go_sem] def qzr8 : List AIns := [
  ⟨some 9,none,.no,.allB⟩,
  ⟨some 10,none,.no,.allB⟩]
@[go_sem] def qzr9 : List AIns := [
  ⟨some 20,none,.no,.mv (.v (.int .i64 0))⟩]
@[go_sem] def qzr10 : List AIns := [
  ⟨some 21,none,.no,.bin .lss .none (.t 20) (.v (.int .i64 256))⟩]
@[go_sem] def qzr11 : List AIns := [
  ⟨some 22,none,.no,.mv (.t 20)⟩,
  ⟨some 11,none,.no,.mv (.t 22)⟩]
@[go_sem] def qzr12 : List AIns := [
  ⟨some 23,none,.no,.mv (.t 8)⟩,
  ⟨some 24,none,.no,.mv (.t 11)⟩,
  ⟨some 25,none,.no,.call (.v (.fn 130 [])) [(.t 23), (.t 24)]⟩,
  ⟨some 12,none,.no,.mv (.t 25)⟩]
@[go_sem] def qzr13 : List AIns := [
  ⟨some 26,none,.no,.mv (.t 0)⟩,
  ⟨some 27,none,.no,.mv (.t 1)⟩,
  ⟨some 28,none,.no,.mv (.t 11)⟩,
  ⟨some 29,none,.no,.mv (.t 12)⟩,
  ⟨some 30,none,.no,.call (.v (.fn 128 [])) [(.t 26), (.t 27), (.t 28), (.t 29)]⟩,
  ⟨some 31,none,.no,.call (.v (.fn 121 [])) [(.t 30)]⟩,
  ⟨some 32,none,.no,.call (.v (.fn 125 [])) [(.t 9), (.t 31)]⟩]
@[go_sem] def qzr14 : List AIns := [
  ⟨some 33,none,.no,.mv (.t 7)⟩,
  ⟨some 34,none,.no,.mv (.t 11)⟩,
  ⟨some 35,none,.no,.bin .mul .none (.v (.int .i64 2)) (.t 34)⟩,
  ⟨some 36,none,.no,.bin .add .none (.t 35) (.v (.int .i64 1))⟩,
  ⟨some 37,none,.no,.mv (.t 12)⟩,
  ⟨some 38,none,.no,.bin .sub .none (.t 36) (.t 37)⟩,
  ⟨some 39,none,.no,.iaSl 32 (.t 33) (.t 38)⟩,
  ⟨some 40,none,.no,.load true 32 (.t 39)⟩,
  ⟨some 41,none,.no,.call (.v (.fn 121 [])) [(.t 40)]⟩,
  ⟨some 42,none,.no,.call (.v (.fn 125 [])) [(.t 10), (.t 41)]⟩]
def qzc15 : ACode := .seq (.reg qzr13) (.reg qzr14)
def qzc16 : ACode := .seq (.reg qzr12) qzc15
def qzc17 : ACode := .seq (.reg qzr11) qzc16
@[go_sem] def qzr18 : List AIns := [
  ⟨some 43,none,.no,.bin .add .none (.t 20) (.v (.int .i64 1))⟩,
  ⟨some 20,none,.no,.mv (.t 43)⟩]
def qzc19 : ACode := .seq (.block 1 qzc17) (.reg qzr18)
def qzc20 : ACode := .seq (.cond (.t 21) .skip (.exit 0)) qzc19
def qzc21 : ACode := .seq (.reg qzr10) qzc20
def qzc22 : ACode := .loop qzc21
def qzc23 : ACode := .block 0 qzc22
def qzc24 : ACode := .seq (.reg qzr9) qzc23
@[go_sem] def qzr25 : List AIns := [
  ⟨some 44,none,.no,.call (.v (.fn 126 [])) [(.t 9)]⟩,
  ⟨some 45,none,.no,.call (.v (.fn 126 [])) [(.t 10)]⟩,
  ⟨some 46,none,.no,.bin .add .none (.t 44) (.t 45)⟩,
  ⟨some 6,none,.no,.mv (.t 46)⟩]
def qzc26 : ACode := .seq (.reg qzr25) .ret
def qzc27 : ACode := .seq qzc24 qzc26
def qzc28 : ACode := .seq (.reg qzr8) qzc27
def qzc29 : ACode := .seq (.reg qzr7) qzc28
def qzc30 : ACode := .seq qzc6 qzc29
def qzc31 : ACode := .seq (.reg qzr1) qzc30
def qzc32 : ACode := .seq (.reg qzr0) qzc31
theorem qzok : cFn TC 95 = some (47, [.t 6], qzc32) := by kernel_rfl

@[go_sem] def q10r0 : List AIns := [
  ⟨some 3,none,.no,.box (.t 1)⟩,
  ⟨some 4,none,.no,.alloc zZ0⟩,
  ⟨some 5,none,.no,.mv (.v (.int .i64 0))⟩]
@[go_sem] def q10r1 : List AIns := [
  ⟨some 12,none,.no,.mv (.t 0)⟩,
  ⟨some 13,none,.no,.lenStr (.t 12)⟩,
  ⟨some 14,none,.no,.bin .neq .none (.t 13) (.v (.int .i64 16384))⟩]
@[go_sem] def q10r2 : List AIns := [
  ⟨some 15,none,.no,.build zZ0 []⟩,
  ⟨none,none,.no,.store 32 (.t 4) (.t 15)⟩,
  ⟨some 5,none,.no,.mv (.v (.int .i64 10))⟩]
def q10c3 : ACode := .seq (.reg q10r2) .ret
def q10c4 : ACode := .cond (.t 14) q10c3 .skip
def q10c5 : ACode := .seq (.reg q10r1) q10c4
@[go_sem] def q10r6 : List AIns := [
  ⟨some 16,none,.no,.load true 32 (.t 3)⟩,
  ⟨some 17,none,.no,.call (.v (.fn 121 [])) [(.t 16)]⟩,
  ⟨some 6,none,.no,.mv (.t 17)⟩]
@[go_sem] def q10r7 : List AIns := [
  ⟨some 18,none,.no,.make 32 zZ0 (.v (.int .i64 512)) (.v (.int .i64 512))⟩,
  ⟨some 7,none,.no,.mv (.t 18)⟩]
@[go_sem] def q10r8 : List AIns := [
  ⟨some 19,none,.no,.mv (.v (.int .i64 0))⟩]
@[go_sem] def q10r9 : List AIns := [
  ⟨some 20,none,.no,.bin .lss .none (.t 19) (.v (.int .i64 256))⟩]
@[go_sem] def q10r10 : List AIns := [
  ⟨some 21,none,.no,.mv (.t 19)⟩,
  ⟨some 8,none,.no,.mv (.t 21)⟩]
@[go_sem] def q10r11 : List AIns := [
  ⟨some 22,none,.no,.mv (.t 6)⟩,
  ⟨some 23,none,.no,.mv (.t 8)⟩,
  ⟨some 24,none,.no,.call (.v (.fn 130 [])) [(.t 22), (.t 23)]⟩,
  ⟨some 9,none,.no,.mv (.t 24)⟩]
@[go_sem] def q10r12 : List AIns := [
  ⟨some 25,none,.no,.mv (.t 0)⟩,
  ⟨some 26,none,.no,.mv (.t 8)⟩,
  ⟨some 27,none,.no,.bin .mul .none (.t 26) (.v (.int .i64 32))⟩,
  ⟨some 28,none,.no,.mv (.t 8)⟩,
  ⟨some 29,none,.no,.bin .add .none (.t 28) (.v (.int .i64 1))⟩,
  ⟨some 30,none,.no,.bin .mul .none (.t 29) (.v (.int .i64 32))⟩,
  ⟨some 31,none,.no,.slice .str (.t 25) (some (.t 27)) (some (.t 30)) none⟩,
  ⟨some 32,none,.no,.mv (.t 0)⟩,
  ⟨some 33,none,.no,.mv (.t 8)⟩,
  ⟨some 34,none,.no,.bin .add .none (.v (.int .i64 256)) (.t 33)⟩,
  ⟨some 35,none,.no,.bin .mul .none (.t 34) (.v (.int .i64 32))⟩,
  ⟨some 36,none,.no,.slice .str (.t 32) (some (.t 35)) none none⟩,
  ⟨some 10,none,.no,.mv (.t 31)⟩,
  ⟨some 11,none,.no,.mv (.t 36)⟩]
@[go_sem] def q10r13 : List AIns := [
  ⟨some 37,none,.no,.mv (.t 7)⟩,
  ⟨some 38,none,.no,.mv (.t 8)⟩,
  ⟨some 39,none,.no,.bin .mul .none (.v (.int .i64 2)) (.t 38)⟩,
  ⟨some 40,none,.no,.mv (.t 9)⟩,
  ⟨some 41,none,.no,.bin .add .none (.t 39) (.t 40)⟩,
  ⟨some 42,none,.no,.mv (.t 10)⟩,
  ⟨some 43,none,.no,.call (.v (.fn 127 [])) [(.t 42)]⟩,
  ⟨some 44,none,.no,.iaSl 32 (.t 37) (.t 41)⟩,
  ⟨none,none,.no,.store 32 (.t 44) (.t 43)⟩]
@[go_sem] def q10r14 : List AIns := [
  ⟨some 46,none,.no,.mv (.t 7)⟩,
  ⟨some 47,none,.no,.mv (.t 8)⟩,
  ⟨some 48,none,.no,.bin .mul .none (.v (.int .i64 2)) (.t 47)⟩,
  ⟨some 49,none,.no,.bin .add .none (.t 48) (.v (.int .i64 1))⟩,
  ⟨some 50,none,.no,.mv (.t 9)⟩,
  ⟨some 51,none,.no,.bin .sub .none (.t 49) (.t 50)⟩,
  ⟨some 52,none,.no,.mv (.t 11)⟩,
  ⟨some 53,none,.no,.call (.v (.fn 132 [])) [(.t 52)]⟩,
  ⟨some 45,none,.no,.mv (.t 53)⟩,
  ⟨some 54,none,.no,.ext 0 (.t 45)⟩,
  ⟨some 55,none,.no,.ext 1 (.t 45)⟩,
  ⟨some 56,none,.no,.ext 2 (.t 45)⟩,
  ⟨some 57,none,.no,.iaSl 32 (.t 46) (.t 51)⟩,
  ⟨none,none,.no,.store 32 (.t 57) (.t 54)⟩]
def q10c15 : ACode := .seq (.reg q10r13) (.reg q10r14)
def q10c16 : ACode := .seq (.reg q10r12) q10c15
def q10c17 : ACode := .seq (.reg q10r11) q10c16
def q10c18 : ACode := .seq (.reg q10r10) q10c17
@[go_sem] def q10r19 : List AIns := [
  ⟨some 58,none,.no,.bin .add .none (.t 19) (.v (.int .i64 1))⟩,
  ⟨some 19,none,.no,.mv (.t 58)⟩]
def q10c20 : ACode := .seq (.block 1 q10c18) (.reg q10r19)
def q10c21 : ACode := .seq (.cond (.t 20) .skip (.exit 0)) q10c20
def q10c22 : ACode := .seq (.reg q10r9) q10c21
def q10c23 : ACode := .loop q10c22
def q10c24 : ACode := .block 0 q10c23
def q10c25 : ACode := .seq (.reg q10r8) q10c24
@[go_sem] def q10r26 : List AIns := [
  ⟨some 59,none,.no,.mv (.t 7)⟩,
  ⟨some 60,none,.no,.call (.v (.fn 91 [])) [(.t 59)]⟩,
  ⟨none,none,.no,.store 32 (.t 4) (.t 60)⟩,
  ⟨some 5,none,.no,.mv (.v (.int .i64 0))⟩]
def q10c27 : ACode := .seq (.reg q10r26) .ret
def q10c28 : ACode := .seq q10c25 q10c27
def q10c29 : ACode := .seq (.reg q10r7) q10c28
def q10c30 : ACode := .seq (.reg q10r6) q10c29
def q10c31 : ACode := .seq q10c5 q10c30
def q10c32 : ACode := .seq (.reg q10r0) q10c31
theorem q10ok : cFn TC 99 = some (61, [.c 4 true 32, .t 5], q10c32) := by kernel_rfl

@[go_sem] def q11r0 : List AIns := [
  ⟨some 3,none,.no,.box (.t 1)⟩,
  ⟨some 4,none,.no,.alloc zZ0⟩,
  ⟨some 5,none,.no,.mv (.v (.int .i64 0))⟩]
@[go_sem] def q11r1 : List AIns := [
  ⟨some 12,none,.no,.mv (.t 0)⟩,
  ⟨some 13,none,.no,.lenStr (.t 12)⟩,
  ⟨some 14,none,.no,.bin .neq .none (.t 13) (.v (.int .i64 16384))⟩]
@[go_sem] def q11r2 : List AIns := [
  ⟨some 15,none,.no,.build zZ0 []⟩,
  ⟨none,none,.no,.store 32 (.t 4) (.t 15)⟩,
  ⟨some 5,none,.no,.mv (.v (.int .i64 10))⟩]
def q11c3 : ACode := .seq (.reg q11r2) .ret
def q11c4 : ACode := .cond (.t 14) q11c3 .skip
def q11c5 : ACode := .seq (.reg q11r1) q11c4
@[go_sem] def q11r6 : List AIns := [
  ⟨some 16,none,.no,.make 32 zZ0 (.v (.int .i64 512)) (.v (.int .i64 512))⟩,
  ⟨some 6,none,.no,.mv (.t 16)⟩]
@[go_sem] def q11r7 : List AIns := [
  ⟨some 7,none,.no,.mv (.v (.int .i64 0))⟩]
@[go_sem] def q11r8 : List AIns := [
  ⟨some 17,none,.no,.mv (.t 7)⟩,
  ⟨some 18,none,.no,.bin .lss .none (.t 17) (.v (.int .i64 256))⟩]
def q11c9 : ACode := .cond (.t 18) .skip (.exit 0)
def q11c10 : ACode := .seq (.reg q11r8) q11c9
@[go_sem] def q11r11 : List AIns := [
  ⟨some 21,none,.no,.slice (.arr 32 1) (.t 3) none none none⟩,
  ⟨some 22,none,.no,.conv .str (.t 21)⟩,
  ⟨some 23,none,.no,.mv (.t 7)⟩,
  ⟨some 24,none,.no,.call (.v (.fn 131 [])) [(.t 22), (.t 23)]⟩,
  ⟨some 8,none,.no,.mv (.t 24)⟩]
@[go_sem] def q11r12 : List AIns := [
  ⟨some 25,none,.no,.mv (.t 6)⟩,
  ⟨some 26,none,.no,.mv (.t 7)⟩,
  ⟨some 27,none,.no,.bin .mul .none (.v (.int .i64 2)) (.t 26)⟩,
  ⟨some 28,none,.no,.mv (.t 8)⟩,
  ⟨some 29,none,.no,.bin .add .none (.t 27) (.t 28)⟩,
  ⟨some 30,none,.no,.mv (.t 0)⟩,
  ⟨some 31,none,.no,.mv (.t 7)⟩,
  ⟨some 32,none,.no,.bin .mul .none (.v (.int .i64 32)) (.t 31)⟩,
  ⟨some 33,none,.no,.mv (.t 7)⟩,
  ⟨some 34,none,.no,.bin .mul .none (.v (.int .i64 32)) (.t 33)⟩,
  ⟨some 35,none,.no,.bin .add .none (.t 34) (.v (.int .i64 32))⟩,
  ⟨some 36,none,.no,.slice .str (.t 30) (some (.t 32)) (some (.t 35)) none⟩,
  ⟨some 37,none,.no,.bin .add .none (.v (.str [3])) (.t 36)⟩,
  ⟨some 38,none,.no,.call (.v (.fn 70 [])) [(.t 37)]⟩,
  ⟨some 39,none,.no,.iaSl 32 (.t 25) (.t 29)⟩,
  ⟨none,none,.no,.store 32 (.t 39) (.t 38)⟩]
@[go_sem] def q11r13 : List AIns := [
  ⟨some 41,none,.no,.mv (.t 0)⟩,
  ⟨some 42,none,.no,.mv (.t 7)⟩,
  ⟨some 43,none,.no,.bin .mul .none (.v (.int .i64 32)) (.t 42)⟩,
  ⟨some 44,none,.no,.bin .add .none (.v (.int .i64 8192)) (.t 43)⟩,
  ⟨some 45,none,.no,.slice .str (.t 41) (some (.t 44)) none none⟩,
  ⟨some 46,none,.no,.call (.v (.fn 133 [])) [(.t 45)]⟩,
  ⟨some 40,none,.no,.mv (.t 46)⟩,
  ⟨some 47,none,.no,.ext 0 (.t 40)⟩,
  ⟨some 48,none,.no,.ext 1 (.t 40)⟩,
  ⟨some 49,none,.no,.ext 2 (.t 40)⟩,
  ⟨some 9,none,.no,.alloc zZ0⟩,
  ⟨none,none,.no,.store 32 (.t 9) (.t 47)⟩,
  ⟨some 10,none,.no,.mv (.t 48)⟩,
  ⟨some 11,none,.no,.mv (.t 49)⟩]
@[go_sem] def q11r14 : List AIns := [
  ⟨some 50,none,.no,.mv (.t 6)⟩,
  ⟨some 51,none,.no,.mv (.t 7)⟩,
  ⟨some 52,none,.no,.bin .mul .none (.v (.int .i64 2)) (.t 51)⟩,
  ⟨some 53,none,.no,.bin .add .none (.t 52) (.v (.int .i64 1))⟩,
  ⟨some 54,none,.no,.mv (.t 8)⟩,
  ⟨some 55,none,.no,.bin .sub .none (.t 53) (.t 54)⟩,
  ⟨some 56,none,.no,.load true 32 (.t 9)⟩,
  ⟨some 57,none,.no,.iaSl 32 (.t 50) (.t 55)⟩,
  ⟨none,none,.no,.store 32 (.t 57) (.t 56)⟩]
def q11c15 : ACode := .seq (.reg q11r13) (.reg q11r14)
def q11c16 : ACode := .seq (.reg q11r12) q11c15
def q11c17 : ACode := .seq (.reg q11r11) q11c16
@[go_sem] def q11r18 : List AIns := [
  ⟨some 19,none,.no,.mv (.t 7)⟩,
  ⟨some 20,none,.no,.bin .add .none (.t 19) (.v (.int .i64 1))⟩,
  ⟨some 7,none,.no,.mv (.t 20)⟩]
def q11c19 : ACode := .seq (.block 1 q11c17) (.reg q11r18)
def q11c20 : ACode := .seq q11c10 q11c19
def q11c21 : ACode := .loop q11c20
def q11c22 : ACode := .block 0 q11c21
def q11c23 : ACode := .seq (.reg q11r7) q11c22
@[go_sem] def q11r24 : List AIns := [
  ⟨some 58,none,.no,.mv (.t 6)⟩,
  ⟨some 59,none,.no,.call (.v (.fn 93 [])) [(.t 58)]⟩,
  ⟨none,none,.no,.store 32 (.t 4) (.t 59)⟩,
  ⟨some 5,none,.no,.mv (.v (.int .i64 0))⟩]
def q11c25 : ACode := .seq (.reg q11r24) .ret
def q11c26 : ACode := .seq q11c23 q11c25
def q11c27 : ACode := .seq (.reg q11r6) q11c26
def q11c28 : ACode := .seq q11c5 q11c27
def q11c29 : ACode := .seq (.reg q11r0) q11c28
theorem q11ok : cFn TC 100 = some (60, [.c 4 true 32, .t 5], q11c29) := by kernel_rfl

@[go_sem] def q12r0 : List AIns := [
  ⟨some 4,none,.no,.mv (.v (.int .i64 0))⟩,
  ⟨some 5,none,.no,.mv (.v .any)⟩]
@[go_sem] def q12r1 : List AIns := [
  ⟨some 6,none,.no,.mv (.t 0)⟩,
  ⟨some 7,none,.no,.call (.v (.fn 141 [])) [(.t 6)]⟩]
@[go_sem] def q12r2 : List AIns := [
  ⟨some 8,none,.no,.mv (.t 0)⟩,
  ⟨some 9,none,.no,.mv (.t 0)⟩,
  ⟨some 10,none,.no,.nilc (.t 9)⟩,
  ⟨some 11,none,.no,.fa 1 (.t 10)⟩,
  ⟨some 12,none,.no,.load false 1 (.t 11)⟩,
  ⟨some 13,none,.no,.mv (.t 1)⟩,
  ⟨some 14,none,.no,.appB (.t 12) (.t 13)⟩,
  ⟨some 15,none,.no,.nilc (.t 8)⟩,
  ⟨some 16,none,.no,.fa 1 (.t 15)⟩,
  ⟨none,none,.no,.store 1 (.t 16) (.t 14)⟩]
@[go_sem] def q12r3 : List AIns := [
  ⟨some 17,none,.no,.mv (.t 1)⟩,
  ⟨some 18,none,.no,.lenStr (.t 17)⟩,
  ⟨some 4,none,.no,.mv (.t 18)⟩,
  ⟨some 5,none,.no,.mv (.v .any)⟩]
def q12c4 : ACode := .seq (.reg q12r3) .ret
def q12c5 : ACode := .seq (.reg q12r2) q12c4
def q12c6 : ACode := .seq (.reg q12r1) q12c5
def q12c7 : ACode := .seq (.reg q12r0) q12c6
theorem q12ok : cFn TC 125 = some (19, [.t 4, .t 5], q12c7) := by kernel_rfl

@[go_sem] def q13r0 : List AIns := [
  ⟨some 4,none,.no,.mv (.v .any)⟩]
@[go_sem] def q13r1 : List AIns := [
  ⟨some 5,none,.no,.mv (.t 0)⟩,
  ⟨some 6,none,.no,.call (.v (.fn 141 [])) [(.t 5)]⟩]
@[go_sem] def q13r2 : List AIns := [
  ⟨some 7,none,.no,.mv (.t 0)⟩,
  ⟨some 8,none,.no,.mv (.t 0)⟩,
  ⟨some 9,none,.no,.nilc (.t 8)⟩,
  ⟨some 10,none,.no,.fa 1 (.t 9)⟩,
  ⟨some 11,none,.no,.load false 1 (.t 10)⟩,
  ⟨some 12,none,.no,.mv (.t 1)⟩,
  ⟨some 13,none,.no,.lit 1 [(.t 12)]⟩,
  ⟨some 14,none,.no,.appB (.t 11) (.t 13)⟩,
  ⟨some 15,none,.no,.nilc (.t 7)⟩,
  ⟨some 16,none,.no,.fa 1 (.t 15)⟩,
  ⟨none,none,.no,.store 1 (.t 16) (.t 14)⟩]
@[go_sem] def q13r3 : List AIns := [
  ⟨some 4,none,.no,.mv (.v .any)⟩]
def q13c4 : ACode := .seq (.reg q13r3) .ret
def q13c5 : ACode := .seq (.reg q13r2) q13c4
def q13c6 : ACode := .seq (.reg q13r1) q13c5
def q13c7 : ACode := .seq (.reg q13r0) q13c6
theorem q13ok : cFn TC 124 = some (17, [.t 4], q13c7) := by kernel_rfl

@[go_sem] def q14r0 : List AIns := [
  ⟨some 2,none,.no,.alloc zZ0⟩]
@[go_sem] def q14r1 : List AIns := [
  ⟨some 3,none,.no,.mv (.t 0)⟩,
  ⟨some 4,none,.no,.bin .add .none (.v (.str [3])) (.t 3)⟩,
  ⟨some 5,none,.no,.call (.v (.fn 87 [])) [(.t 4)]⟩,
  ⟨none,none,.no,.store 32 (.t 2) (.t 5)⟩]
def q14c2 : ACode := .seq (.reg q14r1) .ret
def q14c3 : ACode := .seq (.reg q14r0) q14c2
theorem q14ok : cFn TC 127 = some (6, [.c 2 true 32], q14c3) := by kernel_rfl

@[go_sem] def q15r0 : List AIns := [
  ⟨some 8,none,.no,.alloc zZ0⟩]
@[go_sem] def q15r1 : List AIns := [
  ⟨some 9,none,.no,.mv (.t 1)⟩,
  ⟨some 10,none,.no,.bin .lss .none (.t 9) (.v (.int .i64 0))⟩,
  ⟨some 11,none,.no,.mv (.t 10)⟩,
  ⟨some 12, some (11, false), .no, .mv (.t 1)⟩,
  ⟨some 13, some (11, false), .no, .bin .geq .none (.t 12) (.v (.int .i64 2147483648))⟩,
  ⟨some 14,none,.no,.pick (.t 11) (.v (.bool true)) (.t 13)⟩,
  ⟨some 15,none,.no,.mv (.t 14)⟩,
  ⟨some 16, some (15, false), .no, .mv (.t 2)⟩,
  ⟨some 17, some (15, false), .no, .bin .lss .none (.t 16) (.v (.int .i64 0))⟩,
  ⟨some 18,none,.no,.pick (.t 15) (.v (.bool true)) (.t 17)⟩,
  ⟨some 19,none,.no,.mv (.t 18)⟩,
  ⟨some 20, some (19, false), .no, .mv (.t 2)⟩,
  ⟨some 21, some (19, false), .no, .bin .geq .none (.t 20) (.v (.int .i64 256))⟩,
  ⟨some 22,none,.no,.pick (.t 19) (.v (.bool true)) (.t 21)⟩,
  ⟨some 23,none,.no,.mv (.t 22)⟩,
  ⟨some 24, some (23, false), .no, .mv (.t 3)⟩,
  ⟨some 25, some (23, false), .no, .bin .lss .none (.t 24) (.v (.int .i64 0))⟩,
  ⟨some 26,none,.no,.pick (.t 23) (.v (.bool true)) (.t 25)⟩,
  ⟨some 27,none,.no,.mv (.t 26)⟩,
  ⟨some 28, some (27, false), .no, .mv (.t 3)⟩,
  ⟨some 29, some (27, false), .no, .bin .gtr .none (.t 28) (.v (.int .i64 1))⟩,
  ⟨some 30,none,.no,.pick (.t 27) (.v (.bool true)) (.t 29)⟩]
@[go_sem] def q15r2 : List AIns := [
  ⟨some 31,none,.no,.build zZ0 []⟩,
  ⟨none,none,.no,.store 32 (.t 8) (.t 31)⟩]
def q15c3 : ACode := .seq (.reg q15r2) .ret
def q15c4 : ACode := .cond (.t 30) q15c3 .skip
def q15c5 : ACode := .seq (.reg q15r1) q15c4
@[go_sem] def q15r6 : List AIns := [
  ⟨some 32,none,.no,.mv (.t 0)⟩,
  ⟨some 33,none,.no,.call (.v (.fn 142 [])) [(.t 32)]⟩,
  ⟨some 34,none,.no,.bin .add .none (.v (.str [2])) (.t 33)⟩,
  ⟨some 35,none,.no,.mv (.t 1)⟩,
  ⟨some 36,none,.no,.conv (.int .u64) (.t 35)⟩,
  ⟨some 37,none,.no,.call (.v (.fn 120 [])) [(.t 36), (.v (.int .i64 4))]⟩,
  ⟨some 38,none,.no,.bin .add .none (.t 34) (.t 37)⟩,
  ⟨some 39,none,.no,.mv (.t 2)⟩,
  ⟨some 40,none,.no,.bin .mul .none (.v (.int .i64 2)) (.t 39)⟩,
  ⟨some 41,none,.no,.mv (.t 3)⟩,
  ⟨some 42,none,.no,.bin .add .none (.t 40) (.t 41)⟩,
  ⟨some 43,none,.no,.conv (.int .u64) (.t 42)⟩,
  ⟨some 44,none,.no,.call (.v (.fn 120 [])) [(.t 43), (.v (.int .i64 2))]⟩,
  ⟨some 45,none,.no,.bin .add .none (.t 38) (.t 44)⟩,
  ⟨some 46,none,.no,.call (.v (.fn 87 [])) [(.t 45)]⟩,
  ⟨none,none,.no,.store 32 (.t 8) (.t 46)⟩]
def q15c7 : ACode := .seq (.reg q15r6) .ret
def q15c8 : ACode := .seq q15c5 q15c7
def q15c9 : ACode := .seq (.reg q15r0) q15c8
theorem q15ok : cFn TC 128 = some (47, [.c 8 true 32], q15c9) := by kernel_rfl

end Am
end Go.Proofs.YtncenefkbpelbaaDoor
end
