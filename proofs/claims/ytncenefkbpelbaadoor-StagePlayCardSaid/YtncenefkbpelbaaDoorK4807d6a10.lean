import Derived.Test.YtncenefkbpelbaaDoorK31c3f020b
import Derived.Test.YtncenefkbpelbaaDoorK2d3b92f56
set_option linter.unusedSimpArgs false
set_option linter.unusedVariables false
open Nat (reduceEqDiff reduceAdd reduceMul reduceSub reduceLeDiff)
open Int (reduceToNat reducePow)
section
/- SHA-256: the reference's Sum. -/
namespace Go.Proofs.YtncenefkbpelbaaDoor
namespace Am
theorem sum_r1 {C : Ctx} {K : Env -> Store -> Prop} {H : Hist} {Z : Env} {O : Store} : zj C K q8r1 H Z O = zj C K (q8r1.drop 1) H (upd Z 26 (.agg gl_sha_rounds)) O := by kernel_rfl
theorem zk2 {l : List W} {i : Nat} (h : i < 4 * l.length) : (l.flatMap fun x => be 4 x.toNat)[i]? = (be 4 (wat l (i / 4)).toNat)[i % 4]? := by
  induction l generalizing i with
  | nil => simp at h
  | cons x l ih =>
    have hb : (be 4 x.toNat).length = 4 := z52 _ _
    rw [List.flatMap_cons]
    by_cases hi : i < 4
    · rw [List.getElem?_append_left (by omega), Nat.div_eq_of_lt hi, Nat.mod_eq_of_lt hi]; rfl
    · simp only [List.length_cons] at h
      rw [List.getElem?_append_right (by omega), hb, ih (by omega), show i / 4 = (i - 4) / 4 + 1 by omega, show (i - 4) % 4 = i % 4 by omega]
      rfl
theorem zi9 (x : Nat) {j : Nat} (h : j < 4) : (be 4 x)[j]? = some (UInt8.ofNat (x / 2 ^ (24 - 8 * j))) := by
  have e : be 4 x = [UInt8.ofNat (x / 256 ^ 3), UInt8.ofNat (x / 256 ^ 2), UInt8.ofNat (x / 256 ^ 1), UInt8.ofNat (x / 256 ^ 0)] := by
    simp only [z8z]
    rfl
  rw [e]
  have hj : j = 0 \/ j = 1 \/ j = 2 \/ j = 3 := by omega
  rcases hj with rfl | rfl | rfl | rfl <;> rfl
theorem zmo (v : V8) {i : Nat} (h : i < 32) : (outV v)[i]? = some (UInt8.ofNat ((wat v.l (i / 4)).toNat / 2 ^ (24 - 8 * (i % 4)))) := by
  unfold outV
  rw [zk2 (by simp [V8.l]; omega), zi9 _ (Nat.mod_lt _ (by decide))]
def z4t (v : V8) (i : Nat) : List AV := zg ((outV v).take i) ++ List.replicate (32 - i) (.int .u8 0)
theorem zlo (v : V8) {i : Nat} (h : i <= 32) : (z4t v i).length = 32 := by simp [z4t, z18, z5a]; omega
theorem zlp (v : V8) {i : Nat} (h : i < 32) {b : Int} (hb : b = (((wat v.l (i / 4)).toNat / 2 ^ (24 - 8 * (i % 4)) % 256 : Nat) : Int)) :
    (z4t v i).take i ++ AV.int .u8 b :: (z4t v i).drop (i + 1) = z4t v (i + 1) := by
  have h1 : (zg ((outV v).take i)).length = i := by rw [z18, List.length_take, z5a]; omega
  have hg := zmo v h
  have hs : (outV v).take (i + 1) = (outV v).take i ++ [UInt8.ofNat ((wat v.l (i / 4)).toNat / 2 ^ (24 - 8 * (i % 4)))] := by
    rw [List.take_add_one, hg]; rfl
  unfold z4t
  rw [List.take_append_of_le_length (by omega), List.take_of_length_le (by omega), List.drop_append, List.drop_of_length_le (by omega), h1, show i + 1 - i = 1 by omega, List.nil_append, hs]
  rw [List.drop_replicate, show 32 - i - 1 = 32 - (i + 1) by omega]
  simp [zg, hb]
set_option maxHeartbeats 8000000 in
theorem z5u (O : Store) (s : List UInt8) (h : s.length < 900000000) : ACallsTo TC 70 [.str s] O (.agg (zg (shaS s))) O := by
  obtain ⟨p, hp⟩ : ∃ p, p = padS s := ⟨_, rfl⟩
  obtain ⟨hp1, hp2⟩ := zfa s
  rw [<- hp] at hp1 hp2
  obtain ⟨N, hN⟩ : ∃ N, p.length = 64 * N := ⟨p.length / 64, by omega⟩
  obtain ⟨V, hV⟩ : ∃ V, V = z5i N v0 p := ⟨_, rfl⟩
  have hS : shaS s = outV V := by
    unfold shaS
    rw [<- hp, hV]
    have : p.length / 64 = N := by omega
    rw [this]
  rw [hS]
  have hf := fun O => pad_to O s (by omega)
  rw [<- hp] at hf
  refine ACallsTo.of_body q8ok (by simp) fun hw _ => ?_
  refine zW.zs ?_
  refine zW.zr ?_
  simp (disch:=first|omega|(simp only [lens];first|done|omega)) only [go_sem,reduceEqDiff,Nat.reduceBEq,reduceAdd,reduceMul,reduceSub,reduceLeDiff,reduceToNat,reducePow]
  refine zW.zs ?_
  refine zW.zr ?_
  rw [sum_r1]
  simp (disch:=first|omega|(simp only [lens];first|done|omega)) only [go_sem,reduceEqDiff,Nat.reduceBEq,reduceAdd,reduceMul,reduceSub,reduceLeDiff,reduceToNat,reducePow, z7v]
  refine zW.zs ?_
  refine zW.zr ?_
  simp (disch:=first|omega|(simp only [lens];first|done|omega)) only [go_sem,reduceEqDiff,Nat.reduceBEq,reduceAdd,reduceMul,reduceSub,reduceLeDiff,reduceToNat,reducePow]
  refine zW.zs ?_
  repeat' (first|refine zW.zs ?_|refine zW.zb ?_|refine zW.zc ?_|refine zW.zt rfl ?_|refine zW.zf rfl ?_|(refine zW.zd rfl (fun ht => ?_) (fun ht => ?_)<;>try (exfalso;omega))|((first|refine zW.zr ?_|refine zW.zk ?_|refine zW.ze ?_|refine zW.zq ?_|(apply callW.mk_pu; (first | exact (fun _ => hf _))) | (apply callW.za; (first | exact (hf _))) | ((first|apply zg0|apply zg1|apply zg2|apply zg3|apply zg4|apply zg5|apply zg6|apply zg7)<;>intro ht));all_goals try simp (disch:=first|omega|(simp only [lens];first|done|omega)) only [go_sem,reduceEqDiff,Nat.reduceBEq,reduceAdd,reduceMul,reduceSub,reduceLeDiff,reduceToNat,reducePow]))
  refine zW.loop (fun m Z O' => ∃ (u : V8) (n : Nat) (cells : List AV), n + 64 * m = p.length /\ Rk Z O.length p n /\ cells.length = 64 /\ z5i m u (p.drop n) = V /\ O' = mkS O u cells) N ?_ ?_
  · exact ⟨v0, 0, List.replicate 64 (.int .u32 0), by omega, ⟨by simp (disch:=first|omega|(simp only [lens];first|done|omega)) only [go_sem,reduceEqDiff,Nat.reduceBEq,reduceAdd,reduceMul,reduceSub,reduceLeDiff,reduceToNat,reducePow], by simp (disch:=first|omega|(simp only [lens];first|done|omega)) only [go_sem,reduceEqDiff,Nat.reduceBEq,reduceAdd,reduceMul,reduceSub,reduceLeDiff,reduceToNat,reducePow], by simp (disch:=first|omega|(simp only [lens];first|done|omega)) only [go_sem,reduceEqDiff,Nat.reduceBEq,reduceAdd,reduceMul,reduceSub,reduceLeDiff,reduceToNat,reducePow], by simp (disch:=first|omega|(simp only [lens];first|done|omega)) only [go_sem,reduceEqDiff,Nat.reduceBEq,reduceAdd,reduceMul,reduceSub,reduceLeDiff,reduceToNat,reducePow], by simp (disch:=first|omega|(simp only [lens];first|done|omega)) only [go_sem,reduceEqDiff,Nat.reduceBEq,reduceAdd,reduceMul,reduceSub,reduceLeDiff,reduceToNat,reducePow], by simp (disch:=first|omega|(simp only [lens];first|done|omega)) only [go_sem,reduceEqDiff,Nat.reduceBEq,reduceAdd,reduceMul,reduceSub,reduceLeDiff,reduceToNat,reducePow]; rfl⟩, rfl, by rw [List.drop_zero]; exact hV.symm, rfl⟩
  · rintro m Z O' ⟨u, n, cells, hn, ⟨q2, q3, q4, q5, q6, q7⟩, hc, hb, rfl⟩
    have hpb := z44 p
    cases m with
    | succ m =>
      refine zW.zs ?_
      refine zW.zs ?_
      (refine zW.regS ?_; (simp (disch:=first|omega|(simp only [lens];first|done|omega)) only [go_sem,reduceEqDiff,Nat.reduceBEq,reduceAdd,reduceMul,reduceSub,reduceLeDiff,reduceToNat,reducePow, q5, q7, hpb]))
      refine zW.zt rfl ?_
      refine zW.zk ?_
      simp (disch:=first|omega|(simp only [lens];first|done|omega)) only [go_sem,reduceEqDiff,Nat.reduceBEq,reduceAdd,reduceMul,reduceSub,reduceLeDiff,reduceToNat,reducePow]
      refine zW.zs ?_
      refine zW.zb ?_
      refine zW.zs ?_
      refine zno (p := p) (n := n) (u := u) (cells := cells) ⟨by simp (disch:=first|omega|(simp only [lens];first|done|omega)) only [go_sem,reduceEqDiff,Nat.reduceBEq,reduceAdd,reduceMul,reduceSub,reduceLeDiff,reduceToNat,reducePow, q2], by simp (disch:=first|omega|(simp only [lens];first|done|omega)) only [go_sem,reduceEqDiff,Nat.reduceBEq,reduceAdd,reduceMul,reduceSub,reduceLeDiff,reduceToNat,reducePow, q3], by simp (disch:=first|omega|(simp only [lens];first|done|omega)) only [go_sem,reduceEqDiff,Nat.reduceBEq,reduceAdd,reduceMul,reduceSub,reduceLeDiff,reduceToNat,reducePow, q4], by simp (disch:=first|omega|(simp only [lens];first|done|omega)) only [go_sem,reduceEqDiff,Nat.reduceBEq,reduceAdd,reduceMul,reduceSub,reduceLeDiff,reduceToNat,reducePow, q5], by simp (disch:=first|omega|(simp only [lens];first|done|omega)) only [go_sem,reduceEqDiff,Nat.reduceBEq,reduceAdd,reduceMul,reduceSub,reduceLeDiff,reduceToNat,reducePow, q6], by simp (disch:=first|omega|(simp only [lens];first|done|omega)) only [go_sem,reduceEqDiff,Nat.reduceBEq,reduceAdd,reduceMul,reduceSub,reduceLeDiff,reduceToNat,reducePow, q7]⟩ (by omega) (by omega) hc ?_
      intro Z1 rest hr K1
      refine zW.zs ?_
      refine znn K1 hr ?_
      intro Z2 K2
      refine znm K2 ?_
      intro Z3 ⟨t2, t3, t4, t5, t6, t7⟩
      simp only [z1i, blkQ]
      (refine zW.regS ?_; (simp (disch:=first|omega|(simp only [lens];first|done|omega)) only [go_sem,reduceEqDiff,Nat.reduceBEq,reduceAdd,reduceMul,reduceSub,reduceLeDiff,reduceToNat,reducePow, t7]))
      refine ⟨m, by omega, mixS u ((p.drop n).take 64), n + 64, ws (z11 ((p.drop n).take 64) 64), by omega, ⟨by simp (disch:=first|omega|(simp only [lens];first|done|omega)) only [go_sem,reduceEqDiff,Nat.reduceBEq,reduceAdd,reduceMul,reduceSub,reduceLeDiff,reduceToNat,reducePow, t2], by simp (disch:=first|omega|(simp only [lens];first|done|omega)) only [go_sem,reduceEqDiff,Nat.reduceBEq,reduceAdd,reduceMul,reduceSub,reduceLeDiff,reduceToNat,reducePow, t3], by simp (disch:=first|omega|(simp only [lens];first|done|omega)) only [go_sem,reduceEqDiff,Nat.reduceBEq,reduceAdd,reduceMul,reduceSub,reduceLeDiff,reduceToNat,reducePow, t4], by simp (disch:=first|omega|(simp only [lens];first|done|omega)) only [go_sem,reduceEqDiff,Nat.reduceBEq,reduceAdd,reduceMul,reduceSub,reduceLeDiff,reduceToNat,reducePow, t5], by simp (disch:=first|omega|(simp only [lens];first|done|omega)) only [go_sem,reduceEqDiff,Nat.reduceBEq,reduceAdd,reduceMul,reduceSub,reduceLeDiff,reduceToNat,reducePow, t6], by simp (disch:=first|omega|(simp only [lens];first|done|omega)) only [go_sem,reduceEqDiff,Nat.reduceBEq,reduceAdd,reduceMul,reduceSub,reduceLeDiff,reduceToNat,reducePow]; rw [Int.natCast_add]; rfl⟩, by rw [z4j, z4w], ?_, rfl⟩
      rw [<- hb, z5i, List.drop_drop]
    | zero =>
      have hd : p.drop n = [] := List.drop_of_length_le (by omega)
      rw [hd] at hb
      have hu : u = V := hb
      subst hu
      clear hb hd hV
      unfold mkS
      repeat' (first|refine zW.zs ?_|refine zW.zb ?_|refine zW.zc ?_|refine zW.zt rfl ?_|refine zW.zf rfl ?_|(refine zW.zd rfl (fun ht => ?_) (fun ht => ?_)<;>try (exfalso;omega))|((first|refine zW.zr ?_|refine zW.zk ?_|refine zW.ze ?_|refine zW.zq ?_|((first|apply zg0|apply zg1|apply zg2|apply zg3|apply zg4|apply zg5|apply zg6|apply zg7)<;>intro ht));all_goals try simp (disch:=first|omega|(simp only [lens];first|done|omega)) only [go_sem,reduceEqDiff,Nat.reduceBEq,reduceAdd,reduceMul,reduceSub,reduceLeDiff,reduceToNat,reducePow, q5, q7, hpb]))
      refine zW.loop (fun m Z O' => ∃ i : Nat, m + i = 32 /\ Z 2 = .ptr O.length 0 0 /\ Z 4 = .ptr (O.length + 2) 0 0 /\ Z 24 = .ptr (O.length + 4) 0 0 /\ Z 25 = .int .i64 i /\ O' = O ++ [some [z32], some [gl_sha_rounds], some [u.c8], some [cells], some [z4t u i]]) 32 ?_ ?_
      · exact ⟨0, by omega, by simp (disch:=first|omega|(simp only [lens];first|done|omega)) only [go_sem,reduceEqDiff,Nat.reduceBEq,reduceAdd,reduceMul,reduceSub,reduceLeDiff,reduceToNat,reducePow, q2], by simp (disch:=first|omega|(simp only [lens];first|done|omega)) only [go_sem,reduceEqDiff,Nat.reduceBEq,reduceAdd,reduceMul,reduceSub,reduceLeDiff,reduceToNat,reducePow, q4], by simp (disch:=first|omega|(simp only [lens];first|done|omega)) only [go_sem,reduceEqDiff,Nat.reduceBEq,reduceAdd,reduceMul,reduceSub,reduceLeDiff,reduceToNat,reducePow], by simp (disch:=first|omega|(simp only [lens];first|done|omega)) only [go_sem,reduceEqDiff,Nat.reduceBEq,reduceAdd,reduceMul,reduceSub,reduceLeDiff,reduceToNat,reducePow]; rfl, rfl⟩
      · clear q2 q3 q4 q5 q6 q7
        rintro m Z O' ⟨i, hm, q2, q4, q24, q25, rfl⟩
        have hlen := zlo u (i := i) (by omega)
        have h8 : u.c8.length = 8 := rfl
        have hz : z32.length = 32 := rfl
        by_cases hi : i < 32
        · have hst := zlp u hi (b := ((((wat u.l (i / 4)).toNat / 2 ^ (24 - 8 * (i % 4)) % 256 : Nat)) : Int)) rfl
          have hw := z7d (w := u.l) (i := i / 4) (by simp [V8.l]; omega)
          rw [ws_l] at hw
          generalize wat u.l (i / 4) = x at *
          generalize z4t u i = cc at *
          have hd4 : ((i : Int) / 4).toNat = i / 4 := by omega
          have hsh : (24 - 8 * ((i : Int) % 4)).toNat = 24 - 8 * (i % 4) := by omega
          repeat' (first | refine zW.zs ?_ | refine zW.zb ?_ | refine zW.zc ?_ | refine zW.zt rfl ?_ | refine zW.zf rfl ?_ | (refine zW.zd rfl (fun ht => ?_) (fun ht => ?_) <;> try (exfalso; omega)) | ((first | refine zW.regS ?_ | refine zW.zk ?_ | refine zW.ze ?_ | refine zW.zq ?_ | ((first|apply zg0|apply zg1|apply zg2|apply zg3|apply zg4|apply zg5|apply zg6|apply zg7)<;>intro ht));all_goals try simp (disch:=first|omega|(simp only [lens];first|done|omega)) only [go_sem,reduceEqDiff,Nat.reduceBEq,reduceAdd,reduceMul,reduceSub,reduceLeDiff,reduceToNat,reducePow, q2, q4, q24, q25, hlen, h8, hw, hd4, hsh]))
          refine ⟨32 - (i + 1), by omega, i + 1, by omega, by simp, ?_⟩
          rw [BitVec.toNat_ushiftRight, Nat.shiftRight_eq_div_pow, <- hst, Int.natCast_emod]
          rfl
        · obtain rfl : i = 32 := by omega
          have e32 : z4t u 32 = zg (outV u) := by
            unfold z4t
            rw [List.take_of_length_le (by rw [z5a]; decide)]
            exact List.append_nil _
          have hd : List.drop 32 z32 = [] := rfl
          have hl : (zg (outV u)).length = 32 := by rw [z18, z5a]
          rw [e32] at *
          repeat' (first|refine zW.zs ?_|refine zW.zb ?_|refine zW.zc ?_|refine zW.zt rfl ?_|refine zW.zf rfl ?_|(refine zW.zd rfl (fun ht => ?_) (fun ht => ?_)<;>try (exfalso;omega))|((first|refine zW.zr ?_|refine zW.zk ?_|refine zW.ze ?_|refine zW.zq ?_|((first|apply zg0|apply zg1|apply zg2|apply zg3|apply zg4|apply zg5|apply zg6|apply zg7)<;>intro ht));all_goals try simp (disch:=first|omega|(simp only [lens];first|done|omega)) only [go_sem,reduceEqDiff,Nat.reduceBEq,reduceAdd,reduceMul,reduceSub,reduceLeDiff,reduceToNat,reducePow, q2, q4, q24, q25, hl, h8, hd, hz]))
          exact DownV.pure hw (z3j (z3l _))
end Am
end Go.Proofs.YtncenefkbpelbaaDoor
end
section
/- Abstract code. (Printed by wip/gen.) -/
set_option maxRecDepth 10000
namespace Go.Proofs.YtncenefkbpelbaaDoor
namespace Am



@[go_sem] def qfr0 : List AIns := [
  ⟨some 1,none,.no,.box (.t 0)⟩,
  ⟨some 2,none,.no,.alloc zZ0⟩]
@[go_sem] def qfr1 : List AIns := [
  ⟨some 4,none,.no,.load false 1 (.t 1)⟩,
  ⟨some 5,none,.no,.lenSl (.t 4)⟩,
  ⟨some 6,none,.no,.bin .eql .none (.t 5) (.v (.int .i64 0))⟩]
@[go_sem] def qfr2 : List AIns := [
  ⟨some 7,none,.no,.call (.v (.fn 87 [])) [(.v (.str []))]⟩,
  ⟨none,none,.no,.store 32 (.t 2) (.t 7)⟩]
def qfc3 : ACode := .seq (.reg qfr2) .ret
def qfc4 : ACode := .cond (.t 6) qfc3 .skip
def qfc5 : ACode := .seq (.reg qfr1) qfc4
@[go_sem] def qfr6 : List AIns := [
  ⟨some 3,none,.no,.alloc [.nilfn]⟩]
@[go_sem] def qfr7 : List AIns := [
  ⟨some 8,none,.no,.mkfn 88 [(.t 1), (.t 3)]⟩,
  ⟨none,none,.no,.store 1 (.t 3) (.t 8)⟩]
@[go_sem] def qfr8 : List AIns := [
  ⟨some 9,none,.no,.load false 1 (.t 3)⟩,
  ⟨some 10,none,.no,.load false 1 (.t 1)⟩,
  ⟨some 11,none,.no,.lenSl (.t 10)⟩,
  ⟨some 12,none,.no,.call (.t 9) [(.v (.int .i64 0)), (.t 11)]⟩,
  ⟨none,none,.no,.store 32 (.t 2) (.t 12)⟩]
def qfc9 : ACode := .seq (.reg qfr8) .ret
def qfc10 : ACode := .seq (.reg qfr7) qfc9
def qfc11 : ACode := .seq (.reg qfr6) qfc10
def qfc12 : ACode := .seq qfc5 qfc11
def qfc13 : ACode := .seq (.reg qfr0) qfc12
theorem qfok : cFn TC 45 = some (13, [.c 2 true 32], qfc13) := by kernel_rfl

@[go_sem] def qgr0 : List AIns := [
  ⟨some 2,none,.no,.box (.t 0)⟩,
  ⟨some 3,none,.no,.box (.t 1)⟩,
  ⟨some 4,none,.no,.alloc zZ0⟩]
@[go_sem] def qgr1 : List AIns := [
  ⟨some 5, none, .rd, .load true 32 (.t 2)⟩,
  ⟨some 6, none, .ef, .call (.v (.fn 121 [])) [(.t 5)]⟩,
  ⟨some 7,none,.no,.bin .add .none (.v (.str [1])) (.t 6)⟩,
  ⟨some 8, none, .rd, .load true 32 (.t 3)⟩,
  ⟨some 9,none,.no,.call (.v (.fn 121 [])) [(.t 8)]⟩,
  ⟨some 10,none,.no,.bin .add .none (.t 7) (.t 9)⟩,
  ⟨some 11,none,.no,.call (.v (.fn 87 [])) [(.t 10)]⟩,
  ⟨none,none,.no,.store 32 (.t 4) (.t 11)⟩]
def qgc2 : ACode := .seq (.reg qgr1) .ret
def qgc3 : ACode := .seq (.reg qgr0) qgc2
theorem qgok : cFn TC 90 = some (12, [.c 4 true 32], qgc3) := by kernel_rfl

@[go_sem] def qhr0 : List AIns := [
  ⟨some 2,none,.no,.mv (.v (.int .i64 0))⟩]
@[go_sem] def qhr1 : List AIns := [
  ⟨some 4,none,.no,.mv (.t 0)⟩,
  ⟨some 5,none,.no,.bin .lss .none (.t 4) (.v (.int .i64 2))⟩]
@[go_sem] def qhr2 : List AIns := [
  ⟨some 2,none,.no,.mv (.v (.int .i64 0))⟩]
def qhc3 : ACode := .seq (.reg qhr2) .ret
def qhc4 : ACode := .cond (.t 5) qhc3 .skip
def qhc5 : ACode := .seq (.reg qhr1) qhc4
@[go_sem] def qhr6 : List AIns := [
  ⟨some 3,none,.no,.mv (.v (.int .i64 1))⟩]
@[go_sem] def qhr7 : List AIns := [
  ⟨some 6,none,.no,.mv (.t 3)⟩,
  ⟨some 7,none,.no,.mv (.t 0)⟩,
  ⟨some 8,none,.no,.mv (.t 3)⟩,
  ⟨some 9,none,.no,.bin .sub .none (.t 7) (.t 8)⟩,
  ⟨some 10,none,.no,.bin .lss .none (.t 6) (.t 9)⟩]
def qhc8 : ACode := .cond (.t 10) .skip (.exit 0)
def qhc9 : ACode := .seq (.reg qhr7) qhc8
@[go_sem] def qhr10 : List AIns := [
  ⟨some 11,none,.no,.mv (.t 3)⟩,
  ⟨some 12,none,.no,.bin .mul .none (.t 11) (.v (.int .i64 2))⟩,
  ⟨some 3,none,.no,.mv (.t 12)⟩]
def qhc11 : ACode := .block 1 (.reg qhr10)
def qhc12 : ACode := .seq qhc9 qhc11
def qhc13 : ACode := .loop qhc12
@[go_sem] def qhr14 : List AIns := [
  ⟨some 13,none,.no,.mv (.t 3)⟩,
  ⟨some 2,none,.no,.mv (.t 13)⟩]
def qhc15 : ACode := .seq (.reg qhr14) .ret
def qhc16 : ACode := .seq (.block 0 qhc13) qhc15
def qhc17 : ACode := .seq (.reg qhr6) qhc16
def qhc18 : ACode := .seq qhc5 qhc17
def qhc19 : ACode := .seq (.reg qhr0) qhc18
theorem qhok : cFn TC 89 = some (14, [.t 2], qhc19) := by kernel_rfl

@[go_sem] def qir0 : List AIns := [
  ⟨some 6,none,.no,.alloc zZ0⟩]
@[go_sem] def qir1 : List AIns := [
  ⟨some 8,none,.no,.mv (.t 1)⟩,
  ⟨some 9,none,.no,.mv (.t 0)⟩,
  ⟨some 10,none,.no,.bin .sub .none (.t 8) (.t 9)⟩,
  ⟨some 11,none,.no,.call (.v (.fn 89 [])) [(.t 10)]⟩,
  ⟨some 7,none,.no,.mv (.t 11)⟩]
@[go_sem] def qir2 : List AIns := [
  ⟨some 12,none,.no,.mv (.t 7)⟩,
  ⟨some 13,none,.no,.bin .eql .none (.t 12) (.v (.int .i64 0))⟩]
@[go_sem] def qir3 : List AIns := [
  ⟨some 14,none,.no,.load false 1 (.t 2)⟩,
  ⟨some 15,none,.no,.mv (.t 0)⟩,
  ⟨some 16,none,.no,.iaSl 32 (.t 14) (.t 15)⟩,
  ⟨some 17,none,.no,.load true 32 (.t 16)⟩,
  ⟨none,none,.no,.store 32 (.t 6) (.t 17)⟩]
def qic4 : ACode := .seq (.reg qir3) .ret
def qic5 : ACode := .cond (.t 13) qic4 .skip
def qic6 : ACode := .seq (.reg qir2) qic5
@[go_sem] def qir7 : List AIns := [
  ⟨some 18, none, .rd, .load false 1 (.t 3)⟩,
  ⟨some 19,none,.no,.mv (.t 0)⟩,
  ⟨some 20,none,.no,.mv (.t 0)⟩,
  ⟨some 21,none,.no,.mv (.t 7)⟩,
  ⟨some 22,none,.no,.bin .add .none (.t 20) (.t 21)⟩,
  ⟨some 23, none, .ef, .call (.t 18) [(.t 19), (.t 22)]⟩,
  ⟨some 24, none, .rd, .load false 1 (.t 3)⟩,
  ⟨some 25,none,.no,.mv (.t 0)⟩,
  ⟨some 26,none,.no,.mv (.t 7)⟩,
  ⟨some 27,none,.no,.bin .add .none (.t 25) (.t 26)⟩,
  ⟨some 28,none,.no,.mv (.t 1)⟩,
  ⟨some 29,none,.no,.call (.t 24) [(.t 27), (.t 28)]⟩,
  ⟨some 30,none,.no,.call (.v (.fn 90 [])) [(.t 23), (.t 29)]⟩,
  ⟨none,none,.no,.store 32 (.t 6) (.t 30)⟩]
def qic8 : ACode := .seq (.reg qir7) .ret
def qic9 : ACode := .seq qic6 qic8
def qic10 : ACode := .seq (.reg qir1) qic9
def qic11 : ACode := .seq (.reg qir0) qic10
theorem qiok : cFn TC 88 = some (31, [.c 6 true 32], qic11) := by kernel_rfl

@[go_sem] def qjr0 : List AIns := [
  ⟨some 2,none,.no,.alloc zZ0⟩]
@[go_sem] def qjr1 : List AIns := [
  ⟨some 4,none,.no,.mv (.t 0)⟩,
  ⟨some 5,none,.no,.lenSl (.t 4)⟩,
  ⟨some 6,none,.no,.bin .eql .none (.t 5) (.v (.int .i64 0))⟩]
@[go_sem] def qjr2 : List AIns := [
  ⟨some 7,none,.no,.call (.v (.fn 70 [])) [(.v (.str []))]⟩,
  ⟨none,none,.no,.store 32 (.t 2) (.t 7)⟩]
def qjc3 : ACode := .seq (.reg qjr2) .ret
def qjc4 : ACode := .cond (.t 6) qjc3 .skip
def qjc5 : ACode := .seq (.reg qjr1) qjc4
@[go_sem] def qjr6 : List AIns := [
  ⟨some 8,none,.no,.mv (.t 0)⟩,
  ⟨some 9,none,.no,.lenSl (.t 8)⟩,
  ⟨some 10,none,.no,.bin .eql .none (.t 9) (.v (.int .i64 1))⟩]
@[go_sem] def qjr7 : List AIns := [
  ⟨some 11,none,.no,.mv (.t 0)⟩,
  ⟨some 12,none,.no,.iaSl 32 (.t 11) (.v (.int .i64 0))⟩,
  ⟨some 13,none,.no,.load true 32 (.t 12)⟩,
  ⟨none,none,.no,.store 32 (.t 2) (.t 13)⟩]
def qjc8 : ACode := .seq (.reg qjr7) .ret
def qjc9 : ACode := .cond (.t 10) qjc8 .skip
def qjc10 : ACode := .seq (.reg qjr6) qjc9
@[go_sem] def qjr11 : List AIns := [
  ⟨some 14,none,.no,.mv (.t 0)⟩,
  ⟨some 15,none,.no,.lenSl (.t 14)⟩,
  ⟨some 16,none,.no,.call (.v (.fn 71 [])) [(.t 15)]⟩,
  ⟨some 3,none,.no,.mv (.t 16)⟩]
@[go_sem] def qjr12 : List AIns := [
  ⟨some 17,none,.no,.mv (.t 0)⟩,
  ⟨some 18,none,.no,.mv (.t 3)⟩,
  ⟨some 19,none,.no,.slice (.sl 32) (.t 17) none (some (.t 18)) none⟩,
  ⟨some 20,none,.no,.call (.v (.fn 25 [])) [(.t 19)]⟩,
  ⟨some 21,none,.no,.mv (.t 0)⟩,
  ⟨some 22,none,.no,.mv (.t 3)⟩,
  ⟨some 23,none,.no,.slice (.sl 32) (.t 21) (some (.t 22)) none none⟩,
  ⟨some 24,none,.no,.call (.v (.fn 25 [])) [(.t 23)]⟩,
  ⟨some 25,none,.no,.call (.v (.fn 72 [])) [(.t 20), (.t 24)]⟩,
  ⟨none,none,.no,.store 32 (.t 2) (.t 25)⟩]
def qjc13 : ACode := .seq (.reg qjr12) .ret
def qjc14 : ACode := .seq (.reg qjr11) qjc13
def qjc15 : ACode := .seq qjc10 qjc14
def qjc16 : ACode := .seq qjc5 qjc15
def qjc17 : ACode := .seq (.reg qjr0) qjc16
theorem qjok : cFn TC 25 = some (26, [.c 2 true 32], qjc17) := by kernel_rfl

@[go_sem] def qkr0 : List AIns := [
  ⟨some 2,none,.no,.box (.t 0)⟩,
  ⟨some 3,none,.no,.box (.t 1)⟩,
  ⟨some 4,none,.no,.alloc zZ0⟩]
@[go_sem] def qkr1 : List AIns := [
  ⟨some 5, none, .rd, .load true 32 (.t 2)⟩,
  ⟨some 6, none, .ef, .call (.v (.fn 116 [])) [(.t 5)]⟩,
  ⟨some 7,none,.no,.bin .add .none (.v (.str [1])) (.t 6)⟩,
  ⟨some 8, none, .rd, .load true 32 (.t 3)⟩,
  ⟨some 9,none,.no,.call (.v (.fn 116 [])) [(.t 8)]⟩,
  ⟨some 10,none,.no,.bin .add .none (.t 7) (.t 9)⟩,
  ⟨some 11,none,.no,.call (.v (.fn 70 [])) [(.t 10)]⟩,
  ⟨none,none,.no,.store 32 (.t 4) (.t 11)⟩]
def qkc2 : ACode := .seq (.reg qkr1) .ret
def qkc3 : ACode := .seq (.reg qkr0) qkc2
theorem qkok : cFn TC 72 = some (12, [.c 4 true 32], qkc3) := by kernel_rfl

@[go_sem] def qlr0 : List AIns := [
  ⟨some 1,none,.no,.box (.t 0)⟩,
  ⟨some 2,none,.no,.mv (.v (.str []))⟩]
@[go_sem] def qlr1 : List AIns := [
  ⟨some 3,none,.no,.mv (.v .nilsl)⟩]
@[go_sem] def qlr2 : List AIns := [
  ⟨some 4,none,.no,.mv (.v (.int .i64 0))⟩]
@[go_sem] def qlr3 : List AIns := [
  ⟨some 5,none,.no,.mv (.t 4)⟩,
  ⟨some 6,none,.no,.bin .lss .none (.t 5) (.v (.int .i64 32))⟩]
def qlc4 : ACode := .cond (.t 6) .skip (.exit 0)
def qlc5 : ACode := .seq (.reg qlr3) qlc4
@[go_sem] def qlr6 : List AIns := [
  ⟨some 9,none,.no,.mv (.t 3)⟩,
  ⟨some 10,none,.no,.mv (.t 4)⟩,
  ⟨some 11,none,.no,.iaArr 32 1 (.t 1) (.t 10)⟩,
  ⟨some 12,none,.no,.load false 1 (.t 11)⟩,
  ⟨some 13,none,.no,.lit 1 [(.t 12)]⟩,
  ⟨some 14,none,.no,.appB (.t 9) (.t 13)⟩,
  ⟨some 3,none,.no,.mv (.t 14)⟩]
@[go_sem] def qlr7 : List AIns := [
  ⟨some 7,none,.no,.mv (.t 4)⟩,
  ⟨some 8,none,.no,.bin .add .none (.t 7) (.v (.int .i64 1))⟩,
  ⟨some 4,none,.no,.mv (.t 8)⟩]
def qlc8 : ACode := .seq (.block 1 (.reg qlr6)) (.reg qlr7)
def qlc9 : ACode := .seq qlc5 qlc8
def qlc10 : ACode := .loop qlc9
def qlc11 : ACode := .block 0 qlc10
def qlc12 : ACode := .seq (.reg qlr2) qlc11
@[go_sem] def qlr13 : List AIns := [
  ⟨some 15,none,.no,.mv (.t 3)⟩,
  ⟨some 16,none,.no,.conv .str (.t 15)⟩,
  ⟨some 2,none,.no,.mv (.t 16)⟩]
def qlc14 : ACode := .seq (.reg qlr13) .ret
def qlc15 : ACode := .seq qlc12 qlc14
def qlc16 : ACode := .seq (.reg qlr1) qlc15
def qlc17 : ACode := .seq (.reg qlr0) qlc16
theorem qlok : cFn TC 116 = some (17, [.t 2], qlc17) := by kernel_rfl

@[go_sem] def qmr0 : List AIns := [
  ⟨some 1,none,.no,.box (.t 0)⟩,
  ⟨some 2,none,.no,.mv (.v (.str []))⟩]
@[go_sem] def qmr1 : List AIns := [
  ⟨some 3,none,.no,.slice (.arr 32 1) (.t 1) none none none⟩,
  ⟨some 4,none,.no,.conv .str (.t 3)⟩,
  ⟨some 2,none,.no,.mv (.t 4)⟩]
def qmc2 : ACode := .seq (.reg qmr1) .ret
def qmc3 : ACode := .seq (.reg qmr0) qmc2
theorem qmok : cFn TC 121 = some (5, [.t 2], qmc3) := by kernel_rfl

@[go_sem] def qnr0 : List AIns := [
  ⟨some 2,none,.no,.mv (.v (.int .i64 0))⟩]
@[go_sem] def qnr1 : List AIns := [
  ⟨some 3,none,.no,.mv (.v (.int .i64 0))⟩]
@[go_sem] def qnr2 : List AIns := [
  ⟨some 4,none,.no,.mv (.v (.int .i64 1))⟩]
@[go_sem] def qnr3 : List AIns := [
  ⟨some 5,none,.no,.mv (.t 4)⟩,
  ⟨some 6,none,.no,.mv (.t 0)⟩,
  ⟨some 7,none,.no,.bin .lss .none (.t 5) (.t 6)⟩,
  ⟨some 8,none,.no,.mv (.t 7)⟩,
  ⟨some 9, some (8, true), .no, .mv (.t 4)⟩,
  ⟨some 10, some (8, true), .no, .bin .gtr .none (.t 9) (.v (.int .i64 0))⟩,
  ⟨some 11,none,.no,.pick (.t 8) (.t 10) (.v (.bool false))⟩]
def qnc4 : ACode := .cond (.t 11) .skip (.exit 0)
def qnc5 : ACode := .seq (.reg qnr3) qnc4
@[go_sem] def qnr6 : List AIns := [
  ⟨some 14,none,.no,.mv (.t 4)⟩,
  ⟨some 3,none,.no,.mv (.t 14)⟩]
@[go_sem] def qnr7 : List AIns := [
  ⟨some 12,none,.no,.mv (.t 4)⟩,
  ⟨some 13,none,.no,.bin .mul .none (.t 12) (.v (.int .i64 2))⟩,
  ⟨some 4,none,.no,.mv (.t 13)⟩]
def qnc8 : ACode := .seq (.block 1 (.reg qnr6)) (.reg qnr7)
def qnc9 : ACode := .seq qnc5 qnc8
def qnc10 : ACode := .loop qnc9
def qnc11 : ACode := .block 0 qnc10
def qnc12 : ACode := .seq (.reg qnr2) qnc11
@[go_sem] def qnr13 : List AIns := [
  ⟨some 15,none,.no,.mv (.t 3)⟩,
  ⟨some 2,none,.no,.mv (.t 15)⟩]
def qnc14 : ACode := .seq (.reg qnr13) .ret
def qnc15 : ACode := .seq qnc12 qnc14
def qnc16 : ACode := .seq (.reg qnr1) qnc15
def qnc17 : ACode := .seq (.reg qnr0) qnc16
theorem qnok : cFn TC 71 = some (16, [.t 2], qnc17) := by kernel_rfl
end Am
end Go.Proofs.YtncenefkbpelbaaDoor
end
section
/- Trees: contracts: a hash's bytes, Node. -/
namespace Go.Proofs.YtncenefkbpelbaaDoor
namespace Am
theorem zcc (s : List UInt8) : (shaS s).length = 32 := z5a _
def z1d (a b : List UInt8) : List UInt8 := shaS (1 :: (a ++ b))
theorem z4c (a b : List UInt8) : (z1d a b).length = 32 := zcc _
theorem zdv : ∀ (l : List UInt8), chunk 1 l.length (zg l) = zl l
  | [] => rfl
  | b :: l => by
    have := zdv l
    simp only [zg, zl] at this
    simp [zg, zl, chunk, B8] at this ⊢
    exact this
theorem z99 (O : Store) (h : List UInt8) (hl : h.length = 32) : ACallsTo TC 121 [.agg (zg h)] O (.str h) O := by
  refine ACallsTo.of_body qmok (by simp) fun hw _ => ?_
  have h1 := z18 h
  have hc := zdv h
  rw [hl] at h1 hc
  repeat' (first|refine zW.zs ?_|refine zW.zb ?_|refine zW.zc ?_|refine zW.zt rfl ?_|refine zW.zf rfl ?_|(refine zW.zd rfl (fun ht => ?_) (fun ht => ?_)<;>try (exfalso;omega))|((first|refine zW.zr ?_|refine zW.zk ?_|refine zW.ze ?_|refine zW.zq ?_|((first|apply zg0|apply zg1|apply zg2|apply zg3|apply zg4|apply zg5|apply zg6|apply zg7)<;>intro ht));all_goals try simp (disch:=first|omega|(simp only [lens];first|done|omega)) only [go_sem,reduceEqDiff,Nat.reduceBEq,reduceAdd,reduceMul,reduceSub,reduceLeDiff,reduceToNat,reducePow, h1, hc]))
  exact DownV.pure hw (z14 _ rfl)
/-- Own elements behind what was there, or none yet. -/
def OwnN (sz : Nat) (τ O' : Store) (v : AV) (es : List (List AV)) : Prop :=
  ∃ news, O' = τ ++ news /\ ((es = [] /\ v = .nilsl) \/ ∃ j, es ≠ [] /\ v = .sl (τ.length + j) 0 es.length none sz /\ news[j]? = some (some es))
theorem OwnN.len {sz : Nat} {τ O' : Store} {v : AV} {es : List (List AV)} (h : OwnN sz τ O' v es) : z12 v = some (.int .i64 es.length) := by
  obtain ⟨news, rfl, ⟨rfl, rfl⟩ | ⟨j, _, rfl, h⟩⟩ := h <;> rfl
theorem OwnN.appB {sz : Nat} {τ O' : Store} {v : AV} {es ys : List (List AV)} (h : OwnN sz τ O' v es) : z4m O' v ys = aApp O' 1 v ys := by
  obtain ⟨news, rfl, ⟨rfl, rfl⟩ | ⟨j, _, rfl, h⟩⟩ := h <;> rfl
theorem OwnN.nil {sz : Nat} {τ news : Store} : OwnN sz τ (τ ++ news) .nilsl [] := ⟨news, rfl, .inl ⟨rfl, rfl⟩⟩
theorem OwnN.ext {sz : Nat} {τ O' : Store} {v : AV} {es : List (List AV)} (h : OwnN sz τ O' v es) : ∃ news, O' = τ ++ news := by
  obtain ⟨news, h, _⟩ := h; exact ⟨news, h⟩
/-- What others append behind leaves it. -/
theorem OwnN.more {sz : Nat} {τ O' : Store} {v : AV} {es : List (List AV)} (h : OwnN sz τ O' v es) (y : Store) : OwnN sz τ (O' ++ y) v es := by
  obtain ⟨news, rfl, h | ⟨j, h0, rfl, h⟩⟩ := h
  · exact ⟨news ++ y, by rw [List.append_assoc], .inl h⟩
  · exact ⟨news ++ y, by rw [List.append_assoc], .inr ⟨j, h0, rfl, by rw [List.getElem?_append_left (List.getElem?_eq_some_iff.1 h).1]; exact h⟩⟩
theorem OwnN.app {sz : Nat} {τ O' : Store} {v : AV} {es ys : List (List AV)} (h : OwnN sz τ O' v es) (h0 : ys.length ≠ 0) (hl : es.length + ys.length <= 1073741824) :
    ∃ v' O'', aApp O' sz v ys = some (v', O'') /\ OwnN sz τ O'' v' (es ++ ys) := by
  have hne : es ++ ys ≠ [] := fun e => h0 (by rw [(List.append_eq_nil_iff.1 e).2]; rfl)
  obtain ⟨news, rfl, ⟨rfl, rfl⟩ | ⟨j, _, rfl, h⟩⟩ := h
  · refine ⟨_, _, by rw [zaf, if_neg h0, if_pos (by simpa using hl)], news ++ [some ys], by rw [List.append_assoc], .inr ⟨news.length, hne, by simp, by rw [List.getElem?_append_right (Nat.le_refl _)]; simp⟩⟩
  · have hj := (List.getElem?_eq_some_iff.1 h).1
    have hg : (τ ++ news)[τ.length + j]? = some (some es) := by rw [List.getElem?_append_right (by omega), Nat.add_sub_cancel_left]; exact h
    refine ⟨.sl (τ ++ news).length 0 (es.length + ys.length) none sz, (τ ++ news).set (τ.length + j) none ++ [some (es ++ ys)], ?_, news.set j none ++ [some (es ++ ys)], ?_, .inr ⟨news.length, hne, by simp, by rw [List.getElem?_append_right (by simp)]; simp⟩⟩
    · rw [z8y, if_neg h0, hg]
      simp only
      rw [if_pos ⟨trivial, by omega, by omega⟩, if_neg (by omega), List.drop_zero, List.take_of_length_le (Nat.le_refl _)]
    · rw [List.set_append_right _ _ (by omega), Nat.add_sub_cancel_left, List.append_assoc]
theorem OwnN.sl {sz : Nat} {τ O' : Store} {v : AV} {es : List (List AV)} (h : OwnN sz τ O' v es) (h0 : es ≠ []) : ∃ r, v = .sl r 0 es.length none sz /\ O'[r]? = some (some es) /\ τ.length <= r := by
  obtain ⟨news, rfl, ⟨rfl, rfl⟩ | ⟨j, _, rfl, h⟩⟩ := h
  · exact absurd rfl h0
  · exact ⟨_, rfl, by rw [List.getElem?_append_right (by omega), Nat.add_sub_cancel_left]; exact h, by omega⟩
/-- A slice that nobody writes. -/
def SlV (sz : Nat) (es : List (List AV)) (x : AV) : Prop := (x = .nilsl /\ es = []) \/ ∃ ex, x = .vsl sz es ex
theorem SlV.len {sz : Nat} {es : List (List AV)} {x : AV} (h : SlV sz es x) : z12 x = some (.int .i64 es.length) := by
  rcases h with ⟨rfl, rfl⟩ | ⟨ex, rfl⟩ <;> rfl
theorem SlV.vsl {sz : Nat} {es : List (List AV)} {x : AV} (h : SlV sz es x) (h0 : 0 < es.length) : ∃ ex, x = .vsl sz es ex := by
  rcases h with ⟨rfl, rfl⟩ | h
  · simp at h0
  · exact h
def zz (sz : Nat) (es : List (List AV)) : AV := if es = [] then .nilsl else .vsl sz es false
theorem z27 (sz : Nat) (es : List (List AV)) : SlV sz es (zz sz es) := by
  unfold zz
  split
  · rename_i h; exact .inl ⟨rfl, h⟩
  · exact .inr ⟨false, rfl⟩
/-- A new slice for the caller: who, and the store with it. -/
def ownV (O : Store) (sz : Nat) (es : List (List AV)) : AV := if es = [] then .nilsl else .sl O.length 0 es.length none sz
def ownS (O : Store) (es : List (List AV)) : Store := if es = [] then O else O ++ [some es]
theorem z84 (O : Store) (sz : Nat) (es : List (List AV)) : OwnN sz O (ownS O es) (ownV O sz es) es := by
  unfold ownV ownS
  by_cases h : es = []
  · rw [if_pos h, if_pos h]; exact ⟨[], by simp, .inl ⟨h, rfl⟩⟩
  · rw [if_neg h, if_neg h]; exact ⟨[some es], rfl, .inr ⟨0, h, rfl, rfl⟩⟩
/-- At a function's end it is a value .. -/
theorem OwnN.froze {sz : Nat} {O O' : Store} {v : AV} {es : List (List AV)} (hw : Wf O.length O) (h : OwnN sz O O' v es) (hr : RLss O.length es) : DownV O.length v O' (zz sz es) O := by
  unfold zz
  obtain ⟨news, rfl, ⟨rfl, rfl⟩ | ⟨j, h0, rfl, h⟩⟩ := h
  · rw [if_pos rfl]; exact DownV.pure hw (z14 _ rfl)
  · have e : (es.drop 0).take es.length = es := by rw [List.drop_zero, List.take_of_length_le (Nat.le_refl _)]
    have := DownV.froze (off := 0) (len := es.length) (esz := sz) (lim := none) hw h (by omega) (by rw [e]; exact hr)
    rw [e] at this
    rw [if_neg h0]; exact this
/-- .. or its caller's own. -/
theorem OwnN.own {sz : Nat} {O O' : Store} {v : AV} {es : List (List AV)} (hw : Wf O.length O) (h : OwnN sz O O' v es) (hr : RLss O.length es) : DownV O.length v O' (ownV O sz es) (ownS O es) := by
  unfold ownV ownS
  obtain ⟨news, rfl, ⟨rfl, rfl⟩ | ⟨j, h0, rfl, h⟩⟩ := h
  · rw [if_pos rfl, if_pos rfl]; exact DownV.pure hw (z14 _ rfl)
  · rw [if_neg h0, if_neg h0]; exact DownV.own (off := 0) (len := es.length) (esz := sz) (lim := none) hw h hr
theorem zih {l : List UInt8} {i : Nat} (h : i < l.length) : (zg l)[i]? = some (.int .u8 (l.getD i 0).toNat) := by
  simp [zg, List.getD_eq_getElem?_getD, List.getElem?_eq_getElem h]
set_option maxHeartbeats 4000000 in
theorem z9q (O : Store) (h : List UInt8) (hl : h.length = 32) : ACallsTo TC 116 [.agg (zg h)] O (.str h) O := by
  refine ACallsTo.of_body qlok (by simp) fun hw _ => ?_
  have h1 := z18 h
  rw [hl] at h1
  repeat' (first|refine zW.zs ?_|refine zW.zb ?_|refine zW.zc ?_|refine zW.zt rfl ?_|refine zW.zf rfl ?_|(refine zW.zd rfl (fun ht => ?_) (fun ht => ?_)<;>try (exfalso;omega))|((first|refine zW.zr ?_|refine zW.zk ?_|refine zW.ze ?_|refine zW.zq ?_|((first|apply zg0|apply zg1|apply zg2|apply zg3|apply zg4|apply zg5|apply zg6|apply zg7)<;>intro ht));all_goals try simp (disch:=first|omega|(simp only [lens];first|done|omega)) only [go_sem,reduceEqDiff,Nat.reduceBEq,reduceAdd,reduceMul,reduceSub,reduceLeDiff,reduceToNat,reducePow, h1]))
  refine zW.loop (fun m Z O' => ∃ i : Nat, m + i = 32 /\ Z 1 = .ptr O.length 0 0 /\ Z 4 = .int .i64 i /\ OwnN 1 (O ++ [some [zg h]]) O' (Z 3) (zl (h.take i))) 32 ?_ ?_
  · refine ⟨0, by omega, by simp (disch:=first|omega|(simp only [lens];first|done|omega)) only [go_sem,reduceEqDiff,Nat.reduceBEq,reduceAdd,reduceMul,reduceSub,reduceLeDiff,reduceToNat,reducePow], by simp (disch:=first|omega|(simp only [lens];first|done|omega)) only [go_sem,reduceEqDiff,Nat.reduceBEq,reduceAdd,reduceMul,reduceSub,reduceLeDiff,reduceToNat,reducePow]; rfl, ?_⟩
    simp (disch:=first|omega|(simp only [lens];first|done|omega)) only [go_sem,reduceEqDiff,Nat.reduceBEq,reduceAdd,reduceMul,reduceSub,reduceLeDiff,reduceToNat,reducePow]
    have := OwnN.nil (sz := 1) (τ := O ++ [some [zg h]]) (news := [])
    rwa [List.append_nil] at this
  · rintro m Z O' ⟨i, hm, q1, q4, hO⟩
    by_cases hi : i < 32
    · have hg := zih (l := h) (i := i) (by omega)
      have hs : h.take (i + 1) = h.take i ++ [h.getD i 0] := by
        rw [List.take_add_one, List.getD_eq_getElem?_getD, List.getElem?_eq_getElem (by omega)]; rfl
      obtain ⟨v', O2, he, hO2⟩ := hO.app (ys := zl [h.getD i 0]) (by simp [zl]) (by simp [z44]; omega)
      have ho : O'[O.length]? = some (some [zg h]) := by
        obtain ⟨news, rfl, _⟩ := hO
        rw [List.append_assoc, List.getElem?_append_right (Nat.le_refl _), Nat.sub_self]; rfl
      have hb : zl [h.getD i 0] = [[.int .u8 (h.getD i 0).toNat]] := rfl
      rw [hb] at he
      rw [<- hO.appB] at he
      generalize h.getD i 0 = x at *
      generalize hv : Z 3 = v at *
      repeat' (first|refine zW.zs ?_|refine zW.zb ?_|refine zW.zc ?_|refine zW.zt rfl ?_|refine zW.zf rfl ?_|(refine zW.zd rfl (fun ht => ?_) (fun ht => ?_)<;>try (exfalso;omega))|((first|refine zW.zr ?_|refine zW.zk ?_|refine zW.ze ?_|refine zW.zq ?_|((first|apply zg0|apply zg1|apply zg2|apply zg3|apply zg4|apply zg5|apply zg6|apply zg7)<;>intro ht));all_goals try simp (disch:=first|omega|(simp only [lens];first|done|omega)) only [go_sem,reduceEqDiff,Nat.reduceBEq,reduceAdd,reduceMul,reduceSub,reduceLeDiff,reduceToNat,reducePow, q1, q4, hv, ho, h1, hg, he]))
      refine ⟨32 - (i + 1), by omega, i + 1, by omega, by simp, ?_⟩
      rw [hs, <- zdk]
      exact hO2
    · obtain rfl : i = 32 := by omega
      rw [List.take_of_length_le (by omega)] at hO
      obtain ⟨r, q3, hg, _⟩ := hO.sl (by intro e; have := z44 h; rw [e] at this; simp at this; omega)
      rw [z44] at q3
      repeat' (first|refine zW.zs ?_|refine zW.zb ?_|refine zW.zc ?_|refine zW.zt rfl ?_|refine zW.zf rfl ?_|(refine zW.zd rfl (fun ht => ?_) (fun ht => ?_)<;>try (exfalso;omega))|((first|refine zW.zr ?_|refine zW.zk ?_|refine zW.ze ?_|refine zW.zq ?_|((first|apply zg0|apply zg1|apply zg2|apply zg3|apply zg4|apply zg5|apply zg6|apply zg7)<;>intro ht));all_goals try simp (disch:=first|omega|(simp only [lens];first|done|omega)) only [go_sem,reduceEqDiff,Nat.reduceBEq,reduceAdd,reduceMul,reduceSub,reduceLeDiff,reduceToNat,reducePow, q1, q4, q3, hg]))
      obtain ⟨news, rfl, _⟩ := hO
      rw [List.append_assoc]
      exact DownV.pure hw (z14 _ rfl)
theorem z1n (O : Store) (a b : List UInt8) (ha : a.length = 32) (hb : b.length = 32) : ACallsTo TC 90 [.agg (zg a), .agg (zg b)] O (.agg (zg (z1d a b))) O := by
  refine ACallsTo.of_body qgok (by simp) fun hw _ => ?_
  have h1 := z18 a
  have h2 := z18 b
  have h3 := z18 (z1d a b)
  rw [ha] at h1
  rw [hb] at h2
  rw [z4c] at h3
  obtain ⟨n, hn⟩ : ∃ n, n = z1d a b := ⟨_, rfl⟩
  have hs : ∀ O, ACallsTo TC 87 [.str (1 :: (a ++ b))] O (.agg (zg n)) O := fun O => by rw [hn]; exact z79 O _ (by simp; omega)
  rw [<- hn] at h3 ⊢
  repeat' (first | refine zW.zs ?_ | refine zW.zb ?_ | refine zW.zc ?_ | refine zW.zt rfl ?_ | refine zW.zf rfl ?_ | (refine zW.zd rfl (fun ht => ?_) (fun ht => ?_) <;> try (exfalso; omega)) | ((first | refine zW.regS ?_ | refine zW.zk ?_ | refine zW.ze ?_ | refine zW.zq ?_ | (apply callW.mk_pu; (first | exact (fun _ => z99 _ _ ha) | exact (fun _ => z99 _ _ hb) | exact (fun _ => hs _))) | (apply callW.za; (first | exact (z99 _ _ ha) | exact (z99 _ _ hb) | exact (hs _))) | ((first|apply zg0|apply zg1|apply zg2|apply zg3|apply zg4|apply zg5|apply zg6|apply zg7)<;>intro ht));all_goals try simp (disch:=first|omega|(simp only [lens];first|done|omega)) only [go_sem,reduceEqDiff,Nat.reduceBEq,reduceAdd,reduceMul,reduceSub,reduceLeDiff,reduceToNat,reducePow, h1, h2, h3]))
  exact DownV.pure hw (z3j (z3l _))
theorem zby (O : Store) (a b : List UInt8) (ha : a.length = 32) (hb : b.length = 32) : ACallsTo TC 72 [.agg (zg a), .agg (zg b)] O (.agg (zg (z1d a b))) O := by
  refine ACallsTo.of_body qkok (by simp) fun hw _ => ?_
  have h1 := z18 a
  have h2 := z18 b
  have h3 := z18 (z1d a b)
  rw [ha] at h1
  rw [hb] at h2
  rw [z4c] at h3
  obtain ⟨n, hn⟩ : ∃ n, n = z1d a b := ⟨_, rfl⟩
  have hs : ∀ O, ACallsTo TC 70 [.str (1 :: (a ++ b))] O (.agg (zg n)) O := fun O => by rw [hn]; exact z5u O _ (by simp; omega)
  rw [<- hn] at h3 ⊢
  repeat' (first | refine zW.zs ?_ | refine zW.zb ?_ | refine zW.zc ?_ | refine zW.zt rfl ?_ | refine zW.zf rfl ?_ | (refine zW.zd rfl (fun ht => ?_) (fun ht => ?_) <;> try (exfalso; omega)) | ((first | refine zW.regS ?_ | refine zW.zk ?_ | refine zW.ze ?_ | refine zW.zq ?_ | (apply callW.mk_pu; (first | exact (fun _ => z9q _ _ ha) | exact (fun _ => z9q _ _ hb) | exact (fun _ => hs _))) | (apply callW.za; (first | exact (z9q _ _ ha) | exact (z9q _ _ hb) | exact (hs _))) | ((first|apply zg0|apply zg1|apply zg2|apply zg3|apply zg4|apply zg5|apply zg6|apply zg7)<;>intro ht));all_goals try simp (disch:=first|omega|(simp only [lens];first|done|omega)) only [go_sem,reduceEqDiff,Nat.reduceBEq,reduceAdd,reduceMul,reduceSub,reduceLeDiff,reduceToNat,reducePow, h1, h2, h3]))
  exact DownV.pure hw (z3j (z3l _))
end Am
end Go.Proofs.YtncenefkbpelbaaDoor
end
section
/- Trees: contracts: Split, Root. -/
namespace Go.Proofs.YtncenefkbpelbaaDoor
namespace Am
def zn (n : Nat) : Nat := if n < 2 then 0 else 2 ^ Nat.log2 (n - 1)
theorem z4x {n : Nat} (h : 2 <= n) : zn n < n /\ n <= 2 * zn n /\ 0 < zn n := by
  unfold zn
  rw [if_neg (by omega)]
  have h1 := Nat.log2_self_le (n := n - 1) (by omega)
  have h2 := Nat.lt_log2_self (n := n - 1)
  rw [Nat.pow_succ] at h2
  have h3 : 0 < 2 ^ Nat.log2 (n - 1) := Nat.pow_pos (by decide)
  omega
theorem zch {n j : Nat} (h1 : 2 ^ j < n) (h2 : n <= 2 ^ (j + 1)) : zn n = 2 ^ j := by
  have h3 : 0 < 2 ^ j := Nat.pow_pos (by decide)
  unfold zn
  rw [if_neg (by omega)]
  have h4 := Nat.log2_self_le (n := n - 1) (by omega)
  have h5 := Nat.lt_log2_self (n := n - 1)
  congr 1
  generalize Nat.log2 (n - 1) = i at *
  have a1 : 2 ^ j < 2 ^ (i + 1) := by omega
  have a2 : 2 ^ i < 2 ^ (j + 1) := by omega
  have b1 := (Nat.pow_lt_pow_iff_right (by decide : 1 < 2)).1 a1
  have b2 := (Nat.pow_lt_pow_iff_right (by decide : 1 < 2)).1 a2
  omega
theorem zcw (O : Store) (n : Nat) (h : n < 1000000000000) : ACallsTo TC 89 [.int .i64 n] O (.int .i64 (zn n)) O := by
  refine ACallsTo.of_body qhok (by simp) fun hw _ => ?_
  by_cases h2 : n < 2
  · have e : zn n = 0 := by unfold zn; rw [if_pos h2]
    rw [e]
    repeat' (first|refine zW.zs ?_|refine zW.zb ?_|refine zW.zc ?_|refine zW.zt rfl ?_|refine zW.zf rfl ?_|(refine zW.zd rfl (fun ht => ?_) (fun ht => ?_)<;>try (exfalso;omega))|((first|refine zW.zr ?_|refine zW.zk ?_|refine zW.ze ?_|refine zW.zq ?_|((first|apply zg0|apply zg1|apply zg2|apply zg3|apply zg4|apply zg5|apply zg6|apply zg7)<;>intro ht));all_goals try simp (disch:=first|omega|(simp only [lens];first|done|omega)) only [go_sem,reduceEqDiff,Nat.reduceBEq,reduceAdd,reduceMul,reduceSub,reduceLeDiff,reduceToNat,reducePow]))
    exact DownV.same hw (z14 _ rfl)
  · repeat' (first|refine zW.zs ?_|refine zW.zb ?_|refine zW.zc ?_|refine zW.zt rfl ?_|refine zW.zf rfl ?_|(refine zW.zd rfl (fun ht => ?_) (fun ht => ?_)<;>try (exfalso;omega))|((first|refine zW.zr ?_|refine zW.zk ?_|refine zW.ze ?_|refine zW.zq ?_|((first|apply zg0|apply zg1|apply zg2|apply zg3|apply zg4|apply zg5|apply zg6|apply zg7)<;>intro ht));all_goals try simp (disch:=first|omega|(simp only [lens];first|done|omega)) only [go_sem,reduceEqDiff,Nat.reduceBEq,reduceAdd,reduceMul,reduceSub,reduceLeDiff,reduceToNat,reducePow]))
    refine zW.loop (fun m Z O' => ∃ j : Nat, m = n - 2 ^ j /\ 2 ^ j < n /\ Z 0 = .int .i64 n /\ Z 3 = .int .i64 ((2 ^ j : Nat) : Int) /\ O' = O) (n - 1) ?_ ?_
    · exact ⟨0, rfl, by omega, by simp (disch:=first|omega|(simp only [lens];first|done|omega)) only [go_sem,reduceEqDiff,Nat.reduceBEq,reduceAdd,reduceMul,reduceSub,reduceLeDiff,reduceToNat,reducePow], by simp (disch:=first|omega|(simp only [lens];first|done|omega)) only [go_sem,reduceEqDiff,Nat.reduceBEq,reduceAdd,reduceMul,reduceSub,reduceLeDiff,reduceToNat,reducePow]; rfl, rfl⟩
    · rintro m Z O' ⟨j, hm, hj, q0, q3, rfl⟩
      have hp : 0 < 2 ^ j := Nat.pow_pos (by decide)
      have hs : 2 ^ (j + 1) = 2 ^ j * 2 := Nat.pow_succ ..
      generalize hk : 2 ^ j = k at *
      by_cases hc : (k : Int) < n - k
      · repeat' (first|refine zW.zs ?_|refine zW.zb ?_|refine zW.zc ?_|refine zW.zt rfl ?_|refine zW.zf rfl ?_|(refine zW.zd rfl (fun ht => ?_) (fun ht => ?_)<;>try (exfalso;omega))|((first|refine zW.zr ?_|refine zW.zk ?_|refine zW.ze ?_|refine zW.zq ?_|((first|apply zg0|apply zg1|apply zg2|apply zg3|apply zg4|apply zg5|apply zg6|apply zg7)<;>intro ht));all_goals try simp (disch:=first|omega|(simp only [lens];first|done|omega)) only [go_sem,reduceEqDiff,Nat.reduceBEq,reduceAdd,reduceMul,reduceSub,reduceLeDiff,reduceToNat,reducePow, q0, q3]))
        exact ⟨n - k * 2, by omega, j + 1, by rw [hs], by omega, by rw [hs]; rfl⟩
      · have e : zn n = k := by rw [<- hk]; exact zch (by omega) (by omega)
        rw [e]
        repeat' (first|refine zW.zs ?_|refine zW.zb ?_|refine zW.zc ?_|refine zW.zt rfl ?_|refine zW.zf rfl ?_|(refine zW.zd rfl (fun ht => ?_) (fun ht => ?_)<;>try (exfalso;omega))|((first|refine zW.zr ?_|refine zW.zk ?_|refine zW.ze ?_|refine zW.zq ?_|((first|apply zg0|apply zg1|apply zg2|apply zg3|apply zg4|apply zg5|apply zg6|apply zg7)<;>intro ht));all_goals try simp (disch:=first|omega|(simp only [lens];first|done|omega)) only [go_sem,reduceEqDiff,Nat.reduceBEq,reduceAdd,reduceMul,reduceSub,reduceLeDiff,reduceToNat,reducePow, q0, q3]))
        exact DownV.same hw (z14 _ rfl)
theorem zfn (O : Store) (n : Nat) (h : n < 1000000000000) : ACallsTo TC 71 [.int .i64 n] O (.int .i64 (zn n)) O := by
  refine ACallsTo.of_body qnok (by simp) fun hw _ => ?_
  repeat' (first|refine zW.zs ?_|refine zW.zb ?_|refine zW.zc ?_|refine zW.zt rfl ?_|refine zW.zf rfl ?_|(refine zW.zd rfl (fun ht => ?_) (fun ht => ?_)<;>try (exfalso;omega))|((first|refine zW.zr ?_|refine zW.zk ?_|refine zW.ze ?_|refine zW.zq ?_|((first|apply zg0|apply zg1|apply zg2|apply zg3|apply zg4|apply zg5|apply zg6|apply zg7)<;>intro ht));all_goals try simp (disch:=first|omega|(simp only [lens];first|done|omega)) only [go_sem,reduceEqDiff,Nat.reduceBEq,reduceAdd,reduceMul,reduceSub,reduceLeDiff,reduceToNat,reducePow]))
  refine zW.loop (fun m Z O' => ∃ j k : Nat, m = n - 2 ^ j /\ ((j = 0 /\ k = 0) \/ (k < n /\ 2 ^ j = k * 2 /\ ∃ i, k = 2 ^ i)) /\ Z 0 = .int .i64 n /\ Z 3 = .int .i64 k /\ Z 4 = .int .i64 ((2 ^ j : Nat) : Int) /\ O' = O) (n - 1) ?_ ?_
  · exact ⟨0, 0, rfl, .inl ⟨rfl, rfl⟩, by simp (disch:=first|omega|(simp only [lens];first|done|omega)) only [go_sem,reduceEqDiff,Nat.reduceBEq,reduceAdd,reduceMul,reduceSub,reduceLeDiff,reduceToNat,reducePow], by simp (disch:=first|omega|(simp only [lens];first|done|omega)) only [go_sem,reduceEqDiff,Nat.reduceBEq,reduceAdd,reduceMul,reduceSub,reduceLeDiff,reduceToNat,reducePow]; rfl, by simp (disch:=first|omega|(simp only [lens];first|done|omega)) only [go_sem,reduceEqDiff,Nat.reduceBEq,reduceAdd,reduceMul,reduceSub,reduceLeDiff,reduceToNat,reducePow]; rfl, rfl⟩
  · rintro m Z O' ⟨j, k, hm, hk, q0, q3, q4, rfl⟩
    have hp : 0 < 2 ^ j := Nat.pow_pos (by decide)
    have hs : 2 ^ (j + 1) = 2 ^ j * 2 := Nat.pow_succ ..
    by_cases hc : 2 ^ j < n
    · generalize hmm : 2 ^ j = mm at *
      repeat' (first|refine zW.zs ?_|refine zW.zb ?_|refine zW.zc ?_|refine zW.zt rfl ?_|refine zW.zf rfl ?_|(refine zW.zd rfl (fun ht => ?_) (fun ht => ?_)<;>try (exfalso;omega))|((first|refine zW.zr ?_|refine zW.zk ?_|refine zW.ze ?_|refine zW.zq ?_|((first|apply zg0|apply zg1|apply zg2|apply zg3|apply zg4|apply zg5|apply zg6|apply zg7)<;>intro ht));all_goals try simp (disch:=first|omega|(simp only [lens];first|done|omega)) only [go_sem,reduceEqDiff,Nat.reduceBEq,reduceAdd,reduceMul,reduceSub,reduceLeDiff,reduceToNat,reducePow, q0, q3, q4]))
      clear hk
      exact ⟨n - mm * 2, by omega, j + 1, mm, by rw [hs], .inr ⟨hc, hs, j, hmm.symm⟩, rfl, by rw [hs]; rfl⟩
    · have e : zn n = k := by
        rcases hk with ⟨rfl, rfl⟩ | ⟨h1, h2, i, rfl⟩
        · unfold zn; rw [if_pos (by simp at hc; omega)]
        · exact zch h1 (by rw [Nat.pow_succ]; omega)
      rw [e]
      clear e hk hs
      generalize hmm : 2 ^ j = mm at *
      repeat' (first|refine zW.zs ?_|refine zW.zb ?_|refine zW.zc ?_|refine zW.zt rfl ?_|refine zW.zf rfl ?_|(refine zW.zd rfl (fun ht => ?_) (fun ht => ?_)<;>try (exfalso;omega))|((first|refine zW.zr ?_|refine zW.zk ?_|refine zW.ze ?_|refine zW.zq ?_|((first|apply zg0|apply zg1|apply zg2|apply zg3|apply zg4|apply zg5|apply zg6|apply zg7)<;>intro ht));all_goals try simp (disch:=first|omega|(simp only [lens];first|done|omega)) only [go_sem,reduceEqDiff,Nat.reduceBEq,reduceAdd,reduceMul,reduceSub,reduceLeDiff,reduceToNat,reducePow, q0, q3, q4]))
      exact DownV.same hw (z14 _ rfl)
def z6g : Nat -> List (List UInt8) -> List UInt8
  | 0, _ => []
  | _ + 1, [] => shaS []
  | _ + 1, [h] => h
  | f + 1, a :: b :: l => z1d (z6g f ((a :: b :: l).take (zn (l.length + 2)))) (z6g f ((a :: b :: l).drop (zn (l.length + 2))))
theorem z9u : ∀ (f g : Nat) (l : List (List UInt8)), l.length < f -> l.length < g -> z6g f l = z6g g l
  | 0, _, _, h, _ => by omega
  | _ + 1, 0, _, _, h => by omega
  | f + 1, g + 1, [], _, _ => rfl
  | f + 1, g + 1, [_], _, _ => rfl
  | f + 1, g + 1, a :: b :: l, h, h' => by
    obtain ⟨s1, s2, s3⟩ := z4x (n := l.length + 2) (by omega)
    simp only [List.length_cons] at h h'
    simp only [z6g]
    rw [z9u f g ((a :: b :: l).take (zn (l.length + 2))) (by rw [List.length_take]; simp; omega) (by rw [List.length_take]; simp; omega),
      z9u f g ((a :: b :: l).drop (zn (l.length + 2))) (by rw [List.length_drop]; simp; omega) (by rw [List.length_drop]; simp; omega)]
/-- The root of leaves. -/
def zy (l : List (List UInt8)) : List UInt8 := z6g (l.length + 1) l
theorem z9v : zy [] = shaS [] := rfl
theorem znr (h : List UInt8) : zy [h] = h := rfl
theorem z74 {l : List (List UInt8)} (h : 2 <= l.length) : zy l = z1d (zy (l.take (zn l.length))) (zy (l.drop (zn l.length))) := by
  match l, h with
  | a :: b :: l, _ =>
    obtain ⟨s1, s2, s3⟩ := z4x (n := l.length + 2) (by omega)
    unfold zy
    simp only [z6g, List.length_cons]
    congr 1
    · refine z9u _ _ _ ?_ (Nat.lt_succ_self _)
      rw [List.length_take]
      simp only [List.length_cons]
      omega
    · refine z9u _ _ _ ?_ (Nat.lt_succ_self _)
      rw [List.length_drop]
      simp only [List.length_cons]
      omega
def H32 (l : List (List UInt8)) : Prop := ∀ h ∈ l, h.length = 32
theorem H32.take {l : List (List UInt8)} (h : H32 l) (n : Nat) : H32 (l.take n) := fun x hx => h x (List.mem_of_mem_take hx)
theorem H32.drop {l : List (List UInt8)} (h : H32 l) (n : Nat) : H32 (l.drop n) := fun x hx => h x (List.mem_of_mem_drop hx)
theorem z3q {l : List (List UInt8)} (h : H32 l) : (zy l).length = 32 := by
  match l, h with
  | [], _ => exact zcc _
  | [x], h => exact h x (by simp)
  | a :: b :: l, _ => rw [z74 (by simp)]; exact z4c _ _
end Am
end Go.Proofs.YtncenefkbpelbaaDoor
end
section
/- Trees: contracts: Root. -/
namespace Go.Proofs.YtncenefkbpelbaaDoor
namespace Am
/-- Hashes as_ rows. -/
def zm (l : List (List UInt8)) : List (List AV) := l.map zg
theorem z3v (l : List (List UInt8)) : (zm l).length = l.length := by simp [zm]
theorem zeh (l : List (List UInt8)) (n : Nat) : (zm l).take n = zm (l.take n) := by simp [zm, List.map_take]
theorem zeg (l : List (List UInt8)) (n : Nat) : (zm l).drop n = zm (l.drop n) := by simp [zm, List.map_drop]
theorem hrows_nil {l : List (List UInt8)} : zm l = [] ↔ l = [] := by simp [zm]
theorem z73 {k : Nat} : ∀ (l : List (List UInt8)), RLss k (zm l)
  | [] => by simp [zm, RLss]
  | h :: l => by have := z73 (k := k) l; simp only [zm] at this; simp [zm, RLss, this, z3l]
set_option maxHeartbeats 4000000 in
theorem zhx (hs : List (List UInt8)) (hH : H32 hs) (hl : hs.length < 1000000000) (ex : Bool) (r1 r3 : Nat) :
    ∀ (d : Nat) (O : Store) (a : Nat), 0 < d -> a + d <= hs.length -> O[r1]? = some (some [[.vsl 32 (zm hs) ex]]) -> O[r3]? = some (some [[.fn 88 [.ptr r1 0 0, .ptr r3 0 0]]]) ->
      ACallsTo TC 88 [.int .i64 a, .int .i64 ((a + d : Nat) : Int), .ptr r1 0 0, .ptr r3 0 0] O (.agg (zg (zy ((hs.drop a).take d)))) O := by
  intro d
  induction d using Nat.strongRecOn with
  | _ d ih =>
    intro O a h0 had hg1 hg3
    have hr1 := (List.getElem?_eq_some_iff.1 hg1).1
    have hr3 := (List.getElem?_eq_some_iff.1 hg3).1
    obtain ⟨L, hL⟩ : ∃ L, L = (hs.drop a).take d := ⟨_, rfl⟩
    have hLl : L.length = d := by rw [hL, List.length_take, List.length_drop]; omega
    have hLH : H32 L := by rw [hL]; exact (hH.drop a).take d
    have hn := z3q hLH
    have hc := z18 (zy L)
    rw [hn] at hc
    rw [<- hL]
    have hsub : ((a + d : Nat) : Int) - a = d := by omega
    by_cases h1 : d = 1
    · have e0 : zn d = 0 := by unfold zn; rw [if_pos (by omega)]
      have hsp := fun O => zcw O d (by omega)
      rw [e0] at hsp
      obtain ⟨x, hx⟩ : ∃ x, hs[a]? = some x := ⟨_, List.getElem?_eq_getElem (by omega)⟩
      have hgr : (zm hs)[a]? = some (zg x) := by simp [zm, hx]
      have eL : zy L = x := by
        have : L = [x] := by
          rw [hL, h1]
          apply List.ext_getElem?
          intro i
          cases i with
          | zero => simp [List.getElem?_take, List.getElem?_drop, hx]
          | succ i => simp [List.getElem?_take]
        rw [this]; rfl
      rw [eL] at hc ⊢
      have hrl := z3v hs
      clear eL
      generalize zm hs = rows at *
      refine ACallsTo.of_body qiok (by simp) fun hw _ => ?_
      repeat' (first|refine zW.zs ?_|refine zW.zb ?_|refine zW.zc ?_|refine zW.zt rfl ?_|refine zW.zf rfl ?_|(refine zW.zd rfl (fun ht => ?_) (fun ht => ?_)<;>try (exfalso;omega))|((first|refine zW.zr ?_|refine zW.zk ?_|refine zW.ze ?_|refine zW.zq ?_|(apply callW.mk_pu; (first | exact (fun _ => hsp _))) | (apply callW.za; (first | exact (hsp _))) | ((first|apply zg0|apply zg1|apply zg2|apply zg3|apply zg4|apply zg5|apply zg6|apply zg7)<;>intro ht));all_goals try simp (disch:=first|omega|(simp only [lens];first|done|omega)) only [go_sem,reduceEqDiff,Nat.reduceBEq,reduceAdd,reduceMul,reduceSub,reduceLeDiff,reduceToNat,reducePow, hsub, hg1, hgr, hc]))
      exact DownV.pure hw (z3j (z3l _))
    · obtain ⟨s1, s2, s3⟩ := z4x (n := d) (by omega)
      have hsp := fun O => zcw O d (by omega)
      have eL := z74 (l := L) (by omega)
      rw [hLl] at eL
      have t1 : L.take (zn d) = (hs.drop a).take (zn d) := by rw [hL, List.take_take, Nat.min_eq_left (by omega)]
      have t2 : L.drop (zn d) = (hs.drop (a + zn d)).take (d - zn d) := by rw [hL, List.drop_take, List.drop_drop]
      generalize hk : zn d = k at *
      have i1 := fun y => ih k (by omega) (O ++ y) a (by omega) (by omega) (by rw [gapp hr1]; exact hg1) (by rw [gapp hr3]; exact hg3)
      have i2 := fun y => ih (d - k) (by omega) (O ++ y) (a + k) (by omega) (by omega) (by rw [gapp hr1]; exact hg1) (by rw [gapp hr3]; exact hg3)
      rw [<- t1] at i1
      rw [<- t2] at i2
      rw [show a + k + (d - k) = a + d by omega] at i2
      have n1 := z3q (hLH.take k)
      have n2 := z3q (hLH.drop k)
      have e1 : ((a : Int) + k) = ((a + k : Nat) : Int) := by omega
      rw [eL] at hc ⊢
      generalize zy (L.take k) = A at *
      generalize zy (L.drop k) = B at *
      have k0 : ¬ (k : Int) = 0 := by omega
      refine ACallsTo.of_body qiok (by simp) fun hw _ => ?_
      repeat' (first | refine zW.zs ?_ | refine zW.zb ?_ | refine zW.zc ?_ | refine zW.zt rfl ?_ | refine zW.zf rfl ?_ | (refine zW.zd rfl (fun ht => ?_) (fun ht => ?_) <;> try (exfalso; omega)) | ((first | refine zW.regS ?_ | refine zW.zk ?_ | refine zW.ze ?_ | refine zW.zq ?_ | (apply callW.mk_pu; (first | exact (fun _ => hsp _) | exact (fun _ => i1 _) | exact (fun _ => i2 _) | exact (fun _ => z1n _ _ _ n1 n2))) | (apply callW.za; (first | exact (hsp _) | exact (i1 _) | exact (i2 _) | exact (z1n _ _ _ n1 n2))) | ((first|apply zg0|apply zg1|apply zg2|apply zg3|apply zg4|apply zg5|apply zg6|apply zg7)<;>intro ht));all_goals try simp (disch:=first|omega|(simp only [lens];first|done|omega)) only [go_sem,reduceEqDiff,Nat.reduceBEq,reduceAdd,reduceMul,reduceSub,reduceLeDiff,reduceToNat,reducePow, hsub, hg1, hg3, hc, e1]))
      exact DownV.pure hw (z3j (z3l _))
theorem z8c (O : Store) (hs : List (List UInt8)) (x : AV) (hx : SlV 32 (zm hs) x) (hH : H32 hs) (hl : hs.length < 1000000000) : ACallsTo TC 45 [x] O (.agg (zg (zy hs))) O := by
  have hc := z18 (zy hs)
  rw [z3q hH] at hc
  have hrl := z3v hs
  by_cases h0 : hs = []
  · subst h0
    have hx' := hx.len
    unfold z12 at hx'
    refine ACallsTo.of_body qfok (by simp) fun hw _ => ?_
    rw [z9v] at hc ⊢
    rcases hx with ⟨rfl, h⟩ | ⟨ex, rfl⟩
    · repeat' (first|refine zW.zs ?_|refine zW.zb ?_|refine zW.zc ?_|refine zW.zt rfl ?_|refine zW.zf rfl ?_|(refine zW.zd rfl (fun ht => ?_) (fun ht => ?_)<;>try (exfalso;omega))|((first|refine zW.zr ?_|refine zW.zk ?_|refine zW.ze ?_|refine zW.zq ?_|(apply callW.mk_pu; (first | exact (fun _ => z79 _ [] (by simp)))) | (apply callW.za; (first | exact (z79 _ [] (by simp)))) | ((first|apply zg0|apply zg1|apply zg2|apply zg3|apply zg4|apply zg5|apply zg6|apply zg7)<;>intro ht));all_goals try simp (disch:=first|omega|(simp only [lens];first|done|omega)) only [go_sem,reduceEqDiff,Nat.reduceBEq,reduceAdd,reduceMul,reduceSub,reduceLeDiff,reduceToNat,reducePow, hc]))
      exact DownV.pure hw (z3j (z3l _))
    · repeat' (first|refine zW.zs ?_|refine zW.zb ?_|refine zW.zc ?_|refine zW.zt rfl ?_|refine zW.zf rfl ?_|(refine zW.zd rfl (fun ht => ?_) (fun ht => ?_)<;>try (exfalso;omega))|((first|refine zW.zr ?_|refine zW.zk ?_|refine zW.ze ?_|refine zW.zq ?_|(apply callW.mk_pu; (first | exact (fun _ => z79 _ [] (by simp)))) | (apply callW.za; (first | exact (z79 _ [] (by simp)))) | ((first|apply zg0|apply zg1|apply zg2|apply zg3|apply zg4|apply zg5|apply zg6|apply zg7)<;>intro ht));all_goals try simp (disch:=first|omega|(simp only [lens];first|done|omega)) only [go_sem,reduceEqDiff,Nat.reduceBEq,reduceAdd,reduceMul,reduceSub,reduceLeDiff,reduceToNat,reducePow, hc, hrl]))
      exact DownV.pure hw (z3j (z3l _))
  · have hpos : 0 < hs.length := List.length_pos_iff.2 h0
    obtain ⟨ex, rfl⟩ := hx.vsl (by rw [hrl]; exact hpos)
    have h1 := zhx hs hH hl ex O.length (O.length + 2) hs.length
    refine ACallsTo.of_body qfok (by simp) fun hw _ => ?_
    have h1 := fun O' => h1 O' 0 hpos (by omega)
    simp only [Nat.zero_add, List.drop_zero, List.take_length] at h1
    generalize zy hs = R at *
    generalize zm hs = rows at *
    repeat' (first|refine zW.zs ?_|refine zW.zb ?_|refine zW.zc ?_|refine zW.zt rfl ?_|refine zW.zf rfl ?_|(refine zW.zd rfl (fun ht => ?_) (fun ht => ?_)<;>try (exfalso;omega))|((first|refine zW.zr ?_|refine zW.zk ?_|refine zW.ze ?_|refine zW.zq ?_|(apply callW.mk_pu; (first | exact (fun _ => h1 _ (by simp) (by simp)))) | (apply callW.za; (first | exact (h1 _ (by simp) (by simp)))) | ((first|apply zg0|apply zg1|apply zg2|apply zg3|apply zg4|apply zg5|apply zg6|apply zg7)<;>intro ht));all_goals try simp (disch:=first|omega|(simp only [lens];first|done|omega)) only [go_sem,reduceEqDiff,Nat.reduceBEq,reduceAdd,reduceMul,reduceSub,reduceLeDiff,reduceToNat,reducePow, hc, hrl]))
    exact DownV.pure hw (z3j (z3l _))
set_option maxHeartbeats 4000000 in
theorem znk (f : Nat) : ∀ (O : Store) (hs : List (List UInt8)) (ex : Bool), hs.length < f -> H32 hs -> hs.length < 1000000000 -> ACallsTo TC 25 [.vsl 32 (zm hs) ex] O (.agg (zg (zy hs))) O := by
  induction f with
  | zero => intro O hs ex h; omega
  | succ f ih =>
    intro O hs ex hf hH hl
    have hc := z18 (zy hs)
    rw [z3q hH] at hc
    have hrl := z3v hs
    by_cases h0 : hs.length = 0
    · obtain rfl : hs = [] := List.eq_nil_of_length_eq_zero h0
      rw [z9v] at hc ⊢
      refine ACallsTo.of_body qjok (by simp) fun hw _ => ?_
      repeat' (first|refine zW.zs ?_|refine zW.zb ?_|refine zW.zc ?_|refine zW.zt rfl ?_|refine zW.zf rfl ?_|(refine zW.zd rfl (fun ht => ?_) (fun ht => ?_)<;>try (exfalso;omega))|((first|refine zW.zr ?_|refine zW.zk ?_|refine zW.ze ?_|refine zW.zq ?_|(apply callW.mk_pu; (first | exact (fun _ => z5u _ [] (by simp)))) | (apply callW.za; (first | exact (z5u _ [] (by simp)))) | ((first|apply zg0|apply zg1|apply zg2|apply zg3|apply zg4|apply zg5|apply zg6|apply zg7)<;>intro ht));all_goals try simp (disch:=first|omega|(simp only [lens];first|done|omega)) only [go_sem,reduceEqDiff,Nat.reduceBEq,reduceAdd,reduceMul,reduceSub,reduceLeDiff,reduceToNat,reducePow, hc, hrl]))
      exact DownV.pure hw (z3j (z3l _))
    · by_cases h1 : hs.length = 1
      · obtain ⟨x, rfl⟩ := List.length_eq_one_iff.1 h1
        rw [znr] at hc ⊢
        refine ACallsTo.of_body qjok (by simp) fun hw _ => ?_
        simp only [zm, List.map_cons, List.map_nil]
        repeat' (first|refine zW.zs ?_|refine zW.zb ?_|refine zW.zc ?_|refine zW.zt rfl ?_|refine zW.zf rfl ?_|(refine zW.zd rfl (fun ht => ?_) (fun ht => ?_)<;>try (exfalso;omega))|((first|refine zW.zr ?_|refine zW.zk ?_|refine zW.ze ?_|refine zW.zq ?_|((first|apply zg0|apply zg1|apply zg2|apply zg3|apply zg4|apply zg5|apply zg6|apply zg7)<;>intro ht));all_goals try simp (disch:=first|omega|(simp only [lens];first|done|omega)) only [go_sem,reduceEqDiff,Nat.reduceBEq,reduceAdd,reduceMul,reduceSub,reduceLeDiff,reduceToNat,reducePow, hc]))
        exact DownV.pure hw (z3j (z3l _))
      · obtain ⟨s1, s2, s3⟩ := z4x (n := hs.length) (by omega)
        have hsp := fun O => zfn O hs.length (by omega)
        have eL := z74 (l := hs) (by omega)
        have n1 := z3q (hH.take (zn hs.length))
        have n2 := z3q (hH.drop (zn hs.length))
        have i1 := fun O ex => ih O (hs.take (zn hs.length)) ex (by rw [List.length_take]; omega) (hH.take _) (by rw [List.length_take]; omega)
        have i2 := fun O ex => ih O (hs.drop (zn hs.length)) ex (by rw [List.length_drop]; omega) (hH.drop _) (by rw [List.length_drop]; omega)
        rw [eL] at hc ⊢
        have tk := zeh hs (zn hs.length)
        have dk := zeg hs (zn hs.length)
        generalize zy (hs.take (zn hs.length)) = A at *
        generalize zy (hs.drop (zn hs.length)) = B at *
        generalize zm (hs.take (zn hs.length)) = ra at *
        generalize zm (hs.drop (zn hs.length)) = rb at *
        generalize zm hs = rows at *
        generalize zn hs.length = k at *
        have k0 : ¬ (hs.length : Int) = 0 := by omega
        have k1 : ¬ (hs.length : Int) = 1 := by omega
        refine ACallsTo.of_body qjok (by simp) fun hw _ => ?_
        repeat' (first | refine zW.zs ?_ | refine zW.zb ?_ | refine zW.zc ?_ | refine zW.zt rfl ?_ | refine zW.zf rfl ?_ | (refine zW.zd rfl (fun ht => ?_) (fun ht => ?_) <;> try (exfalso; omega)) | ((first | refine zW.regS ?_ | refine zW.zk ?_ | refine zW.ze ?_ | refine zW.zq ?_ | (apply callW.mk_pu; (first | exact (fun _ => hsp _) | exact (fun _ => i1 _ _) | exact (fun _ => i2 _ _) | exact (fun _ => zby _ _ _ n1 n2))) | (apply callW.za; (first | exact (hsp _) | exact (i1 _ _) | exact (i2 _ _) | exact (zby _ _ _ n1 n2))) | ((first|apply zg0|apply zg1|apply zg2|apply zg3|apply zg4|apply zg5|apply zg6|apply zg7)<;>intro ht));all_goals try simp (disch:=first|omega|(simp only [lens];first|done|omega)) only [go_sem,reduceEqDiff,Nat.reduceBEq,reduceAdd,reduceMul,reduceSub,reduceLeDiff,reduceToNat,reducePow, hc, hrl, tk, dk]))
        exact DownV.pure hw (z3j (z3l _))
theorem znj (O : Store) (hs : List (List UInt8)) (x : AV) (hx : SlV 32 (zm hs) x) (hH : H32 hs) (hl : hs.length < 1000000000) : ACallsTo TC 25 [x] O (.agg (zg (zy hs))) O := by
  rcases hx with ⟨rfl, h⟩ | ⟨ex, rfl⟩
  · obtain rfl := hrows_nil.1 h
    have hc := z18 (zy [])
    rw [z3q hH] at hc
    rw [z9v] at hc ⊢
    refine ACallsTo.of_body qjok (by simp) fun hw _ => ?_
    repeat' (first|refine zW.zs ?_|refine zW.zb ?_|refine zW.zc ?_|refine zW.zt rfl ?_|refine zW.zf rfl ?_|(refine zW.zd rfl (fun ht => ?_) (fun ht => ?_)<;>try (exfalso;omega))|((first|refine zW.zr ?_|refine zW.zk ?_|refine zW.ze ?_|refine zW.zq ?_|(apply callW.mk_pu; (first | exact (fun _ => z5u _ [] (by simp)))) | (apply callW.za; (first | exact (z5u _ [] (by simp)))) | ((first|apply zg0|apply zg1|apply zg2|apply zg3|apply zg4|apply zg5|apply zg6|apply zg7)<;>intro ht));all_goals try simp (disch:=first|omega|(simp only [lens];first|done|omega)) only [go_sem,reduceEqDiff,Nat.reduceBEq,reduceAdd,reduceMul,reduceSub,reduceLeDiff,reduceToNat,reducePow, hc]))
    exact DownV.pure hw (z3j (z3l _))
  · exact znk (hs.length + 1) O hs ex (by omega) hH hl
end Am
end Go.Proofs.YtncenefkbpelbaaDoor
end
section
/- Slices that are read: values, or own rows lent; Same; Some. -/
namespace Go.Proofs.YtncenefkbpelbaaDoor
namespace Am
/-- A slice that is read: a value, or an own row. -/
def RdSl (O : Store) (sz : Nat) (es : List (List AV)) (x : AV) : Prop :=
  SlV sz es x \/ ∃ r off lim o, x = .sl r off es.length lim sz /\ O[r]? = some (some o) /\ off + es.length <= o.length /\ (o.drop off).take es.length = es
theorem RdSl.of {O : Store} {sz : Nat} {es : List (List AV)} {x : AV} (h : SlV sz es x) : RdSl O sz es x := .inl h
theorem OwnN.rd {sz : Nat} {τ O' : Store} {v : AV} {es : List (List AV)} (h : OwnN sz τ O' v es) : RdSl O' sz es v := by
  by_cases h0 : es = []
  · obtain ⟨news, rfl, ⟨rfl, rfl⟩ | ⟨j, h1, _⟩⟩ := h
    · exact .inl (.inl ⟨rfl, rfl⟩)
    · exact absurd h0 h1
  · obtain ⟨r, rfl, hg, _⟩ := h.sl h0
    exact .inr ⟨r, 0, none, es, rfl, hg, by omega, by rw [List.drop_zero, List.take_of_length_le (Nat.le_refl _)]⟩
theorem RdSl.app {O y : Store} {sz : Nat} {es : List (List AV)} {x : AV} (h : RdSl O sz es x) : RdSl (O ++ y) sz es x := by
  rcases h with h | ⟨r, off, lim, o, rfl, hg, h1, h2⟩
  · exact .inl h
  · exact .inr ⟨r, off, lim, o, rfl, by rw [gapp (List.getElem?_eq_some_iff.1 hg).1]; exact hg, h1, h2⟩
theorem RdSl.len {O : Store} {sz : Nat} {es : List (List AV)} {x : AV} (h : RdSl O sz es x) : z12 x = some (.int .i64 es.length) := by
  rcases h with h | ⟨r, off, lim, o, rfl, _⟩
  · exact h.len
  · rfl
theorem RdSl.lend {O : Store} {sz : Nat} {es : List (List AV)} {x : AV} (h : RdSl O sz es x) (hr : RLss 0 es) : ∃ x0, SlV sz es x0 /\ DR (z5m O) x0 x := by
  rcases h with h | ⟨r, off, lim, o, rfl, hg, h1, h2⟩
  · refine ⟨x, h, DR.refl (k := 0) (by omega) x ?_⟩
    rcases h with ⟨rfl, _⟩ | ⟨ex, rfl⟩
    · simp [RL]
    · simpa only [RL] using hr
  · refine ⟨.vsl sz es false, .inr ⟨false, rfl⟩, ?_⟩
    simp only [DR, z5m]
    exact .inr ⟨r, off, lim, o, rfl, trivial, hg, h1, by simp, by rw [h2]; exact DRss.refl (k := 0) (by omega) es hr⟩
theorem rl0 {a : AV} (h : RL 0 a) (O : Store) : DR (z5m O) a a := DR.refl (k := 0) (by omega) a h
theorem drs1 {D : DC} {a b : AV} (h : DR D a b) : DRs D [a] [b] := by simp only [DRs]; exact ⟨b, [], rfl, h, rfl⟩
theorem drsc {D : DC} {a b : AV} {l m : List AV} (h : DR D a b) (h2 : DRs D l m) : DRs D (a :: l) (b :: m) := by simp only [DRs]; exact ⟨b, m, rfl, h, h2⟩
theorem zcd (k : Nat) : ∀ (l : List UInt8), shs k (zg l) = zg l
  | [] => rfl
  | b :: l => by have := zcd k l; simp only [zg] at this; simp [zg, shs, sh, this]
theorem zga (k : Nat) (l : List UInt8) : sh k (.agg (zg l)) = .agg (zg l) := by simp only [sh, zcd]
theorem z6h (k : Nat) : shS k [] = [] := rfl
theorem zoz (O : Store) (hs : List (List UInt8)) (x : AV) (hx : RdSl O 32 (zm hs) x) (hH : H32 hs) (hl : hs.length < 1000000000) : ACallsTo TC 45 [x] O (.agg (zg (zy hs))) O := by
  obtain ⟨x0, h0, hd⟩ := hx.lend (z73 hs)
  have := ACallsTo.lend glok (z8c [] hs x0 h0 hH hl) (drs1 hd)
  rwa [zga, z6h, List.append_nil] at this
theorem zni (O : Store) (hs : List (List UInt8)) (x : AV) (hx : RdSl O 32 (zm hs) x) (hH : H32 hs) (hl : hs.length < 1000000000) : ACallsTo TC 25 [x] O (.agg (zg (zy hs))) O := by
  obtain ⟨x0, h0, hd⟩ := hx.lend (z73 hs)
  have := ACallsTo.lend glok (znj [] hs x0 h0 hH hl) (drs1 hd)
  rwa [zga, z6h, List.append_nil] at this
theorem z65 : ∀ (a b : List UInt8), z22 (zg a) (zg b) = decide (a = b)
  | [], [] => rfl
  | [], _ :: _ => rfl
  | _ :: _, [] => rfl
  | a :: l, b :: m => by
    have ih := z65 l m
    simp only [zg, List.map_cons, z22, z7u] at ih ⊢
    rw [ih, Bool.eq_iff_iff]
    simp [<- UInt8.toNat_inj]
    intro _
    omega
theorem zep : ∀ (l : List UInt8), (zg l).map z1g = List.replicate l.length (some (LK.i .u8))
  | [] => rfl
  | _ :: l => by have := zep l; simp only [zg] at this; simp [zg, z1g, this, List.replicate_succ]
theorem z4r {l : List UInt8} (h : l.length = 32) : (zg l).map z1g = (List.replicate 32 (LK.i .u8)).map some := by rw [zep, h]; rfl
end Am
end Go.Proofs.YtncenefkbpelbaaDoor
end
section
/- Abstract code. (Printed by wip/gen.) -/
set_option maxRecDepth 10000
namespace Go.Proofs.YtncenefkbpelbaaDoor
namespace Am



@[go_sem] def qor0 : List AIns := [
  ⟨some 4,none,.no,.mv (.v .nilsl)⟩,
  ⟨some 5,none,.no,.mv (.v (.int .i64 0))⟩]
@[go_sem] def qor1 : List AIns := [
  ⟨some 9,none,.no,.mv (.t 1)⟩,
  ⟨some 10,none,.no,.bin .lss .none (.t 9) (.v (.int .i64 0))⟩,
  ⟨some 11,none,.no,.mv (.t 10)⟩,
  ⟨some 12, some (11, false), .no, .mv (.t 1)⟩,
  ⟨some 13, some (11, false), .no, .mv (.t 0)⟩,
  ⟨some 14, some (11, false), .no, .lenSl (.t 13)⟩,
  ⟨some 15, some (11, false), .no, .bin .gtr .none (.t 12) (.t 14)⟩,
  ⟨some 16,none,.no,.pick (.t 11) (.v (.bool true)) (.t 15)⟩,
  ⟨some 8,none,.no,.mv (.t 16)⟩]
@[go_sem] def qor2 : List AIns := [
  ⟨some 4,none,.no,.mv (.v .nilsl)⟩,
  ⟨some 5,none,.no,.mv (.v (.int .i64 2))⟩]
def qoc3 : ACode := .seq (.reg qor2) .ret
@[go_sem] def qor4 : List AIns := [
  ⟨some 18,none,.no,.mv (.t 1)⟩,
  ⟨some 19,none,.no,.bin .eql .none (.t 18) (.v (.int .i64 0))⟩,
  ⟨some 20,none,.no,.mv (.t 19)⟩,
  ⟨some 21, some (20, false), .no, .mv (.t 1)⟩,
  ⟨some 22, some (20, false), .no, .mv (.t 0)⟩,
  ⟨some 23, some (20, false), .no, .lenSl (.t 22)⟩,
  ⟨some 24, some (20, false), .no, .bin .eql .none (.t 21) (.t 23)⟩,
  ⟨some 25,none,.no,.pick (.t 20) (.v (.bool true)) (.t 24)⟩,
  ⟨some 17,none,.no,.mv (.t 25)⟩]
@[go_sem] def qor5 : List AIns := [
  ⟨some 4,none,.no,.mv (.v .nilsl)⟩,
  ⟨some 5,none,.no,.mv (.v (.int .i64 0))⟩]
def qoc6 : ACode := .seq (.reg qor5) .ret
def qoc7 : ACode := .cond (.t 17) qoc6 .skip
def qoc8 : ACode := .seq (.reg qor4) qoc7
def qoc9 : ACode := .cond (.t 8) qoc3 qoc8
def qoc10 : ACode := .seq (.reg qor1) qoc9
@[go_sem] def qor11 : List AIns := [
  ⟨some 6,none,.no,.alloc [.nilsl]⟩]
@[go_sem] def qor12 : List AIns := [
  ⟨some 7,none,.no,.alloc [.nilfn]⟩]
@[go_sem] def qor13 : List AIns := [
  ⟨some 26,none,.no,.mkfn 102 [(.t 6), (.t 7)]⟩,
  ⟨none,none,.no,.store 1 (.t 7) (.t 26)⟩]
@[go_sem] def qor14 : List AIns := [
  ⟨some 27,none,.no,.load false 1 (.t 7)⟩,
  ⟨some 28,none,.no,.mv (.t 0)⟩,
  ⟨some 29,none,.no,.mv (.t 1)⟩,
  ⟨some 30,none,.no,.call (.t 27) [(.t 28), (.t 29), (.v (.bool true))]⟩]
@[go_sem] def qor15 : List AIns := [
  ⟨some 31,none,.no,.load false 1 (.t 6)⟩,
  ⟨some 4,none,.no,.mv (.t 31)⟩,
  ⟨some 5,none,.no,.mv (.v (.int .i64 0))⟩]
def qoc16 : ACode := .seq (.reg qor15) .ret
def qoc17 : ACode := .seq (.reg qor14) qoc16
def qoc18 : ACode := .seq (.reg qor13) qoc17
def qoc19 : ACode := .seq (.reg qor12) qoc18
def qoc20 : ACode := .seq (.reg qor11) qoc19
def qoc21 : ACode := .seq (.block 0 qoc10) qoc20
def qoc22 : ACode := .seq (.reg qor0) qoc21
theorem qook : cFn TC 57 = some (32, [.t 4, .t 5], qoc22) := by kernel_rfl

@[go_sem] def qpr0 : List AIns := [
  ⟨some 7,none,.no,.box (.t 2)⟩,
  ⟨some 8,none,.no,.box (.t 3)⟩,
  ⟨some 9,none,.no,.box (.t 4)⟩,
  ⟨some 10,none,.no,.mv (.v (.int .i64 0))⟩]
@[go_sem] def qpr1 : List AIns := [
  ⟨some 21,none,.no,.mv (.t 1)⟩,
  ⟨some 22,none,.no,.bin .lss .none (.t 21) (.v (.int .i64 0))⟩,
  ⟨some 23,none,.no,.mv (.t 22)⟩,
  ⟨some 24, some (23, false), .no, .mv (.t 1)⟩,
  ⟨some 25, some (23, false), .no, .bin .gtr .none (.t 24) (.v (.int .i64 4096))⟩,
  ⟨some 26,none,.no,.pick (.t 23) (.v (.bool true)) (.t 25)⟩,
  ⟨some 27,none,.no,.mv (.t 26)⟩,
  ⟨some 28, some (27, false), .no, .mv (.t 0)⟩,
  ⟨some 29, some (27, false), .no, .bin .lss .none (.t 28) (.v (.int .i64 0))⟩,
  ⟨some 30,none,.no,.pick (.t 27) (.v (.bool true)) (.t 29)⟩,
  ⟨some 31,none,.no,.mv (.t 30)⟩,
  ⟨some 32, some (31, false), .no, .mv (.t 0)⟩,
  ⟨some 33, some (31, false), .no, .mv (.t 1)⟩,
  ⟨some 34, some (31, false), .no, .bin .gtr .none (.t 32) (.t 33)⟩,
  ⟨some 35,none,.no,.pick (.t 31) (.v (.bool true)) (.t 34)⟩,
  ⟨some 20,none,.no,.mv (.t 35)⟩]
@[go_sem] def qpr2 : List AIns := [
  ⟨some 10,none,.no,.mv (.v (.int .i64 2))⟩]
def qpc3 : ACode := .seq (.reg qpr2) .ret
@[go_sem] def qpr4 : List AIns := [
  ⟨some 37,none,.no,.mv (.t 0)⟩,
  ⟨some 38,none,.no,.bin .eql .none (.t 37) (.v (.int .i64 0))⟩,
  ⟨some 36,none,.no,.mv (.t 38)⟩]
@[go_sem] def qpr5 : List AIns := [
  ⟨some 39,none,.no,.load false 1 (.t 9)⟩,
  ⟨some 40,none,.no,.lenSl (.t 39)⟩,
  ⟨some 41,none,.no,.bin .eql .none (.t 40) (.v (.int .i64 0))⟩,
  ⟨some 42,none,.no,.mv (.t 41)⟩,
  ⟨some 43, some (42, true), .rd, .load true 32 (.t 7)⟩,
  ⟨some 44, some (42, true), .ef, .call (.v (.fn 45 [])) [(.v .nilsl)]⟩,
  ⟨some 45, some (42, true), .no, .bin .eql (.agg (List.replicate 32 (.i .u8) ++ [])) (.t 43) (.t 44)⟩,
  ⟨some 46,none,.no,.pick (.t 42) (.t 45) (.v (.bool false))⟩,
  ⟨some 47,none,.no,.mv (.t 46)⟩,
  ⟨some 48, some (47, true), .no, .mv (.t 1)⟩,
  ⟨some 49, some (47, true), .no, .bin .gtr .none (.t 48) (.v (.int .i64 0))⟩,
  ⟨some 50, some (47, true), .no, .mv (.t 49)⟩,
  ⟨some 51, some (50, false), .rd, .load true 32 (.t 8)⟩,
  ⟨some 52, some (50, false), .rd, .load true 32 (.t 7)⟩,
  ⟨some 53, some (50, false), .no, .bin .eql (.agg (List.replicate 32 (.i .u8) ++ [])) (.t 51) (.t 52)⟩,
  ⟨some 54, some (47, true), .no, .pick (.t 50) (.v (.bool true)) (.t 53)⟩,
  ⟨some 55,none,.no,.pick (.t 47) (.t 54) (.v (.bool false))⟩,
  ⟨some 56,none,.no,.call (.v (.fn 108 [])) [(.t 55)]⟩,
  ⟨some 10,none,.no,.mv (.t 56)⟩]
def qpc6 : ACode := .seq (.reg qpr5) .ret
@[go_sem] def qpr7 : List AIns := [
  ⟨some 58,none,.no,.mv (.t 0)⟩,
  ⟨some 59,none,.no,.mv (.t 1)⟩,
  ⟨some 60,none,.no,.bin .eql .none (.t 58) (.t 59)⟩,
  ⟨some 57,none,.no,.mv (.t 60)⟩]
@[go_sem] def qpr8 : List AIns := [
  ⟨some 61,none,.no,.load false 1 (.t 9)⟩,
  ⟨some 62,none,.no,.lenSl (.t 61)⟩,
  ⟨some 63,none,.no,.bin .eql .none (.t 62) (.v (.int .i64 0))⟩,
  ⟨some 64,none,.no,.mv (.t 63)⟩,
  ⟨some 65, some (64, true), .no, .load true 32 (.t 7)⟩,
  ⟨some 66, some (64, true), .no, .load true 32 (.t 8)⟩,
  ⟨some 67, some (64, true), .no, .bin .eql (.agg (List.replicate 32 (.i .u8) ++ [])) (.t 65) (.t 66)⟩,
  ⟨some 68,none,.no,.pick (.t 64) (.t 67) (.v (.bool false))⟩,
  ⟨some 69,none,.no,.call (.v (.fn 108 [])) [(.t 68)]⟩,
  ⟨some 10,none,.no,.mv (.t 69)⟩]
def qpc9 : ACode := .seq (.reg qpr8) .ret
def qpc10 : ACode := .cond (.t 57) qpc9 .skip
def qpc11 : ACode := .seq (.reg qpr7) qpc10
def qpc12 : ACode := .cond (.t 36) qpc6 qpc11
def qpc13 : ACode := .seq (.reg qpr4) qpc12
def qpc14 : ACode := .cond (.t 20) qpc3 qpc13
def qpc15 : ACode := .seq (.reg qpr1) qpc14
@[go_sem] def qpr16 : List AIns := [
  ⟨some 70,none,.no,.mv (.t 0)⟩,
  ⟨some 71,none,.no,.bin .sub .none (.t 70) (.v (.int .i64 1))⟩,
  ⟨some 72,none,.no,.mv (.t 1)⟩,
  ⟨some 73,none,.no,.bin .sub .none (.t 72) (.v (.int .i64 1))⟩,
  ⟨some 11,none,.no,.mv (.t 71)⟩,
  ⟨some 12,none,.no,.mv (.t 73)⟩]
@[go_sem] def qpr17 : List AIns := [
  ⟨some 74,none,.no,.mv (.t 11)⟩,
  ⟨some 75,none,.no,.bin .rem .none (.t 74) (.v (.int .i64 2))⟩,
  ⟨some 76,none,.no,.bin .eql .none (.t 75) (.v (.int .i64 1))⟩]
def qpc18 : ACode := .cond (.t 76) .skip (.exit 1)
def qpc19 : ACode := .seq (.reg qpr17) qpc18
@[go_sem] def qpr20 : List AIns := [
  ⟨some 77,none,.no,.mv (.t 11)⟩,
  ⟨some 78,none,.no,.bin .quo .none (.t 77) (.v (.int .i64 2))⟩,
  ⟨some 79,none,.no,.mv (.t 12)⟩,
  ⟨some 80,none,.no,.bin .quo .none (.t 79) (.v (.int .i64 2))⟩,
  ⟨some 11,none,.no,.mv (.t 78)⟩,
  ⟨some 12,none,.no,.mv (.t 80)⟩]
def qpc21 : ACode := .block 2 (.reg qpr20)
def qpc22 : ACode := .seq qpc19 qpc21
def qpc23 : ACode := .loop qpc22
@[go_sem] def qpr24 : List AIns := [
  ⟨some 81,none,.no,.mkfn 109 [(.t 9)]⟩,
  ⟨some 13,none,.no,.mv (.t 81)⟩]
@[go_sem] def qpr25 : List AIns := [
  ⟨some 82, none, .rd, .load true 32 (.t 7)⟩,
  ⟨some 83, none, .rd, .load true 32 (.t 7)⟩,
  ⟨some 14, none, .ef, .alloc zZ0⟩,
  ⟨some 15, none, .ef, .alloc zZ0⟩,
  ⟨none, none, .ef, .store 32 (.t 14) (.t 82)⟩,
  ⟨none,none,.no,.store 32 (.t 15) (.t 83)⟩]
@[go_sem] def qpr26 : List AIns := [
  ⟨some 82, none, .rd, .load true 32 (.t 7)⟩,
  ⟨some 83, none, .rd, .load true 32 (.t 7)⟩,
  ⟨some 15, none, .ef, .alloc zZ0⟩,
  ⟨some 14, none, .ef, .alloc zZ0⟩,
  ⟨none, none, .ef, .store 32 (.t 14) (.t 82)⟩,
  ⟨none,none,.no,.store 32 (.t 15) (.t 83)⟩]
@[go_sem] def qpr27 : List AIns := [
  ⟨some 84,none,.no,.mv (.t 11)⟩,
  ⟨some 85,none,.no,.bin .gtr .none (.t 84) (.v (.int .i64 0))⟩]
@[go_sem] def qpr28 : List AIns := [
  ⟨some 87,none,.no,.mv (.t 13)⟩,
  ⟨some 88,none,.no,.call (.t 87) []⟩,
  ⟨some 86,none,.no,.mv (.t 88)⟩,
  ⟨some 89,none,.no,.ext 0 (.t 86)⟩,
  ⟨some 90,none,.no,.ext 1 (.t 86)⟩,
  ⟨some 16,none,.no,.alloc zZ0⟩,
  ⟨none,none,.no,.store 32 (.t 16) (.t 89)⟩,
  ⟨some 17,none,.no,.mv (.t 90)⟩]
@[go_sem] def qpr29 : List AIns := [
  ⟨some 91,none,.no,.mv (.t 17)⟩,
  ⟨some 92,none,.no,.un .not (.t 91)⟩]
@[go_sem] def qpr30 : List AIns := [
  ⟨some 10,none,.no,.mv (.v (.int .i64 80))⟩]
def qpc31 : ACode := .seq (.reg qpr30) .ret
def qpc32 : ACode := .cond (.t 92) qpc31 .skip
def qpc33 : ACode := .seq (.reg qpr29) qpc32
@[go_sem] def qpr34 : List AIns := [
  ⟨some 93, none, .rd, .load true 32 (.t 16)⟩,
  ⟨some 94, none, .rd, .load true 32 (.t 16)⟩,
  ⟨none, none, .ef, .store 32 (.t 14) (.t 93)⟩,
  ⟨none,none,.no,.store 32 (.t 15) (.t 94)⟩]
def qpc35 : ACode := .seq qpc33 (.reg qpr34)
def qpc36 : ACode := .seq (.reg qpr28) qpc35
def qpc37 : ACode := .cond (.t 85) qpc36 .skip
def qpc38 : ACode := .seq (.reg qpr27) qpc37
@[go_sem] def qpr39 : List AIns := [
  ⟨some 95,none,.no,.mv (.t 12)⟩,
  ⟨some 96,none,.no,.bin .gtr .none (.t 95) (.v (.int .i64 0))⟩]
def qpc40 : ACode := .cond (.t 96) .skip (.exit 3)
def qpc41 : ACode := .seq (.reg qpr39) qpc40
@[go_sem] def qpr42 : List AIns := [
  ⟨some 98,none,.no,.mv (.t 13)⟩,
  ⟨some 99,none,.no,.call (.t 98) []⟩,
  ⟨some 97,none,.no,.mv (.t 99)⟩,
  ⟨some 100,none,.no,.ext 0 (.t 97)⟩,
  ⟨some 101,none,.no,.ext 1 (.t 97)⟩,
  ⟨some 18,none,.no,.alloc zZ0⟩,
  ⟨none,none,.no,.store 32 (.t 18) (.t 100)⟩,
  ⟨some 19,none,.no,.mv (.t 101)⟩]
@[go_sem] def qpr43 : List AIns := [
  ⟨some 106,none,.no,.mv (.t 19)⟩,
  ⟨some 107,none,.no,.un .not (.t 106)⟩,
  ⟨some 105,none,.no,.mv (.t 107)⟩]
@[go_sem] def qpr44 : List AIns := [
  ⟨some 10,none,.no,.mv (.v (.int .i64 80))⟩]
def qpc45 : ACode := .seq (.reg qpr44) .ret
@[go_sem] def qpr46 : List AIns := [
  ⟨some 109,none,.no,.mv (.t 11)⟩,
  ⟨some 110,none,.no,.bin .rem .none (.t 109) (.v (.int .i64 2))⟩,
  ⟨some 111,none,.no,.bin .eql .none (.t 110) (.v (.int .i64 1))⟩,
  ⟨some 112,none,.no,.mv (.t 111)⟩,
  ⟨some 113, some (112, false), .no, .mv (.t 11)⟩,
  ⟨some 114, some (112, false), .no, .mv (.t 12)⟩,
  ⟨some 115, some (112, false), .no, .bin .eql .none (.t 113) (.t 114)⟩,
  ⟨some 116,none,.no,.pick (.t 112) (.v (.bool true)) (.t 115)⟩,
  ⟨some 108,none,.no,.mv (.t 116)⟩]
@[go_sem] def qpr47 : List AIns := [
  ⟨some 117, none, .rd, .load true 32 (.t 18)⟩,
  ⟨some 118, none, .rd, .load true 32 (.t 14)⟩,
  ⟨some 119, none, .ef, .call (.v (.fn 90 [])) [(.t 117), (.t 118)]⟩,
  ⟨some 120, none, .rd, .load true 32 (.t 18)⟩,
  ⟨some 121, none, .rd, .load true 32 (.t 15)⟩,
  ⟨some 122,none,.no,.call (.v (.fn 90 [])) [(.t 120), (.t 121)]⟩,
  ⟨none,none,.no,.store 32 (.t 14) (.t 119)⟩,
  ⟨none,none,.no,.store 32 (.t 15) (.t 122)⟩]
@[go_sem] def qpr48 : List AIns := [
  ⟨some 123,none,.no,.mv (.t 11)⟩,
  ⟨some 124,none,.no,.bin .rem .none (.t 123) (.v (.int .i64 2))⟩,
  ⟨some 125,none,.no,.bin .eql .none (.t 124) (.v (.int .i64 0))⟩,
  ⟨some 126,none,.no,.mv (.t 125)⟩,
  ⟨some 127, some (126, true), .no, .mv (.t 11)⟩,
  ⟨some 128, some (126, true), .no, .bin .gtr .none (.t 127) (.v (.int .i64 0))⟩,
  ⟨some 129,none,.no,.pick (.t 126) (.t 128) (.v (.bool false))⟩]
def qpc49 : ACode := .cond (.t 129) .skip (.exit 6)
def qpc50 : ACode := .seq (.reg qpr48) qpc49
@[go_sem] def qpr51 : List AIns := [
  ⟨some 130,none,.no,.mv (.t 11)⟩,
  ⟨some 131,none,.no,.bin .quo .none (.t 130) (.v (.int .i64 2))⟩,
  ⟨some 132,none,.no,.mv (.t 12)⟩,
  ⟨some 133,none,.no,.bin .quo .none (.t 132) (.v (.int .i64 2))⟩,
  ⟨some 11,none,.no,.mv (.t 131)⟩,
  ⟨some 12,none,.no,.mv (.t 133)⟩]
def qpc52 : ACode := .block 7 (.reg qpr51)
def qpc53 : ACode := .seq qpc50 qpc52
def qpc54 : ACode := .loop qpc53
def qpc55 : ACode := .block 6 qpc54
def qpc56 : ACode := .seq (.reg qpr47) qpc55
@[go_sem] def qpr57 : List AIns := [
  ⟨some 102,none,.no,.load true 32 (.t 15)⟩,
  ⟨some 103,none,.no,.load true 32 (.t 18)⟩,
  ⟨some 104,none,.no,.call (.v (.fn 90 [])) [(.t 102), (.t 103)]⟩,
  ⟨none,none,.no,.store 32 (.t 15) (.t 104)⟩]
def qpc58 : ACode := .cond (.t 108) qpc56 (.reg qpr57)
def qpc59 : ACode := .seq (.reg qpr46) qpc58
def qpc60 : ACode := .cond (.t 105) qpc45 qpc59
def qpc61 : ACode := .seq (.reg qpr43) qpc60
def qpc62 : ACode := .block 5 qpc61
def qpc63 : ACode := .seq (.reg qpr42) qpc62
@[go_sem] def qpr64 : List AIns := [
  ⟨some 134,none,.no,.mv (.t 11)⟩,
  ⟨some 135,none,.no,.bin .quo .none (.t 134) (.v (.int .i64 2))⟩,
  ⟨some 136,none,.no,.mv (.t 12)⟩,
  ⟨some 137,none,.no,.bin .quo .none (.t 136) (.v (.int .i64 2))⟩,
  ⟨some 11,none,.no,.mv (.t 135)⟩,
  ⟨some 12,none,.no,.mv (.t 137)⟩]
def qpc65 : ACode := .seq qpc63 (.reg qpr64)
def qpc66 : ACode := .block 4 qpc65
def qpc67 : ACode := .seq qpc41 qpc66
def qpc68 : ACode := .loop qpc67
@[go_sem] def qpr69 : List AIns := [
  ⟨some 138,none,.no,.load false 1 (.t 9)⟩,
  ⟨some 139,none,.no,.lenSl (.t 138)⟩,
  ⟨some 140,none,.no,.bin .eql .none (.t 139) (.v (.int .i64 0))⟩,
  ⟨some 141,none,.no,.mv (.t 140)⟩,
  ⟨some 142, some (141, true), .no, .load true 32 (.t 14)⟩,
  ⟨some 143, some (141, true), .no, .load true 32 (.t 7)⟩,
  ⟨some 144, some (141, true), .no, .bin .eql (.agg (List.replicate 32 (.i .u8) ++ [])) (.t 142) (.t 143)⟩,
  ⟨some 145,none,.no,.pick (.t 141) (.t 144) (.v (.bool false))⟩,
  ⟨some 146,none,.no,.mv (.t 145)⟩,
  ⟨some 147, some (146, true), .no, .load true 32 (.t 15)⟩,
  ⟨some 148, some (146, true), .no, .load true 32 (.t 8)⟩,
  ⟨some 149, some (146, true), .no, .bin .eql (.agg (List.replicate 32 (.i .u8) ++ [])) (.t 147) (.t 148)⟩,
  ⟨some 150,none,.no,.pick (.t 146) (.t 149) (.v (.bool false))⟩,
  ⟨some 151,none,.no,.call (.v (.fn 108 [])) [(.t 150)]⟩,
  ⟨some 10,none,.no,.mv (.t 151)⟩]
def qpc70 : ACode := .seq (.reg qpr69) .ret
def zbu : ACode := .seq (.block 3 qpc68) qpc70
def qpc72 : ACode := .seq qpc38 zbu
def qpc73 : ACode := .seq (.reg2 qpr25 qpr26) qpc72
def qpc74 : ACode := .seq (.reg qpr24) qpc73
def qpc75 : ACode := .seq (.block 1 qpc23) qpc74
def qpc76 : ACode := .seq (.reg qpr16) qpc75
def qpc77 : ACode := .seq (.block 0 qpc15) qpc76
def qpc78 : ACode := .seq (.reg qpr0) qpc77
theorem qpok : cFn TC 64 = some (152, [.t 10], qpc78) := by kernel_rfl

@[go_sem] def qqr0 : List AIns := [
  ⟨some 7,none,.no,.box (.t 2)⟩,
  ⟨some 8,none,.no,.box (.t 3)⟩,
  ⟨some 10,none,.no,.mv (.v (.int .i64 0))⟩]
@[go_sem] def qqr1 : List AIns := [
  ⟨some 15,none,.no,.mv (.t 1)⟩,
  ⟨some 16,none,.no,.bin .lss .none (.t 15) (.v (.int .i64 0))⟩,
  ⟨some 17,none,.no,.mv (.t 16)⟩,
  ⟨some 18, some (17, false), .no, .mv (.t 1)⟩,
  ⟨some 19, some (17, false), .no, .bin .gtr .none (.t 18) (.v (.int .i64 4096))⟩,
  ⟨some 20,none,.no,.pick (.t 17) (.v (.bool true)) (.t 19)⟩,
  ⟨some 21,none,.no,.mv (.t 20)⟩,
  ⟨some 22, some (21, false), .no, .mv (.t 0)⟩,
  ⟨some 23, some (21, false), .no, .bin .lss .none (.t 22) (.v (.int .i64 0))⟩,
  ⟨some 24,none,.no,.pick (.t 21) (.v (.bool true)) (.t 23)⟩,
  ⟨some 25,none,.no,.mv (.t 24)⟩,
  ⟨some 26, some (25, false), .no, .mv (.t 0)⟩,
  ⟨some 27, some (25, false), .no, .mv (.t 1)⟩,
  ⟨some 28, some (25, false), .no, .bin .gtr .none (.t 26) (.t 27)⟩,
  ⟨some 29,none,.no,.pick (.t 25) (.v (.bool true)) (.t 28)⟩]
@[go_sem] def qqr2 : List AIns := [
  ⟨some 10,none,.no,.mv (.v (.int .i64 2))⟩]
def qqc3 : ACode := .seq (.reg qqr2) .ret
def qqc4 : ACode := .cond (.t 29) qqc3 .skip
def qqc5 : ACode := .seq (.reg qqr1) qqc4
@[go_sem] def qqr6 : List AIns := [
  ⟨some 11,none,.no,.mv (.v (.bool false))⟩]
@[go_sem] def qqr7 : List AIns := [
  ⟨some 30,none,.no,.mv (.t 0)⟩,
  ⟨some 31,none,.no,.bin .eql .none (.t 30) (.v (.int .i64 0))⟩]
@[go_sem] def qqr8 : List AIns := [
  ⟨some 32,none,.no,.mv (.t 4)⟩,
  ⟨some 33,none,.no,.lenSl (.t 32)⟩,
  ⟨some 34,none,.no,.bin .eql .none (.t 33) (.v (.int .i64 0))⟩,
  ⟨some 35,none,.no,.mv (.t 34)⟩,
  ⟨some 36, some (35, true), .rd, .load true 32 (.t 7)⟩,
  ⟨some 37, some (35, true), .ef, .call (.v (.fn 70 [])) [(.v (.str []))]⟩,
  ⟨some 38, some (35, true), .no, .bin .eql (.agg (List.replicate 32 (.i .u8) ++ [])) (.t 36) (.t 37)⟩,
  ⟨some 39,none,.no,.pick (.t 35) (.t 38) (.v (.bool false))⟩,
  ⟨some 40,none,.no,.mv (.t 39)⟩,
  ⟨some 41, some (40, true), .no, .mv (.t 1)⟩,
  ⟨some 42, some (40, true), .no, .bin .gtr .none (.t 41) (.v (.int .i64 0))⟩,
  ⟨some 43, some (40, true), .no, .mv (.t 42)⟩,
  ⟨some 44, some (43, false), .rd, .load true 32 (.t 7)⟩,
  ⟨some 45, some (43, false), .rd, .load true 32 (.t 8)⟩,
  ⟨some 46, some (43, false), .no, .bin .eql (.agg (List.replicate 32 (.i .u8) ++ [])) (.t 44) (.t 45)⟩,
  ⟨some 47, some (40, true), .no, .pick (.t 43) (.v (.bool true)) (.t 46)⟩,
  ⟨some 48,none,.no,.pick (.t 40) (.t 47) (.v (.bool false))⟩,
  ⟨some 11,none,.no,.mv (.t 48)⟩]
@[go_sem] def qqr9 : List AIns := [
  ⟨some 49,none,.no,.mv (.t 0)⟩,
  ⟨some 50,none,.no,.mv (.t 1)⟩,
  ⟨some 51,none,.no,.bin .eql .none (.t 49) (.t 50)⟩]
@[go_sem] def qqr10 : List AIns := [
  ⟨some 52,none,.no,.mv (.t 4)⟩,
  ⟨some 53,none,.no,.lenSl (.t 52)⟩,
  ⟨some 54,none,.no,.bin .eql .none (.t 53) (.v (.int .i64 0))⟩,
  ⟨some 55,none,.no,.mv (.t 54)⟩,
  ⟨some 56, some (55, true), .no, .load true 32 (.t 7)⟩,
  ⟨some 57, some (55, true), .no, .load true 32 (.t 8)⟩,
  ⟨some 58, some (55, true), .no, .bin .eql (.agg (List.replicate 32 (.i .u8) ++ [])) (.t 56) (.t 57)⟩,
  ⟨some 59,none,.no,.pick (.t 55) (.t 58) (.v (.bool false))⟩,
  ⟨some 11,none,.no,.mv (.t 59)⟩]
@[go_sem] def qqr11 : List AIns := [
  ⟨some 61,none,.no,.mv (.t 0)⟩,
  ⟨some 62,none,.no,.mv (.t 1)⟩,
  ⟨some 63,none,.no,.load true 32 (.t 7)⟩,
  ⟨some 64,none,.no,.mv (.t 4)⟩,
  ⟨some 65,none,.no,.call (.v (.fn 113 [])) [(.t 61), (.t 62), (.v (.bool true)), (.t 63), (.t 64)]⟩,
  ⟨some 60,none,.no,.mv (.t 65)⟩,
  ⟨some 66,none,.no,.ext 0 (.t 60)⟩,
  ⟨some 67,none,.no,.ext 1 (.t 60)⟩,
  ⟨some 68,none,.no,.ext 2 (.t 60)⟩,
  ⟨some 12,none,.no,.alloc zZ0⟩,
  ⟨some 13,none,.no,.alloc zZ0⟩,
  ⟨none,none,.no,.store 32 (.t 12) (.t 66)⟩,
  ⟨none,none,.no,.store 32 (.t 13) (.t 67)⟩,
  ⟨some 14,none,.no,.mv (.t 68)⟩]
@[go_sem] def qqr12 : List AIns := [
  ⟨some 69,none,.no,.mv (.t 14)⟩,
  ⟨some 70,none,.no,.mv (.t 69)⟩,
  ⟨some 71, some (70, true), .no, .load true 32 (.t 12)⟩,
  ⟨some 72, some (70, true), .no, .load true 32 (.t 7)⟩,
  ⟨some 73, some (70, true), .no, .bin .eql (.agg (List.replicate 32 (.i .u8) ++ [])) (.t 71) (.t 72)⟩,
  ⟨some 74,none,.no,.pick (.t 70) (.t 73) (.v (.bool false))⟩,
  ⟨some 75,none,.no,.mv (.t 74)⟩,
  ⟨some 76, some (75, true), .no, .load true 32 (.t 13)⟩,
  ⟨some 77, some (75, true), .no, .load true 32 (.t 8)⟩,
  ⟨some 78, some (75, true), .no, .bin .eql (.agg (List.replicate 32 (.i .u8) ++ [])) (.t 76) (.t 77)⟩,
  ⟨some 79,none,.no,.pick (.t 75) (.t 78) (.v (.bool false))⟩,
  ⟨some 11,none,.no,.mv (.t 79)⟩]
def qqc13 : ACode := .seq (.reg qqr11) (.reg qqr12)
def qqc14 : ACode := .cond (.t 51) (.reg qqr10) qqc13
def qqc15 : ACode := .seq (.reg qqr9) qqc14
def qqc16 : ACode := .cond (.t 31) (.reg qqr8) qqc15
def qqc17 : ACode := .seq (.reg qqr7) qqc16
@[go_sem] def qqr18 : List AIns := [
  ⟨some 80,none,.no,.mv (.t 11)⟩,
  ⟨some 81,none,.no,.un .not (.t 80)⟩]
@[go_sem] def qqr19 : List AIns := [
  ⟨some 10,none,.no,.mv (.v (.int .i64 80))⟩]
def qqc20 : ACode := .seq (.reg qqr19) .ret
def qqc21 : ACode := .cond (.t 81) qqc20 .skip
def qqc22 : ACode := .seq (.reg qqr18) qqc21
@[go_sem] def qqr23 : List AIns := [
  ⟨some 10,none,.no,.mv (.v (.int .i64 0))⟩]
def qqc24 : ACode := .seq (.reg qqr23) .ret
def qqc25 : ACode := .seq qqc22 qqc24
def qqc26 : ACode := .seq qqc17 qqc25
def qqc27 : ACode := .seq (.reg qqr6) qqc26
def qqc28 : ACode := .seq qqc5 qqc27
def qqc29 : ACode := .seq (.reg qqr0) qqc28
theorem qqok : cFn TC 68 = some (82, [.t 10], qqc29) := by kernel_rfl

@[go_sem] def qrr0 : List AIns := [
  ⟨some 9,none,.no,.mv (.t 1)⟩,
  ⟨some 10,none,.no,.mv (.t 0)⟩,
  ⟨some 11,none,.no,.lenSl (.t 10)⟩,
  ⟨some 12,none,.no,.bin .eql .none (.t 9) (.t 11)⟩]
@[go_sem] def qrr1 : List AIns := [
  ⟨some 13,none,.no,.mv (.t 2)⟩,
  ⟨some 14,none,.no,.un .not (.t 13)⟩]
@[go_sem] def qrr2 : List AIns := [
  ⟨some 15, none, .rd, .load false 1 (.t 3)⟩,
  ⟨some 16,none,.no,.mv (.t 0)⟩,
  ⟨some 17, none, .ef, .call (.v (.fn 45 [])) [(.t 16)]⟩,
  ⟨some 18,none,.no,.lit 32 [(.t 17)]⟩,
  ⟨some 19,none,.no,.app 32 (.t 15) (.t 18)⟩,
  ⟨none,none,.no,.store 1 (.t 3) (.t 19)⟩]
def qrc3 : ACode := .cond (.t 14) (.reg qrr2) .skip
def qrc4 : ACode := .seq (.reg qrr1) qrc3
def qrc5 : ACode := .seq qrc4 .ret
def qrc6 : ACode := .cond (.t 12) qrc5 .skip
def qrc7 : ACode := .seq (.reg qrr0) qrc6
@[go_sem] def qrr8 : List AIns := [
  ⟨some 20,none,.no,.mv (.t 0)⟩,
  ⟨some 21,none,.no,.lenSl (.t 20)⟩,
  ⟨some 22,none,.no,.call (.v (.fn 89 [])) [(.t 21)]⟩,
  ⟨some 8,none,.no,.mv (.t 22)⟩]
@[go_sem] def qrr9 : List AIns := [
  ⟨some 23,none,.no,.mv (.t 1)⟩,
  ⟨some 24,none,.no,.mv (.t 8)⟩,
  ⟨some 25,none,.no,.bin .leq .none (.t 23) (.t 24)⟩]
@[go_sem] def qrr10 : List AIns := [
  ⟨some 26,none,.no,.load false 1 (.t 4)⟩,
  ⟨some 27,none,.no,.mv (.t 0)⟩,
  ⟨some 28,none,.no,.mv (.t 8)⟩,
  ⟨some 29,none,.no,.slice (.sl 32) (.t 27) none (some (.t 28)) none⟩,
  ⟨some 30,none,.no,.mv (.t 1)⟩,
  ⟨some 31,none,.no,.mv (.t 2)⟩,
  ⟨some 32,none,.no,.call (.t 26) [(.t 29), (.t 30), (.t 31)]⟩]
@[go_sem] def qrr11 : List AIns := [
  ⟨some 33, none, .rd, .load false 1 (.t 3)⟩,
  ⟨some 34,none,.no,.mv (.t 0)⟩,
  ⟨some 35,none,.no,.mv (.t 8)⟩,
  ⟨some 36,none,.no,.slice (.sl 32) (.t 34) (some (.t 35)) none none⟩,
  ⟨some 37, none, .ef, .call (.v (.fn 45 [])) [(.t 36)]⟩,
  ⟨some 38,none,.no,.lit 32 [(.t 37)]⟩,
  ⟨some 39,none,.no,.app 32 (.t 33) (.t 38)⟩,
  ⟨none,none,.no,.store 1 (.t 3) (.t 39)⟩]
def qrc12 : ACode := .seq (.reg qrr11) .ret
def qrc13 : ACode := .seq (.reg qrr10) qrc12
def qrc14 : ACode := .cond (.t 25) qrc13 .skip
def qrc15 : ACode := .seq (.reg qrr9) qrc14
@[go_sem] def qrr16 : List AIns := [
  ⟨some 40,none,.no,.load false 1 (.t 4)⟩,
  ⟨some 41,none,.no,.mv (.t 0)⟩,
  ⟨some 42,none,.no,.mv (.t 8)⟩,
  ⟨some 43,none,.no,.slice (.sl 32) (.t 41) (some (.t 42)) none none⟩,
  ⟨some 44,none,.no,.mv (.t 1)⟩,
  ⟨some 45,none,.no,.mv (.t 8)⟩,
  ⟨some 46,none,.no,.bin .sub .none (.t 44) (.t 45)⟩,
  ⟨some 47,none,.no,.call (.t 40) [(.t 43), (.t 46), (.v (.bool false))]⟩]
@[go_sem] def qrr17 : List AIns := [
  ⟨some 48, none, .rd, .load false 1 (.t 3)⟩,
  ⟨some 49,none,.no,.mv (.t 0)⟩,
  ⟨some 50,none,.no,.mv (.t 8)⟩,
  ⟨some 51,none,.no,.slice (.sl 32) (.t 49) none (some (.t 50)) none⟩,
  ⟨some 52, none, .ef, .call (.v (.fn 45 [])) [(.t 51)]⟩,
  ⟨some 53,none,.no,.lit 32 [(.t 52)]⟩,
  ⟨some 54,none,.no,.app 32 (.t 48) (.t 53)⟩,
  ⟨none,none,.no,.store 1 (.t 3) (.t 54)⟩]
def qrc18 : ACode := .seq (.reg qrr16) (.reg qrr17)
def qrc19 : ACode := .seq qrc15 qrc18
def qrc20 : ACode := .seq (.reg qrr8) qrc19
def qrc21 : ACode := .seq qrc7 qrc20
theorem qrok : cFn TC 102 = some (55, [], qrc21) := by kernel_rfl

@[go_sem] def qsr0 : List AIns := [
  ⟨some 2,none,.no,.mv (.v (.int .i64 0))⟩]
@[go_sem] def qsr1 : List AIns := [
  ⟨some 3,none,.no,.mv (.t 0)⟩,
  ⟨some 4,none,.no,.un .not (.t 3)⟩]
@[go_sem] def qsr2 : List AIns := [
  ⟨some 2,none,.no,.mv (.v (.int .i64 80))⟩]
def qsc3 : ACode := .seq (.reg qsr2) .ret
def qsc4 : ACode := .cond (.t 4) qsc3 .skip
def qsc5 : ACode := .seq (.reg qsr1) qsc4
@[go_sem] def qsr6 : List AIns := [
  ⟨some 2,none,.no,.mv (.v (.int .i64 0))⟩]
def qsc7 : ACode := .seq (.reg qsr6) .ret
def qsc8 : ACode := .seq qsc5 qsc7
def qsc9 : ACode := .seq (.reg qsr0) qsc8
theorem qsok : cFn TC 108 = some (5, [.t 2], qsc9) := by kernel_rfl

@[go_sem] def qtr0 : List AIns := [
  ⟨some 1,none,.no,.alloc zZ0⟩,
  ⟨some 2,none,.no,.mv (.v (.bool false))⟩]
@[go_sem] def qtr1 : List AIns := [
  ⟨some 3,none,.no,.load false 1 (.t 0)⟩,
  ⟨some 4,none,.no,.lenSl (.t 3)⟩,
  ⟨some 5,none,.no,.bin .eql .none (.t 4) (.v (.int .i64 0))⟩]
@[go_sem] def qtr2 : List AIns := [
  ⟨some 6,none,.no,.load true 32 (.t 1)⟩,
  ⟨none,none,.no,.store 32 (.t 1) (.t 6)⟩,
  ⟨some 2,none,.no,.mv (.v (.bool false))⟩]
def qtc3 : ACode := .seq (.reg qtr2) .ret
def qtc4 : ACode := .cond (.t 5) qtc3 .skip
def qtc5 : ACode := .seq (.reg qtr1) qtc4
@[go_sem] def qtr6 : List AIns := [
  ⟨some 7, none, .rd, .load false 1 (.t 0)⟩,
  ⟨some 8,none,.no,.iaSl 32 (.t 7) (.v (.int .i64 0))⟩,
  ⟨some 9, none, .rd, .load true 32 (.t 8)⟩,
  ⟨some 10, none, .rd, .load false 1 (.t 0)⟩,
  ⟨some 11,none,.no,.slice (.sl 32) (.t 10) (some (.v (.int .i64 1))) none none⟩,
  ⟨none, none, .ef, .store 32 (.t 1) (.t 9)⟩,
  ⟨none,none,.no,.store 1 (.t 0) (.t 11)⟩]
@[go_sem] def qtr7 : List AIns := [
  ⟨some 12,none,.no,.load true 32 (.t 1)⟩,
  ⟨none,none,.no,.store 32 (.t 1) (.t 12)⟩,
  ⟨some 2,none,.no,.mv (.v (.bool true))⟩]
def qtc8 : ACode := .seq (.reg qtr7) .ret
def qtc9 : ACode := .seq (.reg qtr6) qtc8
def qtc10 : ACode := .seq qtc5 qtc9
def qtc11 : ACode := .seq (.reg qtr0) qtc10
theorem qtok : cFn TC 109 = some (13, [.c 1 true 32, .t 2], qtc11) := by kernel_rfl

@[go_sem] def qur0 : List AIns := [
  ⟨some 8,none,.no,.box (.t 3)⟩,
  ⟨some 10,none,.no,.alloc zZ0⟩,
  ⟨some 11,none,.no,.alloc zZ0⟩,
  ⟨some 12,none,.no,.mv (.v (.bool false))⟩]
@[go_sem] def qur1 : List AIns := [
  ⟨some 22,none,.no,.mv (.t 0)⟩,
  ⟨some 23,none,.no,.mv (.t 1)⟩,
  ⟨some 24,none,.no,.bin .eql .none (.t 22) (.t 23)⟩,
  ⟨some 25,none,.no,.mv (.t 24)⟩,
  ⟨some 26, some (25, true), .no, .mv (.t 2)⟩,
  ⟨some 27,none,.no,.pick (.t 25) (.t 26) (.v (.bool false))⟩]
@[go_sem] def qur2 : List AIns := [
  ⟨some 28, none, .rd, .load true 32 (.t 8)⟩,
  ⟨some 29, none, .rd, .load true 32 (.t 8)⟩,
  ⟨some 30,none,.no,.mv (.t 4)⟩,
  ⟨some 31,none,.no,.lenSl (.t 30)⟩,
  ⟨some 32,none,.no,.bin .eql .none (.t 31) (.v (.int .i64 0))⟩,
  ⟨none, none, .ef, .store 32 (.t 10) (.t 28)⟩,
  ⟨none,none,.no,.store 32 (.t 11) (.t 29)⟩,
  ⟨some 12,none,.no,.mv (.t 32)⟩]
def quc3 : ACode := .seq (.reg qur2) .ret
def quc4 : ACode := .cond (.t 27) quc3 .skip
def quc5 : ACode := .seq (.reg qur1) quc4
@[go_sem] def qur6 : List AIns := [
  ⟨some 33,none,.no,.mv (.t 0)⟩,
  ⟨some 34,none,.no,.mv (.t 1)⟩,
  ⟨some 35,none,.no,.bin .eql .none (.t 33) (.t 34)⟩]
@[go_sem] def qur7 : List AIns := [
  ⟨some 36,none,.no,.mv (.t 4)⟩,
  ⟨some 37,none,.no,.lenSl (.t 36)⟩,
  ⟨some 38,none,.no,.bin .neq .none (.t 37) (.v (.int .i64 1))⟩]
@[go_sem] def qur8 : List AIns := [
  ⟨some 39, none, .rd, .load true 32 (.t 8)⟩,
  ⟨some 40, none, .rd, .load true 32 (.t 8)⟩,
  ⟨none, none, .ef, .store 32 (.t 10) (.t 39)⟩,
  ⟨none,none,.no,.store 32 (.t 11) (.t 40)⟩,
  ⟨some 12,none,.no,.mv (.v (.bool false))⟩]
def quc9 : ACode := .seq (.reg qur8) .ret
def quc10 : ACode := .cond (.t 38) quc9 .skip
def quc11 : ACode := .seq (.reg qur7) quc10
@[go_sem] def qur12 : List AIns := [
  ⟨some 41,none,.no,.mv (.t 4)⟩,
  ⟨some 42,none,.no,.iaSl 32 (.t 41) (.v (.int .i64 0))⟩,
  ⟨some 43, none, .rd, .load true 32 (.t 42)⟩,
  ⟨some 44,none,.no,.mv (.t 4)⟩,
  ⟨some 45,none,.no,.iaSl 32 (.t 44) (.v (.int .i64 0))⟩,
  ⟨some 46, none, .rd, .load true 32 (.t 45)⟩,
  ⟨none, none, .ef, .store 32 (.t 10) (.t 43)⟩,
  ⟨none,none,.no,.store 32 (.t 11) (.t 46)⟩,
  ⟨some 12,none,.no,.mv (.v (.bool true))⟩]
def quc13 : ACode := .seq (.reg qur12) .ret
def quc14 : ACode := .seq quc11 quc13
def quc15 : ACode := .cond (.t 35) quc14 .skip
def quc16 : ACode := .seq (.reg qur6) quc15
@[go_sem] def qur17 : List AIns := [
  ⟨some 47,none,.no,.mv (.t 4)⟩,
  ⟨some 48,none,.no,.lenSl (.t 47)⟩,
  ⟨some 49,none,.no,.bin .eql .none (.t 48) (.v (.int .i64 0))⟩]
@[go_sem] def qur18 : List AIns := [
  ⟨some 50, none, .rd, .load true 32 (.t 8)⟩,
  ⟨some 51, none, .rd, .load true 32 (.t 8)⟩,
  ⟨none, none, .ef, .store 32 (.t 10) (.t 50)⟩,
  ⟨none,none,.no,.store 32 (.t 11) (.t 51)⟩,
  ⟨some 12,none,.no,.mv (.v (.bool false))⟩]
def quc19 : ACode := .seq (.reg qur18) .ret
def quc20 : ACode := .cond (.t 49) quc19 .skip
def quc21 : ACode := .seq (.reg qur17) quc20
@[go_sem] def qur22 : List AIns := [
  ⟨some 52,none,.no,.mv (.t 1)⟩,
  ⟨some 53, none, .ef, .call (.v (.fn 71 [])) [(.t 52)]⟩,
  ⟨some 54,none,.no,.mv (.t 4)⟩,
  ⟨some 55,none,.no,.mv (.t 4)⟩,
  ⟨some 56,none,.no,.lenSl (.t 55)⟩,
  ⟨some 57,none,.no,.bin .sub .none (.t 56) (.v (.int .i64 1))⟩,
  ⟨some 58,none,.no,.iaSl 32 (.t 54) (.t 57)⟩,
  ⟨some 59, none, .rd, .load true 32 (.t 58)⟩,
  ⟨some 14, none, .ef, .alloc zZ0⟩,
  ⟨some 13,none,.no,.mv (.t 53)⟩,
  ⟨none,none,.no,.store 32 (.t 14) (.t 59)⟩]
@[go_sem] def qur23 : List AIns := [
  ⟨some 52,none,.no,.mv (.t 1)⟩,
  ⟨some 14, none, .ef, .alloc zZ0⟩,
  ⟨some 53, none, .ef, .call (.v (.fn 71 [])) [(.t 52)]⟩,
  ⟨some 54,none,.no,.mv (.t 4)⟩,
  ⟨some 55,none,.no,.mv (.t 4)⟩,
  ⟨some 56,none,.no,.lenSl (.t 55)⟩,
  ⟨some 57,none,.no,.bin .sub .none (.t 56) (.v (.int .i64 1))⟩,
  ⟨some 58,none,.no,.iaSl 32 (.t 54) (.t 57)⟩,
  ⟨some 59, none, .rd, .load true 32 (.t 58)⟩,
  ⟨some 13,none,.no,.mv (.t 53)⟩,
  ⟨none,none,.no,.store 32 (.t 14) (.t 59)⟩]
@[go_sem] def qur24 : List AIns := [
  ⟨some 60,none,.no,.mv (.t 4)⟩,
  ⟨some 61,none,.no,.mv (.t 4)⟩,
  ⟨some 62,none,.no,.lenSl (.t 61)⟩,
  ⟨some 63,none,.no,.bin .sub .none (.t 62) (.v (.int .i64 1))⟩,
  ⟨some 64,none,.no,.slice (.sl 32) (.t 60) none (some (.t 63)) none⟩,
  ⟨some 15,none,.no,.mv (.t 64)⟩]
@[go_sem] def qur25 : List AIns := [
  ⟨some 65,none,.no,.mv (.t 0)⟩,
  ⟨some 66,none,.no,.mv (.t 13)⟩,
  ⟨some 67,none,.no,.bin .leq .none (.t 65) (.t 66)⟩]
@[go_sem] def qur26 : List AIns := [
  ⟨some 69,none,.no,.mv (.t 0)⟩,
  ⟨some 70,none,.no,.mv (.t 13)⟩,
  ⟨some 71,none,.no,.mv (.t 2)⟩,
  ⟨some 72,none,.no,.load true 32 (.t 8)⟩,
  ⟨some 73,none,.no,.mv (.t 15)⟩,
  ⟨some 74,none,.no,.call (.v (.fn 113 [])) [(.t 69), (.t 70), (.t 71), (.t 72), (.t 73)]⟩,
  ⟨some 68,none,.no,.mv (.t 74)⟩,
  ⟨some 75,none,.no,.ext 0 (.t 68)⟩,
  ⟨some 76,none,.no,.ext 1 (.t 68)⟩,
  ⟨some 77,none,.no,.ext 2 (.t 68)⟩,
  ⟨some 16,none,.no,.alloc zZ0⟩,
  ⟨some 17,none,.no,.alloc zZ0⟩,
  ⟨none,none,.no,.store 32 (.t 16) (.t 75)⟩,
  ⟨none,none,.no,.store 32 (.t 17) (.t 76)⟩,
  ⟨some 18,none,.no,.mv (.t 77)⟩]
@[go_sem] def qur27 : List AIns := [
  ⟨some 78, none, .rd, .load true 32 (.t 16)⟩,
  ⟨some 79, none, .rd, .load true 32 (.t 17)⟩,
  ⟨some 80, none, .rd, .load true 32 (.t 14)⟩,
  ⟨some 81, none, .ef, .call (.v (.fn 72 [])) [(.t 79), (.t 80)]⟩,
  ⟨some 82,none,.no,.mv (.t 18)⟩,
  ⟨none,none,.no,.store 32 (.t 10) (.t 78)⟩,
  ⟨none,none,.no,.store 32 (.t 11) (.t 81)⟩,
  ⟨some 12,none,.no,.mv (.t 82)⟩]
def quc28 : ACode := .seq (.reg qur27) .ret
def quc29 : ACode := .seq (.reg qur26) quc28
def quc30 : ACode := .cond (.t 67) quc29 .skip
def quc31 : ACode := .seq (.reg qur25) quc30
@[go_sem] def qur32 : List AIns := [
  ⟨some 84,none,.no,.mv (.t 0)⟩,
  ⟨some 85,none,.no,.mv (.t 13)⟩,
  ⟨some 86,none,.no,.bin .sub .none (.t 84) (.t 85)⟩,
  ⟨some 87,none,.no,.mv (.t 1)⟩,
  ⟨some 88,none,.no,.mv (.t 13)⟩,
  ⟨some 89,none,.no,.bin .sub .none (.t 87) (.t 88)⟩,
  ⟨some 90,none,.no,.load true 32 (.t 8)⟩,
  ⟨some 91,none,.no,.mv (.t 15)⟩,
  ⟨some 92,none,.no,.call (.v (.fn 113 [])) [(.t 86), (.t 89), (.v (.bool false)), (.t 90), (.t 91)]⟩,
  ⟨some 83,none,.no,.mv (.t 92)⟩,
  ⟨some 93,none,.no,.ext 0 (.t 83)⟩,
  ⟨some 94,none,.no,.ext 1 (.t 83)⟩,
  ⟨some 95,none,.no,.ext 2 (.t 83)⟩,
  ⟨some 19,none,.no,.alloc zZ0⟩,
  ⟨some 20,none,.no,.alloc zZ0⟩,
  ⟨none,none,.no,.store 32 (.t 19) (.t 93)⟩,
  ⟨none,none,.no,.store 32 (.t 20) (.t 94)⟩,
  ⟨some 21,none,.no,.mv (.t 95)⟩]
@[go_sem] def qur33 : List AIns := [
  ⟨some 96, none, .rd, .load true 32 (.t 14)⟩,
  ⟨some 97, none, .rd, .load true 32 (.t 19)⟩,
  ⟨some 98, none, .ef, .call (.v (.fn 72 [])) [(.t 96), (.t 97)]⟩,
  ⟨some 99, none, .rd, .load true 32 (.t 14)⟩,
  ⟨some 100, none, .rd, .load true 32 (.t 20)⟩,
  ⟨some 101,none,.no,.call (.v (.fn 72 [])) [(.t 99), (.t 100)]⟩,
  ⟨some 102,none,.no,.mv (.t 21)⟩,
  ⟨none,none,.no,.store 32 (.t 10) (.t 98)⟩,
  ⟨none,none,.no,.store 32 (.t 11) (.t 101)⟩,
  ⟨some 12,none,.no,.mv (.t 102)⟩]
def quc34 : ACode := .seq (.reg qur33) .ret
def quc35 : ACode := .seq (.reg qur32) quc34
def quc36 : ACode := .seq quc31 quc35
def quc37 : ACode := .seq (.reg qur24) quc36
def quc38 : ACode := .seq (.reg2 qur22 qur23) quc37
def quc39 : ACode := .seq quc21 quc38
def quc40 : ACode := .seq quc16 quc39
def quc41 : ACode := .seq quc5 quc40
def quc42 : ACode := .seq (.reg qur0) quc41
theorem quok : cFn TC 113 = some (103, [.c 10 true 32, .c 11 true 32, .t 12], quc42) := by kernel_rfl
end Am
end Go.Proofs.YtncenefkbpelbaaDoor
end
section
/- Proofs: contracts: Proof of the program. -/
namespace Go.Proofs.YtncenefkbpelbaaDoor
namespace Am
/-- A sub-proof. -/
def subF : Nat -> List (List UInt8) -> Nat -> Bool -> List (List UInt8)
  | 0, _, _, _ => []
  | f + 1, l, m, known =>
    if m = l.length then (if known then [] else [zy l])
    else if m <= zn l.length then subF f (l.take (zn l.length)) m known ++ [zy (l.drop (zn l.length))]
    else subF f (l.drop (zn l.length)) (m - zn l.length) false ++ [zy (l.take (zn l.length))]
theorem za2 : ∀ (f g : Nat) (l : List (List UInt8)) (m : Nat) (kn : Bool), l.length < f -> l.length < g -> 0 < m -> m <= l.length -> subF f l m kn = subF g l m kn
  | 0, _, _, _, _, h, _, _, _ => by omega
  | _ + 1, 0, _, _, _, _, h, _, _ => by omega
  | f + 1, g + 1, l, m, kn, h, h', h0, hm => by
    simp only [subF]
    by_cases h1 : m = l.length
    · rw [if_pos h1, if_pos h1]
    · obtain ⟨s1, s2, s3⟩ := z4x (n := l.length) (by omega)
      rw [if_neg h1, if_neg h1]
      by_cases h2 : m <= zn l.length
      · rw [if_pos h2, if_pos h2, za2 f g (l.take (zn l.length)) m kn (by rw [List.length_take]; omega) (by rw [List.length_take]; omega) h0 (by rw [List.length_take]; omega)]
      · rw [if_neg h2, if_neg h2, za2 f g (l.drop (zn l.length)) (m - zn l.length) false (by rw [List.length_drop]; omega) (by rw [List.length_drop]; omega) (by omega) (by rw [List.length_drop]; omega)]
def subS (l : List (List UInt8)) (m : Nat) (known : Bool) : List (List UInt8) := subF (l.length + 1) l m known
theorem zgx (l : List (List UInt8)) (kn : Bool) : subS l l.length kn = if kn then [] else [zy l] := by
  unfold subS subF; rw [if_pos rfl]
theorem zgy {l : List (List UInt8)} {m : Nat} {kn : Bool} (h0 : 0 < m) (h1 : m < l.length) (h2 : m <= zn l.length) :
    subS l m kn = subS (l.take (zn l.length)) m kn ++ [zy (l.drop (zn l.length))] := by
  obtain ⟨s1, s2, s3⟩ := z4x (n := l.length) (by omega)
  unfold subS
  rw [subF, if_neg (by omega), if_pos h2]
  congr 1
  exact za2 _ _ _ _ _ (by rw [List.length_take]; omega) (Nat.lt_succ_self _) h0 (by rw [List.length_take]; omega)
theorem zgz {l : List (List UInt8)} {m : Nat} {kn : Bool} (h1 : m < l.length) (h2 : ¬ m <= zn l.length) :
    subS l m kn = subS (l.drop (zn l.length)) (m - zn l.length) false ++ [zy (l.take (zn l.length))] := by
  obtain ⟨s1, s2, s3⟩ := z4x (n := l.length) (by omega)
  unfold subS
  rw [subF, if_neg (by omega), if_neg h2]
  congr 1
  exact za2 _ _ _ _ _ (by rw [List.length_drop]; omega) (Nat.lt_succ_self _) (by omega) (by rw [List.length_drop]; omega)
theorem za1 : ∀ (f : Nat) (l : List (List UInt8)) (m : Nat) (kn : Bool), H32 l -> H32 (subF f l m kn) /\ (subF f l m kn).length <= f
  | 0, _, _, _, _ => ⟨by intro h hh; simp [subF] at hh, by simp [subF]⟩
  | f + 1, l, m, kn, hH => by
    simp only [subF]
    have one : ∀ {x : List UInt8}, x.length = 32 -> H32 [x] := fun hx h hh => by simp at hh; subst hh; exact hx
    have app : ∀ {a b : List (List UInt8)}, H32 a -> H32 b -> H32 (a ++ b) := fun h1 h2 h hh => (List.mem_append.1 hh).elim (h1 h) (h2 h)
    split
    · split
      · exact ⟨fun h hh => by simp at hh, by simp⟩
      · exact ⟨one (z3q hH), by simp⟩
    · split
      · obtain ⟨i1, i2⟩ := za1 f (l.take (zn l.length)) m kn (hH.take _)
        exact ⟨app i1 (one (z3q (hH.drop _))), by simp; omega⟩
      · obtain ⟨i1, i2⟩ := za1 f (l.drop (zn l.length)) (m - zn l.length) false (hH.drop _)
        exact ⟨app i1 (one (z3q (hH.take _))), by simp; omega⟩
theorem subS_H {l : List (List UInt8)} {m : Nat} {kn : Bool} (hH : H32 l) : H32 (subS l m kn) := (za1 _ l m kn hH).1
theorem zcs {l : List (List UInt8)} {m : Nat} {kn : Bool} (hH : H32 l) : (subS l m kn).length <= l.length + 1 := (za1 _ l m kn hH).2
/-- What Proof has in memory: its own proof, itself, and rows of its own. -/
structure PrS (O0 O' : Store) (v : AV) (es : List (List AV)) : Prop where
  out : O'[O0.length]? = some (some [[v]])
  fn : O'[O0.length + 1]? = some (some [[.fn 102 [.ptr O0.length 0 0, .ptr (O0.length + 1) 0 0]]])
  keep : ∀ q, q < O0.length -> O'[q]? = O0[q]?
  sl : (es = [] /\ v = .nilsl) \/ ∃ r, O0.length + 2 <= r /\ es ≠ [] /\ v = .sl r 0 es.length none 32 /\ O'[r]? = some (some es)
theorem PrS.lt {O0 O' : Store} {v : AV} {es : List (List AV)} (h : PrS O0 O' v es) : O0.length + 2 <= O'.length := by
  have := (List.getElem?_eq_some_iff.1 h.fn).1; omega
/-- One more. -/
theorem PrS.add {O0 O' : Store} {v : AV} {es : List (List AV)} (h : PrS O0 O' v es) (row : List AV) (hl : es.length + 1 <= 1073741824) :
    ∃ r O2, aApp O' 32 v [row] = some (.sl r 0 (es.length + 1) none 32, O2) /\ O2[O0.length]? = some (some [[v]]) /\ PrS O0 (O2.set O0.length (some [[.sl r 0 (es.length + 1) none 32]])) (.sl r 0 (es.length + 1) none 32) (es ++ [row]) := by
  have hlt := h.lt
  obtain ⟨h1, h2, h3, ⟨rfl, rfl⟩ | ⟨r, hr, h0, rfl, hg⟩⟩ := h
  · refine ⟨O'.length, O' ++ [some [row]], rfl, by rw [gapp (by omega)]; exact h1, ⟨?_, ?_, ?_, .inr ⟨O'.length, by omega, by simp, by simp, ?_⟩⟩⟩
    · rw [z4b (by simp; omega)]
    · rw [z1e (by omega), gapp (by omega)]; exact h2
    · intro q hq; rw [z1e (by omega), gapp (by omega)]; exact h3 q hq
    · rw [z1e (by omega), z4e (Nat.le_refl _), Nat.sub_self]; rfl
  · have hrl := (List.getElem?_eq_some_iff.1 hg).1
    refine ⟨O'.length, O'.set r none ++ [some (es ++ [row])], ?_, ?_, ⟨?_, ?_, ?_, .inr ⟨O'.length, by omega, by simp, by simp, ?_⟩⟩⟩
    · rw [z8y, if_neg (by simp), hg]
      simp only [List.length_cons, List.length_nil]
      rw [if_pos ⟨trivial, by omega, by omega⟩, if_neg (by omega), List.drop_zero, List.take_of_length_le (Nat.le_refl _)]
    · rw [gapp (by simp; omega), z1e (by omega)]; exact h1
    · rw [z4b (by simp; omega)]
    · rw [z1e (by omega), gapp (by simp; omega), z1e (by omega)]; exact h2
    · intro q hq; rw [z1e (by omega), gapp (by simp; omega), z1e (by omega)]; exact h3 q hq
    · rw [z1e (by omega), z4e (by simp), List.length_set, Nat.sub_self]; rfl
theorem PrS.ex (O0 : Store) (es : List (List AV)) : ∃ v O', PrS O0 O' v es := by
  by_cases h : es = []
  · exact ⟨.nilsl, O0 ++ [some [[.nilsl]], some [[.fn 102 [.ptr O0.length 0 0, .ptr (O0.length + 1) 0 0]]]], by simp, by simp, fun q hq => gapp hq, .inl ⟨h, rfl⟩⟩
  · exact ⟨.sl (O0.length + 2) 0 es.length none 32, O0 ++ [some [[.sl (O0.length + 2) 0 es.length none 32]], some [[.fn 102 [.ptr O0.length 0 0, .ptr (O0.length + 1) 0 0]]], some es], by simp, by simp, fun q hq => gapp hq, .inr ⟨_, Nat.le_refl _, h, rfl, by simp⟩⟩
set_option maxHeartbeats 8000000 in
theorem zht (O0 : Store) : ∀ (f : Nat) (hs : List (List UInt8)) (ex : Bool) (m : Nat) (kn : Bool) (O : Store) (v : AV) (es : List (List AV)), hs.length < f -> H32 hs -> hs.length < 1000000 -> 0 < m -> m <= hs.length -> es.length + hs.length < 10000000 -> PrS O0 O v es ->
    ACallsP TC 102 [.vsl 32 (zm hs) ex, .int .i64 m, .bool kn, .ptr O0.length 0 0, .ptr (O0.length + 1) 0 0] O (fun r O' => r = .tup [] /\ ∃ v', PrS O0 O' v' (es ++ zm (subS hs m kn))) := by
  intro f
  induction f with
  | zero => intro hs ex m kn O v es h; omega
  | succ f ih =>
    intro hs ex m kn O v es hf hH hl h0 hm hel hP
    have hrl := z3v hs
    have ho := hP.out
    have hfn := hP.fn
    have hlt := hP.lt
    by_cases h1 : m = hs.length
    · subst h1
      rw [zgx]
      cases kn with
      | true =>
        refine ACallsP.of_keep qrok (by simp) ?_
        repeat' (first|refine zW.zs ?_|refine zW.zb ?_|refine zW.zc ?_|refine zW.zt rfl ?_|refine zW.zf rfl ?_|(refine zW.zd rfl (fun ht => ?_) (fun ht => ?_)<;>try (exfalso;omega))|((first|refine zW.zr ?_|refine zW.zk ?_|refine zW.ze ?_|refine zW.zq ?_|((first|apply zg0|apply zg1|apply zg2|apply zg3|apply zg4|apply zg5|apply zg6|apply zg7)<;>intro ht));all_goals try simp (disch:=first|omega|(simp only [lens];first|done|omega)) only [go_sem,reduceEqDiff,Nat.reduceBEq,reduceAdd,reduceMul,reduceSub,reduceLeDiff,reduceToNat,reducePow, hrl]))
        exact ⟨v, by simpa [zm] using hP⟩
      | false =>
        obtain ⟨r, O2, he, hg, hP2⟩ := hP.add (zg (zy hs)) (by omega)
        have hR := z8c O hs (.vsl 32 (zm hs) ex) (.inr ⟨ex, rfl⟩) hH (by omega)
        have hc := z18 (zy hs)
        rw [z3q hH] at hc
        have hgo : zm (if false = true then [] else [zy hs]) = [zg (zy hs)] := rfl
        rw [hgo]
        generalize zg (zy hs) = row at *
        generalize zm hs = rows at *
        refine ACallsP.of_keep qrok (by simp) ?_
        repeat' (first | refine zW.zs ?_ | refine zW.zb ?_ | refine zW.zc ?_ | refine zW.zt rfl ?_ | refine zW.zf rfl ?_ | (refine zW.zd rfl (fun ht => ?_) (fun ht => ?_) <;> try (exfalso; omega)) | ((first | refine zW.regS ?_ | refine zW.zk ?_ | refine zW.ze ?_ | refine zW.zq ?_ | (apply callW.mk_pu; (first | exact (fun _ => hR))) | (apply callW.za; (first | exact (hR))) | ((first|apply zg0|apply zg1|apply zg2|apply zg3|apply zg4|apply zg5|apply zg6|apply zg7)<;>intro ht));all_goals try simp (disch:=first|omega|(simp only [lens];first|done|omega)) only [go_sem,reduceEqDiff,Nat.reduceBEq,reduceAdd,reduceMul,reduceSub,reduceLeDiff,reduceToNat,reducePow, hrl, ho, he, hg, hc]))
        exact ⟨_, hP2⟩
    · obtain ⟨s1, s2, s3⟩ := z4x (n := hs.length) (by omega)
      have hsp := fun O => zcw O hs.length (by omega)
      obtain ⟨k, hkd⟩ : ∃ k, zn hs.length = k := ⟨_, rfl⟩
      have tk := zeh hs k
      have dk := zeg hs k
      rw [hkd] at s1 s2 s3 hsp
      have hm1 : ¬ (m : Int) = hs.length := by omega
      by_cases h2 : m <= k
      · have e := zgy (l := hs) (m := m) (kn := kn) h0 (by omega) (by rw [hkd]; exact h2)
        rw [hkd] at e
        have i1 := fun b => ih (hs.take k) b m kn O v es (by rw [List.length_take]; omega) (hH.take _) (by rw [List.length_take]; omega) (by omega) (by rw [List.length_take]; omega) (by rw [List.length_take]; omega) hP
        have hR := fun O b => z8c O (hs.drop k) (.vsl 32 (zm (hs.drop k)) b) (.inr ⟨b, rfl⟩) (hH.drop _) (by rw [List.length_drop]; omega)
        have hc := z18 (zy (hs.drop k))
        rw [z3q (hH.drop _)] at hc
        have hcat : zm (subS hs m kn) = zm (subS (hs.take k) m kn) ++ [zg (zy (hs.drop k))] := by rw [e]; simp [zm]
        have hsl := zcs (m := m) (kn := kn) (hH.take k)
        have hsr := z3v (subS (hs.take k) m kn)
        rw [hcat, <- List.append_assoc]
        rw [List.length_take] at hsl
        generalize zg (zy (hs.drop k)) = row at *
        generalize zm (subS (hs.take k) m kn) = es1 at *
        generalize zm (hs.take k) = ra at *
        generalize zm (hs.drop k) = rb at *
        generalize zm hs = rows at *
        refine ACallsP.of_keep qrok (by simp) ?_
        repeat' (first | refine zW.zs ?_ | refine zW.zb ?_ | refine zW.zc ?_ | refine zW.zt rfl ?_ | refine zW.zf rfl ?_ | (refine zW.zd rfl (fun ht => ?_) (fun ht => ?_) <;> try (exfalso; omega)) | ((first | refine zW.regS ?_ | refine zW.zk ?_ | refine zW.ze ?_ | refine zW.zq ?_ | (apply callW.mk_pu; (first | exact (fun _ => hsp _))) | (apply callW.za; (first | exact (hsp _))) | ((first|apply zg0|apply zg1|apply zg2|apply zg3|apply zg4|apply zg5|apply zg6|apply zg7)<;>intro ht));all_goals try simp (disch:=first|omega|(simp only [lens];first|done|omega)) only [go_sem,reduceEqDiff,Nat.reduceBEq,reduceAdd,reduceMul,reduceSub,reduceLeDiff,reduceToNat,reducePow, hrl, ho, hfn, hm1, tk, dk]))
        refine callW.mkP (i1 _) (by obtain ⟨v', O', h⟩ := PrS.ex O0 (es ++ es1); exact ⟨_, O', rfl, v', h⟩) ?_
        rintro r1 O1 ⟨rfl, v1, hP1⟩
        have ho1 := hP1.out
        obtain ⟨r, O2, he, hg, hP2⟩ := hP1.add row (by rw [List.length_append]; omega)
        repeat' (first | refine zW.zs ?_ | refine zW.zb ?_ | refine zW.zc ?_ | refine zW.zt rfl ?_ | refine zW.zf rfl ?_ | (refine zW.zd rfl (fun ht => ?_) (fun ht => ?_) <;> try (exfalso; omega)) | ((first | refine zW.regS ?_ | refine zW.zk ?_ | refine zW.ze ?_ | refine zW.zq ?_ | (apply callW.mk_pu; (first | exact (fun _ => hR _ _))) | (apply callW.za; (first | exact (hR _ _))) | ((first|apply zg0|apply zg1|apply zg2|apply zg3|apply zg4|apply zg5|apply zg6|apply zg7)<;>intro ht));all_goals try simp (disch:=first|omega|(simp only [lens];first|done|omega)) only [go_sem,reduceEqDiff,Nat.reduceBEq,reduceAdd,reduceMul,reduceSub,reduceLeDiff,reduceToNat,reducePow, hrl, ho1, he, hg, hc, tk, dk]))
        rw [List.length_append, List.append_assoc] at hP2
        exact ⟨_, hP2⟩
      · have e := zgz (l := hs) (m := m) (kn := kn) (by omega) (by rw [hkd]; exact h2)
        rw [hkd] at e
        have hms : (m : Int) - k = ((m - k : Nat) : Int) := by omega
        have i1 := fun b => ih (hs.drop k) b (m - k) false O v es (by rw [List.length_drop]; omega) (hH.drop _) (by rw [List.length_drop]; omega) (by omega) (by rw [List.length_drop]; omega) (by rw [List.length_drop]; omega) hP
        have hR := fun O b => z8c O (hs.take k) (.vsl 32 (zm (hs.take k)) b) (.inr ⟨b, rfl⟩) (hH.take _) (by rw [List.length_take]; omega)
        have hc := z18 (zy (hs.take k))
        rw [z3q (hH.take _)] at hc
        have hcat : zm (subS hs m kn) = zm (subS (hs.drop k) (m - k) false) ++ [zg (zy (hs.take k))] := by rw [e]; simp [zm]
        have hsl := zcs (m := (m - k)) (kn := false) (hH.drop k)
        have hsr := z3v (subS (hs.drop k) (m - k) false)
        rw [hcat, <- List.append_assoc]
        rw [List.length_drop] at hsl
        generalize zg (zy (hs.take k)) = row at *
        generalize zm (subS (hs.drop k) (m - k) false) = es1 at *
        generalize zm (hs.take k) = ra at *
        generalize zm (hs.drop k) = rb at *
        generalize zm hs = rows at *
        refine ACallsP.of_keep qrok (by simp) ?_
        repeat' (first | refine zW.zs ?_ | refine zW.zb ?_ | refine zW.zc ?_ | refine zW.zt rfl ?_ | refine zW.zf rfl ?_ | (refine zW.zd rfl (fun ht => ?_) (fun ht => ?_) <;> try (exfalso; omega)) | ((first | refine zW.regS ?_ | refine zW.zk ?_ | refine zW.ze ?_ | refine zW.zq ?_ | (apply callW.mk_pu; (first | exact (fun _ => hsp _))) | (apply callW.za; (first | exact (hsp _))) | ((first|apply zg0|apply zg1|apply zg2|apply zg3|apply zg4|apply zg5|apply zg6|apply zg7)<;>intro ht));all_goals try simp (disch:=first|omega|(simp only [lens];first|done|omega)) only [go_sem,reduceEqDiff,Nat.reduceBEq,reduceAdd,reduceMul,reduceSub,reduceLeDiff,reduceToNat,reducePow, hrl, ho, hfn, hm1, tk, dk, hms]))
        refine callW.mkP (i1 _) (by obtain ⟨v', O', h⟩ := PrS.ex O0 (es ++ es1); exact ⟨_, O', rfl, v', h⟩) ?_
        rintro r1 O1 ⟨rfl, v1, hP1⟩
        have ho1 := hP1.out
        obtain ⟨r, O2, he, hg, hP2⟩ := hP1.add row (by rw [List.length_append]; omega)
        repeat' (first | refine zW.zs ?_ | refine zW.zb ?_ | refine zW.zc ?_ | refine zW.zt rfl ?_ | refine zW.zf rfl ?_ | (refine zW.zd rfl (fun ht => ?_) (fun ht => ?_) <;> try (exfalso; omega)) | ((first | refine zW.regS ?_ | refine zW.zk ?_ | refine zW.ze ?_ | refine zW.zq ?_ | (apply callW.mk_pu; (first | exact (fun _ => hR _ _))) | (apply callW.za; (first | exact (hR _ _))) | ((first|apply zg0|apply zg1|apply zg2|apply zg3|apply zg4|apply zg5|apply zg6|apply zg7)<;>intro ht));all_goals try simp (disch:=first|omega|(simp only [lens];first|done|omega)) only [go_sem,reduceEqDiff,Nat.reduceBEq,reduceAdd,reduceMul,reduceSub,reduceLeDiff,reduceToNat,reducePow, hrl, ho1, he, hg, hc, tk, dk]))
        rw [List.length_append, List.append_assoc] at hP2
        exact ⟨_, hP2⟩
theorem DownV.tup2 {k : Nat} {v v2 : AV} {O O2 : Store} {i : IntKind} {e : Int} (h : DownV k v O v2 O2) : DownV k (.tup [v, .int i e]) O (.tup [v2, .int i e]) O2 := by
  obtain ⟨D, a, b, c⟩ := h
  exact ⟨D, a, b, by simp only [DR, DRs]; exact ⟨_, rfl, _, _, rfl, c, _, _, rfl, rfl, rfl⟩⟩
theorem zax {O O' : Store} (h : O.length <= O'.length) (h2 : ∀ q, q < O.length -> O'[q]? = O[q]?) : ∃ y, O' = O ++ y := by
  refine ⟨O'.drop O.length, ?_⟩
  have e : O'.take O.length = O := by
    refine List.ext_getElem? fun i => ?_
    by_cases hi : i < O.length
    · rw [List.getElem?_take_of_lt hi]; exact h2 i hi
    · rw [List.getElem?_eq_none (by simp; omega), List.getElem?_eq_none (by omega)]
  calc O' = O'.take O.length ++ O'.drop O.length := (List.take_append_drop _ _).symm
    _ = O ++ O'.drop O.length := by rw [e]
theorem PrS.own {O0 O' : Store} {v : AV} {es : List (List AV)} (h : PrS O0 O' v es) : OwnN 32 O0 O' v es := by
  have hlt := h.lt
  obtain ⟨y, rfl⟩ := zax (by omega) h.keep
  obtain ⟨h1, h2, h3, h4 | ⟨r, hr, h0, rfl, hg⟩⟩ := h
  · exact ⟨y, rfl, .inl h4⟩
  · refine ⟨y, rfl, .inr ⟨r - O0.length, h0, by rw [show O0.length + (r - O0.length) = r by omega], ?_⟩⟩
    rw [List.getElem?_append_right (by omega)] at hg; exact hg
/-- What Proof answers. -/
def z1x (hs : List (List UInt8)) (m : Int) : List (List UInt8) := if 0 < m /\ m < hs.length then subS hs m.toNat true else []
def z47 (hs : List (List UInt8)) (m : Int) : Int := if m < 0 \/ (hs.length : Int) < m then 2 else 0
theorem zn0 {hs : List (List UInt8)} {m : Int} (h : H32 hs) : H32 (z1x hs m) := by
  unfold z1x
  split
  · exact subS_H h
  · intro x hx; simp at hx
theorem zn1 {hs : List (List UInt8)} {m : Int} (h : H32 hs) : (z1x hs m).length <= hs.length + 1 := by
  unfold z1x
  split
  · exact zcs h
  · simp
def ProofP (O : Store) (hs : List (List UInt8)) (m : Int) (v : AV) (O' : Store) : Prop := ∃ v2, v = .tup [v2, .int .i64 (z47 hs m)] /\ OwnN 32 O O' v2 (zm (z1x hs m))
theorem ProofP.ex (O : Store) (hs : List (List UInt8)) (m : Int) : ∃ v O', ProofP O hs m v O' := ⟨_, _, _, rfl, z84 O 32 _⟩
theorem ProofP.none {O : Store} {hs : List (List UInt8)} {m : Int} (h : z1x hs m = []) : ProofP O hs m (.tup [.nilsl, .int .i64 (z47 hs m)]) O := ⟨.nilsl, rfl, by rw [h]; exact ⟨[], by simp, .inl ⟨rfl, rfl⟩⟩⟩
set_option maxHeartbeats 8000000 in
theorem zhu (O : Store) (hs : List (List UInt8)) (x : AV) (m : Int) (hx : SlV 32 (zm hs) x) (hH : H32 hs) (hl : hs.length < 1000000) :
    ACallsP TC 57 [x, .int .i64 m] O (ProofP O hs m) := by
  have r1 := hx.len
  rw [z3v] at r1
  unfold z12 at r1
  by_cases h1 : m < 0 \/ (hs.length : Int) < m
  · have e1 : z47 hs m = 2 := by unfold z47; rw [if_pos h1]
    have e2 : z1x hs m = [] := by unfold z1x; rw [if_neg (by omega)]
    refine ACallsTo.toP (v := .tup [.nilsl, .int .i64 2]) (O' := O) ?_ (by have := ProofP.none (O := O) e2; rwa [e1] at this)
    refine ACallsTo.of_body qook (by simp) fun hw _ => ?_
    repeat' (first|refine zW.zs ?_|refine zW.zb ?_|refine zW.zc ?_|refine zW.zt rfl ?_|refine zW.zf rfl ?_|(refine zW.zd rfl (fun ht => ?_) (fun ht => ?_)<;>try (exfalso;omega))|((first|refine zW.zr ?_|refine zW.zk ?_|refine zW.ze ?_|refine zW.zq ?_|((first|apply zg0|apply zg1|apply zg2|apply zg3|apply zg4|apply zg5|apply zg6|apply zg7)<;>intro ht));all_goals try simp (disch:=first|omega|(simp only [lens];first|done|omega)) only [go_sem,reduceEqDiff,Nat.reduceBEq,reduceAdd,reduceMul,reduceSub,reduceLeDiff,reduceToNat,reducePow, r1]))
    all_goals exact DownV.same hw (z14 _ rfl)
  · have e1 : z47 hs m = 0 := by unfold z47; rw [if_neg h1]
    by_cases h2 : m = 0 \/ m = hs.length
    · have e2 : z1x hs m = [] := by unfold z1x; rw [if_neg (by omega)]
      refine ACallsTo.toP (v := .tup [.nilsl, .int .i64 0]) (O' := O) ?_ (by have := ProofP.none (O := O) e2; rwa [e1] at this)
      refine ACallsTo.of_body qook (by simp) fun hw _ => ?_
      repeat' (first|refine zW.zs ?_|refine zW.zb ?_|refine zW.zc ?_|refine zW.zt rfl ?_|refine zW.zf rfl ?_|(refine zW.zd rfl (fun ht => ?_) (fun ht => ?_)<;>try (exfalso;omega))|((first|refine zW.zr ?_|refine zW.zk ?_|refine zW.ze ?_|refine zW.zq ?_|((first|apply zg0|apply zg1|apply zg2|apply zg3|apply zg4|apply zg5|apply zg6|apply zg7)<;>intro ht));all_goals try simp (disch:=first|omega|(simp only [lens];first|done|omega)) only [go_sem,reduceEqDiff,Nat.reduceBEq,reduceAdd,reduceMul,reduceSub,reduceLeDiff,reduceToNat,reducePow, r1]))
      all_goals exact DownV.same hw (z14 _ rfl)
    · obtain ⟨n, rfl⟩ : ∃ n : Nat, m = n := ⟨m.toNat, by omega⟩
      have e2 : z1x hs n = subS hs n true := by unfold z1x; rw [if_pos (by omega)]; rfl
      obtain ⟨ex, rfl⟩ := hx.vsl (by rw [z3v]; omega)
      have i1 := fun O' v => zht O (hs.length + 1) hs ex n true O' v [] (by omega) hH hl (by omega) (by omega) (by simp; omega)
      simp only [List.nil_append] at i1
      rw [<- e2] at i1
      have hP0 : PrS O (O ++ [some [[.nilsl]], some [[.fn 102 [.ptr O.length 0 0, .ptr (O.length + 1) 0 0]]]]) .nilsl [] := ⟨by simp, by simp, fun q hq => gapp hq, .inl ⟨rfl, rfl⟩⟩
      refine ACallsP.of_body qook (by simp) fun hw _ => ?_
      have hrl := z3v hs
      generalize zm hs = rows at *
      repeat' (first|refine zW.zs ?_|refine zW.zb ?_|refine zW.zc ?_|refine zW.zt rfl ?_|refine zW.zf rfl ?_|(refine zW.zd rfl (fun ht => ?_) (fun ht => ?_)<;>try (exfalso;omega))|((first|refine zW.zr ?_|refine zW.zk ?_|refine zW.ze ?_|refine zW.zq ?_|((first|apply zg0|apply zg1|apply zg2|apply zg3|apply zg4|apply zg5|apply zg6|apply zg7)<;>intro ht));all_goals try simp (disch:=first|omega|(simp only [lens];first|done|omega)) only [go_sem,reduceEqDiff,Nat.reduceBEq,reduceAdd,reduceMul,reduceSub,reduceLeDiff,reduceToNat,reducePow, r1, hrl]))
      refine callW.mkP (i1 _ _ hP0) (by obtain ⟨v', O', h⟩ := PrS.ex O (zm (z1x hs n)); exact ⟨_, O', rfl, v', h⟩) ?_
      rintro r O1 ⟨rfl, v1, hP1⟩
      have ho1 := hP1.out
      repeat' (first|refine zW.zs ?_|refine zW.zb ?_|refine zW.zc ?_|refine zW.zt rfl ?_|refine zW.zf rfl ?_|(refine zW.zd rfl (fun ht => ?_) (fun ht => ?_)<;>try (exfalso;omega))|((first|refine zW.zr ?_|refine zW.zk ?_|refine zW.ze ?_|refine zW.zq ?_|((first|apply zg0|apply zg1|apply zg2|apply zg3|apply zg4|apply zg5|apply zg6|apply zg7)<;>intro ht));all_goals try simp (disch:=first|omega|(simp only [lens];first|done|omega)) only [go_sem,reduceEqDiff,Nat.reduceBEq,reduceAdd,reduceMul,reduceSub,reduceLeDiff,reduceToNat,reducePow, ho1]))
      refine ⟨_, _, ⟨_, rfl, z84 O 32 _⟩, ?_⟩
      rw [e1]
      exact (hP1.own.own hw (z73 _)).tup2
end Am
end Go.Proofs.YtncenefkbpelbaaDoor
end
section
/- Proofs: contracts: Proof of the reference. -/
namespace Go.Proofs.YtncenefkbpelbaaDoor
namespace Am
/-- Own elements, or a literal that can be gone on with. -/
def OwnA (sz : Nat) (τ O' : Store) (v : AV) (es : List (List AV)) : Prop := OwnN sz τ O' v es \/ (v = .vsl sz es true /\ es ≠ [] /\ ∃ news, O' = τ ++ news)
theorem OwnA.app {sz : Nat} {τ O' : Store} {v : AV} {es ys : List (List AV)} (h : OwnA sz τ O' v es) (h0 : ys.length ≠ 0) (hl : es.length + ys.length <= 1073741824) :
    ∃ v' O'', aApp O' sz v ys = some (v', O'') /\ OwnN sz τ O'' v' (es ++ ys) := by
  rcases h with h | ⟨rfl, h1, news, rfl⟩
  · exact h.app h0 hl
  · refine ⟨.sl (τ ++ news).length 0 (es.length + ys.length) none sz, (τ ++ news) ++ [some (es ++ ys)], by rw [z7k, if_neg h0, if_pos ⟨rfl, rfl, hl⟩], news ++ [some (es ++ ys)], by rw [List.append_assoc], .inr ⟨news.length, by simp [h1], by simp, by rw [List.getElem?_append_right (Nat.le_refl _)]; simp⟩⟩
theorem OwnA.rd {sz : Nat} {τ O' : Store} {v : AV} {es : List (List AV)} (h : OwnA sz τ O' v es) : RdSl O' sz es v := by
  rcases h with h | ⟨rfl, _⟩
  · exact h.rd
  · exact .inl (.inr ⟨true, rfl⟩)
theorem OwnA.more {sz : Nat} {τ O' : Store} {v : AV} {es : List (List AV)} (h : OwnA sz τ O' v es) (y : Store) : OwnA sz τ (O' ++ y) v es := by
  rcases h with h | ⟨rfl, h1, news, rfl⟩
  · exact .inl (h.more y)
  · exact .inr ⟨rfl, h1, news ++ y, by rw [List.append_assoc]⟩
theorem OwnA.ext {sz : Nat} {τ O' : Store} {v : AV} {es : List (List AV)} (h : OwnA sz τ O' v es) : ∃ news, O' = τ ++ news := by
  rcases h with h | ⟨_, _, h⟩
  · exact h.ext
  · exact h
theorem OwnA.down {sz : Nat} {O O' : Store} {v : AV} {es : List (List AV)} (hw : Wf O.length O) (h : OwnA sz O O' v es) (hr : RLss O.length es) : ∃ v2 O2, OwnA sz O O2 v2 es /\ DownV O.length v O' v2 O2 := by
  rcases h with h | ⟨rfl, h1, news, rfl⟩
  · exact ⟨_, _, .inl (z84 O sz es), h.own hw hr⟩
  · exact ⟨_, O, .inr ⟨rfl, h1, [], by simp⟩, DownV.pure hw (by simpa only [RL] using hr)⟩
end Am
end Go.Proofs.YtncenefkbpelbaaDoor
end
section
/- Proofs: what a proof says, by plain loops; the reference's Proof; a proof's next hash. -/
namespace Go.Proofs.YtncenefkbpelbaaDoor
namespace Am
def RefP (O : Store) (hs : List (List UInt8)) (m : Int) (v : AV) (O' : Store) : Prop := ∃ v2, v = .tup [v2, .int .i64 (z47 hs m)] /\ OwnA 32 O O' v2 (zm (z1x hs m))
/-- Up to where the older tree's last full one hangs. -/
def st (i last : Nat) : Nat × Nat := if h : i % 2 = 1 then st (i / 2) (last / 2) else (i, last)
termination_by i
decreasing_by omega
/-- On which side each hash stands: true: left of both. -/
def lp (i last : Nat) : List Bool :=
  if h : last = 0 then [] else if i % 2 = 1 then true :: lp (i / 2) (last / 2) else if i = last then lp (i / 2) (last / 2) else false :: lp (i / 2) (last / 2)
termination_by last
decreasing_by all_goals omega
theorem z5x {i last : Nat} (h : i % 2 = 1) : st i last = st (i / 2) (last / 2) := by rw [st, dif_pos h]
theorem z4z {i last : Nat} (h : ¬ i % 2 = 1) : st i last = (i, last) := by rw [st, dif_neg h]
theorem z5o (i : Nat) : lp i 0 = [] := by rw [lp, dif_pos rfl]
theorem z4g {i last : Nat} (h : i % 2 = 1) (h0 : last ≠ 0) : lp i last = true :: lp (i / 2) (last / 2) := by rw [lp, dif_neg h0, if_pos h]
theorem z6w {i : Nat} (h : ¬ i % 2 = 1) : lp i i = lp (i / 2) (i / 2) := by
  by_cases h0 : i = 0
  · subst h0; rfl
  · rw [lp, dif_neg h0, if_neg h, if_pos rfl]
theorem z69 {i last : Nat} (h : ¬ i % 2 = 1) (h0 : last ≠ 0) (h1 : i ≠ last) : lp i last = false :: lp (i / 2) (last / 2) := by rw [lp, dif_neg h0, if_neg h, if_neg h1]
theorem zb8 : ∀ (f i : Nat), i < f -> i ≠ 0 -> ∃ P, lp i i = true :: P
  | 0, _, h, _ => by omega
  | f + 1, i, h, h0 => by
    by_cases h1 : i % 2 = 1
    · exact ⟨_, z4g h1 h0⟩
    · obtain ⟨P, hP⟩ := zb8 f (i / 2) (by omega) (by omega)
      exact ⟨P, by rw [z6w h1, hP]⟩
/-- Two roots, of the hashes. -/
def run : List Bool -> List (List UInt8) -> List UInt8 -> List UInt8 -> Option (List UInt8 × List UInt8)
  | [], [], a, b => some (a, b)
  | true :: p, h :: ps, a, b => run p ps (z1d h a) (z1d h b)
  | false :: p, h :: ps, a, b => run p ps a (z1d b h)
  | _, _, _, _ => none
def chkG (i last : Nat) (o : List UInt8) (ps : List (List UInt8)) : Option (List UInt8 × List UInt8) :=
  if 0 < i then match ps with
    | [] => none
    | h :: ps => run (lp i last) ps h h
  else run (lp i last) ps o o
def chkS (i last : Nat) (o : List UInt8) (ps : List (List UInt8)) : Option (List UInt8 × List UInt8) := chkG (st i last).1 (st i last).2 o ps
/-- What Check answers. -/
def fitI (r : Option (List UInt8 × List UInt8)) (o nw : List UInt8) : Int :=
  match r with
  | some (a, b) => if a = o /\ b = nw then 0 else 80
  | none => 80
def chkI (m n : Int) (o nw : List UInt8) (ps : List (List UInt8)) : Int :=
  if n < 0 \/ 4096 < n \/ m < 0 \/ n < m then 2
  else if m = 0 then (if ps = [] /\ o = zy [] /\ (0 < n \/ nw = o) then 0 else 80)
  else if m = n then (if ps = [] /\ o = nw then 0 else 80)
  else fitI (chkS (m.toNat - 1) (n.toNat - 1) o ps) o nw
def z4k : List UInt8 := List.replicate 32 0
theorem zf1 (p : Nat) (O : Store) (h : List UInt8) (ps : List (List UInt8)) (ex : Bool) (hh : h.length = 32) (hl : ps.length < 1000000) (hp : O[p]? = some (some [[.vsl 32 (zm (h :: ps)) ex]])) :
    ACallsTo TC 109 [.ptr p 0 0] O (.tup [.agg (zg h), .bool true]) (O.set p (some [[.vsl 32 (zm ps) ex]]) ++ [some [zg h]]) := by
  have hc := z18 h
  rw [hh] at hc
  have hlt := (List.getElem?_eq_some_iff.1 hp).1
  have hr : zm (h :: ps) = zg h :: zm ps := rfl
  have hrl := z3v ps
  rw [hr] at hp
  generalize zg h = row at *
  generalize zm ps = rows at *
  refine ACallsTo.of_body_keep qtok (by simp) ?_
  repeat' (first|refine zW.zs ?_|refine zW.zb ?_|refine zW.zc ?_|refine zW.zt rfl ?_|refine zW.zf rfl ?_|(refine zW.zd rfl (fun ht => ?_) (fun ht => ?_)<;>try (exfalso;omega))|((first|refine zW.zr ?_|refine zW.zk ?_|refine zW.ze ?_|refine zW.zq ?_|((first|apply zg0|apply zg1|apply zg2|apply zg3|apply zg4|apply zg5|apply zg6|apply zg7)<;>intro ht));all_goals try simp (disch:=first|omega|(simp only [lens];first|done|omega)) only [go_sem,reduceEqDiff,Nat.reduceBEq,reduceAdd,reduceMul,reduceSub,reduceLeDiff,reduceToNat,reducePow, hp, hc, hrl]))
  rw [List.drop_of_length_le (by omega), List.append_nil, List.take_of_length_le (by omega)]
  exact ⟨rfl, rfl⟩
theorem zf0 (p : Nat) (O : Store) (x : AV) (hx : SlV 32 [] x) (hp : O[p]? = some (some [[x]])) :
    ACallsTo TC 109 [.ptr p 0 0] O (.tup [.agg (zg z4k), .bool false]) (O ++ [some [zg z4k]]) := by
  have hlt := (List.getElem?_eq_some_iff.1 hp).1
  have r1 := hx.len
  unfold z12 at r1
  have hz : zg z4k = List.replicate 32 (.int .u8 0) := rfl
  rw [hz]
  refine ACallsTo.of_body_keep qtok (by simp) ?_
  repeat' (first | refine zW.zs ?_ | refine zW.zb ?_ | refine zW.zc ?_ | refine zW.zt rfl ?_ | refine zW.zf rfl ?_ | (refine zW.zd rfl (fun ht => ?_) (fun ht => ?_) <;> try (exfalso; omega)) | ((first | refine zW.regS ?_ | refine zW.zk ?_ | refine zW.ze ?_ | refine zW.zq ?_ | ((first|apply zg0|apply zg1|apply zg2|apply zg3|apply zg4|apply zg5|apply zg6|apply zg7)<;>intro ht));all_goals try simp (disch:=first|omega|(simp only [lens];first|done|omega)) only [go_sem,reduceEqDiff,Nat.reduceBEq,reduceAdd,reduceMul,reduceSub,reduceLeDiff,reduceToNat,reducePow, hp, r1]))
  exact ⟨rfl, rfl⟩
theorem z1w (O : Store) (b : Bool) : ACallsTo TC 108 [.bool b] O (.int .i64 (if b then 0 else 80)) O := by
  refine ACallsTo.of_body qsok (by simp) fun hw _ => ?_
  cases b with
  | true =>
    repeat' (first|refine zW.zs ?_|refine zW.zb ?_|refine zW.zc ?_|refine zW.zt rfl ?_|refine zW.zf rfl ?_|(refine zW.zd rfl (fun ht => ?_) (fun ht => ?_)<;>try (exfalso;omega))|((first|refine zW.zr ?_|refine zW.zk ?_|refine zW.ze ?_|refine zW.zq ?_|((first|apply zg0|apply zg1|apply zg2|apply zg3|apply zg4|apply zg5|apply zg6|apply zg7)<;>intro ht));all_goals try simp (disch:=first|omega|(simp only [lens];first|done|omega)) only [go_sem,reduceEqDiff,Nat.reduceBEq,reduceAdd,reduceMul,reduceSub,reduceLeDiff,reduceToNat,reducePow]))
    exact DownV.same hw (z14 _ rfl)
  | false =>
    repeat' (first|refine zW.zs ?_|refine zW.zb ?_|refine zW.zc ?_|refine zW.zt rfl ?_|refine zW.zf rfl ?_|(refine zW.zd rfl (fun ht => ?_) (fun ht => ?_)<;>try (exfalso;omega))|((first|refine zW.zr ?_|refine zW.zk ?_|refine zW.ze ?_|refine zW.zq ?_|((first|apply zg0|apply zg1|apply zg2|apply zg3|apply zg4|apply zg5|apply zg6|apply zg7)<;>intro ht));all_goals try simp (disch:=first|omega|(simp only [lens];first|done|omega)) only [go_sem,reduceEqDiff,Nat.reduceBEq,reduceAdd,reduceMul,reduceSub,reduceLeDiff,reduceToNat,reducePow]))
    exact DownV.same hw (z14 _ rfl)
end Am
end Go.Proofs.YtncenefkbpelbaaDoor
end
section
/- Proofs: contract: Check of the program. -/
namespace Go.Proofs.YtncenefkbpelbaaDoor
namespace Am
/-- What Check has in memory. -/
structure ChkM (ia ib : Nat) (O O' : Store) (o nw : List UInt8) (pv : AV) (ps : List (List UInt8)) (a b : List UInt8) : Prop where
  hab : (ia = 3 /\ ib = 4) \/ (ia = 4 /\ ib = 3)
  len : O.length + 5 <= O'.length
  keep : ∀ q, q < O.length -> O'[q]? = O[q]?
  g0 : O'[O.length]? = some (some [zg o])
  g1 : O'[O.length + 1]? = some (some [zg nw])
  g2 : O'[O.length + 2]? = some (some [[pv]])
  g3 : O'[O.length + ia]? = some (some [zg a])
  g4 : O'[O.length + ib]? = some (some [zg b])
  hp : SlV 32 (zm ps) pv
  ha : a.length = 32
  hb : b.length = 32
theorem ChkM.app {ia ib : Nat} {O O' y : Store} {o nw : List UInt8} {pv : AV} {ps : List (List UInt8)} {a b : List UInt8} (h : ChkM ia ib O O' o nw pv ps a b) : ChkM ia ib O (O' ++ y) o nw pv ps a b := by
  have hl := h.len
  have hab := h.hab
  refine ⟨hab, by rw [List.length_append]; omega, fun q hq => ?_, ?_, ?_, ?_, ?_, ?_, h.hp, h.ha, h.hb⟩
  · rw [gapp (by omega)]; exact h.keep q hq
  · rw [gapp (by omega)]; exact h.g0
  · rw [gapp (by omega)]; exact h.g1
  · rw [gapp (by omega)]; exact h.g2
  · rw [gapp (by omega)]; exact h.g3
  · rw [gapp (by omega)]; exact h.g4
theorem ChkM.setp {ia ib : Nat} {O O' : Store} {o nw : List UInt8} {pv : AV} {ps : List (List UInt8)} {a b : List UInt8} (h : ChkM ia ib O O' o nw pv ps a b) {qv : AV} {qs : List (List UInt8)} (hq : SlV 32 (zm qs) qv) : ChkM ia ib O (O'.set (O.length + 2) (some [[qv]])) o nw qv qs a b := by
  have hl := h.len
  have hab := h.hab
  refine ⟨hab, by rw [List.length_set]; omega, fun q hq => ?_, ?_, ?_, ?_, ?_, ?_, hq, h.ha, h.hb⟩
  · rw [z1e (by omega)]; exact h.keep q hq
  · rw [z1e (by omega)]; exact h.g0
  · rw [z1e (by omega)]; exact h.g1
  · rw [z4b (by omega)]
  · rw [z1e (by omega)]; exact h.g3
  · rw [z1e (by omega)]; exact h.g4
theorem ChkM.seta {ia ib : Nat} {O O' : Store} {o nw : List UInt8} {pv : AV} {ps : List (List UInt8)} {a b : List UInt8} (h : ChkM ia ib O O' o nw pv ps a b) {a' : List UInt8} (ha : a'.length = 32) : ChkM ia ib O (O'.set (O.length + ia) (some [zg a'])) o nw pv ps a' b := by
  have hl := h.len
  have hab := h.hab
  refine ⟨hab, by rw [List.length_set]; omega, fun q hq => ?_, ?_, ?_, ?_, ?_, ?_, h.hp, ha, h.hb⟩
  · rw [z1e (by omega)]; exact h.keep q hq
  · rw [z1e (by omega)]; exact h.g0
  · rw [z1e (by omega)]; exact h.g1
  · rw [z1e (by omega)]; exact h.g2
  · rw [z4b (by omega)]
  · rw [z1e (by omega)]; exact h.g4
theorem ChkM.setb {ia ib : Nat} {O O' : Store} {o nw : List UInt8} {pv : AV} {ps : List (List UInt8)} {a b : List UInt8} (h : ChkM ia ib O O' o nw pv ps a b) {b' : List UInt8} (hb : b'.length = 32) : ChkM ia ib O (O'.set (O.length + ib) (some [zg b'])) o nw pv ps a b' := by
  have hl := h.len
  have hab := h.hab
  refine ⟨hab, by rw [List.length_set]; omega, fun q hq => ?_, ?_, ?_, ?_, ?_, ?_, h.hp, h.ha, hb⟩
  · rw [z1e (by omega)]; exact h.keep q hq
  · rw [z1e (by omega)]; exact h.g0
  · rw [z1e (by omega)]; exact h.g1
  · rw [z1e (by omega)]; exact h.g2
  · rw [z1e (by omega)]; exact h.g3
  · rw [z4b (by omega)]
theorem ChkM.fin {ia ib : Nat} {O O' : Store} {o nw : List UInt8} {pv : AV} {ps : List (List UInt8)} {a b : List UInt8} (h : ChkM ia ib O O' o nw pv ps a b) (hw : Wf O.length O) {i : Int} : DownV O.length (.int .i64 i) O' (.int .i64 i) O := by
  have hl := h.len
  have hab := h.hab
  obtain ⟨y, rfl⟩ := zax (by omega) h.keep
  exact DownV.pure hw (z14 _ rfl)
theorem SlV.cells {sz : Nat} {es : List (List AV)} {x : AV} (h : SlV sz es x) : cellsOf x = some [x] := by
  rcases h with ⟨rfl, rfl⟩ | ⟨ex, rfl⟩ <;> rfl
theorem zka : H32 [] := fun _ h => by simp at h
theorem z56 {O O' : Store} {i : Int} (hw : Wf O.length O) (h : O <+: O') : DownV O.length (.int .i64 i) O' (.int .i64 i) O := by
  obtain ⟨y, rfl⟩ := h
  exact DownV.pure hw (z14 _ rfl)
set_option maxHeartbeats 8000000 in
theorem zhi (O : Store) (m n : Int) (o nw : List UInt8) (x : AV) (es : List (List AV)) (hx : SlV 32 es x) (h : n < 0 \/ 4096 < n \/ m < 0 \/ n < m) :
    ACallsTo TC 64 [.int .i64 m, .int .i64 n, .agg (zg o), .agg (zg nw), x] O (.int .i64 2) O := by
  have r0 := hx.cells
  unfold cellsOf at r0
  refine ACallsTo.of_body qpok (by simp) fun hw _ => ?_
  repeat' (first|refine zW.zs ?_|refine zW.zb ?_|refine zW.zc ?_|refine zW.zt rfl ?_|refine zW.zf rfl ?_|(refine zW.zd rfl (fun ht => ?_) (fun ht => ?_)<;>try (exfalso;omega))|((first|refine zW.zr ?_|refine zW.zk ?_|refine zW.ze ?_|refine zW.zq ?_|((first|apply zg0|apply zg1|apply zg2|apply zg3|apply zg4|apply zg5|apply zg6|apply zg7)<;>intro ht));all_goals try simp (disch:=first|omega|(simp only [lens];first|done|omega)) only [go_sem,reduceEqDiff,Nat.reduceBEq,reduceAdd,reduceMul,reduceSub,reduceLeDiff,reduceToNat,reducePow, r0]))
  all_goals (refine z56 hw ?_; simp)
set_option maxHeartbeats 8000000 in
theorem zhn (O : Store) (n : Int) (o nw : List UInt8) (x : AV) (ps : List (List UInt8)) (hx : SlV 32 (zm ps) x) (ho : o.length = 32) (hn : nw.length = 32) (h0 : 0 <= n) (h1 : n <= 4096) (hl : ps.length < 1000000) :
    ACallsTo TC 64 [.int .i64 0, .int .i64 n, .agg (zg o), .agg (zg nw), x] O (.int .i64 (if ps = [] /\ o = zy [] /\ (0 < n \/ nw = o) then 0 else 80)) O := by
  have r0 := hx.cells
  unfold cellsOf at r0
  have r1 := hx.len
  rw [z3v] at r1
  unfold z12 at r1
  have c1 := z18 o
  have c2 := z18 nw
  rw [ho] at c1
  rw [hn] at c2
  have hR : ∀ O, ACallsTo TC 45 [.nilsl] O (.agg (zg (zy []))) O := fun O => z8c O [] .nilsl (.inl ⟨rfl, rfl⟩) (fun _ h => by simp at h) (by simp)
  have k1 := z4r ho
  have k2 := z4r hn
  have k3 := z4r (z3q (zka))
  have e1 := z65 o (zy [])
  have e2 := z65 nw o
  by_cases q1 : ps = []
  · have q1' : ps.length = 0 := by rw [q1]; rfl
    by_cases q2 : o = zy []
    · rw [decide_eq_true q2] at e1
      by_cases q3 : 0 < n
      · rw [if_pos ⟨q1, q2, .inl q3⟩]
        generalize zg (zy []) = rr at *
        generalize zg o = ro at *
        generalize zg nw = rn at *
        refine ACallsTo.of_body qpok (by simp) fun hw _ => ?_
        repeat' (first|refine zW.zs ?_|refine zW.zb ?_|refine zW.zc ?_|refine zW.zt rfl ?_|refine zW.zf rfl ?_|(refine zW.zd rfl (fun ht => ?_) (fun ht => ?_)<;>try (exfalso;omega))|((first|refine zW.zr ?_|refine zW.zk ?_|refine zW.ze ?_|refine zW.zq ?_|(apply callW.mk_pu; (first | exact (fun _ => hR _) | exact (fun _ => z1w _ true))) | (apply callW.za; (first | exact (hR _) | exact (z1w _ true))) | ((first|apply zg0|apply zg1|apply zg2|apply zg3|apply zg4|apply zg5|apply zg6|apply zg7)<;>intro ht));all_goals try simp (disch:=first|omega|(simp only [lens];first|done|omega)) only [go_sem,reduceEqDiff,Nat.reduceBEq,reduceAdd,reduceMul,reduceSub,reduceLeDiff,reduceToNat,reducePow, r0, r1, c1, c2, k1, k2, k3, e1, q1']))
        all_goals (refine z56 hw ?_; simp)
      · by_cases q4 : nw = o
        · rw [decide_eq_true q4] at e2
          rw [if_pos ⟨q1, q2, .inr q4⟩]
          generalize zg (zy []) = rr at *
          generalize zg o = ro at *
          generalize zg nw = rn at *
          refine ACallsTo.of_body qpok (by simp) fun hw _ => ?_
          repeat' (first|refine zW.zs ?_|refine zW.zb ?_|refine zW.zc ?_|refine zW.zt rfl ?_|refine zW.zf rfl ?_|(refine zW.zd rfl (fun ht => ?_) (fun ht => ?_)<;>try (exfalso;omega))|((first|refine zW.zr ?_|refine zW.zk ?_|refine zW.ze ?_|refine zW.zq ?_|(apply callW.mk_pu; (first | exact (fun _ => hR _) | exact (fun _ => z1w _ true))) | (apply callW.za; (first | exact (hR _) | exact (z1w _ true))) | ((first|apply zg0|apply zg1|apply zg2|apply zg3|apply zg4|apply zg5|apply zg6|apply zg7)<;>intro ht));all_goals try simp (disch:=first|omega|(simp only [lens];first|done|omega)) only [go_sem,reduceEqDiff,Nat.reduceBEq,reduceAdd,reduceMul,reduceSub,reduceLeDiff,reduceToNat,reducePow, r0, r1, c1, c2, k1, k2, k3, e1, e2, q1']))
          all_goals (refine z56 hw ?_; simp)
        · rw [decide_eq_false q4] at e2
          rw [if_neg (fun h => h.2.2.elim q3 q4)]
          generalize zg (zy []) = rr at *
          generalize zg o = ro at *
          generalize zg nw = rn at *
          refine ACallsTo.of_body qpok (by simp) fun hw _ => ?_
          repeat' (first|refine zW.zs ?_|refine zW.zb ?_|refine zW.zc ?_|refine zW.zt rfl ?_|refine zW.zf rfl ?_|(refine zW.zd rfl (fun ht => ?_) (fun ht => ?_)<;>try (exfalso;omega))|((first|refine zW.zr ?_|refine zW.zk ?_|refine zW.ze ?_|refine zW.zq ?_|(apply callW.mk_pu; (first | exact (fun _ => hR _) | exact (fun _ => z1w _ false))) | (apply callW.za; (first | exact (hR _) | exact (z1w _ false))) | ((first|apply zg0|apply zg1|apply zg2|apply zg3|apply zg4|apply zg5|apply zg6|apply zg7)<;>intro ht));all_goals try simp (disch:=first|omega|(simp only [lens];first|done|omega)) only [go_sem,reduceEqDiff,Nat.reduceBEq,reduceAdd,reduceMul,reduceSub,reduceLeDiff,reduceToNat,reducePow, r0, r1, c1, c2, k1, k2, k3, e1, e2, q1']))
          all_goals (refine z56 hw ?_; simp)
    · rw [decide_eq_false q2] at e1
      rw [if_neg (fun h => q2 h.2.1)]
      generalize zg (zy []) = rr at *
      generalize zg o = ro at *
      generalize zg nw = rn at *
      refine ACallsTo.of_body qpok (by simp) fun hw _ => ?_
      repeat' (first|refine zW.zs ?_|refine zW.zb ?_|refine zW.zc ?_|refine zW.zt rfl ?_|refine zW.zf rfl ?_|(refine zW.zd rfl (fun ht => ?_) (fun ht => ?_)<;>try (exfalso;omega))|((first|refine zW.zr ?_|refine zW.zk ?_|refine zW.ze ?_|refine zW.zq ?_|(apply callW.mk_pu; (first | exact (fun _ => hR _) | exact (fun _ => z1w _ false))) | (apply callW.za; (first | exact (hR _) | exact (z1w _ false))) | ((first|apply zg0|apply zg1|apply zg2|apply zg3|apply zg4|apply zg5|apply zg6|apply zg7)<;>intro ht));all_goals try simp (disch:=first|omega|(simp only [lens];first|done|omega)) only [go_sem,reduceEqDiff,Nat.reduceBEq,reduceAdd,reduceMul,reduceSub,reduceLeDiff,reduceToNat,reducePow, r0, r1, c1, c2, k1, k2, k3, e1, q1']))
      all_goals (refine z56 hw ?_; simp)
  · have q1' : ¬ (ps.length : Int) = 0 := by intro e; exact q1 (List.eq_nil_of_length_eq_zero (by omega))
    have q1'' : ¬ ps.length = 0 := by omega
    rw [if_neg (fun h => q1 h.1)]
    generalize zg (zy []) = rr at *
    generalize zg o = ro at *
    generalize zg nw = rn at *
    refine ACallsTo.of_body qpok (by simp) fun hw _ => ?_
    repeat' (first|refine zW.zs ?_|refine zW.zb ?_|refine zW.zc ?_|refine zW.zt rfl ?_|refine zW.zf rfl ?_|(refine zW.zd rfl (fun ht => ?_) (fun ht => ?_)<;>try (exfalso;omega))|((first|refine zW.zr ?_|refine zW.zk ?_|refine zW.ze ?_|refine zW.zq ?_|(apply callW.mk_pu; (first | exact (fun _ => hR _) | exact (fun _ => z1w _ false))) | (apply callW.za; (first | exact (hR _) | exact (z1w _ false))) | ((first|apply zg0|apply zg1|apply zg2|apply zg3|apply zg4|apply zg5|apply zg6|apply zg7)<;>intro ht));all_goals try simp (disch:=first|omega|(simp only [lens];first|done|omega)) only [go_sem,reduceEqDiff,Nat.reduceBEq,reduceAdd,reduceMul,reduceSub,reduceLeDiff,reduceToNat,reducePow, r0, r1, c1, c2, q1', q1'']))
    all_goals (refine z56 hw ?_; simp)
set_option maxHeartbeats 8000000 in
theorem zhl (O : Store) (n : Int) (o nw : List UInt8) (x : AV) (ps : List (List UInt8)) (hx : SlV 32 (zm ps) x) (ho : o.length = 32) (hn : nw.length = 32) (h0 : 0 < n) (h1 : n <= 4096) (hl : ps.length < 1000000) :
    ACallsTo TC 64 [.int .i64 n, .int .i64 n, .agg (zg o), .agg (zg nw), x] O (.int .i64 (if ps = [] /\ o = nw then 0 else 80)) O := by
  have r0 := hx.cells
  unfold cellsOf at r0
  have r1 := hx.len
  rw [z3v] at r1
  unfold z12 at r1
  have c1 := z18 o
  have c2 := z18 nw
  rw [ho] at c1
  rw [hn] at c2
  have k1 := z4r ho
  have k2 := z4r hn
  have e2 := z65 o nw
  by_cases q1 : ps = []
  · have q1' : ps.length = 0 := by rw [q1]; rfl
    by_cases q2 : o = nw
    · rw [decide_eq_true q2] at e2
      rw [if_pos ⟨q1, q2⟩]
      generalize zg o = ro at *
      generalize zg nw = rn at *
      refine ACallsTo.of_body qpok (by simp) fun hw _ => ?_
      repeat' (first|refine zW.zs ?_|refine zW.zb ?_|refine zW.zc ?_|refine zW.zt rfl ?_|refine zW.zf rfl ?_|(refine zW.zd rfl (fun ht => ?_) (fun ht => ?_)<;>try (exfalso;omega))|((first|refine zW.zr ?_|refine zW.zk ?_|refine zW.ze ?_|refine zW.zq ?_|(apply callW.mk_pu; (first | exact (fun _ => z1w _ true))) | (apply callW.za; (first | exact (z1w _ true))) | ((first|apply zg0|apply zg1|apply zg2|apply zg3|apply zg4|apply zg5|apply zg6|apply zg7)<;>intro ht));all_goals try simp (disch:=first|omega|(simp only [lens];first|done|omega)) only [go_sem,reduceEqDiff,Nat.reduceBEq,reduceAdd,reduceMul,reduceSub,reduceLeDiff,reduceToNat,reducePow, r0, r1, c1, c2, k1, k2, e2, q1']))
      all_goals (refine z56 hw ?_; simp)
    · rw [decide_eq_false q2] at e2
      rw [if_neg (fun h => q2 h.2)]
      generalize zg o = ro at *
      generalize zg nw = rn at *
      refine ACallsTo.of_body qpok (by simp) fun hw _ => ?_
      repeat' (first|refine zW.zs ?_|refine zW.zb ?_|refine zW.zc ?_|refine zW.zt rfl ?_|refine zW.zf rfl ?_|(refine zW.zd rfl (fun ht => ?_) (fun ht => ?_)<;>try (exfalso;omega))|((first|refine zW.zr ?_|refine zW.zk ?_|refine zW.ze ?_|refine zW.zq ?_|(apply callW.mk_pu; (first | exact (fun _ => z1w _ false))) | (apply callW.za; (first | exact (z1w _ false))) | ((first|apply zg0|apply zg1|apply zg2|apply zg3|apply zg4|apply zg5|apply zg6|apply zg7)<;>intro ht));all_goals try simp (disch:=first|omega|(simp only [lens];first|done|omega)) only [go_sem,reduceEqDiff,Nat.reduceBEq,reduceAdd,reduceMul,reduceSub,reduceLeDiff,reduceToNat,reducePow, r0, r1, c1, c2, k1, k2, e2, q1']))
      all_goals (refine z56 hw ?_; simp)
  · have q1' : ¬ (ps.length : Int) = 0 := by intro e; exact q1 (List.eq_nil_of_length_eq_zero (by omega))
    have q1'' : ¬ ps.length = 0 := by omega
    rw [if_neg (fun h => q1 h.1)]
    generalize zg o = ro at *
    generalize zg nw = rn at *
    refine ACallsTo.of_body qpok (by simp) fun hw _ => ?_
    repeat' (first|refine zW.zs ?_|refine zW.zb ?_|refine zW.zc ?_|refine zW.zt rfl ?_|refine zW.zf rfl ?_|(refine zW.zd rfl (fun ht => ?_) (fun ht => ?_)<;>try (exfalso;omega))|((first|refine zW.zr ?_|refine zW.zk ?_|refine zW.ze ?_|refine zW.zq ?_|(apply callW.mk_pu; (first | exact (fun _ => z1w _ false))) | (apply callW.za; (first | exact (z1w _ false))) | ((first|apply zg0|apply zg1|apply zg2|apply zg3|apply zg4|apply zg5|apply zg6|apply zg7)<;>intro ht));all_goals try simp (disch:=first|omega|(simp only [lens];first|done|omega)) only [go_sem,reduceEqDiff,Nat.reduceBEq,reduceAdd,reduceMul,reduceSub,reduceLeDiff,reduceToNat,reducePow, r0, r1, c1, c2, q1', q1'']))
    all_goals (refine z56 hw ?_; simp)
end Am
end Go.Proofs.YtncenefkbpelbaaDoor
end
section
/- Proofs: contract: Check of the program, the loop. -/
namespace Go.Proofs.YtncenefkbpelbaaDoor
namespace Am
theorem lp_pos {i last : Nat} (h : last ≠ 0) : ∃ t P, lp i last = t :: P := by
  by_cases h1 : i % 2 = 1
  · exact ⟨_, _, z4g h1 h⟩
  · by_cases h2 : i = last
    · subst h2; obtain ⟨P, hP⟩ := zb8 (i + 1) i (Nat.lt_succ_self _) h; exact ⟨_, _, hP⟩
    · exact ⟨_, _, z69 h1 h h2⟩
theorem znv {t : Bool} {P : List Bool} {a b : List UInt8} : run (t :: P) [] a b = none := by cases t <;> rfl
theorem z7w {h : List UInt8} (hh : h.length = 32) : (zg h).drop 32 = [] := by
  have := z18 h
  exact List.drop_of_length_le (by omega)
theorem z7x {h : List UInt8} (hh : h.length = 32) : (zg h).take 32 = zg h := by
  have := z18 h
  exact List.take_of_length_le (by omega)
set_option maxHeartbeats 8000000 in
theorem zd4 (ia ib : Nat) (O : Store) (hw : Wf O.length O) (o nw : List UInt8) (ho : o.length = 32) (hn : nw.length = 32) (R : Option (List UInt8 × List UInt8)) (Z : Env) (O' : Store) (i last : Nat) (pv : AV) (ps : List (List UInt8)) (a b : List UInt8)
    (hM : ChkM ia ib O O' o nw pv ps a b) (hH : H32 ps) (hi : i < 4096) (hl : last < 4096) (hpl : ps.length < 1000000) (hR : run (lp i last) ps a b = R)
    (q7 : Z 7 = .ptr O.length 0 0) (q8 : Z 8 = .ptr (O.length + 1) 0 0) (q9 : Z 9 = .ptr (O.length + 2) 0 0) (q11 : Z 11 = .int .i64 i) (q12 : Z 12 = .int .i64 last)
    (q13 : Z 13 = .fn 109 [.ptr (O.length + 2) 0 0]) (q14 : Z 14 = .ptr (O.length + ia) 0 0) (q15 : Z 15 = .ptr (O.length + ib) 0 0) :
    zW TC 152 O.length zbu (endQ O.length [.t 10] (.int .i64 (fitI R o nw)) O) Z O' := by
  repeat' (first|refine zW.zs ?_|refine zW.zb ?_|refine zW.zc ?_|refine zW.zt rfl ?_|refine zW.zf rfl ?_|(refine zW.zd rfl (fun ht => ?_) (fun ht => ?_)<;>try (exfalso;omega))|((first|refine zW.zr ?_|refine zW.zk ?_|refine zW.ze ?_|refine zW.zq ?_|((first|apply zg0|apply zg1|apply zg2|apply zg3|apply zg4|apply zg5|apply zg6|apply zg7)<;>intro ht));all_goals try simp (disch:=first|omega|(simp only [lens];first|done|omega)) only [go_sem,reduceEqDiff,Nat.reduceBEq,reduceAdd,reduceMul,reduceSub,reduceLeDiff,reduceToNat,reducePow]))
  refine zW.loop (fun m Z O' => ∃ (i last : Nat) (pv : AV) (ps : List (List UInt8)) (a b : List UInt8), m = last /\ ChkM ia ib O O' o nw pv ps a b /\ H32 ps /\ i < 4096 /\ last < 4096 /\ ps.length < 1000000 /\ run (lp i last) ps a b = R ∧
    Z 7 = .ptr O.length 0 0 /\ Z 8 = .ptr (O.length + 1) 0 0 /\ Z 9 = .ptr (O.length + 2) 0 0 /\ Z 11 = .int .i64 i /\ Z 12 = .int .i64 last /\ Z 13 = .fn 109 [.ptr (O.length + 2) 0 0] /\ Z 14 = .ptr (O.length + ia) 0 0 /\ Z 15 = .ptr (O.length + ib) 0 0) last ?_ ?_
  · exact ⟨i, last, pv, ps, a, b, rfl, hM, hH, hi, hl, hpl, hR, q7, q8, q9, q11, q12, q13, q14, q15⟩
  clear hM hH hi hl hpl hR q7 q8 q9 q11 q12 q13 q14 q15 i last pv ps a b Z O'
  rintro last Z O' ⟨i, _, pv, ps, a, b, rfl, hM, hH, hi, hl, hpl, hR, q7, q8, q9, q11, q12, q13, q14, q15⟩
  have hlen := hM.len
  have hab := hM.hab
  have g0 := hM.g0
  have g1 := hM.g1
  have g2 := hM.g2
  have g3 := hM.g3
  have g4 := hM.g4
  have c0 := z18 o
  have c1 := z18 nw
  have ca := z18 a
  have cb := z18 b
  rw [ho] at c0
  rw [hn] at c1
  rw [hM.ha] at ca
  rw [hM.hb] at cb
  by_cases h0 : last = 0
  · subst h0
    rw [z5o] at hR
    have r1 := hM.hp.len
    rw [z3v] at r1
    unfold z12 at r1
    have k0 := z4r ho
    have k1 := z4r hn
    have ka := z4r hM.ha
    have kb := z4r hM.hb
    have e1 := z65 a o
    have e2 := z65 b nw
    by_cases p1 : ps = []
    · have p1' : ps.length = 0 := by rw [p1]; rfl
      have hR' : R = some (a, b) := by rw [<- hR, p1]; rfl
      by_cases p2 : a = o
      · rw [decide_eq_true p2] at e1
        by_cases p3 : b = nw
        · rw [decide_eq_true p3] at e2
          have hf : fitI R o nw = 0 := by rw [hR']; unfold fitI; simp only; rw [if_pos ⟨p2, p3⟩]
          rw [hf]
          repeat' (first|refine zW.zs ?_|refine zW.zb ?_|refine zW.zc ?_|refine zW.zt rfl ?_|refine zW.zf rfl ?_|(refine zW.zd rfl (fun ht => ?_) (fun ht => ?_)<;>try (exfalso;omega))|((first|refine zW.zr ?_|refine zW.zk ?_|refine zW.ze ?_|refine zW.zq ?_|(apply callW.mk_pu; (first | exact (fun _ => z1w _ true))) | (apply callW.za; (first | exact (z1w _ true))) | ((first|apply zg0|apply zg1|apply zg2|apply zg3|apply zg4|apply zg5|apply zg6|apply zg7)<;>intro ht));all_goals try simp (disch:=first|omega|(simp only [lens];first|done|omega)) only [go_sem,reduceEqDiff,Nat.reduceBEq,reduceAdd,reduceMul,reduceSub,reduceLeDiff,reduceToNat,reducePow, q7, q8, q9, q12, q14, q15, r1, g0, g1, g2, g3, g4, c0, c1, ca, cb, k0, k1, ka, kb, e1, e2, p1']))
          exact hM.fin hw
        · rw [decide_eq_false p3] at e2
          have hf : fitI R o nw = 80 := by rw [hR']; unfold fitI; simp only; rw [if_neg (fun h => p3 h.2)]
          rw [hf]
          repeat' (first|refine zW.zs ?_|refine zW.zb ?_|refine zW.zc ?_|refine zW.zt rfl ?_|refine zW.zf rfl ?_|(refine zW.zd rfl (fun ht => ?_) (fun ht => ?_)<;>try (exfalso;omega))|((first|refine zW.zr ?_|refine zW.zk ?_|refine zW.ze ?_|refine zW.zq ?_|(apply callW.mk_pu; (first | exact (fun _ => z1w _ false))) | (apply callW.za; (first | exact (z1w _ false))) | ((first|apply zg0|apply zg1|apply zg2|apply zg3|apply zg4|apply zg5|apply zg6|apply zg7)<;>intro ht));all_goals try simp (disch:=first|omega|(simp only [lens];first|done|omega)) only [go_sem,reduceEqDiff,Nat.reduceBEq,reduceAdd,reduceMul,reduceSub,reduceLeDiff,reduceToNat,reducePow, q7, q8, q9, q12, q14, q15, r1, g0, g1, g2, g3, g4, c0, c1, ca, cb, k0, k1, ka, kb, e1, e2, p1']))
          exact hM.fin hw
      · rw [decide_eq_false p2] at e1
        have hf : fitI R o nw = 80 := by rw [hR']; unfold fitI; simp only; rw [if_neg (fun h => p2 h.1)]
        rw [hf]
        repeat' (first|refine zW.zs ?_|refine zW.zb ?_|refine zW.zc ?_|refine zW.zt rfl ?_|refine zW.zf rfl ?_|(refine zW.zd rfl (fun ht => ?_) (fun ht => ?_)<;>try (exfalso;omega))|((first|refine zW.zr ?_|refine zW.zk ?_|refine zW.ze ?_|refine zW.zq ?_|(apply callW.mk_pu; (first | exact (fun _ => z1w _ false))) | (apply callW.za; (first | exact (z1w _ false))) | ((first|apply zg0|apply zg1|apply zg2|apply zg3|apply zg4|apply zg5|apply zg6|apply zg7)<;>intro ht));all_goals try simp (disch:=first|omega|(simp only [lens];first|done|omega)) only [go_sem,reduceEqDiff,Nat.reduceBEq,reduceAdd,reduceMul,reduceSub,reduceLeDiff,reduceToNat,reducePow, q7, q8, q9, q12, q14, q15, r1, g0, g1, g2, g3, g4, c0, c1, ca, cb, k0, k1, ka, kb, e1, p1']))
        exact hM.fin hw
    · have p1' : ¬ (ps.length : Int) = 0 := by intro e; exact p1 (List.eq_nil_of_length_eq_zero (by omega))
      have p1'' : ¬ ps.length = 0 := by omega
      have hf : fitI R o nw = 80 := by
        have : R = none := by
          rw [<- hR]
          cases ps with
          | nil => exact absurd rfl p1
          | cons _ _ => rfl
        rw [this]; rfl
      rw [hf]
      repeat' (first|refine zW.zs ?_|refine zW.zb ?_|refine zW.zc ?_|refine zW.zt rfl ?_|refine zW.zf rfl ?_|(refine zW.zd rfl (fun ht => ?_) (fun ht => ?_)<;>try (exfalso;omega))|((first|refine zW.zr ?_|refine zW.zk ?_|refine zW.ze ?_|refine zW.zq ?_|(apply callW.mk_pu; (first | exact (fun _ => z1w _ false))) | (apply callW.za; (first | exact (z1w _ false))) | ((first|apply zg0|apply zg1|apply zg2|apply zg3|apply zg4|apply zg5|apply zg6|apply zg7)<;>intro ht));all_goals try simp (disch:=first|omega|(simp only [lens];first|done|omega)) only [go_sem,reduceEqDiff,Nat.reduceBEq,reduceAdd,reduceMul,reduceSub,reduceLeDiff,reduceToNat,reducePow, q7, q8, q9, q12, q14, q15, r1, g0, g1, g2, g3, g4, c0, c1, p1', p1'']))
      exact hM.fin hw
  · cases ps with
    | nil =>
      have hf : fitI R o nw = 80 := by
        obtain ⟨t, P, e⟩ := lp_pos (i := i) h0
        rw [e, znv] at hR
        rw [<- hR]; rfl
      rw [hf]
      have hnx := zf0 (O.length + 2) O' pv hM.hp g2
      have dz : (zg z4k).drop 32 = [] := rfl
      have hl0 : (0 : Int) < last := by omega
      have cz : (zg z4k).length = 32 := by rw [z18]; rfl
      repeat' (first|refine zW.zs ?_|refine zW.zb ?_|refine zW.zc ?_|refine zW.zt rfl ?_|refine zW.zf rfl ?_|(refine zW.zd rfl (fun ht => ?_) (fun ht => ?_)<;>try (exfalso;omega))|((first|refine zW.zr ?_|refine zW.zk ?_|refine zW.ze ?_|refine zW.zq ?_|(apply callW.mk_pu; (first | exact (fun _ => hnx))) | (apply callW.za; (first | exact (hnx))) | ((first|apply zg0|apply zg1|apply zg2|apply zg3|apply zg4|apply zg5|apply zg6|apply zg7)<;>intro ht));all_goals try simp (disch:=first|omega|(simp only [lens];first|done|omega)) only [go_sem,reduceEqDiff,Nat.reduceBEq,reduceAdd,reduceMul,reduceSub,reduceLeDiff,reduceToNat,reducePow, q7, q8, q9, q12, q13, q14, q15, g0, g1, g2, g3, g4, cz, dz, hl0]))
      exact (hM.app (y := [some [zg z4k], some [zg z4k]])).fin hw
    | cons h qs =>
      have hh : h.length = 32 := hH h (by simp)
      have hq : H32 qs := fun x hx => hH x (by simp [hx])
      obtain ⟨ex, rfl⟩ := hM.hp.vsl (by rw [z3v]; simp)
      simp only [List.length_cons] at hpl
      have hnx := zf1 (O.length + 2) O' h qs ex hh (by omega) g2
      have ch := z18 h
      rw [hh] at ch
      have c7 := z18 (z1d h a)
      have c8 := z18 (z1d h b)
      have c9 := z18 (z1d b h)
      rw [z4c] at c7 c8 c9
      have d0 := z7w hM.ha
      have d1 := z7w hM.hb
      have d2 := z7w hh
      have t0 := z7x hM.ha
      have t1 := z7x hM.hb
      have t2 := z7x hh
      by_cases hc : i % 2 = 1 \/ i = last
      · have hl0 : (0 : Int) < last := by omega
        obtain ⟨P, hP⟩ : ∃ P, lp i last = true :: P := by
          rcases hc with hc | rfl
          · exact ⟨_, z4g hc h0⟩
          · exact zb8 (i + 1) i (Nat.lt_succ_self _) h0
        rw [hP] at hR
        rcases hc with hc | rfl
        · have hc1 : (i : Int) % 2 = 1 := by omega
          repeat' (first|refine zW.zs ?_|refine zW.zb ?_|refine zW.zc ?_|refine zW.zt rfl ?_|refine zW.zf rfl ?_|(refine zW.zd rfl (fun ht => ?_) (fun ht => ?_)<;>try (exfalso;omega))|((first|refine zW.zr ?_|refine zW.zk ?_|refine zW.ze ?_|refine zW.zq ?_|(apply callW.mk_pu; (first | exact (fun _ => hnx) | exact (fun _ => z1n _ h a hh hM.ha) | exact (fun _ => z1n _ h b hh hM.hb) | exact (fun _ => z1n _ b h hM.hb hh))) | (apply callW.za; (first | exact (hnx) | exact (z1n _ h a hh hM.ha) | exact (z1n _ h b hh hM.hb) | exact (z1n _ b h hM.hb hh))) | ((first|apply zg0|apply zg1|apply zg2|apply zg3|apply zg4|apply zg5|apply zg6|apply zg7)<;>intro ht));all_goals try simp (disch:=first|omega|(simp only [lens];first|done|omega)) only [go_sem,reduceEqDiff,Nat.reduceBEq,reduceAdd,reduceMul,reduceSub,reduceLeDiff,reduceToNat,reducePow, q7, q8, q9, q11, q12, q13, q14, q15, g0, g1, g2, g3, g4, ca, cb, ch, c7, c8, c9, d0, d1, d2, t0, t1, t2, hc1, hl0]))
          have hM2 := (((hM.setp (qs := qs) (qv := .vsl 32 (zm qs) ex) (.inr ⟨ex, rfl⟩)).seta (z4c h a)).setb (z4c h b)).app (y := [some [zg h], some [zg h]])
          refine zW.loop (fun m Z2 O2 => ∃ (i2 last2 : Nat), m = i2 /\ ChkM ia ib O O2 o nw (.vsl 32 (zm qs) ex) qs (z1d h a) (z1d h b) /\ lp i2 last2 = true :: P /\ 0 < i2 /\ (i2 % 2 = 1 \/ i2 = last2) /\ i2 < 4096 /\ last2 <= last ∧
            Z2 7 = .ptr O.length 0 0 /\ Z2 8 = .ptr (O.length + 1) 0 0 /\ Z2 9 = .ptr (O.length + 2) 0 0 /\ Z2 11 = .int .i64 i2 /\ Z2 12 = .int .i64 last2 /\ Z2 13 = .fn 109 [.ptr (O.length + 2) 0 0] /\ Z2 14 = .ptr (O.length + ia) 0 0 /\ Z2 15 = .ptr (O.length + ib) 0 0) i ?_ ?_
          · exact ⟨i, last, rfl, hM2, hP, by omega, .inl hc, hi, by omega, by simp (disch:=first|omega|(simp only [lens];first|done|omega)) only [go_sem,reduceEqDiff,Nat.reduceBEq,reduceAdd,reduceMul,reduceSub,reduceLeDiff,reduceToNat,reducePow, q7], by simp (disch:=first|omega|(simp only [lens];first|done|omega)) only [go_sem,reduceEqDiff,Nat.reduceBEq,reduceAdd,reduceMul,reduceSub,reduceLeDiff,reduceToNat,reducePow, q8], by simp (disch:=first|omega|(simp only [lens];first|done|omega)) only [go_sem,reduceEqDiff,Nat.reduceBEq,reduceAdd,reduceMul,reduceSub,reduceLeDiff,reduceToNat,reducePow, q9], by simp (disch:=first|omega|(simp only [lens];first|done|omega)) only [go_sem,reduceEqDiff,Nat.reduceBEq,reduceAdd,reduceMul,reduceSub,reduceLeDiff,reduceToNat,reducePow, q11], by simp (disch:=first|omega|(simp only [lens];first|done|omega)) only [go_sem,reduceEqDiff,Nat.reduceBEq,reduceAdd,reduceMul,reduceSub,reduceLeDiff,reduceToNat,reducePow, q12], by simp (disch:=first|omega|(simp only [lens];first|done|omega)) only [go_sem,reduceEqDiff,Nat.reduceBEq,reduceAdd,reduceMul,reduceSub,reduceLeDiff,reduceToNat,reducePow, q13], by simp (disch:=first|omega|(simp only [lens];first|done|omega)) only [go_sem,reduceEqDiff,Nat.reduceBEq,reduceAdd,reduceMul,reduceSub,reduceLeDiff,reduceToNat,reducePow, q14], by simp (disch:=first|omega|(simp only [lens];first|done|omega)) only [go_sem,reduceEqDiff,Nat.reduceBEq,reduceAdd,reduceMul,reduceSub,reduceLeDiff,reduceToNat,reducePow, q15]⟩
          · clear q7 q8 q9 q11 q12 q13 q14 q15 g0 g1 g2 g3 g4
            rintro i2 Z2 O2 ⟨_, last2, rfl, hM3, hlp, hp0, hor, hb2, hl2, q7, q8, q9, q11, q12, q13, q14, q15⟩
            have hln : last2 ≠ 0 := by
              intro e; rw [e, z5o] at hlp; simp at hlp
            by_cases hodd : i2 % 2 = 1
            · have hx1 : (i2 : Int) % 2 = 1 := by omega
              rw [z4g hodd hln] at hlp
              have hP2 : lp (i2 / 2) (last2 / 2) = P := by simpa using hlp
              rw [<- hP2] at hR
              repeat' (first|refine zW.zs ?_|refine zW.zb ?_|refine zW.zc ?_|refine zW.zt rfl ?_|refine zW.zf rfl ?_|(refine zW.zd rfl (fun ht => ?_) (fun ht => ?_)<;>try (exfalso;omega))|((first|refine zW.zr ?_|refine zW.zk ?_|refine zW.ze ?_|refine zW.zq ?_|((first|apply zg0|apply zg1|apply zg2|apply zg3|apply zg4|apply zg5|apply zg6|apply zg7)<;>intro ht));all_goals try simp (disch:=first|omega|(simp only [lens];first|done|omega)) only [go_sem,reduceEqDiff,Nat.reduceBEq,reduceAdd,reduceMul,reduceSub,reduceLeDiff,reduceToNat,reducePow, q7, q8, q9, q11, q12, q13, q14, q15, hx1]))
              exact ⟨last2 / 2, by omega, i2 / 2, last2 / 2, _, qs, _, _, rfl, hM3, hq, by omega, by omega, by omega, hR, by simp, by simp⟩
            · have hx1 : (i2 : Int) % 2 = 0 := by omega
              have hx2 : (0 : Int) < i2 := by omega
              obtain rfl : i2 = last2 := hor.resolve_left hodd
              rw [z6w hodd] at hlp
              repeat' (first|refine zW.zs ?_|refine zW.zb ?_|refine zW.zc ?_|refine zW.zt rfl ?_|refine zW.zf rfl ?_|(refine zW.zd rfl (fun ht => ?_) (fun ht => ?_)<;>try (exfalso;omega))|((first|refine zW.zr ?_|refine zW.zk ?_|refine zW.ze ?_|refine zW.zq ?_|((first|apply zg0|apply zg1|apply zg2|apply zg3|apply zg4|apply zg5|apply zg6|apply zg7)<;>intro ht));all_goals try simp (disch:=first|omega|(simp only [lens];first|done|omega)) only [go_sem,reduceEqDiff,Nat.reduceBEq,reduceAdd,reduceMul,reduceSub,reduceLeDiff,reduceToNat,reducePow, q7, q8, q9, q11, q12, q13, q14, q15, hx1, hx2]))
              exact ⟨i2 / 2, by omega, i2 / 2, i2 / 2, rfl, hM3, hlp, by omega, .inr rfl, by omega, by omega, by simp, by simp⟩
        · by_cases hc : i % 2 = 1
          · have hc1 : (i : Int) % 2 = 1 := by omega
            repeat' (first|refine zW.zs ?_|refine zW.zb ?_|refine zW.zc ?_|refine zW.zt rfl ?_|refine zW.zf rfl ?_|(refine zW.zd rfl (fun ht => ?_) (fun ht => ?_)<;>try (exfalso;omega))|((first|refine zW.zr ?_|refine zW.zk ?_|refine zW.ze ?_|refine zW.zq ?_|(apply callW.mk_pu; (first | exact (fun _ => hnx) | exact (fun _ => z1n _ h a hh hM.ha) | exact (fun _ => z1n _ h b hh hM.hb) | exact (fun _ => z1n _ b h hM.hb hh))) | (apply callW.za; (first | exact (hnx) | exact (z1n _ h a hh hM.ha) | exact (z1n _ h b hh hM.hb) | exact (z1n _ b h hM.hb hh))) | ((first|apply zg0|apply zg1|apply zg2|apply zg3|apply zg4|apply zg5|apply zg6|apply zg7)<;>intro ht));all_goals try simp (disch:=first|omega|(simp only [lens];first|done|omega)) only [go_sem,reduceEqDiff,Nat.reduceBEq,reduceAdd,reduceMul,reduceSub,reduceLeDiff,reduceToNat,reducePow, q7, q8, q9, q11, q12, q13, q14, q15, g0, g1, g2, g3, g4, ca, cb, ch, c7, c8, c9, d0, d1, d2, t0, t1, t2, hc1, hl0]))
            have hM2 := (((hM.setp (qs := qs) (qv := .vsl 32 (zm qs) ex) (.inr ⟨ex, rfl⟩)).seta (z4c h a)).setb (z4c h b)).app (y := [some [zg h], some [zg h]])
            refine zW.loop (fun m Z2 O2 => ∃ (i2 last2 : Nat), m = i2 /\ ChkM ia ib O O2 o nw (.vsl 32 (zm qs) ex) qs (z1d h a) (z1d h b) /\ lp i2 last2 = true :: P /\ 0 < i2 /\ (i2 % 2 = 1 \/ i2 = last2) /\ i2 < 4096 /\ last2 <= i ∧
              Z2 7 = .ptr O.length 0 0 /\ Z2 8 = .ptr (O.length + 1) 0 0 /\ Z2 9 = .ptr (O.length + 2) 0 0 /\ Z2 11 = .int .i64 i2 /\ Z2 12 = .int .i64 last2 /\ Z2 13 = .fn 109 [.ptr (O.length + 2) 0 0] /\ Z2 14 = .ptr (O.length + ia) 0 0 /\ Z2 15 = .ptr (O.length + ib) 0 0) i ?_ ?_
            · exact ⟨i, i, rfl, hM2, hP, by omega, .inr rfl, hi, by omega, by simp (disch:=first|omega|(simp only [lens];first|done|omega)) only [go_sem,reduceEqDiff,Nat.reduceBEq,reduceAdd,reduceMul,reduceSub,reduceLeDiff,reduceToNat,reducePow, q7], by simp (disch:=first|omega|(simp only [lens];first|done|omega)) only [go_sem,reduceEqDiff,Nat.reduceBEq,reduceAdd,reduceMul,reduceSub,reduceLeDiff,reduceToNat,reducePow, q8], by simp (disch:=first|omega|(simp only [lens];first|done|omega)) only [go_sem,reduceEqDiff,Nat.reduceBEq,reduceAdd,reduceMul,reduceSub,reduceLeDiff,reduceToNat,reducePow, q9], by simp (disch:=first|omega|(simp only [lens];first|done|omega)) only [go_sem,reduceEqDiff,Nat.reduceBEq,reduceAdd,reduceMul,reduceSub,reduceLeDiff,reduceToNat,reducePow, q11], by simp (disch:=first|omega|(simp only [lens];first|done|omega)) only [go_sem,reduceEqDiff,Nat.reduceBEq,reduceAdd,reduceMul,reduceSub,reduceLeDiff,reduceToNat,reducePow, q12], by simp (disch:=first|omega|(simp only [lens];first|done|omega)) only [go_sem,reduceEqDiff,Nat.reduceBEq,reduceAdd,reduceMul,reduceSub,reduceLeDiff,reduceToNat,reducePow, q13], by simp (disch:=first|omega|(simp only [lens];first|done|omega)) only [go_sem,reduceEqDiff,Nat.reduceBEq,reduceAdd,reduceMul,reduceSub,reduceLeDiff,reduceToNat,reducePow, q14], by simp (disch:=first|omega|(simp only [lens];first|done|omega)) only [go_sem,reduceEqDiff,Nat.reduceBEq,reduceAdd,reduceMul,reduceSub,reduceLeDiff,reduceToNat,reducePow, q15]⟩
            · clear q7 q8 q9 q11 q12 q13 q14 q15 g0 g1 g2 g3 g4
              rintro i2 Z2 O2 ⟨_, last2, rfl, hM3, hlp, hp0, hor, hb2, hl2, q7, q8, q9, q11, q12, q13, q14, q15⟩
              have hln : last2 ≠ 0 := by
                intro e; rw [e, z5o] at hlp; simp at hlp
              by_cases hodd : i2 % 2 = 1
              · have hx1 : (i2 : Int) % 2 = 1 := by omega
                rw [z4g hodd hln] at hlp
                have hP2 : lp (i2 / 2) (last2 / 2) = P := by simpa using hlp
                rw [<- hP2] at hR
                repeat' (first|refine zW.zs ?_|refine zW.zb ?_|refine zW.zc ?_|refine zW.zt rfl ?_|refine zW.zf rfl ?_|(refine zW.zd rfl (fun ht => ?_) (fun ht => ?_)<;>try (exfalso;omega))|((first|refine zW.zr ?_|refine zW.zk ?_|refine zW.ze ?_|refine zW.zq ?_|((first|apply zg0|apply zg1|apply zg2|apply zg3|apply zg4|apply zg5|apply zg6|apply zg7)<;>intro ht));all_goals try simp (disch:=first|omega|(simp only [lens];first|done|omega)) only [go_sem,reduceEqDiff,Nat.reduceBEq,reduceAdd,reduceMul,reduceSub,reduceLeDiff,reduceToNat,reducePow, q7, q8, q9, q11, q12, q13, q14, q15, hx1]))
                exact ⟨last2 / 2, by omega, i2 / 2, last2 / 2, _, qs, _, _, rfl, hM3, hq, by omega, by omega, by omega, hR, by simp, by simp⟩
              · have hx1 : (i2 : Int) % 2 = 0 := by omega
                have hx2 : (0 : Int) < i2 := by omega
                obtain rfl : i2 = last2 := hor.resolve_left hodd
                rw [z6w hodd] at hlp
                repeat' (first|refine zW.zs ?_|refine zW.zb ?_|refine zW.zc ?_|refine zW.zt rfl ?_|refine zW.zf rfl ?_|(refine zW.zd rfl (fun ht => ?_) (fun ht => ?_)<;>try (exfalso;omega))|((first|refine zW.zr ?_|refine zW.zk ?_|refine zW.ze ?_|refine zW.zq ?_|((first|apply zg0|apply zg1|apply zg2|apply zg3|apply zg4|apply zg5|apply zg6|apply zg7)<;>intro ht));all_goals try simp (disch:=first|omega|(simp only [lens];first|done|omega)) only [go_sem,reduceEqDiff,Nat.reduceBEq,reduceAdd,reduceMul,reduceSub,reduceLeDiff,reduceToNat,reducePow, q7, q8, q9, q11, q12, q13, q14, q15, hx1, hx2]))
                exact ⟨i2 / 2, by omega, i2 / 2, i2 / 2, rfl, hM3, hlp, by omega, .inr rfl, by omega, by omega, by simp, by simp⟩
          · have hc1 : (i : Int) % 2 = 0 := by omega
            repeat' (first|refine zW.zs ?_|refine zW.zb ?_|refine zW.zc ?_|refine zW.zt rfl ?_|refine zW.zf rfl ?_|(refine zW.zd rfl (fun ht => ?_) (fun ht => ?_)<;>try (exfalso;omega))|((first|refine zW.zr ?_|refine zW.zk ?_|refine zW.ze ?_|refine zW.zq ?_|(apply callW.mk_pu; (first | exact (fun _ => hnx) | exact (fun _ => z1n _ h a hh hM.ha) | exact (fun _ => z1n _ h b hh hM.hb) | exact (fun _ => z1n _ b h hM.hb hh))) | (apply callW.za; (first | exact (hnx) | exact (z1n _ h a hh hM.ha) | exact (z1n _ h b hh hM.hb) | exact (z1n _ b h hM.hb hh))) | ((first|apply zg0|apply zg1|apply zg2|apply zg3|apply zg4|apply zg5|apply zg6|apply zg7)<;>intro ht));all_goals try simp (disch:=first|omega|(simp only [lens];first|done|omega)) only [go_sem,reduceEqDiff,Nat.reduceBEq,reduceAdd,reduceMul,reduceSub,reduceLeDiff,reduceToNat,reducePow, q7, q8, q9, q11, q12, q13, q14, q15, g0, g1, g2, g3, g4, ca, cb, ch, c7, c8, c9, d0, d1, d2, t0, t1, t2, hc1, hl0]))
            have hM2 := (((hM.setp (qs := qs) (qv := .vsl 32 (zm qs) ex) (.inr ⟨ex, rfl⟩)).seta (z4c h a)).setb (z4c h b)).app (y := [some [zg h], some [zg h]])
            refine zW.loop (fun m Z2 O2 => ∃ (i2 last2 : Nat), m = i2 /\ ChkM ia ib O O2 o nw (.vsl 32 (zm qs) ex) qs (z1d h a) (z1d h b) /\ lp i2 last2 = true :: P /\ 0 < i2 /\ (i2 % 2 = 1 \/ i2 = last2) /\ i2 < 4096 /\ last2 <= i ∧
              Z2 7 = .ptr O.length 0 0 /\ Z2 8 = .ptr (O.length + 1) 0 0 /\ Z2 9 = .ptr (O.length + 2) 0 0 /\ Z2 11 = .int .i64 i2 /\ Z2 12 = .int .i64 last2 /\ Z2 13 = .fn 109 [.ptr (O.length + 2) 0 0] /\ Z2 14 = .ptr (O.length + ia) 0 0 /\ Z2 15 = .ptr (O.length + ib) 0 0) i ?_ ?_
            · exact ⟨i, i, rfl, hM2, hP, by omega, .inr rfl, hi, by omega, by simp (disch:=first|omega|(simp only [lens];first|done|omega)) only [go_sem,reduceEqDiff,Nat.reduceBEq,reduceAdd,reduceMul,reduceSub,reduceLeDiff,reduceToNat,reducePow, q7], by simp (disch:=first|omega|(simp only [lens];first|done|omega)) only [go_sem,reduceEqDiff,Nat.reduceBEq,reduceAdd,reduceMul,reduceSub,reduceLeDiff,reduceToNat,reducePow, q8], by simp (disch:=first|omega|(simp only [lens];first|done|omega)) only [go_sem,reduceEqDiff,Nat.reduceBEq,reduceAdd,reduceMul,reduceSub,reduceLeDiff,reduceToNat,reducePow, q9], by simp (disch:=first|omega|(simp only [lens];first|done|omega)) only [go_sem,reduceEqDiff,Nat.reduceBEq,reduceAdd,reduceMul,reduceSub,reduceLeDiff,reduceToNat,reducePow, q11], by simp (disch:=first|omega|(simp only [lens];first|done|omega)) only [go_sem,reduceEqDiff,Nat.reduceBEq,reduceAdd,reduceMul,reduceSub,reduceLeDiff,reduceToNat,reducePow, q12], by simp (disch:=first|omega|(simp only [lens];first|done|omega)) only [go_sem,reduceEqDiff,Nat.reduceBEq,reduceAdd,reduceMul,reduceSub,reduceLeDiff,reduceToNat,reducePow, q13], by simp (disch:=first|omega|(simp only [lens];first|done|omega)) only [go_sem,reduceEqDiff,Nat.reduceBEq,reduceAdd,reduceMul,reduceSub,reduceLeDiff,reduceToNat,reducePow, q14], by simp (disch:=first|omega|(simp only [lens];first|done|omega)) only [go_sem,reduceEqDiff,Nat.reduceBEq,reduceAdd,reduceMul,reduceSub,reduceLeDiff,reduceToNat,reducePow, q15]⟩
            · clear q7 q8 q9 q11 q12 q13 q14 q15 g0 g1 g2 g3 g4
              rintro i2 Z2 O2 ⟨_, last2, rfl, hM3, hlp, hp0, hor, hb2, hl2, q7, q8, q9, q11, q12, q13, q14, q15⟩
              have hln : last2 ≠ 0 := by
                intro e; rw [e, z5o] at hlp; simp at hlp
              by_cases hodd : i2 % 2 = 1
              · have hx1 : (i2 : Int) % 2 = 1 := by omega
                rw [z4g hodd hln] at hlp
                have hP2 : lp (i2 / 2) (last2 / 2) = P := by simpa using hlp
                rw [<- hP2] at hR
                repeat' (first|refine zW.zs ?_|refine zW.zb ?_|refine zW.zc ?_|refine zW.zt rfl ?_|refine zW.zf rfl ?_|(refine zW.zd rfl (fun ht => ?_) (fun ht => ?_)<;>try (exfalso;omega))|((first|refine zW.zr ?_|refine zW.zk ?_|refine zW.ze ?_|refine zW.zq ?_|((first|apply zg0|apply zg1|apply zg2|apply zg3|apply zg4|apply zg5|apply zg6|apply zg7)<;>intro ht));all_goals try simp (disch:=first|omega|(simp only [lens];first|done|omega)) only [go_sem,reduceEqDiff,Nat.reduceBEq,reduceAdd,reduceMul,reduceSub,reduceLeDiff,reduceToNat,reducePow, q7, q8, q9, q11, q12, q13, q14, q15, hx1]))
                exact ⟨last2 / 2, by omega, i2 / 2, last2 / 2, _, qs, _, _, rfl, hM3, hq, by omega, by omega, by omega, hR, by simp, by simp⟩
              · have hx1 : (i2 : Int) % 2 = 0 := by omega
                have hx2 : (0 : Int) < i2 := by omega
                obtain rfl : i2 = last2 := hor.resolve_left hodd
                rw [z6w hodd] at hlp
                repeat' (first|refine zW.zs ?_|refine zW.zb ?_|refine zW.zc ?_|refine zW.zt rfl ?_|refine zW.zf rfl ?_|(refine zW.zd rfl (fun ht => ?_) (fun ht => ?_)<;>try (exfalso;omega))|((first|refine zW.zr ?_|refine zW.zk ?_|refine zW.ze ?_|refine zW.zq ?_|((first|apply zg0|apply zg1|apply zg2|apply zg3|apply zg4|apply zg5|apply zg6|apply zg7)<;>intro ht));all_goals try simp (disch:=first|omega|(simp only [lens];first|done|omega)) only [go_sem,reduceEqDiff,Nat.reduceBEq,reduceAdd,reduceMul,reduceSub,reduceLeDiff,reduceToNat,reducePow, q7, q8, q9, q11, q12, q13, q14, q15, hx1, hx2]))
                exact ⟨i2 / 2, by omega, i2 / 2, i2 / 2, rfl, hM3, hlp, by omega, .inr rfl, by omega, by omega, by simp, by simp⟩
      · have hc1 : (i : Int) % 2 = 0 := by omega
        have hc2 : ¬ (i : Int) = last := by omega
        have hl0 : (0 : Int) < last := by omega
        rw [z69 (by omega) h0 (by omega)] at hR
        repeat' (first|refine zW.zs ?_|refine zW.zb ?_|refine zW.zc ?_|refine zW.zt rfl ?_|refine zW.zf rfl ?_|(refine zW.zd rfl (fun ht => ?_) (fun ht => ?_)<;>try (exfalso;omega))|((first|refine zW.zr ?_|refine zW.zk ?_|refine zW.ze ?_|refine zW.zq ?_|(apply callW.mk_pu; (first | exact (fun _ => hnx) | exact (fun _ => z1n _ h a hh hM.ha) | exact (fun _ => z1n _ h b hh hM.hb) | exact (fun _ => z1n _ b h hM.hb hh))) | (apply callW.za; (first | exact (hnx) | exact (z1n _ h a hh hM.ha) | exact (z1n _ h b hh hM.hb) | exact (z1n _ b h hM.hb hh))) | ((first|apply zg0|apply zg1|apply zg2|apply zg3|apply zg4|apply zg5|apply zg6|apply zg7)<;>intro ht));all_goals try simp (disch:=first|omega|(simp only [lens];first|done|omega)) only [go_sem,reduceEqDiff,Nat.reduceBEq,reduceAdd,reduceMul,reduceSub,reduceLeDiff,reduceToNat,reducePow, q7, q8, q9, q11, q12, q13, q14, q15, g0, g1, g2, g3, g4, ca, cb, ch, c7, c8, c9, d0, d1, d2, t0, t1, t2, hc1, hc2, hl0]))
        exact ⟨last / 2, by omega, i / 2, last / 2, _, qs, a, z1d b h, rfl, ((hM.setp (qs := qs) (qv := .vsl 32 (zm qs) ex) (.inr ⟨ex, rfl⟩)).setb (z4c b h)).app, hq, by omega, by omega, by omega, hR, by simp, by simp⟩
end Am
end Go.Proofs.YtncenefkbpelbaaDoor
end
section
/- Proofs: contract: Check of the program. -/
namespace Go.Proofs.YtncenefkbpelbaaDoor
namespace Am
attribute [local irreducible] zbu
set_option maxHeartbeats 8000000 in
theorem zhj (O : Store) (m n : Nat) (o nw : List UInt8) (x : AV) (ps : List (List UInt8)) (hx : SlV 32 (zm ps) x) (hH : H32 ps) (ho : o.length = 32) (hn : nw.length = 32) (h0 : 0 < m) (h1 : m < n) (h2 : n <= 4096) (hl : ps.length < 1000000) :
    ACallsTo TC 64 [.int .i64 m, .int .i64 n, .agg (zg o), .agg (zg nw), x] O (.int .i64 (fitI (chkS (m - 1) (n - 1) o ps) o nw)) O := by
  have r0 := hx.cells
  unfold cellsOf at r0
  have c1 := z18 o
  have c2 := z18 nw
  rw [ho] at c1
  rw [hn] at c2
  have d1 := z7w ho
  have t1 := z7x ho
  obtain ⟨R, hR⟩ : ∃ R, R = chkS (m - 1) (n - 1) o ps := ⟨_, rfl⟩
  rw [<- hR]
  refine ACallsTo.of_body qpok (by simp) fun hw _ => ?_
  have hm1 : (m : Int) - 1 = ((m - 1 : Nat) : Int) := by omega
  have hn1 : (n : Int) - 1 = ((n - 1 : Nat) : Int) := by omega
  repeat' (first|refine zW.zs ?_|refine zW.zb ?_|refine zW.zc ?_|refine zW.zt rfl ?_|refine zW.zf rfl ?_|(refine zW.zd rfl (fun ht => ?_) (fun ht => ?_)<;>try (exfalso;omega))|((first|refine zW.zr ?_|refine zW.zk ?_|refine zW.ze ?_|refine zW.zq ?_|((first|apply zg0|apply zg1|apply zg2|apply zg3|apply zg4|apply zg5|apply zg6|apply zg7)<;>intro ht));all_goals try simp (disch:=first|omega|(simp only [lens];first|done|omega)) only [go_sem,reduceEqDiff,Nat.reduceBEq,reduceAdd,reduceMul,reduceSub,reduceLeDiff,reduceToNat,reducePow, r0, hm1, hn1]))
  refine zW.loop (fun k Z O' => ∃ (i last : Nat), k = i /\ O' = O ++ [some [zg o], some [zg nw], some [[x]]] /\ R = chkG (st i last).1 (st i last).2 o ps /\ i < 4096 /\ last < 4096 ∧
    Z 7 = .ptr O.length 0 0 /\ Z 8 = .ptr (O.length + 1) 0 0 /\ Z 9 = .ptr (O.length + 2) 0 0 /\ Z 11 = .int .i64 i /\ Z 12 = .int .i64 last) (m - 1) ?_ ?_
  · exact ⟨m - 1, n - 1, rfl, by simp, hR, by omega, by omega, by simp (disch:=first|omega|(simp only [lens];first|done|omega)) only [go_sem,reduceEqDiff,Nat.reduceBEq,reduceAdd,reduceMul,reduceSub,reduceLeDiff,reduceToNat,reducePow], by simp (disch:=first|omega|(simp only [lens];first|done|omega)) only [go_sem,reduceEqDiff,Nat.reduceBEq,reduceAdd,reduceMul,reduceSub,reduceLeDiff,reduceToNat,reducePow], by simp (disch:=first|omega|(simp only [lens];first|done|omega)) only [go_sem,reduceEqDiff,Nat.reduceBEq,reduceAdd,reduceMul,reduceSub,reduceLeDiff,reduceToNat,reducePow], by simp (disch:=first|omega|(simp only [lens];first|done|omega)) only [go_sem,reduceEqDiff,Nat.reduceBEq,reduceAdd,reduceMul,reduceSub,reduceLeDiff,reduceToNat,reducePow], by simp (disch:=first|omega|(simp only [lens];first|done|omega)) only [go_sem,reduceEqDiff,Nat.reduceBEq,reduceAdd,reduceMul,reduceSub,reduceLeDiff,reduceToNat,reducePow]⟩
  · clear hm1 hn1 hR h0 h1 h2
    rintro i Z O' ⟨_, last, rfl, rfl, hR, hi, hla, q7, q8, q9, q11, q12⟩
    by_cases ho1 : i % 2 = 1
    · have hx1 : (i : Int) % 2 = 1 := by omega
      rw [z5x ho1] at hR
      repeat' (first|refine zW.zs ?_|refine zW.zb ?_|refine zW.zc ?_|refine zW.zt rfl ?_|refine zW.zf rfl ?_|(refine zW.zd rfl (fun ht => ?_) (fun ht => ?_)<;>try (exfalso;omega))|((first|refine zW.zr ?_|refine zW.zk ?_|refine zW.ze ?_|refine zW.zq ?_|((first|apply zg0|apply zg1|apply zg2|apply zg3|apply zg4|apply zg5|apply zg6|apply zg7)<;>intro ht));all_goals try simp (disch:=first|omega|(simp only [lens];first|done|omega)) only [go_sem,reduceEqDiff,Nat.reduceBEq,reduceAdd,reduceMul,reduceSub,reduceLeDiff,reduceToNat,reducePow, q7, q8, q9, q11, q12, hx1]))
      exact ⟨i / 2, by omega, i / 2, last / 2, rfl, hR, by omega, by omega, by simp, by simp⟩
    · have hx1 : (i : Int) % 2 = 0 := by omega
      rw [z4z ho1] at hR
      simp only [chkG] at hR
      have hM : ∀ ia ib : Nat, ((ia = 3 /\ ib = 4) \/ (ia = 4 /\ ib = 3)) -> ChkM ia ib O (O ++ [some [zg o], some [zg nw], some [[x]], some [zg o], some [zg o]]) o nw x ps o o := fun ia ib hab =>
        ⟨hab, by simp, fun q hq => gapp hq, by simp, by simp, by simp, by rcases hab with ⟨rfl, rfl⟩ | ⟨rfl, rfl⟩ <;> simp, by rcases hab with ⟨rfl, rfl⟩ | ⟨rfl, rfl⟩ <;> simp, hx, ho, ho⟩
      have key : ∀ (ia ib : Nat), ((ia = 3 /\ ib = 4) \/ (ia = 4 /\ ib = 3)) -> ∀ Z1 : Env, Z1 7 = .ptr O.length 0 0 -> Z1 8 = .ptr (O.length + 1) 0 0 -> Z1 9 = .ptr (O.length + 2) 0 0 -> Z1 11 = .int .i64 i -> Z1 12 = .int .i64 last ->
          Z1 13 = .fn 109 [.ptr (O.length + 2) 0 0] -> Z1 14 = .ptr (O.length + ia) 0 0 -> Z1 15 = .ptr (O.length + ib) 0 0 ->
          zW TC 152 O.length qpc72 (endQ O.length [.t 10] (.int .i64 (fitI R o nw)) O) Z1 (O ++ [some [zg o], some [zg nw], some [[x]], some [zg o], some [zg o]]) := by
        clear q7 q8 q9 q11 q12
        intro ia ib hab Z1 q7 q8 q9 q11 q12 q13 q14 q15
        have hM1 := hM ia ib hab
        by_cases hi0 : i = 0
        · subst hi0
          rw [if_neg (by omega)] at hR
          repeat' (first|refine zW.zs ?_|refine zW.zb ?_|refine zW.zc ?_|refine zW.zt rfl ?_|refine zW.zf rfl ?_|(refine zW.zd rfl (fun ht => ?_) (fun ht => ?_)<;>try (exfalso;omega))|((first|refine zW.zr ?_|refine zW.zk ?_|refine zW.ze ?_|refine zW.zq ?_|((first|apply zg0|apply zg1|apply zg2|apply zg3|apply zg4|apply zg5|apply zg6|apply zg7)<;>intro ht));all_goals try simp (disch:=first|omega|(simp only [lens];first|done|omega)) only [go_sem,reduceEqDiff,Nat.reduceBEq,reduceAdd,reduceMul,reduceSub,reduceLeDiff,reduceToNat,reducePow, q7, q8, q9, q11, q12, c1, c2, d1, t1]))
          refine zd4 ia ib O hw o nw ho hn R _ _ 0 last x ps o o hM1 hH (by omega) hla hl hR.symm ?_ ?_ ?_ ?_ ?_ ?_ ?_ ?_ <;> simp (disch:=first|omega|(simp only [lens];first|done|omega)) only [go_sem,reduceEqDiff,Nat.reduceBEq,reduceAdd,reduceMul,reduceSub,reduceLeDiff,reduceToNat,reducePow, q7, q8, q9, q11, q12, q13, q14, q15]
        · have hi1 : (0 : Int) < i := by omega
          rw [if_pos (by omega)] at hR
          have g2 := hM1.g2
          have g3 := hM1.g3
          have g4 := hM1.g4
          have hlen := hM1.len
          cases ps with
          | nil =>
            have hnx := zf0 (O.length + 2) _ x hx g2
            have cz : (zg z4k).length = 32 := by rw [z18]; rfl
            have dz : (zg z4k).drop 32 = [] := rfl
            have hf : fitI R o nw = 80 := by rw [hR]; rfl
            rw [hf]
            have hM2 := hM1.app (y := [some [zg z4k], some [zg z4k]])
            generalize (O ++ [some [zg o], some [zg nw], some [[x]], some [zg o], some [zg o]]) = O1 at *
            repeat' (first|refine zW.zs ?_|refine zW.zb ?_|refine zW.zc ?_|refine zW.zt rfl ?_|refine zW.zf rfl ?_|(refine zW.zd rfl (fun ht => ?_) (fun ht => ?_)<;>try (exfalso;omega))|((first|refine zW.zr ?_|refine zW.zk ?_|refine zW.ze ?_|refine zW.zq ?_|(apply callW.mk_pu; (first | exact (fun _ => hnx))) | (apply callW.za; (first | exact (hnx))) | ((first|apply zg0|apply zg1|apply zg2|apply zg3|apply zg4|apply zg5|apply zg6|apply zg7)<;>intro ht));all_goals try simp (disch:=first|omega|(simp only [lens];first|done|omega)) only [go_sem,reduceEqDiff,Nat.reduceBEq,reduceAdd,reduceMul,reduceSub,reduceLeDiff,reduceToNat,reducePow, q7, q8, q9, q11, q12, q13, q14, q15, c1, c2, d1, t1, hi1, cz, dz]))
            exact hM2.fin hw
          | cons h qs =>
            have hh : h.length = 32 := hH h (by simp)
            have hq : H32 qs := fun x hx => hH x (by simp [hx])
            obtain ⟨ex, rfl⟩ := hx.vsl (by rw [z3v]; simp)
            simp only [List.length_cons] at hl
            have hnx := zf1 (O.length + 2) _ h qs ex hh (by omega) g2
            have ch := z18 h
            rw [hh] at ch
            have d2 := z7w hh
            have t2 := z7x hh
            have hM2 := ((((hM1.setp (qs := qs) (qv := .vsl 32 (zm qs) ex) (.inr ⟨ex, rfl⟩)).seta hh).setb hh).app (y := [some [zg h], some [zg h]]))
            generalize (O ++ [some [zg o], some [zg nw], some [[AV.vsl 32 (zm (h :: qs)) ex]], some [zg o], some [zg o]]) = O1 at *
            repeat' (first|refine zW.zs ?_|refine zW.zb ?_|refine zW.zc ?_|refine zW.zt rfl ?_|refine zW.zf rfl ?_|(refine zW.zd rfl (fun ht => ?_) (fun ht => ?_)<;>try (exfalso;omega))|((first|refine zW.zr ?_|refine zW.zk ?_|refine zW.ze ?_|refine zW.zq ?_|(apply callW.mk_pu; (first | exact (fun _ => hnx))) | (apply callW.za; (first | exact (hnx))) | ((first|apply zg0|apply zg1|apply zg2|apply zg3|apply zg4|apply zg5|apply zg6|apply zg7)<;>intro ht));all_goals try simp (disch:=first|omega|(simp only [lens];first|done|omega)) only [go_sem,reduceEqDiff,Nat.reduceBEq,reduceAdd,reduceMul,reduceSub,reduceLeDiff,reduceToNat,reducePow, q7, q8, q9, q11, q12, q13, q14, q15, g2, g3, g4, c1, c2, ch, d1, d2, t1, t2, hi1]))
            refine zd4 ia ib O hw o nw ho hn R _ _ i last (.vsl 32 (zm qs) ex) qs h h hM2 hq hi hla (by omega) hR.symm ?_ ?_ ?_ ?_ ?_ ?_ ?_ ?_ <;> simp (disch:=first|omega|(simp only [lens];first|done|omega)) only [go_sem,reduceEqDiff,Nat.reduceBEq,reduceAdd,reduceMul,reduceSub,reduceLeDiff,reduceToNat,reducePow, q7, q8, q9, q11, q12, q13, q14, q15]
      clear hM
      repeat' (first|refine zW.zs ?_|refine zW.zb ?_|refine zW.zc ?_|refine zW.zt rfl ?_|refine zW.zf rfl ?_|(refine zW.zd rfl (fun ht => ?_) (fun ht => ?_)<;>try (exfalso;omega))|((first|refine zW.zr ?_|refine zW.zk ?_|refine zW.ze ?_|refine zW.zq ?_|((first|apply zg0|apply zg1|apply zg2|apply zg3|apply zg4|apply zg5|apply zg6|apply zg7)<;>intro ht));all_goals try simp (disch:=first|omega|(simp only [lens];first|done|omega)) only [go_sem,reduceEqDiff,Nat.reduceBEq,reduceAdd,reduceMul,reduceSub,reduceLeDiff,reduceToNat,reducePow, q7, q8, q9, q11, q12, hx1]))
      refine zW.reg2 ?_ ?_
      · simp (disch:=first|omega|(simp only [lens];first|done|omega)) only [go_sem,reduceEqDiff,Nat.reduceBEq,reduceAdd,reduceMul,reduceSub,reduceLeDiff,reduceToNat,reducePow, q7, q8, q9, q11, q12, c1, c2, d1, t1]
        refine key 3 4 (.inl ⟨rfl, rfl⟩) _ ?_ ?_ ?_ ?_ ?_ ?_ ?_ ?_ <;> simp (disch:=first|omega|(simp only [lens];first|done|omega)) only [go_sem,reduceEqDiff,Nat.reduceBEq,reduceAdd,reduceMul,reduceSub,reduceLeDiff,reduceToNat,reducePow, q7, q8, q9, q11, q12]
      · simp (disch:=first|omega|(simp only [lens];first|done|omega)) only [go_sem,reduceEqDiff,Nat.reduceBEq,reduceAdd,reduceMul,reduceSub,reduceLeDiff,reduceToNat,reducePow, q7, q8, q9, q11, q12, c1, c2, d1, t1]
        refine key 4 3 (.inr ⟨rfl, rfl⟩) _ ?_ ?_ ?_ ?_ ?_ ?_ ?_ ?_ <;> simp (disch:=first|omega|(simp only [lens];first|done|omega)) only [go_sem,reduceEqDiff,Nat.reduceBEq,reduceAdd,reduceMul,reduceSub,reduceLeDiff,reduceToNat,reducePow, q7, q8, q9, q11, q12]
theorem zhm (O : Store) (m n : Int) (o nw : List UInt8) (x : AV) (ps : List (List UInt8)) (hx : SlV 32 (zm ps) x) (hH : H32 ps) (ho : o.length = 32) (hn : nw.length = 32) (hl : ps.length < 1000000) :
    ACallsTo TC 64 [.int .i64 m, .int .i64 n, .agg (zg o), .agg (zg nw), x] O (.int .i64 (chkI m n o nw ps)) O := by
  unfold chkI
  by_cases h1 : n < 0 \/ 4096 < n \/ m < 0 \/ n < m
  · rw [if_pos h1]; exact zhi O m n o nw x _ hx h1
  · rw [if_neg h1]
    by_cases h2 : m = 0
    · subst h2; rw [if_pos rfl]; exact zhn O n o nw x ps hx ho hn (by omega) (by omega) hl
    · rw [if_neg h2]
      by_cases h3 : m = n
      · subst h3; rw [if_pos rfl]; exact zhl O m o nw x ps hx ho hn (by omega) (by omega) hl
      · rw [if_neg h3]
        obtain ⟨m, rfl⟩ : ∃ k : Nat, m = k := ⟨m.toNat, by omega⟩
        obtain ⟨n, rfl⟩ : ∃ k : Nat, n = k := ⟨n.toNat, by omega⟩
        exact zhj O m n o nw x ps hx hH ho hn (by omega) (by omega) (by omega) hl
theorem zhk (O : Store) (m n : Int) (o nw : List UInt8) (x : AV) (ps : List (List UInt8)) (hx : RdSl O 32 (zm ps) x) (hH : H32 ps) (ho : o.length = 32) (hn : nw.length = 32) (hl : ps.length < 1000000) :
    ACallsTo TC 64 [.int .i64 m, .int .i64 n, .agg (zg o), .agg (zg nw), x] O (.int .i64 (chkI m n o nw ps)) O := by
  obtain ⟨x0, h0, hd⟩ := hx.lend (z73 ps)
  have hi : ∀ i : Int, RL 0 (.int .i64 i) := fun i => by simp [RL]
  have := ACallsTo.lend glok (zhm [] m n o nw x0 ps h0 hH ho hn hl) (drsc (rl0 (hi m) O) (drsc (rl0 (hi n) O) (drsc (rl0 (z3j (z3l _)) O) (drsc (rl0 (z3j (z3l _)) O) (drs1 hd)))))
  rwa [show sh O.length (.int .i64 (chkI m n o nw ps)) = .int .i64 (chkI m n o nw ps) from rfl, z6h, List.append_nil] at this
end Am
end Go.Proofs.YtncenefkbpelbaaDoor
end
section
/- Proofs: contract: the law's own example. -/
namespace Go.Proofs.YtncenefkbpelbaaDoor
namespace Am
theorem split2 : zn 2 = 1 := by decide
theorem ProofP.is {O O' : Store} {hs : List (List UInt8)} {m : Int} {v : AV} (h : ProofP O hs m v O') : ∃ v2, v = .tup [v2, .int .i64 (z47 hs m)] /\ OwnN 32 O O' v2 (zm (z1x hs m)) := h
end Am
end Go.Proofs.YtncenefkbpelbaaDoor
end
section
/- Proofs: the law ProofsProof: its contract. -/
namespace Go.Proofs.YtncenefkbpelbaaDoor
namespace Am
def z4p : Ty := .row (List.replicate 32 (.int .u8))
theorem zdm : ∀ (n : Nat) (cs : List AV), z43 (List.replicate n (.int .u8)) cs -> ∃ h : List UInt8, cs = zg h /\ h.length = n
  | 0, cs, h => ⟨[], by simpa only [List.replicate_zero, z43, zg, List.map_nil] using h, rfl⟩
  | n + 1, cs, h => by
    simp only [List.replicate_succ, z43, ShC] at h
    obtain ⟨_, b, rfl, ⟨x, rfl, h1, h2⟩, h3⟩ := h
    obtain ⟨l, rfl, hl⟩ := zdm n b h3
    simp only [IntKind.min, IntKind.max, IntKind.signed, IntKind.bits] at h1 h2
    simp at h1 h2
    refine ⟨UInt8.ofNat x.toNat :: l, ?_, by simp [hl]⟩
    have : ((UInt8.ofNat x.toNat).toNat : Int) = x := by rw [UInt8.toNat_ofNat']; omega
    simp only [zg, List.map_cons, List.singleton_append, this]
theorem zed {cs : List AV} (h : ShC z4p cs) : ∃ l : List UInt8, cs = zg l /\ l.length = 32 := zdm 32 cs (by simpa only [z4p, ShC] using h)
theorem zee : ∀ (es : List (List AV)), (∀ x ∈ es, ShC z4p x) -> ∃ hs, es = zm hs /\ H32 hs
  | [], _ => ⟨[], rfl, fun _ h => by simp at h⟩
  | e :: es, h => by
    obtain ⟨l, rfl, hl⟩ := zed (h e (by simp))
    obtain ⟨hs, rfl, hH⟩ := zee es (fun x hx => h x (by simp [hx]))
    refine ⟨l :: hs, rfl, fun x hx => ?_⟩
    rcases List.mem_cons.1 hx with rfl | hx
    · exact hl
    · exact hH x hx
theorem RefP.ex (O : Store) (hs : List (List UInt8)) (m : Int) : ∃ v O', RefP O hs m v O' := ⟨_, _, _, rfl, .inl (z84 O 32 _)⟩
end Am
end Go.Proofs.YtncenefkbpelbaaDoor
end
section
/- Hashes as_ one thing each: 32 bytes, hidden behind a name. -/
namespace Go.Proofs.YtncenefkbpelbaaDoor
namespace Am
abbrev Hash := {l : List UInt8 // l.length = 32}
def hc (h : Hash) : List AV := zg h.1
def hr (l : List Hash) : List (List AV) := l.map hc
def hb (l : List Hash) : List (List UInt8) := l.map (·.1)
theorem hb_H (l : List Hash) : H32 (hb l) := fun x hx => by
  simp only [hb, List.mem_map] at hx
  obtain ⟨h, _, rfl⟩ := hx
  exact h.2
theorem z58 (l : List Hash) : (hb l).length = l.length := by simp [hb]
theorem zkf (l : List Hash) (n : Nat) : (hb l).take n = hb (l.take n) := by simp [hb, List.map_take]
theorem zkc (l : List Hash) (n : Nat) : (hb l).drop n = hb (l.drop n) := by simp [hb, List.map_drop]
theorem z67 (l : List Hash) : zm (hb l) = hr l := by simp [zm, hb, hr, hc]
theorem hb_of : ∀ {l : List (List UInt8)}, H32 l -> ∃ m : List Hash, l = hb m
  | [], _ => ⟨[], rfl⟩
  | x :: l, h => by
    obtain ⟨m, hm⟩ := hb_of (l := l) fun y hy => h y (by simp [hy])
    exact ⟨⟨x, h x (by simp)⟩ :: m, by simp [hb, hm]⟩
@[go_sem] theorem z7 (h : Hash) : (hc h).length = 32 := by rw [hc, z18, h.2]
@[go_sem] theorem zkg (h : Hash) : (hc h).drop 32 = [] := List.drop_of_length_le (by rw [z7]; decide)
@[go_sem] theorem zkh (h : Hash) : (hc h).take 32 = hc h := List.take_of_length_le (by rw [z7]; decide)
@[go_sem] theorem z7y (h : Hash) (l : List AV) : (hc h ++ l).take 32 = hc h := by
  have := z7 h
  rw [List.take_append_of_le_length (by omega), zkh]
@[go_sem] theorem z9e (h : Hash) (l : List AV) : (hc h ++ l).drop 32 = l := by
  have := z7 h
  rw [List.drop_append_of_le_length (by omega), zkg, List.nil_append]
@[go_sem] theorem hc_eq (a b : Hash) : z22 (hc a) (hc b) = decide (a = b) := by
  rw [hc, hc, z65, Bool.eq_iff_iff]
  simp [Subtype.ext_iff]
@[go_sem] theorem hc_kinds (h : Hash) : (hc h).map z1g = (List.replicate 32 (LK.i .u8)).map some := z4r h.2
@[go_sem] theorem z6 (l : List Hash) : (hr l).length = l.length := by simp [hr]
@[go_sem] theorem zef (l : List Hash) (n : Nat) : (hr l).take n = hr (l.take n) := by simp [hr, List.map_take]
@[go_sem] theorem hr_drop (l : List Hash) (n : Nat) : (hr l).drop n = hr (l.drop n) := by simp [hr, List.map_drop]
@[go_sem] theorem hr_set (l : List Hash) (i : Nat) (h : Hash) : (hr l).set i (hc h) = hr (l.set i h) := by simp [hr, List.map_set]
theorem hr_app (a b : List Hash) : hr (a ++ b) = hr a ++ hr b := by simp [hr]
theorem z9g : hr [] = [] := rfl
theorem hr_nil_iff {l : List Hash} : hr l = [] ↔ l = [] := by simp [hr]
def z5f : Hash := ⟨List.replicate 32 0, by simp⟩
def hd (l : List Hash) (i : Nat) : Hash := l.getD i z5f
@[go_sem] theorem hr_get {l : List Hash} {i : Nat} (h : i < l.length) : (hr l)[i]? = some (hc (hd l i)) := by
  simp [hr, hd, List.getElem?_map, List.getElem?_eq_getElem h]
theorem z9f {l : List Hash} {i : Nat} (h : i < l.length) : hd l i = l[i] := by simp [hd, h]
theorem z6d {k : Nat} (h : Hash) : RLs k (hc h) := z3l _
theorem z3f {k : Nat} (l : List Hash) : RLss k (hr l) := by rw [<- z67]; exact z73 _
theorem zge (k : Nat) (h : Hash) : shs k (hc h) = hc h := zcd k _
def z15 (a b : Hash) : Hash := ⟨z1d a.1 b.1, z4c _ _⟩
def z3m (l : List Hash) : Hash := ⟨zy (hb l), z3q (hb_H l)⟩
def shaH (s : List UInt8) : Hash := ⟨shaS s, zcc s⟩
theorem zfs (h : Hash) : z3m [h] = h := rfl
theorem zft {l : List Hash} (h : 2 <= l.length) : z3m l = z15 (z3m (l.take (zn l.length))) (z3m (l.drop (zn l.length))) := by
  apply Subtype.ext
  show zy (hb l) = z1d (zy (hb _)) (zy (hb _))
  rw [<- zkf, <- zkc]
  have := z74 (l := hb l) (by rw [z58]; exact h)
  rwa [z58] at this
theorem zcv (O : Store) (a b : Hash) : ACallsTo TC 90 [.agg (hc a), .agg (hc b)] O (.agg (hc (z15 a b))) O := z1n O a.1 b.1 a.2 b.2
theorem z5t (O : Store) (a b : Hash) : ACallsTo TC 72 [.agg (hc a), .agg (hc b)] O (.agg (hc (z15 a b))) O := zby O a.1 b.1 a.2 b.2
theorem zh3 (O : Store) (l : List Hash) (x : AV) (hx : RdSl O 32 (hr l) x) (hl : l.length < 1000000000) : ACallsTo TC 45 [x] O (.agg (hc (z3m l))) O :=
  zoz O (hb l) x (by rw [z67]; exact hx) (hb_H l) (by rw [z58]; exact hl)
theorem znh (O : Store) (l : List Hash) (x : AV) (hx : RdSl O 32 (hr l) x) (hl : l.length < 1000000000) : ACallsTo TC 25 [x] O (.agg (hc (z3m l))) O :=
  zni O (hb l) x (by rw [z67]; exact hx) (hb_H l) (by rw [z58]; exact hl)
def unb (l : List (List UInt8)) : List Hash := l.filterMap fun x => if h : x.length = 32 then some ⟨x, h⟩ else none
theorem zh8 : ∀ {l : List (List UInt8)}, H32 l -> hb (unb l) = l
  | [], _ => rfl
  | x :: l, h => by
    have h1 : x.length = 32 := h x (by simp)
    have ih := zh8 (l := l) fun y hy => h y (by simp [hy])
    simp only [unb, List.filterMap_cons, dif_pos h1]
    show x :: hb (unb l) = _
    rw [ih]
theorem zkb {cs : List AV} (h : ShC z4p cs) : ∃ l : Hash, cs = hc l := by
  obtain ⟨l, rfl, hl⟩ := zed h
  exact ⟨⟨l, hl⟩, rfl⟩
end Am
end Go.Proofs.YtncenefkbpelbaaDoor
end
section
/- Ranges: plain laws: trees side by side, and what is pushed behind them. -/
namespace Go.Proofs.YtncenefkbpelbaaDoor
namespace Am
/-- A tree behind others, the last one first. -/
def z3k : Nat -> List Hash -> Hash -> List Hash
  | _, [], h => [h]
  | m, x :: rs, h => if m % 2 = 1 then z3k (m / 2) rs (z15 x h) else h :: x :: rs
theorem zbo {m : Nat} {rs : List Hash} {h : Hash} (hm : m % 2 = 0) : z3k m rs h = h :: rs := by
  cases rs with
  | nil => rfl
  | cons x rs => simp [z3k, hm]
theorem zbp {m : Nat} {rs : List Hash} {x h : Hash} (hm : m % 2 = 1) : z3k m (x :: rs) h = z3k (m / 2) rs (z15 x h) := by simp [z3k, hm]
/-- Trees with their sizes, the last one first. -/
def trR : Nat -> Nat -> Nat -> List Hash -> List (Nat × Hash)
  | 0, _, _, _ => []
  | f + 1, k, m, rs => if m % 2 = 1 then (match rs with | x :: rs => (k, x) :: trR f (2 * k) (m / 2) rs | [] => []) else trR f (2 * k) (m / 2) rs
def z1m : Nat × Hash -> List (Nat × Hash) -> List (Nat × Hash)
  | t, [] => [t]
  | t, u :: l => if t.1 = u.1 then z1m (2 * t.1, z15 u.2 t.2) l else t :: u :: l
theorem zcu : ∀ (f k m : Nat) (rs : List Hash), ∀ u ∈ trR f k m rs, k <= u.1
  | 0, _, _, _, u, h => by simp [trR] at h
  | f + 1, k, m, rs, u, h => by
    simp only [trR] at h
    split at h
    · split at h
      · rcases List.mem_cons.1 h with rfl | h
        · exact Nat.le_refl _
        · have := zcu f _ _ _ u h; omega
      · simp at h
    · have := zcu f _ _ _ u h; omega
theorem zl7 {t : Nat × Hash} {l : List (Nat × Hash)} (h : ∀ u ∈ l, t.1 < u.1) : z1m t l = t :: l := by
  cases l with
  | nil => rfl
  | cons u l => simp only [z1m]; rw [if_neg (by have := h u (by simp); omega)]
theorem zen : ∀ (f k m : Nat) (rs : List Hash) (h : Hash), 0 < k -> m + 1 < 2 ^ f -> rs.length = pc f m -> z1m (k, h) (trR f k m rs) = trR f k (m + 1) (z3k m rs h)
  | 0, _, _, _, _, _, h, _ => by simp at h
  | f + 1, k, m, rs, h, hk, hm, hl => by
    have e2 := Nat.pow_succ (n := 2) (m := f)
    simp only [pc] at hl
    by_cases h1 : m % 2 = 1
    · match rs, hl with
      | [], hl => simp at hl; omega
      | x :: rs, hl =>
        simp only [List.length_cons] at hl
        have ih := zen f (2 * k) (m / 2) rs (z15 x h) (by omega) (by omega) (by omega)
        rw [zbp h1]
        simp only [trR, h1, if_true]
        rw [if_neg (by omega), show (m + 1) / 2 = m / 2 + 1 by omega, <- ih]
        simp [z1m]
    · rw [zbo (by omega)]
      simp only [trR]
      rw [if_neg h1, if_pos (by omega), show (m + 1) / 2 = m / 2 by omega]
      refine zl7 fun u hu => ?_
      have := zcu _ _ _ _ u hu
      simp only; omega
theorem zfg : ∀ (f m : Nat) (rs : List Hash) (h : Hash), m + 1 < 2 ^ f -> rs.length = pc f m -> (z3k m rs h).length = pc f (m + 1)
  | 0, _, _, _, h, _ => by simp at h
  | f + 1, m, rs, h, hm, hl => by
    have e2 := Nat.pow_succ (n := 2) (m := f)
    simp only [pc] at hl ⊢
    by_cases h1 : m % 2 = 1
    · match rs, hl with
      | [], hl => simp at hl; omega
      | x :: rs, hl =>
        simp only [List.length_cons] at hl
        rw [zbp h1, zfg f (m / 2) rs (z15 x h) (by omega) (by omega), show (m + 1) / 2 = m / 2 + 1 by omega]
        omega
    · rw [zbo (by omega), List.length_cons, show (m + 1) / 2 = m / 2 by omega]
      omega
theorem pc_two (j f m : Nat) : pc (f + j) (2 ^ j * m) = pc f m := by
  induction j with
  | zero => simp
  | succ j ih =>
    have h1 : 2 ^ (j + 1) * m = 2 * (2 ^ j * m) := by rw [Nat.pow_succ, Nat.mul_comm (2 ^ j) 2, Nat.mul_assoc]
    show pc ((f + j) + 1) _ = _
    simp only [pc]
    rw [h1, Nat.mul_div_cancel_left _ (by decide), ih]; omega
theorem za3 : ∀ (f k m : Nat) (rs : List Hash), m < 2 ^ f -> rs.length = pc f m -> ((trR f k m rs).map (·.1)).sum = k * m /\ (trR f k m rs).map (·.2) = rs
  | 0, k, m, rs, h, hl => by
    simp at h; subst h
    simp [pc] at hl
    simp [trR, hl]
  | f + 1, k, m, rs, h, hl => by
    have e2 := Nat.pow_succ (n := 2) (m := f)
    simp only [pc] at hl
    by_cases h1 : m % 2 = 1
    · match rs, hl with
      | [], hl => simp at hl; omega
      | x :: rs, hl =>
        simp only [List.length_cons] at hl
        obtain ⟨i1, i2⟩ := za3 f (2 * k) (m / 2) rs (by omega) (by omega)
        simp only [trR, h1, if_true, List.map_cons, List.sum_cons, i1, i2]
        refine ⟨?_, trivial⟩
        have : m = 2 * (m / 2) + 1 := by omega
        generalize m / 2 = q at *
        subst this
        rw [Nat.mul_add, Nat.mul_one, Nat.add_comm, Nat.mul_comm 2 k, Nat.mul_assoc]
    · obtain ⟨i1, i2⟩ := za3 f (2 * k) (m / 2) rs (by omega) (by omega)
      simp only [trR]
      rw [if_neg h1]
      refine ⟨?_, i2⟩
      rw [i1]
      have : m = 2 * (m / 2) := by omega
      generalize m / 2 = q at *
      subst this
      rw [Nat.mul_comm 2 k, Nat.mul_assoc]
/-- Leaves behind a range, one by one. -/
def extR : Nat -> List Hash -> List Hash -> List Hash
  | _, rs, [] => rs
  | n, rs, x :: l => extR (n + 1) (z3k n rs x) l
theorem zaw : ∀ (n : Nat) (rs l m : List Hash), extR n rs (l ++ m) = extR (n + l.length) (extR n rs l) m
  | n, rs, [], m => by simp [extR]
  | n, rs, x :: l, m => by
    simp only [List.cons_append, extR, List.length_cons]
    rw [zaw (n + 1), show n + 1 + l.length = n + (l.length + 1) by omega]
theorem z66 : ∀ (f n : Nat) (rs l : List Hash), n + l.length < 2 ^ f -> rs.length = pc f n -> (extR n rs l).length = pc f (n + l.length)
  | _, _, _, [], _, h => h
  | f, n, rs, x :: l, h, hl => by
    simp only [List.length_cons] at h ⊢
    simp only [extR]
    rw [z66 f (n + 1) _ l (by omega) (zfg f n rs x (by omega) hl), show n + 1 + l.length = n + (l.length + 1) by omega]
def ofR (l : List Hash) : List Hash := extR 0 [] l
/-- The root of trees. -/
def z4u : List Hash -> Hash
  | [] => shaH []
  | x :: rs => rs.foldl (fun o h => z15 h o) x
end Am
end Go.Proofs.YtncenefkbpelbaaDoor
end
section
/- Ranges: plain laws: the parts of leaves that stand behind others. -/
namespace Go.Proofs.YtncenefkbpelbaaDoor
namespace Am
end Am
end Go.Proofs.YtncenefkbpelbaaDoor
end
section
/- Abstract code. (Printed by wip/gen.) -/
set_option maxRecDepth 10000
namespace Go.Proofs.YtncenefkbpelbaaDoor
namespace Am



@[go_sem] def qvr0 : List AIns := [
  ⟨some 2,none,.no,.alloc [(.int .i64 0), .nilsl]⟩,
  ⟨some 3,none,.no,.mv (.v (.int .i64 0))⟩]
@[go_sem] def qvr1 : List AIns := [
  ⟨some 4,none,.no,.build [(.int .i64 0), .nilsl] []⟩,
  ⟨some 5,none,.no,.mv (.t 0)⟩,
  ⟨some 6,none,.no,.call (.v (.fn 62 [])) [(.t 4), (.t 5)]⟩,
  ⟨some 7,none,.no,.ext 0 (.t 6)⟩,
  ⟨some 8,none,.no,.ext 1 (.t 6)⟩,
  ⟨none,none,.no,.store 2 (.t 2) (.t 7)⟩,
  ⟨some 3,none,.no,.mv (.t 8)⟩]
def qvc2 : ACode := .seq (.reg qvr1) .ret
def qvc3 : ACode := .seq (.reg qvr0) qvc2
theorem qvok : cFn TC 23 = some (9, [.c 2 true 2, .t 3], qvc3) := by kernel_rfl

@[go_sem] def qwr0 : List AIns := [
  ⟨some 2,none,.no,.box (.t 0)⟩,
  ⟨some 3,none,.no,.box (.t 1)⟩,
  ⟨some 4,none,.no,.mv (.v (.bool false))⟩]
@[go_sem] def qwr1 : List AIns := [
  ⟨some 6,none,.no,.fa 0 (.t 2)⟩,
  ⟨some 7,none,.no,.load false 1 (.t 6)⟩,
  ⟨some 8,none,.no,.fa 0 (.t 3)⟩,
  ⟨some 9,none,.no,.load false 1 (.t 8)⟩,
  ⟨some 10,none,.no,.bin .neq .none (.t 7) (.t 9)⟩,
  ⟨some 11,none,.no,.mv (.t 10)⟩,
  ⟨some 12, some (11, false), .no, .fa 1 (.t 2)⟩,
  ⟨some 13, some (11, false), .no, .load false 1 (.t 12)⟩,
  ⟨some 14, some (11, false), .no, .lenSl (.t 13)⟩,
  ⟨some 15, some (11, false), .no, .fa 1 (.t 3)⟩,
  ⟨some 16, some (11, false), .no, .load false 1 (.t 15)⟩,
  ⟨some 17, some (11, false), .no, .lenSl (.t 16)⟩,
  ⟨some 18, some (11, false), .no, .bin .neq .none (.t 14) (.t 17)⟩,
  ⟨some 19,none,.no,.pick (.t 11) (.v (.bool true)) (.t 18)⟩]
@[go_sem] def qwr2 : List AIns := [
  ⟨some 4,none,.no,.mv (.v (.bool false))⟩]
def qwc3 : ACode := .seq (.reg qwr2) .ret
def qwc4 : ACode := .cond (.t 19) qwc3 .skip
def qwc5 : ACode := .seq (.reg qwr1) qwc4
@[go_sem] def qwr6 : List AIns := [
  ⟨some 5,none,.no,.mv (.v (.int .i64 0))⟩]
@[go_sem] def qwr7 : List AIns := [
  ⟨some 20,none,.no,.mv (.t 5)⟩,
  ⟨some 21,none,.no,.fa 1 (.t 2)⟩,
  ⟨some 22,none,.no,.load false 1 (.t 21)⟩,
  ⟨some 23,none,.no,.lenSl (.t 22)⟩,
  ⟨some 24,none,.no,.bin .lss .none (.t 20) (.t 23)⟩]
def qwc8 : ACode := .cond (.t 24) .skip (.exit 0)
def qwc9 : ACode := .seq (.reg qwr7) qwc8
@[go_sem] def qwr10 : List AIns := [
  ⟨some 27,none,.no,.fa 1 (.t 2)⟩,
  ⟨some 28, none, .rd, .load false 1 (.t 27)⟩,
  ⟨some 29,none,.no,.mv (.t 5)⟩,
  ⟨some 30,none,.no,.iaSl 32 (.t 28) (.t 29)⟩,
  ⟨some 31, none, .rd, .load true 32 (.t 30)⟩,
  ⟨some 32,none,.no,.fa 1 (.t 3)⟩,
  ⟨some 33, none, .rd, .load false 1 (.t 32)⟩,
  ⟨some 34,none,.no,.mv (.t 5)⟩,
  ⟨some 35,none,.no,.iaSl 32 (.t 33) (.t 34)⟩,
  ⟨some 36, none, .rd, .load true 32 (.t 35)⟩,
  ⟨some 37,none,.no,.bin .neq (.agg (List.replicate 32 (.i .u8) ++ [])) (.t 31) (.t 36)⟩]
@[go_sem] def qwr11 : List AIns := [
  ⟨some 4,none,.no,.mv (.v (.bool false))⟩]
def qwc12 : ACode := .seq (.reg qwr11) .ret
def qwc13 : ACode := .cond (.t 37) qwc12 .skip
def qwc14 : ACode := .seq (.reg qwr10) qwc13
@[go_sem] def qwr15 : List AIns := [
  ⟨some 25,none,.no,.mv (.t 5)⟩,
  ⟨some 26,none,.no,.bin .add .none (.t 25) (.v (.int .i64 1))⟩,
  ⟨some 5,none,.no,.mv (.t 26)⟩]
def qwc16 : ACode := .seq (.block 1 qwc14) (.reg qwr15)
def qwc17 : ACode := .seq qwc9 qwc16
def qwc18 : ACode := .loop qwc17
def qwc19 : ACode := .block 0 qwc18
def qwc20 : ACode := .seq (.reg qwr6) qwc19
@[go_sem] def qwr21 : List AIns := [
  ⟨some 4,none,.no,.mv (.v (.bool true))⟩]
def qwc22 : ACode := .seq (.reg qwr21) .ret
def qwc23 : ACode := .seq qwc20 qwc22
def qwc24 : ACode := .seq qwc5 qwc23
def qwc25 : ACode := .seq (.reg qwr0) qwc24
theorem qwok : cFn TC 69 = some (38, [.t 4], qwc25) := by kernel_rfl

@[go_sem] def qxr0 : List AIns := [
  ⟨some 2,none,.no,.box (.t 0)⟩,
  ⟨some 4,none,.no,.alloc [(.int .i64 0), .nilsl]⟩,
  ⟨some 5,none,.no,.mv (.v (.int .i64 0))⟩]
@[go_sem] def qxr1 : List AIns := [
  ⟨some 8,none,.no,.load true 2 (.t 2)⟩,
  ⟨some 9,none,.no,.call (.v (.fn 60 [])) [(.t 8)]⟩,
  ⟨some 10,none,.no,.un .not (.t 9)⟩]
@[go_sem] def qxr2 : List AIns := [
  ⟨some 11,none,.no,.build [(.int .i64 0), .nilsl] []⟩,
  ⟨none,none,.no,.store 2 (.t 4) (.t 11)⟩,
  ⟨some 5,none,.no,.mv (.v (.int .i64 2))⟩]
def qxc3 : ACode := .seq (.reg qxr2) .ret
def qxc4 : ACode := .cond (.t 10) qxc3 .skip
def qxc5 : ACode := .seq (.reg qxr1) qxc4
@[go_sem] def qxr6 : List AIns := [
  ⟨some 12,none,.no,.fa 0 (.t 2)⟩,
  ⟨some 13,none,.no,.load false 1 (.t 12)⟩,
  ⟨some 14,none,.no,.mv (.t 1)⟩,
  ⟨some 15,none,.no,.lenSl (.t 14)⟩,
  ⟨some 16,none,.no,.bin .add .none (.t 13) (.t 15)⟩,
  ⟨some 17,none,.no,.bin .gtr .none (.t 16) (.v (.int .i64 4096))⟩]
@[go_sem] def qxr7 : List AIns := [
  ⟨some 18,none,.no,.build [(.int .i64 0), .nilsl] []⟩,
  ⟨none,none,.no,.store 2 (.t 4) (.t 18)⟩,
  ⟨some 5,none,.no,.mv (.v (.int .i64 60))⟩]
def qxc8 : ACode := .seq (.reg qxr7) .ret
def qxc9 : ACode := .cond (.t 17) qxc8 .skip
def qxc10 : ACode := .seq (.reg qxr6) qxc9
@[go_sem] def qxr11 : List AIns := [
  ⟨some 19,none,.no,.load true 2 (.t 2)⟩,
  ⟨some 20,none,.no,.call (.v (.fn 110 [])) [(.t 19)]⟩,
  ⟨some 6,none,.no,.mv (.t 20)⟩]
@[go_sem] def qxr12 : List AIns := [
  ⟨some 7,none,.no,.mv (.v (.int .i64 0))⟩]
@[go_sem] def qxr13 : List AIns := [
  ⟨some 21,none,.no,.mv (.t 7)⟩,
  ⟨some 22,none,.no,.mv (.t 1)⟩,
  ⟨some 23,none,.no,.lenSl (.t 22)⟩,
  ⟨some 24,none,.no,.bin .lss .none (.t 21) (.t 23)⟩]
def qxc14 : ACode := .cond (.t 24) .skip (.exit 0)
def qxc15 : ACode := .seq (.reg qxr13) qxc14
@[go_sem] def qxr16 : List AIns := [
  ⟨some 27,none,.no,.mv (.t 6)⟩,
  ⟨some 28, none, .ef, .app 33 (.v .nilsl) (.t 27)⟩,
  ⟨some 29,none,.no,.mv (.t 1)⟩,
  ⟨some 30,none,.no,.mv (.t 7)⟩,
  ⟨some 31,none,.no,.iaSl 32 (.t 29) (.t 30)⟩,
  ⟨some 32, none, .rd, .load true 32 (.t 31)⟩,
  ⟨some 33,none,.no,.build ((.int .i64 0) :: zZ0) [(0, 1, (.v (.int .i64 1))), (1, 32, (.t 32))]⟩,
  ⟨some 34,none,.no,.lit 33 [(.t 33)]⟩,
  ⟨some 35,none,.no,.app 33 (.t 28) (.t 34)⟩,
  ⟨some 36,none,.no,.call (.v (.fn 111 [])) [(.t 35)]⟩,
  ⟨some 6,none,.no,.mv (.t 36)⟩]
@[go_sem] def qxr17 : List AIns := [
  ⟨some 25,none,.no,.mv (.t 7)⟩,
  ⟨some 26,none,.no,.bin .add .none (.t 25) (.v (.int .i64 1))⟩,
  ⟨some 7,none,.no,.mv (.t 26)⟩]
def qxc18 : ACode := .seq (.block 1 (.reg qxr16)) (.reg qxr17)
def qxc19 : ACode := .seq qxc15 qxc18
def qxc20 : ACode := .loop qxc19
def qxc21 : ACode := .block 0 qxc20
def qxc22 : ACode := .seq (.reg qxr12) qxc21
@[go_sem] def qxr23 : List AIns := [
  ⟨some 37,none,.no,.mv (.t 6)⟩,
  ⟨some 38,none,.no,.call (.v (.fn 112 [])) [(.t 37)]⟩,
  ⟨none,none,.no,.store 2 (.t 4) (.t 38)⟩,
  ⟨some 5,none,.no,.mv (.v (.int .i64 0))⟩]
def qxc24 : ACode := .seq (.reg qxr23) .ret
def qxc25 : ACode := .seq qxc22 qxc24
def qxc26 : ACode := .seq (.reg qxr11) qxc25
def qxc27 : ACode := .seq qxc10 qxc26
def qxc28 : ACode := .seq qxc5 qxc27
def qxc29 : ACode := .seq (.reg qxr0) qxc28
theorem qxok : cFn TC 66 = some (39, [.c 4 true 2, .t 5], qxc29) := by kernel_rfl

@[go_sem] def qyr0 : List AIns := [
  ⟨some 2,none,.no,.box (.t 0)⟩,
  ⟨some 4,none,.no,.alloc [(.int .i64 0), .nilsl]⟩,
  ⟨some 5,none,.no,.mv (.v (.int .i64 0))⟩]
@[go_sem] def qyr1 : List AIns := [
  ⟨some 9,none,.no,.load true 2 (.t 2)⟩,
  ⟨some 10,none,.no,.call (.v (.fn 58 [])) [(.t 9)]⟩,
  ⟨some 11,none,.no,.un .not (.t 10)⟩,
  ⟨some 8,none,.no,.mv (.t 11)⟩]
@[go_sem] def qyr2 : List AIns := [
  ⟨some 12,none,.no,.build [(.int .i64 0), .nilsl] []⟩,
  ⟨none,none,.no,.store 2 (.t 4) (.t 12)⟩,
  ⟨some 5,none,.no,.mv (.v (.int .i64 2))⟩]
def qyc3 : ACode := .seq (.reg qyr2) .ret
@[go_sem] def qyr4 : List AIns := [
  ⟨some 14,none,.no,.mv (.t 1)⟩,
  ⟨some 15,none,.no,.lenSl (.t 14)⟩,
  ⟨some 16,none,.no,.fa 0 (.t 2)⟩,
  ⟨some 17,none,.no,.load false 1 (.t 16)⟩,
  ⟨some 18,none,.no,.bin .sub .none (.v (.int .i64 4096)) (.t 17)⟩,
  ⟨some 19,none,.no,.bin .gtr .none (.t 15) (.t 18)⟩,
  ⟨some 13,none,.no,.mv (.t 19)⟩]
@[go_sem] def qyr5 : List AIns := [
  ⟨some 20,none,.no,.build [(.int .i64 0), .nilsl] []⟩,
  ⟨none,none,.no,.store 2 (.t 4) (.t 20)⟩,
  ⟨some 5,none,.no,.mv (.v (.int .i64 60))⟩]
def qyc6 : ACode := .seq (.reg qyr5) .ret
def qyc7 : ACode := .cond (.t 13) qyc6 .skip
def qyc8 : ACode := .seq (.reg qyr4) qyc7
def qyc9 : ACode := .cond (.t 8) qyc3 qyc8
def qyc10 : ACode := .seq (.reg qyr1) qyc9
@[go_sem] def qyr11 : List AIns := [
  ⟨some 21,none,.no,.fa 1 (.t 2)⟩,
  ⟨some 22,none,.no,.load false 1 (.t 21)⟩,
  ⟨some 23,none,.no,.call (.v (.fn 105 [])) [(.t 22)]⟩,
  ⟨some 24,none,.no,.fa 1 (.t 2)⟩,
  ⟨none,none,.no,.store 1 (.t 24) (.t 23)⟩]
@[go_sem] def qyr12 : List AIns := [
  ⟨some 25,none,.no,.mv (.t 1)⟩,
  ⟨some 26,none,.no,.lenSl (.t 25)⟩,
  ⟨some 27,none,.no,.mv (.v (.int .i64 0))⟩]
@[go_sem] def qyr13 : List AIns := [
  ⟨some 28,none,.no,.bin .lss .none (.t 27) (.t 26)⟩]
@[go_sem] def qyr14 : List AIns := [
  ⟨some 29,none,.no,.iaSl 32 (.t 25) (.t 27)⟩,
  ⟨some 30,none,.no,.load true 32 (.t 29)⟩,
  ⟨some 7,none,.no,.alloc zZ0⟩,
  ⟨none,none,.no,.store 32 (.t 7) (.t 30)⟩]
@[go_sem] def qyr15 : List AIns := [
  ⟨some 31,none,.no,.load true 2 (.t 2)⟩,
  ⟨some 32,none,.no,.load true 32 (.t 7)⟩,
  ⟨some 33,none,.no,.call (.v (.fn 106 [])) [(.t 31), (.v (.int .i64 1)), (.t 32)]⟩,
  ⟨none,none,.no,.store 2 (.t 2) (.t 33)⟩]
def qyc16 : ACode := .seq (.reg qyr14) (.reg qyr15)
@[go_sem] def qyr17 : List AIns := [
  ⟨some 34,none,.no,.bin .add .none (.t 27) (.v (.int .i64 1))⟩,
  ⟨some 27,none,.no,.mv (.t 34)⟩]
def qyc18 : ACode := .seq (.block 2 qyc16) (.reg qyr17)
def qyc19 : ACode := .seq (.cond (.t 28) .skip (.exit 1)) qyc18
def qyc20 : ACode := .seq (.reg qyr13) qyc19
def qyc21 : ACode := .loop qyc20
def qyc22 : ACode := .block 1 qyc21
def qyc23 : ACode := .seq (.reg qyr12) qyc22
@[go_sem] def qyr24 : List AIns := [
  ⟨some 35,none,.no,.load true 2 (.t 2)⟩,
  ⟨none,none,.no,.store 2 (.t 4) (.t 35)⟩,
  ⟨some 5,none,.no,.mv (.v (.int .i64 0))⟩]
def qyc25 : ACode := .seq (.reg qyr24) .ret
def qyc26 : ACode := .seq qyc23 qyc25
def qyc27 : ACode := .seq (.reg qyr11) qyc26
def qyc28 : ACode := .seq (.block 0 qyc10) qyc27
def qyc29 : ACode := .seq (.reg qyr0) qyc28
theorem qyok : cFn TC 62 = some (36, [.c 4 true 2, .t 5], qyc29) := by kernel_rfl

@[go_sem] def qzr0 : List AIns := [
  ⟨some 1,none,.no,.box (.t 0)⟩,
  ⟨some 2,none,.no,.mv (.v (.bool false))⟩]
@[go_sem] def qzr1 : List AIns := [
  ⟨some 3,none,.no,.fa 0 (.t 1)⟩,
  ⟨some 4,none,.no,.load false 1 (.t 3)⟩,
  ⟨some 5,none,.no,.bin .geq .none (.t 4) (.v (.int .i64 0))⟩,
  ⟨some 6,none,.no,.mv (.t 5)⟩,
  ⟨some 7, some (6, true), .no, .fa 0 (.t 1)⟩,
  ⟨some 8, some (6, true), .no, .load false 1 (.t 7)⟩,
  ⟨some 9, some (6, true), .no, .bin .leq .none (.t 8) (.v (.int .i64 4096))⟩,
  ⟨some 10,none,.no,.pick (.t 6) (.t 9) (.v (.bool false))⟩,
  ⟨some 11,none,.no,.mv (.t 10)⟩,
  ⟨some 12, some (11, true), .no, .fa 1 (.t 1)⟩,
  ⟨some 13, some (11, true), .rd, .load false 1 (.t 12)⟩,
  ⟨some 14, some (11, true), .no, .lenSl (.t 13)⟩,
  ⟨some 15, some (11, true), .no, .fa 0 (.t 1)⟩,
  ⟨some 16, some (11, true), .rd, .load false 1 (.t 15)⟩,
  ⟨some 17, some (11, true), .ef, .call (.v (.fn 103 [])) [(.t 16)]⟩,
  ⟨some 18, some (11, true), .no, .bin .eql .none (.t 14) (.t 17)⟩,
  ⟨some 19,none,.no,.pick (.t 11) (.t 18) (.v (.bool false))⟩,
  ⟨some 2,none,.no,.mv (.t 19)⟩]
def qzc2 : ACode := .seq (.reg qzr1) .ret
def qzc3 : ACode := .seq (.reg qzr0) qzc2
theorem qzok : cFn TC 58 = some (20, [.t 2], qzc3) := by kernel_rfl

@[go_sem] def q10r0 : List AIns := [
  ⟨some 1,none,.no,.box (.t 0)⟩,
  ⟨some 2,none,.no,.alloc zZ0⟩,
  ⟨some 3,none,.no,.mv (.v (.int .i64 0))⟩]
@[go_sem] def q10r1 : List AIns := [
  ⟨some 9,none,.no,.load true 2 (.t 1)⟩,
  ⟨some 10,none,.no,.call (.v (.fn 58 [])) [(.t 9)]⟩,
  ⟨some 11,none,.no,.un .not (.t 10)⟩,
  ⟨some 8,none,.no,.mv (.t 11)⟩]
@[go_sem] def q10r2 : List AIns := [
  ⟨some 12,none,.no,.build zZ0 []⟩,
  ⟨none,none,.no,.store 32 (.t 2) (.t 12)⟩,
  ⟨some 3,none,.no,.mv (.v (.int .i64 2))⟩]
def q10c3 : ACode := .seq (.reg q10r2) .ret
@[go_sem] def q10r4 : List AIns := [
  ⟨some 14,none,.no,.fa 0 (.t 1)⟩,
  ⟨some 15,none,.no,.load false 1 (.t 14)⟩,
  ⟨some 16,none,.no,.bin .eql .none (.t 15) (.v (.int .i64 0))⟩,
  ⟨some 13,none,.no,.mv (.t 16)⟩]
@[go_sem] def q10r5 : List AIns := [
  ⟨some 17,none,.no,.call (.v (.fn 45 [])) [(.v .nilsl)]⟩,
  ⟨none,none,.no,.store 32 (.t 2) (.t 17)⟩,
  ⟨some 3,none,.no,.mv (.v (.int .i64 0))⟩]
def q10c6 : ACode := .seq (.reg q10r5) .ret
def q10c7 : ACode := .cond (.t 13) q10c6 .skip
def q10c8 : ACode := .seq (.reg q10r4) q10c7
def q10c9 : ACode := .cond (.t 8) q10c3 q10c8
def q10c10 : ACode := .seq (.reg q10r1) q10c9
@[go_sem] def q10r11 : List AIns := [
  ⟨some 18,none,.no,.fa 1 (.t 1)⟩,
  ⟨some 19,none,.no,.load false 1 (.t 18)⟩,
  ⟨some 20,none,.no,.lenSl (.t 19)⟩,
  ⟨some 21,none,.no,.bin .sub .none (.t 20) (.v (.int .i64 1))⟩,
  ⟨some 4,none,.no,.mv (.t 21)⟩]
@[go_sem] def q10r12 : List AIns := [
  ⟨some 22,none,.no,.fa 1 (.t 1)⟩,
  ⟨some 23,none,.no,.load false 1 (.t 22)⟩,
  ⟨some 24,none,.no,.mv (.t 4)⟩,
  ⟨some 25,none,.no,.iaSl 32 (.t 23) (.t 24)⟩,
  ⟨some 26,none,.no,.load true 32 (.t 25)⟩,
  ⟨some 5,none,.no,.alloc zZ0⟩,
  ⟨none,none,.no,.store 32 (.t 5) (.t 26)⟩]
@[go_sem] def q10r13 : List AIns := [
  ⟨some 27,none,.no,.fa 1 (.t 1)⟩,
  ⟨some 28,none,.no,.load false 1 (.t 27)⟩,
  ⟨some 29,none,.no,.mv (.t 4)⟩,
  ⟨some 30,none,.no,.slice (.sl 32) (.t 28) none (some (.t 29)) none⟩,
  ⟨some 31,none,.no,.call (.v (.fn 107 [])) [(.t 30)]⟩]
@[go_sem] def q10r14 : List AIns := [
  ⟨some 7,none,.no,.alloc zZ0⟩,
  ⟨none,none,.no,.store 32 (.t 7) (.t 33)⟩]
@[go_sem] def q10r15 : List AIns := [
  ⟨some 34,none,.no,.load true 32 (.t 7)⟩,
  ⟨some 35,none,.no,.load true 32 (.t 5)⟩,
  ⟨some 36,none,.no,.call (.v (.fn 90 [])) [(.t 34), (.t 35)]⟩,
  ⟨none,none,.no,.store 32 (.t 5) (.t 36)⟩]
def q10c16 : ACode := .block 2 (.reg q10r15)
def q10c17 : ACode := .rangef (.t 31) [32, 33] (.reg q10r14) q10c16
def q10c18 : ACode := .block 1 q10c17
def q10c19 : ACode := .seq (.reg q10r13) q10c18
@[go_sem] def q10r20 : List AIns := [
  ⟨some 37,none,.no,.load true 32 (.t 5)⟩,
  ⟨none,none,.no,.store 32 (.t 2) (.t 37)⟩,
  ⟨some 3,none,.no,.mv (.v (.int .i64 0))⟩]
def q10c21 : ACode := .seq (.reg q10r20) .ret
def q10c22 : ACode := .seq q10c19 q10c21
def q10c23 : ACode := .seq (.reg q10r12) q10c22
def q10c24 : ACode := .seq (.reg q10r11) q10c23
def q10c25 : ACode := .seq (.block 0 q10c10) q10c24
def q10c26 : ACode := .seq (.reg q10r0) q10c25
theorem q10ok : cFn TC 63 = some (38, [.c 2 true 32, .t 3], q10c26) := by kernel_rfl

@[go_sem] def q11r0 : List AIns := [
  ⟨some 1,none,.no,.box (.t 0)⟩,
  ⟨some 2,none,.no,.alloc zZ0⟩,
  ⟨some 3,none,.no,.mv (.v (.int .i64 0))⟩]
@[go_sem] def q11r1 : List AIns := [
  ⟨some 7,none,.no,.load true 2 (.t 1)⟩,
  ⟨some 8,none,.no,.call (.v (.fn 60 [])) [(.t 7)]⟩,
  ⟨some 9,none,.no,.un .not (.t 8)⟩]
@[go_sem] def q11r2 : List AIns := [
  ⟨some 10,none,.no,.build zZ0 []⟩,
  ⟨none,none,.no,.store 32 (.t 2) (.t 10)⟩,
  ⟨some 3,none,.no,.mv (.v (.int .i64 2))⟩]
def q11c3 : ACode := .seq (.reg q11r2) .ret
def q11c4 : ACode := .cond (.t 9) q11c3 .skip
def q11c5 : ACode := .seq (.reg q11r1) q11c4
@[go_sem] def q11r6 : List AIns := [
  ⟨some 11,none,.no,.fa 1 (.t 1)⟩,
  ⟨some 12,none,.no,.load false 1 (.t 11)⟩,
  ⟨some 13,none,.no,.lenSl (.t 12)⟩,
  ⟨some 4,none,.no,.mv (.t 13)⟩]
@[go_sem] def q11r7 : List AIns := [
  ⟨some 14,none,.no,.mv (.t 4)⟩,
  ⟨some 15,none,.no,.bin .eql .none (.t 14) (.v (.int .i64 0))⟩]
@[go_sem] def q11r8 : List AIns := [
  ⟨some 16,none,.no,.call (.v (.fn 70 [])) [(.v (.str []))]⟩,
  ⟨none,none,.no,.store 32 (.t 2) (.t 16)⟩,
  ⟨some 3,none,.no,.mv (.v (.int .i64 0))⟩]
def q11c9 : ACode := .seq (.reg q11r8) .ret
def q11c10 : ACode := .cond (.t 15) q11c9 .skip
def q11c11 : ACode := .seq (.reg q11r7) q11c10
@[go_sem] def q11r12 : List AIns := [
  ⟨some 17,none,.no,.fa 1 (.t 1)⟩,
  ⟨some 18,none,.no,.load false 1 (.t 17)⟩,
  ⟨some 19,none,.no,.mv (.t 4)⟩,
  ⟨some 20,none,.no,.bin .sub .none (.t 19) (.v (.int .i64 1))⟩,
  ⟨some 21,none,.no,.iaSl 32 (.t 18) (.t 20)⟩,
  ⟨some 22,none,.no,.load true 32 (.t 21)⟩,
  ⟨some 5,none,.no,.alloc zZ0⟩,
  ⟨none,none,.no,.store 32 (.t 5) (.t 22)⟩]
@[go_sem] def q11r13 : List AIns := [
  ⟨some 23,none,.no,.mv (.t 4)⟩,
  ⟨some 24,none,.no,.bin .sub .none (.t 23) (.v (.int .i64 2))⟩,
  ⟨some 6,none,.no,.mv (.t 24)⟩]
@[go_sem] def q11r14 : List AIns := [
  ⟨some 25,none,.no,.mv (.t 6)⟩,
  ⟨some 26,none,.no,.bin .geq .none (.t 25) (.v (.int .i64 0))⟩]
def q11c15 : ACode := .cond (.t 26) .skip (.exit 0)
def q11c16 : ACode := .seq (.reg q11r14) q11c15
@[go_sem] def q11r17 : List AIns := [
  ⟨some 29,none,.no,.fa 1 (.t 1)⟩,
  ⟨some 30, none, .rd, .load false 1 (.t 29)⟩,
  ⟨some 31,none,.no,.mv (.t 6)⟩,
  ⟨some 32,none,.no,.iaSl 32 (.t 30) (.t 31)⟩,
  ⟨some 33, none, .rd, .load true 32 (.t 32)⟩,
  ⟨some 34, none, .rd, .load true 32 (.t 5)⟩,
  ⟨some 35,none,.no,.call (.v (.fn 72 [])) [(.t 33), (.t 34)]⟩,
  ⟨none,none,.no,.store 32 (.t 5) (.t 35)⟩]
@[go_sem] def q11r18 : List AIns := [
  ⟨some 27,none,.no,.mv (.t 6)⟩,
  ⟨some 28,none,.no,.bin .sub .none (.t 27) (.v (.int .i64 1))⟩,
  ⟨some 6,none,.no,.mv (.t 28)⟩]
def q11c19 : ACode := .seq (.block 1 (.reg q11r17)) (.reg q11r18)
def q11c20 : ACode := .seq q11c16 q11c19
def q11c21 : ACode := .loop q11c20
def q11c22 : ACode := .block 0 q11c21
def q11c23 : ACode := .seq (.reg q11r13) q11c22
@[go_sem] def q11r24 : List AIns := [
  ⟨some 36,none,.no,.load true 32 (.t 5)⟩,
  ⟨none,none,.no,.store 32 (.t 2) (.t 36)⟩,
  ⟨some 3,none,.no,.mv (.v (.int .i64 0))⟩]
def q11c25 : ACode := .seq (.reg q11r24) .ret
def q11c26 : ACode := .seq q11c23 q11c25
def q11c27 : ACode := .seq (.reg q11r12) q11c26
def q11c28 : ACode := .seq q11c11 q11c27
def q11c29 : ACode := .seq (.reg q11r6) q11c28
def q11c30 : ACode := .seq q11c5 q11c29
def q11c31 : ACode := .seq (.reg q11r0) q11c30
theorem q11ok : cFn TC 67 = some (37, [.c 2 true 32, .t 3], q11c31) := by kernel_rfl

@[go_sem] def q12r0 : List AIns := [
  ⟨some 1,none,.no,.box (.t 0)⟩,
  ⟨some 2,none,.no,.mv (.v (.bool false))⟩]
@[go_sem] def q12r1 : List AIns := [
  ⟨some 3,none,.no,.fa 0 (.t 1)⟩,
  ⟨some 4,none,.no,.load false 1 (.t 3)⟩,
  ⟨some 5,none,.no,.bin .geq .none (.t 4) (.v (.int .i64 0))⟩,
  ⟨some 6,none,.no,.mv (.t 5)⟩,
  ⟨some 7, some (6, true), .no, .fa 0 (.t 1)⟩,
  ⟨some 8, some (6, true), .no, .load false 1 (.t 7)⟩,
  ⟨some 9, some (6, true), .no, .bin .leq .none (.t 8) (.v (.int .i64 4096))⟩,
  ⟨some 10,none,.no,.pick (.t 6) (.t 9) (.v (.bool false))⟩,
  ⟨some 11,none,.no,.mv (.t 10)⟩,
  ⟨some 12, some (11, true), .no, .fa 1 (.t 1)⟩,
  ⟨some 13, some (11, true), .rd, .load false 1 (.t 12)⟩,
  ⟨some 14, some (11, true), .no, .lenSl (.t 13)⟩,
  ⟨some 15, some (11, true), .no, .fa 0 (.t 1)⟩,
  ⟨some 16, some (11, true), .rd, .load false 1 (.t 15)⟩,
  ⟨some 17, some (11, true), .ef, .call (.v (.fn 104 [])) [(.t 16)]⟩,
  ⟨some 18, some (11, true), .no, .bin .eql .none (.t 14) (.t 17)⟩,
  ⟨some 19,none,.no,.pick (.t 11) (.t 18) (.v (.bool false))⟩,
  ⟨some 2,none,.no,.mv (.t 19)⟩]
def q12c2 : ACode := .seq (.reg q12r1) .ret
def q12c3 : ACode := .seq (.reg q12r0) q12c2
theorem q12ok : cFn TC 60 = some (20, [.t 2], q12c3) := by kernel_rfl

@[go_sem] def q13r0 : List AIns := [
  ⟨some 1,none,.no,.box (.t 0)⟩,
  ⟨some 2,none,.no,.mv (.v .nilsl)⟩]
@[go_sem] def q13r1 : List AIns := [
  ⟨some 3,none,.no,.mv (.v .nilsl)⟩]
@[go_sem] def q13r2 : List AIns := [
  ⟨some 4,none,.no,.mv (.v (.int .i64 4096))⟩]
@[go_sem] def q13r3 : List AIns := [
  ⟨some 5,none,.no,.mv (.t 4)⟩,
  ⟨some 6,none,.no,.bin .gtr .none (.t 5) (.v (.int .i64 0))⟩]
def q13c4 : ACode := .cond (.t 6) .skip (.exit 0)
def q13c5 : ACode := .seq (.reg q13r3) q13c4
@[go_sem] def q13r6 : List AIns := [
  ⟨some 9,none,.no,.fa 0 (.t 1)⟩,
  ⟨some 10,none,.no,.load false 1 (.t 9)⟩,
  ⟨some 11,none,.no,.mv (.t 4)⟩,
  ⟨some 12,none,.no,.bin .quo .none (.t 10) (.t 11)⟩,
  ⟨some 13,none,.no,.bin .rem .none (.t 12) (.v (.int .i64 2))⟩,
  ⟨some 14,none,.no,.bin .eql .none (.t 13) (.v (.int .i64 1))⟩]
@[go_sem] def q13r7 : List AIns := [
  ⟨some 15,none,.no,.mv (.t 3)⟩,
  ⟨some 16,none,.no,.mv (.t 4)⟩,
  ⟨some 17,none,.no,.fa 1 (.t 1)⟩,
  ⟨some 18,none,.no,.load false 1 (.t 17)⟩,
  ⟨some 19,none,.no,.mv (.t 3)⟩,
  ⟨some 20,none,.no,.lenSl (.t 19)⟩,
  ⟨some 21,none,.no,.iaSl 32 (.t 18) (.t 20)⟩,
  ⟨some 22,none,.no,.load true 32 (.t 21)⟩,
  ⟨some 23,none,.no,.build ((.int .i64 0) :: zZ0) [(0, 1, (.t 16)), (1, 32, (.t 22))]⟩,
  ⟨some 24,none,.no,.lit 33 [(.t 23)]⟩,
  ⟨some 25,none,.no,.app 33 (.t 15) (.t 24)⟩,
  ⟨some 3,none,.no,.mv (.t 25)⟩]
def q13c8 : ACode := .cond (.t 14) (.reg q13r7) .skip
def q13c9 : ACode := .seq (.reg q13r6) q13c8
@[go_sem] def q13r10 : List AIns := [
  ⟨some 7,none,.no,.mv (.t 4)⟩,
  ⟨some 8,none,.no,.bin .quo .none (.t 7) (.v (.int .i64 2))⟩,
  ⟨some 4,none,.no,.mv (.t 8)⟩]
def q13c11 : ACode := .seq (.block 1 q13c9) (.reg q13r10)
def q13c12 : ACode := .seq q13c5 q13c11
def q13c13 : ACode := .loop q13c12
def q13c14 : ACode := .block 0 q13c13
def q13c15 : ACode := .seq (.reg q13r2) q13c14
@[go_sem] def q13r16 : List AIns := [
  ⟨some 26,none,.no,.mv (.t 3)⟩,
  ⟨some 2,none,.no,.mv (.t 26)⟩]
def q13c17 : ACode := .seq (.reg q13r16) .ret
def q13c18 : ACode := .seq q13c15 q13c17
def q13c19 : ACode := .seq (.reg q13r1) q13c18
def q13c20 : ACode := .seq (.reg q13r0) q13c19
theorem q13ok : cFn TC 110 = some (27, [.t 2], q13c20) := by kernel_rfl

@[go_sem] def q14r0 : List AIns := [
  ⟨some 2,none,.no,.mv (.v .nilsl)⟩]
@[go_sem] def q14r1 : List AIns := [
  ⟨some 4,none,.no,.mv (.t 0)⟩,
  ⟨some 5,none,.no,.lenSl (.t 4)⟩,
  ⟨some 3,none,.no,.mv (.t 5)⟩]
@[go_sem] def q14r2 : List AIns := [
  ⟨some 6,none,.no,.mv (.t 3)⟩,
  ⟨some 7,none,.no,.bin .gtr .none (.t 6) (.v (.int .i64 1))⟩,
  ⟨some 8,none,.no,.mv (.t 7)⟩,
  ⟨some 9, some (8, true), .no, .mv (.t 0)⟩,
  ⟨some 10, some (8, true), .no, .mv (.t 3)⟩,
  ⟨some 11, some (8, true), .no, .bin .sub .none (.t 10) (.v (.int .i64 1))⟩,
  ⟨some 12, some (8, true), .no, .iaSl 33 (.t 9) (.t 11)⟩,
  ⟨some 13, some (8, true), .no, .fa 0 (.t 12)⟩,
  ⟨some 14, some (8, true), .rd, .load false 1 (.t 13)⟩,
  ⟨some 15, some (8, true), .no, .mv (.t 0)⟩,
  ⟨some 16, some (8, true), .no, .mv (.t 3)⟩,
  ⟨some 17, some (8, true), .no, .bin .sub .none (.t 16) (.v (.int .i64 2))⟩,
  ⟨some 18, some (8, true), .no, .iaSl 33 (.t 15) (.t 17)⟩,
  ⟨some 19, some (8, true), .no, .fa 0 (.t 18)⟩,
  ⟨some 20, some (8, true), .rd, .load false 1 (.t 19)⟩,
  ⟨some 21, some (8, true), .no, .bin .eql .none (.t 14) (.t 20)⟩,
  ⟨some 22,none,.no,.pick (.t 8) (.t 21) (.v (.bool false))⟩]
def q14c3 : ACode := .cond (.t 22) .skip (.exit 0)
def q14c4 : ACode := .seq (.reg q14r2) q14c3
@[go_sem] def q14r5 : List AIns := [
  ⟨some 23,none,.no,.mv (.t 0)⟩,
  ⟨some 24,none,.no,.mv (.t 3)⟩,
  ⟨some 25,none,.no,.bin .sub .none (.t 24) (.v (.int .i64 2))⟩,
  ⟨some 26,none,.no,.slice (.sl 33) (.t 23) none (some (.t 25)) none⟩,
  ⟨some 27, none, .ef, .app 33 (.v .nilsl) (.t 26)⟩,
  ⟨some 28,none,.no,.mv (.t 0)⟩,
  ⟨some 29,none,.no,.mv (.t 3)⟩,
  ⟨some 30,none,.no,.bin .sub .none (.t 29) (.v (.int .i64 1))⟩,
  ⟨some 31,none,.no,.iaSl 33 (.t 28) (.t 30)⟩,
  ⟨some 32,none,.no,.fa 0 (.t 31)⟩,
  ⟨some 33, none, .rd, .load false 1 (.t 32)⟩,
  ⟨some 34,none,.no,.bin .mul .none (.v (.int .i64 2)) (.t 33)⟩,
  ⟨some 35,none,.no,.mv (.t 0)⟩,
  ⟨some 36,none,.no,.mv (.t 3)⟩,
  ⟨some 37,none,.no,.bin .sub .none (.t 36) (.v (.int .i64 2))⟩,
  ⟨some 38,none,.no,.iaSl 33 (.t 35) (.t 37)⟩,
  ⟨some 39,none,.no,.fa 1 (.t 38)⟩,
  ⟨some 40, none, .rd, .load true 32 (.t 39)⟩,
  ⟨some 41,none,.no,.mv (.t 0)⟩,
  ⟨some 42,none,.no,.mv (.t 3)⟩,
  ⟨some 43,none,.no,.bin .sub .none (.t 42) (.v (.int .i64 1))⟩,
  ⟨some 44,none,.no,.iaSl 33 (.t 41) (.t 43)⟩,
  ⟨some 45,none,.no,.fa 1 (.t 44)⟩,
  ⟨some 46, none, .rd, .load true 32 (.t 45)⟩,
  ⟨some 47, none, .ef, .call (.v (.fn 72 [])) [(.t 40), (.t 46)]⟩,
  ⟨some 48,none,.no,.build ((.int .i64 0) :: zZ0) [(0, 1, (.t 34)), (1, 32, (.t 47))]⟩,
  ⟨some 49,none,.no,.lit 33 [(.t 48)]⟩,
  ⟨some 50,none,.no,.app 33 (.t 27) (.t 49)⟩,
  ⟨some 0,none,.no,.mv (.t 50)⟩]
@[go_sem] def q14r6 : List AIns := [
  ⟨some 51,none,.no,.mv (.t 3)⟩,
  ⟨some 52,none,.no,.bin .sub .none (.t 51) (.v (.int .i64 1))⟩,
  ⟨some 3,none,.no,.mv (.t 52)⟩]
def q14c7 : ACode := .seq (.reg q14r5) (.reg q14r6)
def q14c8 : ACode := .block 1 q14c7
def q14c9 : ACode := .seq q14c4 q14c8
def q14c10 : ACode := .loop q14c9
@[go_sem] def q14r11 : List AIns := [
  ⟨some 53,none,.no,.mv (.t 0)⟩,
  ⟨some 2,none,.no,.mv (.t 53)⟩]
def q14c12 : ACode := .seq (.reg q14r11) .ret
def q14c13 : ACode := .seq (.block 0 q14c10) q14c12
def q14c14 : ACode := .seq (.reg q14r1) q14c13
def q14c15 : ACode := .seq (.reg q14r0) q14c14
theorem q14ok : cFn TC 111 = some (54, [.t 2], q14c15) := by kernel_rfl

@[go_sem] def q15r0 : List AIns := [
  ⟨some 2,none,.no,.alloc [(.int .i64 0), .nilsl]⟩]
@[go_sem] def q15r1 : List AIns := [
  ⟨some 3,none,.no,.alloc [(.int .i64 0), .nilsl]⟩]
@[go_sem] def q15r2 : List AIns := [
  ⟨some 4,none,.no,.mv (.v (.int .i64 0))⟩]
@[go_sem] def q15r3 : List AIns := [
  ⟨some 5,none,.no,.mv (.t 4)⟩,
  ⟨some 6,none,.no,.mv (.t 0)⟩,
  ⟨some 7,none,.no,.lenSl (.t 6)⟩,
  ⟨some 8,none,.no,.bin .lss .none (.t 5) (.t 7)⟩]
def q15c4 : ACode := .cond (.t 8) .skip (.exit 0)
def q15c5 : ACode := .seq (.reg q15r3) q15c4
@[go_sem] def q15r6 : List AIns := [
  ⟨some 11,none,.no,.fa 0 (.t 3)⟩,
  ⟨some 12, none, .rd, .load false 1 (.t 11)⟩,
  ⟨some 13,none,.no,.mv (.t 0)⟩,
  ⟨some 14,none,.no,.mv (.t 4)⟩,
  ⟨some 15,none,.no,.iaSl 33 (.t 13) (.t 14)⟩,
  ⟨some 16,none,.no,.fa 0 (.t 15)⟩,
  ⟨some 17, none, .rd, .load false 1 (.t 16)⟩,
  ⟨some 18,none,.no,.bin .add .none (.t 12) (.t 17)⟩,
  ⟨some 19,none,.no,.fa 1 (.t 3)⟩,
  ⟨some 20, none, .rd, .load false 1 (.t 19)⟩,
  ⟨some 21,none,.no,.mv (.t 0)⟩,
  ⟨some 22,none,.no,.mv (.t 4)⟩,
  ⟨some 23,none,.no,.iaSl 33 (.t 21) (.t 22)⟩,
  ⟨some 24,none,.no,.fa 1 (.t 23)⟩,
  ⟨some 25, none, .rd, .load true 32 (.t 24)⟩,
  ⟨some 26,none,.no,.lit 32 [(.t 25)]⟩,
  ⟨some 27, none, .ef, .app 32 (.t 20) (.t 26)⟩,
  ⟨some 28,none,.no,.fa 0 (.t 3)⟩,
  ⟨none,none,.no,.store 1 (.t 28) (.t 18)⟩,
  ⟨some 29,none,.no,.fa 1 (.t 3)⟩,
  ⟨none,none,.no,.store 1 (.t 29) (.t 27)⟩]
@[go_sem] def q15r7 : List AIns := [
  ⟨some 9,none,.no,.mv (.t 4)⟩,
  ⟨some 10,none,.no,.bin .add .none (.t 9) (.v (.int .i64 1))⟩,
  ⟨some 4,none,.no,.mv (.t 10)⟩]
def q15c8 : ACode := .seq (.block 1 (.reg q15r6)) (.reg q15r7)
def q15c9 : ACode := .seq q15c5 q15c8
def q15c10 : ACode := .loop q15c9
def q15c11 : ACode := .block 0 q15c10
def q15c12 : ACode := .seq (.reg q15r2) q15c11
@[go_sem] def q15r13 : List AIns := [
  ⟨some 30,none,.no,.load true 2 (.t 3)⟩,
  ⟨none,none,.no,.store 2 (.t 2) (.t 30)⟩]
def q15c14 : ACode := .seq (.reg q15r13) .ret
def q15c15 : ACode := .seq q15c12 q15c14
def q15c16 : ACode := .seq (.reg q15r1) q15c15
def q15c17 : ACode := .seq (.reg q15r0) q15c16
theorem q15ok : cFn TC 112 = some (31, [.c 2 true 2], q15c17) := by kernel_rfl

@[go_sem] def q16r0 : List AIns := [
  ⟨some 2,none,.no,.mv (.v .nilsl)⟩]
@[go_sem] def q16r1 : List AIns := [
  ⟨some 3,none,.no,.mv (.t 0)⟩,
  ⟨some 4,none,.no,.bin .eql .slc (.t 3) (.v .nilsl)⟩]
@[go_sem] def q16r2 : List AIns := [
  ⟨some 2,none,.no,.mv (.v .nilsl)⟩]
def q16c3 : ACode := .seq (.reg q16r2) .ret
def q16c4 : ACode := .cond (.t 4) q16c3 .skip
def q16c5 : ACode := .seq (.reg q16r1) q16c4
@[go_sem] def q16r6 : List AIns := [
  ⟨some 5,none,.no,.lit 32 []⟩,
  ⟨some 6,none,.no,.mv (.t 0)⟩,
  ⟨some 7,none,.no,.app 32 (.t 5) (.t 6)⟩,
  ⟨some 2,none,.no,.mv (.t 7)⟩]
def q16c7 : ACode := .seq (.reg q16r6) .ret
def q16c8 : ACode := .seq q16c5 q16c7
def q16c9 : ACode := .seq (.reg q16r0) q16c8
theorem z85 : cFn TC 105 = some (8, [.t 2], q16c9) := by kernel_rfl

@[go_sem] def q17r0 : List AIns := [
  ⟨some 3,none,.no,.box (.t 0)⟩,
  ⟨some 5,none,.no,.box (.t 2)⟩,
  ⟨some 6,none,.no,.alloc [(.int .i64 0), .nilsl]⟩]
@[go_sem] def q17r1 : List AIns := [
  ⟨some 9,none,.no,.fa 1 (.t 3)⟩,
  ⟨some 10,none,.no,.load false 1 (.t 9)⟩,
  ⟨some 11,none,.no,.call (.v (.fn 105 [])) [(.t 10)]⟩,
  ⟨some 7,none,.no,.mv (.t 11)⟩]
@[go_sem] def q17r2 : List AIns := [
  ⟨some 12,none,.no,.mv (.t 1)⟩,
  ⟨some 8,none,.no,.mv (.t 12)⟩]
@[go_sem] def q17r3 : List AIns := [
  ⟨some 13,none,.no,.fa 0 (.t 3)⟩,
  ⟨some 14,none,.no,.load false 1 (.t 13)⟩,
  ⟨some 15,none,.no,.mv (.t 8)⟩,
  ⟨some 16,none,.no,.bin .and .none (.t 14) (.t 15)⟩,
  ⟨some 17,none,.no,.bin .neq .none (.t 16) (.v (.int .i64 0))⟩]
def q17c4 : ACode := .cond (.t 17) .skip (.exit 0)
def q17c5 : ACode := .seq (.reg q17r3) q17c4
@[go_sem] def q17r6 : List AIns := [
  ⟨some 20,none,.no,.mv (.t 7)⟩,
  ⟨some 21,none,.no,.mv (.t 7)⟩,
  ⟨some 22,none,.no,.lenSl (.t 21)⟩,
  ⟨some 23,none,.no,.bin .sub .none (.t 22) (.v (.int .i64 1))⟩,
  ⟨some 24,none,.no,.iaSl 32 (.t 20) (.t 23)⟩,
  ⟨some 25, none, .rd, .load true 32 (.t 24)⟩,
  ⟨some 26, none, .rd, .load true 32 (.t 5)⟩,
  ⟨some 27,none,.no,.call (.v (.fn 90 [])) [(.t 25), (.t 26)]⟩,
  ⟨none,none,.no,.store 32 (.t 5) (.t 27)⟩]
@[go_sem] def q17r7 : List AIns := [
  ⟨some 28,none,.no,.mv (.t 7)⟩,
  ⟨some 29,none,.no,.mv (.t 7)⟩,
  ⟨some 30,none,.no,.lenSl (.t 29)⟩,
  ⟨some 31,none,.no,.bin .sub .none (.t 30) (.v (.int .i64 1))⟩,
  ⟨some 32,none,.no,.slice (.sl 32) (.t 28) none (some (.t 31)) none⟩,
  ⟨some 7,none,.no,.mv (.t 32)⟩]
def q17c8 : ACode := .seq (.reg q17r6) (.reg q17r7)
@[go_sem] def q17r9 : List AIns := [
  ⟨some 18,none,.no,.mv (.t 8)⟩,
  ⟨some 19,none,.no,.bin .mul .none (.t 18) (.v (.int .i64 2))⟩,
  ⟨some 8,none,.no,.mv (.t 19)⟩]
def q17c10 : ACode := .seq (.block 1 q17c8) (.reg q17r9)
def q17c11 : ACode := .seq q17c5 q17c10
def q17c12 : ACode := .loop q17c11
def q17c13 : ACode := .block 0 q17c12
def q17c14 : ACode := .seq (.reg q17r2) q17c13
@[go_sem] def q17r15 : List AIns := [
  ⟨some 33,none,.no,.fa 0 (.t 3)⟩,
  ⟨some 34, none, .rd, .load false 1 (.t 33)⟩,
  ⟨some 35,none,.no,.mv (.t 1)⟩,
  ⟨some 36,none,.no,.bin .add .none (.t 34) (.t 35)⟩,
  ⟨some 37,none,.no,.mv (.t 7)⟩,
  ⟨some 38, none, .rd, .load true 32 (.t 5)⟩,
  ⟨some 39,none,.no,.lit 32 [(.t 38)]⟩,
  ⟨some 40, none, .ef, .app 32 (.t 37) (.t 39)⟩,
  ⟨some 41,none,.no,.build [(.int .i64 0), .nilsl] [(0, 1, (.t 36)), (1, 1, (.t 40))]⟩,
  ⟨none,none,.no,.store 2 (.t 6) (.t 41)⟩]
def q17c16 : ACode := .seq (.reg q17r15) .ret
def q17c17 : ACode := .seq q17c14 q17c16
def q17c18 : ACode := .seq (.reg q17r1) q17c17
def q17c19 : ACode := .seq (.reg q17r0) q17c18
theorem q17ok : cFn TC 106 = some (42, [.c 6 true 2], q17c19) := by kernel_rfl

@[go_sem] def q18r0 : List AIns := [
  ⟨some 1,none,.no,.box (.t 0)⟩,
  ⟨some 2,none,.no,.mv (.v .nilfn)⟩]
@[go_sem] def q18r1 : List AIns := [
  ⟨some 3,none,.no,.mkfn 136 [(.t 1)]⟩,
  ⟨some 2,none,.no,.mv (.t 3)⟩]
def q18c2 : ACode := .seq (.reg q18r1) .ret
def q18c3 : ACode := .seq (.reg q18r0) q18c2
theorem q18ok : cFn TC 107 = some (4, [.t 2], q18c3) := by kernel_rfl

end Am
end Go.Proofs.YtncenefkbpelbaaDoor
end
section
/- Ranges: contracts: slices.Clone, slices.Equal, Valid; how many leaves the next part has. -/
namespace Go.Proofs.YtncenefkbpelbaaDoor
namespace Am
theorem ACallsP.toDown {C : Ctx} {f : FuncId} {args : List AV} {O O2 : Store} {v2 : AV} {P : AV -> Store -> Prop} (h : ACallsP C f args O P)
    (hd : Wf O.length O -> ∀ v O', P v O' -> DownV O.length v O' v2 O2) : ACallsTo C f args O v2 O2 := by
  intro γ w cargs hR ha
  rcases h γ w cargs hR ha with ⟨h1, h2⟩ | ⟨cv, v, γ', O', w', h1, hp, h2, h3, h4⟩
  · refine .inl ⟨h1, h2.mono ?_⟩
    rintro e w' ⟨cv, v, γ', O', rfl, hp, k1, k2, k3⟩
    obtain ⟨γ2, q1, q2, q3⟩ := (hd hR.wf v O' hp).sound k2 k3 k1 hR.gl (by rw [hR.len]; exact Nat.le_refl _)
    exact ⟨cv, γ2, rfl, q1, q2, q3⟩
  · obtain ⟨γ2, q1, q2, q3⟩ := (hd hR.wf v O' hp).sound h3 h4 h2 hR.gl (by rw [hR.len]; exact Nat.le_refl _)
    exact .inr ⟨cv, γ2, w', h1, q1, q2, q3⟩
theorem slen {O : Store} {r : Nat} {x : Option AObj} (h : O[r]? = some x) : r < O.length := (List.getElem?_eq_some_iff.1 h).1
/-- All new objects are let go, and read as_ they are. -/
def FrzD (τ news : Store) : DC := z2g τ news [] id (fun _ => true)
theorem DownV.all {τ news : Store} {v v2 : AV} (hw : Wf τ.length τ) (h : DR (FrzD τ news) v2 v) : DownV τ.length v (τ ++ news) v2 τ :=
  ⟨FrzD τ news, rfl, by show DownS τ.length (z2g τ news [] id (fun _ => true)) τ; simpa using z80 (kept := []) (idx := id) (fzl := fun _ => true) (news := news) hw (by simp) (by simp) (by simp) (by simp), h⟩
theorem FrzD.same {τ news : Store} {v : AV} (h : RL τ.length v) : DR (FrzD τ news) v v := DR.refl (z68 _ _ _) v h
theorem FrzD.sl {τ news : Store} {r off : Nat} {lim : Option Nat} {esz : Nat} {o es : AObj} (hk : τ.length <= r) (ho : (τ ++ news)[r]? = some (some o)) (hl : off + es.length <= o.length) (he : (o.drop off).take es.length = es) (hr : RLss τ.length es) :
    DR (FrzD τ news) (.vsl esz es false) (.sl r off es.length lim esz) := by
  simp only [DR, FrzD, z2g]
  right
  exact ⟨r, off, lim, o, rfl, by simpa using hk, ho, hl, by simp, by rw [he]; exact DRss.refl (z68 [] id (fun _ => true)) _ hr⟩
theorem drA {D : DC} {a b : List AV} (h : DRs D a b) : DR D (.agg a) (.agg b) := by simp only [DR]; exact ⟨b, rfl, h⟩
theorem drT {D : DC} {a b : List AV} (h : DRs D a b) : DR D (.tup a) (.tup b) := by simp only [DR]; exact ⟨b, rfl, h⟩
theorem OwnN.frz {sz : Nat} {τ news : Store} {v : AV} {es : List (List AV)} (h : OwnN sz τ (τ ++ news) v es) (hr : RLss τ.length es) : DR (FrzD τ news) (zz sz es) v := by
  by_cases h0 : es = []
  · obtain ⟨n2, _, ⟨rfl, rfl⟩ | ⟨j, h1, _⟩⟩ := h
    · simp [zz, DR]
    · exact absurd h0 h1
  · obtain ⟨r, rfl, hg, hk⟩ := h.sl h0
    unfold zz
    rw [if_neg h0]
    exact FrzD.sl hk hg (by omega) (by simp) hr
/-- Slots, as_ a list. -/
def lkp : List (Nat × AV) -> Env
  | [], _ => .any
  | (a, v) :: l, t => bif t == a then v else lkp l t
theorem zet : ∀ (l : List (Nat × AV)) (t : Nat), lkp l t = .any \/ (t, lkp l t) ∈ l
  | [], _ => .inl rfl
  | (a, v) :: l, t => by
    simp only [lkp]
    by_cases h : t = a
    · subst h; simp
    · have : (t == a) = false := by simpa using h
      rw [this]
      rcases zet l t with h1 | h1
      · exact .inl h1
      · exact .inr (by simp only [cond_false]; exact List.mem_cons_of_mem _ h1)
@[go_sem] theorem lkp_cons {a t : Nat} {v : AV} {l : List (Nat × AV)} : lkp ((a, v) :: l) t = bif t == a then v else lkp l t := rfl
/-- All slots but some are forgotten, all new objects let go. -/
theorem zW.frzAll {C : Ctx} {n : Nat} {ac : ACode} {Q : AExit -> Env -> Store -> Prop} {Z : Env} {τ news : Store} (hw : Wf τ.length τ) (l : List (Nat × AV)) (hl : ∀ p ∈ l, DR (FrzD τ news) p.2 (Z p.1))
    (h : zW C n τ.length ac Q (lkp l) τ) : zW C n τ.length ac Q Z (τ ++ news) := by
  refine zW.down ⟨FrzD τ news, rfl, by show DownS τ.length (z2g τ news [] id (fun _ => true)) τ; simpa using z80 (kept := []) (idx := id) (fzl := fun _ => true) (news := news) hw (by simp) (by simp) (by simp) (by simp), fun t => ?_⟩ h
  rcases zet l t with h1 | h1
  · rw [h1]; simp [DR]
  · exact hl _ h1
/-- Own elements, or an empty literal. -/
def OwnE (sz : Nat) (τ O' : Store) (v : AV) (es : List (List AV)) : Prop := OwnN sz τ O' v es \/ (es = [] /\ v = .vsl sz [] true /\ ∃ news, O' = τ ++ news)
theorem OwnE.ext {sz : Nat} {τ O' : Store} {v : AV} {es : List (List AV)} (h : OwnE sz τ O' v es) : ∃ news, O' = τ ++ news := by
  rcases h with h | ⟨_, _, h⟩
  · exact h.ext
  · exact h
theorem OwnE.rd {sz : Nat} {τ O' : Store} {v : AV} {es : List (List AV)} (h : OwnE sz τ O' v es) : RdSl O' sz es v := by
  rcases h with h | ⟨rfl, rfl, _⟩
  · exact h.rd
  · exact .inl (.inr ⟨true, rfl⟩)
theorem OwnE.len {sz : Nat} {τ O' : Store} {v : AV} {es : List (List AV)} (h : OwnE sz τ O' v es) : z12 v = some (.int .i64 es.length) := h.rd.len
theorem OwnE.app {sz : Nat} {τ O' : Store} {v : AV} {es ys : List (List AV)} (h : OwnE sz τ O' v es) (h0 : ys.length ≠ 0) (hl : es.length + ys.length <= 1073741824) :
    ∃ v' O'', aApp O' sz v ys = some (v', O'') /\ OwnN sz τ O'' v' (es ++ ys) := by
  rcases h with h | ⟨rfl, rfl, news, rfl⟩
  · exact h.app h0 hl
  · refine ⟨.sl (τ ++ news).length 0 ys.length none sz, (τ ++ news) ++ [some ys], by rw [z7k, if_neg h0, if_pos ⟨rfl, rfl, hl⟩]; simp, news ++ [some ys], by rw [List.append_assoc], .inr ⟨news.length, ?_, by simp, by rw [List.getElem?_append_right (Nat.le_refl _)]; simp⟩⟩
    intro e; exact h0 (by rw [(List.append_eq_nil_iff.1 e).2]; rfl)
theorem RdSl.elems {O : Store} {sz : Nat} {es : List (List AV)} {x : AV} (h : RdSl O sz es x) : z2b O x = some es := by
  rcases h with (⟨rfl, rfl⟩ | ⟨ex, rfl⟩) | ⟨r, off, lim, o, rfl, hg, h1, h2⟩
  · rfl
  · rfl
  · rw [z9z, hg]; simp only; rw [if_pos h1, h2]
set_option maxHeartbeats 4000000 in
theorem zd5 (O : Store) (l : List Hash) (x : AV) (hx : RdSl O 32 (hr l) x) (hl : l.length < 1000000) :
    ACallsP TC 105 [x] O (fun v O' => OwnE 32 O O' v (hr l) /\ (x = .nilsl ↔ v = .nilsl)) := by
  rcases hx with (⟨rfl, hnil⟩ | ⟨ex, rfl⟩) | ⟨r, off, lim, o, rfl, hg, h1, h2⟩
  · refine ACallsTo.toP (v := .nilsl) (O' := O) ?_ ⟨.inl ⟨[], by simp, .inl ⟨hnil, rfl⟩⟩, Iff.rfl⟩
    refine ACallsTo.of_body z85 (by simp) fun hw _ => ?_
    repeat' (first|refine zW.zs ?_|refine zW.zb ?_|refine zW.zc ?_|refine zW.zt rfl ?_|refine zW.zf rfl ?_|(refine zW.zd rfl (fun ht => ?_) (fun ht => ?_)<;>try (exfalso;omega))|((first|refine zW.zr ?_|refine zW.zk ?_|refine zW.ze ?_|refine zW.zq ?_|((first|apply zg0|apply zg1|apply zg2|apply zg3|apply zg4|apply zg5|apply zg6|apply zg7)<;>intro ht));all_goals try simp (disch:=first|omega|(simp only [lens];first|done|omega)) only [go_sem,reduceEqDiff,Nat.reduceBEq,reduceAdd,reduceMul,reduceSub,reduceLeDiff,reduceToNat,reducePow]))
    exact DownV.same hw (z14 _ rfl)
  · by_cases h0 : l = []
    · subst h0
      refine ACallsTo.toP (v := .vsl 32 [] true) (O' := O) ?_ ⟨.inr ⟨rfl, rfl, [], by simp⟩, by simp⟩
      refine ACallsTo.of_body z85 (by simp) fun hw _ => ?_
      rw [z9g]
      repeat' (first|refine zW.zs ?_|refine zW.zb ?_|refine zW.zc ?_|refine zW.zt rfl ?_|refine zW.zf rfl ?_|(refine zW.zd rfl (fun ht => ?_) (fun ht => ?_)<;>try (exfalso;omega))|((first|refine zW.zr ?_|refine zW.zk ?_|refine zW.ze ?_|refine zW.zq ?_|((first|apply zg0|apply zg1|apply zg2|apply zg3|apply zg4|apply zg5|apply zg6|apply zg7)<;>intro ht));all_goals try simp (disch:=first|omega|(simp only [lens];first|done|omega)) only [go_sem,reduceEqDiff,Nat.reduceBEq,reduceAdd,reduceMul,reduceSub,reduceLeDiff,reduceToNat,reducePow]))
      exact DownV.same hw (z14 _ rfl)
    · have hne : ¬ l.length = 0 := fun e => h0 (List.eq_nil_of_length_eq_zero e)
      refine ACallsP.of_keep z85 (by simp) ?_
      repeat' (first|refine zW.zs ?_|refine zW.zb ?_|refine zW.zc ?_|refine zW.zt rfl ?_|refine zW.zf rfl ?_|(refine zW.zd rfl (fun ht => ?_) (fun ht => ?_)<;>try (exfalso;omega))|((first|refine zW.zr ?_|refine zW.zk ?_|refine zW.ze ?_|refine zW.zq ?_|((first|apply zg0|apply zg1|apply zg2|apply zg3|apply zg4|apply zg5|apply zg6|apply zg7)<;>intro ht));all_goals try simp (disch:=first|omega|(simp only [lens];first|done|omega)) only [go_sem,reduceEqDiff,Nat.reduceBEq,reduceAdd,reduceMul,reduceSub,reduceLeDiff,reduceToNat,reducePow, hne, z7k]))
      refine .inl ⟨[some (hr l)], by simp, .inr ⟨0, by rw [Ne, hr_nil_iff]; exact h0, ?_, by simp⟩⟩
      simp [z6]
  · have hrl := z6 l
    by_cases h0 : l = []
    · subst h0
      refine ACallsTo.toP (v := .vsl 32 [] true) (O' := O) ?_ ⟨.inr ⟨rfl, rfl, [], by simp⟩, by simp⟩
      refine ACallsTo.of_body z85 (by simp) fun hw _ => ?_
      rw [z9g] at *
      repeat' (first|refine zW.zs ?_|refine zW.zb ?_|refine zW.zc ?_|refine zW.zt rfl ?_|refine zW.zf rfl ?_|(refine zW.zd rfl (fun ht => ?_) (fun ht => ?_)<;>try (exfalso;omega))|((first|refine zW.zr ?_|refine zW.zk ?_|refine zW.ze ?_|refine zW.zq ?_|((first|apply zg0|apply zg1|apply zg2|apply zg3|apply zg4|apply zg5|apply zg6|apply zg7)<;>intro ht));all_goals try simp (disch:=first|omega|(simp only [lens];first|done|omega)) only [go_sem,reduceEqDiff,Nat.reduceBEq,reduceAdd,reduceMul,reduceSub,reduceLeDiff,reduceToNat,reducePow, hg, z9z, h1, h2]))
      exact DownV.same hw (z14 _ rfl)
    · have hne : ¬ l.length = 0 := fun e => h0 (List.eq_nil_of_length_eq_zero e)
      rw [hrl] at h1 h2
      refine ACallsP.of_keep z85 (by simp) ?_
      repeat' (first|refine zW.zs ?_|refine zW.zb ?_|refine zW.zc ?_|refine zW.zt rfl ?_|refine zW.zf rfl ?_|(refine zW.zd rfl (fun ht => ?_) (fun ht => ?_)<;>try (exfalso;omega))|((first|refine zW.zr ?_|refine zW.zk ?_|refine zW.ze ?_|refine zW.zq ?_|((first|apply zg0|apply zg1|apply zg2|apply zg3|apply zg4|apply zg5|apply zg6|apply zg7)<;>intro ht));all_goals try simp (disch:=first|omega|(simp only [lens];first|done|omega)) only [go_sem,reduceEqDiff,Nat.reduceBEq,reduceAdd,reduceMul,reduceSub,reduceLeDiff,reduceToNat,reducePow, hg, hne, z7k, z9z, h1, h2]))
      refine .inl ⟨[some (hr l)], by simp, .inr ⟨0, by rw [Ne, hr_nil_iff]; exact h0, ?_, by simp⟩⟩
      simp [z6]
end Am
end Go.Proofs.YtncenefkbpelbaaDoor
end
section
/- Ranges: contracts: slices.Equal, Valid, step, push. -/
namespace Go.Proofs.YtncenefkbpelbaaDoor
namespace Am
theorem z6m {l : List Hash} {i : Nat} (h : i < l.length) : l.take (i + 1) = l.take i ++ [hd l i] := by
  rw [z9f h]; exact (List.take_append_getElem h).symm
def z1u (n : Int) (len : Nat) : Bool := decide (0 <= n /\ n <= 4096 /\ len = pc 64 n.toNat)
theorem z9o (O : Store) (n : Int) (hs : List Hash) (x : AV) (hx : RdSl O 32 (hr hs) x) :
    ACallsTo TC 58 [.agg [.int .i64 n, x]] O (.bool (z1u n hs.length)) O := by
  have r1 := hx.len
  rw [z6] at r1
  unfold z12 at r1
  refine ACallsTo.of_body qzok (by simp) fun hw _ => ?_
  by_cases h1 : 0 <= n /\ n <= 4096
  · have h := fun O => zib O n (by omega)
    by_cases h2 : hs.length = pc 64 n.toNat
    · have e : z1u n hs.length = true := decide_eq_true ⟨h1.1, h1.2, h2⟩
      have h2' : (hs.length : Int) = pc 64 n.toNat := by omega
      rw [e]
      repeat' (first|refine zW.zs ?_|refine zW.zb ?_|refine zW.zc ?_|refine zW.zt rfl ?_|refine zW.zf rfl ?_|(refine zW.zd rfl (fun ht => ?_) (fun ht => ?_)<;>try (exfalso;omega))|((first|refine zW.zr ?_|refine zW.zk ?_|refine zW.ze ?_|refine zW.zq ?_|(apply callW.mk_pu; (first | exact (fun _ => h _))) | (apply callW.za; (first | exact (h _))) | ((first|apply zg0|apply zg1|apply zg2|apply zg3|apply zg4|apply zg5|apply zg6|apply zg7)<;>intro ht));all_goals try simp (disch:=first|omega|(simp only [lens];first|done|omega)) only [go_sem,reduceEqDiff,Nat.reduceBEq,reduceAdd,reduceMul,reduceSub,reduceLeDiff,reduceToNat,reducePow, r1, h2']))
      exact DownV.pure hw (z14 _ rfl)
    · have e : z1u n hs.length = false := decide_eq_false fun e => h2 e.2.2
      have h2' : ¬ (hs.length : Int) = pc 64 n.toNat := by omega
      rw [e]
      repeat' (first|refine zW.zs ?_|refine zW.zb ?_|refine zW.zc ?_|refine zW.zt rfl ?_|refine zW.zf rfl ?_|(refine zW.zd rfl (fun ht => ?_) (fun ht => ?_)<;>try (exfalso;omega))|((first|refine zW.zr ?_|refine zW.zk ?_|refine zW.ze ?_|refine zW.zq ?_|(apply callW.mk_pu; (first | exact (fun _ => h _))) | (apply callW.za; (first | exact (h _))) | ((first|apply zg0|apply zg1|apply zg2|apply zg3|apply zg4|apply zg5|apply zg6|apply zg7)<;>intro ht));all_goals try simp (disch:=first|omega|(simp only [lens];first|done|omega)) only [go_sem,reduceEqDiff,Nat.reduceBEq,reduceAdd,reduceMul,reduceSub,reduceLeDiff,reduceToNat,reducePow, r1, h2']))
      exact DownV.pure hw (z14 _ rfl)
  · have e : z1u n hs.length = false := decide_eq_false fun e => h1 ⟨e.1, e.2.1⟩
    rw [e]
    repeat' (first|refine zW.zs ?_|refine zW.zb ?_|refine zW.zc ?_|refine zW.zt rfl ?_|refine zW.zf rfl ?_|(refine zW.zd rfl (fun ht => ?_) (fun ht => ?_)<;>try (exfalso;omega))|((first|refine zW.zr ?_|refine zW.zk ?_|refine zW.ze ?_|refine zW.zq ?_|((first|apply zg0|apply zg1|apply zg2|apply zg3|apply zg4|apply zg5|apply zg6|apply zg7)<;>intro ht));all_goals try simp (disch:=first|omega|(simp only [lens];first|done|omega)) only [go_sem,reduceEqDiff,Nat.reduceBEq,reduceAdd,reduceMul,reduceSub,reduceLeDiff,reduceToNat,reducePow, r1]))
    all_goals exact DownV.pure hw (z14 _ rfl)
theorem z9r (O : Store) (n : Int) (hs : List Hash) (x : AV) (hx : RdSl O 32 (hr hs) x) :
    ACallsTo TC 60 [.agg [.int .i64 n, x]] O (.bool (z1u n hs.length)) O := by
  have r1 := hx.len
  rw [z6] at r1
  unfold z12 at r1
  refine ACallsTo.of_body q12ok (by simp) fun hw _ => ?_
  by_cases h1 : 0 <= n /\ n <= 4096
  · have h := fun O => zoe O n (by omega)
    by_cases h2 : hs.length = pc 64 n.toNat
    · have e : z1u n hs.length = true := decide_eq_true ⟨h1.1, h1.2, h2⟩
      have h2' : (hs.length : Int) = pc 64 n.toNat := by omega
      rw [e]
      repeat' (first|refine zW.zs ?_|refine zW.zb ?_|refine zW.zc ?_|refine zW.zt rfl ?_|refine zW.zf rfl ?_|(refine zW.zd rfl (fun ht => ?_) (fun ht => ?_)<;>try (exfalso;omega))|((first|refine zW.zr ?_|refine zW.zk ?_|refine zW.ze ?_|refine zW.zq ?_|(apply callW.mk_pu; (first | exact (fun _ => h _))) | (apply callW.za; (first | exact (h _))) | ((first|apply zg0|apply zg1|apply zg2|apply zg3|apply zg4|apply zg5|apply zg6|apply zg7)<;>intro ht));all_goals try simp (disch:=first|omega|(simp only [lens];first|done|omega)) only [go_sem,reduceEqDiff,Nat.reduceBEq,reduceAdd,reduceMul,reduceSub,reduceLeDiff,reduceToNat,reducePow, r1, h2']))
      exact DownV.pure hw (z14 _ rfl)
    · have e : z1u n hs.length = false := decide_eq_false fun e => h2 e.2.2
      have h2' : ¬ (hs.length : Int) = pc 64 n.toNat := by omega
      rw [e]
      repeat' (first|refine zW.zs ?_|refine zW.zb ?_|refine zW.zc ?_|refine zW.zt rfl ?_|refine zW.zf rfl ?_|(refine zW.zd rfl (fun ht => ?_) (fun ht => ?_)<;>try (exfalso;omega))|((first|refine zW.zr ?_|refine zW.zk ?_|refine zW.ze ?_|refine zW.zq ?_|(apply callW.mk_pu; (first | exact (fun _ => h _))) | (apply callW.za; (first | exact (h _))) | ((first|apply zg0|apply zg1|apply zg2|apply zg3|apply zg4|apply zg5|apply zg6|apply zg7)<;>intro ht));all_goals try simp (disch:=first|omega|(simp only [lens];first|done|omega)) only [go_sem,reduceEqDiff,Nat.reduceBEq,reduceAdd,reduceMul,reduceSub,reduceLeDiff,reduceToNat,reducePow, r1, h2']))
      exact DownV.pure hw (z14 _ rfl)
  · have e : z1u n hs.length = false := decide_eq_false fun e => h1 ⟨e.1, e.2.1⟩
    rw [e]
    repeat' (first|refine zW.zs ?_|refine zW.zb ?_|refine zW.zc ?_|refine zW.zt rfl ?_|refine zW.zf rfl ?_|(refine zW.zd rfl (fun ht => ?_) (fun ht => ?_)<;>try (exfalso;omega))|((first|refine zW.zr ?_|refine zW.zk ?_|refine zW.ze ?_|refine zW.zq ?_|((first|apply zg0|apply zg1|apply zg2|apply zg3|apply zg4|apply zg5|apply zg6|apply zg7)<;>intro ht));all_goals try simp (disch:=first|omega|(simp only [lens];first|done|omega)) only [go_sem,reduceEqDiff,Nat.reduceBEq,reduceAdd,reduceMul,reduceSub,reduceLeDiff,reduceToNat,reducePow, r1]))
    all_goals exact DownV.pure hw (z14 _ rfl)
end Am
end Go.Proofs.YtncenefkbpelbaaDoor
end
section
/- Ranges: contracts: push. -/
namespace Go.Proofs.YtncenefkbpelbaaDoor
namespace Am
def Ext (O O' : Store) : Prop := ∃ news, O' = O ++ news
theorem Ext.refl (O : Store) : Ext O O := ⟨[], by simp⟩
theorem Ext.app {O O' y : Store} (h : Ext O O') : Ext O (O' ++ y) := by
  obtain ⟨n, rfl⟩ := h
  exact ⟨n ++ y, by rw [List.append_assoc]⟩
theorem Ext.set {O O' : Store} {r : Nat} {x : Option AObj} (h : Ext O O') (hr : O.length <= r) : Ext O (O'.set r x) := by
  obtain ⟨n, rfl⟩ := h
  exact ⟨n.set (r - O.length) x, List.set_append_right _ _ hr⟩
theorem Ext.trans {O O' O'' : Store} (h : Ext O O') (h' : Ext O' O'') : Ext O O'' := by
  obtain ⟨n, rfl⟩ := h
  obtain ⟨m, rfl⟩ := h'
  exact ⟨n ++ m, by rw [List.append_assoc]⟩
theorem Ext.le {O O' : Store} (h : Ext O O') : O.length <= O'.length := by
  obtain ⟨n, rfl⟩ := h; simp
theorem zho (O : Store) (l : List Hash) (x : AV) (hx : RdSl O 32 (hr l) x) : ∃ v O', OwnE 32 O O' v (hr l) /\ (x = .nilsl ↔ v = .nilsl) := by
  have h1 := z84 O 32 (hr l)
  rcases hx with (⟨rfl, h⟩ | ⟨ex, rfl⟩) | ⟨r, off, lim, o, rfl, _⟩
  · exact ⟨.nilsl, O, .inl ⟨[], by simp, .inl ⟨h, rfl⟩⟩, Iff.rfl⟩
  · by_cases h0 : hr l = []
    · exact ⟨.vsl 32 [] true, O, .inr ⟨h0, rfl, [], by simp⟩, by simp⟩
    · refine ⟨_, _, .inl h1, ?_⟩
      unfold ownV; rw [if_neg h0]; simp
  · by_cases h0 : hr l = []
    · exact ⟨.vsl 32 [] true, O, .inr ⟨h0, rfl, [], by simp⟩, by simp⟩
    · refine ⟨_, _, .inl h1, ?_⟩
      unfold ownV; rw [if_neg h0]; simp
theorem zdg {n i : Nat} : n &&& 2 ^ i = if n / 2 ^ i % 2 = 1 then 2 ^ i else 0 := by
  apply Nat.eq_of_testBit_eq
  intro k
  rw [Nat.testBit_and, Nat.testBit_two_pow]
  by_cases hk : i = k
  · subst hk
    rw [Nat.testBit_eq_decide_div_mod_eq]
    split
    · rename_i h; simp [h, Nat.testBit_two_pow]
    · rename_i h; simp [h]
  · split
    · simp [hk, Nat.testBit_two_pow]
    · simp [hk]
theorem zfd {f q : Nat} (h : q % 2 = 1) (hf : 0 < f) : pc f q = 1 + pc (f - 1) (q / 2) := by
  match f, hf with
  | f + 1, _ => simp [pc, h]
/-- A loop that is left in its first round. -/
theorem zW.once {C : Ctx} {n k : Nat} {Q : AExit -> Env -> Store -> Prop} {Z : Env} {O : Store} {x : ACode} (h : zW C n k x (z1i (fun _ _ => False) Q) Z O) : zW C n k (.loop x) Q Z O :=
  zW.loop (fun _ Z' O' => Z' = Z /\ O' = O) 0 ⟨rfl, rfl⟩ (by
    rintro m _ _ ⟨rfl, rfl⟩
    refine h.mono fun e Z O h => ?_
    cases e
    · exact h.elim
    · exact h
    · exact h)
set_option maxHeartbeats 8000000 in
theorem zn3 (O : Store) (n j : Nat) (x : AV) (hs : List Hash) (h : Hash) (hx : RdSl O 32 (hr hs) x) (hj : 2 ^ j ∣ n) (hn : n + 2 ^ j <= 4096) (hl : hs.length = pc 13 n) :
    ACallsTo TC 106 [.agg [.int .i64 n, x], .int .i64 ((2 ^ j : Nat) : Int), .agg (hc h)] O (.agg [.int .i64 ((n + 2 ^ j : Nat) : Int), .vsl 32 (hr (z3k (n / 2 ^ j) hs.reverse h).reverse) false]) O := by
  have hp : 0 < 2 ^ j := Nat.pow_pos (by decide)
  have hj12 : j <= 12 := by
    rcases Nat.lt_or_ge j 13 with h | h
    · omega
    · have := Nat.pow_le_pow_right (n := 2) (by decide) h
      omega
  have hlen : hs.length < 1000000 := by
    have : ∀ f q, pc f q <= f := fun f => by
      induction f with
      | zero => intro q; simp [pc]
      | succ f ih => intro q; simp only [pc]; have := ih (q / 2); omega
    have := this 13 n; omega
  obtain ⟨q0, hq0⟩ := hj
  have hdiv : n / 2 ^ j = q0 := by rw [hq0]; exact Nat.mul_div_cancel_left _ hp
  have hpl : hs.length = pc (13 - j) (n / 2 ^ j) := by
    have := pc_two j (13 - j) q0
    rw [<- hq0, show 13 - j + j = 13 by omega] at this
    rw [hl, this, hdiv]
  generalize hk0 : 2 ^ j = k0 at *
  have hadd : ((n : Int) + k0) = ((n + k0 : Nat) : Int) := by omega
  refine ACallsTo.of_body q17ok (by simp) fun hw _ => ?_
  repeat' (first|refine zW.zs ?_|refine zW.zb ?_|refine zW.zc ?_|refine zW.zt rfl ?_|refine zW.zf rfl ?_|(refine zW.zd rfl (fun ht => ?_) (fun ht => ?_)<;>try (exfalso;omega))|((first|refine zW.zr ?_|refine zW.zk ?_|refine zW.ze ?_|refine zW.zq ?_|((first|apply zg0|apply zg1|apply zg2|apply zg3|apply zg4|apply zg5|apply zg6|apply zg7)<;>intro ht));all_goals try simp (disch:=first|omega|(simp only [lens];first|done|omega)) only [go_sem,reduceEqDiff,Nat.reduceBEq,reduceAdd,reduceMul,reduceSub,reduceLeDiff,reduceToNat,reducePow]))
  refine callW.mkP (zd5 _ hs x hx.app hlen) (zho _ hs x hx.app) ?_
  rintro v O1 ⟨hO, _⟩
  obtain ⟨y, hy⟩ := hO.ext
  have b0 : O1[O.length]? = some (some [[.int .i64 n, x]]) := by rw [hy]; simp
  have b1 : O1[O.length + 1]? = some (some [hc h]) := by rw [hy]; simp
  have b2 : O1[O.length + 2]? = some (some [[.int .i64 0, .nilsl]]) := by rw [hy]; simp
  have b3 : Ext O O1 := by rw [hy]; exact (Ext.refl O).app.app
  have g0 := slen b0
  have g1 := slen b1
  have g2 := slen b2
  by_cases h0 : hs = []
  · subst h0
    have hn0 : n / k0 % 2 = 0 := by
      have := hpl
      simp at this
      rcases Nat.mod_two_eq_zero_or_one (n / k0) with h | h
      · exact h
      · rw [zfd h (by omega)] at this; omega
    have hand := zdg (n := n) (i := j)
    rw [hk0, if_neg (by omega)] at hand
    have hres : hr (z3k (n / k0) ([] : List Hash).reverse h).reverse = [hc h] := rfl
    rw [hres]
    have hv : v = .nilsl \/ v = .vsl 32 [] true := by
      rcases hO with ⟨_, _, ⟨_, rfl⟩ | ⟨_, h1, _⟩⟩ | ⟨_, rfl, _⟩
      · exact .inl rfl
      · exact absurd rfl h1
      · exact .inr rfl
    have fin : ∀ O2 r, Ext O O2 -> O.length <= r -> O2[r]? = some (some [hc h]) -> DownV O.length (.agg [.int .i64 ((n + k0 : Nat) : Int), .sl r 0 1 none 32]) O2 (.agg [.int .i64 ((n + k0 : Nat) : Int), .vsl 32 [hc h] false]) O := fun O2 r e hr hg => by
      obtain ⟨news, rfl⟩ := e
      exact DownV.all hw (drA (drsc (FrzD.same (by simp [RL])) (drs1 (FrzD.sl (es := [hc h]) hr hg (by simp) (by simp) (by simp only [RLss]; exact ⟨z6d _, trivial⟩)))))
    rcases hv with rfl | rfl
    · repeat' (first|refine zW.zs ?_|refine zW.zb ?_|refine zW.zc ?_|refine zW.zt rfl ?_|refine zW.zf rfl ?_|(refine zW.zd rfl (fun ht => ?_) (fun ht => ?_)<;>try (exfalso;omega))|((first|refine zW.zr ?_|refine zW.zk ?_|refine zW.ze ?_|refine zW.zq ?_|((first|apply zg0|apply zg1|apply zg2|apply zg3|apply zg4|apply zg5|apply zg6|apply zg7)<;>intro ht));all_goals try simp (disch:=first|omega|(simp only [lens];first|done|omega)) only [go_sem,reduceEqDiff,Nat.reduceBEq,reduceAdd,reduceMul,reduceSub,reduceLeDiff,reduceToNat,reducePow, b0, b1, b2]))
      refine zW.once ?_
      repeat' (first|refine zW.zs ?_|refine zW.zb ?_|refine zW.zc ?_|refine zW.zt rfl ?_|refine zW.zf rfl ?_|(refine zW.zd rfl (fun ht => ?_) (fun ht => ?_)<;>try (exfalso;omega))|((first|refine zW.zr ?_|refine zW.zk ?_|refine zW.ze ?_|refine zW.zq ?_|((first|apply zg0|apply zg1|apply zg2|apply zg3|apply zg4|apply zg5|apply zg6|apply zg7)<;>intro ht));all_goals try simp (disch:=first|omega|(simp only [lens];first|done|omega)) only [go_sem,reduceEqDiff,Nat.reduceBEq,reduceAdd,reduceMul,reduceSub,reduceLeDiff,reduceToNat,reducePow, b0, b1, b2, hand, hadd]))
      exact fin _ _ (b3.set (by omega)).app (by omega) (by simp)
    · repeat' (first|refine zW.zs ?_|refine zW.zb ?_|refine zW.zc ?_|refine zW.zt rfl ?_|refine zW.zf rfl ?_|(refine zW.zd rfl (fun ht => ?_) (fun ht => ?_)<;>try (exfalso;omega))|((first|refine zW.zr ?_|refine zW.zk ?_|refine zW.ze ?_|refine zW.zq ?_|((first|apply zg0|apply zg1|apply zg2|apply zg3|apply zg4|apply zg5|apply zg6|apply zg7)<;>intro ht));all_goals try simp (disch:=first|omega|(simp only [lens];first|done|omega)) only [go_sem,reduceEqDiff,Nat.reduceBEq,reduceAdd,reduceMul,reduceSub,reduceLeDiff,reduceToNat,reducePow, b0, b1, b2]))
      refine zW.once ?_
      repeat' (first|refine zW.zs ?_|refine zW.zb ?_|refine zW.zc ?_|refine zW.zt rfl ?_|refine zW.zf rfl ?_|(refine zW.zd rfl (fun ht => ?_) (fun ht => ?_)<;>try (exfalso;omega))|((first|refine zW.zr ?_|refine zW.zk ?_|refine zW.ze ?_|refine zW.zq ?_|((first|apply zg0|apply zg1|apply zg2|apply zg3|apply zg4|apply zg5|apply zg6|apply zg7)<;>intro ht));all_goals try simp (disch:=first|omega|(simp only [lens];first|done|omega)) only [go_sem,reduceEqDiff,Nat.reduceBEq,reduceAdd,reduceMul,reduceSub,reduceLeDiff,reduceToNat,reducePow, b0, b1, b2, hand, hadd]))
      exact fin _ _ (b3.set (by omega)).app (by omega) (by simp)
  · have hpos : 0 < hs.length := List.length_pos_iff.2 h0
    obtain ⟨r, rfl, hgr, hrl⟩ : ∃ r, v = .sl r 0 hs.length none 32 /\ O1[r]? = some (some (hr hs)) /\ O.length + 3 <= r := by
      rcases hO with hO | hO
      · obtain ⟨r, h1, h2, h3⟩ := hO.sl (by rw [Ne, hr_nil_iff]; exact h0)
        rw [z6] at h1
        exact ⟨r, h1, h2, by simpa using h3⟩
      · exact absurd (hr_nil_iff.1 hO.1) h0
    have g3 := slen hgr
    repeat' (first|refine zW.zs ?_|refine zW.zb ?_|refine zW.zc ?_|refine zW.zt rfl ?_|refine zW.zf rfl ?_|(refine zW.zd rfl (fun ht => ?_) (fun ht => ?_)<;>try (exfalso;omega))|((first|refine zW.zr ?_|refine zW.zk ?_|refine zW.ze ?_|refine zW.zq ?_|((first|apply zg0|apply zg1|apply zg2|apply zg3|apply zg4|apply zg5|apply zg6|apply zg7)<;>intro ht));all_goals try simp (disch:=first|omega|(simp only [lens];first|done|omega)) only [go_sem,reduceEqDiff,Nat.reduceBEq,reduceAdd,reduceMul,reduceSub,reduceLeDiff,reduceToNat,reducePow, b0, b1, b2, hadd]))
    refine zW.loop (fun m Z O' => ∃ (i : Nat) (h' : Hash), m <= hs.length /\ j <= i /\ i <= 13 /\ m = pc (13 - i) (n / 2 ^ i) /\ z3k (n / 2 ^ i) (hs.take m).reverse h' = z3k (n / k0) hs.reverse h ∧
      O'[O.length]? = some (some [[.int .i64 n, x]]) /\ O'[O.length + 1]? = some (some [hc h']) /\ O'[O.length + 2]? = some (some [[.int .i64 0, .nilsl]]) /\ O'[r]? = some (some (hr hs)) /\ Ext O O' ∧
      Z 1 = .int .i64 k0 /\ Z 3 = .ptr O.length 0 0 /\ Z 5 = .ptr (O.length + 1) 0 0 /\ Z 6 = .ptr (O.length + 2) 0 0 /\ Z 7 = .sl r 0 m none 32 /\ Z 8 = .int .i64 ((2 ^ i : Nat) : Int)) hs.length ?_ ?_
    · refine ⟨j, h, Nat.le_refl _, Nat.le_refl _, by omega, ?_, ?_, b0, b1, b2, hgr, b3, by simp (disch:=first|omega|(simp only [lens];first|done|omega)) only [go_sem,reduceEqDiff,Nat.reduceBEq,reduceAdd,reduceMul,reduceSub,reduceLeDiff,reduceToNat,reducePow], by simp (disch:=first|omega|(simp only [lens];first|done|omega)) only [go_sem,reduceEqDiff,Nat.reduceBEq,reduceAdd,reduceMul,reduceSub,reduceLeDiff,reduceToNat,reducePow], by simp (disch:=first|omega|(simp only [lens];first|done|omega)) only [go_sem,reduceEqDiff,Nat.reduceBEq,reduceAdd,reduceMul,reduceSub,reduceLeDiff,reduceToNat,reducePow], by simp (disch:=first|omega|(simp only [lens];first|done|omega)) only [go_sem,reduceEqDiff,Nat.reduceBEq,reduceAdd,reduceMul,reduceSub,reduceLeDiff,reduceToNat,reducePow], by simp (disch:=first|omega|(simp only [lens];first|done|omega)) only [go_sem,reduceEqDiff,Nat.reduceBEq,reduceAdd,reduceMul,reduceSub,reduceLeDiff,reduceToNat,reducePow], by simp (disch:=first|omega|(simp only [lens];first|done|omega)) only [go_sem,reduceEqDiff,Nat.reduceBEq,reduceAdd,reduceMul,reduceSub,reduceLeDiff,reduceToNat,reducePow]; rw [hk0]⟩
      · rw [hk0]; exact hpl
      · rw [hk0, List.take_of_length_le (Nat.le_refl _)]
    · rintro m Z O' ⟨i, h', hm, hji, hi13, hmp, hpush, c0, c1, c2, cr, ce, q1, q3, q5, q6, q7, q8⟩
      have d0 := slen c0
      have d1 := slen c1
      have d2 := slen c2
      have dr := slen cr
      have hki : 0 < 2 ^ i := Nat.pow_pos (by decide)
      have hand := zdg (n := n) (i := i)
      have hi8 : 2 ^ i <= 8192 := by
        have := Nat.pow_le_pow_right (n := 2) (by decide) hi13
        exact this
      have hs2 : 2 ^ (i + 1) = 2 ^ i * 2 := Nat.pow_succ ..
      have hdd : n / 2 ^ i / 2 = n / 2 ^ (i + 1) := by rw [Nat.div_div_eq_div_mul, hs2]
      by_cases hbit : n / 2 ^ i % 2 = 1
      · rw [if_pos hbit] at hand
        have hi12 : i < 13 := by
          rcases Nat.lt_or_ge i 13 with h | h
          · exact h
          · have e13 : i = 13 := by omega
            rw [e13, Nat.div_eq_of_lt (by omega)] at hbit
            simp at hbit
        rw [zfd hbit (by omega)] at hmp
        obtain ⟨l, rfl⟩ : ∃ l, m = l + 1 := ⟨m - 1, by omega⟩
        have hrev : (hs.take (l + 1)).reverse = hd hs l :: (hs.take l).reverse := by rw [z6m (by omega)]; simp
        rw [hrev, zbp hbit, hdd] at hpush
        rw [hdd, show 13 - i - 1 = 13 - (i + 1) by omega] at hmp
        generalize hki2 : 2 ^ i = k at *
        have hne : ¬ (k : Int) = 0 := by omega
        have hl1 : ((l + 1 : Nat) : Int) - 1 = l := by omega
        repeat' (first | refine zW.zs ?_ | refine zW.zb ?_ | refine zW.zc ?_ | refine zW.zt rfl ?_ | refine zW.zf rfl ?_ | (refine zW.zd rfl (fun ht => ?_) (fun ht => ?_) <;> try (exfalso; omega)) | ((first | refine zW.regS ?_ | refine zW.zk ?_ | refine zW.ze ?_ | refine zW.zq ?_ | (apply callW.mk_pu; (first | exact (fun _ => zcv _ _ _))) | (apply callW.za; (first | exact (zcv _ _ _))) | ((first|apply zg0|apply zg1|apply zg2|apply zg3|apply zg4|apply zg5|apply zg6|apply zg7)<;>intro ht));all_goals try simp (disch:=first|omega|(simp only [lens];first|done|omega)) only [go_sem,reduceEqDiff,Nat.reduceBEq,reduceAdd,reduceMul,reduceSub,reduceLeDiff,reduceToNat,reducePow, q1, q3, q5, q6, q7, q8, c0, c1, c2, cr, hand, hne, hl1]))
        exact ⟨l, by omega, i + 1, z15 (hd hs l) h', by omega, by omega, by omega, by omega, hpush, rfl, ce.set (by omega), by simp, by rw [hs2]; simp⟩
      · rw [if_neg hbit] at hand
        rw [zbo (by omega)] at hpush
        have hres : (z3k (n / k0) hs.reverse h).reverse = hs.take m ++ [h'] := by rw [<- hpush]; simp
        rw [hres]
        generalize hki2 : 2 ^ i = k at *
        have fin : ∀ O2 r2 o, Ext O O2 -> O.length <= r2 -> O2[r2]? = some (some o) -> m + 1 <= o.length -> o.take (m + 1) = hr (hs.take m ++ [h']) -> DownV O.length (.agg [.int .i64 ((n + k0 : Nat) : Int), .sl r2 0 (m + 1) none 32]) O2 (.agg [.int .i64 ((n + k0 : Nat) : Int), .vsl 32 (hr (hs.take m ++ [h'])) false]) O := fun O2 r2 o e hr2 hg ho1 ho2 => by
          obtain ⟨news, rfl⟩ := e
          have hl3 : (hr (hs.take m ++ [h'])).length = m + 1 := by simp [z6]; omega
          have := FrzD.sl (τ := O) (news := news) (r := r2) (off := 0) (lim := none) (esz := 32) (o := o) (es := hr (hs.take m ++ [h'])) hr2 hg (by omega) (by rw [hl3, List.drop_zero]; exact ho2) (z3f _)
          rw [hl3] at this
          exact DownV.all hw (drA (drsc (FrzD.same (by simp [RL])) (drs1 this)))
        by_cases hfull : m < hs.length
        · repeat' (first|refine zW.zs ?_|refine zW.zb ?_|refine zW.zc ?_|refine zW.zt rfl ?_|refine zW.zf rfl ?_|(refine zW.zd rfl (fun ht => ?_) (fun ht => ?_)<;>try (exfalso;omega))|((first|refine zW.zr ?_|refine zW.zk ?_|refine zW.ze ?_|refine zW.zq ?_|((first|apply zg0|apply zg1|apply zg2|apply zg3|apply zg4|apply zg5|apply zg6|apply zg7)<;>intro ht));all_goals try simp (disch:=first|omega|(simp only [lens];first|done|omega)) only [go_sem,reduceEqDiff,Nat.reduceBEq,reduceAdd,reduceMul,reduceSub,reduceLeDiff,reduceToNat,reducePow, q1, q3, q5, q6, q7, q8, c0, c1, c2, cr, hand, hadd]))
          refine fin _ r _ ((ce.set (by omega)).set (by omega)) (by omega) (by rw [z1e (by omega), z4b dr]) (by simp [z6]; omega) ?_
          rw [show hr (hs.take m) ++ hc h' :: hr (hs.drop (m + 1)) = hr ((hs.take m ++ [h']) ++ hs.drop (m + 1)) by simp [hr], zef, List.take_left' (by simp; omega)]
        · have hm' : hs.take m = hs := List.take_of_length_le (by omega)
          rw [hm'] at fin
          repeat' (first|refine zW.zs ?_|refine zW.zb ?_|refine zW.zc ?_|refine zW.zt rfl ?_|refine zW.zf rfl ?_|(refine zW.zd rfl (fun ht => ?_) (fun ht => ?_)<;>try (exfalso;omega))|((first|refine zW.zr ?_|refine zW.zk ?_|refine zW.ze ?_|refine zW.zq ?_|((first|apply zg0|apply zg1|apply zg2|apply zg3|apply zg4|apply zg5|apply zg6|apply zg7)<;>intro ht));all_goals try simp (disch:=first|omega|(simp only [lens];first|done|omega)) only [go_sem,reduceEqDiff,Nat.reduceBEq,reduceAdd,reduceMul,reduceSub,reduceLeDiff,reduceToNat,reducePow, q1, q3, q5, q6, q7, q8, c0, c1, c2, cr, hand, hadd]))
          refine fin _ _ _ ((ce.set (by omega)).set (by omega)).app (by omega) (by rw [z4e (by simp), List.length_set, List.length_set, Nat.sub_self]; rfl) (by simp [z6]; omega) ?_
          rw [show hr hs ++ [hc h'] = hr (hs ++ [h']) by simp [hr], zef, List.take_of_length_le (by simp; omega)]
end Am
end Go.Proofs.YtncenefkbpelbaaDoor
end
