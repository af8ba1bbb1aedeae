import Derived.Test.YtncenefkbpelbaaDoorK55297bae9
import Derived.Test.YtncenefkbpelbaaDoorK39c86df3a
import Derived.Test.YtncenefkbpelbaaDoorRows
import Derived.Test.YtncenefkbpelbaaDoorCards
import Derived.Test.YtncenefkbpelbaaDoorTie
import Derived.ProofKit
import Derived.LaidMore
import Derived.OpenShut
import Derived.Stop.Joined
import Derived.SevenTiedAt
import Derived.MakeChecks
set_option linter.unusedSimpArgs false
set_option linter.unusedVariables false
open Nat (reduceEqDiff reduceAdd reduceMul reduceSub reduceLeDiff)
open Int (reduceToNat reducePow)
section
/- Keys: the law KeytreeVerify: its contract. -/
namespace Go.Proofs.YtncenefkbpelbaaDoor
namespace Am
attribute [local irreducible] ACallsTo ACallsP pubH
set_option maxHeartbeats 8000000 in
theorem z6b {Q : AExit -> Env -> Store -> Prop} {O : Env} {Y : Store} {a b : Nat} {r root d : Hash} {i : Int} {sig : List UInt8} {P : List Hash} {x : AV} (h1 : Y[1]? = some (some [hc root])) (h2 : Y[2]? = some (some [hc d])) (ha : Y[a]? = some (some [[.int .i64 i, .str sig, x]])) (hb : Y[b]? = some (some [hc r]))
    (hx : RdSl Y 32 (hr P) x) (hl : P.length < 1000000) (hs : sig.length < 1000000) (hi : -9223372036854775808 <= i /\ i <= 9223372036854775807) (q4 : O 4 = .ptr 1 0 0) (q5 : O 5 = .ptr 2 0 0) (q11 : O 11 = .ptr a 0 0) (q12 : O 12 = .ptr b 0 0)
    (hQ : ∀ O' : Env, O' 3 = O 3 -> O' 4 = O 4 -> O' 5 = O 5 -> O' 7 = O 7 -> O' 8 = O 8 -> O' 10 = O 10 -> Q .normal O' Y) : zW TC 120 0 zc1 Q O Y := by
  have V1 := z8t Y r d i sig P x hx hl hs hi
  have W1 := zft Y r d i sig P x hx hl hs hi
  have V2 := z8t Y r root i sig P x hx hl hs hi
  have W2 := zft Y r root i sig P x hx hl hs hi
  have d1 := slen h1
  have d2 := slen h2
  have da := slen ha
  have db := slen hb
  generalize verI r d i sig P = e1 at *
  generalize verI r root i sig P = e2 at *
  repeat' (first|refine zW.zs ?_|refine zW.zb ?_|refine zW.zc ?_|refine zW.zt rfl ?_|refine zW.zf rfl ?_|(refine zW.zd rfl (fun ht => ?_) (fun ht => ?_)<;>try (exfalso;omega))|((first|refine zW.zr ?_|refine zW.zk ?_|refine zW.ze ?_|refine zW.zq ?_|(apply callW.mk_pu; (first | exact (fun _ => V1) | exact (fun _ => W1) | exact (fun _ => V2) | exact (fun _ => W2))) | (apply callW.za; (first | exact (V1) | exact (W1) | exact (V2) | exact (W2))) | ((first|apply zg0|apply zg1|apply zg2|apply zg3|apply zg4|apply zg5|apply zg6|apply zg7)<;>intro ht));all_goals try simp (disch:=first|omega|(simp only [lens,z7,z6,List.length_reverse,List.length_map,List.length_take,List.length_drop];first|done|omega)) only [go_sem,reduceEqDiff,Nat.reduceBEq,reduceAdd,reduceMul,reduceSub,reduceLeDiff,reduceToNat,reducePow, q4, q5, q11, q12, h1, h2, ha, hb]))
  exact hQ _ (by simp (disch:=first|omega|(simp only [lens,z7,z6,List.length_reverse,List.length_map,List.length_take,List.length_drop];first|done|omega)) only [go_sem,reduceEqDiff,Nat.reduceBEq,reduceAdd,reduceMul,reduceSub,reduceLeDiff,reduceToNat,reducePow]) (by simp (disch:=first|omega|(simp only [lens,z7,z6,List.length_reverse,List.length_map,List.length_take,List.length_drop];first|done|omega)) only [go_sem,reduceEqDiff,Nat.reduceBEq,reduceAdd,reduceMul,reduceSub,reduceLeDiff,reduceToNat,reducePow]) (by simp (disch:=first|omega|(simp only [lens,z7,z6,List.length_reverse,List.length_map,List.length_take,List.length_drop];first|done|omega)) only [go_sem,reduceEqDiff,Nat.reduceBEq,reduceAdd,reduceMul,reduceSub,reduceLeDiff,reduceToNat,reducePow]) (by simp (disch:=first|omega|(simp only [lens,z7,z6,List.length_reverse,List.length_map,List.length_take,List.length_drop];first|done|omega)) only [go_sem,reduceEqDiff,Nat.reduceBEq,reduceAdd,reduceMul,reduceSub,reduceLeDiff,reduceToNat,reducePow]) (by simp (disch:=first|omega|(simp only [lens,z7,z6,List.length_reverse,List.length_map,List.length_take,List.length_drop];first|done|omega)) only [go_sem,reduceEqDiff,Nat.reduceBEq,reduceAdd,reduceMul,reduceSub,reduceLeDiff,reduceToNat,reducePow]) (by simp (disch:=first|omega|(simp only [lens,z7,z6,List.length_reverse,List.length_map,List.length_take,List.length_drop];first|done|omega)) only [go_sem,reduceEqDiff,Nat.reduceBEq,reduceAdd,reduceMul,reduceSub,reduceLeDiff,reduceToNat,reducePow])
attribute [local irreducible] zc1
/-- A forgery's cells. -/
def fgC (i at_ by_ : Int) (x : AV) (cut : Int) : List AV := [.int .i64 i, .int .u16 at_, .int .u8 by_, x, .int .u16 cut]
theorem and7 (i : Int) : zx .and .i64 i 7 = some (.int .i64 (i % 8)) := zhz i 3 (by omega)
set_option maxHeartbeats 16000000 in
theorem zhk (fi at_ cut : Int) (by_ : UInt8) (P : List Hash) (x : AV) (root d : Hash) (hx : SlV 32 (hr P) x) (hfi : -9223372036854775808 <= fi /\ fi <= 9223372036854775807) (hat : 0 <= at_ /\ at_ <= 65535) (hcut : 0 <= cut /\ cut <= 65535) (hPl : P.length <= maxLen) :
    ACallsTo TC 9 [.agg (fgC fi at_ by_.toNat x cut), .agg (hc root), .agg (hc d)] [] (.bool true) [] := by
  have xc := zgx hx
  unfold cellsOf at xc
  have r1 := hx.len
  rw [z6] at r1
  unfold z1q at r1
  unfold fgC
  refine ACallsTo.of_body q16ok (by simp) fun hw _ => ?_
  by_cases h40 : (P.length : Int) > 40
  · repeat' (first|refine zW.zs ?_|refine zW.zb ?_|refine zW.zc ?_|refine zW.zt rfl ?_|refine zW.zf rfl ?_|(refine zW.zd rfl (fun ht => ?_) (fun ht => ?_)<;>try (exfalso;omega))|((first|refine zW.zr ?_|refine zW.zk ?_|refine zW.ze ?_|refine zW.zq ?_|(apply callW.mk_pu; (first | exact (fun _ => z6r _))) | (apply callW.za; (first | exact (z6r _))) | ((first|apply zg0|apply zg1|apply zg2|apply zg3|apply zg4|apply zg5|apply zg6|apply zg7)<;>intro ht));all_goals try simp (disch:=first|omega|(simp only [lens,z7,z6,List.length_reverse,List.length_map,List.length_take,List.length_drop];first|done|omega)) only [go_sem,reduceEqDiff,Nat.reduceBEq,reduceAdd,reduceMul,reduceSub,reduceLeDiff,reduceToNat,reducePow, xc, r1, h40]))
    exact DownV.pure (Z := []) hw (z12 _ rfl)
  have hN := fun Y => zf0 Y [107] (by simp)
  have hKl := z41 [107]
  obtain ⟨i, hi8⟩ : ∃ i : Nat, fi % 8 = i := ⟨(fi % 8).toNat, by omega⟩
  have hi : i < 8 := by omega
  have ha7 := and7 fi
  rw [hi8] at ha7
  have hSg := fun Y hg => zh4 Y 3 [107] (keyL [107]) i d hg hKl hi (by simp)
  have hR := fun Y hg => zh2 Y 3 [107] (keyL [107]) hg hKl
  have hpl : (z17 (keyL [107]) i).length = 3 := by unfold z17; rw [List.length_reverse, zbz _ i hKl]
  have hsl := za4 [107] i d.1
  unfold z2l at hSg
  generalize z17 (keyL [107]) i = PH at *
  have hne : hr PH ≠ [] := fun e => by have := congrArg List.length e; rw [z6, hpl] at this; simp at this
  have hPVe : z1m 32 (hr PH) = .vsl 32 (hr PH) false := by unfold z1m; rw [if_neg hne]
  rw [hPVe] at hSg
  generalize sigS [107] (i : Int) d.1 = SG at *
  generalize z1r (keyL [107]) = RT at *
  generalize keyL [107] = K at *
  have hSg1 := hSg [some [[.int .i64 fi, .int .u16 at_, .int .u8 by_.toNat, x, .int .u16 cut]], some [hc root], some [hc d], some [z19 true [107] K]] rfl
  repeat' (first|refine zW.zs ?_|refine zW.zb ?_|refine zW.zc ?_|refine zW.zt rfl ?_|refine zW.zf rfl ?_|(refine zW.zd rfl (fun ht => ?_) (fun ht => ?_)<;>try (exfalso;omega))|((first|refine zW.zr ?_|refine zW.zk ?_|refine zW.ze ?_|refine zW.zq ?_|(apply callW.mk_pu; (first | exact (fun _ => hN _) | exact (fun _ => hSg1))) | (apply callW.za; (first | exact (hN _) | exact (hSg1))) | ((first|apply zg0|apply zg1|apply zg2|apply zg3|apply zg4|apply zg5|apply zg6|apply zg7)<;>intro ht));all_goals try simp (disch:=first|omega|(simp only [lens,z7,z6,List.length_reverse,List.length_map,List.length_take,List.length_drop];first|done|omega)) only [go_sem,reduceEqDiff,Nat.reduceBEq,reduceAdd,reduceMul,reduceSub,reduceLeDiff,reduceToNat,reducePow, xc, r1, h40, ha7, hsl]))
  refine zW.loop (fun m O Y' => ∃ k : Nat, m + k = 7 /\ Ext [some [[.int .i64 fi, .int .u16 at_, .int .u8 by_.toNat, x, .int .u16 cut]], some [hc root], some [hc d], some [z19 true [107] K], some [[.int .i64 i, .str SG, .vsl 32 (hr PH) false]]] Y' ∧
    O 3 = .ptr 0 0 0 /\ O 4 = .ptr 1 0 0 /\ O 5 = .ptr 2 0 0 /\ O 7 = .ptr 3 0 0 /\ O 8 = .ptr 4 0 0 /\ O 10 = .int .i64 k) 7 ?_ ?_
  · exact ⟨0, by omega, .refl _, by simp (disch:=first|omega|(simp only [lens,z7,z6,List.length_reverse,List.length_map,List.length_take,List.length_drop];first|done|omega)) only [go_sem,reduceEqDiff,Nat.reduceBEq,reduceAdd,reduceMul,reduceSub,reduceLeDiff,reduceToNat,reducePow], by simp (disch:=first|omega|(simp only [lens,z7,z6,List.length_reverse,List.length_map,List.length_take,List.length_drop];first|done|omega)) only [go_sem,reduceEqDiff,Nat.reduceBEq,reduceAdd,reduceMul,reduceSub,reduceLeDiff,reduceToNat,reducePow], by simp (disch:=first|omega|(simp only [lens,z7,z6,List.length_reverse,List.length_map,List.length_take,List.length_drop];first|done|omega)) only [go_sem,reduceEqDiff,Nat.reduceBEq,reduceAdd,reduceMul,reduceSub,reduceLeDiff,reduceToNat,reducePow], by simp (disch:=first|omega|(simp only [lens,z7,z6,List.length_reverse,List.length_map,List.length_take,List.length_drop];first|done|omega)) only [go_sem,reduceEqDiff,Nat.reduceBEq,reduceAdd,reduceMul,reduceSub,reduceLeDiff,reduceToNat,reducePow], by simp (disch:=first|omega|(simp only [lens,z7,z6,List.length_reverse,List.length_map,List.length_take,List.length_drop];first|done|omega)) only [go_sem,reduceEqDiff,Nat.reduceBEq,reduceAdd,reduceMul,reduceSub,reduceLeDiff,reduceToNat,reducePow], by simp (disch:=first|omega|(simp only [lens,z7,z6,List.length_reverse,List.length_map,List.length_take,List.length_drop];first|done|omega)) only [go_sem,reduceEqDiff,Nat.reduceBEq,reduceAdd,reduceMul,reduceSub,reduceLeDiff,reduceToNat,reducePow]; rfl⟩
  · rintro m O Y' ⟨k, hm, he, q3, q4, q5, q7, q8, q10⟩
    have c0 : Y'[0]? = some (some [[.int .i64 fi, .int .u16 at_, .int .u8 by_.toNat, x, .int .u16 cut]]) := by obtain ⟨y, rfl⟩ := he; rfl
    have c1 : Y'[1]? = some (some [hc root]) := by obtain ⟨y, rfl⟩ := he; rfl
    have c2 : Y'[2]? = some (some [hc d]) := by obtain ⟨y, rfl⟩ := he; rfl
    have c3 : Y'[3]? = some (some [z19 true [107] K]) := by obtain ⟨y, rfl⟩ := he; rfl
    have c4 : Y'[4]? = some (some [[.int .i64 i, .str SG, .vsl 32 (hr PH) false]]) := by obtain ⟨y, rfl⟩ := he; rfl
    have dl : 5 <= Y'.length := he.le
    have hR1 := fun y => hR (Y' ++ y) (by rw [gapp (by omega)]; exact c3)
    by_cases hk : k < 7
    · obtain ⟨j, hj⟩ : ∃ j : Nat, at_ % 16384 = j := ⟨(at_ % 16384).toNat, by omega⟩
      obtain ⟨c, hc2⟩ : ∃ c : Nat, cut % 16385 = c := ⟨(cut % 16385).toNat, by omega⟩
      have hset : (z8 SG).set j [.int .u8 by_.toNat] = z8 (SG.set j by_) := by
        rw [zdq ⟨by omega, by have := by_.toNat_lt; omega⟩]; simp
      have htk : (z8 (SG.set j by_)).take 16384 = z8 (SG.set j by_) := List.take_of_length_le (by rw [zn, List.length_set]; omega)
      have e4 : (hr (PH ++ [root])).length = 4 := by rw [z6, List.length_append, hpl]; rfl
      have ea : hr PH ++ [hc root] = hr (PH ++ [root]) := by rw [hr_app]; rfl
      have hc3 : cut % (((16384 : Nat) : Int) + 1) = c := hc2
      have hj3 : at_ % ((16384 : Nat) : Int) = j := hj
      match k, hk, hm, q10 with
      | 0, _, hm, q10 =>
        repeat' (first|refine zW.zs ?_|refine zW.zb ?_|refine zW.zc ?_|refine zW.zt rfl ?_|refine zW.zf rfl ?_|(refine zW.zd rfl (fun ht => ?_) (fun ht => ?_)<;>try (exfalso;omega))|((first|refine zW.zr ?_|refine zW.zk ?_|refine zW.ze ?_|refine zW.zq ?_|(apply callW.mk_pu; (first | exact (fun _ => hR1 _))) | (apply callW.za; (first | exact (hR1 _))) | ((first|apply zg0|apply zg1|apply zg2|apply zg3|apply zg4|apply zg5|apply zg6|apply zg7)<;>intro ht));all_goals try simp (disch:=first|omega|(simp only [lens,z7,z6,List.length_reverse,List.length_map,List.length_take,List.length_drop];first|done|omega)) only [go_sem,reduceEqDiff,Nat.reduceBEq,reduceAdd,reduceMul,reduceSub,reduceLeDiff,reduceToNat,reducePow, q3, q4, q5, q7, q8, q10, c0, c1, c2, c3, c4, xc]))
        refine z6b (root := root) (d := d) (r := RT) (i := i) (sig := SG) (P := PH) (x := .vsl 32 (hr PH) false) (a := Y'.length) (b := Y'.length + 1) (by rw [gapp (by omega)]; exact c1) (by rw [gapp (by omega)]; exact c2) (by rw [z18 (by omega), Nat.sub_self]; rfl) (by rw [z18 (by omega), Nat.add_sub_cancel_left]; rfl) (.of (.inr ⟨false, rfl⟩)) (by first | omega | (simp; omega)) (by first | omega | (simp; omega)) (by omega) ?_ ?_ ?_ ?_ ?_
        · simp (disch:=first|omega|(simp only [lens,z7,z6,List.length_reverse,List.length_map,List.length_take,List.length_drop];first|done|omega)) only [go_sem,reduceEqDiff,Nat.reduceBEq,reduceAdd,reduceMul,reduceSub,reduceLeDiff,reduceToNat,reducePow, q4]
        · simp (disch:=first|omega|(simp only [lens,z7,z6,List.length_reverse,List.length_map,List.length_take,List.length_drop];first|done|omega)) only [go_sem,reduceEqDiff,Nat.reduceBEq,reduceAdd,reduceMul,reduceSub,reduceLeDiff,reduceToNat,reducePow, q5]
        · simp (disch:=first|omega|(simp only [lens,z7,z6,List.length_reverse,List.length_map,List.length_take,List.length_drop];first|done|omega)) only [go_sem,reduceEqDiff,Nat.reduceBEq,reduceAdd,reduceMul,reduceSub,reduceLeDiff,reduceToNat,reducePow]
        · simp (disch:=first|omega|(simp only [lens,z7,z6,List.length_reverse,List.length_map,List.length_take,List.length_drop];first|done|omega)) only [go_sem,reduceEqDiff,Nat.reduceBEq,reduceAdd,reduceMul,reduceSub,reduceLeDiff,reduceToNat,reducePow]
        intro O' p3 p4 p5 p7 p8 p10
        replace p3 : O' 3 = .ptr 0 0 0 := by rw [p3]; simp (disch:=first|omega|(simp only [lens,z7,z6,List.length_reverse,List.length_map,List.length_take,List.length_drop];first|done|omega)) only [go_sem,reduceEqDiff,Nat.reduceBEq,reduceAdd,reduceMul,reduceSub,reduceLeDiff,reduceToNat,reducePow, q3]
        replace p4 : O' 4 = .ptr 1 0 0 := by rw [p4]; simp (disch:=first|omega|(simp only [lens,z7,z6,List.length_reverse,List.length_map,List.length_take,List.length_drop];first|done|omega)) only [go_sem,reduceEqDiff,Nat.reduceBEq,reduceAdd,reduceMul,reduceSub,reduceLeDiff,reduceToNat,reducePow, q4]
        replace p5 : O' 5 = .ptr 2 0 0 := by rw [p5]; simp (disch:=first|omega|(simp only [lens,z7,z6,List.length_reverse,List.length_map,List.length_take,List.length_drop];first|done|omega)) only [go_sem,reduceEqDiff,Nat.reduceBEq,reduceAdd,reduceMul,reduceSub,reduceLeDiff,reduceToNat,reducePow, q5]
        replace p7 : O' 7 = .ptr 3 0 0 := by rw [p7]; simp (disch:=first|omega|(simp only [lens,z7,z6,List.length_reverse,List.length_map,List.length_take,List.length_drop];first|done|omega)) only [go_sem,reduceEqDiff,Nat.reduceBEq,reduceAdd,reduceMul,reduceSub,reduceLeDiff,reduceToNat,reducePow, q7]
        replace p8 : O' 8 = .ptr 4 0 0 := by rw [p8]; simp (disch:=first|omega|(simp only [lens,z7,z6,List.length_reverse,List.length_map,List.length_take,List.length_drop];first|done|omega)) only [go_sem,reduceEqDiff,Nat.reduceBEq,reduceAdd,reduceMul,reduceSub,reduceLeDiff,reduceToNat,reducePow, q8]
        replace p10 : O' 10 = .int .i64 (0 : Nat) := by rw [p10]; simp (disch:=first|omega|(simp only [lens,z7,z6,List.length_reverse,List.length_map,List.length_take,List.length_drop];first|done|omega)) only [go_sem,reduceEqDiff,Nat.reduceBEq,reduceAdd,reduceMul,reduceSub,reduceLeDiff,reduceToNat,reducePow, q10]
        simp (disch:=first|omega|(simp only [lens,z7,z6,List.length_reverse,List.length_map,List.length_take,List.length_drop];first|done|omega)) only [go_sem,reduceEqDiff,Nat.reduceBEq,reduceAdd,reduceMul,reduceSub,reduceLeDiff,reduceToNat,reducePow]
        repeat' (first|refine zW.zs ?_|refine zW.zb ?_|refine zW.zc ?_|refine zW.zt rfl ?_|refine zW.zf rfl ?_|(refine zW.zd rfl (fun ht => ?_) (fun ht => ?_)<;>try (exfalso;omega))|((first|refine zW.zr ?_|refine zW.zk ?_|refine zW.ze ?_|refine zW.zq ?_|((first|apply zg0|apply zg1|apply zg2|apply zg3|apply zg4|apply zg5|apply zg6|apply zg7)<;>intro ht));all_goals try simp (disch:=first|omega|(simp only [lens,z7,z6,List.length_reverse,List.length_map,List.length_take,List.length_drop];first|done|omega)) only [go_sem,reduceEqDiff,Nat.reduceBEq,reduceAdd,reduceMul,reduceSub,reduceLeDiff,reduceToNat,reducePow, p3, p4, p5, p7, p8, p10]))
        exact ⟨m - 1, by omega, 1, by omega, he.app, rfl⟩
      | 1, _, hm, q10 =>
        repeat' (first|refine zW.zs ?_|refine zW.zb ?_|refine zW.zc ?_|refine zW.zt rfl ?_|refine zW.zf rfl ?_|(refine zW.zd rfl (fun ht => ?_) (fun ht => ?_)<;>try (exfalso;omega))|((first|refine zW.zr ?_|refine zW.zk ?_|refine zW.ze ?_|refine zW.zq ?_|(apply callW.mk_pu; (first | exact (fun _ => hR1 _))) | (apply callW.za; (first | exact (hR1 _))) | ((first|apply zg0|apply zg1|apply zg2|apply zg3|apply zg4|apply zg5|apply zg6|apply zg7)<;>intro ht));all_goals try simp (disch:=first|omega|(simp only [lens,z7,z6,List.length_reverse,List.length_map,List.length_take,List.length_drop];first|done|omega)) only [go_sem,reduceEqDiff,Nat.reduceBEq,reduceAdd,reduceMul,reduceSub,reduceLeDiff,reduceToNat,reducePow, q3, q4, q5, q7, q8, q10, c0, c1, c2, c3, c4, xc]))
        refine z6b (root := root) (d := d) (r := RT) (i := fi) (sig := SG) (P := PH) (x := .vsl 32 (hr PH) false) (a := Y'.length) (b := Y'.length + 1) (by rw [gapp (by omega)]; exact c1) (by rw [gapp (by omega)]; exact c2) (by rw [z18 (by omega), Nat.sub_self]; rfl) (by rw [z18 (by omega), Nat.add_sub_cancel_left]; rfl) (.of (.inr ⟨false, rfl⟩)) (by first | omega | (simp; omega)) (by first | omega | (simp; omega)) (by omega) ?_ ?_ ?_ ?_ ?_
        · simp (disch:=first|omega|(simp only [lens,z7,z6,List.length_reverse,List.length_map,List.length_take,List.length_drop];first|done|omega)) only [go_sem,reduceEqDiff,Nat.reduceBEq,reduceAdd,reduceMul,reduceSub,reduceLeDiff,reduceToNat,reducePow, q4]
        · simp (disch:=first|omega|(simp only [lens,z7,z6,List.length_reverse,List.length_map,List.length_take,List.length_drop];first|done|omega)) only [go_sem,reduceEqDiff,Nat.reduceBEq,reduceAdd,reduceMul,reduceSub,reduceLeDiff,reduceToNat,reducePow, q5]
        · simp (disch:=first|omega|(simp only [lens,z7,z6,List.length_reverse,List.length_map,List.length_take,List.length_drop];first|done|omega)) only [go_sem,reduceEqDiff,Nat.reduceBEq,reduceAdd,reduceMul,reduceSub,reduceLeDiff,reduceToNat,reducePow]
        · simp (disch:=first|omega|(simp only [lens,z7,z6,List.length_reverse,List.length_map,List.length_take,List.length_drop];first|done|omega)) only [go_sem,reduceEqDiff,Nat.reduceBEq,reduceAdd,reduceMul,reduceSub,reduceLeDiff,reduceToNat,reducePow]
        intro O' p3 p4 p5 p7 p8 p10
        replace p3 : O' 3 = .ptr 0 0 0 := by rw [p3]; simp (disch:=first|omega|(simp only [lens,z7,z6,List.length_reverse,List.length_map,List.length_take,List.length_drop];first|done|omega)) only [go_sem,reduceEqDiff,Nat.reduceBEq,reduceAdd,reduceMul,reduceSub,reduceLeDiff,reduceToNat,reducePow, q3]
        replace p4 : O' 4 = .ptr 1 0 0 := by rw [p4]; simp (disch:=first|omega|(simp only [lens,z7,z6,List.length_reverse,List.length_map,List.length_take,List.length_drop];first|done|omega)) only [go_sem,reduceEqDiff,Nat.reduceBEq,reduceAdd,reduceMul,reduceSub,reduceLeDiff,reduceToNat,reducePow, q4]
        replace p5 : O' 5 = .ptr 2 0 0 := by rw [p5]; simp (disch:=first|omega|(simp only [lens,z7,z6,List.length_reverse,List.length_map,List.length_take,List.length_drop];first|done|omega)) only [go_sem,reduceEqDiff,Nat.reduceBEq,reduceAdd,reduceMul,reduceSub,reduceLeDiff,reduceToNat,reducePow, q5]
        replace p7 : O' 7 = .ptr 3 0 0 := by rw [p7]; simp (disch:=first|omega|(simp only [lens,z7,z6,List.length_reverse,List.length_map,List.length_take,List.length_drop];first|done|omega)) only [go_sem,reduceEqDiff,Nat.reduceBEq,reduceAdd,reduceMul,reduceSub,reduceLeDiff,reduceToNat,reducePow, q7]
        replace p8 : O' 8 = .ptr 4 0 0 := by rw [p8]; simp (disch:=first|omega|(simp only [lens,z7,z6,List.length_reverse,List.length_map,List.length_take,List.length_drop];first|done|omega)) only [go_sem,reduceEqDiff,Nat.reduceBEq,reduceAdd,reduceMul,reduceSub,reduceLeDiff,reduceToNat,reducePow, q8]
        replace p10 : O' 10 = .int .i64 (1 : Nat) := by rw [p10]; simp (disch:=first|omega|(simp only [lens,z7,z6,List.length_reverse,List.length_map,List.length_take,List.length_drop];first|done|omega)) only [go_sem,reduceEqDiff,Nat.reduceBEq,reduceAdd,reduceMul,reduceSub,reduceLeDiff,reduceToNat,reducePow, q10]
        simp (disch:=first|omega|(simp only [lens,z7,z6,List.length_reverse,List.length_map,List.length_take,List.length_drop];first|done|omega)) only [go_sem,reduceEqDiff,Nat.reduceBEq,reduceAdd,reduceMul,reduceSub,reduceLeDiff,reduceToNat,reducePow]
        repeat' (first|refine zW.zs ?_|refine zW.zb ?_|refine zW.zc ?_|refine zW.zt rfl ?_|refine zW.zf rfl ?_|(refine zW.zd rfl (fun ht => ?_) (fun ht => ?_)<;>try (exfalso;omega))|((first|refine zW.zr ?_|refine zW.zk ?_|refine zW.ze ?_|refine zW.zq ?_|((first|apply zg0|apply zg1|apply zg2|apply zg3|apply zg4|apply zg5|apply zg6|apply zg7)<;>intro ht));all_goals try simp (disch:=first|omega|(simp only [lens,z7,z6,List.length_reverse,List.length_map,List.length_take,List.length_drop];first|done|omega)) only [go_sem,reduceEqDiff,Nat.reduceBEq,reduceAdd,reduceMul,reduceSub,reduceLeDiff,reduceToNat,reducePow, p3, p4, p5, p7, p8, p10]))
        exact ⟨m - 1, by omega, 2, by omega, he.app, rfl⟩
      | 2, _, hm, q10 =>
        repeat' (first|refine zW.zs ?_|refine zW.zb ?_|refine zW.zc ?_|refine zW.zt rfl ?_|refine zW.zf rfl ?_|(refine zW.zd rfl (fun ht => ?_) (fun ht => ?_)<;>try (exfalso;omega))|((first|refine zW.zr ?_|refine zW.zk ?_|refine zW.ze ?_|refine zW.zq ?_|(apply callW.mk_pu; (first | exact (fun _ => hR1 _))) | (apply callW.za; (first | exact (hR1 _))) | ((first|apply zg0|apply zg1|apply zg2|apply zg3|apply zg4|apply zg5|apply zg6|apply zg7)<;>intro ht));all_goals try simp (disch:=first|omega|(simp only [lens,z7,z6,List.length_reverse,List.length_map,List.length_take,List.length_drop];first|done|omega)) only [go_sem,reduceEqDiff,Nat.reduceBEq,reduceAdd,reduceMul,reduceSub,reduceLeDiff,reduceToNat,reducePow, q3, q4, q5, q7, q8, q10, c0, c1, c2, c3, c4, xc, hj3, hsl, zn, Int.toNat_natCast, hset, htk]))
        refine z6b (root := root) (d := d) (r := RT) (i := i) (sig := (SG.set j by_)) (P := PH) (x := .vsl 32 (hr PH) false) (a := Y'.length) (b := Y'.length + 1) (by rw [gapp (by omega)]; exact c1) (by rw [gapp (by omega)]; exact c2) (by rw [z18 (by omega), Nat.sub_self]; rfl) (by rw [z18 (by omega), Nat.add_sub_cancel_left]; rfl) (.of (.inr ⟨false, rfl⟩)) (by first | omega | (simp; omega)) (by first | omega | (simp; omega)) (by omega) ?_ ?_ ?_ ?_ ?_
        · simp (disch:=first|omega|(simp only [lens,z7,z6,List.length_reverse,List.length_map,List.length_take,List.length_drop];first|done|omega)) only [go_sem,reduceEqDiff,Nat.reduceBEq,reduceAdd,reduceMul,reduceSub,reduceLeDiff,reduceToNat,reducePow, q4]
        · simp (disch:=first|omega|(simp only [lens,z7,z6,List.length_reverse,List.length_map,List.length_take,List.length_drop];first|done|omega)) only [go_sem,reduceEqDiff,Nat.reduceBEq,reduceAdd,reduceMul,reduceSub,reduceLeDiff,reduceToNat,reducePow, q5]
        · simp (disch:=first|omega|(simp only [lens,z7,z6,List.length_reverse,List.length_map,List.length_take,List.length_drop];first|done|omega)) only [go_sem,reduceEqDiff,Nat.reduceBEq,reduceAdd,reduceMul,reduceSub,reduceLeDiff,reduceToNat,reducePow]
        · simp (disch:=first|omega|(simp only [lens,z7,z6,List.length_reverse,List.length_map,List.length_take,List.length_drop];first|done|omega)) only [go_sem,reduceEqDiff,Nat.reduceBEq,reduceAdd,reduceMul,reduceSub,reduceLeDiff,reduceToNat,reducePow]
        intro O' p3 p4 p5 p7 p8 p10
        replace p3 : O' 3 = .ptr 0 0 0 := by rw [p3]; simp (disch:=first|omega|(simp only [lens,z7,z6,List.length_reverse,List.length_map,List.length_take,List.length_drop];first|done|omega)) only [go_sem,reduceEqDiff,Nat.reduceBEq,reduceAdd,reduceMul,reduceSub,reduceLeDiff,reduceToNat,reducePow, q3]
        replace p4 : O' 4 = .ptr 1 0 0 := by rw [p4]; simp (disch:=first|omega|(simp only [lens,z7,z6,List.length_reverse,List.length_map,List.length_take,List.length_drop];first|done|omega)) only [go_sem,reduceEqDiff,Nat.reduceBEq,reduceAdd,reduceMul,reduceSub,reduceLeDiff,reduceToNat,reducePow, q4]
        replace p5 : O' 5 = .ptr 2 0 0 := by rw [p5]; simp (disch:=first|omega|(simp only [lens,z7,z6,List.length_reverse,List.length_map,List.length_take,List.length_drop];first|done|omega)) only [go_sem,reduceEqDiff,Nat.reduceBEq,reduceAdd,reduceMul,reduceSub,reduceLeDiff,reduceToNat,reducePow, q5]
        replace p7 : O' 7 = .ptr 3 0 0 := by rw [p7]; simp (disch:=first|omega|(simp only [lens,z7,z6,List.length_reverse,List.length_map,List.length_take,List.length_drop];first|done|omega)) only [go_sem,reduceEqDiff,Nat.reduceBEq,reduceAdd,reduceMul,reduceSub,reduceLeDiff,reduceToNat,reducePow, q7]
        replace p8 : O' 8 = .ptr 4 0 0 := by rw [p8]; simp (disch:=first|omega|(simp only [lens,z7,z6,List.length_reverse,List.length_map,List.length_take,List.length_drop];first|done|omega)) only [go_sem,reduceEqDiff,Nat.reduceBEq,reduceAdd,reduceMul,reduceSub,reduceLeDiff,reduceToNat,reducePow, q8]
        replace p10 : O' 10 = .int .i64 (2 : Nat) := by rw [p10]; simp (disch:=first|omega|(simp only [lens,z7,z6,List.length_reverse,List.length_map,List.length_take,List.length_drop];first|done|omega)) only [go_sem,reduceEqDiff,Nat.reduceBEq,reduceAdd,reduceMul,reduceSub,reduceLeDiff,reduceToNat,reducePow, q10]
        simp (disch:=first|omega|(simp only [lens,z7,z6,List.length_reverse,List.length_map,List.length_take,List.length_drop];first|done|omega)) only [go_sem,reduceEqDiff,Nat.reduceBEq,reduceAdd,reduceMul,reduceSub,reduceLeDiff,reduceToNat,reducePow]
        repeat' (first|refine zW.zs ?_|refine zW.zb ?_|refine zW.zc ?_|refine zW.zt rfl ?_|refine zW.zf rfl ?_|(refine zW.zd rfl (fun ht => ?_) (fun ht => ?_)<;>try (exfalso;omega))|((first|refine zW.zr ?_|refine zW.zk ?_|refine zW.ze ?_|refine zW.zq ?_|((first|apply zg0|apply zg1|apply zg2|apply zg3|apply zg4|apply zg5|apply zg6|apply zg7)<;>intro ht));all_goals try simp (disch:=first|omega|(simp only [lens,z7,z6,List.length_reverse,List.length_map,List.length_take,List.length_drop];first|done|omega)) only [go_sem,reduceEqDiff,Nat.reduceBEq,reduceAdd,reduceMul,reduceSub,reduceLeDiff,reduceToNat,reducePow, p3, p4, p5, p7, p8, p10]))
        exact ⟨m - 1, by omega, 3, by omega, he.app, rfl⟩
      | 3, _, hm, q10 =>
        repeat' (first|refine zW.zs ?_|refine zW.zb ?_|refine zW.zc ?_|refine zW.zt rfl ?_|refine zW.zf rfl ?_|(refine zW.zd rfl (fun ht => ?_) (fun ht => ?_)<;>try (exfalso;omega))|((first|refine zW.zr ?_|refine zW.zk ?_|refine zW.ze ?_|refine zW.zq ?_|(apply callW.mk_pu; (first | exact (fun _ => hR1 _))) | (apply callW.za; (first | exact (hR1 _))) | ((first|apply zg0|apply zg1|apply zg2|apply zg3|apply zg4|apply zg5|apply zg6|apply zg7)<;>intro ht));all_goals try simp (disch:=first|omega|(simp only [lens,z7,z6,List.length_reverse,List.length_map,List.length_take,List.length_drop];first|done|omega)) only [go_sem,reduceEqDiff,Nat.reduceBEq,reduceAdd,reduceMul,reduceSub,reduceLeDiff,reduceToNat,reducePow, q3, q4, q5, q7, q8, q10, c0, c1, c2, c3, c4, xc]))
        refine z6b (root := root) (d := d) (r := RT) (i := i) (sig := SG) (P := P) (x := x) (a := Y'.length) (b := Y'.length + 1) (by rw [gapp (by omega)]; exact c1) (by rw [gapp (by omega)]; exact c2) (by rw [z18 (by omega), Nat.sub_self]; rfl) (by rw [z18 (by omega), Nat.add_sub_cancel_left]; rfl) (.of hx) (by first | omega | (simp; omega)) (by first | omega | (simp; omega)) (by omega) ?_ ?_ ?_ ?_ ?_
        · simp (disch:=first|omega|(simp only [lens,z7,z6,List.length_reverse,List.length_map,List.length_take,List.length_drop];first|done|omega)) only [go_sem,reduceEqDiff,Nat.reduceBEq,reduceAdd,reduceMul,reduceSub,reduceLeDiff,reduceToNat,reducePow, q4]
        · simp (disch:=first|omega|(simp only [lens,z7,z6,List.length_reverse,List.length_map,List.length_take,List.length_drop];first|done|omega)) only [go_sem,reduceEqDiff,Nat.reduceBEq,reduceAdd,reduceMul,reduceSub,reduceLeDiff,reduceToNat,reducePow, q5]
        · simp (disch:=first|omega|(simp only [lens,z7,z6,List.length_reverse,List.length_map,List.length_take,List.length_drop];first|done|omega)) only [go_sem,reduceEqDiff,Nat.reduceBEq,reduceAdd,reduceMul,reduceSub,reduceLeDiff,reduceToNat,reducePow]
        · simp (disch:=first|omega|(simp only [lens,z7,z6,List.length_reverse,List.length_map,List.length_take,List.length_drop];first|done|omega)) only [go_sem,reduceEqDiff,Nat.reduceBEq,reduceAdd,reduceMul,reduceSub,reduceLeDiff,reduceToNat,reducePow]
        intro O' p3 p4 p5 p7 p8 p10
        replace p3 : O' 3 = .ptr 0 0 0 := by rw [p3]; simp (disch:=first|omega|(simp only [lens,z7,z6,List.length_reverse,List.length_map,List.length_take,List.length_drop];first|done|omega)) only [go_sem,reduceEqDiff,Nat.reduceBEq,reduceAdd,reduceMul,reduceSub,reduceLeDiff,reduceToNat,reducePow, q3]
        replace p4 : O' 4 = .ptr 1 0 0 := by rw [p4]; simp (disch:=first|omega|(simp only [lens,z7,z6,List.length_reverse,List.length_map,List.length_take,List.length_drop];first|done|omega)) only [go_sem,reduceEqDiff,Nat.reduceBEq,reduceAdd,reduceMul,reduceSub,reduceLeDiff,reduceToNat,reducePow, q4]
        replace p5 : O' 5 = .ptr 2 0 0 := by rw [p5]; simp (disch:=first|omega|(simp only [lens,z7,z6,List.length_reverse,List.length_map,List.length_take,List.length_drop];first|done|omega)) only [go_sem,reduceEqDiff,Nat.reduceBEq,reduceAdd,reduceMul,reduceSub,reduceLeDiff,reduceToNat,reducePow, q5]
        replace p7 : O' 7 = .ptr 3 0 0 := by rw [p7]; simp (disch:=first|omega|(simp only [lens,z7,z6,List.length_reverse,List.length_map,List.length_take,List.length_drop];first|done|omega)) only [go_sem,reduceEqDiff,Nat.reduceBEq,reduceAdd,reduceMul,reduceSub,reduceLeDiff,reduceToNat,reducePow, q7]
        replace p8 : O' 8 = .ptr 4 0 0 := by rw [p8]; simp (disch:=first|omega|(simp only [lens,z7,z6,List.length_reverse,List.length_map,List.length_take,List.length_drop];first|done|omega)) only [go_sem,reduceEqDiff,Nat.reduceBEq,reduceAdd,reduceMul,reduceSub,reduceLeDiff,reduceToNat,reducePow, q8]
        replace p10 : O' 10 = .int .i64 (3 : Nat) := by rw [p10]; simp (disch:=first|omega|(simp only [lens,z7,z6,List.length_reverse,List.length_map,List.length_take,List.length_drop];first|done|omega)) only [go_sem,reduceEqDiff,Nat.reduceBEq,reduceAdd,reduceMul,reduceSub,reduceLeDiff,reduceToNat,reducePow, q10]
        simp (disch:=first|omega|(simp only [lens,z7,z6,List.length_reverse,List.length_map,List.length_take,List.length_drop];first|done|omega)) only [go_sem,reduceEqDiff,Nat.reduceBEq,reduceAdd,reduceMul,reduceSub,reduceLeDiff,reduceToNat,reducePow]
        repeat' (first|refine zW.zs ?_|refine zW.zb ?_|refine zW.zc ?_|refine zW.zt rfl ?_|refine zW.zf rfl ?_|(refine zW.zd rfl (fun ht => ?_) (fun ht => ?_)<;>try (exfalso;omega))|((first|refine zW.zr ?_|refine zW.zk ?_|refine zW.ze ?_|refine zW.zq ?_|((first|apply zg0|apply zg1|apply zg2|apply zg3|apply zg4|apply zg5|apply zg6|apply zg7)<;>intro ht));all_goals try simp (disch:=first|omega|(simp only [lens,z7,z6,List.length_reverse,List.length_map,List.length_take,List.length_drop];first|done|omega)) only [go_sem,reduceEqDiff,Nat.reduceBEq,reduceAdd,reduceMul,reduceSub,reduceLeDiff,reduceToNat,reducePow, p3, p4, p5, p7, p8, p10]))
        exact ⟨m - 1, by omega, 4, by omega, he.app, rfl⟩
      | 4, _, hm, q10 =>
        repeat' (first|refine zW.zs ?_|refine zW.zb ?_|refine zW.zc ?_|refine zW.zt rfl ?_|refine zW.zf rfl ?_|(refine zW.zd rfl (fun ht => ?_) (fun ht => ?_)<;>try (exfalso;omega))|((first|refine zW.zr ?_|refine zW.zk ?_|refine zW.ze ?_|refine zW.zq ?_|(apply callW.mk_pu; (first | exact (fun _ => hR1 _))) | (apply callW.za; (first | exact (hR1 _))) | ((first|apply zg0|apply zg1|apply zg2|apply zg3|apply zg4|apply zg5|apply zg6|apply zg7)<;>intro ht));all_goals try simp (disch:=first|omega|(simp only [lens,z7,z6,List.length_reverse,List.length_map,List.length_take,List.length_drop];first|done|omega)) only [go_sem,reduceEqDiff,Nat.reduceBEq,reduceAdd,reduceMul,reduceSub,reduceLeDiff,reduceToNat,reducePow, q3, q4, q5, q7, q8, q10, c0, c1, c2, c3, c4, xc, hc3, hsl, Int.toNat_natCast]))
        refine z6b (root := root) (d := d) (r := RT) (i := i) (sig := (SG.take c)) (P := PH) (x := .vsl 32 (hr PH) false) (a := Y'.length) (b := Y'.length + 1) (by rw [gapp (by omega)]; exact c1) (by rw [gapp (by omega)]; exact c2) (by rw [z18 (by omega), Nat.sub_self]; rfl) (by rw [z18 (by omega), Nat.add_sub_cancel_left]; rfl) (.of (.inr ⟨false, rfl⟩)) (by first | omega | (simp; omega)) (by first | omega | (simp; omega)) (by omega) ?_ ?_ ?_ ?_ ?_
        · simp (disch:=first|omega|(simp only [lens,z7,z6,List.length_reverse,List.length_map,List.length_take,List.length_drop];first|done|omega)) only [go_sem,reduceEqDiff,Nat.reduceBEq,reduceAdd,reduceMul,reduceSub,reduceLeDiff,reduceToNat,reducePow, q4]
        · simp (disch:=first|omega|(simp only [lens,z7,z6,List.length_reverse,List.length_map,List.length_take,List.length_drop];first|done|omega)) only [go_sem,reduceEqDiff,Nat.reduceBEq,reduceAdd,reduceMul,reduceSub,reduceLeDiff,reduceToNat,reducePow, q5]
        · simp (disch:=first|omega|(simp only [lens,z7,z6,List.length_reverse,List.length_map,List.length_take,List.length_drop];first|done|omega)) only [go_sem,reduceEqDiff,Nat.reduceBEq,reduceAdd,reduceMul,reduceSub,reduceLeDiff,reduceToNat,reducePow]
        · simp (disch:=first|omega|(simp only [lens,z7,z6,List.length_reverse,List.length_map,List.length_take,List.length_drop];first|done|omega)) only [go_sem,reduceEqDiff,Nat.reduceBEq,reduceAdd,reduceMul,reduceSub,reduceLeDiff,reduceToNat,reducePow]
        intro O' p3 p4 p5 p7 p8 p10
        replace p3 : O' 3 = .ptr 0 0 0 := by rw [p3]; simp (disch:=first|omega|(simp only [lens,z7,z6,List.length_reverse,List.length_map,List.length_take,List.length_drop];first|done|omega)) only [go_sem,reduceEqDiff,Nat.reduceBEq,reduceAdd,reduceMul,reduceSub,reduceLeDiff,reduceToNat,reducePow, q3]
        replace p4 : O' 4 = .ptr 1 0 0 := by rw [p4]; simp (disch:=first|omega|(simp only [lens,z7,z6,List.length_reverse,List.length_map,List.length_take,List.length_drop];first|done|omega)) only [go_sem,reduceEqDiff,Nat.reduceBEq,reduceAdd,reduceMul,reduceSub,reduceLeDiff,reduceToNat,reducePow, q4]
        replace p5 : O' 5 = .ptr 2 0 0 := by rw [p5]; simp (disch:=first|omega|(simp only [lens,z7,z6,List.length_reverse,List.length_map,List.length_take,List.length_drop];first|done|omega)) only [go_sem,reduceEqDiff,Nat.reduceBEq,reduceAdd,reduceMul,reduceSub,reduceLeDiff,reduceToNat,reducePow, q5]
        replace p7 : O' 7 = .ptr 3 0 0 := by rw [p7]; simp (disch:=first|omega|(simp only [lens,z7,z6,List.length_reverse,List.length_map,List.length_take,List.length_drop];first|done|omega)) only [go_sem,reduceEqDiff,Nat.reduceBEq,reduceAdd,reduceMul,reduceSub,reduceLeDiff,reduceToNat,reducePow, q7]
        replace p8 : O' 8 = .ptr 4 0 0 := by rw [p8]; simp (disch:=first|omega|(simp only [lens,z7,z6,List.length_reverse,List.length_map,List.length_take,List.length_drop];first|done|omega)) only [go_sem,reduceEqDiff,Nat.reduceBEq,reduceAdd,reduceMul,reduceSub,reduceLeDiff,reduceToNat,reducePow, q8]
        replace p10 : O' 10 = .int .i64 (4 : Nat) := by rw [p10]; simp (disch:=first|omega|(simp only [lens,z7,z6,List.length_reverse,List.length_map,List.length_take,List.length_drop];first|done|omega)) only [go_sem,reduceEqDiff,Nat.reduceBEq,reduceAdd,reduceMul,reduceSub,reduceLeDiff,reduceToNat,reducePow, q10]
        simp (disch:=first|omega|(simp only [lens,z7,z6,List.length_reverse,List.length_map,List.length_take,List.length_drop];first|done|omega)) only [go_sem,reduceEqDiff,Nat.reduceBEq,reduceAdd,reduceMul,reduceSub,reduceLeDiff,reduceToNat,reducePow]
        repeat' (first|refine zW.zs ?_|refine zW.zb ?_|refine zW.zc ?_|refine zW.zt rfl ?_|refine zW.zf rfl ?_|(refine zW.zd rfl (fun ht => ?_) (fun ht => ?_)<;>try (exfalso;omega))|((first|refine zW.zr ?_|refine zW.zk ?_|refine zW.ze ?_|refine zW.zq ?_|((first|apply zg0|apply zg1|apply zg2|apply zg3|apply zg4|apply zg5|apply zg6|apply zg7)<;>intro ht));all_goals try simp (disch:=first|omega|(simp only [lens,z7,z6,List.length_reverse,List.length_map,List.length_take,List.length_drop];first|done|omega)) only [go_sem,reduceEqDiff,Nat.reduceBEq,reduceAdd,reduceMul,reduceSub,reduceLeDiff,reduceToNat,reducePow, p3, p4, p5, p7, p8, p10]))
        exact ⟨m - 1, by omega, 5, by omega, he.app, rfl⟩
      | 5, _, hm, q10 =>
        repeat' (first|refine zW.zs ?_|refine zW.zb ?_|refine zW.zc ?_|refine zW.zt rfl ?_|refine zW.zf rfl ?_|(refine zW.zd rfl (fun ht => ?_) (fun ht => ?_)<;>try (exfalso;omega))|((first|refine zW.zr ?_|refine zW.zk ?_|refine zW.ze ?_|refine zW.zq ?_|(apply callW.mk_pu; (first | exact (fun _ => hR1 _))) | (apply callW.za; (first | exact (hR1 _))) | ((first|apply zg0|apply zg1|apply zg2|apply zg3|apply zg4|apply zg5|apply zg6|apply zg7)<;>intro ht));all_goals try simp (disch:=first|omega|(simp only [lens,z7,z6,List.length_reverse,List.length_map,List.length_take,List.length_drop];first|done|omega)) only [go_sem,reduceEqDiff,Nat.reduceBEq,reduceAdd,reduceMul,reduceSub,reduceLeDiff,reduceToNat,reducePow, q3, q4, q5, q7, q8, q10, c0, c1, c2, c3, c4, xc]))
        refine z6b (root := root) (d := d) (r := root) (i := i) (sig := SG) (P := PH) (x := .vsl 32 (hr PH) false) (a := Y'.length) (b := Y'.length + 1) (by rw [gapp (by omega)]; exact c1) (by rw [gapp (by omega)]; exact c2) (by rw [z18 (by omega), Nat.sub_self]; rfl) (by rw [z18 (by omega), Nat.add_sub_cancel_left]; rfl) (.of (.inr ⟨false, rfl⟩)) (by first | omega | (simp; omega)) (by first | omega | (simp; omega)) (by omega) ?_ ?_ ?_ ?_ ?_
        · simp (disch:=first|omega|(simp only [lens,z7,z6,List.length_reverse,List.length_map,List.length_take,List.length_drop];first|done|omega)) only [go_sem,reduceEqDiff,Nat.reduceBEq,reduceAdd,reduceMul,reduceSub,reduceLeDiff,reduceToNat,reducePow, q4]
        · simp (disch:=first|omega|(simp only [lens,z7,z6,List.length_reverse,List.length_map,List.length_take,List.length_drop];first|done|omega)) only [go_sem,reduceEqDiff,Nat.reduceBEq,reduceAdd,reduceMul,reduceSub,reduceLeDiff,reduceToNat,reducePow, q5]
        · simp (disch:=first|omega|(simp only [lens,z7,z6,List.length_reverse,List.length_map,List.length_take,List.length_drop];first|done|omega)) only [go_sem,reduceEqDiff,Nat.reduceBEq,reduceAdd,reduceMul,reduceSub,reduceLeDiff,reduceToNat,reducePow]
        · simp (disch:=first|omega|(simp only [lens,z7,z6,List.length_reverse,List.length_map,List.length_take,List.length_drop];first|done|omega)) only [go_sem,reduceEqDiff,Nat.reduceBEq,reduceAdd,reduceMul,reduceSub,reduceLeDiff,reduceToNat,reducePow]
        intro O' p3 p4 p5 p7 p8 p10
        replace p3 : O' 3 = .ptr 0 0 0 := by rw [p3]; simp (disch:=first|omega|(simp only [lens,z7,z6,List.length_reverse,List.length_map,List.length_take,List.length_drop];first|done|omega)) only [go_sem,reduceEqDiff,Nat.reduceBEq,reduceAdd,reduceMul,reduceSub,reduceLeDiff,reduceToNat,reducePow, q3]
        replace p4 : O' 4 = .ptr 1 0 0 := by rw [p4]; simp (disch:=first|omega|(simp only [lens,z7,z6,List.length_reverse,List.length_map,List.length_take,List.length_drop];first|done|omega)) only [go_sem,reduceEqDiff,Nat.reduceBEq,reduceAdd,reduceMul,reduceSub,reduceLeDiff,reduceToNat,reducePow, q4]
        replace p5 : O' 5 = .ptr 2 0 0 := by rw [p5]; simp (disch:=first|omega|(simp only [lens,z7,z6,List.length_reverse,List.length_map,List.length_take,List.length_drop];first|done|omega)) only [go_sem,reduceEqDiff,Nat.reduceBEq,reduceAdd,reduceMul,reduceSub,reduceLeDiff,reduceToNat,reducePow, q5]
        replace p7 : O' 7 = .ptr 3 0 0 := by rw [p7]; simp (disch:=first|omega|(simp only [lens,z7,z6,List.length_reverse,List.length_map,List.length_take,List.length_drop];first|done|omega)) only [go_sem,reduceEqDiff,Nat.reduceBEq,reduceAdd,reduceMul,reduceSub,reduceLeDiff,reduceToNat,reducePow, q7]
        replace p8 : O' 8 = .ptr 4 0 0 := by rw [p8]; simp (disch:=first|omega|(simp only [lens,z7,z6,List.length_reverse,List.length_map,List.length_take,List.length_drop];first|done|omega)) only [go_sem,reduceEqDiff,Nat.reduceBEq,reduceAdd,reduceMul,reduceSub,reduceLeDiff,reduceToNat,reducePow, q8]
        replace p10 : O' 10 = .int .i64 (5 : Nat) := by rw [p10]; simp (disch:=first|omega|(simp only [lens,z7,z6,List.length_reverse,List.length_map,List.length_take,List.length_drop];first|done|omega)) only [go_sem,reduceEqDiff,Nat.reduceBEq,reduceAdd,reduceMul,reduceSub,reduceLeDiff,reduceToNat,reducePow, q10]
        simp (disch:=first|omega|(simp only [lens,z7,z6,List.length_reverse,List.length_map,List.length_take,List.length_drop];first|done|omega)) only [go_sem,reduceEqDiff,Nat.reduceBEq,reduceAdd,reduceMul,reduceSub,reduceLeDiff,reduceToNat,reducePow]
        repeat' (first|refine zW.zs ?_|refine zW.zb ?_|refine zW.zc ?_|refine zW.zt rfl ?_|refine zW.zf rfl ?_|(refine zW.zd rfl (fun ht => ?_) (fun ht => ?_)<;>try (exfalso;omega))|((first|refine zW.zr ?_|refine zW.zk ?_|refine zW.ze ?_|refine zW.zq ?_|((first|apply zg0|apply zg1|apply zg2|apply zg3|apply zg4|apply zg5|apply zg6|apply zg7)<;>intro ht));all_goals try simp (disch:=first|omega|(simp only [lens,z7,z6,List.length_reverse,List.length_map,List.length_take,List.length_drop];first|done|omega)) only [go_sem,reduceEqDiff,Nat.reduceBEq,reduceAdd,reduceMul,reduceSub,reduceLeDiff,reduceToNat,reducePow, p3, p4, p5, p7, p8, p10]))
        exact ⟨m - 1, by omega, 6, by omega, he.app, rfl⟩
      | 6, _, hm, q10 =>
        repeat' (first|refine zW.zs ?_|refine zW.zb ?_|refine zW.zc ?_|refine zW.zt rfl ?_|refine zW.zf rfl ?_|(refine zW.zd rfl (fun ht => ?_) (fun ht => ?_)<;>try (exfalso;omega))|((first|refine zW.zr ?_|refine zW.zk ?_|refine zW.ze ?_|refine zW.zq ?_|(apply callW.mk_pu; (first | exact (fun _ => hR1 _))) | (apply callW.za; (first | exact (hR1 _))) | ((first|apply zg0|apply zg1|apply zg2|apply zg3|apply zg4|apply zg5|apply zg6|apply zg7)<;>intro ht));all_goals try simp (disch:=first|omega|(simp only [lens,z7,z6,List.length_reverse,List.length_map,List.length_take,List.length_drop];first|done|omega)) only [go_sem,reduceEqDiff,Nat.reduceBEq,reduceAdd,reduceMul,reduceSub,reduceLeDiff,reduceToNat,reducePow, q3, q4, q5, q7, q8, q10, c0, c1, c2, c3, c4, xc, hpl, ea]))
        refine z6b (root := root) (d := d) (r := RT) (i := i) (sig := SG) (P := (PH ++ [root])) (x := (.sl (Y'.length + 3) 0 4 none 32)) (a := Y'.length) (b := Y'.length + 1) (by rw [gapp (by omega)]; exact c1) (by rw [gapp (by omega)]; exact c2) (by rw [z18 (by omega), Nat.sub_self]; rfl) (by rw [z18 (by omega), Nat.add_sub_cancel_left]; rfl) (by rw [show AV.sl (Y'.length + 3) 0 4 none 32 = AV.sl (Y'.length + 3) 0 (hr (PH ++ [root])).length none 32 by rw [e4]]; exact .inr ⟨Y'.length + 3, 0, none, hr (PH ++ [root]), rfl, by rw [z18 (by omega), Nat.add_sub_cancel_left]; rfl, by omega, by simp⟩) (by first | omega | (simp; omega)) (by first | omega | (simp; omega)) (by omega) ?_ ?_ ?_ ?_ ?_
        · simp (disch:=first|omega|(simp only [lens,z7,z6,List.length_reverse,List.length_map,List.length_take,List.length_drop];first|done|omega)) only [go_sem,reduceEqDiff,Nat.reduceBEq,reduceAdd,reduceMul,reduceSub,reduceLeDiff,reduceToNat,reducePow, q4]
        · simp (disch:=first|omega|(simp only [lens,z7,z6,List.length_reverse,List.length_map,List.length_take,List.length_drop];first|done|omega)) only [go_sem,reduceEqDiff,Nat.reduceBEq,reduceAdd,reduceMul,reduceSub,reduceLeDiff,reduceToNat,reducePow, q5]
        · simp (disch:=first|omega|(simp only [lens,z7,z6,List.length_reverse,List.length_map,List.length_take,List.length_drop];first|done|omega)) only [go_sem,reduceEqDiff,Nat.reduceBEq,reduceAdd,reduceMul,reduceSub,reduceLeDiff,reduceToNat,reducePow]
        · simp (disch:=first|omega|(simp only [lens,z7,z6,List.length_reverse,List.length_map,List.length_take,List.length_drop];first|done|omega)) only [go_sem,reduceEqDiff,Nat.reduceBEq,reduceAdd,reduceMul,reduceSub,reduceLeDiff,reduceToNat,reducePow]
        intro O' p3 p4 p5 p7 p8 p10
        replace p3 : O' 3 = .ptr 0 0 0 := by rw [p3]; simp (disch:=first|omega|(simp only [lens,z7,z6,List.length_reverse,List.length_map,List.length_take,List.length_drop];first|done|omega)) only [go_sem,reduceEqDiff,Nat.reduceBEq,reduceAdd,reduceMul,reduceSub,reduceLeDiff,reduceToNat,reducePow, q3]
        replace p4 : O' 4 = .ptr 1 0 0 := by rw [p4]; simp (disch:=first|omega|(simp only [lens,z7,z6,List.length_reverse,List.length_map,List.length_take,List.length_drop];first|done|omega)) only [go_sem,reduceEqDiff,Nat.reduceBEq,reduceAdd,reduceMul,reduceSub,reduceLeDiff,reduceToNat,reducePow, q4]
        replace p5 : O' 5 = .ptr 2 0 0 := by rw [p5]; simp (disch:=first|omega|(simp only [lens,z7,z6,List.length_reverse,List.length_map,List.length_take,List.length_drop];first|done|omega)) only [go_sem,reduceEqDiff,Nat.reduceBEq,reduceAdd,reduceMul,reduceSub,reduceLeDiff,reduceToNat,reducePow, q5]
        replace p7 : O' 7 = .ptr 3 0 0 := by rw [p7]; simp (disch:=first|omega|(simp only [lens,z7,z6,List.length_reverse,List.length_map,List.length_take,List.length_drop];first|done|omega)) only [go_sem,reduceEqDiff,Nat.reduceBEq,reduceAdd,reduceMul,reduceSub,reduceLeDiff,reduceToNat,reducePow, q7]
        replace p8 : O' 8 = .ptr 4 0 0 := by rw [p8]; simp (disch:=first|omega|(simp only [lens,z7,z6,List.length_reverse,List.length_map,List.length_take,List.length_drop];first|done|omega)) only [go_sem,reduceEqDiff,Nat.reduceBEq,reduceAdd,reduceMul,reduceSub,reduceLeDiff,reduceToNat,reducePow, q8]
        replace p10 : O' 10 = .int .i64 (6 : Nat) := by rw [p10]; simp (disch:=first|omega|(simp only [lens,z7,z6,List.length_reverse,List.length_map,List.length_take,List.length_drop];first|done|omega)) only [go_sem,reduceEqDiff,Nat.reduceBEq,reduceAdd,reduceMul,reduceSub,reduceLeDiff,reduceToNat,reducePow, q10]
        simp (disch:=first|omega|(simp only [lens,z7,z6,List.length_reverse,List.length_map,List.length_take,List.length_drop];first|done|omega)) only [go_sem,reduceEqDiff,Nat.reduceBEq,reduceAdd,reduceMul,reduceSub,reduceLeDiff,reduceToNat,reducePow]
        repeat' (first|refine zW.zs ?_|refine zW.zb ?_|refine zW.zc ?_|refine zW.zt rfl ?_|refine zW.zf rfl ?_|(refine zW.zd rfl (fun ht => ?_) (fun ht => ?_)<;>try (exfalso;omega))|((first|refine zW.zr ?_|refine zW.zk ?_|refine zW.ze ?_|refine zW.zq ?_|((first|apply zg0|apply zg1|apply zg2|apply zg3|apply zg4|apply zg5|apply zg6|apply zg7)<;>intro ht));all_goals try simp (disch:=first|omega|(simp only [lens,z7,z6,List.length_reverse,List.length_map,List.length_take,List.length_drop];first|done|omega)) only [go_sem,reduceEqDiff,Nat.reduceBEq,reduceAdd,reduceMul,reduceSub,reduceLeDiff,reduceToNat,reducePow, p3, p4, p5, p7, p8, p10]))
        exact ⟨m - 1, by omega, 7, by omega, he.app, rfl⟩
      | k + 7, h, _, _ => omega
    · obtain rfl : k = 7 := by omega
      repeat' (first|refine zW.zs ?_|refine zW.zb ?_|refine zW.zc ?_|refine zW.zt rfl ?_|refine zW.zf rfl ?_|(refine zW.zd rfl (fun ht => ?_) (fun ht => ?_)<;>try (exfalso;omega))|((first|refine zW.zr ?_|refine zW.zk ?_|refine zW.ze ?_|refine zW.zq ?_|(apply callW.mk_pu; (first | exact (fun _ => z6r _))) | (apply callW.za; (first | exact (z6r _))) | ((first|apply zg0|apply zg1|apply zg2|apply zg3|apply zg4|apply zg5|apply zg6|apply zg7)<;>intro ht));all_goals try simp (disch:=first|omega|(simp only [lens,z7,z6,List.length_reverse,List.length_map,List.length_take,List.length_drop];first|done|omega)) only [go_sem,reduceEqDiff,Nat.reduceBEq,reduceAdd,reduceMul,reduceSub,reduceLeDiff,reduceToNat,reducePow, q3, q10]))
      exact DownV.pure (Z := []) (news := Y') hw (z12 _ rfl)
def zbc : Ty := .row [.int .i64, .int .u16, .int .u8, .sl 32 z3i, .int .u16]
theorem zjv {a : AV} (h : Sh zbc a) : ∃ (i at_ cut : Int) (b : UInt8) (P : List Hash) (x : AV), a = .agg (fgC i at_ b.toNat x cut) /\ (-9223372036854775808 <= i /\ i <= 9223372036854775807) /\ (0 <= at_ /\ at_ <= 65535) /\ (0 <= cut /\ cut <= 65535) /\ SlV 32 (hr P) x /\ P.length <= maxLen := by
  simp only [zbc, Sh] at h
  obtain ⟨cs, rfl, h⟩ := h
  simp only [z2x] at h
  obtain ⟨A, B, rfl, hA, C, D, rfl, hC, E, F, rfl, hE, G, K, rfl, hG, M, N, rfl, hM, rfl⟩ := h
  simp only [ShC] at hA hC hE hM
  obtain ⟨i, rfl, i1, i2⟩ := hA
  obtain ⟨a, rfl, a1, a2⟩ := hC
  obtain ⟨b, rfl, b1, b2⟩ := hE
  obtain ⟨c, rfl, c1, c2⟩ := hM
  obtain ⟨P, x, rfl, h3, h4⟩ := hslC_h hG
  simp only [IntKind.min, IntKind.max, IntKind.signed, IntKind.bits] at i1 i2 a1 a2 b1 b2 c1 c2
  simp at i1 i2 a1 a2 b1 b2 c1 c2
  refine ⟨i, a, c, UInt8.ofNat b.toNat, P, x, ?_, ⟨i1, i2⟩, ⟨a1, a2⟩, ⟨c1, c2⟩, h3, h4⟩
  have e : ((UInt8.ofNat b.toNat).toNat : Int) = b := by rw [UInt8.toNat_ofNat']; omega
  rw [fgC, e]
  rfl
theorem KeytreeVerify_law (avs : List AV) (h : z5e [zbc, z3i, z3i] avs) : ACallsTo TC 9 avs [] (.bool true) [] := by
  simp only [z5e] at h
  obtain ⟨_, _, rfl, h1, _, _, rfl, h2, _, _, rfl, h3, rfl⟩ := h
  obtain ⟨i, a, c, b, P, x, rfl, hi, ha, hc, hx, hl⟩ := zjv h1
  obtain ⟨root, rfl⟩ := zbe h2
  obtain ⟨d, rfl⟩ := zbe h3
  exact zhk i a c b P x root d hx hi ha hc hl
end Am
end Go.Proofs.YtncenefkbpelbaaDoor
end
section
/- What a law with the laid tables of sha begins with. -/
namespace Go.Proofs.YtncenefkbpelbaaDoor.LawDoor
open Go.ChangeShapes Go.WideShapes Go.ChangeAt Go.RowKit
theorem own : ownKnob Tryd.prog.godebug = none := by kernel_rfl
theorem zf2 : laidOutB Tryd.prog = true := by kernel_rfl
def z5j : List (String × DataW Unit) := [("speculum/sha.first", Rows.laid_speculum_sha_first), ("speculum/sha.rounds", Rows.laid_speculum_sha_rounds)]
set_option maxRecDepth 100000
/-- The door's own heap meets the condition. -/
theorem zea (os : Os) (args : Array Value) : laidMetH Tryd.prog z5j ((World.doorLaid Tryd.prog 400 os).forCall (fun _ _ => 0) ⟨#[], args, []⟩).memory :=
  laidMetH_of_parts3 (fuel := 8) (laidMet_of_run' 8 (by kernel_rfl) (by kernel_rfl)) (by kernel_rfl) (by kernel_rfl)
/-- What the condition gives the walks: the tables, as_ the machine knows them. -/
theorem zfx {W : World} (h : laidMetH Tryd.prog z5j W) : Am.Rel Am.TC [] [] W := by
  rw [MakeChecks.laidMetH_plain _ _ _ (by kernel_rfl)] at h
  obtain ⟨ps, ⟨g0, t0, cs0, f0, p0, q0, hg0, ht0, hv0, hd0, ⟨g1, t1, cs1, f1, p1, q1, hg1, ht1, hv1, hd1, _, _⟩, _⟩, _, _⟩ := h
  have v0 := Am.vp_of_var (P := Tryd.prog) (n := "speculum/sha.first") (g := 0) (t := 168) (e := 166) (m := 8) (k := .u32) Am.shaFirst (by kernel_rfl) (by kernel_rfl) (by kernel_rfl) (by kernel_rfl) (by kernel_rfl) (by kernel_rfl) hg0 ht0 hv0 hd0
  have v1 := Am.vp_of_var (P := Tryd.prog) (n := "speculum/sha.rounds") (g := 1) (t := 167) (e := 166) (m := 64) (k := .u32) Am.shaRounds (by kernel_rfl) (by kernel_rfl) (by kernel_rfl) (by kernel_rfl) (by kernel_rfl) (by kernel_rfl) hg1 ht1 hv1 hd1
  refine ⟨rfl, fun r o h => by simp at h, fun r h => by simp at h, fun r r' pl pl' h => by simp at h, fun g cs h => ?_⟩
  simp only [Am.TC] at h
  split at h
  · rename_i hg; subst hg; cases h; exact v0
  · split at h
    · rename_i hg; subst hg; cases h; exact v1
    · cases h
end Go.Proofs.YtncenefkbpelbaaDoor.LawDoor
end
