import Derived.Test.YtncenefkbpelbaaDoorK5c5ad1901
import Derived.Test.YtncenefkbpelbaaDoorK309174ad1
import Derived.Test.YtncenefkbpelbaaDoorRows
import Derived.Test.YtncenefkbpelbaaDoorCards
import Derived.Test.YtncenefkbpelbaaDoorTie
import Derived.ProofKit
import Derived.LaidMore
import Derived.OpenShut
import Derived.Stop.Joined
import Derived.SevenTiedAt
import Derived.MakeChecks
set_option linter.unusedSimpArgs false
set_option linter.unusedVariables false
open Nat (reduceEqDiff reduceAdd reduceMul reduceSub reduceLeDiff)
open Int (reduceToNat reducePow)
section
/- Keys: the chapter's tree; are two seals the same?; the law KeytreeNone: contracts. -/
namespace Go.Proofs.YtncenefkbpelbaaDoor
namespace Am
theorem hc_dgA : hc dgA = [.int .u8 1, .int .u8 2, .int .u8 0, .int .u8 0, .int .u8 0, .int .u8 0, .int .u8 0, .int .u8 0, .int .u8 0, .int .u8 0, .int .u8 0, .int .u8 0, .int .u8 0, .int .u8 0, .int .u8 0, .int .u8 0, .int .u8 0, .int .u8 0, .int .u8 0, .int .u8 0, .int .u8 0, .int .u8 0, .int .u8 0, .int .u8 0, .int .u8 0, .int .u8 0, .int .u8 0, .int .u8 0, .int .u8 0, .int .u8 0, .int .u8 0, .int .u8 0] := rfl
theorem hc_dgB : hc dgB = [.int .u8 1, .int .u8 0, .int .u8 0, .int .u8 0, .int .u8 0, .int .u8 0, .int .u8 0, .int .u8 0, .int .u8 0, .int .u8 0, .int .u8 0, .int .u8 0, .int .u8 0, .int .u8 0, .int .u8 0, .int .u8 0, .int .u8 0, .int .u8 0, .int .u8 0, .int .u8 0, .int .u8 0, .int .u8 0, .int .u8 0, .int .u8 0, .int .u8 0, .int .u8 0, .int .u8 0, .int .u8 0, .int .u8 0, .int .u8 0, .int .u8 0, .int .u8 0] := rfl
attribute [local irreducible] ACallsTo ACallsP pubH
set_option maxHeartbeats 8000000 in
theorem z5t (Y : Store) : ACallsTo TC 46 [] Y (.bool true) Y := by
  have hN := fun Y => zbr Y [97] (by simp)
  obtain ⟨Z, hτ⟩ : ∃ Z, Z = Y ++ [some [z1b true [97] (keyL [97])]] := ⟨_, rfl⟩
  have hg : ∀ y, (Y ++ (some [z1b true [97] (keyL [97])] :: y))[Y.length]? = some (some [z1b true [97] (keyL [97])]) := fun y => by rw [z17 (by omega), Nat.sub_self]; rfl
  have hKl := z2k [97]
  have hSb := fun y => zhm (Y ++ (some [z1b true [97] (keyL [97])] :: y)) Y.length [97] (keyL [97]) 8 dgA (hg y) (by omega)
  have hSg := fun y => zda (Y ++ (some [z1b true [97] (keyL [97])] :: y)) Y.length [97] (keyL [97]) 3 dgA (hg y) hKl (by omega) (by simp)
  have hR := fun y => zd9 (Y ++ (some [z1b true [97] (keyL [97])] :: y)) Y.length [97] (keyL [97]) (hg y) hKl
  have hpl : (z14 (keyL [97]) 3).length = 3 := by unfold z14; rw [List.length_reverse, z8p _ 3 hKl]
  have hsl := z8w [97] 3 dgA.1
  have hv1 := zqq [97] 3 (by omega) dgA
  have hv2 := ver_ab
  have hV1 := fun Y => z97 Y (z1i (keyL [97])) dgA 3 (sigS [97] 3 dgA.1) (z14 (keyL [97]) 3) (z1c 32 (hr (z14 (keyL [97]) 3))) (.of (z7e _ _)) (by omega) (by omega) (by omega)
  have hV2 := fun Y => z97 Y (z1i (keyL [97])) dgB 3 (sigS [97] 3 dgA.1) (z14 (keyL [97]) 3) (z1c 32 (hr (z14 (keyL [97]) 3))) (.of (z7e _ _)) (by omega) (by omega) (by omega)
  rw [show (3 : Int) = ((3 : Nat) : Int) from rfl] at hV1
  rw [hv1] at hV1
  rw [hv2] at hV2
  unfold z2m at hSb hSg
  have r1 := (z7e 32 (hr (z14 (keyL [97]) 3))).len
  rw [z6, hpl] at r1
  unfold z1t at r1
  have zc := zhf (sz := 32) (es := hr (z14 (keyL [97]) 3))
  unfold cellsOf at zc
  generalize z1c 32 (hr (z14 (keyL [97]) 3)) = PV at *
  generalize sigS [97] ((3 : Nat) : Int) dgA.1 = SG at *
  generalize z1i (keyL [97]) = RT at *
  generalize keyL [97] = K at *
  refine ACallsTo.of_body q1hok (by simp) fun hw _ => ?_
  repeat' (first|refine zW.zs ?_|refine zW.zb ?_|refine zW.zc ?_|refine zW.zt rfl ?_|refine zW.zf rfl ?_|(refine zW.zd rfl (fun ht => ?_) (fun ht => ?_)<;>try (exfalso;omega))|((first|refine zW.zr ?_|refine zW.zk ?_|refine zW.ze ?_|refine zW.zq ?_|(apply callW.mk_pu; (first | exact (fun _ => hN _) | exact (fun _ => hSb _) | exact (fun _ => hSg _) | exact (fun _ => hR _) | exact (fun _ => hV1 _) | exact (fun _ => hV2 _))) | (apply callW.za; (first | exact (hN _) | exact (hSb _) | exact (hSg _) | exact (hR _) | exact (hV1 _) | exact (hV2 _))) | ((first|apply zg0|apply zg1|apply zg2|apply zg3|apply zg4|apply zg5|apply zg6|apply zg7)<;>intro ht));all_goals try simp (disch:=first|omega|(simp only [lens,z7,z6,List.length_reverse,List.length_map,List.length_take,List.length_drop];first|done|omega)) only [go_sem,reduceEqDiff,Nat.reduceBEq,reduceAdd,reduceMul,reduceSub,reduceLeDiff,reduceToNat,reducePow, <- hc_dgA, <- hc_dgB, r1, zc]))
  exact DownV.pure hw z8q
theorem zic (Y : Store) (i j : Int) (s u : List UInt8) (A B : List Hash) (x y : AV) (hx : RdSl Y 32 (hr A) x) (hy : RdSl Y 32 (hr B) y) (hs : s.length < 1000000) (hu : u.length < 1000000) (hl : A.length < 1000000) (hl2 : B.length < 1000000) :
    ACallsTo TC 53 [.agg [.int .i64 i, .str s, x], .agg [.int .i64 j, .str u, y]] Y (.bool (decide (i = j /\ s = u /\ A = B))) Y := by
  have xc := hx.cells
  have yc := hy.cells
  unfold cellsOf at xc yc
  have hS := fun z => Same_h (Y ++ z) A B x y hx.app hy.app (by omega) (by omega)
  refine ACallsTo.of_body q1ook (by simp) fun hw _ => ?_
  by_cases h1 : i = j
  · subst h1
    by_cases h2 : s = u
    · subst h2
      simp only [true_and]
      repeat' (first|refine zW.zs ?_|refine zW.zb ?_|refine zW.zc ?_|refine zW.zt rfl ?_|refine zW.zf rfl ?_|(refine zW.zd rfl (fun ht => ?_) (fun ht => ?_)<;>try (exfalso;omega))|((first|refine zW.zr ?_|refine zW.zk ?_|refine zW.ze ?_|refine zW.zq ?_|(apply callW.mk_pu; (first | exact (fun _ => hS _))) | (apply callW.za; (first | exact (hS _))) | ((first|apply zg0|apply zg1|apply zg2|apply zg3|apply zg4|apply zg5|apply zg6|apply zg7)<;>intro ht));all_goals try simp (disch:=first|omega|(simp only [lens,z7,z6,List.length_reverse,List.length_map,List.length_take,List.length_drop];first|done|omega)) only [go_sem,reduceEqDiff,Nat.reduceBEq,reduceAdd,reduceMul,reduceSub,reduceLeDiff,reduceToNat,reducePow, xc, yc]))
      exact DownV.pure hw z8q
    · rw [decide_eq_false (fun h => h2 h.2.1)]
      have h3 : (s == u) = false := by simpa using h2
      repeat' (first|refine zW.zs ?_|refine zW.zb ?_|refine zW.zc ?_|refine zW.zt rfl ?_|refine zW.zf rfl ?_|(refine zW.zd rfl (fun ht => ?_) (fun ht => ?_)<;>try (exfalso;omega))|((first|refine zW.zr ?_|refine zW.zk ?_|refine zW.ze ?_|refine zW.zq ?_|((first|apply zg0|apply zg1|apply zg2|apply zg3|apply zg4|apply zg5|apply zg6|apply zg7)<;>intro ht));all_goals try simp (disch:=first|omega|(simp only [lens,z7,z6,List.length_reverse,List.length_map,List.length_take,List.length_drop];first|done|omega)) only [go_sem,reduceEqDiff,Nat.reduceBEq,reduceAdd,reduceMul,reduceSub,reduceLeDiff,reduceToNat,reducePow, xc, yc, h2, h3]))
      exact DownV.pure hw z8q
  · rw [decide_eq_false (fun h => h1 h.1)]
    repeat' (first|refine zW.zs ?_|refine zW.zb ?_|refine zW.zc ?_|refine zW.zt rfl ?_|refine zW.zf rfl ?_|(refine zW.zd rfl (fun ht => ?_) (fun ht => ?_)<;>try (exfalso;omega))|((first|refine zW.zr ?_|refine zW.zk ?_|refine zW.ze ?_|refine zW.zq ?_|((first|apply zg0|apply zg1|apply zg2|apply zg3|apply zg4|apply zg5|apply zg6|apply zg7)<;>intro ht));all_goals try simp (disch:=first|omega|(simp only [lens,z7,z6,List.length_reverse,List.length_map,List.length_take,List.length_drop];first|done|omega)) only [go_sem,reduceEqDiff,Nat.reduceBEq,reduceAdd,reduceMul,reduceSub,reduceLeDiff,reduceToNat,reducePow, xc, yc, h1]))
    exact DownV.pure hw z8q
end Am
end Go.Proofs.YtncenefkbpelbaaDoor
end
section
/- Keys: the law KeytreeVerify: its contract. -/
namespace Go.Proofs.YtncenefkbpelbaaDoor
namespace Am
attribute [local irreducible] ACallsTo ACallsP pubH
set_option maxHeartbeats 8000000 in
theorem z6g {Q : AExit -> Env -> Store -> Prop} {O : Env} {Y : Store} {a b : Nat} {r root d : Hash} {i : Int} {sig : List UInt8} {P : List Hash} {x : AV} (h1 : Y[1]? = some (some [hc root])) (h2 : Y[2]? = some (some [hc d])) (ha : Y[a]? = some (some [[.int .i64 i, .str sig, x]])) (hb : Y[b]? = some (some [hc r]))
    (hx : RdSl Y 32 (hr P) x) (hl : P.length < 1000000) (hs : sig.length < 1000000) (hi : -9223372036854775808 <= i /\ i <= 9223372036854775807) (q4 : O 4 = .ptr 1 0 0) (q5 : O 5 = .ptr 2 0 0) (q11 : O 11 = .ptr a 0 0) (q12 : O 12 = .ptr b 0 0)
    (hQ : ∀ O' : Env, O' 3 = O 3 -> O' 4 = O 4 -> O' 5 = O 5 -> O' 7 = O 7 -> O' 8 = O 8 -> O' 10 = O 10 -> Q .normal O' Y) : zW TC 120 0 zcc Q O Y := by
  have V1 := z97 Y r d i sig P x hx hl hs hi
  have W1 := zgi Y r d i sig P x hx hl hs hi
  have V2 := z97 Y r root i sig P x hx hl hs hi
  have W2 := zgi Y r root i sig P x hx hl hs hi
  have d1 := slen h1
  have d2 := slen h2
  have da := slen ha
  have db := slen hb
  generalize verI r d i sig P = e1 at *
  generalize verI r root i sig P = e2 at *
  repeat' (first|refine zW.zs ?_|refine zW.zb ?_|refine zW.zc ?_|refine zW.zt rfl ?_|refine zW.zf rfl ?_|(refine zW.zd rfl (fun ht => ?_) (fun ht => ?_)<;>try (exfalso;omega))|((first|refine zW.zr ?_|refine zW.zk ?_|refine zW.ze ?_|refine zW.zq ?_|(apply callW.mk_pu; (first | exact (fun _ => V1) | exact (fun _ => W1) | exact (fun _ => V2) | exact (fun _ => W2))) | (apply callW.za; (first | exact (V1) | exact (W1) | exact (V2) | exact (W2))) | ((first|apply zg0|apply zg1|apply zg2|apply zg3|apply zg4|apply zg5|apply zg6|apply zg7)<;>intro ht));all_goals try simp (disch:=first|omega|(simp only [lens,z7,z6,List.length_reverse,List.length_map,List.length_take,List.length_drop];first|done|omega)) only [go_sem,reduceEqDiff,Nat.reduceBEq,reduceAdd,reduceMul,reduceSub,reduceLeDiff,reduceToNat,reducePow, q4, q5, q11, q12, h1, h2, ha, hb]))
  exact hQ _ (by simp (disch:=first|omega|(simp only [lens,z7,z6,List.length_reverse,List.length_map,List.length_take,List.length_drop];first|done|omega)) only [go_sem,reduceEqDiff,Nat.reduceBEq,reduceAdd,reduceMul,reduceSub,reduceLeDiff,reduceToNat,reducePow]) (by simp (disch:=first|omega|(simp only [lens,z7,z6,List.length_reverse,List.length_map,List.length_take,List.length_drop];first|done|omega)) only [go_sem,reduceEqDiff,Nat.reduceBEq,reduceAdd,reduceMul,reduceSub,reduceLeDiff,reduceToNat,reducePow]) (by simp (disch:=first|omega|(simp only [lens,z7,z6,List.length_reverse,List.length_map,List.length_take,List.length_drop];first|done|omega)) only [go_sem,reduceEqDiff,Nat.reduceBEq,reduceAdd,reduceMul,reduceSub,reduceLeDiff,reduceToNat,reducePow]) (by simp (disch:=first|omega|(simp only [lens,z7,z6,List.length_reverse,List.length_map,List.length_take,List.length_drop];first|done|omega)) only [go_sem,reduceEqDiff,Nat.reduceBEq,reduceAdd,reduceMul,reduceSub,reduceLeDiff,reduceToNat,reducePow]) (by simp (disch:=first|omega|(simp only [lens,z7,z6,List.length_reverse,List.length_map,List.length_take,List.length_drop];first|done|omega)) only [go_sem,reduceEqDiff,Nat.reduceBEq,reduceAdd,reduceMul,reduceSub,reduceLeDiff,reduceToNat,reducePow]) (by simp (disch:=first|omega|(simp only [lens,z7,z6,List.length_reverse,List.length_map,List.length_take,List.length_drop];first|done|omega)) only [go_sem,reduceEqDiff,Nat.reduceBEq,reduceAdd,reduceMul,reduceSub,reduceLeDiff,reduceToNat,reducePow])
attribute [local irreducible] zcc
/-- A forgery's cells. -/
def fgC (i at_ by_ : Int) (x : AV) (cut : Int) : List AV := [.int .i64 i, .int .u16 at_, .int .u8 by_, x, .int .u16 cut]
theorem and7 (i : Int) : zy .and .i64 i 7 = some (.int .i64 (i % 8)) := zig i 3 (by omega)
set_option maxHeartbeats 16000000 in
theorem zi1 (fi at_ cut : Int) (by_ : UInt8) (P : List Hash) (x : AV) (root d : Hash) (hx : SlV 32 (hr P) x) (hfi : -9223372036854775808 <= fi /\ fi <= 9223372036854775807) (hat : 0 <= at_ /\ at_ <= 65535) (hcut : 0 <= cut /\ cut <= 65535) (hPl : P.length <= maxLen) :
    ACallsTo TC 9 [.agg (fgC fi at_ by_.toNat x cut), .agg (hc root), .agg (hc d)] [] (.bool true) [] := by
  have xc := zhg hx
  unfold cellsOf at xc
  have r1 := hx.len
  rw [z6] at r1
  unfold z1t at r1
  unfold fgC
  refine ACallsTo.of_body q1gok (by simp) fun hw _ => ?_
  by_cases h40 : (P.length : Int) > 40
  · repeat' (first|refine zW.zs ?_|refine zW.zb ?_|refine zW.zc ?_|refine zW.zt rfl ?_|refine zW.zf rfl ?_|(refine zW.zd rfl (fun ht => ?_) (fun ht => ?_)<;>try (exfalso;omega))|((first|refine zW.zr ?_|refine zW.zk ?_|refine zW.ze ?_|refine zW.zq ?_|(apply callW.mk_pu; (first | exact (fun _ => z5t _))) | (apply callW.za; (first | exact (z5t _))) | ((first|apply zg0|apply zg1|apply zg2|apply zg3|apply zg4|apply zg5|apply zg6|apply zg7)<;>intro ht));all_goals try simp (disch:=first|omega|(simp only [lens,z7,z6,List.length_reverse,List.length_map,List.length_take,List.length_drop];first|done|omega)) only [go_sem,reduceEqDiff,Nat.reduceBEq,reduceAdd,reduceMul,reduceSub,reduceLeDiff,reduceToNat,reducePow, xc, r1, h40]))
    exact DownV.pure (Z := []) hw (z11 _ rfl)
  have hN := fun Y => zbr Y [107] (by simp)
  have hKl := z2k [107]
  obtain ⟨i, hi8⟩ : ∃ i : Nat, fi % 8 = i := ⟨(fi % 8).toNat, by omega⟩
  have hi : i < 8 := by omega
  have ha7 := and7 fi
  rw [hi8] at ha7
  have hSg := fun Y hg => zda Y 3 [107] (keyL [107]) i d hg hKl hi (by simp)
  have hR := fun Y hg => zd9 Y 3 [107] (keyL [107]) hg hKl
  have hpl : (z14 (keyL [107]) i).length = 3 := by unfold z14; rw [List.length_reverse, z8p _ i hKl]
  have hsl := z8w [107] i d.1
  unfold z2m at hSg
  generalize z14 (keyL [107]) i = PH at *
  have hne : hr PH ≠ [] := fun e => by have := congrArg List.length e; rw [z6, hpl] at this; simp at this
  have hPVe : z1c 32 (hr PH) = .vsl 32 (hr PH) false := by unfold z1c; rw [if_neg hne]
  rw [hPVe] at hSg
  generalize sigS [107] (i : Int) d.1 = SG at *
  generalize z1i (keyL [107]) = RT at *
  generalize keyL [107] = K at *
  have hSg1 := hSg [some [[.int .i64 fi, .int .u16 at_, .int .u8 by_.toNat, x, .int .u16 cut]], some [hc root], some [hc d], some [z1b true [107] K]] rfl
  repeat' (first|refine zW.zs ?_|refine zW.zb ?_|refine zW.zc ?_|refine zW.zt rfl ?_|refine zW.zf rfl ?_|(refine zW.zd rfl (fun ht => ?_) (fun ht => ?_)<;>try (exfalso;omega))|((first|refine zW.zr ?_|refine zW.zk ?_|refine zW.ze ?_|refine zW.zq ?_|(apply callW.mk_pu; (first | exact (fun _ => hN _) | exact (fun _ => hSg1))) | (apply callW.za; (first | exact (hN _) | exact (hSg1))) | ((first|apply zg0|apply zg1|apply zg2|apply zg3|apply zg4|apply zg5|apply zg6|apply zg7)<;>intro ht));all_goals try simp (disch:=first|omega|(simp only [lens,z7,z6,List.length_reverse,List.length_map,List.length_take,List.length_drop];first|done|omega)) only [go_sem,reduceEqDiff,Nat.reduceBEq,reduceAdd,reduceMul,reduceSub,reduceLeDiff,reduceToNat,reducePow, xc, r1, h40, ha7, hsl]))
  refine zW.loop (fun m O Y' => ∃ k : Nat, m + k = 7 /\ Ext [some [[.int .i64 fi, .int .u16 at_, .int .u8 by_.toNat, x, .int .u16 cut]], some [hc root], some [hc d], some [z1b true [107] K], some [[.int .i64 i, .str SG, .vsl 32 (hr PH) false]]] Y' ∧
    O 3 = .ptr 0 0 0 /\ O 4 = .ptr 1 0 0 /\ O 5 = .ptr 2 0 0 /\ O 7 = .ptr 3 0 0 /\ O 8 = .ptr 4 0 0 /\ O 10 = .int .i64 k) 7 ?_ ?_
  · exact ⟨0, by omega, .refl _, by simp (disch:=first|omega|(simp only [lens,z7,z6,List.length_reverse,List.length_map,List.length_take,List.length_drop];first|done|omega)) only [go_sem,reduceEqDiff,Nat.reduceBEq,reduceAdd,reduceMul,reduceSub,reduceLeDiff,reduceToNat,reducePow], by simp (disch:=first|omega|(simp only [lens,z7,z6,List.length_reverse,List.length_map,List.length_take,List.length_drop];first|done|omega)) only [go_sem,reduceEqDiff,Nat.reduceBEq,reduceAdd,reduceMul,reduceSub,reduceLeDiff,reduceToNat,reducePow], by simp (disch:=first|omega|(simp only [lens,z7,z6,List.length_reverse,List.length_map,List.length_take,List.length_drop];first|done|omega)) only [go_sem,reduceEqDiff,Nat.reduceBEq,reduceAdd,reduceMul,reduceSub,reduceLeDiff,reduceToNat,reducePow], by simp (disch:=first|omega|(simp only [lens,z7,z6,List.length_reverse,List.length_map,List.length_take,List.length_drop];first|done|omega)) only [go_sem,reduceEqDiff,Nat.reduceBEq,reduceAdd,reduceMul,reduceSub,reduceLeDiff,reduceToNat,reducePow], by simp (disch:=first|omega|(simp only [lens,z7,z6,List.length_reverse,List.length_map,List.length_take,List.length_drop];first|done|omega)) only [go_sem,reduceEqDiff,Nat.reduceBEq,reduceAdd,reduceMul,reduceSub,reduceLeDiff,reduceToNat,reducePow], by simp (disch:=first|omega|(simp only [lens,z7,z6,List.length_reverse,List.length_map,List.length_take,List.length_drop];first|done|omega)) only [go_sem,reduceEqDiff,Nat.reduceBEq,reduceAdd,reduceMul,reduceSub,reduceLeDiff,reduceToNat,reducePow]; rfl⟩
  · rintro m O Y' ⟨k, hm, he, q3, q4, q5, q7, q8, q10⟩
    have c0 : Y'[0]? = some (some [[.int .i64 fi, .int .u16 at_, .int .u8 by_.toNat, x, .int .u16 cut]]) := by obtain ⟨y, rfl⟩ := he; rfl
    have c1 : Y'[1]? = some (some [hc root]) := by obtain ⟨y, rfl⟩ := he; rfl
    have c2 : Y'[2]? = some (some [hc d]) := by obtain ⟨y, rfl⟩ := he; rfl
    have c3 : Y'[3]? = some (some [z1b true [107] K]) := by obtain ⟨y, rfl⟩ := he; rfl
    have c4 : Y'[4]? = some (some [[.int .i64 i, .str SG, .vsl 32 (hr PH) false]]) := by obtain ⟨y, rfl⟩ := he; rfl
    have dl : 5 <= Y'.length := he.le
    have hR1 := fun y => hR (Y' ++ y) (by rw [gapp (by omega)]; exact c3)
    by_cases hk : k < 7
    · obtain ⟨j, hj⟩ : ∃ j : Nat, at_ % 16384 = j := ⟨(at_ % 16384).toNat, by omega⟩
      obtain ⟨c, hc2⟩ : ∃ c : Nat, cut % 16385 = c := ⟨(cut % 16385).toNat, by omega⟩
      have hset : (z8 SG).set j [.int .u8 by_.toNat] = z8 (SG.set j by_) := by
        rw [ze6 ⟨by omega, by have := by_.toNat_lt; omega⟩]; simp
      have htk : (z8 (SG.set j by_)).take 16384 = z8 (SG.set j by_) := List.take_of_length_le (by rw [zg, List.length_set]; omega)
      have e4 : (hr (PH ++ [root])).length = 4 := by rw [z6, List.length_append, hpl]; rfl
      have ea : hr PH ++ [hc root] = hr (PH ++ [root]) := by rw [zbo]; rfl
      have hc3 : cut % (((16384 : Nat) : Int) + 1) = c := hc2
      have hj3 : at_ % ((16384 : Nat) : Int) = j := hj
      match k, hk, hm, q10 with
      | 0, _, hm, q10 =>
        repeat' (first|refine zW.zs ?_|refine zW.zb ?_|refine zW.zc ?_|refine zW.zt rfl ?_|refine zW.zf rfl ?_|(refine zW.zd rfl (fun ht => ?_) (fun ht => ?_)<;>try (exfalso;omega))|((first|refine zW.zr ?_|refine zW.zk ?_|refine zW.ze ?_|refine zW.zq ?_|(apply callW.mk_pu; (first | exact (fun _ => hR1 _))) | (apply callW.za; (first | exact (hR1 _))) | ((first|apply zg0|apply zg1|apply zg2|apply zg3|apply zg4|apply zg5|apply zg6|apply zg7)<;>intro ht));all_goals try simp (disch:=first|omega|(simp only [lens,z7,z6,List.length_reverse,List.length_map,List.length_take,List.length_drop];first|done|omega)) only [go_sem,reduceEqDiff,Nat.reduceBEq,reduceAdd,reduceMul,reduceSub,reduceLeDiff,reduceToNat,reducePow, q3, q4, q5, q7, q8, q10, c0, c1, c2, c3, c4, xc]))
        refine z6g (root := root) (d := d) (r := RT) (i := i) (sig := SG) (P := PH) (x := .vsl 32 (hr PH) false) (a := Y'.length) (b := Y'.length + 1) (by rw [gapp (by omega)]; exact c1) (by rw [gapp (by omega)]; exact c2) (by rw [z17 (by omega), Nat.sub_self]; rfl) (by rw [z17 (by omega), Nat.add_sub_cancel_left]; rfl) (.of (.inr ⟨false, rfl⟩)) (by first | omega | (simp; omega)) (by first | omega | (simp; omega)) (by omega) ?_ ?_ ?_ ?_ ?_
        · simp (disch:=first|omega|(simp only [lens,z7,z6,List.length_reverse,List.length_map,List.length_take,List.length_drop];first|done|omega)) only [go_sem,reduceEqDiff,Nat.reduceBEq,reduceAdd,reduceMul,reduceSub,reduceLeDiff,reduceToNat,reducePow, q4]
        · simp (disch:=first|omega|(simp only [lens,z7,z6,List.length_reverse,List.length_map,List.length_take,List.length_drop];first|done|omega)) only [go_sem,reduceEqDiff,Nat.reduceBEq,reduceAdd,reduceMul,reduceSub,reduceLeDiff,reduceToNat,reducePow, q5]
        · simp (disch:=first|omega|(simp only [lens,z7,z6,List.length_reverse,List.length_map,List.length_take,List.length_drop];first|done|omega)) only [go_sem,reduceEqDiff,Nat.reduceBEq,reduceAdd,reduceMul,reduceSub,reduceLeDiff,reduceToNat,reducePow]
        · simp (disch:=first|omega|(simp only [lens,z7,z6,List.length_reverse,List.length_map,List.length_take,List.length_drop];first|done|omega)) only [go_sem,reduceEqDiff,Nat.reduceBEq,reduceAdd,reduceMul,reduceSub,reduceLeDiff,reduceToNat,reducePow]
        intro O' p3 p4 p5 p7 p8 p10
        replace p3 : O' 3 = .ptr 0 0 0 := by rw [p3]; simp (disch:=first|omega|(simp only [lens,z7,z6,List.length_reverse,List.length_map,List.length_take,List.length_drop];first|done|omega)) only [go_sem,reduceEqDiff,Nat.reduceBEq,reduceAdd,reduceMul,reduceSub,reduceLeDiff,reduceToNat,reducePow, q3]
        replace p4 : O' 4 = .ptr 1 0 0 := by rw [p4]; simp (disch:=first|omega|(simp only [lens,z7,z6,List.length_reverse,List.length_map,List.length_take,List.length_drop];first|done|omega)) only [go_sem,reduceEqDiff,Nat.reduceBEq,reduceAdd,reduceMul,reduceSub,reduceLeDiff,reduceToNat,reducePow, q4]
        replace p5 : O' 5 = .ptr 2 0 0 := by rw [p5]; simp (disch:=first|omega|(simp only [lens,z7,z6,List.length_reverse,List.length_map,List.length_take,List.length_drop];first|done|omega)) only [go_sem,reduceEqDiff,Nat.reduceBEq,reduceAdd,reduceMul,reduceSub,reduceLeDiff,reduceToNat,reducePow, q5]
        replace p7 : O' 7 = .ptr 3 0 0 := by rw [p7]; simp (disch:=first|omega|(simp only [lens,z7,z6,List.length_reverse,List.length_map,List.length_take,List.length_drop];first|done|omega)) only [go_sem,reduceEqDiff,Nat.reduceBEq,reduceAdd,reduceMul,reduceSub,reduceLeDiff,reduceToNat,reducePow, q7]
        replace p8 : O' 8 = .ptr 4 0 0 := by rw [p8]; simp (disch:=first|omega|(simp only [lens,z7,z6,List.length_reverse,List.length_map,List.length_take,List.length_drop];first|done|omega)) only [go_sem,reduceEqDiff,Nat.reduceBEq,reduceAdd,reduceMul,reduceSub,reduceLeDiff,reduceToNat,reducePow, q8]
        replace p10 : O' 10 = .int .i64 (0 : Nat) := by rw [p10]; simp (disch:=first|omega|(simp only [lens,z7,z6,List.length_reverse,List.length_map,List.length_take,List.length_drop];first|done|omega)) only [go_sem,reduceEqDiff,Nat.reduceBEq,reduceAdd,reduceMul,reduceSub,reduceLeDiff,reduceToNat,reducePow, q10]
        simp (disch:=first|omega|(simp only [lens,z7,z6,List.length_reverse,List.length_map,List.length_take,List.length_drop];first|done|omega)) only [go_sem,reduceEqDiff,Nat.reduceBEq,reduceAdd,reduceMul,reduceSub,reduceLeDiff,reduceToNat,reducePow]
        repeat' (first|refine zW.zs ?_|refine zW.zb ?_|refine zW.zc ?_|refine zW.zt rfl ?_|refine zW.zf rfl ?_|(refine zW.zd rfl (fun ht => ?_) (fun ht => ?_)<;>try (exfalso;omega))|((first|refine zW.zr ?_|refine zW.zk ?_|refine zW.ze ?_|refine zW.zq ?_|((first|apply zg0|apply zg1|apply zg2|apply zg3|apply zg4|apply zg5|apply zg6|apply zg7)<;>intro ht));all_goals try simp (disch:=first|omega|(simp only [lens,z7,z6,List.length_reverse,List.length_map,List.length_take,List.length_drop];first|done|omega)) only [go_sem,reduceEqDiff,Nat.reduceBEq,reduceAdd,reduceMul,reduceSub,reduceLeDiff,reduceToNat,reducePow, p3, p4, p5, p7, p8, p10]))
        exact ⟨m - 1, by omega, 1, by omega, he.app, rfl⟩
      | 1, _, hm, q10 =>
        repeat' (first|refine zW.zs ?_|refine zW.zb ?_|refine zW.zc ?_|refine zW.zt rfl ?_|refine zW.zf rfl ?_|(refine zW.zd rfl (fun ht => ?_) (fun ht => ?_)<;>try (exfalso;omega))|((first|refine zW.zr ?_|refine zW.zk ?_|refine zW.ze ?_|refine zW.zq ?_|(apply callW.mk_pu; (first | exact (fun _ => hR1 _))) | (apply callW.za; (first | exact (hR1 _))) | ((first|apply zg0|apply zg1|apply zg2|apply zg3|apply zg4|apply zg5|apply zg6|apply zg7)<;>intro ht));all_goals try simp (disch:=first|omega|(simp only [lens,z7,z6,List.length_reverse,List.length_map,List.length_take,List.length_drop];first|done|omega)) only [go_sem,reduceEqDiff,Nat.reduceBEq,reduceAdd,reduceMul,reduceSub,reduceLeDiff,reduceToNat,reducePow, q3, q4, q5, q7, q8, q10, c0, c1, c2, c3, c4, xc]))
        refine z6g (root := root) (d := d) (r := RT) (i := fi) (sig := SG) (P := PH) (x := .vsl 32 (hr PH) false) (a := Y'.length) (b := Y'.length + 1) (by rw [gapp (by omega)]; exact c1) (by rw [gapp (by omega)]; exact c2) (by rw [z17 (by omega), Nat.sub_self]; rfl) (by rw [z17 (by omega), Nat.add_sub_cancel_left]; rfl) (.of (.inr ⟨false, rfl⟩)) (by first | omega | (simp; omega)) (by first | omega | (simp; omega)) (by omega) ?_ ?_ ?_ ?_ ?_
        · simp (disch:=first|omega|(simp only [lens,z7,z6,List.length_reverse,List.length_map,List.length_take,List.length_drop];first|done|omega)) only [go_sem,reduceEqDiff,Nat.reduceBEq,reduceAdd,reduceMul,reduceSub,reduceLeDiff,reduceToNat,reducePow, q4]
        · simp (disch:=first|omega|(simp only [lens,z7,z6,List.length_reverse,List.length_map,List.length_take,List.length_drop];first|done|omega)) only [go_sem,reduceEqDiff,Nat.reduceBEq,reduceAdd,reduceMul,reduceSub,reduceLeDiff,reduceToNat,reducePow, q5]
        · simp (disch:=first|omega|(simp only [lens,z7,z6,List.length_reverse,List.length_map,List.length_take,List.length_drop];first|done|omega)) only [go_sem,reduceEqDiff,Nat.reduceBEq,reduceAdd,reduceMul,reduceSub,reduceLeDiff,reduceToNat,reducePow]
        · simp (disch:=first|omega|(simp only [lens,z7,z6,List.length_reverse,List.length_map,List.length_take,List.length_drop];first|done|omega)) only [go_sem,reduceEqDiff,Nat.reduceBEq,reduceAdd,reduceMul,reduceSub,reduceLeDiff,reduceToNat,reducePow]
        intro O' p3 p4 p5 p7 p8 p10
        replace p3 : O' 3 = .ptr 0 0 0 := by rw [p3]; simp (disch:=first|omega|(simp only [lens,z7,z6,List.length_reverse,List.length_map,List.length_take,List.length_drop];first|done|omega)) only [go_sem,reduceEqDiff,Nat.reduceBEq,reduceAdd,reduceMul,reduceSub,reduceLeDiff,reduceToNat,reducePow, q3]
        replace p4 : O' 4 = .ptr 1 0 0 := by rw [p4]; simp (disch:=first|omega|(simp only [lens,z7,z6,List.length_reverse,List.length_map,List.length_take,List.length_drop];first|done|omega)) only [go_sem,reduceEqDiff,Nat.reduceBEq,reduceAdd,reduceMul,reduceSub,reduceLeDiff,reduceToNat,reducePow, q4]
        replace p5 : O' 5 = .ptr 2 0 0 := by rw [p5]; simp (disch:=first|omega|(simp only [lens,z7,z6,List.length_reverse,List.length_map,List.length_take,List.length_drop];first|done|omega)) only [go_sem,reduceEqDiff,Nat.reduceBEq,reduceAdd,reduceMul,reduceSub,reduceLeDiff,reduceToNat,reducePow, q5]
        replace p7 : O' 7 = .ptr 3 0 0 := by rw [p7]; simp (disch:=first|omega|(simp only [lens,z7,z6,List.length_reverse,List.length_map,List.length_take,List.length_drop];first|done|omega)) only [go_sem,reduceEqDiff,Nat.reduceBEq,reduceAdd,reduceMul,reduceSub,reduceLeDiff,reduceToNat,reducePow, q7]
        replace p8 : O' 8 = .ptr 4 0 0 := by rw [p8]; simp (disch:=first|omega|(simp only [lens,z7,z6,List.length_reverse,List.length_map,List.length_take,List.length_drop];first|done|omega)) only [go_sem,reduceEqDiff,Nat.reduceBEq,reduceAdd,reduceMul,reduceSub,reduceLeDiff,reduceToNat,reducePow, q8]
        replace p10 : O' 10 = .int .i64 (1 : Nat) := by rw [p10]; simp (disch:=first|omega|(simp only [lens,z7,z6,List.length_reverse,List.length_map,List.length_take,List.length_drop];first|done|omega)) only [go_sem,reduceEqDiff,Nat.reduceBEq,reduceAdd,reduceMul,reduceSub,reduceLeDiff,reduceToNat,reducePow, q10]
        simp (disch:=first|omega|(simp only [lens,z7,z6,List.length_reverse,List.length_map,List.length_take,List.length_drop];first|done|omega)) only [go_sem,reduceEqDiff,Nat.reduceBEq,reduceAdd,reduceMul,reduceSub,reduceLeDiff,reduceToNat,reducePow]
        repeat' (first|refine zW.zs ?_|refine zW.zb ?_|refine zW.zc ?_|refine zW.zt rfl ?_|refine zW.zf rfl ?_|(refine zW.zd rfl (fun ht => ?_) (fun ht => ?_)<;>try (exfalso;omega))|((first|refine zW.zr ?_|refine zW.zk ?_|refine zW.ze ?_|refine zW.zq ?_|((first|apply zg0|apply zg1|apply zg2|apply zg3|apply zg4|apply zg5|apply zg6|apply zg7)<;>intro ht));all_goals try simp (disch:=first|omega|(simp only [lens,z7,z6,List.length_reverse,List.length_map,List.length_take,List.length_drop];first|done|omega)) only [go_sem,reduceEqDiff,Nat.reduceBEq,reduceAdd,reduceMul,reduceSub,reduceLeDiff,reduceToNat,reducePow, p3, p4, p5, p7, p8, p10]))
        exact ⟨m - 1, by omega, 2, by omega, he.app, rfl⟩
      | 2, _, hm, q10 =>
        repeat' (first|refine zW.zs ?_|refine zW.zb ?_|refine zW.zc ?_|refine zW.zt rfl ?_|refine zW.zf rfl ?_|(refine zW.zd rfl (fun ht => ?_) (fun ht => ?_)<;>try (exfalso;omega))|((first|refine zW.zr ?_|refine zW.zk ?_|refine zW.ze ?_|refine zW.zq ?_|(apply callW.mk_pu; (first | exact (fun _ => hR1 _))) | (apply callW.za; (first | exact (hR1 _))) | ((first|apply zg0|apply zg1|apply zg2|apply zg3|apply zg4|apply zg5|apply zg6|apply zg7)<;>intro ht));all_goals try simp (disch:=first|omega|(simp only [lens,z7,z6,List.length_reverse,List.length_map,List.length_take,List.length_drop];first|done|omega)) only [go_sem,reduceEqDiff,Nat.reduceBEq,reduceAdd,reduceMul,reduceSub,reduceLeDiff,reduceToNat,reducePow, q3, q4, q5, q7, q8, q10, c0, c1, c2, c3, c4, xc, hj3, hsl, zg, Int.toNat_natCast, hset, htk]))
        refine z6g (root := root) (d := d) (r := RT) (i := i) (sig := (SG.set j by_)) (P := PH) (x := .vsl 32 (hr PH) false) (a := Y'.length) (b := Y'.length + 1) (by rw [gapp (by omega)]; exact c1) (by rw [gapp (by omega)]; exact c2) (by rw [z17 (by omega), Nat.sub_self]; rfl) (by rw [z17 (by omega), Nat.add_sub_cancel_left]; rfl) (.of (.inr ⟨false, rfl⟩)) (by first | omega | (simp; omega)) (by first | omega | (simp; omega)) (by omega) ?_ ?_ ?_ ?_ ?_
        · simp (disch:=first|omega|(simp only [lens,z7,z6,List.length_reverse,List.length_map,List.length_take,List.length_drop];first|done|omega)) only [go_sem,reduceEqDiff,Nat.reduceBEq,reduceAdd,reduceMul,reduceSub,reduceLeDiff,reduceToNat,reducePow, q4]
        · simp (disch:=first|omega|(simp only [lens,z7,z6,List.length_reverse,List.length_map,List.length_take,List.length_drop];first|done|omega)) only [go_sem,reduceEqDiff,Nat.reduceBEq,reduceAdd,reduceMul,reduceSub,reduceLeDiff,reduceToNat,reducePow, q5]
        · simp (disch:=first|omega|(simp only [lens,z7,z6,List.length_reverse,List.length_map,List.length_take,List.length_drop];first|done|omega)) only [go_sem,reduceEqDiff,Nat.reduceBEq,reduceAdd,reduceMul,reduceSub,reduceLeDiff,reduceToNat,reducePow]
        · simp (disch:=first|omega|(simp only [lens,z7,z6,List.length_reverse,List.length_map,List.length_take,List.length_drop];first|done|omega)) only [go_sem,reduceEqDiff,Nat.reduceBEq,reduceAdd,reduceMul,reduceSub,reduceLeDiff,reduceToNat,reducePow]
        intro O' p3 p4 p5 p7 p8 p10
        replace p3 : O' 3 = .ptr 0 0 0 := by rw [p3]; simp (disch:=first|omega|(simp only [lens,z7,z6,List.length_reverse,List.length_map,List.length_take,List.length_drop];first|done|omega)) only [go_sem,reduceEqDiff,Nat.reduceBEq,reduceAdd,reduceMul,reduceSub,reduceLeDiff,reduceToNat,reducePow, q3]
        replace p4 : O' 4 = .ptr 1 0 0 := by rw [p4]; simp (disch:=first|omega|(simp only [lens,z7,z6,List.length_reverse,List.length_map,List.length_take,List.length_drop];first|done|omega)) only [go_sem,reduceEqDiff,Nat.reduceBEq,reduceAdd,reduceMul,reduceSub,reduceLeDiff,reduceToNat,reducePow, q4]
        replace p5 : O' 5 = .ptr 2 0 0 := by rw [p5]; simp (disch:=first|omega|(simp only [lens,z7,z6,List.length_reverse,List.length_map,List.length_take,List.length_drop];first|done|omega)) only [go_sem,reduceEqDiff,Nat.reduceBEq,reduceAdd,reduceMul,reduceSub,reduceLeDiff,reduceToNat,reducePow, q5]
        replace p7 : O' 7 = .ptr 3 0 0 := by rw [p7]; simp (disch:=first|omega|(simp only [lens,z7,z6,List.length_reverse,List.length_map,List.length_take,List.length_drop];first|done|omega)) only [go_sem,reduceEqDiff,Nat.reduceBEq,reduceAdd,reduceMul,reduceSub,reduceLeDiff,reduceToNat,reducePow, q7]
        replace p8 : O' 8 = .ptr 4 0 0 := by rw [p8]; simp (disch:=first|omega|(simp only [lens,z7,z6,List.length_reverse,List.length_map,List.length_take,List.length_drop];first|done|omega)) only [go_sem,reduceEqDiff,Nat.reduceBEq,reduceAdd,reduceMul,reduceSub,reduceLeDiff,reduceToNat,reducePow, q8]
        replace p10 : O' 10 = .int .i64 (2 : Nat) := by rw [p10]; simp (disch:=first|omega|(simp only [lens,z7,z6,List.length_reverse,List.length_map,List.length_take,List.length_drop];first|done|omega)) only [go_sem,reduceEqDiff,Nat.reduceBEq,reduceAdd,reduceMul,reduceSub,reduceLeDiff,reduceToNat,reducePow, q10]
        simp (disch:=first|omega|(simp only [lens,z7,z6,List.length_reverse,List.length_map,List.length_take,List.length_drop];first|done|omega)) only [go_sem,reduceEqDiff,Nat.reduceBEq,reduceAdd,reduceMul,reduceSub,reduceLeDiff,reduceToNat,reducePow]
        repeat' (first|refine zW.zs ?_|refine zW.zb ?_|refine zW.zc ?_|refine zW.zt rfl ?_|refine zW.zf rfl ?_|(refine zW.zd rfl (fun ht => ?_) (fun ht => ?_)<;>try (exfalso;omega))|((first|refine zW.zr ?_|refine zW.zk ?_|refine zW.ze ?_|refine zW.zq ?_|((first|apply zg0|apply zg1|apply zg2|apply zg3|apply zg4|apply zg5|apply zg6|apply zg7)<;>intro ht));all_goals try simp (disch:=first|omega|(simp only [lens,z7,z6,List.length_reverse,List.length_map,List.length_take,List.length_drop];first|done|omega)) only [go_sem,reduceEqDiff,Nat.reduceBEq,reduceAdd,reduceMul,reduceSub,reduceLeDiff,reduceToNat,reducePow, p3, p4, p5, p7, p8, p10]))
        exact ⟨m - 1, by omega, 3, by omega, he.app, rfl⟩
      | 3, _, hm, q10 =>
        repeat' (first|refine zW.zs ?_|refine zW.zb ?_|refine zW.zc ?_|refine zW.zt rfl ?_|refine zW.zf rfl ?_|(refine zW.zd rfl (fun ht => ?_) (fun ht => ?_)<;>try (exfalso;omega))|((first|refine zW.zr ?_|refine zW.zk ?_|refine zW.ze ?_|refine zW.zq ?_|(apply callW.mk_pu; (first | exact (fun _ => hR1 _))) | (apply callW.za; (first | exact (hR1 _))) | ((first|apply zg0|apply zg1|apply zg2|apply zg3|apply zg4|apply zg5|apply zg6|apply zg7)<;>intro ht));all_goals try simp (disch:=first|omega|(simp only [lens,z7,z6,List.length_reverse,List.length_map,List.length_take,List.length_drop];first|done|omega)) only [go_sem,reduceEqDiff,Nat.reduceBEq,reduceAdd,reduceMul,reduceSub,reduceLeDiff,reduceToNat,reducePow, q3, q4, q5, q7, q8, q10, c0, c1, c2, c3, c4, xc]))
        refine z6g (root := root) (d := d) (r := RT) (i := i) (sig := SG) (P := P) (x := x) (a := Y'.length) (b := Y'.length + 1) (by rw [gapp (by omega)]; exact c1) (by rw [gapp (by omega)]; exact c2) (by rw [z17 (by omega), Nat.sub_self]; rfl) (by rw [z17 (by omega), Nat.add_sub_cancel_left]; rfl) (.of hx) (by first | omega | (simp; omega)) (by first | omega | (simp; omega)) (by omega) ?_ ?_ ?_ ?_ ?_
        · simp (disch:=first|omega|(simp only [lens,z7,z6,List.length_reverse,List.length_map,List.length_take,List.length_drop];first|done|omega)) only [go_sem,reduceEqDiff,Nat.reduceBEq,reduceAdd,reduceMul,reduceSub,reduceLeDiff,reduceToNat,reducePow, q4]
        · simp (disch:=first|omega|(simp only [lens,z7,z6,List.length_reverse,List.length_map,List.length_take,List.length_drop];first|done|omega)) only [go_sem,reduceEqDiff,Nat.reduceBEq,reduceAdd,reduceMul,reduceSub,reduceLeDiff,reduceToNat,reducePow, q5]
        · simp (disch:=first|omega|(simp only [lens,z7,z6,List.length_reverse,List.length_map,List.length_take,List.length_drop];first|done|omega)) only [go_sem,reduceEqDiff,Nat.reduceBEq,reduceAdd,reduceMul,reduceSub,reduceLeDiff,reduceToNat,reducePow]
        · simp (disch:=first|omega|(simp only [lens,z7,z6,List.length_reverse,List.length_map,List.length_take,List.length_drop];first|done|omega)) only [go_sem,reduceEqDiff,Nat.reduceBEq,reduceAdd,reduceMul,reduceSub,reduceLeDiff,reduceToNat,reducePow]
        intro O' p3 p4 p5 p7 p8 p10
        replace p3 : O' 3 = .ptr 0 0 0 := by rw [p3]; simp (disch:=first|omega|(simp only [lens,z7,z6,List.length_reverse,List.length_map,List.length_take,List.length_drop];first|done|omega)) only [go_sem,reduceEqDiff,Nat.reduceBEq,reduceAdd,reduceMul,reduceSub,reduceLeDiff,reduceToNat,reducePow, q3]
        replace p4 : O' 4 = .ptr 1 0 0 := by rw [p4]; simp (disch:=first|omega|(simp only [lens,z7,z6,List.length_reverse,List.length_map,List.length_take,List.length_drop];first|done|omega)) only [go_sem,reduceEqDiff,Nat.reduceBEq,reduceAdd,reduceMul,reduceSub,reduceLeDiff,reduceToNat,reducePow, q4]
        replace p5 : O' 5 = .ptr 2 0 0 := by rw [p5]; simp (disch:=first|omega|(simp only [lens,z7,z6,List.length_reverse,List.length_map,List.length_take,List.length_drop];first|done|omega)) only [go_sem,reduceEqDiff,Nat.reduceBEq,reduceAdd,reduceMul,reduceSub,reduceLeDiff,reduceToNat,reducePow, q5]
        replace p7 : O' 7 = .ptr 3 0 0 := by rw [p7]; simp (disch:=first|omega|(simp only [lens,z7,z6,List.length_reverse,List.length_map,List.length_take,List.length_drop];first|done|omega)) only [go_sem,reduceEqDiff,Nat.reduceBEq,reduceAdd,reduceMul,reduceSub,reduceLeDiff,reduceToNat,reducePow, q7]
        replace p8 : O' 8 = .ptr 4 0 0 := by rw [p8]; simp (disch:=first|omega|(simp only [lens,z7,z6,List.length_reverse,List.length_map,List.length_take,List.length_drop];first|done|omega)) only [go_sem,reduceEqDiff,Nat.reduceBEq,reduceAdd,reduceMul,reduceSub,reduceLeDiff,reduceToNat,reducePow, q8]
        replace p10 : O' 10 = .int .i64 (3 : Nat) := by rw [p10]; simp (disch:=first|omega|(simp only [lens,z7,z6,List.length_reverse,List.length_map,List.length_take,List.length_drop];first|done|omega)) only [go_sem,reduceEqDiff,Nat.reduceBEq,reduceAdd,reduceMul,reduceSub,reduceLeDiff,reduceToNat,reducePow, q10]
        simp (disch:=first|omega|(simp only [lens,z7,z6,List.length_reverse,List.length_map,List.length_take,List.length_drop];first|done|omega)) only [go_sem,reduceEqDiff,Nat.reduceBEq,reduceAdd,reduceMul,reduceSub,reduceLeDiff,reduceToNat,reducePow]
        repeat' (first|refine zW.zs ?_|refine zW.zb ?_|refine zW.zc ?_|refine zW.zt rfl ?_|refine zW.zf rfl ?_|(refine zW.zd rfl (fun ht => ?_) (fun ht => ?_)<;>try (exfalso;omega))|((first|refine zW.zr ?_|refine zW.zk ?_|refine zW.ze ?_|refine zW.zq ?_|((first|apply zg0|apply zg1|apply zg2|apply zg3|apply zg4|apply zg5|apply zg6|apply zg7)<;>intro ht));all_goals try simp (disch:=first|omega|(simp only [lens,z7,z6,List.length_reverse,List.length_map,List.length_take,List.length_drop];first|done|omega)) only [go_sem,reduceEqDiff,Nat.reduceBEq,reduceAdd,reduceMul,reduceSub,reduceLeDiff,reduceToNat,reducePow, p3, p4, p5, p7, p8, p10]))
        exact ⟨m - 1, by omega, 4, by omega, he.app, rfl⟩
      | 4, _, hm, q10 =>
        repeat' (first|refine zW.zs ?_|refine zW.zb ?_|refine zW.zc ?_|refine zW.zt rfl ?_|refine zW.zf rfl ?_|(refine zW.zd rfl (fun ht => ?_) (fun ht => ?_)<;>try (exfalso;omega))|((first|refine zW.zr ?_|refine zW.zk ?_|refine zW.ze ?_|refine zW.zq ?_|(apply callW.mk_pu; (first | exact (fun _ => hR1 _))) | (apply callW.za; (first | exact (hR1 _))) | ((first|apply zg0|apply zg1|apply zg2|apply zg3|apply zg4|apply zg5|apply zg6|apply zg7)<;>intro ht));all_goals try simp (disch:=first|omega|(simp only [lens,z7,z6,List.length_reverse,List.length_map,List.length_take,List.length_drop];first|done|omega)) only [go_sem,reduceEqDiff,Nat.reduceBEq,reduceAdd,reduceMul,reduceSub,reduceLeDiff,reduceToNat,reducePow, q3, q4, q5, q7, q8, q10, c0, c1, c2, c3, c4, xc, hc3, hsl, Int.toNat_natCast]))
        refine z6g (root := root) (d := d) (r := RT) (i := i) (sig := (SG.take c)) (P := PH) (x := .vsl 32 (hr PH) false) (a := Y'.length) (b := Y'.length + 1) (by rw [gapp (by omega)]; exact c1) (by rw [gapp (by omega)]; exact c2) (by rw [z17 (by omega), Nat.sub_self]; rfl) (by rw [z17 (by omega), Nat.add_sub_cancel_left]; rfl) (.of (.inr ⟨false, rfl⟩)) (by first | omega | (simp; omega)) (by first | omega | (simp; omega)) (by omega) ?_ ?_ ?_ ?_ ?_
        · simp (disch:=first|omega|(simp only [lens,z7,z6,List.length_reverse,List.length_map,List.length_take,List.length_drop];first|done|omega)) only [go_sem,reduceEqDiff,Nat.reduceBEq,reduceAdd,reduceMul,reduceSub,reduceLeDiff,reduceToNat,reducePow, q4]
        · simp (disch:=first|omega|(simp only [lens,z7,z6,List.length_reverse,List.length_map,List.length_take,List.length_drop];first|done|omega)) only [go_sem,reduceEqDiff,Nat.reduceBEq,reduceAdd,reduceMul,reduceSub,reduceLeDiff,reduceToNat,reducePow, q5]
        · simp (disch:=first|omega|(simp only [lens,z7,z6,List.length_reverse,List.length_map,List.length_take,List.length_drop];first|done|omega)) only [go_sem,reduceEqDiff,Nat.reduceBEq,reduceAdd,reduceMul,reduceSub,reduceLeDiff,reduceToNat,reducePow]
        · simp (disch:=first|omega|(simp only [lens,z7,z6,List.length_reverse,List.length_map,List.length_take,List.length_drop];first|done|omega)) only [go_sem,reduceEqDiff,Nat.reduceBEq,reduceAdd,reduceMul,reduceSub,reduceLeDiff,reduceToNat,reducePow]
        intro O' p3 p4 p5 p7 p8 p10
        replace p3 : O' 3 = .ptr 0 0 0 := by rw [p3]; simp (disch:=first|omega|(simp only [lens,z7,z6,List.length_reverse,List.length_map,List.length_take,List.length_drop];first|done|omega)) only [go_sem,reduceEqDiff,Nat.reduceBEq,reduceAdd,reduceMul,reduceSub,reduceLeDiff,reduceToNat,reducePow, q3]
        replace p4 : O' 4 = .ptr 1 0 0 := by rw [p4]; simp (disch:=first|omega|(simp only [lens,z7,z6,List.length_reverse,List.length_map,List.length_take,List.length_drop];first|done|omega)) only [go_sem,reduceEqDiff,Nat.reduceBEq,reduceAdd,reduceMul,reduceSub,reduceLeDiff,reduceToNat,reducePow, q4]
        replace p5 : O' 5 = .ptr 2 0 0 := by rw [p5]; simp (disch:=first|omega|(simp only [lens,z7,z6,List.length_reverse,List.length_map,List.length_take,List.length_drop];first|done|omega)) only [go_sem,reduceEqDiff,Nat.reduceBEq,reduceAdd,reduceMul,reduceSub,reduceLeDiff,reduceToNat,reducePow, q5]
        replace p7 : O' 7 = .ptr 3 0 0 := by rw [p7]; simp (disch:=first|omega|(simp only [lens,z7,z6,List.length_reverse,List.length_map,List.length_take,List.length_drop];first|done|omega)) only [go_sem,reduceEqDiff,Nat.reduceBEq,reduceAdd,reduceMul,reduceSub,reduceLeDiff,reduceToNat,reducePow, q7]
        replace p8 : O' 8 = .ptr 4 0 0 := by rw [p8]; simp (disch:=first|omega|(simp only [lens,z7,z6,List.length_reverse,List.length_map,List.length_take,List.length_drop];first|done|omega)) only [go_sem,reduceEqDiff,Nat.reduceBEq,reduceAdd,reduceMul,reduceSub,reduceLeDiff,reduceToNat,reducePow, q8]
        replace p10 : O' 10 = .int .i64 (4 : Nat) := by rw [p10]; simp (disch:=first|omega|(simp only [lens,z7,z6,List.length_reverse,List.length_map,List.length_take,List.length_drop];first|done|omega)) only [go_sem,reduceEqDiff,Nat.reduceBEq,reduceAdd,reduceMul,reduceSub,reduceLeDiff,reduceToNat,reducePow, q10]
        simp (disch:=first|omega|(simp only [lens,z7,z6,List.length_reverse,List.length_map,List.length_take,List.length_drop];first|done|omega)) only [go_sem,reduceEqDiff,Nat.reduceBEq,reduceAdd,reduceMul,reduceSub,reduceLeDiff,reduceToNat,reducePow]
        repeat' (first|refine zW.zs ?_|refine zW.zb ?_|refine zW.zc ?_|refine zW.zt rfl ?_|refine zW.zf rfl ?_|(refine zW.zd rfl (fun ht => ?_) (fun ht => ?_)<;>try (exfalso;omega))|((first|refine zW.zr ?_|refine zW.zk ?_|refine zW.ze ?_|refine zW.zq ?_|((first|apply zg0|apply zg1|apply zg2|apply zg3|apply zg4|apply zg5|apply zg6|apply zg7)<;>intro ht));all_goals try simp (disch:=first|omega|(simp only [lens,z7,z6,List.length_reverse,List.length_map,List.length_take,List.length_drop];first|done|omega)) only [go_sem,reduceEqDiff,Nat.reduceBEq,reduceAdd,reduceMul,reduceSub,reduceLeDiff,reduceToNat,reducePow, p3, p4, p5, p7, p8, p10]))
        exact ⟨m - 1, by omega, 5, by omega, he.app, rfl⟩
      | 5, _, hm, q10 =>
        repeat' (first|refine zW.zs ?_|refine zW.zb ?_|refine zW.zc ?_|refine zW.zt rfl ?_|refine zW.zf rfl ?_|(refine zW.zd rfl (fun ht => ?_) (fun ht => ?_)<;>try (exfalso;omega))|((first|refine zW.zr ?_|refine zW.zk ?_|refine zW.ze ?_|refine zW.zq ?_|(apply callW.mk_pu; (first | exact (fun _ => hR1 _))) | (apply callW.za; (first | exact (hR1 _))) | ((first|apply zg0|apply zg1|apply zg2|apply zg3|apply zg4|apply zg5|apply zg6|apply zg7)<;>intro ht));all_goals try simp (disch:=first|omega|(simp only [lens,z7,z6,List.length_reverse,List.length_map,List.length_take,List.length_drop];first|done|omega)) only [go_sem,reduceEqDiff,Nat.reduceBEq,reduceAdd,reduceMul,reduceSub,reduceLeDiff,reduceToNat,reducePow, q3, q4, q5, q7, q8, q10, c0, c1, c2, c3, c4, xc]))
        refine z6g (root := root) (d := d) (r := root) (i := i) (sig := SG) (P := PH) (x := .vsl 32 (hr PH) false) (a := Y'.length) (b := Y'.length + 1) (by rw [gapp (by omega)]; exact c1) (by rw [gapp (by omega)]; exact c2) (by rw [z17 (by omega), Nat.sub_self]; rfl) (by rw [z17 (by omega), Nat.add_sub_cancel_left]; rfl) (.of (.inr ⟨false, rfl⟩)) (by first | omega | (simp; omega)) (by first | omega | (simp; omega)) (by omega) ?_ ?_ ?_ ?_ ?_
        · simp (disch:=first|omega|(simp only [lens,z7,z6,List.length_reverse,List.length_map,List.length_take,List.length_drop];first|done|omega)) only [go_sem,reduceEqDiff,Nat.reduceBEq,reduceAdd,reduceMul,reduceSub,reduceLeDiff,reduceToNat,reducePow, q4]
        · simp (disch:=first|omega|(simp only [lens,z7,z6,List.length_reverse,List.length_map,List.length_take,List.length_drop];first|done|omega)) only [go_sem,reduceEqDiff,Nat.reduceBEq,reduceAdd,reduceMul,reduceSub,reduceLeDiff,reduceToNat,reducePow, q5]
        · simp (disch:=first|omega|(simp only [lens,z7,z6,List.length_reverse,List.length_map,List.length_take,List.length_drop];first|done|omega)) only [go_sem,reduceEqDiff,Nat.reduceBEq,reduceAdd,reduceMul,reduceSub,reduceLeDiff,reduceToNat,reducePow]
        · simp (disch:=first|omega|(simp only [lens,z7,z6,List.length_reverse,List.length_map,List.length_take,List.length_drop];first|done|omega)) only [go_sem,reduceEqDiff,Nat.reduceBEq,reduceAdd,reduceMul,reduceSub,reduceLeDiff,reduceToNat,reducePow]
        intro O' p3 p4 p5 p7 p8 p10
        replace p3 : O' 3 = .ptr 0 0 0 := by rw [p3]; simp (disch:=first|omega|(simp only [lens,z7,z6,List.length_reverse,List.length_map,List.length_take,List.length_drop];first|done|omega)) only [go_sem,reduceEqDiff,Nat.reduceBEq,reduceAdd,reduceMul,reduceSub,reduceLeDiff,reduceToNat,reducePow, q3]
        replace p4 : O' 4 = .ptr 1 0 0 := by rw [p4]; simp (disch:=first|omega|(simp only [lens,z7,z6,List.length_reverse,List.length_map,List.length_take,List.length_drop];first|done|omega)) only [go_sem,reduceEqDiff,Nat.reduceBEq,reduceAdd,reduceMul,reduceSub,reduceLeDiff,reduceToNat,reducePow, q4]
        replace p5 : O' 5 = .ptr 2 0 0 := by rw [p5]; simp (disch:=first|omega|(simp only [lens,z7,z6,List.length_reverse,List.length_map,List.length_take,List.length_drop];first|done|omega)) only [go_sem,reduceEqDiff,Nat.reduceBEq,reduceAdd,reduceMul,reduceSub,reduceLeDiff,reduceToNat,reducePow, q5]
        replace p7 : O' 7 = .ptr 3 0 0 := by rw [p7]; simp (disch:=first|omega|(simp only [lens,z7,z6,List.length_reverse,List.length_map,List.length_take,List.length_drop];first|done|omega)) only [go_sem,reduceEqDiff,Nat.reduceBEq,reduceAdd,reduceMul,reduceSub,reduceLeDiff,reduceToNat,reducePow, q7]
        replace p8 : O' 8 = .ptr 4 0 0 := by rw [p8]; simp (disch:=first|omega|(simp only [lens,z7,z6,List.length_reverse,List.length_map,List.length_take,List.length_drop];first|done|omega)) only [go_sem,reduceEqDiff,Nat.reduceBEq,reduceAdd,reduceMul,reduceSub,reduceLeDiff,reduceToNat,reducePow, q8]
        replace p10 : O' 10 = .int .i64 (5 : Nat) := by rw [p10]; simp (disch:=first|omega|(simp only [lens,z7,z6,List.length_reverse,List.length_map,List.length_take,List.length_drop];first|done|omega)) only [go_sem,reduceEqDiff,Nat.reduceBEq,reduceAdd,reduceMul,reduceSub,reduceLeDiff,reduceToNat,reducePow, q10]
        simp (disch:=first|omega|(simp only [lens,z7,z6,List.length_reverse,List.length_map,List.length_take,List.length_drop];first|done|omega)) only [go_sem,reduceEqDiff,Nat.reduceBEq,reduceAdd,reduceMul,reduceSub,reduceLeDiff,reduceToNat,reducePow]
        repeat' (first|refine zW.zs ?_|refine zW.zb ?_|refine zW.zc ?_|refine zW.zt rfl ?_|refine zW.zf rfl ?_|(refine zW.zd rfl (fun ht => ?_) (fun ht => ?_)<;>try (exfalso;omega))|((first|refine zW.zr ?_|refine zW.zk ?_|refine zW.ze ?_|refine zW.zq ?_|((first|apply zg0|apply zg1|apply zg2|apply zg3|apply zg4|apply zg5|apply zg6|apply zg7)<;>intro ht));all_goals try simp (disch:=first|omega|(simp only [lens,z7,z6,List.length_reverse,List.length_map,List.length_take,List.length_drop];first|done|omega)) only [go_sem,reduceEqDiff,Nat.reduceBEq,reduceAdd,reduceMul,reduceSub,reduceLeDiff,reduceToNat,reducePow, p3, p4, p5, p7, p8, p10]))
        exact ⟨m - 1, by omega, 6, by omega, he.app, rfl⟩
      | 6, _, hm, q10 =>
        repeat' (first|refine zW.zs ?_|refine zW.zb ?_|refine zW.zc ?_|refine zW.zt rfl ?_|refine zW.zf rfl ?_|(refine zW.zd rfl (fun ht => ?_) (fun ht => ?_)<;>try (exfalso;omega))|((first|refine zW.zr ?_|refine zW.zk ?_|refine zW.ze ?_|refine zW.zq ?_|(apply callW.mk_pu; (first | exact (fun _ => hR1 _))) | (apply callW.za; (first | exact (hR1 _))) | ((first|apply zg0|apply zg1|apply zg2|apply zg3|apply zg4|apply zg5|apply zg6|apply zg7)<;>intro ht));all_goals try simp (disch:=first|omega|(simp only [lens,z7,z6,List.length_reverse,List.length_map,List.length_take,List.length_drop];first|done|omega)) only [go_sem,reduceEqDiff,Nat.reduceBEq,reduceAdd,reduceMul,reduceSub,reduceLeDiff,reduceToNat,reducePow, q3, q4, q5, q7, q8, q10, c0, c1, c2, c3, c4, xc, hpl, ea]))
        refine z6g (root := root) (d := d) (r := RT) (i := i) (sig := SG) (P := (PH ++ [root])) (x := (.sl (Y'.length + 3) 0 4 none 32)) (a := Y'.length) (b := Y'.length + 1) (by rw [gapp (by omega)]; exact c1) (by rw [gapp (by omega)]; exact c2) (by rw [z17 (by omega), Nat.sub_self]; rfl) (by rw [z17 (by omega), Nat.add_sub_cancel_left]; rfl) (by rw [show AV.sl (Y'.length + 3) 0 4 none 32 = AV.sl (Y'.length + 3) 0 (hr (PH ++ [root])).length none 32 by rw [e4]]; exact .inr ⟨Y'.length + 3, 0, none, hr (PH ++ [root]), rfl, by rw [z17 (by omega), Nat.add_sub_cancel_left]; rfl, by omega, by simp⟩) (by first | omega | (simp; omega)) (by first | omega | (simp; omega)) (by omega) ?_ ?_ ?_ ?_ ?_
        · simp (disch:=first|omega|(simp only [lens,z7,z6,List.length_reverse,List.length_map,List.length_take,List.length_drop];first|done|omega)) only [go_sem,reduceEqDiff,Nat.reduceBEq,reduceAdd,reduceMul,reduceSub,reduceLeDiff,reduceToNat,reducePow, q4]
        · simp (disch:=first|omega|(simp only [lens,z7,z6,List.length_reverse,List.length_map,List.length_take,List.length_drop];first|done|omega)) only [go_sem,reduceEqDiff,Nat.reduceBEq,reduceAdd,reduceMul,reduceSub,reduceLeDiff,reduceToNat,reducePow, q5]
        · simp (disch:=first|omega|(simp only [lens,z7,z6,List.length_reverse,List.length_map,List.length_take,List.length_drop];first|done|omega)) only [go_sem,reduceEqDiff,Nat.reduceBEq,reduceAdd,reduceMul,reduceSub,reduceLeDiff,reduceToNat,reducePow]
        · simp (disch:=first|omega|(simp only [lens,z7,z6,List.length_reverse,List.length_map,List.length_take,List.length_drop];first|done|omega)) only [go_sem,reduceEqDiff,Nat.reduceBEq,reduceAdd,reduceMul,reduceSub,reduceLeDiff,reduceToNat,reducePow]
        intro O' p3 p4 p5 p7 p8 p10
        replace p3 : O' 3 = .ptr 0 0 0 := by rw [p3]; simp (disch:=first|omega|(simp only [lens,z7,z6,List.length_reverse,List.length_map,List.length_take,List.length_drop];first|done|omega)) only [go_sem,reduceEqDiff,Nat.reduceBEq,reduceAdd,reduceMul,reduceSub,reduceLeDiff,reduceToNat,reducePow, q3]
        replace p4 : O' 4 = .ptr 1 0 0 := by rw [p4]; simp (disch:=first|omega|(simp only [lens,z7,z6,List.length_reverse,List.length_map,List.length_take,List.length_drop];first|done|omega)) only [go_sem,reduceEqDiff,Nat.reduceBEq,reduceAdd,reduceMul,reduceSub,reduceLeDiff,reduceToNat,reducePow, q4]
        replace p5 : O' 5 = .ptr 2 0 0 := by rw [p5]; simp (disch:=first|omega|(simp only [lens,z7,z6,List.length_reverse,List.length_map,List.length_take,List.length_drop];first|done|omega)) only [go_sem,reduceEqDiff,Nat.reduceBEq,reduceAdd,reduceMul,reduceSub,reduceLeDiff,reduceToNat,reducePow, q5]
        replace p7 : O' 7 = .ptr 3 0 0 := by rw [p7]; simp (disch:=first|omega|(simp only [lens,z7,z6,List.length_reverse,List.length_map,List.length_take,List.length_drop];first|done|omega)) only [go_sem,reduceEqDiff,Nat.reduceBEq,reduceAdd,reduceMul,reduceSub,reduceLeDiff,reduceToNat,reducePow, q7]
        replace p8 : O' 8 = .ptr 4 0 0 := by rw [p8]; simp (disch:=first|omega|(simp only [lens,z7,z6,List.length_reverse,List.length_map,List.length_take,List.length_drop];first|done|omega)) only [go_sem,reduceEqDiff,Nat.reduceBEq,reduceAdd,reduceMul,reduceSub,reduceLeDiff,reduceToNat,reducePow, q8]
        replace p10 : O' 10 = .int .i64 (6 : Nat) := by rw [p10]; simp (disch:=first|omega|(simp only [lens,z7,z6,List.length_reverse,List.length_map,List.length_take,List.length_drop];first|done|omega)) only [go_sem,reduceEqDiff,Nat.reduceBEq,reduceAdd,reduceMul,reduceSub,reduceLeDiff,reduceToNat,reducePow, q10]
        simp (disch:=first|omega|(simp only [lens,z7,z6,List.length_reverse,List.length_map,List.length_take,List.length_drop];first|done|omega)) only [go_sem,reduceEqDiff,Nat.reduceBEq,reduceAdd,reduceMul,reduceSub,reduceLeDiff,reduceToNat,reducePow]
        repeat' (first|refine zW.zs ?_|refine zW.zb ?_|refine zW.zc ?_|refine zW.zt rfl ?_|refine zW.zf rfl ?_|(refine zW.zd rfl (fun ht => ?_) (fun ht => ?_)<;>try (exfalso;omega))|((first|refine zW.zr ?_|refine zW.zk ?_|refine zW.ze ?_|refine zW.zq ?_|((first|apply zg0|apply zg1|apply zg2|apply zg3|apply zg4|apply zg5|apply zg6|apply zg7)<;>intro ht));all_goals try simp (disch:=first|omega|(simp only [lens,z7,z6,List.length_reverse,List.length_map,List.length_take,List.length_drop];first|done|omega)) only [go_sem,reduceEqDiff,Nat.reduceBEq,reduceAdd,reduceMul,reduceSub,reduceLeDiff,reduceToNat,reducePow, p3, p4, p5, p7, p8, p10]))
        exact ⟨m - 1, by omega, 7, by omega, he.app, rfl⟩
      | k + 7, h, _, _ => omega
    · obtain rfl : k = 7 := by omega
      repeat' (first|refine zW.zs ?_|refine zW.zb ?_|refine zW.zc ?_|refine zW.zt rfl ?_|refine zW.zf rfl ?_|(refine zW.zd rfl (fun ht => ?_) (fun ht => ?_)<;>try (exfalso;omega))|((first|refine zW.zr ?_|refine zW.zk ?_|refine zW.ze ?_|refine zW.zq ?_|(apply callW.mk_pu; (first | exact (fun _ => z5t _))) | (apply callW.za; (first | exact (z5t _))) | ((first|apply zg0|apply zg1|apply zg2|apply zg3|apply zg4|apply zg5|apply zg6|apply zg7)<;>intro ht));all_goals try simp (disch:=first|omega|(simp only [lens,z7,z6,List.length_reverse,List.length_map,List.length_take,List.length_drop];first|done|omega)) only [go_sem,reduceEqDiff,Nat.reduceBEq,reduceAdd,reduceMul,reduceSub,reduceLeDiff,reduceToNat,reducePow, q3, q10]))
      exact DownV.pure (Z := []) (news := Y') hw (z11 _ rfl)
def zbl : Ty := .row [.int .i64, .int .u16, .int .u8, .sl 32 z3m, .int .u16]
theorem zkd {a : AV} (h : Sh zbl a) : ∃ (i at_ cut : Int) (b : UInt8) (P : List Hash) (x : AV), a = .agg (fgC i at_ b.toNat x cut) /\ (-9223372036854775808 <= i /\ i <= 9223372036854775807) /\ (0 <= at_ /\ at_ <= 65535) /\ (0 <= cut /\ cut <= 65535) /\ SlV 32 (hr P) x /\ P.length <= maxLen := by
  simp only [zbl, Sh] at h
  obtain ⟨cs, rfl, h⟩ := h
  simp only [z35] at h
  obtain ⟨A, B, rfl, hA, C, D, rfl, hC, E, F, rfl, hE, G, K, rfl, hG, M, N, rfl, hM, rfl⟩ := h
  simp only [ShC] at hA hC hE hM
  obtain ⟨i, rfl, i1, i2⟩ := hA
  obtain ⟨a, rfl, a1, a2⟩ := hC
  obtain ⟨b, rfl, b1, b2⟩ := hE
  obtain ⟨c, rfl, c1, c2⟩ := hM
  obtain ⟨P, x, rfl, h3, h4⟩ := hslC_h hG
  simp only [IntKind.min, IntKind.max, IntKind.signed, IntKind.bits] at i1 i2 a1 a2 b1 b2 c1 c2
  simp at i1 i2 a1 a2 b1 b2 c1 c2
  refine ⟨i, a, c, UInt8.ofNat b.toNat, P, x, ?_, ⟨i1, i2⟩, ⟨a1, a2⟩, ⟨c1, c2⟩, h3, h4⟩
  have e : ((UInt8.ofNat b.toNat).toNat : Int) = b := by rw [UInt8.toNat_ofNat']; omega
  rw [fgC, e]
  rfl
theorem KeytreeVerify_law (avs : List AV) (h : z5j [zbl, z3m, z3m] avs) : ACallsTo TC 9 avs [] (.bool true) [] := by
  simp only [z5j] at h
  obtain ⟨_, _, rfl, h1, _, _, rfl, h2, _, _, rfl, h3, rfl⟩ := h
  obtain ⟨i, a, c, b, P, x, rfl, hi, ha, hc, hx, hl⟩ := zkd h1
  obtain ⟨root, rfl⟩ := zbn h2
  obtain ⟨d, rfl⟩ := zbn h3
  exact zi1 i a c b P x root d hx hi ha hc hl
end Am
end Go.Proofs.YtncenefkbpelbaaDoor
end
section
/- Keys: contracts: the reference's leaves, root, path and seals. -/
namespace Go.Proofs.YtncenefkbpelbaaDoor
namespace Am
theorem zlg (seed : List UInt8) : hr (keyL seed) ≠ [] := fun e => by have := congrArg List.length e; rw [z6, z2k] at this; simp at this
theorem zc9 : ∀ (m : Nat) (l : List Hash) (j : Nat), (z1a m l j).length <= m
  | 0, _, _ => Nat.le_refl 0
  | m + 1, l, j => by
    unfold z1a
    have h1 := zc9 m (l.take (zu l.length)) j
    have h2 := zc9 m (l.drop (zu l.length)) (j - zu l.length)
    split
    · simp
    · split <;> rw [List.length_cons] <;> omega
attribute [local irreducible] ACallsTo ACallsP pubH
set_option maxHeartbeats 8000000 in
theorem zom (Y : Store) (seed : List UInt8) (hs : seed.length < 1000000) : ACallsTo TC 48 [.str seed] Y (.vsl 32 (hr (keyL seed)) false) Y := by
  refine ACallsTo.of_body q1jok (by simp) fun hw _ => ?_
  repeat' (first|refine zW.zs ?_|refine zW.zb ?_|refine zW.zc ?_|refine zW.zt rfl ?_|refine zW.zf rfl ?_|(refine zW.zd rfl (fun ht => ?_) (fun ht => ?_)<;>try (exfalso;omega))|((first|refine zW.zr ?_|refine zW.zk ?_|refine zW.ze ?_|refine zW.zq ?_|((first|apply zg0|apply zg1|apply zg2|apply zg3|apply zg4|apply zg5|apply zg6|apply zg7)<;>intro ht));all_goals try simp (disch:=first|omega|(simp only [lens,z7,z6,List.length_reverse,List.length_map,List.length_take,List.length_drop];first|done|omega)) only [go_sem,reduceEqDiff,Nat.reduceBEq,reduceAdd,reduceMul,reduceSub,reduceLeDiff,reduceToNat,reducePow]))
  refine zW.loop (fun m O Y' => ∃ (i : Nat) (v : AV), m + i = 8 /\ OwnN 32 Y Y' v (hr ((keyL seed).take i)) /\ O 0 = .str seed /\ O 3 = v /\ O 4 = .int .i64 i) 8 ?_ ?_
  · exact ⟨0, .nilsl, by omega, ⟨[], by simp, .inl ⟨by simp [hr], rfl⟩⟩, by simp (disch:=first|omega|(simp only [lens,z7,z6,List.length_reverse,List.length_map,List.length_take,List.length_drop];first|done|omega)) only [go_sem,reduceEqDiff,Nat.reduceBEq,reduceAdd,reduceMul,reduceSub,reduceLeDiff,reduceToNat,reducePow], by simp (disch:=first|omega|(simp only [lens,z7,z6,List.length_reverse,List.length_map,List.length_take,List.length_drop];first|done|omega)) only [go_sem,reduceEqDiff,Nat.reduceBEq,reduceAdd,reduceMul,reduceSub,reduceLeDiff,reduceToNat,reducePow], by simp (disch:=first|omega|(simp only [lens,z7,z6,List.length_reverse,List.length_map,List.length_take,List.length_drop];first|done|omega)) only [go_sem,reduceEqDiff,Nat.reduceBEq,reduceAdd,reduceMul,reduceSub,reduceLeDiff,reduceToNat,reducePow]; rfl⟩
  · rintro m O Y' ⟨i, v, hm, hO, q0, q3, q4⟩
    by_cases hi : i < 8
    · have hi' : (i : Int) < 8 := by omega
      have hP := fun Y => zgg Y seed i hs (by omega)
      have hne : hr (pubH seed i) ≠ [] := fun e => by have := congrArg List.length e; rw [z6, z26] at this; simp at this
      unfold ownV ownS at hP
      simp only [if_neg hne, z6, z26] at hP
      have hL := zgf (Y' ++ [some (hr (pubH seed i))]) (pubH seed i) Y'.length none (by rw [z17 (by omega), Nat.sub_self]; rfl) (z26 seed i)
      have hst := zff seed i hi
      generalize hLF : z1f (pubH seed i) = X at *
      obtain ⟨v', Y2, ha, hO2⟩ := (hO.more [some (hr (pubH seed i))]).app (ys := [hc X]) (by simp) (by rw [z6, List.length_take]; simp; omega)
      have hcat : hr ((keyL seed).take i) ++ [hc X] = hr ((keyL seed).take (i + 1)) := by rw [hst, zbo]; rfl
      rw [hcat] at hO2
      generalize pubH seed i = PB at *
      repeat' (first|refine zW.zs ?_|refine zW.zb ?_|refine zW.zc ?_|refine zW.zt rfl ?_|refine zW.zf rfl ?_|(refine zW.zd rfl (fun ht => ?_) (fun ht => ?_)<;>try (exfalso;omega))|((first|refine zW.zr ?_|refine zW.zk ?_|refine zW.ze ?_|refine zW.zq ?_|(apply callW.mk_pu; (first | exact (fun _ => hP _) | exact (fun _ => hL))) | (apply callW.za; (first | exact (hP _) | exact (hL))) | ((first|apply zg0|apply zg1|apply zg2|apply zg3|apply zg4|apply zg5|apply zg6|apply zg7)<;>intro ht));all_goals try simp (disch:=first|omega|(simp only [lens,z7,z6,List.length_reverse,List.length_map,List.length_take,List.length_drop];first|done|omega)) only [go_sem,reduceEqDiff,Nat.reduceBEq,reduceAdd,reduceMul,reduceSub,reduceLeDiff,reduceToNat,reducePow, q0, q3, q4, hi', ha]))
      exact ⟨m - 1, by omega, i + 1, v', by omega, hO2, rfl, by simp⟩
    · obtain rfl : i = 8 := by omega
      have hi' : ¬ ((8 : Nat) : Int) < 8 := by omega
      rw [List.take_of_length_le (by rw [z2k]; omega)] at hO
      repeat' (first|refine zW.zs ?_|refine zW.zb ?_|refine zW.zc ?_|refine zW.zt rfl ?_|refine zW.zf rfl ?_|(refine zW.zd rfl (fun ht => ?_) (fun ht => ?_)<;>try (exfalso;omega))|((first|refine zW.zr ?_|refine zW.zk ?_|refine zW.ze ?_|refine zW.zq ?_|((first|apply zg0|apply zg1|apply zg2|apply zg3|apply zg4|apply zg5|apply zg6|apply zg7)<;>intro ht));all_goals try simp (disch:=first|omega|(simp only [lens,z7,z6,List.length_reverse,List.length_map,List.length_take,List.length_drop];first|done|omega)) only [go_sem,reduceEqDiff,Nat.reduceBEq,reduceAdd,reduceMul,reduceSub,reduceLeDiff,reduceToNat,reducePow, q0, q3, q4, hi']))
      have := hO.froze hw (z31 _)
      unfold z1c at this
      rwa [if_neg (zlg seed)] at this
theorem zor (Y : Store) (K : List Hash) (ex : Bool) (hK : K.length = 8) : ACallsTo TC 50 [.vsl 32 (hr K) ex] Y (.agg (hc (z1i K))) Y := by
  have hR := fun Y => zck Y K (.vsl 32 (hr K) ex) (.of (.inr ⟨ex, rfl⟩)) (by omega)
  refine ACallsTo.of_body q1lok (by simp) fun hw _ => ?_
  repeat' (first|refine zW.zs ?_|refine zW.zb ?_|refine zW.zc ?_|refine zW.zt rfl ?_|refine zW.zf rfl ?_|(refine zW.zd rfl (fun ht => ?_) (fun ht => ?_)<;>try (exfalso;omega))|((first|refine zW.zr ?_|refine zW.zk ?_|refine zW.ze ?_|refine zW.zq ?_|(apply callW.mk_pu; (first | exact (fun _ => hR _))) | (apply callW.za; (first | exact (hR _))) | ((first|apply zg0|apply zg1|apply zg2|apply zg3|apply zg4|apply zg5|apply zg6|apply zg7)<;>intro ht));all_goals try simp (disch:=first|omega|(simp only [lens,z7,z6,List.length_reverse,List.length_map,List.length_take,List.length_drop];first|done|omega)) only [go_sem,reduceEqDiff,Nat.reduceBEq,reduceAdd,reduceMul,reduceSub,reduceLeDiff,reduceToNat,reducePow]))
  exact DownV.pure hw (z30 _)
set_option maxHeartbeats 8000000 in
theorem zci : ∀ (m : Nat) (Y : Store) (l : List Hash) (ex : Bool) (j : Nat), l.length = 2 ^ m -> m <= 3 -> j < l.length ->
    ACallsTo TC 96 [.vsl 32 (hr l) ex, .int .i64 j] Y (.tup [ownV Y 32 (hr (z1a m l j).reverse), .int .i64 0]) (ownS Y (hr (z1a m l j).reverse))
  | 0, Y, l, ex, j, hl, hm, hj => by
    have hl1 : (l.length : Int) = 1 := by omega
    have hj0 : (j : Int) = 0 := by omega
    have hp0 : hr (z1a 0 l j).reverse = [] := rfl
    unfold ownV ownS
    rw [if_pos hp0, if_pos hp0]
    refine ACallsTo.of_body qxok (by simp) fun hw _ => ?_
    repeat' (first|refine zW.zs ?_|refine zW.zb ?_|refine zW.zc ?_|refine zW.zt rfl ?_|refine zW.zf rfl ?_|(refine zW.zd rfl (fun ht => ?_) (fun ht => ?_)<;>try (exfalso;omega))|((first|refine zW.zr ?_|refine zW.zk ?_|refine zW.ze ?_|refine zW.zq ?_|((first|apply zg0|apply zg1|apply zg2|apply zg3|apply zg4|apply zg5|apply zg6|apply zg7)<;>intro ht));all_goals try simp (disch:=first|omega|(simp only [lens,z7,z6,List.length_reverse,List.length_map,List.length_take,List.length_drop];first|done|omega)) only [go_sem,reduceEqDiff,Nat.reduceBEq,reduceAdd,reduceMul,reduceSub,reduceLeDiff,reduceToNat,reducePow, hl1, hj0]))
    exact Ext.pure hw (.refl Y) (z11 _ rfl)
  | m + 1, Y, l, ex, j, hl, hm, hj => by
    have hl2 : 2 <= l.length := by have : 1 <= 2 ^ m := Nat.one_le_two_pow; rw [hl, Nat.pow_succ]; omega
    have hlen2 : l.length <= 8 := by rw [hl]; have : 2 ^ (m + 1) <= 2 ^ 3 := Nat.pow_le_pow_right (by omega) hm; omega
    have hl1 : ¬ (l.length : Int) = 1 := by omega
    have hj1 : ¬ (j : Int) >= l.length := by omega
    have hsk : zu l.length = 2 ^ m := by rw [hl]; exact z8x m
    have hSp := fun Y => zcl Y l.length (by omega)
    rw [hsk] at hSp
    have hpm : 2 ^ m + 2 ^ m = l.length := by rw [hl, Nat.pow_succ]; omega
    have hpos : 0 < 2 ^ m := Nat.pos_of_ne_zero (by simp)
    have hun : z1a (m + 1) l j = if j < 2 ^ m then z1i (l.drop (2 ^ m)) :: z1a m (l.take (2 ^ m)) j else z1i (l.take (2 ^ m)) :: z1a m (l.drop (2 ^ m)) (j - 2 ^ m) := by
      rw [z1a, if_neg (by omega), hsk]
    have tl : (l.take (2 ^ m)).length = 2 ^ m := by rw [List.length_take]; omega
    have dl : (l.drop (2 ^ m)).length = 2 ^ m := by rw [List.length_drop]; omega
    have hpl : ∀ l j, (z1a m l j).length <= m := fun l j => zc9 m l j
    have hRa := fun Y t => zck Y (l.take (2 ^ m)) (.vsl 32 (hr (l.take (2 ^ m))) t) (.of (.inr ⟨t, rfl⟩)) (by omega)
    have hRb := fun Y t => zck Y (l.drop (2 ^ m)) (.vsl 32 (hr (l.drop (2 ^ m))) t) (.of (.inr ⟨t, rfl⟩)) (by omega)
    rw [hun]
    by_cases hj2 : j < 2 ^ m
    · have hIH := fun Y t => zci m Y (l.take (2 ^ m)) t j tl (by omega) (by omega)
      have hpl2 := hpl (l.take (2 ^ m)) j
      rw [if_pos hj2, List.reverse_cons]
      generalize z1a m (l.take (2 ^ m)) j = PF at *
      generalize z1i (l.drop (2 ^ m)) = R at *
      generalize 2 ^ m = k at *
      have hj2' : (j : Int) < k := by omega
      obtain ⟨v', Y2, ha, hO2⟩ := (z8n Y 32 (hr PF.reverse)).app (ys := [hc R]) (by simp) (by rw [z6, List.length_reverse]; simp; omega)
      rw [show hr PF.reverse ++ [hc R] = hr (PF.reverse ++ [R]) by simp [hr]] at hO2
      refine ACallsTo.of_body qxok (by simp) fun hw _ => ?_
      repeat' (first|refine zW.zs ?_|refine zW.zb ?_|refine zW.zc ?_|refine zW.zt rfl ?_|refine zW.zf rfl ?_|(refine zW.zd rfl (fun ht => ?_) (fun ht => ?_)<;>try (exfalso;omega))|((first|refine zW.zr ?_|refine zW.zk ?_|refine zW.ze ?_|refine zW.zq ?_|(apply callW.mk_pu; (first | exact (fun _ => hSp _) | exact (fun _ => hIH _ _) | exact (fun _ => hRb _ _))) | (apply callW.za; (first | exact (hSp _) | exact (hIH _ _) | exact (hRb _ _))) | ((first|apply zg0|apply zg1|apply zg2|apply zg3|apply zg4|apply zg5|apply zg6|apply zg7)<;>intro ht));all_goals try simp (disch:=first|omega|(simp only [lens,z7,z6,List.length_reverse,List.length_map,List.length_take,List.length_drop];first|done|omega)) only [go_sem,reduceEqDiff,Nat.reduceBEq,reduceAdd,reduceMul,reduceSub,reduceLeDiff,reduceToNat,reducePow, hl1, hj1, hj2', ha, Int.toNat_natCast]))
      exact DownV.tup2 (hO2.own hw (z31 _))
    · have hIH := fun Y t => zci m Y (l.drop (2 ^ m)) t (j - 2 ^ m) dl (by omega) (by omega)
      have hpl2 := hpl (l.drop (2 ^ m)) (j - 2 ^ m)
      rw [if_neg hj2, List.reverse_cons]
      generalize z1a m (l.drop (2 ^ m)) (j - 2 ^ m) = PF at *
      generalize z1i (l.take (2 ^ m)) = R at *
      generalize 2 ^ m = k at *
      have hj2' : ¬ (j : Int) < k := by omega
      have hsub : (j : Int) - k = ((j - k : Nat) : Int) := by omega
      rw [<- hsub] at hIH
      obtain ⟨v', Y2, ha, hO2⟩ := (z8n Y 32 (hr PF.reverse)).app (ys := [hc R]) (by simp) (by rw [z6, List.length_reverse]; simp; omega)
      rw [show hr PF.reverse ++ [hc R] = hr (PF.reverse ++ [R]) by simp [hr]] at hO2
      refine ACallsTo.of_body qxok (by simp) fun hw _ => ?_
      repeat' (first|refine zW.zs ?_|refine zW.zb ?_|refine zW.zc ?_|refine zW.zt rfl ?_|refine zW.zf rfl ?_|(refine zW.zd rfl (fun ht => ?_) (fun ht => ?_)<;>try (exfalso;omega))|((first|refine zW.zr ?_|refine zW.zk ?_|refine zW.ze ?_|refine zW.zq ?_|(apply callW.mk_pu; (first | exact (fun _ => hSp _) | exact (fun _ => hIH _ _) | exact (fun _ => hRa _ _))) | (apply callW.za; (first | exact (hSp _) | exact (hIH _ _) | exact (hRa _ _))) | ((first|apply zg0|apply zg1|apply zg2|apply zg3|apply zg4|apply zg5|apply zg6|apply zg7)<;>intro ht));all_goals try simp (disch:=first|omega|(simp only [lens,z7,z6,List.length_reverse,List.length_map,List.length_take,List.length_drop];first|done|omega)) only [go_sem,reduceEqDiff,Nat.reduceBEq,reduceAdd,reduceMul,reduceSub,reduceLeDiff,reduceToNat,reducePow, hl1, hj1, hj2', ha, Int.toNat_natCast]))
      exact DownV.tup2 (hO2.own hw (z31 _))
theorem zop (Y : Store) (seed : List UInt8) (K : List Hash) (ex : Bool) (i : Nat) (dg : Hash) (hK : K.length = 8) (hi : i < 8) (hs : seed.length < 1000000) :
    ACallsTo TC 52 [.str seed, .vsl 32 (hr K) ex, .int .i64 i, .agg (hc dg)] Y (z2m i (sigS seed i dg.1) (z1c 32 (hr (z14 K i))) 0) Y := by
  have hP := fun Y => zci 3 Y K ex i hK (by omega) (by omega)
  have hS := fun Y => zoq Y seed i dg hs (by omega)
  have hpl : (z14 K i).length = 3 := by unfold z14; rw [List.length_reverse, z8p K i hK]
  have hne : hr (z14 K i) ≠ [] := fun e => by have := congrArg List.length e; rw [z6, hpl] at this; simp at this
  rw [show (z1a 3 K i).reverse = z14 K i from rfl] at hP
  unfold ownV ownS at hP
  simp only [if_neg hne, z6, hpl] at hP
  unfold z2m
  generalize sigS seed i dg.1 = sig at *
  generalize z14 K i = PH at *
  refine ACallsTo.of_body q1nok (by simp) fun hw _ => ?_
  have h0 : ¬ (i : Int) < 0 := by omega
  have h7 : ¬ (i : Int) > 7 := by omega
  repeat' (first|refine zW.zs ?_|refine zW.zb ?_|refine zW.zc ?_|refine zW.zt rfl ?_|refine zW.zf rfl ?_|(refine zW.zd rfl (fun ht => ?_) (fun ht => ?_)<;>try (exfalso;omega))|((first|refine zW.zr ?_|refine zW.zk ?_|refine zW.ze ?_|refine zW.zq ?_|(apply callW.mk_pu; (first | exact (fun _ => hP _) | exact (fun _ => hS _))) | (apply callW.za; (first | exact (hP _) | exact (hS _))) | ((first|apply zg0|apply zg1|apply zg2|apply zg3|apply zg4|apply zg5|apply zg6|apply zg7)<;>intro ht));all_goals try simp (disch:=first|omega|(simp only [lens,z7,z6,List.length_reverse,List.length_map,List.length_take,List.length_drop];first|done|omega)) only [go_sem,reduceEqDiff,Nat.reduceBEq,reduceAdd,reduceMul,reduceSub,reduceLeDiff,reduceToNat,reducePow, h0, h7]))
  refine DownV.all hw (drT (drsc (drA (drsc (FrzD.same (by simp [RL])) (drsc (FrzD.same (by simp [RL])) (drs1 ?_)))) (drs1 (FrzD.same (by simp [RL])))))
  unfold z1c
  rw [if_neg hne]
  have hf := FrzD.sl (Z := Y) (news := [some [hc dg], some [[AV.int IntKind.i64 i, AV.str sig, AV.sl (Y.length + 2) 0 3 none 32]], some (hr PH)]) (r := Y.length + 2) (off := 0) (lim := none) (esz := 32) (o := hr PH) (es := hr PH) (by omega) (by rw [z17 (by omega), Nat.add_sub_cancel_left]; rfl) (by omega) (by simp) (z31 _)
  rw [show (hr PH).length = 3 by rw [z6, hpl]] at hf
  exact hf
theorem zoo (Y : Store) (seed : List UInt8) (K : List Hash) (ex : Bool) (i : Int) (dg : Hash) (hi : i < 0 \/ 8 <= i) :
    ACallsTo TC 52 [.str seed, .vsl 32 (hr K) ex, .int .i64 i, .agg (hc dg)] Y (z2m 0 [] .nilsl 2) Y := by
  unfold z2m
  refine ACallsTo.of_body q1nok (by simp) fun hw _ => ?_
  by_cases h0 : i < 0
  · repeat' (first|refine zW.zs ?_|refine zW.zb ?_|refine zW.zc ?_|refine zW.zt rfl ?_|refine zW.zf rfl ?_|(refine zW.zd rfl (fun ht => ?_) (fun ht => ?_)<;>try (exfalso;omega))|((first|refine zW.zr ?_|refine zW.zk ?_|refine zW.ze ?_|refine zW.zq ?_|((first|apply zg0|apply zg1|apply zg2|apply zg3|apply zg4|apply zg5|apply zg6|apply zg7)<;>intro ht));all_goals try simp (disch:=first|omega|(simp only [lens,z7,z6,List.length_reverse,List.length_map,List.length_take,List.length_drop];first|done|omega)) only [go_sem,reduceEqDiff,Nat.reduceBEq,reduceAdd,reduceMul,reduceSub,reduceLeDiff,reduceToNat,reducePow, h0]))
    exact DownV.pure hw zaa
  · have h8 : i > 7 := by omega
    repeat' (first|refine zW.zs ?_|refine zW.zb ?_|refine zW.zc ?_|refine zW.zt rfl ?_|refine zW.zf rfl ?_|(refine zW.zd rfl (fun ht => ?_) (fun ht => ?_)<;>try (exfalso;omega))|((first|refine zW.zr ?_|refine zW.zk ?_|refine zW.ze ?_|refine zW.zq ?_|((first|apply zg0|apply zg1|apply zg2|apply zg3|apply zg4|apply zg5|apply zg6|apply zg7)<;>intro ht));all_goals try simp (disch:=first|omega|(simp only [lens,z7,z6,List.length_reverse,List.length_map,List.length_take,List.length_drop];first|done|omega)) only [go_sem,reduceEqDiff,Nat.reduceBEq,reduceAdd,reduceMul,reduceSub,reduceLeDiff,reduceToNat,reducePow, h0, h8]))
    exact DownV.pure hw zaa
end Am
end Go.Proofs.YtncenefkbpelbaaDoor
end
section
/- Keys: the law KeytreeSign: contracts. -/
namespace Go.Proofs.YtncenefkbpelbaaDoor
namespace Am
/-- What a seal is, and what it comes with. -/
def slS (seed : List UInt8) (i : Int) (d : List UInt8) : Int × List UInt8 × List Hash × Int :=
  if 0 <= i /\ i < 8 then (i, sigS seed i d, z14 (keyL seed) i.toNat, 0) else (0, [], [], 2)
theorem zah (seed : List UInt8) (i : Int) (d : List UInt8) : (slS seed i d).2.1.length < 1000000 /\ (slS seed i d).2.2.1.length < 1000000 := by
  unfold slS
  split
  · rename_i h
    refine ⟨by rw [z8w]; omega, ?_⟩
    show (z14 (keyL seed) i.toNat).length < 1000000
    unfold z14
    rw [List.length_reverse, z8p _ _ (z2k seed)]; omega
  · exact ⟨by simp, by simp⟩
attribute [local irreducible] ACallsTo ACallsP pubH
theorem signA (Y : Store) (r : Nat) (seed : List UInt8) (i : Int) (dg : Hash) (hg : Y[r]? = some (some [z1b true seed (keyL seed)])) (hs : seed.length < 1000000) :
    ACallsTo TC 51 [.ptr r 0 0, .int .i64 i, .agg (hc dg)] Y (z2m (slS seed i dg.1).1 (slS seed i dg.1).2.1 (z1c 32 (hr (slS seed i dg.1).2.2.1)) (slS seed i dg.1).2.2.2) Y := by
  unfold slS
  by_cases h : 0 <= i /\ i < 8
  · rw [if_pos h]
    obtain ⟨n, rfl⟩ : ∃ n : Nat, i = n := ⟨i.toNat, by omega⟩
    exact zda Y r seed (keyL seed) n dg hg (z2k seed) (by omega) hs
  · rw [if_neg h]
    exact zhm Y r seed (keyL seed) i dg hg (by omega)
theorem signB (Y : Store) (seed : List UInt8) (ex : Bool) (i : Int) (dg : Hash) (hs : seed.length < 1000000) :
    ACallsTo TC 52 [.str seed, .vsl 32 (hr (keyL seed)) ex, .int .i64 i, .agg (hc dg)] Y (z2m (slS seed i dg.1).1 (slS seed i dg.1).2.1 (z1c 32 (hr (slS seed i dg.1).2.2.1)) (slS seed i dg.1).2.2.2) Y := by
  unfold slS
  by_cases h : 0 <= i /\ i < 8
  · rw [if_pos h]
    obtain ⟨n, rfl⟩ : ∃ n : Nat, i = n := ⟨i.toNat, by omega⟩
    exact zop Y seed (keyL seed) ex n dg (z2k seed) (by omega) hs
  · rw [if_neg h]
    exact zoo Y seed (keyL seed) ex i dg (by omega)
theorem sameSS (Y : Store) (seed : List UInt8) (i : Int) (d : List UInt8) :
    ACallsTo TC 53 [.agg [.int .i64 (slS seed i d).1, .str (slS seed i d).2.1, z1c 32 (hr (slS seed i d).2.2.1)], .agg [.int .i64 (slS seed i d).1, .str (slS seed i d).2.1, z1c 32 (hr (slS seed i d).2.2.1)]] Y (.bool true) Y := by
  have h := zic Y (slS seed i d).1 (slS seed i d).1 (slS seed i d).2.1 (slS seed i d).2.1 (slS seed i d).2.2.1 (slS seed i d).2.2.1 _ _ (.of (z7e 32 (hr (slS seed i d).2.2.1))) (.of (z7e 32 (hr (slS seed i d).2.2.1))) (zah seed i d).1 (zah seed i d).1 (zah seed i d).2 (zah seed i d).2
  rwa [decide_eq_true (by exact ⟨rfl, rfl, rfl⟩)] at h
set_option maxHeartbeats 8000000 in
theorem zi0 (seed : List UInt8) (ix : Int) (d : Hash) : ACallsTo TC 8 [.str seed, .int .i64 ix, .agg (hc d)] [] (.bool true) [] := by
  refine ACallsTo.of_body q1fok (by simp) fun hw _ => ?_
  by_cases h100 : (seed.length : Int) > 100
  · repeat' (first|refine zW.zs ?_|refine zW.zb ?_|refine zW.zc ?_|refine zW.zt rfl ?_|refine zW.zf rfl ?_|(refine zW.zd rfl (fun ht => ?_) (fun ht => ?_)<;>try (exfalso;omega))|((first|refine zW.zr ?_|refine zW.zk ?_|refine zW.ze ?_|refine zW.zq ?_|(apply callW.mk_pu; (first | exact (fun _ => z5t _))) | (apply callW.za; (first | exact (z5t _))) | ((first|apply zg0|apply zg1|apply zg2|apply zg3|apply zg4|apply zg5|apply zg6|apply zg7)<;>intro ht));all_goals try simp (disch:=first|omega|(simp only [lens,z7,z6,List.length_reverse,List.length_map,List.length_take,List.length_drop];first|done|omega)) only [go_sem,reduceEqDiff,Nat.reduceBEq,reduceAdd,reduceMul,reduceSub,reduceLeDiff,reduceToNat,reducePow, h100]))
    exact DownV.pure hw z8q
  have hs : seed.length < 1000000 := by omega
  have hN := fun Y => zbr Y seed hs
  have hL := fun Y => zom Y seed hs
  have hKl := z2k seed
  have hg0 : ([some [hc d], some [z1b true seed (keyL seed)]] : Store)[1]? = some (some [z1b true seed (keyL seed)]) := rfl
  have hR := zd9 [some [hc d], some [z1b true seed (keyL seed)]] 1 seed (keyL seed) hg0 hKl
  have hRr := fun Y => zor Y (keyL seed) false hKl
  repeat' (first|refine zW.zs ?_|refine zW.zb ?_|refine zW.zc ?_|refine zW.zt rfl ?_|refine zW.zf rfl ?_|(refine zW.zd rfl (fun ht => ?_) (fun ht => ?_)<;>try (exfalso;omega))|((first|refine zW.zr ?_|refine zW.zk ?_|refine zW.ze ?_|refine zW.zq ?_|(apply callW.mk_pu; (first | exact (fun _ => hN _) | exact (fun _ => hL _) | exact (fun _ => hR) | exact (fun _ => hRr _))) | (apply callW.za; (first | exact (hN _) | exact (hL _) | exact (hR) | exact (hRr _))) | ((first|apply zg0|apply zg1|apply zg2|apply zg3|apply zg4|apply zg5|apply zg6|apply zg7)<;>intro ht));all_goals try simp (disch:=first|omega|(simp only [lens,z7,z6,List.length_reverse,List.length_map,List.length_take,List.length_drop];first|done|omega)) only [go_sem,reduceEqDiff,Nat.reduceBEq,reduceAdd,reduceMul,reduceSub,reduceLeDiff,reduceToNat,reducePow, h100]))
  refine zW.loop (fun m O Y' => ∃ k : Nat, m + k = 2 /\ Ext [some [hc d], some [z1b true seed (keyL seed)]] Y' /\ O 0 = .str seed /\ O 1 = .int .i64 ix /\ O 5 = .ptr 0 0 0 /\ O 7 = .ptr 1 0 0 /\ O 8 = .vsl 32 (hr (keyL seed)) false /\ O 9 = .int .i64 k) 2 ?_ ?_
  · exact ⟨0, by omega, .refl _, by simp (disch:=first|omega|(simp only [lens,z7,z6,List.length_reverse,List.length_map,List.length_take,List.length_drop];first|done|omega)) only [go_sem,reduceEqDiff,Nat.reduceBEq,reduceAdd,reduceMul,reduceSub,reduceLeDiff,reduceToNat,reducePow], by simp (disch:=first|omega|(simp only [lens,z7,z6,List.length_reverse,List.length_map,List.length_take,List.length_drop];first|done|omega)) only [go_sem,reduceEqDiff,Nat.reduceBEq,reduceAdd,reduceMul,reduceSub,reduceLeDiff,reduceToNat,reducePow], by simp (disch:=first|omega|(simp only [lens,z7,z6,List.length_reverse,List.length_map,List.length_take,List.length_drop];first|done|omega)) only [go_sem,reduceEqDiff,Nat.reduceBEq,reduceAdd,reduceMul,reduceSub,reduceLeDiff,reduceToNat,reducePow], by simp (disch:=first|omega|(simp only [lens,z7,z6,List.length_reverse,List.length_map,List.length_take,List.length_drop];first|done|omega)) only [go_sem,reduceEqDiff,Nat.reduceBEq,reduceAdd,reduceMul,reduceSub,reduceLeDiff,reduceToNat,reducePow], by simp (disch:=first|omega|(simp only [lens,z7,z6,List.length_reverse,List.length_map,List.length_take,List.length_drop];first|done|omega)) only [go_sem,reduceEqDiff,Nat.reduceBEq,reduceAdd,reduceMul,reduceSub,reduceLeDiff,reduceToNat,reducePow], by simp (disch:=first|omega|(simp only [lens,z7,z6,List.length_reverse,List.length_map,List.length_take,List.length_drop];first|done|omega)) only [go_sem,reduceEqDiff,Nat.reduceBEq,reduceAdd,reduceMul,reduceSub,reduceLeDiff,reduceToNat,reducePow]; rfl⟩
  · rintro m O Y' ⟨k, hm, he, q0, q1, q5, q7, q8, q9⟩
    have c0 : Y'[0]? = some (some [hc d]) := by obtain ⟨y, rfl⟩ := he; rfl
    have c1 : Y'[1]? = some (some [z1b true seed (keyL seed)]) := by obtain ⟨y, rfl⟩ := he; rfl
    have d0 := slen c0
    have d1 := slen c1
    have hA := fun i => signA Y' 1 seed i d c1 hs
    have hB := fun Y i => signB Y seed false i d hs
    have hS := fun Y i => sameSS Y seed i d.1
    have zc := fun i => zhf (sz := 32) (es := hr (slS seed i d.1).2.2.1)
    unfold cellsOf at zc
    unfold z2m at hA hB
    generalize keyL seed = K at *
    match k, hm with
    | 0, hm =>
      have hA0 := hA ix
      have hB0 := fun Y => hB Y ix
      have hS0 := fun Y => hS Y ix
      have z0 := zc ix
      generalize z1c 32 (hr (slS seed ix d.1).2.2.1) = PV at *
      generalize slS seed ix d.1 = SS at *
      obtain ⟨s1, s2, s3, s4⟩ := SS
      repeat' (first|refine zW.zs ?_|refine zW.zb ?_|refine zW.zc ?_|refine zW.zt rfl ?_|refine zW.zf rfl ?_|(refine zW.zd rfl (fun ht => ?_) (fun ht => ?_)<;>try (exfalso;omega))|((first|refine zW.zr ?_|refine zW.zk ?_|refine zW.ze ?_|refine zW.zq ?_|(apply callW.mk_pu; (first | exact (fun _ => hA0) | exact (fun _ => hB0 _) | exact (fun _ => hS0 _))) | (apply callW.za; (first | exact (hA0) | exact (hB0 _) | exact (hS0 _))) | ((first|apply zg0|apply zg1|apply zg2|apply zg3|apply zg4|apply zg5|apply zg6|apply zg7)<;>intro ht));all_goals try simp (disch:=first|omega|(simp only [lens,z7,z6,List.length_reverse,List.length_map,List.length_take,List.length_drop];first|done|omega)) only [go_sem,reduceEqDiff,Nat.reduceBEq,reduceAdd,reduceMul,reduceSub,reduceLeDiff,reduceToNat,reducePow, q0, q1, q5, q7, q8, q9, c0, z0]))
      exact ⟨m - 1, by omega, 1, by omega, he.app, rfl⟩
    | 1, hm =>
      have ha7 := and7 ix
      generalize ix % 8 = j at *
      have hA0 := hA j
      have hB0 := fun Y => hB Y j
      have hS0 := fun Y => hS Y j
      have z0 := zc j
      generalize z1c 32 (hr (slS seed j d.1).2.2.1) = PV at *
      generalize slS seed j d.1 = SS at *
      obtain ⟨s1, s2, s3, s4⟩ := SS
      repeat' (first|refine zW.zs ?_|refine zW.zb ?_|refine zW.zc ?_|refine zW.zt rfl ?_|refine zW.zf rfl ?_|(refine zW.zd rfl (fun ht => ?_) (fun ht => ?_)<;>try (exfalso;omega))|((first|refine zW.zr ?_|refine zW.zk ?_|refine zW.ze ?_|refine zW.zq ?_|(apply callW.mk_pu; (first | exact (fun _ => hA0) | exact (fun _ => hB0 _) | exact (fun _ => hS0 _))) | (apply callW.za; (first | exact (hA0) | exact (hB0 _) | exact (hS0 _))) | ((first|apply zg0|apply zg1|apply zg2|apply zg3|apply zg4|apply zg5|apply zg6|apply zg7)<;>intro ht));all_goals try simp (disch:=first|omega|(simp only [lens,z7,z6,List.length_reverse,List.length_map,List.length_take,List.length_drop];first|done|omega)) only [go_sem,reduceEqDiff,Nat.reduceBEq,reduceAdd,reduceMul,reduceSub,reduceLeDiff,reduceToNat,reducePow, q0, q1, q5, q7, q8, q9, c0, z0, ha7]))
      exact ⟨m - 1, by omega, 2, by omega, he.app, rfl⟩
    | 2, hm =>
      repeat' (first|refine zW.zs ?_|refine zW.zb ?_|refine zW.zc ?_|refine zW.zt rfl ?_|refine zW.zf rfl ?_|(refine zW.zd rfl (fun ht => ?_) (fun ht => ?_)<;>try (exfalso;omega))|((first|refine zW.zr ?_|refine zW.zk ?_|refine zW.ze ?_|refine zW.zq ?_|(apply callW.mk_pu; (first | exact (fun _ => z5t _))) | (apply callW.za; (first | exact (z5t _))) | ((first|apply zg0|apply zg1|apply zg2|apply zg3|apply zg4|apply zg5|apply zg6|apply zg7)<;>intro ht));all_goals try simp (disch:=first|omega|(simp only [lens,z7,z6,List.length_reverse,List.length_map,List.length_take,List.length_drop];first|done|omega)) only [go_sem,reduceEqDiff,Nat.reduceBEq,reduceAdd,reduceMul,reduceSub,reduceLeDiff,reduceToNat,reducePow, q0, q1, q5, q7, q8, q9]))
      exact DownV.pure (Z := []) (news := Y') hw (z11 _ rfl)
    | t + 3, hm => omega
theorem zq5 {a : AV} (h : Sh .str a) : ∃ s : List UInt8, a = .str s /\ s.length <= maxLen := by
  simp only [Sh, ShC] at h
  obtain ⟨s, h, h1⟩ := h
  cases h
  exact ⟨s, rfl, h1⟩
theorem KeytreeSign_law (avs : List AV) (h : z5j [.str, .int .i64, z3m] avs) : ACallsTo TC 8 avs [] (.bool true) [] := by
  simp only [z5j] at h
  obtain ⟨_, _, rfl, h0, _, _, rfl, h1, _, _, rfl, h2, rfl⟩ := h
  obtain ⟨s, rfl, hs⟩ := zq5 h0
  obtain ⟨n, rfl, _⟩ := i64_of h1
  obtain ⟨d, rfl⟩ := zbn h2
  exact zi0 s n d
end Am
end Go.Proofs.YtncenefkbpelbaaDoor
end
section
/- What a law with the laid tables of sha begins with. -/
namespace Go.Proofs.YtncenefkbpelbaaDoor.LawDoor
open Go.ChangeShapes Go.WideShapes Go.ChangeAt Go.RowKit
theorem own : ownKnob Tryd.prog.godebug = none := by kernel_rfl
theorem zfh : laidOutB Tryd.prog = true := by kernel_rfl
def z5q : List (String × DataW Unit) := [("speculum/sha.first", Rows.laid_speculum_sha_first), ("speculum/sha.rounds", Rows.laid_speculum_sha_rounds)]
set_option maxRecDepth 100000
/-- The door's own heap meets the condition. -/
theorem zeq (os : Os) (args : Array Value) : laidMetH Tryd.prog z5q ((World.doorLaid Tryd.prog 400 os).forCall (fun _ _ => 0) ⟨#[], args, []⟩).memory :=
  laidMetH_of_parts3 (fuel := 8) (laidMet_of_run' 8 (by kernel_rfl) (by kernel_rfl)) (by kernel_rfl) (by kernel_rfl)
/-- What the condition gives the walks: the tables, as_ the machine knows them. -/
theorem zgl {W : World} (h : laidMetH Tryd.prog z5q W) : Am.Rel Am.TC [] [] W := by
  rw [MakeChecks.laidMetH_plain _ _ _ (by kernel_rfl)] at h
  obtain ⟨ps, ⟨g0, t0, cs0, f0, p0, q0, hg0, ht0, hv0, hd0, ⟨g1, t1, cs1, f1, p1, q1, hg1, ht1, hv1, hd1, _, _⟩, _⟩, _, _⟩ := h
  have v0 := Am.vp_of_var (P := Tryd.prog) (n := "speculum/sha.first") (g := 0) (t := 168) (e := 166) (m := 8) (k := .u32) Am.shaFirst (by kernel_rfl) (by kernel_rfl) (by kernel_rfl) (by kernel_rfl) (by kernel_rfl) (by kernel_rfl) hg0 ht0 hv0 hd0
  have v1 := Am.vp_of_var (P := Tryd.prog) (n := "speculum/sha.rounds") (g := 1) (t := 167) (e := 166) (m := 64) (k := .u32) Am.shaRounds (by kernel_rfl) (by kernel_rfl) (by kernel_rfl) (by kernel_rfl) (by kernel_rfl) (by kernel_rfl) hg1 ht1 hv1 hd1
  refine ⟨rfl, fun r o h => by simp at h, fun r h => by simp at h, fun r r' pl pl' h => by simp at h, fun g cs h => ?_⟩
  simp only [Am.TC] at h
  split at h
  · rename_i hg; subst hg; cases h; exact v0
  · split at h
    · rename_i hg; subst hg; cases h; exact v1
    · cases h
end Go.Proofs.YtncenefkbpelbaaDoor.LawDoor
end
