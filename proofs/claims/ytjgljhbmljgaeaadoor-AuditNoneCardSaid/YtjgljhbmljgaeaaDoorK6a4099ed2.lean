import Derived.Test.YtjgljhbmljgaeaaDoorK5393e60f9
import Derived.Test.YtjgljhbmljgaeaaDoorK3bfbe4e78
import Derived.Test.YtjgljhbmljgaeaaDoorRows
import Derived.Test.YtjgljhbmljgaeaaDoorCards
import Derived.Test.YtjgljhbmljgaeaaDoorTie
import Derived.ProofKit
import Derived.LaidMore
import Derived.OpenShut
import Derived.Stop.Joined
import Derived.SevenTiedAt
import Derived.MakeChecks
import Derived.Test.YtjgljhbmljgaeaaDoorK423d8b5d4
set_option linter.unusedSimpArgs false
set_option linter.unusedVariables false
open Nat (reduceEqDiff reduceAdd reduceMul reduceSub reduceLeDiff)
open Int (reduceToNat reducePow)
section
/- Auditors: contracts: one that is none: Head, Entry; Great, of one act. -/
namespace Go.Proofs.YtjgljhbmljgaeaaDoor
namespace Am
attribute [local irreducible] ACallsTo ACallsP pubH
theorem zjc (Y : Store) (p : AV) (n : Int) (r : Hash) (i : Int) (s : List UInt8) (x y : AV) (l : List Hash) (hx : RdSl Y 32 (hr l) x) (h : AudN Y p) : ACallsTo TC 10 [p, .agg (sgC n r i s x), y] Y (.int .i64 0) Y := by
  have xc := hx.cells
  unfold cellsOf at xc
  have hN := fun y => z7w (Y ++ y) p (h.more y)
  refine ACallsTo.of_body q1sok (by simp) fun hw _ => ?_
  repeat' (first|refine zW.zs ?_|refine zW.zb ?_|refine zW.zc ?_|refine zW.zt rfl ?_|refine zW.zf rfl ?_|(refine zW.zd rfl (fun ht => ?_) (fun ht => ?_)<;>try (exfalso;omega))|((first|refine zW.zr ?_|refine zW.zk ?_|refine zW.ze ?_|refine zW.zq ?_|(apply callW.mk_pu; (first | exact (fun _ => hN _))) | (apply callW.za; (first | exact (hN _))) | ((first|apply zg0|apply zg1|apply zg2|apply zg3|apply zg4|apply zg5|apply zg6|apply zg7)<;>intro ht));all_goals try simp (disch:=first|omega|(simp only [lens,z6,z7,List.length_reverse,List.length_map,List.length_take,List.length_drop];first|done|omega)) only [go_sem,reduceEqDiff,Nat.reduceBEq,reduceAdd,reduceMul,reduceSub,reduceLeDiff,reduceToNat,reducePow, xc]))
  exact Ext.pure hw (Ext.refl Y).app (zz _ rfl)
theorem zj7 (Y : Store) (p : AV) (i : Int) (s : List UInt8) (y : AV) (h : AudN Y p) : ACallsTo TC 11 [p, .int .i64 i, .str s, y] Y (.int .i64 1) Y := by
  have hN := fun y => z7w (Y ++ y) p (h.more y)
  have hN0 := z7w Y p h
  refine ACallsTo.of_body q1tok (by simp) fun hw _ => ?_
  repeat' (first|refine zW.zs ?_|refine zW.zb ?_|refine zW.zc ?_|refine zW.zt rfl ?_|refine zW.zf rfl ?_|(refine zW.zd rfl (fun ht => ?_) (fun ht => ?_)<;>try (exfalso;omega))|((first|refine zW.zr ?_|refine zW.zk ?_|refine zW.ze ?_|refine zW.zq ?_|(apply callW.mk_pu; (first | exact (fun _ => hN0) | exact (fun _ => hN _))) | (apply callW.za; (first | exact (hN0) | exact (hN _))) | ((first|apply zg0|apply zg1|apply zg2|apply zg3|apply zg4|apply zg5|apply zg6|apply zg7)<;>intro ht));all_goals try simp (disch:=first|omega|(simp only [lens,z6,z7,List.length_reverse,List.length_map,List.length_take,List.length_drop];first|done|omega)) only [go_sem,reduceEqDiff,Nat.reduceBEq,reduceAdd,reduceMul,reduceSub,reduceLeDiff,reduceToNat,reducePow]))
  exact Ext.pure hw (.refl Y) (zz _ rfl)
theorem zjb (Y : Store) (a b c : Int) (t : List UInt8) (R : List Hash) (y : AV) (ex : Bool) (hy : SlV 32 (hr R) y) : ACallsTo TC 6 [.vsl 5 [[.int .u8 a, .int .u8 b, .int .u8 c, .str t, y]] ex, .int .i64 1] Y (.bool (decide ((t.length : Int) > 300 \/ (R.length : Int) > 20))) Y := by
  have r1 := hy.len
  rw [z7] at r1
  unfold z1k at r1
  refine ACallsTo.of_body q1ook (by simp) fun hw _ => ?_
  repeat' (first|refine zW.zs ?_|refine zW.zb ?_|refine zW.zc ?_|refine zW.zt rfl ?_|refine zW.zf rfl ?_|(refine zW.zd rfl (fun ht => ?_) (fun ht => ?_)<;>try (exfalso;omega))|((first|refine zW.zr ?_|refine zW.zk ?_|refine zW.ze ?_|refine zW.zq ?_|((first|apply zg0|apply zg1|apply zg2|apply zg3|apply zg4|apply zg5|apply zg6|apply zg7)<;>intro ht));all_goals try simp (disch:=first|omega|(simp only [lens,z6,z7,List.length_reverse,List.length_map,List.length_take,List.length_drop];first|done|omega)) only [go_sem,reduceEqDiff,Nat.reduceBEq,reduceAdd,reduceMul,reduceSub,reduceLeDiff,reduceToNat,reducePow]))
  refine zW.loop (fun m O Y' => ∃ k : Nat, m + k = 1 /\ (k = 1 -> ¬ ((t.length : Int) > 300 \/ (R.length : Int) > 20)) /\ Y' = Y /\ O 0 = .vsl 5 [[.int .u8 a, .int .u8 b, .int .u8 c, .str t, y]] ex /\ O 1 = .int .i64 1 /\ O 5 = .int .i64 k) 1 ?_ ?_
  · exact ⟨0, by omega, by omega, rfl, by simp (disch:=first|omega|(simp only [lens,z6,z7,List.length_reverse,List.length_map,List.length_take,List.length_drop];first|done|omega)) only [go_sem,reduceEqDiff,Nat.reduceBEq,reduceAdd,reduceMul,reduceSub,reduceLeDiff,reduceToNat,reducePow], by simp (disch:=first|omega|(simp only [lens,z6,z7,List.length_reverse,List.length_map,List.length_take,List.length_drop];first|done|omega)) only [go_sem,reduceEqDiff,Nat.reduceBEq,reduceAdd,reduceMul,reduceSub,reduceLeDiff,reduceToNat,reducePow], by simp (disch:=first|omega|(simp only [lens,z6,z7,List.length_reverse,List.length_map,List.length_take,List.length_drop];first|done|omega)) only [go_sem,reduceEqDiff,Nat.reduceBEq,reduceAdd,reduceMul,reduceSub,reduceLeDiff,reduceToNat,reducePow]; rfl⟩
  · rintro m O Y' ⟨k, hm, hk, rfl, q0, q1, q5⟩
    match k, hm with
    | 0, hm =>
      by_cases h1 : (t.length : Int) > 300
      · rw [decide_eq_true (Or.inl h1)]
        repeat' (first|refine zW.zs ?_|refine zW.zb ?_|refine zW.zc ?_|refine zW.zt rfl ?_|refine zW.zf rfl ?_|(refine zW.zd rfl (fun ht => ?_) (fun ht => ?_)<;>try (exfalso;omega))|((first|refine zW.zr ?_|refine zW.zk ?_|refine zW.ze ?_|refine zW.zq ?_|((first|apply zg0|apply zg1|apply zg2|apply zg3|apply zg4|apply zg5|apply zg6|apply zg7)<;>intro ht));all_goals try simp (disch:=first|omega|(simp only [lens,z6,z7,List.length_reverse,List.length_map,List.length_take,List.length_drop];first|done|omega)) only [go_sem,reduceEqDiff,Nat.reduceBEq,reduceAdd,reduceMul,reduceSub,reduceLeDiff,reduceToNat,reducePow, q0, q1, q5, h1, r1]))
        exact DownV.same hw z2s
      · by_cases h2 : (R.length : Int) > 20
        · rw [decide_eq_true (Or.inr h2)]
          repeat' (first|refine zW.zs ?_|refine zW.zb ?_|refine zW.zc ?_|refine zW.zt rfl ?_|refine zW.zf rfl ?_|(refine zW.zd rfl (fun ht => ?_) (fun ht => ?_)<;>try (exfalso;omega))|((first|refine zW.zr ?_|refine zW.zk ?_|refine zW.ze ?_|refine zW.zq ?_|((first|apply zg0|apply zg1|apply zg2|apply zg3|apply zg4|apply zg5|apply zg6|apply zg7)<;>intro ht));all_goals try simp (disch:=first|omega|(simp only [lens,z6,z7,List.length_reverse,List.length_map,List.length_take,List.length_drop];first|done|omega)) only [go_sem,reduceEqDiff,Nat.reduceBEq,reduceAdd,reduceMul,reduceSub,reduceLeDiff,reduceToNat,reducePow, q0, q1, q5, h1, h2, r1]))
          exact DownV.same hw z2s
        · repeat' (first|refine zW.zs ?_|refine zW.zb ?_|refine zW.zc ?_|refine zW.zt rfl ?_|refine zW.zf rfl ?_|(refine zW.zd rfl (fun ht => ?_) (fun ht => ?_)<;>try (exfalso;omega))|((first|refine zW.zr ?_|refine zW.zk ?_|refine zW.ze ?_|refine zW.zq ?_|((first|apply zg0|apply zg1|apply zg2|apply zg3|apply zg4|apply zg5|apply zg6|apply zg7)<;>intro ht));all_goals try simp (disch:=first|omega|(simp only [lens,z6,z7,List.length_reverse,List.length_map,List.length_take,List.length_drop];first|done|omega)) only [go_sem,reduceEqDiff,Nat.reduceBEq,reduceAdd,reduceMul,reduceSub,reduceLeDiff,reduceToNat,reducePow, q0, q1, q5, h1, h2, r1]))
          exact ⟨m - 1, by omega, 1, by omega, rfl⟩
    | 1, hm =>
      rw [decide_eq_false (hk rfl)]
      repeat' (first|refine zW.zs ?_|refine zW.zb ?_|refine zW.zc ?_|refine zW.zt rfl ?_|refine zW.zf rfl ?_|(refine zW.zd rfl (fun ht => ?_) (fun ht => ?_)<;>try (exfalso;omega))|((first|refine zW.zr ?_|refine zW.zk ?_|refine zW.ze ?_|refine zW.zq ?_|((first|apply zg0|apply zg1|apply zg2|apply zg3|apply zg4|apply zg5|apply zg6|apply zg7)<;>intro ht));all_goals try simp (disch:=first|omega|(simp only [lens,z6,z7,List.length_reverse,List.length_map,List.length_take,List.length_drop];first|done|omega)) only [go_sem,reduceEqDiff,Nat.reduceBEq,reduceAdd,reduceMul,reduceSub,reduceLeDiff,reduceToNat,reducePow, q0, q1, q5]))
      exact DownV.same hw z2s
    | t + 2, hm => omega
end Am
end Go.Proofs.YtjgljhbmljgaeaaDoor
end
section
/- Auditors: the law AuditNone, but for its example. -/
namespace Go.Proofs.YtjgljhbmljgaeaaDoor
namespace Am
attribute [local irreducible] ACallsTo ACallsP pubH
set_option maxHeartbeats 8000000 in
theorem zi3 (hX : ∀ Y, ACallsTo TC 7 [] Y (.bool true) Y) (n : Int) (r : Hash) (i : Int) (s : List UInt8) (P : List Hash) (x : AV) (a b c : Int) (t : List UInt8) (R : List Hash) (y : AV) (hx : SlV 32 (hr P) x) (hy : SlV 32 (hr R) y) (hc0 : 0 <= c /\ c <= 255) :
    ACallsTo TC 3 [.agg (sgC n r i s x), .agg [.int .u8 a, .int .u8 b, .int .u8 c, .str t, y]] [] (.bool true) [] := by
  have hz := z9v
  have xc := zcy hx
  unfold cellsOf at xc
  have yc := zcy hy
  unfold cellsOf at yc
  have r1 := hx.len
  rw [z7] at r1
  unfold z1k at r1
  have hGr := fun Y ex => zjb Y a b c t R y ex hy
  refine ACallsTo.of_body q1nok (by simp) fun hw _ => ?_
  by_cases h1 : (s.length : Int) > 17000
  · repeat' (first|refine zW.zs ?_|refine zW.zb ?_|refine zW.zc ?_|refine zW.zt rfl ?_|refine zW.zf rfl ?_|(refine zW.zd rfl (fun ht => ?_) (fun ht => ?_)<;>try (exfalso;omega))|((first|refine zW.zr ?_|refine zW.zk ?_|refine zW.ze ?_|refine zW.zq ?_|(apply callW.mk_pu; (first | exact (fun _ => hX _))) | (apply callW.za; (first | exact (hX _))) | ((first|apply zg0|apply zg1|apply zg2|apply zg3|apply zg4|apply zg5|apply zg6|apply zg7)<;>intro ht));all_goals try simp (disch:=first|omega|(simp only [lens,z6,z7,List.length_reverse,List.length_map,List.length_take,List.length_drop,zg];first|done|omega)) only [go_sem,reduceEqDiff,Nat.reduceBEq,reduceAdd,reduceMul,reduceSub,reduceLeDiff,reduceToNat,reducePow, xc, yc, r1, h1]))
    exact Ext.pure hw (⟨_, rfl⟩) (zz _ rfl)
  by_cases h2 : (P.length : Int) > 10
  · repeat' (first|refine zW.zs ?_|refine zW.zb ?_|refine zW.zc ?_|refine zW.zt rfl ?_|refine zW.zf rfl ?_|(refine zW.zd rfl (fun ht => ?_) (fun ht => ?_)<;>try (exfalso;omega))|((first|refine zW.zr ?_|refine zW.zk ?_|refine zW.ze ?_|refine zW.zq ?_|(apply callW.mk_pu; (first | exact (fun _ => hX _))) | (apply callW.za; (first | exact (hX _))) | ((first|apply zg0|apply zg1|apply zg2|apply zg3|apply zg4|apply zg5|apply zg6|apply zg7)<;>intro ht));all_goals try simp (disch:=first|omega|(simp only [lens,z6,z7,List.length_reverse,List.length_map,List.length_take,List.length_drop,zg];first|done|omega)) only [go_sem,reduceEqDiff,Nat.reduceBEq,reduceAdd,reduceMul,reduceSub,reduceLeDiff,reduceToNat,reducePow, xc, yc, r1, h1, h2]))
    exact Ext.pure hw (⟨_, rfl⟩) (zz _ rfl)
  generalize decide ((t.length : Int) > 300 \/ (R.length : Int) > 20) = g at *
  cases g
  · repeat' (first|refine zW.zs ?_|refine zW.zb ?_|refine zW.zc ?_|refine zW.zt rfl ?_|refine zW.zf rfl ?_|(refine zW.zd rfl (fun ht => ?_) (fun ht => ?_)<;>try (exfalso;omega))|((first|refine zW.zr ?_|refine zW.zk ?_|refine zW.ze ?_|refine zW.zq ?_|(apply callW.mk_pu; (first | exact (fun _ => hGr _ _))) | (apply callW.za; (first | exact (hGr _ _))) | ((first|apply zg0|apply zg1|apply zg2|apply zg3|apply zg4|apply zg5|apply zg6|apply zg7)<;>intro ht));all_goals try simp (disch:=first|omega|(simp only [lens,z6,z7,List.length_reverse,List.length_map,List.length_take,List.length_drop,zg];first|done|omega)) only [go_sem,reduceEqDiff,Nat.reduceBEq,reduceAdd,reduceMul,reduceSub,reduceLeDiff,reduceToNat,reducePow, xc, yc, r1, h1, h2]))
    refine zW.loop (fun m O Y' => ∃ turn : Nat, m + turn = 2 /\ Ext [some [sgC n r i s x], some [[.int .u8 a, .int .u8 b, .int .u8 c, .str t, y]]] Y' /\ O 2 = .ptr 0 0 0 /\ O 3 = .ptr 1 0 0 /\ O 6 = .int .i64 turn /\ AudN Y' (O 5)) 2 ?_ ?_
    · exact ⟨0, by omega, .refl _, by simp (disch:=first|omega|(simp only [lens,z6,z7,List.length_reverse,List.length_map,List.length_take,List.length_drop,zg];first|done|omega)) only [go_sem,reduceEqDiff,Nat.reduceBEq,reduceAdd,reduceMul,reduceSub,reduceLeDiff,reduceToNat,reducePow], by simp (disch:=first|omega|(simp only [lens,z6,z7,List.length_reverse,List.length_map,List.length_take,List.length_drop,zg];first|done|omega)) only [go_sem,reduceEqDiff,Nat.reduceBEq,reduceAdd,reduceMul,reduceSub,reduceLeDiff,reduceToNat,reducePow], by simp (disch:=first|omega|(simp only [lens,z6,z7,List.length_reverse,List.length_map,List.length_take,List.length_drop,zg];first|done|omega)) only [go_sem,reduceEqDiff,Nat.reduceBEq,reduceAdd,reduceMul,reduceSub,reduceLeDiff,reduceToNat,reducePow]; rfl, .inl (by simp (disch:=first|omega|(simp only [lens,z6,z7,List.length_reverse,List.length_map,List.length_take,List.length_drop,zg];first|done|omega)) only [go_sem,reduceEqDiff,Nat.reduceBEq,reduceAdd,reduceMul,reduceSub,reduceLeDiff,reduceToNat,reducePow])⟩
    · rintro m O Y' ⟨turn, hm, he, q2, q3, q6, hP⟩
      have c0 : Y'[0]? = some (some [sgC n r i s x]) := by obtain ⟨y, rfl⟩ := he; rfl
      have c1 : Y'[1]? = some (some [[.int .u8 a, .int .u8 b, .int .u8 c, .str t, y]]) := by obtain ⟨y, rfl⟩ := he; rfl
      have d0 := slen c0
      have d1 := slen c1
      by_cases ht : turn < 2
      · have ht' : (turn : Int) < 2 := by omega
        generalize q5 : O 5 = p at *
        have hNo := zje Y' p hP
        have hEv := fun y => zj8 (Y' ++ y) p (hP.more y)
        have hHe := fun z => zjc (Y' ++ z) p n r i s x y P (.of hx) (hP.more z)
        have hEn := fun z => zj7 (Y' ++ z) p c t y (hP.more z)
        have hsz : sgZ = .int .i64 0 :: (hc zeroH ++ [.int .i64 0, .str [], .nilsl]) := rfl
        simp only [hz, List.cons_append, List.nil_append] at hsz
        have hez : evZ.length = 106 := rfl
        rw [hsz] at hNo
        repeat' (first|refine zW.zs ?_|refine zW.zb ?_|refine zW.zc ?_|refine zW.zt rfl ?_|refine zW.zf rfl ?_|(refine zW.zd rfl (fun ht => ?_) (fun ht => ?_)<;>try (exfalso;omega))|((first|refine zW.zr ?_|refine zW.zk ?_|refine zW.ze ?_|refine zW.zq ?_|(apply callW.mk_pu; (first | exact (fun _ => hNo) | exact (fun _ => hEv _) | exact (fun _ => hHe _) | exact (fun _ => hEn _))) | (apply callW.za; (first | exact (hNo) | exact (hEv _) | exact (hHe _) | exact (hEn _))) | ((first|apply zg0|apply zg1|apply zg2|apply zg3|apply zg4|apply zg5|apply zg6|apply zg7)<;>intro ht));all_goals try simp (disch:=first|omega|(simp only [lens,z6,z7,List.length_reverse,List.length_map,List.length_take,List.length_drop,zg];first|done|omega)) only [go_sem,reduceEqDiff,Nat.reduceBEq,reduceAdd,reduceMul,reduceSub,reduceLeDiff,reduceToNat,reducePow, q2, q3, q5, q6, c0, c1, ht', hc0, xc, yc]))
        refine ⟨m - 1, by omega, turn + 1, by omega, he.app, by simp, .inr ⟨_, rfl, ?_⟩⟩
        simp [adC0, sgZ, hz]
      · have ht' : ¬ (turn : Int) < 2 := by omega
        repeat' (first|refine zW.zs ?_|refine zW.zb ?_|refine zW.zc ?_|refine zW.zt rfl ?_|refine zW.zf rfl ?_|(refine zW.zd rfl (fun ht => ?_) (fun ht => ?_)<;>try (exfalso;omega))|((first|refine zW.zr ?_|refine zW.zk ?_|refine zW.ze ?_|refine zW.zq ?_|(apply callW.mk_pu; (first | exact (fun _ => hX _))) | (apply callW.za; (first | exact (hX _))) | ((first|apply zg0|apply zg1|apply zg2|apply zg3|apply zg4|apply zg5|apply zg6|apply zg7)<;>intro ht));all_goals try simp (disch:=first|omega|(simp only [lens,z6,z7,List.length_reverse,List.length_map,List.length_take,List.length_drop,zg];first|done|omega)) only [go_sem,reduceEqDiff,Nat.reduceBEq,reduceAdd,reduceMul,reduceSub,reduceLeDiff,reduceToNat,reducePow, q2, q3, q6, ht']))
        exact DownV.pure (τ := []) (news := Y') hw (zz _ rfl)
  · repeat' (first|refine zW.zs ?_|refine zW.zb ?_|refine zW.zc ?_|refine zW.zt rfl ?_|refine zW.zf rfl ?_|(refine zW.zd rfl (fun ht => ?_) (fun ht => ?_)<;>try (exfalso;omega))|((first|refine zW.zr ?_|refine zW.zk ?_|refine zW.ze ?_|refine zW.zq ?_|(apply callW.mk_pu; (first | exact (fun _ => hGr _ _) | exact (fun _ => hX _))) | (apply callW.za; (first | exact (hGr _ _) | exact (hX _))) | ((first|apply zg0|apply zg1|apply zg2|apply zg3|apply zg4|apply zg5|apply zg6|apply zg7)<;>intro ht));all_goals try simp (disch:=first|omega|(simp only [lens,z6,z7,List.length_reverse,List.length_map,List.length_take,List.length_drop,zg];first|done|omega)) only [go_sem,reduceEqDiff,Nat.reduceBEq,reduceAdd,reduceMul,reduceSub,reduceLeDiff,reduceToNat,reducePow, xc, yc, r1, h1, h2]))
    exact Ext.pure hw (⟨_, rfl⟩) (zz _ rfl)
end Am
end Go.Proofs.YtjgljhbmljgaeaaDoor
end
section
/- Publishers: contracts: New, Key. -/
namespace Go.Proofs.YtjgljhbmljgaeaaDoor
namespace Am
attribute [local irreducible] ACallsTo ACallsP pubH
/-- A publisher's cells: its tree, log, leaves, range (how many, hashes), heads. -/
def pbC (t : AV) (log lv : AV) (n : Int) (rg hs : AV) : List AV := [t, log, lv, .int .i64 n, rg, hs]
theorem zc3 (Y : Store) (r t : Nat) (log lv rg hs : AV) (n : Int) (hg : Y[r]? = some (some [pbC (.ptr t 0 0) log lv n rg hs])) : ACallsTo TC 37 [.ptr r 0 0] Y (.bool false) Y := by
  have d := slen hg
  unfold pbC at hg
  refine ACallsTo.of_body q1lok (by simp) fun hw _ => ?_
  repeat' (first|refine zW.zs ?_|refine zW.zb ?_|refine zW.zc ?_|refine zW.zt rfl ?_|refine zW.zf rfl ?_|(refine zW.zd rfl (fun ht => ?_) (fun ht => ?_)<;>try (exfalso;omega))|((first|refine zW.zr ?_|refine zW.zk ?_|refine zW.ze ?_|refine zW.zq ?_|((first|apply zg0|apply zg1|apply zg2|apply zg3|apply zg4|apply zg5|apply zg6|apply zg7)<;>intro ht));all_goals try simp (disch:=first|omega|(simp only [lens,z6,z7,List.length_reverse,List.length_map,List.length_take,List.length_drop];first|done|omega)) only [go_sem,reduceEqDiff,Nat.reduceBEq,reduceAdd,reduceMul,reduceSub,reduceLeDiff,reduceToNat,reducePow, hg]))
  exact DownV.same hw z2s
theorem zog (Y : Store) (r t : Nat) (seed : List UInt8) (K : List Hash) (log lv rg hs : AV) (n : Int) (hg : Y[r]? = some (some [pbC (.ptr t 0 0) log lv n rg hs])) (ht : Y[t]? = some (some [z1g true seed K])) (hK : K.length = 8) : ACallsTo TC 15 [.ptr r 0 0] Y (.agg (hc (z1b K))) Y := by
  have d := slen hg
  have d2 := slen ht
  have hN := fun y => zc3 (Y ++ y) r t log lv rg hs n (by rw [gapp d]; exact hg)
  have hR := fun y => zho (Y ++ y) t seed K (by rw [gapp d2]; exact ht) hK
  unfold pbC at hg
  refine ACallsTo.of_body q1iok (by simp) fun hw _ => ?_
  repeat' (first|refine zW.zs ?_|refine zW.zb ?_|refine zW.zc ?_|refine zW.zt rfl ?_|refine zW.zf rfl ?_|(refine zW.zd rfl (fun ht => ?_) (fun ht => ?_)<;>try (exfalso;omega))|((first|refine zW.zr ?_|refine zW.zk ?_|refine zW.ze ?_|refine zW.zq ?_|(apply callW.mk_pu; (first | exact (fun _ => hN _) | exact (fun _ => hR _))) | (apply callW.za; (first | exact (hN _) | exact (hR _))) | ((first|apply zg0|apply zg1|apply zg2|apply zg3|apply zg4|apply zg5|apply zg6|apply zg7)<;>intro ht));all_goals try simp (disch:=first|omega|(simp only [lens,z6,z7,List.length_reverse,List.length_map,List.length_take,List.length_drop];first|done|omega)) only [go_sem,reduceEqDiff,Nat.reduceBEq,reduceAdd,reduceMul,reduceSub,reduceLeDiff,reduceToNat,reducePow, hg]))
  exact DownV.pure hw (z3d _)
end Am
end Go.Proofs.YtjgljhbmljgaeaaDoor
end
section
/- Publishers: contracts: copied. -/
namespace Go.Proofs.YtjgljhbmljgaeaaDoor
namespace Am
theorem zpj (n : Int) (r : Hash) (i : Int) (s : List UInt8) (x v : AV) : (sgC n r i s x).set 35 v = sgC n r i s v := by
  unfold sgC
  rw [List.set_cons_succ, List.set_append_right _ _ (by rw [z6]; omega), z6]
  rfl
theorem zh4 (n : Int) (r : Hash) (i : Int) (s : List UInt8) (x v : AV) : (sgC n r i s x).take 35 ++ v :: (sgC n r i s x).drop 36 = sgC n r i s v := by
  have h := zpj n r i s x v
  rwa [List.set_eq_take_append_cons_drop, if_pos (by rw [zg]; omega)] at h
theorem z8b {τ news : Store} (n : Int) (r : Hash) (i : Int) (s : List UInt8) (x v : AV) (h : DR (FrzD τ news) v x) : DR (FrzD τ news) (.agg (sgC n r i s v)) (.agg (sgC n r i s x)) := by
  refine drA (drsc (FrzD.same (by simp [RL])) ?_)
  have h2 : DRs (FrzD τ news) [.int .i64 i, .str s, v] [.int .i64 i, .str s, x] := drsc (FrzD.same (by simp [RL])) (drsc (FrzD.same (by simp [RL])) (drs1 h))
  have : ∀ (l : List AV), RLs τ.length l -> DRs (FrzD τ news) (l ++ [.int .i64 i, .str s, v]) (l ++ [.int .i64 i, .str s, x]) := by
    intro l
    induction l with
    | nil => exact fun _ => h2
    | cons a l ih => exact fun hl => by simp only [RLs] at hl; exact drsc (FrzD.same hl.1) (ih hl.2)
  exact this _ (za5 r)
attribute [local irreducible] ACallsTo ACallsP
set_option maxHeartbeats 4000000 in
theorem zkk (Y : Store) (n : Int) (r : Hash) (i : Int) (s : List UInt8) (l : List Hash) (x : AV) (hx : RdSl Y 32 (hr l) x) (hl : l.length < 1000000) : ACallsTo TC 41 [.agg (sgC n r i s x)] Y (.agg (sgC n r i s (z11 32 (hr l)))) Y := by
  have xc := hx.cells
  unfold cellsOf at xc
  have hrel := fun y => (RdSl.app (y := y) hx).rel
  have hst := fun x v => zh4 n r i s x v
  refine ACallsTo.of_body q1mok (by simp) fun hw _ => ?_
  by_cases h0 : l = []
  · subst h0
    have e0 : z11 32 (hr []) = .nilsl := rfl
    rw [e0]
    rcases hx with (⟨rfl, _⟩ | ⟨ex, rfl⟩) | ⟨q, off, lim, o, rfl, hg, h1, h2⟩
    · repeat' (first|refine zW.zs ?_|refine zW.zb ?_|refine zW.zc ?_|refine zW.zt rfl ?_|refine zW.zf rfl ?_|(refine zW.zd rfl (fun ht => ?_) (fun ht => ?_)<;>try (exfalso;omega))|((first|refine zW.zr ?_|refine zW.zk ?_|refine zW.ze ?_|refine zW.zq ?_|((first|apply zg0|apply zg1|apply zg2|apply zg3|apply zg4|apply zg5|apply zg6|apply zg7)<;>intro ht));all_goals try simp (disch:=first|omega|(simp only [lens,z6,z7,List.length_reverse,List.length_map,List.length_take,List.length_drop,zg];first|done|omega)) only [go_sem,reduceEqDiff,Nat.reduceBEq,reduceAdd,reduceMul,reduceSub,reduceLeDiff,reduceToNat,reducePow, xc, hst]))
      exact DownV.all hw (z8b n r i s .nilsl .nilsl (FrzD.same (by simp [RL])))
    · rw [zbk] at *
      repeat' (first|refine zW.zs ?_|refine zW.zb ?_|refine zW.zc ?_|refine zW.zt rfl ?_|refine zW.zf rfl ?_|(refine zW.zd rfl (fun ht => ?_) (fun ht => ?_)<;>try (exfalso;omega))|((first|refine zW.zr ?_|refine zW.zk ?_|refine zW.ze ?_|refine zW.zq ?_|((first|apply zg0|apply zg1|apply zg2|apply zg3|apply zg4|apply zg5|apply zg6|apply zg7)<;>intro ht));all_goals try simp (disch:=first|omega|(simp only [lens,z6,z7,List.length_reverse,List.length_map,List.length_take,List.length_drop,zg];first|done|omega)) only [go_sem,reduceEqDiff,Nat.reduceBEq,reduceAdd,reduceMul,reduceSub,reduceLeDiff,reduceToNat,reducePow, xc, hst]))
      exact DownV.all hw (z8b n r i s .nilsl .nilsl (FrzD.same (by simp [RL])))
    · have dg := slen hg
      have h1' := h1
      rw [z7] at h1'
      repeat' (first|refine zW.zs ?_|refine zW.zb ?_|refine zW.zc ?_|refine zW.zt rfl ?_|refine zW.zf rfl ?_|(refine zW.zd rfl (fun ht => ?_) (fun ht => ?_)<;>try (exfalso;omega))|((first|refine zW.zr ?_|refine zW.zk ?_|refine zW.ze ?_|refine zW.zq ?_|((first|apply zg0|apply zg1|apply zg2|apply zg3|apply zg4|apply zg5|apply zg6|apply zg7)<;>intro ht));all_goals try simp (disch:=first|omega|(simp only [lens,z6,z7,List.length_reverse,List.length_map,List.length_take,List.length_drop,zg];first|done|omega)) only [go_sem,reduceEqDiff,Nat.reduceBEq,reduceAdd,reduceMul,reduceSub,reduceLeDiff,reduceToNat,reducePow, xc, hg, hst, h1, h2]))
      exact DownV.all hw (z8b n r i s .nilsl .nilsl (FrzD.same (by simp [RL])))
  · have hne : hr l ≠ [] := fun e => h0 (hr_nil_iff.1 e)
    have hl0 : l.length ≠ 0 := fun e => h0 (List.eq_nil_of_length_eq_zero e)
    have e0 : z11 32 (hr l) = .vsl 32 (hr l) false := by unfold z11; rw [if_neg hne]
    rw [e0]
    have hf : ∀ (news : Store) (q : Nat), Y.length <= q -> (Y ++ news)[q]? = some (some (hr l)) -> DR (FrzD Y news) (.vsl 32 (hr l) false) (.sl q 0 l.length none 32) := by
      intro news q hq hg
      rw [show l.length = (hr l).length from (z7 l).symm]
      exact FrzD.sl (o := hr l) (off := 0) hq hg (by omega) (by simp) (z2t l)
    rcases hx with (⟨rfl, h⟩ | ⟨ex, rfl⟩) | ⟨q, off, lim, o, rfl, hg, h1, h2⟩
    · exact absurd h hne
    · repeat' (first|refine zW.zs ?_|refine zW.zb ?_|refine zW.zc ?_|refine zW.zt rfl ?_|refine zW.zf rfl ?_|(refine zW.zd rfl (fun ht => ?_) (fun ht => ?_)<;>try (exfalso;omega))|((first|refine zW.zr ?_|refine zW.zk ?_|refine zW.ze ?_|refine zW.zq ?_|((first|apply zg0|apply zg1|apply zg2|apply zg3|apply zg4|apply zg5|apply zg6|apply zg7)<;>intro ht));all_goals try simp (disch:=first|omega|(simp only [lens,z6,z7,List.length_reverse,List.length_map,List.length_take,List.length_drop,zg];first|done|omega)) only [go_sem,reduceEqDiff,Nat.reduceBEq,reduceAdd,reduceMul,reduceSub,reduceLeDiff,reduceToNat,reducePow, xc, hst, hl0]))
      exact DownV.all hw (z8b n r i s _ _ (hf _ (Y.length + 2) (by omega) (by rw [z1n (by omega), Nat.add_sub_cancel_left]; rfl)))
    · have dg := slen hg
      rw [z7] at *
      repeat' (first|refine zW.zs ?_|refine zW.zb ?_|refine zW.zc ?_|refine zW.zt rfl ?_|refine zW.zf rfl ?_|(refine zW.zd rfl (fun ht => ?_) (fun ht => ?_)<;>try (exfalso;omega))|((first|refine zW.zr ?_|refine zW.zk ?_|refine zW.ze ?_|refine zW.zq ?_|((first|apply zg0|apply zg1|apply zg2|apply zg3|apply zg4|apply zg5|apply zg6|apply zg7)<;>intro ht));all_goals try simp (disch:=first|omega|(simp only [lens,z6,z7,List.length_reverse,List.length_map,List.length_take,List.length_drop,zg];first|done|omega)) only [go_sem,reduceEqDiff,Nat.reduceBEq,reduceAdd,reduceMul,reduceSub,reduceLeDiff,reduceToNat,reducePow, xc, hg, hst, h1, h2, hl0]))
      exact DownV.all hw (z8b n r i s _ _ (hf _ (Y.length + 2) (by omega) (by rw [z1n (by omega), Nat.add_sub_cancel_left]; rfl)))
end Am
end Go.Proofs.YtjgljhbmljgaeaaDoor
end
section
/- Publishers: contracts: Log. -/
namespace Go.Proofs.YtjgljhbmljgaeaaDoor
namespace Am
attribute [local irreducible] ACallsTo ACallsP
set_option maxHeartbeats 4000000 in
theorem zoh (Y : Store) (r t : Nat) (L : List (List UInt8)) (x lv rg hs : AV) (n : Int) (hg : Y[r]? = some (some [pbC (.ptr t 0 0) x lv n rg hs])) (hx : (L = [] /\ x = .nilsl) \/ ∃ q, L ≠ [] /\ x = .sl q 0 L.length none 1 /\ Y[q]? = some (some (strs L))) (hl : L.length < 1000000) :
    ACallsTo TC 17 [.ptr r 0 0] Y (z11 1 (strs L)) Y := by
  have d := slen hg
  have hN := zc3 Y r t x lv rg hs n hg
  unfold pbC at hg
  refine ACallsTo.of_body q1jok (by simp) fun hw _ => ?_
  rcases hx with ⟨rfl, rfl⟩ | ⟨q, h0, rfl, hq⟩
  · repeat' (first|refine zW.zs ?_|refine zW.zb ?_|refine zW.zc ?_|refine zW.zt rfl ?_|refine zW.zf rfl ?_|(refine zW.zd rfl (fun ht => ?_) (fun ht => ?_)<;>try (exfalso;omega))|((first|refine zW.zr ?_|refine zW.zk ?_|refine zW.ze ?_|refine zW.zq ?_|(apply callW.mk_pu; (first | exact (fun _ => hN))) | (apply callW.za; (first | exact (hN))) | ((first|apply zg0|apply zg1|apply zg2|apply zg3|apply zg4|apply zg5|apply zg6|apply zg7)<;>intro ht));all_goals try simp (disch:=first|omega|(simp only [lens,z6,z7,List.length_reverse,List.length_map,List.length_take,List.length_drop,zg];first|done|omega)) only [go_sem,reduceEqDiff,Nat.reduceBEq,reduceAdd,reduceMul,reduceSub,reduceLeDiff,reduceToNat,reducePow, hg]))
    exact Ext.pure hw (.refl Y) (zz _ rfl)
  · have dq := slen hq
    have hl0 : L.length ≠ 0 := fun e => h0 (List.eq_nil_of_length_eq_zero e)
    have htl := z14 L
    have hne : strs L ≠ [] := fun e => by rw [e] at htl; simp at htl; omega
    repeat' (first|refine zW.zs ?_|refine zW.zb ?_|refine zW.zc ?_|refine zW.zt rfl ?_|refine zW.zf rfl ?_|(refine zW.zd rfl (fun ht => ?_) (fun ht => ?_)<;>try (exfalso;omega))|((first|refine zW.zr ?_|refine zW.zk ?_|refine zW.ze ?_|refine zW.zq ?_|(apply callW.mk_pu; (first | exact (fun _ => hN))) | (apply callW.za; (first | exact (hN))) | ((first|apply zg0|apply zg1|apply zg2|apply zg3|apply zg4|apply zg5|apply zg6|apply zg7)<;>intro ht));all_goals try simp (disch:=first|omega|(simp only [lens,z6,z7,List.length_reverse,List.length_map,List.length_take,List.length_drop,zg];first|done|omega)) only [go_sem,reduceEqDiff,Nat.reduceBEq,reduceAdd,reduceMul,reduceSub,reduceLeDiff,reduceToNat,reducePow, hg, hq, htl, hl0]))
    refine DownV.all hw ?_
    unfold z11
    rw [if_neg hne, <- z14 L]
    exact FrzD.sl (o := strs L) (off := 0) (by omega) (by rw [z1n (by omega), Nat.sub_self]; rfl) (by omega) (by simp) (zgr L)
end Am
end Go.Proofs.YtjgljhbmljgaeaaDoor
end
section
/- Publishers: contracts: Heads. -/
namespace Go.Proofs.YtjgljhbmljgaeaaDoor
namespace Am
/-- A signed head: size, root, index, signature, path. -/
structure Hdr where
  n : Int
  r : Hash
  i : Int
  s : List UInt8
  p : List Hash
def hdrC (h : Hdr) : List AV := sgC h.n h.r h.i h.s (z11 32 (hr h.p))
def hdrs (H : List Hdr) : List (List AV) := H.map hdrC
theorem z8h (H : List Hdr) : (hdrs H).length = H.length := by simp [hdrs]
theorem zo (h : Hdr) : (hdrC h).length = 36 := zg _ _ _ _ _
theorem zp1 {k : Nat} (h : Hdr) : RLs k (hdrC h) := zcb (zgp (z2t _))
theorem zgq {k : Nat} : ∀ (H : List Hdr), RLss k (hdrs H)
  | [] => by simp [hdrs, RLss]
  | h :: H => by simp only [hdrs, List.map_cons, RLss]; exact ⟨zp1 h, zgq H⟩
theorem zlu {H : List Hdr} {i : Nat} (h : i < H.length) : (hdrs H)[i]? = some (hdrC H[i]) := by
  simp [hdrs, List.getElem?_eq_getElem h]
theorem zlw {H : List Hdr} {i : Nat} (h : i < H.length) : hdrs (H.take i) ++ [hdrC H[i]] = hdrs (H.take (i + 1)) := by
  unfold hdrs; rw [List.take_succ_eq_append_getElem h, List.map_append]; rfl
attribute [local irreducible] ACallsTo ACallsP
set_option maxHeartbeats 4000000 in
theorem zof (Y : Store) (r t : Nat) (H : List Hdr) (x lg lv rg : AV) (n : Int) (hg : Y[r]? = some (some [pbC (.ptr t 0 0) lg lv n rg x])) (hx : (H = [] /\ x = .nilsl) \/ ∃ q, H ≠ [] /\ x = .sl q 0 H.length none 36 /\ Y[q]? = some (some (hdrs H))) (hl : H.length < 1000000) (hp : ∀ h ∈ H, h.p.length < 1000000) :
    ACallsTo TC 18 [.ptr r 0 0] Y (z11 36 (hdrs H)) Y := by
  have d := slen hg
  have hN := zc3 Y r t lg lv rg x n hg
  unfold pbC at hg
  refine ACallsTo.of_body q1kok (by simp) fun hw _ => ?_
  have hlen : z1k x = some (.int .i64 H.length) := by
    rcases hx with ⟨rfl, rfl⟩ | ⟨q, h0, rfl, hq⟩ <;> rfl
  unfold z1k at hlen
  repeat' (first|refine zW.zs ?_|refine zW.zb ?_|refine zW.zc ?_|refine zW.zt rfl ?_|refine zW.zf rfl ?_|(refine zW.zd rfl (fun ht => ?_) (fun ht => ?_)<;>try (exfalso;omega))|((first|refine zW.zr ?_|refine zW.zk ?_|refine zW.ze ?_|refine zW.zq ?_|(apply callW.mk_pu; (first | exact (fun _ => hN))) | (apply callW.za; (first | exact (hN))) | ((first|apply zg0|apply zg1|apply zg2|apply zg3|apply zg4|apply zg5|apply zg6|apply zg7)<;>intro ht));all_goals try simp (disch:=first|omega|(simp only [lens,z6,z7,List.length_reverse,List.length_map,List.length_take,List.length_drop,zg];first|done|omega)) only [go_sem,reduceEqDiff,Nat.reduceBEq,reduceAdd,reduceMul,reduceSub,reduceLeDiff,reduceToNat,reducePow, hg, hlen]))
  refine zW.loop (fun m O Y' => ∃ (i : Nat) (v : AV), m + i = H.length /\ OwnN 36 Y Y' v (hdrs (H.take i)) /\ O 3 = v /\ O 11 = x /\ O 12 = .int .i64 H.length /\ O 13 = .int .i64 i) H.length ?_ ?_
  · exact ⟨0, .nilsl, by omega, ⟨[], by simp, .inl ⟨by simp [hdrs], rfl⟩⟩, by simp (disch:=first|omega|(simp only [lens,z6,z7,List.length_reverse,List.length_map,List.length_take,List.length_drop,zg];first|done|omega)) only [go_sem,reduceEqDiff,Nat.reduceBEq,reduceAdd,reduceMul,reduceSub,reduceLeDiff,reduceToNat,reducePow], by simp (disch:=first|omega|(simp only [lens,z6,z7,List.length_reverse,List.length_map,List.length_take,List.length_drop,zg];first|done|omega)) only [go_sem,reduceEqDiff,Nat.reduceBEq,reduceAdd,reduceMul,reduceSub,reduceLeDiff,reduceToNat,reducePow], by simp (disch:=first|omega|(simp only [lens,z6,z7,List.length_reverse,List.length_map,List.length_take,List.length_drop,zg];first|done|omega)) only [go_sem,reduceEqDiff,Nat.reduceBEq,reduceAdd,reduceMul,reduceSub,reduceLeDiff,reduceToNat,reducePow], by simp (disch:=first|omega|(simp only [lens,z6,z7,List.length_reverse,List.length_map,List.length_take,List.length_drop,zg];first|done|omega)) only [go_sem,reduceEqDiff,Nat.reduceBEq,reduceAdd,reduceMul,reduceSub,reduceLeDiff,reduceToNat,reducePow]; rfl⟩
  · rintro m O Y' ⟨i, v, hm, hO, q3, q11, q12, q13⟩
    by_cases hi : i < H.length
    · have hi' : (i : Int) < H.length := by omega
      rcases hx with ⟨rfl, _⟩ | ⟨q, h0, rfl, hq⟩
      · simp at hi
      have dq := slen hq
      have hq' : Y'[q]? = some (some (hdrs H)) := by
        obtain ⟨y, rfl⟩ := hO.ext
        rw [gapp dq]; exact hq
      have hgi := zlu hi
      have hst := zlw hi
      have hpp := hp H[i] (List.getElem_mem hi)
      generalize H[i] = h at *
      obtain ⟨v', Y2, ha, hO2⟩ := (hO.more [some [hdrC h]]).app (ys := [hdrC h]) (by simp) (by rw [z8h, List.length_take]; simp; omega)
      rw [hst] at hO2
      have hC := fun Y => zkk Y h.n h.r h.i h.s h.p (z11 32 (hr h.p)) (.of (z6l _ _)) hpp
      rw [show sgC h.n h.r h.i h.s (z11 32 (hr h.p)) = hdrC h from rfl] at hC
      have hcl := zo h
      have hdl := z8h H
      repeat' (first|refine zW.zs ?_|refine zW.zb ?_|refine zW.zc ?_|refine zW.zt rfl ?_|refine zW.zf rfl ?_|(refine zW.zd rfl (fun ht => ?_) (fun ht => ?_)<;>try (exfalso;omega))|((first|refine zW.zr ?_|refine zW.zk ?_|refine zW.ze ?_|refine zW.zq ?_|(apply callW.mk_pu; (first | exact (fun _ => hC _))) | (apply callW.za; (first | exact (hC _))) | ((first|apply zg0|apply zg1|apply zg2|apply zg3|apply zg4|apply zg5|apply zg6|apply zg7)<;>intro ht));all_goals try simp (disch:=first|omega|(simp only [lens,z6,z7,List.length_reverse,List.length_map,List.length_take,List.length_drop,zg];first|done|omega)) only [go_sem,reduceEqDiff,Nat.reduceBEq,reduceAdd,reduceMul,reduceSub,reduceLeDiff,reduceToNat,reducePow, q3, q11, q12, q13, hi', hq', hgi, hcl, hdl, ha]))
      exact ⟨m - 1, by omega, i + 1, v', by omega, hO2, rfl, by simp⟩
    · obtain rfl : i = H.length := by omega
      have hi' : ¬ ((H.length : Nat) : Int) < H.length := by omega
      rw [List.take_of_length_le (Nat.le_refl _)] at hO
      repeat' (first|refine zW.zs ?_|refine zW.zb ?_|refine zW.zc ?_|refine zW.zt rfl ?_|refine zW.zf rfl ?_|(refine zW.zd rfl (fun ht => ?_) (fun ht => ?_)<;>try (exfalso;omega))|((first|refine zW.zr ?_|refine zW.zk ?_|refine zW.ze ?_|refine zW.zq ?_|((first|apply zg0|apply zg1|apply zg2|apply zg3|apply zg4|apply zg5|apply zg6|apply zg7)<;>intro ht));all_goals try simp (disch:=first|omega|(simp only [lens,z6,z7,List.length_reverse,List.length_map,List.length_take,List.length_drop,zg];first|done|omega)) only [go_sem,reduceEqDiff,Nat.reduceBEq,reduceAdd,reduceMul,reduceSub,reduceLeDiff,reduceToNat,reducePow, q3, q11, q12, q13, hi']))
      exact hO.froze hw (zgq H)
end Am
end Go.Proofs.YtjgljhbmljgaeaaDoor
end
section
/- Publishers: contracts: Publish where nothing is new, or no key is left. -/
namespace Go.Proofs.YtjgljhbmljgaeaaDoor
namespace Am
attribute [local irreducible] ACallsTo ACallsP
end Am
end Go.Proofs.YtjgljhbmljgaeaaDoor
end
section
/- What a law with the laid tables of sha begins with. -/
namespace Go.Proofs.YtjgljhbmljgaeaaDoor.LawDoor
open Go.ChangeShapes Go.WideShapes Go.ChangeAt Go.RowKit
theorem own : ownKnob Tryd.prog.godebug = none := by kernel_rfl
theorem zmp : laidOutB Tryd.prog = true := by kernel_rfl
def z8k : List (String × DataW Unit) := [("speculum/sha.first", Rows.laid_speculum_sha_first), ("speculum/sha.rounds", Rows.laid_speculum_sha_rounds)]
set_option maxRecDepth 100000
/-- The door's own heap meets the condition. -/
theorem zkn (os : Os) (args : Array Value) : laidMetH Tryd.prog z8k ((World.doorLaid Tryd.prog 400 os).forCall (fun _ _ => 0) ⟨#[], args, []⟩).memory :=
  laidMetH_of_parts3 (fuel := 8) (laidMet_of_run' 8 (by kernel_rfl) (by kernel_rfl)) (by kernel_rfl) (by kernel_rfl)
/-- What the condition gives the walks: the tables, as_ the machine knows them. -/
theorem rel_of {W : World} (h : laidMetH Tryd.prog z8k W) : Am.Rel Am.TC [] [] W := by
  rw [MakeChecks.laidMetH_plain _ _ _ (by kernel_rfl)] at h
  obtain ⟨ps, ⟨g0, t0, cs0, f0, p0, q0, hg0, ht0, hv0, hd0, ⟨g1, t1, cs1, f1, p1, q1, hg1, ht1, hv1, hd1, _, _⟩, _⟩, _, _⟩ := h
  have v0 := Am.vp_of_var (P := Tryd.prog) (n := "speculum/sha.first") (g := 0) (t := 125) (e := 124) (m := 8) (k := .u32) Am.shaFirst (by kernel_rfl) (by kernel_rfl) (by kernel_rfl) (by kernel_rfl) (by kernel_rfl) (by kernel_rfl) hg0 ht0 hv0 hd0
  have v1 := Am.vp_of_var (P := Tryd.prog) (n := "speculum/sha.rounds") (g := 1) (t := 146) (e := 124) (m := 64) (k := .u32) Am.shaRounds (by kernel_rfl) (by kernel_rfl) (by kernel_rfl) (by kernel_rfl) (by kernel_rfl) (by kernel_rfl) hg1 ht1 hv1 hd1
  refine ⟨rfl, fun r o h => by simp at h, fun r h => by simp at h, fun r r' pl pl' h => by simp at h, fun g cs h => ?_⟩
  simp only [Am.TC] at h
  split at h
  · rename_i hg; subst hg; cases h; exact v0
  · split at h
    · rename_i hg; subst hg; cases h; exact v1
    · cases h
end Go.Proofs.YtjgljhbmljgaeaaDoor.LawDoor
end
section
/- Publishers: one that is made, in memory; Append. -/
namespace Go.Proofs.YtjgljhbmljgaeaaDoor
namespace Am
/-- Two rows whose first elements are unlike in length are not the same one. -/
theorem z8q {Y : Store} {q q' : Nat} {a b : List AV} {es es' : List (List AV)} (h : Y[q]? = some (some es)) (h' : Y[q']? = some (some es')) (e : es[0]? = some a) (e' : es'[0]? = some b) (hl : a.length ≠ b.length) : q ≠ q' := by
  rintro rfl
  rw [h] at h'
  simp only [Option.some.injEq] at h'
  subst h'
  rw [e] at e'
  simp only [Option.some.injEq] at e'
  exact hl (by rw [e'])
theorem zq9 {L : List (List UInt8)} (h : L ≠ []) : ∃ a : List AV, (strs L)[0]? = some a /\ a.length = 1 := by
  cases L with
  | nil => exact absurd rfl h
  | cons s L => exact ⟨[.str s], rfl, rfl⟩
theorem hr_at0 {l : List Hash} (h : l ≠ []) : ∃ a : List AV, (hr l)[0]? = some a /\ a.length = 32 := by
  cases l with
  | nil => exact absurd rfl h
  | cons s l => exact ⟨hc s, rfl, z6 s⟩
theorem zfa {H : List Hdr} (h : H ≠ []) : ∃ a : List AV, (hdrs H)[0]? = some a /\ a.length = 36 := by
  cases H with
  | nil => exact absurd rfl h
  | cons s H => exact ⟨hdrC s, rfl, zo s⟩
theorem RowAt.ne {sz n q : Nat} {Y : Store} {sid : Option Nat} {v : AV} {es es' : List (List AV)} {b : List AV} (h : RowAt sz Y sid v es) (hw : es ≠ [] -> ∃ a : List AV, es[0]? = some a /\ a.length = n) (h' : Y[q]? = some (some es')) (e' : es'[0]? = some b) (hb : b.length ≠ n) : ∀ j, sid = some j -> j ≠ q := by
  intro j e
  rcases h with ⟨e2, _⟩ | ⟨j', e2, hn, _, hg⟩
  · rw [e2] at e; cases e
  · rw [e2] at e; cases e
    obtain ⟨a, ha, hl⟩ := hw hn
    exact z8q hg h' ha e' (by omega)
theorem RowAt.ne2 {sz n sz' n' : Nat} {Y : Store} {sid sid' : Option Nat} {v v' : AV} {es es' : List (List AV)} (h : RowAt sz Y sid v es) (hw : es ≠ [] -> ∃ a : List AV, es[0]? = some a /\ a.length = n) (h' : RowAt sz' Y sid' v' es') (hw' : es' ≠ [] -> ∃ a : List AV, es'[0]? = some a /\ a.length = n') (hnn : n ≠ n') : ∀ j, sid = some j -> sid' ≠ some j := by
  intro j e e'
  rcases h' with ⟨e2, _⟩ | ⟨j', e2, hn, _, hg⟩
  · rw [e2] at e'; cases e'
  · rw [e2] at e'; cases e'
    obtain ⟨a, ha, hl⟩ := hw' hn
    exact h.ne hw hg ha (by omega) j e rfl
theorem zhj {L : List (List UInt8)} (h : strs L ≠ []) : ∃ a : List AV, (strs L)[0]? = some a /\ a.length = 1 := zq9 fun e => h (by rw [e]; rfl)
theorem hr_w {l : List Hash} (h : hr l ≠ []) : ∃ a : List AV, (hr l)[0]? = some a /\ a.length = 32 := hr_at0 fun e => h (by rw [e]; rfl)
theorem zbi {H : List Hdr} (h : hdrs H ≠ []) : ∃ a : List AV, (hdrs H)[0]? = some a /\ a.length = 36 := zfa fun e => h (by rw [e]; rfl)
/-- What stays: all elder objects but the own ones; the own ones then are of those, or new. -/
structure Fr (Y Y' : Store) (own own' : List Nat) : Prop where
  st : ∀ j, j < Y.length -> j ∉ own -> Y'[j]? = Y[j]?
  new : ∀ j, j ∈ own' -> j ∈ own \/ Y.length <= j
  le : Y.length <= Y'.length
theorem Fr.ext {Y Y' : Store} {own : List Nat} (h : Ext Y Y') : Fr Y Y' own own := by
  refine ⟨fun j hj _ => ?_, fun j hj => .inl hj, h.le⟩
  obtain ⟨y, rfl⟩ := h
  exact gapp hj
theorem Fr.get {Y Y' : Store} {own own' : List Nat} (h : Fr Y Y' own own') {j : Nat} {o : Option AObj} (hg : Y[j]? = some o) (hj : j ∉ own) : Y'[j]? = some o := by
  rw [h.st j (slen hg) hj]; exact hg
/-- A publisher, in memory: what it has; which objects are its own. -/
def PubIs (Y : Store) (r : Nat) (seed : List UInt8) (L : List (List UInt8)) (H : List Hdr) (own : List Nat) : Prop :=
  ∃ t lg lv z hs sl sv sh, own = r :: t :: (Option.toList sl ++ (Option.toList sv ++ Option.toList sh)) /\ Y[r]? = some (some [pbC (.ptr t 0 0) lg lv L.length z hs]) ∧
    Y[t]? = some (some [z1g true seed (keyL seed)]) /\ RowAt 1 Y sl lg (strs L) /\ RowAt 32 Y sv lv (hr (lvs L)) /\ SlV 32 (hr (ofR (lvs L)).reverse) z /\ RowAt 36 Y sh hs (hdrs H)
theorem PubIs.lt {Y : Store} {r : Nat} {seed : List UInt8} {L : List (List UInt8)} {H : List Hdr} {own : List Nat} (h : PubIs Y r seed L H own) {j : Nat} (hj : j ∈ own) : j < Y.length := by
  obtain ⟨t, lg, lv, z, hs, sl, sv, sh, rfl, hg, ht, h1, h2, hz, h3⟩ := h
  simp only [List.mem_cons, List.mem_append, Option.mem_toList] at hj
  rcases hj with rfl | rfl | h | h | h
  · exact slen hg
  · exact slen ht
  · exact h1.lt h
  · exact h2.lt h
  · exact h3.lt h
theorem PubIs.keep {Y Y' : Store} {r : Nat} {seed : List UInt8} {L : List (List UInt8)} {H : List Hdr} {own : List Nat} (h : PubIs Y r seed L H own) (hk : ∀ j, j ∈ own -> Y'[j]? = Y[j]?) : PubIs Y' r seed L H own := by
  obtain ⟨t, lg, lv, z, hs, sl, sv, sh, rfl, hg, ht, h1, h2, hz, h3⟩ := h
  refine ⟨t, lg, lv, z, hs, sl, sv, sh, rfl, ?_, ?_, h1.keep fun q e => hk q ?_, h2.keep fun q e => hk q ?_, hz, h3.keep fun q e => hk q ?_⟩
  · rw [hk r (by simp)]; exact hg
  · rw [hk t (by simp)]; exact ht
  all_goals simp [e]
theorem PubIs.ext {Y Y' : Store} {r : Nat} {seed : List UInt8} {L : List (List UInt8)} {H : List Hdr} {own : List Nat} (h : PubIs Y r seed L H own) (he : Ext Y Y') : PubIs Y' r seed L H own := by
  obtain ⟨y, rfl⟩ := he
  exact h.keep fun j hj => gapp (h.lt hj)
/-- What Append answers. -/
def apE (s : List UInt8) : Int := if 200 < s.length then 3 else 0
def apL (L : List (List UInt8)) (s : List UInt8) : List (List UInt8) := if 200 < s.length then L else L ++ [s]
def AppendP (Y : Store) (r : Nat) (seed : List UInt8) (L : List (List UInt8)) (H : List Hdr) (own : List Nat) (s : List UInt8) (a : AV) (Y' : Store) : Prop :=
  a = .int .i64 (apE s) /\ ∃ own', Fr Y Y' own own' /\ PubIs Y' r seed (apL L s) H own'
theorem zqb {L : List (List UInt8)} (h : L ≠ []) : strs L ≠ [] := fun e => h (by cases L with | nil => rfl | cons a l => simp [strs] at e)
theorem zlv {H : List Hdr} (h : H ≠ []) : hdrs H ≠ [] := fun e => h (by cases H with | nil => rfl | cons a l => simp [hdrs] at e)
theorem lvs_ne {L : List (List UInt8)} (h : L ≠ []) : hr (lvs L) ≠ [] := fun e => h (by cases L with | nil => rfl | cons a l => simp [lvs, hr] at e)
theorem AppendP.ok {Y Y' : Store} {r t q1 q2 : Nat} {seed : List UInt8} {L : List (List UInt8)} {H : List Hdr} {s : List UInt8} {z2 hs : AV} {sl sv sh : Option Nat} (h200 : ¬ 200 < s.length)
    (hg : Y'[r]? = some (some [pbC (.ptr t 0 0) (.sl q1 0 (L.length + 1) none 1) (.sl q2 0 (L.length + 1) none 32) ((L.length + 1 : Nat) : Int) z2 hs])) (ht : Y'[t]? = some (some [z1g true seed (keyL seed)]))
    (h1 : Y'[q1]? = some (some (strs (L ++ [s])))) (h2 : Y'[q2]? = some (some (hr (lvs (L ++ [s]))))) (hz : SlV 32 (hr (ofR (lvs (L ++ [s]))).reverse) z2) (h3 : RowAt 36 Y' sh hs (hdrs H))
    (hq1 : Y.length <= q1) (hq2 : Y.length <= q2) (hle : Y.length <= Y'.length) (hst : ∀ j, j < Y.length -> j ≠ r -> sl ≠ some j -> sv ≠ some j -> Y'[j]? = Y[j]?) :
    AppendP Y r seed L H (r :: t :: (Option.toList sl ++ (Option.toList sv ++ Option.toList sh))) s (.int .i64 0) Y' := by
  refine ⟨by unfold apE; rw [if_neg h200], r :: t :: (Option.toList (some q1) ++ (Option.toList (some q2) ++ Option.toList sh)), ⟨fun j hj hn => ?_, fun j hj => ?_, hle⟩, ?_⟩
  · simp only [List.mem_cons, List.mem_append, Option.mem_toList, not_or] at hn
    exact hst j hj hn.1 (fun e => hn.2.2.1 e) (fun e => hn.2.2.2.1 e)
  · simp only [List.mem_cons, List.mem_append, Option.mem_toList, Option.some.injEq] at hj ⊢
    rcases hj with h | h | h | h | h
    · exact .inl (.inl h)
    · exact .inl (.inr (.inl h))
    · exact .inr (by omega)
    · exact .inr (by omega)
    · exact .inl (.inr (.inr (.inr (.inr h))))
  · unfold apL
    rw [if_neg h200]
    have hne : L ++ [s] ≠ [] := by simp
    refine ⟨t, _, _, z2, hs, some q1, some q2, sh, rfl, by rw [List.length_append]; exact hg, ht, .inr ⟨q1, rfl, zqb hne, ?_, h1⟩, .inr ⟨q2, rfl, lvs_ne hne, ?_, h2⟩, hz, h3⟩
    · rw [z14, List.length_append]; rfl
    · rw [z7, z16, List.length_append]; rfl
theorem AppendP.is {Y : Store} {r : Nat} {seed : List UInt8} {L : List (List UInt8)} {H : List Hdr} {own : List Nat} {s : List UInt8} (hT : PubIs Y r seed L H own) : ∃ a Y', AppendP Y r seed L H own s a Y' := by
  by_cases h : 200 < s.length
  · exact ⟨_, Y, rfl, own, .ext (.refl _), by unfold apL; rw [if_pos h]; exact hT⟩
  · obtain ⟨t, lg, lv, z, hs, sl, sv, sh, rfl, hg, ht, h1, h2, hz, h3⟩ := hT
    have d := slen hg
    have d2 := slen ht
    have hrt : t ≠ r := z8q ht hg (a := z1g true seed (keyL seed)) (b := pbC (.ptr t 0 0) lg lv L.length z hs) rfl rfl (by rw [zda, z2x]; simp [pbC])
    refine ⟨_, (Y.set r (some [pbC (.ptr t 0 0) (.sl Y.length 0 (L.length + 1) none 1) (.sl (Y.length + 1) 0 (L.length + 1) none 32) ((L.length + 1 : Nat) : Int) (z11 32 (hr (ofR (lvs (L ++ [s]))).reverse)) hs])) ++ [some (strs (L ++ [s])), some (hr (lvs (L ++ [s])))],
      .ok (Y := Y) (q1 := Y.length) (q2 := Y.length + 1) (hs := hs) h ?_ ?_ ?_ ?_ (z6l _ _) ?_ (Nat.le_refl _) (by omega) (by simp) fun j hj hjr _ _ => ?_⟩
    · rw [gapp (by simpa using d), z2d d]
    · rw [gapp (by simpa using d2), z18 (fun e => hrt e.symm)]; exact ht
    · rw [z1n (by simp)]; simp
    · rw [z1n (by simp)]; simp
    · refine h3.keep fun q e => ?_
      have hq := h3.lt e
      have hqr : q ≠ r := by
        rcases h3 with ⟨e2, _⟩ | ⟨q', e2, hn, rfl, hgq⟩
        · rw [e2] at e; cases e
        · rw [e2] at e; cases e
          obtain ⟨a, ha, hal⟩ := zfa (H := H) (fun e => hn (by rw [e]; rfl))
          exact z8q hgq hg ha (b := pbC (.ptr t 0 0) lg lv L.length z _) rfl (by rw [hal]; simp [pbC])
      rw [gapp (by simpa using hq), z18 (fun e => hqr e.symm)]
    · rw [gapp (by simpa using hj), z18 (fun e => hjr e.symm)]
attribute [local irreducible] ACallsTo ACallsP
end Am
end Go.Proofs.YtjgljhbmljgaeaaDoor
end
section
/- Auditors: one that is made, in memory; New, none, own. -/
namespace Go.Proofs.YtjgljhbmljgaeaaDoor
namespace Am
/-- The cells of an auditor that was made: its key, whether it has a head, that head, evidence. -/
def adC (key : Hash) (has : Bool) (n : Int) (r : Hash) (i : Int) (s : List UInt8) (x fd : AV) : List AV := .bool true :: (hc key ++ (.bool has :: (sgC n r i s x ++ [fd])))
@[go_sem] theorem z1o (key : Hash) (has : Bool) (n : Int) (r : Hash) (i : Int) (s : List UInt8) (x fd : AV) : (adC key has n r i s x fd).length = 71 := by simp [adC, z6, zg]
@[go_sem] theorem adC_0 (key : Hash) (has : Bool) (n : Int) (r : Hash) (i : Int) (s : List UInt8) (x fd : AV) : (adC key has n r i s x fd)[0]? = some (.bool true) := rfl
theorem zdw (key : Hash) (has : Bool) (n : Int) (r : Hash) (i : Int) (s : List UInt8) (x fd : AV) : adC key has n r i s x fd = (.bool true :: hc key) ++ (.bool has :: (sgC n r i s x ++ [fd])) := by simp [adC]
theorem zdu (key : Hash) (has : Bool) (n : Int) (r : Hash) (i : Int) (s : List UInt8) (x fd : AV) : (adC key has n r i s x fd).drop 33 = .bool has :: (sgC n r i s x ++ [fd]) := by
  rw [zdw, List.drop_left' (by simp [z6])]
theorem zj0 (key : Hash) (has : Bool) (n : Int) (r : Hash) (i : Int) (s : List UInt8) (x fd : AV) : (adC key has n r i s x fd).take 33 = .bool true :: hc key := by
  rw [zdw, List.take_left' (by simp [z6])]
theorem z6r (key : Hash) (has : Bool) (n : Int) (r : Hash) (i : Int) (s : List UInt8) (x fd : AV) : (adC key has n r i s x fd).drop 34 = sgC n r i s x ++ [fd] := by
  rw [show 34 = 33 + 1 from rfl, <- List.drop_drop, zdu]; rfl
theorem zdv (key : Hash) (has : Bool) (n : Int) (r : Hash) (i : Int) (s : List UInt8) (x fd : AV) : (adC key has n r i s x fd).drop 70 = [fd] := by
  rw [show 70 = 34 + 36 from rfl, <- List.drop_drop, z6r, List.drop_left' (by simp [zg])]
@[go_sem] theorem adC_key (key : Hash) (has : Bool) (n : Int) (r : Hash) (i : Int) (s : List UInt8) (x fd : AV) : ((adC key has n r i s x fd).drop 1).take 32 = hc key := by
  unfold adC; rw [List.drop_succ_cons, List.drop_zero, List.take_left' (by simp [z6])]
theorem zas {l : List AV} {k : Nat} {a : AV} {m : List AV} (h : l.drop k = a :: m) : l[k]? = some a := by
  have : (l.drop k)[0]? = some a := by rw [h]; rfl
  rwa [List.getElem?_drop, Nat.add_zero] at this
@[go_sem] theorem adC_33 (key : Hash) (has : Bool) (n : Int) (r : Hash) (i : Int) (s : List UInt8) (x fd : AV) : (adC key has n r i s x fd)[33]? = some (.bool has) := zas (zdu key has n r i s x fd)
@[go_sem] theorem adC_34 (key : Hash) (has : Bool) (n : Int) (r : Hash) (i : Int) (s : List UInt8) (x fd : AV) : (adC key has n r i s x fd)[34]? = some (.int .i64 n) := zas (z6r key has n r i s x fd)
@[go_sem] theorem adC_70 (key : Hash) (has : Bool) (n : Int) (r : Hash) (i : Int) (s : List UInt8) (x fd : AV) : (adC key has n r i s x fd)[70]? = some fd := zas (zdv key has n r i s x fd)
@[go_sem] theorem adC_now (key : Hash) (has : Bool) (n : Int) (r : Hash) (i : Int) (s : List UInt8) (x fd : AV) : ((adC key has n r i s x fd).drop 34).take 36 = sgC n r i s x := by
  rw [z6r, List.take_left' (by simp [zg])]
@[go_sem] theorem adC_head (key : Hash) (has : Bool) (n : Int) (r : Hash) (i : Int) (s : List UInt8) (x fd : AV) : ((adC key has n r i s x fd).drop 34).take 33 = .int .i64 n :: hc r := by
  rw [z6r, List.take_append_of_le_length (by rw [zg]; omega), zh3]
@[go_sem] theorem adC_root (key : Hash) (has : Bool) (n : Int) (r : Hash) (i : Int) (s : List UInt8) (x fd : AV) : ((adC key has n r i s x fd).drop 35).take 32 = hc r := by
  rw [show 35 = 34 + 1 from rfl, <- List.drop_drop, z6r]
  unfold sgC
  rw [List.cons_append, List.drop_succ_cons, List.drop_zero, List.append_assoc, List.take_left' (by simp [z6])]
@[go_sem] theorem adC_set33 (key : Hash) (has b : Bool) (n : Int) (r : Hash) (i : Int) (s : List UInt8) (x fd : AV) : (adC key has n r i s x fd).take 33 ++ .bool b :: (adC key has n r i s x fd).drop 34 = adC key b n r i s x fd := by
  rw [zj0, z6r]; simp [adC]
theorem zj1 (key : Hash) (has : Bool) (n : Int) (r : Hash) (i : Int) (s : List UInt8) (x fd : AV) : (adC key has n r i s x fd).take 34 = .bool true :: (hc key ++ [.bool has]) := by
  rw [show adC key has n r i s x fd = (.bool true :: (hc key ++ [.bool has])) ++ (sgC n r i s x ++ [fd]) by simp [adC], List.take_left' (by simp [z6])]
@[go_sem] theorem adC_set34 (key : Hash) (has : Bool) (n m : Int) (r r2 : Hash) (i j : Int) (s s2 : List UInt8) (x x2 fd : AV) : (adC key has n r i s x fd).take 34 ++ (sgC m r2 j s2 x2 ++ (adC key has n r i s x fd).drop 70) = adC key has m r2 j s2 x2 fd := by
  rw [zj1, zdv]; simp [adC]
@[go_sem] theorem adC_set70 (key : Hash) (has : Bool) (n : Int) (r : Hash) (i : Int) (s : List UInt8) (x fd fd2 : AV) : (adC key has n r i s x fd).take 70 ++ fd2 :: (adC key has n r i s x fd).drop 71 = adC key has n r i s x fd2 := by
  rw [show adC key has n r i s x fd = (.bool true :: (hc key ++ (.bool has :: sgC n r i s x))) ++ [fd] by simp [adC], List.take_left' (by simp [z6, zg]), List.drop_eq_nil_of_le (by simp [z6, zg])]
  simp [adC]
attribute [local irreducible] ACallsTo ACallsP
theorem zat (Y : Store) (p : Nat) (key : Hash) (has : Bool) (n : Int) (r : Hash) (i : Int) (s : List UInt8) (x fd : AV) (hg : Y[p]? = some (some [adC key has n r i s x fd])) : ACallsTo TC 31 [.ptr p 0 0] Y (.bool false) Y := by
  have d := slen hg
  refine ACallsTo.of_body q1xok (by simp) fun hw _ => ?_
  repeat' (first|refine zW.zs ?_|refine zW.zb ?_|refine zW.zc ?_|refine zW.zt rfl ?_|refine zW.zf rfl ?_|(refine zW.zd rfl (fun ht => ?_) (fun ht => ?_)<;>try (exfalso;omega))|((first|refine zW.zr ?_|refine zW.zk ?_|refine zW.ze ?_|refine zW.zq ?_|((first|apply zg0|apply zg1|apply zg2|apply zg3|apply zg4|apply zg5|apply zg6|apply zg7)<;>intro ht));all_goals try simp (disch:=first|omega|(simp only [lens,z6,z7,List.length_reverse,List.length_map,List.length_take,List.length_drop,zg,z1o];first|done|omega)) only [go_sem,reduceEqDiff,Nat.reduceBEq,reduceAdd,reduceMul,reduceSub,reduceLeDiff,reduceToNat,reducePow, hg]))
  exact DownV.same hw z2s
theorem zjd (Y : Store) (key : Hash) : ACallsTo TC 27 [.agg (hc key)] Y (.ptr (Y.length + 1) 0 0) (Y ++ [some [hc key], some [adC key false 0 zeroH 0 [] .nilsl .nilp]]) := by
  refine ACallsTo.of_body_keep q1vok (by simp) ?_
  repeat' (first|refine zW.zs ?_|refine zW.zb ?_|refine zW.zc ?_|refine zW.zt rfl ?_|refine zW.zf rfl ?_|(refine zW.zd rfl (fun ht => ?_) (fun ht => ?_)<;>try (exfalso;omega))|((first|refine zW.zr ?_|refine zW.zk ?_|refine zW.ze ?_|refine zW.zq ?_|((first|apply zg0|apply zg1|apply zg2|apply zg3|apply zg4|apply zg5|apply zg6|apply zg7)<;>intro ht));all_goals try simp (disch:=first|omega|(simp only [lens,z6,z7,List.length_reverse,List.length_map,List.length_take,List.length_drop,zg,z1o];first|done|omega)) only [go_sem,reduceEqDiff,Nat.reduceBEq,reduceAdd,reduceMul,reduceSub,reduceLeDiff,reduceToNat,reducePow, z41]))
  rfl
theorem zau (Y : Store) (n : Int) (r : Hash) (i : Int) (s : List UInt8) (l : List Hash) (x : AV) (hx : RdSl Y 32 (hr l) x) (hl : l.length < 1000000) (h0 : l ≠ []) : ACallsTo TC 32 [.agg (sgC n r i s x)] Y (.agg (sgC n r i s (z11 32 (hr l)))) Y := by
  have xc := hx.cells
  unfold cellsOf at xc
  have hCl := fun y => zic (Y ++ y) l x hx.app hl
  have hne : x ≠ .nilsl := by
    rintro rfl
    rcases hx with (⟨_, h⟩ | ⟨ex, h⟩) | ⟨q, off, lim, o, h, _⟩
    · exact h0 (hr_nil_iff.1 h)
    · cases h
    · cases h
  rw [zfl hne] at hCl
  have e0 : z11 32 (hr l) = .vsl 32 (hr l) false := by unfold z11; rw [if_neg fun e => h0 (hr_nil_iff.1 e)]
  rw [e0]
  have hst := fun x v => zh4 n r i s x v
  refine ACallsTo.of_body q1yok (by simp) fun hw _ => ?_
  repeat' (first|refine zW.zs ?_|refine zW.zb ?_|refine zW.zc ?_|refine zW.zt rfl ?_|refine zW.zf rfl ?_|(refine zW.zd rfl (fun ht => ?_) (fun ht => ?_)<;>try (exfalso;omega))|((first|refine zW.zr ?_|refine zW.zk ?_|refine zW.ze ?_|refine zW.zq ?_|(apply callW.mk_pu; (first | exact (fun _ => hCl _))) | (apply callW.za; (first | exact (hCl _))) | ((first|apply zg0|apply zg1|apply zg2|apply zg3|apply zg4|apply zg5|apply zg6|apply zg7)<;>intro ht));all_goals try simp (disch:=first|omega|(simp only [lens,z6,z7,List.length_reverse,List.length_map,List.length_take,List.length_drop,zg,z1o];first|done|omega)) only [go_sem,reduceEqDiff,Nat.reduceBEq,reduceAdd,reduceMul,reduceSub,reduceLeDiff,reduceToNat,reducePow, xc, hst]))
  exact Ext.pure hw ⟨_, rfl⟩ (by simp only [RL]; exact zcb (by simp only [RL]; exact z2t _))
end Am
end Go.Proofs.YtjgljhbmljgaeaaDoor
end
section
/- Publishers: what they sign; Publish. -/
namespace Go.Proofs.YtjgljhbmljgaeaaDoor
namespace Am
/-- What a publisher of a seed signs with a key of a log. -/
def mkH (seed : List UInt8) (i : Nat) (M : List (List UInt8)) : Hdr := ⟨M.length, z1b (lvs M), i, ksgS seed i (digH M.length (z1b (lvs M))).1, z1m (keyL seed) i⟩
theorem zgg (seed : List UInt8) (i : Nat) : (z1m (keyL seed) i).length = 3 := by unfold z1m; rw [List.length_reverse, zgf _ i (z2x seed)]
theorem zft (seed : List UInt8) (i : Nat) (M : List (List UInt8)) (hi : i < 8) (hM : M.length <= 4096) : z3a (z1b (keyL seed)) (mkH seed i M).n (mkH seed i M).i (mkH seed i M).r (mkH seed i M).s (mkH seed i M).p = 0 := by
  have hv : z7j (mkH seed i M).n (mkH seed i M).i (mkH seed i M).s (mkH seed i M).p = true := decide_eq_true ⟨by simp only [mkH]; omega, by simp only [mkH]; omega, by simp only [mkH]; omega, by simp only [mkH]; omega, zfm _ _ _, zgg _ _⟩
  unfold z3a
  rw [hv, if_neg (by simp)]
  exact if_pos (zqv seed i hi _)
def pubN (H : List Hdr) : Int := ((H[H.length - 1]?).map Hdr.n).getD 0
structure PubOk (seed : List UInt8) (L : List (List UInt8)) (H : List Hdr) : Prop where
  len : H.length <= 8
  at' : ∀ i h, H[i]? = some h -> ∃ n, h = mkH seed i (L.take n) /\ 0 < n /\ n <= L.length
  up : ∀ i h h', H[i]? = some h -> H[i + 1]? = some h' -> h.n < h'.n
theorem PubOk.nil (seed : List UInt8) : PubOk seed [] [] := ⟨by simp, by simp, by simp⟩
theorem PubOk.app {seed : List UInt8} {L : List (List UInt8)} {H : List Hdr} (h : PubOk seed L H) (M : List (List UInt8)) : PubOk seed (L ++ M) H := by
  refine ⟨h.len, fun i x hx => ?_, h.up⟩
  obtain ⟨n, e, h0, hn⟩ := h.at' i x hx
  exact ⟨n, by rw [List.take_append_of_le_length hn]; exact e, h0, by rw [List.length_append]; omega⟩
theorem PubOk.path {seed : List UInt8} {L : List (List UInt8)} {H : List Hdr} (h : PubOk seed L H) : ∀ x ∈ H, x.p.length < 1000000 := by
  intro x hx
  obtain ⟨i, hi⟩ := List.mem_iff_getElem?.1 hx
  obtain ⟨n, rfl, _, _⟩ := h.at' i x hi
  show (z1m (keyL seed) i).length < 1000000
  rw [zgg]; omega
/-- What Publish answers. -/
def puE (L : List (List UInt8)) (H : List Hdr) : Int := if 8 <= H.length then 85 else if (L.length : Int) = pubN H then 83 else 0
def puV (seed : List UInt8) (L : List (List UInt8)) (H : List Hdr) : AV := .tup [.agg (if puE L H = 0 then hdrC (mkH seed H.length L) else sgZ), .int .i64 (puE L H)]
def puH (seed : List UInt8) (L : List (List UInt8)) (H : List Hdr) : List Hdr := if puE L H = 0 then H ++ [mkH seed H.length L] else H
def PublishP (Y : Store) (r : Nat) (seed : List UInt8) (L : List (List UInt8)) (H : List Hdr) (own : List Nat) (a : AV) (Y' : Store) : Prop :=
  a = puV seed L H /\ ∃ own', Fr Y Y' own own' /\ PubIs Y' r seed L (puH seed L H) own'
theorem PublishP.ok {Y Y' : Store} {r t q : Nat} {seed : List UInt8} {L : List (List UInt8)} {H : List Hdr} {lg lv z hs : AV} {sl sv sh : Option Nat} (he : puE L H = 0)
    (hg0 : Y[r]? = some (some [pbC (.ptr t 0 0) lg lv L.length z hs])) (ht0 : Y[t]? = some (some [z1g true seed (keyL seed)])) (h1 : RowAt 1 Y sl lg (strs L)) (h2 : RowAt 32 Y sv lv (hr (lvs L))) (h3 : RowAt 36 Y sh hs (hdrs H))
    (hg : Y'[r]? = some (some [pbC (.ptr t 0 0) lg lv L.length z (.sl q 0 (H.length + 1) none 36)])) (hz : SlV 32 (hr (ofR (lvs L)).reverse) z)
    (hq : Y'[q]? = some (some (hdrs (H ++ [mkH seed H.length L])))) (hqn : Y.length <= q) (hle : Y.length <= Y'.length) (hst : ∀ j, j < Y.length -> j ≠ r -> sh ≠ some j -> Y'[j]? = Y[j]?) :
    PublishP Y r seed L H (r :: t :: (Option.toList sl ++ (Option.toList sv ++ Option.toList sh))) (.tup [.agg (hdrC (mkH seed H.length L)), .int .i64 0]) Y' := by
  refine ⟨by unfold puV; rw [he, if_pos rfl], r :: t :: (Option.toList sl ++ (Option.toList sv ++ Option.toList (some q))), ⟨fun j hj hn => ?_, fun j hj => ?_, hle⟩, ?_⟩
  · simp only [List.mem_cons, List.mem_append, Option.mem_toList, not_or] at hn
    exact hst j hj hn.1 (fun e => hn.2.2.2.2 e)
  · simp only [List.mem_cons, List.mem_append, Option.mem_toList, Option.some.injEq] at hj ⊢
    rcases hj with h | h | h | h | h
    · exact .inl (.inl h)
    · exact .inl (.inr (.inl h))
    · exact .inl (.inr (.inr (.inl h)))
    · exact .inl (.inr (.inr (.inr (.inl h))))
    · exact .inr (by omega)
  · unfold puH
    rw [if_pos he]
    have hne : H ++ [mkH seed H.length L] ≠ [] := by simp
    have hpl : (pbC (.ptr t 0 0) lg lv L.length z hs).length = 6 := rfl
    have htl : (z1g true seed (keyL seed)).length = 258 := by rw [zda, z2x]
    have hrt : t ≠ r := z8q ht0 hg0 (a := z1g true seed (keyL seed)) (b := pbC (.ptr t 0 0) lg lv L.length z hs) rfl rfl (by omega)
    refine ⟨t, lg, lv, z, _, sl, sv, some q, rfl, hg, by rw [hst t (slen ht0) hrt fun e => h3.ne zbi ht0 (b := z1g true seed (keyL seed)) rfl (by omega) t e rfl]; exact ht0, h1.keep fun j e => hst j (h1.lt e) ?_ ?_, h2.keep fun j e => hst j (h2.lt e) ?_ ?_, hz, .inr ⟨q, rfl, zlv hne, ?_, hq⟩⟩
    · exact h1.ne zhj hg0 (b := pbC (.ptr t 0 0) lg lv L.length z hs) rfl (by omega) j e
    · exact h1.ne2 zhj h3 zbi (by omega) j e
    · exact h2.ne hr_w hg0 (b := pbC (.ptr t 0 0) lg lv L.length z hs) rfl (by omega) j e
    · exact h2.ne2 hr_w h3 zbi (by omega) j e
    · rw [z8h, List.length_append]; rfl
theorem PublishP.no {Y : Store} {r : Nat} {seed : List UInt8} {L : List (List UInt8)} {H : List Hdr} {own : List Nat} {e : Int} (hT : PubIs Y r seed L H own) (he : puE L H = e) (h0 : e ≠ 0) : PublishP Y r seed L H own (.tup [.agg sgZ, .int .i64 e]) Y := by
  subst he
  exact ⟨by unfold puV; rw [if_neg h0], own, .ext (.refl _), by unfold puH; rw [if_neg h0]; exact hT⟩
theorem PublishP.is {Y : Store} {r : Nat} {seed : List UInt8} {L : List (List UInt8)} {H : List Hdr} {own : List Nat} (hT : PubIs Y r seed L H own) : ∃ a Y', PublishP Y r seed L H own a Y' := by
  by_cases he : puE L H = 0
  · obtain ⟨t, lg, lv, z, hs, sl, sv, sh, rfl, hg, ht, h1, h2, hz, h3⟩ := hT
    have d := slen hg
    refine ⟨_, (Y.set r (some [pbC (.ptr t 0 0) lg lv L.length z (.sl Y.length 0 (H.length + 1) none 36)])) ++ [some (hdrs (H ++ [mkH seed H.length L]))], .ok (q := Y.length) he hg ht h1 h2 h3 ?_ hz ?_ (Nat.le_refl _) (by simp) fun j hj hjr _ => ?_⟩
    · rw [gapp (by simpa using d), z2d d]
    · rw [z1n (by simp)]; simp
    · rw [gapp (by simpa using hj), z18 (fun e => hjr e.symm)]
  · exact ⟨_, Y, .no hT rfl he⟩
@[go_sem] theorem sgC_set33 (n : Int) (r : Hash) (i j : Int) (s u : List UInt8) (x v : AV) : (sgC n r i s x).take 33 ++ .int .i64 j :: .str u :: v :: (sgC n r i s x).drop 36 = sgC n r j u v := by
  rw [zh3, zh2]; rfl
theorem zcs (n : Int) (r : Hash) (i : Int) (s : List UInt8) (x : AV) : AV.int .i64 n :: (hc r ++ [AV.int .i64 i, .str s, x]) = sgC n r i s x := rfl
attribute [local irreducible] ACallsTo ACallsP
end Am
end Go.Proofs.YtjgljhbmljgaeaaDoor
end
section
/- Auditors: what they have; Head. -/
namespace Go.Proofs.YtjgljhbmljgaeaaDoor
namespace Am
def zHd : Hdr := ⟨0, zeroH, 0, [], []⟩
/-- An auditor's cells, by what it has. -/
def adS (key : Hash) (now : Option Hdr) (fd : AV) : List AV := adC key now.isSome (now.getD zHd).n (now.getD zHd).r (now.getD zHd).i (now.getD zHd).s (z11 32 (hr (now.getD zHd).p)) fd
/-- Evidence of two heads. -/
def evC (k : Int) (a b : Hdr) : List AV := .int .i64 k :: (hdrC a ++ (hdrC b ++ (hc zeroH ++ [.nilsl])))
/-- What was found, in memory. -/
def FdAt (Y : Store) (fv : AV) (fd : Option (Hdr × Hdr)) (own : List Nat) : Prop := (fd = none /\ fv = .nilp /\ own = []) \/ ∃ a b q, fd = some (a, b) /\ fv = .ptr q 0 0 /\ own = [q] /\ Y[q]? = some (some [evC 1 a b])
theorem FdAt.keep {Y Y' : Store} {fv : AV} {fd : Option (Hdr × Hdr)} {own : List Nat} (h : FdAt Y fv fd own) (hk : ∀ j, j ∈ own -> Y'[j]? = Y[j]?) : FdAt Y' fv fd own := by
  rcases h with h | ⟨a, b, q, e1, e2, rfl, hg⟩
  · exact .inl h
  · exact .inr ⟨a, b, q, e1, e2, rfl, by rw [hk q (by simp)]; exact hg⟩
theorem FdAt.lt {Y : Store} {fv : AV} {fd : Option (Hdr × Hdr)} {own : List Nat} (h : FdAt Y fv fd own) {j : Nat} (hj : j ∈ own) : j < Y.length := by
  rcases h with ⟨_, _, rfl⟩ | ⟨a, b, q, e1, e2, rfl, hg⟩
  · cases hj
  · simp only [List.mem_singleton] at hj; subst hj; exact slen hg
def AudIs (Y : Store) (p : Nat) (key : Hash) (now : Option Hdr) (fd : Option (Hdr × Hdr)) (own : List Nat) : Prop :=
  ∃ fv fo, own = p :: fo /\ Y[p]? = some (some [adS key now fv]) /\ FdAt Y fv fd fo
theorem AudIs.lt {Y : Store} {p : Nat} {key : Hash} {now : Option Hdr} {fd : Option (Hdr × Hdr)} {own : List Nat} (h : AudIs Y p key now fd own) {j : Nat} (hj : j ∈ own) : j < Y.length := by
  obtain ⟨fv, fo, rfl, hg, hf⟩ := h
  rcases List.mem_cons.1 hj with rfl | hj
  · exact slen hg
  · exact hf.lt hj
theorem AudIs.keep {Y Y' : Store} {p : Nat} {key : Hash} {now : Option Hdr} {fd : Option (Hdr × Hdr)} {own : List Nat} (h : AudIs Y p key now fd own) (hk : ∀ j, j ∈ own -> Y'[j]? = Y[j]?) : AudIs Y' p key now fd own := by
  obtain ⟨fv, fo, rfl, hg, hf⟩ := h
  exact ⟨fv, fo, rfl, by rw [hk p (by simp)]; exact hg, hf.keep fun j hj => hk j (by simp [hj])⟩
theorem AudIs.ext {Y Y' : Store} {p : Nat} {key : Hash} {now : Option Hdr} {fd : Option (Hdr × Hdr)} {own : List Nat} (h : AudIs Y p key now fd own) (he : Ext Y Y') : AudIs Y' p key now fd own := by
  obtain ⟨y, rfl⟩ := he
  exact h.keep fun j hj => gapp (h.lt hj)
/-- What Head answers. -/
def adE (key : Hash) (now : Option Hdr) (s : Hdr) (pf : List Hash) : Int :=
  if z3a key s.n s.i s.r s.s s.p ≠ 0 then 0 else match now with
    | none => 1
    | some w => if ordI s.n w.n s.r w.r = 1 then 3 else if ordI s.n w.n s.r w.r = 3 then 6
      else if ordI s.n w.n s.r w.r = 0 then (if chkH s.n w.n s.r w.r pf = 0 then 4 else 5)
      else (if chkH w.n s.n w.r s.r pf = 0 then 2 else 5)
def adN (key : Hash) (now : Option Hdr) (s : Hdr) (pf : List Hash) : Option Hdr := if adE key now s pf = 1 \/ adE key now s pf = 2 then some s else now
def adF (key : Hash) (now : Option Hdr) (fd : Option (Hdr × Hdr)) (s : Hdr) (pf : List Hash) : Option (Hdr × Hdr) := if adE key now s pf = 6 then some (fd.getD (now.getD zHd, s)) else fd
def AHeadP (Y : Store) (p : Nat) (key : Hash) (now : Option Hdr) (fd : Option (Hdr × Hdr)) (own : List Nat) (s : Hdr) (pf : List Hash) (a : AV) (Y' : Store) : Prop :=
  a = .int .i64 (adE key now s pf) /\ ∃ own', Fr Y Y' own own' /\ AudIs Y' p key (adN key now s pf) (adF key now fd s pf) own'
theorem AHeadP.ext {Y Y' : Store} {p : Nat} {key : Hash} {now : Option Hdr} {fd : Option (Hdr × Hdr)} {own : List Nat} {s : Hdr} {pf : List Hash} {e : Int} (hT : AudIs Y p key now fd own) (he : adE key now s pf = e) (h : e ≠ 1 /\ e ≠ 2 /\ e ≠ 6) (hx : Ext Y Y') : AHeadP Y p key now fd own s pf (.int .i64 e) Y' := by
  subst he
  refine ⟨rfl, own, .ext hx, ?_⟩
  unfold adN adF
  rw [if_neg (by omega), if_neg h.2.2]
  exact hT.ext hx
theorem zj2 (key : Hash) (now : Option Hdr) (fd : AV) : (adS key now fd).length = 71 := z1o _ _ _ _ _ _ _ _
theorem zkt (k : Int) (a b : Hdr) : (evC k a b).length = 106 := by simp [evC, zo, z6]
theorem FdAt.ne {Y : Store} {p : Nat} {key : Hash} {now : Option Hdr} {fv fv' : AV} {fd : Option (Hdr × Hdr)} {fo : List Nat} (h : FdAt Y fv fd fo) (hg : Y[p]? = some (some [adS key now fv'])) : p ∉ fo := by
  rcases h with ⟨_, _, rfl⟩ | ⟨a, b, q, e1, e2, rfl, hq⟩
  · simp
  · intro hm
    simp only [List.mem_singleton] at hm
    exact z8q hg hq (a := adS key now fv') (b := evC 1 a b) rfl rfl (by rw [zj2, zkt]; omega) hm
theorem AHeadP.now {Y Y' : Store} {p : Nat} {key : Hash} {now : Option Hdr} {fd : Option (Hdr × Hdr)} {fv : AV} {fo : List Nat} {s : Hdr} {pf : List Hash} {e : Int} (hg : Y[p]? = some (some [adS key now fv])) (hf : FdAt Y fv fd fo) (he : adE key now s pf = e) (h : e = 1 \/ e = 2)
    (hg' : Y'[p]? = some (some [adS key (some s) fv])) (hle : Y.length <= Y'.length) (hst : ∀ j, j < Y.length -> j ≠ p -> Y'[j]? = Y[j]?) : AHeadP Y p key now fd (p :: fo) s pf (.int .i64 e) Y' := by
  subst he
  have hp := hf.ne hg
  refine ⟨rfl, p :: fo, ⟨fun j hj hn => hst j hj (fun e => hn (by simp [e])), fun j hj => .inl hj, hle⟩, fv, fo, rfl, ?_, ?_⟩
  · unfold adN; rw [if_pos h]; exact hg'
  · unfold adF; rw [if_neg (by omega)]
    exact hf.keep fun j hj => hst j (hf.lt hj) fun e => hp (by rw [<- e]; exact hj)
theorem AHeadP.fork {Y Y' : Store} {p q : Nat} {key : Hash} {w s : Hdr} {pf : List Hash} (hg : Y[p]? = some (some [adS key (some w) .nilp])) (he : adE key (some w) s pf = 6)
    (hg' : Y'[p]? = some (some [adS key (some w) (.ptr q 0 0)])) (hq : Y'[q]? = some (some [evC 1 w s])) (hqn : Y.length <= q) (hle : Y.length <= Y'.length) (hst : ∀ j, j < Y.length -> j ≠ p -> Y'[j]? = Y[j]?) : AHeadP Y p key (some w) none [p] s pf (.int .i64 6) Y' := by
  refine ⟨by rw [he], [p, q], ⟨fun j hj hn => hst j hj (fun e => hn (by simp [e])), fun j hj => ?_, hle⟩, .ptr q 0 0, [q], rfl, ?_, ?_⟩
  · simp only [List.mem_cons, List.not_mem_nil, or_false] at hj ⊢
    rcases hj with h | h
    · exact .inl h
    · exact .inr (by omega)
  · unfold adN; rw [he, if_neg (by omega)]; exact hg'
  · unfold adF; rw [he, if_pos rfl]
    exact .inr ⟨w, s, q, rfl, rfl, rfl, hq⟩
theorem AHeadP.forked {Y Y' : Store} {p : Nat} {key : Hash} {now : Option Hdr} {fd : Option (Hdr × Hdr)} {own : List Nat} {s : Hdr} {pf : List Hash} (hT : AudIs Y p key now fd own) (hfd : fd ≠ none) (he : adE key now s pf = 6) (hx : Ext Y Y') : AHeadP Y p key now fd own s pf (.int .i64 6) Y' := by
  refine ⟨by rw [he], own, .ext hx, ?_⟩
  unfold adN adF
  rw [he, if_neg (by omega), if_pos rfl]
  cases fd with
  | none => exact absurd rfl hfd
  | some f => exact hT.ext hx
theorem AHeadP.is {Y : Store} {p : Nat} {key : Hash} {now : Option Hdr} {fd : Option (Hdr × Hdr)} {own : List Nat} {s : Hdr} {pf : List Hash} (hT : AudIs Y p key now fd own) : ∃ a Y', AHeadP Y p key now fd own s pf a Y' := by
  have hT' := hT
  obtain ⟨fv, fo, rfl, hg, hf⟩ := hT
  have d := slen hg
  by_cases h1 : adE key now s pf = 1 \/ adE key now s pf = 2
  · exact ⟨_, Y.set p (some [adS key (some s) fv]), .now hg hf rfl h1 (z2d d) (by simp) fun j hj hjp => z18 (fun e => hjp e.symm)⟩
  · by_cases h6 : adE key now s pf = 6
    · rcases hf with ⟨rfl, rfl, rfl⟩ | ⟨a, b, q, rfl, _⟩
      · cases now with
        | none => unfold adE at h6; split at h6 <;> simp at h6
        | some w =>
          refine ⟨_, (Y.set p (some [adS key (some w) (.ptr Y.length 0 0)])) ++ [some [evC 1 w s]], .fork (q := Y.length) hg h6 ?_ ?_ (Nat.le_refl _) (by simp) fun j hj hjp => ?_⟩
          · rw [gapp (by simpa using d), z2d d]
          · rw [z1n (by simp)]; simp
          · rw [gapp (by simpa using hj), z18 (fun e => hjp e.symm)]
      · exact ⟨_, Y, .forked hT' (by simp) h6 (.refl _)⟩
    · exact ⟨_, Y, .ext hT' rfl ⟨by omega, by omega, h6⟩ (.refl _)⟩
end Am
end Go.Proofs.YtjgljhbmljgaeaaDoor
end
section
/- Auditors: contracts: fork, Head. -/
namespace Go.Proofs.YtjgljhbmljgaeaaDoor
namespace Am
theorem zpk (n : Int) (r : Hash) (i : Int) (s : List UInt8) (x : AV) (L : List AV) : (sgC n r i s x ++ L).take 36 = sgC n r i s x := List.take_left' (zg _ _ _ _ _)
theorem zpi (n : Int) (r : Hash) (i : Int) (s : List UInt8) (x : AV) (L : List AV) : (sgC n r i s x ++ L).drop 72 = L.drop 36 := by
  rw [show 72 = 36 + 36 from rfl, <- List.drop_drop, List.drop_left' (zg _ _ _ _ _)]
attribute [local irreducible] ACallsTo ACallsP
set_option maxHeartbeats 4000000 in
theorem zj9 (Y : Store) (p : Nat) (key : Hash) (w s : Hdr) (x : AV) (hg : Y[p]? = some (some [adS key (some w) .nilp])) (hx : RdSl Y 32 (hr s.p) x) (hs0 : s.p ≠ []) (hsl : s.p.length < 1000000) :
    ACallsTo TC 34 [.ptr p 0 0, .agg (sgC s.n s.r s.i s.s x)] Y (.tup []) ((Y.set p (some [adS key (some w) (.ptr (Y.length + 1) 0 0)])) ++ [some [sgC s.n s.r s.i s.s x], some [evC 1 w s]]) := by
  have xc := hx.cells
  unfold cellsOf at xc
  have d := slen hg
  have hO := fun y => zau (Y ++ y) s.n s.r s.i s.s s.p x hx.app hsl hs0
  unfold adS at hg ⊢
  simp only [Option.getD_some, Option.isSome_some] at hg ⊢
  refine ACallsTo.of_body_keep q1zok (by simp) ?_
  repeat' (first|refine zW.zs ?_|refine zW.zb ?_|refine zW.zc ?_|refine zW.zt rfl ?_|refine zW.zf rfl ?_|(refine zW.zd rfl (fun ht => ?_) (fun ht => ?_)<;>try (exfalso;omega))|((first|refine zW.zr ?_|refine zW.zk ?_|refine zW.ze ?_|refine zW.zq ?_|(apply callW.mk_pu; (first | exact (fun _ => hO _))) | (apply callW.za; (first | exact (hO _))) | ((first|apply zg0|apply zg1|apply zg2|apply zg3|apply zg4|apply zg5|apply zg6|apply zg7)<;>intro ht));all_goals try simp (disch:=first|omega|(simp only [lens,z6,z7,List.length_reverse,List.length_map,List.length_take,List.length_drop,zg,z1o,zo];first|done|omega)) only [go_sem,reduceEqDiff,Nat.reduceBEq,reduceAdd,reduceMul,reduceSub,reduceLeDiff,reduceToNat,reducePow, xc, hg]))
  rw [zpk, zpi]
  rfl
set_option maxHeartbeats 4000000 in
theorem zja (Y : Store) (p q : Nat) (key : Hash) (w s : Hdr) (x : AV) (hg : Y[p]? = some (some [adS key (some w) (.ptr q 0 0)])) (hx : RdSl Y 32 (hr s.p) x) :
    ACallsTo TC 34 [.ptr p 0 0, .agg (sgC s.n s.r s.i s.s x)] Y (.tup []) Y := by
  have xc := hx.cells
  unfold cellsOf at xc
  have d := slen hg
  unfold adS at hg
  refine ACallsTo.of_body q1zok (by simp) fun hw _ => ?_
  repeat' (first|refine zW.zs ?_|refine zW.zb ?_|refine zW.zc ?_|refine zW.zt rfl ?_|refine zW.zf rfl ?_|(refine zW.zd rfl (fun ht => ?_) (fun ht => ?_)<;>try (exfalso;omega))|((first|refine zW.zr ?_|refine zW.zk ?_|refine zW.ze ?_|refine zW.zq ?_|((first|apply zg0|apply zg1|apply zg2|apply zg3|apply zg4|apply zg5|apply zg6|apply zg7)<;>intro ht));all_goals try simp (disch:=first|omega|(simp only [lens,z6,z7,List.length_reverse,List.length_map,List.length_take,List.length_drop,zg,z1o,zo];first|done|omega)) only [go_sem,reduceEqDiff,Nat.reduceBEq,reduceAdd,reduceMul,reduceSub,reduceLeDiff,reduceToNat,reducePow, xc, hg]))
  exact DownV.pure hw (by simp [RL, RLs])
theorem val3 {n i : Int} {s : List UInt8} {l : List Hash} {key r : Hash} (h : z3a key n i r s l = 0) : l.length = 3 /\ 0 <= n /\ n <= 4096 := by
  unfold z3a at h
  split at h
  · omega
  · rename_i hv
    have := of_decide_eq_true (show z7j n i s l = true by simpa using hv)
    exact ⟨this.2.2.2.2.2, this.1, this.2.1⟩
set_option maxHeartbeats 16000000 in
theorem ze2 (Y τ : Store) (p a b : Nat) (key : Hash) (w : Hdr) (fd : Option (Hdr × Hdr)) (own : List Nat) (s : Hdr) (pf : List Hash) (x y : AV) (hT : AudIs Y p key (some w) fd own) (hxt : Ext Y τ) (hx : RdSl Y 32 (hr s.p) x) (hy : RdSl Y 32 (hr pf) y) (hpl : pf.length < 1000000)
    (hok : z3a key s.n s.i s.r s.s s.p = 0) (h4 : τ[Y.length]? = some (some [sgC s.n s.r s.i s.s x])) (h7 : τ[a]? = some (some [.int .i64 s.n :: hc s.r])) (h8 : τ[b]? = some (some [.int .i64 w.n :: hc w.r]))
    (O : Env) (q0 : O 0 = .ptr p 0 0) (q2 : O 2 = y) (q4 : O 4 = .ptr Y.length 0 0) (q7 : O 7 = .ptr a 0 0) (q8 : O 8 = .ptr b 0 0) :
    zW TC 81 Y.length zc5 (z9y [.t 6] (AHeadP Y p key (some w) fd own s pf)) O τ := by
  have hT' := hT
  obtain ⟨fv, fo, rfl, hgS, hf⟩ := hT'
  have d := slen hgS
  have ht := hxt.le
  have hxτ : RdSl τ 32 (hr s.p) x := by obtain ⟨z, rfl⟩ := hxt; exact hx.app
  have hyτ : RdSl τ 32 (hr pf) y := by obtain ⟨z, rfl⟩ := hxt; exact hy.app
  have hgτ : τ[p]? = some (some [adS key (some w) fv]) := by obtain ⟨z, rfl⟩ := hxt; rw [gapp d]; exact hgS
  have hτl : ∀ j, j < Y.length -> τ[j]? = Y[j]? := fun j hj => by obtain ⟨z, rfl⟩ := hxt; exact gapp hj
  have d4 := slen h4
  have d7 := slen h7
  have d8 := slen h8
  have dp := slen hgτ
  have xc := hx.cells
  unfold cellsOf at xc
  obtain ⟨hl3, hs0, hs4⟩ := val3 hok
  have hne : s.p ≠ [] := fun e => by rw [e] at hl3; simp at hl3
  have hO := zau τ s.n s.r s.i s.s s.p x hxτ (by omega) hne
  have hOr := fun Y => zif Y s.n w.n s.r w.r
  have hC1 := zgc τ s.n w.n s.r w.r y pf hyτ hpl
  have hC2 := zgc τ w.n s.n w.r s.r y pf hyτ hpl
  have hcases : ordI s.n w.n s.r w.r = 0 \/ ordI s.n w.n s.r w.r = 1 \/ ordI s.n w.n s.r w.r = 2 \/ ordI s.n w.n s.r w.r = 3 := by
    unfold ordI; split
    · split <;> simp
    · split <;> simp
  rcases hcases with ho | ho | ho | ho
  · rw [ho] at hOr
    by_cases hc : chkH s.n w.n s.r w.r pf = 0
    · have he : adE key (some w) s pf = 4 := by unfold adE; rw [if_neg (by omega)]; simp [ho, hc]
      rw [hc] at hC1
      repeat' (first|refine zW.zs ?_|refine zW.zb ?_|refine zW.zc ?_|refine zW.zt rfl ?_|refine zW.zf rfl ?_|(refine zW.zd rfl (fun ht => ?_) (fun ht => ?_)<;>try (exfalso;omega))|((first|refine zW.zr ?_|refine zW.zk ?_|refine zW.ze ?_|refine zW.zq ?_|(apply callW.mk_pu; (first | exact (fun _ => hOr _) | exact (fun _ => hC1))) | (apply callW.za; (first | exact (hOr _) | exact (hC1))) | ((first|apply zg0|apply zg1|apply zg2|apply zg3|apply zg4|apply zg5|apply zg6|apply zg7)<;>intro ht));all_goals try simp (disch:=first|omega|(simp only [lens,z6,z7,List.length_reverse,List.length_map,List.length_take,List.length_drop,zg,z1o,zo];first|done|omega)) only [go_sem,reduceEqDiff,Nat.reduceBEq,reduceAdd,reduceMul,reduceSub,reduceLeDiff,reduceToNat,reducePow, q0, q2, q4, q7, q8, xc, h4, h7, h8]))
      exact AHeadP.ext hT he (by omega) hxt
    · have he : adE key (some w) s pf = 5 := by unfold adE; rw [if_neg (by omega)]; simp [ho, hc]
      generalize chkH s.n w.n s.r w.r pf = c at *
      repeat' (first|refine zW.zs ?_|refine zW.zb ?_|refine zW.zc ?_|refine zW.zt rfl ?_|refine zW.zf rfl ?_|(refine zW.zd rfl (fun ht => ?_) (fun ht => ?_)<;>try (exfalso;omega))|((first|refine zW.zr ?_|refine zW.zk ?_|refine zW.ze ?_|refine zW.zq ?_|(apply callW.mk_pu; (first | exact (fun _ => hOr _) | exact (fun _ => hC1))) | (apply callW.za; (first | exact (hOr _) | exact (hC1))) | ((first|apply zg0|apply zg1|apply zg2|apply zg3|apply zg4|apply zg5|apply zg6|apply zg7)<;>intro ht));all_goals try simp (disch:=first|omega|(simp only [lens,z6,z7,List.length_reverse,List.length_map,List.length_take,List.length_drop,zg,z1o,zo];first|done|omega)) only [go_sem,reduceEqDiff,Nat.reduceBEq,reduceAdd,reduceMul,reduceSub,reduceLeDiff,reduceToNat,reducePow, q0, q2, q4, q7, q8, xc, h4, h7, h8, hc]))
      exact AHeadP.ext hT he (by omega) hxt
  · rw [ho] at hOr
    have he : adE key (some w) s pf = 3 := by unfold adE; rw [if_neg (by omega)]; simp [ho]
    repeat' (first|refine zW.zs ?_|refine zW.zb ?_|refine zW.zc ?_|refine zW.zt rfl ?_|refine zW.zf rfl ?_|(refine zW.zd rfl (fun ht => ?_) (fun ht => ?_)<;>try (exfalso;omega))|((first|refine zW.zr ?_|refine zW.zk ?_|refine zW.ze ?_|refine zW.zq ?_|(apply callW.mk_pu; (first | exact (fun _ => hOr _))) | (apply callW.za; (first | exact (hOr _))) | ((first|apply zg0|apply zg1|apply zg2|apply zg3|apply zg4|apply zg5|apply zg6|apply zg7)<;>intro ht));all_goals try simp (disch:=first|omega|(simp only [lens,z6,z7,List.length_reverse,List.length_map,List.length_take,List.length_drop,zg,z1o,zo];first|done|omega)) only [go_sem,reduceEqDiff,Nat.reduceBEq,reduceAdd,reduceMul,reduceSub,reduceLeDiff,reduceToNat,reducePow, q0, q2, q4, q7, q8, xc, h4, h7, h8]))
    exact AHeadP.ext hT he (by omega) hxt
  · rw [ho] at hOr
    by_cases hc : chkH w.n s.n w.r s.r pf = 0
    · have he : adE key (some w) s pf = 2 := by unfold adE; rw [if_neg (by omega)]; simp [ho, hc]
      rw [hc] at hC2
      have hg2 := hgτ
      unfold adS at hg2
      simp only [Option.getD_some, Option.isSome_some] at hg2
      repeat' (first|refine zW.zs ?_|refine zW.zb ?_|refine zW.zc ?_|refine zW.zt rfl ?_|refine zW.zf rfl ?_|(refine zW.zd rfl (fun ht => ?_) (fun ht => ?_)<;>try (exfalso;omega))|((first|refine zW.zr ?_|refine zW.zk ?_|refine zW.ze ?_|refine zW.zq ?_|(apply callW.mk_pu; (first | exact (fun _ => hOr _) | exact (fun _ => hC2) | exact (fun _ => hO))) | (apply callW.za; (first | exact (hOr _) | exact (hC2) | exact (hO))) | ((first|apply zg0|apply zg1|apply zg2|apply zg3|apply zg4|apply zg5|apply zg6|apply zg7)<;>intro ht));all_goals try simp (disch:=first|omega|(simp only [lens,z6,z7,List.length_reverse,List.length_map,List.length_take,List.length_drop,zg,z1o,zo];first|done|omega)) only [go_sem,reduceEqDiff,Nat.reduceBEq,reduceAdd,reduceMul,reduceSub,reduceLeDiff,reduceToNat,reducePow, q0, q2, q4, q7, q8, xc, h4, h7, h8, hg2]))
      exact AHeadP.now hgS hf he (.inr rfl) (by rw [z2d dp]; rfl) (by simpa using ht) fun j hj hjp => by rw [z18 (fun e => hjp e.symm), hτl j hj]
    · have he : adE key (some w) s pf = 5 := by unfold adE; rw [if_neg (by omega)]; simp [ho, hc]
      generalize chkH w.n s.n w.r s.r pf = c at *
      repeat' (first|refine zW.zs ?_|refine zW.zb ?_|refine zW.zc ?_|refine zW.zt rfl ?_|refine zW.zf rfl ?_|(refine zW.zd rfl (fun ht => ?_) (fun ht => ?_)<;>try (exfalso;omega))|((first|refine zW.zr ?_|refine zW.zk ?_|refine zW.ze ?_|refine zW.zq ?_|(apply callW.mk_pu; (first | exact (fun _ => hOr _) | exact (fun _ => hC2))) | (apply callW.za; (first | exact (hOr _) | exact (hC2))) | ((first|apply zg0|apply zg1|apply zg2|apply zg3|apply zg4|apply zg5|apply zg6|apply zg7)<;>intro ht));all_goals try simp (disch:=first|omega|(simp only [lens,z6,z7,List.length_reverse,List.length_map,List.length_take,List.length_drop,zg,z1o,zo];first|done|omega)) only [go_sem,reduceEqDiff,Nat.reduceBEq,reduceAdd,reduceMul,reduceSub,reduceLeDiff,reduceToNat,reducePow, q0, q2, q4, q7, q8, xc, h4, h7, h8, hc]))
      exact AHeadP.ext hT he (by omega) hxt
  · rw [ho] at hOr
    have he : adE key (some w) s pf = 6 := by unfold adE; rw [if_neg (by omega)]; simp [ho]
    rcases hf with ⟨rfl, rfl, rfl⟩ | ⟨a', b', q, rfl, rfl, rfl, hq⟩
    · have hF := zj9 τ p key w s x hgτ hxτ hne (by omega)
      repeat' (first|refine zW.zs ?_|refine zW.zb ?_|refine zW.zc ?_|refine zW.zt rfl ?_|refine zW.zf rfl ?_|(refine zW.zd rfl (fun ht => ?_) (fun ht => ?_)<;>try (exfalso;omega))|((first|refine zW.zr ?_|refine zW.zk ?_|refine zW.ze ?_|refine zW.zq ?_|(apply callW.mk_pu; (first | exact (fun _ => hOr _) | exact (fun _ => hF))) | (apply callW.za; (first | exact (hOr _) | exact (hF))) | ((first|apply zg0|apply zg1|apply zg2|apply zg3|apply zg4|apply zg5|apply zg6|apply zg7)<;>intro ht));all_goals try simp (disch:=first|omega|(simp only [lens,z6,z7,List.length_reverse,List.length_map,List.length_take,List.length_drop,zg,z1o,zo];first|done|omega)) only [go_sem,reduceEqDiff,Nat.reduceBEq,reduceAdd,reduceMul,reduceSub,reduceLeDiff,reduceToNat,reducePow, q0, q2, q4, q7, q8, xc, h4, h7, h8]))
      exact AHeadP.fork (q := τ.length + 1) hgS he (by rw [gapp (by simpa using dp), z2d dp]) (by rw [z1n (by simp)]; simp) (by omega) (by simp; omega) fun j hj hjp => by rw [gapp (by simp; omega), z18 (fun e => hjp e.symm), hτl j hj]
    · have hF := zja τ p q key w s x hgτ hxτ
      repeat' (first|refine zW.zs ?_|refine zW.zb ?_|refine zW.zc ?_|refine zW.zt rfl ?_|refine zW.zf rfl ?_|(refine zW.zd rfl (fun ht => ?_) (fun ht => ?_)<;>try (exfalso;omega))|((first|refine zW.zr ?_|refine zW.zk ?_|refine zW.ze ?_|refine zW.zq ?_|(apply callW.mk_pu; (first | exact (fun _ => hOr _) | exact (fun _ => hF))) | (apply callW.za; (first | exact (hOr _) | exact (hF))) | ((first|apply zg0|apply zg1|apply zg2|apply zg3|apply zg4|apply zg5|apply zg6|apply zg7)<;>intro ht));all_goals try simp (disch:=first|omega|(simp only [lens,z6,z7,List.length_reverse,List.length_map,List.length_take,List.length_drop,zg,z1o,zo];first|done|omega)) only [go_sem,reduceEqDiff,Nat.reduceBEq,reduceAdd,reduceMul,reduceSub,reduceLeDiff,reduceToNat,reducePow, q0, q2, q4, q7, q8, xc, h4, h7, h8]))
      exact AHeadP.forked hT (by simp) he hxt
attribute [local irreducible] zc5
set_option maxHeartbeats 16000000 in
theorem z7v (Y : Store) (p : Nat) (key : Hash) (now : Option Hdr) (fd : Option (Hdr × Hdr)) (own : List Nat) (s : Hdr) (pf : List Hash) (x y : AV) (hT : AudIs Y p key now fd own) (hx : RdSl Y 32 (hr s.p) x) (hy : RdSl Y 32 (hr pf) y) (hpl : pf.length < 1000000) :
    ACallsP TC 10 [.ptr p 0 0, .agg (sgC s.n s.r s.i s.s x), y] Y (AHeadP Y p key now fd own s pf) := by
  have xc := hx.cells
  unfold cellsOf at xc
  have hT' := hT
  obtain ⟨fv, fo, rfl, hg, hf⟩ := hT'
  have d := slen hg
  have hgS := hg
  have hMade := fun y => zat (Y ++ y) p key now.isSome (now.getD zHd).n (now.getD zHd).r (now.getD zHd).i (now.getD zHd).s (z11 32 (hr (now.getD zHd).p)) fv (by rw [gapp d]; exact hg)
  have hCk := fun y => zie (Y ++ y) key s.n s.i s.r s.s s.p x hx.app
  refine ACallsP.of_keepW q1sok (by simp) fun hw => ?_
  by_cases hbad : z3a key s.n s.i s.r s.s s.p = 0
  · rw [hbad] at hCk
    obtain ⟨hl3, hs0, hs4⟩ := val3 hbad
    have hne : s.p ≠ [] := fun e => by rw [e] at hl3; simp at hl3
    have hO := fun y => zau (Y ++ y) s.n s.r s.i s.s s.p x hx.app (by omega) hne
    cases now with
    | none =>
      have he : adE key none s pf = 1 := by unfold adE; rw [if_neg (by omega)]
      unfold adS at hg
      simp only [Option.getD_none, Option.isSome_none, zHd] at hg hMade
      repeat' (first|refine zW.zs ?_|refine zW.zb ?_|refine zW.zc ?_|refine zW.zt rfl ?_|refine zW.zf rfl ?_|(refine zW.zd rfl (fun ht => ?_) (fun ht => ?_)<;>try (exfalso;omega))|((first|refine zW.zr ?_|refine zW.zk ?_|refine zW.ze ?_|refine zW.zq ?_|(apply callW.mk_pu; (first | exact (fun _ => hMade _) | exact (fun _ => hCk _) | exact (fun _ => hO _))) | (apply callW.za; (first | exact (hMade _) | exact (hCk _) | exact (hO _))) | ((first|apply zg0|apply zg1|apply zg2|apply zg3|apply zg4|apply zg5|apply zg6|apply zg7)<;>intro ht));all_goals try simp (disch:=first|omega|(simp only [lens,z6,z7,List.length_reverse,List.length_map,List.length_take,List.length_drop,zg,z1o,zo];first|done|omega)) only [go_sem,reduceEqDiff,Nat.reduceBEq,reduceAdd,reduceMul,reduceSub,reduceLeDiff,reduceToNat,reducePow, xc, hg]))
      exact AHeadP.now hgS hf he (.inl rfl) (by rw [gapp (by simpa using d), z2d d]; rfl) (by simp) fun j hj hjp => by rw [gapp (by simpa using hj), z18 (fun e => hjp e.symm)]
    | some w =>
      unfold adS at hg
      simp only [Option.getD_some, Option.isSome_some] at hg hMade
      repeat' (first|refine zW.zs ?_|refine zW.zb ?_|refine zW.zc ?_|refine zW.zt rfl ?_|refine zW.zf rfl ?_|(refine zW.zd rfl (fun ht => ?_) (fun ht => ?_)<;>try (exfalso;omega))|((first|refine zW.zr ?_|refine zW.zk ?_|refine zW.ze ?_|refine zW.zq ?_|(apply callW.mk_pu; (first | exact (fun _ => hMade _) | exact (fun _ => hCk _))) | (apply callW.za; (first | exact (hMade _) | exact (hCk _))) | ((first|apply zg0|apply zg1|apply zg2|apply zg3|apply zg4|apply zg5|apply zg6|apply zg7)<;>intro ht));all_goals try simp (disch:=first|omega|(simp only [lens,z6,z7,List.length_reverse,List.length_map,List.length_take,List.length_drop,zg,z1o,zo];first|done|omega)) only [go_sem,reduceEqDiff,Nat.reduceBEq,reduceAdd,reduceMul,reduceSub,reduceLeDiff,reduceToNat,reducePow, xc, hg]))
      refine zW.reg2 ?_ ?_
      · simp (disch:=first|omega|(simp only [lens,z6,z7,List.length_reverse,List.length_map,List.length_take,List.length_drop,zg,z1o,zo];first|done|omega)) only [go_sem,reduceEqDiff,Nat.reduceBEq,reduceAdd,reduceMul,reduceSub,reduceLeDiff,reduceToNat,reducePow, hg, xc]
        repeat' (first|refine zW.zs ?_|refine zW.zb ?_|refine zW.zc ?_|refine zW.zt rfl ?_|refine zW.zf rfl ?_|(refine zW.zd rfl (fun ht => ?_) (fun ht => ?_)<;>try (exfalso;omega))|((first|refine zW.zr ?_|refine zW.zk ?_|refine zW.ze ?_|refine zW.zq ?_|((first|apply zg0|apply zg1|apply zg2|apply zg3|apply zg4|apply zg5|apply zg6|apply zg7)<;>intro ht));all_goals try simp (disch:=first|omega|(simp only [lens,z6,z7,List.length_reverse,List.length_map,List.length_take,List.length_drop,zg,z1o,zo];first|done|omega)) only [go_sem,reduceEqDiff,Nat.reduceBEq,reduceAdd,reduceMul,reduceSub,reduceLeDiff,reduceToNat,reducePow, hg, xc]))
        refine ze2 Y _ p (Y.length + 1) (Y.length + 2) key w fd _ s pf x y hT ⟨_, rfl⟩ hx hy hpl hbad ?_ ?_ ?_ _ ?_ ?_ ?_ ?_ ?_
        all_goals first | simp (disch:=first|omega|(simp only [lens,z6,z7,List.length_reverse,List.length_map,List.length_take,List.length_drop,zg,z1o,zo];first|done|omega)) only [go_sem,reduceEqDiff,Nat.reduceBEq,reduceAdd,reduceMul,reduceSub,reduceLeDiff,reduceToNat,reducePow] | skip
      · simp (disch:=first|omega|(simp only [lens,z6,z7,List.length_reverse,List.length_map,List.length_take,List.length_drop,zg,z1o,zo];first|done|omega)) only [go_sem,reduceEqDiff,Nat.reduceBEq,reduceAdd,reduceMul,reduceSub,reduceLeDiff,reduceToNat,reducePow, hg, xc]
        repeat' (first|refine zW.zs ?_|refine zW.zb ?_|refine zW.zc ?_|refine zW.zt rfl ?_|refine zW.zf rfl ?_|(refine zW.zd rfl (fun ht => ?_) (fun ht => ?_)<;>try (exfalso;omega))|((first|refine zW.zr ?_|refine zW.zk ?_|refine zW.ze ?_|refine zW.zq ?_|((first|apply zg0|apply zg1|apply zg2|apply zg3|apply zg4|apply zg5|apply zg6|apply zg7)<;>intro ht));all_goals try simp (disch:=first|omega|(simp only [lens,z6,z7,List.length_reverse,List.length_map,List.length_take,List.length_drop,zg,z1o,zo];first|done|omega)) only [go_sem,reduceEqDiff,Nat.reduceBEq,reduceAdd,reduceMul,reduceSub,reduceLeDiff,reduceToNat,reducePow, hg, xc]))
        refine ze2 Y _ p (Y.length + 2) (Y.length + 1) key w fd _ s pf x y hT ⟨_, rfl⟩ hx hy hpl hbad ?_ ?_ ?_ _ ?_ ?_ ?_ ?_ ?_
        all_goals first | simp (disch:=first|omega|(simp only [lens,z6,z7,List.length_reverse,List.length_map,List.length_take,List.length_drop,zg,z1o,zo];first|done|omega)) only [go_sem,reduceEqDiff,Nat.reduceBEq,reduceAdd,reduceMul,reduceSub,reduceLeDiff,reduceToNat,reducePow] | skip
  · have he : adE key now s pf = 0 := by unfold adE; rw [if_pos hbad]
    unfold adS at hg
    generalize z3a key s.n s.i s.r s.s s.p = c at *
    repeat' (first|refine zW.zs ?_|refine zW.zb ?_|refine zW.zc ?_|refine zW.zt rfl ?_|refine zW.zf rfl ?_|(refine zW.zd rfl (fun ht => ?_) (fun ht => ?_)<;>try (exfalso;omega))|((first|refine zW.zr ?_|refine zW.zk ?_|refine zW.ze ?_|refine zW.zq ?_|(apply callW.mk_pu; (first | exact (fun _ => hMade _) | exact (fun _ => hCk _))) | (apply callW.za; (first | exact (hMade _) | exact (hCk _))) | ((first|apply zg0|apply zg1|apply zg2|apply zg3|apply zg4|apply zg5|apply zg6|apply zg7)<;>intro ht));all_goals try simp (disch:=first|omega|(simp only [lens,z6,z7,List.length_reverse,List.length_map,List.length_take,List.length_drop,zg,z1o,zo];first|done|omega)) only [go_sem,reduceEqDiff,Nat.reduceBEq,reduceAdd,reduceMul,reduceSub,reduceLeDiff,reduceToNat,reducePow, xc, hg, hbad]))
    exact AHeadP.ext hT he (by omega) ⟨_, rfl⟩
/-- What Entry answers. -/
def adT (now : Option Hdr) (i : Int) (text : List UInt8) (path : List Hash) : Int := match now with
  | none => 4
  | some w => if i < 0 \/ w.n <= i then 82 else if 200 < text.length then 3 else chkP (lfH text) i w.n path w.r
set_option maxHeartbeats 8000000 in
theorem z9j (Y : Store) (p : Nat) (key : Hash) (now : Option Hdr) (fd : Option (Hdr × Hdr)) (own : List Nat) (i : Int) (text : List UInt8) (path : List Hash) (y : AV) (hT : AudIs Y p key now fd own) (hy : RdSl Y 32 (hr path) y) (hpl : path.length < 1000000) (htl : text.length < 1000000)
    (hi : -9223372036854775808 <= i /\ i <= 9223372036854775807) (hn : ∀ w, now = some w -> -9223372036854775808 <= w.n /\ w.n <= 9223372036854775807) : ACallsTo TC 11 [.ptr p 0 0, .int .i64 i, .str text, y] Y (.int .i64 (adT now i text path)) Y := by
  obtain ⟨fv, fo, rfl, hg, hf⟩ := hT
  have d := slen hg
  have hMade := fun y => zat (Y ++ y) p key now.isSome (now.getD zHd).n (now.getD zHd).r (now.getD zHd).i (now.getD zHd).s (z11 32 (hr (now.getD zHd).p)) fv (by rw [gapp d]; exact hg)
  have hMade0 := zat Y p key now.isSome (now.getD zHd).n (now.getD zHd).r (now.getD zHd).i (now.getD zHd).s (z11 32 (hr (now.getD zHd).p)) fv hg
  have hLf := fun Y => zd8 Y text (by omega)
  unfold adS at hg
  refine ACallsTo.of_body q1tok (by simp) fun hw _ => ?_
  cases now with
  | none =>
    simp only [Option.getD_none, Option.isSome_none] at hg hMade hMade0
    repeat' (first|refine zW.zs ?_|refine zW.zb ?_|refine zW.zc ?_|refine zW.zt rfl ?_|refine zW.zf rfl ?_|(refine zW.zd rfl (fun ht => ?_) (fun ht => ?_)<;>try (exfalso;omega))|((first|refine zW.zr ?_|refine zW.zk ?_|refine zW.ze ?_|refine zW.zq ?_|(apply callW.mk_pu; (first | exact (fun _ => hMade0) | exact (fun _ => hMade _))) | (apply callW.za; (first | exact (hMade0) | exact (hMade _))) | ((first|apply zg0|apply zg1|apply zg2|apply zg3|apply zg4|apply zg5|apply zg6|apply zg7)<;>intro ht));all_goals try simp (disch:=first|omega|(simp only [lens,z6,z7,List.length_reverse,List.length_map,List.length_take,List.length_drop,zg,z1o,zo];first|done|omega)) only [go_sem,reduceEqDiff,Nat.reduceBEq,reduceAdd,reduceMul,reduceSub,reduceLeDiff,reduceToNat,reducePow, hg]))
    exact DownV.same hw (zz _ rfl)
  | some w =>
    simp only [Option.getD_some, Option.isSome_some] at hg hMade hMade0
    have hC := fun y0 => zao (Y ++ y0) (lfH text) i w.n path y w.r hy.app hpl hi (hn w rfl)
    have hC0 := zao Y (lfH text) i w.n path y w.r hy hpl hi (hn w rfl)
    unfold adT
    simp only
    by_cases h1 : i < 0
    · rw [if_pos (.inl h1)]
      repeat' (first|refine zW.zs ?_|refine zW.zb ?_|refine zW.zc ?_|refine zW.zt rfl ?_|refine zW.zf rfl ?_|(refine zW.zd rfl (fun ht => ?_) (fun ht => ?_)<;>try (exfalso;omega))|((first|refine zW.zr ?_|refine zW.zk ?_|refine zW.ze ?_|refine zW.zq ?_|(apply callW.mk_pu; (first | exact (fun _ => hMade0) | exact (fun _ => hMade _))) | (apply callW.za; (first | exact (hMade0) | exact (hMade _))) | ((first|apply zg0|apply zg1|apply zg2|apply zg3|apply zg4|apply zg5|apply zg6|apply zg7)<;>intro ht));all_goals try simp (disch:=first|omega|(simp only [lens,z6,z7,List.length_reverse,List.length_map,List.length_take,List.length_drop,zg,z1o,zo];first|done|omega)) only [go_sem,reduceEqDiff,Nat.reduceBEq,reduceAdd,reduceMul,reduceSub,reduceLeDiff,reduceToNat,reducePow, hg, h1]))
      exact DownV.same hw (zz _ rfl)
    · by_cases h2 : w.n <= i
      · rw [if_pos (.inr h2)]
        have h2' : i >= w.n := h2
        repeat' (first|refine zW.zs ?_|refine zW.zb ?_|refine zW.zc ?_|refine zW.zt rfl ?_|refine zW.zf rfl ?_|(refine zW.zd rfl (fun ht => ?_) (fun ht => ?_)<;>try (exfalso;omega))|((first|refine zW.zr ?_|refine zW.zk ?_|refine zW.ze ?_|refine zW.zq ?_|(apply callW.mk_pu; (first | exact (fun _ => hMade0) | exact (fun _ => hMade _))) | (apply callW.za; (first | exact (hMade0) | exact (hMade _))) | ((first|apply zg0|apply zg1|apply zg2|apply zg3|apply zg4|apply zg5|apply zg6|apply zg7)<;>intro ht));all_goals try simp (disch:=first|omega|(simp only [lens,z6,z7,List.length_reverse,List.length_map,List.length_take,List.length_drop,zg,z1o,zo];first|done|omega)) only [go_sem,reduceEqDiff,Nat.reduceBEq,reduceAdd,reduceMul,reduceSub,reduceLeDiff,reduceToNat,reducePow, hg, h1, h2']))
        exact DownV.same hw (zz _ rfl)
      · rw [if_neg (by omega)]
        have h2' : ¬ i >= w.n := h2
        by_cases h3 : 200 < text.length
        · rw [if_pos h3]
          have h3' : (text.length : Int) > 200 := by omega
          repeat' (first|refine zW.zs ?_|refine zW.zb ?_|refine zW.zc ?_|refine zW.zt rfl ?_|refine zW.zf rfl ?_|(refine zW.zd rfl (fun ht => ?_) (fun ht => ?_)<;>try (exfalso;omega))|((first|refine zW.zr ?_|refine zW.zk ?_|refine zW.ze ?_|refine zW.zq ?_|(apply callW.mk_pu; (first | exact (fun _ => hMade0) | exact (fun _ => hMade _))) | (apply callW.za; (first | exact (hMade0) | exact (hMade _))) | ((first|apply zg0|apply zg1|apply zg2|apply zg3|apply zg4|apply zg5|apply zg6|apply zg7)<;>intro ht));all_goals try simp (disch:=first|omega|(simp only [lens,z6,z7,List.length_reverse,List.length_map,List.length_take,List.length_drop,zg,z1o,zo];first|done|omega)) only [go_sem,reduceEqDiff,Nat.reduceBEq,reduceAdd,reduceMul,reduceSub,reduceLeDiff,reduceToNat,reducePow, hg, h1, h2', h3']))
          exact DownV.same hw (zz _ rfl)
        · rw [if_neg h3]
          have h3' : ¬ (text.length : Int) > 200 := by omega
          generalize chkP (lfH text) i w.n path w.r = c at *
          repeat' (first|refine zW.zs ?_|refine zW.zb ?_|refine zW.zc ?_|refine zW.zt rfl ?_|refine zW.zf rfl ?_|(refine zW.zd rfl (fun ht => ?_) (fun ht => ?_)<;>try (exfalso;omega))|((first|refine zW.zr ?_|refine zW.zk ?_|refine zW.ze ?_|refine zW.zq ?_|(apply callW.mk_pu; (first | exact (fun _ => hMade0) | exact (fun _ => hMade _) | exact (fun _ => hLf _) | exact (fun _ => hC0) | exact (fun _ => hC _))) | (apply callW.za; (first | exact (hMade0) | exact (hMade _) | exact (hLf _) | exact (hC0) | exact (hC _))) | ((first|apply zg0|apply zg1|apply zg2|apply zg3|apply zg4|apply zg5|apply zg6|apply zg7)<;>intro ht));all_goals try simp (disch:=first|omega|(simp only [lens,z6,z7,List.length_reverse,List.length_map,List.length_take,List.length_drop,zg,z1o,zo];first|done|omega)) only [go_sem,reduceEqDiff,Nat.reduceBEq,reduceAdd,reduceMul,reduceSub,reduceLeDiff,reduceToNat,reducePow, hg, h1, h2', h3']))
          exact DownV.same hw (zz _ rfl)
end Am
end Go.Proofs.YtjgljhbmljgaeaaDoor
end
section
/- A law's log: contracts: Made, Leaves, Head; the path of one of two leaves. -/
namespace Go.Proofs.YtjgljhbmljgaeaaDoor
namespace Am
def logS : List UInt8 := [108, 111, 103]
attribute [local irreducible] ACallsTo ACallsP
theorem zih (Y : Store) (L : List (List (List UInt8))) (es : List (List AV)) (ex : Bool) : ACallsTo TC 25 [.vsl 1 es ex] Y (.agg [.ptr (Y.length + 1) 0 0, .vsl 1 es ex]) (Y ++ [some [[.ptr (Y.length + 1) 0 0, .vsl 1 es ex]], some [z1g true logS (keyL logS)]]) := by
  have hN := fun Y => zmk Y logS (by simp [logS])
  rw [show logS = [108, 111, 103] from rfl] at *
  refine ACallsTo.of_body_keep q1uok (by simp) ?_
  repeat' (first|refine zW.zs ?_|refine zW.zb ?_|refine zW.zc ?_|refine zW.zt rfl ?_|refine zW.zf rfl ?_|(refine zW.zd rfl (fun ht => ?_) (fun ht => ?_)<;>try (exfalso;omega))|((first|refine zW.zr ?_|refine zW.zk ?_|refine zW.ze ?_|refine zW.zq ?_|(apply callW.mk_pu; (first | exact (fun _ => hN _))) | (apply callW.za; (first | exact (hN _))) | ((first|apply zg0|apply zg1|apply zg2|apply zg3|apply zg4|apply zg5|apply zg6|apply zg7)<;>intro ht));all_goals try simp (disch:=first|omega|(simp only [lens,z6,z7,List.length_reverse,List.length_map,List.length_take,List.length_drop,zg,z14,z16,zo];first|done|omega)) only [go_sem,reduceEqDiff,Nat.reduceBEq,reduceAdd,reduceMul,reduceSub,reduceLeDiff,reduceToNat,reducePow, z41]))
set_option maxHeartbeats 4000000 in
theorem zig (Y : Store) (L : List (List UInt8)) (y : AV) (hy : SlV 1 (strs L) y) (hL : ∀ s ∈ L, s.length < 1000000) (hl : L.length < 1000000) : ACallsTo TC 52 [y] Y (z11 32 (hr (lvs L))) Y := by
  have r1 := hy.len
  rw [z14] at r1
  unfold z1k at r1
  refine ACallsTo.of_body q20ok (by simp) fun hw _ => ?_
  repeat' (first|refine zW.zs ?_|refine zW.zb ?_|refine zW.zc ?_|refine zW.zt rfl ?_|refine zW.zf rfl ?_|(refine zW.zd rfl (fun ht => ?_) (fun ht => ?_)<;>try (exfalso;omega))|((first|refine zW.zr ?_|refine zW.zk ?_|refine zW.ze ?_|refine zW.zq ?_|((first|apply zg0|apply zg1|apply zg2|apply zg3|apply zg4|apply zg5|apply zg6|apply zg7)<;>intro ht));all_goals try simp (disch:=first|omega|(simp only [lens,z6,z7,List.length_reverse,List.length_map,List.length_take,List.length_drop,zg,z14,z16,zo];first|done|omega)) only [go_sem,reduceEqDiff,Nat.reduceBEq,reduceAdd,reduceMul,reduceSub,reduceLeDiff,reduceToNat,reducePow, r1]))
  refine zW.loop (fun m O Y' => ∃ (i : Nat) (v : AV), m + i = L.length /\ OwnN 32 Y Y' v (hr (lvs (L.take i))) /\ O 0 = y /\ O 3 = v /\ O 4 = .int .i64 i) L.length ?_ ?_
  · refine ⟨0, .nilsl, by omega, ?_, by simp (disch:=first|omega|(simp only [lens,z6,z7,List.length_reverse,List.length_map,List.length_take,List.length_drop,zg,z14,z16,zo];first|done|omega)) only [go_sem,reduceEqDiff,Nat.reduceBEq,reduceAdd,reduceMul,reduceSub,reduceLeDiff,reduceToNat,reducePow], by simp (disch:=first|omega|(simp only [lens,z6,z7,List.length_reverse,List.length_map,List.length_take,List.length_drop,zg,z14,z16,zo];first|done|omega)) only [go_sem,reduceEqDiff,Nat.reduceBEq,reduceAdd,reduceMul,reduceSub,reduceLeDiff,reduceToNat,reducePow], by simp (disch:=first|omega|(simp only [lens,z6,z7,List.length_reverse,List.length_map,List.length_take,List.length_drop,zg,z14,z16,zo];first|done|omega)) only [go_sem,reduceEqDiff,Nat.reduceBEq,reduceAdd,reduceMul,reduceSub,reduceLeDiff,reduceToNat,reducePow]; rfl⟩
    exact ⟨[], by simp, .inl ⟨by simp [lvs, hr], rfl⟩⟩
  · rintro m O Y' ⟨i, v, hm, hO, q0, q3, q4⟩
    by_cases hi : i < L.length
    · obtain ⟨ex, rfl⟩ := hy.vsl (by rw [z14]; omega)
      have hg := zqa hi
      have hLf := fun Y => zoq Y (stD L i) (by have := hL _ (zpz hi); omega)
      obtain ⟨v', Y2, ha, hO2⟩ := hO.app (ys := [hc (lfH (stD L i))]) (by simp) (by rw [z7, z16, List.length_take]; simp; omega)
      have hcat : hr (lvs (L.take i)) ++ [hc (lfH (stD L i))] = hr (lvs (L.take (i + 1))) := by rw [zqg hi]; simp [lvs, hr]
      rw [hcat] at hO2
      rw [show L.getD i [] = stD L i from rfl] at hg
      generalize stD L i = s at *
      repeat' (first|refine zW.zs ?_|refine zW.zb ?_|refine zW.zc ?_|refine zW.zt rfl ?_|refine zW.zf rfl ?_|(refine zW.zd rfl (fun ht => ?_) (fun ht => ?_)<;>try (exfalso;omega))|((first|refine zW.zr ?_|refine zW.zk ?_|refine zW.ze ?_|refine zW.zq ?_|(apply callW.mk_pu; (first | exact (fun _ => hLf _))) | (apply callW.za; (first | exact (hLf _))) | ((first|apply zg0|apply zg1|apply zg2|apply zg3|apply zg4|apply zg5|apply zg6|apply zg7)<;>intro ht));all_goals try simp (disch:=first|omega|(simp only [lens,z6,z7,List.length_reverse,List.length_map,List.length_take,List.length_drop,zg,z14,z16,zo];first|done|omega)) only [go_sem,reduceEqDiff,Nat.reduceBEq,reduceAdd,reduceMul,reduceSub,reduceLeDiff,reduceToNat,reducePow, q0, q3, q4, hg, r1, ha]))
      exact ⟨m - 1, by omega, i + 1, v', by omega, hO2, by simp⟩
    · obtain rfl : i = L.length := by omega
      rw [List.take_of_length_le (Nat.le_refl _)] at hO
      repeat' (first|refine zW.zs ?_|refine zW.zb ?_|refine zW.zc ?_|refine zW.zt rfl ?_|refine zW.zf rfl ?_|(refine zW.zd rfl (fun ht => ?_) (fun ht => ?_)<;>try (exfalso;omega))|((first|refine zW.zr ?_|refine zW.zk ?_|refine zW.ze ?_|refine zW.zq ?_|((first|apply zg0|apply zg1|apply zg2|apply zg3|apply zg4|apply zg5|apply zg6|apply zg7)<;>intro ht));all_goals try simp (disch:=first|omega|(simp only [lens,z6,z7,List.length_reverse,List.length_map,List.length_take,List.length_drop,zg,z14,z16,zo];first|done|omega)) only [go_sem,reduceEqDiff,Nat.reduceBEq,reduceAdd,reduceMul,reduceSub,reduceLeDiff,reduceToNat,reducePow, q0, q3, q4, r1]))
      exact hO.froze hw (z2t _)
set_option maxHeartbeats 16000000 in
theorem zdi (Y : Store) (t : Nat) (seed : List UInt8) (L : List (List UInt8)) (ex : Bool) (n k : Nat) (a : Int) (hk : z10 .and .i64 a 7 = some (.int .i64 (k : Nat))) (hk8 : k < 8) (hn : n <= L.length) (ht : Y[t]? = some (some [z1g true seed (keyL seed)])) (hs : seed.length < 1000000) (hL : ∀ s ∈ L, s.length < 1000000) (hl : L.length < 1000000) :
    ACallsTo TC 29 [.agg [.ptr t 0 0, .vsl 1 (strs L) ex], .int .i64 n, .int .i64 a] Y (.agg (hdrC (mkH seed k (L.take n)))) Y := by
  have d := slen ht
  have hLv := fun Y b => zig Y (L.take n) (.vsl 1 (strs (L.take n)) b) (.inr ⟨b, rfl⟩) (fun s hs => hL s (List.mem_of_mem_take hs)) (by rw [List.length_take]; omega)
  have hRt := fun Y => zos Y (lvs (L.take n)) (z11 32 (hr (lvs (L.take n)))) (.of (z6l _ _)) (by rw [z16, List.length_take]; omega)
  have hD := fun Y => zop Y (n : Int) (z1b (lvs (L.take n)))
  have hS := fun y => zqn (Y ++ y) t seed (keyL seed) k (digH n (z1b (lvs (L.take n)))) (by rw [gapp d]; exact ht) (z2x seed) hk8 hs
  have hm : hdrC (mkH seed k (L.take n)) = sgC n (z1b (lvs (L.take n))) k (ksgS seed k (digH n (z1b (lvs (L.take n)))).1) (z11 32 (hr (z1m (keyL seed) k))) := by
    unfold mkH hdrC
    simp only [List.length_take, Nat.min_eq_left hn]
  rw [hm]
  have hrl : RLs Y.length (sgC n (z1b (lvs (L.take n))) k (ksgS seed k (digH n (z1b (lvs (L.take n)))).1) (z11 32 (hr (z1m (keyL seed) k)))) := zcb (zgp (z2t _))
  unfold zcq at hS
  generalize z1b (lvs (L.take n)) = R at *
  generalize hsig : ksgS seed k (digH n R).1 = sig at *
  generalize z1m (keyL seed) k = PH at *
  generalize digH n R = dg at *
  refine ACallsTo.of_body q1wok (by simp) fun hw _ => ?_
  repeat' (first|refine zW.zs ?_|refine zW.zb ?_|refine zW.zc ?_|refine zW.zt rfl ?_|refine zW.zf rfl ?_|(refine zW.zd rfl (fun ht => ?_) (fun ht => ?_)<;>try (exfalso;omega))|((first|refine zW.zr ?_|refine zW.zk ?_|refine zW.ze ?_|refine zW.zq ?_|(apply callW.mk_pu; (first | exact (fun _ => hLv _ _) | exact (fun _ => hRt _) | exact (fun _ => hD _))) | (apply callW.za; (first | exact (hLv _ _) | exact (hRt _) | exact (hD _))) | ((first|apply zg0|apply zg1|apply zg2|apply zg3|apply zg4|apply zg5|apply zg6|apply zg7)<;>intro ht));all_goals try simp (disch:=first|omega|(simp only [lens,z6,z7,List.length_reverse,List.length_map,List.length_take,List.length_drop,zg,z14,z16,zo];first|done|omega)) only [go_sem,reduceEqDiff,Nat.reduceBEq,reduceAdd,reduceMul,reduceSub,reduceLeDiff,reduceToNat,reducePow, hk, Int.toNat_natCast, zqc, zcs]))
  refine callW.mk_pu2 (caps := []) (hS _) (fun h hh => hh.elim) ?_
  simp (disch:=first|omega|(simp only [lens,z6,z7,List.length_reverse,List.length_map,List.length_take,List.length_drop,zg,z14,z16,zo];first|done|omega)) only [go_sem,reduceEqDiff,Nat.reduceBEq,reduceAdd,reduceMul,reduceSub,reduceLeDiff,reduceToNat,reducePow, hS, List.append_nil, zcs]
  repeat' (first|refine zW.zs ?_|refine zW.zb ?_|refine zW.zc ?_|refine zW.zt rfl ?_|refine zW.zf rfl ?_|(refine zW.zd rfl (fun ht => ?_) (fun ht => ?_)<;>try (exfalso;omega))|((first|refine zW.zr ?_|refine zW.zk ?_|refine zW.ze ?_|refine zW.zq ?_|((first|apply zg0|apply zg1|apply zg2|apply zg3|apply zg4|apply zg5|apply zg6|apply zg7)<;>intro ht));all_goals try simp (disch:=first|omega|(simp only [lens,z6,z7,List.length_reverse,List.length_map,List.length_take,List.length_drop,zg,z14,z16,zo];first|done|omega)) only [go_sem,reduceEqDiff,Nat.reduceBEq,reduceAdd,reduceMul,reduceSub,reduceLeDiff,reduceToNat,reducePow, zcs]))
  have e : ∀ (Z : List AV), Z.length = 36 -> sgC n R k sig (z11 32 (hr PH)) ++ (List.drop 36 (sgC n R 0 [] AV.nilsl) ++ List.drop (36 + (List.drop 36 (sgC n R 0 [] AV.nilsl)).length) Z) = sgC n R k sig (z11 32 (hr PH)) := by
    intro Z hZ
    rw [zh2, List.nil_append, List.drop_eq_nil_of_le (by simp [hZ]), List.append_nil]
  rw [e _ rfl]
  exact Ext.pure hw ⟨_, rfl⟩ (by simp only [RL]; exact hrl)
theorem zir (Y : Store) (r : Nat) (a : Hash) (hg : Y[r]? = some (some (hr [a]))) : ACallsTo TC 54 [.sl r 0 1 none 32] Y (.tup []) Y := by
  have d := slen hg
  refine ACallsTo.of_body_keep qyok (by simp) ?_
  repeat' (first|refine zW.zs ?_|refine zW.zb ?_|refine zW.zc ?_|refine zW.zt rfl ?_|refine zW.zf rfl ?_|(refine zW.zd rfl (fun ht => ?_) (fun ht => ?_)<;>try (exfalso;omega))|((first|refine zW.zr ?_|refine zW.zk ?_|refine zW.ze ?_|refine zW.zq ?_|((first|apply zg0|apply zg1|apply zg2|apply zg3|apply zg4|apply zg5|apply zg6|apply zg7)<;>intro ht));all_goals try simp (disch:=first|omega|(simp only [lens,z6,z7,List.length_reverse,List.length_map,List.length_take,List.length_drop,zg,z14,z16,zo];first|done|omega)) only [go_sem,reduceEqDiff,Nat.reduceBEq,reduceAdd,reduceMul,reduceSub,reduceLeDiff,reduceToNat,reducePow]))
  refine zW.loop (fun m O Y' => Y' = Y /\ O 0 = .sl r 0 1 none 32 /\ O 2 = .int .i64 0 /\ O 3 = .int .i64 0) 0 ?_ ?_
  · exact ⟨rfl, by simp (disch:=first|omega|(simp only [lens,z6,z7,List.length_reverse,List.length_map,List.length_take,List.length_drop,zg,z14,z16,zo];first|done|omega)) only [go_sem,reduceEqDiff,Nat.reduceBEq,reduceAdd,reduceMul,reduceSub,reduceLeDiff,reduceToNat,reducePow], by simp (disch:=first|omega|(simp only [lens,z6,z7,List.length_reverse,List.length_map,List.length_take,List.length_drop,zg,z14,z16,zo];first|done|omega)) only [go_sem,reduceEqDiff,Nat.reduceBEq,reduceAdd,reduceMul,reduceSub,reduceLeDiff,reduceToNat,reducePow], by simp (disch:=first|omega|(simp only [lens,z6,z7,List.length_reverse,List.length_map,List.length_take,List.length_drop,zg,z14,z16,zo];first|done|omega)) only [go_sem,reduceEqDiff,Nat.reduceBEq,reduceAdd,reduceMul,reduceSub,reduceLeDiff,reduceToNat,reducePow]; rfl⟩
  · rintro m O Y' ⟨rfl, q0, q2, q3⟩
    repeat' (first|refine zW.zs ?_|refine zW.zb ?_|refine zW.zc ?_|refine zW.zt rfl ?_|refine zW.zf rfl ?_|(refine zW.zd rfl (fun ht => ?_) (fun ht => ?_)<;>try (exfalso;omega))|((first|refine zW.zr ?_|refine zW.zk ?_|refine zW.ze ?_|refine zW.zq ?_|((first|apply zg0|apply zg1|apply zg2|apply zg3|apply zg4|apply zg5|apply zg6|apply zg7)<;>intro ht));all_goals try simp (disch:=first|omega|(simp only [lens,z6,z7,List.length_reverse,List.length_map,List.length_take,List.length_drop,zg,z14,z16,zo];first|done|omega)) only [go_sem,reduceEqDiff,Nat.reduceBEq,reduceAdd,reduceMul,reduceSub,reduceLeDiff,reduceToNat,reducePow, q0, q2, q3, z41]))
set_option maxHeartbeats 8000000 in
/-- The path of the second one of two leaves. -/
theorem zij (Y : Store) (a b : Hash) (ex : Bool) : ACallsTo TC 30 [.vsl 32 (hr [a, b]) ex, .int .i64 1] Y (.tup [.sl Y.length 0 1 none 32, .int .i64 0]) (Y ++ [some (hr [a])]) := by
  refine ACallsTo.of_body qwok (by simp) fun hw _ => ?_
  have hK' : (hr [a, b]).length = 2 := rfl
  repeat' (first|refine zW.zs ?_|refine zW.zb ?_|refine zW.zc ?_|refine zW.zt rfl ?_|refine zW.zf rfl ?_|(refine zW.zd rfl (fun ht => ?_) (fun ht => ?_)<;>try (exfalso;omega))|((first|refine zW.zr ?_|refine zW.zk ?_|refine zW.ze ?_|refine zW.zq ?_|((first|apply zg0|apply zg1|apply zg2|apply zg3|apply zg4|apply zg5|apply zg6|apply zg7)<;>intro ht));all_goals try simp (disch:=first|omega|(simp only [lens,z6,z7,List.length_reverse,List.length_map,List.length_take,List.length_drop,zg,z14,z16,zo];first|done|omega)) only [go_sem,reduceEqDiff,Nat.reduceBEq,reduceAdd,reduceMul,reduceSub,reduceLeDiff,reduceToNat,reducePow, hK']))
  refine zW.loop (fun m O Y' => (m = 1 /\ Y' = Y /\ (∃ ex, O 0 = .vsl 32 (hr [a, b]) ex) /\ O 1 = .int .i64 1 /\ O 6 = .nilsl) \/ (m = 0 /\ Y' = Y ++ [some (hr [a])] /\ (∃ ex, O 0 = .vsl 32 (hr [b]) ex) /\ O 1 = .int .i64 0 /\ O 6 = .sl Y.length 0 1 none 32)) 1 ?_ ?_
  · exact .inl ⟨rfl, rfl, ⟨ex, by simp (disch:=first|omega|(simp only [lens,z6,z7,List.length_reverse,List.length_map,List.length_take,List.length_drop,zg,z14,z16,zo];first|done|omega)) only [go_sem,reduceEqDiff,Nat.reduceBEq,reduceAdd,reduceMul,reduceSub,reduceLeDiff,reduceToNat,reducePow]⟩, by simp (disch:=first|omega|(simp only [lens,z6,z7,List.length_reverse,List.length_map,List.length_take,List.length_drop,zg,z14,z16,zo];first|done|omega)) only [go_sem,reduceEqDiff,Nat.reduceBEq,reduceAdd,reduceMul,reduceSub,reduceLeDiff,reduceToNat,reducePow], by simp (disch:=first|omega|(simp only [lens,z6,z7,List.length_reverse,List.length_map,List.length_take,List.length_drop,zg,z14,z16,zo];first|done|omega)) only [go_sem,reduceEqDiff,Nat.reduceBEq,reduceAdd,reduceMul,reduceSub,reduceLeDiff,reduceToNat,reducePow]⟩
  · rintro m O Y' (⟨rfl, rfl, ⟨ex, q0⟩, q1, q6⟩ | ⟨rfl, rfl, ⟨ex, q0⟩, q1, q6⟩)
    · have hSp := fun Y => z8y Y 2 (by omega)
      have hsk : zj 2 = 1 := by decide
      rw [hsk] at hSp
      have hRa := fun Y t => zaf Y [a] (.vsl 32 (hr [a]) t) (.of (.inr ⟨t, rfl⟩)) (by simp)
      rw [zcd] at hRa
      have t1 : (hr [a, b]).take 1 = hr [a] := rfl
      have t2 : (hr [a, b]).drop 1 = hr [b] := rfl
      repeat' (first|refine zW.zs ?_|refine zW.zb ?_|refine zW.zc ?_|refine zW.zt rfl ?_|refine zW.zf rfl ?_|(refine zW.zd rfl (fun ht => ?_) (fun ht => ?_)<;>try (exfalso;omega))|((first|refine zW.zr ?_|refine zW.zk ?_|refine zW.ze ?_|refine zW.zq ?_|(apply callW.mk_pu; (first | exact (fun _ => hSp _) | exact (fun _ => hRa _ _))) | (apply callW.za; (first | exact (hSp _) | exact (hRa _ _))) | ((first|apply zg0|apply zg1|apply zg2|apply zg3|apply zg4|apply zg5|apply zg6|apply zg7)<;>intro ht));all_goals try simp (disch:=first|omega|(simp only [lens,z6,z7,List.length_reverse,List.length_map,List.length_take,List.length_drop,zg,z14,z16,zo];first|done|omega)) only [go_sem,reduceEqDiff,Nat.reduceBEq,reduceAdd,reduceMul,reduceSub,reduceLeDiff,reduceToNat,reducePow, q0, q1, q6, hK', t1, t2]))
      exact ⟨0, by omega, .inr ⟨rfl, rfl, ⟨ex, rfl⟩, rfl⟩⟩
    · have hl1 : (hr [b]).length = 1 := rfl
      have hRv := zir (Y ++ [some (hr [a])]) Y.length a (by rw [z1n (by omega), Nat.sub_self]; rfl)
      repeat' (first|refine zW.zs ?_|refine zW.zb ?_|refine zW.zc ?_|refine zW.zt rfl ?_|refine zW.zf rfl ?_|(refine zW.zd rfl (fun ht => ?_) (fun ht => ?_)<;>try (exfalso;omega))|((first|refine zW.zr ?_|refine zW.zk ?_|refine zW.ze ?_|refine zW.zq ?_|(apply callW.mk_pu; (first | exact (fun _ => hRv))) | (apply callW.za; (first | exact (hRv))) | ((first|apply zg0|apply zg1|apply zg2|apply zg3|apply zg4|apply zg5|apply zg6|apply zg7)<;>intro ht));all_goals try simp (disch:=first|omega|(simp only [lens,z6,z7,List.length_reverse,List.length_map,List.length_take,List.length_drop,zg,z14,z16,zo];first|done|omega)) only [go_sem,reduceEqDiff,Nat.reduceBEq,reduceAdd,reduceMul,reduceSub,reduceLeDiff,reduceToNat,reducePow, q0, q1, q6, hl1]))
      have h := DownV.tup2 (i := .i64) (e := 0) (DownV.own (j := 0) (news := [some (hr [a])]) (o := hr [a]) (off := 0) (len := 1) (esz := 32) (lim := none) (τ := Y) hw rfl (z2t _))
      exact h
end Am
end Go.Proofs.YtjgljhbmljgaeaaDoor
end
section
/- Publishers: contracts: New, Key, Log, Heads, Source of one in memory. -/
namespace Go.Proofs.YtjgljhbmljgaeaaDoor
namespace Am
attribute [local irreducible] ACallsTo ACallsP
theorem PubIs.key {Y : Store} {r : Nat} {seed : List UInt8} {L : List (List UInt8)} {H : List Hdr} {own : List Nat} (h : PubIs Y r seed L H own) : ACallsTo TC 15 [.ptr r 0 0] Y (.agg (hc (z1b (keyL seed)))) Y := by
  obtain ⟨t, lg, lv, z, hs, sl, sv, sh, rfl, hg, ht, h1, h2, hz, h3⟩ := h
  exact zog Y r t seed (keyL seed) lg lv z hs L.length hg ht (z2x seed)
theorem PubIs.log {Y : Store} {r : Nat} {seed : List UInt8} {L : List (List UInt8)} {H : List Hdr} {own : List Nat} (h : PubIs Y r seed L H own) (hL : L.length < 1000000) : ACallsTo TC 17 [.ptr r 0 0] Y (z11 1 (strs L)) Y := by
  obtain ⟨t, lg, lv, z, hs, sl, sv, sh, rfl, hg, ht, h1, h2, hz, h3⟩ := h
  refine zoh Y r t L lg lv z hs L.length hg ?_ hL
  rcases h1 with ⟨_, e, rfl⟩ | ⟨q, _, hn, rfl, hq⟩
  · refine .inl ⟨?_, rfl⟩
    have := congrArg List.length e
    rw [z14] at this
    exact List.eq_nil_of_length_eq_zero this
  · exact .inr ⟨q, fun e => hn (by rw [e]; rfl), by rw [z14], hq⟩
theorem PubIs.heads {Y : Store} {r : Nat} {seed : List UInt8} {L : List (List UInt8)} {H : List Hdr} {own : List Nat} (h : PubIs Y r seed L H own) (hok : PubOk seed L H) : ACallsTo TC 18 [.ptr r 0 0] Y (z11 36 (hdrs H)) Y := by
  obtain ⟨t, lg, lv, z, hs, sl, sv, sh, rfl, hg, ht, h1, h2, hz, h3⟩ := h
  refine zof Y r t H hs lg lv z L.length hg ?_ (by have := hok.len; omega) hok.path
  rcases h3 with ⟨_, e, rfl⟩ | ⟨q, _, hn, rfl, hq⟩
  · refine .inl ⟨?_, rfl⟩
    have := congrArg List.length e
    rw [z8h] at this
    exact List.eq_nil_of_length_eq_zero this
  · exact .inr ⟨q, fun e => hn (by rw [e]; rfl), by rw [z8h], hq⟩
end Am
end Go.Proofs.YtjgljhbmljgaeaaDoor
end
section
/- Publishers: the chapter's publisher. -/
namespace Go.Proofs.YtjgljhbmljgaeaaDoor
namespace Am
theorem PubOk.one (seed : List UInt8) (s : List UInt8) (M : List (List UInt8)) : PubOk seed (s :: M) [mkH seed 0 [s]] := by
  refine ⟨by simp, fun i h hi => ?_, fun i h h' hi hi' => by simp at hi'⟩
  match i, hi with
  | 0, hi =>
    simp only [List.getElem?_cons_zero, Option.some.injEq] at hi
    exact ⟨1, by rw [<- hi]; simp, by omega, by simp⟩
  | i + 1, hi => simp at hi
attribute [local irreducible] ACallsTo ACallsP
theorem zf9 (h : Hdr) : (hdrC h).take 36 = hdrC h := List.take_of_length_le (by rw [zo]; omega)
end Am
end Go.Proofs.YtjgljhbmljgaeaaDoor
end
section
/- Auditors: what the chapter's heads are answered. -/
namespace Go.Proofs.YtjgljhbmljgaeaaDoor
namespace Am
theorem zjf : z1e (shaS [0, 97]) (shaS [0, 97]) ≠ z1e (shaS [0, 97]) (shaS [0, 98]) := by decide +kernel
/-- What was honestly proved is checked. -/
theorem zkc (l : List Hash) (m : Nat) (hm : m <= l.length) (hl : l.length <= 4096) : chkH m l.length (z1b (l.take m)) (z1b l) (z2q l m) = 0 := by
  have h := zlx (l := hb l) (m := m) (by rw [z39]; exact hm) (by rw [z39]; exact hl)
  rw [z39, zf7] at h
  unfold chkH
  rw [zc2]
  exact h
theorem zka (o nw : Hash) : chkH 1 2 o nw [] = 80 := by
  have h := zkb (m := 1) (n := 2) (o := o) (nw := nw) (ps := []) (by omega) (by omega) (by omega)
  have e : lp 0 1 = [false] := by
    rw [lp, dif_neg (by omega), if_neg (by omega), if_neg (by omega), lp, dif_pos (by omega)]
  have e2 : st 0 1 = (0, 1) := by rw [st, dif_neg (by omega)]
  show chkI 1 2 o.1 nw.1 (hb []) = 80
  unfold chkI
  rw [if_neg (by omega), if_neg (by omega), if_neg (by omega)]
  show fitI (chkS 0 1 o.1 []) o.1 nw.1 = 80
  unfold chkS chkG
  rw [e2, if_neg (by omega), e]
  rfl
theorem zem (x a root : Hash) : chkP x 1 2 [a] root = if zx a x = root then 0 else 80 := by
  unfold chkP
  rw [if_neg (by omega)]
  show z2o (z21 [a] x 1 1) root 1 = _
  have e : z21 [a] x 1 1 = (zx a x, 0, 1) := by
    simp [z21, z26]
  rw [e]
  unfold z2o
  by_cases h : zx a x = root
  · rw [if_pos h]; simp [h]
  · rw [if_neg h]; simp [h]
def lgA : List (List UInt8) := [[97], [98]]
def hdA : Hdr := mkH logS 0 [[97]]
def hdB : Hdr := mkH logS 1 [[97], [98]]
def kyA : Hash := z1b (keyL logS)
theorem zbh : z3a kyA hdA.n hdA.i hdA.r hdA.s hdA.p = 0 := zft logS 0 [[97]] (by omega) (by simp)
theorem zf8 : z3a kyA hdB.n hdB.i hdB.r hdB.s hdB.p = 0 := zft logS 1 [[97], [98]] (by omega) (by simp)
theorem z6w : hdA.n = 1 := rfl
theorem z3b : hdB.n = 2 := rfl
theorem hdB_r : hdB.r = zx (lfH [97]) (lfH [98]) := by
  show z1b [lfH [97], lfH [98]] = _
  exact zcg _ _
theorem zdt : chkH 1 2 hdA.r hdB.r (z2q [lfH [97], lfH [98]] 1) = 0 := by
  have h := zkc [lfH [97], lfH [98]] 1 (by simp) (by simp)
  exact h
theorem ad1 : adE kyA none hdA [] = 1 := by unfold adE; rw [zbh, if_neg (by omega)]
theorem ad2 : adE kyA (some hdA) hdA [] = 3 := by
  unfold adE; rw [zbh, if_neg (by omega)]; simp [ordI]
theorem ad3 : adE kyA (some hdA) hdB [] = 5 := by
  unfold adE; rw [zf8, if_neg (by omega)]
  have e : ordI hdB.n hdA.n hdB.r hdA.r = 2 := by unfold ordI; rw [z6w, z3b]; simp
  have c : chkH hdA.n hdB.n hdA.r hdB.r [] = 80 := by rw [z6w, z3b]; exact zka _ _
  simp only [e, c]
  simp
theorem ad4 : adE kyA (some hdA) hdB (z2q [lfH [97], lfH [98]] 1) = 2 := by
  unfold adE; rw [zf8, if_neg (by omega)]
  have e : ordI hdB.n hdA.n hdB.r hdA.r = 2 := by unfold ordI; rw [z6w, z3b]; simp
  have c : chkH hdA.n hdB.n hdA.r hdB.r (z2q [lfH [97], lfH [98]] 1) = 0 := by rw [z6w, z3b]; exact zdt
  simp only [e, c]
  simp
theorem ad5 : adE kyA (some hdB) hdA (z2q [lfH [97], lfH [98]] 1) = 4 := by
  unfold adE; rw [zbh, if_neg (by omega)]
  have e : ordI hdA.n hdB.n hdA.r hdB.r = 0 := by unfold ordI; rw [z6w, z3b]; simp
  have c : chkH hdA.n hdB.n hdA.r hdB.r (z2q [lfH [97], lfH [98]] 1) = 0 := by rw [z6w, z3b]; exact zdt
  simp only [e, c]
  simp
theorem at0 : adT none 0 [97] [] = 4 := rfl
theorem zdx {w : Hdr} {i : Int} {text : List UInt8} {path : List Hash} (h : ¬ (i < 0 \/ w.n <= i)) (h2 : ¬ 200 < text.length) : adT (some w) i text path = chkP (lfH text) i w.n path w.r := by
  unfold adT
  simp only
  rw [if_neg h, if_neg h2]
theorem at1 : adT (some hdB) 1 [98] [lfH [97]] = 0 := by
  rw [zdx (by rw [z3b]; omega) (by simp), z3b, zem, hdB_r, if_pos rfl]
theorem at2 : adT (some hdB) 1 [97] [lfH [97]] = 80 := by
  rw [zdx (by rw [z3b]; omega) (by simp), z3b, zem, hdB_r, if_neg]
  intro h
  have h2 := congrArg Subtype.val h
  simp only [zx, lfH, shaH] at h2
  exact zjf h2
theorem at3 : adT (some hdB) 2 [98] [lfH [97]] = 82 := by
  unfold adT
  simp only
  rw [if_pos (by rw [z3b]; omega)]
theorem pfE : z3k (hb [lfH [97], lfH [98]]) 1 = 0 := by unfold z3k; rw [z39, if_neg (by simp)]
end Am
end Go.Proofs.YtjgljhbmljgaeaaDoor
end
section
/- Auditors: the chapter's auditor; the law AuditNone. -/
namespace Go.Proofs.YtjgljhbmljgaeaaDoor
namespace Am
theorem Fr.notin {Y Y' : Store} {own own' : List Nat} (h : Fr Y Y' own own') {j : Nat} (hj : j < Y.length) (hn : j ∉ own) : j ∉ own' := fun h2 => by
  rcases h.new j h2 with h3 | h3
  · exact hn h3
  · omega
theorem zmo : z1b (keyL logS) = kyA := rfl
theorem zls : mkH logS 0 (lgA.take 1) = hdA := rfl
theorem zlt : mkH logS 1 (lgA.take 2) = hdB := rfl
theorem zfq : logS.length < 1000000 := by simp [logS]
attribute [local irreducible] ACallsTo ACallsP kyA hdA hdB logS
set_option maxHeartbeats 16000000 in
theorem ze3 (hw : Wf ([] : Store).length []) (Y : Store) (p o1 o2 : Nat) (own : List Nat) (hT : AudIs Y p kyA none none own) (h1 : Y[o1]? = some (some [hdrC hdA])) (h2 : Y[o2]? = some (some [hdrC hdB])) (n1 : o1 ∉ own) (n2 : o2 ∉ own)
    (ex : Bool) (O : Env) (q2 : O 2 = .vsl 32 (hr [lfH [97], lfH [98]]) ex) (q3 : O 3 = z11 32 (hr (z2q [lfH [97], lfH [98]] 1))) (q4 : O 4 = .int .i64 0) (q5 : O 5 = .ptr p 0 0) (q6 : O 6 = .ptr o1 0 0) (q7 : O 7 = .ptr o2 0 0) :
    zW TC 92 0 zc4 (endQ 0 [.t 0] (.bool true) []) O Y := by
  have ha := zf9 hdA
  have hb := zf9 hdB
  have la := zo hdA
  have lb := zo hdB
  have hE0 := z9j Y p kyA none none own 0 [97] [] .nilsl hT (.of (.inl ⟨rfl, rfl⟩)) (by simp) (by simp) (by omega) (by simp)
  rw [at0] at hE0
  have d1 := slen h1
  have d2 := slen h2
  have hnil : ∀ Y : Store, RdSl Y 32 (hr []) .nilsl := fun Y => .of (.inl ⟨rfl, rfl⟩)
  have hpd : ∀ (Y : Store) (h : Hdr), RdSl Y 32 (hr h.p) (z11 32 (hr h.p)) := fun Y h => .of (z6l _ _)
  have hpf : ∀ (Y : Store), RdSl Y 32 (hr (z2q [lfH [97], lfH [98]] 1)) (z11 32 (hr (z2q [lfH [97], lfH [98]] 1))) := fun Y => .of (z6l _ _)
  have hpl : (z2q [lfH [97], lfH [98]] 1).length < 1000000 := by have := zob [lfH [97], lfH [98]] 1; simp at this; omega
  have A1 := ad1
  have A2 := ad2
  have A3 := ad3
  have A4 := ad4
  have A5 := ad5
  generalize z2q [lfH [97], lfH [98]] 1 = PF at *
  repeat' (first|refine zW.zs ?_|refine zW.zb ?_|refine zW.zc ?_|refine zW.zt rfl ?_|refine zW.zf rfl ?_|(refine zW.zd rfl (fun ht => ?_) (fun ht => ?_)<;>try (exfalso;omega))|((first|refine zW.zr ?_|refine zW.zk ?_|refine zW.ze ?_|refine zW.zq ?_|(apply callW.mk_pu; (first | exact (fun _ => hE0))) | (apply callW.za; (first | exact (hE0))) | ((first|apply zg0|apply zg1|apply zg2|apply zg3|apply zg4|apply zg5|apply zg6|apply zg7)<;>intro ht));all_goals try simp (disch:=first|omega|(simp only [lens,z6,z7,List.length_reverse,List.length_map,List.length_take,List.length_drop,zg,z14,z16,zo];first|done|omega)) only [go_sem,reduceEqDiff,Nat.reduceBEq,reduceAdd,reduceMul,reduceSub,reduceLeDiff,reduceToNat,reducePow, q2, q3, q4, q5, q6, q7, h1, ha, la]))
  refine callW.mkP (caps := []) (z7v Y p kyA none none own hdA [] (z11 32 (hr hdA.p)) .nilsl hT (hpd _ _) (hnil _) (by simp)) (AHeadP.is hT) ?_
  rintro v s2 ⟨rfl, w2, fr, T2⟩
  have m12 := fr.notin d1 n1
  have m22 := fr.notin d2 n2
  have g12 := fr.get h1 n1
  have g22 := fr.get h2 n2
  clear fr
  rw [show adN kyA none hdA [] = (some hdA) by unfold adN; rw [A1]; simp, show adF kyA none none hdA [] = none by unfold adF; rw [A1]; simp] at T2
  rw [A1]
  have e12 := slen g12
  have e22 := slen g22
  simp (disch:=first|omega|(simp only [lens,z6,z7,List.length_reverse,List.length_map,List.length_take,List.length_drop,zg,z14,z16,zo];first|done|omega)) only [go_sem,reduceEqDiff,Nat.reduceBEq,reduceAdd,reduceMul,reduceSub,reduceLeDiff,reduceToNat,reducePow, q2, q3, q4, q5, q6, q7, g12, g22, ha, hb, la, lb]
  refine callW.mkP (caps := []) (z7v s2 p kyA (some hdA) none w2 hdA [] (z11 32 (hr hdA.p)) .nilsl T2 (hpd _ _) (hnil _) (by simp)) (AHeadP.is T2) ?_
  rintro v s3 ⟨rfl, w3, fr, T3⟩
  have m13 := fr.notin e12 m12
  have m23 := fr.notin e22 m22
  have g13 := fr.get g12 m12
  have g23 := fr.get g22 m22
  clear fr
  rw [show adN kyA (some hdA) hdA [] = (some hdA) by unfold adN; rw [A2]; simp, show adF kyA (some hdA) none hdA [] = none by unfold adF; rw [A2]; simp] at T3
  rw [A2]
  have e13 := slen g13
  have e23 := slen g23
  simp (disch:=first|omega|(simp only [lens,z6,z7,List.length_reverse,List.length_map,List.length_take,List.length_drop,zg,z14,z16,zo];first|done|omega)) only [go_sem,reduceEqDiff,Nat.reduceBEq,reduceAdd,reduceMul,reduceSub,reduceLeDiff,reduceToNat,reducePow, q2, q3, q4, q5, q6, q7, g13, g23, ha, hb, la, lb]
  refine callW.mkP (caps := []) (z7v s3 p kyA (some hdA) none w3 hdB [] (z11 32 (hr hdB.p)) .nilsl T3 (hpd _ _) (hnil _) (by simp)) (AHeadP.is T3) ?_
  rintro v s4 ⟨rfl, w4, fr, T4⟩
  have m14 := fr.notin e13 m13
  have m24 := fr.notin e23 m23
  have g14 := fr.get g13 m13
  have g24 := fr.get g23 m23
  clear fr
  rw [show adN kyA (some hdA) hdB [] = (some hdA) by unfold adN; rw [A3]; simp, show adF kyA (some hdA) none hdB [] = none by unfold adF; rw [A3]; simp] at T4
  rw [A3]
  have e14 := slen g14
  have e24 := slen g24
  simp (disch:=first|omega|(simp only [lens,z6,z7,List.length_reverse,List.length_map,List.length_take,List.length_drop,zg,z14,z16,zo];first|done|omega)) only [go_sem,reduceEqDiff,Nat.reduceBEq,reduceAdd,reduceMul,reduceSub,reduceLeDiff,reduceToNat,reducePow, q2, q3, q4, q5, q6, q7, g14, g24, ha, hb, la, lb]
  refine callW.mkP (caps := []) (z7v s4 p kyA (some hdA) none w4 hdB PF (z11 32 (hr hdB.p)) (z11 32 (hr PF)) T4 (hpd _ _) (hpf _) hpl) (AHeadP.is T4) ?_
  rintro v s5 ⟨rfl, w5, fr, T5⟩
  have m15 := fr.notin e14 m14
  have m25 := fr.notin e24 m24
  have g15 := fr.get g14 m14
  have g25 := fr.get g24 m24
  clear fr
  rw [show adN kyA (some hdA) hdB PF = (some hdB) by unfold adN; rw [A4]; simp, show adF kyA (some hdA) none hdB PF = none by unfold adF; rw [A4]; simp] at T5
  rw [A4]
  have e15 := slen g15
  have e25 := slen g25
  simp (disch:=first|omega|(simp only [lens,z6,z7,List.length_reverse,List.length_map,List.length_take,List.length_drop,zg,z14,z16,zo];first|done|omega)) only [go_sem,reduceEqDiff,Nat.reduceBEq,reduceAdd,reduceMul,reduceSub,reduceLeDiff,reduceToNat,reducePow, q2, q3, q4, q5, q6, q7, g15, g25, ha, hb, la, lb]
  refine callW.mkP (caps := []) (z7v s5 p kyA (some hdB) none w5 hdA PF (z11 32 (hr hdA.p)) (z11 32 (hr PF)) T5 (hpd _ _) (hpf _) hpl) (AHeadP.is T5) ?_
  rintro v s6 ⟨rfl, w6, fr, T6⟩
  have m16 := fr.notin e15 m15
  have m26 := fr.notin e25 m25
  have g16 := fr.get g15 m15
  have g26 := fr.get g25 m25
  clear fr
  rw [show adN kyA (some hdB) hdA PF = (some hdB) by unfold adN; rw [A5]; simp, show adF kyA (some hdB) none hdA PF = none by unfold adF; rw [A5]; simp] at T6
  rw [A5]
  have e16 := slen g16
  have e26 := slen g26
  simp (disch:=first|omega|(simp only [lens,z6,z7,List.length_reverse,List.length_map,List.length_take,List.length_drop,zg,z14,z16,zo];first|done|omega)) only [go_sem,reduceEqDiff,Nat.reduceBEq,reduceAdd,reduceMul,reduceSub,reduceLeDiff,reduceToNat,reducePow, q2, q3, q4, q5, q6, q7, g16, g26, ha, hb, la, lb]
  have hPt := fun Y => zij Y (lfH [97]) (lfH [98]) ex
  have hn : ∀ w, some hdB = some w -> -9223372036854775808 <= w.n /\ w.n <= 9223372036854775807 := fun w e => by cases e; rw [z3b]; omega
  have T7 := T6.ext (Y' := s6 ++ [some (hr [lfH [97]])]) ⟨_, rfl⟩
  have hrd : RdSl (s6 ++ [some (hr [lfH [97]])]) 32 (hr [lfH [97]]) (.sl s6.length 0 1 none 32) := .inr ⟨s6.length, 0, none, _, rfl, by rw [z1n (by omega), Nat.sub_self]; rfl, by simp, by simp⟩
  have hE1 := z9j _ p kyA (some hdB) none _ 1 [98] [lfH [97]] _ T7 hrd (by simp) (by simp) (by omega) hn
  have hE2 := z9j _ p kyA (some hdB) none _ 1 [97] [lfH [97]] _ T7 hrd (by simp) (by simp) (by omega) hn
  have hE3 := z9j _ p kyA (some hdB) none _ 2 [98] [lfH [97]] _ T7 hrd (by simp) (by simp) (by omega) hn
  rw [at1] at hE1
  rw [at2] at hE2
  rw [at3] at hE3
  repeat' (first|refine zW.zs ?_|refine zW.zb ?_|refine zW.zc ?_|refine zW.zt rfl ?_|refine zW.zf rfl ?_|(refine zW.zd rfl (fun ht => ?_) (fun ht => ?_)<;>try (exfalso;omega))|((first|refine zW.zr ?_|refine zW.zk ?_|refine zW.ze ?_|refine zW.zq ?_|(apply callW.mk_pu; (first | exact (fun _ => hPt _) | exact (fun _ => hE1) | exact (fun _ => hE2) | exact (fun _ => hE3))) | (apply callW.za; (first | exact (hPt _) | exact (hE1) | exact (hE2) | exact (hE3))) | ((first|apply zg0|apply zg1|apply zg2|apply zg3|apply zg4|apply zg5|apply zg6|apply zg7)<;>intro ht));all_goals try simp (disch:=first|omega|(simp only [lens,z6,z7,List.length_reverse,List.length_map,List.length_take,List.length_drop,zg,z14,z16,zo];first|done|omega)) only [go_sem,reduceEqDiff,Nat.reduceBEq,reduceAdd,reduceMul,reduceSub,reduceLeDiff,reduceToNat,reducePow, q2, q3, q4, q5, q6, q7]))
  exact DownV.pure (τ := []) hw (zz _ rfl)
attribute [local irreducible] zc4
set_option maxHeartbeats 16000000 in
theorem zjg : ACallsTo TC 7 [] [] (.bool true) [] := by
  have hMd := fun Y => zih Y [] (strs lgA) true
  rw [show strs lgA = [[.str [97]], [.str [98]]] from rfl] at hMd
  have hLa := fun Y => zd8 Y [97] (by simp)
  have hLb := fun Y => zd8 Y [98] (by simp)
  have hPf := fun Y => zin Y [lfH [97], lfH [98]] (.vsl 32 [hc (lfH [97]), hc (lfH [98])] true) 1 (.inr ⟨true, rfl⟩) (by simp)
  rw [pfE] at hPf
  have hRt := fun (a b c : Option AObj) (hb : b = some [z1g true logS (keyL logS)]) => zho [a, b, c] 1 logS (keyL logS) (by rw [hb]; rfl) (z2x _)
  rw [zmo] at hRt
  have hNew := fun Y => zjd Y kyA
  refine ACallsTo.of_body q1pok (by simp) fun hw _ => ?_
  repeat' (first|refine zW.zs ?_|refine zW.zb ?_|refine zW.zc ?_|refine zW.zt rfl ?_|refine zW.zf rfl ?_|(refine zW.zd rfl (fun ht => ?_) (fun ht => ?_)<;>try (exfalso;omega))|((first|refine zW.zr ?_|refine zW.zk ?_|refine zW.ze ?_|refine zW.zq ?_|(apply callW.mk_pu; (first | exact (fun _ => hMd _) | exact (fun _ => hLa _) | exact (fun _ => hLb _) | exact (fun _ => hPf _) | exact (fun _ => hRt _ _ _ rfl) | exact (fun _ => hNew _))) | (apply callW.za; (first | exact (hMd _) | exact (hLa _) | exact (hLb _) | exact (hPf _) | exact (hRt _ _ _ rfl) | exact (hNew _))) | ((first|apply zg0|apply zg1|apply zg2|apply zg3|apply zg4|apply zg5|apply zg6|apply zg7)<;>intro ht));all_goals try simp (disch:=first|omega|(simp only [lens,z6,z7,List.length_reverse,List.length_map,List.length_take,List.length_drop,zg,z14,z16,zo];first|done|omega)) only [go_sem,reduceEqDiff,Nat.reduceBEq,reduceAdd,reduceMul,reduceSub,reduceLeDiff,reduceToNat,reducePow]))
  generalize hτ : ([some [[AV.ptr 1 0 0, _]], some [z1g true logS (keyL logS)], _, some [hc kyA], _] : Store) = τ
  have ht : τ[1]? = some (some [z1g true logS (keyL logS)]) := by rw [<- hτ]; rfl
  have hl : τ[2]? = some (some [[AV.ptr 1 0 0, AV.vsl 1 [[AV.str [97]], [AV.str [98]]] true]]) := by rw [<- hτ]; rfl
  have hA : AudIs τ 4 kyA none none [4] := ⟨.nilp, [], rfl, by rw [<- hτ]; rfl, .inl ⟨rfl, rfl, rfl⟩⟩
  have dτ : τ.length = 5 := by rw [<- hτ]; rfl
  clear hτ
  have hLs : ∀ s ∈ lgA, s.length < 1000000 := by intro s hs; simp [lgA] at hs; rcases hs with rfl | rfl <;> simp
  have hH1 : ∀ y, ACallsTo TC 29 [.agg [.ptr 1 0 0, .vsl 1 [[.str [97]], [.str [98]]] true], .int .i64 1, .int .i64 0] (τ ++ y) (.agg (hdrC hdA)) (τ ++ y) := fun y => by
    have h := zdi (τ ++ y) 1 logS lgA true 1 0 0 rfl (by omega) (by simp [lgA]) (by rw [gapp (by omega)]; exact ht) zfq hLs (by simp [lgA])
    rw [zls] at h
    exact h
  have hH2 : ∀ y, ACallsTo TC 29 [.agg [.ptr 1 0 0, .vsl 1 [[.str [97]], [.str [98]]] true], .int .i64 2, .int .i64 1] (τ ++ y) (.agg (hdrC hdB)) (τ ++ y) := fun y => by
    have h := zdi (τ ++ y) 1 logS lgA true 2 1 1 rfl (by omega) (by simp [lgA]) (by rw [gapp (by omega)]; exact ht) zfq hLs (by simp [lgA])
    rw [zlt] at h
    exact h
  have hH1' := hH1 []
  have hH2' := hH2 []
  rw [List.append_nil] at hH1' hH2'
  have la := zo hdA
  have lb := zo hdB
  refine zW.reg2J ?_
  simp (disch:=first|omega|(simp only [lens,z6,z7,List.length_reverse,List.length_map,List.length_take,List.length_drop,zg,z14,z16,zo];first|done|omega)) only [go_sem,reduceEqDiff,Nat.reduceBEq,reduceAdd,reduceMul,reduceSub,reduceLeDiff,reduceToNat,reducePow, hl]
  refine callW.mk_pu2 (caps := []) hH1' (fun h hh => hh.elim) ?_
  simp (disch:=first|omega|(simp only [lens,z6,z7,List.length_reverse,List.length_map,List.length_take,List.length_drop,zg,z14,z16,zo];first|done|omega)) only [go_sem,reduceEqDiff,Nat.reduceBEq,reduceAdd,reduceMul,reduceSub,reduceLeDiff,reduceToNat,reducePow, hl]
  refine callW.mk_pu2 (caps := []) hH2' (fun h hh => hh.elim) ?_
  simp (disch:=first|omega|(simp only [lens,z6,z7,List.length_reverse,List.length_map,List.length_take,List.length_drop,zg,z14,z16,zo];first|done|omega)) only [go_sem,reduceEqDiff,Nat.reduceBEq,reduceAdd,reduceMul,reduceSub,reduceLeDiff,reduceToNat,reducePow, hl, hH1, hH2, la, lb]
  refine ⟨ze3 hw _ 4 τ.length (τ.length + 1) [4] (hA.ext ⟨_, rfl⟩) ?_ ?_ ?_ ?_ true _ ?_ ?_ ?_ ?_ ?_ ?_, ze3 hw _ 4 (τ.length + 1) τ.length [4] (hA.ext ⟨_, rfl⟩) ?_ ?_ ?_ ?_ true _ ?_ ?_ ?_ ?_ ?_ ?_⟩
  · rw [z1n (by omega), Nat.sub_self]; rfl
  · rw [z1n (by omega), Nat.add_sub_cancel_left]; rfl
  · simp; omega
  · simp; omega
  · simp (disch:=first|omega|(simp only [lens,z6,z7,List.length_reverse,List.length_map,List.length_take,List.length_drop,zg,z14,z16,zo];first|done|omega)) only [go_sem,reduceEqDiff,Nat.reduceBEq,reduceAdd,reduceMul,reduceSub,reduceLeDiff,reduceToNat,reducePow]; rfl
  · simp (disch:=first|omega|(simp only [lens,z6,z7,List.length_reverse,List.length_map,List.length_take,List.length_drop,zg,z14,z16,zo];first|done|omega)) only [go_sem,reduceEqDiff,Nat.reduceBEq,reduceAdd,reduceMul,reduceSub,reduceLeDiff,reduceToNat,reducePow]
  · simp (disch:=first|omega|(simp only [lens,z6,z7,List.length_reverse,List.length_map,List.length_take,List.length_drop,zg,z14,z16,zo];first|done|omega)) only [go_sem,reduceEqDiff,Nat.reduceBEq,reduceAdd,reduceMul,reduceSub,reduceLeDiff,reduceToNat,reducePow]
  · simp (disch:=first|omega|(simp only [lens,z6,z7,List.length_reverse,List.length_map,List.length_take,List.length_drop,zg,z14,z16,zo];first|done|omega)) only [go_sem,reduceEqDiff,Nat.reduceBEq,reduceAdd,reduceMul,reduceSub,reduceLeDiff,reduceToNat,reducePow]
  · simp (disch:=first|omega|(simp only [lens,z6,z7,List.length_reverse,List.length_map,List.length_take,List.length_drop,zg,z14,z16,zo];first|done|omega)) only [go_sem,reduceEqDiff,Nat.reduceBEq,reduceAdd,reduceMul,reduceSub,reduceLeDiff,reduceToNat,reducePow]
  · simp (disch:=first|omega|(simp only [lens,z6,z7,List.length_reverse,List.length_map,List.length_take,List.length_drop,zg,z14,z16,zo];first|done|omega)) only [go_sem,reduceEqDiff,Nat.reduceBEq,reduceAdd,reduceMul,reduceSub,reduceLeDiff,reduceToNat,reducePow]
  · rw [z1n (by omega), Nat.add_sub_cancel_left]; rfl
  · rw [z1n (by omega), Nat.sub_self]; rfl
  · simp; omega
  · simp; omega
  · simp (disch:=first|omega|(simp only [lens,z6,z7,List.length_reverse,List.length_map,List.length_take,List.length_drop,zg,z14,z16,zo];first|done|omega)) only [go_sem,reduceEqDiff,Nat.reduceBEq,reduceAdd,reduceMul,reduceSub,reduceLeDiff,reduceToNat,reducePow]; rfl
  · simp (disch:=first|omega|(simp only [lens,z6,z7,List.length_reverse,List.length_map,List.length_take,List.length_drop,zg,z14,z16,zo];first|done|omega)) only [go_sem,reduceEqDiff,Nat.reduceBEq,reduceAdd,reduceMul,reduceSub,reduceLeDiff,reduceToNat,reducePow]
  · simp (disch:=first|omega|(simp only [lens,z6,z7,List.length_reverse,List.length_map,List.length_take,List.length_drop,zg,z14,z16,zo];first|done|omega)) only [go_sem,reduceEqDiff,Nat.reduceBEq,reduceAdd,reduceMul,reduceSub,reduceLeDiff,reduceToNat,reducePow]
  · simp (disch:=first|omega|(simp only [lens,z6,z7,List.length_reverse,List.length_map,List.length_take,List.length_drop,zg,z14,z16,zo];first|done|omega)) only [go_sem,reduceEqDiff,Nat.reduceBEq,reduceAdd,reduceMul,reduceSub,reduceLeDiff,reduceToNat,reducePow]
  · simp (disch:=first|omega|(simp only [lens,z6,z7,List.length_reverse,List.length_map,List.length_take,List.length_drop,zg,z14,z16,zo];first|done|omega)) only [go_sem,reduceEqDiff,Nat.reduceBEq,reduceAdd,reduceMul,reduceSub,reduceLeDiff,reduceToNat,reducePow]
  · simp (disch:=first|omega|(simp only [lens,z6,z7,List.length_reverse,List.length_map,List.length_take,List.length_drop,zg,z14,z16,zo];first|done|omega)) only [go_sem,reduceEqDiff,Nat.reduceBEq,reduceAdd,reduceMul,reduceSub,reduceLeDiff,reduceToNat,reducePow]
theorem zjh (Y : Store) : ACallsTo TC 7 [] Y (.bool true) Y := ACallsTo.frame glok zjg (by simp [RLs]) Y
def z7e : Ty := .row [.row [.int .i64, z5x], .row [.int .i64, .str, .sl 32 z5x]]
theorem zpt {cs : List AV} (h : ShC z7e cs) : ∃ (n i : Int) (r : Hash) (s : List UInt8) (l : List Hash) (x : AV), cs = sgC n r i s x /\ SlV 32 (hr l) x /\ l.length <= maxLen /\ s.length <= maxLen /\ (-9223372036854775808 <= n /\ n <= 9223372036854775807) /\ (-9223372036854775808 <= i /\ i <= 9223372036854775807) := by
  simp only [z7e, ShC, z34] at h
  obtain ⟨A, B, rfl, hA, C, D, rfl, hC, rfl⟩ := h
  obtain ⟨A1, A2, rfl, ⟨n, rfl, n1, n2⟩, A3, A4, rfl, hA3, rfl⟩ := hA
  obtain ⟨C1, C2, rfl, ⟨i, rfl, i1, i2⟩, C3, C4, rfl, ⟨s, rfl, hs⟩, C5, C6, rfl, hM, rfl⟩ := hC
  obtain ⟨r, rfl⟩ := zlk hA3
  obtain ⟨l, x, rfl, h3, h4⟩ := zfe (by simpa only [ShC] using hM)
  simp only [IntKind.min, IntKind.max, IntKind.signed, IntKind.bits] at n1 n2 i1 i2
  simp at n1 n2 i1 i2
  exact ⟨n, i, r, s, l, x, by simp [sgC], h3, h4, hs, ⟨n1, n2⟩, ⟨i1, i2⟩⟩
theorem zpu {a : AV} (h : Sh z7e a) : ∃ (n i : Int) (r : Hash) (s : List UInt8) (l : List Hash) (x : AV), a = .agg (sgC n r i s x) /\ SlV 32 (hr l) x /\ l.length <= maxLen /\ s.length <= maxLen /\ (-9223372036854775808 <= n /\ n <= 9223372036854775807) /\ (-9223372036854775808 <= i /\ i <= 9223372036854775807) := by
  simp only [z7e, Sh] at h
  obtain ⟨cs, rfl, h⟩ := h
  obtain ⟨n, i, r, s, l, x, rfl, h2⟩ := zpt (by simpa only [z7e, ShC] using h)
  exact ⟨n, i, r, s, l, x, rfl, h2⟩
def z7t : Ty := .row [.int .u8, .int .u8, .int .u8, .str, .sl 32 z5x]
theorem ziz {cs : List AV} (h : ShC z7t cs) : ∃ (a b c : Int) (t : List UInt8) (R : List Hash) (y : AV), cs = [.int .u8 a, .int .u8 b, .int .u8 c, .str t, y] /\ SlV 32 (hr R) y /\ R.length <= maxLen /\ t.length <= maxLen /\ (0 <= a /\ a <= 255) /\ (0 <= b /\ b <= 255) /\ (0 <= c /\ c <= 255) := by
  simp only [z7t, ShC, z34] at h
  obtain ⟨A, B, rfl, ⟨a, rfl, a1, a2⟩, C, D, rfl, ⟨b, rfl, b1, b2⟩, E, F, rfl, ⟨c, rfl, c1, c2⟩, G, K, rfl, ⟨t, rfl, ht⟩, M, N, rfl, hM, rfl⟩ := h
  obtain ⟨R, y, rfl, h3, h4⟩ := zfe (by simpa only [ShC] using hM)
  simp only [IntKind.min, IntKind.max, IntKind.signed, IntKind.bits] at a1 a2 b1 b2 c1 c2
  simp at a1 a2 b1 b2 c1 c2
  exact ⟨a, b, c, t, R, y, rfl, h3, h4, ht, ⟨a1, a2⟩, ⟨b1, b2⟩, ⟨c1, c2⟩⟩
theorem AuditNone_law (avs : List AV) (h : z6o [z7e, z7t] avs) : ACallsTo TC 3 avs [] (.bool true) [] := by
  simp only [z6o] at h
  obtain ⟨_, _, rfl, h1, _, _, rfl, h2, rfl⟩ := h
  obtain ⟨n, i, r, s, l, x, rfl, hx, _⟩ := zpu h1
  simp only [z7t, Sh] at h2
  obtain ⟨cs, rfl, h2⟩ := h2
  obtain ⟨a, b, c, t, R, y, rfl, hy, _, _, _, _, hc⟩ := ziz (by simpa only [z7t, ShC] using h2)
  exact zi3 zjh n r i s l x a b c t R y hx hy hc
end Am
end Go.Proofs.YtjgljhbmljgaeaaDoor
end
