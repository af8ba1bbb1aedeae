import Derived.Test.YtcdcmgjnbjoajaaDoorK4c0363552
import Derived.Test.YtcdcmgjnbjoajaaDoorK2cb24bcd5
import Derived.Test.YtcdcmgjnbjoajaaDoorRows
import Derived.Test.YtcdcmgjnbjoajaaDoorCards
import Derived.Test.YtcdcmgjnbjoajaaDoorTie
import Derived.ProofKit
import Derived.LaidMore
import Derived.OpenShut
import Derived.Stop.Joined
import Derived.SevenTiedAt
import Derived.MakeChecks
set_option linter.unusedSimpArgs false
set_option linter.unusedVariables false
open Nat (reduceEqDiff reduceAdd reduceMul reduceSub reduceLeDiff)
open Int (reduceToNat reducePow)
open Nat renaming reduceEqDiff -> nQ1, reduceBEq -> nQ2, reduceAdd -> nQ3, reduceMul -> nQ4, reduceSub -> nQ5, reduceLeDiff -> nQ6
open Int renaming reduceToNat -> nQ7, reducePow -> nQ8
open List renaming length_reverse -> lQr, length_map -> lQm, length_take -> lQt, length_drop -> lQd, length_set -> lQs
set_option maxHeartbeats 16000000
attribute [local go_sem_proc] Nat.reduceEqDiff Nat.reduceBEq Nat.reduceAdd Nat.reduceMul Nat.reduceSub Nat.reduceLeDiff Int.reduceToNat Int.reducePow
namespace Go.Proofs.YtcdcmgjnbjoajaaDoor
namespace Am
section
theorem z9k(h:Hdr):(hdrC h).take 36=hdrC h:=List.take_of_length_le (by rw [zh];omega)
attribute [local irreducible] ACallsTo ACallsP z8c
theorem zpw (hT : ∀ (O : Store) (q : Nat) (key : Hash) (A B C : Hdr) (n : Nat) (own : List Nat) (J : Env), PoIs O q key [] own -> (∀ j ∈ own, j < n) -> O[n]? = some (some [hdrC A]) -> O[n + 1]? = some (some [hdrC B]) -> O[n + 2]? = some (some [hdrC C]) -> J 2 = .ptr q 0 0 -> J 3 = .ptr n 0 0 -> J 4 = .ptr (n + 1) 0 0 -> J 5 = .ptr (n + 2) 0 0 ->
   key=z1h (keyL [107])->A=z1b [107] 0 1 (rb 9)->B=z1b [107] 0 1 (rb 2)->C=z1b [107] 0 2 (rb 1)->zW TC 75 0 z8c (endQ 0 [.t 0] (.bool true) []) J O):
  ACallsTo TC 13 [] [] (.bool true) []:=by
 have hNew:=fun O=>zna O [107] (by simp)
 refine ACallsTo.of_body q1jok (by simp) fun hw _=> ?_
 repeat' (first|apply zs_|apply zb_|apply zc_|apply zt_ rfl|apply zf_ rfl|(apply zd_ rfl<;>intro ht<;>try omega)|((first|apply zr_|apply zk_|apply ze_|apply zq_|(apply callW.mk_pu;(first|exact(fun _=>hNew _)))|(apply callW.za;(first|exact(hNew _)))|(apply zG<;>intro ht));all_goals try simp (disch:=first|omega|(simp only [lens,z6,z8,zh,zg,zn,z11,lQt,lQd,List.length_replicate];first|done|omega)) only [go_sem]))
 try simp only [List.nil_append,List.length_nil]
 have hsl:([107]:List UInt8).length<1000000:=by simp
 have hT:=fun O q A B C n own J h1 h2 h3 h4 h5 h6 h7 h8 h9=>hT O q (z1h (keyL [107])) A B C n own J h1 h2 h3 h4 h5 h6 h7 h8 h9 rfl
 generalize ([107]:List UInt8)=seed at*
 have hRt:=zsb [some [z1l true seed (keyL seed)]] 0 seed (keyL seed) rfl (z2w seed)
 have hE:=zcg [some [z1l true seed (keyL seed)]] (z1h (keyL seed))
 have hS:∀n b,ACallsTo TC 11 [.ptr 0 0 0,.int .i64 n,.int .u8 (b:UInt8).toNat] ([some [z1l true seed (keyL seed)],some [hc (z1h (keyL seed))],some [poC (z1h (keyL seed)) .nilsl]]) (.agg (hdrC (z1b seed 0 n (rb b)))) ([some [z1l true seed (keyL seed)],some [hc (z1h (keyL seed))],some [poC (z1h (keyL seed)) .nilsl]]):=fun n b=>zrj _ 0 seed n b rfl hsl
 repeat' (first|apply zs_|apply zb_|apply zc_|apply zt_ rfl|apply zf_ rfl|(apply zd_ rfl<;>intro ht<;>try omega)|((first|apply zr_|apply zk_|apply ze_|apply zq_|(apply callW.mk_pu;(first|exact(fun _=>hRt)))|(apply callW.za;(first|exact(hRt)))|(apply zG<;>intro ht));all_goals try simp (disch:=first|omega|(simp only [lens,z6,z8,zh,zg,zn,z11,lQt,lQd,List.length_replicate];first|done|omega)) only [go_sem]))
 refine callW.mkP (caps:=[]) hE ⟨_,_,rfl,rfl⟩ ?_
 rintro v O2 ⟨rfl,rfl⟩
 simp (disch:=first|omega|(simp only [lens,z6,z8,zh,zg,zn,z11,lQt,lQd,List.length_replicate];first|done|omega)) only [go_sem]
 have s9:=hS 1 9
 have s2:=hS 1 2
 have s1:=hS 2 1
 rw [show (((9:UInt8).toNat:Nat):Int)=9 from rfl]at s9
 rw [show (((2:UInt8).toNat:Nat):Int)=2 from rfl]at s2
 rw [show (((1:UInt8).toNat:Nat):Int)=1 from rfl]at s1
 have lA:=zh (z1b seed 0 1 (rb 9))
 have lB:=zh (z1b seed 0 1 (rb 2))
 have lC:=zh (z1b seed 0 2 (rb 1))
 have hT:=fun O q n own J h1 h2 h3 h4 h5 h6 h7 h8 h9=>hT O q _ _ _ n own J h1 h2 h3 h4 h5 h6 h7 h8 h9 rfl rfl rfl
 generalize z1b seed 0 1 (rb 9)=A at*
 generalize z1b seed 0 1 (rb 2)=B at*
 generalize z1b seed 0 2 (rb 1)=C at*
 repeat' (first|apply zs_|apply zb_|apply zc_|apply zt_ rfl|apply zf_ rfl|(apply zd_ rfl<;>intro ht<;>try omega)|((first|apply zr_|apply zk_|apply ze_|apply zq_|(apply callW.mk_pu;(first|exact(fun _=>s9)|exact(fun _=>s2)|exact(fun _=>s1)))|(apply callW.za;(first|exact(s9)|exact(s2)|exact(s1)))|(apply zG<;>intro ht));all_goals try simp (disch:=first|omega|(simp only [lens,z6,z8,zh,zg,zn,z11,lQt,lQd,List.length_replicate];first|done|omega)) only [go_sem,lA,lB,lC]))
 exact hT _ 2 3 [2] _ ⟨.nilsl,none,rfl,rfl,.inl ⟨rfl,rfl,rfl⟩,by simp⟩ (by simp) rfl rfl rfl (by simp (disch:=first|omega|(simp only [lens,z6,z8,zh,zg,zn,z11,lQt,lQd,List.length_replicate];first|done|omega)) only [go_sem]) (by simp (disch:=first|omega|(simp only [lens,z6,z8,zh,zg,zn,z11,lQt,lQd,List.length_replicate];first|done|omega)) only [go_sem]) (by simp (disch:=first|omega|(simp only [lens,z6,z8,zh,zg,zn,z11,lQt,lQd,List.length_replicate];first|done|omega)) only [go_sem];try rfl) (by simp (disch:=first|omega|(simp only [lens,z6,z8,zh,zg,zn,z11,lQt,lQd,List.length_replicate];first|done|omega)) only [go_sem];try rfl)
attribute [local irreducible] za4
theorem zpu(hw:Wf ([]:Store).length [])(O:Store)(q:Nat)(key:Hash)(A B C:Hdr)(n:Nat)(own:List Nat)(J:Env)(hP:PoIs O q key [] own)(ho:∀j ∈ own,j<n)(g1:O[n]? =some (some [hdrC A]))(g2:O[n+1]? =some (some [hdrC B]))(g3:O[n+2]? =some (some [hdrC C]))(q2:J 2=.ptr q 0 0)(q3:J 3=.ptr n 0 0)(q4:J 4=.ptr (n+1) 0 0)(q5:J 5=.ptr (n+2) 0 0)
  (hA:z1o key A.n A.i A.r A.s A.p=0) (hB:z1o key B.n B.i B.r B.s B.p=0) (hC:z1o key C.n C.i C.r C.s C.p=0) (a1:A.n=1) (a2:A.r=rb 9) (b1:B.n=1) (b2:B.r=rb 2) (c1:C.n=2) (c2:C.r=rb 1)
  (hK:∀(O:Store) (own:List Nat) (J:Env),PoIs O q key [B,A,C] own->O[n]? =some (some [hdrC A])->O[n+1]? =some (some [hdrC B])->O[n+2]? =some (some [hdrC C])->J 2=.ptr q 0 0->J 3=.ptr n 0 0->J 4=.ptr (n+1) 0 0->J 5=.ptr (n+2) 0 0->zW TC 75 0 za4 (endQ 0 [.t 0] (.bool true) []) J O):
  zW TC 75 0 z8c (endQ 0 [.t 0] (.bool true) []) J O:=by
 obtain⟨⟨e1,f1⟩,⟨e2,f2⟩,⟨e3,f3⟩,⟨e4,f4⟩⟩:=zpt key A B C hA hB hC a1 a2 b1 b2 c1 c2
 have lA:=zh A
 have lB:=zh B
 have lC:=zh C
 have tA:=z9k A
 have tB:=z9k B
 have tC:=z9k C
 have pA:=z9j hA
 have pB:=z9j hB
 have pC:=z9j hC
 have nA:A.p ≠ []:=fun e=>by rw [e]at pA;simp at pA
 have nB:B.p ≠ []:=fun e=>by rw [e]at pB;simp at pB
 have nC:C.p ≠ []:=fun e=>by rw [e]at pC;simp at pC
 have no:∀{own:List Nat},(∀j ∈ own,j<n)->∀k,n<=k->k ∉ own:=fun h k hk hm=>by have:=h k hm;omega
 unfold z8c
 have hS0:=PSort.nil
 have hS1:=ze7 (key:=key) hS0 A
 rw [f1]at hS1
 have hS2:=ze7 (key:=key) hS1 C
 rw [f2]at hS2
 have d3:=slen g3
 have nx:∀{O' O2:Store} {o o':List Nat},Fr O' O2 o o'->n+2<O'.length->(∀k,n<=k->k<=n+2->k ∉ o)->∀k,n<=k->k<=n+2->k ∉ o':=fun fr hl h k h1 h2 hm=>by
  rcases fr.new k hm with h3|h3
  ·exact h k h1 h2 h3
  ·omega
 have n0:∀k,n<=k->k<=n+2->k ∉ own:=fun k h1 _=>no ho k h1
 repeat' (first|apply zs_|apply zb_|apply zc_|apply zt_ rfl|apply zf_ rfl|(apply zd_ rfl<;>intro ht<;>try omega)|((first|apply zr_|apply zk_|apply ze_|apply zq_|(apply zG<;>intro ht));all_goals try simp (disch:=first|omega|(simp only [lens,z6,z8,zh,zg,zn,z11,lQt,lQd,List.length_replicate];first|done|omega)) only [go_sem,q2,q3,q4,q5,g1,g2,g3,lA,lB,lC,tA,tB,tC]))
 refine callW.mkP (caps:=[]) (z9x O q key [] own A _ hP hS0 (by simp) (z5r _ _) (by omega) (fun _=>nA)) (PoAddP.is hP) ?_
 rintro v O2 ⟨rfl,own2,fr2,P2⟩
 rw [f1]at P2
 rw [e1]
 have n2:=nx fr2 d3 n0
 have g1:=fr2.get g1 (n0 _ (by omega) (by omega))
 have g2:=fr2.get g2 (n0 _ (by omega) (by omega))
 have g3:=fr2.get g3 (n0 _ (by omega) (by omega))
 have d3:=slen g3
 simp (disch:=first|omega|(simp only [lens,z6,z8,zh,zg,zn,z11,lQt,lQd,List.length_replicate];first|done|omega)) only [go_sem,q2,q3,q4,q5,g1,g2,g3,lA,lB,lC,tA,tB,tC]
 repeat' (first|apply zs_|apply zb_|apply zc_|apply zt_ rfl|apply zf_ rfl|(apply zd_ rfl<;>intro ht<;>try omega)|((first|apply zr_|apply zk_|apply ze_|apply zq_|(apply zG<;>intro ht));all_goals try simp (disch:=first|omega|(simp only [lens,z6,z8,zh,zg,zn,z11,lQt,lQd,List.length_replicate];first|done|omega)) only [go_sem,q2,q3,q4,q5,g1,g2,g3,lA,lB,lC,tA,tB,tC]))
 refine callW.mkP (caps:=[]) (z9x O2 q key [A] own2 C _ P2 hS1 (by simp) (z5r _ _) (by omega) (fun _=>nC)) (PoAddP.is P2) ?_
 rintro v O3 ⟨rfl,own3,fr3,P3⟩
 rw [f2]at P3
 rw [e2]
 have n3:=nx fr3 d3 n2
 have g1:=fr3.get g1 (n2 _ (by omega) (by omega))
 have g2:=fr3.get g2 (n2 _ (by omega) (by omega))
 have g3:=fr3.get g3 (n2 _ (by omega) (by omega))
 have d3:=slen g3
 simp (disch:=first|omega|(simp only [lens,z6,z8,zh,zg,zn,z11,lQt,lQd,List.length_replicate];first|done|omega)) only [go_sem,q2,q3,q4,q5,g1,g2,g3,lA,lB,lC,tA,tB,tC]
 repeat' (first|apply zs_|apply zb_|apply zc_|apply zt_ rfl|apply zf_ rfl|(apply zd_ rfl<;>intro ht<;>try omega)|((first|apply zr_|apply zk_|apply ze_|apply zq_|(apply zG<;>intro ht));all_goals try simp (disch:=first|omega|(simp only [lens,z6,z8,zh,zg,zn,z11,lQt,lQd,List.length_replicate];first|done|omega)) only [go_sem,q2,q3,q4,q5,g1,g2,g3,lA,lB,lC,tA,tB,tC]))
 refine callW.mkP (caps:=[]) (z9x O3 q key [A,C] own3 A _ P3 hS2 (by simp) (z5r _ _) (by omega) (fun _=>nA)) (PoAddP.is P3) ?_
 rintro v O4 ⟨rfl,own4,fr4,P4⟩
 rw [f3]at P4
 rw [e3]
 have n4:=nx fr4 d3 n3
 have g1:=fr4.get g1 (n3 _ (by omega) (by omega))
 have g2:=fr4.get g2 (n3 _ (by omega) (by omega))
 have g3:=fr4.get g3 (n3 _ (by omega) (by omega))
 have d3:=slen g3
 simp (disch:=first|omega|(simp only [lens,z6,z8,zh,zg,zn,z11,lQt,lQd,List.length_replicate];first|done|omega)) only [go_sem,q2,q3,q4,q5,g1,g2,g3,lA,lB,lC,tA,tB,tC]
 repeat' (first|apply zs_|apply zb_|apply zc_|apply zt_ rfl|apply zf_ rfl|(apply zd_ rfl<;>intro ht<;>try omega)|((first|apply zr_|apply zk_|apply ze_|apply zq_|(apply zG<;>intro ht));all_goals try simp (disch:=first|omega|(simp only [lens,z6,z8,zh,zg,zn,z11,lQt,lQd,List.length_replicate];first|done|omega)) only [go_sem,q2,q3,q4,q5,g1,g2,g3,lA,lB,lC,tA,tB,tC]))
 refine callW.mkP (caps:=[]) (z9x O4 q key [A,C] own4 B _ P4 hS2 (by simp) (z5r _ _) (by omega) (fun _=>nB)) (PoAddP.is P4) ?_
 rintro v O5 ⟨rfl,own5,fr5,P5⟩
 rw [f4]at P5
 rw [e4]
 have g1:=fr5.get g1 (n4 _ (by omega) (by omega))
 have g2:=fr5.get g2 (n4 _ (by omega) (by omega))
 have g3:=fr5.get g3 (n4 _ (by omega) (by omega))
 simp (disch:=first|omega|(simp only [lens,z6,z8,zh,zg,zn,z11,lQt,lQd,List.length_replicate];first|done|omega)) only [go_sem,q2,q3,q4,q5,g1,g2,g3,lA,lB,lC,tA,tB,tC]
 repeat' (first|apply zs_|apply zb_|apply zc_|apply zt_ rfl|apply zf_ rfl|(apply zd_ rfl<;>intro ht<;>try omega)|((first|apply zr_|apply zk_|apply ze_|apply zq_|(apply zG<;>intro ht));all_goals try simp (disch:=first|omega|(simp only [lens,z6,z8,zh,zg,zn,z11,lQt,lQd,List.length_replicate];first|done|omega)) only [go_sem,q2,q3,q4,q5,g1,g2,g3,lA,lB,lC,tA,tB,tC]))
 exact hK O5 own5 _ P5 g1 g2 g3 (by simp (disch:=first|omega|(simp only [lens,z6,z8,zh,zg,zn,z11,lQt,lQd,List.length_replicate];first|done|omega)) only [go_sem,q2]) (by simp (disch:=first|omega|(simp only [lens,z6,z8,zh,zg,zn,z11,lQt,lQd,List.length_replicate];first|done|omega)) only [go_sem,q3]) (by simp (disch:=first|omega|(simp only [lens,z6,z8,zh,zg,zn,z11,lQt,lQd,List.length_replicate];first|done|omega)) only [go_sem,q4]) (by simp (disch:=first|omega|(simp only [lens,z6,z8,zh,zg,zn,z11,lQt,lQd,List.length_replicate];first|done|omega)) only [go_sem,q5])
end
section
theorem hcZ31:hc zeroH=[.int .u8 0,.int .u8 0,.int .u8 0,.int .u8 0,.int .u8 0,.int .u8 0,.int .u8 0,.int .u8 0,.int .u8 0,.int .u8 0,.int .u8 0,.int .u8 0,.int .u8 0,.int .u8 0,.int .u8 0,.int .u8 0,.int .u8 0,.int .u8 0,.int .u8 0,.int .u8 0,.int .u8 0,.int .u8 0,.int .u8 0,.int .u8 0,.int .u8 0,.int .u8 0,.int .u8 0,.int .u8 0,.int .u8 0,.int .u8 0,.int .u8 0,.int .u8 0]:=rfl
theorem zbv(h:Hdr):(hdrC h).take 33=.int .i64 h.n::hc h.r:=zad _ _ _ _ _
attribute [local irreducible] ACallsTo ACallsP
theorem zpv(hw:Wf ([]:Store).length [])(O:Store)(q:Nat)(key:Hash)(A B C:Hdr)(n:Nat)(own:List Nat)(J:Env)(hP:PoIs O q key [B,A,C] own)(g1:O[n]? =some (some [hdrC A]))(g2:O[n+1]? =some (some [hdrC B]))(g3:O[n+2]? =some (some [hdrC C]))(q2:J 2=.ptr q 0 0)(q3:J 3=.ptr n 0 0)(q4:J 4=.ptr (n+1) 0 0)(q5:J 5=.ptr (n+2) 0 0)
  (hz:z1o zeroH A.n A.i A.r A.s A.p ≠ 0) (hAp:A.p.length<1000000):
  zW TC 75 0 za4 (endQ 0 [.t 0] (.bool true) []) J O:=by
 have hKn:=zpo O q key [B,A,C] own hP (by simp)
 rw [show z19 33 (kn [B,A,C])=.vsl 33 [.int .i64 B.n::hc B.r,.int .i64 A.n::hc A.r,.int .i64 C.n::hc C.r] false from rfl]at hKn
 have lA:=zh A
 have lB:=zh B
 have lC:=zh C
 have tA:=z9k A
 have uA:=zbv A
 have uB:=zbv B
 have uC:=zbv C
 have kA:=z6 A.r
 have kB:=z6 B.r
 have kC:=z6 C.r
 have eA:=zcz A.n A.n A.r A.r
 have eB:=zcz B.n B.n B.r B.r
 have eC:=zcz C.n C.n C.r C.r
 rw [decide_eq_true ⟨rfl,rfl⟩]at eA eB eC
 have d1:=slen g1
 have hE:=zcg O zeroH
 rw [hcZ31]at hE
 repeat' (first|apply zs_|apply zb_|apply zc_|apply zt_ rfl|apply zf_ rfl|(apply zd_ rfl<;>intro ht<;>try omega)|((first|apply zr_|apply zk_|apply ze_|apply zq_|(apply callW.mk_pu;(first|exact(fun _=>hKn)))|(apply callW.za;(first|exact(hKn)))|(apply zG<;>intro ht));all_goals try simp (disch:=first|omega|(simp only [lens,z6,z8,zh,zg,zn,z11,lQt,lQd,List.length_replicate];first|done|omega)) only [go_sem,q2,q3,q4,q5,g1,g2,g3,lA,lB,lC,tA,uA,uB,uC,kA,kB,kC,eA,eB,eC,z1g,eq_self,and_self,if_true]))
 have d3:=slen g3
 refine callW.mkP_ef (caps:=[]) hE ⟨_,_,rfl,rfl⟩ ?_
 rintro v O2 ⟨rfl,rfl⟩
 rw [<-hcZ31]
 have hAd:ACallsTo TC 10 [.ptr (O.length+1) 0 0,.agg (hdrC A)] (O++ [some [hc zeroH],some [poC zeroH .nilsl]]) (.int .i64 0) (O++ [some [hc zeroH],some [poC zeroH .nilsl]]):=
  z9w _ (O.length+1) zeroH .nilsl none [] A (z19 32 (hr A.p)) 0 (by rw [z1f (by omega),Nat.add_sub_cancel_left];rfl) (.inl ⟨rfl,rfl,rfl⟩) PSort.nil (by simp) (z5r _ _) (.inl ⟨hz,rfl⟩)
 have x1:(O++ [some [hc zeroH],some [poC zeroH .nilsl]])[n]? =some (some [hdrC A]):=by rw [gapp (by omega)];exact g1
 have x2:(O++ [some [hc zeroH],some [poC zeroH .nilsl]])[n+1]? =some (some [hdrC B]):=by rw [gapp (by omega)];exact g2
 have x3:(O++ [some [hc zeroH],some [poC zeroH .nilsl]])[n+2]? =some (some [hdrC C]):=by rw [gapp (by omega)];exact g3
 have hx:Ext ([]:Store) (O++ [some [hc zeroH],some [poC zeroH .nilsl]]):=⟨_,(List.nil_append _).symm⟩
 generalize (O++ [some [hc zeroH],some [poC zeroH .nilsl]])=O2 at*
 refine⟨by simp (disch:=first|omega|(simp only [lens,z6,z8,zh,zg,zn,z11,lQt,lQd,List.length_replicate];first|done|omega)) only [go_sem,x1,x2,x3,lA,lB,lC,tA,uA,uB,uC,kA,kB,kC],?_⟩
 simp (disch:=first|omega|(simp only [lens,z6,z8,zh,zg,zn,z11,lQt,lQd,List.length_replicate];first|done|omega)) only [go_sem,x1,x2,x3,g1,g2,g3,lA,lB,lC,tA,uA,uB,uC,kA,kB,kC,q2,q3,q4,q5]
 repeat' (first|apply zs_|apply zb_|apply zc_|apply zt_ rfl|apply zf_ rfl|(apply zd_ rfl<;>intro ht<;>try omega)|((first|apply zr_|apply zk_|apply ze_|apply zq_|(apply callW.mk_pu;(first|exact(fun _=>hAd)))|(apply callW.za;(first|exact(hAd)))|(apply zG<;>intro ht));all_goals try simp (disch:=first|omega|(simp only [lens,z6,z8,zh,zg,zn,z11,lQt,lQd,List.length_replicate];first|done|omega)) only [go_sem,x1,x2,x3,g1,g2,g3,lA,lB,lC,tA,uA,uB,uC,kA,kB,kC,q2,q3,q4,q5]))
 exact DownV.pure (τ:=[]) (news:=O2) hw z2d
end
section
theorem zsm(seed:List UInt8)(dg x:Hash)(hx:z1h (keyL seed) ≠ x):verI x dg (0:Nat) (ksgS seed (0:Nat) dg.1) (z1j (keyL seed) 0) ≠ 0:=by
 have hc:chkP (hd (keyL seed) 0) (0:Nat) 8 (z1j (keyL seed) 0) x ≠ 0:=by
  obtain⟨a,b,c,d,e,f,g,h,hK⟩:=len8 (z2w seed)
  rw [hK]at hx ⊢
  rw [zcr]at hx
  obtain⟨p0,_⟩:=zh0 a b c d e f g h
  rw [p0,z3y 0 (by omega),if_neg]
  ·decide
  ·exact fun e=>hx (by rw [<-e];simp [z2a,hd])
 unfold verI
 rw [if_neg (by omega),if_pos (z9o _ _ _),zhc,<-zfy seed 0 (by omega),if_neg hc]
 decide
theorem zr6(seed:List UInt8)(x:Hash)(n:Int)(r:Hash)(hn:0<=n/\ n<=4096)(hx:z1h (keyL seed) ≠ x):z1o x (z1b seed 0 n r).n (z1b seed 0 n r).i (z1b seed 0 n r).r (z1b seed 0 n r).s (z1b seed 0 n r).p ≠ 0:=by
 have hv:z6a (z1b seed 0 n r).n (z1b seed 0 n r).i (z1b seed 0 n r).s (z1b seed 0 n r).p=true:=decide_eq_true ⟨hn.1,hn.2,by simp only [z1b];omega,by simp only [z1b];omega,z9o _ _ _,zcd _ _⟩
 unfold z1o
 have e:(if verI x (digH (z1b seed 0 n r).n (z1b seed 0 n r).r) (z1b seed 0 n r).i (z1b seed 0 n r).s (z1b seed 0 n r).p=0 then(0:Int)else 81)=81:=if_neg (zsm seed _ x hx)
 rw [hv,if_neg (by simp),e]
 decide
attribute [local irreducible] ACallsTo ACallsP
theorem zps:ACallsTo TC 13 [] [] (.bool true) []:=by
 refine zpw fun O q key A B C n own J h1 h2 h3 h4 h5 h6 h7 h8 h9 hk hA hB hC=> ?_
 have cA:=zd0 [107] 0 1 (rb 9) (by omega) (by omega)
 have cB:=zd0 [107] 0 1 (rb 2) (by omega) (by omega)
 have cC:=zd0 [107] 0 2 (rb 1) (by omega) (by omega)
 have hz:=zr6 [107] zeroH 1 (rb 9) (by omega) (root_k zeroH rfl)
 have hp:=z9j cA
 have hw:Wf ([]:Store).length []:=fun r o h=>by simp at h
 rw [<-hk,<-hA]at cA
 rw [<-hk,<-hB]at cB
 rw [<-hk,<-hC]at cC
 rw [<-hA]at hz hp
 exact zpu hw O q key A B C n own J h1 h2 h3 h4 h5 h6 h7 h8 h9 cA cB cC (by rw [hA];rfl) (by rw [hA];rfl) (by rw [hB];rfl) (by rw [hB];rfl) (by rw [hC];rfl) (by rw [hC];rfl)
  fun O own J g1 g2 g3 g4 g5 g6 g7 g8=>zpv hw O q key A B C n own J g1 g2 g3 g4 g5 g6 g7 g8 hz (by omega)
theorem z6t(O:Store):ACallsTo TC 13 [] O (.bool true) O:=ACallsTo.frame glok zps (by simp [RLs]) O
end
section
attribute [local irreducible] ACallsTo ACallsP
end
section
def hdr0:Hdr:=⟨0,zeroH,0,[],[]⟩
theorem hdrC_0:hdrC hdr0=[.int .i64 0,.int .u8 0,.int .u8 0,.int .u8 0,.int .u8 0,.int .u8 0,.int .u8 0,.int .u8 0,.int .u8 0,.int .u8 0,.int .u8 0,.int .u8 0,.int .u8 0,.int .u8 0,.int .u8 0,.int .u8 0,.int .u8 0,.int .u8 0,.int .u8 0,.int .u8 0,.int .u8 0,.int .u8 0,.int .u8 0,.int .u8 0,.int .u8 0,.int .u8 0,.int .u8 0,.int .u8 0,.int .u8 0,.int .u8 0,.int .u8 0,.int .u8 0,.int .u8 0,.int .i64 0,.str [],.nilsl]:=rfl
def noF(P:List Hdr)(i:Nat):Prop:=∀k,k+1<i->(P[k]?).map Hdr.n ≠ (P[k+1]?).map Hdr.n
theorem zo0{P:List Hdr}{i:Nat}(h:noF P i)(hi:0<i)(hn:(P[i-1]?).map Hdr.n ≠ (P[i]?).map Hdr.n):noF P (i+1):=fun k hk=>by
 by_cases e:k+1<i
 ·exact h k e
 ·obtain rfl:k=i-1:=by omega
  rw [show i-1+1=i by omega];exact hn
def zbp(P:List Hdr):Option Nat->AV
 |none=> .tup [.agg (hdrC hdr0),.agg (hdrC hdr0),.bool false]
 |some j=> .tup [.agg (hdrC (P.getD j hdr0)),.agg (hdrC (P.getD (j+1) hdr0)),.bool true]
def ForkIs(P:List Hdr):Option Nat->Prop
 |none=>noF P P.length
 |some j=>j+1<P.length/\ (P[j]?).map Hdr.n=(P[j+1]?).map Hdr.n/\ noF P (j+1)
theorem ForkIs.ex(P:List Hdr):∃o,ForkIs P o:=by
 have:∀i,i<=P.length->(∃j,ForkIs P (some j)) \/noF P i:=by
  intro i
  induction i with
  |zero=>exact fun _=> .inr fun k hk=>by omega
  |succ i ih=>
   intro hi
   rcases ih (by omega)with h|h
   ·exact .inl h
   ·rcases Nat.eq_zero_or_pos i with rfl|h0
    ·exact .inr fun k hk=>by omega
    ·by_cases he:(P[i-1]?).map Hdr.n=(P[i]?).map Hdr.n
     ·exact .inl ⟨i-1,by omega,by rw [show i-1+1=i by omega];exact he,by rw [show i-1+1=i by omega];exact h⟩
     ·exact .inr (zo0 h h0 he)
 rcases this P.length (Nat.le_refl _)with⟨j,h⟩|h
 ·exact⟨some j,h⟩
 ·exact⟨none,h⟩
attribute [local irreducible] ACallsTo ACallsP
end
section
def hns(P:List Hdr):List (Int × Hash):=P.map fun q=>(q.n,q.r)
attribute [local irreducible] ACallsTo ACallsP
def PoCopyP(O:Store)(key:Hash)(P:List Hdr)(v:AV)(O':Store):Prop:=
 ∃p own,v=.ptr p 0 0/\ Ext O O'/\ PoIs O' p key P own/\ ∀j ∈ own,O.length<=j
theorem PoCopyP.at(O:Store)(key:Hash)(P:List Hdr):PoCopyP O key P (.ptr (ownS O (hdrs P)).length 0 0) (ownS O (hdrs P)++ [some [poC key (ownV O 36 (hdrs P))]]):=by
 by_cases h:hdrs P=[]
 ·have e1:ownS O (hdrs P)=O:=by unfold ownS;rw [if_pos h]
  have e2:ownV O 36 (hdrs P)=.nilsl:=by unfold ownV;rw [if_pos h]
  rw [e1,e2]
  exact⟨_,[O.length],rfl,⟨_,rfl⟩,⟨.nilsl,none,rfl,by rw [z1f (Nat.le_refl _),Nat.sub_self];rfl,.inl ⟨rfl,h,rfl⟩,by simp⟩,by simp⟩
 ·have e1:ownS O (hdrs P)=O++ [some (hdrs P)]:=by unfold ownS;rw [if_neg h]
  have e2:ownV O 36 (hdrs P)=.sl O.length 0 (hdrs P).length none 36:=by unfold ownV;rw [if_neg h]
  rw [e1,e2]
  refine⟨O.length+1,[O.length+1,O.length],by simp,⟨[some (hdrs P),some [poC key (.sl O.length 0 (hdrs P).length none 36)]],by simp⟩,⟨_,some O.length,rfl,?_,.inr ⟨O.length,rfl,h,rfl,?_⟩,by simp⟩,by simp⟩
  ·rw [z1f (by simp)];simp
  ·rw [List.append_assoc,z1f (Nat.le_refl _),Nat.sub_self];rfl
theorem PoCopyP.is(O:Store)(key:Hash)(P:List Hdr):∃v O',PoCopyP O key P v O':=⟨_,_,.at O key P⟩
def PoN(O:Store)(p:AV):Prop:=p=.nilp \/ ∃q x,p=.ptr q 0 0/\ O[q]? =some (some [.bool false::x])/\ x.length=33
end
section
theorem PoN.ext{O:Store}{p:AV}(h:PoN O p)(y:Store):PoN (O++y) p:=by
 rcases h with h| ⟨q,x,h1,h2,h3⟩
 ·exact .inl h
 ·exact .inr ⟨q,x,h1,by rw [gapp (slen h2)];exact h2,h3⟩
attribute [local irreducible] ACallsTo ACallsP
theorem z52{O:Store}{p:AV}(h:PoN O p):ACallsTo TC 23 [p] O (.bool true) O:=by
 refine ACallsTo.of_body q1pok (by simp) fun hw _=> ?_
 rcases h with rfl| ⟨q,x,rfl,hq,hx⟩
 ·repeat' (first|apply zs_|apply zb_|apply zc_|apply zt_ rfl|apply zf_ rfl|(apply zd_ rfl<;>intro ht<;>try omega)|((first|apply zr_|apply zk_|apply ze_|apply zq_|(apply zG<;>intro ht));all_goals try simp (disch:=first|omega|(simp only [lens,z6,z8,zh,zg,zn,z11,lQt,lQd,List.length_replicate];first|done|omega)) only [go_sem]))
  exact DownV.same hw z2d
 ·have d:=slen hq
  repeat' (first|apply zs_|apply zb_|apply zc_|apply zt_ rfl|apply zf_ rfl|(apply zd_ rfl<;>intro ht<;>try omega)|((first|apply zr_|apply zk_|apply ze_|apply zq_|(apply zG<;>intro ht));all_goals try simp (disch:=first|omega|(simp only [lens,z6,z8,zh,zg,zn,z11,lQt,lQd,List.length_replicate];first|done|omega)) only [go_sem,hq,hx]))
  exact DownV.same hw z2d
theorem zph{O:Store}{p:AV}(h:PoN O p)(q:Hdr)(x:AV):ACallsTo TC 10 [p,.agg (sgC q.n q.r q.i q.s x)] O (.int .i64 0) O:=by
 have hN:=fun y=>z52 (h.ext y)
 have ql:=z8 q.n q.r q.i q.s x
 refine ACallsTo.of_body za3 (by simp) fun hw _=> ?_
 repeat' (first|apply zs_|apply zb_|apply zc_|apply zt_ rfl|apply zf_ rfl|(apply zd_ rfl<;>intro ht<;>try omega)|((first|apply zr_|apply zk_|apply ze_|apply zq_|(apply callW.mk_pu;(first|exact(fun _=>hN _)))|(apply callW.za;(first|exact(hN _)))|(apply zG<;>intro ht));all_goals try simp (disch:=first|omega|(simp only [lens,z6,z8,zh,zg,zn,z11,lQt,lQd,List.length_replicate];first|done|omega)) only [go_sem,ql]))
 exact DownV.pure hw z2e
theorem zpm{O:Store}{p:AV}(h:PoN O p):ACallsTo TC 18 [p] O .nilsl O:=by
 have hN:=z52 h
 refine ACallsTo.of_body q1nok (by simp) fun hw _=> ?_
 repeat' (first|apply zs_|apply zb_|apply zc_|apply zt_ rfl|apply zf_ rfl|(apply zd_ rfl<;>intro ht<;>try omega)|((first|apply zr_|apply zk_|apply ze_|apply zq_|(apply callW.mk_pu;(first|exact(fun _=>hN)))|(apply callW.za;(first|exact(hN)))|(apply zG<;>intro ht));all_goals try simp (disch:=first|omega|(simp only [lens,z6,z8,zh,zg,zn,z11,lQt,lQd,List.length_replicate];first|done|omega)) only [go_sem]))
 exact DownV.same hw (by simp [RL])
theorem zpn{O:Store}{p:AV}(h:PoN O p):ACallsTo TC 12 [p] O .nilsl O:=by
 have hN:=z52 h
 refine ACallsTo.of_body q1iok (by simp) fun hw _=> ?_
 repeat' (first|apply zs_|apply zb_|apply zc_|apply zt_ rfl|apply zf_ rfl|(apply zd_ rfl<;>intro ht<;>try omega)|((first|apply zr_|apply zk_|apply ze_|apply zq_|(apply callW.mk_pu;(first|exact(fun _=>hN)))|(apply callW.za;(first|exact(hN)))|(apply zG<;>intro ht));all_goals try simp (disch:=first|omega|(simp only [lens,z6,z8,zh,zg,zn,z11,lQt,lQd,List.length_replicate];first|done|omega)) only [go_sem]))
 exact DownV.same hw (by simp [RL])
theorem zpl{O:Store}{p:AV}(h:PoN O p)(m:Int)(k:Hash):ACallsTo TC 16 [p,.agg (.int .i64 m::hc k)] O (.bool false) O:=by
 have hN:=fun y=>z52 (h.ext y)
 have kl:=z6 k
 refine ACallsTo.of_body q1lok (by simp) fun hw _=> ?_
 repeat' (first|apply zs_|apply zb_|apply zc_|apply zt_ rfl|apply zf_ rfl|(apply zd_ rfl<;>intro ht<;>try omega)|((first|apply zr_|apply zk_|apply ze_|apply zq_|(apply callW.mk_pu;(first|exact(fun _=>hN _)))|(apply callW.za;(first|exact(hN _)))|(apply zG<;>intro ht));all_goals try simp (disch:=first|omega|(simp only [lens,z6,z8,zh,zg,zn,z11,lQt,lQd,List.length_replicate];first|done|omega)) only [go_sem,kl]))
 exact DownV.pure hw z2d
theorem zpk{O:Store}{p:AV}(h:PoN O p):ACallsTo TC 15 [p] O (zbp [] none) O:=by
 have hN:=fun y=>z52 (h.ext y)
 have z:=hdrC_0
 have zl:=zh hdr0
 have hrlz:=fun k=>zqg (k:=k) hdr0
 unfold zbp
 refine ACallsTo.of_body q1kok (by simp) fun hw _=> ?_
 rw [z]at*
 repeat' (first|apply zs_|apply zb_|apply zc_|apply zt_ rfl|apply zf_ rfl|(apply zd_ rfl<;>intro ht<;>try omega)|((first|apply zr_|apply zk_|apply ze_|apply zq_|(apply callW.mk_pu;(first|exact(fun _=>hN _)))|(apply callW.za;(first|exact(hN _)))|(apply zG<;>intro ht));all_goals try simp (disch:=first|omega|(simp only [lens,z6,z8,zh,zg,zn,z11,lQt,lQd,List.length_replicate];first|done|omega)) only [go_sem]))
 refine DownV.pure hw ?_
 simp only [RL,RLs];simp
theorem zpj{O:Store}{p:AV}(h:PoN O p):ACallsTo TC 19 [p] O .nilp O:=by
 have hN:=z52 h
 refine ACallsTo.of_body q1ook (by simp) fun hw _=> ?_
 repeat' (first|apply zs_|apply zb_|apply zc_|apply zt_ rfl|apply zf_ rfl|(apply zd_ rfl<;>intro ht<;>try omega)|((first|apply zr_|apply zk_|apply ze_|apply zq_|(apply callW.mk_pu;(first|exact(fun _=>hN)))|(apply callW.za;(first|exact(hN)))|(apply zG<;>intro ht));all_goals try simp (disch:=first|omega|(simp only [lens,z6,z8,zh,zg,zn,z11,lQt,lQd,List.length_replicate];first|done|omega)) only [go_sem]))
 exact DownV.same hw (by simp [RL])
theorem zpp{O:Store}{p q:AV}(h:PoN O p)(h2:PoN O q):ACallsTo TC 17 [p,q] O (.bool true) O:=by
 have hN:=z52 h
 have hM:=z52 h2
 refine ACallsTo.of_body q1mok (by simp) fun hw _=> ?_
 repeat' (first|apply zs_|apply zb_|apply zc_|apply zt_ rfl|apply zf_ rfl|(apply zd_ rfl<;>intro ht<;>try omega)|((first|apply zr_|apply zk_|apply ze_|apply zq_|(apply callW.mk_pu;(first|exact(fun _=>hN)|exact(fun _=>hM)))|(apply callW.za;(first|exact(hN)|exact(hM)))|(apply zG<;>intro ht));all_goals try simp (disch:=first|omega|(simp only [lens,z6,z8,zh,zg,zn,z11,lQt,lQd,List.length_replicate];first|done|omega)) only [go_sem]))
 exact DownV.same hw z2d
theorem zpq{O:Store}{p:AV}(h:PoN O p)(q:Nat)(key:Hash)(v:AV)(hq:O[q]? =some (some [poC key v])):ACallsTo TC 17 [p,.ptr q 0 0] O (.bool false) O:=by
 have hN:=z52 h
 have hM:=z6s O q key v hq
 refine ACallsTo.of_body q1mok (by simp) fun hw _=> ?_
 repeat' (first|apply zs_|apply zb_|apply zc_|apply zt_ rfl|apply zf_ rfl|(apply zd_ rfl<;>intro ht<;>try omega)|((first|apply zr_|apply zk_|apply ze_|apply zq_|(apply callW.mk_pu;(first|exact(fun _=>hN)|exact(fun _=>hM)))|(apply callW.za;(first|exact(hN)|exact(hM)))|(apply zG<;>intro ht));all_goals try simp (disch:=first|omega|(simp only [lens,z6,z8,zh,zg,zn,z11,lQt,lQd,List.length_replicate];first|done|omega)) only [go_sem]))
 exact DownV.same hw z2d
end
section
def zcx:Ty:=.row [.row [.int .i64,z5j],.row [.int .i64,.str,.sl 32 z5j]]
theorem sg31_h{a:AV}(h:Sh zcx a):∃(q:Hdr) (x:AV),a=.agg (sgC q.n q.r q.i q.s x)/\ SlV 32 (hr q.p) x/\ q.p.length<=maxLen/\ q.s.length<=maxLen:=by
 simp only [zcx,Sh]at h
 obtain⟨cs,rfl,h⟩:=h
 simp only [z31,ShC]at h
 obtain⟨A,B,rfl,hA,C,D,rfl,hC,rfl⟩:=h
 obtain⟨A1,A2,rfl,⟨n,rfl,n1,n2⟩,A3,A4,rfl,hA3,rfl⟩:=hA
 obtain⟨C1,C2,rfl,⟨i,rfl,i1,i2⟩,C3,C4,rfl,⟨s,rfl,hs⟩,C5,C6,rfl,hM,rfl⟩:=hC
 obtain⟨r,rfl⟩:=zfj hA3
 obtain⟨l,x,rfl,h3,h4⟩:=hslC_h (by simpa only [ShC]using hM)
 exact⟨⟨n,r,i,s,l⟩,x,by simp [sgC],h3,h4,hs⟩
def zbu:Ty:=.row [.int .i64,z5j]
theorem hd31_h{a:AV}(h:Sh zbu a):∃(n:Int) (r:Hash),a=.agg (.int .i64 n::hc r):=by
 simp only [zbu,Sh]at h
 obtain⟨cs,rfl,h⟩:=h
 simp only [z31,ShC]at h
 obtain⟨A1,A2,rfl,⟨n,rfl,n1,n2⟩,A3,A4,rfl,hA3,rfl⟩:=h
 obtain⟨r,rfl⟩:=zfj hA3
 exact⟨n,r,by simp⟩
attribute [local irreducible] ACallsTo ACallsP
theorem zjf(q:Hdr)(x:AV)(n:Int)(k:Hash)(hx:SlV 32 (hr q.p) x)(hxl:q.p.length<=maxLen)(hsl:q.s.length<=maxLen):
  ACallsTo TC 6 [.agg (sgC q.n q.r q.i q.s x),.agg (.int .i64 n::hc k)] [] (.bool true) []:=by
 have hm:maxLen<9223372036854775808:=by decide
 have r2:=hx.len
 rw [z7]at r2
 unfold z1y at r2
 have ql:=z8 q.n q.r q.i q.s x
 have kl:=z6 k
 refine ACallsTo.of_body q1eok (by simp) fun hw _=> ?_
 by_cases c3:17000<q.s.length
 ·have c3':(q.s.length:Int)>17000:=by omega
  repeat' (first|apply zs_|apply zb_|apply zc_|apply zt_ rfl|apply zf_ rfl|(apply zd_ rfl<;>intro ht<;>try omega)|((first|apply zr_|apply zk_|apply ze_|apply zq_|(apply callW.mk_pu;(first|exact(fun _=>z6t _)))|(apply callW.za;(first|exact(z6t _)))|(apply zG<;>intro ht));all_goals try simp (disch:=first|omega|(simp only [lens,z6,z7,z8,zh,zg,zn,z11,lQt,lQd,List.length_replicate];first|done|omega)) only [go_sem,r2,ql,kl,c3']))
  exact DownV.pure (τ:=[]) hw z2d
 have c3':¬(q.s.length:Int)>17000:=by omega
 by_cases c4:10<q.p.length
 ·have c4':(q.p.length:Int)>10:=by omega
  repeat' (first|apply zs_|apply zb_|apply zc_|apply zt_ rfl|apply zf_ rfl|(apply zd_ rfl<;>intro ht<;>try omega)|((first|apply zr_|apply zk_|apply ze_|apply zq_|(apply callW.mk_pu;(first|exact(fun _=>z6t _)))|(apply callW.za;(first|exact(z6t _)))|(apply zG<;>intro ht));all_goals try simp (disch:=first|omega|(simp only [lens,z6,z7,z8,zh,zg,zn,z11,lQt,lQd,List.length_replicate];first|done|omega)) only [go_sem,r2,ql,kl,c3',c4']))
  exact DownV.pure (τ:=[]) hw z2d
 have c4':¬(q.p.length:Int)>10:=by omega
 repeat' (first|apply zs_|apply zb_|apply zc_|apply zt_ rfl|apply zf_ rfl|(apply zd_ rfl<;>intro ht<;>try omega)|((first|apply zr_|apply zk_|apply ze_|apply zq_|(apply zG<;>intro ht));all_goals try simp (disch:=first|omega|(simp only [lens,z6,z7,z8,zh,zg,zn,z11,lQt,lQd,List.length_replicate];first|done|omega)) only [go_sem,r2,ql,kl,c3',c4']))
 refine zW.loop (fun t J O'=>∃(j:Nat) (pv:AV),t+j=2/\ PoN O' pv/\ O'[0]? =some (some [sgC q.n q.r q.i q.s x])/\ O'[1]? =some (some [.int .i64 n::hc k])/\ J 2=.ptr 0 0 0/\ J 3=.ptr 1 0 0/\ J 5=pv/\ J 6=.int .i64 j) 2 ?_ ?_
 ·exact⟨0,.nilp,by omega,.inl rfl,rfl,rfl,by simp (disch:=first|omega|(simp only [lens,z6,z7,z8,zh,zg,zn,z11,lQt,lQd,List.length_replicate];first|done|omega)) only [go_sem],by simp (disch:=first|omega|(simp only [lens,z6,z7,z8,zh,zg,zn,z11,lQt,lQd,List.length_replicate];first|done|omega)) only [go_sem],by simp (disch:=first|omega|(simp only [lens,z6,z7,z8,zh,zg,zn,z11,lQt,lQd,List.length_replicate];first|done|omega)) only [go_sem],by simp (disch:=first|omega|(simp only [lens,z6,z7,z8,zh,zg,zn,z11,lQt,lQd,List.length_replicate];first|done|omega)) only [go_sem];try rfl⟩
 ·rintro t J O' ⟨j,pv,hj,hN,h0,h1,q2,q3,q5,q6⟩
  by_cases hi:j<2
  ·have hF:=zpk hN
   unfold zbp at hF
   have zl:=zh hdr0
   have d0:=slen h0
   have d1:=slen h1
   have hA:=fun y=>zph (hN.ext y) q x
   have hH:=fun y=>zpm (hN.ext y)
   have hK:=fun y=>zpn (hN.ext y)
   have hS:=fun y=>zpl (hN.ext y) n k
   have hC:=fun y=>zpj (hN.ext y)
   have hSm:=fun y=>zpp (hN.ext y) (q:=.nilp) (.inl rfl)
   repeat' (first|apply zs_|apply zb_|apply zc_|apply zt_ rfl|apply zf_ rfl|(apply zd_ rfl<;>intro ht<;>try omega)|((first|apply zr_|apply zk_|apply ze_|apply zq_|(apply callW.mk_pu;(first|exact(fun _=>hF)|exact(fun _=>hA _)|exact(fun _=>hH _)|exact(fun _=>hK _)|exact(fun _=>hS _)|exact(fun _=>hC _)|exact(fun _=>hSm _)))|(apply callW.za;(first|exact(hF)|exact(hA _)|exact(hH _)|exact(hK _)|exact(hS _)|exact(hC _)|exact(hSm _)))|(apply zG<;>intro ht));all_goals try simp (disch:=first|omega|(simp only [lens,z6,z7,z8,zh,zg,zn,z11,lQt,lQd,List.length_replicate];first|done|omega)) only [go_sem,q2,q3,q5,q6,h0,h1,ql,kl,zl]))
   refine callW.mkP (caps:=[]) (zcg _ k) ⟨_,_,rfl,rfl⟩ ?_
   rintro v O2 ⟨rfl,rfl⟩
   have hQ:ACallsTo TC 17 [pv,.ptr (O'.length+3) 0 0] (O'++ [some [hdrC hdr0],some [hdrC hdr0],some [hc k],some [poC k .nilsl]]) (.bool false) (O'++ [some [hdrC hdr0],some [hdrC hdr0],some [hc k],some [poC k .nilsl]]):=
    zpq (hN.ext _) (O'.length+3) k .nilsl (by rw [z1f (by omega),Nat.add_sub_cancel_left];rfl)
   simp (disch:=first|omega|(simp only [lens,z6,z7,z8,zh,zg,zn,z11,lQt,lQd,List.length_replicate];first|done|omega)) only [go_sem,q2,q3,q5,q6]
   repeat' (first|apply zs_|apply zb_|apply zc_|apply zt_ rfl|apply zf_ rfl|(apply zd_ rfl<;>intro ht<;>try omega)|((first|apply zr_|apply zk_|apply ze_|apply zq_|(apply callW.mk_pu;(first|exact(fun _=>hQ)))|(apply callW.za;(first|exact(hQ)))|(apply zG<;>intro ht));all_goals try simp (disch:=first|omega|(simp only [lens,z6,z7,z8,zh,zg,zn,z11,lQt,lQd,List.length_replicate];first|done|omega)) only [go_sem,q2,q3,q5,q6]))
   exact⟨t-1,by omega,j+1,_,by omega,.inr ⟨O'.length+4,hc zeroH++ [.nilsl],rfl,by rw [z1f (by omega),Nat.add_sub_cancel_left];rfl,rfl⟩,by first|exact h0|exact(gapp d0).trans h0,by first|exact h1|exact(gapp d1).trans h1,by simp⟩
  ·obtain rfl:j=2:=by omega
   repeat' (first|apply zs_|apply zb_|apply zc_|apply zt_ rfl|apply zf_ rfl|(apply zd_ rfl<;>intro ht<;>try omega)|((first|apply zr_|apply zk_|apply ze_|apply zq_|(apply callW.mk_pu;(first|exact(fun _=>z6t _)))|(apply callW.za;(first|exact(z6t _)))|(apply zG<;>intro ht));all_goals try simp (disch:=first|omega|(simp only [lens,z6,z7,z8,zh,zg,zn,z11,lQt,lQd,List.length_replicate];first|done|omega)) only [go_sem,q2,q3,q5,q6]))
   exact DownV.pure (τ:=[]) (news:=O') hw z2d
theorem PoolNone_law(avs:List AV)(h:z7f [zcx,zbu] avs):ACallsTo TC 6 avs [] (.bool true) []:=by
 simp only [z7f]at h
 obtain⟨_,_,rfl,h0,_,_,rfl,h1,rfl⟩:=h
 obtain⟨q,x,rfl,hx,hxl,hsl⟩:=sg31_h h0
 obtain⟨n,k,rfl⟩:=hd31_h h1
 exact zjf q x n k hx hxl hsl
end
end Am
end Go.Proofs.YtcdcmgjnbjoajaaDoor
section
/- What a law with the laid tables of sha begins with. -/
namespace Go.Proofs.YtcdcmgjnbjoajaaDoor.LawDoor
open Go.ChangeShapes Go.WideShapes Go.ChangeAt Go.RowKit
theorem own:ownKnob Tryd.prog.godebug=none:=by kernel_rfl
theorem znf:laidOutB Tryd.prog=true:=by kernel_rfl
def z83:List (String × DataW Unit):=[("speculum/sha.first",Rows.laid_speculum_sha_first),("speculum/sha.rounds",Rows.laid_speculum_sha_rounds)]
set_option maxRecDepth 100000
theorem zl5(os:Os)(args:Array Value):laidMetH Tryd.prog z83 ((World.doorLaid Tryd.prog 400 os).forCall (fun _ _=>0) ⟨#[],args,[]⟩).memory:=
 laidMetH_of_parts3 (fuel:=8) (laidMet_of_run' 8 (by kernel_rfl) (by kernel_rfl)) (by kernel_rfl) (by kernel_rfl)
theorem rel_of{W:World}(h:laidMetH Tryd.prog z83 W):Am.Rel Am.TC [] [] W:=by
 rw [MakeChecks.laidMetH_plain _ _ _ (by kernel_rfl)]at h
 obtain⟨ps,⟨g0,t0,cs0,f0,p0,q0,hg0,ht0,hv0,hd0,⟨g1,t1,cs1,f1,p1,q1,hg1,ht1,hv1,hd1,_,_⟩,_⟩,_,_⟩:=h
 have v0:=Am.vp_of_var (P:=Tryd.prog) (n:= "speculum/sha.first") (g:=0) (t:=107) (e:=106) (m:=8) (k:=.u32) Am.shaFirst (by kernel_rfl) (by kernel_rfl) (by kernel_rfl) (by kernel_rfl) (by kernel_rfl) (by kernel_rfl) hg0 ht0 hv0 hd0
 have v1:=Am.vp_of_var (P:=Tryd.prog) (n:= "speculum/sha.rounds") (g:=1) (t:=118) (e:=106) (m:=64) (k:=.u32) Am.shaRounds (by kernel_rfl) (by kernel_rfl) (by kernel_rfl) (by kernel_rfl) (by kernel_rfl) (by kernel_rfl) hg1 ht1 hv1 hd1
 refine⟨rfl,fun r o h=>by simp at h,fun r h=>by simp at h,fun r r' pl pl' h=>by simp at h,fun g cs h=> ?_⟩
 simp only [Am.TC]at h
 split at h
 ·rename_i hg;subst hg;cases h;exact v0
 ·split at h
  ·rename_i hg;subst hg;cases h;exact v1
  ·cases h
end Go.Proofs.YtcdcmgjnbjoajaaDoor.LawDoor
end
