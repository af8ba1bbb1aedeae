import Derived.Test.YtcdcmgjnbjoajaaGreatDoorK5107d5886
import Derived.Test.YtcdcmgjnbjoajaaGreatDoorK203765d86
import Derived.Test.YtcdcmgjnbjoajaaGreatDoorRows
import Derived.Test.YtcdcmgjnbjoajaaGreatDoorCards
import Derived.Test.YtcdcmgjnbjoajaaGreatDoorTie
import Derived.ProofKit
import Derived.LaidMore
import Derived.OpenShut
import Derived.Stop.Joined
import Derived.SevenTiedAt
import Derived.MakeChecks
set_option linter.unusedSimpArgs false
set_option linter.unusedVariables false
open Nat (reduceEqDiff reduceAdd reduceMul reduceSub reduceLeDiff)
open Int (reduceToNat reducePow)
open Nat renaming reduceEqDiff -> nQ1, reduceBEq -> nQ2, reduceAdd -> nQ3, reduceMul -> nQ4, reduceSub -> nQ5, reduceLeDiff -> nQ6
open Int renaming reduceToNat -> nQ7, reducePow -> nQ8
open List renaming length_reverse -> lQr, length_map -> lQm, length_take -> lQt, length_drop -> lQd, length_set -> lQs
set_option maxHeartbeats 16000000
attribute [local go_sem_proc] Nat.reduceEqDiff Nat.reduceBEq Nat.reduceAdd Nat.reduceMul Nat.reduceSub Nat.reduceLeDiff Int.reduceToNat Int.reducePow
namespace Go.Proofs.YtcdcmgjnbjoajaaGreatDoor
namespace Am
section
structure CaS(O:Store)(PS:List (List Hdr))(M:List MM)(A:List Hdr)(c pa:Nat)(o1 oa:List Nat):Prop where
 c:CirS PoIs O c (z19 (keyL logC)) PS M o1
 p:PoIs O pa (z19 (keyL logC)) A oa
 d:∀j,j ∈ o1->j ∉ oa
 t:O[0]? =some (some [z1n true logC (keyL logC)])
 t1:0 ∉ o1
 t2:0 ∉ oa
section
variable {O O':Store} {PS PS':List (List Hdr)} {M M':List MM} {A A':List Hdr} {c pa:Nat} {o1 o1' oa oa':List Nat}
theorem CaS.ext(h:CaS O PS M A c pa o1 oa)(he:Ext O O'):CaS O' PS M A c pa o1 oa:=
 ⟨h.c.ext ploc_is he,h.p.ext he,h.d,by obtain⟨y,rfl⟩:=he;rw [gapp (slen h.t)];exact h.t,h.t1,h.t2⟩
theorem CaS.circ(h:CaS O PS M A c pa o1 oa)(f:Fr O O' o1 o1')(C:CirS PoIs O' c (z19 (keyL logC)) PS' M' o1'):CaS O' PS' M' A c pa o1' oa:=
 ⟨C,h.p.fr f h.d,f.dj (fun j hj=>h.p.lt hj) h.d,f.get h.t h.t1,f.nin (slen h.t) h.t1,h.t2⟩
theorem CaS.pool(h:CaS O PS M A c pa o1 oa)(f:Fr O O' oa oa')(P:PoIs O' pa (z19 (keyL logC)) A' oa'):CaS O' PS M A' c pa o1 oa':=
 ⟨h.c.fr ploc_is f fun j h2 h1=>h.d j h1 h2,P,fun j h1 h2=>f.dj (h.c.lt ploc_is) (fun j h2 h1=>h.d j h1 h2) j h2 h1,f.get h.t h.t2,h.t1,f.nin (slen h.t) h.t2⟩
end
attribute [local irreducible] ACallsTo ACallsP
section
variable {O:Store} {PS:List (List Hdr)} {A:List Hdr} {c pa:Nat} {o1 oa:List Nat} {J:Env} {n:Nat}
theorem znv{L:List Sn}{ex:Bool}{nd i:Nat}{Q:AExit->Env->Store->Prop}(hL:∀s ∈ L,SnOk s)(hLl:L.length<=16)(hnd:nd<256)(hn:n=2+nd%7)(hi:i<L.length)(hS:CaS O PS [] A c pa o1 oa)(hA:LA (z19 (keyL logC)) n i PS A)
  (q0:J 0=.int .u8 nd) (q1:J 1=.vsl 4 (sns L) ex) (q5:J 5=.int .i64 n) (q6:J 6=.ptr 0 0 0) (q7:J 7=.ptr c 0 0) (q9:J 9=.ptr pa 0 0) (q10:J 10=.int .i64 i)
  (hQ:∀(J':Env) (O':Store) (PS':List (List Hdr)) (A':List Hdr) (o1' oa':List Nat),CaS O' PS' [] A' c pa o1' oa'->LA (z19 (keyL logC)) n (i+1) PS' A'->J' 0=.int .u8 nd->J' 1=.vsl 4 (sns L) ex->J' 5=.int .i64 n->J' 6=.ptr 0 0 0->J' 7=.ptr c 0 0->J' 9=.ptr pa 0 0->J' 10=.int .i64 i->Q .normal J' O'):
  zW TC 136 0 zbg Q J O:=by
 have hsd:logC.length<1000000:=by decide
 have gi:=zvi hi
 have sl:=zu L
 have hsi:=hL L[i] (List.getElem_mem hi)
 have hjn:(i*5+nd)%n<n:=Nat.mod_lt _ (by omega)
 have hOf:=zkp O 0 logC L[i].1 L[i].2.1 L[i].2.2.1 L[i].2.2.2 hS.t hsd hsi.1 hsi.2.1 hsi.2.2.1 hsi.2.2.2
 rw [show z3l logC L[i].1 L[i].2.1 L[i].2.2.1 L[i].2.2.2=snH logC L[i]from rfl]at hOf
 have hsp:(snH logC L[i]).p.length=3:=zuq _ _ _ _ _
 obtain⟨hA2,hc⟩:=hA.step (by omega) hjn (snH logC L[i])
 have em:((i:Int)*5+(nd:Int))%(n:Int)=(((i*5+nd)%n:Nat):Int):=by rw [Int.natCast_emod,Int.natCast_add,Int.natCast_mul];rfl
 have hn0:¬(n:Int)=0:=by omega
 have hnpos:(0:Int)<n:=by omega
 generalize snH logC L[i]=h at*
 generalize L[i]=s at*
 generalize (i*5+nd)%n=j at*
 have lh:=zg h
 have th:(hdrC h).take 36=hdrC h:=z6s h
 obtain⟨a1,a2,a3,a4⟩:=s
 have S1:=hS.ext (O':=O++ [some [hdrC h]]) ⟨_,rfl⟩
 have g9:(O++ [some [hdrC h]])[O.length]? =some (some [hdrC h]):=by rw [z1a (Nat.le_refl _),Nat.sub_self];rfl
 have n9:O.length ∉ o1:=fun e=>by have:=hS.c.lt ploc_is _ e;omega
 unfold zbg
 repeat' (first|apply zs_|apply zb_|apply zc_|apply zt_ rfl|apply zf_ rfl|(apply zd_ rfl<;>intro ht<;>try omega)|((first|apply zr_|apply zk_|apply ze_|apply zq_|(apply callW.mk_pu;(first|exact(fun _=>hOf)))|(apply callW.za;(first|exact(hOf)))|(apply zG<;>intro ht));all_goals try simp (disch:=first|omega|(simp only [lens,z6,zi,z7,zg,z8,zj,zh,zu,lQt,lQd,List.length_replicate];first|done|omega)) only [go_sem,q0,q1,q5,q6,q7,q9,q10,gi,sl,lh,snC,em,hn0,hnpos]))
 have hLn:=zh2 S1.c hA.ok j h _ (z1v 32 (hr h.p)) (by omega)
 rw [show sgC h.n h.r h.i h.s (zz 32 (hr h.p))=hdrC h from rfl]at hLn
 generalize O++ [some [hdrC h]]=O1 at*
 generalize O.length=n1 at*
 refine callW.mkP_ef (caps:=[]) hLn (CirP.is ploc_is z3q S1.c _ (zj7 ..)) ?_
 rintro v O2 ⟨rfl,o2,C1,f1⟩
 have S2:=S1.circ f1 C1
 have g9b:=f1.get g9 n9
 refine⟨by simp (disch:=first|omega|(simp only [lens,z6,zi,z7,zg,z8,zj,zh,zu,lQt,lQd,List.length_replicate];first|done|omega)) only [go_sem,g9b,lh,th],?_⟩
 have hAd:=zb3 O2 pa _ A oa h _ S2.p hA.a.sort hA.a.len (z1v _ _) (by omega) (fun e=>zak e)
 rw [show sgC h.n h.r h.i h.s (zz 32 (hr h.p))=hdrC h from rfl]at hAd
 have hAe:=PoAddP.is (q:=h) S2.p
 generalize he1:lrnC (z19 (keyL logC)) PS j h=e1 at*
 generalize he2:addC (z19 (keyL logC)) A h=e2 at*
 by_cases h0:e1=0
 ·have h02:=hc.1 h0
  subst h0;subst h02
  simp (disch:=first|omega|(simp only [lens,z6,zi,z7,zg,z8,zj,zh,zu,lQt,lQd,List.length_replicate];first|done|omega)) only [go_sem,q0,q1,q5,q6,q7,q9,q10,g9,g9b,lh,th]
  repeat' (first|apply zs_|apply zb_|apply zc_|apply zt_ rfl|apply zf_ rfl|(apply zd_ rfl<;>intro ht<;>try omega)|((first|apply zr_|apply zk_|apply ze_|apply zq_|(apply zG<;>intro ht));all_goals try simp (disch:=first|omega|(simp only [lens,z6,zi,z7,zg,z8,zj,zh,zu,lQt,lQd,List.length_replicate];first|done|omega)) only [go_sem,q0,q1,q5,q6,q7,q9,q10,g9,g9b,lh,th]))
  refine callW.mkP (caps:=[]) hAd hAe ?_
  rintro v O3 ⟨rfl,oa3,f3,P3⟩
  rw [he2]
  have S3:=S2.pool f3 P3
  simp (disch:=first|omega|(simp only [lens,z6,zi,z7,zg,z8,zj,zh,zu,lQt,lQd,List.length_replicate];first|done|omega)) only [go_sem,q0,q1,q5,q6,q7,q9,q10]
  repeat' (first|apply zs_|apply zb_|apply zc_|apply zt_ rfl|apply zf_ rfl|(apply zd_ rfl<;>intro ht<;>try omega)|((first|apply zr_|apply zk_|apply ze_|apply zq_|(apply zG<;>intro ht));all_goals try simp (disch:=first|omega|(simp only [lens,z6,zi,z7,zg,z8,zj,zh,zu,lQt,lQd,List.length_replicate];first|done|omega)) only [go_sem,q0,q1,q5,q6,q7,q9,q10]))
  exact hQ _ _ _ _ _ _ S3 hA2 (by simp (disch:=first|omega|(simp only [lens,z6,zi,z7,zg,z8,zj,zh,zu,lQt,lQd,List.length_replicate];first|done|omega)) only [go_sem,q0]) (by simp (disch:=first|omega|(simp only [lens,z6,zi,z7,zg,z8,zj,zh,zu,lQt,lQd,List.length_replicate];first|done|omega)) only [go_sem,q1]) (by simp (disch:=first|omega|(simp only [lens,z6,zi,z7,zg,z8,zj,zh,zu,lQt,lQd,List.length_replicate];first|done|omega)) only [go_sem,q5]) (by simp (disch:=first|omega|(simp only [lens,z6,zi,z7,zg,z8,zj,zh,zu,lQt,lQd,List.length_replicate];first|done|omega)) only [go_sem,q6]) (by simp (disch:=first|omega|(simp only [lens,z6,zi,z7,zg,z8,zj,zh,zu,lQt,lQd,List.length_replicate];first|done|omega)) only [go_sem,q7]) (by simp (disch:=first|omega|(simp only [lens,z6,zi,z7,zg,z8,zj,zh,zu,lQt,lQd,List.length_replicate];first|done|omega)) only [go_sem,q9]) (by simp (disch:=first|omega|(simp only [lens,z6,zi,z7,zg,z8,zj,zh,zu,lQt,lQd,List.length_replicate];first|done|omega)) only [go_sem,q10])
 ·have h02:¬e2=0:=fun e=>h0 (hc.2 e)
  have h0':(e1==0)=false:=beq_eq_false_iff_ne.2 h0
  have h02':(e2==0)=false:=beq_eq_false_iff_ne.2 h02
  simp (disch:=first|omega|(simp only [lens,z6,zi,z7,zg,z8,zj,zh,zu,lQt,lQd,List.length_replicate];first|done|omega)) only [go_sem,q0,q1,q5,q6,q7,q9,q10,g9,g9b,lh,th,h0']
  repeat' (first|apply zs_|apply zb_|apply zc_|apply zt_ rfl|apply zf_ rfl|(apply zd_ rfl<;>intro ht<;>try omega)|((first|apply zr_|apply zk_|apply ze_|apply zq_|(apply zG<;>intro ht));all_goals try simp (disch:=first|omega|(simp only [lens,z6,zi,z7,zg,z8,zj,zh,zu,lQt,lQd,List.length_replicate];first|done|omega)) only [go_sem,q0,q1,q5,q6,q7,q9,q10,g9,g9b,lh,th,h0']))
  refine callW.mkP (caps:=[]) hAd hAe ?_
  rintro v O3 ⟨rfl,oa3,f3,P3⟩
  rw [he2]
  have S3:=S2.pool f3 P3
  simp (disch:=first|omega|(simp only [lens,z6,zi,z7,zg,z8,zj,zh,zu,lQt,lQd,List.length_replicate];first|done|omega)) only [go_sem,q0,q1,q5,q6,q7,q9,q10,h0',h02']
  repeat' (first|apply zs_|apply zb_|apply zc_|apply zt_ rfl|apply zf_ rfl|(apply zd_ rfl<;>intro ht<;>try omega)|((first|apply zr_|apply zk_|apply ze_|apply zq_|(apply zG<;>intro ht));all_goals try simp (disch:=first|omega|(simp only [lens,z6,zi,z7,zg,z8,zj,zh,zu,lQt,lQd,List.length_replicate];first|done|omega)) only [go_sem,q0,q1,q5,q6,q7,q9,q10,h0',h02']))
  exact hQ _ _ _ _ _ _ S3 hA2 (by simp (disch:=first|omega|(simp only [lens,z6,zi,z7,zg,z8,zj,zh,zu,lQt,lQd,List.length_replicate];first|done|omega)) only [go_sem,q0]) (by simp (disch:=first|omega|(simp only [lens,z6,zi,z7,zg,z8,zj,zh,zu,lQt,lQd,List.length_replicate];first|done|omega)) only [go_sem,q1]) (by simp (disch:=first|omega|(simp only [lens,z6,zi,z7,zg,z8,zj,zh,zu,lQt,lQd,List.length_replicate];first|done|omega)) only [go_sem,q5]) (by simp (disch:=first|omega|(simp only [lens,z6,zi,z7,zg,z8,zj,zh,zu,lQt,lQd,List.length_replicate];first|done|omega)) only [go_sem,q6]) (by simp (disch:=first|omega|(simp only [lens,z6,zi,z7,zg,z8,zj,zh,zu,lQt,lQd,List.length_replicate];first|done|omega)) only [go_sem,q7]) (by simp (disch:=first|omega|(simp only [lens,z6,zi,z7,zg,z8,zj,zh,zu,lQt,lQd,List.length_replicate];first|done|omega)) only [go_sem,q9]) (by simp (disch:=first|omega|(simp only [lens,z6,zi,z7,zg,z8,zj,zh,zu,lQt,lQd,List.length_replicate];first|done|omega)) only [go_sem,q10])
theorem ca_end(hw:Wf ([]:Store).length [])(h2:2<=n)(h8:n<=8)(hS:CaS O PS [] A c pa o1 oa)(hB:LB (z19 (keyL logC)) n 0 PS A)(q5:J 5=.int .i64 n)(q7:J 7=.ptr c 0 0)(q9:J 9=.ptr pa 0 0):
  zW TC 136 0 zbh (endQ 0 [.t 4] (.bool true) []) J O:=by
 obtain⟨o,hF⟩:=ForkIs.ex A
 have hA:=hB.m.a
 have hAl:=hA.len
 have hFk:=zjv O pa _ A oa o hS.p hF (by omega) hA.path
 obtain⟨u,v,hV⟩:=zhy A o
 rw [hV]at hFk
 have lu:=zg u
 have lv:=zg v
 generalize hw0:o.isSome=w at*
 unfold zbh
 repeat' (first|apply zs_|apply zb_|apply zc_|apply zt_ rfl|apply zf_ rfl|(apply zd_ rfl<;>intro ht<;>try omega)|((first|apply zr_|apply zk_|apply ze_|apply zq_|(apply callW.mk_pu;(first|exact(fun _=>hFk)))|(apply callW.za;(first|exact(hFk)))|(apply zG<;>intro ht));all_goals try simp (disch:=first|omega|(simp only [lens,z6,zi,z7,zg,z8,zj,zh,zu,lQt,lQd,List.length_replicate];first|done|omega)) only [go_sem,q5,q7,q9,lu,lv]))
 have S0:=hS.ext (O':=O++ [some [hdrC u],some [hdrC v]]) ⟨_,rfl⟩
 generalize O++ [some [hdrC u],some [hdrC v]]=O1 at*
 refine zW.loop (fun t J O'=>∃i:Nat,t+i=n/\ CaS O' PS [] A c pa o1 oa/\ J 5=.int .i64 n/\ J 7=.ptr c 0 0/\ J 9=.ptr pa 0 0/\ J 20=.bool w/\ J 21=.int .i64 i) n ?_ ?_
 ·exact⟨0,by omega,S0,by simp (disch:=first|omega|(simp only [lens,z6,zi,z7,zg,z8,zj,zh,zu,lQt,lQd,List.length_replicate];first|done|omega)) only [go_sem,q5],by simp (disch:=first|omega|(simp only [lens,z6,zi,z7,zg,z8,zj,zh,zu,lQt,lQd,List.length_replicate];first|done|omega)) only [go_sem,q7],by simp (disch:=first|omega|(simp only [lens,z6,zi,z7,zg,z8,zj,zh,zu,lQt,lQd,List.length_replicate];first|done|omega)) only [go_sem,q9],by simp (disch:=first|omega|(simp only [lens,z6,zi,z7,zg,z8,zj,zh,zu,lQt,lQd,List.length_replicate];first|done|omega)) only [go_sem],by simp (disch:=first|omega|(simp only [lens,z6,zi,z7,zg,z8,zj,zh,zu,lQt,lQd,List.length_replicate];first|done|omega)) only [go_sem];try rfl⟩
 ·clear S0 q5 q7 q9
  rintro t J O' ⟨i,ht,hS,q5,q7,q9,q20,q21⟩
  by_cases hi:i<n
  ·have hip:i<PS.length:=by rw [hB.m.ln];exact hi
   have hP:=hB.m.ok i hip
   have hPe:=hB.all i (by omega) hi
   have hCp:=zcn hS.c hB.m.ok i hip
   obtain⟨o2,hF2⟩:=ForkIs.ex (PS.getD i [])
   have hsm:=zph hP.sort hA.sort hPe hF2 hF
   rw [hw0]at hsm
   have hns:hns (PS.getD i [])=hns A:=zig hP.sort hA.sort hPe
   have hPl:=hP.len
   have hPp:=hP.path
   have hi':(i:Int)<n:=by omega
   generalize PS.getD i []=P at*
   repeat' (first|apply zs_|apply zb_|apply zc_|apply zt_ rfl|apply zf_ rfl|(apply zd_ rfl<;>intro ht<;>try omega)|((first|apply zr_|apply zk_|apply ze_|apply zq_|(apply zG<;>intro ht));all_goals try simp (disch:=first|omega|(simp only [lens,z6,zi,z7,zg,z8,zj,zh,zu,lQt,lQd,List.length_replicate];first|done|omega)) only [go_sem,q5,q7,q9,q20,q21,hi']))
   refine callW.mkP (caps:=[]) hCp (PoCopyP.is _ _ _) ?_
   rintro vv O2 ⟨p,op,rfl,hE,hPo,hop⟩
   have S2:=hS.ext hE
   have hFk2:=zjv O2 p _ P op o2 hPo hF2 (by omega) hPp
   obtain⟨u2,v2,hV2⟩:=zhy P o2
   rw [hV2,hsm]at hFk2
   have lu2:=zg u2
   have lv2:=zg v2
   simp (disch:=first|omega|(simp only [lens,z6,zi,z7,zg,z8,zj,zh,zu,lQt,lQd,List.length_replicate];first|done|omega)) only [go_sem,q5,q7,q9,q20,q21]
   repeat' (first|apply zs_|apply zb_|apply zc_|apply zt_ rfl|apply zf_ rfl|(apply zd_ rfl<;>intro ht<;>try omega)|((first|apply zr_|apply zk_|apply ze_|apply zq_|(apply callW.mk_pu;(first|exact(fun _=>hFk2)))|(apply callW.za;(first|exact(hFk2)))|(apply zG<;>intro ht));all_goals try simp (disch:=first|omega|(simp only [lens,z6,zi,z7,zg,z8,zj,zh,zu,lQt,lQd,List.length_replicate];first|done|omega)) only [go_sem,q5,q7,q9,q20,q21,lu2,lv2]))
   have E3:Ext O2 (O2++ [some [hdrC u2],some [hdrC v2]]):=⟨_,rfl⟩
   have S3:=S2.ext E3
   have hSa:=zto _ p pa _ _ P A op oa (hPo.ext E3) S3.p (by omega) (by omega)
   rw [decide_eq_true hns]at hSa
   generalize O2++ [some [hdrC u2],some [hdrC v2]]=O3 at*
   have hww:(w !=w)=false:=by simp
   repeat' (first|apply zs_|apply zb_|apply zc_|apply zt_ rfl|apply zf_ rfl|(apply zd_ rfl<;>intro ht<;>try omega)|((first|apply zr_|apply zk_|apply ze_|apply zq_|(apply callW.mk_pu;(first|exact(fun _=>hSa)))|(apply callW.za;(first|exact(hSa)))|(apply zG<;>intro ht));all_goals try simp (disch:=first|omega|(simp only [lens,z6,zi,z7,zg,z8,zj,zh,zu,lQt,lQd,List.length_replicate];first|done|omega)) only [go_sem,q5,q7,q9,q20,q21,hww]))
   exact⟨t-1,by omega,i+1,by omega,S3,by simp⟩
  ·have hi':¬(i:Int)<n:=by omega
   repeat' (first|apply zs_|apply zb_|apply zc_|apply zt_ rfl|apply zf_ rfl|(apply zd_ rfl<;>intro ht<;>try omega)|((first|apply zr_|apply zk_|apply ze_|apply zq_|(apply callW.mk_pu;(first|exact(fun _=>zby _)))|(apply callW.za;(first|exact(zby _)))|(apply zG<;>intro ht));all_goals try simp (disch:=first|omega|(simp only [lens,z6,zi,z7,zg,z8,zj,zh,zu,lQt,lQd,List.length_replicate];first|done|omega)) only [go_sem,q5,q7,q9,q20,q21,hi']))
   exact DownV.pure (τ:=[]) (news:=_) hw z2e
attribute [local irreducible] zbh
theorem znu(hw:Wf ([]:Store).length [])(h2:2<=n)(h8:n<=8)(hS:CaS O PS [] A c pa o1 oa)(hB:LB (z19 (keyL logC)) n (n-2) PS A)(q5:J 5=.int .i64 n)(q7:J 7=.ptr c 0 0)(q9:J 9=.ptr pa 0 0):
  zW TC 136 0 zbi (endQ 0 [.t 4] (.bool true) []) J O:=by
 have e0:(n:Int)-2=((n-2:Nat):Int):=by omega
 unfold zbi
 repeat' (first|apply zs_|apply zb_|apply zc_|apply zt_ rfl|apply zf_ rfl|(apply zd_ rfl<;>intro ht<;>try omega)|((first|apply zr_|apply zk_|apply ze_|apply zq_|(apply zG<;>intro ht));all_goals try simp (disch:=first|omega|(simp only [lens,z6,zi,z7,zg,z8,zj,zh,zu,lQt,lQd,List.length_replicate];first|done|omega)) only [go_sem,q5,q7,q9,e0]))
 refine zW.loop (fun t J O'=>∃(i:Nat) (PS:List (List Hdr)) (o1:List Nat),t=i/\ i<n/\ CaS O' PS [] A c pa o1 oa/\ LB (z19 (keyL logC)) n i PS A/\ J 5=.int .i64 n/\ J 7=.ptr c 0 0/\ J 9=.ptr pa 0 0/\ J 15=.int .i64 i) (n-2) ?_ ?_
 ·exact⟨n-2,PS,o1,rfl,by omega,hS,hB,by simp (disch:=first|omega|(simp only [lens,z6,zi,z7,zg,z8,zj,zh,zu,lQt,lQd,List.length_replicate];first|done|omega)) only [go_sem,q5],by simp (disch:=first|omega|(simp only [lens,z6,zi,z7,zg,z8,zj,zh,zu,lQt,lQd,List.length_replicate];first|done|omega)) only [go_sem,q7],by simp (disch:=first|omega|(simp only [lens,z6,zi,z7,zg,z8,zj,zh,zu,lQt,lQd,List.length_replicate];first|done|omega)) only [go_sem,q9],by simp (disch:=first|omega|(simp only [lens,z6,zi,z7,zg,z8,zj,zh,zu,lQt,lQd,List.length_replicate];first|done|omega)) only [go_sem,q5,e0];try rfl⟩
 ·clear hS hB q5 q7 q9
  rintro t J O' ⟨i,PS,o1,hti,hin,hS,hB,q5,q7,q9,q15⟩
  by_cases hi:0<i
  ·have hi':(i:Int)>0:=by omega
   have e1:(i:Int)-1=((i-1:Nat):Int):=by omega
   have hC:=zag hS.c hB.m.ok (by have:=hB.m.ln;omega) (i:Int) ((i-1:Nat):Int)
   obtain⟨m1,_⟩:=zdl (key:=z19 (keyL logC)) (PS:=PS) (i:=i) (k:=i-1) (by have:=hB.m.ln;omega) (by have:=hB.m.ln;omega) (by omega)
   rw [m1]at hC
   have hB2:=hB.step hi hin
   repeat' (first|apply zs_|apply zb_|apply zc_|apply zt_ rfl|apply zf_ rfl|(apply zd_ rfl<;>intro ht<;>try omega)|((first|apply zr_|apply zk_|apply ze_|apply zq_|(apply zG<;>intro ht));all_goals try simp (disch:=first|omega|(simp only [lens,z6,zi,z7,zg,z8,zj,zh,zu,lQt,lQd,List.length_replicate];first|done|omega)) only [go_sem,q5,q7,q9,q15,hi',e1]))
   refine callW.mkP (caps:=[]) hC (CirP.is ploc_is z3q hS.c _ (zdk ..)) ?_
   rintro v O2 ⟨rfl,o2,C1,f1⟩
   have S2:=hS.circ f1 C1
   simp (disch:=first|omega|(simp only [lens,z6,zi,z7,zg,z8,zj,zh,zu,lQt,lQd,List.length_replicate];first|done|omega)) only [go_sem,q5,q7,q9,q15,e1]
   repeat' (first|apply zs_|apply zb_|apply zc_|apply zt_ rfl|apply zf_ rfl|(apply zd_ rfl<;>intro ht<;>try omega)|((first|apply zr_|apply zk_|apply ze_|apply zq_|(apply zG<;>intro ht));all_goals try simp (disch:=first|omega|(simp only [lens,z6,zi,z7,zg,z8,zj,zh,zu,lQt,lQd,List.length_replicate];first|done|omega)) only [go_sem,q5,q7,q9,q15,e1]))
   exact⟨i-1,by omega,i-1,_,o2,rfl,by omega,S2,hB2,by simp⟩
  ·obtain rfl:i=0:=by omega
   repeat' (first|apply zs_|apply zb_|apply zc_|apply zt_ rfl|apply zf_ rfl|(apply zd_ rfl<;>intro ht<;>try omega)|((first|apply zr_|apply zk_|apply ze_|apply zq_|(apply zG<;>intro ht));all_goals try simp (disch:=first|omega|(simp only [lens,z6,zi,z7,zg,z8,zj,zh,zu,lQt,lQd,List.length_replicate];first|done|omega)) only [go_sem,q5,q7,q9,q15]))
   exact ca_end hw h2 h8 hS hB (by simp (disch:=first|omega|(simp only [lens,z6,zi,z7,zg,z8,zj,zh,zu,lQt,lQd,List.length_replicate];first|done|omega)) only [go_sem,q5]) (by simp (disch:=first|omega|(simp only [lens,z6,zi,z7,zg,z8,zj,zh,zu,lQt,lQd,List.length_replicate];first|done|omega)) only [go_sem,q7]) (by simp (disch:=first|omega|(simp only [lens,z6,zi,z7,zg,z8,zj,zh,zu,lQt,lQd,List.length_replicate];first|done|omega)) only [go_sem,q9])
attribute [local irreducible] zbi
theorem znw{k:Nat}(hw:Wf ([]:Store).length [])(h2:2<=n)(h8:n<=8)(hS:CaS O PS [] A c pa o1 oa)(hA:LA (z19 (keyL logC)) n k PS A)(q5:J 5=.int .i64 n)(q7:J 7=.ptr c 0 0)(q9:J 9=.ptr pa 0 0):
  zW TC 136 0 zbj (endQ 0 [.t 4] (.bool true) []) J O:=by
 obtain⟨P0,hP0⟩:∃P,P=PS:=⟨_,rfl⟩
 unfold zbj
 repeat' (first|apply zs_|apply zb_|apply zc_|apply zt_ rfl|apply zf_ rfl|(apply zd_ rfl<;>intro ht<;>try omega)|((first|apply zr_|apply zk_|apply ze_|apply zq_|(apply zG<;>intro ht));all_goals try simp (disch:=first|omega|(simp only [lens,z6,zi,z7,zg,z8,zj,zh,zu,lQt,lQd,List.length_replicate];first|done|omega)) only [go_sem,q5,q7,q9]))
 refine zW.loop (fun t J O'=>∃(i:Nat) (PS:List (List Hdr)) (o1:List Nat),t+i=n/\ 1<=i/\ CaS O' PS [] A c pa o1 oa/\ LF (z19 (keyL logC)) n i P0 PS A/\ J 5=.int .i64 n/\ J 7=.ptr c 0 0/\ J 9=.ptr pa 0 0/\ J 12=.int .i64 i) (n-1) ?_ ?_
 ·exact⟨1,PS,o1,by omega,by omega,hS,by rw [hP0];exact hA.start,by simp (disch:=first|omega|(simp only [lens,z6,zi,z7,zg,z8,zj,zh,zu,lQt,lQd,List.length_replicate];first|done|omega)) only [go_sem,q5],by simp (disch:=first|omega|(simp only [lens,z6,zi,z7,zg,z8,zj,zh,zu,lQt,lQd,List.length_replicate];first|done|omega)) only [go_sem,q7],by simp (disch:=first|omega|(simp only [lens,z6,zi,z7,zg,z8,zj,zh,zu,lQt,lQd,List.length_replicate];first|done|omega)) only [go_sem,q9],by simp (disch:=first|omega|(simp only [lens,z6,zi,z7,zg,z8,zj,zh,zu,lQt,lQd,List.length_replicate];first|done|omega)) only [go_sem];try rfl⟩
 ·subst hP0
  clear hS q5 q7 q9
  rintro t J O' ⟨i,PS,o1,ht,hi1,hS,hF,q5,q7,q9,q12⟩
  by_cases hi:i<n
  ·have hi':(i:Int)<n:=by omega
   have e1:(i:Int)-1=((i-1:Nat):Int):=by omega
   have hC:=zag hS.c hF.m.ok (by have:=hF.m.ln;omega) ((i-1:Nat):Int) (i:Int)
   obtain⟨m1,_⟩:=zdl (key:=z19 (keyL logC)) (PS:=PS) (i:=i-1) (k:=i) (by have:=hF.m.ln;omega) (by have:=hF.m.ln;omega) (by omega)
   rw [m1]at hC
   have hF2:=hF.step hi1 hi
   repeat' (first|apply zs_|apply zb_|apply zc_|apply zt_ rfl|apply zf_ rfl|(apply zd_ rfl<;>intro ht<;>try omega)|((first|apply zr_|apply zk_|apply ze_|apply zq_|(apply zG<;>intro ht));all_goals try simp (disch:=first|omega|(simp only [lens,z6,zi,z7,zg,z8,zj,zh,zu,lQt,lQd,List.length_replicate];first|done|omega)) only [go_sem,q5,q7,q9,q12,hi',e1]))
   refine callW.mkP (caps:=[]) hC (CirP.is ploc_is z3q hS.c _ (zdk ..)) ?_
   rintro v O2 ⟨rfl,o2,C1,f1⟩
   have S2:=hS.circ f1 C1
   simp (disch:=first|omega|(simp only [lens,z6,zi,z7,zg,z8,zj,zh,zu,lQt,lQd,List.length_replicate];first|done|omega)) only [go_sem,q5,q7,q9,q12,e1]
   repeat' (first|apply zs_|apply zb_|apply zc_|apply zt_ rfl|apply zf_ rfl|(apply zd_ rfl<;>intro ht<;>try omega)|((first|apply zr_|apply zk_|apply ze_|apply zq_|(apply zG<;>intro ht));all_goals try simp (disch:=first|omega|(simp only [lens,z6,zi,z7,zg,z8,zj,zh,zu,lQt,lQd,List.length_replicate];first|done|omega)) only [go_sem,q5,q7,q9,q12,e1]))
   exact⟨t-1,by omega,i+1,_,o2,by omega,by omega,S2,hF2,by simp⟩
  ·obtain rfl:i=n:=by omega
   have hi':¬(i:Int)<i:=by omega
   repeat' (first|apply zs_|apply zb_|apply zc_|apply zt_ rfl|apply zf_ rfl|(apply zd_ rfl<;>intro ht<;>try omega)|((first|apply zr_|apply zk_|apply ze_|apply zq_|(apply zG<;>intro ht));all_goals try simp (disch:=first|omega|(simp only [lens,z6,zi,z7,zg,z8,zj,zh,zu,lQt,lQd,List.length_replicate];first|done|omega)) only [go_sem,q5,q7,q9,q12,hi']))
   exact znu hw h2 h8 hS (hF.turn h2 hA) (by simp (disch:=first|omega|(simp only [lens,z6,zi,z7,zg,z8,zj,zh,zu,lQt,lQd,List.length_replicate];first|done|omega)) only [go_sem,q5]) (by simp (disch:=first|omega|(simp only [lens,z6,zi,z7,zg,z8,zj,zh,zu,lQt,lQd,List.length_replicate];first|done|omega)) only [go_sem,q7]) (by simp (disch:=first|omega|(simp only [lens,z6,zi,z7,zg,z8,zj,zh,zu,lQt,lQd,List.length_replicate];first|done|omega)) only [go_sem,q9])
attribute [local irreducible] zbj zbg
theorem znx{L:List Sn}{nd:Nat}{x:AV}(hw:Wf ([]:Store).length [])(hL:∀s ∈ L,SnOk s)(hLl:L.length<=16)(hxs:SlV 4 (sns L) x)(hnd:nd<256)(hn:n=2+nd%7)(hS:CaS O (List.replicate n []) [] [] c pa o1 oa)
  (q0:J 0=.int .u8 nd) (q1:J 1=x) (q5:J 5=.int .i64 n) (q6:J 6=.ptr 0 0 0) (q7:J 7=.ptr c 0 0) (q9:J 9=.ptr pa 0 0):
  zW TC 136 0 zbk (endQ 0 [.t 4] (.bool true) []) J O:=by
 have r1:=hxs.len
 rw [zu]at r1
 unfold z1k at r1
 unfold zbk
 repeat' (first|apply zs_|apply zb_|apply zc_|apply zt_ rfl|apply zf_ rfl|(apply zd_ rfl<;>intro ht<;>try omega)|((first|apply zr_|apply zk_|apply ze_|apply zq_|(apply zG<;>intro ht));all_goals try simp (disch:=first|omega|(simp only [lens,z6,zi,z7,zg,z8,zj,zh,zu,lQt,lQd,List.length_replicate];first|done|omega)) only [go_sem,q0,q1,q5,q6,q7,q9]))
 refine zW.loop (fun t J O'=>∃(i:Nat) (PS:List (List Hdr)) (A:List Hdr) (o1 oa:List Nat),t+i=L.length/\ CaS O' PS [] A c pa o1 oa/\ LA (z19 (keyL logC)) n i PS A/\ J 0=.int .u8 nd/\ J 1=x/\ J 5=.int .i64 n/\ J 6=.ptr 0 0 0/\ J 7=.ptr c 0 0/\ J 9=.ptr pa 0 0/\ J 10=.int .i64 i) L.length ?_ ?_
 ·exact⟨0,_,_,o1,oa,by omega,hS,LA.nil _ n,by simp (disch:=first|omega|(simp only [lens,z6,zi,z7,zg,z8,zj,zh,zu,lQt,lQd,List.length_replicate];first|done|omega)) only [go_sem,q0],by simp (disch:=first|omega|(simp only [lens,z6,zi,z7,zg,z8,zj,zh,zu,lQt,lQd,List.length_replicate];first|done|omega)) only [go_sem,q1],by simp (disch:=first|omega|(simp only [lens,z6,zi,z7,zg,z8,zj,zh,zu,lQt,lQd,List.length_replicate];first|done|omega)) only [go_sem,q5],by simp (disch:=first|omega|(simp only [lens,z6,zi,z7,zg,z8,zj,zh,zu,lQt,lQd,List.length_replicate];first|done|omega)) only [go_sem,q6],by simp (disch:=first|omega|(simp only [lens,z6,zi,z7,zg,z8,zj,zh,zu,lQt,lQd,List.length_replicate];first|done|omega)) only [go_sem,q7],by simp (disch:=first|omega|(simp only [lens,z6,zi,z7,zg,z8,zj,zh,zu,lQt,lQd,List.length_replicate];first|done|omega)) only [go_sem,q9],by simp (disch:=first|omega|(simp only [lens,z6,zi,z7,zg,z8,zj,zh,zu,lQt,lQd,List.length_replicate];first|done|omega)) only [go_sem];try rfl⟩
 ·clear hS q0 q1 q5 q6 q7 q9
  rintro t J O' ⟨i,PS,A,o1,oa,ht,hS,hA,q0,q1,q5,q6,q7,q9,q10⟩
  by_cases hi:i<L.length
  ·obtain⟨ex,rfl⟩:=hxs.vsl (by rw [zu];omega)
   have hb:=fun J' Q q0 q1 q5 q6 q7 q9 q10 hQ=>znv (J:=J') (Q:=Q) (ex:=ex) hL hLl hnd hn hi hS hA q0 q1 q5 q6 q7 q9 q10 hQ
   repeat' (first|apply zs_|apply zb_|apply zc_|apply zt_ rfl|apply zf_ rfl|(apply zd_ rfl<;>intro ht<;>try omega)|((first|apply zr_|apply zk_|apply ze_|apply zq_|(apply zG<;>intro ht));all_goals try simp (disch:=first|omega|(simp only [lens,z6,zi,z7,zg,z8,zj,zh,zu,lQt,lQd,List.length_replicate];first|done|omega)) only [go_sem,q0,q1,q5,q6,q7,q9,q10,r1]))
   refine hb _ _ ?_ ?_ ?_ ?_ ?_ ?_ ?_ ?_
   ·simp (disch:=first|omega|(simp only [lens,z6,zi,z7,zg,z8,zj,zh,zu,lQt,lQd,List.length_replicate];first|done|omega)) only [go_sem,q0]
   ·simp (disch:=first|omega|(simp only [lens,z6,zi,z7,zg,z8,zj,zh,zu,lQt,lQd,List.length_replicate];first|done|omega)) only [go_sem,q1]
   ·simp (disch:=first|omega|(simp only [lens,z6,zi,z7,zg,z8,zj,zh,zu,lQt,lQd,List.length_replicate];first|done|omega)) only [go_sem,q5]
   ·simp (disch:=first|omega|(simp only [lens,z6,zi,z7,zg,z8,zj,zh,zu,lQt,lQd,List.length_replicate];first|done|omega)) only [go_sem,q6]
   ·simp (disch:=first|omega|(simp only [lens,z6,zi,z7,zg,z8,zj,zh,zu,lQt,lQd,List.length_replicate];first|done|omega)) only [go_sem,q7]
   ·simp (disch:=first|omega|(simp only [lens,z6,zi,z7,zg,z8,zj,zh,zu,lQt,lQd,List.length_replicate];first|done|omega)) only [go_sem,q9]
   ·simp (disch:=first|omega|(simp only [lens,z6,zi,z7,zg,z8,zj,zh,zu,lQt,lQd,List.length_replicate];first|done|omega)) only [go_sem,q10]
   intro J2 O2 PS2 A2 o2 oa2 S2 A2' q0 q1 q5 q6 q7 q9 q10
   show zW TC 136 0 _ _ _ _
   repeat' (first|apply zs_|apply zb_|apply zc_|apply zt_ rfl|apply zf_ rfl|(apply zd_ rfl<;>intro ht<;>try omega)|((first|apply zr_|apply zk_|apply ze_|apply zq_|(apply zG<;>intro ht));all_goals try simp (disch:=first|omega|(simp only [lens,z6,zi,z7,zg,z8,zj,zh,zu,lQt,lQd,List.length_replicate];first|done|omega)) only [go_sem,q0,q1,q5,q6,q7,q9,q10]))
   exact⟨t-1,by omega,i+1,PS2,A2,o2,oa2,by omega,S2,A2',by simp⟩
  ·have hi':¬(i:Int)<L.length:=by omega
   repeat' (first|apply zs_|apply zb_|apply zc_|apply zt_ rfl|apply zf_ rfl|(apply zd_ rfl<;>intro ht<;>try omega)|((first|apply zr_|apply zk_|apply ze_|apply zq_|(apply zG<;>intro ht));all_goals try simp (disch:=first|omega|(simp only [lens,z6,zi,z7,zg,z8,zj,zh,zu,lQt,lQd,List.length_replicate];first|done|omega)) only [go_sem,q0,q1,q5,q6,q7,q9,q10,r1,hi']))
   exact znw hw (by omega) (by omega) hS hA (by simp (disch:=first|omega|(simp only [lens,z6,zi,z7,zg,z8,zj,zh,zu,lQt,lQd,List.length_replicate];first|done|omega)) only [go_sem,q5]) (by simp (disch:=first|omega|(simp only [lens,z6,zi,z7,zg,z8,zj,zh,zu,lQt,lQd,List.length_replicate];first|done|omega)) only [go_sem,q7]) (by simp (disch:=first|omega|(simp only [lens,z6,zi,z7,zg,z8,zj,zh,zu,lQt,lQd,List.length_replicate];first|done|omega)) only [go_sem,q9])
end
attribute [local irreducible] zbk
theorem zlx(nd:Nat)(hnd:nd<256)(L:List Sn)(hL:∀s ∈ L,SnOk s)(hLl:L.length<=maxLen)(x:AV)(hxs:SlV 4 (sns L) x):ACallsTo TC 6 [.int .u8 nd,x] [] (.bool true) []:=by
 have hm:maxLen<9223372036854775808:=by decide
 have r1:=hxs.len
 rw [zu]at r1
 unfold z1k at r1
 have hNew:=fun O=>ziu O [108,111,103] (by simp)
 rw [show ([108,111,103]:List UInt8)=logC from rfl]at hNew
 refine ACallsTo.of_body q2hok (by simp) fun hw _=> ?_
 by_cases c1:16<L.length
 ·have c1':(L.length:Int)>16:=by omega
  repeat' (first|apply zs_|apply zb_|apply zc_|apply zt_ rfl|apply zf_ rfl|(apply zd_ rfl<;>intro ht<;>try omega)|((first|apply zr_|apply zk_|apply ze_|apply zq_|(apply callW.mk_pu;(first|exact(fun _=>zby _)))|(apply callW.za;(first|exact(zby _)))|(apply zG<;>intro ht));all_goals try simp (disch:=first|omega|(simp only [lens,z6,zi,z7,zg,z8,zj,zh,zu,lQt,lQd,List.length_replicate];first|done|omega)) only [go_sem,r1,c1']))
  exact DownV.pure (τ:=[]) hw z2e
 have c1':¬(L.length:Int)>16:=by omega
 have hlog:([108,111,103]:List UInt8)=logC:=rfl
 have em:(nd:Int)%7=((nd%7:Nat):Int):=by omega
 obtain⟨n,hn⟩:∃n:Nat,n=2+nd%7:=⟨_,rfl⟩
 have en:(2:Int)+((nd%7:Nat):Int)=(n:Int):=by omega
 have hlt:nd%7<7:=Nat.mod_lt _ (by omega)
 repeat' (first|apply zs_|apply zb_|apply zc_|apply zt_ rfl|apply zf_ rfl|(apply zd_ rfl<;>intro ht<;>try omega)|((first|apply zr_|apply zk_|apply ze_|apply zq_|(apply callW.mk_pu;(first|exact(fun _=>hNew _)))|(apply callW.za;(first|exact(hNew _)))|(apply zG<;>intro ht));all_goals try simp (disch:=first|omega|(simp only [lens,z6,zi,z7,zg,z8,zj,zh,zu,lQt,lQd,List.length_replicate];first|done|omega)) only [go_sem,r1,c1',hlog,em,en]))
 try simp only [List.nil_append,List.length_nil]
 have hRt:=zff [some [z1n true logC (keyL logC)]] 0 logC (keyL logC) rfl (z39 logC)
 repeat' (first|apply zs_|apply zb_|apply zc_|apply zt_ rfl|apply zf_ rfl|(apply zd_ rfl<;>intro ht<;>try omega)|((first|apply zr_|apply zk_|apply ze_|apply zq_|(apply callW.mk_pu;(first|exact(fun _=>hRt)))|(apply callW.za;(first|exact(hRt)))|(apply zG<;>intro ht));all_goals try simp (disch:=first|omega|(simp only [lens,z6,zi,z7,zg,z8,zj,zh,zu,lQt,lQd,List.length_replicate];first|done|omega)) only [go_sem]))
 refine callW.mkP (caps:=[]) (zh3 _ _ n (by omega) (by omega)) (CNewP.is _ _ n (by omega)) ?_
 rintro v O1 ⟨c,own,rfl,hE1,S1,hge⟩
 obtain⟨y1,hy1⟩:=hE1
 have g0:O1[0]? =some (some [z1n true logC (keyL logC)]):=by rw [hy1];rfl
 have hRt1:=zff O1 0 logC (keyL logC) g0 (z39 logC)
 have hE:=zju O1 (z19 (keyL logC))
 simp (disch:=first|omega|(simp only [lens,z6,zi,z7,zg,z8,zj,zh,zu,lQt,lQd,List.length_replicate];first|done|omega)) only [go_sem]
 repeat' (first|apply zs_|apply zb_|apply zc_|apply zt_ rfl|apply zf_ rfl|(apply zd_ rfl<;>intro ht<;>try omega)|((first|apply zr_|apply zk_|apply ze_|apply zq_|(apply callW.mk_pu;(first|exact(fun _=>hRt1)))|(apply callW.za;(first|exact(hRt1)))|(apply zG<;>intro ht));all_goals try simp (disch:=first|omega|(simp only [lens,z6,zi,z7,zg,z8,zj,zh,zu,lQt,lQd,List.length_replicate];first|done|omega)) only [go_sem]))
 refine callW.mkP (caps:=[]) hE ⟨_,_,rfl,rfl⟩ ?_
 rintro v O2 ⟨rfl,rfl⟩
 have E2:Ext O1 (O1++ [some [hc (z19 (keyL logC))],some [poC (z19 (keyL logC)) .nilsl]]):=⟨_,rfl⟩
 have hlt2:=S1.lt ploc_is
 have hS:CaS (O1++ [some [hc (z19 (keyL logC))],some [poC (z19 (keyL logC)) .nilsl]]) (List.replicate n []) [] [] c (O1.length+1) own [O1.length+1]:=
  ⟨S1.ext ploc_is E2,⟨.nilsl,none,rfl,by rw [z1a (by omega),Nat.add_sub_cancel_left];rfl,.inl ⟨rfl,rfl,rfl⟩,by simp⟩,fun j hj h2=>by have:=hlt2 j hj;have:=List.mem_singleton.1 h2;omega,by rw [gapp (slen g0)];exact g0,fun e=>by have:=hge 0 e;simp at this,by simp⟩
 simp (disch:=first|omega|(simp only [lens,z6,zi,z7,zg,z8,zj,zh,zu,lQt,lQd,List.length_replicate];first|done|omega)) only [go_sem]
 repeat' (first|apply zs_|apply zb_|apply zc_|apply zt_ rfl|apply zf_ rfl|(apply zd_ rfl<;>intro ht<;>try omega)|((first|apply zr_|apply zk_|apply ze_|apply zq_|(apply zG<;>intro ht));all_goals try simp (disch:=first|omega|(simp only [lens,z6,zi,z7,zg,z8,zj,zh,zu,lQt,lQd,List.length_replicate];first|done|omega)) only [go_sem]))
 exact znx hw hL (by omega) hxs hnd hn hS (by simp (disch:=first|omega|(simp only [lens,z6,zi,z7,zg,z8,zj,zh,zu,lQt,lQd,List.length_replicate];first|done|omega)) only [go_sem]) (by simp (disch:=first|omega|(simp only [lens,z6,zi,z7,zg,z8,zj,zh,zu,lQt,lQd,List.length_replicate];first|done|omega)) only [go_sem]) (by simp (disch:=first|omega|(simp only [lens,z6,zi,z7,zg,z8,zj,zh,zu,lQt,lQd,List.length_replicate];first|done|omega)) only [go_sem,em,en]) (by simp (disch:=first|omega|(simp only [lens,z6,zi,z7,zg,z8,zj,zh,zu,lQt,lQd,List.length_replicate];first|done|omega)) only [go_sem]) (by simp (disch:=first|omega|(simp only [lens,z6,zi,z7,zg,z8,zj,zh,zu,lQt,lQd,List.length_replicate];first|done|omega)) only [go_sem]) (by simp (disch:=first|omega|(simp only [lens,z6,zi,z7,zg,z8,zj,zh,zu,lQt,lQd,List.length_replicate];first|done|omega)) only [go_sem])
theorem CircleAll_law(avs:List AV)(h:z84 [.int .u8,.sl 4 z9d] avs):ACallsTo TC 6 avs [] (.bool true) []:=by
 simp only [z84]at h
 obtain⟨_,_,rfl,h2,x,_,rfl,h0,rfl⟩:=h
 obtain⟨L,hxs,hLl,hL⟩:=zvh (by simpa only [Sh]using h0)
 simp only [Sh,ShC]at h2
 obtain⟨c,e,c0,c1⟩:=h2
 cases e
 simp only [IntKind.min,IntKind.max,IntKind.signed,IntKind.bits]at c0 c1
 simp at c0 c1
 obtain⟨c,rfl⟩:∃k:Nat,c=k:=⟨c.toNat,by omega⟩
 exact zlx c (by omega) L hL hLl x hxs
end
end Am
end Go.Proofs.YtcdcmgjnbjoajaaGreatDoor
section
/- What a law with the laid tables of sha begins with. -/
namespace Go.Proofs.YtcdcmgjnbjoajaaGreatDoor.LawDoor
open Go.ChangeShapes Go.WideShapes Go.ChangeAt Go.RowKit
theorem own:ownKnob Tryz.prog.godebug=none:=by kernel_rfl
theorem zr8:laidOutB Tryz.prog=true:=by kernel_rfl
def z8y:List (String × DataW Unit):=[("speculum/sha.first",Rows.laid_speculum_sha_first),("speculum/sha.rounds",Rows.laid_speculum_sha_rounds)]
set_option maxRecDepth 100000
theorem zog(os:Os)(args:Array Value):laidMetH Tryz.prog z8y ((World.doorLaid Tryz.prog 400 os).forCall (fun _ _=>0) ⟨#[],args,[]⟩).memory:=
 laidMetH_of_parts3 (fuel:=8) (laidMet_of_run' 8 (by kernel_rfl) (by kernel_rfl)) (by kernel_rfl) (by kernel_rfl)
theorem rel_of{W:World}(h:laidMetH Tryz.prog z8y W):Am.Rel Am.TC [] [] W:=by
 rw [MakeChecks.laidMetH_plain _ _ _ (by kernel_rfl)]at h
 obtain⟨ps,⟨g0,t0,cs0,f0,p0,q0,hg0,ht0,hv0,hd0,⟨g1,t1,cs1,f1,p1,q1,hg1,ht1,hv1,hd1,_,_⟩,_⟩,_,_⟩:=h
 have v0:=Am.vp_of_var (P:=Tryz.prog) (n:= "speculum/sha.first") (g:=0) (t:=178) (e:=177) (m:=8) (k:=.u32) Am.shaFirst (by kernel_rfl) (by kernel_rfl) (by kernel_rfl) (by kernel_rfl) (by kernel_rfl) (by kernel_rfl) hg0 ht0 hv0 hd0
 have v1:=Am.vp_of_var (P:=Tryz.prog) (n:= "speculum/sha.rounds") (g:=1) (t:=183) (e:=177) (m:=64) (k:=.u32) Am.shaRounds (by kernel_rfl) (by kernel_rfl) (by kernel_rfl) (by kernel_rfl) (by kernel_rfl) (by kernel_rfl) hg1 ht1 hv1 hd1
 refine⟨rfl,fun r o h=>by simp at h,fun r h=>by simp at h,fun r r' pl pl' h=>by simp at h,fun g cs h=> ?_⟩
 simp only [Am.TC]at h
 split at h
 ·rename_i hg;subst hg;cases h;exact v0
 ·split at h
  ·rename_i hg;subst hg;cases h;exact v1
  ·cases h
end Go.Proofs.YtcdcmgjnbjoajaaGreatDoor.LawDoor
end
