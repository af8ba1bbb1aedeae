import Derived.Test.YtfldkpghggbdkaaGreatDoorK5b283e7f8
import Derived.Test.YtfldkpghggbdkaaGreatDoorK298eb74a9
import Derived.Test.YtfldkpghggbdkaaGreatDoorRows
import Derived.Test.YtfldkpghggbdkaaGreatDoorCards
import Derived.Test.YtfldkpghggbdkaaGreatDoorTie
import Derived.ProofKit
import Derived.LaidMore
import Derived.OpenShut
import Derived.Stop.Joined
import Derived.SevenTiedAt
import Derived.MakeChecks
set_option linter.unusedSimpArgs false
set_option linter.unusedVariables false
open Nat (reduceEqDiff reduceAdd reduceMul reduceSub reduceLeDiff)
open Int (reduceToNat reducePow)
open Nat renaming reduceEqDiff -> nQ1, reduceBEq -> nQ2, reduceAdd -> nQ3, reduceMul -> nQ4, reduceSub -> nQ5, reduceLeDiff -> nQ6
open Int renaming reduceToNat -> nQ7, reducePow -> nQ8
open List renaming length_reverse -> lQr, length_map -> lQm, length_take -> lQt, length_drop -> lQd, length_set -> lQs
set_option maxHeartbeats 16000000
attribute [local go_sem_proc] Nat.reduceEqDiff Nat.reduceBEq Nat.reduceAdd Nat.reduceMul Nat.reduceSub Nat.reduceLeDiff Int.reduceToNat Int.reducePow
namespace Go.Proofs.YtfldkpghggbdkaaGreatDoor
namespace Am
section
theorem zsa{x:AV}(h:ShC (.sl 1 .str) [x]):∃(L:List (List UInt8)),SlV 1 (strs L) x/\ L.length<=maxLen/\ ∀s ∈ L,s.length<=maxLen:=by
 simp only [ShC]at h
 rcases h with h| ⟨es,h,hl,_,h2⟩
 ·cases h
  exact⟨[],.inl ⟨rfl,rfl⟩,Nat.zero_le _,by simp⟩
 ·cases h
  have:∀es:List (List AV),(∀x ∈ es,∃s:List UInt8,x=[.str s]/\ s.length<=maxLen)->∃L,es=strs L/\ ∀s ∈ L,s.length<=maxLen:=by
   intro es
   induction es with
   |nil=>intro _;exact⟨[],rfl,by simp⟩
   |cons e es ih=>
    intro h
    obtain⟨s,rfl,hs⟩:=h e (by simp)
    obtain⟨L,rfl,hL⟩:=ih fun x hx=>h x (by simp [hx])
    exact⟨s::L,rfl,fun t ht=>by rcases List.mem_cons.1 ht with rfl|h1;exact hs;exact hL t h1⟩
  obtain⟨L,rfl,hL⟩:=this es h2
  exact⟨L,.inr ⟨false,rfl⟩,by rwa [zh]at hl,hL⟩
theorem zox{L:List (List UInt8)}(h:z3r L=false):∀s ∈ L,s.length<=200:=by
 unfold z3r at h
 simp only [Bool.or_eq_false_iff,decide_eq_false_iff_not,List.any_eq_false,decide_eq_true_eq]at h
 exact fun s hs=>by have:=h.1 s hs;omega
theorem zpr{L:List (List UInt8)}{k:Nat}(h:∀s ∈ L,s.length<=200):∀s ∈ othL L k,s.length<1000000:=by
 intro s hs
 unfold othL at hs
 rcases List.mem_or_eq_of_mem_set hs with h1|rfl
 ·have:=h s h1;omega
 ·rw [List.length_append,List.length_take];simp;omega
attribute [local irreducible] ACallsTo ACallsP zdg zdh zdi
theorem zjs(L:List (List UInt8))(part:Nat)(l:List Act33)(x y:AV)(hx:SlV 1 (strs L) x)(hLl:L.length<=maxLen)(hp:part<=255)(hy:SlV 5 (l.map ac33) y)(hok:∀a ∈ l,a.Ok)(hzl:l.length<=maxLen):ACallsTo TC 3 [x,.int .u8 part,y] [] (.bool true) []:=by
 have r1:=hy.len
 rw [List.length_map]at r1
 unfold z1h at r1
 have hG:=fun J=>zk3 J l 15 y hy (by unfold maxLen at hzl;omega) hok
 refine ACallsTo.of_body q2aok (by simp) fun hw _=> ?_
 by_cases hb:badL L
 ·have hLb:=fun J=>zk7 J L x hx part (by unfold maxLen at hLl;omega) hb
  repeat' (first|apply zs_|apply zb_|apply zc_|apply zt_ rfl|apply zf_ rfl|(refine zd_ rfl ?_ ?_<;>intro ht<;>try omega)|((first|apply zr_|apply zk_|apply ze_|apply zq_|(apply callW.mk_pu;(first|exact(fun _=>hLb _)|exact(fun _=>z7j _)))|(apply callW.za;(first|exact(hLb _)|exact(z7j _)))|(apply zG<;>intro ht));all_goals try simp (disch:=first|omega|(simp only [lens,z6,z7,lQr,lQm,lQt,lQd,zh,zi];first|done|omega)) only [go_sem]))
  exact DownV.pure (τ:=[]) hw (zz _ rfl)
 have b2:¬L.length<2:=fun h=>hb (.inl h)
 have b14:¬14<L.length:=fun h=>hb (.inr (.inl h))
 have bg:z3r L=false:=by cases h:z3r L with|true=>exact absurd (.inr (.inr h)) hb|false=>rfl
 have hL200:=zox bg
 obtain⟨ex,rfl⟩:=hx.vsl (by rw [zh];omega)
 repeat' (first|apply zs_|apply zb_|apply zc_|apply zt_ rfl|apply zf_ rfl|(refine zd_ rfl ?_ ?_<;>intro ht<;>try omega)|((first|apply zr_|apply zk_|apply ze_|apply zq_|(apply zG<;>intro ht));all_goals try simp (disch:=first|omega|(simp only [lens,z6,z7,lQr,lQm,lQt,lQd,zh,zi];first|done|omega)) only [go_sem]))
 refine callW.mkP (caps:=[]) (zk8 [] L ex part hp hL200 hb) (LogsP.is [] L _ _) ?_
 rintro v J2 ⟨t,q,rfl,_,_,_,ht,hq⟩
 have hOl:=zps L (part%L.length)
 have hOs:=zpr (k:=part%L.length) hL200
 generalize othL L (part%L.length)=O at*
 cases hgreat:z4t l 15 with
 |true=>
  rw [hgreat]at hG
  simp (disch:=first|omega|(simp only [lens,z6,z7,lQr,lQm,lQt,lQd,zh,zi];first|done|omega)) only [go_sem]
  repeat' (first|apply zs_|apply zb_|apply zc_|apply zt_ rfl|apply zf_ rfl|(refine zd_ rfl ?_ ?_<;>intro ht<;>try omega)|((first|apply zr_|apply zk_|apply ze_|apply zq_|(apply callW.mk_pu;(first|exact(fun _=>hG _)|exact(fun _=>z7j _)))|(apply callW.za;(first|exact(hG _)|exact(z7j _)))|(apply zG<;>intro ht));all_goals try simp (disch:=first|omega|(simp only [lens,z6,z7,lQr,lQm,lQt,lQd,zh,zi];first|done|omega)) only [go_sem]))
  exact DownV.pure (τ:=[]) hw (zz _ rfl)
 |false=>
  rw [hgreat]at hG
  obtain⟨hl15,hl300⟩:=zn3 hgreat
  have dt:=slen ht
  have dq:=slen hq
  have hLv:=fun J=>zbw J L (.vsl 1 (strs L) ex) (.inr ⟨ex,rfl⟩) (fun s hs=>by have:=hL200 s hs;omega) (by omega)
  have hRt:=fun y=>zjc (J2++y) t logS (keyL logS) (by rw [gapp dt];exact ht) (z36 _)
  have hNew:=fun J=>zfm J (z1b (keyL logS))
  have l1:=zh L
  have l2:=zi L
  generalize z1b (keyL logS)=key at*
  generalize lvs L=lv at*
  simp (disch:=first|omega|(simp only [lens,z6,z7,lQr,lQm,lQt,lQd,zh,zi];first|done|omega)) only [go_sem]
  repeat' (first|apply zs_|apply zb_|apply zc_|apply zt_ rfl|apply zf_ rfl|(refine zd_ rfl ?_ ?_<;>intro ht<;>try omega)|((first|apply zr_|apply zk_|apply ze_|apply zq_|(apply callW.mk_pu;(first|exact(fun _=>hG _)|exact(fun _=>hLv _)|exact(fun _=>hRt _)|exact(fun _=>hNew _)))|(apply callW.za;(first|exact(hG _)|exact(hLv _)|exact(hRt _)|exact(hNew _)))|(apply zG<;>intro ht));all_goals try simp (disch:=first|omega|(simp only [lens,z6,z7,lQr,lQm,lQt,lQd,zh,zi];first|done|omega)) only [go_sem]))
  generalize hσ1:J2++ [some [[AV.ptr t 0 0,AV.vsl 1 (strs L) ex]],some [[AV.ptr t 0 0,AV.sl q 0 L.length none 1]],some [hc key],some [adC key false 0 zeroH 0 [] AV.nilsl AV.nilp],some [hc key++ [AV.nilsl,AV.nilsl]]]=J1
  have n0:J1.length=J2.length+5:=by rw [<-hσ1];simp
  have g7:J1[J2.length]? =some (some [[.ptr t 0 0,.vsl 1 (strs L) ex]]):=by rw [<-hσ1,z1j (by omega),Nat.sub_self];rfl
  have g8:J1[J2.length+1]? =some (some [[.ptr t 0 0,.sl q 0 L.length none 1]]):=by rw [<-hσ1,z1j (by omega),Nat.add_sub_cancel_left];rfl
  have gt:J1[t]? =some (some [z1n true logS (keyL logS)]):=by rw [<-hσ1,gapp dt];exact ht
  have gq:J1[q]? =some (some (strs O)):=by rw [<-hσ1,gapp dq];exact hq
  have gA:AudIs J1 (J2.length+2+1) key none none [J2.length+2+1]:=⟨.nilp,[],rfl,by rw [<-hσ1,z1j (by omega),show J2.length+2+1-J2.length=3 by omega];rfl,.inl ⟨rfl,rfl,rfl⟩⟩
  have gR:RaIs J1 (J2.length+4) key none none:=by
   unfold RaIs
   rw [<-hσ1,z1j (by omega),Nat.add_sub_cancel_left];rfl
  have P0:PlInv J1 (J2.length+2+1) (J2.length+4) key J1:=⟨none,none,[J2.length+2+1],gA,gR,by simp,Nat.le_refl _,fun j hj h1 h2=>⟨by simpa using h1,rfl⟩,by simp,by simp⟩
  have nt:t ≠ J2.length+2+1/\ t ≠ J2.length+4:=by omega
  have nq:q ≠ J2.length+2+1/\ q ≠ J2.length+4:=by omega
  have n7:J2.length ≠ J2.length+2+1/\ J2.length ≠ J2.length+4:=by omega
  have n8:J2.length+1 ≠ J2.length+2+1/\ J2.length+1 ≠ J2.length+4:=by omega
  have hne:hr lv ≠ []:=fun e=>by have:=congrArg List.length e;rw [z7]at this;simp only [List.length_nil]at this;omega
  have hlv:z15 32 (hr lv)= .vsl 32 (hr lv) false:=by unfold z15;rw [if_neg hne]
  clear hσ1 n0 gA gR hRt hNew hLv hG dt dq ht hq
  generalize J2.length+2+1=p at*
  generalize J2.length+4=r at*
  generalize J2.length+1=b at*
  generalize J2.length=a at*
  refine zW.loop (fun m ρ J'=>∃i nw:Nat,m+i=l.length/\ PlInv J1 p r key J'/\ ρ 0= .vsl 1 (strs L) ex/\ ρ 2=y/\ ρ 7= .ptr a 0 0/\ ρ 8= .ptr b 0 0/\ ρ 10= .vsl 32 (hr lv) false/\ ρ 11= .ptr p 0 0/\ ρ 12= .ptr r 0 0/\ ρ 13= .int .i64 nw/\ ρ 14= .int .i64 i) l.length ?_ ?_
  ·exact⟨0,0,by omega,P0,by simp (disch:=first|omega|(simp only [lens,z6,z7,lQr,lQm,lQt,lQd,zh,zi];first|done|omega)) only [go_sem],by simp (disch:=first|omega|(simp only [lens,z6,z7,lQr,lQm,lQt,lQd,zh,zi];first|done|omega)) only [go_sem],by simp (disch:=first|omega|(simp only [lens,z6,z7,lQr,lQm,lQt,lQd,zh,zi];first|done|omega)) only [go_sem],by simp (disch:=first|omega|(simp only [lens,z6,z7,lQr,lQm,lQt,lQd,zh,zi];first|done|omega)) only [go_sem],by simp (disch:=first|omega|(simp only [lens,z6,z7,lQr,lQm,lQt,lQd,zh,zi];first|done|omega)) only [go_sem,hlv],by simp (disch:=first|omega|(simp only [lens,z6,z7,lQr,lQm,lQt,lQd,zh,zi];first|done|omega)) only [go_sem],by simp (disch:=first|omega|(simp only [lens,z6,z7,lQr,lQm,lQt,lQd,zh,zi];first|done|omega)) only [go_sem],by simp (disch:=first|omega|(simp only [lens,z6,z7,lQr,lQm,lQt,lQd,zh,zi];first|done|omega)) only [go_sem];rfl,by simp (disch:=first|omega|(simp only [lens,z6,z7,lQr,lQm,lQt,lQd,zh,zi];first|done|omega)) only [go_sem];rfl⟩
  ·rintro m ρ J' ⟨i,nw,hm,hI,q0,q2,q7,q8,q10,q11,q12,q13,q14⟩
   by_cases hi:i<l.length
   ·obtain⟨ex2,rfl⟩:=hy.vsl (by rw [List.length_map];omega)
    obtain⟨c,hal⟩:∃c,l[i]? =some c:=⟨_,List.getElem?_eq_getElem hi⟩
    have ham:c ∈ l:=List.mem_of_getElem? hal
    have hg:=zfc hal
    obtain⟨k0,k1,k2,k3⟩:=hok c ham
    obtain⟨k4,k5⟩:=hl300 c ham
    obtain⟨ck,cz,ci,ct,cR,cy⟩:=c
    simp only at hg k0 k1 k2 k3 k4 k5
    have hkd:(ck:Int)%11=((ck%11:Nat):Int):=by omega
    by_cases hk:ck%11<7
    ·have G7:=hI.get g7 n7.1 n7.2
     have G8:=hI.get g8 n8.1 n8.2
     have Gt:=hI.get gt nt.1 nt.2
     have Gq:=hI.get gq nq.1 nq.2
     obtain⟨h,P,z,z1,z2,z3,z4,hW⟩:=zsw L O ex ck cz ci ct cR cy nw k1 k2 k3 k0 (by omega) (by omega) (by omega) hOl (fun s hs=>by have:=hL200 s hs;omega) hOs
     have hW':=fun y0=>hW (J'++y0) t q (by rw [gapp (slen Gt)];exact Gt) (by rw [gapp (slen Gq)];exact Gq)
     have hk7:((ck%11:Nat):Int)<7:=by omega
     have hl36:=zg h
     have ha36:=z3s h
     have D7:=slen G7
     have D8:=slen G8
     generalize ck%11=kk at*
     repeat' (first|apply zs_|apply zb_|apply zc_|apply zt_ rfl|apply zf_ rfl|(refine zd_ rfl ?_ ?_<;>intro ht<;>try omega)|((first|apply zr_|apply zk_|apply ze_|apply zq_|(apply callW.mk_pu;(first|exact(fun _=>hW' _)))|(apply callW.za;(first|exact(hW' _)))|(apply zG<;>intro ht));all_goals try simp (disch:=first|omega|(simp only [lens,z6,z7,lQr,lQm,lQt,lQd,zh,zi];first|done|omega)) only [go_sem,q0,q2,q7,q8,q10,q11,q12,q13,q14,hg,r1,hkd,hk7,G7,G8,hl36,ha36]))
     refine zq3 _ J1 J' _ p r (J'.length+1) key h P z hI ?_ (by omega) z1 z2 ⟨z3,z4⟩ _ ?_ ?_ ?_ ?_ ?_
     ·rw [z1j (by omega),Nat.add_sub_cancel_left];rfl
     ·simp (disch:=first|omega|(simp only [lens,z6,z7,lQr,lQm,lQt,lQd,zh,zi];first|done|omega)) only [go_sem,q11]
     ·simp (disch:=first|omega|(simp only [lens,z6,z7,lQr,lQm,lQt,lQd,zh,zi];first|done|omega)) only [go_sem,q12]
     ·simp (disch:=first|omega|(simp only [lens,z6,z7,lQr,lQm,lQt,lQd,zh,zi];first|done|omega)) only [go_sem]
     ·simp (disch:=first|omega|(simp only [lens,z6,z7,lQr,lQm,lQt,lQd,zh,zi];first|done|omega)) only [go_sem]
     ·intro ρ2 J3 hI3 p0 p2 p7 p8 p10 p11 p12 p13 p14
      replace p0:ρ2 0=AV.vsl 1 (strs L) ex:=p0.trans (by simp (disch:=first|omega|(simp only [lens,z6,z7,lQr,lQm,lQt,lQd,zh,zi];first|done|omega)) only [go_sem,q0])
      replace p2:ρ2 2=AV.vsl 5 (l.map ac33) ex2:=p2.trans (by simp (disch:=first|omega|(simp only [lens,z6,z7,lQr,lQm,lQt,lQd,zh,zi];first|done|omega)) only [go_sem,q2])
      replace p7:ρ2 7=AV.ptr a 0 0:=p7.trans (by simp (disch:=first|omega|(simp only [lens,z6,z7,lQr,lQm,lQt,lQd,zh,zi];first|done|omega)) only [go_sem,q7])
      replace p8:ρ2 8=AV.ptr b 0 0:=p8.trans (by simp (disch:=first|omega|(simp only [lens,z6,z7,lQr,lQm,lQt,lQd,zh,zi];first|done|omega)) only [go_sem,q8])
      replace p10:ρ2 10=AV.vsl 32 (hr lv) false:=p10.trans (by simp (disch:=first|omega|(simp only [lens,z6,z7,lQr,lQm,lQt,lQd,zh,zi];first|done|omega)) only [go_sem,q10])
      replace p11:ρ2 11=AV.ptr p 0 0:=p11.trans (by simp (disch:=first|omega|(simp only [lens,z6,z7,lQr,lQm,lQt,lQd,zh,zi];first|done|omega)) only [go_sem,q11])
      replace p12:ρ2 12=AV.ptr r 0 0:=p12.trans (by simp (disch:=first|omega|(simp only [lens,z6,z7,lQr,lQm,lQt,lQd,zh,zi];first|done|omega)) only [go_sem,q12])
      replace p13:ρ2 13=AV.int .i64 nw:=p13.trans (by simp (disch:=first|omega|(simp only [lens,z6,z7,lQr,lQm,lQt,lQd,zh,zi];first|done|omega)) only [go_sem,q13])
      replace p14:ρ2 14=AV.int .i64 i:=p14.trans (by simp (disch:=first|omega|(simp only [lens,z6,z7,lQr,lQm,lQt,lQd,zh,zi];first|done|omega)) only [go_sem,q14])
      refine zav _ J1 _ p r nw key hI3 ρ2 p11 p12 p13 ?_
      intro ρ3 J4 nw2 hI4 t13 t0 t2 t7 t8 t10 t11 t12 t14
      replace t0:=t0.trans p0
      replace t2:=t2.trans p2
      replace t7:=t7.trans p7
      replace t8:=t8.trans p8
      replace t10:=t10.trans p10
      replace t11:=t11.trans p11
      replace t12:=t12.trans p12
      replace t14:=t14.trans p14
      show zW TC 193 0 (.reg z97) _ ρ3 J4
      repeat' (first|apply zs_|apply zb_|apply zc_|apply zt_ rfl|apply zf_ rfl|(refine zd_ rfl ?_ ?_<;>intro ht<;>try omega)|((first|apply zr_|apply zk_|apply ze_|apply zq_|(apply zG<;>intro ht));all_goals try simp (disch:=first|omega|(simp only [lens,z6,z7,lQr,lQm,lQt,lQd,zh,zi];first|done|omega)) only [go_sem,t14]))
      exact⟨m-1,by omega,i+1,nw2,by omega,hI4,by simp (disch:=first|omega|(simp only [lens,z6,z7,lQr,lQm,lQt,lQd,zh,zi];first|done|omega)) only [go_sem,t0],by simp (disch:=first|omega|(simp only [lens,z6,z7,lQr,lQm,lQt,lQd,zh,zi];first|done|omega)) only [go_sem,t2],by simp (disch:=first|omega|(simp only [lens,z6,z7,lQr,lQm,lQt,lQd,zh,zi];first|done|omega)) only [go_sem,t7],by simp (disch:=first|omega|(simp only [lens,z6,z7,lQr,lQm,lQt,lQd,zh,zi];first|done|omega)) only [go_sem,t8],by simp (disch:=first|omega|(simp only [lens,z6,z7,lQr,lQm,lQt,lQd,zh,zi];first|done|omega)) only [go_sem,t10],by simp (disch:=first|omega|(simp only [lens,z6,z7,lQr,lQm,lQt,lQd,zh,zi];first|done|omega)) only [go_sem,t11],by simp (disch:=first|omega|(simp only [lens,z6,z7,lQr,lQm,lQt,lQd,zh,zi];first|done|omega)) only [go_sem,t12],by simp (disch:=first|omega|(simp only [lens,z6,z7,lQr,lQm,lQt,lQd,zh,zi];first|done|omega)) only [go_sem,t13],by simp⟩
    ·have hk7:¬((ck%11:Nat):Int)<7:=by omega
     have hj:(ci:Int)%L.length=((ci%L.length:Nat):Int):=by omega
     have hjl:ci%L.length<L.length:=Nat.mod_lt _ (by omega)
     have hL0:¬(L.length:Int)=0:=by omega
     have hLn:¬L.length=0:=by omega
     have hmin:(if (L.length:Int)<nw then(L.length:Int)else nw)=((min nw L.length:Nat):Int):=by split<;>omega
     have hmax:(if (1:Int)>((min nw L.length:Nat):Int)then(1:Int)else((min nw L.length:Nat):Int))=((max (min nw L.length) 1:Nat):Int):=by split<;>omega
     have hwl:max (min nw L.length) 1<=lv.length:=by omega
     have hgs:=z9m hjl
     rw [show L.getD (ci%L.length) []=stD L (ci%L.length)from rfl]at hgs
     have hs2:=hL200 _ (z9k hjl)
     generalize max (min nw L.length) 1=w at*
     generalize min nw L.length=mn at*
     generalize ci%L.length=j at*
     generalize stD L j=sj at*
     obtain⟨P,e,hPl,hPath⟩:=zqn (lv.take w) j (by rw [List.length_take];omega)
     have hN:∃(N:Store) (V:AV),RdSl (J'++([some [[.int .u8 ck,.int .u8 cz,.int .u8 ci,.str ct,cy]]]++N)) 32 (hr P) V/\ ∀t,ACallsTo TC 15 [.vsl 32 (hr (lv.take w)) t,.int .i64 j] (J'++ [some [[.int .u8 ck,.int .u8 cz,.int .u8 ci,.str ct,cy]]]) (.tup [V,.int .i64 e]) (J'++([some [[.int .u8 ck,.int .u8 cz,.int .u8 ci,.str ct,cy]]]++N)):=by
      have ho:=z4e (J'++ [some [[.int .u8 ck,.int .u8 cz,.int .u8 ci,.str ct,cy]]]) 32 (hr P)
      obtain⟨N,hN⟩:=ho.ext
      rw [List.append_assoc]at hN
      have hr2:=ho.rd
      rw [hN]at hr2
      refine⟨N,_,hr2,fun t=> ?_⟩
      rw [<-hN]
      exact hPath _ t
     obtain⟨N,V,hV,hPa⟩:=hN
     have hI2:PlInv J1 p r key (J'++([some [[.int .u8 ck,.int .u8 cz,.int .u8 ci,.str ct,cy]]]++N)):=hI.app _
     simp only [List.cons_append,List.nil_append]at hV hPa hI2
     by_cases h9:ck%11=9
     ·have e9:((ck%11:Nat):Int)=9:=by omega
      have e10:¬((9:Nat):Int)=10:=by omega
      rw [h9]at hkd hk7
      repeat' (first|apply zs_|apply zb_|apply zc_|apply zt_ rfl|apply zf_ rfl|(refine zd_ rfl ?_ ?_<;>intro ht<;>try omega)|((first|apply zr_|apply zk_|apply ze_|apply zq_|(apply callW.mk_pu;(first|exact(fun _=>hPa _)))|(apply callW.za;(first|exact(hPa _)))|(apply zG<;>intro ht));all_goals try simp (disch:=first|omega|(simp only [lens,z6,z7,lQr,lQm,lQt,lQd,zh,zi];first|done|omega)) only [go_sem,q0,q2,q7,q8,q10,q11,q12,q13,q14,hg,r1,hkd,hk7,hj,hL0,hLn,hmin,hmax,hwl,hgs,l1,e10]))
      refine zdb _ J1 _ p r key (j:Int) ct P V hI2 hV (by omega) (by omega) (by omega) _ ?_ ?_ ?_ ?_ ?_ ?_
      ·simp (disch:=first|omega|(simp only [lens,z6,z7,lQr,lQm,lQt,lQd,zh,zi];first|done|omega)) only [go_sem,q11]
      ·simp (disch:=first|omega|(simp only [lens,z6,z7,lQr,lQm,lQt,lQd,zh,zi];first|done|omega)) only [go_sem,q12]
      ·simp (disch:=first|omega|(simp only [lens,z6,z7,lQr,lQm,lQt,lQd,zh,zi];first|done|omega)) only [go_sem]
      ·simp (disch:=first|omega|(simp only [lens,z6,z7,lQr,lQm,lQt,lQd,zh,zi];first|done|omega)) only [go_sem]
      ·simp (disch:=first|omega|(simp only [lens,z6,z7,lQr,lQm,lQt,lQd,zh,zi];first|done|omega)) only [go_sem]
      ·intro ρ2 p0 p2 p7 p8 p10 p11 p12 p13 p14
       replace p0:ρ2 0=AV.vsl 1 (strs L) ex:=p0.trans (by simp (disch:=first|omega|(simp only [lens,z6,z7,lQr,lQm,lQt,lQd,zh,zi];first|done|omega)) only [go_sem,q0])
       replace p2:ρ2 2=AV.vsl 5 (l.map ac33) ex2:=p2.trans (by simp (disch:=first|omega|(simp only [lens,z6,z7,lQr,lQm,lQt,lQd,zh,zi];first|done|omega)) only [go_sem,q2])
       replace p7:ρ2 7=AV.ptr a 0 0:=p7.trans (by simp (disch:=first|omega|(simp only [lens,z6,z7,lQr,lQm,lQt,lQd,zh,zi];first|done|omega)) only [go_sem,q7])
       replace p8:ρ2 8=AV.ptr b 0 0:=p8.trans (by simp (disch:=first|omega|(simp only [lens,z6,z7,lQr,lQm,lQt,lQd,zh,zi];first|done|omega)) only [go_sem,q8])
       replace p10:ρ2 10=AV.vsl 32 (hr lv) false:=p10.trans (by simp (disch:=first|omega|(simp only [lens,z6,z7,lQr,lQm,lQt,lQd,zh,zi];first|done|omega)) only [go_sem,q10])
       replace p11:ρ2 11=AV.ptr p 0 0:=p11.trans (by simp (disch:=first|omega|(simp only [lens,z6,z7,lQr,lQm,lQt,lQd,zh,zi];first|done|omega)) only [go_sem,q11])
       replace p12:ρ2 12=AV.ptr r 0 0:=p12.trans (by simp (disch:=first|omega|(simp only [lens,z6,z7,lQr,lQm,lQt,lQd,zh,zi];first|done|omega)) only [go_sem,q12])
       replace p13:ρ2 13=AV.int .i64 nw:=p13.trans (by simp (disch:=first|omega|(simp only [lens,z6,z7,lQr,lQm,lQt,lQd,zh,zi];first|done|omega)) only [go_sem,q13])
       replace p14:ρ2 14=AV.int .i64 i:=p14.trans (by simp (disch:=first|omega|(simp only [lens,z6,z7,lQr,lQm,lQt,lQd,zh,zi];first|done|omega)) only [go_sem,q14])
       refine zav _ J1 _ p r nw key hI2 ρ2 p11 p12 p13 ?_
       intro ρ3 J4 nw2 hI4 t13 t0 t2 t7 t8 t10 t11 t12 t14
       replace t0:=t0.trans p0
       replace t2:=t2.trans p2
       replace t7:=t7.trans p7
       replace t8:=t8.trans p8
       replace t10:=t10.trans p10
       replace t11:=t11.trans p11
       replace t12:=t12.trans p12
       replace t14:=t14.trans p14
       show zW TC 193 0 (.reg z97) _ ρ3 J4
       repeat' (first|apply zs_|apply zb_|apply zc_|apply zt_ rfl|apply zf_ rfl|(refine zd_ rfl ?_ ?_<;>intro ht<;>try omega)|((first|apply zr_|apply zk_|apply ze_|apply zq_|(apply zG<;>intro ht));all_goals try simp (disch:=first|omega|(simp only [lens,z6,z7,lQr,lQm,lQt,lQd,zh,zi];first|done|omega)) only [go_sem,t14]))
       exact⟨m-1,by omega,i+1,nw2,by omega,hI4,by simp (disch:=first|omega|(simp only [lens,z6,z7,lQr,lQm,lQt,lQd,zh,zi];first|done|omega)) only [go_sem,t0],by simp (disch:=first|omega|(simp only [lens,z6,z7,lQr,lQm,lQt,lQd,zh,zi];first|done|omega)) only [go_sem,t2],by simp (disch:=first|omega|(simp only [lens,z6,z7,lQr,lQm,lQt,lQd,zh,zi];first|done|omega)) only [go_sem,t7],by simp (disch:=first|omega|(simp only [lens,z6,z7,lQr,lQm,lQt,lQd,zh,zi];first|done|omega)) only [go_sem,t8],by simp (disch:=first|omega|(simp only [lens,z6,z7,lQr,lQm,lQt,lQd,zh,zi];first|done|omega)) only [go_sem,t10],by simp (disch:=first|omega|(simp only [lens,z6,z7,lQr,lQm,lQt,lQd,zh,zi];first|done|omega)) only [go_sem,t11],by simp (disch:=first|omega|(simp only [lens,z6,z7,lQr,lQm,lQt,lQd,zh,zi];first|done|omega)) only [go_sem,t12],by simp (disch:=first|omega|(simp only [lens,z6,z7,lQr,lQm,lQt,lQd,zh,zi];first|done|omega)) only [go_sem,t13],by simp⟩
     by_cases h10:ck%11=10
     ·have e9:¬((10:Nat):Int)=9:=by omega
      rw [h10]at hkd hk7
      have hV2:RdSl (J'++some [[.int .u8 ck,.int .u8 cz,.int .u8 ci,.str ct,cy]]::N) 32 (hr cR) cy:= .of k0
      repeat' (first|apply zs_|apply zb_|apply zc_|apply zt_ rfl|apply zf_ rfl|(refine zd_ rfl ?_ ?_<;>intro ht<;>try omega)|((first|apply zr_|apply zk_|apply ze_|apply zq_|(apply callW.mk_pu;(first|exact(fun _=>hPa _)))|(apply callW.za;(first|exact(hPa _)))|(apply zG<;>intro ht));all_goals try simp (disch:=first|omega|(simp only [lens,z6,z7,lQr,lQm,lQt,lQd,zh,zi];first|done|omega)) only [go_sem,q0,q2,q7,q8,q10,q11,q12,q13,q14,hg,r1,hkd,hk7,hj,hL0,hLn,hmin,hmax,hwl,hgs,l1,e9]))
      refine zdb _ J1 _ p r key ((ci:Int)-3) ct cR cy hI2 hV2 (by omega) (by omega) (by omega) _ ?_ ?_ ?_ ?_ ?_ ?_
      ·simp (disch:=first|omega|(simp only [lens,z6,z7,lQr,lQm,lQt,lQd,zh,zi];first|done|omega)) only [go_sem,q11]
      ·simp (disch:=first|omega|(simp only [lens,z6,z7,lQr,lQm,lQt,lQd,zh,zi];first|done|omega)) only [go_sem,q12]
      ·simp (disch:=first|omega|(simp only [lens,z6,z7,lQr,lQm,lQt,lQd,zh,zi];first|done|omega)) only [go_sem]
      ·simp (disch:=first|omega|(simp only [lens,z6,z7,lQr,lQm,lQt,lQd,zh,zi];first|done|omega)) only [go_sem]
      ·simp (disch:=first|omega|(simp only [lens,z6,z7,lQr,lQm,lQt,lQd,zh,zi];first|done|omega)) only [go_sem]
      ·intro ρ2 p0 p2 p7 p8 p10 p11 p12 p13 p14
       replace p0:ρ2 0=AV.vsl 1 (strs L) ex:=p0.trans (by simp (disch:=first|omega|(simp only [lens,z6,z7,lQr,lQm,lQt,lQd,zh,zi];first|done|omega)) only [go_sem,q0])
       replace p2:ρ2 2=AV.vsl 5 (l.map ac33) ex2:=p2.trans (by simp (disch:=first|omega|(simp only [lens,z6,z7,lQr,lQm,lQt,lQd,zh,zi];first|done|omega)) only [go_sem,q2])
       replace p7:ρ2 7=AV.ptr a 0 0:=p7.trans (by simp (disch:=first|omega|(simp only [lens,z6,z7,lQr,lQm,lQt,lQd,zh,zi];first|done|omega)) only [go_sem,q7])
       replace p8:ρ2 8=AV.ptr b 0 0:=p8.trans (by simp (disch:=first|omega|(simp only [lens,z6,z7,lQr,lQm,lQt,lQd,zh,zi];first|done|omega)) only [go_sem,q8])
       replace p10:ρ2 10=AV.vsl 32 (hr lv) false:=p10.trans (by simp (disch:=first|omega|(simp only [lens,z6,z7,lQr,lQm,lQt,lQd,zh,zi];first|done|omega)) only [go_sem,q10])
       replace p11:ρ2 11=AV.ptr p 0 0:=p11.trans (by simp (disch:=first|omega|(simp only [lens,z6,z7,lQr,lQm,lQt,lQd,zh,zi];first|done|omega)) only [go_sem,q11])
       replace p12:ρ2 12=AV.ptr r 0 0:=p12.trans (by simp (disch:=first|omega|(simp only [lens,z6,z7,lQr,lQm,lQt,lQd,zh,zi];first|done|omega)) only [go_sem,q12])
       replace p13:ρ2 13=AV.int .i64 nw:=p13.trans (by simp (disch:=first|omega|(simp only [lens,z6,z7,lQr,lQm,lQt,lQd,zh,zi];first|done|omega)) only [go_sem,q13])
       replace p14:ρ2 14=AV.int .i64 i:=p14.trans (by simp (disch:=first|omega|(simp only [lens,z6,z7,lQr,lQm,lQt,lQd,zh,zi];first|done|omega)) only [go_sem,q14])
       refine zav _ J1 _ p r nw key hI2 ρ2 p11 p12 p13 ?_
       intro ρ3 J4 nw2 hI4 t13 t0 t2 t7 t8 t10 t11 t12 t14
       replace t0:=t0.trans p0
       replace t2:=t2.trans p2
       replace t7:=t7.trans p7
       replace t8:=t8.trans p8
       replace t10:=t10.trans p10
       replace t11:=t11.trans p11
       replace t12:=t12.trans p12
       replace t14:=t14.trans p14
       show zW TC 193 0 (.reg z97) _ ρ3 J4
       repeat' (first|apply zs_|apply zb_|apply zc_|apply zt_ rfl|apply zf_ rfl|(refine zd_ rfl ?_ ?_<;>intro ht<;>try omega)|((first|apply zr_|apply zk_|apply ze_|apply zq_|(apply zG<;>intro ht));all_goals try simp (disch:=first|omega|(simp only [lens,z6,z7,lQr,lQm,lQt,lQd,zh,zi];first|done|omega)) only [go_sem,t14]))
       exact⟨m-1,by omega,i+1,nw2,by omega,hI4,by simp (disch:=first|omega|(simp only [lens,z6,z7,lQr,lQm,lQt,lQd,zh,zi];first|done|omega)) only [go_sem,t0],by simp (disch:=first|omega|(simp only [lens,z6,z7,lQr,lQm,lQt,lQd,zh,zi];first|done|omega)) only [go_sem,t2],by simp (disch:=first|omega|(simp only [lens,z6,z7,lQr,lQm,lQt,lQd,zh,zi];first|done|omega)) only [go_sem,t7],by simp (disch:=first|omega|(simp only [lens,z6,z7,lQr,lQm,lQt,lQd,zh,zi];first|done|omega)) only [go_sem,t8],by simp (disch:=first|omega|(simp only [lens,z6,z7,lQr,lQm,lQt,lQd,zh,zi];first|done|omega)) only [go_sem,t10],by simp (disch:=first|omega|(simp only [lens,z6,z7,lQr,lQm,lQt,lQd,zh,zi];first|done|omega)) only [go_sem,t11],by simp (disch:=first|omega|(simp only [lens,z6,z7,lQr,lQm,lQt,lQd,zh,zi];first|done|omega)) only [go_sem,t12],by simp (disch:=first|omega|(simp only [lens,z6,z7,lQr,lQm,lQt,lQd,zh,zi];first|done|omega)) only [go_sem,t13],by simp⟩
     ·have e9:¬((ck%11:Nat):Int)=9:=by omega
      have e10:¬((ck%11:Nat):Int)=10:=by omega
      generalize ck%11=kk at*
      repeat' (first|apply zs_|apply zb_|apply zc_|apply zt_ rfl|apply zf_ rfl|(refine zd_ rfl ?_ ?_<;>intro ht<;>try omega)|((first|apply zr_|apply zk_|apply ze_|apply zq_|(apply callW.mk_pu;(first|exact(fun _=>hPa _)))|(apply callW.za;(first|exact(hPa _)))|(apply zG<;>intro ht));all_goals try simp (disch:=first|omega|(simp only [lens,z6,z7,lQr,lQm,lQt,lQd,zh,zi];first|done|omega)) only [go_sem,q0,q2,q7,q8,q10,q11,q12,q13,q14,hg,r1,hkd,hk7,hj,hL0,hLn,hmin,hmax,hwl,hgs,l1,e9,e10]))
      refine zdb _ J1 _ p r key (j:Int) sj P V hI2 hV (by omega) (by omega) (by omega) _ ?_ ?_ ?_ ?_ ?_ ?_
      ·simp (disch:=first|omega|(simp only [lens,z6,z7,lQr,lQm,lQt,lQd,zh,zi];first|done|omega)) only [go_sem,q11]
      ·simp (disch:=first|omega|(simp only [lens,z6,z7,lQr,lQm,lQt,lQd,zh,zi];first|done|omega)) only [go_sem,q12]
      ·simp (disch:=first|omega|(simp only [lens,z6,z7,lQr,lQm,lQt,lQd,zh,zi];first|done|omega)) only [go_sem]
      ·simp (disch:=first|omega|(simp only [lens,z6,z7,lQr,lQm,lQt,lQd,zh,zi];first|done|omega)) only [go_sem]
      ·simp (disch:=first|omega|(simp only [lens,z6,z7,lQr,lQm,lQt,lQd,zh,zi];first|done|omega)) only [go_sem]
      ·intro ρ2 p0 p2 p7 p8 p10 p11 p12 p13 p14
       replace p0:ρ2 0=AV.vsl 1 (strs L) ex:=p0.trans (by simp (disch:=first|omega|(simp only [lens,z6,z7,lQr,lQm,lQt,lQd,zh,zi];first|done|omega)) only [go_sem,q0])
       replace p2:ρ2 2=AV.vsl 5 (l.map ac33) ex2:=p2.trans (by simp (disch:=first|omega|(simp only [lens,z6,z7,lQr,lQm,lQt,lQd,zh,zi];first|done|omega)) only [go_sem,q2])
       replace p7:ρ2 7=AV.ptr a 0 0:=p7.trans (by simp (disch:=first|omega|(simp only [lens,z6,z7,lQr,lQm,lQt,lQd,zh,zi];first|done|omega)) only [go_sem,q7])
       replace p8:ρ2 8=AV.ptr b 0 0:=p8.trans (by simp (disch:=first|omega|(simp only [lens,z6,z7,lQr,lQm,lQt,lQd,zh,zi];first|done|omega)) only [go_sem,q8])
       replace p10:ρ2 10=AV.vsl 32 (hr lv) false:=p10.trans (by simp (disch:=first|omega|(simp only [lens,z6,z7,lQr,lQm,lQt,lQd,zh,zi];first|done|omega)) only [go_sem,q10])
       replace p11:ρ2 11=AV.ptr p 0 0:=p11.trans (by simp (disch:=first|omega|(simp only [lens,z6,z7,lQr,lQm,lQt,lQd,zh,zi];first|done|omega)) only [go_sem,q11])
       replace p12:ρ2 12=AV.ptr r 0 0:=p12.trans (by simp (disch:=first|omega|(simp only [lens,z6,z7,lQr,lQm,lQt,lQd,zh,zi];first|done|omega)) only [go_sem,q12])
       replace p13:ρ2 13=AV.int .i64 nw:=p13.trans (by simp (disch:=first|omega|(simp only [lens,z6,z7,lQr,lQm,lQt,lQd,zh,zi];first|done|omega)) only [go_sem,q13])
       replace p14:ρ2 14=AV.int .i64 i:=p14.trans (by simp (disch:=first|omega|(simp only [lens,z6,z7,lQr,lQm,lQt,lQd,zh,zi];first|done|omega)) only [go_sem,q14])
       refine zav _ J1 _ p r nw key hI2 ρ2 p11 p12 p13 ?_
       intro ρ3 J4 nw2 hI4 t13 t0 t2 t7 t8 t10 t11 t12 t14
       replace t0:=t0.trans p0
       replace t2:=t2.trans p2
       replace t7:=t7.trans p7
       replace t8:=t8.trans p8
       replace t10:=t10.trans p10
       replace t11:=t11.trans p11
       replace t12:=t12.trans p12
       replace t14:=t14.trans p14
       show zW TC 193 0 (.reg z97) _ ρ3 J4
       repeat' (first|apply zs_|apply zb_|apply zc_|apply zt_ rfl|apply zf_ rfl|(refine zd_ rfl ?_ ?_<;>intro ht<;>try omega)|((first|apply zr_|apply zk_|apply ze_|apply zq_|(apply zG<;>intro ht));all_goals try simp (disch:=first|omega|(simp only [lens,z6,z7,lQr,lQm,lQt,lQd,zh,zi];first|done|omega)) only [go_sem,t14]))
       exact⟨m-1,by omega,i+1,nw2,by omega,hI4,by simp (disch:=first|omega|(simp only [lens,z6,z7,lQr,lQm,lQt,lQd,zh,zi];first|done|omega)) only [go_sem,t0],by simp (disch:=first|omega|(simp only [lens,z6,z7,lQr,lQm,lQt,lQd,zh,zi];first|done|omega)) only [go_sem,t2],by simp (disch:=first|omega|(simp only [lens,z6,z7,lQr,lQm,lQt,lQd,zh,zi];first|done|omega)) only [go_sem,t7],by simp (disch:=first|omega|(simp only [lens,z6,z7,lQr,lQm,lQt,lQd,zh,zi];first|done|omega)) only [go_sem,t8],by simp (disch:=first|omega|(simp only [lens,z6,z7,lQr,lQm,lQt,lQd,zh,zi];first|done|omega)) only [go_sem,t10],by simp (disch:=first|omega|(simp only [lens,z6,z7,lQr,lQm,lQt,lQd,zh,zi];first|done|omega)) only [go_sem,t11],by simp (disch:=first|omega|(simp only [lens,z6,z7,lQr,lQm,lQt,lQd,zh,zi];first|done|omega)) only [go_sem,t12],by simp (disch:=first|omega|(simp only [lens,z6,z7,lQr,lQm,lQt,lQd,zh,zi];first|done|omega)) only [go_sem,t13],by simp⟩
   ·obtain rfl:i=l.length:=by omega
    repeat' (first|apply zs_|apply zb_|apply zc_|apply zt_ rfl|apply zf_ rfl|(refine zd_ rfl ?_ ?_<;>intro ht<;>try omega)|((first|apply zr_|apply zk_|apply ze_|apply zq_|(apply callW.mk_pu;(first|exact(fun _=>z7j _)))|(apply callW.za;(first|exact(z7j _)))|(apply zG<;>intro ht));all_goals try simp (disch:=first|omega|(simp only [lens,z6,z7,lQr,lQm,lQt,lQd,zh,zi];first|done|omega)) only [go_sem,q0,q2,q7,q8,q10,q11,q12,q13,q14,r1]))
    exact DownV.pure (τ:=[]) hw (zz _ rfl)
theorem AuditPlay_law(avs:List AV)(h:z86 [.sl 1 .str,.int .u8,.sl 5 z8d] avs):ACallsTo TC 3 avs [] (.bool true) []:=by
 simp only [z86]at h
 obtain⟨_,_,rfl,h0,_,_,rfl,h1,_,_,rfl,h2,rfl⟩:=h
 obtain⟨L,hL,hLl,_⟩:=zsa (by simpa only [Sh]using h0)
 simp only [Sh,ShC]at h1
 obtain⟨c,e,c0,c1⟩:=h1
 cases e
 simp only [IntKind.min,IntKind.max,IntKind.signed,IntKind.bits]at c0 c1
 simp at c0 c1
 obtain⟨c,rfl⟩:∃k:Nat,c=k:=⟨c.toNat,by omega⟩
 obtain⟨l,hy,hl,hok⟩:=zkr (by simpa only [Sh]using h2)
 exact zjs L c l _ _ hL hLl (by omega) hy hok hl
end
end Am
end Go.Proofs.YtfldkpghggbdkaaGreatDoor
section
/- What a law with the laid tables of sha begins with. -/
namespace Go.Proofs.YtfldkpghggbdkaaGreatDoor.LawDoor
open Go.ChangeShapes Go.WideShapes Go.ChangeAt Go.RowKit
theorem own:ownKnob Tryz.prog.godebug=none:=by kernel_rfl
theorem zof:laidOutB Tryz.prog=true:=by kernel_rfl
def z93:List (String × DataW Unit):=[("speculum/sha.first",Rows.laid_speculum_sha_first),("speculum/sha.rounds",Rows.laid_speculum_sha_rounds)]
set_option maxRecDepth 100000
theorem zmb(os:Os)(args:Array Value):laidMetH Tryz.prog z93 ((World.doorLaid Tryz.prog 400 os).forCall (fun _ _=>0) ⟨#[],args,[]⟩).memory:=
 laidMetH_of_parts3 (fuel:=8) (laidMet_of_run' 8 (by kernel_rfl) (by kernel_rfl)) (by kernel_rfl) (by kernel_rfl)
theorem rel_of{W:World}(h:laidMetH Tryz.prog z93 W):Am.Rel Am.TC [] [] W:=by
 rw [MakeChecks.laidMetH_plain _ _ _ (by kernel_rfl)]at h
 obtain⟨ps,⟨g0,t0,cs0,f0,p0,q0,hg0,ht0,hv0,hd0,⟨g1,t1,cs1,f1,p1,q1,hg1,ht1,hv1,hd1,_,_⟩,_⟩,_,_⟩:=h
 have v0:=Am.vp_of_var (P:=Tryz.prog) (n:= "speculum/sha.first") (g:=0) (t:=166) (e:=165) (m:=8) (k:= .u32) Am.shaFirst (by kernel_rfl) (by kernel_rfl) (by kernel_rfl) (by kernel_rfl) (by kernel_rfl) (by kernel_rfl) hg0 ht0 hv0 hd0
 have v1:=Am.vp_of_var (P:=Tryz.prog) (n:= "speculum/sha.rounds") (g:=1) (t:=170) (e:=165) (m:=64) (k:= .u32) Am.shaRounds (by kernel_rfl) (by kernel_rfl) (by kernel_rfl) (by kernel_rfl) (by kernel_rfl) (by kernel_rfl) hg1 ht1 hv1 hd1
 refine⟨rfl,fun r o h=>by simp at h,fun r h=>by simp at h,fun r r' pl pl' h=>by simp at h,fun g cs h=> ?_⟩
 simp only [Am.TC]at h
 split at h
 ·rename_i hg;subst hg;cases h;exact v0
 ·split at h
  ·rename_i hg;subst hg;cases h;exact v1
  ·cases h
end Go.Proofs.YtfldkpghggbdkaaGreatDoor.LawDoor
end
