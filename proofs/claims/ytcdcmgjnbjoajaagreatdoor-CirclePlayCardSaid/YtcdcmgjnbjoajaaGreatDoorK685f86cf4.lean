import Derived.Test.YtcdcmgjnbjoajaaGreatDoorK5db14e166
import Derived.Test.YtcdcmgjnbjoajaaGreatDoorK2e6d30c09
import Derived.Test.YtcdcmgjnbjoajaaGreatDoorRows
import Derived.Test.YtcdcmgjnbjoajaaGreatDoorCards
import Derived.Test.YtcdcmgjnbjoajaaGreatDoorTie
import Derived.ProofKit
import Derived.LaidMore
import Derived.OpenShut
import Derived.Stop.Joined
import Derived.SevenTiedAt
import Derived.MakeChecks
set_option linter.unusedSimpArgs false
set_option linter.unusedVariables false
open Nat (reduceEqDiff reduceAdd reduceMul reduceSub reduceLeDiff)
open Int (reduceToNat reducePow)
open Nat renaming reduceEqDiff -> nQ1, reduceBEq -> nQ2, reduceAdd -> nQ3, reduceMul -> nQ4, reduceSub -> nQ5, reduceLeDiff -> nQ6
open Int renaming reduceToNat -> nQ7, reducePow -> nQ8
open List renaming length_reverse -> lQr, length_map -> lQm, length_take -> lQt, length_drop -> lQd, length_set -> lQs
set_option maxHeartbeats 16000000
attribute [local go_sem_proc] Nat.reduceEqDiff Nat.reduceBEq Nat.reduceAdd Nat.reduceMul Nat.reduceSub Nat.reduceLeDiff Int.reduceToNat Int.reducePow
namespace Go.Proofs.YtcdcmgjnbjoajaaGreatDoor
namespace Am
variable {vs:List Value}{w w':World}{Z Z':Places}{k n i off sz r p:Nat}{C:Ctx}{cs:List AV}{t e:TypeId}{x v:AV}{a b:Int}{es ys:List (List AV)}{s seed:List UInt8}{O O' τ:Store}{f:FuncId}{J:Env}{K:Env->Store->Prop}{d sid:Option Nat}{ops:Array Oper}{ac:ACode}{rest:List (Nat × Nat × AV)}{L:List (List UInt8)}{H:List Hdr}{fd:Option (Hdr × Hdr)}{PS:List (List Hdr)}
section
def z1q(key:Hash):Nat->List Hdr->List Hdr->Nat->Nat × List Hdr
 | 0,P,_,n=>(n,P)
 |f+1,P,Q,n=>if z1a Q (hns P)=[]then(n,P)else if (z19 key P (z1a Q (hns P))).length=P.length then(n+1,z19 key P (z1a Q (hns P)))else z1q key f (z19 key P (z1a Q (hns P))) Q (n+2)
theorem zdd(key:Hash)(P:List Hdr)(q:Hdr):(addL key P q).length=if addC key P q=2 \/addC key P q=3 then P.length+1 else P.length:=by
 unfold addL
 split
 ·exact z6p P q
 ·rfl
theorem zaq(key:Hash)(l:List Hdr):∀P:List Hdr,P.length<=(z19 key P l).length:=by
 induction l with
 |nil=>intro P;exact Nat.le_refl _
 |cons q l ih=>
  intro P
  have:=ih (addL key P q)
  have h:=zdd key P q
  show P.length<=(z19 key (addL key P q) l).length
  split at h<;>omega
attribute [local irreducible] ACallsTo ACallsP
section
variable {O:Store} {c:Nat} {key:Hash} {PS:List (List Hdr)} {M:List MM} {own:List Nat}
theorem zje(h:CirS PoIs O c key PS M own)(hok:POks key PS)(i k:Nat)(hi:i<PS.length)(hk:k<PS.length)(hik:i ≠ k):
  ACallsP TC 64 [.ptr c 0 0,.int .i64 i,.int .i64 k] O (CirP PoIs O c key own (.int .i64 ((z1q key 17 (PS.getD i []) (PS.getD k []) 1).1:Nat)) (PS.set i (z1q key 17 (PS.getD i []) (PS.getD k []) 1).2) M):=by
 have hQ:=hok k hk
 have hP0:=hok i hi
 have hset:PS.set i (PS.getD i [])=PS:=by
  apply List.ext_getElem?
  intro j
  by_cases e:i=j
  ·subst e;simp [List.getD,hi]
  ·rw [List.getElem?_set_ne e]
 have hgk:∀P:List Hdr,(PS.set i P).getD k []=PS.getD k []:=fun P=>by simp [List.getD,List.getElem?_set_ne hik]
 have hgi:∀P:List Hdr,(PS.set i P).getD i []=P:=fun P=>z7o hi P
 generalize hR:z1q key 17 (PS.getD i []) (PS.getD k []) 1=R
 refine ACallsP.of_keep q43ok (by simp) ?_
 repeat' (first|apply zA rfl|(apply zd_ rfl<;>intro ht<;>try omega)|((first|apply zB rfl|(apply zG<;>intro ht))<;>try simp (disch:=first|omega|simp only [lz,lU];try omega) only [go_sem]))
 refine zW.loop (fun m J O'=>∃(P:List Hdr) (n f:Nat) (own':List Nat),m+P.length=16/\ m<f/\ n+2*m<=33/\ POk key P/\ CirS PoIs O' c key (PS.set i P) M own'/\ Fr O O' own own'/\ z1q key f P (PS.getD k []) n=R/\ J 0=.ptr c 0 0/\ J 1=.int .i64 i/\ J 2=.int .i64 k/\ J 7=.int .i64 n) (16-(PS.getD i []).length) ?_ ?_
 ·exact⟨PS.getD i [],1,17,own,by have:=hP0.len;omega,by omega,by omega,hP0,by rw [hset];exact h,⟨fun _ _ _=>rfl,fun _ h=> .inl h,Nat.le_refl _⟩,hR,by simp only [go_sem],by simp only [go_sem],by simp only [go_sem],by simp only [go_sem];try rfl⟩
 ·rintro m J O' ⟨P,n,f,own',hm,hf,hn,hP,hS,hF,hG,q0,q1,q2,q7⟩
  obtain⟨f,rfl⟩:∃g,f=g+1:=⟨f-1,by omega⟩
  unfold z1q at hG
  have hS0:=hS
  obtain⟨Q,lk,sid,pp,ow,rfl,hC⟩:=hS
  have hlen:(PS.set i P).length=PS.length:=List.length_set ..
  have ho:=hC.obj
  have hrw:=hC.row
  rw [hlen]at ho
  have dc:=slen ho
  have dq:=slen hrw
  have hppl:pp.length=PS.length:=by rw [hC.len,hlen]
  have hppi:=z3c (pp:=pp) (i:=i) (by omega)
  have hppk:=z3c (pp:=pp) (i:=k) (by omega)
  have hpl:(pp.map fun p=>[AV.ptr p 0 0]).length=PS.length:=by rw [List.length_map,hppl]
  have hi':(i:Int)<PS.length:=by omega
  have hk':(k:Int)<PS.length:=by omega
  have hIk:=hC.pool k (by omega)
  have hIi:=hC.pool i (by omega)
  rw [hgk]at hIk
  rw [hgi]at hIi
  have hQl:=hQ.len
  have hHd:=zf9 O' (pp.getD k 0) key _ _ hIk (by omega) hQ.path
  have hKn:=zfa O' (pp.getD i 0) key _ _ hIi (by omega)
  have hMs:=zhp O' (PS.getD k []) (hns P) (zz 36 (hdrs (PS.getD k []))) (zz 33 (kn P)) (z1l _ _) (by rw [<-zbl];exact z1l _ _) (by omega) (by rw [z7r];omega) hQ.path
  have hXm:=z6w (PS.getD k []) (hns P)
  have hXv:∀q ∈ z1a (PS.getD k []) (hns P),valH q=true:=fun q hq=>(z7w hq).2.1
  generalize z1a (PS.getD k []) (hns P)=X at*
  have hsv:=z1l 36 (hdrs X)
  have r1:=hsv.len
  rw [zh]at r1
  unfold z1f at r1
  generalize zz 36 (hdrs X)=x at*
  repeat' (first|apply zA rfl|(apply zd_ rfl<;>intro ht<;>try omega)|((first|apply zB rfl|(apply callW.mk_pu;(first|exact(fun _=>hHd)|exact(fun _=>hKn)|exact(fun _=>hMs)))|(apply callW.za;(first|exact(hHd)|exact(hKn)|exact(hMs)))|(apply zG<;>intro ht))<;>try simp (disch:=first|omega|simp only [lz,lU];try omega) only [go_sem,q0,q1,q2,ho,hrw,hppi,hppk,hi',hk',r1]))
  refine zW.loop (fun m2 J O2=>∃(j:Nat) (own2:List Nat),m2+j=X.length/\ CirS PoIs O2 c key (PS.set i (z19 key P (X.take j))) M own2/\ Fr O O2 own own2/\ J 0=.ptr c 0 0/\ J 1=.int .i64 i/\ J 2=.int .i64 k/\ J 7=.int .i64 n/\ J 8=x/\ J 9=.bool (decide (P.length<(z19 key P (X.take j)).length))/\ J 32=x/\ J 33=.int .i64 X.length/\ J 34=.int .i64 j) X.length ?_ ?_
  ·exact⟨0,_,by omega,by rw [show z19 key P (X.take 0)=P from rfl];exact hS0,hF,by simp only [go_sem,q0],by simp only [go_sem,q1],by simp only [go_sem,q2],by simp only [go_sem,q7],by simp only [go_sem],by rw [show z19 key P (X.take 0)=P from rfl,decide_eq_false (by omega)];simp (disch:=first|omega|simp only [lz,lU];try omega) only [go_sem],by simp only [go_sem],by simp only [go_sem],by simp only [go_sem];try rfl⟩
  ·clear q0 q1 q2 q7 hHd hKn hMs hIk hIi hC hrw ho hppi hppk hpl dc dq hppl hS0 hF
   clear ow sid pp lk Q
   rintro m2 J O2 ⟨j,own2,hm2,hS2,hF2,q0,q1,q2,q7,q8,q9,q32,q33,q34⟩
   by_cases hj:j<X.length
   ·obtain⟨ex,rfl⟩:=hsv.vsl (by rw [zh];omega)
    have hgj:=z2w hj
    have hst:=zar (key:=key) (P:=P) hj
    have hvu:=hXv X[j] (List.getElem_mem hj)
    have hdl:=zh X
    generalize X[j]=u at*
    have hup:=zp6 hvu
    have hul:=zi u
    have ua:(hdrC u).take 36=hdrC u:=z30 u
    have hj':(j:Int)<X.length:=by omega
    obtain⟨Q,lk,sid,pp,ow,rfl,hC⟩:=hS2
    have hpok:=z50 hP (X.take j)
    have hge:=zaq key (X.take j) P
    have hstl:=zdd key (z19 key P (X.take j)) u
    rw [<-hst]at hstl
    have hlen2:(PS.set i (z19 key P (X.take j))).length=PS.length:=List.length_set ..
    have hIi:=hC.pool i (by omega)
    rw [hgi]at hIi
    have ho:=hC.obj
    have hrw:=hC.row
    rw [hlen2]at ho
    have dc:=slen ho
    have dq:=slen hrw
    have hppl:pp.length=PS.length:=by rw [hC.len,hlen2]
    have hppi:=z3c (pp:=pp) (i:=i) (by omega)
    have hpl:(pp.map fun p=>[AV.ptr p 0 0]).length=PS.length:=by rw [List.length_map,hppl]
    have E:Ext O2 (O2++ [some [hdrC u]]):=⟨_,rfl⟩
    repeat' (first|apply zA rfl|(apply zd_ rfl<;>intro ht<;>try omega)|((first|apply zB rfl|(apply zG<;>intro ht))<;>try simp (disch:=first|omega|simp only [lz,lU];try omega) only [go_sem,q0,q1,q32,q33,q34,hgj,hul,ua,hj',ho,hrw,hppi,hi']))
    have hPk:=ploc_is.keep hIi (O':=O2++ [some [hdrC u]]) fun j hj=>gapp (ploc_is.lt hIi j hj)
    have hAdd:=zf7 _ (pp.getD i 0) key _ _ u _ hPk hpok.sort hpok.len (z1l _ _) (by omega) (fun e=>zb8 e)
    rw [show sgC u.n u.r u.i u.s (zz 32 (hr u.p))=hdrC u from rfl]at hAdd
    refine callW.mkP (caps:=[]) hAdd (PoAddP.is hPk) ?_
    rintro v O3 ⟨rfl,o,f1,P1⟩
    have f2:Fr O2 O3 (ow (i+2)) o:=(Fr.ext E).trans f1
    obtain⟨h1,h2⟩:=hC.pool' ploc_is (by omega) f2 P1
    rw [List.set_set,<-hst]at h1
    have hF3:=hF2.trans h2
    have hS3:CirS PoIs O3 c key (PS.set i (z19 key P (X.take (j+1)))) M (z1v ((PS.set i (z19 key P (X.take j))).length+2) (updO ow (i+2) o)):=⟨Q,lk,sid,pp,_,by rw [List.length_set,List.length_set],h1⟩
    generalize z1v ((PS.set i (z19 key P (X.take j))).length+2) (updO ow (i+2) o)=own3 at*
    generalize addC key (z19 key P (X.take j)) u=e at*
    have hflag:∀b:Bool,decide (P.length<(z19 key P (X.take j)).length)=b->decide (P.length<(z19 key P (X.take (j+1))).length)=(b ||decide (e=2 \/e=3)):=by
     intro b hb
     subst hb
     rw [hstl]
     by_cases e1:e=2 \/e=3
     ·rw [if_pos e1,decide_eq_true e1,Bool.or_true];exact decide_eq_true (by omega)
     ·rw [if_neg e1,decide_eq_false e1,Bool.or_false]
    generalize decide (P.length<(z19 key P (X.take j)).length)=b at*
    have hfl:=hflag b rfl
    cases b
    ·by_cases e2:e=2
     ·subst e2
      simp (disch:=first|omega|simp only [lz,lU];try omega) only [go_sem]
      repeat' (first|apply zA rfl|(apply zd_ rfl<;>intro ht<;>try omega)|((first|apply zB rfl|(apply zG<;>intro ht))<;>try simp (disch:=first|omega|simp only [lz,lU];try omega) only [go_sem,q0,q1,q2,q7,q8,q9,q32,q33,q34]))
      exact⟨m2-1,by omega,j+1,own3,by omega,hS3,hF3,by rw [hfl];simp⟩
     ·by_cases e3:e=3
      ·subst e3
       simp (disch:=first|omega|simp only [lz,lU];try omega) only [go_sem]
       repeat' (first|apply zA rfl|(apply zd_ rfl<;>intro ht<;>try omega)|((first|apply zB rfl|(apply zG<;>intro ht))<;>try simp (disch:=first|omega|simp only [lz,lU];try omega) only [go_sem,q0,q1,q2,q7,q8,q9,q32,q33,q34]))
       exact⟨m2-1,by omega,j+1,own3,by omega,hS3,hF3,by rw [hfl];simp⟩
      ·have e2':(e==2)=false:=beq_eq_false_iff_ne.2 e2
       have e3':(e==3)=false:=beq_eq_false_iff_ne.2 e3
       rw [decide_eq_false (show ¬(e=2 \/e=3)by omega),Bool.or_false]at hfl
       simp (disch:=first|omega|simp only [lz,lU];try omega) only [go_sem]
       repeat' (first|apply zA rfl|(apply zd_ rfl<;>intro ht<;>try omega)|((first|apply zB rfl|(apply zG<;>intro ht))<;>try simp (disch:=first|omega|simp only [lz,lU];try omega) only [go_sem,q0,q1,q2,q7,q8,q9,q32,q33,q34,e2',e3']))
       exact⟨m2-1,by omega,j+1,own3,by omega,hS3,hF3,by rw [hfl];simp⟩
    ·rw [Bool.true_or]at hfl
     simp (disch:=first|omega|simp only [lz,lU];try omega) only [go_sem]
     repeat' (first|apply zA rfl|(apply zd_ rfl<;>intro ht<;>try omega)|((first|apply zB rfl|(apply zG<;>intro ht))<;>try simp (disch:=first|omega|simp only [lz,lU];try omega) only [go_sem,q0,q1,q2,q7,q8,q9,q32,q33,q34]))
     exact⟨m2-1,by omega,j+1,own3,by omega,hS3,hF3,by rw [hfl];simp⟩
   ·rw [List.take_of_length_le (by omega)]at hS2 q9
    have hj':¬(j:Int)<X.length:=by omega
    have hge:=zaq key X P
    have hPX:=z50 hP X
    have hXl:=hPX.len
    by_cases h0:X=[]
    ·rw [if_pos h0]at hG
     subst h0
     subst hG
     have hz:([]:List Hdr).length=0:=rfl
     rw [hz]at r1
     repeat' (first|apply zA rfl|(apply zd_ rfl<;>intro ht<;>try omega)|((first|apply zB rfl|(apply zG<;>intro ht))<;>try simp (disch:=first|omega|simp only [lz,lU];try omega) only [go_sem,q7,q8,q33,q34,r1]))
     exact⟨rfl,own2,hS2,hF2⟩
    ·rw [if_neg h0]at hG
     have hz:((X.length:Int)==0)=false:=beq_eq_false_iff_ne.2 (by have:=List.length_pos_iff.2 h0;omega)
     by_cases hmo:(z19 key P X).length=P.length
     ·rw [if_pos hmo]at hG
      rw [decide_eq_false (by omega)]at q9
      subst hG
      repeat' (first|apply zA rfl|(apply zd_ rfl<;>intro ht<;>try omega)|((first|apply zB rfl|(apply zG<;>intro ht))<;>try simp (disch:=first|omega|simp only [lz,lU];try omega) only [go_sem,q7,q8,q9,q33,q34,hj',r1,hz]))
      exact⟨by simp,own2,hS2,hF2⟩
     ·rw [if_neg hmo]at hG
      rw [decide_eq_true (by omega)]at q9
      repeat' (first|apply zA rfl|(apply zd_ rfl<;>intro ht<;>try omega)|((first|apply zB rfl|(apply zG<;>intro ht))<;>try simp (disch:=first|omega|simp only [lz,lU];try omega) only [go_sem,q0,q1,q2,q7,q8,q9,q33,q34,hj',r1,hz]))
      exact⟨16-(z19 key P X).length,by omega,z19 key P X,n+2,f,own2,by omega,by omega,by omega,hPX,hS2,hF2,hG,by simp⟩
def metN(key:Hash)(PS:List (List Hdr))(i k:Nat):Nat × List (List Hdr):=
 let a:=z1q key 17 (PS.getD i []) (PS.getD k []) 1
 let b:=z1q key 17 (PS.getD k []) a.2 1
 (a.1+b.1,(PS.set i a.2).set k b.2)
theorem z9n(key:Hash)(Q:List Hdr):∀(f:Nat) {P:List Hdr} (n:Nat),POk key P->POk key (z1q key f P Q n).2
 | 0,P,n,h=>h
 |f+1,P,n,h=>by
  unfold z1q
  split
  ·exact h
  ·split
   ·exact z50 h _
   ·exact z9n key Q f _ (z50 h _)
theorem z9m(key:Hash)(Q:List Hdr):∀(f:Nat) (P:List Hdr) (n:Nat),(z1q key f P Q n).1<=n+2*f
 | 0,P,n=>by simp [z1q]
 |f+1,P,n=>by
  unfold z1q
  split
  ·dsimp only;omega
  ·split
   ·dsimp only;omega
   ·have:=z9m key Q f (z19 key P (z1a Q (hns P))) (n+2);omega
theorem zvq(key:Hash)(PS:List (List Hdr))(i k:Nat):(metN key PS i k).2.length=PS.length:=by simp [metN]
theorem zvr{key:Hash}(h:POks key PS){i k:Nat}(hi:i<PS.length)(hk:k<PS.length):POks key (metN key PS i k).2:=
 (h.set i (z9n key _ 17 1 (h i hi))).set k (z9n key _ 17 1 (h k hk))
def metI(key:Hash)(PS:List (List Hdr))(i k:Int):AV:=if twoN PS.length i k=true then .tup [.int .i64 (metN key PS i.toNat k.toNat).1,.int .i64 0]else .tup [.int .i64 0,.int .i64 2]
def metS(key:Hash)(PS:List (List Hdr))(i k:Int):List (List Hdr):=if twoN PS.length i k=true then(metN key PS i.toNat k.toNat).2 else PS
theorem zb4(h:CirS PoIs O c key PS M own)(hok:POks key PS)(hn:0<PS.length)(i k:Int):
  ACallsP TC 20 [.ptr c 0 0,.int .i64 i,.int .i64 k] O (CirP PoIs O c key own (metI key PS i k) (metS key PS i k) M):=by
 have hfin:=h
 obtain⟨Q,lk,sid,pp,ow,hown,hC⟩:=h
 have hN:=z7k O c Q lk _ hC.obj hn
 have hbi:=z5o O c Q lk PS.length i hC.obj
 have hbk:=z5o O c Q lk PS.length k hC.obj
 clear hC hown
 refine ACallsP.of_keep q3nok (by simp) ?_
 unfold metI metS
 by_cases ht:twoN PS.length i k=true
 ·rw [if_pos ht,if_pos ht]
  unfold twoN at ht
  simp only [Bool.and_eq_true,Bool.not_eq_true',decide_eq_false_iff_not]at ht
  obtain⟨⟨hi,hk⟩,hne⟩:=ht
  rw [hi]at hbi
  rw [hk]at hbk
  obtain⟨a,rfl,ha⟩:=z3x hi
  obtain⟨b,rfl,hb⟩:=z3x hk
  have hne':((a:Int)==b)=false:=beq_eq_false_iff_ne.2 hne
  have hab:a ≠ b:=fun e=>hne (by rw [e])
  repeat' (first|apply zA rfl|(apply zd_ rfl<;>intro ht<;>try omega)|((first|apply zB rfl|(apply callW.mk_pu;(first|exact(fun _=>hN)|exact(fun _=>hbi)|exact(fun _=>hbk)))|(apply callW.za;(first|exact(hN)|exact(hbi)|exact(hbk)))|(apply zG<;>intro ht))<;>try simp (disch:=first|omega|simp only [lz,lU];try omega) only [go_sem,hne']))
  refine callW.mkP (caps:=[]) (zje hfin hok a b ha hb hab) (CirP.is ploc_is z2u hfin _ (by simp)) ?_
  rintro v O2 ⟨rfl,own2,S2,f2⟩
  have hn1:=z9m key (PS.getD b []) 17 (PS.getD a []) 1
  have hok2:POks key (PS.set a (z1q key 17 (PS.getD a []) (PS.getD b []) 1).2):=hok.set a (z9n key _ 17 1 (hok a ha))
  have hga:(PS.set a (z1q key 17 (PS.getD a []) (PS.getD b []) 1).2).getD a []=(z1q key 17 (PS.getD a []) (PS.getD b []) 1).2:=z7o ha _
  have hgb:(PS.set a (z1q key 17 (PS.getD a []) (PS.getD b []) 1).2).getD b []=PS.getD b []:=by simp [List.getD,List.getElem?_set_ne hab]
  have hA:=zje S2 hok2 b a (by simpa using hb) (by simpa using ha) (fun e=>hab e.symm)
  rw [hga,hgb]at hA
  unfold metN
  dsimp only
  have hn2:=z9m key (z1q key 17 (PS.getD a []) (PS.getD b []) 1).2 17 (PS.getD b []) 1
  generalize (z1q key 17 (PS.getD b []) (z1q key 17 (PS.getD a []) (PS.getD b []) 1).2 1)=r2 at*
  generalize (z1q key 17 (PS.getD a []) (PS.getD b []) 1)=r1 at*
  simp (disch:=first|omega|simp only [lz,lU];try omega) only [go_sem]
  repeat' (first|apply zA rfl|(apply zd_ rfl<;>intro ht<;>try omega)|((first|apply zB rfl|(apply zG<;>intro ht))<;>try simp (disch:=first|omega|simp only [lz,lU];try omega) only [go_sem]))
  refine callW.mkP (caps:=[]) hA (CirP.is ploc_is z2u S2 _ (by simp)) ?_
  rintro v O3 ⟨rfl,own3,S3,f3⟩
  simp (disch:=first|omega|simp only [lz,lU];try omega) only [go_sem]
  repeat' (first|apply zA rfl|(apply zd_ rfl<;>intro ht<;>try omega)|((first|apply zB rfl|(apply zG<;>intro ht))<;>try simp (disch:=first|omega|simp only [lz,lU];try omega) only [go_sem]))
  exact⟨by simp,own3,S3,f2.trans f3⟩
 ·rw [if_neg ht,if_neg ht]
  have hres:CirP PoIs O c key own (.tup [.int .i64 0,.int .i64 2]) PS M (.tup [.int .i64 0,.int .i64 2]) O:=⟨rfl,_,hfin,⟨fun _ _ _=>rfl,fun _ h=> .inl h,Nat.le_refl _⟩⟩
  cases hi:isN PS.length i
  ·rw [hi]at hbi
   repeat' (first|apply zA rfl|(apply zd_ rfl<;>intro ht<;>try omega)|((first|apply zB rfl|(apply callW.mk_pu;(first|exact(fun _=>hN)|exact(fun _=>hbi)))|(apply callW.za;(first|exact(hN)|exact(hbi)))|(apply zG<;>intro ht))<;>try simp (disch:=first|omega|simp only [lz,lU];try omega) only [go_sem]))
   exact hres
  ·rw [hi]at hbi
   cases hk:isN PS.length k
   ·rw [hk]at hbk
    repeat' (first|apply zA rfl|(apply zd_ rfl<;>intro ht<;>try omega)|((first|apply zB rfl|(apply callW.mk_pu;(first|exact(fun _=>hN)|exact(fun _=>hbi)|exact(fun _=>hbk)))|(apply callW.za;(first|exact(hN)|exact(hbi)|exact(hbk)))|(apply zG<;>intro ht))<;>try simp (disch:=first|omega|simp only [lz,lU];try omega) only [go_sem]))
    exact hres
   ·rw [hk]at hbk
    have hik:i=k:=by
     unfold twoN at ht
     rw [hi,hk]at ht
     simpa using ht
    subst hik
    have hee:((i:Int)==i)=true:=by simp
    repeat' (first|apply zA rfl|(apply zd_ rfl<;>intro ht<;>try omega)|((first|apply zB rfl|(apply callW.mk_pu;(first|exact(fun _=>hN)|exact(fun _=>hbi)))|(apply callW.za;(first|exact(hN)|exact(hbi)))|(apply zG<;>intro ht))<;>try simp (disch:=first|omega|simp only [lz,lU];try omega) only [go_sem,hee]))
    exact hres
end
end
section
theorem znm{w:AV}{rows:List (List AV)}(h:RowAt 1 O sid w rows)(hl:rows.length<1000000):
  ∃O2,aApp O 1 w [[x]]=some (.sl O.length 0 (rows.length+1) none 1,O2)/\ O2[O.length]? =some (some (rows++ [[x]]))/\ O2.length=O.length+1/\ ∀j,j<O.length->sid ≠ some j->O2[j]? =O[j]?:=by
 rcases h with⟨rfl,rfl,rfl⟩| ⟨q,rfl,hne,rfl,hq⟩
 ·refine⟨O++ [some [[x]]],by simp [aApp],by simp,by simp,fun j hj _=>gapp hj⟩
 ·refine⟨O.set q none++ [some (rows++ [[x]])],?_,by rw [z18 (by simp)];simp,by simp,fun j hj hn=> ?_⟩
  ·unfold aApp
   rw [if_neg (by simp)]
   simp only [hq]
   rw [if_pos ⟨trivial,by omega,by simp;omega⟩,if_neg (by simp)]
   simp
  ·rw [gapp (by simpa using hj)]
   exact z1h fun e=>hn (by rw [e])
theorem zjz(hl:O.length<=O'.length)(h:∀j,j<O.length->O'[j]? =O[j]?):Ext O O':=by
 refine⟨O'.drop O.length,List.ext_getElem? fun j=> ?_⟩
 by_cases hj:j<O.length
 ·rw [gapp hj,h j hj]
 ·rw [z18 (by omega),List.getElem?_drop];congr 1;omega
structure NewS(τ O:Store)(key:Hash)(n i:Nat)(w:AV)(pp:List Nat)(sid:Option Nat):Prop where
 ext:Ext τ O
 len:pp.length=i
 box:O[τ.length]? =some (some [hc key])
 lk:O[τ.length+1]? =some (some [[.int .i64 n,.nilsl]])
 obj:O[τ.length+2]? =some (some [[w,.ptr (τ.length+1) 0 0]])
 row:RowAt 1 O sid w (pp.map fun p=>[.ptr p 0 0])
 pool:∀p ∈ pp,O[p]? =some (some [poC key .nilsl])/\ τ.length+2<p
 nd:pp.Nodup
 sid:∀s,sid=some s->τ.length+2<s/\ s ∉ pp
theorem NewS.step{O2:Store}{key:Hash}{w:AV}{pp:List Nat}(h:NewS τ O key n i w pp sid)
  (hr:O2[O.length+2]? =some (some ((pp.map fun p=>[.ptr p 0 0])++ [[.ptr (O.length+1) 0 0]]))) (hl:O2.length=O.length+3) (hk:∀j,j<O.length+2->sid ≠ some j->O2[j]? =(O++ [some [hc key],some [poC key .nilsl]])[j]?):
  NewS τ (O2.set (τ.length+2) (some [[.sl (O.length+2) 0 (i+1) none 1,.ptr (τ.length+1) 0 0]])) key n (i+1) (.sl (O.length+2) 0 (i+1) none 1) (pp++ [O.length+1]) (some (O.length+2)):=by
 have d:=slen h.obj
 have hns:∀j,j<=τ.length+2->sid ≠ some j:=fun j hj e=>by have:=(h.sid j e).1;omega
 have hlow:∀j,j<O.length->j ≠ τ.length+2->sid ≠ some j->(O2.set (τ.length+2) (some [[.sl (O.length+2) 0 (i+1) none 1,.ptr (τ.length+1) 0 0]]))[j]? =O[j]?:=fun j hj h1 h2=>by
  rw [z1h (fun e=>h1 e.symm),hk j (by omega) h2,gapp hj]
 have hpl:∀p ∈ pp,p<O.length:=fun p hp=>slen (h.pool p hp).1
 have hmap:((pp++ [O.length+1]).map fun p=>[AV.ptr p 0 0])=(pp.map fun p=>[.ptr p 0 0])++ [[.ptr (O.length+1) 0 0]]:=by simp
 refine { ext:= ?_,len:=by rw [List.length_append,h.len];rfl,box:= ?_,lk:= ?_,obj:= ?_,row:= ?_,pool:= ?_,nd:= ?_,sid:= ?_ }
 ·obtain⟨y,hy⟩:=h.ext
  refine zjz (by rw [List.length_set,hl];omega) fun j hj=> ?_
  rw [hlow j (by omega) (by omega) (hns j (by omega)),hy,gapp hj]
 ·rw [hlow _ (by omega) (by omega) (hns _ (by omega))];exact h.box
 ·rw [hlow _ (by omega) (by omega) (hns _ (by omega))];exact h.lk
 ·exact z2a (by omega)
 ·refine .inr ⟨_,rfl,by simp,?_,?_⟩
  ·rw [List.length_map,List.length_append,h.len];rfl
  ·rw [z1h (by omega),hr,hmap]
 ·intro p hp
  rcases List.mem_append.1 hp with h1|h1
  ·obtain⟨h2,h3⟩:=h.pool p h1
   refine⟨?_,h3⟩
   rw [hlow p (hpl p h1) (by omega) fun e=>(h.sid p e).2 h1];exact h2
  ·rw [List.mem_singleton.1 h1]
   refine⟨?_,by omega⟩
   rw [z1h (by omega),hk _ (by omega) fun e=>by
    have hh:=h.row
    rcases hh with⟨e2,_⟩| ⟨q,e2,_,_,hq⟩
    ·rw [e2]at e;cases e
    ·rw [e2]at e;injection e with e;have:=slen hq;omega,z18 (by omega)]
   rw [show O.length+1-O.length=1 by omega];rfl
 ·rw [List.nodup_append]
  refine⟨h.nd,by simp,fun a ha b hb=> ?_⟩
  rw [List.mem_singleton.1 hb];have:=hpl a ha;omega
 ·intro s hs
  injection hs with hs;subst hs
  refine⟨by omega,fun hm=> ?_⟩
  rcases List.mem_append.1 hm with h1|h1
  ·have:=hpl _ h1;omega
  ·have:=List.mem_singleton.1 h1;omega
def CNewP(τ:Store)(key:Hash)(n:Nat)(v:AV)(O':Store):Prop:=∃c own,v=.tup [.ptr c 0 0,.int .i64 0]/\ Ext τ O'/\ CirS PoIs O' c key (List.replicate n []) [] own/\ ∀x ∈ own,τ.length<=x
theorem NewS.fin{key:Hash}{w:AV}{pp:List Nat}(h:NewS τ O key n n w pp sid)(h0:0<n):CNewP τ key n (.tup [.ptr (τ.length+2) 0 0,.int .i64 0]) O:=by
 obtain⟨y,hy⟩:=h.ext
 have hrow:=h.row
 rcases hrow with⟨_,h1,_⟩| ⟨q,hq,h1,hw,hg⟩
 ·have:=congrArg List.length h1
  rw [List.length_map,h.len]at this;simp at this;omega
 have hql:(pp.map fun p=>[AV.ptr p 0 0]).length=n:=by rw [List.length_map,h.len]
 rw [hql]at hw
 subst hw
 have hsid:=h.sid q hq
 let ow:Nat->List Nat:=fun j=>if j=0 then [τ.length+2,q]else if j=1 then [τ.length+1]else [pp.getD (j-2) 0]
 have hpm:∀j,j<n->pp.getD j 0 ∈ pp:=fun j hj=>by
  rw [show pp.getD j 0=pp[j]'(by rw [h.len];exact hj)by simp [List.getD,h.len,hj]];exact List.getElem_mem _
 have hge:∀j,j<n+2->∀x ∈ ow j,τ.length<=x:=by
  intro j hj x hx
  show τ.length<=x
  simp only [ow]at hx
  split at hx
  ·simp at hx;omega
  ·split at hx
   ·simp at hx;omega
   ·rw [List.mem_singleton]at hx;have:=(h.pool _ (hpm (j-2) (by omega))).2;omega
 refine⟨τ.length+2,z1v (n+2) ow,rfl,h.ext,⟨q,τ.length+1,none,pp,ow,by rw [List.length_replicate],?_⟩,fun x hx=> ?_⟩
 ·exact {
   o0:=rfl
   o1:=rfl
   len:=by rw [h.len,List.length_replicate]
   obj:=by rw [List.length_replicate];exact h.obj
   row:=hg
   lk:=⟨by rw [List.length_replicate];exact h.lk,rfl,by simp⟩
   pool:=fun i hi=>by
    rw [List.length_replicate]at hi
    obtain⟨h2,h3⟩:=h.pool _ (hpm i hi)
    refine⟨.nilsl,none,?_,h2,.inl ⟨rfl,?_,rfl⟩,by simp⟩
    ·simp [ow]
    ·simp [List.getD,hi,hdrs]
   apart:=by
    rw [List.length_replicate]
    intro i j hi hj hne x hx hx2
    simp only [ow]at hx hx2
    have hp:=fun k (hk:k<n+2) (h2:¬k=0) (h3:¬k=1)=>(h.pool _ (hpm (k-2) (by omega))).2
    have hqq:=fun k (hk:k<n+2) (h2:¬k=0) (h3:¬k=1) (e:q=pp.getD (k-2) 0)=>hsid.2 (by rw [e];exact hpm (k-2) (by omega))
    by_cases i0:i=0
    ·rw [if_pos i0]at hx
     rw [if_neg (by omega)]at hx2
     by_cases j1:j=1
     ·rw [if_pos j1]at hx2;simp at hx hx2;omega
     ·rw [if_neg j1]at hx2;simp at hx hx2
      have:=hp j hj (by omega) j1
      rcases hx with rfl|rfl
      ·simp [List.getD]at this;omega
      ·exact hqq j hj (by omega) j1 (by simp [List.getD];exact hx2)
    ·rw [if_neg i0]at hx
     by_cases i1:i=1
     ·rw [if_pos i1]at hx
      by_cases j0:j=0
      ·rw [if_pos j0]at hx2;simp at hx hx2;omega
      ·rw [if_neg j0,if_neg (by omega)]at hx2
       have:=hp j hj j0 (by omega)
       simp at hx hx2;simp [List.getD]at this;omega
     ·rw [if_neg i1]at hx
      have hpi:=hp i hi i0 i1
      by_cases j0:j=0
      ·rw [if_pos j0]at hx2
       simp at hx hx2
       rcases hx2 with rfl|rfl
       ·simp [List.getD]at hpi;omega
       ·exact hqq i hi i0 i1 (by simp [List.getD];exact hx)
      ·rw [if_neg j0]at hx2
       by_cases j1:j=1
       ·rw [if_pos j1]at hx2
        simp at hx hx2;simp [List.getD]at hpi;omega
       ·rw [if_neg j1]at hx2
        rw [List.mem_singleton]at hx hx2
        rw [hx]at hx2
        have a1:i-2<pp.length:=by rw [h.len];omega
        have a2:j-2<pp.length:=by rw [h.len];omega
        rw [show pp.getD (i-2) 0=pp[i-2]by simp [List.getD,a1],show pp.getD (j-2) 0=pp[j-2]by simp [List.getD,a2]]at hx2
        rcases Nat.lt_or_gt_of_ne (show i-2 ≠ j-2 by omega)with hlt|hlt
        ·exact List.pairwise_iff_getElem.1 h.nd _ _ a1 a2 hlt hx2
        ·exact List.pairwise_iff_getElem.1 h.nd _ _ a2 a1 hlt hx2.symm }
 ·obtain⟨j,hj,h2⟩:=mem_allOw.1 hx
  exact hge j hj x h2
theorem CNewP.is(τ:Store)(key:Hash)(n:Nat)(h0:0<n):∃v O',CNewP τ key n v O':=by
 have hs:∀i,∃O w pp sid,NewS τ O key n i w pp sid:=by
  intro i
  induction i with
  |zero=>
   exact⟨τ++ [some [hc key],some [[.int .i64 n,.nilsl]],some [[.nilsl,.ptr (τ.length+1) 0 0]]],.nilsl,[],none,⟨_,rfl⟩,rfl,by rw [z18 (by omega),Nat.sub_self];rfl,by rw [z18 (by omega),Nat.add_sub_cancel_left];rfl,by rw [z18 (by omega),Nat.add_sub_cancel_left];rfl,.inl ⟨rfl,rfl,rfl⟩,by simp,by simp,by simp⟩
  |succ i ih=>
   obtain⟨O,w,pp,sid,h⟩:=ih
   refine⟨_,_,_,_,h.step (O2:=O++ [some [hc key],some [poC key .nilsl],some ((pp.map fun p=>[.ptr p 0 0])++ [[.ptr (O.length+1) 0 0]])]) ?_ (by simp) fun j hj _=> ?_⟩
   ·rw [z18 (by omega),Nat.add_sub_cancel_left];rfl
   ·rw [show O++ [some [hc key],some [poC key .nilsl],some ((pp.map fun p=>[AV.ptr p 0 0])++ [[.ptr (O.length+1) 0 0]])]=(O++ [some [hc key],some [poC key .nilsl]])++ [some ((pp.map fun p=>[AV.ptr p 0 0])++ [[.ptr (O.length+1) 0 0]])]by simp,gapp (by simpa using hj)]
 obtain⟨O,w,pp,sid,h⟩:=hs n
 exact⟨_,O,h.fin h0⟩
attribute [local irreducible] ACallsTo ACallsP
theorem zru(O:Store)(key:Hash)(n:Int)(h:n<2 \/8<n):ACallsTo TC 28 [.agg (hc key),.int .i64 n] O (.tup [.nilp,.int .i64 2]) O:=by
 refine ACallsTo.of_body q3vok (by simp) fun hw _=> ?_
 by_cases h1:n<2
 ·repeat' (first|apply zA rfl|(apply zd_ rfl<;>intro ht<;>try omega)|((first|apply zB rfl|(apply zG<;>intro ht))<;>try simp (disch:=first|omega|simp only [lz,lU];try omega) only [go_sem,h1]))
  exact DownV.pure hw (by simp [RL,RLs])
 ·have h2:n>8:=by omega
  repeat' (first|apply zA rfl|(apply zd_ rfl<;>intro ht<;>try omega)|((first|apply zB rfl|(apply zG<;>intro ht))<;>try simp (disch:=first|omega|simp only [lz,lU];try omega) only [go_sem,h1,h2]))
  exact DownV.pure hw (by simp [RL,RLs])
theorem ziz(O:Store)(key:Hash)(n:Nat)(h2:2<=n)(h8:n<=8):ACallsP TC 28 [.agg (hc key),.int .i64 n] O (CNewP O key n):=by
 have l:=z8 key
 have tk:(hc key).take 32=hc key:=List.take_of_length_le (by omega)
 have c1:¬(n:Int)<2:=by omega
 have c2:¬(n:Int)>8:=by omega
 have hL:=fun O=>zvl O n ⟨by omega,by omega⟩
 refine ACallsP.of_keep q3vok (by simp) ?_
 repeat' (first|apply zA rfl|(apply zd_ rfl<;>intro ht<;>try omega)|((first|apply zB rfl|(apply callW.mk_pu;exact(fun _=>hL _))|(apply callW.za;exact(hL _))|(apply zG<;>intro ht))<;>try simp (disch:=first|omega|simp only [lz,lU];try omega) only [go_sem,c1,c2]))
 refine zW.loop (fun m J O'=>∃(i:Nat) (w:AV) (pp:List Nat) (sid:Option Nat),m+i=n/\ NewS O O' key n i w pp sid/\ J 2=.ptr O.length 0 0/\ J 8=.ptr (O.length+2) 0 0/\ J 26=.int .i64 n/\ J 27=.int .i64 i) n ?_ ?_
 ·refine⟨0,.nilsl,[],none,by omega,?_,by simp only [go_sem],by simp only [go_sem],by simp only [go_sem],by simp only [go_sem];try rfl⟩
  exact⟨⟨_,rfl⟩,rfl,by simp,by simp,by simp,.inl ⟨rfl,rfl,rfl⟩,by simp,by simp,by simp⟩
 ·rintro m J O' ⟨i,w,pp,sid,hm,hS,q2,q8,q26,q27⟩
  by_cases hi:i<n
  ·have hi':(i:Int)<n:=by omega
   have hb:=hS.box
   have ho:=hS.obj
   have db:=slen hb
   have do':=slen ho
   have hE:=zy2 O' key
   repeat' (first|apply zA rfl|(apply zd_ rfl<;>intro ht<;>try omega)|((first|apply zB rfl|(apply zG<;>intro ht))<;>try simp (disch:=first|omega|simp only [lz,lU];try omega) only [go_sem,q2,q8,q26,q27,hb,ho,hi',tk,l]))
   refine callW.mkP_ef (caps:=[]) hE ⟨_,_,rfl,rfl⟩ ?_
   rintro v O1 ⟨rfl,rfl⟩
   have hrow:RowAt 1 (O'++ [some [hc key],some [poC key .nilsl]]) sid w (pp.map fun p=>[.ptr p 0 0]):=hS.row.keep fun q hq=>gapp (hS.row.lt hq)
   obtain⟨O2,ha,hr,hl2,hk⟩:=znm (x:=.ptr (O'.length+1) 0 0) hrow (by rw [List.length_map,hS.len];omega)
   have hlen:(O'++ [some [hc key],some [poC key .nilsl]]).length=O'.length+2:=by simp
   rw [hlen]at hr hl2 hk ha
   have hN:=hS.step hr hl2 hk
   rw [List.length_map,hS.len]at ha
   have ho2:O2[O.length+2]? =some (some [[w,.ptr (O.length+1) 0 0]]):=by
    rw [hk _ (by omega) fun e=>by have:=(hS.sid _ e).1;omega,gapp do'];exact ho
   refine⟨by simp (disch:=first|omega|simp only [lz,lU];try omega) only [go_sem,hb,ho,tk,l],?_⟩
   simp (disch:=first|omega|simp only [lz,lU];try omega) only [go_sem,ho2,ha]
   repeat' (first|apply zA rfl|(apply zd_ rfl<;>intro ht<;>try omega)|((first|apply zB rfl|(apply zG<;>intro ht))<;>try simp (disch:=first|omega|simp only [lz,lU];try omega) only [go_sem,q2,q8,q26,q27]))
   exact⟨m-1,by omega,i+1,_,_,_,by omega,hN,by simp⟩
  ·obtain rfl:i=n:=by omega
   repeat' (first|apply zA rfl|(apply zd_ rfl<;>intro ht<;>try omega)|((first|apply zB rfl|(apply zG<;>intro ht))<;>try simp (disch:=first|omega|simp only [lz,lU];try omega) only [go_sem,q8,q26,q27]))
   exact hS.fin (by omega)
end
section
theorem zyg{h:Hdr}(hv:valH h=true):(z2f h).length<=20000:=by
 obtain⟨N,I,e1,e2,h1,h2,h3,h4⟩:=z8i (show z1w h.n h.i h.s h.p=true from hv)
 unfold z2f putH
 have a1:=z1u h.n.toNat
 have a2:=z1u h.i.toNat
 have a3:=z1u h.s.length
 have a4:=zbe (l:=h.p)
 have a5:=h.r.2
 unfold z23
 simp only [List.length_append]
 omega
theorem zkc:∀{P:List Hdr},(∀q ∈ P,valH q=true)->(z21 P).length<=20011*P.length
 | [],_=>by simp [z21]
 |q::P,h=>by
  have h1:=zkc (P:=P) fun q hq=>h q (List.mem_cons_of_mem _ hq)
  have h2:=zyg (h q (by simp))
  have h3:=zh9 (z2f q)
  unfold z21 at h1 ⊢
  simp only [List.map_cons,List.flatten_cons,List.length_append,List.length_cons]
  omega
theorem txt_le{k:MT}(h:k.Ok):(k.txt.length:Int)<=65536:=by
 cases k with
 |gt P=>
  obtain⟨h0,h1,h2⟩:=h
  have a:=zkc h2
  have b:=z1u P.length
  show ((gtS P).length:Int)<=65536
  unfold gtS
  rw [List.length_cons,List.length_append];omega
 |kn l=>
  obtain⟨h1,h2⟩:=h
  have a:=z4r l
  have b:=z1u l.length
  show ((knS l).length:Int)<=65536
  unfold knS
  rw [List.length_cons,List.length_append];omega
theorem znx{len:Nat}{m:MM}(h:m.Ok n)(hl:len<200):z1t n len m.ml=0:=by
 have h1:=h.f
 have h2:=h.t
 have h3:=h.ne
 have h4:=txt_le h.k
 unfold z1t
 rw [if_neg (by omega),if_neg (by show ¬((m.f:Int)<0 \/(n:Int)<=m.f \/(m.t:Int)<0 \/(n:Int)<=m.t \/(m.f:Int)=m.t);omega),if_neg (by show ¬(65536:Int)<m.k.txt.length;omega),if_neg (by omega)]
theorem zj9{key:Hash}{q:Hdr}(h:z1s key q.n q.i q.r q.s q.p=0):valH q=true:=by
 unfold z1s at h
 cases e:z1w q.n q.i q.s q.p
 ·rw [if_pos e]at h;cases h
 ·exact e
theorem z8u{key:Hash}{h:Hdr}(hc:z1s key h.n h.i h.r h.s h.p=0):addC key [] h=2/\ addL key [] h=[h]:=by
 obtain⟨h1,h2⟩:=zqs (P:=[]) (b:=0) hc rfl (fun⟨e,_⟩=>by simp at e) (by simp)
 rw [h1,h2]
 refine⟨?_,rfl⟩
 rw [if_neg]
 rintro(⟨e,_⟩|e)
 ·omega
 ·simp at e
section
variable {K:Hash} {h:Hdr} (hc:z1s K h.n h.i h.r h.s h.p=0)
include hc
theorem told1:lrnC K [[],[],[]] 0 h=2:=(if_pos (show isN 3 0=true by decide)).trans (z8u hc).1
theorem told2:lrnS K [[],[],[]] 0 h=[[h],[],[]]:=(if_pos (show isN 3 0=true by decide)).trans (by rw [show ([[],[],[]]:List (List Hdr)).getD (0:Int).toNat []=[]from rfl,(z8u hc).2];rfl)
omit hc in
theorem zlj:(⟨1,0,.kn []⟩:MM).Ok 3:=⟨by decide,by decide,by decide,by decide,fun _ h=>by simp at h⟩
theorem zli:(⟨0,1,.gt [h]⟩:MM).Ok 3:=⟨by show 0<3;omega,by show 1<3;omega,by show 0 ≠ 1;omega,by simp,by simp,fun q hq=>by rw [List.mem_singleton.1 hq];exact zj9 hc⟩
omit hc in
theorem told3:tlkI [[h],[],[]] [] 1 0=0:=(if_pos (show twoN 3 1 0=true by decide)).trans (znx (m:=⟨1,0,.kn []⟩) zlj (by decide))
omit hc in
theorem told4:z4y [[h],[],[]] [] 1 0=[⟨1,0,.kn []⟩]:=if_pos told3
omit hc in
theorem told5:z4c K [[h],[],[]] [⟨1,0,.kn []⟩] 0=[[h],[],[]]:=if_pos (show atS 3 1 0=0 by decide)
theorem zes:z1a [h] []=[h]:=by simp [z1a,z3y,zj9 hc,List.filter]
omit hc in
theorem zet:z1a [h] (hns [h])=[]:=by simp [z1a,z3y,hns,List.filter]
omit hc in
theorem miss0(l:List NH):z1a [] l=[]:=rfl
theorem told6:z4b [[h],[],[]] [⟨1,0,.kn []⟩] 0=[⟨0,1,.gt [h]⟩]:=by
 have e:repM [[h],[],[]] ⟨1,0,.kn []⟩ []=⟨0,1,.gt [h]⟩:=by
  show (⟨0,1,.gt (z1a [h] [])⟩:MM)=_
  rw [zes hc]
 refine(if_pos (show atS 3 1 0=0 by decide)).trans ?_
 show (if z1a [h] [] ≠ []/\ z1t 3 0 (repM [[h],[],[]] ⟨1,0,.kn []⟩ []).ml=0 then []++ [repM [[h],[],[]] ⟨1,0,.kn []⟩ []]else [])=_
 rw [e,if_pos ⟨by rw [zes hc];simp,znx (zli hc) (by decide)⟩];rfl
theorem told7:z4c K [[h],[],[]] [⟨0,1,.gt [h]⟩] 0=[[h],[h],[]]:=by
 refine(if_pos (show atS 3 1 0=0 by decide)).trans ?_
 show [[h],addL K [] h,[]]=_
 rw [(z8u hc).2]
omit hc in
theorem told8:z4b [[h],[],[]] [⟨0,1,.gt [h]⟩] 0=[]:=if_pos (show atS 3 1 0=0 by decide)
omit hc in
theorem zbz(P Q:List Hdr)(f n:Nat)(e:z1a Q (hns P)=[]):z1q K (f+1) P Q n=(n,P):=by unfold z1q;rw [if_pos e]
theorem zyc(n:Nat):z1q K 17 [] [h] n=(n+2,[h]):=by
 unfold z1q
 rw [show z1a [h] (hns [])=[h]from zes hc,if_neg (by simp),show z19 K [] [h]=[h]from(z8u hc).2,if_neg (by simp)]
 exact zbz _ _ _ _ zet
theorem told9:metN K [[h],[h],[]] 1 2=(4,[[h],[h],[h]]):=by
 unfold metN
 rw [show ([[h],[h],[]]:List (List Hdr)).getD 1 []=[h]from rfl,show ([[h],[h],[]]:List (List Hdr)).getD 2 []=[]from rfl,zbz [h] [] 16 1 (miss0 _)]
 dsimp only
 rw [zyc hc];rfl
omit hc in
theorem zot:metN K [[h],[h],[h]] 1 2=(2,[[h],[h],[h]]):=by
 unfold metN
 rw [show ([[h],[h],[h]]:List (List Hdr)).getD 1 []=[h]from rfl,show ([[h],[h],[h]]:List (List Hdr)).getD 2 []=[h]from rfl,zbz [h] [h] 16 1 zet]
 dsimp only
 rw [zbz [h] [h] 16 1 zet];rfl
theorem zou:metI K [[h],[h],[]] 1 2=.tup [.int .i64 4,.int .i64 0]/\ metS K [[h],[h],[]] 1 2=[[h],[h],[h]]:=by
 refine⟨(if_pos (show twoN 3 1 2=true by decide)).trans ?_,(if_pos (show twoN 3 1 2=true by decide)).trans ?_⟩
 ·rw [show metN K [[h],[h],[]] (1:Int).toNat (2:Int).toNat=metN K [[h],[h],[]] 1 2 from rfl,told9 hc];rfl
 ·rw [show metN K [[h],[h],[]] (1:Int).toNat (2:Int).toNat=metN K [[h],[h],[]] 1 2 from rfl,told9 hc]
omit hc in
theorem told13:metI K [[h],[h],[h]] 1 2=.tup [.int .i64 2,.int .i64 0]/\ metS K [[h],[h],[h]] 1 2=[[h],[h],[h]]:=by
 refine⟨(if_pos (show twoN 3 1 2=true by decide)).trans ?_,(if_pos (show twoN 3 1 2=true by decide)).trans ?_⟩
 ·rw [show metN K [[h],[h],[h]] (1:Int).toNat (2:Int).toNat=metN K [[h],[h],[h]] 1 2 from rfl,zot];rfl
 ·rw [show metN K [[h],[h],[h]] (1:Int).toNat (2:Int).toNat=metN K [[h],[h],[h]] 1 2 from rfl,zot]
theorem POk.one:POk K [h]:=by have:=(POk.nil K).add h;rwa [(z8u hc).2]at this
end
end
section
theorem z108(seed:List UInt8)(a r k b:Nat)(hb:b%8 ≠ 0):z1s (z1o (keyL seed)) (z42 seed a r k b).n (z42 seed a r k b).i (z42 seed a r k b).r (z42 seed a r k b).s (z42 seed a r k b).p=0:=by
 rw [zgp seed a r k b hb]
 exact z10k seed (k%8) (z3j a) (z3f r) (Nat.mod_lt _ (by omega)) (by unfold z3j;omega)
attribute [local irreducible] ACallsTo ACallsP
theorem z12v:ACallsTo TC 19 [] [] (.bool true) []:=by
 have hNew:=fun O=>zkv O [107] (by simp)
 refine ACallsTo.of_body q3mok (by simp) fun hw _=> ?_
 repeat' (first|apply zA rfl|(apply zd_ rfl<;>intro ht<;>try omega)|((first|apply zB rfl|(apply callW.mk_pu;exact(fun _=>hNew _))|(apply callW.za;exact(hNew _))|(apply zG<;>intro ht))<;>try simp (disch:=first|omega|simp only [lz,lU];try omega) only [go_sem]))
 try simp only [List.nil_append,List.length_nil]
 have hsl:([107]:List UInt8).length<1000000:=by simp
 generalize ([107]:List UInt8)=seed at*
 have hRt:=zhd [some [z1m true seed (keyL seed)]] 0 seed (keyL seed) rfl (z3r seed)
 have hN:ACallsP TC 28 [.agg (hc (z1o (keyL seed))),.int .i64 3] [some [z1m true seed (keyL seed)]] (CNewP [some [z1m true seed (keyL seed)]] (z1o (keyL seed)) 3):=ziz _ _ 3 (by omega) (by omega)
 have hchk:=z108 seed 0 0 0 1 (by omega)
 repeat' (first|apply zA rfl|(apply zd_ rfl<;>intro ht<;>try omega)|((first|apply zB rfl|(apply callW.mk_pu;exact(fun _=>hRt))|(apply callW.za;exact(hRt))|(apply zG<;>intro ht))<;>try simp (disch:=first|omega|simp only [lz,lU];try omega) only [go_sem]))
 refine callW.mkP (caps:=[]) hN (CNewP.is _ _ 3 (by omega)) ?_
 rintro v O1 ⟨c,own,rfl,hE1,S1,hge⟩
 have S1:CirS PoIs O1 c (z1o (keyL seed)) [[],[],[]] [] own:=S1
 obtain⟨y1,hy1⟩:=hE1
 have g0:O1[0]? =some (some [z1m true seed (keyL seed)]):=by rw [hy1];rfl
 have hOf:ACallsTo TC 12 [.agg [.int .u8 0,.int .u8 0,.int .u8 0,.int .u8 1],.ptr 0 0 0] O1 (.agg (hdrC (z42 seed 0 0 0 1))) O1:=znw O1 0 seed 0 0 0 1 g0 hsl (by omega) (by omega) (by omega) (by omega)
 generalize z42 seed 0 0 0 1=h at*
 generalize z1o (keyL seed)=K at*
 have hpl:=zed hchk
 have hl:=zi h
 have hh:=z6n h
 have ha:(hdrC h).take 36=hdrC h:=z30 h
 have E:Ext O1 (O1++ [some [hdrC h]]):=⟨_,rfl⟩
 have S2:=S1.ext ploc_is E
 have hB:(O1++ [some [hdrC h]])[O1.length]? =some (some [hdrC h]):=by rw [z18 (Nat.le_refl _),Nat.sub_self];rfl
 have hnB:O1.length ∉ own:=fun e=>by have:=S1.lt ploc_is _ e;omega
 have k0:POks K [[],[],[]]:=fun i hi=>by
  have:([[],[],[]]:List (List Hdr)).getD i []=[]:=by
   match i,hi with
   | 0,_=>rfl
   | 1,_=>rfl
   | 2,_=>rfl
  rw [this];exact POk.nil K
 have k1:POks K [[h],[],[]]:=k0.set 0 (POk.one hchk)
 have k2:POks K [[h],[h],[]]:=k1.set 1 (POk.one hchk)
 have k3:POks K [[h],[h],[h]]:=k2.set 2 (POk.one hchk)
 simp (disch:=first|omega|simp only [lz,lU];try omega) only [go_sem]
 repeat' (first|apply zA rfl|(apply zd_ rfl<;>intro ht<;>try omega)|((first|apply zB rfl|(apply callW.mk_pu;exact(fun _=>hOf))|(apply callW.za;exact(hOf))|(apply zG<;>intro ht))<;>try simp (disch:=first|omega|simp only [lz,lU];try omega) only [go_sem,hl,ha]))
 have hL:=zb3 S2 k0 0 h _ (z1l 32 (hr h.p)) (by omega)
 rw [show sgC h.n h.r h.i h.s (zz 32 (hr h.p))=hdrC h from rfl,told1 hchk,told2 hchk]at hL
 refine callW.mkP (caps:=[]) hL (CirP.is ploc_is z2u S2 _ rfl) ?_
 rintro v O3 ⟨rfl,own3,S3,f3⟩
 have hB3:=f3.get hB hnB
 have hnB3:=f3.nin (slen hB) hnB
 simp (disch:=first|omega|simp only [lz,lU];try omega) only [go_sem]
 repeat' (first|apply zA rfl|(apply zd_ rfl<;>intro ht<;>try omega)|((first|apply zB rfl|(apply zG<;>intro ht))<;>try simp (disch:=first|omega|simp only [lz,lU];try omega) only [go_sem]))
 have hT:=zdm S3 k1 (by simp) (by simp) 1 0
 rw [told3,told4]at hT
 refine callW.mkP (caps:=[]) hT (CirP.is ploc_is z2u S3 _ rfl) ?_
 rintro v O4 ⟨rfl,own4,S4,f4⟩
 have hB4:=f4.get hB3 hnB3
 have hnB4:=f4.nin (slen hB3) hnB3
 simp (disch:=first|omega|simp only [lz,lU];try omega) only [go_sem]
 repeat' (first|apply zA rfl|(apply zd_ rfl<;>intro ht<;>try omega)|((first|apply zB rfl|(apply zG<;>intro ht))<;>try simp (disch:=first|omega|simp only [lz,lU];try omega) only [go_sem]))
 have hD:=zb0 S4 k1 (fun m hm=>by rw [List.mem_singleton.1 hm];exact zlj) (by simp) (by simp) 0
 rw [told5,told6 hchk,show atS ([[h],[],[]]:List (List Hdr)).length ([⟨1,0,.kn []⟩]:List MM).length 0=0 by show atS 3 1 0=0;decide]at hD
 refine callW.mkP (caps:=[]) hD (CirP.is ploc_is z2u S4 _ rfl) ?_
 rintro v O5 ⟨rfl,own5,S5,f5⟩
 have hB5:=f5.get hB4 hnB4
 have hnB5:=f5.nin (slen hB4) hnB4
 simp (disch:=first|omega|simp only [lz,lU];try omega) only [go_sem]
 repeat' (first|apply zA rfl|(apply zd_ rfl<;>intro ht<;>try omega)|((first|apply zB rfl|(apply zG<;>intro ht))<;>try simp (disch:=first|omega|simp only [lz,lU];try omega) only [go_sem]))
 have hD:=zb0 S5 k1 (fun m hm=>by rw [List.mem_singleton.1 hm];exact zli hchk) (by simp) (by simp) 0
 rw [told7 hchk,told8,show atS ([[h],[],[]]:List (List Hdr)).length ([⟨0,1,.gt [h]⟩]:List MM).length 0=0 by show atS 3 1 0=0;decide]at hD
 refine callW.mkP (caps:=[]) hD (CirP.is ploc_is z2u S5 _ rfl) ?_
 rintro v O6 ⟨rfl,own6,S6,f6⟩
 have hB6:=f6.get hB5 hnB5
 have hnB6:=f6.nin (slen hB5) hnB5
 simp (disch:=first|omega|simp only [lz,lU];try omega) only [go_sem]
 repeat' (first|apply zA rfl|(apply zd_ rfl<;>intro ht<;>try omega)|((first|apply zB rfl|(apply zG<;>intro ht))<;>try simp (disch:=first|omega|simp only [lz,lU];try omega) only [go_sem]))
 have hPo:ACallsP TC 27 [.ptr c 0 0,.int .i64 1] O6 (PoCopyP O6 K [h]):=zdk S6 k2 1 (by simp)
 refine callW.mkP_ef (caps:=[]) hPo (PoCopyP.is _ _ _) ?_
 rintro v O7 ⟨p7,o7,rfl,E7,P7,_⟩
 have S7:=S6.ext ploc_is E7
 have hB7:O7[O1.length]? =some (some [hdrC h]):=by obtain⟨y,rfl⟩:=E7;rw [gapp (slen hB6)];exact hB6
 have hH7:=P7.has (POk.one hchk).sort (by simp) h.n h.r
 rw [show isP [h] h.n h.r=true from(z7s (POk.one hchk).sort h.n h.r).2 ⟨h,by simp,rfl,rfl⟩]at hH7
 have hM7:=ziy S7 (by simp) (by simp)
 rw [show ((([]:List MM).length:Nat):Int)=0 from rfl]at hM7
 refine⟨by simp only [go_sem],?_⟩
 simp (disch:=first|omega|simp only [lz,lU];try omega) only [go_sem,hB6,hB7,hl,hh]
 repeat' (first|apply zA rfl|(apply zd_ rfl<;>intro ht<;>try omega)|((first|apply zB rfl|(apply callW.mk_pu;(first|exact(fun _=>hH7)|exact(fun _=>hM7)))|(apply callW.za;(first|exact(hH7)|exact(hM7)))|(apply zG<;>intro ht))<;>try simp (disch:=first|omega|simp only [lz,lU];try omega) only [go_sem]))
 have hMe:=zb4 S7 k2 (by simp) 1 2
 rw [(zou hchk).1,(zou hchk).2]at hMe
 refine callW.mkP (caps:=[]) hMe (CirP.is ploc_is z2u S7 _ rfl) ?_
 rintro v O8 ⟨rfl,own8,S8,f8⟩
 have hB8:=f8.get hB7 hnB6
 have hnB8:=f8.nin (slen hB7) hnB6
 simp (disch:=first|omega|simp only [lz,lU];try omega) only [go_sem]
 repeat' (first|apply zA rfl|(apply zd_ rfl<;>intro ht<;>try omega)|((first|apply zB rfl|(apply zG<;>intro ht))<;>try simp (disch:=first|omega|simp only [lz,lU];try omega) only [go_sem]))
 have hMe:=zb4 S8 k3 (by simp) 1 2
 rw [told13.1,told13.2]at hMe
 refine callW.mkP (caps:=[]) hMe (CirP.is ploc_is z2u S8 _ rfl) ?_
 rintro v O9 ⟨rfl,own9,S9,f9⟩
 have hB9:=f9.get hB8 hnB8
 simp (disch:=first|omega|simp only [lz,lU];try omega) only [go_sem]
 repeat' (first|apply zA rfl|(apply zd_ rfl<;>intro ht<;>try omega)|((first|apply zB rfl|(apply zG<;>intro ht))<;>try simp (disch:=first|omega|simp only [lz,lU];try omega) only [go_sem]))
 have hPo:ACallsP TC 27 [.ptr c 0 0,.int .i64 2] O9 (PoCopyP O9 K [h]):=zdk S9 k3 2 (by simp)
 refine callW.mkP_ef (caps:=[]) hPo (PoCopyP.is _ _ _) ?_
 rintro v σa ⟨pa,oa,rfl,Ea,Pa,_⟩
 have hBa:σa[O1.length]? =some (some [hdrC h]):=by obtain⟨y,rfl⟩:=Ea;rw [gapp (slen hB9)];exact hB9
 have hHa:=Pa.has (POk.one hchk).sort (by simp) h.n h.r
 rw [show isP [h] h.n h.r=true from(z7s (POk.one hchk).sort h.n h.r).2 ⟨h,by simp,rfl,rfl⟩]at hHa
 refine⟨by simp only [go_sem],?_⟩
 simp (disch:=first|omega|simp only [lz,lU];try omega) only [go_sem,hB9,hBa,hl,hh]
 repeat' (first|apply zA rfl|(apply zd_ rfl<;>intro ht<;>try omega)|((first|apply zB rfl|(apply callW.mk_pu;exact(fun _=>hHa))|(apply callW.za;exact(hHa))|(apply zG<;>intro ht))<;>try simp (disch:=first|omega|simp only [lz,lU];try omega) only [go_sem]))
 exact DownV.pure (τ:=[]) hw z1k
theorem z8d(O:Store):ACallsTo TC 19 [] O (.bool true) O:=ACallsTo.frame glok z12v (by simp [RLs]) O
end
section
structure ActV8 where
 k:Nat
 a:Nat
 b:Nat
 s:Sn
 q:Hdr
 x:AV
 n:Int
 m:Int
def z3o(A:ActV8):List AV:=[.int .u8 A.k,.int .u8 A.a,.int .u8 A.b,.int .u8 A.s.1,.int .u8 A.s.2.1,.int .u8 A.s.2.2.1,.int .u8 A.s.2.2.2]
def z28(A:ActV8):List AV:=z3o A++(sgC A.q.n A.q.r A.q.i A.q.s A.x++ [.int .i64 A.n,.int .i64 A.m])
structure ActV8.Ok(A:ActV8):Prop where
 k:A.k<256
 a:A.a<256
 b:A.b<256
 s:SnOk A.s
 x:SlV 32 (hr A.q.p) A.x
 x1:A.q.p ≠ []->A.x=zz 32 (hr A.q.p)
 p:A.q.p.length<=maxLen
 g:A.q.s.length<=maxLen
def z3p(L:List ActV8):List (List AV):=L.map z28
theorem z16(L:List ActV8):(z3p L).length=L.length:=by simp [z3p]
theorem zie{L:List ActV8}(h:i<L.length):(z3p L)[i]? =some (z28 L[i]):=by simp [z3p,List.getElem?_eq_getElem h]
theorem zu(A:ActV8):(z28 A).length=45:=by simp [z28,z3o,zg]
theorem zq6(A:ActV8):(z28 A)[41]? =some (.str A.q.s):=by
 unfold z28
 rw [List.getElem?_append_right (by simp [z3o]),List.getElem?_append_left (by simp [z3o,zg])]
 exact sgC_34 ..
theorem zq7(A:ActV8):(z28 A)[42]? =some A.x:=by
 unfold z28
 rw [List.getElem?_append_right (by simp [z3o]),List.getElem?_append_left (by simp [z3o,zg])]
 exact zo3 ..
theorem zia(A:ActV8):(z28 A)[43]? =some (.int .i64 A.n):=by
 unfold z28
 rw [List.getElem?_append_right (by simp [z3o]),List.getElem?_append_right (by simp [z3o,zg])]
 simp [z3o,zg]
theorem zib(A:ActV8):(z28 A)[44]? =some (.int .i64 A.m):=by
 unfold z28
 rw [List.getElem?_append_right (by simp [z3o]),List.getElem?_append_right (by simp [z3o,zg])]
 simp [z3o,zg]
theorem zic(A:ActV8):((z28 A).drop 7).take 36=sgC A.q.n A.q.r A.q.i A.q.s A.x:=by
 unfold z28
 rw [List.drop_left' (show (z3o A).length=7 from rfl),List.take_left' (zg ..)]
theorem zq8(A:ActV8):(z28 A).take 45=z28 A:=List.take_of_length_le (by rw [zu];omega)
def z8t:Ty:=.row [.int .u8,.int .u8,.int .u8,zh0,z9x,.row [.int .i64,.int .i64]]
theorem zqa(h:ShC z8t cs):∃A:ActV8,cs=z28 A/\ A.Ok:=by
 simp only [z8t,ShC]at h
 simp only [z3m]at h
 obtain⟨c1,r1,rfl,h1,c2,r2,rfl,h2,c3,r3,rfl,h3,c4,r4,rfl,h4,c5,r5,rfl,h5,c6,r6,rfl,h6,rfl⟩:=h
 obtain⟨a,rfl,a0,a1⟩:=(by simpa only [ShC]using h1:∃n,_)
 obtain⟨b,rfl,b0,b1⟩:=(by simpa only [ShC]using h2:∃n,_)
 obtain⟨c,rfl,c0,c1⟩:=(by simpa only [ShC]using h3:∃n,_)
 obtain⟨s,rfl,hs⟩:=z110 h4
 obtain⟨q,x,e,hx,hx1,hp,hg⟩:=z10f (a:=.agg c5) (by simpa only [z9x,Sh,ShC]using⟨c5,rfl,by simpa only [z9x,ShC]using h5⟩)
 injection e with e
 subst e
 simp only [ShC,z3m]at h6
 obtain⟨d1,e1,rfl,⟨n,rfl,n0,n1⟩,d2,e2,rfl,⟨m,rfl,m0,m1⟩,rfl⟩:=h6
 simp only [IntKind.min,IntKind.max,IntKind.signed,IntKind.bits]at a0 a1 b0 b1 c0 c1
 simp at a0 a1 b0 b1 c0 c1
 obtain⟨a,rfl⟩:∃k:Nat,a=k:=⟨a.toNat,by omega⟩
 obtain⟨b,rfl⟩:∃k:Nat,b=k:=⟨b.toNat,by omega⟩
 obtain⟨c,rfl⟩:∃k:Nat,c=k:=⟨c.toNat,by omega⟩
 exact⟨⟨a,b,c,s,q,x,n,m⟩,by simp [z28,z3o,snC],⟨by show a<256;omega,by show b<256;omega,by show c<256;omega,hs,hx,hx1,hp,hg⟩⟩
def greatA38(A:ActV8):Bool:=decide (17000<A.q.s.length \/10<A.q.p.length)
def z9c(L:List ActV8)(n:Int):Bool:=L.any greatA38 ||decide (n<L.length)
theorem zqz{L:List ActV8}(h:i<L.length):(L.take (i+1)).any greatA38=((L.take i).any greatA38 ||greatA38 L[i]):=by
 rw [List.take_succ_eq_append_getElem h,List.any_append];simp
def CirN(O:Store)(p:AV):Prop:=p=.nilp \/ ∃r,p=.ptr r 0 0/\ O[r]? =some (some [[.nilsl,.nilp]])
attribute [local irreducible] ACallsTo ACallsP
theorem zpn(O:Store)(L:List ActV8)(n:Int)(x:AV)(hx:SlV 45 (z3p L) x)(hok:∀A ∈ L,A.Ok)(hl:L.length<=maxLen):
  ACallsTo TC 18 [x,.int .i64 n] O (.bool (z9c L n)) O:=by
 have hm:maxLen<9223372036854775808:=by decide
 have r1:=hx.len
 rw [z16]at r1
 unfold z1f at r1
 unfold z9c
 refine ACallsTo.of_body q3lok (by simp) fun hw _=> ?_
 repeat' (first|apply zA rfl|(apply zd_ rfl<;>intro ht<;>try omega)|((first|apply zB rfl|(apply zG<;>intro ht))<;>try simp (disch:=first|omega|simp only [lz,lU];try omega) only [go_sem]))
 refine zW.loop (fun m J O'=>∃i:Nat,m+i=L.length/\ O'=O/\ (L.take i).any greatA38=false/\ J 0=x/\ J 1=.int .i64 n/\ J 5=.int .i64 i) L.length ?_ ?_
 ·exact⟨0,by omega,rfl,by simp,by simp only [go_sem],by simp only [go_sem],by simp only [go_sem];try rfl⟩
 ·rintro m J O' ⟨i,hm,rfl,hN,q0,q1,q5⟩
  by_cases hi:i<L.length
  ·obtain⟨ex,rfl⟩:=hx.vsl (by rw [z16];omega)
   have hgi:=zie hi
   have hal:=z16 L
   have hA:=hok L[i] (List.getElem_mem hi)
   have hst:=zqz hi
   have hin:L[i] ∈ L:=List.getElem_mem hi
   have hi':(i:Int)<L.length:=by omega
   generalize hAi:L[i]=A at*
   have c41:(List.drop 1 (List.drop 33 (List.drop 7 (z28 A))))[0]? =some (.str A.q.s):=by simp only [List.getElem?_drop];exact zq6 A
   have c42:(List.drop 2 (List.drop 33 (List.drop 7 (z28 A))))[0]? =some A.x:=by simp only [List.getElem?_drop];exact zq7 A
   have cl:=zu A
   have r2:=hA.x.len
   rw [zn]at r2
   unfold z1f at r2
   rw [hN,Bool.false_or]at hst
   have hall:greatA38 A=true->L.any greatA38=true:=fun h=>List.any_eq_true.2 ⟨A,hin,h⟩
   by_cases c1:17000<A.q.s.length
   ·rw [hall (decide_eq_true (.inl c1)),Bool.true_or]
    have c1':(A.q.s.length:Int)>17000:=by omega
    repeat' (first|apply zA rfl|(apply zd_ rfl<;>intro ht<;>try omega)|((first|apply zB rfl|(apply zG<;>intro ht))<;>try simp (disch:=first|omega|simp only [lz,lU];try omega) only [go_sem,q0,q5,hgi,hal,c41,cl,hi',c1']))
    exact DownV.same hw z1k
   ·have c1':¬(A.q.s.length:Int)>17000:=by omega
    by_cases c2:10<A.q.p.length
    ·rw [hall (decide_eq_true (.inr c2)),Bool.true_or]
     have c2':(A.q.p.length:Int)>10:=by omega
     repeat' (first|apply zA rfl|(apply zd_ rfl<;>intro ht<;>try omega)|((first|apply zB rfl|(apply zG<;>intro ht))<;>try simp (disch:=first|omega|simp only [lz,lU];try omega) only [go_sem,q0,q5,hgi,hal,c41,c42,cl,r2,hi',c1',c2']))
     exact DownV.same hw z1k
    ·have c2':¬(A.q.p.length:Int)>10:=by omega
     rw [show greatA38 A=false from decide_eq_false (by omega)]at hst
     repeat' (first|apply zA rfl|(apply zd_ rfl<;>intro ht<;>try omega)|((first|apply zB rfl|(apply zG<;>intro ht))<;>try simp (disch:=first|omega|simp only [lz,lU];try omega) only [go_sem,q0,q1,q5,hgi,hal,c41,c42,cl,r2,hi',c1',c2']))
     exact⟨m-1,by omega,i+1,by omega,hst,by simp⟩
  ·rw [List.take_of_length_le (by omega)]at hN
   rw [hN,Bool.false_or]
   have hi':¬(i:Int)<L.length:=by omega
   by_cases c:n<L.length
   ·rw [decide_eq_true c]
    have c':(L.length:Int)>n:=c
    repeat' (first|apply zA rfl|(apply zd_ rfl<;>intro ht<;>try omega)|((first|apply zB rfl|(apply zG<;>intro ht))<;>try simp (disch:=first|omega|simp only [lz,lU];try omega) only [go_sem,q0,q1,q5,r1,hi',c']))
    exact DownV.same hw z1k
   ·rw [decide_eq_false c]
    have c':¬(L.length:Int)>n:=c
    repeat' (first|apply zA rfl|(apply zd_ rfl<;>intro ht<;>try omega)|((first|apply zB rfl|(apply zG<;>intro ht))<;>try simp (disch:=first|omega|simp only [lz,lU];try omega) only [go_sem,q0,q1,q5,r1,hi',c']))
    exact DownV.same hw z1k
theorem CirN.app{p:AV}(h:CirN O p)(y:Store):CirN (O++y) p:=by
 rcases h with rfl| ⟨r,rfl,h⟩
 ·exact .inl rfl
 ·exact .inr ⟨r,rfl,by rw [gapp (slen h)];exact h⟩
end
section
def logC:List UInt8:=[108,111,103]
theorem zqb(A:ActV8):(z28 A)[0]? =some (.int .u8 A.k):=rfl
theorem z8s(A:ActV8):(z28 A)[1]? =some (.int .u8 A.a):=rfl
theorem zq9(A:ActV8):(z28 A)[2]? =some (.int .u8 A.b):=rfl
theorem mod4(k:Nat):((k:Int)).tmod 4=((k%4:Nat):Int):=by rw [Int.tmod_eq_emod_of_nonneg (by omega)];omega
theorem zqc(A:ActV8):((z28 A).drop 3).take 4=[.int .u8 A.s.1,.int .u8 A.s.2.1,.int .u8 A.s.2.2.1,.int .u8 A.s.2.2.2]:=rfl
theorem zqn(h:ShC (.sl 45 z8t) [x]):∃L:List ActV8,SlV 45 (z3p L) x/\ L.length<=maxLen/\ ∀A ∈ L,A.Ok:=by
 simp only [ShC]at h
 rcases h with h| ⟨es,h,hl,_,h2⟩
 ·cases h
  exact⟨[],.inl ⟨rfl,rfl⟩,Nat.zero_le _,by simp⟩
 ·cases h
  have:∀es:List (List AV),(∀x ∈ es,ShC z8t x)->∃L:List ActV8,es=z3p L/\ ∀s ∈ L,s.Ok:=by
   intro es
   induction es with
   |nil=>intro _;exact⟨[],rfl,by simp⟩
   |cons e es ih=>
    intro h
    obtain⟨s,rfl,hs⟩:=zqa (h e (by simp))
    obtain⟨L,rfl,hL⟩:=ih fun x hx=>h x (by simp [hx])
    exact⟨s::L,rfl,fun z hz=>by rcases List.mem_cons.1 hz with rfl|h;exact hs;exact hL z h⟩
  obtain⟨L,rfl,hL⟩:=this es h2
  exact⟨L,.inr ⟨false,rfl⟩,by rwa [z16]at hl,hL⟩
theorem ztw{L:List ActV8}(h:z9c L n=false):L.length<=n/\ ∀A ∈ L,A.q.s.length<=17000/\ A.q.p.length<=10:=by
 unfold z9c at h
 rw [Bool.or_eq_false_iff]at h
 obtain⟨h1,h2⟩:=h
 have h3:=of_decide_eq_false h2
 refine⟨by omega,fun A hA=> ?_⟩
 have h4:=List.any_eq_false.1 h1 A hA
 unfold greatA38 at h4
 have h5:¬(17000<A.q.s.length \/10<A.q.p.length):=fun h=>h4 (decide_eq_true h)
 omega
theorem zos{key:Hash}{M:List MM}(hok:POks key PS)(h:MOks PS.length M)(i k:Int):MOks PS.length (z4y PS M i k):=by
 unfold z4y
 split
 ·rename_i he
  unfold tlkI at he
  by_cases ht:twoN PS.length i k=true
  ·unfold twoN at ht
   simp only [Bool.and_eq_true,Bool.not_eq_true',decide_eq_false_iff_not]at ht
   obtain⟨⟨hi,hk⟩,hne⟩:=ht
   obtain⟨a,rfl,ha⟩:=z3x hi
   obtain⟨b,rfl,hb⟩:=z3x hk
   have hp:=hok a ha
   have hpl:=hp.len
   refine h.snoc ⟨ha,hb,fun e=>hne (by rw [show a=b from e]),?_,hp.nh⟩
   rw [z7r]
   show (PS.getD a []).length<=64
   omega
  ·rw [if_neg ht]at he;cases he
 ·exact h
theorem zsl{M:List MM}(h:MOks n M)(i:Int):MOks n (z34 n M i):=by
 unfold z34
 split
 ·exact h.erase _
 ·exact h
theorem zsj{M:List MM}(h:MOks n M)(i:Int):MOks n (z5q n M i):=by
 unfold z5q
 split
 ·rename_i he
  obtain⟨_,h1,h2⟩:=z4m (zdx he)
  exact h.snoc (h _ (z9b (by omega)))
 ·exact h
theorem zgq{n:Int}{len:Nat}{m:ML}(h:z1t n len m=0):len<200:=by
 unfold z1t at h
 by_cases c:(200:Int)<=len
 ·exfalso
  split at h
  ·cases h
  ·split at h
   ·cases h
   ·split at h
    ·cases h
    ·cases h
 ·omega
theorem zor{M:List MM}(h:M.length<=200)(i k:Int):(z4y PS M i k).length<=200:=by
 unfold z4y
 split
 ·rename_i he
  unfold tlkI at he
  by_cases ht:twoN PS.length i k=true
  ·rw [if_pos ht]at he
   have:=zgq he
   rw [List.length_append,List.length_singleton];omega
  ·rw [if_neg ht]at he;cases he
 ·exact h
theorem zsk{M:List MM}(h:M.length<=200)(i:Int):(z34 n M i).length<=200:=by
 unfold z34
 split
 ·rw [List.length_eraseIdx];split<;>omega
 ·exact h
theorem zsi{M:List MM}(h:M.length<=200)(i:Int):(z5q n M i).length<=200:=by
 unfold z5q
 split
 ·rename_i he
  have ha:=zdx he
  unfold dblI dblS at he
  rw [List.length_map,if_pos ha]at he
  have:=zgq he
  rw [List.length_append,List.length_singleton];omega
 ·exact h
theorem z12n{M:List MM}(h:M.length<=200)(m:MM):(z4w PS M m).length<=200:=by
 unfold z4w
 split
 ·exact h
 ·split
  ·rename_i l hk h2
   have:=zgq h2.2
   rw [List.length_append,List.length_singleton];omega
  ·exact h
theorem zjl{M:List MM}(h:M.length<=200)(i:Int):(z4b PS M i).length<=200:=by
 unfold z4b
 split
 ·exact z12n (by rw [List.length_eraseIdx];split<;>omega) _
 ·exact h
theorem z5v(key:Hash)(PS:List (List Hdr))(i k:Int):(metS key PS i k).length=PS.length:=by
 unfold metS
 split
 ·exact zvq ..
 ·rfl
theorem zl6{key:Hash}(h:POks key PS)(i k:Int):POks key (metS key PS i k):=by
 unfold metS
 split
 ·rename_i ht
  unfold twoN at ht
  simp only [Bool.and_eq_true]at ht
  obtain⟨⟨hi,hk⟩,_⟩:=ht
  obtain⟨a,rfl,ha⟩:=z3x hi
  obtain⟨b,rfl,hb⟩:=z3x hk
  exact zvr h ha hb
 ·exact h
end
section
attribute [local irreducible] ACallsTo ACallsP
theorem zmu(O:Store)(c q l n:Nat)(i k:Int)(h:O[c]? =some (some [[.sl q 0 n none 1,.ptr l 0 0]])):ACallsTo TC 74 [.ptr c 0 0,.int .i64 i,.int .i64 k] O (.bool (twoN n i k)) O:=by
 refine ACallsTo.of_body q45ok (by simp) fun hw _=> ?_
 unfold twoN isN
 by_cases h1:0<=i
 ·have h1':i>=0:=h1
  by_cases h2:i<n
  ·rw [decide_eq_true (show 0<=i/\ i<n from⟨h1,h2⟩),Bool.true_and]
   by_cases h3:0<=k
   ·have h3':k>=0:=h3
    by_cases h4:k<n
    ·rw [decide_eq_true (show 0<=k/\ k<n from⟨h3,h4⟩),Bool.true_and]
     by_cases h5:i=k
     ·rw [decide_eq_true h5]
      repeat' (first|apply zA rfl|(apply zd_ rfl<;>intro ht<;>try omega)|((first|apply zB rfl|(apply zG<;>intro ht))<;>try simp (disch:=first|omega|simp only [lz,lU];try omega) only [go_sem,h,h1',h2,h3',h4]))
      exact DownV.same hw rl_b
     ·rw [decide_eq_false h5]
      repeat' (first|apply zA rfl|(apply zd_ rfl<;>intro ht<;>try omega)|((first|apply zB rfl|(apply zG<;>intro ht))<;>try simp (disch:=first|omega|simp only [lz,lU];try omega) only [go_sem,h,h1',h2,h3',h4]))
      exact DownV.same hw rl_b
    ·rw [decide_eq_false (show ¬(0<=k/\ k<n)from fun h=>h4 h.2),Bool.false_and]
     repeat' (first|apply zA rfl|(apply zd_ rfl<;>intro ht<;>try omega)|((first|apply zB rfl|(apply zG<;>intro ht))<;>try simp (disch:=first|omega|simp only [lz,lU];try omega) only [go_sem,h,h1',h2,h3',h4]))
     exact DownV.same hw rl_b
   ·have h3':¬k>=0:=h3
    rw [decide_eq_false (show ¬(0<=k/\ k<n)from fun h=>h3 h.1),Bool.false_and]
    repeat' (first|apply zA rfl|(apply zd_ rfl<;>intro ht<;>try omega)|((first|apply zB rfl|(apply zG<;>intro ht))<;>try simp (disch:=first|omega|simp only [lz,lU];try omega) only [go_sem,h,h1',h2,h3']))
    exact DownV.same hw rl_b
  ·rw [decide_eq_false (show ¬(0<=i/\ i<n)from fun h=>h2 h.2),Bool.false_and,Bool.false_and]
   repeat' (first|apply zA rfl|(apply zd_ rfl<;>intro ht<;>try omega)|((first|apply zB rfl|(apply zG<;>intro ht))<;>try simp (disch:=first|omega|simp only [lz,lU];try omega) only [go_sem,h,h1',h2]))
   exact DownV.same hw rl_b
 ·have h1':¬i>=0:=h1
  rw [decide_eq_false (show ¬(0<=i/\ i<n)from fun h=>h1 h.1),Bool.false_and,Bool.false_and]
  repeat' (first|apply zA rfl|(apply zd_ rfl<;>intro ht<;>try omega)|((first|apply zB rfl|(apply zG<;>intro ht))<;>try simp (disch:=first|omega|simp only [lz,lU];try omega) only [go_sem,h1']))
  exact DownV.same hw rl_b
section
variable {O:Store} {c:Nat} {key:Hash} {PS:List (List Hdr)} {M:List MM} {own:List Nat}
theorem zfp(h:CirS PoR O c key PS M own)(hok:POks key PS)(i:Int)(q:Hdr)(x:AV)(hx:SlV 32 (hr q.p) x)(hx1:q.p ≠ []->x=zz 32 (hr q.p)):ACallsP TC 38 [.ptr c 0 0,.int .i64 i,.agg (sgC q.n q.r q.i q.s x)] O (CirP PoR O c key own (.int .i64 (lrnC key PS i q)) (lrnS key PS i q) M):=by
 have hfin:=h
 obtain⟨Q,l,sid,pp,ow,rfl,h⟩:=h
 have ho:=h.obj
 have lq:=zg q.n q.r q.i q.s x
 have hco:=slen h.obj
 have hres:CirP PoR O c key (z1v (PS.length+2) ow) (.int .i64 0) PS M (.int .i64 0) (O++ [some [sgC q.n q.r q.i q.s x]]):=⟨rfl,_,hfin.ext ploc_r ⟨_,rfl⟩,Fr.ext ⟨_,rfl⟩⟩
 refine ACallsP.of_keep q40ok (by simp) ?_
 unfold lrnC lrnS isN
 by_cases h1:i<0
 ·rw [if_neg (fun e=>by have:=(of_decide_eq_true e).1;omega),if_neg (fun e=>by have:=(of_decide_eq_true e).1;omega)]
  repeat' (first|apply zA rfl|(apply zd_ rfl<;>intro ht<;>try omega)|((first|apply zB rfl|(apply zG<;>intro ht))<;>try simp (disch:=first|omega|simp only [lz,lU];try omega) only [go_sem,h1]))
  exact hres
 ·by_cases h2:(PS.length:Int)<=i
  ·rw [if_neg (fun e=>by have:=(of_decide_eq_true e).2;omega),if_neg (fun e=>by have:=(of_decide_eq_true e).2;omega)]
   have h2':i>=(PS.length:Int):=h2
   repeat' (first|apply zA rfl|(apply zd_ rfl<;>intro ht<;>try omega)|((first|apply zB rfl|(apply zG<;>intro ht))<;>try simp (disch:=first|omega|simp only [lz,lU];try omega) only [go_sem,ho,h1,h2']))
   exact hres
  ·rw [if_pos (decide_eq_true ⟨by omega,by omega⟩),if_pos (decide_eq_true ⟨by omega,by omega⟩)]
   obtain⟨k,rfl⟩:∃k:Nat,i=k:=⟨i.toNat,by omega⟩
   have hk:k<PS.length:=by omega
   have h2':¬(k:Int)>=(PS.length:Int):=h2
   have hrw:=h.row
   have hrl:=slen hrw
   have hpp:=z3c (pp:=pp) (i:=k) (by rw [h.len];exact hk)
   have hpl:(pp.map fun p=>[AV.ptr p 0 0]).length=PS.length:=by rw [List.length_map,h.len]
   have E:Ext O (O++ [some [sgC q.n q.r q.i q.s x]]):=⟨_,rfl⟩
   have tq:(sgC q.n q.r q.i q.s x).take 36=sgC q.n q.r q.i q.s x:=List.take_of_length_le (by omega)
   have hk':(k:Int)<PS.length:=by omega
   repeat' (first|apply zA rfl|(apply zd_ rfl<;>intro ht<;>try omega)|((first|apply zB rfl|(apply zG<;>intro ht))<;>try simp (disch:=first|omega|simp only [lz,lU];try omega) only [go_sem,ho,hrw,hpp,lq,tq,h1,h2',hk']))
   have hP:=ploc_r.keep (h.pool k hk) (O':=O++ [some [sgC q.n q.r q.i q.s x]]) fun j hj=>gapp (ploc_r.lt (h.pool k hk) j hj)
   refine callW.mkP (caps:=[]) (zfr _ (pp.getD k 0) key _ _ q x hP (hok k hk).sort (hok k hk).len hx fun e=>hx1 (zb8 e)) (PoRAddP.is hP) ?_
   rintro v O' ⟨rfl,o,f1,P1⟩
   have f2:Fr O O' (ow (k+2)) o:=(Fr.ext E).trans f1
   obtain⟨h1,h2⟩:=h.pool' ploc_r hk f2 P1
   simp (disch:=first|omega|simp only [lz,lU];try omega) only [go_sem]
   repeat' (first|apply zA rfl|(apply zd_ rfl<;>intro ht<;>try omega)|((first|apply zB rfl|(apply zG<;>intro ht))<;>try simp (disch:=first|omega|simp only [lz,lU];try omega) only [go_sem]))
   exact⟨rfl,_,⟨Q,l,sid,pp,_,by rw [List.length_set],h1⟩,h2⟩
theorem zms(h:CirS PoR O c key PS M own)(hok:POks key PS)(hn:0<PS.length)(hl:M.length<1000000)(i k:Int):ACallsP TC 33 [.ptr c 0 0,.int .i64 i,.int .i64 k] O (CirP PoR O c key own (.int .i64 (tlkI PS M i k)) PS (z4y PS M i k)):=by
 have hfin:=h
 obtain⟨Q,l,sid,pp,ow,rfl,h⟩:=h
 have hN:=zmu O c Q l _ i k h.obj
 have ho:=h.obj
 refine ACallsP.of_keep q3xok (by simp) ?_
 unfold z4y
 unfold tlkI
 by_cases ht:twoN PS.length i k=true
 ·rw [ht]at hN
  rw [if_pos ht]
  unfold twoN at ht
  simp only [Bool.and_eq_true,Bool.not_eq_true',decide_eq_false_iff_not]at ht
  obtain⟨⟨hi,hk⟩,hne⟩:=ht
  obtain⟨a,rfl,ha⟩:=z3x hi
  obtain⟨b,rfl,hb⟩:=z3x hk
  have hrw:=h.row
  have hpp:=z3c (pp:=pp) (i:=a) (by rw [h.len];exact ha)
  have hpl:(pp.map fun p=>[AV.ptr p 0 0]).length=PS.length:=by rw [List.length_map,h.len]
  have ha':(a:Int)<PS.length:=by omega
  have hpo:=hok a ha
  have hpol:=hpo.len
  have hK:=zfu O (pp.getD a 0) key _ _ (h.pool a ha) (by omega)
  have hPK:=zmo O (hns (PS.getD a [])) (zz 33 (kn (PS.getD a []))) (by rw [<-zbl];exact z1l _ _) (by rw [z7r];omega)
  rw [show z4g (hns (PS.getD a []))=.tup [.str (knS (hns (PS.getD a []))),.int .i64 0]from if_pos ⟨by rw [z7r];omega,List.all_eq_true.2 hpo.nh⟩]at hPK
  have hS:=zfy O l PS.length sid (M.map MM.ml) (tlkM PS a b).ml h.lk (by omega) (by simpa using hl)
  have hE:=z7t (m:=(tlkM PS a b).ml) h.lk
  rw [List.length_map]at hS hE
  have hml:(tlkM PS a b).ml=⟨(a:Int),(b:Int),knS (hns (PS.getD a []))⟩:=rfl
  have hargs:mailC (tlkM PS a b).ml=[.int .i64 (a:Int),.int .i64 (b:Int),.str (knS (hns (PS.getD a [])))]:=by rw [hml];rfl
  rw [hargs]at hS
  have hmm:(if z1t PS.length M.length (tlkM PS a b).ml=0 then M.map MM.ml++ [(tlkM PS a b).ml]else M.map MM.ml)=(if z1t PS.length M.length (tlkM PS a b).ml=0 then M++ [tlkM PS a b]else M).map MM.ml:=by
   split
   ·rw [List.map_append];rfl
   ·rfl
  generalize z1t PS.length M.length (tlkM PS a b).ml=e at*
  generalize tlkM PS a b=m at*
  generalize knS (hns (PS.getD a []))=txt at*
  repeat' (first|apply zA rfl|(apply zd_ rfl<;>intro ht<;>try omega)|((first|apply zB rfl|(apply callW.mk_pu;(first|exact(fun _=>hN)|exact(fun _=>hK)|exact(fun _=>hPK)))|(apply callW.za;(first|exact(hN)|exact(hK)|exact(hPK)))|(apply zG<;>intro ht))<;>try simp (disch:=first|omega|simp only [lz,lU];try omega) only [go_sem,ho,hrw,hpp,ha']))
  refine callW.mkP (caps:=[]) hS hE ?_
  rintro v O' ⟨rfl,sid',k1,k2⟩
  rw [hmm]at k1
  obtain⟨h1,h2⟩:=h.links' ploc_r k2 k1
  simp (disch:=first|omega|simp only [lz,lU];try omega) only [go_sem]
  repeat' (first|apply zA rfl|(apply zd_ rfl<;>intro ht<;>try omega)|((first|apply zB rfl|(apply zG<;>intro ht))<;>try simp (disch:=first|omega|simp only [lz,lU];try omega) only [go_sem]))
  exact⟨rfl,_,⟨Q,l,sid',pp,_,rfl,h1⟩,h2⟩
 ·rw [Bool.eq_false_iff.2 ht]at hN
  rw [if_neg ht]
  rw [if_neg (by decide)]
  have hres:CirP PoR O c key (z1v (PS.length+2) ow) (.int .i64 2) PS M (.int .i64 2) O:=⟨rfl,_,hfin,⟨fun _ _ _=>rfl,fun _ h=> .inl h,Nat.le_refl _⟩⟩
  repeat' (first|apply zA rfl|(apply zd_ rfl<;>intro ht<;>try omega)|((first|apply zB rfl|(apply callW.mk_pu;exact(fun _=>hN))|(apply callW.za;exact(hN))|(apply zG<;>intro ht))<;>try simp (disch:=first|omega|simp only [lz,lU];try omega) only [go_sem]))
  exact hres
end
section
variable {O:Store} {c:Nat} {key:Hash} {PS:List (List Hdr)} {M:List MM} {own:List Nat}
theorem znz(hi:i<PS.length):PS.set i (PS.getD i [])=PS:=by
 apply List.ext_getElem?
 intro j
 by_cases e:i=j
 ·subst e;simp [List.getD,hi]
 ·rw [List.getElem?_set_ne e]
theorem zmq(h:CirS PoR O c key PS M own)(hok:POks key PS)(hM:MOks PS.length M)(hn:0<PS.length)(hl:M.length<1000000)(i:Int):
  ACallsP TC 34 [.ptr c 0 0,.int .i64 i] O (CirP PoR O c key own (.int .i64 (atS PS.length M.length i)) (z4c key PS M i) (z4b PS M i)):=by
 have hfin:=h
 obtain⟨Q,lk,sid,pp,ow,rfl,hC⟩:=h
 have ho:=hC.obj
 have hD:=zfx O lk PS.length i sid (M.map MM.ml) hC.lk (by omega) (by simpa using hl)
 unfold z4c z4b
 refine ACallsP.of_keep q3yok (by simp) ?_
 repeat' (first|apply zA rfl|(apply zd_ rfl<;>intro ht<;>try omega)|((first|apply zB rfl|(apply zG<;>intro ht))<;>try simp (disch:=first|omega|simp only [lz,lU];try omega) only [go_sem,ho]))
 refine callW.mkP (caps:=[]) hD ?_ ?_
 ·obtain⟨O',sid',k⟩:=z7v hC.lk (delL PS.length (M.map MM.ml) i)
  exact⟨_,O',rfl,sid',k⟩
 rintro v O' ⟨rfl,sid',k1,k2⟩
 rw [<-z95]at k1
 obtain⟨h1,h2⟩:=hC.links' ploc_r k2 k1
 have S1:CirS PoR O' c key PS (z34 PS.length M i) (z1v (PS.length+2) (updO ow 1 (lk::sid'.toList))):=⟨Q,lk,sid',pp,_,rfl,h1⟩
 generalize z1v (PS.length+2) (updO ow 1 (lk::sid'.toList))=own1 at*
 clear h1 k1 k2 hD ho hC
 generalize z1v (PS.length+2) ow=own0 at*
 clear sid' ow pp sid
 unfold delV delM
 rw [List.length_map]
 by_cases ha:atS PS.length M.length i=0
 ·obtain⟨_,h3,h4⟩:=z4m ha
  rw [if_pos ha,if_pos ha,if_pos ha,ha]
  unfold z34 at S1
  rw [if_pos ha]at S1
  rw [ze9 M _ (by omega)]
  rw [show M.getD i.toNat ⟨0,0,.kn []⟩=M.getD i.toNat mm0 from rfl]
  have hm:=hM _ (z9b (M:=M) (i:=i.toNat) (by omega))
  generalize M.getD i.toNat mm0=m at*
  have hM2l:(M.eraseIdx i.toNat).length<1000000:=by rw [List.length_eraseIdx];split<;>omega
  generalize M.eraseIdx i.toNat=M2 at*
  obtain⟨f,t,k⟩:=m
  have ht:t<PS.length:=hm.t
  have ht':(t:Int)<PS.length:=by omega
  have hlt:=S1.lt ploc_r
  cases k with
  |gt l=>
   obtain⟨k0,k3,kv⟩:=hm.k
   have hml:mailC (⟨f,t,.gt l⟩:MM).ml=[.int .i64 (f:Int),.int .i64 (t:Int),.str (gtS l)]:=rfl
   rw [hml]
   show z10 _ (zW _ _ _ _ (z5t _ (CirP PoR O c key _ _ (PS.set t (z19 key (PS.getD t []) l)) M2))) _ _ _ _
   have hG:=fun O=>zyy O l k0 k3 kv
   have hGK:=fun O=>zyw O l k3 kv
   have hsv:=z1l 36 (hdrs l)
   have r1:=hsv.len
   rw [zh]at r1
   unfold z1f at r1
   generalize zz 36 (hdrs l)=X at*
   generalize gtS l=txt at*
   simp (disch:=first|omega|simp only [lz,lU];try omega) only [go_sem]
   repeat' (first|apply zA rfl|(apply zd_ rfl<;>intro ht<;>try omega)|((first|apply zB rfl|(apply callW.mk_pu;exact(fun _=>hG _))|(apply callW.za;exact(hG _))|(apply zG<;>intro ht))<;>try simp (disch:=first|omega|simp only [lz,lU];try omega) only [go_sem]))
   refine zW.loop (fun m J O2=>∃(j:Nat) (own2:List Nat),m+j=l.length/\ CirS PoR O2 c key (PS.set t (z19 key (PS.getD t []) (l.take j))) M2 own2/\ Fr O O2 own0 own2/\ O2[O'.length]? =some (some [[.int .i64 (f:Int),.int .i64 (t:Int),.str txt]])/\ O'.length ∉ own2/\ J 0=.ptr c 0 0/\ J 5=.ptr O'.length 0 0/\ J 7=X/\ J 8=.int .i64 0/\ J 9=.int .i64 j) l.length ?_ ?_
   ·refine⟨0,own1,by omega,?_,h2.trans (Fr.ext ⟨_,rfl⟩),by rw [z18 (Nat.le_refl _),Nat.sub_self];rfl,fun e=>by have:=hlt _ e;omega,by simp only [go_sem],by simp only [go_sem],by simp only [go_sem],by simp only [go_sem],by simp only [go_sem];try rfl⟩
    rw [show z19 key (PS.getD t []) (l.take 0)=PS.getD t []from rfl,znz ht]
    exact S1.ext ploc_r ⟨_,rfl⟩
   ·rintro m J O2 ⟨j,own2,hmj,hS,hF,hB,hnB,q0,q5,q7,q8,q9⟩
    by_cases hj:j<l.length
    ·obtain⟨ex,rfl⟩:=hsv.vsl (by rw [zh];omega)
     have hgi:=z2w hj
     have hst:=zar (key:=key) (P:=PS.getD t []) hj
     have hvu:=kv l[j] (List.getElem_mem hj)
     have hdl:=zh l
     generalize l[j]=u at*
     have hul:=zi u
     have ua:(hdrC u).take 36=hdrC u:=z30 u
     have hj':(j:Int)<l.length:=by omega
     obtain⟨Q,lk,sid,pp,ow,rfl,hC⟩:=hS
     have hlen:(PS.set t (z19 key (PS.getD t []) (l.take j))).length=PS.length:=List.length_set ..
     have htt:t<(PS.set t (z19 key (PS.getD t []) (l.take j))).length:=by omega
     have hpoolI:=hC.pool t htt
     rw [z7o ht]at hpoolI
     have hpok:=z50 (hok t ht) (l.take j)
     have ho:=hC.obj
     have hrw:=hC.row
     rw [hlen]at ho
     have hppl:pp.length=PS.length:=by rw [hC.len,hlen]
     have hpp:=z3c (pp:=pp) (i:=t) (by omega)
     repeat' (first|apply zA rfl|(apply zd_ rfl<;>intro ht<;>try omega)|((first|apply zB rfl|(apply zG<;>intro ht))<;>try simp (disch:=first|omega|simp only [lz,lU];try omega) only [go_sem,q0,q5,q7,q8,q9,hgi,hdl,hul,ua,hj',ho,hrw,hpp,ht',hB]))
     have hAdd:=zfr O2 (pp.getD t 0) key _ _ u _ hpoolI hpok.sort hpok.len (z1l _ _) fun _=>rfl
     rw [show sgC u.n u.r u.i u.s (zz 32 (hr u.p))=hdrC u from rfl]at hAdd
     refine callW.mkP (caps:=[]) hAdd (PoRAddP.is hpoolI) ?_
     rintro v O3 ⟨rfl,o,f1,P1⟩
     obtain⟨g1,g2⟩:=hC.pool' ploc_r htt f1 P1
     rw [List.set_set,<-hst]at g1
     have hnB2:=g2.nin (slen hB) hnB
     have hB2:=g2.get hB hnB
     have hF2:=hF.trans g2
     have hS2:CirS PoR O3 c key (PS.set t (z19 key (PS.getD t []) (l.take (j+1)))) M2 (z1v ((PS.set t (z19 key (PS.getD t []) (l.take j))).length+2) (updO ow (t+2) o)):=⟨Q,lk,sid,pp,_,by rw [List.length_set,List.length_set],g1⟩
     generalize z1v ((PS.set t (z19 key (PS.getD t []) (l.take j))).length+2) (updO ow (t+2) o)=own3 at*
     simp (disch:=first|omega|simp only [lz,lU];try omega) only [go_sem]
     repeat' (first|apply zA rfl|(apply zd_ rfl<;>intro ht<;>try omega)|((first|apply zB rfl|(apply zG<;>intro ht))<;>try simp (disch:=first|omega|simp only [lz,lU];try omega) only [go_sem,q0,q5,q7,q8,q9]))
     exact⟨m-1,by omega,j+1,own3,by omega,hS2,hF2,hB2,hnB2,by simp⟩
    ·rw [List.take_of_length_le (by omega)]at hS
     have hj':¬(j:Int)<l.length:=by omega
     repeat' (first|apply zA rfl|(apply zd_ rfl<;>intro ht<;>try omega)|((first|apply zB rfl|(apply callW.mk_pu;exact(fun _=>hGK _))|(apply callW.za;exact(hGK _))|(apply zG<;>intro ht))<;>try simp (disch:=first|omega|simp only [lz,lU];try omega) only [go_sem,q5,q7,q9,hj',r1,hB]))
     exact⟨rfl,own2,hS,hF⟩
  |kn l=>
   obtain⟨k1,k2⟩:=hm.k
   have hml:mailC (⟨f,t,.kn l⟩:MM).ml=[.int .i64 (f:Int),.int .i64 (t:Int),.str (knS l)]:=rfl
   rw [hml]
   show z10 _ (zW _ _ _ _ (z5t _ (CirP PoR O c key _ _ PS (z4w PS M2 ⟨f,t,.kn l⟩)))) _ _ _ _
   have hG:=fun O=>zyz O l k1
   have hGK:=fun O=>zyx O l k1 k2
   have E:Ext O' (O'++ [some [[.int .i64 (f:Int),.int .i64 (t:Int),.str (knS l)]]]):=⟨_,rfl⟩
   have S2:=S1.ext ploc_r E
   obtain⟨Q,lk,sid,pp,ow,rfl,hC⟩:=S2
   have hB:(O'++ [some [[.int .i64 (f:Int),.int .i64 (t:Int),.str (knS l)]]])[O'.length]? =some (some [[.int .i64 (f:Int),.int .i64 (t:Int),.str (knS l)]]):=by rw [z18 (Nat.le_refl _),Nat.sub_self];rfl
   have ho:=hC.obj
   have hrw:=hC.row
   have hpo:=hok t ht
   have hpol:=hpo.len
   have hpp:=z3c (pp:=pp) (i:=t) (by rw [hC.len];exact ht)
   obtain⟨v,psid,hpo2,hpv,hprow,_⟩:=hC.pool t ht
   have hr32:=z60 key v
   have hMs:=zmn _ (PS.getD t []) l psid v (zz 33 (knP l)) hprow (z1l _ _) (by omega) (by omega)
   have hPt:=fun O=>zmp O (z1a (PS.getD t []) l) _ (z1l _ _) (z6w _ _)
   have hS:=zfy _ lk PS.length sid (M2.map MM.ml) (repM PS ⟨f,t,.kn l⟩ l).ml hC.lk (by omega) (by simpa using hM2l)
   have hE:=z7t (m:=(repM PS ⟨f,t,.kn l⟩ l).ml) hC.lk
   have hrm:(repM PS ⟨f,t,.kn l⟩ l).ml=⟨(t:Int),(f:Int),gtS (z1a (PS.getD t []) l)⟩:=rfl
   unfold z4w
   dsimp only
   have hfin2:CirS PoR (O'++ [some [[.int .i64 (f:Int),.int .i64 (t:Int),.str (knS l)]]]) c key PS M2 (z1v (PS.length+2) ow):=⟨Q,lk,sid,pp,ow,rfl,hC⟩
   have hFr:=h2.trans (Fr.ext E)
   rw [List.length_map]at hS hE
   have hargs:mailC (repM PS ⟨f,t,.kn l⟩ l).ml=[.int .i64 (t:Int),.int .i64 (f:Int),.str (gtS (z1a (PS.getD t []) l))]:=by rw [hrm];rfl
   rw [hargs]at hS
   by_cases h0:z1a (PS.getD t []) l=[]
   ·rw [if_neg fun h=>h.1 h0]
    rw [h0,zc0]at hPt
    rw [h0]at hMs
    clear hS hE
    have hres:CirP PoR O c key own0 (.int .i64 0) PS M2 (.int .i64 0) (O'++ [some [[.int .i64 (f:Int),.int .i64 (t:Int),.str (knS l)]]]):=⟨rfl,_,hfin2,hFr⟩
    have dc:=slen ho
    have dB:=slen hB
    clear hfin2 S1 hC E hFr hprow hlt
    simp (disch:=first|omega|simp only [lz,lU];try omega) only [go_sem]
    generalize hσ2:(O'++ [some [[.int .i64 (f:Int),.int .i64 (t:Int),.str (knS l)]]]:Store)=O2 at*
    repeat' (first|apply zA rfl|(apply zd_ rfl<;>intro ht<;>try omega)|((first|apply zB rfl|(apply callW.mk_pu;exact(fun _=>hG _))|(apply callW.za;exact(hG _))|(apply zG<;>intro ht))<;>try simp (disch:=first|omega|simp only [lz,lU];try omega) only [go_sem,hB]))
    refine zW.loop (fun m J O3=>O3=O2/\ J 0=.ptr c 0 0/\ J 5=.ptr O'.length 0 0/\ J 7=.nilsl/\ J 8=.int .i64 10/\ J 9=.int .i64 0) 0 ?_ ?_
    ·exact⟨rfl,by simp only [go_sem],by simp only [go_sem],by simp only [go_sem],by simp only [go_sem],by simp only [go_sem];try rfl⟩
    rintro m3 J O3 ⟨rfl,q0,q5,q7,q8,q9⟩
    repeat' (first|apply zA rfl|(apply zd_ rfl<;>intro ht<;>try omega)|((first|apply zB rfl|(apply callW.mk_pu;(first|exact(fun _=>hGK _)|exact(fun _=>hMs)|exact(fun _=>hPt _)))|(apply callW.za;(first|exact(hGK _)|exact(hMs)|exact(hPt _)))|(apply zG<;>intro ht))<;>try simp (disch:=first|omega|simp only [lz,lU];try omega) only [go_sem,q0,q5,q7,q9,ho,hrw,hpp,hpv,hr32,ht',hB]))
    exact hres
   ·rw [zc1 h0 fun q hq=>(z7w hq).2.1]at hPt
    have hmm:(if z1t PS.length M2.length (repM PS ⟨f,t,.kn l⟩ l).ml=0 then M2.map MM.ml++ [(repM PS ⟨f,t,.kn l⟩ l).ml]else M2.map MM.ml)=(if z1a (PS.getD t []) l ≠ []/\ z1t PS.length M2.length (repM PS ⟨f,t,.kn l⟩ l).ml=0 then M2++ [repM PS ⟨f,t,.kn l⟩ l]else M2).map MM.ml:=by
     by_cases e:z1t PS.length M2.length (repM PS ⟨f,t,.kn l⟩ l).ml=0
     ·rw [if_pos e,if_pos ⟨h0,e⟩,List.map_append];rfl
     ·rw [if_neg e,if_neg fun h=>e h.2]
    generalize z1t PS.length M2.length (repM PS ⟨f,t,.kn l⟩ l).ml=e at*
    generalize repM PS ⟨f,t,.kn l⟩ l=m at*
    generalize gtS (z1a (PS.getD t []) l)=txt at*
    have dc:=slen ho
    have dB:=slen hB
    clear hfin2 S1 E hprow hlt
    simp (disch:=first|omega|simp only [lz,lU];try omega) only [go_sem]
    generalize hσ2:(O'++ [some [[.int .i64 (f:Int),.int .i64 (t:Int),.str (knS l)]]]:Store)=O2 at*
    repeat' (first|apply zA rfl|(apply zd_ rfl<;>intro ht<;>try omega)|((first|apply zB rfl|(apply callW.mk_pu;exact(fun _=>hG _))|(apply callW.za;exact(hG _))|(apply zG<;>intro ht))<;>try simp (disch:=first|omega|simp only [lz,lU];try omega) only [go_sem,hB]))
    refine zW.loop (fun m J O3=>O3=O2/\ J 0=.ptr c 0 0/\ J 5=.ptr O'.length 0 0/\ J 7=.nilsl/\ J 8=.int .i64 10/\ J 9=.int .i64 0) 0 ?_ ?_
    ·exact⟨rfl,by simp only [go_sem],by simp only [go_sem],by simp only [go_sem],by simp only [go_sem],by simp only [go_sem];try rfl⟩
    rintro m3 J O3 ⟨rfl,q0,q5,q7,q8,q9⟩
    repeat' (first|apply zA rfl|(apply zd_ rfl<;>intro ht<;>try omega)|((first|apply zB rfl|(apply callW.mk_pu;(first|exact(fun _=>hGK _)|exact(fun _=>hMs)|exact(fun _=>hPt _)))|(apply callW.za;(first|exact(hGK _)|exact(hMs)|exact(hPt _)))|(apply zG<;>intro ht))<;>try simp (disch:=first|omega|simp only [lz,lU];try omega) only [go_sem,q0,q5,q7,q9,ho,hrw,hpp,hpv,hr32,ht',hB]))
    refine callW.mkP (caps:=[]) hS hE ?_
    rintro v2 O3 ⟨rfl,sid2,j1,j2⟩
    rw [hmm]at j1
    obtain⟨g1,g2⟩:=hC.links' ploc_r j2 j1
    simp (disch:=first|omega|simp only [lz,lU];try omega) only [go_sem]
    repeat' (first|apply zA rfl|(apply zd_ rfl<;>intro ht<;>try omega)|((first|apply zB rfl|(apply zG<;>intro ht))<;>try simp (disch:=first|omega|simp only [lz,lU];try omega) only [go_sem]))
    exact⟨rfl,_,⟨_,lk,sid2,pp,_,rfl,g1⟩,hFr.trans g2⟩
 ·rw [if_neg ha,if_neg ha,if_neg ha]
  unfold z34 at S1
  rw [if_neg ha]at S1
  have ha':(atS PS.length M.length i==0)=false:=beq_eq_false_iff_ne.2 ha
  generalize atS PS.length M.length i=e at*
  simp (disch:=first|omega|simp only [lz,lU];try omega) only [go_sem,mailC]
  repeat' (first|apply zA rfl|(apply zd_ rfl<;>intro ht<;>try omega)|((first|apply zB rfl|(apply zG<;>intro ht))<;>try simp (disch:=first|omega|simp only [lz,lU];try omega) only [go_sem]))
  exact⟨rfl,own1,S1.ext ploc_r ⟨_,rfl⟩,h2.trans (Fr.ext ⟨_,rfl⟩)⟩
end
section
variable {O:Store} {c:Nat} {key:Hash} {PS:List (List Hdr)} {M:List MM} {own:List Nat}
theorem zmt(h:CirS PoR O c key PS M own)(hok:POks key PS)(i k:Nat)(hi:i<PS.length)(hk:k<PS.length)(hik:i ≠ k):
  ACallsP TC 81 [.ptr c 0 0,.int .i64 i,.int .i64 k] O (CirP PoR O c key own (.int .i64 ((z1q key 17 (PS.getD i []) (PS.getD k []) 1).1:Nat)) (PS.set i (z1q key 17 (PS.getD i []) (PS.getD k []) 1).2) M):=by
 have hQ:=hok k hk
 have hP0:=hok i hi
 have hset:=znz hi
 have hgk:∀P:List Hdr,(PS.set i P).getD k []=PS.getD k []:=fun P=>by simp [List.getD,List.getElem?_set_ne hik]
 have hgi:∀P:List Hdr,(PS.set i P).getD i []=P:=fun P=>z7o hi P
 generalize hR:z1q key 17 (PS.getD i []) (PS.getD k []) 1=R
 refine ACallsP.of_keep q46ok (by simp) ?_
 repeat' (first|apply zA rfl|(apply zd_ rfl<;>intro ht<;>try omega)|((first|apply zB rfl|(apply zG<;>intro ht))<;>try simp (disch:=first|omega|simp only [lz,lU];try omega) only [go_sem]))
 refine zW.loop (fun m J O'=>∃(P:List Hdr) (n f:Nat) (own':List Nat),m+P.length=16/\ m<f/\ n+2*m<=33/\ POk key P/\ CirS PoR O' c key (PS.set i P) M own'/\ Fr O O' own own'/\ z1q key f P (PS.getD k []) (n+1)=R/\ J 0=.ptr c 0 0/\ J 1=.int .i64 i/\ J 2=.int .i64 k/\ J 7=.int .i64 n) (16-(PS.getD i []).length) ?_ ?_
 ·exact⟨PS.getD i [],0,17,own,by have:=hP0.len;omega,by omega,by omega,hP0,by rw [hset];exact h,⟨fun _ _ _=>rfl,fun _ h=> .inl h,Nat.le_refl _⟩,hR,by simp only [go_sem],by simp only [go_sem],by simp only [go_sem],by simp only [go_sem];try rfl⟩
 ·rintro m J O' ⟨P,n,f,own',hm,hf,hn,hP,hS,hF,hG,q0,q1,q2,q7⟩
  obtain⟨f,rfl⟩:∃g,f=g+1:=⟨f-1,by omega⟩
  unfold z1q at hG
  have hS0:=hS
  obtain⟨Q,lk,sid,pp,ow,rfl,hC⟩:=hS
  have hlen:(PS.set i P).length=PS.length:=List.length_set ..
  have ho:=hC.obj
  have hrw:=hC.row
  rw [hlen]at ho
  have hppl:pp.length=PS.length:=by rw [hC.len,hlen]
  have hppi:=z3c (pp:=pp) (i:=i) (by omega)
  have hppk:=z3c (pp:=pp) (i:=k) (by omega)
  have hpl:(pp.map fun p=>[AV.ptr p 0 0]).length=PS.length:=by rw [List.length_map,hppl]
  have hi':(i:Int)<PS.length:=by omega
  have hk':(k:Int)<PS.length:=by omega
  have hIk:=hC.pool k (by omega)
  have hIi:=hC.pool i (by omega)
  rw [hgk]at hIk
  rw [hgi]at hIi
  have hQl:=hQ.len
  obtain⟨v,psid,hpo2,hpv,hprow,hpne⟩:=hIk
  have hrl:=z12 key v
  have hr32:=z60 key v
  have hKn:=zfu O' (pp.getD i 0) key _ _ hIi (by omega)
  have hMs:=zmn O' (PS.getD k []) (hns P) psid v (zz 33 (kn P)) hprow (by rw [<-zbl];exact z1l _ _) (by omega) (by rw [z7r];omega)
  have hXm:=z6w (PS.getD k []) (hns P)
  have hXv:∀q ∈ z1a (PS.getD k []) (hns P),valH q=true:=fun q hq=>(z7w hq).2.1
  generalize z1a (PS.getD k []) (hns P)=X at*
  have hsv:=z1l 36 (hdrs X)
  have r1:=hsv.len
  rw [zh]at r1
  unfold z1f at r1
  generalize zz 36 (hdrs X)=x at*
  have hcast:((n:Int)+1)=((n+1:Nat):Int):=by omega
  by_cases h0:X=[]
  ·rw [if_pos h0]at hG
   subst h0
   subst hG
   have hz:([]:List Hdr).length=0:=rfl
   rw [hz]at r1
   repeat' (first|apply zA rfl|(apply zd_ rfl<;>intro ht<;>try omega)|((first|apply zB rfl|(apply callW.mk_pu;(first|exact(fun _=>hKn)|exact(fun _=>hMs)))|(apply callW.za;(first|exact(hKn)|exact(hMs)))|(apply zG<;>intro ht))<;>try simp (disch:=first|omega|simp only [lz,lU];try omega) only [go_sem,q0,q1,q2,q7,ho,hrw,hppi,hppk,hi',hk',hpv,hr32,r1]))
   exact⟨by simp,_,hS0,hF⟩
  rw [if_neg h0]at hG
  have hz:((X.length:Int)==0)=false:=beq_eq_false_iff_ne.2 (by have:=List.length_pos_iff.2 h0;omega)
  repeat' (first|apply zA rfl|(apply zd_ rfl<;>intro ht<;>try omega)|((first|apply zB rfl|(apply callW.mk_pu;(first|exact(fun _=>hKn)|exact(fun _=>hMs)))|(apply callW.za;(first|exact(hKn)|exact(hMs)))|(apply zG<;>intro ht))<;>try simp (disch:=first|omega|simp only [lz,lU];try omega) only [go_sem,q0,q1,q2,q7,ho,hrw,hppi,hppk,hi',hk',hpv,hr32,r1,hz]))
  refine zW.loop (fun m2 J O2=>∃(j:Nat) (own2:List Nat),m2+j=X.length/\ CirS PoR O2 c key (PS.set i (z19 key P (X.take j))) M own2/\ Fr O O2 own own2/\ J 0=.ptr c 0 0/\ J 1=.int .i64 i/\ J 2=.int .i64 k/\ J 7=.int .i64 ((n+2:Nat):Int)/\ J 8=x/\ J 9=.bool (decide (P.length<(z19 key P (X.take j)).length))/\ J 10=.int .i64 j) X.length ?_ ?_
  ·exact⟨0,_,by omega,by rw [show z19 key P (X.take 0)=P from rfl];exact hS0,hF,by simp only [go_sem,q0],by simp only [go_sem,q1],by simp only [go_sem,q2],by simp only [go_sem,q7];exact congrArg (AV.int .i64) (by omega),by simp only [go_sem],by rw [show z19 key P (X.take 0)=P from rfl,decide_eq_false (by omega)];simp (disch:=first|omega|simp only [lz,lU];try omega) only [go_sem],by simp only [go_sem];try rfl⟩
  ·clear q0 q1 q2 q7 hKn hMs hIi hC hrw ho hppi hppk hpl hppl hS0 hF hprow hpv hpo2 hrl hr32 hpne
   clear ow sid pp lk Q
   rintro m2 J O2 ⟨j,own2,hm2,hS2,hF2,q0,q1,q2,q7,q8,q9,q10⟩
   by_cases hj:j<X.length
   ·obtain⟨ex,rfl⟩:=hsv.vsl (by rw [zh];omega)
    have hgj:=z2w hj
    have hst:=zar (key:=key) (P:=P) hj
    have hvu:=hXv X[j] (List.getElem_mem hj)
    have hdl:=zh X
    generalize X[j]=u at*
    have hul:=zi u
    have ua:(hdrC u).take 36=hdrC u:=z30 u
    have hj':(j:Int)<X.length:=by omega
    obtain⟨Q,lk,sid,pp,ow,rfl,hC⟩:=hS2
    have hpok:=z50 hP (X.take j)
    have hge:=zaq key (X.take j) P
    have hstl:=zdd key (z19 key P (X.take j)) u
    rw [<-hst]at hstl
    have hlen2:(PS.set i (z19 key P (X.take j))).length=PS.length:=List.length_set ..
    have hIi:=hC.pool i (by omega)
    rw [hgi]at hIi
    have ho:=hC.obj
    have hrw:=hC.row
    rw [hlen2]at ho
    have hppl:pp.length=PS.length:=by rw [hC.len,hlen2]
    have hppi:=z3c (pp:=pp) (i:=i) (by omega)
    have hpl:(pp.map fun p=>[AV.ptr p 0 0]).length=PS.length:=by rw [List.length_map,hppl]
    repeat' (first|apply zA rfl|(apply zd_ rfl<;>intro ht<;>try omega)|((first|apply zB rfl|(apply zG<;>intro ht))<;>try simp (disch:=first|omega|simp only [lz,lU];try omega) only [go_sem,q0,q1,q8,q10,hgj,hdl,hul,ua,hj',ho,hrw,hppi,hi']))
    have hAdd:=zfr O2 (pp.getD i 0) key _ _ u _ hIi hpok.sort hpok.len (z1l _ _) fun _=>rfl
    rw [show sgC u.n u.r u.i u.s (zz 32 (hr u.p))=hdrC u from rfl]at hAdd
    refine callW.mkP (caps:=[]) hAdd (PoRAddP.is hIi) ?_
    rintro v O3 ⟨rfl,o,f1,P1⟩
    obtain⟨h1,h2⟩:=hC.pool' ploc_r (by omega) f1 P1
    rw [List.set_set,<-hst]at h1
    have hF3:=hF2.trans h2
    have hS3:CirS PoR O3 c key (PS.set i (z19 key P (X.take (j+1)))) M (z1v ((PS.set i (z19 key P (X.take j))).length+2) (updO ow (i+2) o)):=⟨Q,lk,sid,pp,_,by rw [List.length_set,List.length_set],h1⟩
    generalize z1v ((PS.set i (z19 key P (X.take j))).length+2) (updO ow (i+2) o)=own3 at*
    generalize addC key (z19 key P (X.take j)) u=e at*
    have hflag:∀b:Bool,decide (P.length<(z19 key P (X.take j)).length)=b->decide (P.length<(z19 key P (X.take (j+1))).length)=(b ||decide (e=2 \/e=3)):=by
     intro b hb
     subst hb
     rw [hstl]
     by_cases e1:e=2 \/e=3
     ·rw [if_pos e1,decide_eq_true e1,Bool.or_true];exact decide_eq_true (by omega)
     ·rw [if_neg e1,decide_eq_false e1,Bool.or_false]
    generalize decide (P.length<(z19 key P (X.take j)).length)=b at*
    have hfl:=hflag b rfl
    cases b
    ·by_cases e2:e=2
     ·subst e2
      simp (disch:=first|omega|simp only [lz,lU];try omega) only [go_sem]
      repeat' (first|apply zA rfl|(apply zd_ rfl<;>intro ht<;>try omega)|((first|apply zB rfl|(apply zG<;>intro ht))<;>try simp (disch:=first|omega|simp only [lz,lU];try omega) only [go_sem,q0,q1,q2,q7,q8,q9,q10]))
      exact⟨m2-1,by omega,j+1,own3,by omega,hS3,hF3,by rw [hfl];simp⟩
     ·by_cases e3:e=3
      ·subst e3
       simp (disch:=first|omega|simp only [lz,lU];try omega) only [go_sem]
       repeat' (first|apply zA rfl|(apply zd_ rfl<;>intro ht<;>try omega)|((first|apply zB rfl|(apply zG<;>intro ht))<;>try simp (disch:=first|omega|simp only [lz,lU];try omega) only [go_sem,q0,q1,q2,q7,q8,q9,q10]))
       exact⟨m2-1,by omega,j+1,own3,by omega,hS3,hF3,by rw [hfl];simp⟩
      ·have e2':(e==2)=false:=beq_eq_false_iff_ne.2 e2
       have e3':(e==3)=false:=beq_eq_false_iff_ne.2 e3
       rw [decide_eq_false (show ¬(e=2 \/e=3)by omega),Bool.or_false]at hfl
       simp (disch:=first|omega|simp only [lz,lU];try omega) only [go_sem]
       repeat' (first|apply zA rfl|(apply zd_ rfl<;>intro ht<;>try omega)|((first|apply zB rfl|(apply zG<;>intro ht))<;>try simp (disch:=first|omega|simp only [lz,lU];try omega) only [go_sem,q0,q1,q2,q7,q8,q9,q10,e2',e3']))
       exact⟨m2-1,by omega,j+1,own3,by omega,hS3,hF3,by rw [hfl];simp⟩
    ·rw [Bool.true_or]at hfl
     simp (disch:=first|omega|simp only [lz,lU];try omega) only [go_sem]
     repeat' (first|apply zA rfl|(apply zd_ rfl<;>intro ht<;>try omega)|((first|apply zB rfl|(apply zG<;>intro ht))<;>try simp (disch:=first|omega|simp only [lz,lU];try omega) only [go_sem,q0,q1,q2,q7,q8,q9,q10]))
     exact⟨m2-1,by omega,j+1,own3,by omega,hS3,hF3,by rw [hfl];simp⟩
   ·rw [List.take_of_length_le (by omega)]at hS2 q9
    have hj':¬(j:Int)<X.length:=by omega
    have hge:=zaq key X P
    have hPX:=z50 hP X
    have hXl:=hPX.len
    by_cases hmo:(z19 key P X).length=P.length
    ·rw [if_pos hmo]at hG
     rw [decide_eq_false (by omega)]at q9
     subst hG
     repeat' (first|apply zA rfl|(apply zd_ rfl<;>intro ht<;>try omega)|((first|apply zB rfl|(apply zG<;>intro ht))<;>try simp (disch:=first|omega|simp only [lz,lU];try omega) only [go_sem,q7,q8,q9,q10,hj',r1]))
     exact⟨by first|rfl|exact congrArg (AV.int .i64) (by dsimp only;omega),own2,hS2,hF2⟩
    ·rw [if_neg hmo]at hG
     rw [decide_eq_true (by omega)]at q9
     repeat' (first|apply zA rfl|(apply zd_ rfl<;>intro ht<;>try omega)|((first|apply zB rfl|(apply zG<;>intro ht))<;>try simp (disch:=first|omega|simp only [lz,lU];try omega) only [go_sem,q0,q1,q2,q7,q8,q9,q10,hj',r1]))
     exact⟨16-(z19 key P X).length,by omega,z19 key P X,n+2,f,own2,by omega,by omega,by omega,hPX,hS2,hF2,hG,by simp⟩
theorem zmr(h:CirS PoR O c key PS M own)(hok:POks key PS)(i k:Int):
  ACallsP TC 37 [.ptr c 0 0,.int .i64 i,.int .i64 k] O (CirP PoR O c key own (metI key PS i k) (metS key PS i k) M):=by
 have hfin:=h
 obtain⟨Q,lk,sid,pp,ow,hown,hC⟩:=h
 have hN:=zmu O c Q lk _ i k hC.obj
 clear hC hown
 refine ACallsP.of_keep q3zok (by simp) ?_
 unfold metI metS
 by_cases ht:twoN PS.length i k=true
 ·rw [ht]at hN
  rw [if_pos ht,if_pos ht]
  unfold twoN at ht
  simp only [Bool.and_eq_true,Bool.not_eq_true',decide_eq_false_iff_not]at ht
  obtain⟨⟨hi,hk⟩,hne⟩:=ht
  obtain⟨a,rfl,ha⟩:=z3x hi
  obtain⟨b,rfl,hb⟩:=z3x hk
  have hab:a ≠ b:=fun e=>hne (by rw [e])
  repeat' (first|apply zA rfl|(apply zd_ rfl<;>intro ht<;>try omega)|((first|apply zB rfl|(apply callW.mk_pu;exact(fun _=>hN))|(apply callW.za;exact(hN))|(apply zG<;>intro ht))<;>try simp (disch:=first|omega|simp only [lz,lU];try omega) only [go_sem]))
  refine callW.mkP (caps:=[]) (zmt hfin hok a b ha hb hab) (CirP.is ploc_r z4e hfin _ (by simp)) ?_
  rintro v O2 ⟨rfl,own2,S2,f2⟩
  have hn1:=z9m key (PS.getD b []) 17 (PS.getD a []) 1
  have hok2:POks key (PS.set a (z1q key 17 (PS.getD a []) (PS.getD b []) 1).2):=hok.set a (z9n key _ 17 1 (hok a ha))
  have hga:(PS.set a (z1q key 17 (PS.getD a []) (PS.getD b []) 1).2).getD a []=(z1q key 17 (PS.getD a []) (PS.getD b []) 1).2:=z7o ha _
  have hgb:(PS.set a (z1q key 17 (PS.getD a []) (PS.getD b []) 1).2).getD b []=PS.getD b []:=by simp [List.getD,List.getElem?_set_ne hab]
  have hA:=zmt S2 hok2 b a (by simpa using hb) (by simpa using ha) (fun e=>hab e.symm)
  rw [hga,hgb]at hA
  unfold metN
  dsimp only
  have hn2:=z9m key (z1q key 17 (PS.getD a []) (PS.getD b []) 1).2 17 (PS.getD b []) 1
  generalize (z1q key 17 (PS.getD b []) (z1q key 17 (PS.getD a []) (PS.getD b []) 1).2 1)=r2 at*
  generalize (z1q key 17 (PS.getD a []) (PS.getD b []) 1)=r1 at*
  simp (disch:=first|omega|simp only [lz,lU];try omega) only [go_sem]
  repeat' (first|apply zA rfl|(apply zd_ rfl<;>intro ht<;>try omega)|((first|apply zB rfl|(apply zG<;>intro ht))<;>try simp (disch:=first|omega|simp only [lz,lU];try omega) only [go_sem]))
  refine callW.mkP (caps:=[]) hA (CirP.is ploc_r z4e S2 _ (by simp)) ?_
  rintro v O3 ⟨rfl,own3,S3,f3⟩
  simp (disch:=first|omega|simp only [lz,lU];try omega) only [go_sem]
  repeat' (first|apply zA rfl|(apply zd_ rfl<;>intro ht<;>try omega)|((first|apply zB rfl|(apply zG<;>intro ht))<;>try simp (disch:=first|omega|simp only [lz,lU];try omega) only [go_sem]))
  exact⟨by simp,own3,S3,f2.trans f3⟩
 ·rw [Bool.eq_false_iff.2 ht]at hN
  rw [if_neg ht,if_neg ht]
  have hres:CirP PoR O c key own (.tup [.int .i64 0,.int .i64 2]) PS M (.tup [.int .i64 0,.int .i64 2]) O:=⟨rfl,_,hfin,⟨fun _ _ _=>rfl,fun _ h=> .inl h,Nat.le_refl _⟩⟩
  repeat' (first|apply zA rfl|(apply zd_ rfl<;>intro ht<;>try omega)|((first|apply zB rfl|(apply callW.mk_pu;exact(fun _=>hN))|(apply callW.za;exact(hN))|(apply zG<;>intro ht))<;>try simp (disch:=first|omega|simp only [lz,lU];try omega) only [go_sem]))
  exact hres
end
end
section
structure NewR(τ O:Store)(key:Hash)(n i:Nat)(w:AV)(pp:List Nat)(sid:Option Nat):Prop where
 ext:Ext τ O
 len:pp.length=i
 box:O[τ.length]? =some (some [hc key])
 lk:O[τ.length+1]? =some (some [[.int .i64 n,.nilsl]])
 obj:O[τ.length+2]? =some (some [[w,.ptr (τ.length+1) 0 0]])
 row:RowAt 1 O sid w (pp.map fun p=>[.ptr p 0 0])
 pool:∀p ∈ pp,O[p]? =some (some [reC key .nilsl])/\ τ.length+2<p
 nd:pp.Nodup
 sid:∀s,sid=some s->τ.length+2<s/\ s ∉ pp
theorem NewR.step{O2:Store}{key:Hash}{w:AV}{pp:List Nat}(h:NewR τ O key n i w pp sid)
  (hr:O2[O.length+1]? =some (some ((pp.map fun p=>[.ptr p 0 0])++ [[.ptr O.length 0 0]]))) (hl:O2.length=O.length+2) (hk:∀j,j<O.length+1->sid ≠ some j->O2[j]? =(O++ [some [reC key .nilsl]])[j]?):
  NewR τ (O2.set (τ.length+2) (some [[.sl (O.length+1) 0 (i+1) none 1,.ptr (τ.length+1) 0 0]])) key n (i+1) (.sl (O.length+1) 0 (i+1) none 1) (pp++ [O.length]) (some (O.length+1)):=by
 have d:=slen h.obj
 have hns:∀j,j<=τ.length+2->sid ≠ some j:=fun j hj e=>by have:=(h.sid j e).1;omega
 have hlow:∀j,j<O.length->j ≠ τ.length+2->sid ≠ some j->(O2.set (τ.length+2) (some [[.sl (O.length+1) 0 (i+1) none 1,.ptr (τ.length+1) 0 0]]))[j]? =O[j]?:=fun j hj h1 h2=>by
  rw [z1h (fun e=>h1 e.symm),hk j (by omega) h2,gapp hj]
 have hpl:∀p ∈ pp,p<O.length:=fun p hp=>slen (h.pool p hp).1
 have hmap:((pp++ [O.length]).map fun p=>[AV.ptr p 0 0])=(pp.map fun p=>[.ptr p 0 0])++ [[.ptr O.length 0 0]]:=by simp
 refine { ext:= ?_,len:=by rw [List.length_append,h.len];rfl,box:= ?_,lk:= ?_,obj:= ?_,row:= ?_,pool:= ?_,nd:= ?_,sid:= ?_ }
 ·obtain⟨y,hy⟩:=h.ext
  refine zjz (by rw [List.length_set,hl];omega) fun j hj=> ?_
  rw [hlow j (by omega) (by omega) (hns j (by omega)),hy,gapp hj]
 ·rw [hlow _ (by omega) (by omega) (hns _ (by omega))];exact h.box
 ·rw [hlow _ (by omega) (by omega) (hns _ (by omega))];exact h.lk
 ·exact z2a (by omega)
 ·refine .inr ⟨_,rfl,by simp,?_,?_⟩
  ·rw [List.length_map,List.length_append,h.len];rfl
  ·rw [z1h (by omega),hr,hmap]
 ·intro p hp
  rcases List.mem_append.1 hp with h1|h1
  ·obtain⟨h2,h3⟩:=h.pool p h1
   refine⟨?_,h3⟩
   rw [hlow p (hpl p h1) (by omega) fun e=>(h.sid p e).2 h1];exact h2
  ·rw [List.mem_singleton.1 h1]
   refine⟨?_,by omega⟩
   rw [z1h (by omega),hk _ (by omega) fun e=>by
    have hh:=h.row
    rcases hh with⟨e2,_⟩| ⟨q,e2,_,_,hq⟩
    ·rw [e2]at e;cases e
    ·rw [e2]at e;injection e with e;have:=slen hq;omega,z18 (by omega),Nat.sub_self]
   rfl
 ·rw [List.nodup_append]
  refine⟨h.nd,by simp,fun a ha b hb=> ?_⟩
  rw [List.mem_singleton.1 hb];have:=hpl a ha;omega
 ·intro s hs
  injection hs with hs;subst hs
  refine⟨by omega,fun hm=> ?_⟩
  rcases List.mem_append.1 hm with h1|h1
  ·have:=hpl _ h1;omega
  ·have:=List.mem_singleton.1 h1;omega
def CNewR(τ:Store)(key:Hash)(n:Nat)(v:AV)(O':Store):Prop:=∃c own,v=.tup [.ptr c 0 0,.int .i64 0]/\ Ext τ O'/\ CirS PoR O' c key (List.replicate n []) [] own/\ ∀x ∈ own,τ.length<=x
theorem NewR.fin{key:Hash}{w:AV}{pp:List Nat}(h:NewR τ O key n n w pp sid)(h0:0<n):CNewR τ key n (.tup [.ptr (τ.length+2) 0 0,.int .i64 0]) O:=by
 have hrow:=h.row
 rcases hrow with⟨_,h1,_⟩| ⟨q,hq,h1,hw,hg⟩
 ·have:=congrArg List.length h1
  rw [List.length_map,h.len]at this;simp at this;omega
 have hql:(pp.map fun p=>[AV.ptr p 0 0]).length=n:=by rw [List.length_map,h.len]
 rw [hql]at hw
 subst hw
 have hsid:=h.sid q hq
 let ow:Nat->List Nat:=fun j=>if j=0 then [τ.length+2,q]else if j=1 then [τ.length+1]else [pp.getD (j-2) 0]
 have hpm:∀j,j<n->pp.getD j 0 ∈ pp:=fun j hj=>by
  rw [show pp.getD j 0=pp[j]'(by rw [h.len];exact hj)by simp [List.getD,h.len,hj]];exact List.getElem_mem _
 have hge:∀j,j<n+2->∀x ∈ ow j,τ.length<=x:=by
  intro j hj x hx
  show τ.length<=x
  simp only [ow]at hx
  split at hx
  ·simp at hx;omega
  ·split at hx
   ·simp at hx;omega
   ·rw [List.mem_singleton]at hx;have:=(h.pool _ (hpm (j-2) (by omega))).2;omega
 refine⟨τ.length+2,z1v (n+2) ow,rfl,h.ext,⟨q,τ.length+1,none,pp,ow,by rw [List.length_replicate],?_⟩,fun x hx=> ?_⟩
 ·exact {
   o0:=rfl
   o1:=rfl
   len:=by rw [h.len,List.length_replicate]
   obj:=by rw [List.length_replicate];exact h.obj
   row:=hg
   lk:=⟨by rw [List.length_replicate];exact h.lk,rfl,by simp⟩
   pool:=fun i hi=>by
    rw [List.length_replicate]at hi
    obtain⟨h2,h3⟩:=h.pool _ (hpm i hi)
    refine⟨.nilsl,none,?_,h2,.inl ⟨rfl,?_,rfl⟩,by simp⟩
    ·simp [ow]
    ·simp [List.getD,hi,hdrs]
   apart:=by
    rw [List.length_replicate]
    intro i j hi hj hne x hx hx2
    simp only [ow]at hx hx2
    have hp:=fun k (hk:k<n+2) (h2:¬k=0) (h3:¬k=1)=>(h.pool _ (hpm (k-2) (by omega))).2
    have hqq:=fun k (hk:k<n+2) (h2:¬k=0) (h3:¬k=1) (e:q=pp.getD (k-2) 0)=>hsid.2 (by rw [e];exact hpm (k-2) (by omega))
    by_cases i0:i=0
    ·rw [if_pos i0]at hx
     rw [if_neg (by omega)]at hx2
     by_cases j1:j=1
     ·rw [if_pos j1]at hx2;simp at hx hx2;omega
     ·rw [if_neg j1]at hx2;simp at hx hx2
      have:=hp j hj (by omega) j1
      rcases hx with rfl|rfl
      ·simp [List.getD]at this;omega
      ·exact hqq j hj (by omega) j1 (by simp [List.getD];exact hx2)
    ·rw [if_neg i0]at hx
     by_cases i1:i=1
     ·rw [if_pos i1]at hx
      by_cases j0:j=0
      ·rw [if_pos j0]at hx2;simp at hx hx2;omega
      ·rw [if_neg j0,if_neg (by omega)]at hx2
       have:=hp j hj j0 (by omega)
       simp at hx hx2;simp [List.getD]at this;omega
     ·rw [if_neg i1]at hx
      have hpi:=hp i hi i0 i1
      by_cases j0:j=0
      ·rw [if_pos j0]at hx2
       simp at hx hx2
       rcases hx2 with rfl|rfl
       ·simp [List.getD]at hpi;omega
       ·exact hqq i hi i0 i1 (by simp [List.getD];exact hx)
      ·rw [if_neg j0]at hx2
       by_cases j1:j=1
       ·rw [if_pos j1]at hx2
        simp at hx hx2;simp [List.getD]at hpi;omega
       ·rw [if_neg j1]at hx2
        rw [List.mem_singleton]at hx hx2
        rw [hx]at hx2
        have a1:i-2<pp.length:=by rw [h.len];omega
        have a2:j-2<pp.length:=by rw [h.len];omega
        rw [show pp.getD (i-2) 0=pp[i-2]by simp [List.getD,a1],show pp.getD (j-2) 0=pp[j-2]by simp [List.getD,a2]]at hx2
        rcases Nat.lt_or_gt_of_ne (show i-2 ≠ j-2 by omega)with hlt|hlt
        ·exact List.pairwise_iff_getElem.1 h.nd _ _ a1 a2 hlt hx2
        ·exact List.pairwise_iff_getElem.1 h.nd _ _ a2 a1 hlt hx2.symm }
 ·obtain⟨j,hj,h2⟩:=mem_allOw.1 hx
  exact hge j hj x h2
theorem CNewR.is(τ:Store)(key:Hash)(n:Nat)(h0:0<n):∃v O',CNewR τ key n v O':=by
 have hs:∀i,∃O w pp sid,NewR τ O key n i w pp sid:=by
  intro i
  induction i with
  |zero=>
   exact⟨τ++ [some [hc key],some [[.int .i64 n,.nilsl]],some [[.nilsl,.ptr (τ.length+1) 0 0]]],.nilsl,[],none,⟨_,rfl⟩,rfl,by rw [z18 (by omega),Nat.sub_self];rfl,by rw [z18 (by omega),Nat.add_sub_cancel_left];rfl,by rw [z18 (by omega),Nat.add_sub_cancel_left];rfl,.inl ⟨rfl,rfl,rfl⟩,by simp,by simp,by simp⟩
  |succ i ih=>
   obtain⟨O,w,pp,sid,h⟩:=ih
   refine⟨_,_,_,_,h.step (O2:=O++ [some [reC key .nilsl],some ((pp.map fun p=>[.ptr p 0 0])++ [[.ptr O.length 0 0]])]) ?_ (by simp) fun j hj _=> ?_⟩
   ·rw [z18 (by omega),Nat.add_sub_cancel_left];rfl
   ·rw [show O++ [some [reC key .nilsl],some ((pp.map fun p=>[AV.ptr p 0 0])++ [[.ptr O.length 0 0]])]=(O++ [some [reC key .nilsl]])++ [some ((pp.map fun p=>[AV.ptr p 0 0])++ [[.ptr O.length 0 0]])]by simp,gapp (by simpa using hj)]
 obtain⟨O,w,pp,sid,h⟩:=hs n
 exact⟨_,O,h.fin h0⟩
attribute [local irreducible] ACallsTo ACallsP
theorem zz2(O:Store)(key:Hash)(n:Int)(h:n<2 \/8<n):ACallsTo TC 32 [.agg (hc key),.int .i64 n] O (.tup [.nilp,.int .i64 2]) O:=by
 refine ACallsTo.of_body q3wok (by simp) fun hw _=> ?_
 by_cases h1:n<2
 ·repeat' (first|apply zA rfl|(apply zd_ rfl<;>intro ht<;>try omega)|((first|apply zB rfl|(apply zG<;>intro ht))<;>try simp (disch:=first|omega|simp only [lz,lU];try omega) only [go_sem,h1]))
  exact DownV.pure hw (by simp [RL,RLs])
 ·have h2:n>8:=by omega
  repeat' (first|apply zA rfl|(apply zd_ rfl<;>intro ht<;>try omega)|((first|apply zB rfl|(apply zG<;>intro ht))<;>try simp (disch:=first|omega|simp only [lz,lU];try omega) only [go_sem,h1,h2]))
  exact DownV.pure hw (by simp [RL,RLs])
theorem zz3(O:Store)(key:Hash)(n:Nat)(h2:2<=n)(h8:n<=8):ACallsP TC 32 [.agg (hc key),.int .i64 n] O (CNewR O key n):=by
 have l:=z8 key
 have tk:(hc key).take 32=hc key:=List.take_of_length_le (by omega)
 have c1:¬(n:Int)<2:=by omega
 have c2:¬(n:Int)>8:=by omega
 have hL:=fun O=>zzf O n ⟨by omega,by omega⟩
 refine ACallsP.of_keep q3wok (by simp) ?_
 repeat' (first|apply zA rfl|(apply zd_ rfl<;>intro ht<;>try omega)|((first|apply zB rfl|(apply callW.mk_pu;exact(fun _=>hL _))|(apply callW.za;exact(hL _))|(apply zG<;>intro ht))<;>try simp (disch:=first|omega|simp only [lz,lU];try omega) only [go_sem,c1,c2]))
 refine zW.loop (fun m J O'=>∃(i:Nat) (w:AV) (pp:List Nat) (sid:Option Nat),m+i=n/\ NewR O O' key n i w pp sid/\ J 1=.int .i64 n/\ J 2=.ptr O.length 0 0/\ J 8=.ptr (O.length+2) 0 0/\ J 9=.int .i64 i) n ?_ ?_
 ·refine⟨0,.nilsl,[],none,by omega,?_,by simp only [go_sem],by simp only [go_sem],by simp only [go_sem],by simp only [go_sem];try rfl⟩
  exact⟨⟨_,rfl⟩,rfl,by simp,by simp,by simp,.inl ⟨rfl,rfl,rfl⟩,by simp,by simp,by simp⟩
 ·rintro m J O' ⟨i,w,pp,sid,hm,hS,q1,q2,q8,q9⟩
  by_cases hi:i<n
  ·have hi':(i:Int)<n:=by omega
   have hb:=hS.box
   have ho:=hS.obj
   have db:=slen hb
   have do':=slen ho
   have hrow:RowAt 1 (O'++ [some [reC key .nilsl]]) sid w (pp.map fun p=>[.ptr p 0 0]):=hS.row.keep fun q hq=>gapp (hS.row.lt hq)
   obtain⟨O2,ha,hr,hl2,hk⟩:=znm (x:=.ptr O'.length 0 0) hrow (by rw [List.length_map,hS.len];omega)
   have hlen:(O'++ [some [reC key .nilsl]]).length=O'.length+1:=by simp
   rw [hlen]at hr hl2 hk ha
   have hN:=hS.step hr hl2 hk
   rw [List.length_map,hS.len]at ha
   have ho2:O2[O.length+2]? =some (some [[w,.ptr (O.length+1) 0 0]]):=by
    rw [hk _ (by omega) fun e=>by have:=(hS.sid _ e).1;omega,gapp do'];exact ho
   have hre:reC key .nilsl=hc key++ [.nilsl]:=rfl
   rw [hre]at ha
   repeat' (first|apply zA rfl|(apply zd_ rfl<;>intro ht<;>try omega)|((first|apply zB rfl|(apply zG<;>intro ht))<;>try simp (disch:=first|omega|simp only [lz,lU];try omega) only [go_sem,q1,q2,q8,q9,hb,ho,ho2,hi',tk,l,ha]))
   exact⟨m-1,by omega,i+1,_,_,_,by omega,hN,by simp⟩
  ·obtain rfl:i=n:=by omega
   repeat' (first|apply zA rfl|(apply zd_ rfl<;>intro ht<;>try omega)|((first|apply zB rfl|(apply zG<;>intro ht))<;>try simp (disch:=first|omega|simp only [lz,lU];try omega) only [go_sem,q1,q8,q9]))
   exact hS.fin (by omega)
end
section
structure CpS(O:Store)(key:Hash)(n:Nat)(PS:List (List Hdr))(M:List MM)(tr:List AV)(tp c r:Nat)(o1 o2:List Nat):Prop where
 c:CirS PoIs O c key PS M o1
 r:CirS PoR O r key PS M o2
 d:∀j,j ∈ o1->j ∉ o2
 t:O[tp]? =some (some [tr])
 t1:tp ∉ o1
 t2:tp ∉ o2
 ok:POks key PS
 ms:MOks PS.length M
 ml:M.length<=200
 n:PS.length=n
theorem CpS.ext{key:Hash}{M:List MM}{tr:List AV}{tp c:Nat}{o1 o2:List Nat}(h:CpS O key n PS M tr tp c r o1 o2)(he:Ext O O'):CpS O' key n PS M tr tp c r o1 o2:=
 ⟨h.c.ext ploc_is he,h.r.ext ploc_r he,h.d,by obtain⟨y,rfl⟩:=he;rw [gapp (slen h.t)];exact h.t,h.t1,h.t2,h.ok,h.ms,h.ml,h.n⟩
theorem CpS.both{O2 O3:Store}{key:Hash}{PS':List (List Hdr)}{M M':List MM}{tr:List AV}{tp c:Nat}{o1 o2 o1' o2':List Nat}(h:CpS O key n PS M tr tp c r o1 o2)
  (f1:Fr O O2 o1 o1') (C1:CirS PoIs O2 c key PS' M' o1') (f2:Fr O2 O3 o2 o2') (R1:CirS PoR O3 r key PS' M' o2') (ok:POks key PS') (ms:MOks PS'.length M') (ml:M'.length<=200) (hn:PS'.length=PS.length):
  CpS O3 key n PS' M' tr tp c r o1' o2'/\ (∀j o,O[j]? =some o->j ∉ o1->j ∉ o2->O3[j]? =some o/\ j ∉ o1'/\ j ∉ o2'):=by
 have d1:=f1.dj (h.r.lt ploc_r) h.d
 have d2:∀j,j ∈ o2->j ∉ o1':=fun j hj h2=>d1 j h2 hj
 have C2:=C1.fr ploc_is f2 d2
 have d3:=f2.dj (C1.lt ploc_is) d2
 have oth:∀j o,O[j]? =some o->j ∉ o1->j ∉ o2->O3[j]? =some o/\ j ∉ o1'/\ j ∉ o2':=fun j o hg h1 h2=>by
  have g2:=f1.get hg h1
  have hj:=slen hg
  exact⟨f2.get g2 h2,f1.nin hj h1,f2.nin (slen g2) h2⟩
 obtain⟨t3,t1,t2⟩:=oth tp _ h.t h.t1 h.t2
 exact⟨⟨C2,R1,fun j h1 h2=>d3 j h2 h1,t3,t1,t2,ok,ms,ml,hn.trans h.n⟩,oth⟩
theorem CpS.both2{O2 O3:Store}{key:Hash}{PS':List (List Hdr)}{M M':List MM}{tr:List AV}{tp c:Nat}{o1 o2 o1' o2':List Nat}(h:CpS O key n PS M tr tp c r o1 o2)
  (f2:Fr O O2 o2 o2') (R1:CirS PoR O2 r key PS' M' o2') (f1:Fr O2 O3 o1 o1') (C1:CirS PoIs O3 c key PS' M' o1') (ok:POks key PS') (ms:MOks PS'.length M') (ml:M'.length<=200) (hn:PS'.length=PS.length):
  CpS O3 key n PS' M' tr tp c r o1' o2'/\ (∀j o,O[j]? =some o->j ∉ o1->j ∉ o2->O3[j]? =some o/\ j ∉ o1'/\ j ∉ o2'):=by
 have d1:=f2.dj (h.c.lt ploc_is) fun j h2 h1=>h.d j h1 h2
 have R2:=R1.fr ploc_r f1 fun j h1 h2=>d1 j h2 h1
 have d3:=f1.dj (R1.lt ploc_r) fun j h1 h2=>d1 j h2 h1
 have oth:∀j o,O[j]? =some o->j ∉ o1->j ∉ o2->O3[j]? =some o/\ j ∉ o1'/\ j ∉ o2':=fun j o hg h1 h2=>by
  have g2:=f2.get hg h2
  have hj:=slen hg
  exact⟨f1.get g2 h1,f1.nin (slen g2) h1,f2.nin hj h2⟩
 obtain⟨t3,t1,t2⟩:=oth tp _ h.t h.t1 h.t2
 exact⟨⟨C1,R2,d3,t3,t1,t2,ok,ms,ml,hn.trans h.n⟩,oth⟩
theorem Fr.box{O2:Store}{b v:Option AObj}{o o':List Nat}(f:Fr (O++ [b]) O2 o o'):Fr O (O2.set O.length v) o o' where
 st j hj hn:=by rw [z1h (by omega),f.st j (by rw [List.length_append];omega) hn,gapp hj]
 new j hj:=(f.new j hj).imp_right fun h=>by rw [List.length_append]at h;omega
 le:=by have:=f.le;rw [List.length_append]at this;rw [List.length_set];omega
theorem CirO.fr{I:PI}(hI:PLoc I){O O':Store}{c q l:Nat}{sid:Option Nat}{pp:List Nat}{ow:Nat->List Nat}{key:Hash}{PS:List (List Hdr)}{M:List MM}{o o':List Nat}(h:CirO I O c q l sid pp ow key PS M)(f:Fr O O' o o')(hd:∀y ∈ o,y ∉ z1v (PS.length+2) ow):CirO I O' c q l sid pp ow key PS M:=
 h.keep hI fun i hi y hy=>f.st y (h.lt hI i hi y hy) fun h2=>hd y h2 (mem_allOw.2 ⟨i,hi,hy⟩)
end
section
structure CpE(J:Env)(n:Nat)(x:AV)(tp c r i B:Nat)(a b:Int):Prop where
 q0:J 0=.int .i64 n
 q1:J 1=x
 q5:J 5=.ptr tp 0 0
 q6:J 6=.ptr c 0 0
 q8:J 8=.ptr r 0 0
 q10:J 10=.int .i64 i
 q11:J 11=.ptr B 0 0
 q12:J 12=.int .i64 a
 q13:J 13=.int .i64 b
structure CpB(O:Store)(A:ActV8)(B:Nat)(o1 o2:List Nat):Prop where
 g:O[B]? =some (some [z28 A])
 n1:B ∉ o1
 n2:B ∉ o2
def CpQ(Q:AExit->Env->Store->Prop)(key:Hash)(n:Nat)(tr:List AV)(tp c r:Nat)(x:AV)(i B:Nat)(a b:Int)(A:ActV8):Prop:=
 ∀J' O' PS' M' o1' o2',CpS O' key n PS' M' tr tp c r o1' o2'->CpB O' A B o1' o2'->CpE J' n x tp c r i B a b->J' 14=.bool true->Q .normal J' O'
attribute [local irreducible] ACallsTo ACallsP
section
variable {O:Store} {key:Hash} {n:Nat} {PS:List (List Hdr)} {M:List MM} {tr:List AV} {tp c r:Nat} {o1 o2:List Nat} {x:AV} {i B:Nat} {a b:Int} {A:ActV8} {J:Env} {Q:AExit->Env->Store->Prop}
theorem lV:(∀(h:Hash),(hc h).length=32)/\ (∀(n:Int) (r:Hash) (i:Int) (s:List UInt8) (x:AV),(sgC n r i s x).length=36)/\ (∀(h:Hdr),(hdrC h).length=36)/\ (∀(H:List Hdr),(hdrs H).length=H.length)/\ (∀(P:List Hdr),(kn P).length=P.length)/\ (∀(l:List NH),(knP l).length=l.length)/\ (∀(A:ActV8),(z28 A).length=45)/\ (∀{α:Type}{i:Nat}{l:List α},(l.take i).length=min i l.length)/\ (∀{α:Type}{i:Nat}{l:List α},(l.drop i).length=l.length-i)/\ (∀{α:Type}{n:Nat}{a:α},(List.replicate n a).length=n)/\ (∀{α β:Type}{f:α->β}{l:List α},(l.map f).length=l.length):=⟨@z8,@zg,@zi,@zh,@zj,@zm,@zu,by simp,by simp,by simp,by simp⟩
theorem zqm(hS:CpS O key n PS M tr tp c r o1 o2)(hB:CpB O A B o1 o2)(hE:CpE J n x tp c r i B a b)(hn:0<n)(hQ:CpQ Q key n tr tp c r x i B a b A):zW TC 331 0 (.reg zfe) Q J O:=by
 obtain⟨q0,q1,q5,q6,q8,q10,q11,q12,q13⟩:=hE
 have hn0:0<PS.length:=by rw [hS.n];exact hn
 have hml:=hS.ml
 repeat' (first|apply zA rfl|(apply zd_ rfl<;>intro ht<;>try omega)|((first|apply zB rfl|(apply zG<;>intro ht))<;>try simp (disch:=first|omega|simp only [lz,lV];try omega) only [go_sem,q0,q1,q5,q6,q8,q10,q11,q12,q13]))
 refine callW.mkP (caps:=[]) (zdm hS.c hS.ok hn0 (by omega) a b) (CirP.is ploc_is z2u hS.c _ rfl) ?_
 rintro v O2 ⟨rfl,o1',C1,f1⟩
 have R1:=hS.r.fr ploc_r f1 hS.d
 simp (disch:=first|omega|simp only [lz,lV];try omega) only [go_sem,q0,q1,q5,q6,q8,q10,q11,q12,q13]
 repeat' (first|apply zA rfl|(apply zd_ rfl<;>intro ht<;>try omega)|((first|apply zB rfl|(apply zG<;>intro ht))<;>try simp (disch:=first|omega|simp only [lz,lV];try omega) only [go_sem,q0,q1,q5,q6,q8,q10,q11,q12,q13]))
 refine callW.mkP (caps:=[]) (zms R1 hS.ok hn0 (by omega) a b) (CirP.is ploc_r z4e R1 _ rfl) ?_
 rintro v O3 ⟨rfl,o2',R2,f2⟩
 obtain⟨S3,oth⟩:=hS.both f1 C1 f2 R2 hS.ok (zos hS.ok hS.ms a b) (zor hS.ml a b) rfl
 obtain⟨b1,b2,b3⟩:=oth B _ hB.g hB.n1 hB.n2
 simp (disch:=first|omega|simp only [lz,lV];try omega) only [go_sem,q0,q1,q5,q6,q8,q10,q11,q12,q13]
 repeat' (first|apply zA rfl|(apply zd_ rfl<;>intro ht<;>try omega)|((first|apply zB rfl|(apply zG<;>intro ht))<;>try simp (disch:=first|omega|simp only [lz,lV];try omega) only [go_sem,q0,q1,q5,q6,q8,q10,q11,q12,q13]))
 exact hQ _ _ _ _ _ _ S3 ⟨b1,b2,b3⟩ (by constructor<;>simp (disch:=first|omega|simp only [lz,lV];try omega) only [go_sem,q0,q1,q5,q6,q8,q10,q11,q12,q13]) (by simp only [go_sem])
theorem zqe(hS:CpS O key n PS M tr tp c r o1 o2)(hB:CpB O A B o1 o2)(hA:A.Ok)(hE:CpE J n x tp c r i B a b)(hn:0<n)(hQ:CpQ Q key n tr tp c r x i B a b A):zW TC 331 0 (.reg zff) Q J O:=by
 obtain⟨q0,q1,q5,q6,q8,q10,q11,q12,q13⟩:=hE
 have hn0:0<PS.length:=by rw [hS.n];exact hn
 have hml:=hS.ml
 have hg:=hB.g
 have ca:=z8s A
 have cl:=zu A
 have hak:=hA.a
 have h4:=mod4 A.a
 have h4':((A.a:Nat):Int)%4=((A.a%4:Nat):Int):=by omega
 repeat' (first|apply zA rfl|(apply zd_ rfl<;>intro ht<;>try omega)|((first|apply zB rfl|(apply zG<;>intro ht))<;>try simp (disch:=first|omega|simp only [lz,lV];try omega) only [go_sem,q0,q1,q5,q6,q8,q10,q11,q12,q13,hg,ca,cl,h4,h4']))
 refine callW.mkP_ef (caps:=[]) (zb0 hS.c hS.ok hS.ms hn0 (by omega) _) (CirP.is ploc_is z2u hS.c _ (z5r ..)) ?_
 rintro v O2 ⟨rfl,o1',C1,f1⟩
 have R1:=hS.r.fr ploc_r f1 hS.d
 have hg2:=f1.get hg hB.n1
 refine⟨by simp (disch:=first|omega|simp only [lz,lV];try omega) only [go_sem,hg2,ca,cl],?_⟩
 simp (disch:=first|omega|simp only [lz,lV];try omega) only [go_sem,q0,q1,q5,q6,q8,q10,q11,q12,q13,hg,hg2,ca,cl,h4,h4']
 repeat' (first|apply zA rfl|(apply zd_ rfl<;>intro ht<;>try omega)|((first|apply zB rfl|(apply zG<;>intro ht))<;>try simp (disch:=first|omega|simp only [lz,lV];try omega) only [go_sem,q0,q1,q5,q6,q8,q10,q11,q12,q13,hg,hg2,ca,cl,h4,h4']))
 refine callW.mkP (caps:=[]) (zmq R1 hS.ok hS.ms hn0 (by omega) _) (CirP.is ploc_r z4e R1 _ (z5r ..)) ?_
 rintro v O3 ⟨rfl,o2',R2,f2⟩
 obtain⟨S3,oth⟩:=hS.both f1 C1 f2 R2 (zjn hS.ok hS.ms _) (by rw [z5r];exact zjm hS.ms _) (zjl hS.ml _) (z5r ..)
 obtain⟨b1,b2,b3⟩:=oth B _ hB.g hB.n1 hB.n2
 simp (disch:=first|omega|simp only [lz,lV];try omega) only [go_sem,q0,q1,q5,q6,q8,q10,q11,q12,q13]
 repeat' (first|apply zA rfl|(apply zd_ rfl<;>intro ht<;>try omega)|((first|apply zB rfl|(apply zG<;>intro ht))<;>try simp (disch:=first|omega|simp only [lz,lV];try omega) only [go_sem,q0,q1,q5,q6,q8,q10,q11,q12,q13]))
 exact hQ _ _ _ _ _ _ S3 ⟨b1,b2,b3⟩ (by constructor<;>simp (disch:=first|omega|simp only [lz,lV];try omega) only [go_sem,q0,q1,q5,q6,q8,q10,q11,q12,q13]) (by simp only [go_sem])
end
section
variable {O:Store} {key:Hash} {n:Nat} {PS:List (List Hdr)} {M:List MM} {tr:List AV} {tp c r:Nat} {o1 o2:List Nat} {x:AV} {i B:Nat} {a b:Int} {A:ActV8} {J:Env} {Q:AExit->Env->Store->Prop}
theorem zqf(hS:CpS O key n PS M tr tp c r o1 o2)(hB:CpB O A B o1 o2)(hA:A.Ok)(hE:CpE J n x tp c r i B a b)(hn:0<n)(hQ:CpQ Q key n tr tp c r x i B a b A):zW TC 331 0 (.reg zfg) Q J O:=by
 obtain⟨q0,q1,q5,q6,q8,q10,q11,q12,q13⟩:=hE
 have hn0:0<PS.length:=by rw [hS.n];exact hn
 have hml:=hS.ml
 have hg:=hB.g
 have ca:=z8s A
 have cl:=zu A
 have hak:=hA.a
 have h4:=mod4 A.a
 have h4':((A.a:Nat):Int)%4=((A.a%4:Nat):Int):=by omega
 have R0:=hS.r
 obtain⟨Q',lk,sid,pp,ow,hown,hR0⟩:=R0
 have ho:=hR0.obj
 repeat' (first|apply zA rfl|(apply zd_ rfl<;>intro ht<;>try omega)|((first|apply zB rfl|(apply zG<;>intro ht))<;>try simp (disch:=first|omega|simp only [lz,lV];try omega) only [go_sem,q0,q1,q5,q6,q8,q10,q11,q12,q13,hg,ca,cl,h4,h4',ho]))
 refine callW.mkP_ef (caps:=[]) (zrq hS.c hn0 (by omega) _) (CirP.is ploc_is z2u hS.c _ rfl) ?_
 rintro v O2 ⟨rfl,o1',C1,f1⟩
 have hg2:=f1.get hg hB.n1
 have hR:=hR0.fr ploc_r f1 (by rw [<-hown];exact hS.d)
 have ho2:=hR.obj
 refine⟨by simp (disch:=first|omega|simp only [lz,lV];try omega) only [go_sem,hg2,ca,cl],?_⟩
 simp (disch:=first|omega|simp only [lz,lV];try omega) only [go_sem,q0,q1,q5,q6,q8,q10,q11,q12,q13,hg,hg2,ca,cl,h4,h4',ho,ho2]
 repeat' (first|apply zA rfl|(apply zd_ rfl<;>intro ht<;>try omega)|((first|apply zB rfl|(apply zG<;>intro ht))<;>try simp (disch:=first|omega|simp only [lz,lV];try omega) only [go_sem,q0,q1,q5,q6,q8,q10,q11,q12,q13,hg,hg2,ca,cl,h4,h4',ho,ho2]))
 have hDb:=zze O2 lk PS.length ((A.a%4:Nat):Int) sid (M.map MM.ml) hR.lk (by omega) (by rw [List.length_map];omega)
 refine callW.mkP (caps:=[]) hDb ?_ ?_
 ·obtain⟨O',sid',k⟩:=z7v hR.lk (if dblS PS.length (M.map MM.ml) ((A.a%4:Nat):Int)=0 then M.map MM.ml++ [(M.map MM.ml).getD ((A.a%4:Nat):Int).toNat ⟨0,0,[]⟩]else M.map MM.ml)
  exact⟨_,O',rfl,sid',k⟩
 rintro v O3 ⟨rfl,sid',k1,k2⟩
 rw [<-zji]at k1
 obtain⟨h1,f2⟩:=hR.links' ploc_r k2 k1
 rw [<-hown]at f2
 have R2:CirS PoR O3 r key PS (z5q PS.length M ((A.a%4:Nat):Int)) (z1v (PS.length+2) (updO ow 1 (lk::sid'.toList))):=⟨Q',lk,sid',pp,_,rfl,h1⟩
 obtain⟨S3,oth⟩:=hS.both f1 C1 f2 R2 hS.ok (zsj hS.ms _) (zsi hS.ml _) rfl
 obtain⟨b1,b2,b3⟩:=oth B _ hB.g hB.n1 hB.n2
 rw [show dblS PS.length (M.map MM.ml) ((A.a%4:Nat):Int)=dblI PS.length M ((A.a%4:Nat):Int)from rfl]
 simp (disch:=first|omega|simp only [lz,lV];try omega) only [go_sem,q0,q1,q5,q6,q8,q10,q11,q12,q13]
 repeat' (first|apply zA rfl|(apply zd_ rfl<;>intro ht<;>try omega)|((first|apply zB rfl|(apply zG<;>intro ht))<;>try simp (disch:=first|omega|simp only [lz,lV];try omega) only [go_sem,q0,q1,q5,q6,q8,q10,q11,q12,q13]))
 exact hQ _ _ _ _ _ _ S3 ⟨b1,b2,b3⟩ (by constructor<;>simp (disch:=first|omega|simp only [lz,lV];try omega) only [go_sem,q0,q1,q5,q6,q8,q10,q11,q12,q13]) (by simp only [go_sem])
theorem zl5(key:Hash)(PS:List (List Hdr))(i k:Int):∃N E:Int,metI key PS i k=.tup [.int .i64 N,.int .i64 E]:=by
 unfold metI
 split
 ·exact⟨_,_,rfl⟩
 ·exact⟨_,_,rfl⟩
theorem zqi(hS:CpS O key n PS M tr tp c r o1 o2)(hB:CpB O A B o1 o2)(hE:CpE J n x tp c r i B a b)(hn:0<n)(hQ:CpQ Q key n tr tp c r x i B a b A):zW TC 331 0 zc9 Q J O:=by
 obtain⟨q0,q1,q5,q6,q8,q10,q11,q12,q13⟩:=hE
 have hn0:0<PS.length:=by rw [hS.n];exact hn
 have hC:=zb4 hS.c hS.ok hn0 a b
 have hI:=zl5 key PS a b
 obtain⟨N,E,hI⟩:=hI
 rw [hI]at hC
 unfold zc9
 repeat' (first|apply zA rfl|(apply zd_ rfl<;>intro ht<;>try omega)|((first|apply zB rfl|(apply zG<;>intro ht))<;>try simp (disch:=first|omega|simp only [lz,lV];try omega) only [go_sem,q0,q1,q5,q6,q8,q10,q11,q12,q13]))
 refine callW.mkP (caps:=[]) hC (CirP.is ploc_is z2u hS.c _ (z5v ..)) ?_
 rintro v O2 ⟨rfl,o1',C1,f1⟩
 have R1:=hS.r.fr ploc_r f1 hS.d
 have hD:=zmr R1 hS.ok a b
 rw [hI]at hD
 simp (disch:=first|omega|simp only [lz,lV];try omega) only [go_sem,q0,q1,q5,q6,q8,q10,q11,q12,q13]
 repeat' (first|apply zA rfl|(apply zd_ rfl<;>intro ht<;>try omega)|((first|apply zB rfl|(apply zG<;>intro ht))<;>try simp (disch:=first|omega|simp only [lz,lV];try omega) only [go_sem,q0,q1,q5,q6,q8,q10,q11,q12,q13]))
 refine callW.mkP (caps:=[]) hD (CirP.is ploc_r z4e R1 _ (z5v ..)) ?_
 rintro v O3 ⟨rfl,o2',R2,f2⟩
 obtain⟨S3,oth⟩:=hS.both f1 C1 f2 R2 (zl6 hS.ok a b) (by rw [z5v];exact hS.ms) hS.ml (z5v ..)
 obtain⟨b1,b2,b3⟩:=oth B _ hB.g hB.n1 hB.n2
 simp (disch:=first|omega|simp only [lz,lV];try omega) only [go_sem,q0,q1,q5,q6,q8,q10,q11,q12,q13]
 repeat' (first|apply zA rfl|(apply zd_ rfl<;>intro ht<;>try omega)|((first|apply zB rfl|(apply zG<;>intro ht))<;>try simp (disch:=first|omega|simp only [lz,lV];try omega) only [go_sem,q0,q1,q5,q6,q8,q10,q11,q12,q13]))
 exact hQ _ _ _ _ _ _ S3 ⟨b1,b2,b3⟩ (by constructor<;>simp (disch:=first|omega|simp only [lz,lV];try omega) only [go_sem,q0,q1,q5,q6,q8,q10,q11,q12,q13]) (by simp only [go_sem])
theorem zqh(hS:CpS O key n PS M tr tp c r o1 o2)(hB:CpB O A B o1 o2)(hA:A.Ok)(hpl:A.q.p.length<=10)(hE:CpE J n x tp c r i B a b)(hn:0<n)(hQ:CpQ Q key n tr tp c r x i B a b A):zW TC 331 0 (.reg zfh) Q J O:=by
 obtain⟨q0,q1,q5,q6,q8,q10,q11,q12,q13⟩:=hE
 have hg:=hB.g
 have cr:=zic A
 have cl:=zu A
 have sl:=zg A.q.n A.q.r A.q.i A.q.s A.x
 repeat' (first|apply zA rfl|(apply zd_ rfl<;>intro ht<;>try omega)|((first|apply zB rfl|(apply zG<;>intro ht))<;>try simp (disch:=first|omega|simp only [lz,lV];try omega) only [go_sem,q0,q1,q5,q6,q8,q10,q11,q12,q13,hg,cr,cl,sl]))
 refine callW.mkP_ef (caps:=[]) (zb3 hS.c hS.ok a A.q A.x hA.x (by omega)) (CirP.is ploc_is z2u hS.c _ (z48 ..)) ?_
 rintro v O2 ⟨rfl,o1',C1,f1⟩
 have R1:=hS.r.fr ploc_r f1 hS.d
 have hg2:=f1.get hg hB.n1
 refine⟨by simp (disch:=first|omega|simp only [lz,lV];try omega) only [go_sem,hg2,cr,cl,sl],?_⟩
 simp (disch:=first|omega|simp only [lz,lV];try omega) only [go_sem,q0,q1,q5,q6,q8,q10,q11,q12,q13,hg,hg2,cr,cl,sl]
 repeat' (first|apply zA rfl|(apply zd_ rfl<;>intro ht<;>try omega)|((first|apply zB rfl|(apply zG<;>intro ht))<;>try simp (disch:=first|omega|simp only [lz,lV];try omega) only [go_sem,q0,q1,q5,q6,q8,q10,q11,q12,q13,hg,hg2,cr,cl,sl]))
 refine callW.mkP (caps:=[]) (zfp R1 hS.ok a A.q A.x hA.x hA.x1) (CirP.is ploc_r z4e R1 _ (z48 ..)) ?_
 rintro v O3 ⟨rfl,o2',R2,f2⟩
 obtain⟨S3,oth⟩:=hS.both f1 C1 f2 R2 (zeq hS.ok a A.q) (by rw [z48];exact hS.ms) hS.ml (z48 ..)
 obtain⟨b1,b2,b3⟩:=oth B _ hB.g hB.n1 hB.n2
 simp (disch:=first|omega|simp only [lz,lV];try omega) only [go_sem,q0,q1,q5,q6,q8,q10,q11,q12,q13]
 repeat' (first|apply zA rfl|(apply zd_ rfl<;>intro ht<;>try omega)|((first|apply zB rfl|(apply zG<;>intro ht))<;>try simp (disch:=first|omega|simp only [lz,lV];try omega) only [go_sem,q0,q1,q5,q6,q8,q10,q11,q12,q13]))
 exact hQ _ _ _ _ _ _ S3 ⟨b1,b2,b3⟩ (by constructor<;>simp (disch:=first|omega|simp only [lz,lV];try omega) only [go_sem,q0,q1,q5,q6,q8,q10,q11,q12,q13]) (by simp only [go_sem])
end
end
section
theorem CpB.ext{A:ActV8}{B:Nat}{o1 o2:List Nat}(h:CpB O A B o1 o2)(he:Ext O O'):CpB O' A B o1 o2:=
 ⟨by obtain⟨y,rfl⟩:=he;rw [gapp (slen h.g)];exact h.g,h.n1,h.n2⟩
attribute [local irreducible] ACallsTo ACallsP
section
variable {O:Store} {key:Hash} {n:Nat} {PS:List (List Hdr)} {M:List MM} {tr:List AV} {tp c r:Nat} {o1 o2:List Nat} {x:AV} {i B:Nat} {a b:Int} {A:ActV8} {J:Env} {Q:AExit->Env->Store->Prop}
theorem zql(hS:CpS O (z1o (keyL logC)) n PS M (z1m true logC (keyL logC)) tp c r o1 o2)(hB:CpB O A B o1 o2)(hA:A.Ok)(hE:CpE J n x tp c r i B a b)(hn:0<n)(hQ:CpQ Q (z1o (keyL logC)) n (z1m true logC (keyL logC)) tp c r x i B a b A):zW TC 331 0 zcb Q J O:=by
 obtain⟨q0,q1,q5,q6,q8,q10,q11,q12,q13⟩:=hE
 have hsd:logC.length<1000000:=by decide
 have hg:=hB.g
 have cs:=zqc A
 have cl:=zu A
 have hso:=hA.s
 have hOf:=znw O tp logC A.s.1 A.s.2.1 A.s.2.2.1 A.s.2.2.2 hS.t hsd hso.1 hso.2.1 hso.2.2.1 hso.2.2.2
 have hhp:(z42 logC A.s.1 A.s.2.1 A.s.2.2.1 A.s.2.2.2).p.length=3:=z107 _ _ _ _ _
 generalize z42 logC A.s.1 A.s.2.1 A.s.2.2.1 A.s.2.2.2=h at*
 have hl:=zi h
 have ha:(hdrC h).take 36=hdrC h:=z30 h
 have E:Ext O (O++ [some [hdrC h]]):=⟨_,rfl⟩
 have S2:=hS.ext E
 have B2:=hB.ext E
 have hb:(O++ [some [hdrC h]])[O.length]? =some (some [hdrC h]):=by rw [z18 (Nat.le_refl _),Nat.sub_self];rfl
 have hb1:O.length ∉ o1:=fun e=>by have:=hS.c.lt ploc_is _ e;omega
 have hb2:O.length ∉ o2:=fun e=>by have:=hS.r.lt ploc_r _ e;omega
 unfold zcb
 repeat' (first|apply zA rfl|(apply zd_ rfl<;>intro ht<;>try omega)|((first|apply zB rfl|(apply callW.mk_pu;exact(fun _=>hOf))|(apply callW.za;exact(hOf))|(apply zG<;>intro ht))<;>try simp (disch:=first|omega|simp only [lz,lV];try omega) only [go_sem,q0,q1,q5,q6,q8,q10,q11,q12,q13,hg,cs,cl,hl,ha]))
 have hL:=zb3 S2.c S2.ok a h _ (z1l 32 (hr h.p)) (by omega)
 rw [show sgC h.n h.r h.i h.s (zz 32 (hr h.p))=hdrC h from rfl]at hL
 generalize O++ [some [hdrC h]]=O0 at*
 generalize O.length=k at*
 refine callW.mkP_ef (caps:=[]) hL (CirP.is ploc_is z2u S2.c _ (z48 ..)) ?_
 rintro v O2 ⟨rfl,o1',C1,f1⟩
 have R1:=S2.r.fr ploc_r f1 S2.d
 have hg2:=f1.get hb hb1
 have hD:=zfp R1 S2.ok a h _ (z1l 32 (hr h.p)) (fun _=>rfl)
 rw [show sgC h.n h.r h.i h.s (zz 32 (hr h.p))=hdrC h from rfl]at hD
 refine⟨by simp (disch:=first|omega|simp only [lz,lV];try omega) only [go_sem,hg2,hl,ha],?_⟩
 simp (disch:=first|omega|simp only [lz,lV];try omega) only [go_sem,q0,q1,q5,q6,q8,q10,q11,q12,q13,hb,hg2,hl,ha]
 repeat' (first|apply zA rfl|(apply zd_ rfl<;>intro ht<;>try omega)|((first|apply zB rfl|(apply zG<;>intro ht))<;>try simp (disch:=first|omega|simp only [lz,lV];try omega) only [go_sem,q0,q1,q5,q6,q8,q10,q11,q12,q13,hb,hg2,hl,ha]))
 refine callW.mkP (caps:=[]) hD (CirP.is ploc_r z4e R1 _ (z48 ..)) ?_
 rintro v O3 ⟨rfl,o2',R2,f2⟩
 obtain⟨S3,oth⟩:=S2.both f1 C1 f2 R2 (zeq S2.ok a h) (by rw [z48];exact S2.ms) S2.ml (z48 ..)
 obtain⟨b1,b2,b3⟩:=oth B _ B2.g B2.n1 B2.n2
 simp (disch:=first|omega|simp only [lz,lV];try omega) only [go_sem,q0,q1,q5,q6,q8,q10,q11,q12,q13]
 repeat' (first|apply zA rfl|(apply zd_ rfl<;>intro ht<;>try omega)|((first|apply zB rfl|(apply zG<;>intro ht))<;>try simp (disch:=first|omega|simp only [lz,lV];try omega) only [go_sem,q0,q1,q5,q6,q8,q10,q11,q12,q13]))
 exact hQ _ _ _ _ _ _ S3 ⟨b1,b2,b3⟩ (by constructor<;>simp (disch:=first|omega|simp only [lz,lV];try omega) only [go_sem,q0,q1,q5,q6,q8,q10,q11,q12,q13]) (by simp only [go_sem])
theorem zid{O2:Store}{o2':List Nat}(hS:CpS O key n PS M tr tp c r o1 o2)(hB:CpB O A B o1 o2)(hA:A.Ok)(hE:CpE J n x tp c r i B a b)(hn:0<n)(hQ:CpQ Q key n tr tp c r x i B a b A)
  (f2:Fr O O2 o2 o2') (R1:CirS PoR O2 r key PS (z34 PS.length M ((A.a%4:Nat):Int)) o2') (q16:J 16=.int .i64 (atS PS.length M.length ((A.a%4:Nat):Int))):
  zW TC 331 0 (.reg zmk) Q J O2:=by
 obtain⟨q0,q1,q5,q6,q8,q10,q11,q12,q13⟩:=hE
 have hn0:0<PS.length:=by rw [hS.n];exact hn
 have hml:=hS.ml
 have hg:=f2.get hB.g hB.n2
 have ca:=z8s A
 have cl:=zu A
 have hak:=hA.a
 have h4:=mod4 A.a
 have h4':((A.a:Nat):Int)%4=((A.a%4:Nat):Int):=by omega
 have C0:=hS.c.fr ploc_is f2 fun j hj h1=>hS.d j h1 hj
 repeat' (first|apply zA rfl|(apply zd_ rfl<;>intro ht<;>try omega)|((first|apply zB rfl|(apply zG<;>intro ht))<;>try simp (disch:=first|omega|simp only [lz,lV];try omega) only [go_sem,q0,q1,q5,q6,q8,q10,q11,q12,q13,q16,hg,ca,cl,h4,h4']))
 refine callW.mkP (caps:=[]) (zrr C0 hn0 (by omega) _) (CirP.is ploc_is z2u C0 _ rfl) ?_
 rintro v O3 ⟨rfl,o1',C1,f1⟩
 obtain⟨S3,oth⟩:=hS.both2 f2 R1 f1 C1 hS.ok (zsl hS.ms _) (zsk hS.ml _) rfl
 obtain⟨b1,b2,b3⟩:=oth B _ hB.g hB.n1 hB.n2
 simp (disch:=first|omega|simp only [lz,lV];try omega) only [go_sem,q0,q1,q5,q6,q8,q10,q11,q12,q13,q16]
 repeat' (first|apply zA rfl|(apply zd_ rfl<;>intro ht<;>try omega)|((first|apply zB rfl|(apply zG<;>intro ht))<;>try simp (disch:=first|omega|simp only [lz,lV];try omega) only [go_sem,q0,q1,q5,q6,q8,q10,q11,q12,q13,q16]))
 exact hQ _ _ _ _ _ _ S3 ⟨b1,b2,b3⟩ (by constructor<;>simp (disch:=first|omega|simp only [lz,lV];try omega) only [go_sem,q0,q1,q5,q6,q8,q10,q11,q12,q13]) (by simp only [go_sem])
theorem zqg(hS:CpS O key n PS M tr tp c r o1 o2)(hB:CpB O A B o1 o2)(hA:A.Ok)(hE:CpE J n x tp c r i B a b)(hn:0<n)(hQ:CpQ Q key n tr tp c r x i B a b A):zW TC 331 0 zc8 Q J O:=by
 obtain⟨q0,q1,q5,q6,q8,q10,q11,q12,q13⟩:=hE
 have hn0:0<PS.length:=by rw [hS.n];exact hn
 have hml:=hS.ml
 have hg:=hB.g
 have ca:=z8s A
 have cl:=zu A
 have hak:=hA.a
 have h4:=mod4 A.a
 have h4':((A.a:Nat):Int)%4=((A.a%4:Nat):Int):=by omega
 have R0:=hS.r
 obtain⟨Q',lk,sid,pp,ow,hown,hR⟩:=R0
 have ho2:=hR.obj
 have hgl:=slen hg
 have hol:=slen ho2
 unfold zc8
 refine zs_ (zW.reg2 ?_ ?_)
 ·have hDl:=zfx O lk PS.length ((A.a%4:Nat):Int) sid (M.map MM.ml) hR.lk (by omega) (by rw [List.length_map];omega)
  simp (disch:=first|omega|simp only [lz,lV];try omega) only [go_sem,q0,q1,q5,q6,q8,q10,q11,q12,q13,hg,ca,cl,h4,h4',ho2]
  refine callW.mkP_ef (caps:=[]) hDl ?_ ?_
  ·obtain⟨O',sid',k⟩:=z7v hR.lk (delL PS.length (M.map MM.ml) ((A.a%4:Nat):Int))
   exact⟨_,O',rfl,sid',k⟩
  rintro v O2 ⟨rfl,sid',k1,k2⟩
  rw [<-z95]at k1
  obtain⟨h1,f2⟩:=hR.links' ploc_r k2 k1
  rw [<-hown]at f2
  have R2:CirS PoR O2 r key PS (z34 PS.length M ((A.a%4:Nat):Int)) (z1v (PS.length+2) (updO ow 1 (lk::sid'.toList))):=⟨Q',lk,sid',pp,_,rfl,h1⟩
  generalize z1v (PS.length+2) (updO ow 1 (lk::sid'.toList))=o2' at*
  have ho3:=h1.obj
  have hg3:=f2.get hg hB.n2
  have hol3:=slen ho3
  have hgl3:=slen hg3
  unfold delV
  rw [List.length_map]
  generalize delM PS.length (M.map MM.ml) ((A.a%4:Nat):Int)=m at*
  have E:∀y,Ext O2 (O2++y):=fun y=>⟨y,rfl⟩
  have F:∀y,Fr O (O2++y) o2 o2':=fun y=>f2.trans (Fr.ext (E y))
  simp (disch:=first|omega|simp only [lz,lV];try omega) only [go_sem,mailC,ho3,hg3,ca,cl,h4,h4']
  refine zid hS hB hA ?_ hn hQ (F _) (R2.ext ploc_r (E _)) ?_
  ·exact(by constructor<;>simp (disch:=first|omega|simp only [lz,lV];try omega) only [go_sem,q0,q1,q5,q6,q8,q10,q11,q12,q13])
  ·simp (disch:=first|omega|simp only [lz,lV];try omega) only [go_sem]
 ·have hR2:∀y,CirO PoR (O++y) r Q' lk sid pp ow key PS M:=fun y=>hR.keep ploc_r fun i hi z hz=>gapp (hR.lt ploc_r i hi z hz)
  have hDl:=fun y=>zfx (O++y) lk PS.length ((A.a%4:Nat):Int) sid (M.map MM.ml) (hR2 y).lk (by omega) (by rw [List.length_map];omega)
  simp (disch:=first|omega|simp only [lz,lV];try omega) only [go_sem,q0,q1,q5,q6,q8,q10,q11,q12,q13,hg,ca,cl,h4,h4',ho2]
  refine callW.mkP_ef (caps:=[]) (hDl _) ?_ ?_
  ·obtain⟨O',sid',k⟩:=z7v (hR2 _).lk (delL PS.length (M.map MM.ml) ((A.a%4:Nat):Int))
   exact⟨_,O',rfl,sid',k⟩
  rintro v O2 ⟨rfl,sid',k1,k2⟩
  rw [<-z95]at k1
  obtain⟨h1,f2⟩:=(hR2 _).links' ploc_r k2 k1
  rw [<-hown]at f2
  have R2:CirS PoR O2 r key PS (z34 PS.length M ((A.a%4:Nat):Int)) (z1v (PS.length+2) (updO ow 1 (lk::sid'.toList))):=⟨Q',lk,sid',pp,_,rfl,h1⟩
  generalize z1v (PS.length+2) (updO ow 1 (lk::sid'.toList))=o2' at*
  have ho3:=h1.obj
  have hg3:=f2.get (show (O++ [some [[AV.int .i64 0,AV.int .i64 0,AV.str []]]])[B]? =_ by rw [gapp hgl];exact hg) hB.n2
  have hb0:(O++ [some [[AV.int .i64 0,AV.int .i64 0,AV.str []]]])[O.length]? =some (some [[AV.int .i64 0,AV.int .i64 0,AV.str []]]):=by rw [z18 (Nat.le_refl _),Nat.sub_self];rfl
  have hn2:O.length ∉ o2:=fun e=>by have:=hS.r.lt ploc_r _ e;omega
  have hb3:=f2.get hb0 hn2
  have hnb:=f2.nin (slen hb0) hn2
  unfold delV
  rw [List.length_map]
  generalize delM PS.length (M.map MM.ml) ((A.a%4:Nat):Int)=m at*
  have F:=fun v=>Fr.box (v:=v) f2
  have R3:∀v,CirS PoR (O2.set O.length v) r key PS (z34 PS.length M ((A.a%4:Nat):Int)) o2':=fun v=>R2.keep ploc_r fun y hy=>z1h fun e=>hnb (by rw [e];exact hy)
  simp (disch:=first|omega|simp only [lz,lV];try omega) only [go_sem,mailC,ho3,hg3,hb3,ca,cl,h4,h4']
  refine zid hS hB hA ?_ hn hQ (F _) (R3 _) ?_
  ·exact(by constructor<;>simp (disch:=first|omega|simp only [lz,lV];try omega) only [go_sem,q0,q1,q5,q6,q8,q10,q11,q12,q13])
  ·simp (disch:=first|omega|simp only [lz,lV];try omega) only [go_sem]
end
section
variable {O:Store} {key:Hash} {n:Nat} {PS:List (List Hdr)} {M:List MM} {tr:List AV} {tp c r:Nat} {o1 o2:List Nat} {x:AV} {i B:Nat} {a b:Int} {A:ActV8} {J:Env} {Q:AExit->Env->Store->Prop}
theorem zqj{N E:Int}(hS:CpS O key n PS M tr tp c r o1 o2)(hB:CpB O A B o1 o2)(hA:A.Ok)(hpl:A.q.p.length<=10)(hE:CpE J n x tp c r i B a b)(hn:0<n)(q21:J 21=.int .i64 N)(q22:J 22=.int .i64 E)(q23:J 23=.int .i64 N)(q24:J 24=.int .i64 E)(hQ:CpQ Q key n tr tp c r x i B a b A):zW TC 331 0 (.reg zfi) Q J O:=by
 obtain⟨q0,q1,q5,q6,q8,q10,q11,q12,q13⟩:=hE
 have hn0:0<PS.length:=by rw [hS.n];exact hn
 have hml:=hS.ml
 have hg:=hB.g
 have cr:=zic A
 have cl:=zu A
 have c43:=zia A
 have c44:=zib A
 have sl:=zg A.q.n A.q.r A.q.i A.q.s A.x
 repeat' (first|apply zA rfl|(apply zd_ rfl<;>intro ht<;>try omega)|((first|apply zB rfl|(apply zG<;>intro ht))<;>try simp (disch:=first|omega|simp only [lz,lV];try omega) only [go_sem,q0,q1,q5,q6,q8,q10,q11,q12,q13,q21,q22,q23,q24,hg,cr,cl,c43,c44,sl]))
 refine callW.mkP_ef (caps:=[]) (zdm hS.c hS.ok hn0 (by omega) A.n A.m) (CirP.is ploc_is z2u hS.c _ rfl) ?_
 rintro v O2 ⟨rfl,o1',C1,f1⟩
 have R1:=hS.r.fr ploc_r f1 hS.d
 have hg2:=f1.get hg hB.n1
 refine⟨by simp (disch:=first|omega|simp only [lz,lV];try omega) only [go_sem,hg2,cr,cl,c43,c44,sl],?_⟩
 simp (disch:=first|omega|simp only [lz,lV];try omega) only [go_sem,q0,q1,q5,q6,q8,q10,q11,q12,q13,hg,hg2,cr,cl,c43,c44,sl]
 repeat' (first|apply zA rfl|(apply zd_ rfl<;>intro ht<;>try omega)|((first|apply zB rfl|(apply zG<;>intro ht))<;>try simp (disch:=first|omega|simp only [lz,lV];try omega) only [go_sem,q0,q1,q5,q6,q8,q10,q11,q12,q13,hg,hg2,cr,cl,c43,c44,sl]))
 refine callW.mkP (caps:=[]) (zms R1 hS.ok hn0 (by omega) A.n A.m) (CirP.is ploc_r z4e R1 _ rfl) ?_
 rintro v O3 ⟨rfl,o2',R2,f2⟩
 obtain⟨S3,oth⟩:=hS.both f1 C1 f2 R2 hS.ok (zos hS.ok hS.ms A.n A.m) (zor hS.ml A.n A.m) rfl
 obtain⟨hg3,b2,b3⟩:=oth B _ hB.g hB.n1 hB.n2
 generalize z4y PS M A.n A.m=M3 at*
 have hml3:=S3.ml
 simp (disch:=first|omega|simp only [lz,lV];try omega) only [go_sem,q0,q1,q5,q6,q8,q10,q11,q12,q13,hg,hg2,hg3,cr,cl,c43,c44,sl]
 repeat' (first|apply zA rfl|(apply zd_ rfl<;>intro ht<;>try omega)|((first|apply zB rfl|(apply zG<;>intro ht))<;>try simp (disch:=first|omega|simp only [lz,lV];try omega) only [go_sem,q0,q1,q5,q6,q8,q10,q11,q12,q13,hg,hg2,hg3,cr,cl,c43,c44,sl]))
 refine callW.mkP_ef (caps:=[]) (zb0 S3.c S3.ok S3.ms hn0 (by omega) A.n) (CirP.is ploc_is z2u S3.c _ (z5r ..)) ?_
 rintro v O4 ⟨rfl,p1,C4,f4⟩
 have R4:=S3.r.fr ploc_r f4 S3.d
 have hg4:=f4.get hg3 b2
 refine⟨by simp (disch:=first|omega|simp only [lz,lV];try omega) only [go_sem,hg4,cr,cl,c43,c44,sl],?_⟩
 simp (disch:=first|omega|simp only [lz,lV];try omega) only [go_sem,q0,q1,q5,q6,q8,q10,q11,q12,q13,hg,hg2,hg3,hg4,cr,cl,c43,c44,sl]
 repeat' (first|apply zA rfl|(apply zd_ rfl<;>intro ht<;>try omega)|((first|apply zB rfl|(apply zG<;>intro ht))<;>try simp (disch:=first|omega|simp only [lz,lV];try omega) only [go_sem,q0,q1,q5,q6,q8,q10,q11,q12,q13,hg,hg2,hg3,hg4,cr,cl,c43,c44,sl]))
 refine callW.mkP (caps:=[]) (zmq R4 S3.ok S3.ms hn0 (by omega) A.n) (CirP.is ploc_r z4e R4 _ (z5r ..)) ?_
 rintro v O5 ⟨rfl,p2,R5,f5⟩
 obtain⟨S5,oth5⟩:=S3.both f4 C4 f5 R5 (zjn S3.ok S3.ms _) (by rw [z5r];exact zjm S3.ms _) (zjl S3.ml _) (z5r ..)
 obtain⟨hg5,d2,d3⟩:=oth5 B _ hg3 b2 b3
 generalize z4c key PS M3 A.n=PS5 at*
 generalize z4b PS M3 A.n=M5 at*
 simp (disch:=first|omega|simp only [lz,lV];try omega) only [go_sem,q0,q1,q5,q6,q8,q10,q11,q12,q13,hg,hg2,hg3,hg4,hg5,cr,cl,c43,c44,sl]
 repeat' (first|apply zA rfl|(apply zd_ rfl<;>intro ht<;>try omega)|((first|apply zB rfl|(apply zG<;>intro ht))<;>try simp (disch:=first|omega|simp only [lz,lV];try omega) only [go_sem,q0,q1,q5,q6,q8,q10,q11,q12,q13,hg,hg2,hg3,hg4,hg5,cr,cl,c43,c44,sl]))
 refine callW.mkP_ef (caps:=[]) (zb3 S5.c S5.ok A.n A.q A.x hA.x (by omega)) (CirP.is ploc_is z2u S5.c _ (z48 ..)) ?_
 rintro v O6 ⟨rfl,r1,C6,f6⟩
 have R6:=S5.r.fr ploc_r f6 S5.d
 have hg6:=f6.get hg5 d2
 refine⟨by simp (disch:=first|omega|simp only [lz,lV];try omega) only [go_sem,hg6,cr,cl,c43,c44,sl],?_⟩
 simp (disch:=first|omega|simp only [lz,lV];try omega) only [go_sem,q0,q1,q5,q6,q8,q10,q11,q12,q13,hg,hg2,hg3,hg4,hg5,hg6,cr,cl,c43,c44,sl]
 repeat' (first|apply zA rfl|(apply zd_ rfl<;>intro ht<;>try omega)|((first|apply zB rfl|(apply zG<;>intro ht))<;>try simp (disch:=first|omega|simp only [lz,lV];try omega) only [go_sem,q0,q1,q5,q6,q8,q10,q11,q12,q13,hg,hg2,hg3,hg4,hg5,hg6,cr,cl,c43,c44,sl]))
 refine callW.mkP (caps:=[]) (zfp R6 S5.ok A.n A.q A.x hA.x hA.x1) (CirP.is ploc_r z4e R6 _ (z48 ..)) ?_
 rintro v O7 ⟨rfl,r2,R7,f7⟩
 obtain⟨S7,oth7⟩:=S5.both f6 C6 f7 R7 (zeq S5.ok A.n A.q) (by rw [z48];exact S5.ms) S5.ml (z48 ..)
 obtain⟨e1,e2,e3⟩:=oth7 B _ hg5 d2 d3
 simp (disch:=first|omega|simp only [lz,lV];try omega) only [go_sem,q0,q1,q5,q6,q8,q10,q11,q12,q13]
 repeat' (first|apply zA rfl|(apply zd_ rfl<;>intro ht<;>try omega)|((first|apply zB rfl|(apply zG<;>intro ht))<;>try simp (disch:=first|omega|simp only [lz,lV];try omega) only [go_sem,q0,q1,q5,q6,q8,q10,q11,q12,q13]))
 exact hQ _ _ _ _ _ _ S7 ⟨e1,e2,e3⟩ (by constructor<;>simp (disch:=first|omega|simp only [lz,lV];try omega) only [go_sem,q0,q1,q5,q6,q8,q10,q11,q12,q13]) (by simp only [go_sem])
theorem zqk(hS:CpS O key n PS M tr tp c r o1 o2)(hB:CpB O A B o1 o2)(hA:A.Ok)(hpl:A.q.p.length<=10)(hE:CpE J n x tp c r i B a b)(hn:0<n)(hQ:CpQ Q key n tr tp c r x i B a b A):zW TC 331 0 zca Q J O:=by
 have h53:=fun {O PS M o1 o2 N E J} hS hB hE q21 q22 q23 q24=>zqj (O:=O) (PS:=PS) (M:=M) (o1:=o1) (o2:=o2) (N:=N) (E:=E) (J:=J) (A:=A) (x:=x) (i:=i) (B:=B) (a:=a) (b:=b) (tr:=tr) (tp:=tp) (c:=c) (r:=r) (key:=key) (n:=n) hS hB hA hpl hE hn q21 q22 q23 q24 hQ
 obtain⟨q0,q1,q5,q6,q8,q10,q11,q12,q13⟩:=hE
 have hn0:0<PS.length:=by rw [hS.n];exact hn
 have hg:=hB.g
 have cl:=zu A
 have c43:=zia A
 have c44:=zib A
 have hC:=zb4 hS.c hS.ok hn0 A.n A.m
 obtain⟨N,E,hI⟩:=zl5 key PS A.n A.m
 rw [hI]at hC
 unfold zca zm4
 generalize ACode.reg zfi=C53 at*
 repeat' (first|apply zA rfl|(apply zd_ rfl<;>intro ht<;>try omega)|((first|apply zB rfl|(apply zG<;>intro ht))<;>try simp (disch:=first|omega|simp only [lz,lV];try omega) only [go_sem,q0,q1,q5,q6,q8,q10,q11,q12,q13,hg,cl,c43,c44]))
 refine callW.mkP (caps:=[]) hC (CirP.is ploc_is z2u hS.c _ (z5v ..)) ?_
 rintro v O2 ⟨rfl,o1',C1,f1⟩
 have R1:=hS.r.fr ploc_r f1 hS.d
 have hg2:=f1.get hg hB.n1
 have hD:=zmr R1 hS.ok A.n A.m
 rw [hI]at hD
 simp (disch:=first|omega|simp only [lz,lV];try omega) only [go_sem,q0,q1,q5,q6,q8,q10,q11,q12,q13,hg2,cl,c43,c44]
 repeat' (first|apply zA rfl|(apply zd_ rfl<;>intro ht<;>try omega)|((first|apply zB rfl|(apply zG<;>intro ht))<;>try simp (disch:=first|omega|simp only [lz,lV];try omega) only [go_sem,q0,q1,q5,q6,q8,q10,q11,q12,q13,hg2,cl,c43,c44]))
 refine callW.mkP (caps:=[]) hD (CirP.is ploc_r z4e R1 _ (z5v ..)) ?_
 rintro v O3 ⟨rfl,o2',R2,f2⟩
 obtain⟨S3,oth⟩:=hS.both f1 C1 f2 R2 (zl6 hS.ok A.n A.m) (by rw [z5v];exact hS.ms) hS.ml (z5v ..)
 obtain⟨b1,b2,b3⟩:=oth B _ hB.g hB.n1 hB.n2
 simp (disch:=first|omega|simp only [lz,lV];try omega) only [go_sem,q0,q1,q5,q6,q8,q10,q11,q12,q13]
 repeat' (first|apply zA rfl|(apply zd_ rfl<;>intro ht<;>try omega)|((first|apply zB rfl|(apply zG<;>intro ht))<;>try simp (disch:=first|omega|simp only [lz,lV];try omega) only [go_sem,q0,q1,q5,q6,q8,q10,q11,q12,q13]))
 exact h53 (N:=N) (E:=E) S3 ⟨b1,b2,b3⟩ (by constructor<;>simp (disch:=first|omega|simp only [lz,lV];try omega) only [go_sem,q0,q1,q5,q6,q8,q10,q11,q12,q13]) (by simp only [go_sem]) (by simp only [go_sem]) (by simp only [go_sem]) (by simp only [go_sem])
end
section
variable {O:Store} {n:Nat} {PS:List (List Hdr)} {M:List MM} {tp c r:Nat} {o1 o2:List Nat} {x:AV} {i B:Nat} {a b:Int} {A:ActV8} {J:Env} {Q:AExit->Env->Store->Prop}
theorem zqd(hS:CpS O (z1o (keyL logC)) n PS M (z1m true logC (keyL logC)) tp c r o1 o2)(hB:CpB O A B o1 o2)(hA:A.Ok)(hpl:A.q.p.length<=10)(hE:CpE J n x tp c r i B a b)(q14:J 14=.bool true)(hn:0<n)(hQ:CpQ Q (z1o (keyL logC)) n (z1m true logC (keyL logC)) tp c r x i B a b A):zW TC 331 0 zcc Q J O:=by
 have hg:=hB.g
 have ck:=zqb A
 have cl:=zu A
 have hkk:=hA.k
 have h26:=fun J' Q hE hQ=>zqm (J:=J') (Q:=Q) (x:=x) (i:=i) (a:=a) (b:=b) hS hB hE hn hQ
 have h34:=fun J' Q hE hQ=>zqe (J:=J') (Q:=Q) (x:=x) (i:=i) (a:=a) (b:=b) hS hB hA hE hn hQ
 have h39:=fun J' Q hE hQ=>zqg (J:=J') (Q:=Q) (x:=x) (i:=i) (a:=a) (b:=b) hS hB hA hE hn hQ
 have h41:=fun J' Q hE hQ=>zqf (J:=J') (Q:=Q) (x:=x) (i:=i) (a:=a) (b:=b) hS hB hA hE hn hQ
 have h47:=fun J' Q hE hQ=>zqi (J:=J') (Q:=Q) (x:=x) (i:=i) (a:=a) (b:=b) hS hB hE hn hQ
 have h49:=fun J' Q hE hQ=>zqh (J:=J') (Q:=Q) (x:=x) (i:=i) (a:=a) (b:=b) hS hB hA hpl hE hn hQ
 have h55:=fun J' Q hE hQ=>zqk (J:=J') (Q:=Q) (x:=x) (i:=i) (a:=a) (b:=b) hS hB hA hpl hE hn hQ
 have h58:=fun J' Q hE hQ=>zql (J:=J') (Q:=Q) (x:=x) (i:=i) (a:=a) (b:=b) hS hB hA hE hn hQ
 obtain⟨q0,q1,q5,q6,q8,q10,q11,q12,q13⟩:=hE
 unfold zcc zmj zmi zmh zmg zmf zme zmd zmc zmb zma zm9 zm8 zm7 zm6 zm5
 generalize ACode.reg zfe=C26 at*
 generalize ACode.reg zff=C34 at*
 generalize zc8=C39 at*
 generalize ACode.reg zfg=C41 at*
 generalize zc9=C47 at*
 generalize ACode.reg zfh=C49 at*
 generalize zca=C55 at*
 generalize zcb=C58 at*
 have hk:(A.k:Int)%14=0 \/(A.k:Int)%14=1 \/(A.k:Int)%14=2 \/(A.k:Int)%14=3 \/(A.k:Int)%14=4 \/(A.k:Int)%14=5 \/(A.k:Int)%14=6 \/(A.k:Int)%14=7 \/(A.k:Int)%14=8 \/(A.k:Int)%14=9 \/(A.k:Int)%14=10 \/(A.k:Int)%14=11 \/(A.k:Int)%14=12 \/(A.k:Int)%14=13:=by omega
 rcases hk with e|e|e|e|e|e|e|e|e|e|e|e|e|e
 all_goals
  repeat' (first|apply zA rfl|(apply zd_ rfl<;>intro ht<;>try omega)|((first|apply zB rfl|(apply zG<;>intro ht))<;>try simp (disch:=first|omega|simp only [lz,lV];try omega) only [go_sem,q0,q1,q5,q6,q8,q10,q11,q12,q13,hg,ck,cl,e]))
  first|refine h58 _ _ ?_ hQ|refine h26 _ _ ?_ hQ|refine h34 _ _ ?_ hQ|refine h39 _ _ ?_ hQ|refine h41 _ _ ?_ hQ|refine h47 _ _ ?_ hQ|refine h49 _ _ ?_ hQ|refine h55 _ _ ?_ hQ
  constructor<;>simp (disch:=first|omega|simp only [lz,lV];try omega) only [go_sem,q0,q1,q5,q6,q8,q10,q11,q12,q13]
end
end
section
theorem z10w{L:List ML}(h:SlIs O sid (L.map mailC)):z1f (slOf sid L.length 3)=some (.int .i64 L.length):=by
 cases sid with
 |none=>
  have h:L.map mailC=[]:=h
  have:L=[]:=by simpa using h
  subst this;rfl
 |some s=>rfl
attribute [local irreducible] ACallsTo ACallsP
section
variable {O:Store} {key:Hash} {n:Nat} {PS:List (List Hdr)} {M:List MM} {tr:List AV} {tp c r:Nat} {o1 o2:List Nat} {x:AV} {i B:Nat} {a b:Int} {J:Env} {Q:AExit->Env->Store->Prop}
theorem lQ:(∀(h:Hash),(hc h).length=32)/\ (∀(l:List Hash),(hr l).length=l.length)/\ (∀(n:Int) (r:Hash) (i:Int) (s:List UInt8) (x:AV),(sgC n r i s x).length=36)/\ (∀(h:Hdr),(hdrC h).length=36)/\ (∀(H:List Hdr),(hdrs H).length=H.length)/\ (∀(P:List Hdr),(kn P).length=P.length)/\ (∀(l:List NH),(knP l).length=l.length)/\ (∀(A:ActV8),(z28 A).length=45)/\ (∀(L:List ActV8),(z3p L).length=L.length)/\ (∀{α:Type}{i:Nat}{l:List α},(l.take i).length=min i l.length)/\ (∀{α:Type}{i:Nat}{l:List α},(l.drop i).length=l.length-i)/\ (∀{α:Type}{n:Nat}{a:α},(List.replicate n a).length=n)/\ (∀{α β:Type}{f:α->β}{l:List α},(l.map f).length=l.length):=⟨@z8,@zn,@zg,@zi,@zh,@zj,@zm,@zu,@z16,by simp,by simp,by simp,by simp⟩
theorem zse(hS:CpS O key n PS M tr tp c r o1 o2)(hn:0<n)(hn8:n<=8)(q0:J 0=.int .i64 n)(q1:J 1=x)(q5:J 5=.ptr tp 0 0)(q6:J 6=.ptr c 0 0)(q8:J 8=.ptr r 0 0)(q10:J 10=.int .i64 i)(q14:J 14=.bool true)
  (hQ:∀J' O',CpS O' key n PS M tr tp c r o1 o2->J' 0=.int .i64 n->J' 1=x->J' 5=.ptr tp 0 0->J' 6=.ptr c 0 0->J' 8=.ptr r 0 0->J' 10=.int .i64 i->Q .normal J' O'):zW TC 331 0 zcd Q J O:=by
 have hn0:0<PS.length:=by rw [hS.n];exact hn
 have hml:=hS.ml
 have hMa:=ziy hS.c hn0 (by omega)
 have R0:=hS.r
 obtain⟨Q',lk,sid,pp,ow,hown,hR⟩:=R0
 have ho2:=hR.obj
 have hlo:=hR.lk.obj
 have hsl:=z10w hR.lk.rows
 unfold z1f at hsl
 rw [List.length_map]at hlo hsl
 generalize slOf sid M.length 3=sl at*
 unfold zcd
 repeat' (first|apply zA rfl|(apply zd_ rfl<;>intro ht<;>try omega)|((first|apply zB rfl|(apply callW.mk_pu;exact(fun _=>hMa))|(apply callW.za;exact(hMa))|(apply zG<;>intro ht))<;>try simp (disch:=first|omega|simp only [lz,lQ];try omega) only [go_sem,q0,q1,q5,q6,q8,q10,q14,ho2,hlo,hsl]))
 clear ho2 hlo hsl hMa hR hown
 refine zW.loop (fun t J O'=>∃k:Nat,t+k=n/\ CpS O' key n PS M tr tp c r o1 o2/\ J 0=.int .i64 n/\ J 1=x/\ J 5=.ptr tp 0 0/\ J 6=.ptr c 0 0/\ J 8=.ptr r 0 0/\ J 10=.int .i64 i/\ J 26=.int .i64 k) n ?_ ?_
 ·exact⟨0,by omega,hS,by simp only [go_sem,q0],by simp only [go_sem,q1],by simp only [go_sem,q5],by simp only [go_sem,q6],by simp only [go_sem,q8],by simp only [go_sem,q10],by simp only [go_sem];try rfl⟩
 ·clear hS q0 q1 q5 q6 q8 q10 q14
  rintro t J O' ⟨k,ht,hS,q0,q1,q5,q6,q8,q10,q26⟩
  by_cases hk:k<n
  ·have hk':(k:Int)<n:=by omega
   have hkp:k<PS.length:=by rw [hS.n];exact hk
   have hkp':(k:Int)<PS.length:=by omega
   have hCp:=zdk hS.c hS.ok k hkp
   have R0:=hS.r
   obtain⟨Q',lk,sid,pp,ow,hown,hR⟩:=R0
   have ho:=hR.obj
   have hrw:=hR.row
   have hpp:=z3c (pp:=pp) (i:=k) (by rw [hR.len];exact hkp)
   have hpl:(pp.map fun p=>[AV.ptr p 0 0]).length=PS.length:=by rw [List.length_map,hR.len]
   repeat' (first|apply zA rfl|(apply zd_ rfl<;>intro ht<;>try omega)|((first|apply zB rfl|(apply zG<;>intro ht))<;>try simp (disch:=first|omega|simp only [lz,lQ];try omega) only [go_sem,q0,q1,q5,q6,q8,q10,q26,hk',hkp',ho,hrw,hpp,hpl]))
   refine callW.mkP_ef (caps:=[]) hCp (PoCopyP.is _ _ _) ?_
   rintro vv O2 ⟨p,op,rfl,hE,hPo,hop⟩
   have S2:=hS.ext hE
   have hR2:CirO PoR O2 r Q' lk sid pp ow key PS M:=hR.keep ploc_r fun i hi y hy=>by
    have:=hR.lt ploc_r i hi y hy
    obtain⟨z,rfl⟩:=hE
    exact gapp this
   have ho2:=hR2.obj
   have hrw2:=hR2.row
   have hAl:=zqw O2 p (pp.getD k 0) key key (PS.getD k []) op _ hPo (hR2.pool k hkp) (hS.ok k hkp)
   refine⟨by simp (disch:=first|omega|simp only [lz,lQ];try omega) only [go_sem,ho2,hrw2,hpp,hpl,hkp'],?_⟩
   simp (disch:=first|omega|simp only [lz,lQ];try omega) only [go_sem,q0,q1,q5,q6,q8,q10,q26,hk',hkp',ho,hrw,ho2,hrw2,hpp,hpl]
   repeat' (first|apply zA rfl|(apply zd_ rfl<;>intro ht<;>try omega)|((first|apply zB rfl|(apply callW.mk_pu;exact(fun _=>hAl))|(apply callW.za;exact(hAl))|(apply zG<;>intro ht))<;>try simp (disch:=first|omega|simp only [lz,lQ];try omega) only [go_sem,q0,q1,q5,q6,q8,q10,q26,hk',hkp',ho,hrw,ho2,hrw2,hpp,hpl]))
   exact⟨t-1,by omega,k+1,by omega,S2,by simp⟩
  ·have hk':¬(k:Int)<n:=by omega
   repeat' (first|apply zA rfl|(apply zd_ rfl<;>intro ht<;>try omega)|((first|apply zB rfl|(apply zG<;>intro ht))<;>try simp (disch:=first|omega|simp only [lz,lQ];try omega) only [go_sem,q0,q1,q5,q6,q8,q10,q26,hk']))
   exact hQ _ _ hS (by simp only [go_sem,q0]) (by simp only [go_sem,q1]) (by simp only [go_sem,q5]) (by simp only [go_sem,q6]) (by simp only [go_sem,q8]) (by simp only [go_sem,q10])
end
section
variable {O:Store} {n:Nat} {PS:List (List Hdr)} {M:List MM} {tp c r:Nat} {o1 o2:List Nat} {J:Env} {Q:AExit->Env->Store->Prop}
attribute [local irreducible] zcc zcd
theorem zsd{L:List ActV8}{ex:Bool}(hok:∀T ∈ L,T.Ok)(hfew:∀T ∈ L,T.q.s.length<=17000/\ T.q.p.length<=10)(hi:i<L.length)(hLl:L.length<1000000000)(hn:0<n)(hn8:n<=8)(hS:CpS O (z1o (keyL logC)) n PS M (z1m true logC (keyL logC)) 0 c r o1 o2)
  (q0:J 0=.int .i64 n) (q1:J 1=.vsl 45 (z3p L) ex) (q5:J 5=.ptr 0 0 0) (q6:J 6=.ptr c 0 0) (q8:J 8=.ptr r 0 0) (q10:J 10=.int .i64 i)
  (hQ:∀J' O' PS' M' o1' o2',CpS O' (z1o (keyL logC)) n PS' M' (z1m true logC (keyL logC)) 0 c r o1' o2'->J' 0=.int .i64 n->J' 1=.vsl 45 (z3p L) ex->J' 5=.ptr 0 0 0->J' 6=.ptr c 0 0->J' 8=.ptr r 0 0->J' 10=.int .i64 i->Q .normal J' O'):
  zW TC 331 0 zce Q J O:=by
 have gi:=zie hi
 have sl:=z16 L
 have hT:=hok L[i] (List.getElem_mem hi)
 have hF:=hfew L[i] (List.getElem_mem hi)
 generalize L[i]=T at*
 have cl:=zu T
 have ca:=z8s T
 have cb:=zq9 T
 have ct:=zq8 T
 have hak:=hT.a
 have hbk:=hT.b
 have E1:Ext O (O++ [some [z28 T]]):=⟨_,rfl⟩
 have S1:=hS.ext E1
 have hB:CpB (O++ [some [z28 T]]) T O.length o1 o2:=⟨by rw [z18 (Nat.le_refl _),Nat.sub_self];rfl,fun e=>by have:=hS.c.lt ploc_is _ e;omega,fun e=>by have:=hS.r.lt ploc_r _ e;omega⟩
 have hg:=hB.g
 have hi':(i:Int)<L.length:=by omega
 have hn1:¬((n:Int)+1=0):=by omega
 have hn2:(0:Int)<(n:Int)+1:=by omega
 unfold zce
 repeat' (first|apply zA rfl|(apply zd_ rfl<;>intro ht<;>try omega)|((first|apply zB rfl|(apply zG<;>intro ht))<;>try simp (disch:=first|omega|simp only [lz,lQ];try omega) only [go_sem,q0,q1,q5,q6,q8,q10,gi,sl,cl,ca,cb,ct,hi',hn1,hn2]))
 generalize O++ [some [z28 T]]=O1 at*
 generalize O.length=B at*
 refine zqd (x:=.vsl 45 (z3p L) ex) (i:=i) (B:=B) (a:=(T.a:Int)%((n:Int)+1)) (b:=(T.b:Int)%((n:Int)+1)) S1 hB hT hF.2 ⟨by simp only [go_sem,q0],by simp only [go_sem,q1],by simp only [go_sem,q5],by simp only [go_sem,q6],by simp only [go_sem,q8],by simp only [go_sem,q10],by simp only [go_sem],by simp only [go_sem],by simp only [go_sem]⟩ (by simp only [go_sem]) hn ?_
 intro J2 O2 PS2 M2 o12 o22 S2 B2 hE q14
 show zW TC 331 0 _ _ _ _
 exact zse S2 hn hn8 hE.q0 hE.q1 hE.q5 hE.q6 hE.q8 hE.q10 q14 fun J3 O3 S3 q0 q1 q5 q6 q8 q10=>hQ _ _ _ _ _ _ S3 q0 q1 q5 q6 q8 q10
attribute [local irreducible] zce
theorem zsc{L:List ActV8}(hw:Wf ([]:Store).length [])(hok:∀T ∈ L,T.Ok)(hfew:∀T ∈ L,T.q.s.length<=17000/\ T.q.p.length<=10)(hLl:L.length<=25)(hx:SlV 45 (z3p L) x)(hn:0<n)(hn8:n<=8)(hS:CpS O (z1o (keyL logC)) n PS M (z1m true logC (keyL logC)) 0 c r o1 o2)
  (q0:J 0=.int .i64 n) (q1:J 1=x) (q5:J 5=.ptr 0 0 0) (q6:J 6=.ptr c 0 0) (q8:J 8=.ptr r 0 0):
  zW TC 331 0 zc7 (endQ 0 [.t 4] (.bool true) []) J O:=by
 have r1:=hx.len
 rw [z16]at r1
 unfold z1f at r1
 unfold zc7
 repeat' (first|apply zA rfl|(apply zd_ rfl<;>intro ht<;>try omega)|((first|apply zB rfl|(apply zG<;>intro ht))<;>try simp (disch:=first|omega|simp only [lz,lQ];try omega) only [go_sem,q0,q1,q5,q6,q8]))
 refine zW.loop (fun t J O'=>∃(i:Nat) (PS:List (List Hdr)) (M:List MM) (o1 o2:List Nat),t+i=L.length/\ CpS O' (z1o (keyL logC)) n PS M (z1m true logC (keyL logC)) 0 c r o1 o2/\ J 0=.int .i64 n/\ J 1=x/\ J 5=.ptr 0 0 0/\ J 6=.ptr c 0 0/\ J 8=.ptr r 0 0/\ J 10=.int .i64 i) L.length ?_ ?_
 ·exact⟨0,PS,M,o1,o2,by omega,hS,by simp only [go_sem,q0],by simp only [go_sem,q1],by simp only [go_sem,q5],by simp only [go_sem,q6],by simp only [go_sem,q8],by simp only [go_sem];try rfl⟩
 ·clear hS q0 q1 q5 q6 q8
  rintro t J O' ⟨i,PS,M,o1,o2,ht,hS,q0,q1,q5,q6,q8,q10⟩
  by_cases hi:i<L.length
  ·obtain⟨ex,rfl⟩:=hx.vsl (by rw [z16];omega)
   have hb:=fun J' Q q0 q1 q5 q6 q8 q10 hQ=>zsd (J:=J') (Q:=Q) (ex:=ex) hok hfew hi (by omega) hn hn8 hS q0 q1 q5 q6 q8 q10 hQ
   repeat' (first|apply zA rfl|(apply zd_ rfl<;>intro ht<;>try omega)|((first|apply zB rfl|(apply zG<;>intro ht))<;>try simp (disch:=first|omega|simp only [lz,lQ];try omega) only [go_sem,q0,q1,q5,q6,q8,q10,r1]))
   refine hb _ _ (by simp only [go_sem,q0]) (by simp only [go_sem,q1]) (by simp only [go_sem,q5]) (by simp only [go_sem,q6]) (by simp only [go_sem,q8]) (by simp only [go_sem,q10]) ?_
   intro J2 O2 PS2 M2 o12 o22 S2 q0 q1 q5 q6 q8 q10
   show zW TC 331 0 _ _ _ _
   repeat' (first|apply zA rfl|(apply zd_ rfl<;>intro ht<;>try omega)|((first|apply zB rfl|(apply zG<;>intro ht))<;>try simp (disch:=first|omega|simp only [lz,lQ];try omega) only [go_sem,q0,q1,q5,q6,q8,q10]))
   exact⟨t-1,by omega,i+1,PS2,M2,o12,o22,by omega,S2,by simp⟩
  ·have hi':¬(i:Int)<L.length:=by omega
   have hno1:=zj0 hS.c (-1) (decide_eq_false (by omega))
   have hno2:=zj0 hS.c n (decide_eq_false (by rw [hS.n];omega))
   repeat' (first|apply zA rfl|(apply zd_ rfl<;>intro ht<;>try omega)|((first|apply zB rfl|(apply callW.mk_pu;(first|exact(fun _=>hno1)|exact(fun _=>hno2)|exact(fun _=>z8d _)))|(apply callW.za;(first|exact(hno1)|exact(hno2)|exact(z8d _)))|(apply zG<;>intro ht))<;>try simp (disch:=first|omega|simp only [lz,lQ];try omega) only [go_sem,q0,q1,q5,q6,q8,q10,r1,hi']))
   exact DownV.pure (τ:=[]) (news:=_) hw z1k
end
attribute [local irreducible] zc7
theorem POks.rep(key:Hash)(n:Nat):POks key (List.replicate n []):=fun i hi=>by
 rw [show (List.replicate n ([]:List Hdr)).getD i []=[]by rw [List.getD_eq_getElem?_getD,List.getElem?_replicate];split<;>rfl];exact POk.nil key
theorem zpf(nd:Int)(L:List ActV8)(hL:∀s ∈ L,s.Ok)(hLl:L.length<=maxLen)(x:AV)(hxs:SlV 45 (z3p L) x):ACallsTo TC 7 [.int .i64 nd,x] [] (.bool true) []:=by
 have hNew:=fun O=>zkv O [108,111,103] (by simp)
 rw [show ([108,111,103]:List UInt8)=logC from rfl]at hNew
 have hG:=fun O=>zpn O L 25 x hxs hL hLl
 refine ACallsTo.of_body q3kok (by simp) fun hw _=> ?_
 by_cases hg:z9c L 25=true
 ·rw [hg]at hG
  repeat' (first|apply zA rfl|(apply zd_ rfl<;>intro ht<;>try omega)|((first|apply zB rfl|(apply callW.mk_pu;(first|exact(fun _=>hG _)|exact(fun _=>z8d _)))|(apply callW.za;(first|exact(hG _)|exact(z8d _)))|(apply zG<;>intro ht))<;>try simp (disch:=first|omega|simp only [lz,lQ];try omega) only [go_sem,Nat.add_zero]))
  exact DownV.pure (τ:=[]) hw z1k
 have hg':=Bool.eq_false_iff.2 hg
 rw [hg']at hG
 obtain⟨hl25,hfew⟩:=ztw (n:=25) hg'
 have hlog:([108,111,103]:List UInt8)=logC:=rfl
 repeat' (first|apply zA rfl|(apply zd_ rfl<;>intro ht<;>try omega)|((first|apply zB rfl|(apply callW.mk_pu;(first|exact(fun _=>hG _)|exact(fun _=>hNew _)))|(apply callW.za;(first|exact(hG _)|exact(hNew _)))|(apply zG<;>intro ht))<;>try simp (disch:=first|omega|simp only [lz,lQ];try omega) only [go_sem,hlog]))
 try simp only [List.nil_append,List.length_nil]
 have hRt:=zhd [some [z1m true logC (keyL logC)]] 0 logC (keyL logC) rfl (z3r logC)
 by_cases hb:nd<2 \/8<nd
 ·have hC:=fun O=>zru O (z1o (keyL logC)) nd hb
  have hD:=fun O=>zz2 O (z1o (keyL logC)) nd hb
  repeat' (first|apply zA rfl|(apply zd_ rfl<;>intro ht<;>try omega)|((first|apply zB rfl|(apply callW.mk_pu;(first|exact(fun _=>hRt)|exact(fun _=>hC _)|exact(fun _=>hD _)|exact(fun _=>z8d _)))|(apply callW.za;(first|exact(hRt)|exact(hC _)|exact(hD _)|exact(z8d _)))|(apply zG<;>intro ht))<;>try simp (disch:=first|omega|simp only [lz,lQ];try omega) only [go_sem,Nat.add_zero]))
  exact DownV.pure (τ:=[]) (news:=_) hw z1k
 obtain⟨n,rfl⟩:∃n:Nat,nd=n:=⟨nd.toNat,by omega⟩
 have h2:2<=n:=by omega
 have h8:n<=8:=by omega
 repeat' (first|apply zA rfl|(apply zd_ rfl<;>intro ht<;>try omega)|((first|apply zB rfl|(apply callW.mk_pu;exact(fun _=>hRt))|(apply callW.za;exact(hRt))|(apply zG<;>intro ht))<;>try simp (disch:=first|omega|simp only [lz,lQ];try omega) only [go_sem]))
 refine callW.mkP (caps:=[]) (ziz _ _ n h2 h8) (CNewP.is _ _ n (by omega)) ?_
 rintro v O1 ⟨c,own,rfl,hE1,S1,hge⟩
 obtain⟨y1,hy1⟩:=hE1
 have g0:O1[0]? =some (some [z1m true logC (keyL logC)]):=by rw [hy1];rfl
 have hRt1:=zhd O1 0 logC (keyL logC) g0 (z3r logC)
 simp (disch:=first|omega|simp only [lz,lQ];try omega) only [go_sem]
 repeat' (first|apply zA rfl|(apply zd_ rfl<;>intro ht<;>try omega)|((first|apply zB rfl|(apply callW.mk_pu;exact(fun _=>hRt1))|(apply callW.za;exact(hRt1))|(apply zG<;>intro ht))<;>try simp (disch:=first|omega|simp only [lz,lQ];try omega) only [go_sem]))
 refine callW.mkP (caps:=[]) (zz3 O1 _ n h2 h8) (CNewR.is _ _ n (by omega)) ?_
 rintro v O2 ⟨r,own2,rfl,hE2,S2,hge2⟩
 have hlt:=S1.lt ploc_is
 have hS:CpS O2 (z1o (keyL logC)) n (List.replicate n []) [] (z1m true logC (keyL logC)) 0 c r own own2:=
  ⟨S1.ext ploc_is hE2,S2,fun j h1 h2=>by have:=hlt j h1;have:=hge2 j h2;omega,by obtain⟨y,rfl⟩:=hE2;rw [gapp (slen g0)];exact g0,fun e=>by have:=hge 0 e;simp at this,fun e=>by have:=hge2 0 e;have:=slen g0;omega,POks.rep _ n,fun m hm=>by simp at hm,by simp,List.length_replicate ..⟩
 simp (disch:=first|omega|simp only [lz,lQ];try omega) only [go_sem]
 repeat' (first|apply zA rfl|(apply zd_ rfl<;>intro ht<;>try omega)|((first|apply zB rfl|(apply zG<;>intro ht))<;>try simp (disch:=first|omega|simp only [lz,lQ];try omega) only [go_sem]))
 exact zsc hw hL hfew hl25 hxs (by omega) h8 hS (by simp only [go_sem]) (by simp only [go_sem]) (by simp only [go_sem]) (by simp only [go_sem]) (by simp only [go_sem])
theorem CirclePlay_law(avs:List AV)(h:z8k [.int .i64,.sl 45 z8t] avs):ACallsTo TC 7 avs [] (.bool true) []:=by
 simp only [z8k]at h
 obtain⟨_,_,rfl,h2,x,_,rfl,h0,rfl⟩:=h
 obtain⟨L,hxs,hLl,hL⟩:=zqn (by simpa only [Sh]using h0)
 simp only [Sh,ShC]at h2
 obtain⟨nd,e,c0,c1⟩:=h2
 cases e
 exact zpf nd L hL hLl x hxs
end
end Am
end Go.Proofs.YtcdcmgjnbjoajaaGreatDoor
section
namespace Go.Proofs.YtcdcmgjnbjoajaaGreatDoor.LawDoor
open Go.ChangeShapes Go.WideShapes Go.ChangeAt Go.RowKit
theorem own:ownKnob Tryz.prog.godebug=none:=by kernel_rfl
theorem zv9:laidOutB Tryz.prog=true:=by kernel_rfl
def z9h:List (String × DataW Unit):=[("speculum/sha.first",Rows.laid_speculum_sha_first),("speculum/sha.rounds",Rows.laid_speculum_sha_rounds)]
set_option maxRecDepth 100000
theorem zsm(os:Os)(args:Array Value):laidMetH Tryz.prog z9h ((World.doorLaid Tryz.prog 400 os).forCall (fun _ _=>0) ⟨#[],args,[]⟩).memory:=
 laidMetH_of_parts3 (fuel:=8) (laidMet_of_run' 8 (by kernel_rfl) (by kernel_rfl)) (by kernel_rfl) (by kernel_rfl)
theorem rel_of{W:World}(h:laidMetH Tryz.prog z9h W):Am.Rel Am.TC [] [] W:=by
 rw [MakeChecks.laidMetH_plain _ _ _ (by kernel_rfl)]at h
 obtain⟨ps,⟨g0,t0,cs0,f0,p0,q0,hg0,ht0,hv0,hd0,⟨g1,t1,cs1,f1,p1,q1,hg1,ht1,hv1,hd1,_,_⟩,_⟩,_,_⟩:=h
 have v0:=Am.vp_of_var (P:=Tryz.prog) (n:= "speculum/sha.first") (g:=0) (t:=178) (e:=177) (m:=8) (k:=.u32) Am.shaFirst (by kernel_rfl) (by kernel_rfl) (by kernel_rfl) (by kernel_rfl) (by kernel_rfl) (by kernel_rfl) hg0 ht0 hv0 hd0
 have v1:=Am.vp_of_var (P:=Tryz.prog) (n:= "speculum/sha.rounds") (g:=1) (t:=183) (e:=177) (m:=64) (k:=.u32) Am.shaRounds (by kernel_rfl) (by kernel_rfl) (by kernel_rfl) (by kernel_rfl) (by kernel_rfl) (by kernel_rfl) hg1 ht1 hv1 hd1
 refine⟨rfl,fun r o h=>by simp at h,fun r h=>by simp at h,fun r r' pl pl' h=>by simp at h,fun g cs h=> ?_⟩
 simp only [Am.TC]at h
 split at h
 ·rename_i hg;subst hg;cases h;exact v0
 ·split at h
  ·rename_i hg;subst hg;cases h;exact v1
  ·cases h
end Go.Proofs.YtcdcmgjnbjoajaaGreatDoor.LawDoor
end
