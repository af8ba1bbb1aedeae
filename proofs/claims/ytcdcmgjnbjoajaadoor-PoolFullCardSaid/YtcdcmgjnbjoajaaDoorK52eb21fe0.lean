import Derived.Test.YtcdcmgjnbjoajaaDoorK441669475
import Derived.Test.YtcdcmgjnbjoajaaDoorK21406c3fa
import Derived.Test.YtcdcmgjnbjoajaaDoorRows
import Derived.Test.YtcdcmgjnbjoajaaDoorCards
import Derived.Test.YtcdcmgjnbjoajaaDoorTie
import Derived.ProofKit
import Derived.LaidMore
import Derived.OpenShut
import Derived.Stop.Joined
import Derived.SevenTiedAt
import Derived.MakeChecks
set_option linter.unusedSimpArgs false
set_option linter.unusedVariables false
open Nat (reduceEqDiff reduceAdd reduceMul reduceSub reduceLeDiff)
open Int (reduceToNat reducePow)
open Nat renaming reduceEqDiff -> nQ1, reduceBEq -> nQ2, reduceAdd -> nQ3, reduceMul -> nQ4, reduceSub -> nQ5, reduceLeDiff -> nQ6
open Int renaming reduceToNat -> nQ7, reducePow -> nQ8
open List renaming length_reverse -> lQr, length_map -> lQm, length_take -> lQt, length_drop -> lQd, length_set -> lQs
set_option maxHeartbeats 16000000
attribute [local go_sem_proc] Nat.reduceEqDiff Nat.reduceBEq Nat.reduceAdd Nat.reduceMul Nat.reduceSub Nat.reduceLeDiff Int.reduceToNat Int.reducePow
namespace Go.Proofs.YtcdcmgjnbjoajaaDoor
namespace Am
section
theorem hcZ31:hc zeroH=[.int .u8 0,.int .u8 0,.int .u8 0,.int .u8 0,.int .u8 0,.int .u8 0,.int .u8 0,.int .u8 0,.int .u8 0,.int .u8 0,.int .u8 0,.int .u8 0,.int .u8 0,.int .u8 0,.int .u8 0,.int .u8 0,.int .u8 0,.int .u8 0,.int .u8 0,.int .u8 0,.int .u8 0,.int .u8 0,.int .u8 0,.int .u8 0,.int .u8 0,.int .u8 0,.int .u8 0,.int .u8 0,.int .u8 0,.int .u8 0,.int .u8 0,.int .u8 0]:=rfl
theorem zbv(h:Hdr):(hdrC h).take 33=.int .i64 h.n::hc h.r:=zag _ _ _ _ _
attribute [local irreducible] ACallsTo ACallsP
theorem zpq(hw:Wf ([]:Store).length [])(O:Store)(q:Nat)(key:Hash)(A B C:Hdr)(n:Nat)(own:List Nat)(J:Env)(hP:PoIs O q key [B,A,C] own)(g1:O[n]? =some (some [hdrC A]))(g2:O[n+1]? =some (some [hdrC B]))(g3:O[n+2]? =some (some [hdrC C]))(q2:J 2=.ptr q 0 0)(q3:J 3=.ptr n 0 0)(q4:J 4=.ptr (n+1) 0 0)(q5:J 5=.ptr (n+2) 0 0)
  (hz:z1i zeroH A.n A.i A.r A.s A.p ≠ 0) (hAp:A.p.length<1000000):
  zW TC 75 0 za8 (endQ 0 [.t 0] (.bool true) []) J O:=by
 have hKn:=zh5 O q key [B,A,C] own hP (by simp)
 rw [show z14 33 (kn [B,A,C])=.vsl 33 [.int .i64 B.n::hc B.r,.int .i64 A.n::hc A.r,.int .i64 C.n::hc C.r] false from rfl]at hKn
 have lA:=zh A
 have lB:=zh B
 have lC:=zh C
 have tA:=z9p A
 have uA:=zbv A
 have uB:=zbv B
 have uC:=zbv C
 have kA:=z6 A.r
 have kB:=z6 B.r
 have kC:=z6 C.r
 have eA:=zd2 A.n A.n A.r A.r
 have eB:=zd2 B.n B.n B.r B.r
 have eC:=zd2 C.n C.n C.r C.r
 rw [decide_eq_true ⟨rfl,rfl⟩]at eA eB eC
 have d1:=slen g1
 have hE:=zch O zeroH
 rw [hcZ31]at hE
 repeat' (first|apply zs_|apply zb_|apply zc_|apply zt_ rfl|apply zf_ rfl|(apply zd_ rfl<;>intro ht<;>try omega)|((first|apply zr_|apply zk_|apply ze_|apply zq_|(apply callW.mk_pu;(first|exact(fun _=>hKn)))|(apply callW.za;(first|exact(hKn)))|(apply zG<;>intro ht));all_goals try simp (disch:=first|omega|(simp only [lens,z6,z7,zh,zg,zm,z10,lQt,lQd,List.length_replicate];first|done|omega)) only [go_sem,q2,q3,q4,q5,g1,g2,g3,lA,lB,lC,tA,uA,uB,uC,kA,kB,kC,eA,eB,eC,z1g,eq_self,and_self,if_true]))
 have d3:=slen g3
 refine callW.mkP_ef (caps:=[]) hE ⟨_,_,rfl,rfl⟩ ?_
 rintro v O2 ⟨rfl,rfl⟩
 rw [<-hcZ31]
 have hAd:ACallsTo TC 10 [.ptr (O.length+1) 0 0,.agg (hdrC A)] (O++ [some [hc zeroH],some [poC zeroH .nilsl]]) (.int .i64 0) (O++ [some [hc zeroH],some [poC zeroH .nilsl]]):=
  z8b _ (O.length+1) zeroH .nilsl none [] A (z14 32 (hr A.p)) 0 (by rw [z1l (by omega),Nat.add_sub_cancel_left];rfl) (.inl ⟨rfl,rfl,rfl⟩) PSort.nil (by simp) (z33 _ _) (.inl ⟨hz,rfl⟩)
 have x1:(O++ [some [hc zeroH],some [poC zeroH .nilsl]])[n]? =some (some [hdrC A]):=by rw [gapp (by omega)];exact g1
 have x2:(O++ [some [hc zeroH],some [poC zeroH .nilsl]])[n+1]? =some (some [hdrC B]):=by rw [gapp (by omega)];exact g2
 have x3:(O++ [some [hc zeroH],some [poC zeroH .nilsl]])[n+2]? =some (some [hdrC C]):=by rw [gapp (by omega)];exact g3
 have hx:Ext ([]:Store) (O++ [some [hc zeroH],some [poC zeroH .nilsl]]):=⟨_,(List.nil_append _).symm⟩
 generalize (O++ [some [hc zeroH],some [poC zeroH .nilsl]])=O2 at*
 refine⟨by simp (disch:=first|omega|(simp only [lens,z6,z7,zh,zg,zm,z10,lQt,lQd,List.length_replicate];first|done|omega)) only [go_sem,x1,x2,x3,lA,lB,lC,tA,uA,uB,uC,kA,kB,kC],?_⟩
 simp (disch:=first|omega|(simp only [lens,z6,z7,zh,zg,zm,z10,lQt,lQd,List.length_replicate];first|done|omega)) only [go_sem,x1,x2,x3,g1,g2,g3,lA,lB,lC,tA,uA,uB,uC,kA,kB,kC,q2,q3,q4,q5]
 repeat' (first|apply zs_|apply zb_|apply zc_|apply zt_ rfl|apply zf_ rfl|(apply zd_ rfl<;>intro ht<;>try omega)|((first|apply zr_|apply zk_|apply ze_|apply zq_|(apply callW.mk_pu;(first|exact(fun _=>hAd)))|(apply callW.za;(first|exact(hAd)))|(apply zG<;>intro ht));all_goals try simp (disch:=first|omega|(simp only [lens,z6,z7,zh,zg,zm,z10,lQt,lQd,List.length_replicate];first|done|omega)) only [go_sem,x1,x2,x3,g1,g2,g3,lA,lB,lC,tA,uA,uB,uC,kA,kB,kC,q2,q3,q4,q5]))
 exact DownV.pure (τ:=[]) (news:=O2) hw z3c
end
section
theorem zsf(seed:List UInt8)(dg x:Hash)(hx:z18 (keyL seed) ≠ x):verI x dg (0:Nat) (ksgS seed (0:Nat) dg.1) (z1j (keyL seed) 0) ≠ 0:=by
 have hc:chkP (hd (keyL seed) 0) (0:Nat) 8 (z1j (keyL seed) 0) x ≠ 0:=by
  obtain⟨a,b,c,d,e,f,g,h,hK⟩:=len8 (z2r seed)
  rw [hK]at hx ⊢
  rw [zcv]at hx
  obtain⟨p0,_⟩:=zgy a b c d e f g h
  rw [p0,z3w 0 (by omega),if_neg]
  ·decide
  ·exact fun e=>hx (by rw [<-e];simp [z29,hd])
 unfold verI
 rw [if_neg (by omega),if_pos (z9t _ _ _),zhe,<-zfw seed 0 (by omega),if_neg hc]
 decide
theorem zr1(seed:List UInt8)(x:Hash)(n:Int)(r:Hash)(hn:0<=n/\ n<=4096)(hx:z18 (keyL seed) ≠ x):z1i x (z11 seed 0 n r).n (z11 seed 0 n r).i (z11 seed 0 n r).r (z11 seed 0 n r).s (z11 seed 0 n r).p ≠ 0:=by
 have hv:z69 (z11 seed 0 n r).n (z11 seed 0 n r).i (z11 seed 0 n r).s (z11 seed 0 n r).p=true:=decide_eq_true ⟨hn.1,hn.2,by simp only [z11];omega,by simp only [z11];omega,z9t _ _ _,zcc _ _⟩
 unfold z1i
 have e:(if verI x (digH (z11 seed 0 n r).n (z11 seed 0 n r).r) (z11 seed 0 n r).i (z11 seed 0 n r).s (z11 seed 0 n r).p=0 then(0:Int)else 81)=81:=if_neg (zsf seed _ x hx)
 rw [hv,if_neg (by simp),e]
 decide
attribute [local irreducible] ACallsTo ACallsP
theorem zpn:ACallsTo TC 13 [] [] (.bool true) []:=by
 refine zpr fun O q key A B C n own J h1 h2 h3 h4 h5 h6 h7 h8 h9 hk hA hB hC=> ?_
 have cA:=z73 [107] 0 1 (rb 9) (by omega) (by omega)
 have cB:=z73 [107] 0 1 (rb 2) (by omega) (by omega)
 have cC:=z73 [107] 0 2 (rb 1) (by omega) (by omega)
 have hz:=zr1 [107] zeroH 1 (rb 9) (by omega) (root_k zeroH rfl)
 have hp:=z6l cA
 have hw:Wf ([]:Store).length []:=fun r o h=>by simp at h
 rw [<-hk,<-hA]at cA
 rw [<-hk,<-hB]at cB
 rw [<-hk,<-hC]at cC
 rw [<-hA]at hz hp
 exact zpp hw O q key A B C n own J h1 h2 h3 h4 h5 h6 h7 h8 h9 cA cB cC (by rw [hA];rfl) (by rw [hA];rfl) (by rw [hB];rfl) (by rw [hB];rfl) (by rw [hC];rfl) (by rw [hC];rfl)
  fun O own J g1 g2 g3 g4 g5 g6 g7 g8=>zpq hw O q key A B C n own J g1 g2 g3 g4 g5 g6 g7 g8 hz (by omega)
theorem zh8(O:Store):ACallsTo TC 13 [] O (.bool true) O:=ACallsTo.frame glok zpn (by simp [RLs]) O
end
section
attribute [local irreducible] ACallsTo ACallsP
end
section
def noF(P:List Hdr)(i:Nat):Prop:=∀k,k+1<i->(P[k]?).map Hdr.n ≠ (P[k+1]?).map Hdr.n
theorem zo2{P:List Hdr}{i:Nat}(h:noF P i)(hi:0<i)(hn:(P[i-1]?).map Hdr.n ≠ (P[i]?).map Hdr.n):noF P (i+1):=fun k hk=>by
 by_cases e:k+1<i
 ·exact h k e
 ·obtain rfl:k=i-1:=by omega
  rw [show i-1+1=i by omega];exact hn
def ForkIs(P:List Hdr):Option Nat->Prop
 |none=>noF P P.length
 |some j=>j+1<P.length/\ (P[j]?).map Hdr.n=(P[j+1]?).map Hdr.n/\ noF P (j+1)
theorem ForkIs.ex(P:List Hdr):∃o,ForkIs P o:=by
 have:∀i,i<=P.length->(∃j,ForkIs P (some j)) \/noF P i:=by
  intro i
  induction i with
  |zero=>exact fun _=> .inr fun k hk=>by omega
  |succ i ih=>
   intro hi
   rcases ih (by omega)with h|h
   ·exact .inl h
   ·rcases Nat.eq_zero_or_pos i with rfl|h0
    ·exact .inr fun k hk=>by omega
    ·by_cases he:(P[i-1]?).map Hdr.n=(P[i]?).map Hdr.n
     ·exact .inl ⟨i-1,by omega,by rw [show i-1+1=i by omega];exact he,by rw [show i-1+1=i by omega];exact h⟩
     ·exact .inr (zo2 h h0 he)
 rcases this P.length (Nat.le_refl _)with⟨j,h⟩|h
 ·exact⟨some j,h⟩
 ·exact⟨none,h⟩
attribute [local irreducible] ACallsTo ACallsP
end
section
def hns(P:List Hdr):List (Int × Hash):=P.map fun q=>(q.n,q.r)
attribute [local irreducible] ACallsTo ACallsP
def PoCopyP(O:Store)(key:Hash)(P:List Hdr)(v:AV)(O':Store):Prop:=
 ∃p own,v=.ptr p 0 0/\ Ext O O'/\ PoIs O' p key P own/\ ∀j ∈ own,O.length<=j
theorem PoCopyP.at(O:Store)(key:Hash)(P:List Hdr):PoCopyP O key P (.ptr (ownS O (hdrs P)).length 0 0) (ownS O (hdrs P)++ [some [poC key (ownV O 36 (hdrs P))]]):=by
 by_cases h:hdrs P=[]
 ·have e1:ownS O (hdrs P)=O:=by unfold ownS;rw [if_pos h]
  have e2:ownV O 36 (hdrs P)=.nilsl:=by unfold ownV;rw [if_pos h]
  rw [e1,e2]
  exact⟨_,[O.length],rfl,⟨_,rfl⟩,⟨.nilsl,none,rfl,by rw [z1l (Nat.le_refl _),Nat.sub_self];rfl,.inl ⟨rfl,h,rfl⟩,by simp⟩,by simp⟩
 ·have e1:ownS O (hdrs P)=O++ [some (hdrs P)]:=by unfold ownS;rw [if_neg h]
  have e2:ownV O 36 (hdrs P)=.sl O.length 0 (hdrs P).length none 36:=by unfold ownV;rw [if_neg h]
  rw [e1,e2]
  refine⟨O.length+1,[O.length+1,O.length],by simp,⟨[some (hdrs P),some [poC key (.sl O.length 0 (hdrs P).length none 36)]],by simp⟩,⟨_,some O.length,rfl,?_,.inr ⟨O.length,rfl,h,rfl,?_⟩,by simp⟩,by simp⟩
  ·rw [z1l (by simp)];simp
  ·rw [List.append_assoc,z1l (Nat.le_refl _),Nat.sub_self];rfl
theorem PoCopyP.is(O:Store)(key:Hash)(P:List Hdr):∃v O',PoCopyP O key P v O':=⟨_,_,.at O key P⟩
end
section
theorem znb{P:List Hdr}(hP:PSort P)(m:Int)(k:Hash):isP P m k=true ↔ ∃q ∈ P,q.n=m/\ q.r=k:=by
 unfold isP
 rw [decide_eq_true_iff]
 constructor
 ·rintro⟨h,e⟩
  exact⟨P[lbP P m k],List.getElem_mem h,po_zero.1 e⟩
 ·rintro⟨q,hq,rfl,rfl⟩
  obtain⟨j,hj,rfl⟩:=List.getElem_of_mem hq
  have z:poI P[j].n P[j].r P[j].n P[j].r=0:=po_zero.2 ⟨rfl,rfl⟩
  have h1:¬j<lbP P P[j].n P[j].r:=fun h=>by have:=(z6n hP P[j].n P[j].r j hj).2 h;omega
  by_cases h2:lbP P P[j].n P[j].r=j
  ·refine⟨by omega,?_⟩
   simp only [h2];exact z
  ·exfalso
   have h3:lbP P P[j].n P[j].r<j:=by omega
   have:=hP _ j (by omega) hj h3
   have:=(z6n hP P[j].n P[j].r _ (by omega)).1 this
   omega
theorem lbP_eq{P:List Hdr}(hP:PSort P){m:Int}{k:Hash}{c:Nat}(hc:c<=P.length)(h:∀j (hj:j<P.length),poI P[j].n P[j].r m k<0 ↔ j<c):lbP P m k=c:=by
 have hl:=z86 P m k
 rcases Nat.lt_trichotomy (lbP P m k) c with h1|h1|h1
 ·have h2:lbP P m k<P.length:=by omega
  have:=(z6n hP m k _ h2).1 ((h _ h2).2 h1)
  omega
 ·exact h1
 ·have h2:c<P.length:=by omega
  have:=(h _ h2).1 ((z6n hP m k _ h2).2 h1)
  omega
theorem Fr.nin{O O':Store}{own own':List Nat}(h:Fr O O' own own'){j:Nat}(hj:j<O.length)(hn:j ∉ own):j ∉ own':=fun h2=>by
 rcases h.new j h2 with h3|h3
 ·exact hn h3
 ·omega
theorem rb_ne{a b:UInt8}(h:a ≠ b):rb a ≠ rb b:=fun e=>by
 have:=congrArg (fun x:Hash=>x.1.headD 0) e
 exact h (by simpa [rb]using this)
section
variable (seed:List UInt8)
def pfH(m j:Nat):Hdr:=z11 seed 0 (10+(j:Int)) (rb (if j<m then 4 else 3))
def pfL(m i:Nat):List Hdr:=(List.range i).map (pfH seed m)
theorem z5k(m i:Nat):(pfL seed m i).length=i:=by simp [pfL]
theorem za0(m i:Nat){j:Nat}(h:j<(pfL seed m i).length):(pfL seed m i)[j]=pfH seed m j:=by simp [pfL]
theorem z6t(m i:Nat):PSort (pfL seed m i):=fun a b ha hb hab=>by
 rw [za0,za0,show (pfH seed m a).n=10+(a:Int)from rfl,show (pfH seed m b).n=10+(b:Int)from rfl,z63 _ _ (by omega)]
 omega
theorem zpg(m i:Nat):pfL seed m (i+1)=pfL seed m i++ [pfH seed m i]:=by simp [pfL,List.range_succ]
theorem zgz(m j:Nat)(hj:j<1000):z1i (z18 (keyL seed)) (pfH seed m j).n (pfH seed m j).i (pfH seed m j).r (pfH seed m j).s (pfH seed m j).p=0:=z73 seed 0 _ _ (by omega) (by omega)
theorem pf_add(m i:Nat)(hi:i<16):addC (z18 (keyL seed)) (pfL seed m i) (pfH seed m i)=2/\ addL (z18 (keyL seed)) (pfL seed m i) (pfH seed m i)=pfL seed m (i+1):=by
 have hl:=z5k seed m i
 have lb:lbP (pfL seed m i) (pfH seed m i).n (pfH seed m i).r=i:=lbP_eq (z6t seed m i) (by omega) fun j hj=>by
  rw [za0,show (pfH seed m j).n=10+(j:Int)from rfl,show (pfH seed m i).n=10+(i:Int)from rfl,z63 _ _ (by omega)]
  omega
 obtain⟨r1,s1⟩:=z99 (zgz seed m i (by omega)) lb (by rintro⟨h,_⟩;omega) (by omega)
 have e1:(pfL seed m i).take i=pfL seed m i:=List.take_of_length_le (by omega)
 have e2:(pfL seed m i).drop i=[]:=List.drop_of_length_le (by omega)
 rw [e1,e2]at r1 s1
 rw [<-zpg]at r1 s1
 refine⟨?_,s1⟩
 rw [r1,if_neg]
 rintro(⟨h0,h1⟩|h1)
 ·rw [List.getElem?_eq_getElem (by rw [z5k];omega),za0]at h1
  have h2:(10:Int)+((i-1:Nat):Int)=10+(i:Int):=Option.some.inj h1
  omega
 ·rw [List.getElem?_eq_none (by rw [z5k];omega)]at h1
  cases h1
theorem zcd(m i:Nat)(n:Int)(r:Hash):isP (pfL seed m i) n r=true ↔ ∃j,j<i/\ 10+(j:Int)=n/\ rb (if j<m then 4 else 3)=r:=by
 rw [znb (z6t seed m i)]
 constructor
 ·rintro⟨q,hq,h1,h2⟩
  obtain⟨j,hj,rfl⟩:=List.mem_map.1 hq
  exact⟨j,List.mem_range.1 hj,h1,h2⟩
 ·rintro⟨j,hj,h1,h2⟩
  exact⟨pfH seed m j,List.mem_map.2 ⟨j,List.mem_range.2 hj,rfl⟩,h1,h2⟩
theorem zh0(m:Nat)(n:Int)(r:Hash)(hn:0<=n/\ n<=4096)(hf:isP (pfL seed m 16) n r=false):addC (z18 (keyL seed)) (pfL seed m 16) (z11 seed 0 n r)=4:=by
 unfold addC
 rw [if_neg (by rw [z73 seed 0 n r (by omega) hn];simp),if_neg (by rw [show (z11 seed 0 n r).n=n from rfl,show (z11 seed 0 n r).r=r from rfl,hf];simp),if_pos (by rw [z5k];omega)]
theorem pf_5(m:Nat):addC (z18 (keyL seed)) (pfL seed m 16) (z11 seed 0 5 (rb 3))=4:=by
 refine zh0 seed m 5 (rb 3) (by omega) ?_
 cases h:isP (pfL seed m 16) 5 (rb 3)with
 |false=>rfl
 |true=>obtain⟨j,_,h1,_⟩:=(zcd seed m 16 _ _).1 h;omega
theorem pf_10(m:Nat):addC (z18 (keyL seed)) (pfL seed m 16) (z11 seed 0 10 (rb 9))=4:=by
 refine zh0 seed m 10 (rb 9) (by omega) ?_
 cases h:isP (pfL seed m 16) 10 (rb 9)with
 |false=>rfl
 |true=>
  obtain⟨j,_,_,h2⟩:=(zcd seed m 16 _ _).1 h
  exfalso
  revert h2
  refine rb_ne ?_
  split<;>decide
theorem pf_25(m:Nat)(hm:m<16):addC (z18 (keyL seed)) (pfL seed m 16) (z11 seed 0 25 (rb 3))=1:=by
 unfold addC
 rw [if_neg (by rw [z73 seed 0 25 (rb 3) (by omega) (by omega)];simp),if_pos]
 exact(zcd seed m 16 _ _).2 ⟨15,by omega,rfl,by rw [if_neg (by omega)];rfl⟩
end
theorem zcf(O:Store)(p:Nat)(key:Hash)(P:List Hdr)(own:List Nat)(q:Hdr)(x:AV)(e:Int)(hT:PoIs O p key P own)(hs:PSort P)(hl:P.length<=16)(hx:SlV 32 (hr q.p) x)(he:addC key P q=e)(h2:e ≠ 2)(h3:e ≠ 3):
  ACallsTo TC 10 [.ptr p 0 0,.agg (sgC q.n q.r q.i q.s x)] O (.int .i64 e) O:=by
 obtain⟨v,sid,rfl,hp,hr1,hn⟩:=hT
 refine z8b O p key v sid P q x e hp hr1 hs (by omega) hx ?_
 unfold addC at he
 by_cases h0:z1i key q.n q.i q.r q.s q.p ≠ 0
 ·rw [if_pos h0]at he;exact .inl ⟨h0,he.symm⟩
 have h0':z1i key q.n q.i q.r q.s q.p=0:=by omega
 rw [if_neg h0]at he
 cases h1:isP P q.n q.r with
 |true=>rw [h1,if_pos rfl]at he;exact .inr (.inl ⟨h0',rfl,he.symm⟩)
 |false=>
  rw [h1,if_neg (by simp)]at he
  by_cases h4:16<=P.length
  ·rw [if_pos h4]at he;exact .inr (.inr ⟨h0',rfl,h4,he.symm⟩)
  ·rw [if_neg h4]at he
   exfalso
   split at he<;>omega
end
section
attribute [local irreducible] ACallsTo ACallsP zcj za6
theorem pf_end(hw:Wf ([]:Store).length [])(seed:List UInt8)(hs:seed.length<1000000)(m:Nat)(hm:m<16)(O:Store)(own:List Nat)(J:Env)(hP:PoIs O 2 (z18 (keyL seed)) (pfL seed m 16) own)(ht:O[0]? =some (some [z1c true seed (keyL seed)]))(q3:J 3=.ptr 0 0 0)(q4:J 4=.ptr 2 0 0):
  zW TC 56 0 za6 (endQ 0 [.t 2] (.bool true) []) J O:=by
 have hK:=zh5 O 2 _ _ own hP (by rw [z5k];omega)
 have hkl:(kn (pfL seed m 16)).length=16:=by rw [z10,z5k]
 have hne:kn (pfL seed m 16) ≠ []:=fun e=>by rw [e]at hkl;simp at hkl
 have hV:z14 33 (kn (pfL seed m 16))=.vsl 33 (kn (pfL seed m 16)) false:=by unfold z14;rw [if_neg hne]
 rw [hV]at hK
 have hl16:(pfL seed m 16).length<=16:=by rw [z5k];omega
 have A1:=zcf O 2 _ _ own (z11 seed 0 5 (rb 3)) (z14 32 (hr (z11 seed 0 5 (rb 3)).p)) 4 hP (z6t seed m 16) hl16 (z33 _ _) (pf_5 seed m) (by omega) (by omega)
 have A2:=zcf O 2 _ _ own (z11 seed 0 10 (rb 9)) (z14 32 (hr (z11 seed 0 10 (rb 9)).p)) 4 hP (z6t seed m 16) hl16 (z33 _ _) (pf_10 seed m) (by omega) (by omega)
 have A3:=zcf O 2 _ _ own (z11 seed 0 25 (rb 3)) (z14 32 (hr (z11 seed 0 25 (rb 3)).p)) 1 hP (z6t seed m 16) hl16 (z33 _ _) (pf_25 seed m hm) (by omega) (by omega)
 have hdr:∀h:Hdr,sgC h.n h.r h.i h.s (z14 32 (hr h.p))=hdrC h:=fun h=>rfl
 rw [hdr]at A1 A2 A3
 have s1:=z77 O 0 seed 5 3 ht hs
 have s2:=z77 O 0 seed 10 9 ht hs
 have s3:=z77 O 0 seed 25 3 ht hs
 rw [show (((9:UInt8).toNat:Nat):Int)=9 from rfl]at s2
 rw [show (((3:UInt8).toNat:Nat):Int)=3 from rfl]at s1 s3
 generalize z11 seed 0 5 (rb 3)=h1 at*
 generalize z11 seed 0 10 (rb 9)=h2 at*
 generalize z11 seed 0 25 (rb 3)=h3 at*
 generalize kn (pfL seed m 16)=K at*
 unfold za6
 repeat' (first|apply zs_|apply zb_|apply zc_|apply zt_ rfl|apply zf_ rfl|(apply zd_ rfl<;>intro ht<;>try omega)|((first|apply zr_|apply zk_|apply ze_|apply zq_|(apply callW.mk_pu;(first|exact(fun _=>s1)|exact(fun _=>s2)|exact(fun _=>s3)|exact(fun _=>A1)|exact(fun _=>A2)|exact(fun _=>A3)|exact(fun _=>hK)|exact(fun _=>zh8 _)))|(apply callW.za;(first|exact(s1)|exact(s2)|exact(s3)|exact(A1)|exact(A2)|exact(A3)|exact(hK)|exact(zh8 _)))|(apply zG<;>intro ht));all_goals try simp (disch:=first|omega|(simp only [lens,z6,z7,zh,zg,zm,z10,lQt,lQd,List.length_replicate];first|done|omega)) only [go_sem,q3,q4,hkl]))
 exact DownV.pure (τ:=[]) (news:=O) hw z3c
attribute [local irreducible] za7
theorem zph(hw:Wf ([]:Store).length [])(seed:List UInt8)(hs:seed.length<1000000)(n:Nat)(hn:n<256)(O:Store)(own:List Nat)(J:Env)(hP:PoIs O 2 (z18 (keyL seed)) [] own)(h0o:0 ∉ own)(ht:O[0]? =some (some [z1c true seed (keyL seed)]))(q0:J 0=.int .u8 n)(q3:J 3=.ptr 0 0 0)(q4:J 4=.ptr 2 0 0):
  zW TC 56 0 za7 (endQ 0 [.t 2] (.bool true) []) J O:=by
 have e16:(n:Int)%16=((n%16:Nat):Int):=by omega
 have hm:n%16<16:=by omega
 generalize n%16=m at*
 unfold za7 zcj
 repeat' (first|apply zs_|apply zb_|apply zc_|apply zt_ rfl|apply zf_ rfl|(apply zd_ rfl<;>intro ht<;>try omega)|((first|apply zr_|apply zk_|apply ze_|apply zq_|(apply zG<;>intro ht));all_goals try simp (disch:=first|omega|(simp only [lens,z6,z7,zh,zg,zm,z10,lQt,lQd,List.length_replicate];first|done|omega)) only [go_sem,q0,q3,q4,e16]))
 refine zW.loop (fun t J O'=>∃(i:Nat) (own:List Nat),t+i=16/\ PoIs O' 2 (z18 (keyL seed)) (pfL seed m i) own/\ 0 ∉ own/\ O'[0]? =some (some [z1c true seed (keyL seed)])/\ J 0=.int .u8 n/\ J 3=.ptr 0 0 0/\ J 4=.ptr 2 0 0/\ J 5=.int .i64 i) 16 ?_ ?_
 ·exact⟨0,own,by omega,hP,h0o,ht,by simp (disch:=first|omega|(simp only [lens,z6,z7,zh,zg,zm,z10,lQt,lQd,List.length_replicate];first|done|omega)) only [go_sem,q0],by simp (disch:=first|omega|(simp only [lens,z6,z7,zh,zg,zm,z10,lQt,lQd,List.length_replicate];first|done|omega)) only [go_sem,q3],by simp (disch:=first|omega|(simp only [lens,z6,z7,zh,zg,zm,z10,lQt,lQd,List.length_replicate];first|done|omega)) only [go_sem,q4],by simp (disch:=first|omega|(simp only [lens,z6,z7,zh,zg,zm,z10,lQt,lQd,List.length_replicate];first|done|omega)) only [go_sem];try rfl⟩
 ·rintro t J O' ⟨i,own,ht16,hP,h0o,ht,q0,q3,q4,q5⟩
  by_cases hi:i<16
  ·obtain⟨c1,c2⟩:=pf_add seed m i hi
   have hA:=z8c O' 2 _ _ own (pfH seed m i) (z14 32 (hr (pfH seed m i).p)) hP (z6t seed m i) (by rw [z5k];omega) (z33 _ _) (by rw [z6l (zgz seed m i (by omega))];omega) (fun h=>by have:=z6l h;intro e;rw [e]at this;simp at this)
   have hE:=PoAddP.is (q:=pfH seed m i) hP
   have hdr:∀h:Hdr,sgC h.n h.r h.i h.s (z14 32 (hr h.p))=hdrC h:=fun h=>rfl
   rw [hdr]at hA
   have fin:∀(v:AV) (O2:Store),PoAddP O' 2 (z18 (keyL seed)) (pfL seed m i) own (pfH seed m i) v O2->v=.int .i64 2/\ ∃own2,PoIs O2 2 (z18 (keyL seed)) (pfL seed m (i+1)) own2/\ 0 ∉ own2/\ O2[0]? =some (some [z1c true seed (keyL seed)]):=by
    rintro v O2 ⟨rfl,own2,fr,P2⟩
    rw [c2]at P2
    exact⟨by rw [c1],own2,P2,fr.nin (slen ht) h0o,fr.get ht h0o⟩
   by_cases him:i<m
   ·have hb:pfH seed m i=z11 seed 0 (10+(i:Int)) (rb 4):=by unfold pfH;rw [if_pos him]
    have hs1:=z77 O' 0 seed (10+(i:Int)) 4 ht hs
    rw [show (((4:UInt8).toNat:Nat):Int)=4 from rfl,<-hb]at hs1
    generalize pfH seed m i=h at*
    repeat' (first|apply zs_|apply zb_|apply zc_|apply zt_ rfl|apply zf_ rfl|(apply zd_ rfl<;>intro ht<;>try omega)|((first|apply zr_|apply zk_|apply ze_|apply zq_|(apply callW.mk_pu;(first|exact(fun _=>hs1)))|(apply callW.za;(first|exact(hs1)))|(apply zG<;>intro ht));all_goals try simp (disch:=first|omega|(simp only [lens,z6,z7,zh,zg,zm,z10,lQt,lQd,List.length_replicate];first|done|omega)) only [go_sem,q0,q3,q4,q5,e16]))
    refine callW.mkP (caps:=[]) hA hE ?_
    intro v O2 hv
    obtain⟨rfl,own2,P2,h02,t2⟩:=fin v O2 hv
    simp (disch:=first|omega|(simp only [lens,z6,z7,zh,zg,zm,z10,lQt,lQd,List.length_replicate];first|done|omega)) only [go_sem,q0,q3,q4,q5]
    repeat' (first|apply zs_|apply zb_|apply zc_|apply zt_ rfl|apply zf_ rfl|(apply zd_ rfl<;>intro ht<;>try omega)|((first|apply zr_|apply zk_|apply ze_|apply zq_|(apply zG<;>intro ht));all_goals try simp (disch:=first|omega|(simp only [lens,z6,z7,zh,zg,zm,z10,lQt,lQd,List.length_replicate];first|done|omega)) only [go_sem,q0,q3,q4,q5]))
    exact⟨t-1,by omega,i+1,own2,by omega,P2,h02,t2,by simp⟩
   ·have hb:pfH seed m i=z11 seed 0 (10+(i:Int)) (rb 3):=by unfold pfH;rw [if_neg him]
    have hs1:=z77 O' 0 seed (10+(i:Int)) 3 ht hs
    rw [show (((3:UInt8).toNat:Nat):Int)=3 from rfl,<-hb]at hs1
    generalize pfH seed m i=h at*
    repeat' (first|apply zs_|apply zb_|apply zc_|apply zt_ rfl|apply zf_ rfl|(apply zd_ rfl<;>intro ht<;>try omega)|((first|apply zr_|apply zk_|apply ze_|apply zq_|(apply callW.mk_pu;(first|exact(fun _=>hs1)))|(apply callW.za;(first|exact(hs1)))|(apply zG<;>intro ht));all_goals try simp (disch:=first|omega|(simp only [lens,z6,z7,zh,zg,zm,z10,lQt,lQd,List.length_replicate];first|done|omega)) only [go_sem,q0,q3,q4,q5,e16]))
    refine callW.mkP (caps:=[]) hA hE ?_
    intro v O2 hv
    obtain⟨rfl,own2,P2,h02,t2⟩:=fin v O2 hv
    simp (disch:=first|omega|(simp only [lens,z6,z7,zh,zg,zm,z10,lQt,lQd,List.length_replicate];first|done|omega)) only [go_sem,q0,q3,q4,q5]
    repeat' (first|apply zs_|apply zb_|apply zc_|apply zt_ rfl|apply zf_ rfl|(apply zd_ rfl<;>intro ht<;>try omega)|((first|apply zr_|apply zk_|apply ze_|apply zq_|(apply zG<;>intro ht));all_goals try simp (disch:=first|omega|(simp only [lens,z6,z7,zh,zg,zm,z10,lQt,lQd,List.length_replicate];first|done|omega)) only [go_sem,q0,q3,q4,q5]))
    exact⟨t-1,by omega,i+1,own2,by omega,P2,h02,t2,by simp⟩
  ·obtain rfl:i=16:=by omega
   repeat' (first|apply zs_|apply zb_|apply zc_|apply zt_ rfl|apply zf_ rfl|(apply zd_ rfl<;>intro ht<;>try omega)|((first|apply zr_|apply zk_|apply ze_|apply zq_|(apply zG<;>intro ht));all_goals try simp (disch:=first|omega|(simp only [lens,z6,z7,zh,zg,zm,z10,lQt,lQd,List.length_replicate];first|done|omega)) only [go_sem,q0,q3,q4,q5]))
   exact pf_end hw seed hs m hm O' own _ hP ht (by simp (disch:=first|omega|(simp only [lens,z6,z7,zh,zg,zm,z10,lQt,lQd,List.length_replicate];first|done|omega)) only [go_sem,q3]) (by simp (disch:=first|omega|(simp only [lens,z6,z7,zh,zg,zm,z10,lQt,lQd,List.length_replicate];first|done|omega)) only [go_sem,q4])
theorem zjh(n:Nat)(hn:n<256):ACallsTo TC 3 [.int .u8 n] [] (.bool true) []:=by
 have hNew:=fun O=>zfx O [107] (by simp)
 refine ACallsTo.of_body q1eok (by simp) fun hw _=> ?_
 repeat' (first|apply zs_|apply zb_|apply zc_|apply zt_ rfl|apply zf_ rfl|(apply zd_ rfl<;>intro ht<;>try omega)|((first|apply zr_|apply zk_|apply ze_|apply zq_|(apply callW.mk_pu;(first|exact(fun _=>hNew _)))|(apply callW.za;(first|exact(hNew _)))|(apply zG<;>intro ht));all_goals try simp (disch:=first|omega|(simp only [lens,z6,z7,zh,zg,zm,z10,lQt,lQd,List.length_replicate];first|done|omega)) only [go_sem]))
 try simp only [List.nil_append,List.length_nil]
 have hsl:([107]:List UInt8).length<1000000:=by simp
 generalize ([107]:List UInt8)=seed at*
 have hRt:=ziq [some [z1c true seed (keyL seed)]] 0 seed (keyL seed) rfl (z2r seed)
 have hE:=zch [some [z1c true seed (keyL seed)]] (z18 (keyL seed))
 repeat' (first|apply zs_|apply zb_|apply zc_|apply zt_ rfl|apply zf_ rfl|(apply zd_ rfl<;>intro ht<;>try omega)|((first|apply zr_|apply zk_|apply ze_|apply zq_|(apply callW.mk_pu;(first|exact(fun _=>hRt)))|(apply callW.za;(first|exact(hRt)))|(apply zG<;>intro ht));all_goals try simp (disch:=first|omega|(simp only [lens,z6,z7,zh,zg,zm,z10,lQt,lQd,List.length_replicate];first|done|omega)) only [go_sem]))
 refine callW.mkP (caps:=[]) hE ⟨_,_,rfl,rfl⟩ ?_
 rintro v O2 ⟨rfl,rfl⟩
 simp (disch:=first|omega|(simp only [lens,z6,z7,zh,zg,zm,z10,lQt,lQd,List.length_replicate];first|done|omega)) only [go_sem]
 repeat' (first|apply zs_|apply zb_|apply zc_|apply zt_ rfl|apply zf_ rfl|(apply zd_ rfl<;>intro ht<;>try omega)|((first|apply zr_|apply zk_|apply ze_|apply zq_|(apply zG<;>intro ht));all_goals try simp (disch:=first|omega|(simp only [lens,z6,z7,zh,zg,zm,z10,lQt,lQd,List.length_replicate];first|done|omega)) only [go_sem]))
 exact zph hw seed hsl n hn _ [2] _ ⟨.nilsl,none,rfl,rfl,.inl ⟨rfl,rfl,rfl⟩,by simp⟩ (by simp) rfl (by simp (disch:=first|omega|(simp only [lens,z6,z7,zh,zg,zm,z10,lQt,lQd,List.length_replicate];first|done|omega)) only [go_sem]) (by simp (disch:=first|omega|(simp only [lens,z6,z7,zh,zg,zm,z10,lQt,lQd,List.length_replicate];first|done|omega)) only [go_sem]) (by simp (disch:=first|omega|(simp only [lens,z6,z7,zh,zg,zm,z10,lQt,lQd,List.length_replicate];first|done|omega)) only [go_sem];try rfl)
theorem PoolFull_law(avs:List AV)(h:z7h [.int .u8] avs):ACallsTo TC 3 avs [] (.bool true) []:=by
 simp only [z7h]at h
 obtain⟨_,_,rfl,h2,rfl⟩:=h
 simp only [Sh,ShC]at h2
 obtain⟨c,e,c0,c1⟩:=h2
 cases e
 simp only [IntKind.min,IntKind.max,IntKind.signed,IntKind.bits]at c0 c1
 simp at c0 c1
 obtain⟨c,rfl⟩:∃k:Nat,c=k:=⟨c.toNat,by omega⟩
 exact zjh c (by omega)
end
end Am
end Go.Proofs.YtcdcmgjnbjoajaaDoor
section
/- What a law with the laid tables of sha begins with. -/
namespace Go.Proofs.YtcdcmgjnbjoajaaDoor.LawDoor
open Go.ChangeShapes Go.WideShapes Go.ChangeAt Go.RowKit
theorem own:ownKnob Tryd.prog.godebug=none:=by kernel_rfl
theorem znh:laidOutB Tryd.prog=true:=by kernel_rfl
def z85:List (String × DataW Unit):=[("speculum/sha.first",Rows.laid_speculum_sha_first),("speculum/sha.rounds",Rows.laid_speculum_sha_rounds)]
set_option maxRecDepth 100000
theorem zl7(os:Os)(args:Array Value):laidMetH Tryd.prog z85 ((World.doorLaid Tryd.prog 400 os).forCall (fun _ _=>0) ⟨#[],args,[]⟩).memory:=
 laidMetH_of_parts3 (fuel:=8) (laidMet_of_run' 8 (by kernel_rfl) (by kernel_rfl)) (by kernel_rfl) (by kernel_rfl)
theorem rel_of{W:World}(h:laidMetH Tryd.prog z85 W):Am.Rel Am.TC [] [] W:=by
 rw [MakeChecks.laidMetH_plain _ _ _ (by kernel_rfl)]at h
 obtain⟨ps,⟨g0,t0,cs0,f0,p0,q0,hg0,ht0,hv0,hd0,⟨g1,t1,cs1,f1,p1,q1,hg1,ht1,hv1,hd1,_,_⟩,_⟩,_,_⟩:=h
 have v0:=Am.vp_of_var (P:=Tryd.prog) (n:= "speculum/sha.first") (g:=0) (t:=107) (e:=106) (m:=8) (k:=.u32) Am.shaFirst (by kernel_rfl) (by kernel_rfl) (by kernel_rfl) (by kernel_rfl) (by kernel_rfl) (by kernel_rfl) hg0 ht0 hv0 hd0
 have v1:=Am.vp_of_var (P:=Tryd.prog) (n:= "speculum/sha.rounds") (g:=1) (t:=118) (e:=106) (m:=64) (k:=.u32) Am.shaRounds (by kernel_rfl) (by kernel_rfl) (by kernel_rfl) (by kernel_rfl) (by kernel_rfl) (by kernel_rfl) hg1 ht1 hv1 hd1
 refine⟨rfl,fun r o h=>by simp at h,fun r h=>by simp at h,fun r r' pl pl' h=>by simp at h,fun g cs h=> ?_⟩
 simp only [Am.TC]at h
 split at h
 ·rename_i hg;subst hg;cases h;exact v0
 ·split at h
  ·rename_i hg;subst hg;cases h;exact v1
  ·cases h
end Go.Proofs.YtcdcmgjnbjoajaaDoor.LawDoor
end
