import Derived.Test.YtcdcmgjnbjoajaaGreatDoorK4d75ac25e
import Derived.Test.YtcdcmgjnbjoajaaGreatDoorK2e05c7938
import Derived.Test.YtcdcmgjnbjoajaaGreatDoorRows
import Derived.Test.YtcdcmgjnbjoajaaGreatDoorCards
import Derived.Test.YtcdcmgjnbjoajaaGreatDoorTie
import Derived.ProofKit
import Derived.LaidMore
import Derived.OpenShut
import Derived.Stop.Joined
import Derived.SevenTiedAt
import Derived.MakeChecks
set_option linter.unusedSimpArgs false
set_option linter.unusedVariables false
open Nat (reduceEqDiff reduceAdd reduceMul reduceSub reduceLeDiff)
open Int (reduceToNat reducePow)
open Nat renaming reduceEqDiff -> nQ1, reduceBEq -> nQ2, reduceAdd -> nQ3, reduceMul -> nQ4, reduceSub -> nQ5, reduceLeDiff -> nQ6
open Int renaming reduceToNat -> nQ7, reducePow -> nQ8
open List renaming length_reverse -> lQr, length_map -> lQm, length_take -> lQt, length_drop -> lQd, length_set -> lQs
set_option maxHeartbeats 16000000
attribute [local go_sem_proc] Nat.reduceEqDiff Nat.reduceBEq Nat.reduceAdd Nat.reduceMul Nat.reduceSub Nat.reduceLeDiff Int.reduceToNat Int.reducePow
namespace Go.Proofs.YtcdcmgjnbjoajaaGreatDoor
namespace Am
section
def cmpI(a b:Int):Int:=if a<b then-1 else if a>b then 1 else 0
def poI(n:Int)(r:Hash)(m:Int)(k:Hash):Int:=if cmpI n m ≠ 0 then cmpI n m else Lib.compareBytes r.1 k.1
theorem zgm:∀(n:Nat) (a b:List AV),a.length=n->chunk 1 n (a++b)=chunk 1 n a
 | 0,a,b,_=>rfl
 |n+1,[],b,h=>by simp at h
 |n+1,c::a,b,h=>by
  show List.take 1 (c::(a++b))::chunk 1 n (a++b)=List.take 1 (c::a)::chunk 1 n a
  rw [zgm n a b (by simpa using h)]
  rfl
attribute [local irreducible] ACallsTo ACallsP
theorem zmw(O:Store)(a b:Int):ACallsTo TC 101 [.int .i64 a,.int .i64 b] O (.int .i64 (cmpI a b)) O:=by
 have hN:∀O x,ACallsTo TC 136 [.int .i64 x] O (.bool false) O:=fun O x=>by
  refine ACallsTo.of_body q1qok (by simp) fun hw _=> ?_
  repeat' (first|apply zs_|apply zb_|apply zc_|apply zt_ rfl|apply zf_ rfl|(apply zd_ rfl<;>intro ht<;>try omega)|((first|apply zr_|apply zk_|apply ze_|apply zq_|(apply zG<;>intro ht));all_goals try simp (disch:=first|omega|(simp only [lens,z6,z8,lQt,lQd,List.length_replicate];first|done|omega)) only [go_sem]))
  exact DownV.same hw z1f
 unfold cmpI
 refine ACallsTo.of_body q1ook (by simp) fun hw _=> ?_
 by_cases h1:a<b
 ·rw [if_pos h1]
  repeat' (first|apply zs_|apply zb_|apply zc_|apply zt_ rfl|apply zf_ rfl|(apply zd_ rfl<;>intro ht<;>try omega)|((first|apply zr_|apply zk_|apply ze_|apply zq_|(apply callW.mk_pu;(first|exact(fun _=>hN _ _)))|(apply callW.za;(first|exact(hN _ _)))|(apply zG<;>intro ht));all_goals try simp (disch:=first|omega|(simp only [lens,z6,z8,lQt,lQd,List.length_replicate];first|done|omega)) only [go_sem,h1]))
  exact DownV.same hw z22
 ·rw [if_neg h1]
  by_cases h2:a>b
  ·rw [if_pos h2]
   repeat' (first|apply zs_|apply zb_|apply zc_|apply zt_ rfl|apply zf_ rfl|(apply zd_ rfl<;>intro ht<;>try omega)|((first|apply zr_|apply zk_|apply ze_|apply zq_|(apply callW.mk_pu;(first|exact(fun _=>hN _ _)))|(apply callW.za;(first|exact(hN _ _)))|(apply zG<;>intro ht));all_goals try simp (disch:=first|omega|(simp only [lens,z6,z8,lQt,lQd,List.length_replicate];first|done|omega)) only [go_sem,h1,h2]))
   exact DownV.same hw z22
  ·rw [if_neg h2]
   repeat' (first|apply zs_|apply zb_|apply zc_|apply zt_ rfl|apply zf_ rfl|(apply zd_ rfl<;>intro ht<;>try omega)|((first|apply zr_|apply zk_|apply ze_|apply zq_|(apply callW.mk_pu;(first|exact(fun _=>hN _ _)))|(apply callW.za;(first|exact(hN _ _)))|(apply zG<;>intro ht));all_goals try simp (disch:=first|omega|(simp only [lens,z6,z8,lQt,lQd,List.length_replicate];first|done|omega)) only [go_sem,h1,h2]))
   exact DownV.same hw z22
theorem zmx(O:Store)(a b:Int)(ex:Bool):ACallsTo TC 100 [.vsl 1 [[.int .i64 a],[.int .i64 b]] ex] O (.int .i64 (if a ≠ 0 then a else b)) O:=by
 refine ACallsTo.of_body q1nok (by simp) fun hw _=> ?_
 repeat' (first|apply zs_|apply zb_|apply zc_|apply zt_ rfl|apply zf_ rfl|(apply zd_ rfl<;>intro ht<;>try omega)|((first|apply zr_|apply zk_|apply ze_|apply zq_|(apply zG<;>intro ht));all_goals try simp (disch:=first|omega|(simp only [lens,z6,z8,lQt,lQd,List.length_replicate];first|done|omega)) only [go_sem]))
 refine zW.loop (fun m J O'=>∃i:Nat,m+i=2/\ O'=O/\ (0<i->a=0)/\ (1<i->b=0)/\ J 3=.int .i64 0/\ J 6=.vsl 1 [[.int .i64 a],[.int .i64 b]] ex/\ J 7=.int .i64 2/\ J 8=.int .i64 i) 2 ?_ ?_
 ·exact⟨0,by omega,rfl,by omega,by omega,by simp (disch:=first|omega|(simp only [lens,z6,z8,lQt,lQd,List.length_replicate];first|done|omega)) only [go_sem],by simp (disch:=first|omega|(simp only [lens,z6,z8,lQt,lQd,List.length_replicate];first|done|omega)) only [go_sem],by simp (disch:=first|omega|(simp only [lens,z6,z8,lQt,lQd,List.length_replicate];first|done|omega)) only [go_sem];try rfl,by simp (disch:=first|omega|(simp only [lens,z6,z8,lQt,lQd,List.length_replicate];first|done|omega)) only [go_sem];try rfl⟩
 ·rintro m J O' ⟨i,hm,rfl,ha,hb,q3,q6,q7,q8⟩
  match i,hm with
  | 0,hm=>
   by_cases h0:a=0
   ·subst h0
    repeat' (first|apply zs_|apply zb_|apply zc_|apply zt_ rfl|apply zf_ rfl|(apply zd_ rfl<;>intro ht<;>try omega)|((first|apply zr_|apply zk_|apply ze_|apply zq_|(apply zG<;>intro ht));all_goals try simp (disch:=first|omega|(simp only [lens,z6,z8,lQt,lQd,List.length_replicate];first|done|omega)) only [go_sem,q3,q6,q7,q8]))
    exact⟨m-1,by omega,1,by refine⟨by omega,?_⟩;simp⟩
   ·have h0':(a==0)=false:=beq_eq_false_iff_ne.2 h0
    rw [if_pos h0]
    repeat' (first|apply zs_|apply zb_|apply zc_|apply zt_ rfl|apply zf_ rfl|(apply zd_ rfl<;>intro ht<;>try omega)|((first|apply zr_|apply zk_|apply ze_|apply zq_|(apply zG<;>intro ht));all_goals try simp (disch:=first|omega|(simp only [lens,z6,z8,lQt,lQd,List.length_replicate];first|done|omega)) only [go_sem,q3,q6,q7,q8,h0']))
    exact DownV.same hw z22
  | 1,hm=>
   obtain rfl:=ha (by omega)
   rw [if_neg (by simp)]
   by_cases h0:b=0
   ·subst h0
    repeat' (first|apply zs_|apply zb_|apply zc_|apply zt_ rfl|apply zf_ rfl|(apply zd_ rfl<;>intro ht<;>try omega)|((first|apply zr_|apply zk_|apply ze_|apply zq_|(apply zG<;>intro ht));all_goals try simp (disch:=first|omega|(simp only [lens,z6,z8,lQt,lQd,List.length_replicate];first|done|omega)) only [go_sem,q3,q6,q7,q8]))
    exact⟨m-1,by omega,2,by refine⟨by omega,?_⟩;simp⟩
   ·have h0':(b==0)=false:=beq_eq_false_iff_ne.2 h0
    repeat' (first|apply zs_|apply zb_|apply zc_|apply zt_ rfl|apply zf_ rfl|(apply zd_ rfl<;>intro ht<;>try omega)|((first|apply zr_|apply zk_|apply ze_|apply zq_|(apply zG<;>intro ht));all_goals try simp (disch:=first|omega|(simp only [lens,z6,z8,lQt,lQd,List.length_replicate];first|done|omega)) only [go_sem,q3,q6,q7,q8,h0']))
    exact DownV.same hw z22
  | 2,hm=>
   obtain rfl:=ha (by omega)
   obtain rfl:=hb (by omega)
   rw [if_neg (by simp)]
   repeat' (first|apply zs_|apply zb_|apply zc_|apply zt_ rfl|apply zf_ rfl|(apply zd_ rfl<;>intro ht<;>try omega)|((first|apply zr_|apply zk_|apply ze_|apply zq_|(apply zG<;>intro ht));all_goals try simp (disch:=first|omega|(simp only [lens,z6,z8,lQt,lQd,List.length_replicate];first|done|omega)) only [go_sem,q3,q6,q7,q8]))
   exact DownV.same hw z22
  |i+3,hm=>omega
theorem ziq(O:Store)(n i m:Int)(r k:Hash)(s:List UInt8)(x:AV):ACallsTo TC 49 [.agg (sgC n r i s x),.agg (.int .i64 m::hc k)] O (.int .i64 (poI n r m k)) O:=by
 have hC:=fun O=>zmw O n m
 have hO:=fun O a b=>zmx O a b true
 have sl:=z8 n r i s x
 have kl:=z6 k
 have rl:=z6 r
 have hB:ACallsTo TC 102 [.asl O.length 0 1 32 32 1,.asl (O.length+1) 0 1 32 32 1] (O++ [some [sgC n r i s x],some [.int .i64 m::hc k]]) (.int .i64 (Lib.compareBytes r.1 k.1)) (O++ [some [sgC n r i s x],some [.int .i64 m::hc k]]):=by
  refine zmf _ _ _ r.1 k.1 (fun τ=> ?_) (fun τ=> ?_)
  ·have g:(O++ [some [sgC n r i s x],some [.int .i64 m::hc k]]++τ)[O.length]? =some (some [sgC n r i s x]):=by rw [List.append_assoc,z1h (Nat.le_refl _),Nat.sub_self];rfl
   have e:(sgC n r i s x).drop 1=hc r++ [.int .i64 i,.str s,x]:=rfl
   simp only [z1t]
   rw [g]
   simp only [List.getElem?_cons_zero,Option.bind_some]
   rw [if_pos (by rw [sl];omega),e,zgm 32 _ _ (z6 r),zai]
  ·have g:(O++ [some [sgC n r i s x],some [.int .i64 m::hc k]]++τ)[O.length+1]? =some (some [.int .i64 m::hc k]):=by rw [List.append_assoc,z1h (by omega),Nat.add_sub_cancel_left];rfl
   have e:(AV.int .i64 m::hc k).drop 1=hc k:=rfl
   simp only [z1t]
   rw [g]
   simp only [List.getElem?_cons_zero,Option.bind_some]
   rw [if_pos (by rw [List.length_cons,kl];omega),e,zai]
 unfold poI
 refine ACallsTo.of_body q23ok (by simp) fun hw _=> ?_
 repeat' (first|apply zs_|apply zb_|apply zc_|apply zt_ rfl|apply zf_ rfl|(apply zd_ rfl<;>intro ht<;>try omega)|((first|apply zr_|apply zk_|apply ze_|apply zq_|(apply callW.mk_pu;(first|exact(fun _=>hC _)|exact(fun _=>hB)|exact(fun _=>hO _ _ _)))|(apply callW.za;(first|exact(hC _)|exact(hB)|exact(hO _ _ _)))|(apply zG<;>intro ht));all_goals try simp (disch:=first|omega|(simp only [lens,z6,z8,lQt,lQd,List.length_replicate];first|done|omega)) only [go_sem,sl,kl,rl]))
 exact DownV.pure hw z22
end
section
theorem z8u{P:List Hdr}{i:Nat}(h:i<P.length):(hdrs P)[i]? =some (sgC P[i].n P[i].r P[i].i P[i].s (z13 32 (hr P[i].p))):=by
 simp [hdrs,hdrC,List.getElem?_eq_getElem h]
attribute [local irreducible] ACallsTo ACallsP
theorem zec(O:Store)(m:Int)(k:Hash):ACallsTo TC 48 [.nilsl,.agg (.int .i64 m::hc k),.fn 49 []] O (.tup [.int .i64 0,.bool false]) O:=by
 have kl:=z6 k
 refine ACallsTo.of_body q1jok (by simp) fun hw _=> ?_
 repeat' (first|apply zs_|apply zb_|apply zc_|apply zt_ rfl|apply zf_ rfl|(apply zd_ rfl<;>intro ht<;>try omega)|((first|apply zr_|apply zk_|apply ze_|apply zq_|(apply zG<;>intro ht));all_goals try simp (disch:=first|omega|(simp only [lens,z6,z8,zg,z7,lQt,lQd,List.length_replicate];first|done|omega)) only [go_sem,kl]))
 refine zW.loop (fun t J O'=>O'=O++ [some [.int .i64 m::hc k]]/\ J 8=.int .i64 0/\ J 9=.int .i64 0/\ J 10=.int .i64 0) 0 ?_ ?_
 ·exact⟨rfl,by simp (disch:=first|omega|(simp only [lens,z6,z8,zg,z7,lQt,lQd,List.length_replicate];first|done|omega)) only [go_sem];try rfl,by simp (disch:=first|omega|(simp only [lens,z6,z8,zg,z7,lQt,lQd,List.length_replicate];first|done|omega)) only [go_sem];try rfl,by simp (disch:=first|omega|(simp only [lens,z6,z8,zg,z7,lQt,lQd,List.length_replicate];first|done|omega)) only [go_sem];try rfl⟩
 ·rintro t J O' ⟨rfl,q8,q9,q10⟩
  repeat' (first|apply zs_|apply zb_|apply zc_|apply zt_ rfl|apply zf_ rfl|(apply zd_ rfl<;>intro ht<;>try omega)|((first|apply zr_|apply zk_|apply ze_|apply zq_|(apply zG<;>intro ht));all_goals try simp (disch:=first|omega|(simp only [lens,z6,z8,zg,z7,lQt,lQd,List.length_replicate];first|done|omega)) only [go_sem,q8,q9,q10]))
  exact DownV.pure hw (by simp [RL,RLs])
theorem zju(O:Store)(q:Nat)(P:List Hdr)(m:Int)(k:Hash)(lb:Nat)(hq:O[q]? =some (some (hdrs P)))(hl:P.length<1000000)(hlb:lb<=P.length)(hs:∀j (h:j<P.length),poI P[j].n P[j].r m k<0 ↔ j<lb):
  ACallsTo TC 48 [.sl q 0 P.length none 36,.agg (.int .i64 m::hc k),.fn 49 []] O
   (.tup [.int .i64 lb,.bool (decide (∃h:lb<P.length,poI P[lb].n P[lb].r m k=0))]) O:=by
 have kl:=z6 k
 have hd:=slen hq
 have pl:=z7 P
 refine ACallsTo.of_body q1jok (by simp) fun hw _=> ?_
 repeat' (first|apply zs_|apply zb_|apply zc_|apply zt_ rfl|apply zf_ rfl|(apply zd_ rfl<;>intro ht<;>try omega)|((first|apply zr_|apply zk_|apply ze_|apply zq_|(apply zG<;>intro ht));all_goals try simp (disch:=first|omega|(simp only [lens,z6,z8,zg,z7,lQt,lQd,List.length_replicate];first|done|omega)) only [go_sem,kl]))
 refine zW.loop (fun t J O'=>∃lo hi:Nat,t=hi-lo/\ lo<=lb/\ lb<=hi/\ hi<=P.length/\ O'=O++ [some [.int .i64 m::hc k]]/\ J 0=.sl q 0 P.length none 36/\ J 2=.fn 49 []/\ J 4=.ptr O.length 0 0/\ J 8=.int .i64 P.length/\ J 9=.int .i64 lo/\ J 10=.int .i64 hi) P.length ?_ ?_
 ·exact⟨0,P.length,by omega,by omega,hlb,by omega,rfl,by simp (disch:=first|omega|(simp only [lens,z6,z8,zg,z7,lQt,lQd,List.length_replicate];first|done|omega)) only [go_sem],by simp (disch:=first|omega|(simp only [lens,z6,z8,zg,z7,lQt,lQd,List.length_replicate];first|done|omega)) only [go_sem],by simp (disch:=first|omega|(simp only [lens,z6,z8,zg,z7,lQt,lQd,List.length_replicate];first|done|omega)) only [go_sem],by simp (disch:=first|omega|(simp only [lens,z6,z8,zg,z7,lQt,lQd,List.length_replicate];first|done|omega)) only [go_sem],by simp (disch:=first|omega|(simp only [lens,z6,z8,zg,z7,lQt,lQd,List.length_replicate];first|done|omega)) only [go_sem];try rfl,by simp (disch:=first|omega|(simp only [lens,z6,z8,zg,z7,lQt,lQd,List.length_replicate];first|done|omega)) only [go_sem]⟩
 ·rintro t J O' ⟨lo,hi,ht,h1,h2,h3,rfl,q0,q2,q4,q8,q9,q10⟩
  have hq':(O++ [some [.int .i64 m::hc k]])[q]? =some (some (hdrs P)):=by rw [gapp hd];exact hq
  by_cases hlt:lo<hi
  ·obtain⟨h,hh⟩:∃h:Nat,h=(lo+hi)/2:=⟨_,rfl⟩
   have hhi:((lo:Int)+(hi:Int))/2=(h:Int):=by omega
   have hhl:h<P.length:=by omega
   have hg:=z8u hhl
   have hsp:=hs h hhl
   have hO:=fun O=>ziq O P[h].n P[h].i m P[h].r k P[h].s (z13 32 (hr P[h].p))
   have hsl:=z8 P[h].n P[h].r P[h].i P[h].s (z13 32 (hr P[h].p))
   generalize poI P[h].n P[h].r m k=c at*
   generalize P[h]=p at*
   by_cases hc0:c<0
   ·have:=hsp.1 hc0
    repeat' (first|apply zs_|apply zb_|apply zc_|apply zt_ rfl|apply zf_ rfl|(apply zd_ rfl<;>intro ht<;>try omega)|((first|apply zr_|apply zk_|apply ze_|apply zq_|(apply callW.mk_pu;(first|exact(fun _=>hO _)))|(apply callW.za;(first|exact(hO _)))|(apply zG<;>intro ht));all_goals try simp (disch:=first|omega|(simp only [lens,z6,z8,zg,z7,lQt,lQd,List.length_replicate];first|done|omega)) only [go_sem,q0,q2,q4,q8,q9,q10,hq',kl,hhi,hg,hsl,hc0]))
    exact⟨hi-(h+1),by omega,h+1,hi,rfl,by omega,h2,h3,by simp⟩
   ·have:¬h<lb:=fun e=>hc0 (hsp.2 e)
    repeat' (first|apply zs_|apply zb_|apply zc_|apply zt_ rfl|apply zf_ rfl|(apply zd_ rfl<;>intro ht<;>try omega)|((first|apply zr_|apply zk_|apply ze_|apply zq_|(apply callW.mk_pu;(first|exact(fun _=>hO _)))|(apply callW.za;(first|exact(hO _)))|(apply zG<;>intro ht));all_goals try simp (disch:=first|omega|(simp only [lens,z6,z8,zg,z7,lQt,lQd,List.length_replicate];first|done|omega)) only [go_sem,q0,q2,q4,q8,q9,q10,hq',kl,hhi,hg,hsl,hc0]))
    exact⟨h-lo,by omega,lo,h,rfl,h1,by omega,by omega,by simp⟩
  ·obtain rfl:lo=lb:=by omega
   obtain rfl:hi=lo:=by omega
   by_cases hn:hi<P.length
   ·have hg:=z8u hn
    have hO:=fun O=>ziq O P[hi].n P[hi].i m P[hi].r k P[hi].s (z13 32 (hr P[hi].p))
    have hsl:=z8 P[hi].n P[hi].r P[hi].i P[hi].s (z13 32 (hr P[hi].p))
    have hdc:decide (∃h:hi<P.length,poI P[hi].n P[hi].r m k=0)=decide (poI P[hi].n P[hi].r m k=0):=by simp [hn]
    rw [hdc]
    generalize poI P[hi].n P[hi].r m k=c at*
    generalize P[hi]=p at*
    repeat' (first|apply zs_|apply zb_|apply zc_|apply zt_ rfl|apply zf_ rfl|(apply zd_ rfl<;>intro ht<;>try omega)|((first|apply zr_|apply zk_|apply ze_|apply zq_|(apply callW.mk_pu;(first|exact(fun _=>hO _)))|(apply callW.za;(first|exact(hO _)))|(apply zG<;>intro ht));all_goals try simp (disch:=first|omega|(simp only [lens,z6,z8,zg,z7,lQt,lQd,List.length_replicate];first|done|omega)) only [go_sem,q0,q2,q4,q8,q9,q10,hq',kl,hg,hsl]))
    exact DownV.pure hw (by simp [RL,RLs])
   ·have hdc:decide (∃h:hi<P.length,poI P[hi].n P[hi].r m k=0)=false:=by simp [hn]
    rw [hdc]
    have hn':¬(hi:Int)<P.length:=by omega
    repeat' (first|apply zs_|apply zb_|apply zc_|apply zt_ rfl|apply zf_ rfl|(apply zd_ rfl<;>intro ht<;>try omega)|((first|apply zr_|apply zk_|apply ze_|apply zq_|(apply zG<;>intro ht));all_goals try simp (disch:=first|omega|(simp only [lens,z6,z8,zg,z7,lQt,lQd,List.length_replicate];first|done|omega)) only [go_sem,q0,q2,q4,q8,q9,q10,kl,hn']))
    exact DownV.pure hw (by simp [RL,RLs])
end
section
attribute [local irreducible] ACallsTo ACallsP
theorem z94(O:Store)(n:Int)(r:Hash)(i:Int)(s:List UInt8)(l:List Hash)(x:AV)(hx:SlV 32 (hr l) x)(hl:l.length<1000000):
  ACallsTo TC 52 [.agg (sgC n r i s x)] O (.agg (sgC n r i s (knil (hr l) x))) O:=by
 have hC:=fun O=>zl4 O l x (.of hx) hl
 have sl:=fun v=>z8 n r i s v
 have hst:=fun x v=>zte n r i s x v
 have hrl:=fun k=>zss (k:=k) l x
 have hkc:cellsOf (knil (hr l) x)=some [knil (hr l) x]:=by
  rcases hx with⟨rfl,h⟩| ⟨ex,rfl⟩<;>rfl
 have xc:cellsOf x=some [x]:=by
  rcases hx with⟨rfl,h⟩| ⟨ex,rfl⟩<;>rfl
 unfold cellsOf at hkc xc
 generalize knil (hr l) x=y at*
 refine ACallsTo.of_body q24ok (by simp) fun hw _=> ?_
 repeat' (first|apply zs_|apply zb_|apply zc_|apply zt_ rfl|apply zf_ rfl|(apply zd_ rfl<;>intro ht<;>try omega)|((first|apply zr_|apply zk_|apply ze_|apply zq_|(apply callW.mk_pu;(first|exact(fun _=>hC _)))|(apply callW.za;(first|exact(hC _)))|(apply zG<;>intro ht));all_goals try simp (disch:=first|omega|(simp only [lens,z6,z8,zg,z7,lQt,lQd,List.length_replicate];first|done|omega)) only [go_sem,hkc,xc,hst,sl]))
 exact DownV.all hw (fz_sg n r i s y y (FrzD.same (hrl _)))
theorem zl2(O:Store)(q:Nat)(es:List (List AV))(hq:O[q]? =some (some es))(h0:es ≠ [])(hl:es.length<1000000):
  ACallsP TC 51 [.sl q 0 es.length none 36] O (fun v O'=>v=.sl O.length 0 es.length none 36/\ O'=O++ [some es]):=by
 have hd:=slen hq
 have hn:es.length ≠ 0:=fun e=>h0 (List.length_eq_zero_iff.1 e)
 refine ACallsP.of_keep q1lok (by simp) ?_
 repeat' (first|apply zs_|apply zb_|apply zc_|apply zt_ rfl|apply zf_ rfl|(apply zd_ rfl<;>intro ht<;>try omega)|((first|apply zr_|apply zk_|apply ze_|apply zq_|(apply zG<;>intro ht));all_goals try simp (disch:=first|omega|(simp only [lens,z6,z8,zg,z7,lQt,lQd,List.length_replicate];first|done|omega)) only [go_sem,hq,hn]))
theorem zf4(O:Store):
  ACallsTo TC 51 [.nilsl] O .nilsl O:=by
 refine ACallsTo.of_body q1lok (by simp) fun hw _=> ?_
 repeat' (first|apply zs_|apply zb_|apply zc_|apply zt_ rfl|apply zf_ rfl|(apply zd_ rfl<;>intro ht<;>try omega)|((first|apply zr_|apply zk_|apply ze_|apply zq_|(apply zG<;>intro ht));all_goals try simp (disch:=first|omega|(simp only [lens,z6,z8,zg,z7,lQt,lQd,List.length_replicate];first|done|omega)) only [go_sem]))
 exact DownV.same hw (by simp [RL])
end
section
open Lib (compareBytes)
theorem cb_nn:compareBytes [] []=0:=rfl
theorem cb_nc(b:UInt8)(ys:List UInt8):compareBytes [] (b::ys)= -1:=rfl
theorem zcf(a:UInt8)(xs:List UInt8):compareBytes (a::xs) []=1:=rfl
theorem z78(a b:UInt8)(xs ys:List UInt8):compareBytes (a::xs) (b::ys)=if a<b then-1 else if b<a then 1 else compareBytes xs ys:=rfl
theorem z7y(a b:UInt8):a<b \/b<a \/a=b:=by
 rcases Nat.lt_trichotomy a.toNat b.toNat with h|h|h
 ·exact .inl h
 ·exact .inr (.inr (UInt8.toNat_inj.1 h))
 ·exact .inr (.inl h)
theorem z66{a b:UInt8}(h:a<b):¬b<a:=fun h2=>by
 have h1:a.toNat<b.toNat:=h
 have h3:b.toNat<a.toNat:=h2
 omega
theorem z3h(a:UInt8):¬a<a:=fun h=>by
 have h1:a.toNat<a.toNat:=h
 omega
theorem zuv{a b c:UInt8}(h:a<b)(h2:b<c):a<c:=by
 have h1:a.toNat<b.toNat:=h
 have h3:b.toNat<c.toNat:=h2
 show a.toNat<c.toNat
 omega
theorem zcg:∀a b:List UInt8,compareBytes a b=0 ↔ a=b
 | [],[]=>by simp [cb_nn]
 | [],b::ys=>by simp [cb_nc]
 |a::xs,[]=>by simp [zcf]
 |a::xs,b::ys=>by
  rw [z78]
  rcases z7y a b with h|h|rfl
  ·rw [if_pos h]
   exact⟨fun e=>by simp at e,fun e=>by injection e with e1 _;subst e1;exact absurd h (z3h a)⟩
  ·rw [if_neg (z66 h),if_pos h]
   exact⟨fun e=>by simp at e,fun e=>by injection e with e1 _;subst e1;exact absurd h (z3h a)⟩
  ·rw [if_neg (z3h a),if_neg (z3h a),zcg xs ys]
   simp
theorem zgi:∀a b:List UInt8,compareBytes b a= -compareBytes a b
 | [],[]=>rfl
 | [],b::ys=>rfl
 |a::xs,[]=>rfl
 |a::xs,b::ys=>by
  rw [z78,z78]
  rcases z7y a b with h|h|rfl
  ·rw [if_neg (z66 h),if_pos h,if_pos h];decide
  ·rw [if_pos h,if_neg (z66 h),if_pos h]
  ·rw [if_neg (z3h a),if_neg (z3h a),if_neg (z3h a),if_neg (z3h a),zgi xs ys]
theorem zgj:∀a b c:List UInt8,compareBytes a b<0->compareBytes b c<0->compareBytes a c<0
 | [],[],c,h,_=>by simp [cb_nn]at h
 |a::xs,[],c,h,_=>by simp [zcf]at h
 | _,b::ys,[],_,h=>by simp [zcf]at h
 | [],b::ys,c::zs,_,_=>by rw [cb_nc];omega
 |a::xs,b::ys,c::zs,h,h2=>by
  rw [z78]at h h2 ⊢
  rcases z7y a b with h3|h3|rfl
  ·rcases z7y b c with h4|h4|rfl
   ·rw [if_pos (zuv h3 h4)];omega
   ·rw [if_neg (z66 h4),if_pos h4]at h2;omega
   ·rw [if_pos h3];omega
  ·rw [if_neg (z66 h3),if_pos h3]at h;omega
  ·rcases z7y a c with h4|h4|rfl
   ·rw [if_pos h4];omega
   ·rw [if_neg (z66 h4),if_pos h4]at h2;omega
   ·rw [if_neg (z3h a),if_neg (z3h a)]at h h2 ⊢
    exact zgj xs ys zs h h2
theorem z93{n m:Int}(r k:Hash)(h:n<m):poI n r m k= -1:=by
 have e:cmpI n m= -1:=if_pos h
 unfold poI
 rw [e,if_pos (by decide)]
theorem zay{n m:Int}(r k:Hash)(h:m<n):poI n r m k=1:=by
 have e:cmpI n m=1:=by unfold cmpI;rw [if_neg (by omega),if_pos h]
 unfold poI
 rw [e,if_pos (by decide)]
theorem z7m(n:Int)(r k:Hash):poI n r n k=compareBytes r.1 k.1:=by
 have e:cmpI n n=0:=by unfold cmpI;rw [if_neg (by omega),if_neg (by omega)]
 unfold poI
 rw [e,if_neg (by simp)]
theorem po_zero{n m:Int}{r k:Hash}:poI n r m k=0 ↔ n=m/\ r=k:=by
 rcases Int.lt_trichotomy n m with h|rfl|h
 ·rw [z93 r k h];exact⟨fun e=>by omega,fun e=>by omega⟩
 ·rw [z7m,zcg]
  exact⟨fun e=>⟨rfl,Subtype.ext e⟩,fun e=>by rw [e.2]⟩
 ·rw [zay r k h];exact⟨fun e=>by omega,fun e=>by omega⟩
theorem po_neg{n m:Int}{r k:Hash}:poI n r m k<0 ↔ n<m \/(n=m/\ compareBytes r.1 k.1<0):=by
 rcases Int.lt_trichotomy n m with h|rfl|h
 ·rw [z93 r k h];exact⟨fun _=> .inl h,fun _=>by omega⟩
 ·rw [z7m];exact⟨fun e=> .inr ⟨rfl,e⟩,fun e=>by rcases e with e|e;omega;exact e.2⟩
 ·rw [zay r k h];exact⟨fun e=>by omega,fun e=>by omega⟩
theorem zj1(n m:Int)(r k:Hash):poI m k n r= -poI n r m k:=by
 rcases Int.lt_trichotomy n m with h|rfl|h
 ·rw [z93 r k h,zay k r h];rfl
 ·rw [z7m,z7m];exact zgi r.1 k.1
 ·rw [zay r k h,z93 k r h]
theorem zj2{n m l:Int}{r k q:Hash}(h:poI n r m k<0)(h2:poI m k l q<0):poI n r l q<0:=by
 rw [po_neg]at*
 rcases h with h| ⟨rfl,h⟩
 ·rcases h2 with h2| ⟨rfl,h2⟩
  ·exact .inl (by omega)
  ·exact .inl h
 ·rcases h2 with h2| ⟨rfl,h2⟩
  ·exact .inl h2
  ·exact .inr ⟨rfl,zgj _ _ _ h h2⟩
def PSort(P:List Hdr):Prop:=∀i j (hi:i<P.length) (hj:j<P.length),i<j->poI P[i].n P[i].r P[j].n P[j].r<0
def lbP(P:List Hdr)(m:Int)(k:Hash):Nat:=(P.takeWhile fun q=>decide (poI q.n q.r m k<0)).length
theorem zap(q:Hdr)(P:List Hdr)(m:Int)(k:Hash):lbP (q::P) m k=if poI q.n q.r m k<0 then lbP P m k+1 else 0:=by
 unfold lbP
 rw [List.takeWhile_cons]
 by_cases h:poI q.n q.r m k<0
 ·rw [if_pos (by simpa using h),if_pos h];simp
 ·rw [if_neg (by simpa using h),if_neg h];rfl
theorem z6l(P:List Hdr)(m:Int)(k:Hash):lbP P m k<=P.length:=by
 induction P with
 |nil=>exact Nat.le_refl _
 |cons q P ih=>rw [zap];split<;>simp<;>omega
theorem PSort.tail{q:Hdr}{P:List Hdr}(h:PSort (q::P)):PSort P:=fun i j hi hj hij=>by
 have:=h (i+1) (j+1) (by simpa using hi) (by simpa using hj) (by omega)
 simpa using this
theorem z6m{P:List Hdr}(hP:PSort P)(m:Int)(k:Hash):∀j (h:j<P.length),poI P[j].n P[j].r m k<0 ↔ j<lbP P m k:=by
 induction P with
 |nil=>intro j h;simp at h
 |cons q P ih=>
  intro j h
  rw [zap]
  match j,h with
  | 0,h=>
   by_cases hq:poI q.n q.r m k<0
   ·rw [if_pos hq];simpa using hq
   ·rw [if_neg hq];simpa using hq
  |j+1,h=>
   have hj:j<P.length:=by simpa using h
   have i1:=ih hP.tail j hj
   have e:(q::P)[j+1]=P[j]:=rfl
   rw [e]
   by_cases hq:poI q.n q.r m k<0
   ·rw [if_pos hq,i1];omega
   ·rw [if_neg hq]
    have h0:=hP 0 (j+1) (by simp) h (by omega)
    rw [e]at h0
    exact⟨fun h1=>absurd (zj2 h0 h1) hq,fun h1=>by omega⟩
theorem PSort.insert{P:List Hdr}(hP:PSort P)(q:Hdr)(hq:∀h:lbP P q.n q.r<P.length,poI P[lbP P q.n q.r].n P[lbP P q.n q.r].r q.n q.r ≠ 0):PSort (P.take (lbP P q.n q.r)++q::P.drop (lbP P q.n q.r)):=by
 have hs:=z6m hP q.n q.r
 have hle:=z6l P q.n q.r
 generalize lbP P q.n q.r=b at*
 have hg:∀j (hj:j<(P.take b++q::P.drop b).length),(P.take b++q::P.drop b)[j]=if h:j<b then P[j]'(by omega)else if h2:j=b then q else P[j-1]'(by simp at hj;omega):=by
  intro j hj
  by_cases h:j<b
  ·rw [dif_pos h,List.getElem_append_left (by rw [List.length_take];omega),List.getElem_take]
  ·rw [dif_neg h,List.getElem_append_right (by rw [List.length_take];omega)]
   by_cases h2:j=b
   ·rw [dif_pos h2]
    have:j-(P.take b).length=0:=by rw [List.length_take];omega
    simp only [this,List.getElem_cons_zero]
   ·rw [dif_neg h2]
    have:j-(P.take b).length=(j-b-1)+1:=by rw [List.length_take];omega
    simp only [this,List.getElem_cons_succ,List.getElem_drop]
    congr 1
    omega
 have above:∀j (hj:j<P.length),b<=j->poI q.n q.r P[j].n P[j].r<0:=by
  intro j hj hb
  have hbl:b<P.length:=by omega
  have h1:=hq hbl
  have h2:¬poI P[b].n P[b].r q.n q.r<0:=fun e=>by have:=(hs b hbl).1 e;omega
  have h3:=zj1 P[b].n q.n P[b].r q.r
  have h4:poI q.n q.r P[b].n P[b].r<0:=by omega
  rcases Nat.lt_or_ge b j with h5|h5
  ·exact zj2 h4 (hP b j hbl hj h5)
  ·obtain rfl:j=b:=by omega
   exact h4
 intro i j hi hj hij
 rw [hg i hi,hg j hj]
 have hjl:j<P.length+1:=by simp at hj;omega
 by_cases i1:i<b
 ·rw [dif_pos i1]
  by_cases j1:j<b
  ·rw [dif_pos j1];exact hP i j _ _ hij
  ·rw [dif_neg j1]
   by_cases j2:j=b
   ·rw [dif_pos j2];exact(hs i (by omega)).2 i1
   ·rw [dif_neg j2];exact hP i (j-1) _ _ (by omega)
 ·rw [dif_neg i1]
  by_cases i2:i=b
  ·rw [dif_pos i2,dif_neg (by omega),dif_neg (by omega)]
   exact above (j-1) (by omega) (by omega)
  ·rw [dif_neg i2,dif_neg (by omega),dif_neg (by omega)]
   exact hP (i-1) (j-1) _ _ (by omega)
end
section
def poC(key:Hash)(v:AV):List AV:=.bool true::(hc key++ [v])
theorem zi(key:Hash)(v:AV):(poC key v).length=34:=by simp [poC,z6]
theorem poC_0(key:Hash)(v:AV):(poC key v)[0]? =some (.bool true):=rfl
theorem z5h(key:Hash)(v:AV):(poC key v)[33]? =some v:=by
 show (hc key++ [v])[32]? =some v
 rw [List.getElem?_append_right (by rw [z6];omega),z6];rfl
theorem zaw(key:Hash)(v:AV):((poC key v).drop 1).take 32=hc key:=by
 show (hc key++ [v]).take 32=hc key
 exact List.take_left' (z6 key)
theorem zdo(key:Hash)(v x:AV):(poC key v).take 33++x::(poC key v).drop 34=poC key x:=by
 have h1:(poC key v).take 33=.bool true::hc key:=by
  show AV.bool true::(hc key++ [v]).take 32=_
  rw [List.take_left' (z6 key)]
 have h2:(poC key v).drop 34=[]:=List.drop_of_length_le (by rw [zi];omega)
 rw [h1,h2];rfl
attribute [local irreducible] ACallsTo ACallsP
theorem z3e(O:Store)(p:Nat)(key:Hash)(v:AV)(hp:O[p]? =some (some [poC key v])):ACallsTo TC 45 [.ptr p 0 0] O (.bool false) O:=by
 have l:=zi key v
 have g:=poC_0 key v
 refine ACallsTo.of_body q22ok (by simp) fun hw _=> ?_
 repeat' (first|apply zs_|apply zb_|apply zc_|apply zt_ rfl|apply zf_ rfl|(apply zd_ rfl<;>intro ht<;>try omega)|((first|apply zr_|apply zk_|apply ze_|apply zq_|(apply zG<;>intro ht));all_goals try simp (disch:=first|omega|(simp only [lens,z6,z8,zg,z7,zi,lQt,lQd,List.length_replicate];first|done|omega)) only [go_sem,hp,l,g]))
 exact DownV.same hw z1f
theorem zdp(O:Store)(key:Hash):ACallsP TC 10 [.agg (hc key)] O (fun v O'=>v=.ptr (O.length+1) 0 0/\ O'=O++ [some [hc key],some [poC key .nilsl]]):=by
 have l:=z6 key
 refine ACallsP.of_keep q1rok (by simp) ?_
 repeat' (first|apply zs_|apply zb_|apply zc_|apply zt_ rfl|apply zf_ rfl|(apply zd_ rfl<;>intro ht<;>try omega)|((first|apply zr_|apply zk_|apply ze_|apply zq_|(apply zG<;>intro ht));all_goals try simp (disch:=first|omega|(simp only [lens,z6,z8,zg,z7,zi,lQt,lQd,List.length_replicate];first|done|omega)) only [go_sem,l]))
 rfl
theorem zrq(O:Store)(p:Nat)(key:Hash)(v:AV)(sid:Option Nat)(P:List Hdr)(m:Int)(k:Hash)(hp:O[p]? =some (some [poC key v]))(hr:RowAt 36 O sid v (hdrs P))(hs:PSort P)(hl:P.length<1000000):
  ACallsTo TC 30 [.ptr p 0 0,.agg (.int .i64 m::hc k)] O (.bool (decide (∃h:lbP P m k<P.length,poI P[lbP P m k].n P[lbP P m k].r m k=0))) O:=by
 have d:=slen hp
 have l:=zi key v
 have g:=z5h key v
 have kl:=z6 k
 have hN:=fun y=>z3e (O++y) p key v (by rw [gapp d];exact hp)
 refine ACallsTo.of_body q1yok (by simp) fun hw _=> ?_
 rcases hr with⟨_,h0,rfl⟩| ⟨q,_,hne,rfl,hq⟩
 ·have hP:P=[]:=by have:=congrArg List.length h0;rw [z7]at this;exact List.eq_nil_of_length_eq_zero this
  subst hP
  have hS:=fun O=>zec O m k
  repeat' (first|apply zs_|apply zb_|apply zc_|apply zt_ rfl|apply zf_ rfl|(apply zd_ rfl<;>intro ht<;>try omega)|((first|apply zr_|apply zk_|apply ze_|apply zq_|(apply callW.mk_pu;(first|exact(fun _=>hN _)|exact(fun _=>hS _)))|(apply callW.za;(first|exact(hN _)|exact(hS _)))|(apply zG<;>intro ht));all_goals try simp (disch:=first|omega|(simp only [lens,z6,z8,zg,z7,zi,lQt,lQd,List.length_replicate];first|done|omega)) only [go_sem,hp,l,g,kl]))
  exact DownV.pure hw z1f
 ·have hd:=slen hq
  have hS:=fun y=>zju (O++y) q P m k (lbP P m k) (by rw [gapp hd];exact hq) hl (z6l P m k) (z6m hs m k)
  rw [z7]at g
  generalize decide (∃h:lbP P m k<P.length,poI P[lbP P m k].n P[lbP P m k].r m k=0)=b at*
  rw [z7]at*
  repeat' (first|apply zs_|apply zb_|apply zc_|apply zt_ rfl|apply zf_ rfl|(apply zd_ rfl<;>intro ht<;>try omega)|((first|apply zr_|apply zk_|apply ze_|apply zq_|(apply callW.mk_pu;(first|exact(fun _=>hN _)|exact(fun _=>hS _)))|(apply callW.za;(first|exact(hN _)|exact(hS _)))|(apply zG<;>intro ht));all_goals try simp (disch:=first|omega|(simp only [lens,z6,z8,zg,z7,zi,lQt,lQd,List.length_replicate];first|done|omega)) only [go_sem,hp,l,g,kl]))
  exact DownV.pure hw z1f
end
section
def isP(P:List Hdr)(m:Int)(k:Hash):Bool:=decide (∃h:lbP P m k<P.length,poI P[lbP P m k].n P[lbP P m k].r m k=0)
theorem zjt{O:Store}{v:AV}{sid:Option Nat}{P:List Hdr}(hr:RowAt 36 O sid v (hdrs P))(hs:PSort P)(hl:P.length<1000000)(m:Int)(k:Hash)(y:Store):
  ACallsTo TC 48 [v,.agg (.int .i64 m::hc k),.fn 49 []] (O++y) (.tup [.int .i64 (lbP P m k),.bool (isP P m k)]) (O++y):=by
 rcases hr with⟨_,h0,rfl⟩| ⟨q,_,hne,rfl,hq⟩
 ·have hP:P=[]:=by have:=congrArg List.length h0;rw [z7]at this;exact List.eq_nil_of_length_eq_zero this
  subst hP
  exact zec (O++y) m k
 ·have hd:=slen hq
  rw [z7]
  exact zju (O++y) q P m k (lbP P m k) (by rw [gapp hd];exact hq) hl (z6l P m k) (z6m hs m k)
attribute [local irreducible] ACallsTo ACallsP
theorem zav(O:Store)(p:Nat)(key:Hash)(v:AV)(sid:Option Nat)(P:List Hdr)(q:Hdr)(x:AV)(e:Int)(hp:O[p]? =some (some [poC key v]))(hw0:RowAt 36 O sid v (hdrs P))(hs:PSort P)(hl:P.length<1000000)(hx:SlV 32 (Am.hr q.p) x)
  (he:(z1e key q.n q.i q.r q.s q.p ≠ 0/\ e=0) \/(z1e key q.n q.i q.r q.s q.p=0/\ isP P q.n q.r=true/\ e=1) \/(z1e key q.n q.i q.r q.s q.p=0/\ isP P q.n q.r=false/\ 16<=P.length/\ e=4)):
  ACallsTo TC 14 [.ptr p 0 0,.agg (sgC q.n q.r q.i q.s x)] O (.int .i64 e) O:=by
 have d:=slen hp
 have l:=zi key v
 have g:=z5h key v
 have gk:=zaw key v
 have kl:=z6 key
 have ql:=z8 q.n q.r q.i q.s x
 have r1:=hw0.rd.len
 rw [z7]at r1
 unfold z1j at r1
 have c3:=hw0.cells
 unfold cellsOf at c3
 have hN:=fun y=>z3e (O++y) p key v (by rw [gapp d];exact hp)
 have hC:=fun O=>zc0 O key q.n q.i q.r q.s q.p x (.of hx)
 have hS:=zjt hw0 hs hl q.n q.r
 refine ACallsTo.of_body zds (by simp) fun hw _=> ?_
 rcases he with⟨h0,rfl⟩| ⟨h0,h1,rfl⟩| ⟨h0,h1,h2,rfl⟩
 ·generalize z1e key q.n q.i q.r q.s q.p=c at*
  have h0':(c==0)=false:=beq_eq_false_iff_ne.2 h0
  repeat' (first|apply zs_|apply zb_|apply zc_|apply zt_ rfl|apply zf_ rfl|(apply zd_ rfl<;>intro ht<;>try omega)|((first|apply zr_|apply zk_|apply ze_|apply zq_|(apply callW.mk_pu;(first|exact(fun _=>hN _)|exact(fun _=>hC _)))|(apply callW.za;(first|exact(hN _)|exact(hC _)))|(apply zG<;>intro ht));all_goals try simp (disch:=first|omega|(simp only [lens,z6,z8,zg,z7,zi,lQt,lQd,List.length_replicate];first|done|omega)) only [go_sem,hp,l,g,gk,kl,ql,h0']))
  exact DownV.pure hw z22
 ·rw [h0]at hC
  rw [h1]at hS
  repeat' (first|apply zs_|apply zb_|apply zc_|apply zt_ rfl|apply zf_ rfl|(apply zd_ rfl<;>intro ht<;>try omega)|((first|apply zr_|apply zk_|apply ze_|apply zq_|(apply callW.mk_pu;(first|exact(fun _=>hN _)|exact(fun _=>hC _)|exact(fun _=>hS _)))|(apply callW.za;(first|exact(hN _)|exact(hC _)|exact(hS _)))|(apply zG<;>intro ht));all_goals try simp (disch:=first|omega|(simp only [lens,z6,z8,zg,z7,zi,lQt,lQd,List.length_replicate];first|done|omega)) only [go_sem,hp,l,g,gk,kl,ql,c3]))
  exact DownV.pure hw z22
 ·rw [h0]at hC
  rw [h1]at hS
  have h2':(P.length:Int)>=16:=by omega
  repeat' (first|apply zs_|apply zb_|apply zc_|apply zt_ rfl|apply zf_ rfl|(apply zd_ rfl<;>intro ht<;>try omega)|((first|apply zr_|apply zk_|apply ze_|apply zq_|(apply callW.mk_pu;(first|exact(fun _=>hN _)|exact(fun _=>hC _)|exact(fun _=>hS _)))|(apply callW.za;(first|exact(hN _)|exact(hC _)|exact(hS _)))|(apply zG<;>intro ht));all_goals try simp (disch:=first|omega|(simp only [lens,z6,z8,zg,z7,zi,lQt,lQd,List.length_replicate];first|done|omega)) only [go_sem,hp,l,g,gk,kl,ql,c3,r1,h2']))
  exact DownV.pure hw z22
end
section
def z24(P:List Hdr)(i:Nat)(n:Int):Prop:=(0<i/\ (P[i-1]?).map Hdr.n=some n) \/(P[i+1]?).map Hdr.n=some n
instance (P:List Hdr)(i:Nat)(n:Int):Decidable (z24 P i n):=by unfold z24;exact inferInstance
attribute [local irreducible] ACallsTo ACallsP
theorem ziy(k:Nat)(O:Store)(p b q:Nat)(key:Hash)(P:List Hdr)(i:Nat)(s:Hdr)(x:AV)(Q:AV->Store->Prop)(hp:O[p]? =some (some [poC key (.sl q 0 P.length none 36)]))(hq:O[q]? =some (some (hdrs P)))(hb:O[b]? =some (some [sgC s.n s.r s.i s.s x]))(hi:i<P.length)(hl:P.length<1000000)
  (hQ:Q (.int .i64 (if z24 P i s.n then 3 else 2)) O) (J:Env) (q0:J 0=.ptr p 0 0) (q3:J 3=.ptr b 0 0) (q5:J 5=.int .i64 i):
  zW TC 87 k zdr (z7f [.t 4] Q) J O:=by
 have l:=zi key (.sl q 0 P.length none 36)
 have g:=z5h key (.sl q 0 P.length none 36)
 have bl:=z8 s.n s.r s.i s.s x
 have pl:=z7 P
 repeat' (first|apply zs_|apply zb_|apply zc_|apply zt_ rfl|apply zf_ rfl|(apply zd_ rfl<;>intro ht<;>try omega)|((first|apply zr_|apply zk_|apply ze_|apply zq_|(apply zG<;>intro ht));all_goals try simp (disch:=first|omega|(simp only [lens,z6,z8,zg,z7,zi,lQt,lQd,List.length_replicate];first|done|omega)) only [go_sem,q0,q3,q5]))
 refine zW.loop (fun t J O'=>∃j:Nat,t+j=2/\ O'=O/\ (0<j->¬(0<i/\ (P[i-1]?).map Hdr.n=some s.n))/\ (1<j->¬(P[i+1]?).map Hdr.n=some s.n)/\ J 0=.ptr p 0 0/\ J 3=.ptr b 0 0/\ J 5=.int .i64 i/\ J 56=.agg [.int .i64 ((i:Int)-1),.int .i64 ((i:Int)+1)]/\ J 57=.int .i64 j) 2 ?_ ?_
 ·exact⟨0,by omega,rfl,by omega,by omega,by simp (disch:=first|omega|(simp only [lens,z6,z8,zg,z7,zi,lQt,lQd,List.length_replicate];first|done|omega)) only [go_sem,q0],by simp (disch:=first|omega|(simp only [lens,z6,z8,zg,z7,zi,lQt,lQd,List.length_replicate];first|done|omega)) only [go_sem,q3],by simp (disch:=first|omega|(simp only [lens,z6,z8,zg,z7,zi,lQt,lQd,List.length_replicate];first|done|omega)) only [go_sem,q5],by simp (disch:=first|omega|(simp only [lens,z6,z8,zg,z7,zi,lQt,lQd,List.length_replicate];first|done|omega)) only [go_sem];try rfl,by simp (disch:=first|omega|(simp only [lens,z6,z8,zg,z7,zi,lQt,lQd,List.length_replicate];first|done|omega)) only [go_sem];try rfl⟩
 ·rintro t J O' ⟨j,ht,rfl,c1,c2,q0,q3,q5,q56,q57⟩
  match j,ht with
  | 0,ht=>
   by_cases h0:0<i
   ·have hk:(i:Int)-1=((i-1:Nat):Int):=by omega
    have hlt:i-1<P.length:=by omega
    have hg:=z8u hlt
    have hsl:=z8 P[i-1].n P[i-1].r P[i-1].i P[i-1].s (z13 32 (hr P[i-1].p))
    have he:(P[i-1]?).map Hdr.n=some P[i-1].n:=by rw [List.getElem?_eq_getElem hlt];rfl
    rw [he]at c1
    have hf:z24 P i s.n ↔ (P[i-1].n=s.n \/(P[i+1]?).map Hdr.n=some s.n):=by unfold z24;rw [he];simp [h0]
    by_cases hn:P[i-1].n=s.n
    ·rw [if_pos (hf.2 (.inl hn))]at hQ
     generalize P[i-1]=w at*
     have hn':(w.n==s.n)=true:=beq_iff_eq.2 hn
     repeat' (first|apply zs_|apply zb_|apply zc_|apply zt_ rfl|apply zf_ rfl|(apply zd_ rfl<;>intro ht<;>try omega)|((first|apply zr_|apply zk_|apply ze_|apply zq_|(apply zG<;>intro ht));all_goals try simp (disch:=first|omega|(simp only [lens,z6,z8,zg,z7,zi,lQt,lQd,List.length_replicate];first|done|omega)) only [go_sem,q0,q3,q5,q56,q57,hk,hp,hq,hb,l,g,bl,pl,hg,hsl,hn']))
     exact hQ
    ·generalize P[i-1]=w at*
     have hn':(w.n==s.n)=false:=beq_eq_false_iff_ne.2 hn
     repeat' (first|apply zs_|apply zb_|apply zc_|apply zt_ rfl|apply zf_ rfl|(apply zd_ rfl<;>intro ht<;>try omega)|((first|apply zr_|apply zk_|apply ze_|apply zq_|(apply zG<;>intro ht));all_goals try simp (disch:=first|omega|(simp only [lens,z6,z8,zg,z7,zi,lQt,lQd,List.length_replicate];first|done|omega)) only [go_sem,q0,q3,q5,q56,q57,hk,hp,hq,hb,l,g,bl,pl,hg,hsl,hn']))
     exact⟨t-1,by omega,1,by omega,fun _ e=>hn (Option.some.inj (he.symm.trans e.2)),by omega,by simp [hk]⟩
   ·obtain rfl:i=0:=by omega
    repeat' (first|apply zs_|apply zb_|apply zc_|apply zt_ rfl|apply zf_ rfl|(apply zd_ rfl<;>intro ht<;>try omega)|((first|apply zr_|apply zk_|apply ze_|apply zq_|(apply zG<;>intro ht));all_goals try simp (disch:=first|omega|(simp only [lens,z6,z8,zg,z7,zi,lQt,lQd,List.length_replicate];first|done|omega)) only [go_sem,q0,q3,q5,q56,q57,hp,hq,hb,l,g,bl,pl]))
    exact⟨t-1,by omega,1,by omega,by omega,by omega,by simp⟩
  | 1,ht=>
   have hf:z24 P i s.n ↔ (P[i+1]?).map Hdr.n=some s.n:=by
    have:=c1 (by omega)
    unfold z24
    exact⟨fun e=>by rcases e with e|e;exact absurd e this;exact e,.inr⟩
   by_cases hlt:i+1<P.length
   ·have hk:(i:Int)+1=((i+1:Nat):Int):=by omega
    have hg:=z8u hlt
    have hsl:=z8 P[i+1].n P[i+1].r P[i+1].i P[i+1].s (z13 32 (hr P[i+1].p))
    have he:(P[i+1]?).map Hdr.n=some P[i+1].n:=by rw [List.getElem?_eq_getElem hlt];rfl
    rw [he]at hf c2
    by_cases hn:P[i+1].n=s.n
    ·rw [if_pos (hf.2 (by rw [hn]))]at hQ
     generalize P[i+1]=w at*
     have hn':(w.n==s.n)=true:=beq_iff_eq.2 hn
     repeat' (first|apply zs_|apply zb_|apply zc_|apply zt_ rfl|apply zf_ rfl|(apply zd_ rfl<;>intro ht<;>try omega)|((first|apply zr_|apply zk_|apply ze_|apply zq_|(apply zG<;>intro ht));all_goals try simp (disch:=first|omega|(simp only [lens,z6,z8,zg,z7,zi,lQt,lQd,List.length_replicate];first|done|omega)) only [go_sem,q0,q3,q5,q56,q57,hk,hp,hq,hb,l,g,bl,pl,hg,hsl,hn']))
     exact hQ
    ·generalize P[i+1]=w at*
     have hn':(w.n==s.n)=false:=beq_eq_false_iff_ne.2 hn
     repeat' (first|apply zs_|apply zb_|apply zc_|apply zt_ rfl|apply zf_ rfl|(apply zd_ rfl<;>intro ht<;>try omega)|((first|apply zr_|apply zk_|apply ze_|apply zq_|(apply zG<;>intro ht));all_goals try simp (disch:=first|omega|(simp only [lens,z6,z8,zg,z7,zi,lQt,lQd,List.length_replicate];first|done|omega)) only [go_sem,q0,q3,q5,q56,q57,hk,hp,hq,hb,l,g,bl,pl,hg,hsl,hn']))
     exact⟨t-1,by omega,2,by omega,fun _=>c1 (by omega),fun _ e=>hn (Option.some.inj (he.symm.trans e)),by simp [hk]⟩
   ·have hk:¬(i:Int)+1<P.length:=by omega
    have hnone:P[i+1]? =none:=List.getElem?_eq_none (by omega)
    repeat' (first|apply zs_|apply zb_|apply zc_|apply zt_ rfl|apply zf_ rfl|(apply zd_ rfl<;>intro ht<;>try omega)|((first|apply zr_|apply zk_|apply ze_|apply zq_|(apply zG<;>intro ht));all_goals try simp (disch:=first|omega|(simp only [lens,z6,z8,zg,z7,zi,lQt,lQd,List.length_replicate];first|done|omega)) only [go_sem,q0,q3,q5,q56,q57,hk,hp,hq,hb,l,g,bl,pl]))
    exact⟨t-1,by omega,2,by omega,fun _=>c1 (by omega),fun _ e=>(by rw [hnone]at e;exact absurd e (by simp)),by simp⟩
  | 2,ht=>
   have hf:¬z24 P i s.n:=by
    have h1:=c1 (by omega)
    have h2:=c2 (by omega)
    unfold z24
    exact fun e=>by rcases e with e|e;exact h1 e;exact h2 e
   rw [if_neg hf]at hQ
   repeat' (first|apply zs_|apply zb_|apply zc_|apply zt_ rfl|apply zf_ rfl|(apply zd_ rfl<;>intro ht<;>try omega)|((first|apply zr_|apply zk_|apply ze_|apply zq_|(apply zG<;>intro ht));all_goals try simp (disch:=first|omega|(simp only [lens,z6,z8,zg,z7,zi,lQt,lQd,List.length_replicate];first|done|omega)) only [go_sem,q0,q3,q5,q56,q57]))
   exact hQ
  |j+3,ht=>omega
end
section
theorem InsP.is(O:Store)(r:Nat)(es:List (List AV))(i:Nat)(e:List AV):∃v O',InsP O r es i e v O':=
 ⟨.sl O.length 0 (es.length+1) none 36,O++ [some (es.take i++e::es.drop i)],O.length,rfl,by rw [z1h (Nat.le_refl _),Nat.sub_self];rfl,Nat.le_refl _,fun j hj _=>gapp hj⟩
def PoIs(O:Store)(p:Nat)(key:Hash)(P:List Hdr)(own:List Nat):Prop:=
 ∃v sid,own=p::Option.toList sid/\ O[p]? =some (some [poC key v])/\ RowAt 36 O sid v (hdrs P)/\ sid ≠ some p
def insL(P:List Hdr)(q:Hdr):List Hdr:=P.take (lbP P q.n q.r)++q::P.drop (lbP P q.n q.r)
theorem zol(P:List Hdr)(q:Hdr)(i:Nat):hdrs (P.take i++q::P.drop i)=(hdrs P).take i++hdrC q::(hdrs P).drop i:=by simp [hdrs,List.map_take,List.map_drop]
theorem zd7{l:List Hash}{x:AV}(hx:SlV 32 (hr l) x)(h:l ≠ []):knil (hr l) x=z13 32 (hr l):=by
 have hne:hr l ≠ []:=fun e=>h (hr_nil_iff.1 e)
 unfold z13
 rw [if_neg hne]
 rcases hx with⟨_,e⟩| ⟨ex,rfl⟩
 ·exact absurd e hne
 ·rfl
attribute [local irreducible] ACallsTo ACallsP zdr
theorem zro(O:Store)(p:Nat)(key:Hash)(r:Nat)(P:List Hdr)(q:Hdr)(x:AV)(hp:O[p]? =some (some [poC key (.sl r 0 P.length none 36)]))(hr0:O[r]? =some (some (hdrs P)))(hne:P ≠ [])(hpr:p ≠ r)(hs:PSort P)(hl:P.length<16)(hx:SlV 32 (hr q.p) x)(hx0:q.p ≠ [])(hxl:q.p.length<1000000)
  (h0:z1e key q.n q.i q.r q.s q.p=0) (h1:isP P q.n q.r=false):
  ACallsP TC 14 [.ptr p 0 0,.agg (sgC q.n q.r q.i q.s x)] O (fun a O'=>a=.int .i64 (if z24 (insL P q) (lbP P q.n q.r) q.n then 3 else 2)/\ ∃t,O.length<=t/\ O'[p]? =some (some [poC key (.sl t 0 (insL P q).length none 36)])/\ O'[t]? =some (some (hdrs (insL P q)))/\ ∀j,j<O.length->j ≠ p->O'[j]? =O[j]?):=by
 have d:=slen hp
 have dr:=slen hr0
 have l:=zi key (.sl r 0 P.length none 36)
 have g:=z5h key (.sl r 0 P.length none 36)
 have gk:=zaw key (.sl r 0 P.length none 36)
 have kl:=z6 key
 have ql:=z8 q.n q.r q.i q.s x
 have pl:=z7 P
 have hN:=fun y=>z3e (O++y) p key _ (by rw [gapp d];exact hp)
 have hC:=fun O=>zc0 O key q.n q.i q.r q.s q.p x (.of hx)
 have hO:=fun O=>z94 O q.n q.r q.i q.s q.p x hx hxl
 rw [zd7 hx hx0]at hO
 have hS:=zjt (v:=.sl r 0 P.length none 36) (sid:=some r) (.inr ⟨r,rfl,fun e=>hne (List.eq_nil_of_length_eq_zero (by rw [<-z7,e];rfl)),by rw [pl],hr0⟩) hs (by omega) q.n q.r
 rw [h0]at hC
 rw [h1]at hS
 have h2':¬(P.length:Int)>=16:=by omega
 have hb:=z6l P q.n q.r
 have hcl:=zg q
 have hput:=fun v=>zdo key (.sl r 0 P.length none 36) v
 have hch:sgC q.n q.r q.i q.s (z13 32 (hr q.p))=hdrC q:=rfl
 unfold insL
 have hil:(P.take (lbP P q.n q.r)++q::P.drop (lbP P q.n q.r)).length=P.length+1:=by rw [List.length_append,List.length_cons,List.length_take,List.length_drop];omega
 have hih:=zol P q (lbP P q.n q.r)
 generalize lbP P q.n q.r=b at*
 generalize P.take b++q::P.drop b=P' at*
 refine ACallsP.of_keep zds (by simp) ?_
 repeat' (first|apply zs_|apply zb_|apply zc_|apply zt_ rfl|apply zf_ rfl|(apply zd_ rfl<;>intro ht<;>try omega)|((first|apply zr_|apply zk_|apply ze_|apply zq_|(apply callW.mk_pu;(first|exact(fun _=>hN _)|exact(fun _=>hC _)|exact(fun _=>hS _)))|(apply callW.za;(first|exact(hN _)|exact(hC _)|exact(hS _)))|(apply zG<;>intro ht));all_goals try simp (disch:=first|omega|(simp only [lens,z6,z8,zg,z7,zi,lQt,lQd,List.length_replicate];first|done|omega)) only [go_sem,hp,l,g,gk,kl,ql,h2']))
 have e1:=zl2 (O++ [some [sgC q.n q.r q.i q.s x]]) r (hdrs P) (by rw [gapp dr];exact hr0) (fun e=>hne (List.eq_nil_of_length_eq_zero (by rw [<-z7,e];rfl))) (by omega)
 rw [pl]at e1
 refine callW.mkP_ef (caps:=[]) e1 ⟨_,_,rfl,rfl⟩ ?_
 rintro v O2 ⟨rfl,rfl⟩
 simp (disch:=first|omega|(simp only [lens,z6,z8,zg,z7,zi,lQt,lQd,List.length_replicate];first|done|omega)) only [go_sem,hp,l,g,gk,kl,ql,hcl,hch]
 repeat' (first|apply zs_|apply zb_|apply zc_|apply zt_ rfl|apply zf_ rfl|(apply zd_ rfl<;>intro ht<;>try omega)|((first|apply zr_|apply zk_|apply ze_|apply zq_|(apply callW.mk_pu;(first|exact(fun _=>hO _)))|(apply callW.za;(first|exact(hO _)))|(apply zG<;>intro ht));all_goals try simp (disch:=first|omega|(simp only [lens,z6,z8,zg,z7,zi,lQt,lQd,List.length_replicate];first|done|omega)) only [go_sem,hp,l,g,gk,kl,ql,hcl,hch]))
 have e2:=zla (O++ [some [sgC q.n q.r q.i q.s x],some (hdrs P)]) (O.length+1) (hdrs P) b (hdrC q) true hcl (by omega) (by omega) (by rw [z1h (by omega),Nat.add_sub_cancel_left];rfl)
 have e3:=InsP.is (O++ [some [sgC q.n q.r q.i q.s x],some (hdrs P)]) (O.length+1) (hdrs P) b (hdrC q)
 rw [pl]at e2
 refine callW.mkP (caps:=[]) e2 e3 ?_
 rintro v O3 ⟨t,rfl,ht,htl,hst⟩
 simp only [List.length_append,List.length_cons,List.length_nil]at htl hst
 rw [pl,<-hil]
 rw [<-hih]at ht
 have hp3:O3[p]? =some (some [poC key (.sl r 0 P.length none 36)]):=by rw [hst p (by omega) (by omega),gapp d];exact hp
 have hb3:O3[O.length]? =some (some [sgC q.n q.r q.i q.s x]):=by rw [hst _ (by omega) (by omega),z1h (Nat.le_refl _),Nat.sub_self];rfl
 have d3:=slen hp3
 simp (disch:=first|omega|(simp only [lens,z6,z8,zg,z7,zi,lQt,lQd,List.length_replicate];first|done|omega)) only [go_sem,hp3,l,g,gk,kl,ql,hcl,hch,hput]
 repeat' (first|apply zs_|apply zb_|apply zc_|apply zt_ rfl|apply zf_ rfl|(apply zd_ rfl<;>intro ht<;>try omega)|((first|apply zr_|apply zk_|apply ze_|apply zq_|(apply zG<;>intro ht));all_goals try simp (disch:=first|omega|(simp only [lens,z6,z8,zg,z7,zi,lQt,lQd,List.length_replicate];first|done|omega)) only [go_sem,hp3,l,g,gk,kl,ql,hcl,hch,hput]))
 have hpt:p ≠ t:=by omega
 refine ziy _ _ p O.length t key P' b q x _ (z2l d3) (by rw [z1q hpt];exact ht) (by rw [z1q (by omega)];exact hb3) (by omega) (by omega) ⟨rfl,t,by omega,z2l d3,by rw [z1q hpt];exact ht,fun j hj hjp=>by rw [z1q (Ne.symm hjp),hst j (by omega) (by omega),gapp hj]⟩ _ (by simp (disch:=first|omega|(simp only [lens,z6,z8,zg,z7,zi,lQt,lQd,List.length_replicate];first|done|omega)) only [go_sem]) (by simp (disch:=first|omega|(simp only [lens,z6,z8,zg,z7,zi,lQt,lQd,List.length_replicate];first|done|omega)) only [go_sem]) (by simp (disch:=first|omega|(simp only [lens,z6,z8,zg,z7,zi,lQt,lQd,List.length_replicate];first|done|omega)) only [go_sem])
theorem zrn(O:Store)(p:Nat)(key:Hash)(q:Hdr)(x:AV)(hp:O[p]? =some (some [poC key .nilsl]))(hx:SlV 32 (hr q.p) x)(hx0:q.p ≠ [])(hxl:q.p.length<1000000)
  (h0:z1e key q.n q.i q.r q.s q.p=0):
  ACallsP TC 14 [.ptr p 0 0,.agg (sgC q.n q.r q.i q.s x)] O (fun a O'=>a=.int .i64 2/\ ∃t,O.length<=t/\ O'[p]? =some (some [poC key (.sl t 0 1 none 36)])/\ O'[t]? =some (some (hdrs [q]))/\ ∀j,j<O.length->j ≠ p->O'[j]? =O[j]?):=by
 have d:=slen hp
 have l:=zi key .nilsl
 have g:=z5h key .nilsl
 have gk:=zaw key .nilsl
 have kl:=z6 key
 have ql:=z8 q.n q.r q.i q.s x
 have hN:=fun y=>z3e (O++y) p key _ (by rw [gapp d];exact hp)
 have hC:=fun O=>zc0 O key q.n q.i q.r q.s q.p x (.of hx)
 have hO:=fun O=>z94 O q.n q.r q.i q.s q.p x hx hxl
 rw [zd7 hx hx0]at hO
 have hS:=fun O=>zec O q.n q.r
 rw [h0]at hC
 have hcl:=zg q
 have hput:=fun v=>zdo key .nilsl v
 have hch:sgC q.n q.r q.i q.s (z13 32 (hr q.p))=hdrC q:=rfl
 refine ACallsP.of_keep zds (by simp) ?_
 repeat' (first|apply zs_|apply zb_|apply zc_|apply zt_ rfl|apply zf_ rfl|(apply zd_ rfl<;>intro ht<;>try omega)|((first|apply zr_|apply zk_|apply ze_|apply zq_|(apply callW.mk_pu;(first|exact(fun _=>hN _)|exact(fun _=>hC _)|exact(fun _=>hS _)|exact(fun _=>zf4 _)|exact(fun _=>hO _)))|(apply callW.za;(first|exact(hN _)|exact(hC _)|exact(hS _)|exact(zf4 _)|exact(hO _)))|(apply zG<;>intro ht));all_goals try simp (disch:=first|omega|(simp only [lens,z6,z8,zg,z7,zi,lQt,lQd,List.length_replicate];first|done|omega)) only [go_sem,hp,l,g,gk,kl,ql,hcl,hch]))
 refine callW.mkP (caps:=[]) (zl9 (O++ [some [sgC q.n q.r q.i q.s x]]) (hdrC q) true hcl) ⟨_,_,rfl,rfl⟩ ?_
 rintro v O3 ⟨rfl,rfl⟩
 have hp3:(O++ [some [sgC q.n q.r q.i q.s x]]++ [some [hdrC q]])[p]? =some (some [poC key .nilsl]):=by rw [List.append_assoc,gapp d];exact hp
 have hb3:(O++ [some [sgC q.n q.r q.i q.s x]]++ [some [hdrC q]])[O.length]? =some (some [sgC q.n q.r q.i q.s x]):=by rw [List.append_assoc,z1h (Nat.le_refl _),Nat.sub_self];rfl
 have ht3:(O++ [some [sgC q.n q.r q.i q.s x]]++ [some [hdrC q]])[O.length+1]? =some (some (hdrs [q])):=by rw [List.append_assoc,z1h (by omega),Nat.add_sub_cancel_left];rfl
 have hst:∀j,j<O.length->(O++ [some [sgC q.n q.r q.i q.s x]]++ [some [hdrC q]])[j]? =O[j]?:=fun j hj=>by rw [List.append_assoc,gapp hj]
 have hln:(O++ [some [sgC q.n q.r q.i q.s x]]).length=O.length+1:=by simp
 rw [hln]
 generalize (O++ [some [sgC q.n q.r q.i q.s x]]++ [some [hdrC q]])=O3 at*
 have d3:=slen hp3
 simp (disch:=first|omega|(simp only [lens,z6,z8,zg,z7,zi,lQt,lQd,List.length_replicate];first|done|omega)) only [go_sem,hp3,l,g,gk,kl,ql,hcl,hch,hput]
 repeat' (first|apply zs_|apply zb_|apply zc_|apply zt_ rfl|apply zf_ rfl|(apply zd_ rfl<;>intro ht<;>try omega)|((first|apply zr_|apply zk_|apply ze_|apply zq_|(apply zG<;>intro ht));all_goals try simp (disch:=first|omega|(simp only [lens,z6,z8,zg,z7,zi,lQt,lQd,List.length_replicate];first|done|omega)) only [go_sem,hp3,l,g,gk,kl,ql,hcl,hch,hput]))
 have hpt:p ≠ O.length+1:=by omega
 have hF:(if z24 [q] 0 q.n then(3:Int)else 2)=2:=if_neg (by simp [z24])
 refine ziy _ _ p O.length (O.length+1) key [q] 0 q x _ (z2l d3) (by rw [z1q hpt];exact ht3) (by rw [z1q (by omega)];exact hb3) (by simp) (by simp) ⟨by rw [hF],O.length+1,by omega,z2l d3,by rw [z1q hpt];exact ht3,fun j hj hjp=>by rw [z1q (Ne.symm hjp),hst j hj]⟩ _ (by simp (disch:=first|omega|(simp only [lens,z6,z8,zg,z7,zi,lQt,lQd,List.length_replicate];first|done|omega)) only [go_sem]) (by simp (disch:=first|omega|(simp only [lens,z6,z8,zg,z7,zi,lQt,lQd,List.length_replicate];first|done|omega)) only [go_sem]) (by simp (disch:=first|omega|(simp only [lens,z6,z8,zg,z7,zi,lQt,lQd,List.length_replicate];first|done|omega)) only [go_sem];try rfl)
end
section
def addC(key:Hash)(P:List Hdr)(q:Hdr):Int:=
 if z1e key q.n q.i q.r q.s q.p ≠ 0 then 0 else if isP P q.n q.r=true then 1 else if 16<=P.length then 4 else if z24 (insL P q) (lbP P q.n q.r) q.n then 3 else 2
def addL(key:Hash)(P:List Hdr)(q:Hdr):List Hdr:=if addC key P q=2 \/addC key P q=3 then insL P q else P
def PoAddP(O:Store)(p:Nat)(key:Hash)(P:List Hdr)(own:List Nat)(q:Hdr)(a:AV)(O':Store):Prop:=
 a=.int .i64 (addC key P q)/\ ∃own',Fr O O' own own'/\ PoIs O' p key (addL key P q) own'
theorem z7e(P:List Hdr)(q:Hdr):(insL P q).length=P.length+1:=by
 have:=z6l P q.n q.r
 unfold insL
 rw [List.length_append,List.length_cons,List.length_take,List.length_drop];omega
theorem zp4{P:List Hdr}(hP:PSort P)(q:Hdr)(h:isP P q.n q.r=false):PSort (insL P q):=
 hP.insert q fun hl e=>by
  have:¬ ∃h:lbP P q.n q.r<P.length,poI P[lbP P q.n q.r].n P[lbP P q.n q.r].r q.n q.r=0:=of_decide_eq_false h
  exact this ⟨hl,e⟩
theorem zc6{key:Hash}{P:List Hdr}(hP:PSort P)(q:Hdr):PSort (addL key P q):=by
 unfold addL
 by_cases h:addC key P q=2 \/addC key P q=3
 ·rw [if_pos h]
  refine zp4 hP q ?_
  cases h1:isP P q.n q.r with
  |false=>rfl
  |true=>
   exfalso
   unfold addC at h
   by_cases h0:z1e key q.n q.i q.r q.s q.p ≠ 0
   ·rw [if_pos h0]at h;omega
   ·rw [if_neg h0,if_pos h1]at h;omega
 ·rw [if_neg h];exact hP
theorem PoIs.lt{O:Store}{p:Nat}{key:Hash}{P:List Hdr}{own:List Nat}(h:PoIs O p key P own){j:Nat}(hj:j ∈ own):j<O.length:=by
 obtain⟨v,sid,rfl,hp,hr,_⟩:=h
 simp only [List.mem_cons,Option.mem_toList]at hj
 rcases hj with rfl|h
 ·exact slen hp
 ·exact hr.lt h
theorem PoIs.keep{O O':Store}{p:Nat}{key:Hash}{P:List Hdr}{own:List Nat}(h:PoIs O p key P own)(hk:∀j,j ∈ own->O'[j]? =O[j]?):PoIs O' p key P own:=by
 obtain⟨v,sid,rfl,hp,hr,hn⟩:=h
 exact⟨v,sid,rfl,by rw [hk p (by simp)];exact hp,hr.keep fun q e=>hk q (by simp [e]),hn⟩
theorem PoIs.ext{O O':Store}{p:Nat}{key:Hash}{P:List Hdr}{own:List Nat}(h:PoIs O p key P own)(he:Ext O O'):PoIs O' p key P own:=by
 obtain⟨y,rfl⟩:=he
 exact h.keep fun j hj=>gapp (h.lt hj)
theorem PoAddP.is{O:Store}{p:Nat}{key:Hash}{P:List Hdr}{own:List Nat}{q:Hdr}(hT:PoIs O p key P own):∃a O',PoAddP O p key P own q a O':=by
 by_cases h:addC key P q=2 \/addC key P q=3
 ·obtain⟨v,sid,rfl,hp,hr,hn⟩:=hT
  have d:=slen hp
  refine⟨_,O.set p (some [poC key (.sl O.length 0 (insL P q).length none 36)])++ [some (hdrs (insL P q))],rfl,p::Option.toList (some O.length),⟨fun j hj hn=> ?_,fun j hj=> ?_,by simp⟩,?_⟩
  ·rw [gapp (by simpa using hj),z1q (fun e=>hn (by simp [e]))]
  ·simp only [List.mem_cons,Option.mem_toList,Option.some.injEq]at hj ⊢
   rcases hj with h|h
   ·exact .inl (.inl h)
   ·exact .inr (by omega)
  ·unfold addL
   rw [if_pos h]
   exact⟨_,some O.length,rfl,by rw [gapp (by simpa using d),z2l d],.inr ⟨O.length,rfl,fun e=>by have:=congrArg List.length e;rw [z7,z7e]at this;simp at this,by rw [z7],by rw [z1h (by simp)];simp⟩,fun e=>by injection e with e;omega⟩
 ·exact⟨_,O,rfl,own,.ext (.refl _),by unfold addL;rw [if_neg h];exact hT⟩
theorem PSort.nil:PSort []:=fun i j hi hj hij=>by simp at hi
theorem z6n(O:Store)(p:Nat)(key:Hash)(P:List Hdr)(own:List Nat)(q:Hdr)(x:AV)(hT:PoIs O p key P own)(hs:PSort P)(hl:P.length<=16)(hx:SlV 32 (hr q.p) x)(hxl:q.p.length<1000000)(hx0:z1e key q.n q.i q.r q.s q.p=0->q.p ≠ []):
  ACallsP TC 14 [.ptr p 0 0,.agg (sgC q.n q.r q.i q.s x)] O (PoAddP O p key P own q):=by
 have hT':=hT
 obtain⟨v,sid,rfl,hp,hr1,hn⟩:=hT'
 have no:∀e,addC key P q=e->e ≠ 2->e ≠ 3->PoAddP O p key P (p::Option.toList sid) q (.int .i64 e) O:=fun e he h2 h3=>
  ⟨by rw [he],_,.ext (.refl _),by unfold addL;rw [if_neg (by omega)];exact hT⟩
 by_cases h0:z1e key q.n q.i q.r q.s q.p ≠ 0
 ·exact(zav O p key v sid P q x 0 hp hr1 hs (by omega) hx (.inl ⟨h0,rfl⟩)).toP (no 0 (by unfold addC;rw [if_pos h0]) (by omega) (by omega))
 have h0':z1e key q.n q.i q.r q.s q.p=0:=by omega
 cases h1:isP P q.n q.r with
 |true=>exact(zav O p key v sid P q x 1 hp hr1 hs (by omega) hx (.inr (.inl ⟨h0',h1,rfl⟩))).toP (no 1 (by unfold addC;rw [if_neg h0,if_pos h1]) (by omega) (by omega))
 |false=>
 by_cases h2:16<=P.length
 ·exact(zav O p key v sid P q x 4 hp hr1 hs (by omega) hx (.inr (.inr ⟨h0',h1,h2,rfl⟩))).toP (no 4 (by unfold addC;rw [if_neg h0,if_neg (by rw [h1];simp),if_pos h2]) (by omega) (by omega))
 have hc:addC key P q=if z24 (insL P q) (lbP P q.n q.r) q.n then 3 else 2:=by unfold addC;rw [if_neg h0,if_neg (by rw [h1];simp),if_neg h2]
 have hL:addL key P q=insL P q:=by unfold addL;rw [hc];split<;>simp
 have fin:∀(O':Store) t,O.length<=t->O'[p]? =some (some [poC key (.sl t 0 (insL P q).length none 36)])->O'[t]? =some (some (hdrs (insL P q)))->(∀j,j<O.length->j ≠ p->O'[j]? =O[j]?)->
   ∃own',Fr O O' (p::Option.toList sid) own'/\ PoIs O' p key (addL key P q) own':=by
  intro O' t ht g1 g2 g3
  have dt:=slen g2
  have dp:=slen hp
  refine⟨p::Option.toList (some t),⟨fun j hj hn=>g3 j hj fun e=>hn (by simp [e]),fun j hj=> ?_,by omega⟩,?_⟩
  ·simp only [List.mem_cons,Option.mem_toList,Option.some.injEq]at hj ⊢
   rcases hj with h|h
   ·exact .inl (.inl h)
   ·exact .inr (by omega)
  ·rw [hL]
   exact⟨_,some t,rfl,g1,.inr ⟨t,rfl,fun e=>by have:=congrArg List.length e;rw [z7,z7e]at this;simp at this,by rw [z7],g2⟩,fun e=>by injection e with e;omega⟩
 rcases hr1 with⟨rfl,e0,rfl⟩| ⟨r,rfl,hne,rfl,hg⟩
 ·have hP:P=[]:=List.eq_nil_of_length_eq_zero (by rw [<-z7,e0];rfl)
  subst hP
  refine ACallsP.mono (zrn O p key q x hp hx (hx0 h0') hxl h0') fun a O' ⟨ha,t,ht,g1,g2,g3⟩=>⟨?_,fin O' t ht g1 g2 g3⟩
  rw [ha,hc,if_neg (by simp [z24,insL,lbP])]
 ·have hP:P ≠ []:=fun e=>hne (by rw [e];rfl)
  rw [z7]at hp
  refine ACallsP.mono (zro O p key r P q x hp hg hP (fun e=>hn (by rw [e])) hs (by omega) hx (hx0 h0') hxl h0' h1) fun a O' ⟨ha,t,ht,g1,g2,g3⟩=>⟨?_,fin O' t ht g1 g2 g3⟩
  rw [ha,hc]
end
section
def kn(P:List Hdr):List (List AV):=P.map fun q=> .int .i64 q.n::hc q.r
theorem zj(P:List Hdr):(kn P).length=P.length:=by simp [kn]
theorem zjh{k:Nat}(P:List Hdr):RLss k (kn P):=by
 induction P with
 |nil=>simp [kn,RLss]
 |cons q P ih=>
  show RLss k ((.int .i64 q.n::hc q.r)::kn P)
  simp only [RLss]
  exact⟨by simp only [RLs,RL];exact⟨trivial,z6p q.r⟩,ih⟩
attribute [local irreducible] ACallsTo ACallsP
theorem zax(O:Store)(p:Nat)(key:Hash)(P:List Hdr)(own:List Nat)(hT:PoIs O p key P own)(hl:P.length<1000000):ACallsTo TC 29 [.ptr p 0 0] O (z13 33 (kn P)) O:=by
 obtain⟨v,sid,rfl,hp,hr1,hn⟩:=hT
 have d:=slen hp
 have l:=zi key v
 have g:=z5h key v
 have r1:=hr1.rd.len
 rw [z7]at r1
 unfold z1j at r1
 have hN:=fun y=>z3e (O++y) p key v (by rw [gapp d];exact hp)
 have hN0:=z3e O p key v hp
 refine ACallsTo.of_body q1uok (by simp) fun hw _=> ?_
 repeat' (first|apply zs_|apply zb_|apply zc_|apply zt_ rfl|apply zf_ rfl|(apply zd_ rfl<;>intro ht<;>try omega)|((first|apply zr_|apply zk_|apply ze_|apply zq_|(apply callW.mk_pu;(first|exact(fun _=>hN0)|exact(fun _=>hN _)))|(apply callW.za;(first|exact(hN0)|exact(hN _)))|(apply zG<;>intro ht));all_goals try simp (disch:=first|omega|(simp only [lens,z6,z8,zg,z7,zi,zj,lQt,lQd,List.length_replicate];first|done|omega)) only [go_sem,hp,l,g,r1]))
 refine zW.loop (fun m J O'=>∃(i:Nat) (w:AV),m+i=P.length/\ OwnN 33 O O' w (kn (P.take i))/\ J 3=w/\ J 11=v/\ J 12=.int .i64 P.length/\ J 13=.int .i64 i) P.length ?_ ?_
 ·exact⟨0,.nilsl,by omega,⟨[],by simp,.inl ⟨rfl,rfl⟩⟩,by simp (disch:=first|omega|(simp only [lens,z6,z8,zg,z7,zi,zj,lQt,lQd,List.length_replicate];first|done|omega)) only [go_sem],by simp (disch:=first|omega|(simp only [lens,z6,z8,zg,z7,zi,zj,lQt,lQd,List.length_replicate];first|done|omega)) only [go_sem],by simp (disch:=first|omega|(simp only [lens,z6,z8,zg,z7,zi,zj,lQt,lQd,List.length_replicate];first|done|omega)) only [go_sem],by simp (disch:=first|omega|(simp only [lens,z6,z8,zg,z7,zi,zj,lQt,lQd,List.length_replicate];first|done|omega)) only [go_sem];try rfl⟩
 ·rintro m J O' ⟨i,w,hm,hO,q3,q11,q12,q13⟩
  by_cases hi:i<P.length
  ·rcases hr1 with⟨_,h0,_⟩| ⟨q,_,hne,rfl,hq⟩
   ·have:=congrArg List.length h0;rw [z7]at this;simp at this;rw [this]at hi;simp at hi
   rw [z7]at q11 l g
   have dq:=slen hq
   obtain⟨news,hnews⟩:=hO.ext
   have hq':O'[q]? =some (some (hdrs P)):=by rw [hnews,gapp dq];exact hq
   have hg:=z8u hi
   have hsl:=z8 P[i].n P[i].r P[i].i P[i].s (z13 32 (hr P[i].p))
   obtain⟨w',O2,ha,hO2⟩:=(hO.more [some [sgC P[i].n P[i].r P[i].i P[i].s (z13 32 (hr P[i].p))]]).app (ys:=[.int .i64 P[i].n::hc P[i].r]) (by simp) (by rw [zj,List.length_take];simp;omega)
   have hcat:kn (P.take i)++ [.int .i64 P[i].n::hc P[i].r]=kn (P.take (i+1)):=by rw [List.take_succ_eq_append_getElem hi];unfold kn;rw [List.map_append];rfl
   rw [hcat]at hO2
   have pl:=z7 P
   have rl:=z6 P[i].r
   generalize P[i]=u at*
   repeat' (first|apply zs_|apply zb_|apply zc_|apply zt_ rfl|apply zf_ rfl|(apply zd_ rfl<;>intro ht<;>try omega)|((first|apply zr_|apply zk_|apply ze_|apply zq_|(apply zG<;>intro ht));all_goals try simp (disch:=first|omega|(simp only [lens,z6,z8,zg,z7,zi,zj,lQt,lQd,List.length_replicate];first|done|omega)) only [go_sem,q3,q11,q12,q13,hq',hg,hsl,pl,rl,ha]))
   exact⟨m-1,by omega,i+1,w',by omega,hO2,by simp⟩
  ·obtain rfl:i=P.length:=by omega
   rw [List.take_of_length_le (Nat.le_refl _)]at hO
   repeat' (first|apply zs_|apply zb_|apply zc_|apply zt_ rfl|apply zf_ rfl|(apply zd_ rfl<;>intro ht<;>try omega)|((first|apply zr_|apply zk_|apply ze_|apply zq_|(apply zG<;>intro ht));all_goals try simp (disch:=first|omega|(simp only [lens,z6,z8,zg,z7,zi,zj,lQt,lQd,List.length_replicate];first|done|omega)) only [go_sem,q3,q11,q12,q13]))
   exact hO.froze hw (zjh P)
end
section
def rb(b:UInt8):Hash:=⟨b::List.replicate 31 0,rfl⟩
theorem hc_rb(b:UInt8):hc (rb b)=[.int .u8 b.toNat,.int .u8 0,.int .u8 0,.int .u8 0,.int .u8 0,.int .u8 0,.int .u8 0,.int .u8 0,.int .u8 0,.int .u8 0,.int .u8 0,.int .u8 0,.int .u8 0,.int .u8 0,.int .u8 0,.int .u8 0,.int .u8 0,.int .u8 0,.int .u8 0,.int .u8 0,.int .u8 0,.int .u8 0,.int .u8 0,.int .u8 0,.int .u8 0,.int .u8 0,.int .u8 0,.int .u8 0,.int .u8 0,.int .u8 0,.int .u8 0,.int .u8 0]:=rfl
def z1d(seed:List UInt8)(i:Nat)(n:Int)(r:Hash):Hdr:=⟨n,r,i,ksgS seed i (digH n r).1,z1m (keyL seed) i⟩
theorem zeg(seed:List UInt8)(i:Nat)(n:Int)(r:Hash)(hi:i<8)(hn:0<=n/\ n<=4096):z1e (z1c (keyL seed)) (z1d seed i n r).n (z1d seed i n r).i (z1d seed i n r).r (z1d seed i n r).s (z1d seed i n r).p=0:=by
 have hv:z49 (z1d seed i n r).n (z1d seed i n r).i (z1d seed i n r).s (z1d seed i n r).p=true:=decide_eq_true ⟨hn.1,hn.2,by simp only [z1d];omega,by simp only [z1d];omega,z8w _ _ _,z92 _ _⟩
 unfold z1e
 rw [hv,if_neg (by simp)]
 exact if_pos (zv1 seed i hi _)
theorem z7d{key:Hash}{n i:Int}{r:Hash}{s:List UInt8}{p:List Hash}(h:z1e key n i r s p=0):p.length=3:=by
 unfold z1e at h
 cases hv:z49 n i s p with
 |true=>exact(of_decide_eq_true hv).2.2.2.2.2
 |false=>
  rw [hv,if_pos rfl]at h
  omega
attribute [local irreducible] ACallsTo ACallsP
theorem ztu(O:Store)(t:Nat)(seed:List UInt8)(n:Int)(b:UInt8)(ht:O[t]? =some (some [z1k true seed (keyL seed)]))(hs:seed.length<1000000):
  ACallsTo TC 39 [.ptr t 0 0,.int .i64 n,.int .u8 b.toNat] O (.agg (hdrC (z1d seed 0 n (rb b)))) O:=by
 have d:=slen ht
 have hD:=fun O=>ze0 O n (rb b)
 have hS:=fun y=>zkl (O++y) t seed (keyL seed) 0 (digH n (rb b)) (by rw [gapp d];exact ht) (z2x seed) (by omega) hs
 have hm:hdrC (z1d seed 0 n (rb b))=sgC n (rb b) 0 (ksgS seed 0 (digH n (rb b)).1) (z13 32 (hr (z1m (keyL seed) 0))):=rfl
 rw [hm]
 have hrl:RLs O.length (sgC n (rb b) 0 (ksgS seed 0 (digH n (rb b)).1) (z13 32 (hr (z1m (keyL seed) 0)))):=zbd (zjf (z3p _))
 unfold zbi at hS
 have hh:=hc_rb b
 generalize ksgS seed 0 (digH n (rb b)).1=sig at*
 generalize z1m (keyL seed) 0=PH at*
 generalize digH n (rb b)=dg at*
 generalize rb b=R at*
 rw [hh]at hD
 refine ACallsTo.of_body q1tok (by simp) fun hw _=> ?_
 repeat' (first|apply zs_|apply zb_|apply zc_|apply zt_ rfl|apply zf_ rfl|(apply zd_ rfl<;>intro ht<;>try omega)|((first|apply zr_|apply zk_|apply ze_|apply zq_|(apply callW.mk_pu;(first|exact(fun _=>hD _)|exact(fun _=>hS _)))|(apply callW.za;(first|exact(hD _)|exact(hS _)))|(apply zG<;>intro ht));all_goals try simp (disch:=first|omega|(simp only [lens,z6,z8,zg,z7,zi,zj,lQt,lQd,List.length_replicate];first|done|omega)) only [go_sem]))
 unfold sgC at hrl ⊢
 rw [hh]at hrl ⊢
 exact DownV.pure hw (by simp only [RL];exact hrl)
end
section
theorem lb_lt{q:Hdr}{P:List Hdr}{m:Int}{k:Hash}(h:poI q.n q.r m k<0):lbP (q::P) m k=lbP P m k+1:=by rw [zap,if_pos h]
theorem lb_ge{q:Hdr}{P:List Hdr}{m:Int}{k:Hash}(h:¬poI q.n q.r m k<0):lbP (q::P) m k=0:=by rw [zap,if_neg h]
theorem zhr{P:List Hdr}{m:Int}{k:Hash}{b:Nat}(hb:lbP P m k=b):isP P m k=decide (∃h:b<P.length,poI P[b].n P[b].r m k=0):=by subst hb;rfl
theorem zc5{key:Hash}{P:List Hdr}{q:Hdr}{b:Nat}(h0:z1e key q.n q.i q.r q.s q.p=0)(hb:lbP P q.n q.r=b)(h1:¬ ∃h:b<P.length,poI P[b].n P[b].r q.n q.r=0)(h2:P.length<16):
  addC key P q=(if z24 (P.take b++q::P.drop b) b q.n then 3 else 2)/\ addL key P q=P.take b++q::P.drop b:=by
 have hi:insL P q=P.take b++q::P.drop b:=by unfold insL;rw [hb]
 have hc:addC key P q=if z24 (P.take b++q::P.drop b) b q.n then 3 else 2:=by
  unfold addC
  rw [if_neg (by omega),if_neg (by rw [zhr hb,decide_eq_false h1];simp),if_neg (by omega),hi,hb]
 refine⟨hc,?_⟩
 unfold addL
 rw [hc,if_pos (by split<;>simp),hi]
theorem zlt{key:Hash}{P:List Hdr}{q:Hdr}{b:Nat}(h0:z1e key q.n q.i q.r q.s q.p=0)(hb:lbP P q.n q.r=b)(h1:∃h:b<P.length,poI P[b].n P[b].r q.n q.r=0):
  addC key P q=1/\ addL key P q=P:=by
 have hc:addC key P q=1:=by
  unfold addC
  rw [if_neg (by omega),if_pos (by rw [zhr hb,decide_eq_true h1])]
 refine⟨hc,?_⟩
 unfold addL
 rw [hc,if_neg (by omega)]
theorem zrv(key:Hash)(A B C:Hdr)(hA:z1e key A.n A.i A.r A.s A.p=0)(hB:z1e key B.n B.i B.r B.s B.p=0)(hC:z1e key C.n C.i C.r C.s C.p=0)
  (a1:A.n=1) (a2:A.r=rb 9) (b1:B.n=1) (b2:B.r=rb 2) (c1:C.n=2) (c2:C.r=rb 1):
  (addC key [] A=2/\ addL key [] A=[A])/\ (addC key [A] C=2/\ addL key [A] C=[A,C])/\ (addC key [A,C] A=1/\ addL key [A,C] A=[A,C])/\ (addC key [A,C] B=3/\ addL key [A,C] B=[B,A,C]):=by
 have pAC:poI A.n A.r C.n C.r= -1:=z93 _ _ (by omega)
 have pAA:poI A.n A.r A.n A.r=0:=po_zero.2 ⟨rfl,rfl⟩
 have pAB:poI A.n A.r B.n B.r=1:=by
  rw [a1,b1,z7m,a2,b2];rfl
 have l0:lbP [] A.n A.r=0:=rfl
 have l1:lbP [A] C.n C.r=1:=by rw [lb_lt (by omega)];rfl
 have l2:lbP [A,C] A.n A.r=0:=lb_ge (by omega)
 have l3:lbP [A,C] B.n B.r=0:=lb_ge (by omega)
 obtain⟨r1,s1⟩:=zc5 (P:=[]) hA l0 (by simp) (by simp)
 obtain⟨r2,s2⟩:=zc5 (P:=[A]) hC l1 (by simp) (by simp)
 obtain⟨r4,s4⟩:=zc5 (P:=[A,C]) hB l3 (by rintro⟨_,e⟩;have:poI A.n A.r B.n B.r=0:=e;omega) (by simp)
 refine⟨⟨by rw [r1,if_neg (by simp [z24])],s1⟩,⟨by rw [r2,if_neg (by simp [z24,a1,c1])],s2⟩,zlt hA l2 ⟨by simp,pAA⟩,⟨by rw [r4,if_pos (by simp [z24,a1,b1])],s4⟩⟩
end
section
theorem z3y(h:Hdr):(hdrC h).take 36=hdrC h:=List.take_of_length_le (by rw [zg];omega)
attribute [local irreducible] ACallsTo ACallsP z96
theorem zry (hT : ∀ (O : Store) (q : Nat) (key : Hash) (A B C : Hdr) (n : Nat) (own : List Nat) (J : Env), PoIs O q key [] own -> (∀ j ∈ own, j < n) -> O[n]? = some (some [hdrC A]) -> O[n + 1]? = some (some [hdrC B]) -> O[n + 2]? = some (some [hdrC C]) -> J 2 = .ptr q 0 0 -> J 3 = .ptr n 0 0 -> J 4 = .ptr (n + 1) 0 0 -> J 5 = .ptr (n + 2) 0 0 ->
   key=z1c (keyL [107])->A=z1d [107] 0 1 (rb 9)->B=z1d [107] 0 1 (rb 2)->C=z1d [107] 0 2 (rb 1)->zW TC 75 0 z96 (endQ 0 [.t 0] (.bool true) []) J O):
  ACallsTo TC 8 [] [] (.bool true) []:=by
 have hNew:=fun O=>zhu O [107] (by simp)
 refine ACallsTo.of_body q1vok (by simp) fun hw _=> ?_
 repeat' (first|apply zs_|apply zb_|apply zc_|apply zt_ rfl|apply zf_ rfl|(apply zd_ rfl<;>intro ht<;>try omega)|((first|apply zr_|apply zk_|apply ze_|apply zq_|(apply callW.mk_pu;(first|exact(fun _=>hNew _)))|(apply callW.za;(first|exact(hNew _)))|(apply zG<;>intro ht));all_goals try simp (disch:=first|omega|(simp only [lens,z6,z8,zg,z7,zi,zj,lQt,lQd,List.length_replicate];first|done|omega)) only [go_sem]))
 try simp only [List.nil_append,List.length_nil]
 have hsl:([107]:List UInt8).length<1000000:=by simp
 have hT:=fun O q A B C n own J h1 h2 h3 h4 h5 h6 h7 h8 h9=>hT O q (z1c (keyL [107])) A B C n own J h1 h2 h3 h4 h5 h6 h7 h8 h9 rfl
 generalize ([107]:List UInt8)=seed at*
 have hRt:=zkk [some [z1k true seed (keyL seed)]] 0 seed (keyL seed) rfl (z2x seed)
 have hE:=zdp [some [z1k true seed (keyL seed)]] (z1c (keyL seed))
 have hS:∀n b,ACallsTo TC 39 [.ptr 0 0 0,.int .i64 n,.int .u8 (b:UInt8).toNat] ([some [z1k true seed (keyL seed)],some [hc (z1c (keyL seed))],some [poC (z1c (keyL seed)) .nilsl]]) (.agg (hdrC (z1d seed 0 n (rb b)))) ([some [z1k true seed (keyL seed)],some [hc (z1c (keyL seed))],some [poC (z1c (keyL seed)) .nilsl]]):=fun n b=>ztu _ 0 seed n b rfl hsl
 repeat' (first|apply zs_|apply zb_|apply zc_|apply zt_ rfl|apply zf_ rfl|(apply zd_ rfl<;>intro ht<;>try omega)|((first|apply zr_|apply zk_|apply ze_|apply zq_|(apply callW.mk_pu;(first|exact(fun _=>hRt)))|(apply callW.za;(first|exact(hRt)))|(apply zG<;>intro ht));all_goals try simp (disch:=first|omega|(simp only [lens,z6,z8,zg,z7,zi,zj,lQt,lQd,List.length_replicate];first|done|omega)) only [go_sem]))
 refine callW.mkP (caps:=[]) hE ⟨_,_,rfl,rfl⟩ ?_
 rintro v O2 ⟨rfl,rfl⟩
 simp (disch:=first|omega|(simp only [lens,z6,z8,zg,z7,zi,zj,lQt,lQd,List.length_replicate];first|done|omega)) only [go_sem]
 have s9:=hS 1 9
 have s2:=hS 1 2
 have s1:=hS 2 1
 rw [show (((9:UInt8).toNat:Nat):Int)=9 from rfl]at s9
 rw [show (((2:UInt8).toNat:Nat):Int)=2 from rfl]at s2
 rw [show (((1:UInt8).toNat:Nat):Int)=1 from rfl]at s1
 have lA:=zg (z1d seed 0 1 (rb 9))
 have lB:=zg (z1d seed 0 1 (rb 2))
 have lC:=zg (z1d seed 0 2 (rb 1))
 have hT:=fun O q n own J h1 h2 h3 h4 h5 h6 h7 h8 h9=>hT O q _ _ _ n own J h1 h2 h3 h4 h5 h6 h7 h8 h9 rfl rfl rfl
 generalize z1d seed 0 1 (rb 9)=A at*
 generalize z1d seed 0 1 (rb 2)=B at*
 generalize z1d seed 0 2 (rb 1)=C at*
 repeat' (first|apply zs_|apply zb_|apply zc_|apply zt_ rfl|apply zf_ rfl|(apply zd_ rfl<;>intro ht<;>try omega)|((first|apply zr_|apply zk_|apply ze_|apply zq_|(apply callW.mk_pu;(first|exact(fun _=>s9)|exact(fun _=>s2)|exact(fun _=>s1)))|(apply callW.za;(first|exact(s9)|exact(s2)|exact(s1)))|(apply zG<;>intro ht));all_goals try simp (disch:=first|omega|(simp only [lens,z6,z8,zg,z7,zi,zj,lQt,lQd,List.length_replicate];first|done|omega)) only [go_sem,lA,lB,lC]))
 exact hT _ 2 3 [2] _ ⟨.nilsl,none,rfl,rfl,.inl ⟨rfl,rfl,rfl⟩,by simp⟩ (by simp) rfl rfl rfl (by simp (disch:=first|omega|(simp only [lens,z6,z8,zg,z7,zi,zj,lQt,lQd,List.length_replicate];first|done|omega)) only [go_sem]) (by simp (disch:=first|omega|(simp only [lens,z6,z8,zg,z7,zi,zj,lQt,lQd,List.length_replicate];first|done|omega)) only [go_sem]) (by simp (disch:=first|omega|(simp only [lens,z6,z8,zg,z7,zi,zj,lQt,lQd,List.length_replicate];first|done|omega)) only [go_sem];try rfl) (by simp (disch:=first|omega|(simp only [lens,z6,z8,zg,z7,zi,zj,lQt,lQd,List.length_replicate];first|done|omega)) only [go_sem];try rfl)
attribute [local irreducible] zb3
theorem zrw(hw:Wf ([]:Store).length [])(O:Store)(q:Nat)(key:Hash)(A B C:Hdr)(n:Nat)(own:List Nat)(J:Env)(hP:PoIs O q key [] own)(ho:∀j ∈ own,j<n)(g1:O[n]? =some (some [hdrC A]))(g2:O[n+1]? =some (some [hdrC B]))(g3:O[n+2]? =some (some [hdrC C]))(q2:J 2=.ptr q 0 0)(q3:J 3=.ptr n 0 0)(q4:J 4=.ptr (n+1) 0 0)(q5:J 5=.ptr (n+2) 0 0)
  (hA:z1e key A.n A.i A.r A.s A.p=0) (hB:z1e key B.n B.i B.r B.s B.p=0) (hC:z1e key C.n C.i C.r C.s C.p=0) (a1:A.n=1) (a2:A.r=rb 9) (b1:B.n=1) (b2:B.r=rb 2) (c1:C.n=2) (c2:C.r=rb 1)
  (hK:∀(O:Store) (own:List Nat) (J:Env),PoIs O q key [B,A,C] own->O[n]? =some (some [hdrC A])->O[n+1]? =some (some [hdrC B])->O[n+2]? =some (some [hdrC C])->J 2=.ptr q 0 0->J 3=.ptr n 0 0->J 4=.ptr (n+1) 0 0->J 5=.ptr (n+2) 0 0->zW TC 75 0 zb3 (endQ 0 [.t 0] (.bool true) []) J O):
  zW TC 75 0 z96 (endQ 0 [.t 0] (.bool true) []) J O:=by
 obtain⟨⟨e1,f1⟩,⟨e2,f2⟩,⟨e3,f3⟩,⟨e4,f4⟩⟩:=zrv key A B C hA hB hC a1 a2 b1 b2 c1 c2
 have lA:=zg A
 have lB:=zg B
 have lC:=zg C
 have tA:=z3y A
 have tB:=z3y B
 have tC:=z3y C
 have pA:=z7d hA
 have pB:=z7d hB
 have pC:=z7d hC
 have nA:A.p ≠ []:=fun e=>by rw [e]at pA;simp at pA
 have nB:B.p ≠ []:=fun e=>by rw [e]at pB;simp at pB
 have nC:C.p ≠ []:=fun e=>by rw [e]at pC;simp at pC
 have no:∀{own:List Nat},(∀j ∈ own,j<n)->∀k,n<=k->k ∉ own:=fun h k hk hm=>by have:=h k hm;omega
 unfold z96
 have hS0:=PSort.nil
 have hS1:=zc6 (key:=key) hS0 A
 rw [f1]at hS1
 have hS2:=zc6 (key:=key) hS1 C
 rw [f2]at hS2
 have d3:=slen g3
 have nx:∀{O' O2:Store} {o o':List Nat},Fr O' O2 o o'->n+2<O'.length->(∀k,n<=k->k<=n+2->k ∉ o)->∀k,n<=k->k<=n+2->k ∉ o':=fun fr hl h k h1 h2 hm=>by
  rcases fr.new k hm with h3|h3
  ·exact h k h1 h2 h3
  ·omega
 have n0:∀k,n<=k->k<=n+2->k ∉ own:=fun k h1 _=>no ho k h1
 repeat' (first|apply zs_|apply zb_|apply zc_|apply zt_ rfl|apply zf_ rfl|(apply zd_ rfl<;>intro ht<;>try omega)|((first|apply zr_|apply zk_|apply ze_|apply zq_|(apply zG<;>intro ht));all_goals try simp (disch:=first|omega|(simp only [lens,z6,z8,zg,z7,zi,zj,lQt,lQd,List.length_replicate];first|done|omega)) only [go_sem,q2,q3,q4,q5,g1,g2,g3,lA,lB,lC,tA,tB,tC]))
 refine callW.mkP (caps:=[]) (z6n O q key [] own A _ hP hS0 (by simp) (z1x _ _) (by omega) (fun _=>nA)) (PoAddP.is hP) ?_
 rintro v O2 ⟨rfl,own2,fr2,P2⟩
 rw [f1]at P2
 rw [e1]
 have n2:=nx fr2 d3 n0
 have g1:=fr2.get g1 (n0 _ (by omega) (by omega))
 have g2:=fr2.get g2 (n0 _ (by omega) (by omega))
 have g3:=fr2.get g3 (n0 _ (by omega) (by omega))
 have d3:=slen g3
 simp (disch:=first|omega|(simp only [lens,z6,z8,zg,z7,zi,zj,lQt,lQd,List.length_replicate];first|done|omega)) only [go_sem,q2,q3,q4,q5,g1,g2,g3,lA,lB,lC,tA,tB,tC]
 repeat' (first|apply zs_|apply zb_|apply zc_|apply zt_ rfl|apply zf_ rfl|(apply zd_ rfl<;>intro ht<;>try omega)|((first|apply zr_|apply zk_|apply ze_|apply zq_|(apply zG<;>intro ht));all_goals try simp (disch:=first|omega|(simp only [lens,z6,z8,zg,z7,zi,zj,lQt,lQd,List.length_replicate];first|done|omega)) only [go_sem,q2,q3,q4,q5,g1,g2,g3,lA,lB,lC,tA,tB,tC]))
 refine callW.mkP (caps:=[]) (z6n O2 q key [A] own2 C _ P2 hS1 (by simp) (z1x _ _) (by omega) (fun _=>nC)) (PoAddP.is P2) ?_
 rintro v O3 ⟨rfl,own3,fr3,P3⟩
 rw [f2]at P3
 rw [e2]
 have n3:=nx fr3 d3 n2
 have g1:=fr3.get g1 (n2 _ (by omega) (by omega))
 have g2:=fr3.get g2 (n2 _ (by omega) (by omega))
 have g3:=fr3.get g3 (n2 _ (by omega) (by omega))
 have d3:=slen g3
 simp (disch:=first|omega|(simp only [lens,z6,z8,zg,z7,zi,zj,lQt,lQd,List.length_replicate];first|done|omega)) only [go_sem,q2,q3,q4,q5,g1,g2,g3,lA,lB,lC,tA,tB,tC]
 repeat' (first|apply zs_|apply zb_|apply zc_|apply zt_ rfl|apply zf_ rfl|(apply zd_ rfl<;>intro ht<;>try omega)|((first|apply zr_|apply zk_|apply ze_|apply zq_|(apply zG<;>intro ht));all_goals try simp (disch:=first|omega|(simp only [lens,z6,z8,zg,z7,zi,zj,lQt,lQd,List.length_replicate];first|done|omega)) only [go_sem,q2,q3,q4,q5,g1,g2,g3,lA,lB,lC,tA,tB,tC]))
 refine callW.mkP (caps:=[]) (z6n O3 q key [A,C] own3 A _ P3 hS2 (by simp) (z1x _ _) (by omega) (fun _=>nA)) (PoAddP.is P3) ?_
 rintro v O4 ⟨rfl,own4,fr4,P4⟩
 rw [f3]at P4
 rw [e3]
 have n4:=nx fr4 d3 n3
 have g1:=fr4.get g1 (n3 _ (by omega) (by omega))
 have g2:=fr4.get g2 (n3 _ (by omega) (by omega))
 have g3:=fr4.get g3 (n3 _ (by omega) (by omega))
 have d3:=slen g3
 simp (disch:=first|omega|(simp only [lens,z6,z8,zg,z7,zi,zj,lQt,lQd,List.length_replicate];first|done|omega)) only [go_sem,q2,q3,q4,q5,g1,g2,g3,lA,lB,lC,tA,tB,tC]
 repeat' (first|apply zs_|apply zb_|apply zc_|apply zt_ rfl|apply zf_ rfl|(apply zd_ rfl<;>intro ht<;>try omega)|((first|apply zr_|apply zk_|apply ze_|apply zq_|(apply zG<;>intro ht));all_goals try simp (disch:=first|omega|(simp only [lens,z6,z8,zg,z7,zi,zj,lQt,lQd,List.length_replicate];first|done|omega)) only [go_sem,q2,q3,q4,q5,g1,g2,g3,lA,lB,lC,tA,tB,tC]))
 refine callW.mkP (caps:=[]) (z6n O4 q key [A,C] own4 B _ P4 hS2 (by simp) (z1x _ _) (by omega) (fun _=>nB)) (PoAddP.is P4) ?_
 rintro v O5 ⟨rfl,own5,fr5,P5⟩
 rw [f4]at P5
 rw [e4]
 have g1:=fr5.get g1 (n4 _ (by omega) (by omega))
 have g2:=fr5.get g2 (n4 _ (by omega) (by omega))
 have g3:=fr5.get g3 (n4 _ (by omega) (by omega))
 simp (disch:=first|omega|(simp only [lens,z6,z8,zg,z7,zi,zj,lQt,lQd,List.length_replicate];first|done|omega)) only [go_sem,q2,q3,q4,q5,g1,g2,g3,lA,lB,lC,tA,tB,tC]
 repeat' (first|apply zs_|apply zb_|apply zc_|apply zt_ rfl|apply zf_ rfl|(apply zd_ rfl<;>intro ht<;>try omega)|((first|apply zr_|apply zk_|apply ze_|apply zq_|(apply zG<;>intro ht));all_goals try simp (disch:=first|omega|(simp only [lens,z6,z8,zg,z7,zi,zj,lQt,lQd,List.length_replicate];first|done|omega)) only [go_sem,q2,q3,q4,q5,g1,g2,g3,lA,lB,lC,tA,tB,tC]))
 exact hK O5 own5 _ P5 g1 g2 g3 (by simp (disch:=first|omega|(simp only [lens,z6,z8,zg,z7,zi,zj,lQt,lQd,List.length_replicate];first|done|omega)) only [go_sem,q2]) (by simp (disch:=first|omega|(simp only [lens,z6,z8,zg,z7,zi,zj,lQt,lQd,List.length_replicate];first|done|omega)) only [go_sem,q3]) (by simp (disch:=first|omega|(simp only [lens,z6,z8,zg,z7,zi,zj,lQt,lQd,List.length_replicate];first|done|omega)) only [go_sem,q4]) (by simp (disch:=first|omega|(simp only [lens,z6,z8,zg,z7,zi,zj,lQt,lQd,List.length_replicate];first|done|omega)) only [go_sem,q5])
end
section
theorem hcZ31:hc zeroH=[.int .u8 0,.int .u8 0,.int .u8 0,.int .u8 0,.int .u8 0,.int .u8 0,.int .u8 0,.int .u8 0,.int .u8 0,.int .u8 0,.int .u8 0,.int .u8 0,.int .u8 0,.int .u8 0,.int .u8 0,.int .u8 0,.int .u8 0,.int .u8 0,.int .u8 0,.int .u8 0,.int .u8 0,.int .u8 0,.int .u8 0,.int .u8 0,.int .u8 0,.int .u8 0,.int .u8 0,.int .u8 0,.int .u8 0,.int .u8 0,.int .u8 0,.int .u8 0]:=rfl
theorem z6h(h:Hdr):(hdrC h).take 33=.int .i64 h.n::hc h.r:=z9c _ _ _ _ _
attribute [local irreducible] ACallsTo ACallsP
theorem zrx(hw:Wf ([]:Store).length [])(O:Store)(q:Nat)(key:Hash)(A B C:Hdr)(n:Nat)(own:List Nat)(J:Env)(hP:PoIs O q key [B,A,C] own)(g1:O[n]? =some (some [hdrC A]))(g2:O[n+1]? =some (some [hdrC B]))(g3:O[n+2]? =some (some [hdrC C]))(q2:J 2=.ptr q 0 0)(q3:J 3=.ptr n 0 0)(q4:J 4=.ptr (n+1) 0 0)(q5:J 5=.ptr (n+2) 0 0)
  (hz:z1e zeroH A.n A.i A.r A.s A.p ≠ 0) (hAp:A.p.length<1000000):
  zW TC 75 0 zb3 (endQ 0 [.t 0] (.bool true) []) J O:=by
 have hKn:=zax O q key [B,A,C] own hP (by simp)
 rw [show z13 33 (kn [B,A,C])=.vsl 33 [.int .i64 B.n::hc B.r,.int .i64 A.n::hc A.r,.int .i64 C.n::hc C.r] false from rfl]at hKn
 have lA:=zg A
 have lB:=zg B
 have lC:=zg C
 have tA:=z3y A
 have uA:=z6h A
 have uB:=z6h B
 have uC:=z6h C
 have kA:=z6 A.r
 have kB:=z6 B.r
 have kC:=z6 C.r
 have eA:=z63 A.n A.n A.r A.r
 have eB:=z63 B.n B.n B.r B.r
 have eC:=z63 C.n C.n C.r C.r
 rw [decide_eq_true ⟨rfl,rfl⟩]at eA eB eC
 have d1:=slen g1
 have hE:=zdp O zeroH
 rw [hcZ31]at hE
 repeat' (first|apply zs_|apply zb_|apply zc_|apply zt_ rfl|apply zf_ rfl|(apply zd_ rfl<;>intro ht<;>try omega)|((first|apply zr_|apply zk_|apply ze_|apply zq_|(apply callW.mk_pu;(first|exact(fun _=>hKn)))|(apply callW.za;(first|exact(hKn)))|(apply zG<;>intro ht));all_goals try simp (disch:=first|omega|(simp only [lens,z6,z8,zg,z7,zi,zj,lQt,lQd,List.length_replicate];first|done|omega)) only [go_sem,q2,q3,q4,q5,g1,g2,g3,lA,lB,lC,tA,uA,uB,uC,kA,kB,kC,eA,eB,eC,z1i,eq_self,and_self,if_true]))
 have d3:=slen g3
 refine callW.mkP_ef (caps:=[]) hE ⟨_,_,rfl,rfl⟩ ?_
 rintro v O2 ⟨rfl,rfl⟩
 rw [<-hcZ31]
 have hAd:ACallsTo TC 14 [.ptr (O.length+1) 0 0,.agg (hdrC A)] (O++ [some [hc zeroH],some [poC zeroH .nilsl]]) (.int .i64 0) (O++ [some [hc zeroH],some [poC zeroH .nilsl]]):=
  zav _ (O.length+1) zeroH .nilsl none [] A (z13 32 (hr A.p)) 0 (by rw [z1h (by omega),Nat.add_sub_cancel_left];rfl) (.inl ⟨rfl,rfl,rfl⟩) PSort.nil (by simp) (z1x _ _) (.inl ⟨hz,rfl⟩)
 have x1:(O++ [some [hc zeroH],some [poC zeroH .nilsl]])[n]? =some (some [hdrC A]):=by rw [gapp (by omega)];exact g1
 have x2:(O++ [some [hc zeroH],some [poC zeroH .nilsl]])[n+1]? =some (some [hdrC B]):=by rw [gapp (by omega)];exact g2
 have x3:(O++ [some [hc zeroH],some [poC zeroH .nilsl]])[n+2]? =some (some [hdrC C]):=by rw [gapp (by omega)];exact g3
 have hx:Ext ([]:Store) (O++ [some [hc zeroH],some [poC zeroH .nilsl]]):=⟨_,(List.nil_append _).symm⟩
 generalize (O++ [some [hc zeroH],some [poC zeroH .nilsl]])=O2 at*
 refine⟨by simp (disch:=first|omega|(simp only [lens,z6,z8,zg,z7,zi,zj,lQt,lQd,List.length_replicate];first|done|omega)) only [go_sem,x1,x2,x3,lA,lB,lC,tA,uA,uB,uC,kA,kB,kC],?_⟩
 simp (disch:=first|omega|(simp only [lens,z6,z8,zg,z7,zi,zj,lQt,lQd,List.length_replicate];first|done|omega)) only [go_sem,x1,x2,x3,g1,g2,g3,lA,lB,lC,tA,uA,uB,uC,kA,kB,kC,q2,q3,q4,q5]
 repeat' (first|apply zs_|apply zb_|apply zc_|apply zt_ rfl|apply zf_ rfl|(apply zd_ rfl<;>intro ht<;>try omega)|((first|apply zr_|apply zk_|apply ze_|apply zq_|(apply callW.mk_pu;(first|exact(fun _=>hAd)))|(apply callW.za;(first|exact(hAd)))|(apply zG<;>intro ht));all_goals try simp (disch:=first|omega|(simp only [lens,z6,z8,zg,z7,zi,zj,lQt,lQd,List.length_replicate];first|done|omega)) only [go_sem,x1,x2,x3,g1,g2,g3,lA,lB,lC,tA,uA,uB,uC,kA,kB,kC,q2,q3,q4,q5]))
 exact DownV.pure (τ:=[]) (news:=O2) hw z1f
end
section
theorem zv0(seed:List UInt8)(dg x:Hash)(hx:z1c (keyL seed) ≠ x):verI x dg (0:Nat) (ksgS seed (0:Nat) dg.1) (z1m (keyL seed) 0) ≠ 0:=by
 have hc:chkP (hd (keyL seed) 0) (0:Nat) 8 (z1m (keyL seed) 0) x ≠ 0:=by
  obtain⟨a,b,c,d,e,f,g,h,hK⟩:=len8 (z2x seed)
  rw [hK]at hx ⊢
  rw [ze8]at hx
  obtain⟨p0,_⟩:=ziv a b c d e f g h
  rw [p0,z4e 0 (by omega),if_neg]
  ·decide
  ·exact fun e=>hx (by rw [<-e];simp [z2i,hd])
 unfold verI
 rw [if_neg (by omega),if_pos (z8w _ _ _),zj9,<-zht seed 0 (by omega),if_neg hc]
 decide
theorem zth(seed:List UInt8)(x:Hash)(n:Int)(r:Hash)(hn:0<=n/\ n<=4096)(hx:z1c (keyL seed) ≠ x):z1e x (z1d seed 0 n r).n (z1d seed 0 n r).i (z1d seed 0 n r).r (z1d seed 0 n r).s (z1d seed 0 n r).p ≠ 0:=by
 have hv:z49 (z1d seed 0 n r).n (z1d seed 0 n r).i (z1d seed 0 n r).s (z1d seed 0 n r).p=true:=decide_eq_true ⟨hn.1,hn.2,by simp only [z1d];omega,by simp only [z1d];omega,z8w _ _ _,z92 _ _⟩
 unfold z1e
 have e:(if verI x (digH (z1d seed 0 n r).n (z1d seed 0 n r).r) (z1d seed 0 n r).i (z1d seed 0 n r).s (z1d seed 0 n r).p=0 then(0:Int)else 81)=81:=if_neg (zv0 seed _ x hx)
 rw [hv,if_neg (by simp),e]
 decide
attribute [local irreducible] ACallsTo ACallsP
theorem zru:ACallsTo TC 8 [] [] (.bool true) []:=by
 refine zry fun O q key A B C n own J h1 h2 h3 h4 h5 h6 h7 h8 h9 hk hA hB hC=> ?_
 have cA:=zeg [107] 0 1 (rb 9) (by omega) (by omega)
 have cB:=zeg [107] 0 1 (rb 2) (by omega) (by omega)
 have cC:=zeg [107] 0 2 (rb 1) (by omega) (by omega)
 have hz:=zth [107] zeroH 1 (rb 9) (by omega) (root_k zeroH rfl)
 have hp:=z7d cA
 have hw:Wf ([]:Store).length []:=fun r o h=>by simp at h
 rw [<-hk,<-hA]at cA
 rw [<-hk,<-hB]at cB
 rw [<-hk,<-hC]at cC
 rw [<-hA]at hz hp
 exact zrw hw O q key A B C n own J h1 h2 h3 h4 h5 h6 h7 h8 h9 cA cB cC (by rw [hA];rfl) (by rw [hA];rfl) (by rw [hB];rfl) (by rw [hB];rfl) (by rw [hC];rfl) (by rw [hC];rfl)
  fun O own J g1 g2 g3 g4 g5 g6 g7 g8=>zrx hw O q key A B C n own J g1 g2 g3 g4 g5 g6 g7 g8 hz (by omega)
theorem z5y(O:Store):ACallsTo TC 8 [] O (.bool true) O:=ACallsTo.frame glok zru (by simp [RLs]) O
end
section
theorem zd8(l:List Hash):knil (hr l) (z13 32 (hr l))=z13 32 (hr l):=by
 by_cases h:l=[]
 ·subst h;rfl
 ·exact zd7 (z1x _ _) h
theorem ACallsTo.wfd{C:Ctx}{f:FuncId}{args:List AV}{O O':Store}{v:AV}(h:Wf O.length O->ACallsTo C f args O v O'):ACallsTo C f args O v O':=fun Z w cargs hR ha=>h hR.wf Z w cargs hR ha
attribute [local irreducible] ACallsTo ACallsP
theorem zj0(O:Store)(p:Nat)(key:Hash)(P:List Hdr)(own:List Nat)(hT:PoIs O p key P own)(hl:P.length<1000000)(hp:∀h ∈ P,h.p.length<1000000)(V:AV)(σV:Store)
  (fin:∀O' v,OwnN 36 O O' v (hdrs P)->DownV O.length v O' V σV):
  ACallsTo TC 46 [.ptr p 0 0] O V σV:=by
 obtain⟨v,sid,rfl,hpp,hr1,hn⟩:=hT
 have d:=slen hpp
 have l:=zi key v
 have g:=z5h key v
 have r1:=hr1.rd.len
 rw [z7]at r1
 unfold z1j at r1
 have hN:=fun y=>z3e (O++y) p key v (by rw [gapp d];exact hpp)
 have hN0:=z3e O p key v hpp
 refine ACallsTo.of_body q20ok (by simp) fun hw _=> ?_
 repeat' (first|apply zs_|apply zb_|apply zc_|apply zt_ rfl|apply zf_ rfl|(apply zd_ rfl<;>intro ht<;>try omega)|((first|apply zr_|apply zk_|apply ze_|apply zq_|(apply callW.mk_pu;(first|exact(fun _=>hN0)|exact(fun _=>hN _)))|(apply callW.za;(first|exact(hN0)|exact(hN _)))|(apply zG<;>intro ht));all_goals try simp (disch:=first|omega|(simp only [lens,z6,z8,zg,z7,zi,zj,lQt,lQd,List.length_replicate];first|done|omega)) only [go_sem,hpp,l,g,r1]))
 refine zW.loop (fun m J O'=>∃(i:Nat) (w:AV),m+i=P.length/\ OwnN 36 O O' w (hdrs (P.take i))/\ J 3=w/\ J 11=v/\ J 12=.int .i64 P.length/\ J 13=.int .i64 i) P.length ?_ ?_
 ·exact⟨0,.nilsl,by omega,⟨[],by simp,.inl ⟨rfl,rfl⟩⟩,by simp (disch:=first|omega|(simp only [lens,z6,z8,zg,z7,zi,zj,lQt,lQd,List.length_replicate];first|done|omega)) only [go_sem],by simp (disch:=first|omega|(simp only [lens,z6,z8,zg,z7,zi,zj,lQt,lQd,List.length_replicate];first|done|omega)) only [go_sem],by simp (disch:=first|omega|(simp only [lens,z6,z8,zg,z7,zi,zj,lQt,lQd,List.length_replicate];first|done|omega)) only [go_sem],by simp (disch:=first|omega|(simp only [lens,z6,z8,zg,z7,zi,zj,lQt,lQd,List.length_replicate];first|done|omega)) only [go_sem];try rfl⟩
 ·rintro m J O' ⟨i,w,hm,hO,q3,q11,q12,q13⟩
  by_cases hi:i<P.length
  ·rcases hr1 with⟨_,h0,_⟩| ⟨q,_,hne,rfl,hq⟩
   ·have:=congrArg List.length h0;rw [z7]at this;simp at this;rw [this]at hi;simp at hi
   rw [z7]at q11 l g
   have dq:=slen hq
   obtain⟨news,hnews⟩:=hO.ext
   have hq':O'[q]? =some (some (hdrs P)):=by rw [hnews,gapp dq];exact hq
   have hgi:=z3i hi
   have hst:=zon hi
   have hph:=hp P[i] (List.getElem_mem hi)
   have hdl:=z7 P
   generalize P[i]=u at*
   obtain⟨w',O2,ha,hO2⟩:=(hO.more [some [hdrC u]]).app (ys:=[hdrC u]) (by simp) (by rw [z7,List.length_take];simp;omega)
   rw [hst]at hO2
   have hC:=fun O=>z94 O u.n u.r u.i u.s u.p (z13 32 (hr u.p)) (z1x _ _) hph
   rw [zd8,show sgC u.n u.r u.i u.s (z13 32 (hr u.p))=hdrC u from rfl]at hC
   have hcl:=zg u
   repeat' (first|apply zs_|apply zb_|apply zc_|apply zt_ rfl|apply zf_ rfl|(apply zd_ rfl<;>intro ht<;>try omega)|((first|apply zr_|apply zk_|apply ze_|apply zq_|(apply callW.mk_pu;(first|exact(fun _=>hC _)))|(apply callW.za;(first|exact(hC _)))|(apply zG<;>intro ht));all_goals try simp (disch:=first|omega|(simp only [lens,z6,z8,zg,z7,zi,zj,lQt,lQd,List.length_replicate];first|done|omega)) only [go_sem,q3,q11,q12,q13,hq',hgi,hcl,hdl,ha]))
   exact⟨m-1,by omega,i+1,w',by omega,hO2,by simp⟩
  ·obtain rfl:i=P.length:=by omega
   rw [List.take_of_length_le (Nat.le_refl _)]at hO
   repeat' (first|apply zs_|apply zb_|apply zc_|apply zt_ rfl|apply zf_ rfl|(apply zd_ rfl<;>intro ht<;>try omega)|((first|apply zr_|apply zk_|apply ze_|apply zq_|(apply zG<;>intro ht));all_goals try simp (disch:=first|omega|(simp only [lens,z6,z8,zg,z7,zi,zj,lQt,lQd,List.length_replicate];first|done|omega)) only [go_sem,q3,q11,q12,q13]))
   exact fin _ _ hO
theorem zrs(O:Store)(p:Nat)(key:Hash)(P:List Hdr)(own:List Nat)(hT:PoIs O p key P own)(hl:P.length<1000000)(hp:∀h ∈ P,h.p.length<1000000):ACallsTo TC 46 [.ptr p 0 0] O (z13 36 (hdrs P)) O:=by
 refine ACallsTo.wfd fun hw=> ?_
 exact zj0 O p key P own hT hl hp _ _ fun O' v hO=>hO.froze hw (ze5 P)
theorem zrr(O:Store)(p:Nat)(key:Hash)(P:List Hdr)(own:List Nat)(hT:PoIs O p key P own)(hl:P.length<1000000)(hp:∀h ∈ P,h.p.length<1000000):ACallsTo TC 46 [.ptr p 0 0] O (ownV O 36 (hdrs P)) (ownS O (hdrs P)):=by
 refine ACallsTo.wfd fun hw=> ?_
 exact zj0 O p key P own hT hl hp _ _ fun O' v hO=>hO.own hw (ze5 P)
end
section
def hdr0:Hdr:=⟨0,zeroH,0,[],[]⟩
theorem hdrC_0:hdrC hdr0=[.int .i64 0,.int .u8 0,.int .u8 0,.int .u8 0,.int .u8 0,.int .u8 0,.int .u8 0,.int .u8 0,.int .u8 0,.int .u8 0,.int .u8 0,.int .u8 0,.int .u8 0,.int .u8 0,.int .u8 0,.int .u8 0,.int .u8 0,.int .u8 0,.int .u8 0,.int .u8 0,.int .u8 0,.int .u8 0,.int .u8 0,.int .u8 0,.int .u8 0,.int .u8 0,.int .u8 0,.int .u8 0,.int .u8 0,.int .u8 0,.int .u8 0,.int .u8 0,.int .u8 0,.int .i64 0,.str [],.nilsl]:=rfl
def noF(P:List Hdr)(i:Nat):Prop:=∀k,k+1<i->(P[k]?).map Hdr.n ≠ (P[k+1]?).map Hdr.n
theorem zdf{P:List Hdr}{i:Nat}(h:noF P i)(hi:0<i)(hn:(P[i-1]?).map Hdr.n ≠ (P[i]?).map Hdr.n):noF P (i+1):=fun k hk=>by
 by_cases e:k+1<i
 ·exact h k e
 ·obtain rfl:k=i-1:=by omega
  rw [show i-1+1=i by omega];exact hn
def z8q(P:List Hdr):Option Nat->AV
 |none=> .tup [.agg (hdrC hdr0),.agg (hdrC hdr0),.bool false]
 |some j=> .tup [.agg (hdrC (P.getD j hdr0)),.agg (hdrC (P.getD (j+1) hdr0)),.bool true]
def ForkIs(P:List Hdr):Option Nat->Prop
 |none=>noF P P.length
 |some j=>j+1<P.length/\ (P[j]?).map Hdr.n=(P[j+1]?).map Hdr.n/\ noF P (j+1)
theorem ForkIs.ex(P:List Hdr):∃o,ForkIs P o:=by
 have:∀i,i<=P.length->(∃j,ForkIs P (some j)) \/noF P i:=by
  intro i
  induction i with
  |zero=>exact fun _=> .inr fun k hk=>by omega
  |succ i ih=>
   intro hi
   rcases ih (by omega)with h|h
   ·exact .inl h
   ·rcases Nat.eq_zero_or_pos i with rfl|h0
    ·exact .inr fun k hk=>by omega
    ·by_cases he:(P[i-1]?).map Hdr.n=(P[i]?).map Hdr.n
     ·exact .inl ⟨i-1,by omega,by rw [show i-1+1=i by omega];exact he,by rw [show i-1+1=i by omega];exact h⟩
     ·exact .inr (zdf h h0 he)
 rcases this P.length (Nat.le_refl _)with⟨j,h⟩|h
 ·exact⟨some j,h⟩
 ·exact⟨none,h⟩
attribute [local irreducible] ACallsTo ACallsP
theorem zrp(O:Store)(p:Nat)(key:Hash)(P:List Hdr)(own:List Nat)(o:Option Nat)(hT:PoIs O p key P own)(ho:ForkIs P o)(hl:P.length<1000000)(hp:∀h ∈ P,h.p.length<1000000):
  ACallsTo TC 31 [.ptr p 0 0] O (z8q P o) O:=by
 obtain⟨v,sid,rfl,hpp,hr1,hn⟩:=hT
 have d:=slen hpp
 have l:=zi key v
 have g:=z5h key v
 have r1:=hr1.rd.len
 rw [z7]at r1
 unfold z1j at r1
 have z:=hdrC_0
 have zl:=zg hdr0
 have zd:List.drop 36 (hdrC hdr0)=[]:=rfl
 have hN:=fun y=>z3e (O++y) p key v (by rw [gapp d];exact hpp)
 refine ACallsTo.of_body q1xok (by simp) fun hw _=> ?_
 repeat' (first|apply zs_|apply zb_|apply zc_|apply zt_ rfl|apply zf_ rfl|(apply zd_ rfl<;>intro ht<;>try omega)|((first|apply zr_|apply zk_|apply ze_|apply zq_|(apply callW.mk_pu;(first|exact(fun _=>hN _)))|(apply callW.za;(first|exact(hN _)))|(apply zG<;>intro ht));all_goals try simp (disch:=first|omega|(simp only [lens,z6,z8,zg,z7,zi,zj,lQt,lQd,List.length_replicate];first|done|omega)) only [go_sem,hpp,l,g,r1]))
 simp only [<-z]
 refine zW.loop (fun m J O'=>∃i:Nat,m+i=P.length+1/\ 0<i/\ (i<=P.length \/P=[])/\ O'=O++ [some [hdrC hdr0],some [hdrC hdr0]]/\ noF P i/\ J 0=.ptr p 0 0/\ J 2=.ptr O.length 0 0/\ J 3=.ptr (O.length+1) 0 0/\ J 5=.int .i64 i) P.length ?_ ?_
 ·exact⟨1,by omega,by omega,by rcases P with _| ⟨a,P⟩;exact .inr rfl;exact .inl (by simp),rfl,fun k hk=>by omega,by simp (disch:=first|omega|(simp only [lens,z6,z8,zg,z7,zi,zj,lQt,lQd,List.length_replicate];first|done|omega)) only [go_sem],by simp (disch:=first|omega|(simp only [lens,z6,z8,zg,z7,zi,zj,lQt,lQd,List.length_replicate];first|done|omega)) only [go_sem],by simp (disch:=first|omega|(simp only [lens,z6,z8,zg,z7,zi,zj,lQt,lQd,List.length_replicate];first|done|omega)) only [go_sem];try rfl,by simp (disch:=first|omega|(simp only [lens,z6,z8,zg,z7,zi,zj,lQt,lQd,List.length_replicate];first|done|omega)) only [go_sem];try rfl⟩
 ·rintro m J O' ⟨i,hm,hi0,hi1,rfl,hF,q0,q2,q3,q5⟩
  by_cases hi:i<P.length
  ·rcases hr1 with⟨_,h0,_⟩| ⟨q,_,hne,rfl,hq⟩
   ·have:=congrArg List.length h0;rw [z7]at this;simp at this;rw [this]at hi;simp at hi
   rw [z7]at hpp l g
   have dq:=slen hq
   have hdl:=z7 P
   have hga:=z3i (H:=P) (i:=i-1) (by omega)
   have hgb:=z3i hi
   have ea:P[i-1]? =some P[i-1]:=List.getElem?_eq_getElem (by omega)
   have eb:P[i]? =some P[i]:=List.getElem?_eq_getElem hi
   have hpa:=hp P[i-1] (List.getElem_mem _)
   have hpb:=hp P[i] (List.getElem_mem hi)
   have hk:(i:Int)-1=((i-1:Nat):Int):=by omega
   by_cases he:P[i-1].n=P[i].n
   ·have hj:o=some (i-1):=by
     cases o with
     |none=>
      exfalso
      have:=ho (i-1) (by omega)
      rw [show i-1+1=i by omega,ea,eb]at this
      exact this (by simp [he])
     |some j=>
      obtain⟨h1,h2,h3⟩:=ho
      by_cases h4:j<i-1
      ·exact absurd h2 (hF j (by omega))
      ·by_cases h5:i-1<j
       ·have:=h3 (i-1) (by omega)
        rw [show i-1+1=i by omega,ea,eb]at this
        exact absurd (by simp [he]) this
       ·congr 1;omega
    subst hj
    have hV:z8q P (some (i-1))=.tup [.agg (hdrC P[i-1]),.agg (hdrC P[i]),.bool true]:=by
     simp only [z8q,show i-1+1=i by omega]
     rw [List.getD_eq_getElem?_getD,List.getD_eq_getElem?_getD,ea,eb];rfl
    rw [hV]
    generalize P[i-1]=a at*
    generalize P[i]=b at*
    have hCa:=fun O=>z94 O a.n a.r a.i a.s a.p (z13 32 (hr a.p)) (z1x _ _) hpa
    rw [zd8,show sgC a.n a.r a.i a.s (z13 32 (hr a.p))=hdrC a from rfl]at hCa
    have hCb:=fun O=>z94 O b.n b.r b.i b.s b.p (z13 32 (hr b.p)) (z1x _ _) hpb
    rw [zd8,show sgC b.n b.r b.i b.s (z13 32 (hr b.p))=hdrC b from rfl]at hCb
    have la:=zg a
    have lb:=zg b
    have na:(hdrC a)[0]? =some (.int .i64 a.n):=rfl
    have nb:(hdrC b)[0]? =some (.int .i64 b.n):=rfl
    have he':(a.n==b.n)=true:=beq_iff_eq.2 he
    have hrla:=z7r (k:=O.length) a
    have hrlb:=z7r (k:=O.length) b
    repeat' (first|apply zs_|apply zb_|apply zc_|apply zt_ rfl|apply zf_ rfl|(apply zd_ rfl<;>intro ht<;>try omega)|((first|apply zr_|apply zk_|apply ze_|apply zq_|(apply callW.mk_pu;(first|exact(fun _=>hCa _)|exact(fun _=>hCb _)))|(apply callW.za;(first|exact(hCa _)|exact(hCb _)))|(apply zG<;>intro ht));all_goals try simp (disch:=first|omega|(simp only [lens,z6,z8,zg,z7,zi,zj,lQt,lQd,List.length_replicate];first|done|omega)) only [go_sem,q0,q2,q3,q5,hpp,l,g,hq,hdl,hga,hgb,hk,la,lb,na,nb,zl,zd,List.append_nil,he']))
    refine DownV.pure hw ?_
    simp only [RL,RLs];exact⟨hrla,hrlb,trivial,trivial⟩
   ·have hF2:=zdf hF hi0 (by rw [ea,eb];simpa using he)
    generalize P[i-1]=a at*
    generalize P[i]=b at*
    have la:=zg a
    have lb:=zg b
    have na:(hdrC a)[0]? =some (.int .i64 a.n):=rfl
    have nb:(hdrC b)[0]? =some (.int .i64 b.n):=rfl
    have he':(a.n==b.n)=false:=beq_eq_false_iff_ne.2 he
    repeat' (first|apply zs_|apply zb_|apply zc_|apply zt_ rfl|apply zf_ rfl|(apply zd_ rfl<;>intro ht<;>try omega)|((first|apply zr_|apply zk_|apply ze_|apply zq_|(apply zG<;>intro ht));all_goals try simp (disch:=first|omega|(simp only [lens,z6,z8,zg,z7,zi,zj,lQt,lQd,List.length_replicate];first|done|omega)) only [go_sem,q0,q2,q3,q5,hpp,l,g,hq,hdl,hga,hgb,hk,la,lb,na,nb,he']))
    exact⟨m-1,by omega,i+1,by omega,by omega,.inl (by omega),hF2,by simp⟩
  ·have hnF:noF P P.length:=by
    rcases hi1 with h|h
    ·obtain rfl:i=P.length:=by omega
     exact hF
    ·subst h;exact fun k hk=>by simp at hk
   have hj:o=none:=by
    cases o with
    |none=>rfl
    |some j=>
     obtain⟨h1,h2,h3⟩:=ho
     exact absurd h2 (hnF j h1)
   subst hj
   have hrlz:=z7r (k:=O.length) hdr0
   have hi':¬(i:Int)<P.length:=by omega
   repeat' (first|apply zs_|apply zb_|apply zc_|apply zt_ rfl|apply zf_ rfl|(apply zd_ rfl<;>intro ht<;>try omega)|((first|apply zr_|apply zk_|apply ze_|apply zq_|(apply zG<;>intro ht));all_goals try simp (disch:=first|omega|(simp only [lens,z6,z8,zg,z7,zi,zj,lQt,lQd,List.length_replicate];first|done|omega)) only [go_sem,q0,q2,q3,q5,hpp,l,g,r1,zl,hi']))
   refine DownV.pure hw ?_
   simp only [RL,RLs];exact⟨hrlz,hrlz,trivial,trivial⟩
end
section
def hns(P:List Hdr):List (Int × Hash):=P.map fun q=>(q.n,q.r)
theorem zhh(P:List Hdr):(hns P).length=P.length:=by simp [hns]
theorem zd6{P:List Hdr}{i:Nat}(h:i<P.length):(kn P)[i]? =some (.int .i64 P[i].n::hc P[i].r):=by
 simp [kn,List.getElem?_eq_getElem h]
theorem zhi{P:List Hdr}{i:Nat}(h:i<P.length):hns (P.take (i+1))=hns (P.take i)++ [(P[i].n,P[i].r)]:=by
 unfold hns;rw [List.take_succ_eq_append_getElem h,List.map_append];rfl
attribute [local irreducible] ACallsTo ACallsP
theorem zl7(O:Store)(P Q:List Hdr)(x y:AV)(hx:SlV 33 (kn P) x)(hy:SlV 33 (kn Q) y)(hlp:P.length<1000000)(hlq:Q.length<1000000):
  ACallsTo TC 61 [x,y] O (.bool (decide (hns P=hns Q))) O:=by
 have r1:=hx.len
 have r2:=hy.len
 rw [zj]at r1 r2
 unfold z1j at r1 r2
 refine ACallsTo.of_body q1mok (by simp) fun hw _=> ?_
 by_cases hlen:P.length=Q.length
 ·rw [hlen]at r1
  repeat' (first|apply zs_|apply zb_|apply zc_|apply zt_ rfl|apply zf_ rfl|(apply zd_ rfl<;>intro ht<;>try omega)|((first|apply zr_|apply zk_|apply ze_|apply zq_|(apply zG<;>intro ht));all_goals try simp (disch:=first|omega|(simp only [lens,z6,z8,zg,z7,zi,zj,lQt,lQd,List.length_replicate];first|done|omega)) only [go_sem,r1,r2]))
  refine zW.loop (fun m J O'=>∃i:Nat,m+i=Q.length/\ O'=O/\ hns (P.take i)=hns (Q.take i)/\ J 0=x/\ J 1=y/\ J 12=.int .i64 Q.length/\ J 13=.int .i64 i) Q.length ?_ ?_
  ·exact⟨0,by omega,rfl,by simp [hns],by simp (disch:=first|omega|(simp only [lens,z6,z8,zg,z7,zi,zj,lQt,lQd,List.length_replicate];first|done|omega)) only [go_sem],by simp (disch:=first|omega|(simp only [lens,z6,z8,zg,z7,zi,zj,lQt,lQd,List.length_replicate];first|done|omega)) only [go_sem],by simp (disch:=first|omega|(simp only [lens,z6,z8,zg,z7,zi,zj,lQt,lQd,List.length_replicate];first|done|omega)) only [go_sem],by simp (disch:=first|omega|(simp only [lens,z6,z8,zg,z7,zi,zj,lQt,lQd,List.length_replicate];first|done|omega)) only [go_sem];try rfl⟩
  ·rintro m J O' ⟨i,hm,rfl,hE,q0,q1,q12,q13⟩
   by_cases hi:i<Q.length
   ·have hip:i<P.length:=by omega
    obtain⟨ex,rfl⟩:=hx.vsl (by rw [zj];omega)
    obtain⟨ey,rfl⟩:=hy.vsl (by rw [zj];omega)
    have ga:=zd6 hip
    have gb:=zd6 hi
    have la:=zj P
    have lb:=zj Q
    have sa:=zhi hip
    have sb:=zhi hi
    have he:=z63 P[i].n Q[i].n P[i].r Q[i].r
    have hka:=z6 P[i].r
    have hkb:=z6 Q[i].r
    by_cases hh:P[i].n=Q[i].n/\ P[i].r=Q[i].r
    ·rw [decide_eq_true hh]at he
     have hE2:hns (P.take (i+1))=hns (Q.take (i+1)):=by rw [sa,sb,hE,hh.1,hh.2]
     generalize P[i]=a at*
     generalize Q[i]=b at*
     repeat' (first|apply zs_|apply zb_|apply zc_|apply zt_ rfl|apply zf_ rfl|(apply zd_ rfl<;>intro ht<;>try omega)|((first|apply zr_|apply zk_|apply ze_|apply zq_|(apply zG<;>intro ht));all_goals try simp (disch:=first|omega|(simp only [lens,z6,z8,zg,z7,zi,zj,lQt,lQd,List.length_replicate];first|done|omega)) only [go_sem,q0,q1,q12,q13,ga,gb,la,lb,he,hka,hkb]))
     exact⟨m-1,by omega,i+1,by omega,hE2,by simp⟩
    ·rw [decide_eq_false hh]at he
     have hne:hns P ≠ hns Q:=by
      intro e
      have h1:(hns P)[i]? =(hns Q)[i]?:=by rw [e]
      simp only [hns,List.getElem?_map,List.getElem?_eq_getElem hip,List.getElem?_eq_getElem hi,Option.map_some,Option.some.injEq,Prod.mk.injEq]at h1
      exact hh h1
     rw [decide_eq_false hne]
     generalize P[i]=a at*
     generalize Q[i]=b at*
     repeat' (first|apply zs_|apply zb_|apply zc_|apply zt_ rfl|apply zf_ rfl|(apply zd_ rfl<;>intro ht<;>try omega)|((first|apply zr_|apply zk_|apply ze_|apply zq_|(apply zG<;>intro ht));all_goals try simp (disch:=first|omega|(simp only [lens,z6,z8,zg,z7,zi,zj,lQt,lQd,List.length_replicate];first|done|omega)) only [go_sem,q0,q1,q12,q13,ga,gb,la,lb,he,hka,hkb]))
     exact DownV.same hw z1f
   ·obtain rfl:i=Q.length:=by omega
    rw [List.take_of_length_le (Nat.le_refl _),List.take_of_length_le (by omega)]at hE
    rw [decide_eq_true hE]
    repeat' (first|apply zs_|apply zb_|apply zc_|apply zt_ rfl|apply zf_ rfl|(apply zd_ rfl<;>intro ht<;>try omega)|((first|apply zr_|apply zk_|apply ze_|apply zq_|(apply zG<;>intro ht));all_goals try simp (disch:=first|omega|(simp only [lens,z6,z8,zg,z7,zi,zj,lQt,lQd,List.length_replicate];first|done|omega)) only [go_sem,q0,q1,q12,q13]))
    exact DownV.same hw z1f
 ·have hne:hns P ≠ hns Q:=fun e=>hlen (by have:=congrArg List.length e;rwa [zhh,zhh]at this)
  rw [decide_eq_false hne]
  have h3:((P.length:Int)==Q.length)=false:=beq_eq_false_iff_ne.2 (by omega)
  repeat' (first|apply zs_|apply zb_|apply zc_|apply zt_ rfl|apply zf_ rfl|(apply zd_ rfl<;>intro ht<;>try omega)|((first|apply zr_|apply zk_|apply ze_|apply zq_|(apply zG<;>intro ht));all_goals try simp (disch:=first|omega|(simp only [lens,z6,z8,zg,z7,zi,zj,lQt,lQd,List.length_replicate];first|done|omega)) only [go_sem,r1,r2,h3]))
  exact DownV.same hw z1f
theorem zrt(O:Store)(p q:Nat)(key key':Hash)(P Q:List Hdr)(own own':List Nat)(hP:PoIs O p key P own)(hQ:PoIs O q key' Q own')(hlp:P.length<1000000)(hlq:Q.length<1000000):
  ACallsTo TC 17 [.ptr p 0 0,.ptr q 0 0] O (.bool (decide (hns P=hns Q))) O:=by
 have k1:=zax O p key P own hP hlp
 have k2:=zax O q key' Q own' hQ hlq
 have hE:=fun O=>zl7 O P Q _ _ (z1x _ _) (z1x _ _) hlp hlq
 obtain⟨v,sid,rfl,hpp,hr1,hn⟩:=hP
 obtain⟨v',sid',rfl,hqp,hr2,hn'⟩:=hQ
 have n1:=z3e O p key v hpp
 have n2:=z3e O q key' v' hqp
 refine ACallsTo.of_body q1zok (by simp) fun hw _=> ?_
 repeat' (first|apply zs_|apply zb_|apply zc_|apply zt_ rfl|apply zf_ rfl|(apply zd_ rfl<;>intro ht<;>try omega)|((first|apply zr_|apply zk_|apply ze_|apply zq_|(apply callW.mk_pu;(first|exact(fun _=>n1)|exact(fun _=>n2)|exact(fun _=>k1)|exact(fun _=>k2)|exact(fun _=>hE _)))|(apply callW.za;(first|exact(n1)|exact(n2)|exact(k1)|exact(k2)|exact(hE _)))|(apply zG<;>intro ht));all_goals try simp (disch:=first|omega|(simp only [lens,z6,z8,zg,z7,zi,zj,lQt,lQd,List.length_replicate];first|done|omega)) only [go_sem]))
 exact DownV.same hw z1f
def PoCopyP(O:Store)(key:Hash)(P:List Hdr)(v:AV)(O':Store):Prop:=
 ∃p own,v=.ptr p 0 0/\ Ext O O'/\ PoIs O' p key P own/\ ∀j ∈ own,O.length<=j
theorem PoCopyP.at(O:Store)(key:Hash)(P:List Hdr):PoCopyP O key P (.ptr (ownS O (hdrs P)).length 0 0) (ownS O (hdrs P)++ [some [poC key (ownV O 36 (hdrs P))]]):=by
 by_cases h:hdrs P=[]
 ·have e1:ownS O (hdrs P)=O:=by unfold ownS;rw [if_pos h]
  have e2:ownV O 36 (hdrs P)=.nilsl:=by unfold ownV;rw [if_pos h]
  rw [e1,e2]
  exact⟨_,[O.length],rfl,⟨_,rfl⟩,⟨.nilsl,none,rfl,by rw [z1h (Nat.le_refl _),Nat.sub_self];rfl,.inl ⟨rfl,h,rfl⟩,by simp⟩,by simp⟩
 ·have e1:ownS O (hdrs P)=O++ [some (hdrs P)]:=by unfold ownS;rw [if_neg h]
  have e2:ownV O 36 (hdrs P)=.sl O.length 0 (hdrs P).length none 36:=by unfold ownV;rw [if_neg h]
  rw [e1,e2]
  refine⟨O.length+1,[O.length+1,O.length],by simp,⟨[some (hdrs P),some [poC key (.sl O.length 0 (hdrs P).length none 36)]],by simp⟩,⟨_,some O.length,rfl,?_,.inr ⟨O.length,rfl,h,rfl,?_⟩,by simp⟩,by simp⟩
  ·rw [z1h (by simp)];simp
  ·rw [List.append_assoc,z1h (Nat.le_refl _),Nat.sub_self];rfl
theorem PoCopyP.is(O:Store)(key:Hash)(P:List Hdr):∃v O',PoCopyP O key P v O':=⟨_,_,.at O key P⟩
theorem ziz(O:Store)(p:Nat)(key:Hash)(P:List Hdr)(own:List Nat)(hT:PoIs O p key P own)(hl:P.length<1000000)(hp:∀h ∈ P,h.p.length<1000000):
  ACallsP TC 13 [.ptr p 0 0] O (PoCopyP O key P):=by
 have hH:=zrr O p key P own hT hl hp
 have hat:=PoCopyP.at O key P
 have hcell:cellsOf (ownV O 36 (hdrs P))=some [ownV O 36 (hdrs P)]:=by unfold ownV;split<;>rfl
 unfold cellsOf at hcell
 obtain⟨v,sid,rfl,hpp,hr1,hn⟩:=hT
 have d:=slen hpp
 have l:=zi key v
 have g:=z5h key v
 have gk:=zaw key v
 have kl:=z6 key
 have hN:=z3e O p key v hpp
 refine ACallsP.of_keep q21ok (by simp) ?_
 repeat' (first|apply zs_|apply zb_|apply zc_|apply zt_ rfl|apply zf_ rfl|(apply zd_ rfl<;>intro ht<;>try omega)|((first|apply zr_|apply zk_|apply ze_|apply zq_|(apply callW.mk_pu;(first|exact(fun _=>hN)))|(apply callW.za;(first|exact(hN)))|(apply zG<;>intro ht));all_goals try simp (disch:=first|omega|(simp only [lens,z6,z8,zg,z7,zi,zj,lQt,lQd,List.length_replicate];first|done|omega)) only [go_sem,hpp,l,g,gk,kl]))
 refine callW.mkP_ef (caps:=[]) (hH.toP (P:=fun v O'=>v=ownV O 36 (hdrs P)/\ O'=ownS O (hdrs P)) ⟨rfl,rfl⟩) ⟨_,_,rfl,rfl⟩ ?_
 rintro w O2 ⟨rfl,rfl⟩
 have hp2:(ownS O (hdrs P))[p]? =some (some [poC key v]):=by
  unfold ownS
  split
  ·exact hpp
  ·rw [gapp d];exact hpp
 have fx:z17 (AV.bool true::(hc key++ [AV.nilsl])) [(33,1,ownV O 36 (hdrs P))]=some (poC key (ownV O 36 (hdrs P))):=by
  simp only [z17,cellsOf,hcell,Option.bind_some]
  rw [if_pos ⟨rfl,by simp [z6]⟩]
  unfold z1a
  congr 1
  rw [List.append_assoc]
  exact zdo key .nilsl (ownV O 36 (hdrs P))
 generalize ownV O 36 (hdrs P)=w at*
 generalize ownS O (hdrs P)=O2 at*
 refine⟨by simp (disch:=first|omega|(simp only [lens,z6,z8,zg,z7,zi,zj,lQt,lQd,List.length_replicate];first|done|omega)) only [go_sem,hp2,l,g,gk,kl,hcell],?_⟩
 simp (disch:=first|omega|(simp only [lens,z6,z8,zg,z7,zi,zj,lQt,lQd,List.length_replicate];first|done|omega)) only [go_sem,hpp,hp2,l,g,gk,kl,hcell,fx]
 repeat' (first|apply zs_|apply zb_|apply zc_|apply zt_ rfl|apply zf_ rfl|(apply zd_ rfl<;>intro ht<;>try omega)|((first|apply zr_|apply zk_|apply ze_|apply zq_|(apply zG<;>intro ht));all_goals try simp (disch:=first|omega|(simp only [lens,z6,z8,zg,z7,zi,zj,lQt,lQd,List.length_replicate];first|done|omega)) only [go_sem,hpp,hp2,l,g,gk,kl,hcell,fx]))
 exact hat
end
section
def rt2(b:UInt8):Hash:=⟨b::7::List.replicate 30 0,rfl⟩
theorem zhd(b:UInt8):hc (rt2 b)=[.int .u8 b.toNat,.int .u8 7,.int .u8 0,.int .u8 0,.int .u8 0,.int .u8 0,.int .u8 0,.int .u8 0,.int .u8 0,.int .u8 0,.int .u8 0,.int .u8 0,.int .u8 0,.int .u8 0,.int .u8 0,.int .u8 0,.int .u8 0,.int .u8 0,.int .u8 0,.int .u8 0,.int .u8 0,.int .u8 0,.int .u8 0,.int .u8 0,.int .u8 0,.int .u8 0,.int .u8 0,.int .u8 0,.int .u8 0,.int .u8 0,.int .u8 0,.int .u8 0]:=rfl
def zah(s:List UInt8)(k:Nat):List UInt8:=s.set k (s.getD k 0^^^1)
def z39(a:Nat):Int:=1+((a%6:Nat):Int)
def z2z(r:Nat):Hash:=rt2 (UInt8.ofNat (r%3))
def z61(seed:List UInt8)(a r k b:Nat):Hdr:=
 let h:=z1d seed (k%8) (z39 a) (z2z r)
 if b%8=0 then { h with s:=zah h.s k }else h
theorem zjx(seed:List UInt8)(a r k b:Nat)(hb:b%8 ≠ 0):z61 seed a r k b=z1d seed (k%8) (z39 a) (z2z r):=if_neg hb
theorem zjw(seed:List UInt8)(a r k b:Nat)(hb:b%8=0):z61 seed a r k b=⟨z39 a,z2z r,(k%8:Nat),zah (ksgS seed (k%8:Nat) (digH (z39 a) (z2z r)).1) k,z1m (keyL seed) (k%8)⟩:=if_pos hb
theorem zjy(seed:List UInt8)(a r k b:Nat):(z61 seed a r k b).p.length=3:=by
 by_cases hb:b%8=0
 ·rw [zjw seed a r k b hb];exact z92 _ _
 ·rw [zjx seed a r k b hb];exact z92 _ _
theorem xor_b1(a:UInt8):z15 .xor .u8 (a.toNat:Int) 1=some (.int .u8 ((a^^^1).toNat:Int)):=by
 rw [zhp ⟨by omega,by have:=a.toNat_lt;omega⟩ ⟨by omega,by omega⟩];simp
theorem zmb(s:List UInt8)(i:Nat)(x:UInt8):(zn s).set i [.int .u8 (x.toNat:Int)]=zn (s.set i x):=by
 rw [zfy ⟨by omega,by have:=x.toNat_lt;omega⟩];simp
attribute [local irreducible] ACallsTo ACallsP
theorem zjz(O:Store)(t:Nat)(seed:List UInt8)(a r k b:Nat)(ht:O[t]? =some (some [z1k true seed (keyL seed)]))(hs:seed.length<1000000)(ha:a<256)(hr0:r<256)(hk:k<256)(hb:b<256):
  ACallsTo TC 12 [.agg [.int .u8 a,.int .u8 r,.int .u8 k,.int .u8 b],.ptr t 0 0] O (.agg (hdrC (z61 seed a r k b))) O:=by
 have d:=slen ht
 have hn:z39 a=1+((a%6:Nat):Int):=rfl
 have hD:=fun O=>ze0 O (z39 a) (z2z r)
 have hS:=fun y=>zkl (O++y) t seed (keyL seed) (k%8) (digH (z39 a) (z2z r)) (by rw [gapp d];exact ht) (z2x seed) (by omega) hs
 unfold zbi at hS
 have hh:=zhd (UInt8.ofNat (r%3))
 rw [show rt2 (UInt8.ofNat (r%3))=z2z r from rfl]at hh
 have hu:(UInt8.ofNat (r%3)).toNat=r%3:=by rw [UInt8.toNat_ofNat'];omega
 rw [hu]at hh
 have e1:((a:Int))%6=((a%6:Nat):Int):=by omega
 have e2:((r:Int))%3=((r%3:Nat):Int):=by omega
 have e3:((k:Int))%8=((k%8:Nat):Int):=by omega
 have e4:((b:Int))%8=((b%8:Nat):Int):=by omega
 have hsl:=z8w seed ((k%8:Nat):Int) (digH (z39 a) (z2z r)).1
 by_cases hb8:b%8=0
 ·rw [zjw seed a r k b hb8]
  have hrl:RLs O.length (hdrC ⟨z39 a,z2z r,(k%8:Nat),zah (ksgS seed (k%8:Nat) (digH (z39 a) (z2z r)).1) k,z1m (keyL seed) (k%8)⟩):=z7r _
  unfold hdrC sgC at hrl ⊢
  dsimp only at hrl ⊢
  unfold zah at hrl ⊢
  generalize digH (z39 a) (z2z r)=dg at*
  generalize ksgS seed ((k%8:Nat):Int) dg.1=sig at*
  generalize z13 32 (hr (z1m (keyL seed) (k%8)))=PH at*
  generalize z2z r=R at*
  obtain⟨N,hN⟩:∃N:Int,1+((a%6:Nat):Int)=N:=⟨_,rfl⟩
  rw [hh,hn,hN]at hD hrl
  rw [hh,hn,hN]
  refine ACallsTo.of_body q1wok (by simp) fun hw _=> ?_
  repeat' (first|apply zs_|apply zb_|apply zc_|apply zt_ rfl|apply zf_ rfl|(apply zd_ rfl<;>intro ht<;>try omega)|((first|apply zr_|apply zk_|apply ze_|apply zq_|(apply callW.mk_pu;(first|exact(fun _=>hD _)))|(apply callW.za;(first|exact(hD _)))|(apply zG<;>intro ht));all_goals try simp (disch:=first|omega|(simp only [lens,z6,z8,zg,z7,zi,zj,lQt,lQd,List.length_replicate,zw];first|done|omega)) only [go_sem,e1,e2,e3,e4,hb8,hsl,hN]))
  refine callW.mk_pu2 (caps:=[]) (hS _) (fun h hh=>hh.elim) ?_
  have h0:(0:Int)<sig.length:=by rw [hsl];omega
  have hkl:k<sig.length:=by rw [hsl];omega
  have e5:(k:Int)%(sig.length:Int)=k:=Int.emod_eq_of_lt (by omega) (by omega)
  have hbl:=zw sig
  have hxr:=xor_b1 (sig.getD k 0)
  have hst:=zmb sig k (sig.getD k 0^^^1)
  clear hsl
  simp (disch:=first|omega|(simp only [lens,z6,z8,zg,z7,zi,zj,lQt,lQd,List.length_replicate,zw];first|done|omega)) only [go_sem,hS,List.append_nil,e1,e2,e3,e4,hb8,hN,h0]
  repeat' (first|apply zs_|apply zb_|apply zc_|apply zt_ rfl|apply zf_ rfl|(apply zd_ rfl<;>intro ht<;>try omega)|((first|apply zr_|apply zk_|apply ze_|apply zq_|(apply zG<;>intro ht));all_goals try simp (disch:=first|omega|(simp only [lens,z6,z8,zg,z7,zi,zj,lQt,lQd,List.length_replicate,zw];first|done|omega)) only [go_sem,e1,e2,e3,e4,hb8,hN,h0,e5,hkl,hbl,hxr,hst]))
  refine DownV.pure hw ?_
  simp only [RL]
  exact hrl
 ·rw [zjx seed a r k b hb8]
  have hrl:RLs O.length (hdrC (z1d seed (k%8) (z39 a) (z2z r))):=z7r _
  unfold z1d hdrC sgC at hrl ⊢
  dsimp only at hrl ⊢
  generalize digH (z39 a) (z2z r)=dg at*
  generalize ksgS seed ((k%8:Nat):Int) dg.1=sig at*
  generalize z13 32 (hr (z1m (keyL seed) (k%8)))=PH at*
  generalize z2z r=R at*
  obtain⟨N,hN⟩:∃N:Int,1+((a%6:Nat):Int)=N:=⟨_,rfl⟩
  rw [hh,hn,hN]at hD hrl
  rw [hh,hn,hN]
  refine ACallsTo.of_body q1wok (by simp) fun hw _=> ?_
  repeat' (first|apply zs_|apply zb_|apply zc_|apply zt_ rfl|apply zf_ rfl|(apply zd_ rfl<;>intro ht<;>try omega)|((first|apply zr_|apply zk_|apply ze_|apply zq_|(apply callW.mk_pu;(first|exact(fun _=>hD _)))|(apply callW.za;(first|exact(hD _)))|(apply zG<;>intro ht));all_goals try simp (disch:=first|omega|(simp only [lens,z6,z8,zg,z7,zi,zj,lQt,lQd,List.length_replicate,zw];first|done|omega)) only [go_sem,e1,e2,e3,e4,hb8,hsl,hN]))
  refine callW.mk_pu2 (caps:=[]) (hS _) (fun h hh=>hh.elim) ?_
  simp (disch:=first|omega|(simp only [lens,z6,z8,zg,z7,zi,zj,lQt,lQd,List.length_replicate,zw];first|done|omega)) only [go_sem,hS,List.append_nil,e1,e2,e3,e4,hb8,hsl,hN]
  repeat' (first|apply zs_|apply zb_|apply zc_|apply zt_ rfl|apply zf_ rfl|(apply zd_ rfl<;>intro ht<;>try omega)|((first|apply zr_|apply zk_|apply ze_|apply zq_|(apply zG<;>intro ht));all_goals try simp (disch:=first|omega|(simp only [lens,z6,z8,zg,z7,zi,zj,lQt,lQd,List.length_replicate,zw];first|done|omega)) only [go_sem,e1,e2,e3,e4,hb8,hsl,hN]))
  refine DownV.pure hw ?_
  simp only [RL]
  exact hrl
end
section
theorem zal{P:List Hdr}(hP:PSort P)(m:Int)(k:Hash):isP P m k=true ↔ ∃q ∈ P,q.n=m/\ q.r=k:=by
 unfold isP
 rw [decide_eq_true_iff]
 constructor
 ·rintro⟨h,e⟩
  exact⟨P[lbP P m k],List.getElem_mem h,po_zero.1 e⟩
 ·rintro⟨q,hq,rfl,rfl⟩
  obtain⟨j,hj,rfl⟩:=List.getElem_of_mem hq
  have z:poI P[j].n P[j].r P[j].n P[j].r=0:=po_zero.2 ⟨rfl,rfl⟩
  have h1:¬j<lbP P P[j].n P[j].r:=fun h=>by have:=(z6m hP P[j].n P[j].r j hj).2 h;omega
  by_cases h2:lbP P P[j].n P[j].r=j
  ·refine⟨by omega,?_⟩
   simp only [h2];exact z
  ·exfalso
   have h3:lbP P P[j].n P[j].r<j:=by omega
   have:=hP _ j (by omega) hj h3
   have:=(z6m hP P[j].n P[j].r _ (by omega)).1 this
   omega
theorem Fr.nin{O O':Store}{own own':List Nat}(h:Fr O O' own own'){j:Nat}(hj:j<O.length)(hn:j ∉ own):j ∉ own':=fun h2=>by
 rcases h.new j h2 with h3|h3
 ·exact hn h3
 ·omega
section
variable (seed:List UInt8)
end
end
section
set_option maxRecDepth 10000
def q25r0:yW:=[
 yI 3 (.box (.t 1)),
 yI 4 (.mv (.v (.bool false)))]
def q25r1:yW:=[
 yM 11 0,
 yI 12 (.lenSl (.t 11)),
 yJ 13 .gtr 12 .i64 20,
 yM 14 13,
 yT 15 14 false 33 3,
 yT 16 14 false 1 15,
 yU 17 14 false false 1 16,
 yG 18 14 false (.lenStr (.t 17)),
 yG 19 14 false (.bin .gtr .none (.t 18) (.v (.int .i64 17000))),
 yP 20 14 19,
 yM 21 20,
 yT 22 21 false 33 3,
 yT 23 21 false 2 22,
 yU 24 21 false false 1 23,
 yG 25 21 false (.lenSl (.t 24)),
 yG 26 21 false (.bin .gtr .none (.t 25) (.v (.int .i64 10))),
 yP 27 21 26]
def q25r2:yW:=[
 yI 28 (.call (.v (.fn 8 [])) []),
 yM 4 28]
def q25c3:yX:=yq q25r2 .ret
def q25c4:yX:=.cond (.t 27) q25c3 .skip
def q25c5:yX:=yq q25r1 q25c4
def q25r6:yW:=[
 yI 29 (.call (.v (.fn 9 [])) [(.v (.str [108,111,103]))]),
 yM 5 29]
def q25r7:yW:=[
 yM 30 5,
 yC 31 11 30,
 yC 32 10 31,
 yM 33 5,
 yC 34 11 33,
 yI 35 (.build [(.int .u8 0),(.int .u8 0),(.int .u8 0),(.int .u8 0),(.int .u8 0),(.int .u8 0),(.int .u8 0),(.int .u8 0),(.int .u8 0),(.int .u8 0),(.int .u8 0),(.int .u8 0),(.int .u8 0),(.int .u8 0),(.int .u8 0),(.int .u8 0),(.int .u8 0),(.int .u8 0),(.int .u8 0),(.int .u8 0),(.int .u8 0),(.int .u8 0),(.int .u8 0),(.int .u8 0),(.int .u8 0),(.int .u8 0),(.int .u8 0),(.int .u8 0),(.int .u8 0),(.int .u8 0),(.int .u8 0),(.int .u8 0),.nilsl] [(0,32,(.t 34))]),
 yI 36 (.box (.t 35)),
 yM 6 32,
 yM 7 36]
def q25r8:yW:=[
 yK 8 .i64 0]
def q25r9:yW:=[
 yM 37 8,
 yM 38 0,
 yI 39 (.lenSl (.t 38)),
 yB 40 .lss 37 39]
def q25c10:yX:=.cond (.t 40) .skip (.exit 0)
def q25c11:yX:=yq q25r9 q25c10
def q25r12:yW:=[
 yM 43 0,
 yM 44 8,
 yI 45 (.iaSl 4 (.t 43) (.t 44)),
 yL 46 true 4 45,
 yM 47 5,
 yD 48 12 46 47,
 yI 9 (.alloc [(.int .i64 0),(.int .u8 0),(.int .u8 0),(.int .u8 0),(.int .u8 0),(.int .u8 0),(.int .u8 0),(.int .u8 0),(.int .u8 0),(.int .u8 0),(.int .u8 0),(.int .u8 0),(.int .u8 0),(.int .u8 0),(.int .u8 0),(.int .u8 0),(.int .u8 0),(.int .u8 0),(.int .u8 0),(.int .u8 0),(.int .u8 0),(.int .u8 0),(.int .u8 0),(.int .u8 0),(.int .u8 0),(.int .u8 0),(.int .u8 0),(.int .u8 0),(.int .u8 0),(.int .u8 0),(.int .u8 0),(.int .u8 0),(.int .u8 0),(.int .i64 0),(.str []),.nilsl]),
 yS 36 9 48]
def q25r13:yW:=[
 yM 49 6,
 yC 50 13 49,
 yM 10 50]
def q25r14:yW:=[
 yM 51 6,
 ⟨some 52,none,.rd,.load true 36 (.t 9)⟩,
 ⟨some 53,none,.ef,.call (.v (.fn 14 [])) [(.t 51),(.t 52)]⟩,
 yM 54 7,
 ⟨some 55,none,.rd,.load true 36 (.t 9)⟩,
 yD 56 15 54 55,
 yB 57 .neq 53 56,
 yM 58 57,
 yV 59 58 false 6,
 yV 60 58 false 7,
 yG 61 58 false (.call (.v (.fn 16 [])) [(.t 59),(.t 60)]),
 yG 62 58 false (.un .not (.t 61)),
 yP 63 58 62]
def q25r15:yW:=[
 yI 4 (.mv (.v (.bool false)))]
def q25c16:yX:=yq q25r15 .ret
def q25c17:yX:=.cond (.t 63) q25c16 .skip
def q25c18:yX:=yq q25r14 q25c17
def q25r19:yW:=[
 yM 64 10,
 yI 65 (.build [(.int .u8 0),(.int .u8 0),(.int .u8 0),(.int .u8 0)] [(0,1,(.v (.int .u8 9))),(1,1,(.v (.int .u8 2))),(2,1,(.v (.int .u8 1))),(3,1,(.v (.int .u8 1)))]),
 yM 66 5,
 yD 67 12 65 66,
 yD 68 14 64 67]
def q25r20:yW:=[
 yM 69 6,
 ⟨some 70,none,.rd,.load true 36 (.t 3)⟩,
 ⟨some 71,none,.ef,.call (.v (.fn 14 [])) [(.t 69),(.t 70)]⟩,
 yM 72 7,
 ⟨some 73,none,.rd,.load true 36 (.t 3)⟩,
 yD 74 15 72 73,
 yB 75 .neq 71 74,
 yM 76 75,
 yV 77 76 false 6,
 yV 78 76 false 7,
 yG 79 76 false (.call (.v (.fn 16 [])) [(.t 77),(.t 78)]),
 yG 80 76 false (.un .not (.t 79)),
 yP 81 76 80,
 yM 82 81,
 yV 83 82 false 6,
 yV 84 82 false 6,
 yG 85 82 false (.call (.v (.fn 13 [])) [(.t 84)]),
 yG 86 82 false (.call (.v (.fn 17 [])) [(.t 83),(.t 85)]),
 yG 87 82 false (.un .not (.t 86)),
 yP 88 82 87]
def q25r21:yW:=[
 yI 4 (.mv (.v (.bool false)))]
def q25c22:yX:=yq q25r21 .ret
def q25c23:yX:=.cond (.t 88) q25c22 .skip
def q25c24:yX:=yq q25r20 q25c23
def q25c25:yX:=yq q25r19 q25c24
def q25c26:yX:=.seq q25c18 q25c25
def q25c27:yX:=yq q25r13 q25c26
def zb4:ACode:=.seq (.reg q25r12) q25c27
def q25r29:yW:=[
 yM 41 8,
 yJ 42 .add 41 .i64 1,
 yM 8 42]
def q25c30:yX:=.seq (.block 1 zb4) (.reg q25r29)
def q25c31:yX:=.seq q25c11 q25c30
def q25c32:yX:=.loop q25c31
def q25c33:yX:=.block 0 q25c32
def zdt:ACode:=.seq (.reg q25r8) q25c33
def q25r35:yW:=[
 yI 89 (.call (.v (.fn 8 [])) []),
 yM 4 89]
def q25c36:yX:=yq q25r35 .ret
def zb5:ACode:=.seq zdt q25c36
def q25c38:yX:=yq q25r7 zb5
def q25c39:yX:=yq q25r6 q25c38
def q25c40:yX:=.seq q25c5 q25c39
def q25c41:yX:=yq q25r0 q25c40
attribute [go_sem] q25r0 q25r1 q25r2 q25r6 q25r7 q25r8 q25r9 q25r12 q25r13 q25r14 q25r15 q25r19 q25r20 q25r21 q25r29 q25r35
theorem q25ok:cFn TC 3=some (90,[.t 4],q25c41):=by kernel_rfl
def q26r0:yW:=[
 yI 3 (.box (.t 1)),
 yK 4 .i64 0]
def q26r1:yW:=[
 yM 9 0,
 yI 10 (.nilc (.t 9)),
 yF 11 0 10,
 ⟨some 12,none,.rd,.load true 32 (.t 11)⟩,
 ⟨some 13,none,.rd,.load true 36 (.t 3)⟩,
 yD 14 53 12 13,
 yJ 15 .neq 14 .i64 0]
def q26r2:yW:=[
 yK 4 .i64 0]
def q26c3:yX:=yq q26r2 .ret
def q26c4:yX:=.cond (.t 15) q26c3 .skip
def q26c5:yX:=yq q26r1 q26c4
def q26r6:yW:=[
 yM 16 0,
 yF 17 0 3,
 yL 18 true 33 17,
 yD 19 54 16 18]
def q26r7:yW:=[
 yK 4 .i64 1]
def q26c8:yX:=yq q26r7 .ret
def q26c9:yX:=.cond (.t 19) q26c8 .skip
def q26c10:yX:=yq q26r6 q26c9
def q26r11:yW:=[
 yM 20 0,
 yI 21 (.nilc (.t 20)),
 yF 22 32 21,
 yL 23 false 1 22,
 yI 24 (.lenSl (.t 23)),
 yJ 25 .gtr 24 .i64 15]
def q26r12:yW:=[
 yK 4 .i64 4]
def q26c13:yX:=yq q26r12 .ret
def q26c14:yX:=.cond (.t 25) q26c13 .skip
def q26c15:yX:=yq q26r11 q26c14
def q26r16:yW:=[
 yK 5 .i64 2]
def q26r17:yW:=[
 yI 6 (.mv (.v .nilsl))]
def q26r18:yW:=[
 yI 7 (.mv (.v (.bool false)))]
def q26r19:yW:=[
 yK 8 .i64 0]
def q26r20:yW:=[
 yM 26 8,
 yM 27 0,
 yI 28 (.nilc (.t 27)),
 yF 29 32 28,
 yL 30 false 1 29,
 yI 31 (.lenSl (.t 30)),
 yB 32 .lss 26 31]
def q26c21:yX:=.cond (.t 32) .skip (.exit 0)
def q26c22:yX:=yq q26r20 q26c21
def q26r23:yW:=[
 yM 35 0,
 yI 36 (.nilc (.t 35)),
 yF 37 32 36,
 ⟨some 38,none,.rd,.load false 1 (.t 37)⟩,
 yM 39 8,
 yI 40 (.iaSl 36 (.t 38) (.t 39)),
 yF 41 0 40,
 yF 42 0 41,
 ⟨some 43,none,.rd,.load false 1 (.t 42)⟩,
 yF 44 0 3,
 yF 45 0 44,
 ⟨some 46,none,.rd,.load false 1 (.t 45)⟩,
 yB 47 .eql 43 46]
def q26r24:yW:=[
 yK 5 .i64 3]
def q26c25:yX:=.cond (.t 47) (.reg q26r24) .skip
def q26c26:yX:=yq q26r23 q26c25
def q26r27:yW:=[
 yM 48 7,
 yI 49 (.un .not (.t 48)),
 yM 50 49,
 yT 51 50 true 0 3,
 ⟨some 52,some (50,true),.rd,.load true 33 (.t 51)⟩,
 yV 53 50 true 0,
 yG 54 50 true (.nilc (.t 53)),
 yT 55 50 true 32 54,
 ⟨some 56,some (50,true),.rd,.load false 1 (.t 55)⟩,
 yV 57 50 true 8,
 yG 58 50 true (.iaSl 36 (.t 56) (.t 57)),
 yT 59 50 true 0 58,
 ⟨some 60,some (50,true),.rd,.load true 33 (.t 59)⟩,
 yG 61 50 true (.call (.v (.fn 55 [])) [(.t 52),(.t 60)]),
 yQ 62 50 61]
def q26r28:yW:=[
 yM 63 6,
 yL 64 true 36 3,
 yI 65 (.lit 36 [(.t 64)]),
 yI 66 (.app 36 (.t 63) (.t 65)),
 yM 6 66,
 yI 7 (.mv (.v (.bool true)))]
def q26c29:yX:=.cond (.t 62) (.reg q26r28) .skip
def q26c30:yX:=yq q26r27 q26c29
def q26r31:yW:=[
 yM 67 6,
 yM 68 0,
 yI 69 (.nilc (.t 68)),
 yF 70 32 69,
 yL 71 false 1 70,
 yM 72 8,
 yI 73 (.iaSl 36 (.t 71) (.t 72)),
 yL 74 true 36 73,
 yI 75 (.lit 36 [(.t 74)]),
 yI 76 (.app 36 (.t 67) (.t 75)),
 yM 6 76]
def q26c32:yX:=.seq q26c30 (.reg q26r31)
def q26c33:yX:=.seq q26c26 q26c32
def q26r34:yW:=[
 yM 33 8,
 yJ 34 .add 33 .i64 1,
 yM 8 34]
def q26c35:yX:=.seq (.block 1 q26c33) (.reg q26r34)
def q26c36:yX:=.seq q26c22 q26c35
def q26c37:yX:=.loop q26c36
def q26c38:yX:=.block 0 q26c37
def q26c39:yX:=yq q26r19 q26c38
def q26r40:yW:=[
 yM 77 7,
 yI 78 (.un .not (.t 77))]
def q26r41:yW:=[
 yM 79 6,
 yL 80 true 36 3,
 yI 81 (.lit 36 [(.t 80)]),
 yI 82 (.app 36 (.t 79) (.t 81)),
 yM 6 82]
def q26c42:yX:=.cond (.t 78) (.reg q26r41) .skip
def q26c43:yX:=yq q26r40 q26c42
def q26r44:yW:=[
 yM 83 0,
 yM 84 6,
 yI 85 (.nilc (.t 83)),
 yF 86 32 85,
 yS 1 86 84]
def q26r45:yW:=[
 yM 87 5,
 yM 4 87]
def q26c46:yX:=yq q26r45 .ret
def q26c47:yX:=yq q26r44 q26c46
def zb6:ACode:=.seq q26c43 q26c47
def q26c49:yX:=.seq q26c39 zb6
def q26c50:yX:=yq q26r18 q26c49
def q26c51:yX:=yq q26r17 q26c50
def q26c52:yX:=yq q26r16 q26c51
def q26c53:yX:=.seq q26c15 q26c52
def q26c54:yX:=.seq q26c10 q26c53
def q26c55:yX:=.seq q26c5 q26c54
def q26c56:yX:=yq q26r0 q26c55
attribute [go_sem] q26r0 q26r1 q26r2 q26r6 q26r7 q26r11 q26r12 q26r16 q26r17 q26r18 q26r19 q26r20 q26r23 q26r24 q26r27 q26r28 q26r31 q26r34 q26r40 q26r41 q26r44 q26r45
theorem q26ok:cFn TC 15=some (88,[.t 4],q26c56):=by kernel_rfl
def q27r0:yW:=[
 yI 4 (.mv (.v (.bool false)))]
def q27r1:yW:=[
 yM 11 1,
 yC 12 56 11,
 yM 5 12]
def q27r2:yW:=[
 yM 14 0,
 yC 15 31 14,
 yM 13 15,
 yE 16 0 13,
 yE 17 1 13,
 yE 18 2 13,
 yI 6 (.alloc [(.int .i64 0),(.int .u8 0),(.int .u8 0),(.int .u8 0),(.int .u8 0),(.int .u8 0),(.int .u8 0),(.int .u8 0),(.int .u8 0),(.int .u8 0),(.int .u8 0),(.int .u8 0),(.int .u8 0),(.int .u8 0),(.int .u8 0),(.int .u8 0),(.int .u8 0),(.int .u8 0),(.int .u8 0),(.int .u8 0),(.int .u8 0),(.int .u8 0),(.int .u8 0),(.int .u8 0),(.int .u8 0),(.int .u8 0),(.int .u8 0),(.int .u8 0),(.int .u8 0),(.int .u8 0),(.int .u8 0),(.int .u8 0),(.int .u8 0),(.int .i64 0),(.str []),.nilsl]),
 yI 7 (.alloc [(.int .i64 0),(.int .u8 0),(.int .u8 0),(.int .u8 0),(.int .u8 0),(.int .u8 0),(.int .u8 0),(.int .u8 0),(.int .u8 0),(.int .u8 0),(.int .u8 0),(.int .u8 0),(.int .u8 0),(.int .u8 0),(.int .u8 0),(.int .u8 0),(.int .u8 0),(.int .u8 0),(.int .u8 0),(.int .u8 0),(.int .u8 0),(.int .u8 0),(.int .u8 0),(.int .u8 0),(.int .u8 0),(.int .u8 0),(.int .u8 0),(.int .u8 0),(.int .u8 0),(.int .u8 0),(.int .u8 0),(.int .u8 0),(.int .u8 0),(.int .i64 0),(.str []),.nilsl]),
 yS 36 6 16,
 yS 36 7 17,
 yM 8 18]
def q27r3:yW:=[
 yM 19 0,
 ⟨some 20,none,.ef,.call (.v (.fn 46 [])) [(.t 19)]⟩,
 yM 21 1,
 yI 22 (.nilc (.t 21)),
 yF 23 32 22,
 ⟨some 24,none,.rd,.load false 1 (.t 23)⟩,
 yD 25 57 20 24,
 yI 26 (.un .not (.t 25)),
 yM 27 26,
 yV 28 27 false 0,
 yG 29 27 false (.call (.v (.fn 29 [])) [(.t 28)]),
 yV 30 27 false 1,
 yG 31 27 false (.call (.v (.fn 59 [])) [(.t 30)]),
 yG 32 27 false (.call (.v (.fn 58 [])) [(.t 29),(.t 31)]),
 yG 33 27 false (.un .not (.t 32)),
 yP 34 27 33,
 yM 35 34,
 yV 36 35 false 8,
 yV 37 35 false 5,
 yG 38 35 false (.bin .geq .none (.t 37) (.v (.int .i64 0))),
 yG 39 35 false (.bin .neq .bool (.t 36) (.t 38)),
 yP 40 35 39]
def q27r4:yW:=[
 yI 4 (.mv (.v (.bool false)))]
def q27c5:yX:=yq q27r4 .ret
def q27c6:yX:=.cond (.t 40) q27c5 .skip
def q27c7:yX:=yq q27r3 q27c6
def q27r8:yW:=[
 yM 41 8,
 yM 42 41,
 ⟨some 43,some (42,true),.rd,.load true 36 (.t 6)⟩,
 yV 44 42 true 1,
 yG 45 42 true (.nilc (.t 44)),
 yT 46 42 true 32 45,
 ⟨some 47,some (42,true),.rd,.load false 1 (.t 46)⟩,
 yV 48 42 true 5,
 yG 49 42 true (.iaSl 36 (.t 47) (.t 48)),
 ⟨some 50,some (42,true),.rd,.load true 36 (.t 49)⟩,
 yG 51 42 true (.call (.v (.fn 60 [])) [(.t 43),(.t 50)]),
 yG 52 42 true (.un .not (.t 51)),
 yV 53 42 true 52,
 ⟨some 54,some (53,false),.rd,.load true 36 (.t 7)⟩,
 yV 55 53 false 1,
 yG 56 53 false (.nilc (.t 55)),
 yT 57 53 false 32 56,
 ⟨some 58,some (53,false),.rd,.load false 1 (.t 57)⟩,
 yV 59 53 false 5,
 yG 60 53 false (.bin .add .none (.t 59) (.v (.int .i64 1))),
 yG 61 53 false (.iaSl 36 (.t 58) (.t 60)),
 ⟨some 62,some (53,false),.rd,.load true 36 (.t 61)⟩,
 yG 63 53 false (.call (.v (.fn 60 [])) [(.t 54),(.t 62)]),
 yG 64 53 false (.un .not (.t 63)),
 yG 65 42 true (.pick (.t 53) (.v (.bool true)) (.t 64)),
 yQ 66 42 65]
def q27r9:yW:=[
 yI 4 (.mv (.v (.bool false)))]
def q27c10:yX:=yq q27r9 .ret
def q27c11:yX:=.cond (.t 66) q27c10 .skip
def q27c12:yX:=yq q27r8 q27c11
def q27r13:yW:=[
 yK 9 .i64 0]
def q27r14:yW:=[
 yM 67 9,
 yJ 68 .lss 67 .i64 8]
def q27c15:yX:=.cond (.t 68) .skip (.exit 0)
def q27c16:yX:=yq q27r14 q27c15
def q27r17:yW:=[
 yM 71 9,
 yM 72 9,
 yI 73 (.conv (.int .u8) (.t 72)),
 yJ 74 .rem 73 .u8 3,
 yI 75 (.build zZ0 [(0,1,(.t 74)),(1,1,(.v (.int .u8 7)))]),
 yI 76 (.build ((.int .i64 0)::zZ0) [(0,1,(.t 71)),(1,32,(.t 75))]),
 yI 10 (.alloc ((.int .i64 0)::zZ0)),
 yS 33 10 76]
def q27r18:yW:=[
 yM 77 0,
 ⟨some 78,none,.rd,.load true 33 (.t 10)⟩,
 ⟨some 79,none,.ef,.call (.v (.fn 30 [])) [(.t 77),(.t 78)]⟩,
 yM 80 1,
 ⟨some 81,none,.rd,.load true 33 (.t 10)⟩,
 yD 82 54 80 81,
 yI 83 (.bin .neq .bool (.t 79) (.t 82))]
def q27r19:yW:=[
 yI 4 (.mv (.v (.bool false)))]
def q27c20:yX:=yq q27r19 .ret
def q27c21:yX:=.cond (.t 83) q27c20 .skip
def q27c22:yX:=yq q27r18 q27c21
def q27c23:yX:=yq q27r17 q27c22
def q27r24:yW:=[
 yM 69 9,
 yJ 70 .add 69 .i64 1,
 yM 9 70]
def q27c25:yX:=.seq (.block 1 q27c23) (.reg q27r24)
def q27c26:yX:=.seq q27c16 q27c25
def q27c27:yX:=.loop q27c26
def q27c28:yX:=.block 0 q27c27
def q27c29:yX:=yq q27r13 q27c28
def q27r30:yW:=[
 yI 4 (.mv (.v (.bool true)))]
def q27c31:yX:=yq q27r30 .ret
def zb7:ACode:=.seq q27c29 q27c31
def q27c33:yX:=.seq q27c12 zb7
def q27c34:yX:=.seq q27c7 q27c33
def q27c35:yX:=yq q27r2 q27c34
def q27c36:yX:=yq q27r1 q27c35
def q27c37:yX:=yq q27r0 q27c36
attribute [go_sem] q27r0 q27r1 q27r2 q27r3 q27r4 q27r8 q27r9 q27r13 q27r14 q27r17 q27r18 q27r19 q27r24 q27r30
theorem q27ok:cFn TC 16=some (84,[.t 4],q27c37):=by kernel_rfl
def q28r0:yW:=[
 yI 3 (.box (.t 1)),
 yI 4 (.mv (.v (.bool false)))]
def q28r1:yW:=[
 yK 5 .i64 0]
def q28r2:yW:=[
 yM 6 5,
 yM 7 0,
 yI 8 (.nilc (.t 7)),
 yF 9 32 8,
 yL 10 false 1 9,
 yI 11 (.lenSl (.t 10)),
 yB 12 .lss 6 11]
def q28c3:yX:=.cond (.t 12) .skip (.exit 0)
def q28c4:yX:=yq q28r2 q28c3
def q28r5:yW:=[
 yM 15 0,
 yI 16 (.nilc (.t 15)),
 yF 17 32 16,
 ⟨some 18,none,.rd,.load false 1 (.t 17)⟩,
 yM 19 5,
 yI 20 (.iaSl 36 (.t 18) (.t 19)),
 yF 21 0 20,
 ⟨some 22,none,.rd,.load true 33 (.t 21)⟩,
 ⟨some 23,none,.rd,.load true 33 (.t 3)⟩,
 yI 24 (.bin .eql (.agg ([(.i .i64)]++(List.replicate 32 (.i .u8)++ []))) (.t 22) (.t 23))]
def q28r6:yW:=[
 yI 4 (.mv (.v (.bool true)))]
def q28c7:yX:=yq q28r6 .ret
def q28c8:yX:=.cond (.t 24) q28c7 .skip
def q28c9:yX:=yq q28r5 q28c8
def q28r10:yW:=[
 yM 13 5,
 yJ 14 .add 13 .i64 1,
 yM 5 14]
def q28c11:yX:=.seq (.block 1 q28c9) (.reg q28r10)
def q28c12:yX:=.seq q28c4 q28c11
def q28c13:yX:=.loop q28c12
def q28c14:yX:=.block 0 q28c13
def q28c15:yX:=yq q28r1 q28c14
def q28r16:yW:=[
 yI 4 (.mv (.v (.bool false)))]
def q28c17:yX:=yq q28r16 .ret
def q28c18:yX:=.seq q28c15 q28c17
def q28c19:yX:=yq q28r0 q28c18
attribute [go_sem] q28r0 q28r1 q28r2 q28r5 q28r6 q28r10 q28r16
theorem q28ok:cFn TC 54=some (25,[.t 4],q28c19):=by kernel_rfl
def q29r0:yW:=[
 yI 2 (.box (.t 0)),
 yI 3 (.box (.t 1)),
 yI 4 (.mv (.v (.bool false)))]
def q29r1:yW:=[
 yF 6 0 2,
 yL 7 false 1 6,
 yF 8 0 3,
 yL 9 false 1 8,
 yB 10 .neq 7 9]
def q29r2:yW:=[
 yF 11 0 2,
 yL 12 false 1 11,
 yF 13 0 3,
 yL 14 false 1 13,
 yB 15 .lss 12 14,
 yM 4 15]
def q29c3:yX:=yq q29r2 .ret
def q29c4:yX:=.cond (.t 10) q29c3 .skip
def q29c5:yX:=yq q29r1 q29c4
def q29r6:yW:=[
 yK 5 .i64 0]
def q29r7:yW:=[
 yM 16 5,
 yJ 17 .lss 16 .i64 32]
def q29c8:yX:=.cond (.t 17) .skip (.exit 0)
def q29c9:yX:=yq q29r7 q29c8
def q29r10:yW:=[
 yM 20 5,
 yF 21 1 2,
 yI 22 (.iaArr 32 1 (.t 21) (.t 20)),
 ⟨some 23,none,.rd,.load false 1 (.t 22)⟩,
 yM 24 5,
 yF 25 1 3,
 yI 26 (.iaArr 32 1 (.t 25) (.t 24)),
 ⟨some 27,none,.rd,.load false 1 (.t 26)⟩,
 yB 28 .neq 23 27]
def q29r11:yW:=[
 yM 29 5,
 yF 30 1 2,
 yI 31 (.iaArr 32 1 (.t 30) (.t 29)),
 ⟨some 32,none,.rd,.load false 1 (.t 31)⟩,
 yM 33 5,
 yF 34 1 3,
 yI 35 (.iaArr 32 1 (.t 34) (.t 33)),
 ⟨some 36,none,.rd,.load false 1 (.t 35)⟩,
 yB 37 .lss 32 36,
 yM 4 37]
def q29c12:yX:=yq q29r11 .ret
def q29c13:yX:=.cond (.t 28) q29c12 .skip
def q29c14:yX:=yq q29r10 q29c13
def q29r15:yW:=[
 yM 18 5,
 yJ 19 .add 18 .i64 1,
 yM 5 19]
def q29c16:yX:=.seq (.block 1 q29c14) (.reg q29r15)
def q29c17:yX:=.seq q29c9 q29c16
def q29c18:yX:=.loop q29c17
def q29c19:yX:=.block 0 q29c18
def q29c20:yX:=yq q29r6 q29c19
def q29r21:yW:=[
 yI 4 (.mv (.v (.bool false)))]
def q29c22:yX:=yq q29r21 .ret
def q29c23:yX:=.seq q29c20 q29c22
def q29c24:yX:=.seq q29c5 q29c23
def q29c25:yX:=yq q29r0 q29c24
attribute [go_sem] q29r0 q29r1 q29r2 q29r6 q29r7 q29r10 q29r11 q29r15 q29r21
theorem q29ok:cFn TC 55=some (38,[.t 4],q29c25):=by kernel_rfl
def q2ar0:yW:=[
 yK 2 .i64 0]
def q2ar1:yW:=[
 yK 3 .i64 0]
def q2ar2:yW:=[
 yM 4 3,
 yJ 5 .add 4 .i64 1,
 yM 6 0,
 yI 7 (.nilc (.t 6)),
 yF 8 32 7,
 yL 9 false 1 8,
 yI 10 (.lenSl (.t 9)),
 yB 11 .lss 5 10]
def q2ac3:yX:=.cond (.t 11) .skip (.exit 0)
def q2ac4:yX:=yq q2ar2 q2ac3
def q2ar5:yW:=[
 yM 14 0,
 yI 15 (.nilc (.t 14)),
 yF 16 32 15,
 ⟨some 17,none,.rd,.load false 1 (.t 16)⟩,
 yM 18 3,
 yI 19 (.iaSl 36 (.t 17) (.t 18)),
 yF 20 0 19,
 yF 21 0 20,
 ⟨some 22,none,.rd,.load false 1 (.t 21)⟩,
 yM 23 0,
 yI 24 (.nilc (.t 23)),
 yF 25 32 24,
 ⟨some 26,none,.rd,.load false 1 (.t 25)⟩,
 yM 27 3,
 yJ 28 .add 27 .i64 1,
 yI 29 (.iaSl 36 (.t 26) (.t 28)),
 yF 30 0 29,
 yF 31 0 30,
 ⟨some 32,none,.rd,.load false 1 (.t 31)⟩,
 yB 33 .eql 22 32]
def q2ar6:yW:=[
 yM 34 3,
 yM 2 34]
def q2ac7:yX:=yq q2ar6 .ret
def q2ac8:yX:=.cond (.t 33) q2ac7 .skip
def q2ac9:yX:=yq q2ar5 q2ac8
def q2ar10:yW:=[
 yM 12 3,
 yJ 13 .add 12 .i64 1,
 yM 3 13]
def q2ac11:yX:=.seq (.block 1 q2ac9) (.reg q2ar10)
def q2ac12:yX:=.seq q2ac4 q2ac11
def q2ac13:yX:=.loop q2ac12
def q2ac14:yX:=.block 0 q2ac13
def q2ac15:yX:=yq q2ar1 q2ac14
def q2ar16:yW:=[
 yI 2 (.mv (.v (.int .i64 (-1))))]
def q2ac17:yX:=yq q2ar16 .ret
def q2ac18:yX:=.seq q2ac15 q2ac17
def q2ac19:yX:=yq q2ar0 q2ac18
attribute [go_sem] q2ar0 q2ar1 q2ar2 q2ar5 q2ar6 q2ar10 q2ar16
theorem q2aok:cFn TC 56=some (35,[.t 2],q2ac19):=by kernel_rfl
def q2br0:yW:=[
 yI 4 (.mv (.v (.bool false)))]
def q2br1:yW:=[
 yM 6 0,
 yI 7 (.lenSl (.t 6)),
 yM 8 1,
 yI 9 (.lenSl (.t 8)),
 yB 10 .neq 7 9]
def q2br2:yW:=[
 yI 4 (.mv (.v (.bool false)))]
def q2bc3:yX:=yq q2br2 .ret
def q2bc4:yX:=.cond (.t 10) q2bc3 .skip
def q2bc5:yX:=yq q2br1 q2bc4
def q2br6:yW:=[
 yK 5 .i64 0]
def q2br7:yW:=[
 yM 11 5,
 yM 12 0,
 yI 13 (.lenSl (.t 12)),
 yB 14 .lss 11 13]
def q2bc8:yX:=.cond (.t 14) .skip (.exit 0)
def q2bc9:yX:=yq q2br7 q2bc8
def q2br10:yW:=[
 yM 17 0,
 yM 18 5,
 yI 19 (.iaSl 36 (.t 17) (.t 18)),
 ⟨some 20,none,.rd,.load true 36 (.t 19)⟩,
 yM 21 1,
 yM 22 5,
 yI 23 (.iaSl 36 (.t 21) (.t 22)),
 ⟨some 24,none,.rd,.load true 36 (.t 23)⟩,
 yD 25 60 20 24,
 yI 26 (.un .not (.t 25))]
def q2br11:yW:=[
 yI 4 (.mv (.v (.bool false)))]
def q2bc12:yX:=yq q2br11 .ret
def q2bc13:yX:=.cond (.t 26) q2bc12 .skip
def q2bc14:yX:=yq q2br10 q2bc13
def q2br15:yW:=[
 yM 15 5,
 yJ 16 .add 15 .i64 1,
 yM 5 16]
def q2bc16:yX:=.seq (.block 1 q2bc14) (.reg q2br15)
def q2bc17:yX:=.seq q2bc9 q2bc16
def q2bc18:yX:=.loop q2bc17
def q2bc19:yX:=.block 0 q2bc18
def q2bc20:yX:=yq q2br6 q2bc19
def q2br21:yW:=[
 yI 4 (.mv (.v (.bool true)))]
def q2bc22:yX:=yq q2br21 .ret
def q2bc23:yX:=.seq q2bc20 q2bc22
def q2bc24:yX:=.seq q2bc5 q2bc23
def q2bc25:yX:=yq q2br0 q2bc24
attribute [go_sem] q2br0 q2br1 q2br2 q2br6 q2br7 q2br10 q2br11 q2br15 q2br21
theorem q2bok:cFn TC 57=some (27,[.t 4],q2bc25):=by kernel_rfl
def q2cr0:yW:=[
 yI 4 (.mv (.v (.bool false)))]
def q2cr1:yW:=[
 yM 6 0,
 yI 7 (.lenSl (.t 6)),
 yM 8 1,
 yI 9 (.lenSl (.t 8)),
 yB 10 .neq 7 9]
def q2cr2:yW:=[
 yI 4 (.mv (.v (.bool false)))]
def q2cc3:yX:=yq q2cr2 .ret
def q2cc4:yX:=.cond (.t 10) q2cc3 .skip
def q2cc5:yX:=yq q2cr1 q2cc4
def q2cr6:yW:=[
 yK 5 .i64 0]
def q2cr7:yW:=[
 yM 11 5,
 yM 12 0,
 yI 13 (.lenSl (.t 12)),
 yB 14 .lss 11 13]
def q2cc8:yX:=.cond (.t 14) .skip (.exit 0)
def q2cc9:yX:=yq q2cr7 q2cc8
def q2cr10:yW:=[
 yM 17 0,
 yM 18 5,
 yI 19 (.iaSl 33 (.t 17) (.t 18)),
 ⟨some 20,none,.rd,.load true 33 (.t 19)⟩,
 yM 21 1,
 yM 22 5,
 yI 23 (.iaSl 33 (.t 21) (.t 22)),
 ⟨some 24,none,.rd,.load true 33 (.t 23)⟩,
 yI 25 (.bin .neq (.agg ([(.i .i64)]++(List.replicate 32 (.i .u8)++ []))) (.t 20) (.t 24))]
def q2cr11:yW:=[
 yI 4 (.mv (.v (.bool false)))]
def q2cc12:yX:=yq q2cr11 .ret
def q2cc13:yX:=.cond (.t 25) q2cc12 .skip
def q2cc14:yX:=yq q2cr10 q2cc13
def q2cr15:yW:=[
 yM 15 5,
 yJ 16 .add 15 .i64 1,
 yM 5 16]
def q2cc16:yX:=.seq (.block 1 q2cc14) (.reg q2cr15)
def q2cc17:yX:=.seq q2cc9 q2cc16
def q2cc18:yX:=.loop q2cc17
def q2cc19:yX:=.block 0 q2cc18
def q2cc20:yX:=yq q2cr6 q2cc19
def q2cr21:yW:=[
 yI 4 (.mv (.v (.bool true)))]
def q2cc22:yX:=yq q2cr21 .ret
def q2cc23:yX:=.seq q2cc20 q2cc22
def q2cc24:yX:=.seq q2cc5 q2cc23
def q2cc25:yX:=yq q2cr0 q2cc24
attribute [go_sem] q2cr0 q2cr1 q2cr2 q2cr6 q2cr7 q2cr10 q2cr11 q2cr15 q2cr21
theorem q2cok:cFn TC 58=some (26,[.t 4],q2cc25):=by kernel_rfl
def q2dr0:yW:=[
 yI 2 (.mv (.v .nilsl))]
def q2dr1:yW:=[
 yI 3 (.mv (.v .nilsl))]
def q2dr2:yW:=[
 yK 4 .i64 0]
def q2dr3:yW:=[
 yM 5 4,
 yM 6 0,
 yI 7 (.nilc (.t 6)),
 yF 8 32 7,
 yL 9 false 1 8,
 yI 10 (.lenSl (.t 9)),
 yB 11 .lss 5 10]
def q2dc4:yX:=.cond (.t 11) .skip (.exit 0)
def q2dc5:yX:=yq q2dr3 q2dc4
def q2dr6:yW:=[
 yM 14 3,
 yM 15 0,
 yI 16 (.nilc (.t 15)),
 yF 17 32 16,
 yL 18 false 1 17,
 yM 19 4,
 yI 20 (.iaSl 36 (.t 18) (.t 19)),
 yF 21 0 20,
 yL 22 true 33 21,
 yI 23 (.lit 33 [(.t 22)]),
 yI 24 (.app 33 (.t 14) (.t 23)),
 yM 3 24]
def q2dr7:yW:=[
 yM 12 4,
 yJ 13 .add 12 .i64 1,
 yM 4 13]
def q2dc8:yX:=.seq (.block 1 (.reg q2dr6)) (.reg q2dr7)
def q2dc9:yX:=.seq q2dc5 q2dc8
def q2dc10:yX:=.loop q2dc9
def q2dc11:yX:=.block 0 q2dc10
def q2dc12:yX:=yq q2dr2 q2dc11
def q2dr13:yW:=[
 yM 25 3,
 yM 2 25]
def q2dc14:yX:=yq q2dr13 .ret
def q2dc15:yX:=.seq q2dc12 q2dc14
def q2dc16:yX:=yq q2dr1 q2dc15
def q2dc17:yX:=yq q2dr0 q2dc16
attribute [go_sem] q2dr0 q2dr1 q2dr2 q2dr3 q2dr6 q2dr7 q2dr13
theorem q2dok:cFn TC 59=some (26,[.t 2],q2dc17):=by kernel_rfl
end
section
theorem zgh:∀(i:Nat) (a b:List UInt8),a.take i=b.take i->Lib.compareBytes a b=Lib.compareBytes (a.drop i) (b.drop i)
 | 0,a,b,_=>rfl
 |i+1,[],[],_=>rfl
 |i+1,[],b::ys,h=>by simp at h
 |i+1,a::xs,[],h=>by simp at h
 |i+1,a::xs,b::ys,h=>by
  simp only [List.take_succ_cons,List.cons.injEq]at h
  obtain⟨rfl,h⟩:=h
  have:=zgh i xs ys h
  rw [List.drop_succ_cons,List.drop_succ_cons,<-this]
  show Lib.compareBytes (a::xs) (a::ys)=_
  rw [z78,if_neg (z3h a),if_neg (z3h a)]
theorem hcb31{h:Hash}{j:Nat}(hj:j<32):(hc h)[j]? =some (.int .u8 ((h.1.getD j 0).toNat:Int)):=zfv (by rw [h.2];exact hj)
theorem hnb31{n:Int}{h:Hash}{j:Nat}(hj:j<32):(AV.int .i64 n::hc h)[1+j]? =some (.int .u8 ((h.1.getD j 0).toNat:Int)):=by
 rw [Nat.add_comm,List.getElem?_cons_succ];exact hcb31 hj
theorem take31{a b:List UInt8}{i:Nat}(ha:i<a.length)(hb:i<b.length)(h:a.take i=b.take i)(he:a.getD i 0=b.getD i 0):a.take (i+1)=b.take (i+1):=by
 rw [List.take_succ_eq_append_getElem ha,List.take_succ_eq_append_getElem hb,h]
 simp only [List.getD_eq_getElem?_getD,List.getElem?_eq_getElem ha,List.getElem?_eq_getElem hb,Option.getD_some]at he
 rw [he]
theorem cb31{a b:List UInt8}{i:Nat}(ha:i<a.length)(hb:i<b.length)(h:a.take i=b.take i)(he:a.getD i 0 ≠ b.getD i 0):Lib.compareBytes a b<0 ↔ (a.getD i 0).toNat<(b.getD i 0).toNat:=by
 rw [zgh i a b h,List.drop_eq_getElem_cons ha,List.drop_eq_getElem_cons hb,z78]
 simp only [List.getD_eq_getElem?_getD,List.getElem?_eq_getElem ha,List.getElem?_eq_getElem hb,Option.getD_some]at he ⊢
 rcases z7y a[i] b[i]with h1|h1|h1
 ·rw [if_pos h1]
  exact⟨fun _=>h1,fun _=>by omega⟩
 ·rw [if_neg (z66 h1),if_pos h1]
  exact⟨fun h=>by omega,fun h=>absurd h (z66 h1)⟩
 ·exact absurd h1 he
def zaq(n m:Int)(a b:Hash):Bool:=decide (poI n a m b<0)
def reC(key:Hash)(v:AV):List AV:=hc key++ [v]
theorem zm(key:Hash)(v:AV):(reC key v).length=33:=by simp [reC,z6]
theorem z7p(key:Hash)(v:AV):(reC key v)[32]? =some v:=by
 show (hc key++ [v])[32]? =some v
 rw [List.getElem?_append_right (by rw [z6];omega),z6];rfl
theorem zdw(key:Hash)(v:AV):(reC key v).take 32=hc key:=List.take_left' (z6 key)
theorem zsa(key:Hash)(v x:AV):(reC key v).take 32++x::(reC key v).drop 33=reC key x:=by
 have h2:(reC key v).drop 33=[]:=List.drop_of_length_le (by rw [zm];omega)
 rw [zdw,h2];rfl
def PoR(O:Store)(p:Nat)(key:Hash)(P:List Hdr)(own:List Nat):Prop:=
 ∃v sid,own=p::Option.toList sid/\ O[p]? =some (some [reC key v])/\ RowAt 36 O sid v (hdrs P)/\ sid ≠ some p
theorem PoR.lt{O:Store}{p:Nat}{key:Hash}{P:List Hdr}{own:List Nat}(h:PoR O p key P own){j:Nat}(hj:j ∈ own):j<O.length:=by
 obtain⟨v,sid,rfl,hp,hr,_⟩:=h
 simp only [List.mem_cons,Option.mem_toList]at hj
 rcases hj with rfl|h
 ·exact slen hp
 ·exact hr.lt h
theorem PoR.keep{O O':Store}{p:Nat}{key:Hash}{P:List Hdr}{own:List Nat}(h:PoR O p key P own)(hk:∀j,j ∈ own->O'[j]? =O[j]?):PoR O' p key P own:=by
 obtain⟨v,sid,rfl,hp,hr,hn⟩:=h
 exact⟨v,sid,rfl,by rw [hk p (by simp)];exact hp,hr.keep fun q e=>hk q (by simp [e]),hn⟩
theorem PoR.ext{O O':Store}{p:Nat}{key:Hash}{P:List Hdr}{own:List Nat}(h:PoR O p key P own)(he:Ext O O'):PoR O' p key P own:=by
 obtain⟨y,rfl⟩:=he
 exact h.keep fun j hj=>gapp (h.lt hj)
theorem isP_ex{P:List Hdr}(hP:PSort P)(m:Int)(k:Hash):isP P m k=decide (∃q ∈ P,q.n=m/\ q.r=k):=by
 cases h:isP P m k with
 |true=>exact(decide_eq_true ((zal hP m k).1 h)).symm
 |false=>exact(decide_eq_false fun e=>by rw [(zal hP m k).2 e]at h;cases h).symm
attribute [local irreducible] ACallsTo ACallsP
theorem zps(O:Store)(n m:Int)(a b:Hash):ACallsTo TC 55 [.agg (.int .i64 n::hc a),.agg (.int .i64 m::hc b)] O (.bool (zaq n m a b)) O:=by
 have la:=z6 a
 have lb:=z6 b
 unfold zaq
 refine ACallsTo.of_body q29ok (by simp) fun hw _=> ?_
 by_cases hn:n=m
 ·subst hn
  have hpo:decide (poI n a n b<0)=decide (Lib.compareBytes a.1 b.1<0):=by rw [z7m]
  rw [hpo]
  repeat' (first|apply zs_|apply zb_|apply zc_|apply zt_ rfl|apply zf_ rfl|(apply zd_ rfl<;>intro ht<;>try omega)|((first|apply zr_|apply zk_|apply ze_|apply zq_|(apply zG<;>intro ht));all_goals try simp (disch:=first|omega|(simp only [lens,z6,z8,zg,z7,zi,zj,zm,lQt,lQd,List.length_replicate];first|done|omega)) only [go_sem,la,lb]))
  refine zW.loop (fun t J O'=>∃i:Nat,t+i=32/\ O'=O++ [some [.int .i64 n::hc a],some [.int .i64 n::hc b]]/\ a.1.take i=b.1.take i/\ J 2=.ptr O.length 0 0/\ J 3=.ptr (O.length+1) 0 0/\ J 5=.int .i64 i) 32 ?_ ?_
  ·exact⟨0,by omega,rfl,rfl,by simp (disch:=first|omega|(simp only [lens,z6,z8,zg,z7,zi,zj,zm,lQt,lQd,List.length_replicate];first|done|omega)) only [go_sem],by simp (disch:=first|omega|(simp only [lens,z6,z8,zg,z7,zi,zj,zm,lQt,lQd,List.length_replicate];first|done|omega)) only [go_sem],by simp (disch:=first|omega|(simp only [lens,z6,z8,zg,z7,zi,zj,zm,lQt,lQd,List.length_replicate];first|done|omega)) only [go_sem];try rfl⟩
  ·rintro t J O' ⟨i,ht,rfl,hE,q2,q3,q5⟩
   by_cases hi:i<32
   ·have ga:=hnb31 (n:=n) (h:=a) hi
    have gb:=hnb31 (n:=n) (h:=b) hi
    have ha:i<a.1.length:=by rw [a.2];exact hi
    have hb:i<b.1.length:=by rw [b.2];exact hi
    by_cases he:a.1.getD i 0=b.1.getD i 0
    ·have hE2:=take31 ha hb hE he
     rw [he]at ga
     generalize b.1.getD i 0=u at*
     repeat' (first|apply zs_|apply zb_|apply zc_|apply zt_ rfl|apply zf_ rfl|(apply zd_ rfl<;>intro ht<;>try omega)|((first|apply zr_|apply zk_|apply ze_|apply zq_|(apply zG<;>intro ht));all_goals try simp (disch:=first|omega|(simp only [lens,z6,z8,zg,z7,zi,zj,zm,lQt,lQd,List.length_replicate];first|done|omega)) only [go_sem,q2,q3,q5,la,lb,ga,gb]))
     exact⟨t-1,by omega,i+1,by omega,hE2,by simp⟩
    ·have hl:decide (Lib.compareBytes a.1 b.1<0)=decide ((a.1.getD i 0).toNat<(b.1.getD i 0).toNat):=decide_eq_decide.2 (cb31 ha hb hE he)
     rw [hl]
     have hne:¬(((a.1.getD i 0).toNat:Nat):Int)=(b.1.getD i 0).toNat:=fun e=>he (UInt8.toNat_inj.1 (by omega))
     have hlt:((((a.1.getD i 0).toNat:Nat):Int)<(b.1.getD i 0).toNat)=((a.1.getD i 0).toNat<(b.1.getD i 0).toNat):=by simp
     generalize a.1.getD i 0=u at*
     generalize b.1.getD i 0=v at*
     repeat' (first|apply zs_|apply zb_|apply zc_|apply zt_ rfl|apply zf_ rfl|(apply zd_ rfl<;>intro ht<;>try omega)|((first|apply zr_|apply zk_|apply ze_|apply zq_|(apply zG<;>intro ht));all_goals try simp (disch:=first|omega|(simp only [lens,z6,z8,zg,z7,zi,zj,zm,lQt,lQd,List.length_replicate];first|done|omega)) only [go_sem,q2,q3,q5,la,lb,ga,gb,hne,hlt]))
     exact DownV.pure hw z1f
   ·obtain rfl:i=32:=by omega
    have he:a.1=b.1:=by
     rw [List.take_of_length_le (by rw [a.2];omega),List.take_of_length_le (by rw [b.2];omega)]at hE
     exact hE
    have h0:Lib.compareBytes a.1 b.1=0:=(zcg _ _).2 he
    rw [h0,decide_eq_false (by omega)]
    repeat' (first|apply zs_|apply zb_|apply zc_|apply zt_ rfl|apply zf_ rfl|(apply zd_ rfl<;>intro ht<;>try omega)|((first|apply zr_|apply zk_|apply ze_|apply zq_|(apply zG<;>intro ht));all_goals try simp (disch:=first|omega|(simp only [lens,z6,z8,zg,z7,zi,zj,zm,lQt,lQd,List.length_replicate];first|done|omega)) only [go_sem,q2,q3,q5]))
    exact DownV.pure hw z1f
 ·have hpo:decide (poI n a m b<0)=decide (n<m):=by
   rw [decide_eq_decide,po_neg]
   exact⟨fun h=>by rcases h with h|h;exact h;exact absurd h.1 hn,.inl⟩
  rw [hpo]
  repeat' (first|apply zs_|apply zb_|apply zc_|apply zt_ rfl|apply zf_ rfl|(apply zd_ rfl<;>intro ht<;>try omega)|((first|apply zr_|apply zk_|apply ze_|apply zq_|(apply zG<;>intro ht));all_goals try simp (disch:=first|omega|(simp only [lens,z6,z8,zg,z7,zi,zj,zm,lQt,lQd,List.length_replicate];first|done|omega)) only [go_sem,la,lb,hn]))
  exact DownV.pure hw z1f
theorem zdx(O:Store)(p:Nat)(key:Hash)(P:List Hdr)(own:List Nat)(m:Int)(k:Hash)(hT:PoR O p key P own)(hs:PSort P)(hl:P.length<1000000):
  ACallsTo TC 54 [.ptr p 0 0,.agg (.int .i64 m::hc k)] O (.bool (isP P m k)) O:=by
 obtain⟨v,sid,rfl,hpp,hr1,hn⟩:=hT
 have d:=slen hpp
 have l:=zm key v
 have g:=z7p key v
 have kl:=z6 k
 have r1:=hr1.rd.len
 rw [z7]at r1
 unfold z1j at r1
 refine ACallsTo.of_body q28ok (by simp) fun hw _=> ?_
 repeat' (first|apply zs_|apply zb_|apply zc_|apply zt_ rfl|apply zf_ rfl|(apply zd_ rfl<;>intro ht<;>try omega)|((first|apply zr_|apply zk_|apply ze_|apply zq_|(apply zG<;>intro ht));all_goals try simp (disch:=first|omega|(simp only [lens,z6,z8,zg,z7,zi,zj,zm,lQt,lQd,List.length_replicate];first|done|omega)) only [go_sem,kl]))
 refine zW.loop (fun t J O'=>∃i:Nat,t+i=P.length/\ O'=O++ [some [.int .i64 m::hc k]]/\ (∀q ∈ P.take i,¬(q.n=m/\ q.r=k))/\ J 0=.ptr p 0 0/\ J 3=.ptr O.length 0 0/\ J 5=.int .i64 i) P.length ?_ ?_
 ·exact⟨0,by omega,rfl,by simp,by simp (disch:=first|omega|(simp only [lens,z6,z8,zg,z7,zi,zj,zm,lQt,lQd,List.length_replicate];first|done|omega)) only [go_sem],by simp (disch:=first|omega|(simp only [lens,z6,z8,zg,z7,zi,zj,zm,lQt,lQd,List.length_replicate];first|done|omega)) only [go_sem],by simp (disch:=first|omega|(simp only [lens,z6,z8,zg,z7,zi,zj,zm,lQt,lQd,List.length_replicate];first|done|omega)) only [go_sem];try rfl⟩
 ·rintro t J O' ⟨i,ht,rfl,hE,q0,q3,q5⟩
  by_cases hi:i<P.length
  ·rcases hr1 with⟨_,h0,_⟩| ⟨q,_,hne,rfl,hq⟩
   ·have:=congrArg List.length h0;rw [z7]at this;simp at this;rw [this]at hi;simp at hi
   rw [z7]at hpp l g
   have dq:=slen hq
   have hgi:=z3i hi
   have hst:P.take (i+1)=P.take i++ [P[i]]:=List.take_succ_eq_append_getElem hi
   have hmem:P[i] ∈ P:=List.getElem_mem hi
   have hdl:=z7 P
   generalize P[i]=u at*
   have hu:=z6h u
   have hul:=zg u
   have he:=z63 u.n m u.r k
   by_cases hh:u.n=m/\ u.r=k
   ·rw [decide_eq_true hh]at he
    rw [(zal hs m k).2 ⟨u,hmem,hh⟩]
    repeat' (first|apply zs_|apply zb_|apply zc_|apply zt_ rfl|apply zf_ rfl|(apply zd_ rfl<;>intro ht<;>try omega)|((first|apply zr_|apply zk_|apply ze_|apply zq_|(apply zG<;>intro ht));all_goals try simp (disch:=first|omega|(simp only [lens,z6,z8,zg,z7,zi,zj,zm,lQt,lQd,List.length_replicate];first|done|omega)) only [go_sem,q0,q3,q5,hpp,l,g,hq,hdl,hgi,hu,hul,he,kl]))
    exact DownV.pure hw z1f
   ·rw [decide_eq_false hh]at he
    repeat' (first|apply zs_|apply zb_|apply zc_|apply zt_ rfl|apply zf_ rfl|(apply zd_ rfl<;>intro ht<;>try omega)|((first|apply zr_|apply zk_|apply ze_|apply zq_|(apply zG<;>intro ht));all_goals try simp (disch:=first|omega|(simp only [lens,z6,z8,zg,z7,zi,zj,zm,lQt,lQd,List.length_replicate];first|done|omega)) only [go_sem,q0,q3,q5,hpp,l,g,hq,hdl,hgi,hu,hul,he,kl]))
    exact⟨t-1,by omega,i+1,by omega,by rw [hst];intro q hq;rcases List.mem_append.1 hq with h1|h1;exact hE q h1;rw [List.mem_singleton.1 h1];exact hh,by simp⟩
  ·obtain rfl:i=P.length:=by omega
   rw [List.take_of_length_le (Nat.le_refl _)]at hE
   rw [isP_ex hs,decide_eq_false (fun⟨q,h1,h2⟩=>hE q h1 h2)]
   repeat' (first|apply zs_|apply zb_|apply zc_|apply zt_ rfl|apply zf_ rfl|(apply zd_ rfl<;>intro ht<;>try omega)|((first|apply zr_|apply zk_|apply ze_|apply zq_|(apply zG<;>intro ht));all_goals try simp (disch:=first|omega|(simp only [lens,z6,z8,zg,z7,zi,zj,zm,lQt,lQd,List.length_replicate];first|done|omega)) only [go_sem,q0,q3,q5,hpp,l,g,r1]))
   exact DownV.pure hw z1f
theorem zsc(O:Store)(p:Nat)(key:Hash)(P:List Hdr)(own:List Nat)(hT:PoR O p key P own)(hl:P.length<1000000):ACallsTo TC 59 [.ptr p 0 0] O (z13 33 (kn P)) O:=by
 obtain⟨v,sid,rfl,hpp,hr1,hn⟩:=hT
 have d:=slen hpp
 have l:=zm key v
 have g:=z7p key v
 have r1:=hr1.rd.len
 rw [z7]at r1
 unfold z1j at r1
 refine ACallsTo.of_body q2dok (by simp) fun hw _=> ?_
 repeat' (first|apply zs_|apply zb_|apply zc_|apply zt_ rfl|apply zf_ rfl|(apply zd_ rfl<;>intro ht<;>try omega)|((first|apply zr_|apply zk_|apply ze_|apply zq_|(apply zG<;>intro ht));all_goals try simp (disch:=first|omega|(simp only [lens,z6,z8,zg,z7,zi,zj,zm,lQt,lQd,List.length_replicate];first|done|omega)) only [go_sem]))
 refine zW.loop (fun t J O'=>∃(i:Nat) (w:AV),t+i=P.length/\ OwnN 33 O O' w (kn (P.take i))/\ J 0=.ptr p 0 0/\ J 3=w/\ J 4=.int .i64 i) P.length ?_ ?_
 ·exact⟨0,.nilsl,by omega,⟨[],by simp,.inl ⟨rfl,rfl⟩⟩,by simp (disch:=first|omega|(simp only [lens,z6,z8,zg,z7,zi,zj,zm,lQt,lQd,List.length_replicate];first|done|omega)) only [go_sem],by simp (disch:=first|omega|(simp only [lens,z6,z8,zg,z7,zi,zj,zm,lQt,lQd,List.length_replicate];first|done|omega)) only [go_sem],by simp (disch:=first|omega|(simp only [lens,z6,z8,zg,z7,zi,zj,zm,lQt,lQd,List.length_replicate];first|done|omega)) only [go_sem];try rfl⟩
 ·rintro t J O' ⟨i,w,ht,hO,q0,q3,q4⟩
  obtain⟨news,hnews⟩:=hO.ext
  have hpp':O'[p]? =some (some [reC key v]):=by rw [hnews,gapp d];exact hpp
  by_cases hi:i<P.length
  ·rcases hr1 with⟨_,h0,_⟩| ⟨q,_,hne,rfl,hq⟩
   ·have:=congrArg List.length h0;rw [z7]at this;simp at this;rw [this]at hi;simp at hi
   rw [z7]at hpp' l g
   have dq:=slen hq
   have hq':O'[q]? =some (some (hdrs P)):=by rw [hnews,gapp dq];exact hq
   have hgi:=z3i hi
   obtain⟨w',O2,ha,hO2⟩:=hO.app (ys:=[.int .i64 P[i].n::hc P[i].r]) (by simp) (by rw [zj,List.length_take];simp;omega)
   have hcat:kn (P.take i)++ [.int .i64 P[i].n::hc P[i].r]=kn (P.take (i+1)):=by rw [List.take_succ_eq_append_getElem hi];unfold kn;rw [List.map_append];rfl
   rw [hcat]at hO2
   have hdl:=z7 P
   have rl:=z6 P[i].r
   generalize P[i]=u at*
   have hu:=z6h u
   have hul:=zg u
   repeat' (first|apply zs_|apply zb_|apply zc_|apply zt_ rfl|apply zf_ rfl|(apply zd_ rfl<;>intro ht<;>try omega)|((first|apply zr_|apply zk_|apply ze_|apply zq_|(apply zG<;>intro ht));all_goals try simp (disch:=first|omega|(simp only [lens,z6,z8,zg,z7,zi,zj,zm,lQt,lQd,List.length_replicate];first|done|omega)) only [go_sem,q0,q3,q4,hpp',l,g,hq',hdl,hgi,hu,hul,rl,ha]))
   exact⟨t-1,by omega,i+1,w',by omega,hO2,by simp⟩
  ·obtain rfl:i=P.length:=by omega
   rw [List.take_of_length_le (Nat.le_refl _)]at hO
   repeat' (first|apply zs_|apply zb_|apply zc_|apply zt_ rfl|apply zf_ rfl|(apply zd_ rfl<;>intro ht<;>try omega)|((first|apply zr_|apply zk_|apply ze_|apply zq_|(apply zG<;>intro ht));all_goals try simp (disch:=first|omega|(simp only [lens,z6,z8,zg,z7,zi,zj,zm,lQt,lQd,List.length_replicate];first|done|omega)) only [go_sem,q0,q3,q4,hpp',l,g,r1]))
   exact hO.froze hw (zjh P)
def z8r:Option Nat->Int
 |none=> -1
 |some j=>j
theorem zsb(O:Store)(p:Nat)(key:Hash)(P:List Hdr)(own:List Nat)(o:Option Nat)(hT:PoR O p key P own)(ho:ForkIs P o)(hl:P.length<1000000):ACallsTo TC 56 [.ptr p 0 0] O (.int .i64 (z8r o)) O:=by
 obtain⟨v,sid,rfl,hpp,hr1,hn⟩:=hT
 have d:=slen hpp
 have l:=zm key v
 have g:=z7p key v
 have r1:=hr1.rd.len
 rw [z7]at r1
 unfold z1j at r1
 refine ACallsTo.of_body q2aok (by simp) fun hw _=> ?_
 repeat' (first|apply zs_|apply zb_|apply zc_|apply zt_ rfl|apply zf_ rfl|(apply zd_ rfl<;>intro ht<;>try omega)|((first|apply zr_|apply zk_|apply ze_|apply zq_|(apply zG<;>intro ht));all_goals try simp (disch:=first|omega|(simp only [lens,z6,z8,zg,z7,zi,zj,zm,lQt,lQd,List.length_replicate];first|done|omega)) only [go_sem]))
 refine zW.loop (fun t J O'=>∃i:Nat,t+i=P.length/\ (i+1<=P.length \/P=[])/\ O'=O/\ noF P (i+1)/\ J 0=.ptr p 0 0/\ J 3=.int .i64 i) P.length ?_ ?_
 ·exact⟨0,by omega,by rcases P with _| ⟨a,P⟩;exact .inr rfl;exact .inl (by simp),rfl,fun k hk=>by omega,by simp (disch:=first|omega|(simp only [lens,z6,z8,zg,z7,zi,zj,zm,lQt,lQd,List.length_replicate];first|done|omega)) only [go_sem],by simp (disch:=first|omega|(simp only [lens,z6,z8,zg,z7,zi,zj,zm,lQt,lQd,List.length_replicate];first|done|omega)) only [go_sem];try rfl⟩
 ·rintro t J O' ⟨i,ht,hi1,rfl,hF,q0,q3⟩
  by_cases hi:i+1<P.length
  ·rcases hr1 with⟨_,h0,_⟩| ⟨q,_,hne,rfl,hq⟩
   ·have:=congrArg List.length h0;rw [z7]at this;simp at this;rw [this]at hi;simp at hi
   rw [z7]at hpp l g
   have dq:=slen hq
   have hdl:=z7 P
   have hi0:i<P.length:=by omega
   have hga:=z3i hi0
   have hgb:=z3i hi
   have ea:P[i]? =some P[i]:=List.getElem?_eq_getElem hi0
   have eb:P[i+1]? =some P[i+1]:=List.getElem?_eq_getElem hi
   have hk:(i:Int)+1=((i+1:Nat):Int):=by omega
   by_cases he:P[i].n=P[i+1].n
   ·have hj:o=some i:=by
     cases o with
     |none=>
      exfalso
      have:=ho i (by omega)
      rw [ea,eb]at this
      exact this (by simp [he])
     |some j=>
      obtain⟨h1,h2,h3⟩:=ho
      by_cases h4:j<i
      ·exact absurd h2 (hF j (by omega))
      ·by_cases h5:i<j
       ·have:=h3 i (by omega)
        rw [ea,eb]at this
        exact absurd (by simp [he]) this
       ·congr 1;omega
    subst hj
    generalize P[i]=a at*
    generalize P[i+1]=b at*
    have la:=zg a
    have lb:=zg b
    have na:(hdrC a)[0]? =some (.int .i64 a.n):=rfl
    have nb:(hdrC b)[0]? =some (.int .i64 b.n):=rfl
    have he':(a.n==b.n)=true:=beq_iff_eq.2 he
    unfold z8r
    repeat' (first|apply zs_|apply zb_|apply zc_|apply zt_ rfl|apply zf_ rfl|(apply zd_ rfl<;>intro ht<;>try omega)|((first|apply zr_|apply zk_|apply ze_|apply zq_|(apply zG<;>intro ht));all_goals try simp (disch:=first|omega|(simp only [lens,z6,z8,zg,z7,zi,zj,zm,lQt,lQd,List.length_replicate];first|done|omega)) only [go_sem,q0,q3,hpp,l,g,hq,hdl,hga,hgb,hk,la,lb,na,nb,he']))
    exact DownV.same hw z22
   ·have hF2:noF P (i+1+1):=zdf hF (by omega) (by rw [Nat.add_sub_cancel,ea,eb];simpa using he)
    generalize P[i]=a at*
    generalize P[i+1]=b at*
    have la:=zg a
    have lb:=zg b
    have na:(hdrC a)[0]? =some (.int .i64 a.n):=rfl
    have nb:(hdrC b)[0]? =some (.int .i64 b.n):=rfl
    have he':(a.n==b.n)=false:=beq_eq_false_iff_ne.2 he
    repeat' (first|apply zs_|apply zb_|apply zc_|apply zt_ rfl|apply zf_ rfl|(apply zd_ rfl<;>intro ht<;>try omega)|((first|apply zr_|apply zk_|apply ze_|apply zq_|(apply zG<;>intro ht));all_goals try simp (disch:=first|omega|(simp only [lens,z6,z8,zg,z7,zi,zj,zm,lQt,lQd,List.length_replicate];first|done|omega)) only [go_sem,q0,q3,hpp,l,g,hq,hdl,hga,hgb,hk,la,lb,na,nb,he']))
    exact⟨t-1,by omega,i+1,by omega,.inl (by omega),hF2,by simp only [hk]⟩
  ·have hnF:noF P P.length:=by
    rcases hi1 with h|h
    ·rw [show i+1=P.length by omega]at hF
     exact hF
    ·subst h;exact fun k hk=>by simp at hk
   have hj:o=none:=by
    cases o with
    |none=>rfl
    |some j=>
     obtain⟨h1,h2,h3⟩:=ho
     exact absurd h2 (hnF j h1)
   subst hj
   unfold z8r
   have hi':¬(i:Int)+1<P.length:=by omega
   repeat' (first|apply zs_|apply zb_|apply zc_|apply zt_ rfl|apply zf_ rfl|(apply zd_ rfl<;>intro ht<;>try omega)|((first|apply zr_|apply zk_|apply ze_|apply zq_|(apply zG<;>intro ht));all_goals try simp (disch:=first|omega|(simp only [lens,z6,z8,zg,z7,zi,zj,zm,lQt,lQd,List.length_replicate];first|done|omega)) only [go_sem,q0,q3,hpp,l,g,r1,hi']))
   exact DownV.same hw z22
end
section
def insI(P:List Hdr)(q:Hdr)(c i:Nat):List Hdr:=if c<i then P.take c++q::(P.take i).drop c else P.take i
theorem zp3{P:List Hdr}{q:Hdr}{c i:Nat}(h:i<c)(hi:i<P.length):insI P q c i++ [P[i]]=insI P q c (i+1):=by
 unfold insI
 rw [if_neg (by omega),if_neg (by omega),List.take_succ_eq_append_getElem hi]
theorem zp1{P:List Hdr}{q:Hdr}{i:Nat}(hi:i<P.length):(insI P q i i++ [q])++ [P[i]]=insI P q i (i+1):=by
 unfold insI
 rw [if_neg (by omega),if_pos (by omega),List.take_succ_eq_append_getElem hi,List.drop_append,List.length_take,Nat.min_eq_left (by omega),Nat.sub_self,List.drop_take,Nat.sub_self]
 simp
theorem zp2{P:List Hdr}{q:Hdr}{c i:Nat}(h:c<i)(hi:i<P.length):insI P q c i++ [P[i]]=insI P q c (i+1):=by
 unfold insI
 rw [if_pos h,if_pos (by omega),List.take_succ_eq_append_getElem hi,List.drop_append,List.length_take]
 have:c-min i P.length=0:=by omega
 rw [this]
 simp
theorem zhq(P:List Hdr)(q:Hdr)(c i:Nat):(insI P q c i).length<=P.length+1:=by
 unfold insI
 split<;>simp<;>omega
theorem zhg(A B:List Hdr):hdrs (A++B)=hdrs A++hdrs B:=by simp [hdrs]
theorem PSort.le{P:List Hdr}(h:PSort P){i j:Nat}(hj:j<P.length)(hij:i<=j):(P[i]'(by omega)).n<=P[j].n:=by
 rcases Nat.lt_or_ge i j with h1|h1
 ·have:=po_neg.1 (h i j (by omega) hj h1)
  omega
 ·obtain rfl:i=j:=by omega
  exact Int.le_refl _
theorem zh7{P:List Hdr}(hP:PSort P)(q:Hdr)(hq:isP P q.n q.r=false):z24 (insL P q) (lbP P q.n q.r) q.n ↔ ∃w ∈ P,w.n=q.n:=by
 have hb:=z6l P q.n q.r
 have hs:=z6m hP q.n q.r
 have e1:∀j,j<lbP P q.n q.r->(insL P q)[j]? =P[j]?:=fun j hj=>by
  unfold insL
  rw [List.getElem?_append_left (by rw [List.length_take];omega),List.getElem?_take,if_pos hj]
 have e2:(insL P q)[lbP P q.n q.r+1]? =P[lbP P q.n q.r]?:=by
  unfold insL
  rw [List.getElem?_append_right (by rw [List.length_take];omega),List.length_take,Nat.min_eq_left hb,Nat.add_sub_cancel_left,List.getElem?_cons_succ,List.getElem?_drop,Nat.add_zero]
 unfold z24
 rw [e2]
 generalize lbP P q.n q.r=b at*
 constructor
 ·rintro(⟨h0,h1⟩|h1)
  ·rw [e1 _ (by omega),List.getElem?_eq_getElem (by omega)]at h1
   exact⟨P[b-1],List.getElem_mem _,Option.some.inj h1⟩
  ·by_cases h2:b<P.length
   ·rw [List.getElem?_eq_getElem h2]at h1
    exact⟨P[b],List.getElem_mem _,Option.some.inj h1⟩
   ·rw [List.getElem?_eq_none (by omega)]at h1;cases h1
 ·rintro⟨w,hw,hn⟩
  obtain⟨j,hj,rfl⟩:=List.getElem_of_mem hw
  by_cases h1:j<b
  ·left
   refine⟨by omega,?_⟩
   rw [e1 _ (by omega),List.getElem?_eq_getElem (by omega)]
   have h2:=hP.le (i:=j) (j:=b-1) (by omega) (by omega)
   have h3:=po_neg.1 ((hs (b-1) (by omega)).2 (by omega))
   simp only [Option.map_some]
   congr 1
   omega
  ·right
   have h4:b<P.length:=by omega
   rw [List.getElem?_eq_getElem h4]
   have h2:=hP.le (i:=b) (j:=j) hj (by omega)
   have h3:¬poI P[b].n P[b].r q.n q.r<0:=fun h=>by have:=(hs b h4).1 h;omega
   have h5:¬P[b].n<q.n:=fun h=>h3 (po_neg.2 (.inl h))
   simp only [Option.map_some]
   congr 1
   omega
def whC(P:List Hdr)(n:Int):Int:=if (P.any fun u=>decide (u.n=n))=true then 3 else 2
theorem zv3(n:Int):whC [] n=2:=rfl
theorem zv4(A:List Hdr)(u:Hdr)(n:Int):whC (A++ [u]) n=if u.n=n then 3 else whC A n:=by
 unfold whC
 rw [List.any_append]
 by_cases h:u.n=n
 ·rw [if_pos h,if_pos (by simp [h])]
 ·rw [if_neg h];simp [h]
theorem whC_is(P:List Hdr)(n:Int):(∃w ∈ P,w.n=n)->whC P n=3:=fun⟨w,h1,h2⟩=>by
 unfold whC
 exact if_pos (List.any_eq_true.2 ⟨w,h1,decide_eq_true h2⟩)
theorem whC_no(P:List Hdr)(n:Int)(h:¬ ∃w ∈ P,w.n=n):whC P n=2:=by
 unfold whC
 refine if_neg fun e=>h ?_
 obtain⟨w,h1,h2⟩:=List.any_eq_true.1 e
 exact⟨w,h1,of_decide_eq_true h2⟩
theorem zpt{P:List Hdr}(hP:PSort P)(q:Hdr)(hq:isP P q.n q.r=false){i:Nat}(hi:i<P.length):zaq q.n P[i].n q.r P[i].r=decide (lbP P q.n q.r<=i):=by
 unfold zaq
 have hs:=z6m hP q.n q.r i hi
 have hz:poI P[i].n P[i].r q.n q.r ≠ 0:=fun e=>by
  have:=(zal hP q.n q.r).2 ⟨P[i],List.getElem_mem hi,(po_zero.1 e).1,(po_zero.1 e).2⟩
  rw [this]at hq;cases hq
 rw [zj1]
 by_cases h:lbP P q.n q.r<=i
 ·rw [decide_eq_true h,decide_eq_true]
  have:¬poI P[i].n P[i].r q.n q.r<0:=fun e=>by have:=hs.1 e;omega
  omega
 ·rw [decide_eq_false h,decide_eq_false]
  have:=hs.2 (by omega)
  omega
def PoRAddP(O:Store)(p:Nat)(key:Hash)(P:List Hdr)(own:List Nat)(q:Hdr)(a:AV)(O':Store):Prop:=
 a=.int .i64 (addC key P q)/\ ∃own',Fr O O' own own'/\ PoR O' p key (addL key P q) own'
theorem PoRAddP.is{O:Store}{p:Nat}{key:Hash}{P:List Hdr}{own:List Nat}{q:Hdr}(hT:PoR O p key P own):∃a O',PoRAddP O p key P own q a O':=by
 by_cases h:addC key P q=2 \/addC key P q=3
 ·obtain⟨v,sid,rfl,hp,hr,hn⟩:=hT
  have d:=slen hp
  refine⟨_,O.set p (some [reC key (.sl O.length 0 (insL P q).length none 36)])++ [some (hdrs (insL P q))],rfl,p::Option.toList (some O.length),⟨fun j hj hn=> ?_,fun j hj=> ?_,by simp⟩,?_⟩
  ·rw [gapp (by simpa using hj),z1q (fun e=>hn (by simp [e]))]
  ·simp only [List.mem_cons,Option.mem_toList,Option.some.injEq]at hj ⊢
   rcases hj with h|h
   ·exact .inl (.inl h)
   ·exact .inr (by omega)
  ·unfold addL
   rw [if_pos h]
   exact⟨_,some O.length,rfl,by rw [gapp (by simpa using d),z2l d],.inr ⟨O.length,rfl,fun e=>by have:=congrArg List.length e;rw [z7,z7e]at this;simp at this,by rw [z7],by rw [z1h (by simp)];simp⟩,fun e=>by injection e with e;omega⟩
 ·exact⟨_,O,rfl,own,.ext (.refl _),by unfold addL;rw [if_neg h];exact hT⟩
attribute [local irreducible] ACallsTo ACallsP
theorem zs9(O:Store)(p:Nat)(key:Hash)(P:List Hdr)(own:List Nat)(q:Hdr)(x:AV)(e:Int)(hT:PoR O p key P own)(hs:PSort P)(hl:P.length<=16)(hx:SlV 32 (hr q.p) x)(he:addC key P q=e)(h2:e ≠ 2)(h3:e ≠ 3):
  ACallsTo TC 15 [.ptr p 0 0,.agg (sgC q.n q.r q.i q.s x)] O (.int .i64 e) O:=by
 have hH:=fun y=>zdx (O++y) p key P own q.n q.r (hT.ext ⟨y,rfl⟩) hs (by omega)
 obtain⟨v,sid,rfl,hpp,hr1,hn⟩:=hT
 have d:=slen hpp
 have l:=zm key v
 have g:=z7p key v
 have gk:=zdw key v
 have kl:=z6 key
 have ql:=z8 q.n q.r q.i q.s x
 have qh:=z9c q.n q.r q.i q.s x
 have r1:=hr1.rd.len
 rw [z7]at r1
 unfold z1j at r1
 have c3:=hr1.cells
 unfold cellsOf at c3
 have hC:=fun O=>zjb O key q.n q.i q.r q.s q.p x (.of hx)
 unfold addC at he
 refine ACallsTo.of_body q26ok (by simp) fun hw _=> ?_
 by_cases h0:z1e key q.n q.i q.r q.s q.p ≠ 0
 ·rw [if_pos h0]at he
  subst he
  generalize z1e key q.n q.i q.r q.s q.p=c at*
  have h0':(c==0)=false:=beq_eq_false_iff_ne.2 h0
  repeat' (first|apply zs_|apply zb_|apply zc_|apply zt_ rfl|apply zf_ rfl|(apply zd_ rfl<;>intro ht<;>try omega)|((first|apply zr_|apply zk_|apply ze_|apply zq_|(apply callW.mk_pu;(first|exact(fun _=>hC _)))|(apply callW.za;(first|exact(hC _)))|(apply zG<;>intro ht));all_goals try simp (disch:=first|omega|(simp only [lens,z6,z8,zg,z7,zi,zj,zm,lQt,lQd,List.length_replicate];first|done|omega)) only [go_sem,hpp,l,g,gk,kl,ql,qh,h0']))
  exact DownV.pure hw z22
 ·have h0':z1e key q.n q.i q.r q.s q.p=0:=by omega
  rw [if_neg h0]at he
  rw [h0']at hC
  cases h1:isP P q.n q.r with
  |true=>
   rw [h1,if_pos rfl]at he
   subst he
   rw [h1]at hH
   repeat' (first|apply zs_|apply zb_|apply zc_|apply zt_ rfl|apply zf_ rfl|(apply zd_ rfl<;>intro ht<;>try omega)|((first|apply zr_|apply zk_|apply ze_|apply zq_|(apply callW.mk_pu;(first|exact(fun _=>hC _)|exact(fun _=>hH _)))|(apply callW.za;(first|exact(hC _)|exact(hH _)))|(apply zG<;>intro ht));all_goals try simp (disch:=first|omega|(simp only [lens,z6,z8,zg,z7,zi,zj,zm,lQt,lQd,List.length_replicate];first|done|omega)) only [go_sem,hpp,l,g,gk,kl,ql,qh,c3]))
   exact DownV.pure hw z22
  |false=>
   rw [h1,if_neg (by simp)]at he
   rw [h1]at hH
   by_cases h4:16<=P.length
   ·rw [if_pos h4]at he
    subst he
    have h4':(P.length:Int)>15:=by omega
    repeat' (first|apply zs_|apply zb_|apply zc_|apply zt_ rfl|apply zf_ rfl|(apply zd_ rfl<;>intro ht<;>try omega)|((first|apply zr_|apply zk_|apply ze_|apply zq_|(apply callW.mk_pu;(first|exact(fun _=>hC _)|exact(fun _=>hH _)))|(apply callW.za;(first|exact(hC _)|exact(hH _)))|(apply zG<;>intro ht));all_goals try simp (disch:=first|omega|(simp only [lens,z6,z8,zg,z7,zi,zj,zm,lQt,lQd,List.length_replicate];first|done|omega)) only [go_sem,hpp,l,g,gk,kl,ql,qh,c3,r1,h4']))
    exact DownV.pure hw z22
   ·rw [if_neg h4]at he
    exfalso
    split at he<;>omega
attribute [local irreducible] zb6
theorem zs8(O:Store)(p:Nat)(key:Hash)(P:List Hdr)(own:List Nat)(q:Hdr)(x:AV)(hT:PoR O p key P own)(hs:PSort P)(hl:P.length<16)(hx:SlV 32 (hr q.p) x)(hx1:x=z13 32 (hr q.p))(h0:z1e key q.n q.i q.r q.s q.p=0)(h1:isP P q.n q.r=false):
  ACallsP TC 15 [.ptr p 0 0,.agg (sgC q.n q.r q.i q.s x)] O (PoRAddP O p key P own q):=by
 subst hx1
 have hH:=fun y=>zdx (O++y) p key P own q.n q.r (hT.ext ⟨y,rfl⟩) hs (by omega)
 have hbl:=z6l P q.n q.r
 have hc:addC key P q=if z24 (insL P q) (lbP P q.n q.r) q.n then 3 else 2:=by unfold addC;rw [if_neg (by omega),if_neg (by rw [h1];simp),if_neg (by omega)]
 have hcf:addC key P q=whC P q.n:=by
  rw [hc]
  by_cases h:z24 (insL P q) (lbP P q.n q.r) q.n
  ·rw [if_pos h,whC_is P q.n ((zh7 hs q h1).1 h)]
  ·rw [if_neg h,whC_no P q.n fun e=>h ((zh7 hs q h1).2 e)]
 have hL:addL key P q=insL P q:=by unfold addL;rw [hc];split<;>simp
 have hla:=fun i hi=>zpt hs q h1 (i:=i) hi
 obtain⟨v,sid,rfl,hpp,hr1,hn⟩:=hT
 have d:=slen hpp
 have l:=zm key v
 have g:=z7p key v
 have gk:=zdw key v
 have kl:=z6 key
 have hdq:sgC q.n q.r q.i q.s (z13 32 (hr q.p))=hdrC q:=rfl
 rw [hdq]
 have ql:=zg q
 have qh:=z6h q
 have qa:(hdrC q).take 36=hdrC q:=z3y q
 have qn:(hdrC q)[0]? =some (.int .i64 q.n):=rfl
 have r1:=hr1.rd.len
 rw [z7]at r1
 unfold z1j at r1
 have c3:=hr1.cells
 unfold cellsOf at c3
 have hC:=fun O=>zjb O key q.n q.i q.r q.s q.p (z13 32 (hr q.p)) (.of hx)
 rw [h0,hdq]at hC
 rw [h1]at hH
 have h4':¬(P.length:Int)>15:=by omega
 have hput:=fun y=>zsa key v y
 have fin:∀(O1:Store) (w:AV),OwnN 36 (O++ [some [hdrC q]]) O1 w (hdrs (insL P q))->PoRAddP O p key P (p::Option.toList sid) q (.int .i64 (addC key P q)) (O1.set p (some [reC key w])):=by
  intro O1 w hO
  obtain⟨news,hnews⟩:=hO.ext
  have hne:hdrs (insL P q) ≠ []:=fun e=>by have:=congrArg List.length e;rw [z7,z7e]at this;simp at this
  obtain⟨t,rfl,ht,htl⟩:=hO.sl hne
  simp only [List.length_append,List.length_cons,List.length_nil]at htl
  have dp:p<O1.length:=by rw [hnews];simp<;>omega
  have dt:=slen ht
  refine⟨rfl,p::Option.toList (some t),⟨fun j hj hn=> ?_,fun j hj=> ?_,by rw [hnews];simp<;>omega⟩,?_⟩
  ·rw [z1q (fun e=>hn (by simp [e])),hnews,List.append_assoc,gapp hj]
  ·simp only [List.mem_cons,Option.mem_toList,Option.some.injEq]at hj ⊢
   rcases hj with h|h
   ·exact .inl (.inl h)
   ·exact .inr (by omega)
  ·rw [hL]
   exact⟨_,some t,rfl,z2l dp,.inr ⟨t,rfl,hne,rfl,by rw [z1q (by omega)];exact ht⟩,fun e=>by injection e with e;omega⟩
 have tail:∀(O1:Store) (w:AV) (J:Env),OwnN 36 (O++ [some [hdrC q]]) O1 w (hdrs (insI P q (lbP P q.n q.r) P.length))->J 0=.ptr p 0 0->J 3=.ptr O.length 0 0->J 5=.int .i64 (whC P q.n)->J 6=w->J 7=.bool (decide (lbP P q.n q.r<P.length))->
   zW TC 88 O.length zb6 (z7f [.t 4] (PoRAddP O p key P (p::Option.toList sid) q)) J O1:=by
  intro O1 w J hO q0 q3 q5 q6 q7
  rw [<-hcf]at q5
  obtain⟨news,hnews⟩:=hO.ext
  have hp1:O1[p]? =some (some [reC key v]):=by rw [hnews,List.append_assoc,gapp d];exact hpp
  have hb1:O1[O.length]? =some (some [hdrC q]):=by rw [hnews,List.append_assoc,z1h (Nat.le_refl _),Nat.sub_self];rfl
  have dp1:=slen hp1
  have hwc:∀(es:List (List AV)) (O1:Store) (w:AV),es ≠ []->OwnN 36 (O++ [some [hdrC q]]) O1 w es->cellsOf w=some [w]:=by
   intro es O1 w hne hO
   obtain⟨t,rfl,_,_⟩:=hO.sl hne
   rfl
  have hne:hdrs (insL P q) ≠ []:=fun e=>by have:=congrArg List.length e;rw [z7,z7e]at this;simp at this
  unfold zb6
  by_cases hd:lbP P q.n q.r<P.length
  ·rw [decide_eq_true hd]at q7
   have hi:insI P q (lbP P q.n q.r) P.length=insL P q:=by
    unfold insI insL;rw [if_pos hd,List.take_of_length_le (Nat.le_refl _)]
   rw [hi]at hO
   have wc:=hwc _ _ _ hne hO
   unfold cellsOf at wc
   have f:=fin _ _ hO
   generalize addC key P q=C at*
   repeat' (first|apply zs_|apply zb_|apply zc_|apply zt_ rfl|apply zf_ rfl|(apply zd_ rfl<;>intro ht<;>try omega)|((first|apply zr_|apply zk_|apply ze_|apply zq_|(apply zG<;>intro ht));all_goals try simp (disch:=first|omega|(simp only [lens,z6,z8,zg,z7,zi,zj,zm,lQt,lQd,List.length_replicate];first|done|omega)) only [go_sem,q0,q3,q5,q6,q7,hp1,hb1,l,ql,qa,wc,hput]))
   exact f
  ·rw [decide_eq_false hd]at q7
   have hlb:lbP P q.n q.r=P.length:=by omega
   have hi:insI P q (lbP P q.n q.r) P.length++ [q]=insL P q:=by
    unfold insI insL;rw [if_neg hd,hlb,List.take_of_length_le (Nat.le_refl _),List.drop_of_length_le (Nat.le_refl _)]
   obtain⟨w',O2,ha,hO2⟩:=hO.app (ys:=[hdrC q]) (by simp) (by have:=zhq P q (lbP P q.n q.r) P.length;rw [z7];simp;omega)
   have hh:hdrs (insI P q (lbP P q.n q.r) P.length)++ [hdrC q]=hdrs (insL P q):=by rw [<-hi,zhg];rfl
   rw [hh]at hO2
   have wc:=hwc _ _ _ hne hO2
   unfold cellsOf at wc
   have f:=fin _ _ hO2
   obtain⟨news2,hnews2⟩:=hO2.ext
   have hp2:O2[p]? =some (some [reC key v]):=by rw [hnews2,List.append_assoc,gapp d];exact hpp
   have dp2:=slen hp2
   generalize addC key P q=C at*
   repeat' (first|apply zs_|apply zb_|apply zc_|apply zt_ rfl|apply zf_ rfl|(apply zd_ rfl<;>intro ht<;>try omega)|((first|apply zr_|apply zk_|apply ze_|apply zq_|(apply zG<;>intro ht));all_goals try simp (disch:=first|omega|(simp only [lens,z6,z8,zg,z7,zi,zj,zm,lQt,lQd,List.length_replicate];first|done|omega)) only [go_sem,q0,q3,q5,q6,q7,hp1,hp2,hb1,l,ql,qa,wc,hput,ha]))
   exact f
 refine ACallsP.of_keep q26ok (by simp) ?_
 repeat' (first|apply zs_|apply zb_|apply zc_|apply zt_ rfl|apply zf_ rfl|(apply zd_ rfl<;>intro ht<;>try omega)|((first|apply zr_|apply zk_|apply ze_|apply zq_|(apply callW.mk_pu;(first|exact(fun _=>hC _)|exact(fun _=>hH _)))|(apply callW.za;(first|exact(hC _)|exact(hH _)))|(apply zG<;>intro ht));all_goals try simp (disch:=first|omega|(simp only [lens,z6,z8,zg,z7,zi,zj,zm,lQt,lQd,List.length_replicate];first|done|omega)) only [go_sem,hpp,l,g,gk,kl,ql,qh,qa,c3,r1,h4']))
 refine zW.loop (fun t J O'=>∃(i:Nat) (w:AV),t+i=P.length/\ OwnN 36 (O++ [some [hdrC q]]) O' w (hdrs (insI P q (lbP P q.n q.r) i))/\ J 0=.ptr p 0 0/\ J 3=.ptr O.length 0 0/\ J 5=.int .i64 (whC (P.take i) q.n)/\ J 6=w/\ J 7=.bool (decide (lbP P q.n q.r<i))/\ J 8=.int .i64 i) P.length ?_ ?_
 ·exact⟨0,.nilsl,by omega,⟨[],by simp,.inl ⟨by simp [insI,hdrs],rfl⟩⟩,by simp (disch:=first|omega|(simp only [lens,z6,z8,zg,z7,zi,zj,zm,lQt,lQd,List.length_replicate];first|done|omega)) only [go_sem],by simp (disch:=first|omega|(simp only [lens,z6,z8,zg,z7,zi,zj,zm,lQt,lQd,List.length_replicate];first|done|omega)) only [go_sem],by rw [List.take_zero,zv3];simp (disch:=first|omega|(simp only [lens,z6,z8,zg,z7,zi,zj,zm,lQt,lQd,List.length_replicate];first|done|omega)) only [go_sem],by simp (disch:=first|omega|(simp only [lens,z6,z8,zg,z7,zi,zj,zm,lQt,lQd,List.length_replicate];first|done|omega)) only [go_sem],by rw [decide_eq_false (by omega)];simp (disch:=first|omega|(simp only [lens,z6,z8,zg,z7,zi,zj,zm,lQt,lQd,List.length_replicate];first|done|omega)) only [go_sem],by simp (disch:=first|omega|(simp only [lens,z6,z8,zg,z7,zi,zj,zm,lQt,lQd,List.length_replicate];first|done|omega)) only [go_sem];try rfl⟩
 ·rintro t J O' ⟨i,w,ht,hO,q0,q3,q5,q6,q7,q8⟩
  obtain⟨news,hnews⟩:=hO.ext
  have hp1:O'[p]? =some (some [reC key v]):=by rw [hnews,List.append_assoc,gapp d];exact hpp
  have hb1:O'[O.length]? =some (some [hdrC q]):=by rw [hnews,List.append_assoc,z1h (Nat.le_refl _),Nat.sub_self];rfl
  by_cases hi:i<P.length
  ·rcases hr1 with⟨_,h0,_⟩| ⟨r,_,hne,rfl,hq⟩
   ·have:=congrArg List.length h0;rw [z7]at this;simp at this;rw [this]at hi;simp at hi
   have dq:=slen hq
   have hq':O'[r]? =some (some (hdrs P)):=by rw [hnews,List.append_assoc,gapp dq];exact hq
   rw [z7]at hp1 l g
   have hdl:=z7 P
   have hgi:=z3i hi
   have hl1:=hla i hi
   have new5:whC (P.take (i+1)) q.n=if P[i].n=q.n then 3 else whC (P.take i) q.n:=by
    rw [List.take_succ_eq_append_getElem hi,zv4]
   have i1:=zhq P q (lbP P q.n q.r) i
   have i2:=fun h=>zp3 (P:=P) (q:=q) (c:=lbP P q.n q.r) (i:=i) h hi
   have i3:=zp1 (P:=P) (q:=q) hi
   have i4:=fun h=>zp2 (P:=P) (q:=q) (c:=lbP P q.n q.r) (i:=i) h hi
   have hLs:=fun O=>zps O q.n P[i].n q.r P[i].r
   rw [hl1]at hLs
   have hls:∀A:List Hdr,(hdrs A).length=A.length:=z7
   have hone:∀(A:List Hdr) (u:Hdr),hdrs A++ [hdrC u]=hdrs (A++ [u]):=fun A u=>by rw [zhg];rfl
   generalize whC (P.take i) q.n=C5 at*
   obtain⟨C6,hC6⟩:∃C,C=whC (P.take (i+1)) q.n:=⟨_,rfl⟩
   rw [<-hC6]at new5
   generalize P[i]=u at*
   have hu:=z6h u
   have hul:=zg u
   have ua:(hdrC u).take 36=hdrC u:=z3y u
   have un:(hdrC u)[0]? =some (.int .i64 u.n):=rfl
   rcases Nat.lt_trichotomy i (lbP P q.n q.r)with h|h|h
   ·rw [decide_eq_false (by omega)]at q7 hLs
    obtain⟨w',O2,ha,hO2⟩:=hO.app (ys:=[hdrC u]) (by simp) (by rw [z7];simp;omega)
    rw [hone,i2 h]at hO2
    by_cases he:u.n=q.n
    ·have he':(u.n==q.n)=true:=beq_iff_eq.2 he
     rw [if_pos he]at new5
     subst new5
     repeat' (first|apply zs_|apply zb_|apply zc_|apply zt_ rfl|apply zf_ rfl|(apply zd_ rfl<;>intro ht<;>try omega)|((first|apply zr_|apply zk_|apply ze_|apply zq_|(apply callW.mk_pu;(first|exact(fun _=>hLs _)))|(apply callW.za;(first|exact(hLs _)))|(apply zG<;>intro ht));all_goals try simp (disch:=first|omega|(simp only [lens,z6,z8,zg,z7,zi,zj,zm,lQt,lQd,List.length_replicate];first|done|omega)) only [go_sem,q0,q3,q5,q6,q7,q8,hp1,hb1,l,g,hq',hdl,hgi,hu,hul,ua,un,ql,qh,qa,qn,he',ha]))
     exact⟨t-1,by omega,i+1,w',by omega,hO2,by simp;exact⟨hC6,by omega⟩⟩
    ·have he':(u.n==q.n)=false:=beq_eq_false_iff_ne.2 he
     rw [if_neg he]at new5
     subst new5
     repeat' (first|apply zs_|apply zb_|apply zc_|apply zt_ rfl|apply zf_ rfl|(apply zd_ rfl<;>intro ht<;>try omega)|((first|apply zr_|apply zk_|apply ze_|apply zq_|(apply callW.mk_pu;(first|exact(fun _=>hLs _)))|(apply callW.za;(first|exact(hLs _)))|(apply zG<;>intro ht));all_goals try simp (disch:=first|omega|(simp only [lens,z6,z8,zg,z7,zi,zj,zm,lQt,lQd,List.length_replicate];first|done|omega)) only [go_sem,q0,q3,q5,q6,q7,q8,hp1,hb1,l,g,hq',hdl,hgi,hu,hul,ua,un,ql,qh,qa,qn,he',ha]))
     exact⟨t-1,by omega,i+1,w',by omega,hO2,by simp;exact⟨hC6,by omega⟩⟩
   ·rw [<-h]at hO i1
    rw [decide_eq_false (by omega)]at q7
    rw [decide_eq_true (by omega)]at hLs
    obtain⟨w',O2,ha,hO2⟩:=hO.app (ys:=[hdrC q]) (by simp) (by rw [z7];simp;omega)
    rw [hone]at hO2
    obtain⟨w3,O3,ha2,hO3⟩:=hO2.app (ys:=[hdrC u]) (by simp) (by rw [z7];simp;omega)
    rw [hone,i3]at hO3
    have hO4:OwnN 36 (O++ [some [hdrC q]]) O3 w3 (hdrs (insI P q (lbP P q.n q.r) (i+1))):=by rw [<-h];exact hO3
    obtain⟨news2,hnews2⟩:=hO2.ext
    have hp2:O2[p]? =some (some [reC key (.sl r 0 P.length none 36)]):=by rw [hnews2,List.append_assoc,gapp d];rw [z7]at hpp;exact hpp
    have hb2:O2[O.length]? =some (some [hdrC q]):=by rw [hnews2,List.append_assoc,z1h (Nat.le_refl _),Nat.sub_self];rfl
    have hq2:O2[r]? =some (some (hdrs P)):=by rw [hnews2,List.append_assoc,gapp dq];exact hq
    by_cases he:u.n=q.n
    ·have he':(u.n==q.n)=true:=beq_iff_eq.2 he
     rw [if_pos he]at new5
     subst new5
     repeat' (first|apply zs_|apply zb_|apply zc_|apply zt_ rfl|apply zf_ rfl|(apply zd_ rfl<;>intro ht<;>try omega)|((first|apply zr_|apply zk_|apply ze_|apply zq_|(apply callW.mk_pu;(first|exact(fun _=>hLs _)))|(apply callW.za;(first|exact(hLs _)))|(apply zG<;>intro ht));all_goals try simp (disch:=first|omega|(simp only [lens,z6,z8,zg,z7,zi,zj,zm,lQt,lQd,List.length_replicate];first|done|omega)) only [go_sem,q0,q3,q5,q6,q7,q8,hp1,hb1,l,g,hq',hdl,hgi,hu,hul,ua,un,ql,qh,qa,qn,he',ha,ha2,hb2,hp2,hq2]))
     exact⟨t-1,by omega,i+1,w3,by omega,hO4,by simp;exact⟨hC6,by omega⟩⟩
    ·have he':(u.n==q.n)=false:=beq_eq_false_iff_ne.2 he
     rw [if_neg he]at new5
     subst new5
     repeat' (first|apply zs_|apply zb_|apply zc_|apply zt_ rfl|apply zf_ rfl|(apply zd_ rfl<;>intro ht<;>try omega)|((first|apply zr_|apply zk_|apply ze_|apply zq_|(apply callW.mk_pu;(first|exact(fun _=>hLs _)))|(apply callW.za;(first|exact(hLs _)))|(apply zG<;>intro ht));all_goals try simp (disch:=first|omega|(simp only [lens,z6,z8,zg,z7,zi,zj,zm,lQt,lQd,List.length_replicate];first|done|omega)) only [go_sem,q0,q3,q5,q6,q7,q8,hp1,hb1,l,g,hq',hdl,hgi,hu,hul,ua,un,ql,qh,qa,qn,he',ha,ha2,hb2,hp2,hq2]))
     exact⟨t-1,by omega,i+1,w3,by omega,hO4,by simp;exact⟨hC6,by omega⟩⟩
   ·rw [decide_eq_true h]at q7
    obtain⟨w',O2,ha,hO2⟩:=hO.app (ys:=[hdrC u]) (by simp) (by rw [z7];simp;omega)
    rw [hone,i4 h]at hO2
    by_cases he:u.n=q.n
    ·have he':(u.n==q.n)=true:=beq_iff_eq.2 he
     rw [if_pos he]at new5
     subst new5
     repeat' (first|apply zs_|apply zb_|apply zc_|apply zt_ rfl|apply zf_ rfl|(apply zd_ rfl<;>intro ht<;>try omega)|((first|apply zr_|apply zk_|apply ze_|apply zq_|(apply callW.mk_pu;(first|exact(fun _=>hLs _)))|(apply callW.za;(first|exact(hLs _)))|(apply zG<;>intro ht));all_goals try simp (disch:=first|omega|(simp only [lens,z6,z8,zg,z7,zi,zj,zm,lQt,lQd,List.length_replicate];first|done|omega)) only [go_sem,q0,q3,q5,q6,q7,q8,hp1,hb1,l,g,hq',hdl,hgi,hu,hul,ua,un,ql,qh,qa,qn,he',ha]))
     exact⟨t-1,by omega,i+1,w',by omega,hO2,by simp;exact⟨hC6,by omega⟩⟩
    ·have he':(u.n==q.n)=false:=beq_eq_false_iff_ne.2 he
     rw [if_neg he]at new5
     subst new5
     repeat' (first|apply zs_|apply zb_|apply zc_|apply zt_ rfl|apply zf_ rfl|(apply zd_ rfl<;>intro ht<;>try omega)|((first|apply zr_|apply zk_|apply ze_|apply zq_|(apply callW.mk_pu;(first|exact(fun _=>hLs _)))|(apply callW.za;(first|exact(hLs _)))|(apply zG<;>intro ht));all_goals try simp (disch:=first|omega|(simp only [lens,z6,z8,zg,z7,zi,zj,zm,lQt,lQd,List.length_replicate];first|done|omega)) only [go_sem,q0,q3,q5,q6,q7,q8,hp1,hb1,l,g,hq',hdl,hgi,hu,hul,ua,un,ql,qh,qa,qn,he',ha]))
     exact⟨t-1,by omega,i+1,w',by omega,hO2,by simp;exact⟨hC6,by omega⟩⟩
  ·obtain rfl:i=P.length:=by omega
   rw [List.take_of_length_le (Nat.le_refl _)]at q5
   repeat' (first|apply zs_|apply zb_|apply zc_|apply zt_ rfl|apply zf_ rfl|(apply zd_ rfl<;>intro ht<;>try omega)|((first|apply zr_|apply zk_|apply ze_|apply zq_|(apply zG<;>intro ht));all_goals try simp (disch:=first|omega|(simp only [lens,z6,z8,zg,z7,zi,zj,zm,lQt,lQd,List.length_replicate];first|done|omega)) only [go_sem,q0,q3,q5,q6,q7,q8,hp1,l,g,r1]))
   exact tail _ _ _ hO (by simp (disch:=first|omega|(simp only [lens,z6,z8,zg,z7,zi,zj,zm,lQt,lQd,List.length_replicate];first|done|omega)) only [go_sem,q0]) (by simp (disch:=first|omega|(simp only [lens,z6,z8,zg,z7,zi,zj,zm,lQt,lQd,List.length_replicate];first|done|omega)) only [go_sem,q3]) (by simp (disch:=first|omega|(simp only [lens,z6,z8,zg,z7,zi,zj,zm,lQt,lQd,List.length_replicate];first|done|omega)) only [go_sem,q5]) (by simp (disch:=first|omega|(simp only [lens,z6,z8,zg,z7,zi,zj,zm,lQt,lQd,List.length_replicate];first|done|omega)) only [go_sem,q6]) (by simp (disch:=first|omega|(simp only [lens,z6,z8,zg,z7,zi,zj,zm,lQt,lQd,List.length_replicate];first|done|omega)) only [go_sem,q7])
end
section
theorem zc4{key:Hash}{P:List Hdr}{q:Hdr}(h:addC key P q=2 \/addC key P q=3):z1e key q.n q.i q.r q.s q.p=0/\ isP P q.n q.r=false/\ P.length<16:=by
 unfold addC at h
 by_cases h0:z1e key q.n q.i q.r q.s q.p ≠ 0
 ·rw [if_pos h0]at h;omega
 rw [if_neg h0]at h
 cases h1:isP P q.n q.r with
 |true=>rw [h1,if_pos rfl]at h;omega
 |false=>
  rw [h1,if_neg (by simp)]at h
  by_cases h2:16<=P.length
  ·rw [if_pos h2]at h;omega
  ·exact⟨by omega,rfl,by omega⟩
theorem zlu{key:Hash}{P:List Hdr}(q:Hdr)(h:P.length<=16):(addL key P q).length<=16:=by
 unfold addL
 by_cases h1:addC key P q=2 \/addC key P q=3
 ·rw [if_pos h1,z7e];have:=(zc4 h1).2.2;omega
 ·rw [if_neg h1];exact h
theorem insL_mem{P:List Hdr}{q w:Hdr}:w ∈ insL P q ↔ w=q \/w ∈ P:=by
 unfold insL
 rw [List.mem_append,List.mem_cons]
 constructor
 ·rintro(h|h|h)
  ·exact .inr (List.mem_of_mem_take h)
  ·exact .inl h
  ·exact .inr (List.mem_of_mem_drop h)
 ·rintro(h|h)
  ·exact .inr (.inl h)
  ·rw [<-List.take_append_drop (lbP P q.n q.r) P]at h
   rcases List.mem_append.1 h with h1|h1
   ·exact .inl h1
   ·exact .inr (.inr h1)
theorem zlv{key:Hash}{P:List Hdr}{q w:Hdr}(h:w ∈ addL key P q):w ∈ P \/(w=q/\ z1e key q.n q.i q.r q.s q.p=0):=by
 unfold addL at h
 by_cases h1:addC key P q=2 \/addC key P q=3
 ·rw [if_pos h1]at h
  rcases insL_mem.1 h with h2|h2
  ·exact .inr ⟨h2,(zc4 h1).1⟩
  ·exact .inl h2
 ·rw [if_neg h1]at h;exact .inl h
structure POk(key:Hash)(P:List Hdr):Prop where
 sort:PSort P
 len:P.length<=16
 chk:∀q ∈ P,z1e key q.n q.i q.r q.s q.p=0
theorem POk.nil(key:Hash):POk key []:=⟨PSort.nil,by simp,by simp⟩
theorem POk.add{key:Hash}{P:List Hdr}(h:POk key P)(q:Hdr):POk key (addL key P q):=
 ⟨zc6 h.sort q,zlu q h.len,fun w hw=>by rcases zlv hw with h1| ⟨rfl,h1⟩;exact h.chk w h1;exact h1⟩
theorem POk.path{key:Hash}{P:List Hdr}(h:POk key P):∀q ∈ P,q.p.length<1000000:=fun q hq=>by have:=z7d (h.chk q hq);omega
theorem zab{key:Hash}{q:Hdr}(h:z1e key q.n q.i q.r q.s q.p=0):q.p ≠ []:=fun e=>by have:=z7d h;rw [e]at this;simp at this
theorem zj5(O:Store)(p:Nat)(key:Hash)(P:List Hdr)(own:List Nat)(q:Hdr)(x:AV)(hT:PoR O p key P own)(hs:PSort P)(hl:P.length<=16)(hx:SlV 32 (hr q.p) x)(hx1:z1e key q.n q.i q.r q.s q.p=0->x=z13 32 (hr q.p)):
  ACallsP TC 15 [.ptr p 0 0,.agg (sgC q.n q.r q.i q.s x)] O (PoRAddP O p key P own q):=by
 by_cases h:addC key P q=2 \/addC key P q=3
 ·obtain⟨h0,h1,h2⟩:=zc4 h
  exact zs8 O p key P own q x hT hs h2 hx (hx1 h0) h0 h1
 ·exact(zs9 O p key P own q x _ hT hs hl hx rfl (fun e=>h (.inl e)) (fun e=>h (.inr e))).toP ⟨rfl,_,.ext (.refl _),by unfold addL;rw [if_neg h];exact hT⟩
theorem PoIs.has{O:Store}{p:Nat}{key:Hash}{P:List Hdr}{own:List Nat}(h:PoIs O p key P own)(hs:PSort P)(hl:P.length<1000000)(m:Int)(k:Hash):ACallsTo TC 30 [.ptr p 0 0,.agg (.int .i64 m::hc k)] O (.bool (isP P m k)) O:=by
 obtain⟨v,sid,rfl,hp,hr1,hn⟩:=h
 exact zrq O p key v sid P m k hp hr1 hs hl
theorem zd4(h:Hdr):zd3 h.n h.n h.i h.i h.r h.r h.s h.s h.p h.p=true:=decide_eq_true ⟨rfl,rfl,rfl,rfl,rfl⟩
attribute [local irreducible] ACallsTo ACallsP
theorem zlk(O:Store)(P:List Hdr)(sid:Option Nat)(x y:AV)(hx:SlV 36 (hdrs P) x)(hy:RowAt 36 O sid y (hdrs P))(hl:P.length<1000000)(hp:∀q ∈ P,q.p.length<1000000):
  ACallsTo TC 57 [x,y] O (.bool true) O:=by
 have r1:=hx.len
 have r2:=hy.rd.len
 rw [z7]at r1 r2
 unfold z1j at r1 r2
 refine ACallsTo.of_body q2bok (by simp) fun hw _=> ?_
 repeat' (first|apply zs_|apply zb_|apply zc_|apply zt_ rfl|apply zf_ rfl|(apply zd_ rfl<;>intro ht<;>try omega)|((first|apply zr_|apply zk_|apply ze_|apply zq_|(apply zG<;>intro ht));all_goals try simp (disch:=first|omega|(simp only [lens,z6,z8,zg,z7,zi,zj,zm,lQt,lQd,List.length_replicate];first|done|omega)) only [go_sem,r1,r2]))
 refine zW.loop (fun t J O'=>∃i:Nat,t+i=P.length/\ O'=O/\ J 0=x/\ J 1=y/\ J 5=.int .i64 i) P.length ?_ ?_
 ·exact⟨0,by omega,rfl,by simp (disch:=first|omega|(simp only [lens,z6,z8,zg,z7,zi,zj,zm,lQt,lQd,List.length_replicate];first|done|omega)) only [go_sem],by simp (disch:=first|omega|(simp only [lens,z6,z8,zg,z7,zi,zj,zm,lQt,lQd,List.length_replicate];first|done|omega)) only [go_sem],by simp (disch:=first|omega|(simp only [lens,z6,z8,zg,z7,zi,zj,zm,lQt,lQd,List.length_replicate];first|done|omega)) only [go_sem];try rfl⟩
 ·rintro t J O' ⟨i,ht,rfl,q0,q1,q5⟩
  by_cases hi:i<P.length
  ·obtain⟨ex,rfl⟩:=hx.vsl (by rw [z7];omega)
   rcases hy with⟨_,h0,_⟩| ⟨q,_,hne,rfl,hq⟩
   ·have:=congrArg List.length h0;rw [z7]at this;simp at this;rw [this]at hi;simp at hi
   rw [z7]at q1
   have dq:=slen hq
   have hgi:=z3i hi
   have hdl:=z7 P
   have hpp:=hp P[i] (List.getElem_mem hi)
   generalize P[i]=u at*
   have hul:=zg u
   have ua:(hdrC u).take 36=hdrC u:=z3y u
   have hS:=fun O=>ze1 O u.n u.n u.i u.i u.r u.r u.s u.s u.p u.p _ _ (z1x 32 (hr u.p)) (z1x 32 (hr u.p)) hpp hpp
   rw [zd4,show sgC u.n u.r u.i u.s (z13 32 (hr u.p))=hdrC u from rfl]at hS
   repeat' (first|apply zs_|apply zb_|apply zc_|apply zt_ rfl|apply zf_ rfl|(apply zd_ rfl<;>intro ht<;>try omega)|((first|apply zr_|apply zk_|apply ze_|apply zq_|(apply callW.mk_pu;(first|exact(fun _=>hS _)))|(apply callW.za;(first|exact(hS _)))|(apply zG<;>intro ht));all_goals try simp (disch:=first|omega|(simp only [lens,z6,z8,zg,z7,zi,zj,zm,lQt,lQd,List.length_replicate];first|done|omega)) only [go_sem,q0,q1,q5,hq,hgi,hdl,hul,ua]))
   exact⟨t-1,by omega,i+1,by omega,by simp⟩
  ·obtain rfl:i=P.length:=by omega
   repeat' (first|apply zs_|apply zb_|apply zc_|apply zt_ rfl|apply zf_ rfl|(apply zd_ rfl<;>intro ht<;>try omega)|((first|apply zr_|apply zk_|apply ze_|apply zq_|(apply zG<;>intro ht));all_goals try simp (disch:=first|omega|(simp only [lens,z6,z8,zg,z7,zi,zj,zm,lQt,lQd,List.length_replicate];first|done|omega)) only [go_sem,q0,q1,q5,r1]))
   exact DownV.same hw z1f
theorem zl8(O:Store)(P:List Hdr)(x y:AV)(hx:SlV 33 (kn P) x)(hy:SlV 33 (kn P) y)(hl:P.length<1000000):
  ACallsTo TC 58 [x,y] O (.bool true) O:=by
 have r1:=hx.len
 have r2:=hy.len
 rw [zj]at r1 r2
 unfold z1j at r1 r2
 refine ACallsTo.of_body q2cok (by simp) fun hw _=> ?_
 repeat' (first|apply zs_|apply zb_|apply zc_|apply zt_ rfl|apply zf_ rfl|(apply zd_ rfl<;>intro ht<;>try omega)|((first|apply zr_|apply zk_|apply ze_|apply zq_|(apply zG<;>intro ht));all_goals try simp (disch:=first|omega|(simp only [lens,z6,z8,zg,z7,zi,zj,zm,lQt,lQd,List.length_replicate];first|done|omega)) only [go_sem,r1,r2]))
 refine zW.loop (fun t J O'=>∃i:Nat,t+i=P.length/\ O'=O/\ J 0=x/\ J 1=y/\ J 5=.int .i64 i) P.length ?_ ?_
 ·exact⟨0,by omega,rfl,by simp (disch:=first|omega|(simp only [lens,z6,z8,zg,z7,zi,zj,zm,lQt,lQd,List.length_replicate];first|done|omega)) only [go_sem],by simp (disch:=first|omega|(simp only [lens,z6,z8,zg,z7,zi,zj,zm,lQt,lQd,List.length_replicate];first|done|omega)) only [go_sem],by simp (disch:=first|omega|(simp only [lens,z6,z8,zg,z7,zi,zj,zm,lQt,lQd,List.length_replicate];first|done|omega)) only [go_sem];try rfl⟩
 ·rintro t J O' ⟨i,ht,rfl,q0,q1,q5⟩
  by_cases hi:i<P.length
  ·obtain⟨ex,rfl⟩:=hx.vsl (by rw [zj];omega)
   obtain⟨ey,rfl⟩:=hy.vsl (by rw [zj];omega)
   have ga:=zd6 hi
   have la:=zj P
   generalize P[i]=u at*
   have ul:=z6 u.r
   have he:=z63 u.n u.n u.r u.r
   rw [decide_eq_true ⟨rfl,rfl⟩]at he
   repeat' (first|apply zs_|apply zb_|apply zc_|apply zt_ rfl|apply zf_ rfl|(apply zd_ rfl<;>intro ht<;>try omega)|((first|apply zr_|apply zk_|apply ze_|apply zq_|(apply zG<;>intro ht));all_goals try simp (disch:=first|omega|(simp only [lens,z6,z8,zg,z7,zi,zj,zm,lQt,lQd,List.length_replicate];first|done|omega)) only [go_sem,q0,q1,q5,ga,la,ul,he,z1i,eq_self,and_self,if_true]))
   exact⟨t-1,by omega,i+1,by omega,by simp⟩
  ·obtain rfl:i=P.length:=by omega
   repeat' (first|apply zs_|apply zb_|apply zc_|apply zt_ rfl|apply zf_ rfl|(apply zd_ rfl<;>intro ht<;>try omega)|((first|apply zr_|apply zk_|apply ze_|apply zq_|(apply zG<;>intro ht));all_goals try simp (disch:=first|omega|(simp only [lens,z6,z8,zg,z7,zi,zj,zm,lQt,lQd,List.length_replicate];first|done|omega)) only [go_sem,q0,q1,q5,r1]))
   exact DownV.same hw z1f
attribute [local irreducible] zb7
theorem zlw{τ:Store}(hw:Wf τ.length τ)(O:Store)(p r:Nat)(key key':Hash)(P:List Hdr)(own own':List Nat)(J:Env)(hP:PoIs O p key P own)(hR:PoR O r key' P own')(hs:PSort P)(hl:P.length<=16)(hx:Ext τ O)(q0:J 0=.ptr p 0 0)(q1:J 1=.ptr r 0 0):
  zW TC 84 τ.length zb7 (endQ τ.length [.t 4] (.bool true) τ) J O:=by
 unfold zb7
 repeat' (first|apply zs_|apply zb_|apply zc_|apply zt_ rfl|apply zf_ rfl|(apply zd_ rfl<;>intro ht<;>try omega)|((first|apply zr_|apply zk_|apply ze_|apply zq_|(apply zG<;>intro ht));all_goals try simp (disch:=first|omega|(simp only [lens,z6,z8,zg,z7,zi,zj,zm,lQt,lQd,List.length_replicate];first|done|omega)) only [go_sem,q0,q1]))
 refine zW.loop (fun t J O'=>∃i:Nat,t+i=8/\ Ext O O'/\ J 0=.ptr p 0 0/\ J 1=.ptr r 0 0/\ J 9=.int .i64 i) 8 ?_ ?_
 ·exact⟨0,by omega,.refl _,by simp (disch:=first|omega|(simp only [lens,z6,z8,zg,z7,zi,zj,zm,lQt,lQd,List.length_replicate];first|done|omega)) only [go_sem,q0],by simp (disch:=first|omega|(simp only [lens,z6,z8,zg,z7,zi,zj,zm,lQt,lQd,List.length_replicate];first|done|omega)) only [go_sem,q1],by simp (disch:=first|omega|(simp only [lens,z6,z8,zg,z7,zi,zj,zm,lQt,lQd,List.length_replicate];first|done|omega)) only [go_sem];try rfl⟩
 ·rintro t J O' ⟨i,ht,hE,q0,q1,q9⟩
  by_cases hi:i<8
  ·have hP':=hP.ext hE
   have hR':=hR.ext hE
   have e3:((i:Int))%3=((i%3:Nat):Int):=by omega
   have hh:=zhd (UInt8.ofNat (i%3))
   have hu:(UInt8.ofNat (i%3)).toNat=i%3:=by rw [UInt8.toNat_ofNat'];omega
   rw [hu]at hh
   have hA:=fun y=>(hP'.ext (O':=O'++y) ⟨y,rfl⟩).has hs (by omega) (i:Int) (rt2 (UInt8.ofNat (i%3)))
   have hB:=fun y=>zdx (O'++y) r key' P own' (i:Int) (rt2 (UInt8.ofNat (i%3))) (hR'.ext ⟨y,rfl⟩) hs (by omega)
   rw [hh]at hA hB
   generalize isP P (i:Int) (rt2 (UInt8.ofNat (i%3)))=b at*
   repeat' (first|apply zs_|apply zb_|apply zc_|apply zt_ rfl|apply zf_ rfl|(apply zd_ rfl<;>intro ht<;>try omega)|((first|apply zr_|apply zk_|apply ze_|apply zq_|(apply callW.mk_pu;(first|exact(fun _=>hA _)|exact(fun _=>hB _)))|(apply callW.za;(first|exact(hA _)|exact(hB _)))|(apply zG<;>intro ht));all_goals try simp (disch:=first|omega|(simp only [lens,z6,z8,zg,z7,zi,zj,zm,lQt,lQd,List.length_replicate];first|done|omega)) only [go_sem,q0,q1,q9,e3]))
   exact⟨t-1,by omega,i+1,by omega,hE.app,by simp⟩
  ·obtain rfl:i=8:=by omega
   repeat' (first|apply zs_|apply zb_|apply zc_|apply zt_ rfl|apply zf_ rfl|(apply zd_ rfl<;>intro ht<;>try omega)|((first|apply zr_|apply zk_|apply ze_|apply zq_|(apply zG<;>intro ht));all_goals try simp (disch:=first|omega|(simp only [lens,z6,z8,zg,z7,zi,zj,zm,lQt,lQd,List.length_replicate];first|done|omega)) only [go_sem,q0,q1,q9]))
   exact Ext.pure hw (hx.trans hE) z1f
theorem zfp(O:Store)(p r:Nat)(key key':Hash)(P:List Hdr)(own own':List Nat)(hP:PoIs O p key P own)(hR:PoR O r key' P own')(ho:POk key P):
  ACallsTo TC 16 [.ptr p 0 0,.ptr r 0 0] O (.bool true) O:=by
 obtain⟨o,hF⟩:=ForkIs.ex P
 have hl:=ho.len
 have hpth:=ho.path
 have hF1:=zsb O r key' P own' o hR hF (by omega)
 have hF2:=zrp O p key P own o hP hF (by omega) hpth
 have hH:=fun y=>zrs (O++y) p key P own (hP.ext ⟨y,rfl⟩) (by omega) hpth
 have hK1:=fun y=>zax (O++y) p key P own (hP.ext ⟨y,rfl⟩) (by omega)
 have hK2:=fun y=>zsc (O++y) r key' P own' (hR.ext ⟨y,rfl⟩) (by omega)
 have hHd:=fun O=>zl8 O P _ _ (z1x 33 (kn P)) (z1x 33 (kn P)) (by omega)
 have hLoop:=fun(hw:Wf O.length O) y J h1 h2=>zlw hw (O++y) p r key key' P own own' J (hP.ext ⟨y,rfl⟩) (hR.ext ⟨y,rfl⟩) ho.sort hl ⟨y,rfl⟩ h1 h2
 obtain⟨v,sid,rfl,hrr,hr1,hn⟩:=hR
 have d:=slen hrr
 have l:=zm key' v
 have g:=z7p key' v
 have hSm:=fun y=>zlk (O++y) P sid _ v (z1x 36 (hdrs P)) (hr1.keep fun q e=>gapp (hr1.lt e)) (by omega) hpth
 cases o with
 |none=>
  unfold z8r at hF1
  unfold z8q at hF2
  have zl:=zg hdr0
  have zd:List.drop 36 (hdrC hdr0)=[]:=rfl
  refine ACallsTo.of_body q27ok (by simp) fun hw _=> ?_
  repeat' (first|apply zs_|apply zb_|apply zc_|apply zt_ rfl|apply zf_ rfl|(apply zd_ rfl<;>intro ht<;>try omega)|((first|apply zr_|apply zk_|apply ze_|apply zq_|(apply callW.mk_pu;(first|exact(fun _=>hF1)|exact(fun _=>hF2)|exact(fun _=>hH _)|exact(fun _=>hSm _)|exact(fun _=>hK1 _)|exact(fun _=>hK2 _)|exact(fun _=>hHd _)))|(apply callW.za;(first|exact(hF1)|exact(hF2)|exact(hH _)|exact(hSm _)|exact(hK1 _)|exact(hK2 _)|exact(hHd _)))|(apply zG<;>intro ht));all_goals try simp (disch:=first|omega|(simp only [lens,z6,z8,zg,z7,zi,zj,zm,lQt,lQd,List.length_replicate];first|done|omega)) only [go_sem,hrr,l,g,zl,zd,List.append_nil]))
  exact hLoop hw _ _ (by simp (disch:=first|omega|(simp only [lens,z6,z8,zg,z7,zi,zj,zm,lQt,lQd,List.length_replicate];first|done|omega)) only [go_sem]) (by simp (disch:=first|omega|(simp only [lens,z6,z8,zg,z7,zi,zj,zm,lQt,lQd,List.length_replicate];first|done|omega)) only [go_sem])
 |some j=>
  obtain⟨h1,h2,h3⟩:=hF
  have ea:P.getD j hdr0=P[j]:=by rw [List.getD_eq_getElem?_getD,List.getElem?_eq_getElem (by omega)];rfl
  have eb:P.getD (j+1) hdr0=P[j+1]:=by rw [List.getD_eq_getElem?_getD,List.getElem?_eq_getElem h1];rfl
  unfold z8r at hF1
  have hV:z8q P (some j)=.tup [.agg (hdrC P[j]),.agg (hdrC P[j+1]),.bool true]:=by
   show AV.tup [.agg (hdrC (P.getD j hdr0)),.agg (hdrC (P.getD (j+1) hdr0)),.bool true]=_
   rw [ea,eb]
  rw [hV]at hF2
  rcases hr1 with⟨_,h0,_⟩| ⟨q,_,hne,rfl,hq⟩
  ·have:=congrArg List.length h0;rw [z7]at this;simp at this;rw [this]at h1;simp at h1
  rw [z7]at hrr l g hSm
  have dq:=slen hq
  have hdl:=z7 P
  have hga:=z3i (H:=P) (i:=j) (by omega)
  have hgb:=z3i h1
  have hpa:=hpth P[j] (List.getElem_mem _)
  have hpb:=hpth P[j+1] (List.getElem_mem _)
  have hk:(j:Int)+1=((j+1:Nat):Int):=by omega
  generalize P[j]=a at*
  generalize P[j+1]=b at*
  have la:=zg a
  have lb:=zg b
  have ta:(hdrC a).take 36=hdrC a:=z3y a
  have tb:(hdrC b).take 36=hdrC b:=z3y b
  have za:List.drop 36 (hdrC a)=[]:=List.drop_of_length_le (by omega)
  have zb:List.drop 36 (hdrC b)=[]:=List.drop_of_length_le (by omega)
  have hSa:=fun O=>ze1 O a.n a.n a.i a.i a.r a.r a.s a.s a.p a.p _ _ (z1x 32 (hr a.p)) (z1x 32 (hr a.p)) hpa hpa
  rw [zd4,show sgC a.n a.r a.i a.s (z13 32 (hr a.p))=hdrC a from rfl]at hSa
  have hSb:=fun O=>ze1 O b.n b.n b.i b.i b.r b.r b.s b.s b.p b.p _ _ (z1x 32 (hr b.p)) (z1x 32 (hr b.p)) hpb hpb
  rw [zd4,show sgC b.n b.r b.i b.s (z13 32 (hr b.p))=hdrC b from rfl]at hSb
  refine ACallsTo.of_body q27ok (by simp) fun hw _=> ?_
  repeat' (first|apply zs_|apply zb_|apply zc_|apply zt_ rfl|apply zf_ rfl|(apply zd_ rfl<;>intro ht<;>try omega)|((first|apply zr_|apply zk_|apply ze_|apply zq_|(apply callW.mk_pu;(first|exact(fun _=>hF1)|exact(fun _=>hF2)|exact(fun _=>hH _)|exact(fun _=>hSm _)|exact(fun _=>hK1 _)|exact(fun _=>hK2 _)|exact(fun _=>hHd _)|exact(fun _=>hSa _)|exact(fun _=>hSb _)))|(apply callW.za;(first|exact(hF1)|exact(hF2)|exact(hH _)|exact(hSm _)|exact(hK1 _)|exact(hK2 _)|exact(hHd _)|exact(hSa _)|exact(hSb _)))|(apply zG<;>intro ht));all_goals try simp (disch:=first|omega|(simp only [lens,z6,z8,zg,z7,zi,zj,zm,lQt,lQd,List.length_replicate];first|done|omega)) only [go_sem,hrr,l,g,hq,hdl,hga,hgb,hk,la,lb,ta,tb,za,zb,List.append_nil]))
  exact hLoop hw _ _ (by simp (disch:=first|omega|(simp only [lens,z6,z8,zg,z7,zi,zj,zm,lQt,lQd,List.length_replicate];first|done|omega)) only [go_sem]) (by simp (disch:=first|omega|(simp only [lens,z6,z8,zg,z7,zi,zj,zm,lQt,lQd,List.length_replicate];first|done|omega)) only [go_sem])
end
section
theorem Fr.dj{O O':Store}{o1 o1' o2:List Nat}(h:Fr O O' o1 o1')(hl:∀j,j ∈ o2->j<O.length)(hd:∀j,j ∈ o1->j ∉ o2):∀j,j ∈ o1'->j ∉ o2:=fun j hj h2=>by
 rcases h.new j hj with h3|h3
 ·exact hd j h3 h2
 ·have:=hl j h2;omega
theorem PoIs.fr{O O':Store}{p:Nat}{key:Hash}{P:List Hdr}{o ox ox':List Nat}(h:PoIs O p key P o)(hf:Fr O O' ox ox')(hd:∀j,j ∈ ox->j ∉ o):PoIs O' p key P o:=
 h.keep fun j hj=>hf.st j (h.lt hj) fun e=>hd j e hj
theorem PoR.fr{O O':Store}{p:Nat}{key:Hash}{P:List Hdr}{o ox ox':List Nat}(h:PoR O p key P o)(hf:Fr O O' ox ox')(hd:∀j,j ∈ ox->j ∉ o):PoR O' p key P o:=
 h.keep fun j hj=>hf.st j (h.lt hj) fun e=>hd j e hj
structure PlS(O:Store)(key:Hash)(P:List Hdr)(raw tr:List AV)(pp rp:Nat)(o1 o2:List Nat):Prop where
 p:PoIs O pp key P o1
 r:PoR O rp key P o2
 d:∀j,j ∈ o1->j ∉ o2
 n0:0 ∉ o1/\ 0 ∉ o2
 n1:1 ∉ o1/\ 1 ∉ o2
 g0:O[0]? =some (some [raw])
 g1:O[1]? =some (some [tr])
 ok:POk key P
theorem PlS.ext{O O':Store}{key:Hash}{P:List Hdr}{raw tr:List AV}{pp rp:Nat}{o1 o2:List Nat}(h:PlS O key P raw tr pp rp o1 o2)(he:Ext O O'):PlS O' key P raw tr pp rp o1 o2:=by
 have g0:=h.g0
 have g1:=h.g1
 refine⟨h.p.ext he,h.r.ext he,h.d,h.n0,h.n1,?_,?_,h.ok⟩
 ·obtain⟨y,rfl⟩:=he;rw [gapp (slen g0)];exact g0
 ·obtain⟨y,rfl⟩:=he;rw [gapp (slen g1)];exact g1
theorem PlS.other{O O':Store}{key:Hash}{P:List Hdr}{raw tr:List AV}{pp rp:Nat}{o1 o2 ox ox':List Nat}(h:PlS O key P raw tr pp rp o1 o2)(hf:Fr O O' ox ox')(h1:∀j,j ∈ ox->j ∉ o1)(h2:∀j,j ∈ ox->j ∉ o2)(h3:0 ∉ ox)(h4:1 ∉ ox):PlS O' key P raw tr pp rp o1 o2:=
 ⟨h.p.fr hf h1,h.r.fr hf h2,h.d,h.n0,h.n1,hf.get h.g0 h3,hf.get h.g1 h4,h.ok⟩
theorem PlS.add{O O2 O3:Store}{key:Hash}{P:List Hdr}{raw tr:List AV}{pp rp:Nat}{o1 o2 o1' o2':List Nat}{q:Hdr}(h:PlS O key P raw tr pp rp o1 o2)(f1:Fr O O2 o1 o1')(P1:PoIs O2 pp key (addL key P q) o1')(f2:Fr O2 O3 o2 o2')(R1:PoR O3 rp key (addL key P q) o2'):
  PlS O3 key (addL key P q) raw tr pp rp o1' o2'/\ (∀j o,O[j]? =some o->j ∉ o1->j ∉ o2->O3[j]? =some o/\ j ∉ o1'/\ j ∉ o2'):=by
 have d1:∀j,j ∈ o1'->j ∉ o2:=f1.dj (fun j hj=>h.r.lt hj) h.d
 have d2:∀j,j ∈ o2'->j ∉ o1':=f2.dj (fun j hj=>P1.lt hj) fun j hj hn=>d1 j hn hj
 have oth:∀j o,O[j]? =some o->j ∉ o1->j ∉ o2->O3[j]? =some o/\ j ∉ o1'/\ j ∉ o2':=fun j o hj h1 h2=>by
  have k1:=f1.nin (slen hj) h1
  have e1:=f1.get hj h1
  exact⟨f2.get e1 h2,k1,f2.nin (slen e1) h2⟩
 obtain⟨a0,b0,c0⟩:=oth 0 _ h.g0 h.n0.1 h.n0.2
 obtain⟨a1,b1,c1⟩:=oth 1 _ h.g1 h.n1.1 h.n1.2
 exact⟨⟨P1.fr f2 fun j hj hn=>d1 j hn hj,R1,fun j hj hn=>d2 j hn hj,⟨b0,c0⟩,⟨b1,c1⟩,a0,a1,h.ok.add q⟩,oth⟩
abbrev Sn:=Nat × Nat × Nat × Nat
def snC(s:Sn):List AV:=[.int .u8 s.1,.int .u8 s.2.1,.int .u8 s.2.2.1,.int .u8 s.2.2.2]
def sns(L:List Sn):List (List AV):=L.map snC
theorem z1o(L:List Sn):(sns L).length=L.length:=by simp [sns]
theorem ztz{L:List Sn}{i:Nat}(h:i<L.length):(sns L)[i]? =some (snC L[i]):=by simp [sns,List.getElem?_eq_getElem h]
def SnOk(s:Sn):Prop:=s.1<256/\ s.2.1<256/\ s.2.2.1<256/\ s.2.2.2<256
def snH(seed:List UInt8)(s:Sn):Hdr:=z61 seed s.1 s.2.1 s.2.2.1 s.2.2.2
attribute [local irreducible] ACallsTo ACallsP
theorem zrl(seed:List UInt8)(hsd:seed.length<1000000)(q:Hdr)(xq:AV)(hx:SlV 32 (hr q.p) xq)(hx1:q.p ≠ []->xq=z13 32 (hr q.p))(hxl:q.p.length<1000000)(L:List Sn)(hL:∀s ∈ L,SnOk s)(x:AV)(hxs:SlV 4 (sns L) x)(O:Store)(P:List Hdr)(o1 o2:List Nat)(i:Nat)(hi:i<L.length)(J:Env)
  (hS:PlS O (z1c (keyL seed)) P (sgC q.n q.r q.i q.s xq) (z1k true seed (keyL seed)) 3 4 o1 o2)
  (q0:J 0=x) (q3:J 3=.ptr 0 0 0) (q5:J 5=.ptr 1 0 0) (q6:J 6=.ptr 3 0 0) (q7:J 7=.ptr 4 0 0) (q8:J 8=.int .i64 i) (Q:AExit->Env->Store->Prop)
  (hQ:∀(J':Env) (O':Store) (P':List Hdr) (o1' o2':List Nat),PlS O' (z1c (keyL seed)) P' (sgC q.n q.r q.i q.s xq) (z1k true seed (keyL seed)) 3 4 o1' o2'->J' 0=x->J' 3=.ptr 0 0 0->J' 5=.ptr 1 0 0->J' 6=.ptr 3 0 0->J' 7=.ptr 4 0 0->J' 8=.int .i64 i->Q .normal J' O'):
  zW TC 90 0 zb4 Q J O:=by
 obtain⟨ex,rfl⟩:=hxs.vsl (by rw [z1o];omega)
 have hgi:=ztz hi
 have hsl:=z1o L
 have hsk:=hL L[i] (List.getElem_mem hi)
 generalize L[i]=s at*
 have hOf:=zjz O 1 seed s.1 s.2.1 s.2.2.1 s.2.2.2 hS.g1 hsd hsk.1 hsk.2.1 hsk.2.2.1 hsk.2.2.2
 rw [show z61 seed s.1 s.2.1 s.2.2.1 s.2.2.2=snH seed s from rfl]at hOf
 have hsp:(snH seed s).p.length=3:=zjy _ _ _ _ _
 have hql:=z8 q.n q.r q.i q.s xq
 generalize snH seed s=h at*
 have lh:=zg h
 have th:(hdrC h).take 36=hdrC h:=z3y h
 have tq:(sgC q.n q.r q.i q.s xq).take 36=sgC q.n q.r q.i q.s xq:=List.take_of_length_le (by omega)
 unfold zb4
 repeat' (first|apply zs_|apply zb_|apply zc_|apply zt_ rfl|apply zf_ rfl|(apply zd_ rfl<;>intro ht<;>try omega)|((first|apply zr_|apply zk_|apply ze_|apply zq_|(apply callW.mk_pu;(first|exact(fun _=>hOf)))|(apply callW.za;(first|exact(hOf)))|(apply zG<;>intro ht));all_goals try simp (disch:=first|omega|(simp only [lens,z6,zh,z8,zg,z7,zi,zj,zm,lQt,lQd,List.length_replicate];first|done|omega)) only [go_sem,q0,q3,q5,q6,q7,q8,hgi,hsl,lh,snC]))
 have S1:=hS.ext (O':=O++ [some [hdrC h]]) ⟨_,rfl⟩
 have hl:=S1.ok.len
 refine callW.mkP (caps:=[]) (ziz (O++ [some [hdrC h]]) 3 _ P o1 S1.p (by omega) S1.ok.path) (PoCopyP.is _ _ P) ?_
 rintro v O2 ⟨cp,oc,rfl,hE2,hC,hco⟩
 have S2:=S1.ext hE2
 have g9:O2[O.length]? =some (some [hdrC h]):=by obtain⟨y,rfl⟩:=hE2;rw [List.append_assoc,z1h (Nat.le_refl _),Nat.sub_self];rfl
 have n9:O.length ∉ o1/\ O.length ∉ o2:=⟨fun e=>by have:=hS.p.lt e;omega,fun e=>by have:=hS.r.lt e;omega⟩
 have d0:=slen S2.g0
 have a1:∀j,j ∈ o1->j ∉ oc:=fun j hj hn=>by have:=hco j hn;have:=S1.p.lt hj;omega
 have a2:∀j,j ∈ o2->j ∉ oc:=fun j hj hn=>by have:=hco j hn;have:=S1.r.lt hj;omega
 have a3:0 ∉ oc/\ 1 ∉ oc:=⟨fun hn=>by have:=hco _ hn;have:=slen S1.g0;omega,fun hn=>by have:=hco _ hn;have:=slen S1.g1;omega⟩
 have hp0:h.p.length<1000000:=by omega
 have hQ:=fun J' O' P' o1' o2' H=>hQ J' O' P' o1' o2' H
 simp (disch:=first|omega|(simp only [lens,z6,zh,z8,zg,z7,zi,zj,zm,lQt,lQd,List.length_replicate];first|done|omega)) only [go_sem,q0,q3,q5,q6,q7,q8,g9,lh,th]
 repeat' (first|apply zs_|apply zb_|apply zc_|apply zt_ rfl|apply zf_ rfl|(apply zd_ rfl<;>intro ht<;>try omega)|((first|apply zr_|apply zk_|apply ze_|apply zq_|(apply zG<;>intro ht));all_goals try simp (disch:=first|omega|(simp only [lens,z6,zh,z8,zg,z7,zi,zj,zm,lQt,lQd,List.length_replicate];first|done|omega)) only [go_sem,q0,q3,q5,q6,q7,q8,g9,lh,th]))
 refine callW.mkP_ef (caps:=[]) (z6n O2 3 _ P o1 h _ S2.p S2.ok.sort hl (z1x _ _) hp0 (fun e=>zab e)) (PoAddP.is S2.p) ?_
 rintro v O3 ⟨rfl,o1',f1,P1⟩
 have g9b:=f1.get g9 n9.1
 refine⟨by simp (disch:=first|omega|(simp only [lens,z6,zh,z8,zg,z7,zi,zj,zm,lQt,lQd,List.length_replicate];first|done|omega)) only [go_sem,g9b,lh,th],?_⟩
 simp (disch:=first|omega|(simp only [lens,z6,zh,z8,zg,z7,zi,zj,zm,lQt,lQd,List.length_replicate];first|done|omega)) only [go_sem,q0,q3,q5,q6,q7,q8,g9,g9b,lh,th]
 repeat' (first|apply zs_|apply zb_|apply zc_|apply zt_ rfl|apply zf_ rfl|(apply zd_ rfl<;>intro ht<;>try omega)|((first|apply zr_|apply zk_|apply ze_|apply zq_|(apply zG<;>intro ht));all_goals try simp (disch:=first|omega|(simp only [lens,z6,zh,z8,zg,z7,zi,zj,zm,lQt,lQd,List.length_replicate];first|done|omega)) only [go_sem,q0,q3,q5,q6,q7,q8,g9,g9b,lh,th]))
 have R2:=S2.r.fr f1 S2.d
 have hA2:=zj5 O3 4 _ P o2 h _ R2 S2.ok.sort hl (z1x _ _) (fun _=>rfl)
 rw [show sgC h.n h.r h.i h.s (z13 32 (hr h.p))=hdrC h from rfl]at hA2
 refine callW.mkP (caps:=[]) hA2 (PoRAddP.is R2) ?_
 rintro v O4 ⟨rfl,o2',f2,R1⟩
 obtain⟨S4,oth⟩:=S2.add f1 P1 f2 R1
 have C3:=hC.fr f1 a1
 have C4:=C3.fr f2 a2
 have b1:=f1.dj (fun j hj=>hC.lt hj) a1
 have b2:=f2.dj (fun j hj=>C3.lt hj) a2
 have hAl:=zfp O4 3 4 _ _ _ o1' o2' S4.p S4.r S4.ok
 have hOf2:ACallsTo TC 12 [.agg [.int .u8 9,.int .u8 2,.int .u8 1,.int .u8 1],.ptr 1 0 0] O4 (.agg (hdrC (z61 seed 9 2 1 1))) O4:=zjz O4 1 seed 9 2 1 1 S4.g1 hsd (by omega) (by omega) (by omega) (by omega)
 have hzp:=zjy seed 9 2 1 1
 generalize z61 seed 9 2 1 1=z at*
 generalize addC (z1c (keyL seed)) P h=A1 at*
 have hl4:=S4.ok.len
 have hok4:=hS.ok
 generalize addL (z1c (keyL seed)) P h=P4 at*
 simp (disch:=first|omega|(simp only [lens,z6,zh,z8,zg,z7,zi,zj,zm,lQt,lQd,List.length_replicate];first|done|omega)) only [go_sem,q0,q3,q5,q6,q7,q8]
 repeat' (first|apply zs_|apply zb_|apply zc_|apply zt_ rfl|apply zf_ rfl|(apply zd_ rfl<;>intro ht<;>try omega)|((first|apply zr_|apply zk_|apply ze_|apply zq_|(apply callW.mk_pu;(first|exact(fun _=>hAl)|exact(fun _=>hOf2)))|(apply callW.za;(first|exact(hAl)|exact(hOf2)))|(apply zG<;>intro ht));all_goals try simp (disch:=first|omega|(simp only [lens,z6,zh,z8,zg,z7,zi,zj,zm,lQt,lQd,List.length_replicate];first|done|omega)) only [go_sem,q0,q3,q5,q6,q7,q8]))
 refine callW.mkP (caps:=[]) (z6n O4 cp _ P oc z _ C4 hok4.sort hl (z1x _ _) (by omega) (fun e=>zab e)) (PoAddP.is C4) ?_
 rintro v O5 ⟨rfl,oc',f3,C5⟩
 have S5:=S4.other f3 (fun j hj hn=>b1 j hn hj) (fun j hj hn=>b2 j hn hj) a3.1 a3.2
 have g0:=S5.g0
 have hqx:sgC q.n q.r q.i q.s xq=sgC q.n q.r q.i q.s xq:=rfl
 simp (disch:=first|omega|(simp only [lens,z6,zh,z8,zg,z7,zi,zj,zm,lQt,lQd,List.length_replicate];first|done|omega)) only [go_sem,q0,q3,q5,q6,q7,q8,g0,hql,tq]
 repeat' (first|apply zs_|apply zb_|apply zc_|apply zt_ rfl|apply zf_ rfl|(apply zd_ rfl<;>intro ht<;>try omega)|((first|apply zr_|apply zk_|apply ze_|apply zq_|(apply zG<;>intro ht));all_goals try simp (disch:=first|omega|(simp only [lens,z6,zh,z8,zg,z7,zi,zj,zm,lQt,lQd,List.length_replicate];first|done|omega)) only [go_sem,q0,q3,q5,q6,q7,q8,g0,hql,tq]))
 refine callW.mkP_ef (caps:=[]) (z6n O5 3 _ P4 o1' q xq S5.p S5.ok.sort hl4 hx hxl (fun e=>zab e)) (PoAddP.is S5.p) ?_
 rintro v O6 ⟨rfl,o1a,f4,P6⟩
 have g0b:=f4.get g0 S5.n0.1
 refine⟨by simp (disch:=first|omega|(simp only [lens,z6,zh,z8,zg,z7,zi,zj,zm,lQt,lQd,List.length_replicate];first|done|omega)) only [go_sem,g0b,hql,tq],?_⟩
 simp (disch:=first|omega|(simp only [lens,z6,zh,z8,zg,z7,zi,zj,zm,lQt,lQd,List.length_replicate];first|done|omega)) only [go_sem,q0,q3,q5,q6,q7,q8,g0,g0b,hql,tq]
 repeat' (first|apply zs_|apply zb_|apply zc_|apply zt_ rfl|apply zf_ rfl|(apply zd_ rfl<;>intro ht<;>try omega)|((first|apply zr_|apply zk_|apply ze_|apply zq_|(apply zG<;>intro ht));all_goals try simp (disch:=first|omega|(simp only [lens,z6,zh,z8,zg,z7,zi,zj,zm,lQt,lQd,List.length_replicate];first|done|omega)) only [go_sem,q0,q3,q5,q6,q7,q8,g0,g0b,hql,tq]))
 have R6:=S5.r.fr f4 S5.d
 have hA3:=zj5 O6 4 _ P4 o2' q xq R6 S5.ok.sort hl4 hx (fun e=>hx1 (zab e))
 refine callW.mkP (caps:=[]) hA3 (PoRAddP.is R6) ?_
 rintro v O7 ⟨rfl,o2a,f5,R7⟩
 obtain⟨S7,_⟩:=S5.add f4 P6 f5 R7
 have hAl2:=zfp O7 3 4 _ _ _ o1a o2a S7.p S7.r S7.ok
 generalize addC (z1c (keyL seed)) P4 q=A2 at*
 have hl7:=S7.ok.len
 generalize addL (z1c (keyL seed)) P4 q=P7 at*
 simp (disch:=first|omega|(simp only [lens,z6,zh,z8,zg,z7,zi,zj,zm,lQt,lQd,List.length_replicate];first|done|omega)) only [go_sem,q0,q3,q5,q6,q7,q8]
 repeat' (first|apply zs_|apply zb_|apply zc_|apply zt_ rfl|apply zf_ rfl|(apply zd_ rfl<;>intro ht<;>try omega)|((first|apply zr_|apply zk_|apply ze_|apply zq_|(apply callW.mk_pu;(first|exact(fun _=>hAl2)))|(apply callW.za;(first|exact(hAl2)))|(apply zG<;>intro ht));all_goals try simp (disch:=first|omega|(simp only [lens,z6,zh,z8,zg,z7,zi,zj,zm,lQt,lQd,List.length_replicate];first|done|omega)) only [go_sem,q0,q3,q5,q6,q7,q8]))
 refine callW.mkP (caps:=[]) (ziz O7 3 _ P7 o1a S7.p (by omega) S7.ok.path) (PoCopyP.is _ _ P7) ?_
 rintro v O8 ⟨cp2,oc2,rfl,hE8,hC8,hco8⟩
 have S8:=S7.ext hE8
 have hSm:=zrt O8 3 cp2 _ _ P7 P7 o1a oc2 S8.p hC8 (by omega) (by omega)
 rw [decide_eq_true rfl]at hSm
 simp (disch:=first|omega|(simp only [lens,z6,zh,z8,zg,z7,zi,zj,zm,lQt,lQd,List.length_replicate];first|done|omega)) only [go_sem,q0,q3,q5,q6,q7,q8]
 repeat' (first|apply zs_|apply zb_|apply zc_|apply zt_ rfl|apply zf_ rfl|(apply zd_ rfl<;>intro ht<;>try omega)|((first|apply zr_|apply zk_|apply ze_|apply zq_|(apply callW.mk_pu;(first|exact(fun _=>hSm)))|(apply callW.za;(first|exact(hSm)))|(apply zG<;>intro ht));all_goals try simp (disch:=first|omega|(simp only [lens,z6,zh,z8,zg,z7,zi,zj,zm,lQt,lQd,List.length_replicate];first|done|omega)) only [go_sem,q0,q3,q5,q6,q7,q8]))
 exact hQ _ O8 P7 o1a o2a S8 (by simp (disch:=first|omega|(simp only [lens,z6,zh,z8,zg,z7,zi,zj,zm,lQt,lQd,List.length_replicate];first|done|omega)) only [go_sem,q0]) (by simp (disch:=first|omega|(simp only [lens,z6,zh,z8,zg,z7,zi,zj,zm,lQt,lQd,List.length_replicate];first|done|omega)) only [go_sem,q3]) (by simp (disch:=first|omega|(simp only [lens,z6,zh,z8,zg,z7,zi,zj,zm,lQt,lQd,List.length_replicate];first|done|omega)) only [go_sem,q5]) (by simp (disch:=first|omega|(simp only [lens,z6,zh,z8,zg,z7,zi,zj,zm,lQt,lQd,List.length_replicate];first|done|omega)) only [go_sem,q6]) (by simp (disch:=first|omega|(simp only [lens,z6,zh,z8,zg,z7,zi,zj,zm,lQt,lQd,List.length_replicate];first|done|omega)) only [go_sem,q7]) (by simp (disch:=first|omega|(simp only [lens,z6,zh,z8,zg,z7,zi,zj,zm,lQt,lQd,List.length_replicate];first|done|omega)) only [go_sem,q8])
end
section
def zee:Ty:=.row [.row [.int .i64,z6g],.row [.int .i64,.str,.sl 32 z6g]]
theorem ztb{a:AV}(h:Sh zee a):∃(q:Hdr) (x:AV),a=.agg (sgC q.n q.r q.i q.s x)/\ SlV 32 (hr q.p) x/\ (q.p ≠ []->x=z13 32 (hr q.p))/\ q.p.length<=maxLen/\ q.s.length<=maxLen:=by
 simp only [zee,Sh]at h
 obtain⟨cs,rfl,h⟩:=h
 simp only [z3b,ShC]at h
 obtain⟨A,B,rfl,hA,C,D,rfl,hC,rfl⟩:=h
 obtain⟨A1,A2,rfl,⟨n,rfl,n1,n2⟩,A3,A4,rfl,hA3,rfl⟩:=hA
 obtain⟨C1,C2,rfl,⟨i,rfl,i1,i2⟩,C3,C4,rfl,⟨s,rfl,hs⟩,C5,C6,rfl,hM,rfl⟩:=hC
 obtain⟨r,rfl⟩:=zoe hA3
 obtain⟨l,x,rfl,h3,h4⟩:=hslC_h (by simpa only [ShC]using hM)
 refine⟨⟨n,r,i,s,l⟩,x,by simp [sgC],h3,fun hne=> ?_,h4,hs⟩
 have hne':hr l ≠ []:=fun e=>hne (hr_nil_iff.1 e)
 unfold z13
 rw [if_neg hne']
 rcases h3 with⟨_,e⟩| ⟨ex,rfl⟩
 ·exact absurd e hne'
 ·rcases hM with hM| ⟨es,hM,_⟩
  ·cases hM
  ·cases hM;rfl
def z9e:Ty:=.row [.int .u8,.int .u8,.int .u8,.int .u8]
theorem ztx{cs:List AV}(h:ShC z9e cs):∃s:Sn,cs=snC s/\ SnOk s:=by
 simp only [z9e,ShC,z3b]at h
 obtain⟨A1,B1,rfl,⟨a,rfl,a0,a1⟩,A2,B2,rfl,⟨b,rfl,b0,b1⟩,A3,B3,rfl,⟨c,rfl,c0,c1⟩,A4,B4,rfl,⟨d,rfl,d0,d1⟩,rfl⟩:=h
 simp only [IntKind.min,IntKind.max,IntKind.signed,IntKind.bits]at a0 a1 b0 b1 c0 c1 d0 d1
 simp at a0 a1 b0 b1 c0 c1 d0 d1
 obtain⟨a,rfl⟩:∃k:Nat,a=k:=⟨a.toNat,by omega⟩
 obtain⟨b,rfl⟩:∃k:Nat,b=k:=⟨b.toNat,by omega⟩
 obtain⟨c,rfl⟩:∃k:Nat,c=k:=⟨c.toNat,by omega⟩
 obtain⟨d,rfl⟩:∃k:Nat,d=k:=⟨d.toNat,by omega⟩
 exact⟨(a,b,c,d),rfl,⟨by show a<256;omega,by show b<256;omega,by show c<256;omega,by show d<256;omega⟩⟩
theorem zty{x:AV}(h:ShC (.sl 4 z9e) [x]):∃L:List Sn,SlV 4 (sns L) x/\ L.length<=maxLen/\ ∀s ∈ L,SnOk s:=by
 simp only [ShC]at h
 rcases h with h| ⟨es,h,hl,_,h2⟩
 ·cases h
  exact⟨[],.inl ⟨rfl,rfl⟩,Nat.zero_le _,by simp⟩
 ·cases h
  have:∀es:List (List AV),(∀x ∈ es,ShC z9e x)->∃L:List Sn,es=sns L/\ ∀s ∈ L,SnOk s:=by
   intro es
   induction es with
   |nil=>intro _;exact⟨[],rfl,by simp⟩
   |cons e es ih=>
    intro h
    obtain⟨s,rfl,hs⟩:=ztx (h e (by simp))
    obtain⟨L,rfl,hL⟩:=ih fun x hx=>h x (by simp [hx])
    exact⟨s::L,rfl,fun z hz=>by rcases List.mem_cons.1 hz with rfl|h;exact hs;exact hL z h⟩
  obtain⟨L,rfl,hL⟩:=this es h2
  exact⟨L,.inr ⟨false,rfl⟩,by rwa [z1o]at hl,hL⟩
attribute [local irreducible] ACallsTo ACallsP zb4 zdt
theorem zrm(hw:Wf ([]:Store).length [])(seed:List UInt8)(hsd:seed.length<1000000)(q:Hdr)(xq:AV)(hx:SlV 32 (hr q.p) xq)(hx1:q.p ≠ []->xq=z13 32 (hr q.p))(hxl:q.p.length<1000000)(L:List Sn)(hL:∀s ∈ L,SnOk s)(hLl:L.length<=20)(x:AV)(hxs:SlV 4 (sns L) x)(O:Store)(o1 o2:List Nat)(J:Env)
  (hS:PlS O (z1c (keyL seed)) [] (sgC q.n q.r q.i q.s xq) (z1k true seed (keyL seed)) 3 4 o1 o2) (q0:J 0=x) (q3:J 3=.ptr 0 0 0) (q5:J 5=.ptr 1 0 0) (q6:J 6=.ptr 3 0 0) (q7:J 7=.ptr 4 0 0):
  zW TC 90 0 zb5 (endQ 0 [.t 4] (.bool true) []) J O:=by
 have r1:=hxs.len
 rw [z1o]at r1
 unfold z1j at r1
 unfold zb5 zdt
 repeat' (first|apply zs_|apply zb_|apply zc_|apply zt_ rfl|apply zf_ rfl|(apply zd_ rfl<;>intro ht<;>try omega)|((first|apply zr_|apply zk_|apply ze_|apply zq_|(apply zG<;>intro ht));all_goals try simp (disch:=first|omega|(simp only [lens,z6,zh,z8,zg,z7,zi,zj,zm,z1o,lQt,lQd,List.length_replicate];first|done|omega)) only [go_sem,q0,q3,q5,q6,q7]))
 refine zW.loop (fun t J O'=>∃(i:Nat) (P:List Hdr) (o1 o2:List Nat),t+i=L.length/\ PlS O' (z1c (keyL seed)) P (sgC q.n q.r q.i q.s xq) (z1k true seed (keyL seed)) 3 4 o1 o2/\ J 0=x/\ J 3=.ptr 0 0 0/\ J 5=.ptr 1 0 0/\ J 6=.ptr 3 0 0/\ J 7=.ptr 4 0 0/\ J 8=.int .i64 i) L.length ?_ ?_
 ·exact⟨0,[],o1,o2,by omega,hS,by simp (disch:=first|omega|(simp only [lens,z6,zh,z8,zg,z7,zi,zj,zm,z1o,lQt,lQd,List.length_replicate];first|done|omega)) only [go_sem,q0],by simp (disch:=first|omega|(simp only [lens,z6,zh,z8,zg,z7,zi,zj,zm,z1o,lQt,lQd,List.length_replicate];first|done|omega)) only [go_sem,q3],by simp (disch:=first|omega|(simp only [lens,z6,zh,z8,zg,z7,zi,zj,zm,z1o,lQt,lQd,List.length_replicate];first|done|omega)) only [go_sem,q5],by simp (disch:=first|omega|(simp only [lens,z6,zh,z8,zg,z7,zi,zj,zm,z1o,lQt,lQd,List.length_replicate];first|done|omega)) only [go_sem,q6],by simp (disch:=first|omega|(simp only [lens,z6,zh,z8,zg,z7,zi,zj,zm,z1o,lQt,lQd,List.length_replicate];first|done|omega)) only [go_sem,q7],by simp (disch:=first|omega|(simp only [lens,z6,zh,z8,zg,z7,zi,zj,zm,z1o,lQt,lQd,List.length_replicate];first|done|omega)) only [go_sem];try rfl⟩
 ·rintro t J O' ⟨i,P,o1,o2,ht,hS,q0,q3,q5,q6,q7,q8⟩
  by_cases hi:i<L.length
  ·have hb:=fun J' Q q0 q3 q5 q6 q7 q8 hQ=>zrl seed hsd q xq hx hx1 hxl L hL x hxs O' P o1 o2 i hi J' hS q0 q3 q5 q6 q7 q8 Q hQ
   repeat' (first|apply zs_|apply zb_|apply zc_|apply zt_ rfl|apply zf_ rfl|(apply zd_ rfl<;>intro ht<;>try omega)|((first|apply zr_|apply zk_|apply ze_|apply zq_|(apply zG<;>intro ht));all_goals try simp (disch:=first|omega|(simp only [lens,z6,zh,z8,zg,z7,zi,zj,zm,z1o,lQt,lQd,List.length_replicate];first|done|omega)) only [go_sem,q0,q3,q5,q6,q7,q8,r1]))
   refine hb _ _ (by simp (disch:=first|omega|(simp only [lens,z6,zh,z8,zg,z7,zi,zj,zm,z1o,lQt,lQd,List.length_replicate];first|done|omega)) only [go_sem,q0]) (by simp (disch:=first|omega|(simp only [lens,z6,zh,z8,zg,z7,zi,zj,zm,z1o,lQt,lQd,List.length_replicate];first|done|omega)) only [go_sem,q3]) (by simp (disch:=first|omega|(simp only [lens,z6,zh,z8,zg,z7,zi,zj,zm,z1o,lQt,lQd,List.length_replicate];first|done|omega)) only [go_sem,q5]) (by simp (disch:=first|omega|(simp only [lens,z6,zh,z8,zg,z7,zi,zj,zm,z1o,lQt,lQd,List.length_replicate];first|done|omega)) only [go_sem,q6]) (by simp (disch:=first|omega|(simp only [lens,z6,zh,z8,zg,z7,zi,zj,zm,z1o,lQt,lQd,List.length_replicate];first|done|omega)) only [go_sem,q7]) (by simp (disch:=first|omega|(simp only [lens,z6,zh,z8,zg,z7,zi,zj,zm,z1o,lQt,lQd,List.length_replicate];first|done|omega)) only [go_sem,q8]) ?_
   intro J2 O2 P2 p1 p2 S2 q0 q3 q5 q6 q7 q8
   show zW TC 90 0 _ _ _ _
   repeat' (first|apply zs_|apply zb_|apply zc_|apply zt_ rfl|apply zf_ rfl|(apply zd_ rfl<;>intro ht<;>try omega)|((first|apply zr_|apply zk_|apply ze_|apply zq_|(apply zG<;>intro ht));all_goals try simp (disch:=first|omega|(simp only [lens,z6,zh,z8,zg,z7,zi,zj,zm,z1o,lQt,lQd,List.length_replicate];first|done|omega)) only [go_sem,q0,q3,q5,q6,q7,q8]))
   exact⟨t-1,by omega,i+1,P2,p1,p2,by omega,S2,by simp⟩
  ·obtain rfl:i=L.length:=by omega
   repeat' (first|apply zs_|apply zb_|apply zc_|apply zt_ rfl|apply zf_ rfl|(apply zd_ rfl<;>intro ht<;>try omega)|((first|apply zr_|apply zk_|apply ze_|apply zq_|(apply callW.mk_pu;(first|exact(fun _=>z5y _)))|(apply callW.za;(first|exact(z5y _)))|(apply zG<;>intro ht));all_goals try simp (disch:=first|omega|(simp only [lens,z6,zh,z8,zg,z7,zi,zj,zm,z1o,lQt,lQd,List.length_replicate];first|done|omega)) only [go_sem,q0,q3,q5,q6,q7,q8,r1]))
   exact DownV.pure (τ:=[]) (news:=O') hw z1f
attribute [local irreducible] zb5
theorem zld(q:Hdr)(xq:AV)(hx:SlV 32 (hr q.p) xq)(hx1:q.p ≠ []->xq=z13 32 (hr q.p))(hxl:q.p.length<=maxLen)(hsl:q.s.length<=maxLen)(L:List Sn)(hL:∀s ∈ L,SnOk s)(hLl:L.length<=maxLen)(x:AV)(hxs:SlV 4 (sns L) x):
  ACallsTo TC 3 [x,.agg (sgC q.n q.r q.i q.s xq)] [] (.bool true) []:=by
 have hm:maxLen<9223372036854775808:=by decide
 have r2:=hx.len
 have r1:=hxs.len
 rw [zh]at r2
 rw [z1o]at r1
 unfold z1j at r1 r2
 have ql:=z8 q.n q.r q.i q.s xq
 refine ACallsTo.of_body q25ok (by simp) fun hw _=> ?_
 by_cases c1:20<L.length
 ·have c1':(L.length:Int)>20:=by omega
  repeat' (first|apply zs_|apply zb_|apply zc_|apply zt_ rfl|apply zf_ rfl|(apply zd_ rfl<;>intro ht<;>try omega)|((first|apply zr_|apply zk_|apply ze_|apply zq_|(apply callW.mk_pu;(first|exact(fun _=>z5y _)))|(apply callW.za;(first|exact(z5y _)))|(apply zG<;>intro ht));all_goals try simp (disch:=first|omega|(simp only [lens,z6,zh,z8,zg,z7,zi,zj,zm,z1o,lQt,lQd,List.length_replicate];first|done|omega)) only [go_sem,r1,r2,ql,c1']))
  exact DownV.pure (τ:=[]) hw z1f
 have c1':¬(L.length:Int)>20:=by omega
 by_cases c3:17000<q.s.length
 ·have c3':(q.s.length:Int)>17000:=by omega
  repeat' (first|apply zs_|apply zb_|apply zc_|apply zt_ rfl|apply zf_ rfl|(apply zd_ rfl<;>intro ht<;>try omega)|((first|apply zr_|apply zk_|apply ze_|apply zq_|(apply callW.mk_pu;(first|exact(fun _=>z5y _)))|(apply callW.za;(first|exact(z5y _)))|(apply zG<;>intro ht));all_goals try simp (disch:=first|omega|(simp only [lens,z6,zh,z8,zg,z7,zi,zj,zm,z1o,lQt,lQd,List.length_replicate];first|done|omega)) only [go_sem,r1,r2,ql,c1',c3']))
  exact DownV.pure (τ:=[]) hw z1f
 have c3':¬(q.s.length:Int)>17000:=by omega
 by_cases c4:10<q.p.length
 ·have c4':(q.p.length:Int)>10:=by omega
  repeat' (first|apply zs_|apply zb_|apply zc_|apply zt_ rfl|apply zf_ rfl|(apply zd_ rfl<;>intro ht<;>try omega)|((first|apply zr_|apply zk_|apply ze_|apply zq_|(apply callW.mk_pu;(first|exact(fun _=>z5y _)))|(apply callW.za;(first|exact(z5y _)))|(apply zG<;>intro ht));all_goals try simp (disch:=first|omega|(simp only [lens,z6,zh,z8,zg,z7,zi,zj,zm,z1o,lQt,lQd,List.length_replicate];first|done|omega)) only [go_sem,r1,r2,ql,c1',c3',c4']))
  exact DownV.pure (τ:=[]) hw z1f
 have c4':¬(q.p.length:Int)>10:=by omega
 have hNew:=fun O=>zhu O [108,111,103] (by simp)
 repeat' (first|apply zs_|apply zb_|apply zc_|apply zt_ rfl|apply zf_ rfl|(apply zd_ rfl<;>intro ht<;>try omega)|((first|apply zr_|apply zk_|apply ze_|apply zq_|(apply callW.mk_pu;(first|exact(fun _=>hNew _)))|(apply callW.za;(first|exact(hNew _)))|(apply zG<;>intro ht));all_goals try simp (disch:=first|omega|(simp only [lens,z6,zh,z8,zg,z7,zi,zj,zm,z1o,lQt,lQd,List.length_replicate];first|done|omega)) only [go_sem,r1,r2,ql,c1',c3',c4']))
 try simp only [List.nil_append,List.length_nil]
 have hsd:([108,111,103]:List UInt8).length<1000000:=by simp
 generalize ([108,111,103]:List UInt8)=seed at*
 have hRt:=fun y=>zkk ([some [sgC q.n q.r q.i q.s xq],some [z1k true seed (keyL seed)]]++y) 1 seed (keyL seed) rfl (z2x seed)
 have hRt0:=hRt []
 have hE:=zdp [some [sgC q.n q.r q.i q.s xq],some [z1k true seed (keyL seed)]] (z1c (keyL seed))
 have hRt1:=hRt [some [hc (z1c (keyL seed))],some [poC (z1c (keyL seed)) .nilsl]]
 rw [List.append_nil]at hRt0
 simp only [List.cons_append,List.nil_append]at hRt1
 have kl:=z6 (z1c (keyL seed))
 repeat' (first|apply zs_|apply zb_|apply zc_|apply zt_ rfl|apply zf_ rfl|(apply zd_ rfl<;>intro ht<;>try omega)|((first|apply zr_|apply zk_|apply ze_|apply zq_|(apply callW.mk_pu;(first|exact(fun _=>hRt0)))|(apply callW.za;(first|exact(hRt0)))|(apply zG<;>intro ht));all_goals try simp (disch:=first|omega|(simp only [lens,z6,zh,z8,zg,z7,zi,zj,zm,z1o,lQt,lQd,List.length_replicate];first|done|omega)) only [go_sem,ql]))
 refine callW.mkP (caps:=[]) hE ⟨_,_,rfl,rfl⟩ ?_
 rintro v O2 ⟨rfl,rfl⟩
 simp (disch:=first|omega|(simp only [lens,z6,zh,z8,zg,z7,zi,zj,zm,z1o,lQt,lQd,List.length_replicate];first|done|omega)) only [go_sem]
 repeat' (first|apply zs_|apply zb_|apply zc_|apply zt_ rfl|apply zf_ rfl|(apply zd_ rfl<;>intro ht<;>try omega)|((first|apply zr_|apply zk_|apply ze_|apply zq_|(apply callW.mk_pu;(first|exact(fun _=>hRt1)))|(apply callW.za;(first|exact(hRt1)))|(apply zG<;>intro ht));all_goals try simp (disch:=first|omega|(simp only [lens,z6,zh,z8,zg,z7,zi,zj,zm,z1o,lQt,lQd,List.length_replicate];first|done|omega)) only [go_sem,kl]))
 refine zrm hw seed hsd q xq hx hx1 (by omega) L hL (by omega) x hxs _ [3] [4] _ ⟨⟨.nilsl,none,rfl,rfl,.inl ⟨rfl,rfl,rfl⟩,by simp⟩,⟨.nilsl,none,rfl,rfl,.inl ⟨rfl,rfl,rfl⟩,by simp⟩,by simp,by simp,by simp,rfl,rfl,POk.nil _⟩ (by simp (disch:=first|omega|(simp only [lens,z6,zh,z8,zg,z7,zi,zj,zm,z1o,lQt,lQd,List.length_replicate];first|done|omega)) only [go_sem]) (by simp (disch:=first|omega|(simp only [lens,z6,zh,z8,zg,z7,zi,zj,zm,z1o,lQt,lQd,List.length_replicate];first|done|omega)) only [go_sem]) (by simp (disch:=first|omega|(simp only [lens,z6,zh,z8,zg,z7,zi,zj,zm,z1o,lQt,lQd,List.length_replicate];first|done|omega)) only [go_sem]) (by simp (disch:=first|omega|(simp only [lens,z6,zh,z8,zg,z7,zi,zj,zm,z1o,lQt,lQd,List.length_replicate];first|done|omega)) only [go_sem]) (by simp (disch:=first|omega|(simp only [lens,z6,zh,z8,zg,z7,zi,zj,zm,z1o,lQt,lQd,List.length_replicate];first|done|omega)) only [go_sem])
theorem PoolPlay_law(avs:List AV)(h:z86 [.sl 4 z9e,zee] avs):ACallsTo TC 3 avs [] (.bool true) []:=by
 simp only [z86]at h
 obtain⟨x,_,rfl,h0,_,_,rfl,h1,rfl⟩:=h
 obtain⟨L,hxs,hLl,hL⟩:=zty (by simpa only [Sh]using h0)
 obtain⟨q,xq,rfl,hx,hx1,hxl,hsl⟩:=ztb h1
 exact zld q xq hx hx1 hxl hsl L hL hLl x hxs
end
end Am
end Go.Proofs.YtcdcmgjnbjoajaaGreatDoor
section
/- What a law with the laid tables of sha begins with. -/
namespace Go.Proofs.YtcdcmgjnbjoajaaGreatDoor.LawDoor
open Go.ChangeShapes Go.WideShapes Go.ChangeAt Go.RowKit
theorem own:ownKnob Tryz.prog.godebug=none:=by kernel_rfl
theorem zpj:laidOutB Tryz.prog=true:=by kernel_rfl
def z8x:List (String × DataW Unit):=[("speculum/sha.first",Rows.laid_speculum_sha_first),("speculum/sha.rounds",Rows.laid_speculum_sha_rounds)]
set_option maxRecDepth 100000
theorem zn6(os:Os)(args:Array Value):laidMetH Tryz.prog z8x ((World.doorLaid Tryz.prog 400 os).forCall (fun _ _=>0) ⟨#[],args,[]⟩).memory:=
 laidMetH_of_parts3 (fuel:=8) (laidMet_of_run' 8 (by kernel_rfl) (by kernel_rfl)) (by kernel_rfl) (by kernel_rfl)
theorem rel_of{W:World}(h:laidMetH Tryz.prog z8x W):Am.Rel Am.TC [] [] W:=by
 rw [MakeChecks.laidMetH_plain _ _ _ (by kernel_rfl)]at h
 obtain⟨ps,⟨g0,t0,cs0,f0,p0,q0,hg0,ht0,hv0,hd0,⟨g1,t1,cs1,f1,p1,q1,hg1,ht1,hv1,hd1,_,_⟩,_⟩,_,_⟩:=h
 have v0:=Am.vp_of_var (P:=Tryz.prog) (n:= "speculum/sha.first") (g:=0) (t:=178) (e:=177) (m:=8) (k:=.u32) Am.shaFirst (by kernel_rfl) (by kernel_rfl) (by kernel_rfl) (by kernel_rfl) (by kernel_rfl) (by kernel_rfl) hg0 ht0 hv0 hd0
 have v1:=Am.vp_of_var (P:=Tryz.prog) (n:= "speculum/sha.rounds") (g:=1) (t:=183) (e:=177) (m:=64) (k:=.u32) Am.shaRounds (by kernel_rfl) (by kernel_rfl) (by kernel_rfl) (by kernel_rfl) (by kernel_rfl) (by kernel_rfl) hg1 ht1 hv1 hd1
 refine⟨rfl,fun r o h=>by simp at h,fun r h=>by simp at h,fun r r' pl pl' h=>by simp at h,fun g cs h=> ?_⟩
 simp only [Am.TC]at h
 split at h
 ·rename_i hg;subst hg;cases h;exact v0
 ·split at h
  ·rename_i hg;subst hg;cases h;exact v1
  ·cases h
end Go.Proofs.YtcdcmgjnbjoajaaGreatDoor.LawDoor
end
