import Derived.Test.YtfldkpghggbdkaaGreatDoorK4aa9c748d
import Derived.Test.YtfldkpghggbdkaaGreatDoorK298eb74a9
set_option linter.unusedSimpArgs false
set_option linter.unusedVariables false
open Nat (reduceEqDiff reduceAdd reduceMul reduceSub reduceLeDiff)
open Int (reduceToNat reducePow)
open Nat renaming reduceEqDiff -> nQ1, reduceBEq -> nQ2, reduceAdd -> nQ3, reduceMul -> nQ4, reduceSub -> nQ5, reduceLeDiff -> nQ6
open Int renaming reduceToNat -> nQ7, reducePow -> nQ8
open List renaming length_reverse -> lQr, length_map -> lQm, length_take -> lQt, length_drop -> lQd, length_set -> lQs
set_option maxHeartbeats 16000000
attribute [local go_sem_proc] Nat.reduceEqDiff Nat.reduceBEq Nat.reduceAdd Nat.reduceMul Nat.reduceSub Nat.reduceLeDiff Int.reduceToNat Int.reducePow
namespace Go.Proofs.YtfldkpghggbdkaaGreatDoor
namespace Am
section
def digH(n:Int)(r:Hash):Hash:=shaH (5::(putS (n%18446744073709551616) 8++r.1))
def z2q(key:Hash)(n i:Int)(r:Hash)(s:List UInt8)(l:List Hash):Int:=
 if z63 n i s l=false then 2 else if verI key (digH n r) i s l=0 then 0 else 81
theorem zqt(J:Store)(h:Hash):ACallsTo TC 66 [.agg (hc h)] J (.str h.1) J:=z98 J h.1 h.2
attribute [local irreducible] ACallsTo ACallsP
theorem zk2(J:Store)(n:Int)(r:Hash):ACallsTo TC 92 [.agg (.int .i64 n::hc r)] J (.agg (hc (digH n r))) J:=by
 have hP:=fun J=>z6t J (n%18446744073709551616) 8 (by omega) (by omega)
 have hl:=zib (n%18446744073709551616) 8
 have hH:=fun J=>z6u J r
 have h32:=r.2
 have hS:=fun J=>z9j J (5::(putS (n%18446744073709551616) 8++r.1)) (by simp;omega)
 unfold digH
 generalize putS (n%18446744073709551616) 8=p at*
 refine ACallsTo.of_body q1rok (by simp) fun hw _=> ?_
 repeat' (first|apply zs_|apply zb_|apply zc_|apply zt_ rfl|apply zf_ rfl|(refine zd_ rfl ?_ ?_<;>intro ht<;>try omega)|((first|apply zr_|apply zk_|apply ze_|apply zq_|(apply callW.mk_pu;(first|exact(fun _=>hP _)|exact(fun _=>hH _)|exact(fun _=>hS _)))|(apply callW.za;(first|exact(hP _)|exact(hH _)|exact(hS _)))|(apply zG<;>intro ht));all_goals try simp (disch:=first|omega|(simp only [lens,z6,z7,lQr];first|done|omega)) only [go_sem,h32]))
 exact DownV.pure hw (z39 _)
theorem zdp(J:Store)(n:Int)(r:Hash):ACallsTo TC 84 [.agg (.int .i64 n::hc r)] J (.agg (hc (digH n r))) J:=by
 have hP:=fun J=>zry J (n%18446744073709551616) 8 (by omega) (by omega)
 have hl:=zib (n%18446744073709551616) 8
 have hH:=fun J=>zqt J r
 have h32:=r.2
 have hS:=fun J=>zb4 J (5::(putS (n%18446744073709551616) 8++r.1)) (by simp;omega)
 unfold digH
 generalize putS (n%18446744073709551616) 8=p at*
 refine ACallsTo.of_body q1sok (by simp) fun hw _=> ?_
 repeat' (first|apply zs_|apply zb_|apply zc_|apply zt_ rfl|apply zf_ rfl|(refine zd_ rfl ?_ ?_<;>intro ht<;>try omega)|((first|apply zr_|apply zk_|apply ze_|apply zq_|(apply callW.mk_pu;(first|exact(fun _=>hP _)|exact(fun _=>hH _)|exact(fun _=>hS _)))|(apply callW.za;(first|exact(hP _)|exact(hH _)|exact(hS _)))|(apply zG<;>intro ht));all_goals try simp (disch:=first|omega|(simp only [lens,z6,z7,lQr];first|done|omega)) only [go_sem,h32]))
 exact DownV.pure hw (z39 _)
theorem zk4(J:Store)(key:Hash)(n i:Int)(r:Hash)(s:List UInt8)(l:List Hash)(x:AV)(hx:RdSl J 32 (hr l) x):
  ACallsTo TC 42 [.agg (hc key),.agg (sgC n r i s x)] J (.int .i64 (z2q key n i r s l)) J:=by
 have xc:=hx.cells
 unfold cellsOf at xc
 have hV:=fun y=>zkn (J++y) n i r s l x hx.app
 unfold z2q
 refine ACallsTo.of_body q1pok (by simp) fun hw _=> ?_
 cases hv:z63 n i s l with
 |false=>
  rw [hv]at hV
  rw [if_pos rfl]
  repeat' (first|apply zs_|apply zb_|apply zc_|apply zt_ rfl|apply zf_ rfl|(refine zd_ rfl ?_ ?_<;>intro ht<;>try omega)|((first|apply zr_|apply zk_|apply ze_|apply zq_|(apply callW.mk_pu;(first|exact(fun _=>hV _)))|(apply callW.za;(first|exact(hV _)))|(apply zG<;>intro ht));all_goals try simp (disch:=first|omega|(simp only [lens,z6,z7,lQr];first|done|omega)) only [go_sem,xc]))
  exact DownV.pure hw (zz _ rfl)
 |true=>
  rw [hv]at hV
  rw [if_neg (by simp)]
  have hv2:=of_decide_eq_true hv
  have hD:=fun J=>zk2 J n r
  have hY:=fun y=>zko (J++y) key (digH n r) i s l x hx.app (by omega) (by omega) (by omega)
  generalize verI key (digH n r) i s l=c at*
  by_cases h0:c=0
  ·subst h0
   rw [if_pos rfl]
   repeat' (first|apply zs_|apply zb_|apply zc_|apply zt_ rfl|apply zf_ rfl|(refine zd_ rfl ?_ ?_<;>intro ht<;>try omega)|((first|apply zr_|apply zk_|apply ze_|apply zq_|(apply callW.mk_pu;(first|exact(fun _=>hV _)|exact(fun _=>hD _)|exact(fun _=>hY _)))|(apply callW.za;(first|exact(hV _)|exact(hD _)|exact(hY _)))|(apply zG<;>intro ht));all_goals try simp (disch:=first|omega|(simp only [lens,z6,z7,lQr];first|done|omega)) only [go_sem,xc]))
   exact DownV.pure hw (zz _ rfl)
  ·rw [if_neg h0]
   repeat' (first|apply zs_|apply zb_|apply zc_|apply zt_ rfl|apply zf_ rfl|(refine zd_ rfl ?_ ?_<;>intro ht<;>try omega)|((first|apply zr_|apply zk_|apply ze_|apply zq_|(apply callW.mk_pu;(first|exact(fun _=>hV _)|exact(fun _=>hD _)|exact(fun _=>hY _)))|(apply callW.za;(first|exact(hV _)|exact(hD _)|exact(hY _)))|(apply zG<;>intro ht));all_goals try simp (disch:=first|omega|(simp only [lens,z6,z7,lQr];first|done|omega)) only [go_sem,xc,h0]))
   exact DownV.pure hw (zz _ rfl)
theorem zqk(J:Store)(key:Hash)(n i:Int)(r:Hash)(s:List UInt8)(l:List Hash)(x:AV)(hx:RdSl J 32 (hr l) x):
  ACallsTo TC 47 [.agg (hc key),.agg (sgC n r i s x)] J (.int .i64 (z2q key n i r s l)) J:=by
 have xc:=hx.cells
 unfold cellsOf at xc
 have hV:=fun y=>zqr (J++y) n i r s l x hx.app
 unfold z2q
 refine ACallsTo.of_body q1tok (by simp) fun hw _=> ?_
 cases hv:z63 n i s l with
 |false=>
  rw [hv]at hV
  rw [if_pos rfl]
  repeat' (first|apply zs_|apply zb_|apply zc_|apply zt_ rfl|apply zf_ rfl|(refine zd_ rfl ?_ ?_<;>intro ht<;>try omega)|((first|apply zr_|apply zk_|apply ze_|apply zq_|(apply callW.mk_pu;(first|exact(fun _=>hV _)))|(apply callW.za;(first|exact(hV _)))|(apply zG<;>intro ht));all_goals try simp (disch:=first|omega|(simp only [lens,z6,z7,lQr];first|done|omega)) only [go_sem,xc]))
  exact DownV.pure hw (zz _ rfl)
 |true=>
  rw [hv]at hV
  rw [if_neg (by simp)]
  have hv2:=of_decide_eq_true hv
  have hD:=fun J=>zdp J n r
  have hY:=fun y=>zqs (J++y) key (digH n r) i s l x hx.app (by omega) (by omega) (by omega)
  generalize verI key (digH n r) i s l=c at*
  by_cases h0:c=0
  ·subst h0
   rw [if_pos rfl]
   repeat' (first|apply zs_|apply zb_|apply zc_|apply zt_ rfl|apply zf_ rfl|(refine zd_ rfl ?_ ?_<;>intro ht<;>try omega)|((first|apply zr_|apply zk_|apply ze_|apply zq_|(apply callW.mk_pu;(first|exact(fun _=>hV _)|exact(fun _=>hD _)|exact(fun _=>hY _)))|(apply callW.za;(first|exact(hV _)|exact(hD _)|exact(hY _)))|(apply zG<;>intro ht));all_goals try simp (disch:=first|omega|(simp only [lens,z6,z7,lQr];first|done|omega)) only [go_sem,xc]))
   exact DownV.pure hw (zz _ rfl)
  ·rw [if_neg h0]
   repeat' (first|apply zs_|apply zb_|apply zc_|apply zt_ rfl|apply zf_ rfl|(refine zd_ rfl ?_ ?_<;>intro ht<;>try omega)|((first|apply zr_|apply zk_|apply ze_|apply zq_|(apply callW.mk_pu;(first|exact(fun _=>hV _)|exact(fun _=>hD _)|exact(fun _=>hY _)))|(apply callW.za;(first|exact(hV _)|exact(hD _)|exact(hY _)))|(apply zG<;>intro ht));all_goals try simp (disch:=first|omega|(simp only [lens,z6,z7,lQr];first|done|omega)) only [go_sem,xc,h0]))
   exact DownV.pure hw (zz _ rfl)
end
section
def ordI(n m:Int)(a b:Hash):Int:=if n ≠ m then(if n<m then 0 else 2)else if a ≠ b then 3 else 1
def zao(n n2 i i2:Int)(r r2:Hash)(s s2:List UInt8)(l l2:List Hash):Bool:=decide (n=n2/\ r=r2/\ i=i2/\ s=s2/\ l=l2)
attribute [local irreducible] ACallsTo ACallsP
theorem zk5(J:Store)(n m:Int)(a b:Hash):ACallsTo TC 44 [.agg (.int .i64 n::hc a),.agg (.int .i64 m::hc b)] J (.int .i64 (ordI n m a b)) J:=by
 unfold ordI
 refine ACallsTo.of_body q1ook (by simp) fun hw _=> ?_
 rcases Int.lt_trichotomy n m with h|h|h
 ·rw [if_pos (by omega),if_pos h]
  repeat' (first|apply zs_|apply zb_|apply zc_|apply zt_ rfl|apply zf_ rfl|(refine zd_ rfl ?_ ?_<;>intro ht<;>try omega)|((first|apply zr_|apply zk_|apply ze_|apply zq_|(apply zG<;>intro ht));all_goals try simp (disch:=first|omega|(simp only [lens,z6,z7,lQr,z8];first|done|omega)) only [go_sem,h]))
  all_goals exact DownV.pure hw (zz _ rfl)
 ·subst h
  by_cases h2:a=b
  ·subst h2
   rw [if_neg (by simp),if_neg (by simp)]
   repeat' (first|apply zs_|apply zb_|apply zc_|apply zt_ rfl|apply zf_ rfl|(refine zd_ rfl ?_ ?_<;>intro ht<;>try omega)|((first|apply zr_|apply zk_|apply ze_|apply zq_|(apply zG<;>intro ht));all_goals try simp (disch:=first|omega|(simp only [lens,z6,z7,lQr,z8];first|done|omega)) only [go_sem]))
   all_goals exact DownV.pure hw (zz _ rfl)
  ·rw [if_neg (by simp),if_pos h2]
   repeat' (first|apply zs_|apply zb_|apply zc_|apply zt_ rfl|apply zf_ rfl|(refine zd_ rfl ?_ ?_<;>intro ht<;>try omega)|((first|apply zr_|apply zk_|apply ze_|apply zq_|(apply zG<;>intro ht));all_goals try simp (disch:=first|omega|(simp only [lens,z6,z7,lQr,z8];first|done|omega)) only [go_sem,h2]))
   all_goals exact DownV.pure hw (zz _ rfl)
 ·rw [if_pos (by omega),if_neg (by omega)]
  repeat' (first|apply zs_|apply zb_|apply zc_|apply zt_ rfl|apply zf_ rfl|(refine zd_ rfl ?_ ?_<;>intro ht<;>try omega)|((first|apply zr_|apply zk_|apply ze_|apply zq_|(apply zG<;>intro ht));all_goals try simp (disch:=first|omega|(simp only [lens,z6,z7,lQr,z8];first|done|omega)) only [go_sem,h]))
  all_goals exact DownV.pure hw (zz _ rfl)
theorem zql(J:Store)(n n2 i i2:Int)(r r2:Hash)(s s2:List UInt8)(l l2:List Hash)(x y:AV)(hx:SlV 32 (hr l) x)(hy:SlV 32 (hr l2) y)(hl:l.length<1000000)(hl2:l2.length<1000000):
  ACallsTo TC 20 [.agg (sgC n r i s x),.agg (sgC n2 r2 i2 s2 y)] J (.bool (zao n n2 i i2 r r2 s s2 l l2)) J:=by
 have a1:=hx.len
 have a2:=hy.len
 rw [z7]at a1 a2
 unfold z1h at a1 a2
 unfold zao
 refine ACallsTo.of_body q1uok (by simp) fun hw _=> ?_
 by_cases h1:n=n2/\ r=r2
 ·have e1:=(z9i n n2 r r2).trans (decide_eq_true h1)
  by_cases h2:i=i2
  ·subst h2
   by_cases h3:s=s2
   ·subst h3
    rw [show decide (n=n2/\ r=r2/\ i=i/\ s=s/\ l=l2)=decide (l=l2)from by rw [Bool.eq_iff_iff];simp [h1]]
    by_cases hll:l.length=l2.length
    ·have hll':(l.length:Int)=l2.length:=by omega
     repeat' (first|apply zs_|apply zb_|apply zc_|apply zt_ rfl|apply zf_ rfl|(refine zd_ rfl ?_ ?_<;>intro ht<;>try omega)|((first|apply zr_|apply zk_|apply ze_|apply zq_|(apply zG<;>intro ht));all_goals try simp (disch:=first|omega|(simp only [lens,z6,z7,lQr,z8];first|done|omega)) only [go_sem,e1,a1,a2,hll',z1e,eq_self,and_self,if_true]))
     refine zW.loop (fun m ρ J'=>∃k:Nat,m+k=l.length/\ J'=J++ [some [sgC n r i s x],some [sgC n2 r2 i s y]]/\ l.take k=l2.take k/\ ρ 2= .ptr J.length 0 0/\ ρ 3= .ptr (J.length+1) 0 0/\ ρ 5= .int .i64 k) l.length ?_ ?_
     ·exact⟨0,by omega,rfl,rfl,by simp (disch:=first|omega|(simp only [lens,z6,z7,lQr,z8];first|done|omega)) only [go_sem],by simp (disch:=first|omega|(simp only [lens,z6,z7,lQr,z8];first|done|omega)) only [go_sem],by simp (disch:=first|omega|(simp only [lens,z6,z7,lQr,z8];first|done|omega)) only [go_sem];rfl⟩
     ·rintro m ρ J' ⟨k,hm,rfl,htk,q2,q3,q5⟩
      by_cases hk:k<l.length
      ·obtain⟨ex,rfl⟩:=hx.vsl (by rw [z7];omega)
       obtain⟨ex2,rfl⟩:=hy.vsl (by rw [z7];omega)
       have hk':(k:Int)<l2.length:=by omega
       by_cases hh:hd l k=hd l2 k
       ·have t1:=z7b (l:=l) (i:=k) hk
        have t2:=z7b (l:=l2) (i:=k) (by omega)
        repeat' (first|apply zs_|apply zb_|apply zc_|apply zt_ rfl|apply zf_ rfl|(refine zd_ rfl ?_ ?_<;>intro ht<;>try omega)|((first|apply zr_|apply zk_|apply ze_|apply zq_|(apply zG<;>intro ht));all_goals try simp (disch:=first|omega|(simp only [lens,z6,z7,lQr,z8];first|done|omega)) only [go_sem,q2,q3,q5,a1,a2,hk',hh]))
        exact⟨m-1,by omega,k+1,by omega,by rw [t1,t2,htk,hh],by simp⟩
       ·rw [decide_eq_false (fun e=>hh (by rw [e]))]
        repeat' (first|apply zs_|apply zb_|apply zc_|apply zt_ rfl|apply zf_ rfl|(refine zd_ rfl ?_ ?_<;>intro ht<;>try omega)|((first|apply zr_|apply zk_|apply ze_|apply zq_|(apply zG<;>intro ht));all_goals try simp (disch:=first|omega|(simp only [lens,z6,z7,lQr,z8];first|done|omega)) only [go_sem,q2,q3,q5,a1,a2,hk',hh]))
        exact DownV.pure hw z1v
      ·have hk':¬(k:Int)<l2.length:=by omega
       have:l=l2:=by
        rw [List.take_of_length_le (by omega),List.take_of_length_le (by omega)]at htk
        exact htk
       rw [decide_eq_true this]
       repeat' (first|apply zs_|apply zb_|apply zc_|apply zt_ rfl|apply zf_ rfl|(refine zd_ rfl ?_ ?_<;>intro ht<;>try omega)|((first|apply zr_|apply zk_|apply ze_|apply zq_|(apply zG<;>intro ht));all_goals try simp (disch:=first|omega|(simp only [lens,z6,z7,lQr,z8];first|done|omega)) only [go_sem,q2,q3,q5,a1,a2,hll',hk']))
       exact DownV.pure hw z1v
    ·rw [decide_eq_false (fun e=>hll (by rw [e]))]
     have hll':¬(l.length:Int)=l2.length:=by omega
     repeat' (first|apply zs_|apply zb_|apply zc_|apply zt_ rfl|apply zf_ rfl|(refine zd_ rfl ?_ ?_<;>intro ht<;>try omega)|((first|apply zr_|apply zk_|apply ze_|apply zq_|(apply zG<;>intro ht));all_goals try simp (disch:=first|omega|(simp only [lens,z6,z7,lQr,z8];first|done|omega)) only [go_sem,e1,a1,a2,hll',z1e,eq_self,and_self,if_true]))
     exact DownV.pure hw z1v
   ·rw [decide_eq_false (by simp [h3])]
    have e:(s==s2)=false:=beq_false_of_ne h3
    repeat' (first|apply zs_|apply zb_|apply zc_|apply zt_ rfl|apply zf_ rfl|(refine zd_ rfl ?_ ?_<;>intro ht<;>try omega)|((first|apply zr_|apply zk_|apply ze_|apply zq_|(apply zG<;>intro ht));all_goals try simp (disch:=first|omega|(simp only [lens,z6,z7,lQr,z8];first|done|omega)) only [go_sem,e1,e,z1e,eq_self,and_self,if_true]))
    exact DownV.pure hw z1v
  ·rw [decide_eq_false (by simp [h2])]
   repeat' (first|apply zs_|apply zb_|apply zc_|apply zt_ rfl|apply zf_ rfl|(refine zd_ rfl ?_ ?_<;>intro ht<;>try omega)|((first|apply zr_|apply zk_|apply ze_|apply zq_|(apply zG<;>intro ht));all_goals try simp (disch:=first|omega|(simp only [lens,z6,z7,lQr,z8];first|done|omega)) only [go_sem,e1,h2,z1e,eq_self,and_self,if_true]))
   exact DownV.pure hw z1v
 ·rw [decide_eq_false (by rintro⟨a,b,_⟩;exact h1 ⟨a,b⟩)]
  have e1:=(z9i n n2 r r2).trans (decide_eq_false h1)
  repeat' (first|apply zs_|apply zb_|apply zc_|apply zt_ rfl|apply zf_ rfl|(refine zd_ rfl ?_ ?_<;>intro ht<;>try omega)|((first|apply zr_|apply zk_|apply ze_|apply zq_|(apply zG<;>intro ht));all_goals try simp (disch:=first|omega|(simp only [lens,z6,z7,lQr,z8];first|done|omega)) only [go_sem,e1,z1e,eq_self,and_self,if_true]))
  exact DownV.pure hw z1v
end
section
set_option maxRecDepth 10000

end
section
set_option maxRecDepth 10000
@[go_sem] def q1vr0:List AIns:=[
 yI 2 (.alloc zZ0)]
@[go_sem] def q1vr1:List AIns:=[
 yM 3 0,
 yI 4 (.bin .add .none (.v (.str [0])) (.t 3)),
 yI 5 (.call (.v (.fn 80 [])) [(.t 4)]),
 ⟨none,none,.no,.store 32 (.t 2) (.t 5)⟩]
def q1vc2:ACode:= .seq (.reg q1vr1) .ret
def q1vc3:ACode:= .seq (.reg q1vr0) q1vc2
theorem q1vok:cFn TC 34=some (6,[.c 2 true 32],q1vc3):=by kernel_rfl
@[go_sem] def q1wr0:List AIns:=[
 yI 2 (.alloc zZ0)]
@[go_sem] def q1wr1:List AIns:=[
 yM 3 0,
 yI 4 (.bin .add .none (.v (.str [0])) (.t 3)),
 yI 5 (.call (.v (.fn 86 [])) [(.t 4)]),
 ⟨none,none,.no,.store 32 (.t 2) (.t 5)⟩]
def q1wc2:ACode:= .seq (.reg q1wr1) .ret
def q1wc3:ACode:= .seq (.reg q1wr0) q1wc2
theorem q1wok:cFn TC 38=some (6,[.c 2 true 32],q1wc3):=by kernel_rfl
end
section
def stC(n:Int)(root:Hash)(rn:Int)(z v:AV):List AV:= .int .i64 n::(hc root++ [.int .i64 rn,z,v])
@[go_sem] theorem zeg (n:Int) (root:Hash) (rn:Int) (z v:AV):(stC n root rn z v).length=36:=by simp [stC,z6]
@[go_sem] theorem stC_0 (n:Int) (root:Hash) (rn:Int) (z v:AV):(stC n root rn z v)[0]? =some (.int .i64 n):=rfl
theorem zef(n:Int)(root:Hash)(rn:Int)(z v:AV)(k:Nat):(stC n root rn z v)[33+k]? =[AV.int .i64 rn,z,v][k]?:=by
 rw [stC,show 33+k=(32+k)+1 by omega,List.getElem?_cons_succ,List.getElem?_append_right (by rw [z6];omega),z6,Nat.add_sub_cancel_left]
@[go_sem] theorem stC_33 (n:Int) (root:Hash) (rn:Int) (z v:AV):(stC n root rn z v)[33]? =some (.int .i64 rn):=zef n root rn z v 0
@[go_sem] theorem stC_34 (n:Int) (root:Hash) (rn:Int) (z v:AV):(stC n root rn z v)[34]? =some z:=zef n root rn z v 1
@[go_sem] theorem stC_35 (n:Int) (root:Hash) (rn:Int) (z v:AV):(stC n root rn z v)[35]? =some v:=zef n root rn z v 2
@[go_sem] theorem stC_root (n:Int) (root:Hash) (rn:Int) (z v:AV):((stC n root rn z v).drop 1).take 32=hc root:=by rw [stC,List.drop_succ_cons,List.drop_zero,z6x]
@[go_sem] theorem zs0 (n:Int) (root:Hash) (rn:Int) (z v:AV):(stC n root rn z v).drop 33=[.int .i64 rn,z,v]:=by rw [stC,List.drop_succ_cons,z8z]
attribute [local irreducible] ACallsTo ACallsP
end
section
def lfH(s:List UInt8):Hash:=shaH (0::s)
attribute [local irreducible] ACallsTo ACallsP
theorem zep(J:Store)(s:List UInt8)(h:s.length<100000000):ACallsTo TC 34 [.str s] J (.agg (hc (lfH s))) J:=by
 have hS:=fun J=>z9j J (0::s) (by simp;omega)
 refine ACallsTo.of_body q1vok (by simp) fun hw _=> ?_
 unfold lfH
 repeat' (first|apply zs_|apply zb_|apply zc_|apply zt_ rfl|apply zf_ rfl|(refine zd_ rfl ?_ ?_<;>intro ht<;>try omega)|((first|apply zr_|apply zk_|apply ze_|apply zq_|(apply callW.mk_pu;(first|exact(fun _=>hS _)))|(apply callW.za;(first|exact(hS _)))|(apply zG<;>intro ht));all_goals try simp (disch:=first|omega|(simp only [lens,z6,z7,lQr,zeg];first|done|omega)) only [go_sem]))
 exact DownV.pure hw (z39 _)
theorem zdr(J:Store)(s:List UInt8)(h:s.length<100000000):ACallsTo TC 38 [.str s] J (.agg (hc (lfH s))) J:=by
 have hS:=fun J=>zb4 J (0::s) (by simp;omega)
 refine ACallsTo.of_body q1wok (by simp) fun hw _=> ?_
 unfold lfH
 repeat' (first|apply zs_|apply zb_|apply zc_|apply zt_ rfl|apply zf_ rfl|(refine zd_ rfl ?_ ?_<;>intro ht<;>try omega)|((first|apply zr_|apply zk_|apply ze_|apply zq_|(apply callW.mk_pu;(first|exact(fun _=>hS _)))|(apply callW.za;(first|exact(hS _)))|(apply zG<;>intro ht));all_goals try simp (disch:=first|omega|(simp only [lens,z6,z7,lQr,zeg];first|done|omega)) only [go_sem]))
 exact DownV.pure hw (z39 _)
end
section
attribute [local irreducible] ACallsTo ACallsP
end
section
attribute [local irreducible] ACallsTo ACallsP
end
section
attribute [local irreducible] ACallsTo ACallsP
end
section
def stD(L:List (List UInt8))(i:Nat):List UInt8:=L.getD i []
theorem z9k{L:List (List UInt8)}{i:Nat}(h:i<L.length):stD L i ∈ L:=by
 rw [stD,List.getD_eq_getElem?_getD,List.getElem?_eq_getElem h];exact List.getElem_mem h
theorem zeq{L:List (List UInt8)}{i:Nat}(h:i<L.length):L.take (i+1)=L.take i++ [stD L i]:=by
 rw [List.take_add_one,stD,List.getD_eq_getElem?_getD,List.getElem?_eq_getElem h];rfl
def lvs(L:List (List UInt8)):List Hash:=L.map lfH
theorem zi(L:List (List UInt8)):(lvs L).length=L.length:=by simp [lvs]
attribute [local irreducible] ACallsTo ACallsP
end
section
@[go_sem] theorem stC_set33 (n:Int) (root:Hash) (rn m:Int) (z v b:AV):(stC n root rn z v).take 33++ .int .i64 m::b::(stC n root rn z v).drop 35=stC n root m b v:=by
 have e:(stC n root rn z v).drop 35=[v]:=by
  have:=zs0 n root rn z v
  have h2:(stC n root rn z v).drop 35=((stC n root rn z v).drop 33).drop 2:=by rw [List.drop_drop]
  rw [h2,this];rfl
 have e2:(stC n root rn z v).take 33= .int .i64 n::hc root:=by rw [stC,List.take_succ_cons,z6x]
 rw [e,e2];rfl
@[go_sem] theorem stC_set35 (n:Int) (root:Hash) (rn:Int) (z v b:AV):(stC n root rn z v).take 35++b::(stC n root rn z v).drop 36=stC n root rn z b:=by
 have e:(stC n root rn z v).drop 36=[]:=List.drop_eq_nil_of_le (by rw [zeg];omega)
 have e2:(stC n root rn z v).take 35= .int .i64 n::(hc root++ [.int .i64 rn,z]):=by
  have h3:stC n root rn z v=(.int .i64 n::(hc root++ [.int .i64 rn,z]))++ [v]:=by simp [stC]
  rw [h3,List.take_append_of_le_length (by simp [z6]),List.take_of_length_le (by simp [z6])]
 rw [e,e2];simp [stC]
theorem ACallsP.of_keepW{C:Ctx}{f:FuncId}{n:Nat}{ts:List RV}{ac:ACode}(hc:cFn C f=some (n,ts,ac)){args:List AV}{J:Store}{P:AV->Store->Prop}(hn:args.length<=n)
  (h:Wf J.length J->zW C n J.length ac (z92 ts P) (z2t args) J):ACallsP C f args J P:=by
 intro γ w cargs hR ha
 exact ACallsP.of_keep hc hn (h hR.wf) γ w cargs hR ha
def RowAt(sz:Nat)(J:Store)(sid:Option Nat)(v:AV)(es:List (List AV)):Prop:=
 (sid=none/\ es=[]/\ v= .nilsl) \/ ∃q,sid=some q/\ es ≠ []/\ v= .sl q 0 es.length none sz/\ J[q]? =some (some es)
theorem RowAt.rd{sz:Nat}{J:Store}{sid:Option Nat}{v:AV}{es:List (List AV)}(h:RowAt sz J sid v es):RdSl J sz es v:=by
 rcases h with⟨_,h,rfl⟩| ⟨r,_,_,rfl,hg⟩
 ·exact .inl (.inl ⟨rfl,h⟩)
 ·exact .inr ⟨r,0,none,es,rfl,hg,by omega,by simp⟩
theorem RowAt.keep{sz:Nat}{J J':Store}{sid:Option Nat}{v:AV}{es:List (List AV)}(h:RowAt sz J sid v es)(hk:∀q,sid=some q->J'[q]? =J[q]?):RowAt sz J' sid v es:=by
 rcases h with h| ⟨r,e,h2,h3,hg⟩
 ·exact .inl h
 ·exact .inr ⟨r,e,h2,h3,by rw [hk r e];exact hg⟩
theorem RowAt.cells{sz:Nat}{J:Store}{sid:Option Nat}{v:AV}{es:List (List AV)}(h:RowAt sz J sid v es):cellsOf v=some [v]:=by
 rcases h with⟨_,_,rfl⟩| ⟨r,_,_,rfl,_⟩<;>rfl
theorem RowAt.lt{sz:Nat}{J:Store}{sid:Option Nat}{v:AV}{es:List (List AV)}(h:RowAt sz J sid v es){q:Nat}(hq:sid=some q):q<J.length:=by
 rcases h with⟨e,_,_⟩| ⟨r,e,_,_,hg⟩
 ·rw [e]at hq;cases hq
 ·rw [e]at hq;cases hq;exact slen hg
structure StFr(J J':Store)(r:Nat)(sid sid':Option Nat):Prop where
 st:∀j,j<J.length->j ≠ r->sid ≠ some j->J'[j]? =J[j]?
 new:sid'=sid \/ ∃q,sid'=some q/\ J.length<=q
 le:J.length<=J'.length
theorem StFr.ext{J J':Store}{r:Nat}{sid:Option Nat}(h:Ext J J'):StFr J J' r sid sid:=by
 refine⟨fun j hj _ _=> ?_,.inl rfl,h.le⟩
 obtain⟨y,rfl⟩:=h
 exact gapp hj
def StgIs(J:Store)(r:Nat)(hn:Nat)(root:Hash)(rn:Nat)(hs:List Hash)(L:List (List UInt8))(sid:Option Nat):Prop:=
 ∃z v,J[r]? =some (some [stC hn root rn z v])/\ SlV 32 (hr hs) z/\ RowAt 1 J sid v (strs L)
theorem StgIs.keep{J J':Store}{r hn:Nat}{root:Hash}{rn:Nat}{hs:List Hash}{L:List (List UInt8)}{sid:Option Nat}(h:StgIs J r hn root rn hs L sid)(h0:J'[r]? =J[r]?)(hk:∀q,sid=some q->J'[q]? =J[q]?):StgIs J' r hn root rn hs L sid:=by
 obtain⟨z,v,hg,hz,hv⟩:=h
 exact⟨z,v,by rw [h0];exact hg,hz,hv.keep hk⟩
theorem StgIs.ext{J J':Store}{r hn:Nat}{root:Hash}{rn:Nat}{hs:List Hash}{L:List (List UInt8)}{sid:Option Nat}(h:StgIs J r hn root rn hs L sid)(he:Ext J J'):StgIs J' r hn root rn hs L sid:=by
 obtain⟨y,rfl⟩:=he
 have h':=h
 obtain⟨z,v,hg,hz,hv⟩:=h'
 exact h.keep (gapp (slen hg)) (fun q hq=>gapp (hv.lt hq))
def longs(X:List (List UInt8)):Bool:=X.any (fun s=>decide (200<s.length))
def nxH(rn:Nat)(hs:List Hash)(X:List (List UInt8)):List Hash:=(extR rn hs.reverse (lvs X)).reverse
def addE(hn:Nat)(root:Hash)(rn:Nat)(hs:List Hash)(X:List (List UInt8))(P:List Hash):Int:=
 if X.length<1 \/16<X.length \/hn<rn+X.length then 2 else if longs X=true then 3
 else if chkH ((rn+X.length:Nat):Int) hn (rootR (nxH rn hs X).reverse) root P=0 then 0 else 80
def AddP(J:Store)(r hn:Nat)(root:Hash)(rn:Nat)(hs:List Hash)(L X:List (List UInt8))(P:List Hash)(sid:Option Nat)(a:AV)(J':Store):Prop:=
 a= .int .i64 (addE hn root rn hs X P)/\ ∃sid',StFr J J' r sid sid' ∧
  StgIs J' r hn root (if addE hn root rn hs X P=0 then rn+X.length else rn) (if addE hn root rn hs X P=0 then nxH rn hs X else hs) (if addE hn root rn hs X P=0 then L++X else L) sid'
theorem AddP.no{J J':Store}{r hn:Nat}{root:Hash}{rn:Nat}{hs:List Hash}{L X:List (List UInt8)}{P:List Hash}{sid:Option Nat}{e:Int}(hT:StgIs J r hn root rn hs L sid)
  (he:addE hn root rn hs X P=e) (h0:e ≠ 0) (hx:Ext J J'):AddP J r hn root rn hs L X P sid (.int .i64 e) J':=by
 subst he
 refine⟨rfl,sid,.ext hx,?_⟩
 rw [if_neg h0,if_neg h0,if_neg h0]
 exact hT.ext hx
theorem AddP.is{J:Store}{r hn:Nat}{root:Hash}{rn:Nat}{hs:List Hash}{L X:List (List UInt8)}{P:List Hash}{sid:Option Nat}(hT:StgIs J r hn root rn hs L sid)(hX:X ≠ []):∃a J',AddP J r hn root rn hs L X P sid a J':=by
 by_cases h:addE hn root rn hs X P=0
 ·obtain⟨z,v,hg,hz,hv⟩:=hT
  have hrl:=slen hg
  have hne:strs (L++X) ≠ []:=fun e=>by
   have h1:(strs (L++X)).length=0:=by rw [e];rfl
   rw [zh,List.length_append]at h1
   exact hX (List.eq_nil_of_length_eq_zero (by omega))
  refine⟨_,(J.set r (some [stC hn root ((rn+X.length:Nat):Int) (z15 32 (hr (nxH rn hs X))) (.sl J.length 0 (strs (L++X)).length none 1)]))++ [some (strs (L++X))],rfl,some J.length,⟨fun j hj hjr _=> ?_,.inr ⟨J.length,rfl,Nat.le_refl _⟩,by simp⟩,?_⟩
  ·rw [gapp (by simpa using hj),z1c (fun e=>hjr e.symm)]
  ·rw [if_pos h,if_pos h,if_pos h]
   refine⟨_,_,by rw [gapp (by simpa using hrl),z2e hrl],z2x _ _,.inr ⟨J.length,rfl,hne,rfl,?_⟩⟩
   rw [z1j (by simp)];simp
 ·exact⟨_,J,.no hT rfl h (.refl _)⟩
theorem AddP.ok{J J':Store}{r hn:Nat}{root:Hash}{rn:Nat}{hs:List Hash}{L X:List (List UInt8)}{P:List Hash}{sid:Option Nat}{z2:AV}{q':Nat}(he:addE hn root rn hs X P=0)(hX:X ≠ [])
  (hg:J'[r]? =some (some [stC hn root ((rn+X.length:Nat):Int) z2 (.sl q' 0 (strs (L++X)).length none 1)])) (hz:SlV 32 (hr (nxH rn hs X)) z2) (hq:J'[q']? =some (some (strs (L++X)))) (hqn:J.length<=q') (hle:J.length<=J'.length)
  (hst:∀j,j<J.length->j ≠ r->sid ≠ some j->J'[j]? =J[j]?):AddP J r hn root rn hs L X P sid (.int .i64 0) J':=by
 have hne:strs (L++X) ≠ []:=fun e=>by
  have h1:(strs (L++X)).length=0:=by rw [e];rfl
  rw [zh,List.length_append]at h1
  exact hX (List.eq_nil_of_length_eq_zero (by omega))
 refine⟨by rw [he],some q',⟨hst,.inr ⟨q',rfl,hqn⟩,hle⟩,?_⟩
 rw [if_pos he,if_pos he,if_pos he]
 exact⟨_,_,hg,hz,.inr ⟨q',rfl,hne,rfl,hq⟩⟩
attribute [local irreducible] ACallsTo ACallsP
end
section
attribute [local irreducible] ACallsTo ACallsP
end
section
structure ActS where
 k:Int
 c:Int
 L:List (List UInt8)
 P:List Hash
 x:AV
 y:AV
structure ActOk(a:ActS):Prop where
 k:0<=a.k/\ a.k<=255
 c:0<=a.c/\ a.c<=255
 x:SlV 1 (strs a.L) a.x
 y:SlV 32 (hr a.P) a.y
 ll:a.L.length<=maxLen
 pl:a.P.length<=maxLen
 sl:∀s ∈ a.L,s.length<=maxLen
attribute [local irreducible] ACallsTo ACallsP
end
section
theorem zj9(l:List (List UInt8))(n:Nat):(strs l).take n=strs (l.take n):=by simp [strs,List.map_take]
attribute [local irreducible] ACallsTo ACallsP
end
section
structure StAt(τ J':Store)(r hn:Nat)(root:Hash)(rn:Nat)(hs:List Hash)(L:List (List UInt8)):Prop where
 is:∃sid,StgIs J' r hn root rn hs L sid/\ ∀q,sid=some q->τ.length<=q
 r:τ.length<=r
 le:τ.length<=J'.length
 st:∀q,q<τ.length->J'[q]? =τ[q]?
theorem StAt.get{τ J':Store}{r hn:Nat}{root:Hash}{rn:Nat}{hs:List Hash}{L:List (List UInt8)}(h:StAt τ J' r hn root rn hs L){q:Nat}{o:Option AObj}(hq:τ[q]? =some o):J'[q]? =some o:=by
 rw [h.st q (slen hq)];exact hq
theorem StAt.more{τ J' y:Store}{r hn:Nat}{root:Hash}{rn:Nat}{hs:List Hash}{L:List (List UInt8)}(h:StAt τ J' r hn root rn hs L):StAt τ (J'++y) r hn root rn hs L:=by
 obtain⟨sid,h1,h2⟩:=h.is
 exact⟨⟨sid,h1.ext ⟨y,rfl⟩,h2⟩,h.r,by have:=h.le;simp;omega,fun q hq=>by rw [gapp (by have:=h.le;omega)];exact h.st q hq⟩
theorem StAt.has {τ J' : Store} {r hn : Nat} {root : Hash} {rn : Nat} {hs : List Hash} {L X : List (List UInt8)} {P : List Hash} (h : StAt τ J' r hn root rn hs L) (hX : X ≠ []) : ∃ a J'', a = AV.int .i64 (addE hn root rn hs X P) ∧
   StAt τ J'' r hn root (if addE hn root rn hs X P=0 then rn+X.length else rn) (if addE hn root rn hs X P=0 then nxH rn hs X else hs) (if addE hn root rn hs X P=0 then L++X else L):=by
 obtain⟨sid,h1,h2⟩:=h.is
 obtain⟨a,J'',e,sid',fr,T⟩:=AddP.is (P:=P) h1 hX
 refine⟨a,J'',e,⟨sid',T,fun q hq=> ?_⟩,h.r,by have:=h.le;have:=fr.le;omega,fun q hq=> ?_⟩
 ·rcases fr.new with h3| ⟨q',h3,h4⟩
  ·exact h2 q (by rw [<-h3];exact hq)
  ·rw [h3]at hq;cases hq;have:=h.le;omega
 ·rw [fr.st q (by have:=h.le;omega) (fun e=>by have:=h.r;omega) (fun e=>by have:=h2 q e;omega)]
  exact h.st q hq
section
variable (a b c d:Hash)
end
end
section
set_option maxRecDepth 10000

end
section
set_option maxRecDepth 10000
@[go_sem] def q1xr0:List AIns:=[
 yI 4 (.mv (.v (.bool false)))]
@[go_sem] def q1xr1:List AIns:=[
 yI 5 (.mv (.v (.int .i64 0)))]
@[go_sem] def q1xr2:List AIns:=[
 yM 6 5,
 yM 7 0,
 yI 8 (.lenSl (.t 7)),
 yI 9 (.bin .lss .none (.t 6) (.t 8))]
def q1xc3:ACode:= .cond (.t 9) .skip (.exit 0)
def q1xc4:ACode:= .seq (.reg q1xr2) q1xc3
@[go_sem] def q1xr5:List AIns:=[
 yM 12 0,
 yM 13 5,
 yI 14 (.iaSl 5 (.t 12) (.t 13)),
 yI 15 (.fa 3 (.t 14)),
 yI 16 (.load false 1 (.t 15)),
 yI 17 (.lenStr (.t 16)),
 yI 18 (.bin .gtr .none (.t 17) (.v (.int .i64 300))),
 yM 19 18,
 yG 20 19 false (.mv (.t 0)),
 yG 21 19 false (.mv (.t 5)),
 yG 22 19 false (.iaSl 5 (.t 20) (.t 21)),
 yG 23 19 false (.fa 4 (.t 22)),
 yG 24 19 false (.load false 1 (.t 23)),
 yG 25 19 false (.lenSl (.t 24)),
 yG 26 19 false (.bin .gtr .none (.t 25) (.v (.int .i64 20))),
 yI 27 (.pick (.t 19) (.v (.bool true)) (.t 26))]
@[go_sem] def q1xr6:List AIns:=[
 yI 4 (.mv (.v (.bool true)))]
def q1xc7:ACode:= .seq (.reg q1xr6) .ret
def q1xc8:ACode:= .cond (.t 27) q1xc7 .skip
def q1xc9:ACode:= .seq (.reg q1xr5) q1xc8
@[go_sem] def q1xr10:List AIns:=[
 yM 10 5,
 yI 11 (.bin .add .none (.t 10) (.v (.int .i64 1))),
 yM 5 11]
def q1xc11:ACode:= .seq (.block 1 q1xc9) (.reg q1xr10)
def q1xc12:ACode:= .seq q1xc4 q1xc11
def q1xc13:ACode:= .loop q1xc12
def q1xc14:ACode:= .block 0 q1xc13
def q1xc15:ACode:= .seq (.reg q1xr1) q1xc14
@[go_sem] def q1xr16:List AIns:=[
 yM 28 0,
 yI 29 (.lenSl (.t 28)),
 yM 30 1,
 yI 31 (.bin .gtr .none (.t 29) (.t 30)),
 yM 4 31]
def q1xc17:ACode:= .seq (.reg q1xr16) .ret
def q1xc18:ACode:= .seq q1xc15 q1xc17
def q1xc19:ACode:= .seq (.reg q1xr0) q1xc18
theorem q1xok:cFn TC 7=some (32,[.t 4],q1xc19):=by kernel_rfl
@[go_sem] def q1yr0:List AIns:=[
 yI 0 (.mv (.v (.bool false)))]
@[go_sem] def q1yr1:List AIns:=[
 yI 10 (.lit 1 [(.v (.str [97])),(.v (.str [98]))]),
 yI 11 (.call (.v (.fn 33 [])) [(.t 10)]),
 yI 1 (.alloc [.nilp,.nilsl]),
 ⟨none,none,.no,.store 2 (.t 1) (.t 11)⟩]
@[go_sem] def q1yr2:List AIns:=[
 yI 12 (.call (.v (.fn 34 [])) [(.v (.str [97]))]),
 yI 13 (.call (.v (.fn 34 [])) [(.v (.str [98]))]),
 yI 14 (.lit 32 [(.t 12),(.t 13)]),
 yM 2 14]
@[go_sem] def q1yr3:List AIns:=[
 yM 16 2,
 yI 17 (.call (.v (.fn 35 [])) [(.t 16),(.v (.int .i64 1))]),
 yM 15 17,
 yI 18 (.ext 0 (.t 15)),
 yI 19 (.ext 1 (.t 15)),
 yM 3 18,
 yM 4 19]
@[go_sem] def q1yr4:List AIns:=[
 yI 20 (.fa 0 (.t 1)),
 yI 21 (.load false 1 (.t 20)),
 yI 22 (.call (.v (.fn 11 [])) [(.t 21)]),
 yI 23 (.call (.v (.fn 10 [])) [(.t 22)]),
 yM 5 23]
@[go_sem] def q1yr5:List AIns:=[
 ⟨some 24,none,.rd,.load true 2 (.t 1)⟩,
 ⟨some 25,none,.pu,.call (.v (.fn 36 [])) [(.t 24),(.v (.int .i64 1)),(.v (.int .i64 0))]⟩,
 ⟨some 26,none,.rd,.load true 2 (.t 1)⟩,
 ⟨some 27,none,.pu,.call (.v (.fn 36 [])) [(.t 26),(.v (.int .i64 2)),(.v (.int .i64 1))]⟩,
 ⟨some 6,none,.ef,.alloc [(.int .i64 0),(.int .u8 0),(.int .u8 0),(.int .u8 0),(.int .u8 0),(.int .u8 0),(.int .u8 0),(.int .u8 0),(.int .u8 0),(.int .u8 0),(.int .u8 0),(.int .u8 0),(.int .u8 0),(.int .u8 0),(.int .u8 0),(.int .u8 0),(.int .u8 0),(.int .u8 0),(.int .u8 0),(.int .u8 0),(.int .u8 0),(.int .u8 0),(.int .u8 0),(.int .u8 0),(.int .u8 0),(.int .u8 0),(.int .u8 0),(.int .u8 0),(.int .u8 0),(.int .u8 0),(.int .u8 0),(.int .u8 0),(.int .u8 0),(.int .i64 0),(.str []),.nilsl]⟩,
 ⟨some 7,none,.ef,.alloc [(.int .i64 0),(.int .u8 0),(.int .u8 0),(.int .u8 0),(.int .u8 0),(.int .u8 0),(.int .u8 0),(.int .u8 0),(.int .u8 0),(.int .u8 0),(.int .u8 0),(.int .u8 0),(.int .u8 0),(.int .u8 0),(.int .u8 0),(.int .u8 0),(.int .u8 0),(.int .u8 0),(.int .u8 0),(.int .u8 0),(.int .u8 0),(.int .u8 0),(.int .u8 0),(.int .u8 0),(.int .u8 0),(.int .u8 0),(.int .u8 0),(.int .u8 0),(.int .u8 0),(.int .u8 0),(.int .u8 0),(.int .u8 0),(.int .u8 0),(.int .i64 0),(.str []),.nilsl]⟩,
 ⟨none,none,.no,.store 36 (.t 6) (.t 25)⟩,
 ⟨none,none,.no,.store 36 (.t 7) (.t 27)⟩]
@[go_sem] def q1yr6:List AIns:=[
 ⟨some 4,none,.pu,.stuck⟩,
 ⟨some 7,none,.ef,.alloc [(.int .i64 0),(.int .u8 0),(.int .u8 0),(.int .u8 0),(.int .u8 0),(.int .u8 0),(.int .u8 0),(.int .u8 0),(.int .u8 0),(.int .u8 0),(.int .u8 0),(.int .u8 0),(.int .u8 0),(.int .u8 0),(.int .u8 0),(.int .u8 0),(.int .u8 0),(.int .u8 0),(.int .u8 0),(.int .u8 0),(.int .u8 0),(.int .u8 0),(.int .u8 0),(.int .u8 0),(.int .u8 0),(.int .u8 0),(.int .u8 0),(.int .u8 0),(.int .u8 0),(.int .u8 0),(.int .u8 0),(.int .u8 0),(.int .u8 0),(.int .i64 0),(.str []),.nilsl]⟩,
 ⟨some 6,none,.ef,.alloc [(.int .i64 0),(.int .u8 0),(.int .u8 0),(.int .u8 0),(.int .u8 0),(.int .u8 0),(.int .u8 0),(.int .u8 0),(.int .u8 0),(.int .u8 0),(.int .u8 0),(.int .u8 0),(.int .u8 0),(.int .u8 0),(.int .u8 0),(.int .u8 0),(.int .u8 0),(.int .u8 0),(.int .u8 0),(.int .u8 0),(.int .u8 0),(.int .u8 0),(.int .u8 0),(.int .u8 0),(.int .u8 0),(.int .u8 0),(.int .u8 0),(.int .u8 0),(.int .u8 0),(.int .u8 0),(.int .u8 0),(.int .u8 0),(.int .u8 0),(.int .i64 0),(.str []),.nilsl]⟩,
 ⟨none,none,.no,.store 36 (.t 6) (.t 25)⟩,
 ⟨none,none,.no,.store 36 (.t 7) (.t 27)⟩]
@[go_sem] def q1yr7:List AIns:=[
 yM 28 4,
 yI 29 (.bin .neq .none (.t 28) (.v (.int .i64 0))),
 yM 30 29,
 yG 31 30 false (.mv (.t 5)),
 yG 32 30 false (.call (.v (.fn 16 [])) [(.t 31),(.v (.int .i64 0)),(.v (.str [97])),(.v .nilsl)]),
 yG 33 30 false (.bin .neq .none (.t 32) (.v (.int .i64 4))),
 yI 34 (.pick (.t 30) (.v (.bool true)) (.t 33)),
 yM 35 34,
 yG 36 35 false (.mv (.t 5)),
 yG 37 35 false (.load true 36 (.t 6)),
 yG 38 35 false (.call (.v (.fn 13 [])) [(.t 36),(.t 37),(.v .nilsl)]),
 yG 39 35 false (.bin .neq .none (.t 38) (.v (.int .i64 1))),
 yI 40 (.pick (.t 35) (.v (.bool true)) (.t 39)),
 yM 41 40,
 yG 42 41 false (.mv (.t 5)),
 yG 43 41 false (.load true 36 (.t 6)),
 yG 44 41 false (.call (.v (.fn 13 [])) [(.t 42),(.t 43),(.v .nilsl)]),
 yG 45 41 false (.bin .neq .none (.t 44) (.v (.int .i64 3))),
 yI 46 (.pick (.t 41) (.v (.bool true)) (.t 45)),
 yM 47 46,
 yG 48 47 false (.mv (.t 5)),
 yG 49 47 false (.load true 36 (.t 7)),
 yG 50 47 false (.call (.v (.fn 13 [])) [(.t 48),(.t 49),(.v .nilsl)]),
 yG 51 47 false (.bin .neq .none (.t 50) (.v (.int .i64 5))),
 yI 52 (.pick (.t 47) (.v (.bool true)) (.t 51)),
 yM 53 52,
 yG 54 53 false (.mv (.t 5)),
 yG 55 53 false (.load true 36 (.t 7)),
 yG 56 53 false (.mv (.t 3)),
 yG 57 53 false (.call (.v (.fn 13 [])) [(.t 54),(.t 55),(.t 56)]),
 yG 58 53 false (.bin .neq .none (.t 57) (.v (.int .i64 2))),
 yI 59 (.pick (.t 53) (.v (.bool true)) (.t 58)),
 yM 60 59,
 yG 61 60 false (.mv (.t 5)),
 yG 62 60 false (.load true 36 (.t 6)),
 yG 63 60 false (.mv (.t 3)),
 yG 64 60 false (.call (.v (.fn 13 [])) [(.t 61),(.t 62),(.t 63)]),
 yG 65 60 false (.bin .neq .none (.t 64) (.v (.int .i64 4))),
 yI 66 (.pick (.t 60) (.v (.bool true)) (.t 65))]
@[go_sem] def q1yr8:List AIns:=[
 yI 0 (.mv (.v (.bool false)))]
def q1yc9:ACode:= .seq (.reg q1yr8) .ret
def q1yc10:ACode:= .cond (.t 66) q1yc9 .skip
def q1yc11:ACode:= .seq (.reg q1yr7) q1yc10
@[go_sem] def q1yr12:List AIns:=[
 yM 68 2,
 yI 69 (.call (.v (.fn 37 [])) [(.t 68),(.v (.int .i64 1))]),
 yM 67 69,
 yI 70 (.ext 0 (.t 67)),
 yI 71 (.ext 1 (.t 67)),
 yM 8 70,
 yM 9 71]
@[go_sem] def q1yr13:List AIns:=[
 yM 72 9,
 yI 73 (.bin .eql .none (.t 72) (.v (.int .i64 0))),
 yM 74 73,
 yG 75 74 true (.mv (.t 5)),
 yG 76 74 true (.mv (.t 8)),
 yG 77 74 true (.call (.v (.fn 16 [])) [(.t 75),(.v (.int .i64 1)),(.v (.str [98])),(.t 76)]),
 yG 78 74 true (.bin .eql .none (.t 77) (.v (.int .i64 0))),
 yI 79 (.pick (.t 74) (.t 78) (.v (.bool false))),
 yM 80 79,
 yG 81 80 true (.mv (.t 5)),
 yG 82 80 true (.mv (.t 8)),
 yG 83 80 true (.call (.v (.fn 16 [])) [(.t 81),(.v (.int .i64 1)),(.v (.str [97])),(.t 82)]),
 yG 84 80 true (.bin .eql .none (.t 83) (.v (.int .i64 80))),
 yI 85 (.pick (.t 80) (.t 84) (.v (.bool false))),
 yM 86 85,
 yG 87 86 true (.mv (.t 5)),
 yG 88 86 true (.mv (.t 8)),
 yG 89 86 true (.call (.v (.fn 16 [])) [(.t 87),(.v (.int .i64 2)),(.v (.str [98])),(.t 88)]),
 yG 90 86 true (.bin .eql .none (.t 89) (.v (.int .i64 82))),
 yI 91 (.pick (.t 86) (.t 90) (.v (.bool false))),
 yM 0 91]
def q1yc14:ACode:= .seq (.reg q1yr13) .ret
def q1yc15:ACode:= .seq (.reg q1yr12) q1yc14
def zde:ACode:= .seq q1yc11 q1yc15
def q1yc17:ACode:= .seq (.reg2 q1yr5 q1yr6) zde
def q1yc18:ACode:= .seq (.reg q1yr4) q1yc17
def q1yc19:ACode:= .seq (.reg q1yr3) q1yc18
def q1yc20:ACode:= .seq (.reg q1yr2) q1yc19
def q1yc21:ACode:= .seq (.reg q1yr1) q1yc20
def q1yc22:ACode:= .seq (.reg q1yr0) q1yc21
theorem q1yok:cFn TC 8=some (92,[.t 0],q1yc22):=by kernel_rfl
@[go_sem] def q1zr0:List AIns:=[
 yI 2 (.alloc [(.int .i64 0),(.int .u8 0),(.int .u8 0),(.int .u8 0),(.int .u8 0),(.int .u8 0),(.int .u8 0),(.int .u8 0),(.int .u8 0),(.int .u8 0),(.int .u8 0),(.int .u8 0),(.int .u8 0),(.int .u8 0),(.int .u8 0),(.int .u8 0),(.int .u8 0),(.int .u8 0),(.int .u8 0),(.int .u8 0),(.int .u8 0),(.int .u8 0),(.int .u8 0),(.int .u8 0),(.int .u8 0),(.int .u8 0),(.int .u8 0),(.int .u8 0),(.int .u8 0),(.int .u8 0),(.int .u8 0),(.int .u8 0),(.int .u8 0),(.int .i64 0),(.str []),.nilsl]),
 yI 3 (.mv (.v (.bool false)))]
@[go_sem] def q1zr1:List AIns:=[
 yM 4 0,
 yI 5 (.call (.v (.fn 41 [])) [(.t 4)]),
 yM 6 5,
 yG 7 6 false (.mv (.t 0)),
 yG 8 6 false (.nilc (.t 7)),
 yG 9 6 false (.fa 33 (.t 8)),
 yG 10 6 false (.load false 1 (.t 9)),
 yG 11 6 false (.un .not (.t 10)),
 yI 12 (.pick (.t 6) (.v (.bool true)) (.t 11))]
@[go_sem] def q1zr2:List AIns:=[
 yI 13 (.build [(.int .i64 0),(.int .u8 0),(.int .u8 0),(.int .u8 0),(.int .u8 0),(.int .u8 0),(.int .u8 0),(.int .u8 0),(.int .u8 0),(.int .u8 0),(.int .u8 0),(.int .u8 0),(.int .u8 0),(.int .u8 0),(.int .u8 0),(.int .u8 0),(.int .u8 0),(.int .u8 0),(.int .u8 0),(.int .u8 0),(.int .u8 0),(.int .u8 0),(.int .u8 0),(.int .u8 0),(.int .u8 0),(.int .u8 0),(.int .u8 0),(.int .u8 0),(.int .u8 0),(.int .u8 0),(.int .u8 0),(.int .u8 0),(.int .u8 0),(.int .i64 0),(.str []),.nilsl] []),
 ⟨none,none,.no,.store 36 (.t 2) (.t 13)⟩,
 yI 3 (.mv (.v (.bool false)))]
def q1zc3:ACode:= .seq (.reg q1zr2) .ret
def q1zc4:ACode:= .cond (.t 12) q1zc3 .skip
def q1zc5:ACode:= .seq (.reg q1zr1) q1zc4
@[go_sem] def q1zr6:List AIns:=[
 yM 14 0,
 yI 15 (.nilc (.t 14)),
 yI 16 (.fa 34 (.t 15)),
 yI 17 (.load true 36 (.t 16)),
 yI 18 (.call (.v (.fn 43 [])) [(.t 17)]),
 ⟨none,none,.no,.store 36 (.t 2) (.t 18)⟩,
 yI 3 (.mv (.v (.bool true)))]
def q1zc7:ACode:= .seq (.reg q1zr6) .ret
def q1zc8:ACode:= .seq q1zc5 q1zc7
def q1zc9:ACode:= .seq (.reg q1zr0) q1zc8
theorem q1zok:cFn TC 18=some (19,[.c 2 true 36,.t 3],q1zc9):=by kernel_rfl
@[go_sem] def q20r0:List AIns:=[
 yI 2 (.alloc [(.int .i64 0),(.int .i64 0),(.int .u8 0),(.int .u8 0),(.int .u8 0),(.int .u8 0),(.int .u8 0),(.int .u8 0),(.int .u8 0),(.int .u8 0),(.int .u8 0),(.int .u8 0),(.int .u8 0),(.int .u8 0),(.int .u8 0),(.int .u8 0),(.int .u8 0),(.int .u8 0),(.int .u8 0),(.int .u8 0),(.int .u8 0),(.int .u8 0),(.int .u8 0),(.int .u8 0),(.int .u8 0),(.int .u8 0),(.int .u8 0),(.int .u8 0),(.int .u8 0),(.int .u8 0),(.int .u8 0),(.int .u8 0),(.int .u8 0),(.int .u8 0),(.int .i64 0),(.str []),.nilsl,(.int .i64 0),(.int .u8 0),(.int .u8 0),(.int .u8 0),(.int .u8 0),(.int .u8 0),(.int .u8 0),(.int .u8 0),(.int .u8 0),(.int .u8 0),(.int .u8 0),(.int .u8 0),(.int .u8 0),(.int .u8 0),(.int .u8 0),(.int .u8 0),(.int .u8 0),(.int .u8 0),(.int .u8 0),(.int .u8 0),(.int .u8 0),(.int .u8 0),(.int .u8 0),(.int .u8 0),(.int .u8 0),(.int .u8 0),(.int .u8 0),(.int .u8 0),(.int .u8 0),(.int .u8 0),(.int .u8 0),(.int .u8 0),(.int .u8 0),(.int .i64 0),(.str []),.nilsl,(.int .u8 0),(.int .u8 0),(.int .u8 0),(.int .u8 0),(.int .u8 0),(.int .u8 0),(.int .u8 0),(.int .u8 0),(.int .u8 0),(.int .u8 0),(.int .u8 0),(.int .u8 0),(.int .u8 0),(.int .u8 0),(.int .u8 0),(.int .u8 0),(.int .u8 0),(.int .u8 0),(.int .u8 0),(.int .u8 0),(.int .u8 0),(.int .u8 0),(.int .u8 0),(.int .u8 0),(.int .u8 0),(.int .u8 0),(.int .u8 0),(.int .u8 0),(.int .u8 0),(.int .u8 0),(.int .u8 0),(.int .u8 0),.nilsl]),
 yI 3 (.mv (.v (.bool false)))]
@[go_sem] def q20r1:List AIns:=[
 yM 5 0,
 yI 6 (.call (.v (.fn 41 [])) [(.t 5)]),
 yM 7 6,
 yG 8 7 false (.mv (.t 0)),
 yG 9 7 false (.nilc (.t 8)),
 yG 10 7 false (.fa 70 (.t 9)),
 yG 11 7 false (.load false 1 (.t 10)),
 yG 12 7 false (.bin .eql .ptr (.t 11) (.v .nilp)),
 yI 13 (.pick (.t 7) (.v (.bool true)) (.t 12))]
@[go_sem] def q20r2:List AIns:=[
 yI 14 (.build [(.int .i64 0),(.int .i64 0),(.int .u8 0),(.int .u8 0),(.int .u8 0),(.int .u8 0),(.int .u8 0),(.int .u8 0),(.int .u8 0),(.int .u8 0),(.int .u8 0),(.int .u8 0),(.int .u8 0),(.int .u8 0),(.int .u8 0),(.int .u8 0),(.int .u8 0),(.int .u8 0),(.int .u8 0),(.int .u8 0),(.int .u8 0),(.int .u8 0),(.int .u8 0),(.int .u8 0),(.int .u8 0),(.int .u8 0),(.int .u8 0),(.int .u8 0),(.int .u8 0),(.int .u8 0),(.int .u8 0),(.int .u8 0),(.int .u8 0),(.int .u8 0),(.int .i64 0),(.str []),.nilsl,(.int .i64 0),(.int .u8 0),(.int .u8 0),(.int .u8 0),(.int .u8 0),(.int .u8 0),(.int .u8 0),(.int .u8 0),(.int .u8 0),(.int .u8 0),(.int .u8 0),(.int .u8 0),(.int .u8 0),(.int .u8 0),(.int .u8 0),(.int .u8 0),(.int .u8 0),(.int .u8 0),(.int .u8 0),(.int .u8 0),(.int .u8 0),(.int .u8 0),(.int .u8 0),(.int .u8 0),(.int .u8 0),(.int .u8 0),(.int .u8 0),(.int .u8 0),(.int .u8 0),(.int .u8 0),(.int .u8 0),(.int .u8 0),(.int .u8 0),(.int .i64 0),(.str []),.nilsl,(.int .u8 0),(.int .u8 0),(.int .u8 0),(.int .u8 0),(.int .u8 0),(.int .u8 0),(.int .u8 0),(.int .u8 0),(.int .u8 0),(.int .u8 0),(.int .u8 0),(.int .u8 0),(.int .u8 0),(.int .u8 0),(.int .u8 0),(.int .u8 0),(.int .u8 0),(.int .u8 0),(.int .u8 0),(.int .u8 0),(.int .u8 0),(.int .u8 0),(.int .u8 0),(.int .u8 0),(.int .u8 0),(.int .u8 0),(.int .u8 0),(.int .u8 0),(.int .u8 0),(.int .u8 0),(.int .u8 0),(.int .u8 0),.nilsl] []),
 ⟨none,none,.no,.store 106 (.t 2) (.t 14)⟩,
 yI 3 (.mv (.v (.bool false)))]
def q20c3:ACode:= .seq (.reg q20r2) .ret
def q20c4:ACode:= .cond (.t 13) q20c3 .skip
def q20c5:ACode:= .seq (.reg q20r1) q20c4
@[go_sem] def q20r6:List AIns:=[
 yM 15 0,
 yI 16 (.nilc (.t 15)),
 yI 17 (.fa 70 (.t 16)),
 yI 18 (.load false 1 (.t 17)),
 yI 19 (.nilc (.t 18)),
 yI 20 (.load true 106 (.t 19)),
 yI 4 (.alloc [(.int .i64 0),(.int .i64 0),(.int .u8 0),(.int .u8 0),(.int .u8 0),(.int .u8 0),(.int .u8 0),(.int .u8 0),(.int .u8 0),(.int .u8 0),(.int .u8 0),(.int .u8 0),(.int .u8 0),(.int .u8 0),(.int .u8 0),(.int .u8 0),(.int .u8 0),(.int .u8 0),(.int .u8 0),(.int .u8 0),(.int .u8 0),(.int .u8 0),(.int .u8 0),(.int .u8 0),(.int .u8 0),(.int .u8 0),(.int .u8 0),(.int .u8 0),(.int .u8 0),(.int .u8 0),(.int .u8 0),(.int .u8 0),(.int .u8 0),(.int .u8 0),(.int .i64 0),(.str []),.nilsl,(.int .i64 0),(.int .u8 0),(.int .u8 0),(.int .u8 0),(.int .u8 0),(.int .u8 0),(.int .u8 0),(.int .u8 0),(.int .u8 0),(.int .u8 0),(.int .u8 0),(.int .u8 0),(.int .u8 0),(.int .u8 0),(.int .u8 0),(.int .u8 0),(.int .u8 0),(.int .u8 0),(.int .u8 0),(.int .u8 0),(.int .u8 0),(.int .u8 0),(.int .u8 0),(.int .u8 0),(.int .u8 0),(.int .u8 0),(.int .u8 0),(.int .u8 0),(.int .u8 0),(.int .u8 0),(.int .u8 0),(.int .u8 0),(.int .u8 0),(.int .i64 0),(.str []),.nilsl,(.int .u8 0),(.int .u8 0),(.int .u8 0),(.int .u8 0),(.int .u8 0),(.int .u8 0),(.int .u8 0),(.int .u8 0),(.int .u8 0),(.int .u8 0),(.int .u8 0),(.int .u8 0),(.int .u8 0),(.int .u8 0),(.int .u8 0),(.int .u8 0),(.int .u8 0),(.int .u8 0),(.int .u8 0),(.int .u8 0),(.int .u8 0),(.int .u8 0),(.int .u8 0),(.int .u8 0),(.int .u8 0),(.int .u8 0),(.int .u8 0),(.int .u8 0),(.int .u8 0),(.int .u8 0),(.int .u8 0),(.int .u8 0),.nilsl]),
 ⟨none,none,.no,.store 106 (.t 4) (.t 20)⟩]
@[go_sem] def q20r7:List AIns:=[
 yI 21 (.fa 1 (.t 4)),
 ⟨some 22,none,.rd,.load true 36 (.t 21)⟩,
 ⟨some 23,none,.ef,.call (.v (.fn 43 [])) [(.t 22)]⟩,
 yI 24 (.fa 37 (.t 4)),
 ⟨some 25,none,.rd,.load true 36 (.t 24)⟩,
 yI 26 (.call (.v (.fn 43 [])) [(.t 25)]),
 yI 27 (.fa 1 (.t 4)),
 ⟨none,none,.no,.store 36 (.t 27) (.t 23)⟩,
 yI 28 (.fa 37 (.t 4)),
 ⟨none,none,.no,.store 36 (.t 28) (.t 26)⟩]
@[go_sem] def q20r8:List AIns:=[
 yI 29 (.load true 106 (.t 4)),
 ⟨none,none,.no,.store 106 (.t 2) (.t 29)⟩,
 yI 3 (.mv (.v (.bool true)))]
def q20c9:ACode:= .seq (.reg q20r8) .ret
def q20c10:ACode:= .seq (.reg q20r7) q20c9
def q20c11:ACode:= .seq (.reg q20r6) q20c10
def q20c12:ACode:= .seq q20c5 q20c11
def q20c13:ACode:= .seq (.reg q20r0) q20c12
theorem q20ok:cFn TC 19=some (30,[.c 2 true 106,.t 3],q20c13):=by kernel_rfl
@[go_sem] def q21r0:List AIns:=[
 yI 4 (.box (.t 1)),
 yI 6 (.mv (.v (.int .i64 0)))]
@[go_sem] def q21r1:List AIns:=[
 yM 9 0,
 yI 10 (.call (.v (.fn 41 [])) [(.t 9)]),
 yM 11 10,
 yG 12 11 false (.mv (.t 0)),
 yG 13 11 false (.nilc (.t 12)),
 yG 14 11 false (.fa 1 (.t 13)),
 ⟨some 15,some (11,false),.rd,.load true 32 (.t 14)⟩,
 ⟨some 16,some (11,false),.rd,.load true 36 (.t 4)⟩,
 yG 17 11 false (.call (.v (.fn 42 [])) [(.t 15),(.t 16)]),
 yG 18 11 false (.bin .neq .none (.t 17) (.v (.int .i64 0))),
 yI 19 (.pick (.t 11) (.v (.bool true)) (.t 18))]
@[go_sem] def q21r2:List AIns:=[
 yI 6 (.mv (.v (.int .i64 0)))]
def q21c3:ACode:= .seq (.reg q21r2) .ret
def q21c4:ACode:= .cond (.t 19) q21c3 .skip
def q21c5:ACode:= .seq (.reg q21r1) q21c4
@[go_sem] def q21r6:List AIns:=[
 yM 20 0,
 yI 21 (.nilc (.t 20)),
 yI 22 (.fa 33 (.t 21)),
 yI 23 (.load false 1 (.t 22)),
 yI 24 (.un .not (.t 23))]
@[go_sem] def q21r7:List AIns:=[
 yM 25 0,
 yM 26 0,
 yI 27 (.load true 36 (.t 4)),
 yI 28 (.call (.v (.fn 43 [])) [(.t 27)]),
 yI 29 (.nilc (.t 25)),
 yI 30 (.fa 33 (.t 29)),
 ⟨none,none,.no,.store 1 (.t 30) (.v (.bool true))⟩,
 yI 31 (.nilc (.t 26)),
 yI 32 (.fa 34 (.t 31)),
 ⟨none,none,.no,.store 36 (.t 32) (.t 28)⟩]
@[go_sem] def q21r8:List AIns:=[
 yI 6 (.mv (.v (.int .i64 1)))]
def q21c9:ACode:= .seq (.reg q21r8) .ret
def q21c10:ACode:= .seq (.reg q21r7) q21c9
def q21c11:ACode:= .cond (.t 24) q21c10 .skip
def q21c12:ACode:= .seq (.reg q21r6) q21c11
@[go_sem] def q21r13:List AIns:=[
 yI 33 (.fa 0 (.t 4)),
 ⟨some 34,none,.rd,.load true 33 (.t 33)⟩,
 yM 35 0,
 yI 36 (.nilc (.t 35)),
 yI 37 (.fa 34 (.t 36)),
 yI 38 (.fa 0 (.t 37)),
 ⟨some 39,none,.rd,.load true 33 (.t 38)⟩,
 ⟨some 7,none,.ef,.alloc ((.int .i64 0)::zZ0)⟩,
 ⟨some 8,none,.ef,.alloc ((.int .i64 0)::zZ0)⟩,
 ⟨none,none,.ef,.store 33 (.t 7) (.t 34)⟩,
 ⟨none,none,.no,.store 33 (.t 8) (.t 39)⟩]
@[go_sem] def q21r14:List AIns:=[
 yI 33 (.fa 0 (.t 4)),
 ⟨some 34,none,.rd,.load true 33 (.t 33)⟩,
 yM 35 0,
 yI 36 (.nilc (.t 35)),
 yI 37 (.fa 34 (.t 36)),
 yI 38 (.fa 0 (.t 37)),
 ⟨some 39,none,.rd,.load true 33 (.t 38)⟩,
 ⟨some 8,none,.ef,.alloc ((.int .i64 0)::zZ0)⟩,
 ⟨some 7,none,.ef,.alloc ((.int .i64 0)::zZ0)⟩,
 ⟨none,none,.ef,.store 33 (.t 7) (.t 34)⟩,
 ⟨none,none,.no,.store 33 (.t 8) (.t 39)⟩]
@[go_sem] def q21r15:List AIns:=[
 yI 40 (.load true 33 (.t 7)),
 yI 41 (.load true 33 (.t 8)),
 yI 42 (.call (.v (.fn 44 [])) [(.t 40),(.t 41)])]
@[go_sem] def q21r16:List AIns:=[
 yI 44 (.bin .eql .none (.t 42) (.v (.int .i64 1))),
 yM 43 44]
@[go_sem] def q21r17:List AIns:=[
 yI 6 (.mv (.v (.int .i64 3)))]
def q21c18:ACode:= .seq (.reg q21r17) .ret
@[go_sem] def q21r19:List AIns:=[
 yI 46 (.bin .eql .none (.t 42) (.v (.int .i64 3))),
 yM 45 46]
@[go_sem] def q21r20:List AIns:=[
 yM 47 0,
 yI 48 (.load true 36 (.t 4)),
 yI 49 (.call (.v (.fn 45 [])) [(.t 47),(.t 48)])]
@[go_sem] def q21r21:List AIns:=[
 yI 6 (.mv (.v (.int .i64 6)))]
def q21c22:ACode:= .seq (.reg q21r21) .ret
def q21c23:ACode:= .seq (.reg q21r20) q21c22
@[go_sem] def q21r24:List AIns:=[
 yI 51 (.bin .eql .none (.t 42) (.v (.int .i64 0))),
 yM 50 51]
@[go_sem] def q21r25:List AIns:=[
 yI 52 (.fa 0 (.t 7)),
 yI 53 (.load false 1 (.t 52)),
 yI 54 (.fa 0 (.t 8)),
 yI 55 (.load false 1 (.t 54)),
 yI 56 (.fa 1 (.t 7)),
 yI 57 (.load true 32 (.t 56)),
 yI 58 (.fa 1 (.t 8)),
 yI 59 (.load true 32 (.t 58)),
 yM 60 2,
 yI 61 (.call (.v (.fn 46 [])) [(.t 53),(.t 55),(.t 57),(.t 59),(.t 60)]),
 yI 62 (.bin .eql .none (.t 61) (.v (.int .i64 0)))]
@[go_sem] def q21r26:List AIns:=[
 yI 6 (.mv (.v (.int .i64 4)))]
def q21c27:ACode:= .seq (.reg q21r26) .ret
def q21c28:ACode:= .cond (.t 62) q21c27 .skip
def q21c29:ACode:= .seq (.reg q21r25) q21c28
@[go_sem] def q21r30:List AIns:=[
 yI 64 (.bin .eql .none (.t 42) (.v (.int .i64 2))),
 yM 63 64]
@[go_sem] def q21r31:List AIns:=[
 yI 65 (.fa 0 (.t 8)),
 yI 66 (.load false 1 (.t 65)),
 yI 67 (.fa 0 (.t 7)),
 yI 68 (.load false 1 (.t 67)),
 yI 69 (.fa 1 (.t 8)),
 yI 70 (.load true 32 (.t 69)),
 yI 71 (.fa 1 (.t 7)),
 yI 72 (.load true 32 (.t 71)),
 yM 73 2,
 yI 74 (.call (.v (.fn 46 [])) [(.t 66),(.t 68),(.t 70),(.t 72),(.t 73)]),
 yI 75 (.bin .eql .none (.t 74) (.v (.int .i64 0)))]
@[go_sem] def q21r32:List AIns:=[
 yM 76 0,
 yI 77 (.load true 36 (.t 4)),
 yI 78 (.call (.v (.fn 43 [])) [(.t 77)]),
 yI 79 (.nilc (.t 76)),
 yI 80 (.fa 34 (.t 79)),
 ⟨none,none,.no,.store 36 (.t 80) (.t 78)⟩]
@[go_sem] def q21r33:List AIns:=[
 yI 6 (.mv (.v (.int .i64 2)))]
def q21c34:ACode:= .seq (.reg q21r33) .ret
def q21c35:ACode:= .seq (.reg q21r32) q21c34
def q21c36:ACode:= .cond (.t 75) q21c35 .skip
def q21c37:ACode:= .seq (.reg q21r31) q21c36
def q21c38:ACode:= .cond (.t 63) q21c37 .skip
def q21c39:ACode:= .seq (.reg q21r30) q21c38
def q21c40:ACode:= .cond (.t 50) q21c29 q21c39
def q21c41:ACode:= .seq (.reg q21r24) q21c40
def q21c42:ACode:= .cond (.t 45) q21c23 q21c41
def q21c43:ACode:= .seq (.reg q21r19) q21c42
def q21c44:ACode:= .cond (.t 43) q21c18 q21c43
def q21c45:ACode:= .seq (.reg q21r16) q21c44
def q21c46:ACode:= .block 0 q21c45
def q21c47:ACode:= .seq (.reg q21r15) q21c46
@[go_sem] def q21r48:List AIns:=[
 yI 6 (.mv (.v (.int .i64 5)))]
def q21c49:ACode:= .seq (.reg q21r48) .ret
def zdf:ACode:= .seq q21c47 q21c49
def q21c51:ACode:= .seq (.reg2 q21r13 q21r14) zdf
def q21c52:ACode:= .seq q21c12 q21c51
def q21c53:ACode:= .seq q21c5 q21c52
def q21c54:ACode:= .seq (.reg q21r0) q21c53
theorem q21ok:cFn TC 13=some (81,[.t 6],q21c54):=by kernel_rfl
@[go_sem] def q22r0:List AIns:=[
 yI 8 (.mv (.v (.int .i64 0)))]
@[go_sem] def q22r1:List AIns:=[
 yM 10 0,
 yI 11 (.call (.v (.fn 41 [])) [(.t 10)]),
 yM 9 11]
@[go_sem] def q22r2:List AIns:=[
 yI 8 (.mv (.v (.int .i64 1)))]
def q22c3:ACode:= .seq (.reg q22r2) .ret
@[go_sem] def q22r4:List AIns:=[
 yM 13 0,
 yI 14 (.nilc (.t 13)),
 yI 15 (.fa 33 (.t 14)),
 yI 16 (.load false 1 (.t 15)),
 yI 17 (.un .not (.t 16)),
 yM 12 17]
@[go_sem] def q22r5:List AIns:=[
 yI 8 (.mv (.v (.int .i64 4)))]
def q22c6:ACode:= .seq (.reg q22r5) .ret
@[go_sem] def q22r7:List AIns:=[
 yM 19 1,
 yI 20 (.bin .lss .none (.t 19) (.v (.int .i64 0))),
 yM 21 20,
 yG 22 21 false (.mv (.t 1)),
 yG 23 21 false (.mv (.t 0)),
 yG 24 21 false (.nilc (.t 23)),
 yG 25 21 false (.fa 34 (.t 24)),
 yG 26 21 false (.fa 0 (.t 25)),
 yG 27 21 false (.fa 0 (.t 26)),
 yG 28 21 false (.load false 1 (.t 27)),
 yG 29 21 false (.bin .geq .none (.t 22) (.t 28)),
 yI 30 (.pick (.t 21) (.v (.bool true)) (.t 29)),
 yM 18 30]
@[go_sem] def q22r8:List AIns:=[
 yI 8 (.mv (.v (.int .i64 82)))]
def q22c9:ACode:= .seq (.reg q22r8) .ret
@[go_sem] def q22r10:List AIns:=[
 yM 32 2,
 yI 33 (.lenStr (.t 32)),
 yI 34 (.bin .gtr .none (.t 33) (.v (.int .i64 200))),
 yM 31 34]
@[go_sem] def q22r11:List AIns:=[
 yI 8 (.mv (.v (.int .i64 3)))]
def q22c12:ACode:= .seq (.reg q22r11) .ret
def q22c13:ACode:= .cond (.t 31) q22c12 .skip
def q22c14:ACode:= .seq (.reg q22r10) q22c13
def q22c15:ACode:= .cond (.t 18) q22c9 q22c14
def q22c16:ACode:= .seq (.reg q22r7) q22c15
def q22c17:ACode:= .cond (.t 12) q22c6 q22c16
def q22c18:ACode:= .seq (.reg q22r4) q22c17
def q22c19:ACode:= .cond (.t 9) q22c3 q22c18
def q22c20:ACode:= .seq (.reg q22r1) q22c19
@[go_sem] def q22r21:List AIns:=[
 yM 35 2,
 ⟨some 36,none,.ef,.call (.v (.fn 34 [])) [(.t 35)]⟩,
 yM 37 1,
 yM 38 0,
 yI 39 (.nilc (.t 38)),
 yI 40 (.fa 34 (.t 39)),
 yI 41 (.fa 0 (.t 40)),
 yI 42 (.fa 0 (.t 41)),
 ⟨some 43,none,.rd,.load false 1 (.t 42)⟩,
 yM 44 3,
 yM 45 0,
 yI 46 (.nilc (.t 45)),
 yI 47 (.fa 34 (.t 46)),
 yI 48 (.fa 0 (.t 47)),
 yI 49 (.fa 1 (.t 48)),
 ⟨some 50,none,.rd,.load true 32 (.t 49)⟩,
 yI 51 (.call (.v (.fn 51 [])) [(.t 36),(.t 37),(.t 43),(.t 44),(.t 50)]),
 yM 8 51]
def q22c22:ACode:= .seq (.reg q22r21) .ret
def q22c23:ACode:= .seq (.block 0 q22c20) q22c22
def q22c24:ACode:= .seq (.reg q22r0) q22c23
theorem q22ok:cFn TC 16=some (52,[.t 8],q22c24):=by kernel_rfl
@[go_sem] def q23r0:List AIns:=[
 yI 2 (.alloc [.nilp,.nilsl])]
@[go_sem] def q23r1:List AIns:=[
 yI 3 (.call (.v (.fn 79 [])) [(.v (.str [108,111,103]))]),
 yM 4 0,
 yI 5 (.build [.nilp,.nilsl] [(0,1,(.t 3)),(1,1,(.t 4))]),
 ⟨none,none,.no,.store 2 (.t 2) (.t 5)⟩]
def q23c2:ACode:= .seq (.reg q23r1) .ret
def q23c3:ACode:= .seq (.reg q23r0) q23c2
theorem q23ok:cFn TC 33=some (6,[.c 2 true 2],q23c3):=by kernel_rfl
@[go_sem] def q24r0:List AIns:=[
 yI 1 (.box (.t 0)),
 yI 2 (.mv (.v .nilp))]
@[go_sem] def q24r1:List AIns:=[
 yI 3 (.load true 32 (.t 1)),
 yI 4 (.build [(.bool false),(.int .u8 0),(.int .u8 0),(.int .u8 0),(.int .u8 0),(.int .u8 0),(.int .u8 0),(.int .u8 0),(.int .u8 0),(.int .u8 0),(.int .u8 0),(.int .u8 0),(.int .u8 0),(.int .u8 0),(.int .u8 0),(.int .u8 0),(.int .u8 0),(.int .u8 0),(.int .u8 0),(.int .u8 0),(.int .u8 0),(.int .u8 0),(.int .u8 0),(.int .u8 0),(.int .u8 0),(.int .u8 0),(.int .u8 0),(.int .u8 0),(.int .u8 0),(.int .u8 0),(.int .u8 0),(.int .u8 0),(.int .u8 0),(.bool false),(.int .i64 0),(.int .u8 0),(.int .u8 0),(.int .u8 0),(.int .u8 0),(.int .u8 0),(.int .u8 0),(.int .u8 0),(.int .u8 0),(.int .u8 0),(.int .u8 0),(.int .u8 0),(.int .u8 0),(.int .u8 0),(.int .u8 0),(.int .u8 0),(.int .u8 0),(.int .u8 0),(.int .u8 0),(.int .u8 0),(.int .u8 0),(.int .u8 0),(.int .u8 0),(.int .u8 0),(.int .u8 0),(.int .u8 0),(.int .u8 0),(.int .u8 0),(.int .u8 0),(.int .u8 0),(.int .u8 0),(.int .u8 0),(.int .u8 0),(.int .i64 0),(.str []),.nilsl,.nilp] [(0,1,(.v (.bool true))),(1,32,(.t 3))]),
 yI 5 (.box (.t 4)),
 yM 2 5]
def q24c2:ACode:= .seq (.reg q24r1) .ret
def q24c3:ACode:= .seq (.reg q24r0) q24c2
theorem q24ok:cFn TC 10=some (6,[.t 2],q24c3):=by kernel_rfl
@[go_sem] def q25r0:List AIns:=[
 yI 3 (.box (.t 0)),
 yI 6 (.alloc [(.int .i64 0),(.int .u8 0),(.int .u8 0),(.int .u8 0),(.int .u8 0),(.int .u8 0),(.int .u8 0),(.int .u8 0),(.int .u8 0),(.int .u8 0),(.int .u8 0),(.int .u8 0),(.int .u8 0),(.int .u8 0),(.int .u8 0),(.int .u8 0),(.int .u8 0),(.int .u8 0),(.int .u8 0),(.int .u8 0),(.int .u8 0),(.int .u8 0),(.int .u8 0),(.int .u8 0),(.int .u8 0),(.int .u8 0),(.int .u8 0),(.int .u8 0),(.int .u8 0),(.int .u8 0),(.int .u8 0),(.int .u8 0),(.int .u8 0),(.int .i64 0),(.str []),.nilsl])]
@[go_sem] def q25r1:List AIns:=[
 yM 10 1,
 yI 11 (.fa 1 (.t 3)),
 yI 12 (.load false 1 (.t 11)),
 yM 13 1,
 yI 14 (.slice (.sl 1) (.t 12) none (some (.t 13)) none),
 yI 15 (.call (.v (.fn 9 [])) [(.t 14)]),
 yI 16 (.call (.v (.fn 50 [])) [(.t 15)]),
 yI 17 (.build ((.int .i64 0)::zZ0) [(0,1,(.t 10)),(1,32,(.t 16))]),
 yI 7 (.alloc ((.int .i64 0)::zZ0)),
 ⟨none,none,.no,.store 33 (.t 7) (.t 17)⟩]
@[go_sem] def q25r2:List AIns:=[
 yI 19 (.fa 0 (.t 3)),
 ⟨some 20,none,.rd,.load false 1 (.t 19)⟩,
 yM 21 2,
 yI 22 (.bin .and .none (.t 21) (.v (.int .i64 7))),
 ⟨some 23,none,.rd,.load true 33 (.t 7)⟩,
 ⟨some 24,none,.pu,.call (.v (.fn 84 [])) [(.t 23)]⟩,
 ⟨some 25,none,.pu,.call (.v (.fn 83 [])) [(.t 20),(.t 22),(.t 24)]⟩,
 yM 18 25,
 yI 26 (.ext 0 (.t 18)),
 yI 27 (.ext 1 (.t 18)),
 ⟨some 8,none,.ef,.alloc [(.int .i64 0),(.str []),.nilsl]⟩,
 ⟨none,none,.no,.store 3 (.t 8) (.t 26)⟩,
 yM 9 27]
@[go_sem] def q25r3:List AIns:=[
 yI 28 (.load true 33 (.t 7)),
 yI 29 (.load true 3 (.t 8)),
 yI 30 (.build [(.int .i64 0),(.int .u8 0),(.int .u8 0),(.int .u8 0),(.int .u8 0),(.int .u8 0),(.int .u8 0),(.int .u8 0),(.int .u8 0),(.int .u8 0),(.int .u8 0),(.int .u8 0),(.int .u8 0),(.int .u8 0),(.int .u8 0),(.int .u8 0),(.int .u8 0),(.int .u8 0),(.int .u8 0),(.int .u8 0),(.int .u8 0),(.int .u8 0),(.int .u8 0),(.int .u8 0),(.int .u8 0),(.int .u8 0),(.int .u8 0),(.int .u8 0),(.int .u8 0),(.int .u8 0),(.int .u8 0),(.int .u8 0),(.int .u8 0),(.int .i64 0),(.str []),.nilsl] [(0,33,(.t 28)),(33,3,(.t 29))]),
 ⟨none,none,.no,.store 36 (.t 6) (.t 30)⟩]
def q25c4:ACode:= .seq (.reg q25r3) .ret
def q25c5:ACode:= .seq (.reg q25r2) q25c4
def q25c6:ACode:= .seq (.reg q25r1) q25c5
def q25c7:ACode:= .seq (.reg q25r0) q25c6
theorem q25ok:cFn TC 36=some (31,[.c 6 true 36],q25c7):=by kernel_rfl
@[go_sem] def q26r0:List AIns:=[
 yI 2 (.mv (.v (.bool false)))]
@[go_sem] def q26r1:List AIns:=[
 yM 3 0,
 yI 4 (.bin .eql .ptr (.t 3) (.v .nilp)),
 yM 5 4,
 yG 6 5 false (.mv (.t 0)),
 yG 7 5 false (.nilc (.t 6)),
 yG 8 5 false (.fa 0 (.t 7)),
 yG 9 5 false (.load false 1 (.t 8)),
 yG 10 5 false (.un .not (.t 9)),
 yI 11 (.pick (.t 5) (.v (.bool true)) (.t 10)),
 yM 2 11]
def q26c2:ACode:= .seq (.reg q26r1) .ret
def q26c3:ACode:= .seq (.reg q26r0) q26c2
theorem q26ok:cFn TC 41=some (12,[.t 2],q26c3):=by kernel_rfl
@[go_sem] def q27r0:List AIns:=[
 yI 1 (.box (.t 0)),
 yI 2 (.alloc [(.int .i64 0),(.int .u8 0),(.int .u8 0),(.int .u8 0),(.int .u8 0),(.int .u8 0),(.int .u8 0),(.int .u8 0),(.int .u8 0),(.int .u8 0),(.int .u8 0),(.int .u8 0),(.int .u8 0),(.int .u8 0),(.int .u8 0),(.int .u8 0),(.int .u8 0),(.int .u8 0),(.int .u8 0),(.int .u8 0),(.int .u8 0),(.int .u8 0),(.int .u8 0),(.int .u8 0),(.int .u8 0),(.int .u8 0),(.int .u8 0),(.int .u8 0),(.int .u8 0),(.int .u8 0),(.int .u8 0),(.int .u8 0),(.int .u8 0),(.int .i64 0),(.str []),.nilsl])]
@[go_sem] def q27r1:List AIns:=[
 yI 3 (.fa 33 (.t 1)),
 yI 4 (.fa 2 (.t 3)),
 yI 5 (.load false 1 (.t 4)),
 yI 6 (.call (.v (.fn 93 [])) [(.t 5)]),
 yI 7 (.fa 33 (.t 1)),
 yI 8 (.fa 2 (.t 7)),
 ⟨none,none,.no,.store 1 (.t 8) (.t 6)⟩]
@[go_sem] def q27r2:List AIns:=[
 yI 9 (.load true 36 (.t 1)),
 ⟨none,none,.no,.store 36 (.t 2) (.t 9)⟩]
def q27c3:ACode:= .seq (.reg q27r2) .ret
def q27c4:ACode:= .seq (.reg q27r1) q27c3
def q27c5:ACode:= .seq (.reg q27r0) q27c4
theorem q27ok:cFn TC 43=some (10,[.c 2 true 36],q27c5):=by kernel_rfl
@[go_sem] def q28r0:List AIns:=[
 yI 3 (.box (.t 1))]
@[go_sem] def q28r1:List AIns:=[
 yM 4 0,
 yI 5 (.nilc (.t 4)),
 yI 6 (.fa 70 (.t 5)),
 yI 7 (.load false 1 (.t 6)),
 yI 8 (.bin .eql .ptr (.t 7) (.v .nilp))]
@[go_sem] def q28r2:List AIns:=[
 yM 9 0,
 yM 10 0,
 yI 11 (.nilc (.t 10)),
 yI 12 (.fa 34 (.t 11)),
 ⟨some 13,none,.rd,.load true 36 (.t 12)⟩,
 ⟨some 14,none,.rd,.load true 36 (.t 3)⟩,
 ⟨some 15,none,.ef,.call (.v (.fn 43 [])) [(.t 14)]⟩,
 yI 16 (.build [(.int .i64 0),(.int .i64 0),(.int .u8 0),(.int .u8 0),(.int .u8 0),(.int .u8 0),(.int .u8 0),(.int .u8 0),(.int .u8 0),(.int .u8 0),(.int .u8 0),(.int .u8 0),(.int .u8 0),(.int .u8 0),(.int .u8 0),(.int .u8 0),(.int .u8 0),(.int .u8 0),(.int .u8 0),(.int .u8 0),(.int .u8 0),(.int .u8 0),(.int .u8 0),(.int .u8 0),(.int .u8 0),(.int .u8 0),(.int .u8 0),(.int .u8 0),(.int .u8 0),(.int .u8 0),(.int .u8 0),(.int .u8 0),(.int .u8 0),(.int .u8 0),(.int .i64 0),(.str []),.nilsl,(.int .i64 0),(.int .u8 0),(.int .u8 0),(.int .u8 0),(.int .u8 0),(.int .u8 0),(.int .u8 0),(.int .u8 0),(.int .u8 0),(.int .u8 0),(.int .u8 0),(.int .u8 0),(.int .u8 0),(.int .u8 0),(.int .u8 0),(.int .u8 0),(.int .u8 0),(.int .u8 0),(.int .u8 0),(.int .u8 0),(.int .u8 0),(.int .u8 0),(.int .u8 0),(.int .u8 0),(.int .u8 0),(.int .u8 0),(.int .u8 0),(.int .u8 0),(.int .u8 0),(.int .u8 0),(.int .u8 0),(.int .u8 0),(.int .u8 0),(.int .i64 0),(.str []),.nilsl,(.int .u8 0),(.int .u8 0),(.int .u8 0),(.int .u8 0),(.int .u8 0),(.int .u8 0),(.int .u8 0),(.int .u8 0),(.int .u8 0),(.int .u8 0),(.int .u8 0),(.int .u8 0),(.int .u8 0),(.int .u8 0),(.int .u8 0),(.int .u8 0),(.int .u8 0),(.int .u8 0),(.int .u8 0),(.int .u8 0),(.int .u8 0),(.int .u8 0),(.int .u8 0),(.int .u8 0),(.int .u8 0),(.int .u8 0),(.int .u8 0),(.int .u8 0),(.int .u8 0),(.int .u8 0),(.int .u8 0),(.int .u8 0),.nilsl] [(0,1,(.v (.int .i64 1))),(1,36,(.t 13)),(37,36,(.t 15))]),
 yI 17 (.box (.t 16)),
 yI 18 (.nilc (.t 9)),
 yI 19 (.fa 70 (.t 18)),
 ⟨none,none,.no,.store 1 (.t 19) (.t 17)⟩]
def q28c3:ACode:= .cond (.t 8) (.reg q28r2) .skip
def q28c4:ACode:= .seq (.reg q28r1) q28c3
def q28c5:ACode:= .seq (.reg q28r0) q28c4
theorem q28ok:cFn TC 45=some (20,[],q28c5):=by kernel_rfl
@[go_sem] def q29r0:List AIns:=[
 yI 2 (.mv (.v .nilsl))]
@[go_sem] def q29r1:List AIns:=[
 yI 3 (.mv (.v .nilsl))]
@[go_sem] def q29r2:List AIns:=[
 yI 4 (.mv (.v (.int .i64 0)))]
@[go_sem] def q29r3:List AIns:=[
 yM 5 4,
 yM 6 0,
 yI 7 (.lenSl (.t 6)),
 yI 8 (.bin .lss .none (.t 5) (.t 7))]
def q29c4:ACode:= .cond (.t 8) .skip (.exit 0)
def q29c5:ACode:= .seq (.reg q29r3) q29c4
@[go_sem] def q29r6:List AIns:=[
 yM 11 3,
 yM 12 0,
 yM 13 4,
 yI 14 (.iaSl 1 (.t 12) (.t 13)),
 yI 15 (.load false 1 (.t 14)),
 yI 16 (.call (.v (.fn 38 [])) [(.t 15)]),
 yI 17 (.lit 32 [(.t 16)]),
 yI 18 (.app 32 (.t 11) (.t 17)),
 yM 3 18]
@[go_sem] def q29r7:List AIns:=[
 yM 9 4,
 yI 10 (.bin .add .none (.t 9) (.v (.int .i64 1))),
 yM 4 10]
def q29c8:ACode:= .seq (.block 1 (.reg q29r6)) (.reg q29r7)
def q29c9:ACode:= .seq q29c5 q29c8
def q29c10:ACode:= .loop q29c9
def q29c11:ACode:= .block 0 q29c10
def q29c12:ACode:= .seq (.reg q29r2) q29c11
@[go_sem] def q29r13:List AIns:=[
 yM 19 3,
 yM 2 19]
def q29c14:ACode:= .seq (.reg q29r13) .ret
def q29c15:ACode:= .seq q29c12 q29c14
def q29c16:ACode:= .seq (.reg q29r1) q29c15
def q29c17:ACode:= .seq (.reg q29r0) q29c16
theorem q29ok:cFn TC 9=some (20,[.t 2],q29c17):=by kernel_rfl
end
section
def pbC0:List AV:=[.nilp,.nilsl,.nilsl,.int .i64 0,.nilsl,.nilsl]
def PubN(J:Store)(p:AV):Prop:=p= .nilp \/ ∃r,p= .ptr r 0 0/\ J[r]? =some (some [pbC0])
theorem PubN.more{J:Store}{p:AV}(h:PubN J p)(y:Store):PubN (J++y) p:=by
 rcases h with h| ⟨r,h,hg⟩
 ·exact .inl h
 ·exact .inr ⟨r,h,by rw [gapp (slen hg)];exact hg⟩
def sgZ:List AV:= .int .i64 0::(hc zeroH++ [.int .i64 0,.str [],.nilsl])
attribute [local irreducible] ACallsTo ACallsP pubH
end
section
attribute [local irreducible] ACallsTo ACallsP pubH
end
section
def adC0:List AV:= .bool false::(hc zeroH++(.bool false::(sgZ++ [.nilp])))
def AudN(J:Store)(p:AV):Prop:=p= .nilp \/ ∃r,p= .ptr r 0 0/\ J[r]? =some (some [adC0])
theorem AudN.more{J:Store}{p:AV}(h:AudN J p)(y:Store):AudN (J++y) p:=by
 rcases h with h| ⟨r,h,hg⟩
 ·exact .inl h
 ·exact .inr ⟨r,h,by rw [gapp (slen hg)];exact hg⟩
def evZ:List AV:=[.int .i64 0,.int .i64 0,.int .u8 0,.int .u8 0,.int .u8 0,.int .u8 0,.int .u8 0,.int .u8 0,.int .u8 0,.int .u8 0,.int .u8 0,.int .u8 0,.int .u8 0,.int .u8 0,.int .u8 0,.int .u8 0,.int .u8 0,.int .u8 0,.int .u8 0,.int .u8 0,.int .u8 0,.int .u8 0,.int .u8 0,.int .u8 0,.int .u8 0,.int .u8 0,.int .u8 0,.int .u8 0,.int .u8 0,.int .u8 0,.int .u8 0,.int .u8 0,.int .u8 0,.int .u8 0,.int .i64 0,.str [],.nilsl,.int .i64 0,.int .u8 0,.int .u8 0,.int .u8 0,.int .u8 0,.int .u8 0,.int .u8 0,.int .u8 0,.int .u8 0,.int .u8 0,.int .u8 0,.int .u8 0,.int .u8 0,.int .u8 0,.int .u8 0,.int .u8 0,.int .u8 0,.int .u8 0,.int .u8 0,.int .u8 0,.int .u8 0,.int .u8 0,.int .u8 0,.int .u8 0,.int .u8 0,.int .u8 0,.int .u8 0,.int .u8 0,.int .u8 0,.int .u8 0,.int .u8 0,.int .u8 0,.int .u8 0,.int .i64 0,.str [],.nilsl,.int .u8 0,.int .u8 0,.int .u8 0,.int .u8 0,.int .u8 0,.int .u8 0,.int .u8 0,.int .u8 0,.int .u8 0,.int .u8 0,.int .u8 0,.int .u8 0,.int .u8 0,.int .u8 0,.int .u8 0,.int .u8 0,.int .u8 0,.int .u8 0,.int .u8 0,.int .u8 0,.int .u8 0,.int .u8 0,.int .u8 0,.int .u8 0,.int .u8 0,.int .u8 0,.int .u8 0,.int .u8 0,.int .u8 0,.int .u8 0,.int .u8 0,.int .u8 0,.nilsl]
attribute [local irreducible] ACallsTo ACallsP pubH
end
section
attribute [local irreducible] ACallsTo ACallsP pubH
end
section
attribute [local irreducible] ACallsTo ACallsP pubH
end
section
attribute [local irreducible] ACallsTo ACallsP pubH
def pbC(t:AV)(log lv:AV)(n:Int)(rg hs:AV):List AV:=[t,log,lv,.int .i64 n,rg,hs]
end
section
theorem zrl(n:Int)(r:Hash)(i:Int)(s:List UInt8)(x v:AV):(sgC n r i s x).set 35 v=sgC n r i s v:=by
 unfold sgC
 rw [List.set_cons_succ,List.set_append_right _ _ (by rw [z6];omega),z6]
 rfl
theorem zrj(n:Int)(r:Hash)(i:Int)(s:List UInt8)(x v:AV):(sgC n r i s x).take 35++v::(sgC n r i s x).drop 36=sgC n r i s v:=by
 have h:=zrl n r i s x v
 rwa [List.set_eq_take_append_cons_drop,if_pos (by rw [z8];omega)]at h
attribute [local irreducible] ACallsTo ACallsP
end
section
attribute [local irreducible] ACallsTo ACallsP
end
section
structure Hdr where
 n:Int
 r:Hash
 i:Int
 s:List UInt8
 p:List Hash
def hdrC(h:Hdr):List AV:=sgC h.n h.r h.i h.s (z15 32 (hr h.p))
def hdrs(H:List Hdr):List (List AV):=H.map hdrC
theorem znl(H:List Hdr):(hdrs H).length=H.length:=by simp [hdrs]
theorem zg(h:Hdr):(hdrC h).length=36:=z8 _ _ _ _ _
theorem z7v{k:Nat}(h:Hdr):RLs k (hdrC h):=z9b (z5u (z1w _))
attribute [local irreducible] ACallsTo ACallsP
end
section
attribute [local irreducible] ACallsTo ACallsP
end
section
theorem z9c{J:Store}{q q':Nat}{a b:List AV}{es es':List (List AV)}(h:J[q]? =some (some es))(h':J[q']? =some (some es'))(e:es[0]? =some a)(e':es'[0]? =some b)(hl:a.length ≠ b.length):q ≠ q':=by
 rintro rfl
 rw [h]at h'
 simp only [Option.some.injEq]at h'
 subst h'
 rw [e]at e'
 simp only [Option.some.injEq]at e'
 exact hl (by rw [e'])
theorem zsb{L:List (List UInt8)}(h:L ≠ []):∃a:List AV,(strs L)[0]? =some a/\ a.length=1:=by
 cases L with
 |nil=>exact absurd rfl h
 |cons s L=>exact⟨[.str s],rfl,rfl⟩
theorem hr_at0{l:List Hash}(h:l ≠ []):∃a:List AV,(hr l)[0]? =some a/\ a.length=32:=by
 cases l with
 |nil=>exact absurd rfl h
 |cons s l=>exact⟨hc s,rfl,z6 s⟩
theorem zh7{H:List Hdr}(h:H ≠ []):∃a:List AV,(hdrs H)[0]? =some a/\ a.length=36:=by
 cases H with
 |nil=>exact absurd rfl h
 |cons s H=>exact⟨hdrC s,rfl,zg s⟩
theorem RowAt.ne{sz n q:Nat}{J:Store}{sid:Option Nat}{v:AV}{es es':List (List AV)}{b:List AV}(h:RowAt sz J sid v es)(hw:es ≠ []->∃a:List AV,es[0]? =some a/\ a.length=n)(h':J[q]? =some (some es'))(e':es'[0]? =some b)(hb:b.length ≠ n):∀j,sid=some j->j ≠ q:=by
 intro j e
 rcases h with⟨e2,_⟩| ⟨j',e2,hn,_,hg⟩
 ·rw [e2]at e;cases e
 ·rw [e2]at e;cases e
  obtain⟨a,ha,hl⟩:=hw hn
  exact z9c hg h' ha e' (by omega)
theorem RowAt.ne2{sz n sz' n':Nat}{J:Store}{sid sid':Option Nat}{v v':AV}{es es':List (List AV)}(h:RowAt sz J sid v es)(hw:es ≠ []->∃a:List AV,es[0]? =some a/\ a.length=n)(h':RowAt sz' J sid' v' es')(hw':es' ≠ []->∃a:List AV,es'[0]? =some a/\ a.length=n')(hnn:n ≠ n'):∀j,sid=some j->sid' ≠ some j:=by
 intro j e e'
 rcases h' with⟨e2,_⟩| ⟨j',e2,hn,_,hg⟩
 ·rw [e2]at e';cases e'
 ·rw [e2]at e';cases e'
  obtain⟨a,ha,hl⟩:=hw' hn
  exact h.ne hw hg ha (by omega) j e rfl
theorem zja{L:List (List UInt8)}(h:strs L ≠ []):∃a:List AV,(strs L)[0]? =some a/\ a.length=1:=zsb fun e=>h (by rw [e];rfl)
theorem hr_w{l:List Hash}(h:hr l ≠ []):∃a:List AV,(hr l)[0]? =some a/\ a.length=32:=hr_at0 fun e=>h (by rw [e];rfl)
theorem zcq{H:List Hdr}(h:hdrs H ≠ []):∃a:List AV,(hdrs H)[0]? =some a/\ a.length=36:=zh7 fun e=>h (by rw [e];rfl)
structure Fr(J J':Store)(own own':List Nat):Prop where
 st:∀j,j<J.length->j ∉ own->J'[j]? =J[j]?
 new:∀j,j ∈ own'->j ∈ own \/J.length<=j
 le:J.length<=J'.length
theorem Fr.ext{J J':Store}{own:List Nat}(h:Ext J J'):Fr J J' own own:=by
 refine⟨fun j hj _=> ?_,fun j hj=> .inl hj,h.le⟩
 obtain⟨y,rfl⟩:=h
 exact gapp hj
theorem Fr.get{J J':Store}{own own':List Nat}(h:Fr J J' own own'){j:Nat}{o:Option AObj}(hg:J[j]? =some o)(hj:j ∉ own):J'[j]? =some o:=by
 rw [h.st j (slen hg) hj];exact hg
def PubIs(J:Store)(r:Nat)(seed:List UInt8)(L:List (List UInt8))(H:List Hdr)(own:List Nat):Prop:=
 ∃t lg lv z hs sl sv sh,own=r::t::(Option.toList sl++(Option.toList sv++Option.toList sh))/\ J[r]? =some (some [pbC (.ptr t 0 0) lg lv L.length z hs]) ∧
  J[t]? =some (some [z1n true seed (keyL seed)])/\ RowAt 1 J sl lg (strs L)/\ RowAt 32 J sv lv (hr (lvs L))/\ SlV 32 (hr (ofR (lvs L)).reverse) z/\ RowAt 36 J sh hs (hdrs H)
theorem PubIs.lt{J:Store}{r:Nat}{seed:List UInt8}{L:List (List UInt8)}{H:List Hdr}{own:List Nat}(h:PubIs J r seed L H own){j:Nat}(hj:j ∈ own):j<J.length:=by
 obtain⟨t,lg,lv,z,hs,sl,sv,sh,rfl,hg,ht,h1,h2,hz,h3⟩:=h
 simp only [List.mem_cons,List.mem_append,Option.mem_toList]at hj
 rcases hj with rfl|rfl|h|h|h
 ·exact slen hg
 ·exact slen ht
 ·exact h1.lt h
 ·exact h2.lt h
 ·exact h3.lt h
theorem PubIs.keep{J J':Store}{r:Nat}{seed:List UInt8}{L:List (List UInt8)}{H:List Hdr}{own:List Nat}(h:PubIs J r seed L H own)(hk:∀j,j ∈ own->J'[j]? =J[j]?):PubIs J' r seed L H own:=by
 obtain⟨t,lg,lv,z,hs,sl,sv,sh,rfl,hg,ht,h1,h2,hz,h3⟩:=h
 refine⟨t,lg,lv,z,hs,sl,sv,sh,rfl,?_,?_,h1.keep fun q e=>hk q ?_,h2.keep fun q e=>hk q ?_,hz,h3.keep fun q e=>hk q ?_⟩
 ·rw [hk r (by simp)];exact hg
 ·rw [hk t (by simp)];exact ht
 all_goals simp [e]
theorem PubIs.ext{J J':Store}{r:Nat}{seed:List UInt8}{L:List (List UInt8)}{H:List Hdr}{own:List Nat}(h:PubIs J r seed L H own)(he:Ext J J'):PubIs J' r seed L H own:=by
 obtain⟨y,rfl⟩:=he
 exact h.keep fun j hj=>gapp (h.lt hj)
def apE(s:List UInt8):Int:=if 200<s.length then 3 else 0
def apL(L:List (List UInt8))(s:List UInt8):List (List UInt8):=if 200<s.length then L else L++ [s]
def AppendP(J:Store)(r:Nat)(seed:List UInt8)(L:List (List UInt8))(H:List Hdr)(own:List Nat)(s:List UInt8)(a:AV)(J':Store):Prop:=
 a= .int .i64 (apE s)/\ ∃own',Fr J J' own own'/\ PubIs J' r seed (apL L s) H own'
theorem zsc{L:List (List UInt8)}(h:L ≠ []):strs L ≠ []:=fun e=>h (by cases L with|nil=>rfl|cons a l=>simp [strs]at e)
theorem znm{H:List Hdr}(h:H ≠ []):hdrs H ≠ []:=fun e=>h (by cases H with|nil=>rfl|cons a l=>simp [hdrs]at e)
theorem lvs_ne{L:List (List UInt8)}(h:L ≠ []):hr (lvs L) ≠ []:=fun e=>h (by cases L with|nil=>rfl|cons a l=>simp [lvs,hr]at e)
theorem AppendP.ok{J J':Store}{r t q1 q2:Nat}{seed:List UInt8}{L:List (List UInt8)}{H:List Hdr}{s:List UInt8}{z2 hs:AV}{sl sv sh:Option Nat}(h200:¬200<s.length)
  (hg:J'[r]? =some (some [pbC (.ptr t 0 0) (.sl q1 0 (L.length+1) none 1) (.sl q2 0 (L.length+1) none 32) ((L.length+1:Nat):Int) z2 hs])) (ht:J'[t]? =some (some [z1n true seed (keyL seed)]))
  (h1:J'[q1]? =some (some (strs (L++ [s])))) (h2:J'[q2]? =some (some (hr (lvs (L++ [s]))))) (hz:SlV 32 (hr (ofR (lvs (L++ [s]))).reverse) z2) (h3:RowAt 36 J' sh hs (hdrs H))
  (hq1:J.length<=q1) (hq2:J.length<=q2) (hle:J.length<=J'.length) (hst:∀j,j<J.length->j ≠ r->sl ≠ some j->sv ≠ some j->J'[j]? =J[j]?):
  AppendP J r seed L H (r::t::(Option.toList sl++(Option.toList sv++Option.toList sh))) s (.int .i64 0) J':=by
 refine⟨by unfold apE;rw [if_neg h200],r::t::(Option.toList (some q1)++(Option.toList (some q2)++Option.toList sh)),⟨fun j hj hn=> ?_,fun j hj=> ?_,hle⟩,?_⟩
 ·simp only [List.mem_cons,List.mem_append,Option.mem_toList,not_or]at hn
  exact hst j hj hn.1 (fun e=>hn.2.2.1 e) (fun e=>hn.2.2.2.1 e)
 ·simp only [List.mem_cons,List.mem_append,Option.mem_toList,Option.some.injEq]at hj ⊢
  rcases hj with h|h|h|h|h
  ·exact .inl (.inl h)
  ·exact .inl (.inr (.inl h))
  ·exact .inr (by omega)
  ·exact .inr (by omega)
  ·exact .inl (.inr (.inr (.inr (.inr h))))
 ·unfold apL
  rw [if_neg h200]
  have hne:L++ [s] ≠ []:=by simp
  refine⟨t,_,_,z2,hs,some q1,some q2,sh,rfl,by rw [List.length_append];exact hg,ht,.inr ⟨q1,rfl,zsc hne,?_,h1⟩,.inr ⟨q2,rfl,lvs_ne hne,?_,h2⟩,hz,h3⟩
  ·rw [zh,List.length_append];rfl
  ·rw [z7,zi,List.length_append];rfl
theorem AppendP.is{J:Store}{r:Nat}{seed:List UInt8}{L:List (List UInt8)}{H:List Hdr}{own:List Nat}{s:List UInt8}(hT:PubIs J r seed L H own):∃a J',AppendP J r seed L H own s a J':=by
 by_cases h:200<s.length
 ·exact⟨_,J,rfl,own,.ext (.refl _),by unfold apL;rw [if_pos h];exact hT⟩
 ·obtain⟨t,lg,lv,z,hs,sl,sv,sh,rfl,hg,ht,h1,h2,hz,h3⟩:=hT
  have d:=slen hg
  have d2:=slen ht
  have hrt:t ≠ r:=z9c ht hg (a:=z1n true seed (keyL seed)) (b:=pbC (.ptr t 0 0) lg lv L.length z hs) rfl rfl (by rw [zer,z36];simp [pbC])
  refine⟨_,(J.set r (some [pbC (.ptr t 0 0) (.sl J.length 0 (L.length+1) none 1) (.sl (J.length+1) 0 (L.length+1) none 32) ((L.length+1:Nat):Int) (z15 32 (hr (ofR (lvs (L++ [s]))).reverse)) hs]))++ [some (strs (L++ [s])),some (hr (lvs (L++ [s])))],
   .ok (J:=J) (q1:=J.length) (q2:=J.length+1) (hs:=hs) h ?_ ?_ ?_ ?_ (z2x _ _) ?_ (Nat.le_refl _) (by omega) (by simp) fun j hj hjr _ _=> ?_⟩
  ·rw [gapp (by simpa using d),z2e d]
  ·rw [gapp (by simpa using d2),z1c (fun e=>hrt e.symm)];exact ht
  ·rw [z1j (by simp)];simp
  ·rw [z1j (by simp)];simp
  ·refine h3.keep fun q e=> ?_
   have hq:=h3.lt e
   have hqr:q ≠ r:=by
    rcases h3 with⟨e2,_⟩| ⟨q',e2,hn,rfl,hgq⟩
    ·rw [e2]at e;cases e
    ·rw [e2]at e;cases e
     obtain⟨a,ha,hal⟩:=zh7 (H:=H) (fun e=>hn (by rw [e];rfl))
     exact z9c hgq hg ha (b:=pbC (.ptr t 0 0) lg lv L.length z _) rfl (by rw [hal];simp [pbC])
   rw [gapp (by simpa using hq),z1c (fun e=>hqr e.symm)]
  ·rw [gapp (by simpa using hj),z1c (fun e=>hjr e.symm)]
attribute [local irreducible] ACallsTo ACallsP
end
section
def mkH(seed:List UInt8)(i:Nat)(M:List (List UInt8)):Hdr:=⟨M.length,z1b (lvs M),i,ksgS seed i (digH M.length (z1b (lvs M))).1,z1r (keyL seed) i⟩
theorem zat(seed:List UInt8)(i:Nat):(z1r (keyL seed) i).length=3:=by unfold z1r;rw [List.length_reverse,zhz _ i (z36 seed)]
theorem zhl(seed:List UInt8)(i:Nat)(M:List (List UInt8))(hi:i<8)(hM:M.length<=4096):z2q (z1b (keyL seed)) (mkH seed i M).n (mkH seed i M).i (mkH seed i M).r (mkH seed i M).s (mkH seed i M).p=0:=by
 have hv:z63 (mkH seed i M).n (mkH seed i M).i (mkH seed i M).s (mkH seed i M).p=true:=decide_eq_true ⟨by simp only [mkH];omega,by simp only [mkH];omega,by simp only [mkH];omega,by simp only [mkH];omega,zcw _ _ _,zat _ _⟩
 unfold z2q
 rw [hv,if_neg (by simp)]
 exact if_pos (zsv seed i hi _)
def pubN(H:List Hdr):Int:=((H[H.length-1]?).map Hdr.n).getD 0
structure PubOk(seed:List UInt8)(L:List (List UInt8))(H:List Hdr):Prop where
 len:H.length<=8
 at':∀i h,H[i]? =some h->∃n,h=mkH seed i (L.take n)/\ 0<n/\ n<=L.length
 up:∀i h h',H[i]? =some h->H[i+1]? =some h'->h.n<h'.n
theorem PubOk.nil(seed:List UInt8):PubOk seed [] []:=⟨by simp,by simp,by simp⟩
theorem PubOk.app{seed:List UInt8}{L:List (List UInt8)}{H:List Hdr}(h:PubOk seed L H)(M:List (List UInt8)):PubOk seed (L++M) H:=by
 refine⟨h.len,fun i x hx=> ?_,h.up⟩
 obtain⟨n,e,h0,hn⟩:=h.at' i x hx
 exact⟨n,by rw [List.take_append_of_le_length hn];exact e,h0,by rw [List.length_append];omega⟩
theorem PubOk.path{seed:List UInt8}{L:List (List UInt8)}{H:List Hdr}(h:PubOk seed L H):∀x ∈ H,x.p.length<1000000:=by
 intro x hx
 obtain⟨i,hi⟩:=List.mem_iff_getElem?.1 hx
 obtain⟨n,rfl,_,_⟩:=h.at' i x hi
 show (z1r (keyL seed) i).length<1000000
 rw [zat];omega
def puE(L:List (List UInt8))(H:List Hdr):Int:=if 8<=H.length then 85 else if (L.length:Int)=pubN H then 83 else 0
def puV(seed:List UInt8)(L:List (List UInt8))(H:List Hdr):AV:= .tup [.agg (if puE L H=0 then hdrC (mkH seed H.length L)else sgZ),.int .i64 (puE L H)]
def puH(seed:List UInt8)(L:List (List UInt8))(H:List Hdr):List Hdr:=if puE L H=0 then H++ [mkH seed H.length L]else H
def PublishP(J:Store)(r:Nat)(seed:List UInt8)(L:List (List UInt8))(H:List Hdr)(own:List Nat)(a:AV)(J':Store):Prop:=
 a=puV seed L H/\ ∃own',Fr J J' own own'/\ PubIs J' r seed L (puH seed L H) own'
theorem PublishP.ok{J J':Store}{r t q:Nat}{seed:List UInt8}{L:List (List UInt8)}{H:List Hdr}{lg lv z hs:AV}{sl sv sh:Option Nat}(he:puE L H=0)
  (hg0:J[r]? =some (some [pbC (.ptr t 0 0) lg lv L.length z hs])) (ht0:J[t]? =some (some [z1n true seed (keyL seed)])) (h1:RowAt 1 J sl lg (strs L)) (h2:RowAt 32 J sv lv (hr (lvs L))) (h3:RowAt 36 J sh hs (hdrs H))
  (hg:J'[r]? =some (some [pbC (.ptr t 0 0) lg lv L.length z (.sl q 0 (H.length+1) none 36)])) (hz:SlV 32 (hr (ofR (lvs L)).reverse) z)
  (hq:J'[q]? =some (some (hdrs (H++ [mkH seed H.length L])))) (hqn:J.length<=q) (hle:J.length<=J'.length) (hst:∀j,j<J.length->j ≠ r->sh ≠ some j->J'[j]? =J[j]?):
  PublishP J r seed L H (r::t::(Option.toList sl++(Option.toList sv++Option.toList sh))) (.tup [.agg (hdrC (mkH seed H.length L)),.int .i64 0]) J':=by
 refine⟨by unfold puV;rw [he,if_pos rfl],r::t::(Option.toList sl++(Option.toList sv++Option.toList (some q))),⟨fun j hj hn=> ?_,fun j hj=> ?_,hle⟩,?_⟩
 ·simp only [List.mem_cons,List.mem_append,Option.mem_toList,not_or]at hn
  exact hst j hj hn.1 (fun e=>hn.2.2.2.2 e)
 ·simp only [List.mem_cons,List.mem_append,Option.mem_toList,Option.some.injEq]at hj ⊢
  rcases hj with h|h|h|h|h
  ·exact .inl (.inl h)
  ·exact .inl (.inr (.inl h))
  ·exact .inl (.inr (.inr (.inl h)))
  ·exact .inl (.inr (.inr (.inr (.inl h))))
  ·exact .inr (by omega)
 ·unfold puH
  rw [if_pos he]
  have hne:H++ [mkH seed H.length L] ≠ []:=by simp
  have hpl:(pbC (.ptr t 0 0) lg lv L.length z hs).length=6:=rfl
  have htl:(z1n true seed (keyL seed)).length=258:=by rw [zer,z36]
  have hrt:t ≠ r:=z9c ht0 hg0 (a:=z1n true seed (keyL seed)) (b:=pbC (.ptr t 0 0) lg lv L.length z hs) rfl rfl (by omega)
  refine⟨t,lg,lv,z,_,sl,sv,some q,rfl,hg,by rw [hst t (slen ht0) hrt fun e=>h3.ne zcq ht0 (b:=z1n true seed (keyL seed)) rfl (by omega) t e rfl];exact ht0,h1.keep fun j e=>hst j (h1.lt e) ?_ ?_,h2.keep fun j e=>hst j (h2.lt e) ?_ ?_,hz,.inr ⟨q,rfl,znm hne,?_,hq⟩⟩
  ·exact h1.ne zja hg0 (b:=pbC (.ptr t 0 0) lg lv L.length z hs) rfl (by omega) j e
  ·exact h1.ne2 zja h3 zcq (by omega) j e
  ·exact h2.ne hr_w hg0 (b:=pbC (.ptr t 0 0) lg lv L.length z hs) rfl (by omega) j e
  ·exact h2.ne2 hr_w h3 zcq (by omega) j e
  ·rw [znl,List.length_append];rfl
theorem PublishP.no{J:Store}{r:Nat}{seed:List UInt8}{L:List (List UInt8)}{H:List Hdr}{own:List Nat}{e:Int}(hT:PubIs J r seed L H own)(he:puE L H=e)(h0:e ≠ 0):PublishP J r seed L H own (.tup [.agg sgZ,.int .i64 e]) J:=by
 subst he
 exact⟨by unfold puV;rw [if_neg h0],own,.ext (.refl _),by unfold puH;rw [if_neg h0];exact hT⟩
theorem PublishP.is{J:Store}{r:Nat}{seed:List UInt8}{L:List (List UInt8)}{H:List Hdr}{own:List Nat}(hT:PubIs J r seed L H own):∃a J',PublishP J r seed L H own a J':=by
 by_cases he:puE L H=0
 ·obtain⟨t,lg,lv,z,hs,sl,sv,sh,rfl,hg,ht,h1,h2,hz,h3⟩:=hT
  have d:=slen hg
  refine⟨_,(J.set r (some [pbC (.ptr t 0 0) lg lv L.length z (.sl J.length 0 (H.length+1) none 36)]))++ [some (hdrs (H++ [mkH seed H.length L]))],.ok (q:=J.length) he hg ht h1 h2 h3 ?_ hz ?_ (Nat.le_refl _) (by simp) fun j hj hjr _=> ?_⟩
  ·rw [gapp (by simpa using d),z2e d]
  ·rw [z1j (by simp)];simp
  ·rw [gapp (by simpa using hj),z1c (fun e=>hjr e.symm)]
 ·exact⟨_,J,.no hT rfl he⟩
@[go_sem] theorem sgC_set33 (n:Int) (r:Hash) (i j:Int) (s u:List UInt8) (x v:AV):(sgC n r i s x).take 33++ .int .i64 j:: .str u::v::(sgC n r i s x).drop 36=sgC n r j u v:=by
 rw [z9h,z9g];rfl
theorem z7z(n:Int)(r:Hash)(i:Int)(s:List UInt8)(x:AV):AV.int .i64 n::(hc r++ [AV.int .i64 i,.str s,x])=sgC n r i s x:=rfl
attribute [local irreducible] ACallsTo ACallsP
end
section
attribute [local irreducible] ACallsTo ACallsP
end
section
theorem PubOk.one(seed:List UInt8)(s:List UInt8)(M:List (List UInt8)):PubOk seed (s::M) [mkH seed 0 [s]]:=by
 refine⟨by simp,fun i h hi=> ?_,fun i h h' hi hi'=>by simp at hi'⟩
 match i,hi with
 | 0,hi=>
  simp only [List.getElem?_cons_zero,Option.some.injEq]at hi
  exact⟨1,by rw [<-hi];simp,by omega,by simp⟩
 |i+1,hi=>simp at hi
attribute [local irreducible] ACallsTo ACallsP
theorem zni(h:Hdr):(hdrC h)[0]? =some (.int .i64 h.n):=rfl
theorem z3s(h:Hdr):(hdrC h).take 36=hdrC h:=List.take_of_length_le (by rw [zg];omega)
end
section
structure Act22 where
 k:Int
 s:List UInt8
def Act22.Ok(a:Act22):Prop:=0<=a.k/\ a.k<=255
attribute [local irreducible] ACallsTo ACallsP
end
section
attribute [local irreducible] ACallsTo ACallsP
end
section
def adC(key:Hash)(has:Bool)(n:Int)(r:Hash)(i:Int)(s:List UInt8)(x fd:AV):List AV:= .bool true::(hc key++(.bool has::(sgC n r i s x++ [fd])))
@[go_sem] theorem z1g (key:Hash) (has:Bool) (n:Int) (r:Hash) (i:Int) (s:List UInt8) (x fd:AV):(adC key has n r i s x fd).length=71:=by simp [adC,z6,z8]
@[go_sem] theorem adC_0 (key:Hash) (has:Bool) (n:Int) (r:Hash) (i:Int) (s:List UInt8) (x fd:AV):(adC key has n r i s x fd)[0]? =some (.bool true):=rfl
theorem zff(key:Hash)(has:Bool)(n:Int)(r:Hash)(i:Int)(s:List UInt8)(x fd:AV):adC key has n r i s x fd=(.bool true::hc key)++(.bool has::(sgC n r i s x++ [fd])):=by simp [adC]
theorem zfd(key:Hash)(has:Bool)(n:Int)(r:Hash)(i:Int)(s:List UInt8)(x fd:AV):(adC key has n r i s x fd).drop 33= .bool has::(sgC n r i s x++ [fd]):=by
 rw [zff,List.drop_left' (by simp [z6])]
theorem zks(key:Hash)(has:Bool)(n:Int)(r:Hash)(i:Int)(s:List UInt8)(x fd:AV):(adC key has n r i s x fd).take 33= .bool true::hc key:=by
 rw [zff,List.take_left' (by simp [z6])]
theorem z7g(key:Hash)(has:Bool)(n:Int)(r:Hash)(i:Int)(s:List UInt8)(x fd:AV):(adC key has n r i s x fd).drop 34=sgC n r i s x++ [fd]:=by
 rw [show 34=33+1 from rfl,<-List.drop_drop,zfd];rfl
theorem zfe(key:Hash)(has:Bool)(n:Int)(r:Hash)(i:Int)(s:List UInt8)(x fd:AV):(adC key has n r i s x fd).drop 70=[fd]:=by
 rw [show 70=34+36 from rfl,<-List.drop_drop,z7g,List.drop_left' (by simp [z8])]
@[go_sem] theorem adC_key (key:Hash) (has:Bool) (n:Int) (r:Hash) (i:Int) (s:List UInt8) (x fd:AV):((adC key has n r i s x fd).drop 1).take 32=hc key:=by
 unfold adC;rw [List.drop_succ_cons,List.drop_zero,List.take_left' (by simp [z6])]
theorem z7h{l:List AV}{k:Nat}{a:AV}{m:List AV}(h:l.drop k=a::m):l[k]? =some a:=by
 have:(l.drop k)[0]? =some a:=by rw [h];rfl
 rwa [List.getElem?_drop,Nat.add_zero]at this
@[go_sem] theorem adC_33 (key:Hash) (has:Bool) (n:Int) (r:Hash) (i:Int) (s:List UInt8) (x fd:AV):(adC key has n r i s x fd)[33]? =some (.bool has):=z7h (zfd key has n r i s x fd)
@[go_sem] theorem adC_34 (key:Hash) (has:Bool) (n:Int) (r:Hash) (i:Int) (s:List UInt8) (x fd:AV):(adC key has n r i s x fd)[34]? =some (.int .i64 n):=z7h (z7g key has n r i s x fd)
@[go_sem] theorem adC_70 (key:Hash) (has:Bool) (n:Int) (r:Hash) (i:Int) (s:List UInt8) (x fd:AV):(adC key has n r i s x fd)[70]? =some fd:=z7h (zfe key has n r i s x fd)
@[go_sem] theorem adC_now (key:Hash) (has:Bool) (n:Int) (r:Hash) (i:Int) (s:List UInt8) (x fd:AV):((adC key has n r i s x fd).drop 34).take 36=sgC n r i s x:=by
 rw [z7g,List.take_left' (by simp [z8])]
@[go_sem] theorem adC_head (key:Hash) (has:Bool) (n:Int) (r:Hash) (i:Int) (s:List UInt8) (x fd:AV):((adC key has n r i s x fd).drop 34).take 33= .int .i64 n::hc r:=by
 rw [z7g,List.take_append_of_le_length (by rw [z8];omega),z9h]
@[go_sem] theorem adC_root (key:Hash) (has:Bool) (n:Int) (r:Hash) (i:Int) (s:List UInt8) (x fd:AV):((adC key has n r i s x fd).drop 35).take 32=hc r:=by
 rw [show 35=34+1 from rfl,<-List.drop_drop,z7g]
 unfold sgC
 rw [List.cons_append,List.drop_succ_cons,List.drop_zero,List.append_assoc,List.take_left' (by simp [z6])]
@[go_sem] theorem adC_set33 (key:Hash) (has b:Bool) (n:Int) (r:Hash) (i:Int) (s:List UInt8) (x fd:AV):(adC key has n r i s x fd).take 33++ .bool b::(adC key has n r i s x fd).drop 34=adC key b n r i s x fd:=by
 rw [zks,z7g];simp [adC]
theorem zkt(key:Hash)(has:Bool)(n:Int)(r:Hash)(i:Int)(s:List UInt8)(x fd:AV):(adC key has n r i s x fd).take 34= .bool true::(hc key++ [.bool has]):=by
 rw [show adC key has n r i s x fd=(.bool true::(hc key++ [.bool has]))++(sgC n r i s x++ [fd])by simp [adC],List.take_left' (by simp [z6])]
@[go_sem] theorem adC_set34 (key:Hash) (has:Bool) (n m:Int) (r r2:Hash) (i j:Int) (s s2:List UInt8) (x x2 fd:AV):(adC key has n r i s x fd).take 34++(sgC m r2 j s2 x2++(adC key has n r i s x fd).drop 70)=adC key has m r2 j s2 x2 fd:=by
 rw [zkt,zfe];simp [adC]
@[go_sem] theorem adC_set70 (key:Hash) (has:Bool) (n:Int) (r:Hash) (i:Int) (s:List UInt8) (x fd fd2:AV):(adC key has n r i s x fd).take 70++fd2::(adC key has n r i s x fd).drop 71=adC key has n r i s x fd2:=by
 rw [show adC key has n r i s x fd=(.bool true::(hc key++(.bool has::sgC n r i s x)))++ [fd]by simp [adC],List.take_left' (by simp [z6,z8]),List.drop_eq_nil_of_le (by simp [z6,z8])]
 simp [adC]
attribute [local irreducible] ACallsTo ACallsP
theorem z8g(J:Store)(p:Nat)(key:Hash)(has:Bool)(n:Int)(r:Hash)(i:Int)(s:List UInt8)(x fd:AV)(hg:J[p]? =some (some [adC key has n r i s x fd])):ACallsTo TC 41 [.ptr p 0 0] J (.bool false) J:=by
 have d:=slen hg
 refine ACallsTo.of_body q26ok (by simp) fun hw _=> ?_
 repeat' (first|apply zs_|apply zb_|apply zc_|apply zt_ rfl|apply zf_ rfl|(refine zd_ rfl ?_ ?_<;>intro ht<;>try omega)|((first|apply zr_|apply zk_|apply ze_|apply zq_|(apply zG<;>intro ht));all_goals try simp (disch:=first|omega|(simp only [lens,z6,z7,lQr,lQm,lQt,lQd,z8,z1g];first|done|omega)) only [go_sem,hg]))
 exact DownV.same hw z1v
theorem zfm(J:Store)(key:Hash):ACallsTo TC 10 [.agg (hc key)] J (.ptr (J.length+1) 0 0) (J++ [some [hc key],some [adC key false 0 zeroH 0 [] .nilsl .nilp]]):=by
 refine ACallsTo.of_body_keep q24ok (by simp) ?_
 repeat' (first|apply zs_|apply zb_|apply zc_|apply zt_ rfl|apply zf_ rfl|(refine zd_ rfl ?_ ?_<;>intro ht<;>try omega)|((first|apply zr_|apply zk_|apply ze_|apply zq_|(apply zG<;>intro ht));all_goals try simp (disch:=first|omega|(simp only [lens,z6,z7,lQr,lQm,lQt,lQd,z8,z1g];first|done|omega)) only [go_sem,z4a]))
 rfl
theorem zac(J:Store)(n:Int)(r:Hash)(i:Int)(s:List UInt8)(l:List Hash)(x:AV)(hx:RdSl J 32 (hr l) x)(hl:l.length<1000000)(h0:l ≠ []):ACallsTo TC 43 [.agg (sgC n r i s x)] J (.agg (sgC n r i s (z15 32 (hr l)))) J:=by
 have xc:=hx.cells
 unfold cellsOf at xc
 have hCl:=fun y=>zk1 (J++y) l x hx.app hl
 have hne:x ≠ .nilsl:=by
  rintro rfl
  rcases hx with(⟨_,h⟩| ⟨ex,h⟩)| ⟨q,off,lim,o,h,_⟩
  ·exact h0 (hr_nil_iff.1 h)
  ·cases h
  ·cases h
 rw [zhg hne]at hCl
 have e0:z15 32 (hr l)= .vsl 32 (hr l) false:=by unfold z15;rw [if_neg fun e=>h0 (hr_nil_iff.1 e)]
 rw [e0]
 have hst:=fun x v=>zrj n r i s x v
 refine ACallsTo.of_body q27ok (by simp) fun hw _=> ?_
 repeat' (first|apply zs_|apply zb_|apply zc_|apply zt_ rfl|apply zf_ rfl|(refine zd_ rfl ?_ ?_<;>intro ht<;>try omega)|((first|apply zr_|apply zk_|apply ze_|apply zq_|(apply callW.mk_pu;(first|exact(fun _=>hCl _)))|(apply callW.za;(first|exact(hCl _)))|(apply zG<;>intro ht));all_goals try simp (disch:=first|omega|(simp only [lens,z6,z7,lQr,lQm,lQt,lQd,z8,z1g];first|done|omega)) only [go_sem,xc,hst]))
 exact Ext.pure hw ⟨_,rfl⟩ (by simp only [RL];exact z9b (by simp only [RL];exact z1w _))
end
section
def zHd:Hdr:=⟨0,zeroH,0,[],[]⟩
def adS(key:Hash)(now:Option Hdr)(fd:AV):List AV:=adC key now.isSome (now.getD zHd).n (now.getD zHd).r (now.getD zHd).i (now.getD zHd).s (z15 32 (hr (now.getD zHd).p)) fd
def evC(k:Int)(a b:Hdr):List AV:= .int .i64 k::(hdrC a++(hdrC b++(hc zeroH++ [.nilsl])))
def FdAt(J:Store)(fv:AV)(fd:Option (Hdr × Hdr))(own:List Nat):Prop:=(fd=none/\ fv= .nilp/\ own=[]) \/ ∃a b q,fd=some (a,b)/\ fv= .ptr q 0 0/\ own=[q]/\ J[q]? =some (some [evC 1 a b])
theorem FdAt.keep{J J':Store}{fv:AV}{fd:Option (Hdr × Hdr)}{own:List Nat}(h:FdAt J fv fd own)(hk:∀j,j ∈ own->J'[j]? =J[j]?):FdAt J' fv fd own:=by
 rcases h with h| ⟨a,b,q,e1,e2,rfl,hg⟩
 ·exact .inl h
 ·exact .inr ⟨a,b,q,e1,e2,rfl,by rw [hk q (by simp)];exact hg⟩
theorem FdAt.lt{J:Store}{fv:AV}{fd:Option (Hdr × Hdr)}{own:List Nat}(h:FdAt J fv fd own){j:Nat}(hj:j ∈ own):j<J.length:=by
 rcases h with⟨_,_,rfl⟩| ⟨a,b,q,e1,e2,rfl,hg⟩
 ·cases hj
 ·simp only [List.mem_singleton]at hj;subst hj;exact slen hg
def AudIs(J:Store)(p:Nat)(key:Hash)(now:Option Hdr)(fd:Option (Hdr × Hdr))(own:List Nat):Prop:=
 ∃fv fo,own=p::fo/\ J[p]? =some (some [adS key now fv])/\ FdAt J fv fd fo
theorem AudIs.lt{J:Store}{p:Nat}{key:Hash}{now:Option Hdr}{fd:Option (Hdr × Hdr)}{own:List Nat}(h:AudIs J p key now fd own){j:Nat}(hj:j ∈ own):j<J.length:=by
 obtain⟨fv,fo,rfl,hg,hf⟩:=h
 rcases List.mem_cons.1 hj with rfl|hj
 ·exact slen hg
 ·exact hf.lt hj
theorem AudIs.keep{J J':Store}{p:Nat}{key:Hash}{now:Option Hdr}{fd:Option (Hdr × Hdr)}{own:List Nat}(h:AudIs J p key now fd own)(hk:∀j,j ∈ own->J'[j]? =J[j]?):AudIs J' p key now fd own:=by
 obtain⟨fv,fo,rfl,hg,hf⟩:=h
 exact⟨fv,fo,rfl,by rw [hk p (by simp)];exact hg,hf.keep fun j hj=>hk j (by simp [hj])⟩
theorem AudIs.ext{J J':Store}{p:Nat}{key:Hash}{now:Option Hdr}{fd:Option (Hdr × Hdr)}{own:List Nat}(h:AudIs J p key now fd own)(he:Ext J J'):AudIs J' p key now fd own:=by
 obtain⟨y,rfl⟩:=he
 exact h.keep fun j hj=>gapp (h.lt hj)
def adE(key:Hash)(now:Option Hdr)(s:Hdr)(pf:List Hash):Int:=
 if z2q key s.n s.i s.r s.s s.p ≠ 0 then 0 else match now with
  |none=>1
  |some w=>if ordI s.n w.n s.r w.r=1 then 3 else if ordI s.n w.n s.r w.r=3 then 6
   else if ordI s.n w.n s.r w.r=0 then(if chkH s.n w.n s.r w.r pf=0 then 4 else 5)
   else(if chkH w.n s.n w.r s.r pf=0 then 2 else 5)
def adN(key:Hash)(now:Option Hdr)(s:Hdr)(pf:List Hash):Option Hdr:=if adE key now s pf=1 \/adE key now s pf=2 then some s else now
def adF(key:Hash)(now:Option Hdr)(fd:Option (Hdr × Hdr))(s:Hdr)(pf:List Hash):Option (Hdr × Hdr):=if adE key now s pf=6 then some (fd.getD (now.getD zHd,s))else fd
def AHeadP(J:Store)(p:Nat)(key:Hash)(now:Option Hdr)(fd:Option (Hdr × Hdr))(own:List Nat)(s:Hdr)(pf:List Hash)(a:AV)(J':Store):Prop:=
 a= .int .i64 (adE key now s pf)/\ ∃own',Fr J J' own own'/\ AudIs J' p key (adN key now s pf) (adF key now fd s pf) own'
theorem AHeadP.ext{J J':Store}{p:Nat}{key:Hash}{now:Option Hdr}{fd:Option (Hdr × Hdr)}{own:List Nat}{s:Hdr}{pf:List Hash}{e:Int}(hT:AudIs J p key now fd own)(he:adE key now s pf=e)(h:e ≠ 1/\ e ≠ 2/\ e ≠ 6)(hx:Ext J J'):AHeadP J p key now fd own s pf (.int .i64 e) J':=by
 subst he
 refine⟨rfl,own,.ext hx,?_⟩
 unfold adN adF
 rw [if_neg (by omega),if_neg h.2.2]
 exact hT.ext hx
theorem zku(key:Hash)(now:Option Hdr)(fd:AV):(adS key now fd).length=71:=z1g _ _ _ _ _ _ _ _
theorem zw(k:Int)(a b:Hdr):(evC k a b).length=106:=by simp [evC,zg,z6]
theorem FdAt.ne{J:Store}{p:Nat}{key:Hash}{now:Option Hdr}{fv fv':AV}{fd:Option (Hdr × Hdr)}{fo:List Nat}(h:FdAt J fv fd fo)(hg:J[p]? =some (some [adS key now fv'])):p ∉ fo:=by
 rcases h with⟨_,_,rfl⟩| ⟨a,b,q,e1,e2,rfl,hq⟩
 ·simp
 ·intro hm
  simp only [List.mem_singleton]at hm
  exact z9c hg hq (a:=adS key now fv') (b:=evC 1 a b) rfl rfl (by rw [zku,zw];omega) hm
theorem AHeadP.now{J J':Store}{p:Nat}{key:Hash}{now:Option Hdr}{fd:Option (Hdr × Hdr)}{fv:AV}{fo:List Nat}{s:Hdr}{pf:List Hash}{e:Int}(hg:J[p]? =some (some [adS key now fv]))(hf:FdAt J fv fd fo)(he:adE key now s pf=e)(h:e=1 \/e=2)
  (hg':J'[p]? =some (some [adS key (some s) fv])) (hle:J.length<=J'.length) (hst:∀j,j<J.length->j ≠ p->J'[j]? =J[j]?):AHeadP J p key now fd (p::fo) s pf (.int .i64 e) J':=by
 subst he
 have hp:=hf.ne hg
 refine⟨rfl,p::fo,⟨fun j hj hn=>hst j hj (fun e=>hn (by simp [e])),fun j hj=> .inl hj,hle⟩,fv,fo,rfl,?_,?_⟩
 ·unfold adN;rw [if_pos h];exact hg'
 ·unfold adF;rw [if_neg (by omega)]
  exact hf.keep fun j hj=>hst j (hf.lt hj) fun e=>hp (by rw [<-e];exact hj)
theorem AHeadP.fork{J J':Store}{p q:Nat}{key:Hash}{w s:Hdr}{pf:List Hash}(hg:J[p]? =some (some [adS key (some w) .nilp]))(he:adE key (some w) s pf=6)
  (hg':J'[p]? =some (some [adS key (some w) (.ptr q 0 0)])) (hq:J'[q]? =some (some [evC 1 w s])) (hqn:J.length<=q) (hle:J.length<=J'.length) (hst:∀j,j<J.length->j ≠ p->J'[j]? =J[j]?):AHeadP J p key (some w) none [p] s pf (.int .i64 6) J':=by
 refine⟨by rw [he],[p,q],⟨fun j hj hn=>hst j hj (fun e=>hn (by simp [e])),fun j hj=> ?_,hle⟩,.ptr q 0 0,[q],rfl,?_,?_⟩
 ·simp only [List.mem_cons,List.not_mem_nil,or_false]at hj ⊢
  rcases hj with h|h
  ·exact .inl h
  ·exact .inr (by omega)
 ·unfold adN;rw [he,if_neg (by omega)];exact hg'
 ·unfold adF;rw [he,if_pos rfl]
  exact .inr ⟨w,s,q,rfl,rfl,rfl,hq⟩
theorem AHeadP.forked{J J':Store}{p:Nat}{key:Hash}{now:Option Hdr}{fd:Option (Hdr × Hdr)}{own:List Nat}{s:Hdr}{pf:List Hash}(hT:AudIs J p key now fd own)(hfd:fd ≠ none)(he:adE key now s pf=6)(hx:Ext J J'):AHeadP J p key now fd own s pf (.int .i64 6) J':=by
 refine⟨by rw [he],own,.ext hx,?_⟩
 unfold adN adF
 rw [he,if_neg (by omega),if_pos rfl]
 cases fd with
 |none=>exact absurd rfl hfd
 |some f=>exact hT.ext hx
theorem AHeadP.is{J:Store}{p:Nat}{key:Hash}{now:Option Hdr}{fd:Option (Hdr × Hdr)}{own:List Nat}{s:Hdr}{pf:List Hash}(hT:AudIs J p key now fd own):∃a J',AHeadP J p key now fd own s pf a J':=by
 have hT':=hT
 obtain⟨fv,fo,rfl,hg,hf⟩:=hT
 have d:=slen hg
 by_cases h1:adE key now s pf=1 \/adE key now s pf=2
 ·exact⟨_,J.set p (some [adS key (some s) fv]),.now hg hf rfl h1 (z2e d) (by simp) fun j hj hjp=>z1c (fun e=>hjp e.symm)⟩
 ·by_cases h6:adE key now s pf=6
  ·rcases hf with⟨rfl,rfl,rfl⟩| ⟨a,b,q,rfl,_⟩
   ·cases now with
    |none=>unfold adE at h6;split at h6<;>simp at h6
    |some w=>
     refine⟨_,(J.set p (some [adS key (some w) (.ptr J.length 0 0)]))++ [some [evC 1 w s]],.fork (q:=J.length) hg h6 ?_ ?_ (Nat.le_refl _) (by simp) fun j hj hjp=> ?_⟩
     ·rw [gapp (by simpa using d),z2e d]
     ·rw [z1j (by simp)];simp
     ·rw [gapp (by simpa using hj),z1c (fun e=>hjp e.symm)]
   ·exact⟨_,J,.forked hT' (by simp) h6 (.refl _)⟩
  ·exact⟨_,J,.ext hT' rfl ⟨by omega,by omega,h6⟩ (.refl _)⟩
end
section
theorem zrm(n:Int)(r:Hash)(i:Int)(s:List UInt8)(x:AV)(L:List AV):(sgC n r i s x++L).take 36=sgC n r i s x:=List.take_left' (z8 _ _ _ _ _)
theorem zri(n:Int)(r:Hash)(i:Int)(s:List UInt8)(x:AV)(L:List AV):(sgC n r i s x++L).drop 72=L.drop 36:=by
 rw [show 72=36+36 from rfl,<-List.drop_drop,List.drop_left' (z8 _ _ _ _ _)]
attribute [local irreducible] ACallsTo ACallsP
theorem zl1(J:Store)(p:Nat)(key:Hash)(w s:Hdr)(x:AV)(hg:J[p]? =some (some [adS key (some w) .nilp]))(hx:RdSl J 32 (hr s.p) x)(hs0:s.p ≠ [])(hsl:s.p.length<1000000):
  ACallsTo TC 45 [.ptr p 0 0,.agg (sgC s.n s.r s.i s.s x)] J (.tup []) ((J.set p (some [adS key (some w) (.ptr (J.length+1) 0 0)]))++ [some [sgC s.n s.r s.i s.s x],some [evC 1 w s]]):=by
 have xc:=hx.cells
 unfold cellsOf at xc
 have d:=slen hg
 have hO:=fun y=>zac (J++y) s.n s.r s.i s.s s.p x hx.app hsl hs0
 unfold adS at hg ⊢
 simp only [Option.getD_some,Option.isSome_some]at hg ⊢
 refine ACallsTo.of_body_keep q28ok (by simp) ?_
 repeat' (first|apply zs_|apply zb_|apply zc_|apply zt_ rfl|apply zf_ rfl|(refine zd_ rfl ?_ ?_<;>intro ht<;>try omega)|((first|apply zr_|apply zk_|apply ze_|apply zq_|(apply callW.mk_pu;(first|exact(fun _=>hO _)))|(apply callW.za;(first|exact(hO _)))|(apply zG<;>intro ht));all_goals try simp (disch:=first|omega|(simp only [lens,z6,z7,lQr,lQm,lQt,lQd,z8,z1g,zg];first|done|omega)) only [go_sem,xc,hg]))
 rw [zrm,zri]
 rfl
theorem zl2(J:Store)(p q:Nat)(key:Hash)(w s:Hdr)(x:AV)(hg:J[p]? =some (some [adS key (some w) (.ptr q 0 0)]))(hx:RdSl J 32 (hr s.p) x):
  ACallsTo TC 45 [.ptr p 0 0,.agg (sgC s.n s.r s.i s.s x)] J (.tup []) J:=by
 have xc:=hx.cells
 unfold cellsOf at xc
 have d:=slen hg
 unfold adS at hg
 refine ACallsTo.of_body q28ok (by simp) fun hw _=> ?_
 repeat' (first|apply zs_|apply zb_|apply zc_|apply zt_ rfl|apply zf_ rfl|(refine zd_ rfl ?_ ?_<;>intro ht<;>try omega)|((first|apply zr_|apply zk_|apply ze_|apply zq_|(apply zG<;>intro ht));all_goals try simp (disch:=first|omega|(simp only [lens,z6,z7,lQr,lQm,lQt,lQd,z8,z1g,zg];first|done|omega)) only [go_sem,xc,hg]))
 exact DownV.pure hw (by simp [RL,RLs])
theorem val3{n i:Int}{s:List UInt8}{l:List Hash}{key r:Hash}(h:z2q key n i r s l=0):l.length=3/\ 0<=n/\ n<=4096:=by
 unfold z2q at h
 split at h
 ·omega
 ·rename_i hv
  have:=of_decide_eq_true (show z63 n i s l=true by simpa using hv)
  exact⟨this.2.2.2.2.2,this.1,this.2.1⟩
theorem zfl(J τ:Store)(p a b:Nat)(key:Hash)(w:Hdr)(fd:Option (Hdr × Hdr))(own:List Nat)(s:Hdr)(pf:List Hash)(x y:AV)(hT:AudIs J p key (some w) fd own)(hxt:Ext J τ)(hx:RdSl J 32 (hr s.p) x)(hy:RdSl J 32 (hr pf) y)(hpl:pf.length<1000000)
  (hok:z2q key s.n s.i s.r s.s s.p=0) (h4:τ[J.length]? =some (some [sgC s.n s.r s.i s.s x])) (h7:τ[a]? =some (some [.int .i64 s.n::hc s.r])) (h8:τ[b]? =some (some [.int .i64 w.n::hc w.r]))
  (ρ:Env) (q0:ρ 0= .ptr p 0 0) (q2:ρ 2=y) (q4:ρ 4= .ptr J.length 0 0) (q7:ρ 7= .ptr a 0 0) (q8:ρ 8= .ptr b 0 0):
  zW TC 81 J.length zdf (z92 [.t 6] (AHeadP J p key (some w) fd own s pf)) ρ τ:=by
 have hT':=hT
 obtain⟨fv,fo,rfl,hgS,hf⟩:=hT'
 have d:=slen hgS
 have ht:=hxt.le
 have hxτ:RdSl τ 32 (hr s.p) x:=by obtain⟨z,rfl⟩:=hxt;exact hx.app
 have hyτ:RdSl τ 32 (hr pf) y:=by obtain⟨z,rfl⟩:=hxt;exact hy.app
 have hgτ:τ[p]? =some (some [adS key (some w) fv]):=by obtain⟨z,rfl⟩:=hxt;rw [gapp d];exact hgS
 have hτl:∀j,j<J.length->τ[j]? =J[j]?:=fun j hj=>by obtain⟨z,rfl⟩:=hxt;exact gapp hj
 have d4:=slen h4
 have d7:=slen h7
 have d8:=slen h8
 have dp:=slen hgτ
 have xc:=hx.cells
 unfold cellsOf at xc
 obtain⟨hl3,hs0,hs4⟩:=val3 hok
 have hne:s.p ≠ []:=fun e=>by rw [e]at hl3;simp at hl3
 have hO:=zac τ s.n s.r s.i s.s s.p x hxτ (by omega) hne
 have hOr:=fun J=>zk5 J s.n w.n s.r w.r
 have hC1:=zhw τ s.n w.n s.r w.r y pf hyτ hpl
 have hC2:=zhw τ w.n s.n w.r s.r y pf hyτ hpl
 have hcases:ordI s.n w.n s.r w.r=0 \/ordI s.n w.n s.r w.r=1 \/ordI s.n w.n s.r w.r=2 \/ordI s.n w.n s.r w.r=3:=by
  unfold ordI;split
  ·split<;>simp
  ·split<;>simp
 rcases hcases with ho|ho|ho|ho
 ·rw [ho]at hOr
  by_cases hc:chkH s.n w.n s.r w.r pf=0
  ·have he:adE key (some w) s pf=4:=by unfold adE;rw [if_neg (by omega)];simp [ho,hc]
   rw [hc]at hC1
   repeat' (first|apply zs_|apply zb_|apply zc_|apply zt_ rfl|apply zf_ rfl|(refine zd_ rfl ?_ ?_<;>intro ht<;>try omega)|((first|apply zr_|apply zk_|apply ze_|apply zq_|(apply callW.mk_pu;(first|exact(fun _=>hOr _)|exact(fun _=>hC1)))|(apply callW.za;(first|exact(hOr _)|exact(hC1)))|(apply zG<;>intro ht));all_goals try simp (disch:=first|omega|(simp only [lens,z6,z7,lQr,lQm,lQt,lQd,z8,z1g,zg];first|done|omega)) only [go_sem,q0,q2,q4,q7,q8,xc,h4,h7,h8]))
   exact AHeadP.ext hT he (by omega) hxt
  ·have he:adE key (some w) s pf=5:=by unfold adE;rw [if_neg (by omega)];simp [ho,hc]
   generalize chkH s.n w.n s.r w.r pf=c at*
   repeat' (first|apply zs_|apply zb_|apply zc_|apply zt_ rfl|apply zf_ rfl|(refine zd_ rfl ?_ ?_<;>intro ht<;>try omega)|((first|apply zr_|apply zk_|apply ze_|apply zq_|(apply callW.mk_pu;(first|exact(fun _=>hOr _)|exact(fun _=>hC1)))|(apply callW.za;(first|exact(hOr _)|exact(hC1)))|(apply zG<;>intro ht));all_goals try simp (disch:=first|omega|(simp only [lens,z6,z7,lQr,lQm,lQt,lQd,z8,z1g,zg];first|done|omega)) only [go_sem,q0,q2,q4,q7,q8,xc,h4,h7,h8,hc]))
   exact AHeadP.ext hT he (by omega) hxt
 ·rw [ho]at hOr
  have he:adE key (some w) s pf=3:=by unfold adE;rw [if_neg (by omega)];simp [ho]
  repeat' (first|apply zs_|apply zb_|apply zc_|apply zt_ rfl|apply zf_ rfl|(refine zd_ rfl ?_ ?_<;>intro ht<;>try omega)|((first|apply zr_|apply zk_|apply ze_|apply zq_|(apply callW.mk_pu;(first|exact(fun _=>hOr _)))|(apply callW.za;(first|exact(hOr _)))|(apply zG<;>intro ht));all_goals try simp (disch:=first|omega|(simp only [lens,z6,z7,lQr,lQm,lQt,lQd,z8,z1g,zg];first|done|omega)) only [go_sem,q0,q2,q4,q7,q8,xc,h4,h7,h8]))
  exact AHeadP.ext hT he (by omega) hxt
 ·rw [ho]at hOr
  by_cases hc:chkH w.n s.n w.r s.r pf=0
  ·have he:adE key (some w) s pf=2:=by unfold adE;rw [if_neg (by omega)];simp [ho,hc]
   rw [hc]at hC2
   have hg2:=hgτ
   unfold adS at hg2
   simp only [Option.getD_some,Option.isSome_some]at hg2
   repeat' (first|apply zs_|apply zb_|apply zc_|apply zt_ rfl|apply zf_ rfl|(refine zd_ rfl ?_ ?_<;>intro ht<;>try omega)|((first|apply zr_|apply zk_|apply ze_|apply zq_|(apply callW.mk_pu;(first|exact(fun _=>hOr _)|exact(fun _=>hC2)|exact(fun _=>hO)))|(apply callW.za;(first|exact(hOr _)|exact(hC2)|exact(hO)))|(apply zG<;>intro ht));all_goals try simp (disch:=first|omega|(simp only [lens,z6,z7,lQr,lQm,lQt,lQd,z8,z1g,zg];first|done|omega)) only [go_sem,q0,q2,q4,q7,q8,xc,h4,h7,h8,hg2]))
   exact AHeadP.now hgS hf he (.inr rfl) (by rw [z2e dp];rfl) (by simpa using ht) fun j hj hjp=>by rw [z1c (fun e=>hjp e.symm),hτl j hj]
  ·have he:adE key (some w) s pf=5:=by unfold adE;rw [if_neg (by omega)];simp [ho,hc]
   generalize chkH w.n s.n w.r s.r pf=c at*
   repeat' (first|apply zs_|apply zb_|apply zc_|apply zt_ rfl|apply zf_ rfl|(refine zd_ rfl ?_ ?_<;>intro ht<;>try omega)|((first|apply zr_|apply zk_|apply ze_|apply zq_|(apply callW.mk_pu;(first|exact(fun _=>hOr _)|exact(fun _=>hC2)))|(apply callW.za;(first|exact(hOr _)|exact(hC2)))|(apply zG<;>intro ht));all_goals try simp (disch:=first|omega|(simp only [lens,z6,z7,lQr,lQm,lQt,lQd,z8,z1g,zg];first|done|omega)) only [go_sem,q0,q2,q4,q7,q8,xc,h4,h7,h8,hc]))
   exact AHeadP.ext hT he (by omega) hxt
 ·rw [ho]at hOr
  have he:adE key (some w) s pf=6:=by unfold adE;rw [if_neg (by omega)];simp [ho]
  rcases hf with⟨rfl,rfl,rfl⟩| ⟨a',b',q,rfl,rfl,rfl,hq⟩
  ·have hF:=zl1 τ p key w s x hgτ hxτ hne (by omega)
   repeat' (first|apply zs_|apply zb_|apply zc_|apply zt_ rfl|apply zf_ rfl|(refine zd_ rfl ?_ ?_<;>intro ht<;>try omega)|((first|apply zr_|apply zk_|apply ze_|apply zq_|(apply callW.mk_pu;(first|exact(fun _=>hOr _)|exact(fun _=>hF)))|(apply callW.za;(first|exact(hOr _)|exact(hF)))|(apply zG<;>intro ht));all_goals try simp (disch:=first|omega|(simp only [lens,z6,z7,lQr,lQm,lQt,lQd,z8,z1g,zg];first|done|omega)) only [go_sem,q0,q2,q4,q7,q8,xc,h4,h7,h8]))
   exact AHeadP.fork (q:=τ.length+1) hgS he (by rw [gapp (by simpa using dp),z2e dp]) (by rw [z1j (by simp)];simp) (by omega) (by simp;omega) fun j hj hjp=>by rw [gapp (by simp;omega),z1c (fun e=>hjp e.symm),hτl j hj]
  ·have hF:=zl2 τ p q key w s x hgτ hxτ
   repeat' (first|apply zs_|apply zb_|apply zc_|apply zt_ rfl|apply zf_ rfl|(refine zd_ rfl ?_ ?_<;>intro ht<;>try omega)|((first|apply zr_|apply zk_|apply ze_|apply zq_|(apply callW.mk_pu;(first|exact(fun _=>hOr _)|exact(fun _=>hF)))|(apply callW.za;(first|exact(hOr _)|exact(hF)))|(apply zG<;>intro ht));all_goals try simp (disch:=first|omega|(simp only [lens,z6,z7,lQr,lQm,lQt,lQd,z8,z1g,zg];first|done|omega)) only [go_sem,q0,q2,q4,q7,q8,xc,h4,h7,h8]))
   exact AHeadP.forked hT (by simp) he hxt
attribute [local irreducible] zdf
theorem z7i(J:Store)(p:Nat)(key:Hash)(now:Option Hdr)(fd:Option (Hdr × Hdr))(own:List Nat)(s:Hdr)(pf:List Hash)(x y:AV)(hT:AudIs J p key now fd own)(hx:RdSl J 32 (hr s.p) x)(hy:RdSl J 32 (hr pf) y)(hpl:pf.length<1000000):
  ACallsP TC 13 [.ptr p 0 0,.agg (sgC s.n s.r s.i s.s x),y] J (AHeadP J p key now fd own s pf):=by
 have xc:=hx.cells
 unfold cellsOf at xc
 have hT':=hT
 obtain⟨fv,fo,rfl,hg,hf⟩:=hT'
 have d:=slen hg
 have hgS:=hg
 have hMade:=fun y=>z8g (J++y) p key now.isSome (now.getD zHd).n (now.getD zHd).r (now.getD zHd).i (now.getD zHd).s (z15 32 (hr (now.getD zHd).p)) fv (by rw [gapp d];exact hg)
 have hCk:=fun y=>zk4 (J++y) key s.n s.i s.r s.s s.p x hx.app
 refine ACallsP.of_keepW q21ok (by simp) fun hw=> ?_
 by_cases hbad:z2q key s.n s.i s.r s.s s.p=0
 ·rw [hbad]at hCk
  obtain⟨hl3,hs0,hs4⟩:=val3 hbad
  have hne:s.p ≠ []:=fun e=>by rw [e]at hl3;simp at hl3
  have hO:=fun y=>zac (J++y) s.n s.r s.i s.s s.p x hx.app (by omega) hne
  cases now with
  |none=>
   have he:adE key none s pf=1:=by unfold adE;rw [if_neg (by omega)]
   unfold adS at hg
   simp only [Option.getD_none,Option.isSome_none,zHd]at hg hMade
   repeat' (first|apply zs_|apply zb_|apply zc_|apply zt_ rfl|apply zf_ rfl|(refine zd_ rfl ?_ ?_<;>intro ht<;>try omega)|((first|apply zr_|apply zk_|apply ze_|apply zq_|(apply callW.mk_pu;(first|exact(fun _=>hMade _)|exact(fun _=>hCk _)|exact(fun _=>hO _)))|(apply callW.za;(first|exact(hMade _)|exact(hCk _)|exact(hO _)))|(apply zG<;>intro ht));all_goals try simp (disch:=first|omega|(simp only [lens,z6,z7,lQr,lQm,lQt,lQd,z8,z1g,zg];first|done|omega)) only [go_sem,xc,hg]))
   exact AHeadP.now hgS hf he (.inl rfl) (by rw [gapp (by simpa using d),z2e d];rfl) (by simp) fun j hj hjp=>by rw [gapp (by simpa using hj),z1c (fun e=>hjp e.symm)]
  |some w=>
   unfold adS at hg
   simp only [Option.getD_some,Option.isSome_some]at hg hMade
   repeat' (first|apply zs_|apply zb_|apply zc_|apply zt_ rfl|apply zf_ rfl|(refine zd_ rfl ?_ ?_<;>intro ht<;>try omega)|((first|apply zr_|apply zk_|apply ze_|apply zq_|(apply callW.mk_pu;(first|exact(fun _=>hMade _)|exact(fun _=>hCk _)))|(apply callW.za;(first|exact(hMade _)|exact(hCk _)))|(apply zG<;>intro ht));all_goals try simp (disch:=first|omega|(simp only [lens,z6,z7,lQr,lQm,lQt,lQd,z8,z1g,zg];first|done|omega)) only [go_sem,xc,hg]))
   refine zW.reg2 ?_ ?_
   ·simp (disch:=first|omega|(simp only [lens,z6,z7,lQr,lQm,lQt,lQd,z8,z1g,zg];first|done|omega)) only [go_sem,hg,xc]
    repeat' (first|apply zs_|apply zb_|apply zc_|apply zt_ rfl|apply zf_ rfl|(refine zd_ rfl ?_ ?_<;>intro ht<;>try omega)|((first|apply zr_|apply zk_|apply ze_|apply zq_|(apply zG<;>intro ht));all_goals try simp (disch:=first|omega|(simp only [lens,z6,z7,lQr,lQm,lQt,lQd,z8,z1g,zg];first|done|omega)) only [go_sem,hg,xc]))
    refine zfl J _ p (J.length+1) (J.length+2) key w fd _ s pf x y hT ⟨_,rfl⟩ hx hy hpl hbad ?_ ?_ ?_ _ ?_ ?_ ?_ ?_ ?_
    all_goals first|simp (disch:=first|omega|(simp only [lens,z6,z7,lQr,lQm,lQt,lQd,z8,z1g,zg];first|done|omega)) only [go_sem]|skip
   ·simp (disch:=first|omega|(simp only [lens,z6,z7,lQr,lQm,lQt,lQd,z8,z1g,zg];first|done|omega)) only [go_sem,hg,xc]
    repeat' (first|apply zs_|apply zb_|apply zc_|apply zt_ rfl|apply zf_ rfl|(refine zd_ rfl ?_ ?_<;>intro ht<;>try omega)|((first|apply zr_|apply zk_|apply ze_|apply zq_|(apply zG<;>intro ht));all_goals try simp (disch:=first|omega|(simp only [lens,z6,z7,lQr,lQm,lQt,lQd,z8,z1g,zg];first|done|omega)) only [go_sem,hg,xc]))
    refine zfl J _ p (J.length+2) (J.length+1) key w fd _ s pf x y hT ⟨_,rfl⟩ hx hy hpl hbad ?_ ?_ ?_ _ ?_ ?_ ?_ ?_ ?_
    all_goals first|simp (disch:=first|omega|(simp only [lens,z6,z7,lQr,lQm,lQt,lQd,z8,z1g,zg];first|done|omega)) only [go_sem]|skip
 ·have he:adE key now s pf=0:=by unfold adE;rw [if_pos hbad]
  unfold adS at hg
  generalize z2q key s.n s.i s.r s.s s.p=c at*
  repeat' (first|apply zs_|apply zb_|apply zc_|apply zt_ rfl|apply zf_ rfl|(refine zd_ rfl ?_ ?_<;>intro ht<;>try omega)|((first|apply zr_|apply zk_|apply ze_|apply zq_|(apply callW.mk_pu;(first|exact(fun _=>hMade _)|exact(fun _=>hCk _)))|(apply callW.za;(first|exact(hMade _)|exact(hCk _)))|(apply zG<;>intro ht));all_goals try simp (disch:=first|omega|(simp only [lens,z6,z7,lQr,lQm,lQt,lQd,z8,z1g,zg];first|done|omega)) only [go_sem,xc,hg,hbad]))
  exact AHeadP.ext hT he (by omega) ⟨_,rfl⟩
def adT(now:Option Hdr)(i:Int)(text:List UInt8)(path:List Hash):Int:=match now with
 |none=>4
 |some w=>if i<0 \/w.n<=i then 82 else if 200<text.length then 3 else chkP (lfH text) i w.n path w.r
theorem z8f(J:Store)(p:Nat)(key:Hash)(now:Option Hdr)(fd:Option (Hdr × Hdr))(own:List Nat)(i:Int)(text:List UInt8)(path:List Hash)(y:AV)(hT:AudIs J p key now fd own)(hy:RdSl J 32 (hr path) y)(hpl:path.length<1000000)(htl:text.length<1000000)
  (hi: -9223372036854775808<=i/\ i<=9223372036854775807) (hn:∀w,now=some w-> -9223372036854775808<=w.n/\ w.n<=9223372036854775807):ACallsTo TC 16 [.ptr p 0 0,.int .i64 i,.str text,y] J (.int .i64 (adT now i text path)) J:=by
 obtain⟨fv,fo,rfl,hg,hf⟩:=hT
 have d:=slen hg
 have hMade:=fun y=>z8g (J++y) p key now.isSome (now.getD zHd).n (now.getD zHd).r (now.getD zHd).i (now.getD zHd).s (z15 32 (hr (now.getD zHd).p)) fv (by rw [gapp d];exact hg)
 have hMade0:=z8g J p key now.isSome (now.getD zHd).n (now.getD zHd).r (now.getD zHd).i (now.getD zHd).s (z15 32 (hr (now.getD zHd).p)) fv hg
 have hLf:=fun J=>zep J text (by omega)
 unfold adS at hg
 refine ACallsTo.of_body q22ok (by simp) fun hw _=> ?_
 cases now with
 |none=>
  simp only [Option.getD_none,Option.isSome_none]at hg hMade hMade0
  repeat' (first|apply zs_|apply zb_|apply zc_|apply zt_ rfl|apply zf_ rfl|(refine zd_ rfl ?_ ?_<;>intro ht<;>try omega)|((first|apply zr_|apply zk_|apply ze_|apply zq_|(apply callW.mk_pu;(first|exact(fun _=>hMade0)|exact(fun _=>hMade _)))|(apply callW.za;(first|exact(hMade0)|exact(hMade _)))|(apply zG<;>intro ht));all_goals try simp (disch:=first|omega|(simp only [lens,z6,z7,lQr,lQm,lQt,lQd,z8,z1g,zg];first|done|omega)) only [go_sem,hg]))
  exact DownV.same hw (zz _ rfl)
 |some w=>
  simp only [Option.getD_some,Option.isSome_some]at hg hMade hMade0
  have hC:=fun y0=>zbv (J++y0) (lfH text) i w.n path y w.r hy.app hpl hi (hn w rfl)
  have hC0:=zbv J (lfH text) i w.n path y w.r hy hpl hi (hn w rfl)
  unfold adT
  simp only
  by_cases h1:i<0
  ·rw [if_pos (.inl h1)]
   repeat' (first|apply zs_|apply zb_|apply zc_|apply zt_ rfl|apply zf_ rfl|(refine zd_ rfl ?_ ?_<;>intro ht<;>try omega)|((first|apply zr_|apply zk_|apply ze_|apply zq_|(apply callW.mk_pu;(first|exact(fun _=>hMade0)|exact(fun _=>hMade _)))|(apply callW.za;(first|exact(hMade0)|exact(hMade _)))|(apply zG<;>intro ht));all_goals try simp (disch:=first|omega|(simp only [lens,z6,z7,lQr,lQm,lQt,lQd,z8,z1g,zg];first|done|omega)) only [go_sem,hg,h1]))
   exact DownV.same hw (zz _ rfl)
  ·by_cases h2:w.n<=i
   ·rw [if_pos (.inr h2)]
    have h2':i>=w.n:=h2
    repeat' (first|apply zs_|apply zb_|apply zc_|apply zt_ rfl|apply zf_ rfl|(refine zd_ rfl ?_ ?_<;>intro ht<;>try omega)|((first|apply zr_|apply zk_|apply ze_|apply zq_|(apply callW.mk_pu;(first|exact(fun _=>hMade0)|exact(fun _=>hMade _)))|(apply callW.za;(first|exact(hMade0)|exact(hMade _)))|(apply zG<;>intro ht));all_goals try simp (disch:=first|omega|(simp only [lens,z6,z7,lQr,lQm,lQt,lQd,z8,z1g,zg];first|done|omega)) only [go_sem,hg,h1,h2']))
    exact DownV.same hw (zz _ rfl)
   ·rw [if_neg (by omega)]
    have h2':¬i>=w.n:=h2
    by_cases h3:200<text.length
    ·rw [if_pos h3]
     have h3':(text.length:Int)>200:=by omega
     repeat' (first|apply zs_|apply zb_|apply zc_|apply zt_ rfl|apply zf_ rfl|(refine zd_ rfl ?_ ?_<;>intro ht<;>try omega)|((first|apply zr_|apply zk_|apply ze_|apply zq_|(apply callW.mk_pu;(first|exact(fun _=>hMade0)|exact(fun _=>hMade _)))|(apply callW.za;(first|exact(hMade0)|exact(hMade _)))|(apply zG<;>intro ht));all_goals try simp (disch:=first|omega|(simp only [lens,z6,z7,lQr,lQm,lQt,lQd,z8,z1g,zg];first|done|omega)) only [go_sem,hg,h1,h2',h3']))
     exact DownV.same hw (zz _ rfl)
    ·rw [if_neg h3]
     have h3':¬(text.length:Int)>200:=by omega
     generalize chkP (lfH text) i w.n path w.r=c at*
     repeat' (first|apply zs_|apply zb_|apply zc_|apply zt_ rfl|apply zf_ rfl|(refine zd_ rfl ?_ ?_<;>intro ht<;>try omega)|((first|apply zr_|apply zk_|apply ze_|apply zq_|(apply callW.mk_pu;(first|exact(fun _=>hMade0)|exact(fun _=>hMade _)|exact(fun _=>hLf _)|exact(fun _=>hC0)|exact(fun _=>hC _)))|(apply callW.za;(first|exact(hMade0)|exact(hMade _)|exact(hLf _)|exact(hC0)|exact(hC _)))|(apply zG<;>intro ht));all_goals try simp (disch:=first|omega|(simp only [lens,z6,z7,lQr,lQm,lQt,lQd,z8,z1g,zg];first|done|omega)) only [go_sem,hg,h1,h2',h3']))
     exact DownV.same hw (zz _ rfl)
end
section
def logS:List UInt8:=[108,111,103]
attribute [local irreducible] ACallsTo ACallsP
theorem zf0(J:Store)(L:List (List (List UInt8)))(es:List (List AV))(ex:Bool):ACallsTo TC 33 [.vsl 1 es ex] J (.agg [.ptr (J.length+1) 0 0,.vsl 1 es ex]) (J++ [some [[.ptr (J.length+1) 0 0,.vsl 1 es ex]],some [z1n true logS (keyL logS)]]):=by
 have hN:=fun J=>zoa J logS (by simp [logS])
 rw [show logS=[108,111,103]from rfl]at*
 refine ACallsTo.of_body_keep q23ok (by simp) ?_
 repeat' (first|apply zs_|apply zb_|apply zc_|apply zt_ rfl|apply zf_ rfl|(refine zd_ rfl ?_ ?_<;>intro ht<;>try omega)|((first|apply zr_|apply zk_|apply ze_|apply zq_|(apply callW.mk_pu;(first|exact(fun _=>hN _)))|(apply callW.za;(first|exact(hN _)))|(apply zG<;>intro ht));all_goals try simp (disch:=first|omega|(simp only [lens,z6,z7,lQr,lQm,lQt,lQd,z8,zh,zi,zg];first|done|omega)) only [go_sem,z4a]))
theorem zbw(J:Store)(L:List (List UInt8))(y:AV)(hy:SlV 1 (strs L) y)(hL:∀s ∈ L,s.length<1000000)(hl:L.length<1000000):ACallsTo TC 9 [y] J (z15 32 (hr (lvs L))) J:=by
 have r1:=hy.len
 rw [zh]at r1
 unfold z1h at r1
 refine ACallsTo.of_body q29ok (by simp) fun hw _=> ?_
 repeat' (first|apply zs_|apply zb_|apply zc_|apply zt_ rfl|apply zf_ rfl|(refine zd_ rfl ?_ ?_<;>intro ht<;>try omega)|((first|apply zr_|apply zk_|apply ze_|apply zq_|(apply zG<;>intro ht));all_goals try simp (disch:=first|omega|(simp only [lens,z6,z7,lQr,lQm,lQt,lQd,z8,zh,zi,zg];first|done|omega)) only [go_sem,r1]))
 refine zW.loop (fun m ρ J'=>∃(i:Nat) (v:AV),m+i=L.length/\ OwnN 32 J J' v (hr (lvs (L.take i)))/\ ρ 0=y/\ ρ 3=v/\ ρ 4= .int .i64 i) L.length ?_ ?_
 ·refine⟨0,.nilsl,by omega,?_,by simp (disch:=first|omega|(simp only [lens,z6,z7,lQr,lQm,lQt,lQd,z8,zh,zi,zg];first|done|omega)) only [go_sem],by simp (disch:=first|omega|(simp only [lens,z6,z7,lQr,lQm,lQt,lQd,z8,zh,zi,zg];first|done|omega)) only [go_sem],by simp (disch:=first|omega|(simp only [lens,z6,z7,lQr,lQm,lQt,lQd,z8,zh,zi,zg];first|done|omega)) only [go_sem];rfl⟩
  exact⟨[],by simp,.inl ⟨by simp [lvs,hr],rfl⟩⟩
 ·rintro m ρ J' ⟨i,v,hm,hO,q0,q3,q4⟩
  by_cases hi:i<L.length
  ·obtain⟨ex,rfl⟩:=hy.vsl (by rw [zh];omega)
   have hg:=z9m hi
   have hLf:=fun J=>zdr J (stD L i) (by have:=hL _ (z9k hi);omega)
   obtain⟨v',J2,ha,hO2⟩:=hO.app (ys:=[hc (lfH (stD L i))]) (by simp) (by rw [z7,zi,List.length_take];simp;omega)
   have hcat:hr (lvs (L.take i))++ [hc (lfH (stD L i))]=hr (lvs (L.take (i+1))):=by rw [zeq hi];simp [lvs,hr]
   rw [hcat]at hO2
   rw [show L.getD i []=stD L i from rfl]at hg
   generalize stD L i=s at*
   repeat' (first|apply zs_|apply zb_|apply zc_|apply zt_ rfl|apply zf_ rfl|(refine zd_ rfl ?_ ?_<;>intro ht<;>try omega)|((first|apply zr_|apply zk_|apply ze_|apply zq_|(apply callW.mk_pu;(first|exact(fun _=>hLf _)))|(apply callW.za;(first|exact(hLf _)))|(apply zG<;>intro ht));all_goals try simp (disch:=first|omega|(simp only [lens,z6,z7,lQr,lQm,lQt,lQd,z8,zh,zi,zg];first|done|omega)) only [go_sem,q0,q3,q4,hg,r1,ha]))
   exact⟨m-1,by omega,i+1,v',by omega,hO2,by simp⟩
  ·obtain rfl:i=L.length:=by omega
   rw [List.take_of_length_le (Nat.le_refl _)]at hO
   repeat' (first|apply zs_|apply zb_|apply zc_|apply zt_ rfl|apply zf_ rfl|(refine zd_ rfl ?_ ?_<;>intro ht<;>try omega)|((first|apply zr_|apply zk_|apply ze_|apply zq_|(apply zG<;>intro ht));all_goals try simp (disch:=first|omega|(simp only [lens,z6,z7,lQr,lQm,lQt,lQd,z8,zh,zi,zg];first|done|omega)) only [go_sem,q0,q3,q4,r1]))
   exact hO.froze hw (z1w _)
theorem zbx(J:Store)(t:Nat)(seed:List UInt8)(L:List (List UInt8))(ex:Bool)(n k:Nat)(a:Int)(hk:z16 .and .i64 a 7=some (.int .i64 (k:Nat)))(hk8:k<8)(hn:n<=L.length)(ht:J[t]? =some (some [z1n true seed (keyL seed)]))(hs:seed.length<1000000)(hL:∀s ∈ L,s.length<1000000)(hl:L.length<1000000):
  ACallsTo TC 36 [.agg [.ptr t 0 0,.vsl 1 (strs L) ex],.int .i64 n,.int .i64 a] J (.agg (hdrC (mkH seed k (L.take n)))) J:=by
 have d:=slen ht
 have hLv:=fun J b=>zbw J (L.take n) (.vsl 1 (strs (L.take n)) b) (.inr ⟨b,rfl⟩) (fun s hs=>hL s (List.mem_of_mem_take hs)) (by rw [List.length_take];omega)
 have hRt:=fun J=>zb2 J (lvs (L.take n)) (z15 32 (hr (lvs (L.take n)))) (.of (z2x _ _)) (by rw [zi,List.length_take];omega)
 have hD:=fun J=>zdp J (n:Int) (z1b (lvs (L.take n)))
 have hS:=fun y=>zjd (J++y) t seed (keyL seed) k (digH n (z1b (lvs (L.take n)))) (by rw [gapp d];exact ht) (z36 seed) hk8 hs
 have hm:hdrC (mkH seed k (L.take n))=sgC n (z1b (lvs (L.take n))) k (ksgS seed k (digH n (z1b (lvs (L.take n)))).1) (z15 32 (hr (z1r (keyL seed) k))):=by
  unfold mkH hdrC
  simp only [List.length_take,Nat.min_eq_left hn]
 rw [hm]
 have hrl:RLs J.length (sgC n (z1b (lvs (L.take n))) k (ksgS seed k (digH n (z1b (lvs (L.take n)))).1) (z15 32 (hr (z1r (keyL seed) k)))):=z9b (z5u (z1w _))
 unfold zbe at hS
 generalize z1b (lvs (L.take n))=R at*
 generalize hsig:ksgS seed k (digH n R).1=sig at*
 generalize z1r (keyL seed) k=PH at*
 generalize digH n R=dg at*
 refine ACallsTo.of_body q25ok (by simp) fun hw _=> ?_
 repeat' (first|apply zs_|apply zb_|apply zc_|apply zt_ rfl|apply zf_ rfl|(refine zd_ rfl ?_ ?_<;>intro ht<;>try omega)|((first|apply zr_|apply zk_|apply ze_|apply zq_|(apply callW.mk_pu;(first|exact(fun _=>hLv _ _)|exact(fun _=>hRt _)|exact(fun _=>hD _)))|(apply callW.za;(first|exact(hLv _ _)|exact(hRt _)|exact(hD _)))|(apply zG<;>intro ht));all_goals try simp (disch:=first|omega|(simp only [lens,z6,z7,lQr,lQm,lQt,lQd,z8,zh,zi,zg];first|done|omega)) only [go_sem,hk,Int.toNat_natCast,zj9,z7z]))
 refine callW.mk_pu2 (caps:=[]) (hS _) (fun h hh=>hh.elim) ?_
 simp (disch:=first|omega|(simp only [lens,z6,z7,lQr,lQm,lQt,lQd,z8,zh,zi,zg];first|done|omega)) only [go_sem,hS,List.append_nil,z7z]
 repeat' (first|apply zs_|apply zb_|apply zc_|apply zt_ rfl|apply zf_ rfl|(refine zd_ rfl ?_ ?_<;>intro ht<;>try omega)|((first|apply zr_|apply zk_|apply ze_|apply zq_|(apply zG<;>intro ht));all_goals try simp (disch:=first|omega|(simp only [lens,z6,z7,lQr,lQm,lQt,lQd,z8,zh,zi,zg];first|done|omega)) only [go_sem,z7z]))
 have e:∀(Z:List AV),Z.length=36->sgC n R k sig (z15 32 (hr PH))++(List.drop 36 (sgC n R 0 [] AV.nilsl)++List.drop (36+(List.drop 36 (sgC n R 0 [] AV.nilsl)).length) Z)=sgC n R k sig (z15 32 (hr PH)):=by
  intro Z hZ
  rw [z9g,List.nil_append,List.drop_eq_nil_of_le (by simp [hZ]),List.append_nil]
 rw [e _ rfl]
 exact Ext.pure hw ⟨_,rfl⟩ (by simp only [RL];exact hrl)
theorem zki(J:Store)(r:Nat)(a:Hash)(hg:J[r]? =some (some (hr [a]))):ACallsTo TC 85 [.sl r 0 1 none 32] J (.tup []) J:=by
 have d:=slen hg
 refine ACallsTo.of_body_keep q16ok (by simp) ?_
 repeat' (first|apply zs_|apply zb_|apply zc_|apply zt_ rfl|apply zf_ rfl|(refine zd_ rfl ?_ ?_<;>intro ht<;>try omega)|((first|apply zr_|apply zk_|apply ze_|apply zq_|(apply zG<;>intro ht));all_goals try simp (disch:=first|omega|(simp only [lens,z6,z7,lQr,lQm,lQt,lQd,z8,zh,zi,zg];first|done|omega)) only [go_sem]))
 refine zW.loop (fun m ρ J'=>J'=J/\ ρ 0= .sl r 0 1 none 32/\ ρ 2= .int .i64 0/\ ρ 3= .int .i64 0) 0 ?_ ?_
 ·exact⟨rfl,by simp (disch:=first|omega|(simp only [lens,z6,z7,lQr,lQm,lQt,lQd,z8,zh,zi,zg];first|done|omega)) only [go_sem],by simp (disch:=first|omega|(simp only [lens,z6,z7,lQr,lQm,lQt,lQd,z8,zh,zi,zg];first|done|omega)) only [go_sem],by simp (disch:=first|omega|(simp only [lens,z6,z7,lQr,lQm,lQt,lQd,z8,zh,zi,zg];first|done|omega)) only [go_sem];rfl⟩
 ·rintro m ρ J' ⟨rfl,q0,q2,q3⟩
  repeat' (first|apply zs_|apply zb_|apply zc_|apply zt_ rfl|apply zf_ rfl|(refine zd_ rfl ?_ ?_<;>intro ht<;>try omega)|((first|apply zr_|apply zk_|apply ze_|apply zq_|(apply zG<;>intro ht));all_goals try simp (disch:=first|omega|(simp only [lens,z6,z7,lQr,lQm,lQt,lQd,z8,zh,zi,zg];first|done|omega)) only [go_sem,q0,q2,q3,z4a]))
theorem zka(J:Store)(a b:Hash)(ex:Bool):ACallsTo TC 37 [.vsl 32 (hr [a,b]) ex,.int .i64 1] J (.tup [.sl J.length 0 1 none 32,.int .i64 0]) (J++ [some (hr [a])]):=by
 refine ACallsTo.of_body q12ok (by simp) fun hw _=> ?_
 have hK':(hr [a,b]).length=2:=rfl
 repeat' (first|apply zs_|apply zb_|apply zc_|apply zt_ rfl|apply zf_ rfl|(refine zd_ rfl ?_ ?_<;>intro ht<;>try omega)|((first|apply zr_|apply zk_|apply ze_|apply zq_|(apply zG<;>intro ht));all_goals try simp (disch:=first|omega|(simp only [lens,z6,z7,lQr,lQm,lQt,lQd,z8,zh,zi,zg];first|done|omega)) only [go_sem,hK']))
 refine zW.loop (fun m ρ J'=>(m=1/\ J'=J/\ (∃ex,ρ 0= .vsl 32 (hr [a,b]) ex)/\ ρ 1= .int .i64 1/\ ρ 6= .nilsl) \/(m=0/\ J'=J++ [some (hr [a])]/\ (∃ex,ρ 0= .vsl 32 (hr [b]) ex)/\ ρ 1= .int .i64 0/\ ρ 6= .sl J.length 0 1 none 32)) 1 ?_ ?_
 ·exact .inl ⟨rfl,rfl,⟨ex,by simp (disch:=first|omega|(simp only [lens,z6,z7,lQr,lQm,lQt,lQd,z8,zh,zi,zg];first|done|omega)) only [go_sem]⟩,by simp (disch:=first|omega|(simp only [lens,z6,z7,lQr,lQm,lQt,lQd,z8,zh,zi,zg];first|done|omega)) only [go_sem],by simp (disch:=first|omega|(simp only [lens,z6,z7,lQr,lQm,lQt,lQd,z8,zh,zi,zg];first|done|omega)) only [go_sem]⟩
 ·rintro m ρ J' (⟨rfl,rfl,⟨ex,q0⟩,q1,q6⟩| ⟨rfl,rfl,⟨ex,q0⟩,q1,q6⟩)
  ·have hSp:=fun J=>z9p J 2 (by omega)
   have hsk:zu 2=1:=by decide
   rw [hsk]at hSp
   have hRa:=fun J t=>zbl J [a] (.vsl 32 (hr [a]) t) (.of (.inr ⟨t,rfl⟩)) (by simp)
   rw [zdv]at hRa
   have t1:(hr [a,b]).take 1=hr [a]:=rfl
   have t2:(hr [a,b]).drop 1=hr [b]:=rfl
   repeat' (first|apply zs_|apply zb_|apply zc_|apply zt_ rfl|apply zf_ rfl|(refine zd_ rfl ?_ ?_<;>intro ht<;>try omega)|((first|apply zr_|apply zk_|apply ze_|apply zq_|(apply callW.mk_pu;(first|exact(fun _=>hSp _)|exact(fun _=>hRa _ _)))|(apply callW.za;(first|exact(hSp _)|exact(hRa _ _)))|(apply zG<;>intro ht));all_goals try simp (disch:=first|omega|(simp only [lens,z6,z7,lQr,lQm,lQt,lQd,z8,zh,zi,zg];first|done|omega)) only [go_sem,q0,q1,q6,hK',t1,t2]))
   exact⟨0,by omega,.inr ⟨rfl,rfl,⟨ex,rfl⟩,rfl⟩⟩
  ·have hl1:(hr [b]).length=1:=rfl
   have hRv:=zki (J++ [some (hr [a])]) J.length a (by rw [z1j (by omega),Nat.sub_self];rfl)
   repeat' (first|apply zs_|apply zb_|apply zc_|apply zt_ rfl|apply zf_ rfl|(refine zd_ rfl ?_ ?_<;>intro ht<;>try omega)|((first|apply zr_|apply zk_|apply ze_|apply zq_|(apply callW.mk_pu;(first|exact(fun _=>hRv)))|(apply callW.za;(first|exact(hRv)))|(apply zG<;>intro ht));all_goals try simp (disch:=first|omega|(simp only [lens,z6,z7,lQr,lQm,lQt,lQd,z8,zh,zi,zg];first|done|omega)) only [go_sem,q0,q1,q6,hl1]))
   have h:=DownV.tup2 (i:= .i64) (e:=0) (DownV.own (j:=0) (news:=[some (hr [a])]) (o:=hr [a]) (off:=0) (len:=1) (esz:=32) (lim:=none) (τ:=J) hw rfl (z1w _))
   exact h
end
section
theorem zl3:z1l (shaS [0,97]) (shaS [0,97]) ≠ z1l (shaS [0,97]) (shaS [0,98]):=by decide+kernel
theorem zlx(l:List Hash)(m:Nat)(hm:m<=l.length)(hl:l.length<=4096):chkH m l.length (z1b (l.take m)) (z1b l) (z2i l m)=0:=by
 have h:=znn (l:=hb l) (m:=m) (by rw [z35];exact hm) (by rw [z35];exact hl)
 rw [z35,zh3]at h
 unfold chkH
 rw [zaw]
 exact h
theorem zlw(o nw:Hash):chkH 1 2 o nw []=80:=by
 have h:=zgg (m:=1) (n:=2) (o:=o) (nw:=nw) (ps:=[]) (by omega) (by omega) (by omega)
 have e:lp 0 1=[false]:=by
  rw [lp,dif_neg (by omega),if_neg (by omega),if_neg (by omega),lp,dif_pos (by omega)]
 have e2:st 0 1=(0,1):=by rw [st,dif_neg (by omega)]
 show chkI 1 2 o.1 nw.1 (hb [])=80
 unfold chkI
 rw [if_neg (by omega),if_neg (by omega),if_neg (by omega)]
 show fitI (chkS 0 1 o.1 []) o.1 nw.1=80
 unfold chkS chkG
 rw [e2,if_neg (by omega),e]
 rfl
theorem zgh(x a root:Hash):chkP x 1 2 [a] root=if z11 a x=root then 0 else 80:=by
 unfold chkP
 rw [if_neg (by omega)]
 show z2d (z18 [a] x 1 1) root 1=_
 have e:z18 [a] x 1 1=(z11 a x,0,1):=by
  simp [z18,z1o]
 rw [e]
 unfold z2d
 by_cases h:z11 a x=root
 ·rw [if_pos h];simp [h]
 ·rw [if_neg h];simp [h]
def lgA:List (List UInt8):=[[97],[98]]
def hdA:Hdr:=mkH logS 0 [[97]]
def hdB:Hdr:=mkH logS 1 [[97],[98]]
def kyA:Hash:=z1b (keyL logS)
theorem zcp:z2q kyA hdA.n hdA.i hdA.r hdA.s hdA.p=0:=zhl logS 0 [[97]] (by omega) (by simp)
theorem zh6:z2q kyA hdB.n hdB.i hdB.r hdB.s hdB.p=0:=zhl logS 1 [[97],[98]] (by omega) (by simp)
theorem z7q:hdA.n=1:=rfl
theorem z3k:hdB.n=2:=rfl
theorem hdB_r:hdB.r=z11 (lfH [97]) (lfH [98]):=by
 show z1b [lfH [97],lfH [98]]=_
 exact zdx _ _
theorem zfb:chkH 1 2 hdA.r hdB.r (z2i [lfH [97],lfH [98]] 1)=0:=by
 have h:=zlx [lfH [97],lfH [98]] 1 (by simp) (by simp)
 exact h
theorem ad1:adE kyA none hdA []=1:=by unfold adE;rw [zcp,if_neg (by omega)]
theorem ad2:adE kyA (some hdA) hdA []=3:=by
 unfold adE;rw [zcp,if_neg (by omega)];simp [ordI]
theorem ad3:adE kyA (some hdA) hdB []=5:=by
 unfold adE;rw [zh6,if_neg (by omega)]
 have e:ordI hdB.n hdA.n hdB.r hdA.r=2:=by unfold ordI;rw [z7q,z3k];simp
 have c:chkH hdA.n hdB.n hdA.r hdB.r []=80:=by rw [z7q,z3k];exact zlw _ _
 simp only [e,c]
 simp
theorem ad4:adE kyA (some hdA) hdB (z2i [lfH [97],lfH [98]] 1)=2:=by
 unfold adE;rw [zh6,if_neg (by omega)]
 have e:ordI hdB.n hdA.n hdB.r hdA.r=2:=by unfold ordI;rw [z7q,z3k];simp
 have c:chkH hdA.n hdB.n hdA.r hdB.r (z2i [lfH [97],lfH [98]] 1)=0:=by rw [z7q,z3k];exact zfb
 simp only [e,c]
 simp
theorem ad5:adE kyA (some hdB) hdA (z2i [lfH [97],lfH [98]] 1)=4:=by
 unfold adE;rw [zcp,if_neg (by omega)]
 have e:ordI hdA.n hdB.n hdA.r hdB.r=0:=by unfold ordI;rw [z7q,z3k];simp
 have c:chkH hdA.n hdB.n hdA.r hdB.r (z2i [lfH [97],lfH [98]] 1)=0:=by rw [z7q,z3k];exact zfb
 simp only [e,c]
 simp
theorem at0:adT none 0 [97] []=4:=rfl
theorem zfg{w:Hdr}{i:Int}{text:List UInt8}{path:List Hash}(h:¬(i<0 \/w.n<=i))(h2:¬200<text.length):adT (some w) i text path=chkP (lfH text) i w.n path w.r:=by
 unfold adT
 simp only
 rw [if_neg h,if_neg h2]
theorem at1:adT (some hdB) 1 [98] [lfH [97]]=0:=by
 rw [zfg (by rw [z3k];omega) (by simp),z3k,zgh,hdB_r,if_pos rfl]
theorem at2:adT (some hdB) 1 [97] [lfH [97]]=80:=by
 rw [zfg (by rw [z3k];omega) (by simp),z3k,zgh,hdB_r,if_neg]
 intro h
 have h2:=congrArg Subtype.val h
 simp only [z11,lfH,shaH]at h2
 exact zl3 h2
theorem at3:adT (some hdB) 2 [98] [lfH [97]]=82:=by
 unfold adT
 simp only
 rw [if_pos (by rw [z3k];omega)]
theorem pfE:z2w (hb [lfH [97],lfH [98]]) 1=0:=by unfold z2w;rw [z35,if_neg (by simp)]
end
section
theorem Fr.notin{J J':Store}{own own':List Nat}(h:Fr J J' own own'){j:Nat}(hj:j<J.length)(hn:j ∉ own):j ∉ own':=fun h2=>by
 rcases h.new j h2 with h3|h3
 ·exact hn h3
 ·omega
theorem zoe:z1b (keyL logS)=kyA:=rfl
theorem zng:mkH logS 0 (lgA.take 1)=hdA:=rfl
theorem znh:mkH logS 1 (lgA.take 2)=hdB:=rfl
theorem zar:logS.length<1000000:=by simp [logS]
attribute [local irreducible] ACallsTo ACallsP kyA hdA hdB logS
theorem zfo(hw:Wf ([]:Store).length [])(J:Store)(p o1 o2:Nat)(own:List Nat)(hT:AudIs J p kyA none none own)(h1:J[o1]? =some (some [hdrC hdA]))(h2:J[o2]? =some (some [hdrC hdB]))(n1:o1 ∉ own)(n2:o2 ∉ own)
  (ex:Bool) (ρ:Env) (q2:ρ 2= .vsl 32 (hr [lfH [97],lfH [98]]) ex) (q3:ρ 3=z15 32 (hr (z2i [lfH [97],lfH [98]] 1))) (q4:ρ 4= .int .i64 0) (q5:ρ 5= .ptr p 0 0) (q6:ρ 6= .ptr o1 0 0) (q7:ρ 7= .ptr o2 0 0):
  zW TC 92 0 zde (endQ 0 [.t 0] (.bool true) []) ρ J:=by
 have ha:=z3s hdA
 have hb:=z3s hdB
 have la:=zg hdA
 have lb:=zg hdB
 have hE0:=z8f J p kyA none none own 0 [97] [] .nilsl hT (.of (.inl ⟨rfl,rfl⟩)) (by simp) (by simp) (by omega) (by simp)
 rw [at0]at hE0
 have d1:=slen h1
 have d2:=slen h2
 have hnil:∀J:Store,RdSl J 32 (hr []) .nilsl:=fun J=> .of (.inl ⟨rfl,rfl⟩)
 have hpd:∀(J:Store) (h:Hdr),RdSl J 32 (hr h.p) (z15 32 (hr h.p)):=fun J h=> .of (z2x _ _)
 have hpf:∀(J:Store),RdSl J 32 (hr (z2i [lfH [97],lfH [98]] 1)) (z15 32 (hr (z2i [lfH [97],lfH [98]] 1))):=fun J=> .of (z2x _ _)
 have hpl:(z2i [lfH [97],lfH [98]] 1).length<1000000:=by have:=zdd [lfH [97],lfH [98]] 1;simp at this;omega
 have A1:=ad1
 have A2:=ad2
 have A3:=ad3
 have A4:=ad4
 have A5:=ad5
 generalize z2i [lfH [97],lfH [98]] 1=PF at*
 repeat' (first|apply zs_|apply zb_|apply zc_|apply zt_ rfl|apply zf_ rfl|(refine zd_ rfl ?_ ?_<;>intro ht<;>try omega)|((first|apply zr_|apply zk_|apply ze_|apply zq_|(apply callW.mk_pu;(first|exact(fun _=>hE0)))|(apply callW.za;(first|exact(hE0)))|(apply zG<;>intro ht));all_goals try simp (disch:=first|omega|(simp only [lens,z6,z7,lQr,lQm,lQt,lQd,z8,zh,zi,zg];first|done|omega)) only [go_sem,q2,q3,q4,q5,q6,q7,h1,ha,la]))
 refine callW.mkP (caps:=[]) (z7i J p kyA none none own hdA [] (z15 32 (hr hdA.p)) .nilsl hT (hpd _ _) (hnil _) (by simp)) (AHeadP.is hT) ?_
 rintro v s2 ⟨rfl,w2,fr,T2⟩
 have m12:=fr.notin d1 n1
 have m22:=fr.notin d2 n2
 have g12:=fr.get h1 n1
 have g22:=fr.get h2 n2
 clear fr
 rw [show adN kyA none hdA []=(some hdA)by unfold adN;rw [A1];simp,show adF kyA none none hdA []=none by unfold adF;rw [A1];simp]at T2
 rw [A1]
 have e12:=slen g12
 have e22:=slen g22
 simp (disch:=first|omega|(simp only [lens,z6,z7,lQr,lQm,lQt,lQd,z8,zh,zi,zg];first|done|omega)) only [go_sem,q2,q3,q4,q5,q6,q7,g12,g22,ha,hb,la,lb]
 refine callW.mkP (caps:=[]) (z7i s2 p kyA (some hdA) none w2 hdA [] (z15 32 (hr hdA.p)) .nilsl T2 (hpd _ _) (hnil _) (by simp)) (AHeadP.is T2) ?_
 rintro v s3 ⟨rfl,w3,fr,T3⟩
 have m13:=fr.notin e12 m12
 have m23:=fr.notin e22 m22
 have g13:=fr.get g12 m12
 have g23:=fr.get g22 m22
 clear fr
 rw [show adN kyA (some hdA) hdA []=(some hdA)by unfold adN;rw [A2];simp,show adF kyA (some hdA) none hdA []=none by unfold adF;rw [A2];simp]at T3
 rw [A2]
 have e13:=slen g13
 have e23:=slen g23
 simp (disch:=first|omega|(simp only [lens,z6,z7,lQr,lQm,lQt,lQd,z8,zh,zi,zg];first|done|omega)) only [go_sem,q2,q3,q4,q5,q6,q7,g13,g23,ha,hb,la,lb]
 refine callW.mkP (caps:=[]) (z7i s3 p kyA (some hdA) none w3 hdB [] (z15 32 (hr hdB.p)) .nilsl T3 (hpd _ _) (hnil _) (by simp)) (AHeadP.is T3) ?_
 rintro v s4 ⟨rfl,w4,fr,T4⟩
 have m14:=fr.notin e13 m13
 have m24:=fr.notin e23 m23
 have g14:=fr.get g13 m13
 have g24:=fr.get g23 m23
 clear fr
 rw [show adN kyA (some hdA) hdB []=(some hdA)by unfold adN;rw [A3];simp,show adF kyA (some hdA) none hdB []=none by unfold adF;rw [A3];simp]at T4
 rw [A3]
 have e14:=slen g14
 have e24:=slen g24
 simp (disch:=first|omega|(simp only [lens,z6,z7,lQr,lQm,lQt,lQd,z8,zh,zi,zg];first|done|omega)) only [go_sem,q2,q3,q4,q5,q6,q7,g14,g24,ha,hb,la,lb]
 refine callW.mkP (caps:=[]) (z7i s4 p kyA (some hdA) none w4 hdB PF (z15 32 (hr hdB.p)) (z15 32 (hr PF)) T4 (hpd _ _) (hpf _) hpl) (AHeadP.is T4) ?_
 rintro v s5 ⟨rfl,w5,fr,T5⟩
 have m15:=fr.notin e14 m14
 have m25:=fr.notin e24 m24
 have g15:=fr.get g14 m14
 have g25:=fr.get g24 m24
 clear fr
 rw [show adN kyA (some hdA) hdB PF=(some hdB)by unfold adN;rw [A4];simp,show adF kyA (some hdA) none hdB PF=none by unfold adF;rw [A4];simp]at T5
 rw [A4]
 have e15:=slen g15
 have e25:=slen g25
 simp (disch:=first|omega|(simp only [lens,z6,z7,lQr,lQm,lQt,lQd,z8,zh,zi,zg];first|done|omega)) only [go_sem,q2,q3,q4,q5,q6,q7,g15,g25,ha,hb,la,lb]
 refine callW.mkP (caps:=[]) (z7i s5 p kyA (some hdB) none w5 hdA PF (z15 32 (hr hdA.p)) (z15 32 (hr PF)) T5 (hpd _ _) (hpf _) hpl) (AHeadP.is T5) ?_
 rintro v s6 ⟨rfl,w6,fr,T6⟩
 have m16:=fr.notin e15 m15
 have m26:=fr.notin e25 m25
 have g16:=fr.get g15 m15
 have g26:=fr.get g25 m25
 clear fr
 rw [show adN kyA (some hdB) hdA PF=(some hdB)by unfold adN;rw [A5];simp,show adF kyA (some hdB) none hdA PF=none by unfold adF;rw [A5];simp]at T6
 rw [A5]
 have e16:=slen g16
 have e26:=slen g26
 simp (disch:=first|omega|(simp only [lens,z6,z7,lQr,lQm,lQt,lQd,z8,zh,zi,zg];first|done|omega)) only [go_sem,q2,q3,q4,q5,q6,q7,g16,g26,ha,hb,la,lb]
 have hPt:=fun J=>zka J (lfH [97]) (lfH [98]) ex
 have hn:∀w,some hdB=some w-> -9223372036854775808<=w.n/\ w.n<=9223372036854775807:=fun w e=>by cases e;rw [z3k];omega
 have T7:=T6.ext (J':=s6++ [some (hr [lfH [97]])]) ⟨_,rfl⟩
 have hrd:RdSl (s6++ [some (hr [lfH [97]])]) 32 (hr [lfH [97]]) (.sl s6.length 0 1 none 32):= .inr ⟨s6.length,0,none,_,rfl,by rw [z1j (by omega),Nat.sub_self];rfl,by simp,by simp⟩
 have hE1:=z8f _ p kyA (some hdB) none _ 1 [98] [lfH [97]] _ T7 hrd (by simp) (by simp) (by omega) hn
 have hE2:=z8f _ p kyA (some hdB) none _ 1 [97] [lfH [97]] _ T7 hrd (by simp) (by simp) (by omega) hn
 have hE3:=z8f _ p kyA (some hdB) none _ 2 [98] [lfH [97]] _ T7 hrd (by simp) (by simp) (by omega) hn
 rw [at1]at hE1
 rw [at2]at hE2
 rw [at3]at hE3
 repeat' (first|apply zs_|apply zb_|apply zc_|apply zt_ rfl|apply zf_ rfl|(refine zd_ rfl ?_ ?_<;>intro ht<;>try omega)|((first|apply zr_|apply zk_|apply ze_|apply zq_|(apply callW.mk_pu;(first|exact(fun _=>hPt _)|exact(fun _=>hE1)|exact(fun _=>hE2)|exact(fun _=>hE3)))|(apply callW.za;(first|exact(hPt _)|exact(hE1)|exact(hE2)|exact(hE3)))|(apply zG<;>intro ht));all_goals try simp (disch:=first|omega|(simp only [lens,z6,z7,lQr,lQm,lQt,lQd,z8,zh,zi,zg];first|done|omega)) only [go_sem,q2,q3,q4,q5,q6,q7]))
 exact DownV.pure (τ:=[]) hw (zz _ rfl)
attribute [local irreducible] zde
theorem zl4:ACallsTo TC 8 [] [] (.bool true) []:=by
 have hMd:=fun J=>zf0 J [] (strs lgA) true
 rw [show strs lgA=[[.str [97]],[.str [98]]]from rfl]at hMd
 have hLa:=fun J=>zep J [97] (by simp)
 have hLb:=fun J=>zep J [98] (by simp)
 have hPf:=fun J=>zke J [lfH [97],lfH [98]] (.vsl 32 [hc (lfH [97]),hc (lfH [98])] true) 1 (.inr ⟨true,rfl⟩) (by simp)
 rw [pfE]at hPf
 have hRt:=fun(a b c:Option AObj) (hb:b=some [z1n true logS (keyL logS)])=>zjc [a,b,c] 1 logS (keyL logS) (by rw [hb];rfl) (z36 _)
 rw [zoe]at hRt
 have hNew:=fun J=>zfm J kyA
 refine ACallsTo.of_body q1yok (by simp) fun hw _=> ?_
 repeat' (first|apply zs_|apply zb_|apply zc_|apply zt_ rfl|apply zf_ rfl|(refine zd_ rfl ?_ ?_<;>intro ht<;>try omega)|((first|apply zr_|apply zk_|apply ze_|apply zq_|(apply callW.mk_pu;(first|exact(fun _=>hMd _)|exact(fun _=>hLa _)|exact(fun _=>hLb _)|exact(fun _=>hPf _)|exact(fun _=>hRt _ _ _ rfl)|exact(fun _=>hNew _)))|(apply callW.za;(first|exact(hMd _)|exact(hLa _)|exact(hLb _)|exact(hPf _)|exact(hRt _ _ _ rfl)|exact(hNew _)))|(apply zG<;>intro ht));all_goals try simp (disch:=first|omega|(simp only [lens,z6,z7,lQr,lQm,lQt,lQd,z8,zh,zi,zg];first|done|omega)) only [go_sem]))
 generalize hτ:([some [[AV.ptr 1 0 0,_]],some [z1n true logS (keyL logS)],_,some [hc kyA],_]:Store)=τ
 have ht:τ[1]? =some (some [z1n true logS (keyL logS)]):=by rw [<-hτ];rfl
 have hl:τ[2]? =some (some [[AV.ptr 1 0 0,AV.vsl 1 [[AV.str [97]],[AV.str [98]]] true]]):=by rw [<-hτ];rfl
 have hA:AudIs τ 4 kyA none none [4]:=⟨.nilp,[],rfl,by rw [<-hτ];rfl,.inl ⟨rfl,rfl,rfl⟩⟩
 have dτ:τ.length=5:=by rw [<-hτ];rfl
 clear hτ
 have hLs:∀s ∈ lgA,s.length<1000000:=by intro s hs;simp [lgA]at hs;rcases hs with rfl|rfl<;>simp
 have hH1:∀y,ACallsTo TC 36 [.agg [.ptr 1 0 0,.vsl 1 [[.str [97]],[.str [98]]] true],.int .i64 1,.int .i64 0] (τ++y) (.agg (hdrC hdA)) (τ++y):=fun y=>by
  have h:=zbx (τ++y) 1 logS lgA true 1 0 0 rfl (by omega) (by simp [lgA]) (by rw [gapp (by omega)];exact ht) zar hLs (by simp [lgA])
  rw [zng]at h
  exact h
 have hH2:∀y,ACallsTo TC 36 [.agg [.ptr 1 0 0,.vsl 1 [[.str [97]],[.str [98]]] true],.int .i64 2,.int .i64 1] (τ++y) (.agg (hdrC hdB)) (τ++y):=fun y=>by
  have h:=zbx (τ++y) 1 logS lgA true 2 1 1 rfl (by omega) (by simp [lgA]) (by rw [gapp (by omega)];exact ht) zar hLs (by simp [lgA])
  rw [znh]at h
  exact h
 have hH1':=hH1 []
 have hH2':=hH2 []
 rw [List.append_nil]at hH1' hH2'
 have la:=zg hdA
 have lb:=zg hdB
 refine zW.reg2J ?_
 simp (disch:=first|omega|(simp only [lens,z6,z7,lQr,lQm,lQt,lQd,z8,zh,zi,zg];first|done|omega)) only [go_sem,hl]
 refine callW.mk_pu2 (caps:=[]) hH1' (fun h hh=>hh.elim) ?_
 simp (disch:=first|omega|(simp only [lens,z6,z7,lQr,lQm,lQt,lQd,z8,zh,zi,zg];first|done|omega)) only [go_sem,hl]
 refine callW.mk_pu2 (caps:=[]) hH2' (fun h hh=>hh.elim) ?_
 simp (disch:=first|omega|(simp only [lens,z6,z7,lQr,lQm,lQt,lQd,z8,zh,zi,zg];first|done|omega)) only [go_sem,hl,hH1,hH2,la,lb]
 refine⟨zfo hw _ 4 τ.length (τ.length+1) [4] (hA.ext ⟨_,rfl⟩) ?_ ?_ ?_ ?_ true _ ?_ ?_ ?_ ?_ ?_ ?_,zfo hw _ 4 (τ.length+1) τ.length [4] (hA.ext ⟨_,rfl⟩) ?_ ?_ ?_ ?_ true _ ?_ ?_ ?_ ?_ ?_ ?_⟩
 ·rw [z1j (by omega),Nat.sub_self];rfl
 ·rw [z1j (by omega),Nat.add_sub_cancel_left];rfl
 ·simp;omega
 ·simp;omega
 ·simp (disch:=first|omega|(simp only [lens,z6,z7,lQr,lQm,lQt,lQd,z8,zh,zi,zg];first|done|omega)) only [go_sem];rfl
 ·simp (disch:=first|omega|(simp only [lens,z6,z7,lQr,lQm,lQt,lQd,z8,zh,zi,zg];first|done|omega)) only [go_sem]
 ·simp (disch:=first|omega|(simp only [lens,z6,z7,lQr,lQm,lQt,lQd,z8,zh,zi,zg];first|done|omega)) only [go_sem]
 ·simp (disch:=first|omega|(simp only [lens,z6,z7,lQr,lQm,lQt,lQd,z8,zh,zi,zg];first|done|omega)) only [go_sem]
 ·simp (disch:=first|omega|(simp only [lens,z6,z7,lQr,lQm,lQt,lQd,z8,zh,zi,zg];first|done|omega)) only [go_sem]
 ·simp (disch:=first|omega|(simp only [lens,z6,z7,lQr,lQm,lQt,lQd,z8,zh,zi,zg];first|done|omega)) only [go_sem]
 ·rw [z1j (by omega),Nat.add_sub_cancel_left];rfl
 ·rw [z1j (by omega),Nat.sub_self];rfl
 ·simp;omega
 ·simp;omega
 ·simp (disch:=first|omega|(simp only [lens,z6,z7,lQr,lQm,lQt,lQd,z8,zh,zi,zg];first|done|omega)) only [go_sem];rfl
 ·simp (disch:=first|omega|(simp only [lens,z6,z7,lQr,lQm,lQt,lQd,z8,zh,zi,zg];first|done|omega)) only [go_sem]
 ·simp (disch:=first|omega|(simp only [lens,z6,z7,lQr,lQm,lQt,lQd,z8,zh,zi,zg];first|done|omega)) only [go_sem]
 ·simp (disch:=first|omega|(simp only [lens,z6,z7,lQr,lQm,lQt,lQd,z8,zh,zi,zg];first|done|omega)) only [go_sem]
 ·simp (disch:=first|omega|(simp only [lens,z6,z7,lQr,lQm,lQt,lQd,z8,zh,zi,zg];first|done|omega)) only [go_sem]
 ·simp (disch:=first|omega|(simp only [lens,z6,z7,lQr,lQm,lQt,lQd,z8,zh,zi,zg];first|done|omega)) only [go_sem]
theorem z7j(J:Store):ACallsTo TC 8 [] J (.bool true) J:=ACallsTo.frame glok zl4 (by simp [RLs]) J
def z8d:Ty:= .row [.int .u8,.int .u8,.int .u8,.str,.sl 32 z8w]
theorem zkq{cs:List AV}(h:ShC z8d cs):∃(a b c:Int) (t:List UInt8) (R:List Hash) (y:AV),cs=[.int .u8 a,.int .u8 b,.int .u8 c,.str t,y]/\ SlV 32 (hr R) y/\ R.length<=maxLen/\ t.length<=maxLen/\ (0<=a/\ a<=255)/\ (0<=b/\ b<=255)/\ (0<=c/\ c<=255):=by
 simp only [z8d,ShC,z3p]at h
 obtain⟨A,B,rfl,⟨a,rfl,a1,a2⟩,C,D,rfl,⟨b,rfl,b1,b2⟩,E,F,rfl,⟨c,rfl,c1,c2⟩,G,K,rfl,⟨t,rfl,ht⟩,M,N,rfl,hM,rfl⟩:=h
 obtain⟨R,y,rfl,h3,h4⟩:=hslC_h (by simpa only [ShC]using hM)
 simp only [IntKind.min,IntKind.max,IntKind.signed,IntKind.bits]at a1 a2 b1 b2 c1 c2
 simp at a1 a2 b1 b2 c1 c2
 exact⟨a,b,c,t,R,y,rfl,h3,h4,ht,⟨a1,a2⟩,⟨b1,b2⟩,⟨c1,c2⟩⟩
end
section
set_option maxRecDepth 10000

end
section
set_option maxRecDepth 10000
@[go_sem] def q2ar0:List AIns:=[
 yI 6 (.mv (.v (.bool false)))]
@[go_sem] def q2ar1:List AIns:=[
 yM 28 0,
 yM 29 1,
 yI 30 (.call (.v (.fn 6 [])) [(.t 28),(.t 29)]),
 yM 27 30,
 yI 31 (.ext 0 (.t 27)),
 yI 32 (.ext 1 (.t 27)),
 yI 33 (.ext 2 (.t 27)),
 yI 7 (.alloc [.nilp,.nilsl]),
 yI 8 (.alloc [.nilp,.nilsl]),
 ⟨none,none,.no,.store 2 (.t 7) (.t 31)⟩,
 ⟨none,none,.no,.store 2 (.t 8) (.t 32)⟩,
 yM 9 33]
@[go_sem] def q2ar2:List AIns:=[
 yM 34 9,
 yI 35 (.un .not (.t 34)),
 yM 36 35,
 yG 37 36 false (.mv (.t 2)),
 yG 38 36 false (.call (.v (.fn 7 [])) [(.t 37),(.v (.int .i64 15))]),
 yI 39 (.pick (.t 36) (.v (.bool true)) (.t 38))]
@[go_sem] def q2ar3:List AIns:=[
 yI 40 (.call (.v (.fn 8 [])) []),
 yM 6 40]
def q2ac4:ACode:= .seq (.reg q2ar3) .ret
def q2ac5:ACode:= .cond (.t 39) q2ac4 .skip
def q2ac6:ACode:= .seq (.reg q2ar2) q2ac5
@[go_sem] def q2ar7:List AIns:=[
 yM 41 0,
 yI 42 (.call (.v (.fn 9 [])) [(.t 41)]),
 yM 10 42]
@[go_sem] def q2ar8:List AIns:=[
 yI 43 (.fa 0 (.t 7)),
 ⟨some 44,none,.rd,.load false 1 (.t 43)⟩,
 ⟨some 45,none,.ef,.call (.v (.fn 11 [])) [(.t 44)]⟩,
 ⟨some 46,none,.ef,.call (.v (.fn 10 [])) [(.t 45)]⟩,
 yI 47 (.fa 0 (.t 7)),
 ⟨some 48,none,.rd,.load false 1 (.t 47)⟩,
 yI 49 (.call (.v (.fn 11 [])) [(.t 48)]),
 yI 50 (.build [(.int .u8 0),(.int .u8 0),(.int .u8 0),(.int .u8 0),(.int .u8 0),(.int .u8 0),(.int .u8 0),(.int .u8 0),(.int .u8 0),(.int .u8 0),(.int .u8 0),(.int .u8 0),(.int .u8 0),(.int .u8 0),(.int .u8 0),(.int .u8 0),(.int .u8 0),(.int .u8 0),(.int .u8 0),(.int .u8 0),(.int .u8 0),(.int .u8 0),(.int .u8 0),(.int .u8 0),(.int .u8 0),(.int .u8 0),(.int .u8 0),(.int .u8 0),(.int .u8 0),(.int .u8 0),(.int .u8 0),(.int .u8 0),.nilsl,.nilsl] [(0,32,(.t 49))]),
 yI 51 (.box (.t 50)),
 yM 11 46,
 yM 12 51]
@[go_sem] def q2ar9:List AIns:=[
 yI 13 (.mv (.v (.int .i64 0)))]
@[go_sem] def q2ar10:List AIns:=[
 yI 14 (.mv (.v (.int .i64 0)))]
@[go_sem] def q2ar11:List AIns:=[
 yM 52 14,
 yM 53 2,
 yI 54 (.lenSl (.t 53)),
 yI 55 (.bin .lss .none (.t 52) (.t 54))]
def q2ac12:ACode:= .cond (.t 55) .skip (.exit 0)
def q2ac13:ACode:= .seq (.reg q2ar11) q2ac12
@[go_sem] def q2ar14:List AIns:=[
 yM 58 2,
 yM 59 14,
 yI 60 (.iaSl 5 (.t 58) (.t 59)),
 yI 61 (.load true 5 (.t 60)),
 yI 15 (.alloc [(.int .u8 0),(.int .u8 0),(.int .u8 0),(.str []),.nilsl]),
 ⟨none,none,.no,.store 5 (.t 15) (.t 61)⟩]
@[go_sem] def q2ar15:List AIns:=[
 yI 62 (.fa 0 (.t 15)),
 yI 63 (.load false 1 (.t 62)),
 yI 64 (.bin .rem .none (.t 63) (.v (.int .u8 11))),
 yM 16 64]
@[go_sem] def q2ar16:List AIns:=[
 yM 113 16,
 yI 114 (.bin .lss .none (.t 113) (.v (.int .u8 7))),
 yM 112 114]
@[go_sem] def q2ar17:List AIns:=[
 yI 116 (.load true 5 (.t 15)),
 yI 117 (.load true 2 (.t 7)),
 yI 118 (.load true 2 (.t 8)),
 yM 119 13,
 yI 120 (.call (.v (.fn 12 [])) [(.t 116),(.t 117),(.t 118),(.t 119)]),
 yM 115 120,
 yI 121 (.ext 0 (.t 115)),
 yI 122 (.ext 1 (.t 115)),
 yI 17 (.alloc [(.int .i64 0),(.int .u8 0),(.int .u8 0),(.int .u8 0),(.int .u8 0),(.int .u8 0),(.int .u8 0),(.int .u8 0),(.int .u8 0),(.int .u8 0),(.int .u8 0),(.int .u8 0),(.int .u8 0),(.int .u8 0),(.int .u8 0),(.int .u8 0),(.int .u8 0),(.int .u8 0),(.int .u8 0),(.int .u8 0),(.int .u8 0),(.int .u8 0),(.int .u8 0),(.int .u8 0),(.int .u8 0),(.int .u8 0),(.int .u8 0),(.int .u8 0),(.int .u8 0),(.int .u8 0),(.int .u8 0),(.int .u8 0),(.int .u8 0),(.int .i64 0),(.str []),.nilsl]),
 ⟨none,none,.no,.store 36 (.t 17) (.t 121)⟩,
 yM 18 122]
@[go_sem] def q2ar18:List AIns:=[
 yM 123 11,
 ⟨some 124,none,.rd,.load true 36 (.t 17)⟩,
 yM 125 18,
 ⟨some 126,none,.ef,.call (.v (.fn 13 [])) [(.t 123),(.t 124),(.t 125)]⟩,
 yM 127 12,
 ⟨some 128,none,.rd,.load true 36 (.t 17)⟩,
 yM 129 18,
 yI 130 (.call (.v (.fn 14 [])) [(.t 127),(.t 128),(.t 129)]),
 yI 131 (.bin .neq .none (.t 126) (.t 130))]
@[go_sem] def q2ar19:List AIns:=[
 yI 6 (.mv (.v (.bool false)))]
def q2ac20:ACode:= .seq (.reg q2ar19) .ret
def q2ac21:ACode:= .cond (.t 131) q2ac20 .skip
def zdg:ACode:= .seq (.reg q2ar18) q2ac21
def q2ac23:ACode:= .seq (.reg q2ar17) zdg
@[go_sem] def q2ar24:List AIns:=[
 yI 65 (.fa 2 (.t 15)),
 yI 66 (.load false 1 (.t 65)),
 yI 67 (.conv (.int .i64) (.t 66)),
 yM 68 0,
 yI 69 (.lenSl (.t 68)),
 yI 70 (.bin .rem .none (.t 67) (.t 69)),
 yM 19 70]
@[go_sem] def q2ar25:List AIns:=[
 yM 72 10,
 yM 73 13,
 yM 74 0,
 yI 75 (.lenSl (.t 74)),
 yI 76 (.minmax false (.t 73) (.t 75)),
 yI 77 (.minmax true (.t 76) (.v (.int .i64 1))),
 yI 78 (.slice (.sl 32) (.t 72) none (some (.t 77)) none),
 yM 79 19,
 yI 80 (.call (.v (.fn 15 [])) [(.t 78),(.t 79)]),
 yM 71 80,
 yI 81 (.ext 0 (.t 71)),
 yI 82 (.ext 1 (.t 71)),
 yM 20 81,
 yM 21 82]
@[go_sem] def q2ar26:List AIns:=[
 yM 83 0,
 yM 84 19,
 yI 85 (.iaSl 1 (.t 83) (.t 84)),
 yI 86 (.load false 1 (.t 85)),
 yM 22 86]
@[go_sem] def q2ar27:List AIns:=[
 yM 87 16,
 yI 88 (.bin .eql .none (.t 87) (.v (.int .u8 9)))]
@[go_sem] def q2ar28:List AIns:=[
 yI 89 (.fa 3 (.t 15)),
 yI 90 (.load false 1 (.t 89)),
 yM 22 90]
def q2ac29:ACode:= .cond (.t 88) (.reg q2ar28) .skip
def q2ac30:ACode:= .seq (.reg q2ar27) q2ac29
@[go_sem] def q2ar31:List AIns:=[
 yM 91 16,
 yI 92 (.bin .eql .none (.t 91) (.v (.int .u8 10)))]
@[go_sem] def q2ar32:List AIns:=[
 yI 93 (.fa 3 (.t 15)),
 ⟨some 94,none,.rd,.load false 1 (.t 93)⟩,
 yI 95 (.fa 4 (.t 15)),
 ⟨some 96,none,.rd,.load false 1 (.t 95)⟩,
 yM 22 94,
 yM 20 96]
@[go_sem] def q2ar33:List AIns:=[
 yI 97 (.fa 2 (.t 15)),
 yI 98 (.load false 1 (.t 97)),
 yI 99 (.conv (.int .i64) (.t 98)),
 yI 100 (.bin .sub .none (.t 99) (.v (.int .i64 3))),
 yM 19 100]
def q2ac34:ACode:= .seq (.reg q2ar32) (.reg q2ar33)
def q2ac35:ACode:= .cond (.t 92) q2ac34 .skip
def q2ac36:ACode:= .seq (.reg q2ar31) q2ac35
@[go_sem] def q2ar37:List AIns:=[
 yM 101 11,
 yM 102 19,
 yM 103 22,
 yM 104 20,
 yI 105 (.call (.v (.fn 16 [])) [(.t 101),(.t 102),(.t 103),(.t 104)]),
 yM 106 12,
 yM 107 19,
 yM 108 22,
 yM 109 20,
 yI 110 (.call (.v (.fn 17 [])) [(.t 106),(.t 107),(.t 108),(.t 109)]),
 yI 111 (.bin .neq .none (.t 105) (.t 110))]
@[go_sem] def q2ar38:List AIns:=[
 yI 6 (.mv (.v (.bool false)))]
def q2ac39:ACode:= .seq (.reg q2ar38) .ret
def q2ac40:ACode:= .cond (.t 111) q2ac39 .skip
def zdh:ACode:= .seq (.reg q2ar37) q2ac40
def q2ac42:ACode:= .seq q2ac36 zdh
def q2ac43:ACode:= .seq q2ac30 q2ac42
def q2ac44:ACode:= .seq (.reg q2ar26) q2ac43
def q2ac45:ACode:= .seq (.reg q2ar25) q2ac44
def q2ac46:ACode:= .seq (.reg q2ar24) q2ac45
def q2ac47:ACode:= .cond (.t 112) q2ac23 q2ac46
def q2ac48:ACode:= .seq (.reg q2ar16) q2ac47
def q2ac49:ACode:= .block 2 q2ac48
def q2ac50:ACode:= .seq (.reg q2ar15) q2ac49
@[go_sem] def q2ar51:List AIns:=[
 yM 133 11,
 yI 134 (.call (.v (.fn 18 [])) [(.t 133)]),
 yM 132 134,
 yI 135 (.ext 0 (.t 132)),
 yI 136 (.ext 1 (.t 132)),
 yI 23 (.alloc [(.int .i64 0),(.int .u8 0),(.int .u8 0),(.int .u8 0),(.int .u8 0),(.int .u8 0),(.int .u8 0),(.int .u8 0),(.int .u8 0),(.int .u8 0),(.int .u8 0),(.int .u8 0),(.int .u8 0),(.int .u8 0),(.int .u8 0),(.int .u8 0),(.int .u8 0),(.int .u8 0),(.int .u8 0),(.int .u8 0),(.int .u8 0),(.int .u8 0),(.int .u8 0),(.int .u8 0),(.int .u8 0),(.int .u8 0),(.int .u8 0),(.int .u8 0),(.int .u8 0),(.int .u8 0),(.int .u8 0),(.int .u8 0),(.int .u8 0),(.int .i64 0),(.str []),.nilsl]),
 ⟨none,none,.no,.store 36 (.t 23) (.t 135)⟩,
 yM 24 136]
@[go_sem] def q2ar52:List AIns:=[
 yM 138 11,
 yI 139 (.call (.v (.fn 19 [])) [(.t 138)]),
 yM 137 139,
 yI 140 (.ext 0 (.t 137)),
 yI 141 (.ext 1 (.t 137)),
 yI 25 (.alloc [(.int .i64 0),(.int .i64 0),(.int .u8 0),(.int .u8 0),(.int .u8 0),(.int .u8 0),(.int .u8 0),(.int .u8 0),(.int .u8 0),(.int .u8 0),(.int .u8 0),(.int .u8 0),(.int .u8 0),(.int .u8 0),(.int .u8 0),(.int .u8 0),(.int .u8 0),(.int .u8 0),(.int .u8 0),(.int .u8 0),(.int .u8 0),(.int .u8 0),(.int .u8 0),(.int .u8 0),(.int .u8 0),(.int .u8 0),(.int .u8 0),(.int .u8 0),(.int .u8 0),(.int .u8 0),(.int .u8 0),(.int .u8 0),(.int .u8 0),(.int .u8 0),(.int .i64 0),(.str []),.nilsl,(.int .i64 0),(.int .u8 0),(.int .u8 0),(.int .u8 0),(.int .u8 0),(.int .u8 0),(.int .u8 0),(.int .u8 0),(.int .u8 0),(.int .u8 0),(.int .u8 0),(.int .u8 0),(.int .u8 0),(.int .u8 0),(.int .u8 0),(.int .u8 0),(.int .u8 0),(.int .u8 0),(.int .u8 0),(.int .u8 0),(.int .u8 0),(.int .u8 0),(.int .u8 0),(.int .u8 0),(.int .u8 0),(.int .u8 0),(.int .u8 0),(.int .u8 0),(.int .u8 0),(.int .u8 0),(.int .u8 0),(.int .u8 0),(.int .u8 0),(.int .i64 0),(.str []),.nilsl,(.int .u8 0),(.int .u8 0),(.int .u8 0),(.int .u8 0),(.int .u8 0),(.int .u8 0),(.int .u8 0),(.int .u8 0),(.int .u8 0),(.int .u8 0),(.int .u8 0),(.int .u8 0),(.int .u8 0),(.int .u8 0),(.int .u8 0),(.int .u8 0),(.int .u8 0),(.int .u8 0),(.int .u8 0),(.int .u8 0),(.int .u8 0),(.int .u8 0),(.int .u8 0),(.int .u8 0),(.int .u8 0),(.int .u8 0),(.int .u8 0),(.int .u8 0),(.int .u8 0),(.int .u8 0),(.int .u8 0),(.int .u8 0),.nilsl]),
 ⟨none,none,.no,.store 106 (.t 25) (.t 140)⟩,
 yM 26 141]
@[go_sem] def q2ar53:List AIns:=[
 yM 142 24,
 yM 143 12,
 yI 144 (.nilc (.t 143)),
 yI 145 (.fa 32 (.t 144)),
 yI 146 (.load false 1 (.t 145)),
 yI 147 (.lenSl (.t 146)),
 yI 148 (.bin .eql .none (.t 147) (.v (.int .i64 1))),
 yI 149 (.bin .neq .bool (.t 142) (.t 148)),
 yM 150 149,
 yG 151 150 false (.mv (.t 26)),
 yG 152 150 false (.mv (.t 12)),
 yG 153 150 false (.nilc (.t 152)),
 yG 154 150 false (.fa 33 (.t 153)),
 yG 155 150 false (.load false 1 (.t 154)),
 yG 156 150 false (.lenSl (.t 155)),
 yG 157 150 false (.bin .eql .none (.t 156) (.v (.int .i64 1))),
 yG 158 150 false (.bin .neq .bool (.t 151) (.t 157)),
 yI 159 (.pick (.t 150) (.v (.bool true)) (.t 158)),
 yM 160 159,
 yG 161 160 false (.mv (.t 24)),
 yG 162 160 false (.mv (.t 161)),
 ⟨some 163,some (162,true),.rd,.load true 36 (.t 23)⟩,
 yG 164 162 true (.mv (.t 12)),
 yG 165 162 true (.nilc (.t 164)),
 yG 166 162 true (.fa 32 (.t 165)),
 ⟨some 167,some (162,true),.rd,.load false 1 (.t 166)⟩,
 yG 168 162 true (.iaSl 36 (.t 167) (.v (.int .i64 0))),
 ⟨some 169,some (162,true),.rd,.load true 36 (.t 168)⟩,
 yG 170 162 true (.call (.v (.fn 20 [])) [(.t 163),(.t 169)]),
 yG 171 162 true (.un .not (.t 170)),
 yG 172 160 false (.pick (.t 162) (.t 171) (.v (.bool false))),
 yI 173 (.pick (.t 160) (.v (.bool true)) (.t 172)),
 yM 174 173,
 yG 175 174 false (.mv (.t 26)),
 yG 176 174 false (.mv (.t 175)),
 ⟨some 177,some (176,true),.rd,.load true 106 (.t 25)⟩,
 yG 178 176 true (.mv (.t 12)),
 yG 179 176 true (.nilc (.t 178)),
 yG 180 176 true (.fa 33 (.t 179)),
 ⟨some 181,some (176,true),.rd,.load false 1 (.t 180)⟩,
 yG 182 176 true (.iaSl 106 (.t 181) (.v (.int .i64 0))),
 ⟨some 183,some (176,true),.rd,.load true 106 (.t 182)⟩,
 yG 184 176 true (.call (.v (.fn 21 [])) [(.t 177),(.t 183)]),
 yG 185 176 true (.un .not (.t 184)),
 yG 186 174 false (.pick (.t 176) (.t 185) (.v (.bool false))),
 yI 187 (.pick (.t 174) (.v (.bool true)) (.t 186))]
@[go_sem] def q2ar54:List AIns:=[
 yI 6 (.mv (.v (.bool false)))]
def q2ac55:ACode:= .seq (.reg q2ar54) .ret
def q2ac56:ACode:= .cond (.t 187) q2ac55 .skip
def q2ac57:ACode:= .seq (.reg q2ar53) q2ac56
@[go_sem] def q2ar58:List AIns:=[
 yM 188 24]
@[go_sem] def q2ar59:List AIns:=[
 yI 189 (.fa 0 (.t 23)),
 yI 190 (.fa 0 (.t 189)),
 yI 191 (.load false 1 (.t 190)),
 yM 13 191]
def q2ac60:ACode:= .cond (.t 188) (.reg q2ar59) .skip
def q2ac61:ACode:= .seq (.reg q2ar58) q2ac60
def q2ac62:ACode:= .seq q2ac57 q2ac61
def q2ac63:ACode:= .seq (.reg q2ar52) q2ac62
def zdi:ACode:= .seq (.reg q2ar51) q2ac63
def q2ac65:ACode:= .seq q2ac50 zdi
def q2ac66:ACode:= .seq (.reg q2ar14) q2ac65
@[go_sem] def z97:List AIns:=[
 yM 56 14,
 yI 57 (.bin .add .none (.t 56) (.v (.int .i64 1))),
 yM 14 57]
def q2ac68:ACode:= .seq (.block 1 q2ac66) (.reg z97)
def q2ac69:ACode:= .seq q2ac13 q2ac68
def q2ac70:ACode:= .loop q2ac69
def q2ac71:ACode:= .block 0 q2ac70
def q2ac72:ACode:= .seq (.reg q2ar10) q2ac71
@[go_sem] def q2ar73:List AIns:=[
 yI 192 (.call (.v (.fn 8 [])) []),
 yM 6 192]
def q2ac74:ACode:= .seq (.reg q2ar73) .ret
def q2ac75:ACode:= .seq q2ac72 q2ac74
def q2ac76:ACode:= .seq (.reg q2ar9) q2ac75
def q2ac77:ACode:= .seq (.reg q2ar8) q2ac76
def q2ac78:ACode:= .seq (.reg q2ar7) q2ac77
def q2ac79:ACode:= .seq q2ac6 q2ac78
def q2ac80:ACode:= .seq (.reg q2ar1) q2ac79
def q2ac81:ACode:= .seq (.reg q2ar0) q2ac80
theorem q2aok:cFn TC 3=some (193,[.t 6],q2ac81):=by kernel_rfl
@[go_sem] def q2br0:List AIns:=[
 yI 4 (.alloc [.nilp,.nilsl]),
 yI 5 (.alloc [.nilp,.nilsl]),
 yI 6 (.mv (.v (.bool false)))]
@[go_sem] def q2br1:List AIns:=[
 yM 10 0,
 yI 11 (.lenSl (.t 10)),
 yI 12 (.bin .lss .none (.t 11) (.v (.int .i64 2))),
 yM 13 12,
 yG 14 13 false (.mv (.t 0)),
 yG 15 13 false (.lenSl (.t 14)),
 yG 16 13 false (.bin .gtr .none (.t 15) (.v (.int .i64 14))),
 yI 17 (.pick (.t 13) (.v (.bool true)) (.t 16)),
 yM 18 17,
 yG 19 18 false (.mv (.t 0)),
 yG 20 18 false (.call (.v (.fn 32 [])) [(.t 19),(.v .nilsl)]),
 yI 21 (.pick (.t 18) (.v (.bool true)) (.t 20))]
@[go_sem] def q2br2:List AIns:=[
 yI 22 (.build [.nilp,.nilsl] []),
 yI 23 (.build [.nilp,.nilsl] []),
 ⟨none,none,.no,.store 2 (.t 4) (.t 22)⟩,
 ⟨none,none,.no,.store 2 (.t 5) (.t 23)⟩,
 yI 6 (.mv (.v (.bool false)))]
def q2bc3:ACode:= .seq (.reg q2br2) .ret
def q2bc4:ACode:= .cond (.t 21) q2bc3 .skip
def q2bc5:ACode:= .seq (.reg q2br1) q2bc4
@[go_sem] def q2br6:List AIns:=[
 yM 24 0,
 yI 25 (.call (.v (.fn 33 [])) [(.t 24)]),
 yI 7 (.alloc [.nilp,.nilsl]),
 ⟨none,none,.no,.store 2 (.t 7) (.t 25)⟩]
@[go_sem] def q2br7:List AIns:=[
 yM 26 0,
 yI 27 (.app 1 (.v .nilsl) (.t 26)),
 yM 8 27]
@[go_sem] def q2br8:List AIns:=[
 yM 28 1,
 yI 29 (.conv (.int .i64) (.t 28)),
 yM 30 0,
 yI 31 (.lenSl (.t 30)),
 yI 32 (.bin .rem .none (.t 29) (.t 31)),
 yM 9 32]
@[go_sem] def q2br9:List AIns:=[
 yM 33 8,
 yM 34 9,
 yM 35 8,
 yM 36 9,
 yI 37 (.iaSl 1 (.t 35) (.t 36)),
 ⟨some 38,none,.rd,.load false 1 (.t 37)⟩,
 yM 39 8,
 yM 40 9,
 yI 41 (.iaSl 1 (.t 39) (.t 40)),
 ⟨some 42,none,.rd,.load false 1 (.t 41)⟩,
 yI 43 (.lenStr (.t 42)),
 yI 44 (.minmax false (.t 43) (.v (.int .i64 100))),
 yI 45 (.slice .str (.t 38) none (some (.t 44)) none),
 yI 46 (.bin .add .none (.t 45) (.v (.str [63]))),
 yI 47 (.iaSl 1 (.t 33) (.t 34)),
 ⟨none,none,.no,.store 1 (.t 47) (.t 46)⟩]
@[go_sem] def q2br10:List AIns:=[
 ⟨some 48,none,.rd,.load true 2 (.t 7)⟩,
 yI 49 (.fa 0 (.t 7)),
 ⟨some 50,none,.rd2,.load false 1 (.t 49)⟩,
 yM 51 8,
 yI 52 (.build [.nilp,.nilsl] [(0,1,(.t 50)),(1,1,(.t 51))]),
 ⟨none,none,.ef2,.store 2 (.t 4) (.t 48)⟩,
 ⟨none,none,.no,.store 2 (.t 5) (.t 52)⟩,
 yI 6 (.mv (.v (.bool true)))]
def q2bc11:ACode:= .seq (.reg q2br10) .ret
def q2bc12:ACode:= .seq (.reg q2br9) q2bc11
def q2bc13:ACode:= .seq (.reg q2br8) q2bc12
def q2bc14:ACode:= .seq (.reg q2br7) q2bc13
def q2bc15:ACode:= .seq (.reg q2br6) q2bc14
def q2bc16:ACode:= .seq q2bc5 q2bc15
def q2bc17:ACode:= .seq (.reg q2br0) q2bc16
theorem q2bok:cFn TC 6=some (53,[.c 4 true 2,.c 5 true 2,.t 6],q2bc17):=by kernel_rfl
@[go_sem] def q2cr0:List AIns:=[
 yI 4 (.box (.t 0)),
 yI 5 (.box (.t 1)),
 yI 6 (.box (.t 2)),
 yI 8 (.alloc [(.int .i64 0),(.int .u8 0),(.int .u8 0),(.int .u8 0),(.int .u8 0),(.int .u8 0),(.int .u8 0),(.int .u8 0),(.int .u8 0),(.int .u8 0),(.int .u8 0),(.int .u8 0),(.int .u8 0),(.int .u8 0),(.int .u8 0),(.int .u8 0),(.int .u8 0),(.int .u8 0),(.int .u8 0),(.int .u8 0),(.int .u8 0),(.int .u8 0),(.int .u8 0),(.int .u8 0),(.int .u8 0),(.int .u8 0),(.int .u8 0),(.int .u8 0),(.int .u8 0),(.int .u8 0),(.int .u8 0),(.int .u8 0),(.int .u8 0),(.int .i64 0),(.str []),.nilsl]),
 yI 9 (.mv (.v .nilsl))]
@[go_sem] def q2cr1:List AIns:=[
 yI 14 (.fa 1 (.t 4)),
 yI 15 (.load false 1 (.t 14)),
 yI 16 (.conv (.int .i64) (.t 15)),
 yI 17 (.fa 1 (.t 5)),
 yI 18 (.load false 1 (.t 17)),
 yI 19 (.lenSl (.t 18)),
 yI 20 (.bin .rem .none (.t 16) (.t 19)),
 yI 21 (.bin .add .none (.v (.int .i64 1)) (.t 20)),
 yM 10 21]
@[go_sem] def q2cr2:List AIns:=[
 yI 22 (.load true 2 (.t 5)),
 yM 23 10,
 yI 24 (.fa 2 (.t 4)),
 yI 25 (.load false 1 (.t 24)),
 yI 26 (.conv (.int .i64) (.t 25)),
 yI 27 (.call (.v (.fn 36 [])) [(.t 22),(.t 23),(.t 26)]),
 yI 11 (.alloc [(.int .i64 0),(.int .u8 0),(.int .u8 0),(.int .u8 0),(.int .u8 0),(.int .u8 0),(.int .u8 0),(.int .u8 0),(.int .u8 0),(.int .u8 0),(.int .u8 0),(.int .u8 0),(.int .u8 0),(.int .u8 0),(.int .u8 0),(.int .u8 0),(.int .u8 0),(.int .u8 0),(.int .u8 0),(.int .u8 0),(.int .u8 0),(.int .u8 0),(.int .u8 0),(.int .u8 0),(.int .u8 0),(.int .u8 0),(.int .u8 0),(.int .u8 0),(.int .u8 0),(.int .u8 0),(.int .u8 0),(.int .u8 0),(.int .u8 0),(.int .i64 0),(.str []),.nilsl]),
 ⟨none,none,.no,.store 36 (.t 11) (.t 27)⟩]
@[go_sem] def q2cr3:List AIns:=[
 yI 28 (.fa 1 (.t 5)),
 yI 29 (.load false 1 (.t 28)),
 yM 30 3,
 yI 31 (.fa 1 (.t 5)),
 yI 32 (.load false 1 (.t 31)),
 yI 33 (.lenSl (.t 32)),
 yI 34 (.minmax false (.t 30) (.t 33)),
 yM 35 10,
 yI 36 (.call (.v (.fn 40 [])) [(.t 29),(.t 34),(.t 35)]),
 yM 12 36]
@[go_sem] def q2cr4:List AIns:=[
 yI 37 (.fa 0 (.t 4)),
 yI 38 (.load false 1 (.t 37)),
 yI 39 (.bin .rem .none (.t 38) (.v (.int .u8 11)))]
@[go_sem] def q2cr5:List AIns:=[
 yI 41 (.bin .eql .none (.t 39) (.v (.int .u8 4))),
 yM 40 41]
@[go_sem] def q2cr6:List AIns:=[
 yI 42 (.load true 2 (.t 6)),
 yM 43 10,
 yI 44 (.fa 2 (.t 4)),
 yI 45 (.load false 1 (.t 44)),
 yI 46 (.conv (.int .i64) (.t 45)),
 yI 47 (.call (.v (.fn 36 [])) [(.t 42),(.t 43),(.t 46)]),
 ⟨none,none,.no,.store 36 (.t 11) (.t 47)⟩]
@[go_sem] def q2cr7:List AIns:=[
 yI 48 (.fa 1 (.t 6)),
 yI 49 (.load false 1 (.t 48)),
 yM 50 3,
 yI 51 (.fa 1 (.t 6)),
 yI 52 (.load false 1 (.t 51)),
 yI 53 (.lenSl (.t 52)),
 yI 54 (.minmax false (.t 50) (.t 53)),
 yM 55 10,
 yI 56 (.call (.v (.fn 40 [])) [(.t 49),(.t 54),(.t 55)]),
 yM 12 56]
def q2cc8:ACode:= .seq (.reg q2cr6) (.reg q2cr7)
@[go_sem] def q2cr9:List AIns:=[
 yI 58 (.bin .eql .none (.t 39) (.v (.int .u8 5))),
 yM 57 58]
@[go_sem] def q2cr10:List AIns:=[
 yI 59 (.fa 4 (.t 4)),
 yI 60 (.load false 1 (.t 59)),
 yM 12 60]
@[go_sem] def q2cr11:List AIns:=[
 yI 62 (.bin .eql .none (.t 39) (.v (.int .u8 6))),
 yM 61 62]
@[go_sem] def q2cr12:List AIns:=[
 yI 63 (.fa 33 (.t 11)),
 yI 64 (.fa 1 (.t 63)),
 yI 65 (.load false 1 (.t 64)),
 yI 66 (.conv .bytes (.t 65)),
 yM 13 66]
@[go_sem] def q2cr13:List AIns:=[
 yM 67 13,
 yI 68 (.lenSl (.t 67)),
 yI 69 (.bin .gtr .none (.t 68) (.v (.int .i64 0)))]
@[go_sem] def q2cr14:List AIns:=[
 yM 70 13,
 yI 71 (.fa 2 (.t 4)),
 yI 72 (.load false 1 (.t 71)),
 yI 73 (.conv (.int .i64) (.t 72)),
 yI 74 (.bin .mul .none (.t 73) (.v (.int .i64 60))),
 yM 75 13,
 yI 76 (.lenSl (.t 75)),
 yI 77 (.bin .rem .none (.t 74) (.t 76)),
 yI 78 (.iaSl 1 (.t 70) (.t 77)),
 yI 79 (.load false 1 (.t 78)),
 yI 80 (.bin .xor .none (.t 79) (.v (.int .u8 1))),
 yI 81 (.iaSl 1 (.t 70) (.t 77)),
 ⟨none,none,.no,.store 1 (.t 81) (.t 80)⟩]
def q2cc15:ACode:= .cond (.t 69) (.reg q2cr14) .skip
def q2cc16:ACode:= .seq (.reg q2cr13) q2cc15
@[go_sem] def q2cr17:List AIns:=[
 yM 82 13,
 yI 83 (.conv .str (.t 82)),
 yI 84 (.fa 33 (.t 11)),
 yI 85 (.fa 1 (.t 84)),
 ⟨none,none,.no,.store 1 (.t 85) (.t 83)⟩]
def q2cc18:ACode:= .seq q2cc16 (.reg q2cr17)
def q2cc19:ACode:= .seq (.reg q2cr12) q2cc18
def q2cc20:ACode:= .cond (.t 61) q2cc19 .skip
def q2cc21:ACode:= .seq (.reg q2cr11) q2cc20
def q2cc22:ACode:= .cond (.t 57) (.reg q2cr10) q2cc21
def q2cc23:ACode:= .seq (.reg q2cr9) q2cc22
def q2cc24:ACode:= .cond (.t 40) q2cc8 q2cc23
def q2cc25:ACode:= .seq (.reg q2cr5) q2cc24
def q2cc26:ACode:= .block 0 q2cc25
def q2cc27:ACode:= .seq (.reg q2cr4) q2cc26
@[go_sem] def q2cr28:List AIns:=[
 yI 86 (.load true 36 (.t 11)),
 yM 87 12,
 ⟨none,none,.no,.store 36 (.t 8) (.t 86)⟩,
 yM 9 87]
def q2cc29:ACode:= .seq (.reg q2cr28) .ret
def q2cc30:ACode:= .seq q2cc27 q2cc29
def q2cc31:ACode:= .seq (.reg q2cr3) q2cc30
def q2cc32:ACode:= .seq (.reg q2cr2) q2cc31
def q2cc33:ACode:= .seq (.reg q2cr1) q2cc32
def q2cc34:ACode:= .seq (.reg q2cr0) q2cc33
theorem zaz:cFn TC 12=some (88,[.c 8 true 36,.t 9],q2cc34):=by kernel_rfl
@[go_sem] def q2dr0:List AIns:=[
 yI 4 (.box (.t 1)),
 yI 6 (.mv (.v (.int .i64 0)))]
@[go_sem] def q2dr1:List AIns:=[
 yM 9 0,
 yI 10 (.nilc (.t 9)),
 yI 11 (.fa 0 (.t 10)),
 ⟨some 12,none,.rd,.load true 32 (.t 11)⟩,
 ⟨some 13,none,.rd,.load true 36 (.t 4)⟩,
 yI 14 (.call (.v (.fn 47 [])) [(.t 12),(.t 13)]),
 yI 15 (.bin .neq .none (.t 14) (.v (.int .i64 0)))]
@[go_sem] def q2dr2:List AIns:=[
 yI 6 (.mv (.v (.int .i64 0)))]
def q2dc3:ACode:= .seq (.reg q2dr2) .ret
def q2dc4:ACode:= .cond (.t 15) q2dc3 .skip
def q2dc5:ACode:= .seq (.reg q2dr1) q2dc4
@[go_sem] def q2dr6:List AIns:=[
 yM 16 0,
 yI 17 (.nilc (.t 16)),
 yI 18 (.fa 32 (.t 17)),
 yI 19 (.load false 1 (.t 18)),
 yI 20 (.lenSl (.t 19)),
 yI 21 (.bin .eql .none (.t 20) (.v (.int .i64 0)))]
@[go_sem] def q2dr7:List AIns:=[
 yM 22 0,
 yI 23 (.load true 36 (.t 4)),
 yI 24 (.lit 36 [(.t 23)]),
 yI 25 (.nilc (.t 22)),
 yI 26 (.fa 32 (.t 25)),
 ⟨none,none,.no,.store 1 (.t 26) (.t 24)⟩]
@[go_sem] def q2dr8:List AIns:=[
 yI 6 (.mv (.v (.int .i64 1)))]
def q2dc9:ACode:= .seq (.reg q2dr8) .ret
def q2dc10:ACode:= .seq (.reg q2dr7) q2dc9
def q2dc11:ACode:= .cond (.t 21) q2dc10 .skip
def q2dc12:ACode:= .seq (.reg q2dr6) q2dc11
@[go_sem] def q2dr13:List AIns:=[
 yI 27 (.fa 0 (.t 4)),
 ⟨some 28,none,.rd,.load true 33 (.t 27)⟩,
 yM 29 0,
 yI 30 (.nilc (.t 29)),
 yI 31 (.fa 32 (.t 30)),
 ⟨some 32,none,.rd,.load false 1 (.t 31)⟩,
 yI 33 (.iaSl 36 (.t 32) (.v (.int .i64 0))),
 yI 34 (.fa 0 (.t 33)),
 ⟨some 35,none,.rd,.load true 33 (.t 34)⟩,
 ⟨some 7,none,.ef,.alloc ((.int .i64 0)::zZ0)⟩,
 ⟨some 8,none,.ef,.alloc ((.int .i64 0)::zZ0)⟩,
 ⟨none,none,.ef,.store 33 (.t 7) (.t 28)⟩,
 ⟨none,none,.no,.store 33 (.t 8) (.t 35)⟩]
@[go_sem] def q2dr14:List AIns:=[
 yI 27 (.fa 0 (.t 4)),
 ⟨some 28,none,.rd,.load true 33 (.t 27)⟩,
 yM 29 0,
 yI 30 (.nilc (.t 29)),
 yI 31 (.fa 32 (.t 30)),
 ⟨some 32,none,.rd,.load false 1 (.t 31)⟩,
 yI 33 (.iaSl 36 (.t 32) (.v (.int .i64 0))),
 yI 34 (.fa 0 (.t 33)),
 ⟨some 35,none,.rd,.load true 33 (.t 34)⟩,
 ⟨some 8,none,.ef,.alloc ((.int .i64 0)::zZ0)⟩,
 ⟨some 7,none,.ef,.alloc ((.int .i64 0)::zZ0)⟩,
 ⟨none,none,.ef,.store 33 (.t 7) (.t 28)⟩,
 ⟨none,none,.no,.store 33 (.t 8) (.t 35)⟩]
@[go_sem] def q2dr15:List AIns:=[
 yI 36 (.load true 33 (.t 7)),
 yI 37 (.load true 33 (.t 8)),
 yI 38 (.bin .eql (.agg ([(.i .i64)]++(List.replicate 32 (.i .u8)++ []))) (.t 36) (.t 37))]
@[go_sem] def q2dr16:List AIns:=[
 yI 6 (.mv (.v (.int .i64 3)))]
def q2dc17:ACode:= .seq (.reg q2dr16) .ret
def q2dc18:ACode:= .cond (.t 38) q2dc17 .skip
def q2dc19:ACode:= .seq (.reg q2dr15) q2dc18
@[go_sem] def q2dr20:List AIns:=[
 yI 39 (.fa 0 (.t 7)),
 yI 40 (.load false 1 (.t 39)),
 yI 41 (.fa 0 (.t 8)),
 yI 42 (.load false 1 (.t 41)),
 yI 43 (.bin .eql .none (.t 40) (.t 42))]
@[go_sem] def q2dr21:List AIns:=[
 yM 44 0,
 yI 45 (.nilc (.t 44)),
 yI 46 (.fa 33 (.t 45)),
 yI 47 (.load false 1 (.t 46)),
 yI 48 (.lenSl (.t 47)),
 yI 49 (.bin .eql .none (.t 48) (.v (.int .i64 0)))]
@[go_sem] def q2dr22:List AIns:=[
 yM 50 0,
 yM 51 0,
 yI 52 (.nilc (.t 51)),
 yI 53 (.fa 32 (.t 52)),
 ⟨some 54,none,.rd,.load false 1 (.t 53)⟩,
 yI 55 (.iaSl 36 (.t 54) (.v (.int .i64 0))),
 ⟨some 56,none,.rd,.load true 36 (.t 55)⟩,
 ⟨some 57,none,.rd,.load true 36 (.t 4)⟩,
 yI 58 (.build [(.int .i64 0),(.int .i64 0),(.int .u8 0),(.int .u8 0),(.int .u8 0),(.int .u8 0),(.int .u8 0),(.int .u8 0),(.int .u8 0),(.int .u8 0),(.int .u8 0),(.int .u8 0),(.int .u8 0),(.int .u8 0),(.int .u8 0),(.int .u8 0),(.int .u8 0),(.int .u8 0),(.int .u8 0),(.int .u8 0),(.int .u8 0),(.int .u8 0),(.int .u8 0),(.int .u8 0),(.int .u8 0),(.int .u8 0),(.int .u8 0),(.int .u8 0),(.int .u8 0),(.int .u8 0),(.int .u8 0),(.int .u8 0),(.int .u8 0),(.int .u8 0),(.int .i64 0),(.str []),.nilsl,(.int .i64 0),(.int .u8 0),(.int .u8 0),(.int .u8 0),(.int .u8 0),(.int .u8 0),(.int .u8 0),(.int .u8 0),(.int .u8 0),(.int .u8 0),(.int .u8 0),(.int .u8 0),(.int .u8 0),(.int .u8 0),(.int .u8 0),(.int .u8 0),(.int .u8 0),(.int .u8 0),(.int .u8 0),(.int .u8 0),(.int .u8 0),(.int .u8 0),(.int .u8 0),(.int .u8 0),(.int .u8 0),(.int .u8 0),(.int .u8 0),(.int .u8 0),(.int .u8 0),(.int .u8 0),(.int .u8 0),(.int .u8 0),(.int .u8 0),(.int .i64 0),(.str []),.nilsl,(.int .u8 0),(.int .u8 0),(.int .u8 0),(.int .u8 0),(.int .u8 0),(.int .u8 0),(.int .u8 0),(.int .u8 0),(.int .u8 0),(.int .u8 0),(.int .u8 0),(.int .u8 0),(.int .u8 0),(.int .u8 0),(.int .u8 0),(.int .u8 0),(.int .u8 0),(.int .u8 0),(.int .u8 0),(.int .u8 0),(.int .u8 0),(.int .u8 0),(.int .u8 0),(.int .u8 0),(.int .u8 0),(.int .u8 0),(.int .u8 0),(.int .u8 0),(.int .u8 0),(.int .u8 0),(.int .u8 0),(.int .u8 0),.nilsl] [(0,1,(.v (.int .i64 1))),(1,36,(.t 56)),(37,36,(.t 57))]),
 yI 59 (.lit 106 [(.t 58)]),
 yI 60 (.nilc (.t 50)),
 yI 61 (.fa 33 (.t 60)),
 ⟨none,none,.no,.store 1 (.t 61) (.t 59)⟩]
def q2dc23:ACode:= .cond (.t 49) (.reg q2dr22) .skip
def q2dc24:ACode:= .seq (.reg q2dr21) q2dc23
@[go_sem] def q2dr25:List AIns:=[
 yI 6 (.mv (.v (.int .i64 6)))]
def q2dc26:ACode:= .seq (.reg q2dr25) .ret
def q2dc27:ACode:= .seq q2dc24 q2dc26
def q2dc28:ACode:= .cond (.t 43) q2dc27 .skip
def q2dc29:ACode:= .seq (.reg q2dr20) q2dc28
@[go_sem] def q2dr30:List AIns:=[
 yI 62 (.fa 0 (.t 7)),
 yI 63 (.load false 1 (.t 62)),
 yI 64 (.fa 0 (.t 8)),
 yI 65 (.load false 1 (.t 64)),
 yI 66 (.bin .lss .none (.t 63) (.t 65)),
 yM 67 66,
 yG 68 67 true (.fa 0 (.t 7)),
 yG 69 67 true (.load false 1 (.t 68)),
 yG 70 67 true (.fa 0 (.t 8)),
 yG 71 67 true (.load false 1 (.t 70)),
 yG 72 67 true (.fa 1 (.t 7)),
 yG 73 67 true (.load true 32 (.t 72)),
 yG 74 67 true (.fa 1 (.t 8)),
 yG 75 67 true (.load true 32 (.t 74)),
 yG 76 67 true (.mv (.t 2)),
 yG 77 67 true (.call (.v (.fn 48 [])) [(.t 69),(.t 71),(.t 73),(.t 75),(.t 76)]),
 yG 78 67 true (.bin .eql .none (.t 77) (.v (.int .i64 0))),
 yI 79 (.pick (.t 67) (.t 78) (.v (.bool false)))]
@[go_sem] def q2dr31:List AIns:=[
 yI 6 (.mv (.v (.int .i64 4)))]
def q2dc32:ACode:= .seq (.reg q2dr31) .ret
def q2dc33:ACode:= .cond (.t 79) q2dc32 .skip
def q2dc34:ACode:= .seq (.reg q2dr30) q2dc33
@[go_sem] def q2dr35:List AIns:=[
 yI 80 (.fa 0 (.t 7)),
 yI 81 (.load false 1 (.t 80)),
 yI 82 (.fa 0 (.t 8)),
 yI 83 (.load false 1 (.t 82)),
 yI 84 (.bin .gtr .none (.t 81) (.t 83)),
 yM 85 84,
 yG 86 85 true (.fa 0 (.t 8)),
 yG 87 85 true (.load false 1 (.t 86)),
 yG 88 85 true (.fa 0 (.t 7)),
 yG 89 85 true (.load false 1 (.t 88)),
 yG 90 85 true (.fa 1 (.t 8)),
 yG 91 85 true (.load true 32 (.t 90)),
 yG 92 85 true (.fa 1 (.t 7)),
 yG 93 85 true (.load true 32 (.t 92)),
 yG 94 85 true (.mv (.t 2)),
 yG 95 85 true (.call (.v (.fn 48 [])) [(.t 87),(.t 89),(.t 91),(.t 93),(.t 94)]),
 yG 96 85 true (.bin .eql .none (.t 95) (.v (.int .i64 0))),
 yI 97 (.pick (.t 85) (.t 96) (.v (.bool false)))]
@[go_sem] def q2dr36:List AIns:=[
 yM 98 0,
 yI 99 (.load true 36 (.t 4)),
 yI 100 (.lit 36 [(.t 99)]),
 yI 101 (.nilc (.t 98)),
 yI 102 (.fa 32 (.t 101)),
 ⟨none,none,.no,.store 1 (.t 102) (.t 100)⟩]
@[go_sem] def q2dr37:List AIns:=[
 yI 6 (.mv (.v (.int .i64 2)))]
def q2dc38:ACode:= .seq (.reg q2dr37) .ret
def q2dc39:ACode:= .seq (.reg q2dr36) q2dc38
def q2dc40:ACode:= .cond (.t 97) q2dc39 .skip
def q2dc41:ACode:= .seq (.reg q2dr35) q2dc40
@[go_sem] def q2dr42:List AIns:=[
 yI 6 (.mv (.v (.int .i64 5)))]
def q2dc43:ACode:= .seq (.reg q2dr42) .ret
def q2dc44:ACode:= .seq q2dc41 q2dc43
def q2dc45:ACode:= .seq q2dc34 q2dc44
def q2dc46:ACode:= .seq q2dc29 q2dc45
def zdj:ACode:= .seq q2dc19 q2dc46
def q2dc48:ACode:= .seq (.reg2 q2dr13 q2dr14) zdj
def q2dc49:ACode:= .seq q2dc12 q2dc48
def q2dc50:ACode:= .seq q2dc5 q2dc49
def q2dc51:ACode:= .seq (.reg q2dr0) q2dc50
theorem q2dok:cFn TC 14=some (103,[.t 6],q2dc51):=by kernel_rfl
@[go_sem] def q2er0:List AIns:=[
 yI 8 (.mv (.v (.int .i64 0)))]
@[go_sem] def q2er1:List AIns:=[
 yM 10 0,
 yI 11 (.nilc (.t 10)),
 yI 12 (.fa 32 (.t 11)),
 yI 13 (.load false 1 (.t 12)),
 yI 14 (.lenSl (.t 13)),
 yI 15 (.bin .eql .none (.t 14) (.v (.int .i64 0)))]
@[go_sem] def q2er2:List AIns:=[
 yI 8 (.mv (.v (.int .i64 4)))]
def q2ec3:ACode:= .seq (.reg q2er2) .ret
def q2ec4:ACode:= .cond (.t 15) q2ec3 .skip
def q2ec5:ACode:= .seq (.reg q2er1) q2ec4
@[go_sem] def q2er6:List AIns:=[
 yM 16 0,
 yI 17 (.nilc (.t 16)),
 yI 18 (.fa 32 (.t 17)),
 yI 19 (.load false 1 (.t 18)),
 yI 20 (.iaSl 36 (.t 19) (.v (.int .i64 0))),
 yI 21 (.fa 0 (.t 20)),
 yI 22 (.load true 33 (.t 21)),
 yI 9 (.alloc ((.int .i64 0)::zZ0)),
 ⟨none,none,.no,.store 33 (.t 9) (.t 22)⟩]
@[go_sem] def q2er7:List AIns:=[
 yM 23 1,
 yI 24 (.bin .lss .none (.t 23) (.v (.int .i64 0))),
 yM 25 24,
 yG 26 25 false (.mv (.t 1)),
 yG 27 25 false (.fa 0 (.t 9)),
 yG 28 25 false (.load false 1 (.t 27)),
 yG 29 25 false (.bin .geq .none (.t 26) (.t 28)),
 yI 30 (.pick (.t 25) (.v (.bool true)) (.t 29))]
@[go_sem] def q2er8:List AIns:=[
 yI 8 (.mv (.v (.int .i64 82)))]
def q2ec9:ACode:= .seq (.reg q2er8) .ret
def q2ec10:ACode:= .cond (.t 30) q2ec9 .skip
def q2ec11:ACode:= .seq (.reg q2er7) q2ec10
@[go_sem] def q2er12:List AIns:=[
 yM 31 2,
 yI 32 (.lenStr (.t 31)),
 yI 33 (.bin .gtr .none (.t 32) (.v (.int .i64 200)))]
@[go_sem] def q2er13:List AIns:=[
 yI 8 (.mv (.v (.int .i64 3)))]
def q2ec14:ACode:= .seq (.reg q2er13) .ret
def q2ec15:ACode:= .cond (.t 33) q2ec14 .skip
def q2ec16:ACode:= .seq (.reg q2er12) q2ec15
@[go_sem] def q2er17:List AIns:=[
 yM 34 2,
 ⟨some 35,none,.ef,.call (.v (.fn 38 [])) [(.t 34)]⟩,
 yM 36 1,
 yI 37 (.fa 0 (.t 9)),
 ⟨some 38,none,.rd,.load false 1 (.t 37)⟩,
 yM 39 3,
 yI 40 (.fa 1 (.t 9)),
 ⟨some 41,none,.rd,.load true 32 (.t 40)⟩,
 yI 42 (.call (.v (.fn 52 [])) [(.t 35),(.t 36),(.t 38),(.t 39),(.t 41)]),
 yM 8 42]
def q2ec18:ACode:= .seq (.reg q2er17) .ret
def q2ec19:ACode:= .seq q2ec16 q2ec18
def q2ec20:ACode:= .seq q2ec11 q2ec19
def q2ec21:ACode:= .seq (.reg q2er6) q2ec20
def q2ec22:ACode:= .seq q2ec5 q2ec21
def q2ec23:ACode:= .seq (.reg q2er0) q2ec22
theorem q2eok:cFn TC 17=some (43,[.t 8],q2ec23):=by kernel_rfl
@[go_sem] def q2fr0:List AIns:=[
 yI 2 (.box (.t 0)),
 yI 3 (.box (.t 1)),
 yI 4 (.mv (.v (.bool false)))]
@[go_sem] def q2fr1:List AIns:=[
 yI 6 (.fa 0 (.t 2)),
 yI 7 (.load false 1 (.t 6)),
 yI 8 (.fa 0 (.t 3)),
 yI 9 (.load false 1 (.t 8)),
 yI 10 (.bin .neq .none (.t 7) (.t 9)),
 yM 11 10,
 yG 12 11 false (.fa 1 (.t 2)),
 yG 13 11 false (.load true 36 (.t 12)),
 yG 14 11 false (.fa 1 (.t 3)),
 yG 15 11 false (.load true 36 (.t 14)),
 yG 16 11 false (.call (.v (.fn 20 [])) [(.t 13),(.t 15)]),
 yG 17 11 false (.un .not (.t 16)),
 yI 18 (.pick (.t 11) (.v (.bool true)) (.t 17)),
 yM 19 18,
 yG 20 19 false (.fa 37 (.t 2)),
 yG 21 19 false (.load true 36 (.t 20)),
 yG 22 19 false (.fa 37 (.t 3)),
 yG 23 19 false (.load true 36 (.t 22)),
 yG 24 19 false (.call (.v (.fn 20 [])) [(.t 21),(.t 23)]),
 yG 25 19 false (.un .not (.t 24)),
 yI 26 (.pick (.t 19) (.v (.bool true)) (.t 25)),
 yM 27 26,
 yG 28 27 false (.fa 73 (.t 2)),
 yG 29 27 false (.load true 32 (.t 28)),
 yG 30 27 false (.fa 73 (.t 3)),
 yG 31 27 false (.load true 32 (.t 30)),
 yG 32 27 false (.bin .neq (.agg (List.replicate 32 (.i .u8)++ [])) (.t 29) (.t 31)),
 yI 33 (.pick (.t 27) (.v (.bool true)) (.t 32)),
 yM 34 33,
 yG 35 34 false (.fa 105 (.t 2)),
 yG 36 34 false (.load false 1 (.t 35)),
 yG 37 34 false (.lenSl (.t 36)),
 yG 38 34 false (.fa 105 (.t 3)),
 yG 39 34 false (.load false 1 (.t 38)),
 yG 40 34 false (.lenSl (.t 39)),
 yG 41 34 false (.bin .neq .none (.t 37) (.t 40)),
 yI 42 (.pick (.t 34) (.v (.bool true)) (.t 41))]
@[go_sem] def q2fr2:List AIns:=[
 yI 4 (.mv (.v (.bool false)))]
def q2fc3:ACode:= .seq (.reg q2fr2) .ret
def q2fc4:ACode:= .cond (.t 42) q2fc3 .skip
def q2fc5:ACode:= .seq (.reg q2fr1) q2fc4
@[go_sem] def q2fr6:List AIns:=[
 yI 5 (.mv (.v (.int .i64 0)))]
@[go_sem] def q2fr7:List AIns:=[
 yM 43 5,
 yI 44 (.fa 105 (.t 2)),
 yI 45 (.load false 1 (.t 44)),
 yI 46 (.lenSl (.t 45)),
 yI 47 (.bin .lss .none (.t 43) (.t 46))]
def q2fc8:ACode:= .cond (.t 47) .skip (.exit 0)
def q2fc9:ACode:= .seq (.reg q2fr7) q2fc8
@[go_sem] def q2fr10:List AIns:=[
 yI 50 (.fa 105 (.t 2)),
 ⟨some 51,none,.rd,.load false 1 (.t 50)⟩,
 yM 52 5,
 yI 53 (.iaSl 32 (.t 51) (.t 52)),
 ⟨some 54,none,.rd,.load true 32 (.t 53)⟩,
 yI 55 (.fa 105 (.t 3)),
 ⟨some 56,none,.rd,.load false 1 (.t 55)⟩,
 yM 57 5,
 yI 58 (.iaSl 32 (.t 56) (.t 57)),
 ⟨some 59,none,.rd,.load true 32 (.t 58)⟩,
 yI 60 (.bin .neq (.agg (List.replicate 32 (.i .u8)++ [])) (.t 54) (.t 59))]
@[go_sem] def q2fr11:List AIns:=[
 yI 4 (.mv (.v (.bool false)))]
def q2fc12:ACode:= .seq (.reg q2fr11) .ret
def q2fc13:ACode:= .cond (.t 60) q2fc12 .skip
def q2fc14:ACode:= .seq (.reg q2fr10) q2fc13
@[go_sem] def q2fr15:List AIns:=[
 yM 48 5,
 yI 49 (.bin .add .none (.t 48) (.v (.int .i64 1))),
 yM 5 49]
def q2fc16:ACode:= .seq (.block 1 q2fc14) (.reg q2fr15)
def q2fc17:ACode:= .seq q2fc9 q2fc16
def q2fc18:ACode:= .loop q2fc17
def q2fc19:ACode:= .block 0 q2fc18
def q2fc20:ACode:= .seq (.reg q2fr6) q2fc19
@[go_sem] def q2fr21:List AIns:=[
 yI 4 (.mv (.v (.bool true)))]
def q2fc22:ACode:= .seq (.reg q2fr21) .ret
def q2fc23:ACode:= .seq q2fc20 q2fc22
def q2fc24:ACode:= .seq q2fc5 q2fc23
def q2fc25:ACode:= .seq (.reg q2fr0) q2fc24
theorem q2fok:cFn TC 21=some (61,[.t 4],q2fc25):=by kernel_rfl
@[go_sem] def q2gr0:List AIns:=[
 yI 4 (.mv (.v (.bool false)))]
@[go_sem] def q2gr1:List AIns:=[
 yI 5 (.mv (.v (.int .i64 0)))]
@[go_sem] def q2gr2:List AIns:=[
 yM 7 5,
 yM 8 1,
 yI 9 (.lenSl (.t 8)),
 yI 10 (.bin .lss .none (.t 7) (.t 9))]
def q2gc3:ACode:= .cond (.t 10) .skip (.exit 0)
def q2gc4:ACode:= .seq (.reg q2gr2) q2gc3
@[go_sem] def q2gr5:List AIns:=[
 yM 13 1,
 yM 14 5,
 yI 15 (.iaSl 4 (.t 13) (.t 14)),
 yI 16 (.fa 3 (.t 15)),
 yI 17 (.load false 1 (.t 16)),
 yI 18 (.lenStr (.t 17)),
 yI 19 (.bin .gtr .none (.t 18) (.v (.int .i64 300)))]
@[go_sem] def q2gr6:List AIns:=[
 yI 4 (.mv (.v (.bool true)))]
def q2gc7:ACode:= .seq (.reg q2gr6) .ret
def q2gc8:ACode:= .cond (.t 19) q2gc7 .skip
def q2gc9:ACode:= .seq (.reg q2gr5) q2gc8
@[go_sem] def q2gr10:List AIns:=[
 yM 11 5,
 yI 12 (.bin .add .none (.t 11) (.v (.int .i64 1))),
 yM 5 12]
def q2gc11:ACode:= .seq (.block 1 q2gc9) (.reg q2gr10)
def q2gc12:ACode:= .seq q2gc4 q2gc11
def q2gc13:ACode:= .loop q2gc12
def q2gc14:ACode:= .block 0 q2gc13
def q2gc15:ACode:= .seq (.reg q2gr1) q2gc14
@[go_sem] def q2gr16:List AIns:=[
 yI 6 (.mv (.v (.int .i64 0)))]
@[go_sem] def q2gr17:List AIns:=[
 yM 20 6,
 yM 21 0,
 yI 22 (.lenSl (.t 21)),
 yI 23 (.bin .lss .none (.t 20) (.t 22))]
def q2gc18:ACode:= .cond (.t 23) .skip (.exit 2)
def q2gc19:ACode:= .seq (.reg q2gr17) q2gc18
@[go_sem] def q2gr20:List AIns:=[
 yM 26 0,
 yM 27 6,
 yI 28 (.iaSl 1 (.t 26) (.t 27)),
 yI 29 (.load false 1 (.t 28)),
 yI 30 (.lenStr (.t 29)),
 yI 31 (.bin .gtr .none (.t 30) (.v (.int .i64 200)))]
@[go_sem] def q2gr21:List AIns:=[
 yI 4 (.mv (.v (.bool true)))]
def q2gc22:ACode:= .seq (.reg q2gr21) .ret
def q2gc23:ACode:= .cond (.t 31) q2gc22 .skip
def q2gc24:ACode:= .seq (.reg q2gr20) q2gc23
@[go_sem] def q2gr25:List AIns:=[
 yM 24 6,
 yI 25 (.bin .add .none (.t 24) (.v (.int .i64 1))),
 yM 6 25]
def q2gc26:ACode:= .seq (.block 3 q2gc24) (.reg q2gr25)
def q2gc27:ACode:= .seq q2gc19 q2gc26
def q2gc28:ACode:= .loop q2gc27
def q2gc29:ACode:= .block 2 q2gc28
def q2gc30:ACode:= .seq (.reg q2gr16) q2gc29
@[go_sem] def q2gr31:List AIns:=[
 yM 32 1,
 yI 33 (.lenSl (.t 32)),
 yI 34 (.bin .gtr .none (.t 33) (.v (.int .i64 10))),
 yM 35 34,
 yG 36 35 false (.mv (.t 0)),
 yG 37 35 false (.lenSl (.t 36)),
 yG 38 35 false (.bin .gtr .none (.t 37) (.v (.int .i64 30))),
 yI 39 (.pick (.t 35) (.v (.bool true)) (.t 38)),
 yM 4 39]
def q2gc32:ACode:= .seq (.reg q2gr31) .ret
def q2gc33:ACode:= .seq q2gc30 q2gc32
def q2gc34:ACode:= .seq q2gc15 q2gc33
def q2gc35:ACode:= .seq (.reg q2gr0) q2gc34
theorem q2gok:cFn TC 32=some (40,[.t 4],q2gc35):=by kernel_rfl
@[go_sem] def q2hr0:List AIns:=[
 yI 6 (.mv (.v .nilsl))]
@[go_sem] def q2hr1:List AIns:=[
 yM 10 0,
 yM 11 1,
 yM 12 2,
 yI 13 (.minmax true (.t 11) (.t 12)),
 yI 14 (.slice (.sl 1) (.t 10) none (some (.t 13)) none),
 yI 15 (.call (.v (.fn 9 [])) [(.t 14)]),
 yM 16 1,
 yM 17 2,
 yI 18 (.minmax false (.t 16) (.t 17)),
 yI 19 (.call (.v (.fn 89 [])) [(.t 15),(.t 18)]),
 yM 9 19,
 yI 20 (.ext 0 (.t 9)),
 yI 21 (.ext 1 (.t 9)),
 yM 7 20,
 yM 8 21]
@[go_sem] def q2hr2:List AIns:=[
 yM 22 7,
 yM 6 22]
def q2hc3:ACode:= .seq (.reg q2hr2) .ret
def q2hc4:ACode:= .seq (.reg q2hr1) q2hc3
def q2hc5:ACode:= .seq (.reg q2hr0) q2hc4
theorem q2hok:cFn TC 40=some (23,[.t 6],q2hc5):=by kernel_rfl
end
section
theorem zno(h:Hdr):zao h.n h.n h.i h.i h.r h.r h.s h.s h.p h.p=true:=by simp [zao]
attribute [local irreducible] ACallsTo ACallsP
theorem zdq(J:Store)(h:Hdr)(hl:h.p.length<1000000):ACallsTo TC 20 [.agg (hdrC h),.agg (hdrC h)] J (.bool true) J:=by
 have:=zql J h.n h.n h.i h.i h.r h.r h.s h.s h.p h.p _ _ (z2x 32 (hr h.p)) (z2x 32 (hr h.p)) hl hl
 rw [zno]at this
 exact this
end
section
def nwV:Option Hdr->AV
 |none=> .nilsl
 |some h=> .vsl 36 [hdrC h] true
def fdV:Option (Hdr × Hdr)->AV
 |none=> .nilsl
 |some f=> .vsl 106 [evC 1 f.1 f.2] true
def raC(key:Hash)(nw fv:AV):List AV:=hc key++ [nw,fv]
@[go_sem] theorem zy (key:Hash) (nw fv:AV):(raC key nw fv).length=34:=by simp [raC,z6]
theorem zb0(key:Hash)(nw fv:AV):(raC key nw fv).drop 32=[nw,fv]:=z8z key _
@[go_sem] theorem zqd (key:Hash) (nw fv:AV):(raC key nw fv).take 32=hc key:=z6x key _
@[go_sem] theorem raC_32 (key:Hash) (nw fv:AV):(raC key nw fv)[32]? =some nw:=z7h (zb0 key nw fv)
@[go_sem] theorem raC_33 (key:Hash) (nw fv:AV):(raC key nw fv)[33]? =some fv:=by
 have h:(raC key nw fv).drop 33=[fv]:=by rw [show 33=32+1 from rfl,<-List.drop_drop,zb0];rfl
 exact z7h h
@[go_sem] theorem raC_set32 (key:Hash) (nw fv b:AV):(raC key nw fv).take 32++b::(raC key nw fv).drop 33=raC key b fv:=by
 rw [zqd,show 33=32+1 from rfl,<-List.drop_drop,zb0];rfl
@[go_sem] theorem raC_set33 (key:Hash) (nw fv b:AV):(raC key nw fv).take 33++b::(raC key nw fv).drop 34=raC key nw b:=by
 have e:raC key nw fv=(hc key++ [nw])++ [fv]:=by simp [raC]
 rw [e,List.take_left' (by simp [z6]),List.drop_eq_nil_of_le (by simp [z6])];simp [raC]
theorem zdm(key:Hash)(nw fv:AV):(raC key nw fv).drop 33=[fv]:=by rw [show 33=32+1 from rfl,<-List.drop_drop,zb0];rfl
def RaIs(J:Store)(r:Nat)(key:Hash)(now:Option Hdr)(fd:Option (Hdr × Hdr)):Prop:=J[r]? =some (some [raC key (nwV now) (fdV fd)])
def RHeadP(J:Store)(r:Nat)(key:Hash)(now:Option Hdr)(fd:Option (Hdr × Hdr))(s:Hdr)(pf:List Hash)(a:AV)(J':Store):Prop:=
 a= .int .i64 (adE key now s pf)/\ Fr J J' [r] [r]/\ RaIs J' r key (adN key now s pf) (adF key now fd s pf)
theorem RHeadP.ok{J J':Store}{r:Nat}{key:Hash}{now now':Option Hdr}{fd fd':Option (Hdr × Hdr)}{s:Hdr}{pf:List Hash}{e:Int}(he:adE key now s pf=e)(hn:adN key now s pf=now')(hf:adF key now fd s pf=fd')
  (hg:J'[r]? =some (some [raC key (nwV now') (fdV fd')])) (hle:J.length<=J'.length) (hst:∀j,j<J.length->j ≠ r->J'[j]? =J[j]?):RHeadP J r key now fd s pf (.int .i64 e) J':=by
 refine⟨by rw [he],⟨fun j hj hn=>hst j hj fun e=>hn (by simp [e]),fun j hj=> .inl hj,hle⟩,?_⟩
 unfold RaIs
 rw [hn,hf];exact hg
theorem RHeadP.ext{J J':Store}{r:Nat}{key:Hash}{now:Option Hdr}{fd:Option (Hdr × Hdr)}{s:Hdr}{pf:List Hash}{e:Int}(hT:RaIs J r key now fd)(he:adE key now s pf=e)(h:e ≠ 1/\ e ≠ 2/\ e ≠ 6)(hx:Ext J J'):RHeadP J r key now fd s pf (.int .i64 e) J':=by
 have d:=slen hT
 have hn:adN key now s pf=now:=by unfold adN;rw [he,if_neg (by omega)]
 have hf:adF key now fd s pf=fd:=by unfold adF;rw [he,if_neg h.2.2]
 refine .ok he hn hf ?_ hx.le fun j hj _=> ?_
 ·obtain⟨y,rfl⟩:=hx
  rw [gapp d];exact hT
 ·obtain⟨y,rfl⟩:=hx
  exact gapp hj
theorem RHeadP.is{J:Store}{r:Nat}{key:Hash}{now:Option Hdr}{fd:Option (Hdr × Hdr)}{s:Hdr}{pf:List Hash}(hT:RaIs J r key now fd):∃a J',RHeadP J r key now fd s pf a J':=
 ⟨_,J.set r (some [raC key (nwV (adN key now s pf)) (fdV (adF key now fd s pf))]),.ok rfl rfl rfl (z2e (slen hT)) (by simp) fun j hj hjr=>z1c fun e=>hjr e.symm⟩
theorem znk(h:Hdr)(L:List AV):(hdrC h++L).take 36=hdrC h:=List.take_left' (zg h)
theorem znj(h:Hdr)(L:List AV):(hdrC h++L).drop 72=L.drop 36:=by
 rw [show 72=36+36 from rfl,<-List.drop_drop,List.drop_left' (zg h)]
attribute [local irreducible] ACallsTo ACallsP
theorem zif(J τ:Store)(r a b:Nat)(key:Hash)(w:Hdr)(fd:Option (Hdr × Hdr))(s:Hdr)(pf:List Hash)(y:AV)(hT:RaIs J r key (some w) fd)(hxt:Ext J τ)(hy:RdSl J 32 (hr pf) y)(hpl:pf.length<1000000)
  (hok:z2q key s.n s.i s.r s.s s.p=0) (h4:τ[J.length]? =some (some [hdrC s])) (h7:τ[a]? =some (some [.int .i64 s.n::hc s.r])) (h8:τ[b]? =some (some [.int .i64 w.n::hc w.r]))
  (ρ:Env) (q0:ρ 0= .ptr r 0 0) (q2:ρ 2=y) (q4:ρ 4= .ptr J.length 0 0) (q7:ρ 7= .ptr a 0 0) (q8:ρ 8= .ptr b 0 0):
  zW TC 103 J.length zdj (z92 [.t 6] (RHeadP J r key (some w) fd s pf)) ρ τ:=by
 have d:=slen hT
 have ht:=hxt.le
 have hyτ:RdSl τ 32 (hr pf) y:=by obtain⟨z,rfl⟩:=hxt;exact hy.app
 have hgτ:τ[r]? =some (some [raC key (nwV (some w)) (fdV fd)]):=by obtain⟨z,rfl⟩:=hxt;rw [gapp d];exact hT
 have hτl:∀j,j<J.length->τ[j]? =J[j]?:=fun j hj=>by obtain⟨z,rfl⟩:=hxt;exact gapp hj
 have d4:=slen h4
 have d7:=slen h7
 have d8:=slen h8
 have dp:=slen hgτ
 have hC1:=zi8 τ s.n w.n s.r w.r y pf hyτ hpl
 have hC2:=zi8 τ w.n s.n w.r s.r y pf hyτ hpl
 have hwl:=zg w
 have hsl:=zg s
 have hwa:=z3s w
 have hsa:=z3s s
 unfold nwV at hgτ
 simp only at hgτ
 by_cases e3:s.n=w.n/\ s.r=w.r
 ·have e:=(z9i s.n w.n s.r w.r).trans (decide_eq_true e3)
  have he:adE key (some w) s pf=3:=by unfold adE;rw [if_neg (by omega)];simp [ordI,e3.1,e3.2]
  repeat' (first|apply zs_|apply zb_|apply zc_|apply zt_ rfl|apply zf_ rfl|(refine zd_ rfl ?_ ?_<;>intro ht<;>try omega)|((first|apply zr_|apply zk_|apply ze_|apply zq_|(apply zG<;>intro ht));all_goals try simp (disch:=first|omega|(simp only [lens,z6,z7,lQr,lQm,lQt,lQd,z8,zg,zw,zy];first|done|omega)) only [go_sem,q0,q2,q4,q7,q8,h4,h7,h8,e,z1e,eq_self,and_self,if_true]))
  exact RHeadP.ext hT he (by omega) hxt
 have e:=(z9i s.n w.n s.r w.r).trans (decide_eq_false e3)
 by_cases e4:s.n=w.n
 ·have hr':s.r ≠ w.r:=fun h=>e3 ⟨e4,h⟩
  have e':=(z9i w.n w.n s.r w.r).trans (decide_eq_false fun h=>hr' h.2)
  have ho:ordI s.n w.n s.r w.r=3:=by unfold ordI;rw [if_neg (by omega),if_pos hr']
  have he:adE key (some w) s pf=6:=by unfold adE;rw [if_neg (by omega)];simp [ho]
  have hn:adN key (some w) s pf=some w:=by unfold adN;rw [he,if_neg (by omega)]
  cases fd with
  |none=>
   have hf:adF key (some w) none s pf=some (w,s):=by unfold adF;rw [he,if_pos rfl];rfl
   unfold fdV at hgτ
   simp only at hgτ
   repeat' (first|apply zs_|apply zb_|apply zc_|apply zt_ rfl|apply zf_ rfl|(refine zd_ rfl ?_ ?_<;>intro ht<;>try omega)|((first|apply zr_|apply zk_|apply ze_|apply zq_|(apply zG<;>intro ht));all_goals try simp (disch:=first|omega|(simp only [lens,z6,z7,lQr,lQm,lQt,lQd,z8,zg,zw,zy];first|done|omega)) only [go_sem,q0,q2,q4,q7,q8,h4,h7,h8,hgτ,e,e',e4,z1e,eq_self,and_self,if_true,hwl,hsl,hwa,hsa,znk,znj,zdm]))
   exact RHeadP.ok he hn hf (by rw [z2e dp];rfl) (by simpa using ht) fun j hj hjr=>by rw [z1c (fun e=>hjr e.symm),hτl j hj]
  |some f=>
   have hf:adF key (some w) (some f) s pf=some f:=by unfold adF;rw [he,if_pos rfl];rfl
   unfold fdV at hgτ
   simp only at hgτ
   repeat' (first|apply zs_|apply zb_|apply zc_|apply zt_ rfl|apply zf_ rfl|(refine zd_ rfl ?_ ?_<;>intro ht<;>try omega)|((first|apply zr_|apply zk_|apply ze_|apply zq_|(apply zG<;>intro ht));all_goals try simp (disch:=first|omega|(simp only [lens,z6,z7,lQr,lQm,lQt,lQd,z8,zg,zw,zy];first|done|omega)) only [go_sem,q0,q2,q4,q7,q8,h4,h7,h8,hgτ,e,e',e4,z1e,eq_self,and_self,if_true,hwl,hsl,hwa,hsa]))
   exact RHeadP.ok he hn hf (by unfold nwV fdV;exact hgτ) ht fun j hj _=>hτl j hj
 by_cases e5:s.n<w.n
 ·have ho:ordI s.n w.n s.r w.r=0:=by unfold ordI;rw [if_pos e4,if_pos e5]
  by_cases hc:chkH s.n w.n s.r w.r pf=0
  ·have he:adE key (some w) s pf=4:=by unfold adE;rw [if_neg (by omega)];simp [ho,hc]
   rw [hc]at hC1
   repeat' (first|apply zs_|apply zb_|apply zc_|apply zt_ rfl|apply zf_ rfl|(refine zd_ rfl ?_ ?_<;>intro ht<;>try omega)|((first|apply zr_|apply zk_|apply ze_|apply zq_|(apply callW.mk_pu;(first|exact(fun _=>hC1)))|(apply callW.za;(first|exact(hC1)))|(apply zG<;>intro ht));all_goals try simp (disch:=first|omega|(simp only [lens,z6,z7,lQr,lQm,lQt,lQd,z8,zg,zw,zy];first|done|omega)) only [go_sem,q0,q2,q4,q7,q8,h4,h7,h8,e,e4,e5,z1e,eq_self,and_self,if_true]))
   exact RHeadP.ext hT he (by omega) hxt
  ·have he:adE key (some w) s pf=5:=by unfold adE;rw [if_neg (by omega)];simp [ho,hc]
   generalize chkH s.n w.n s.r w.r pf=c at*
   have e6:¬s.n>w.n:=by omega
   repeat' (first|apply zs_|apply zb_|apply zc_|apply zt_ rfl|apply zf_ rfl|(refine zd_ rfl ?_ ?_<;>intro ht<;>try omega)|((first|apply zr_|apply zk_|apply ze_|apply zq_|(apply callW.mk_pu;(first|exact(fun _=>hC1)))|(apply callW.za;(first|exact(hC1)))|(apply zG<;>intro ht));all_goals try simp (disch:=first|omega|(simp only [lens,z6,z7,lQr,lQm,lQt,lQd,z8,zg,zw,zy];first|done|omega)) only [go_sem,q0,q2,q4,q7,q8,h4,h7,h8,e,e4,e5,e6,hc,z1e,eq_self,and_self,if_true]))
   exact RHeadP.ext hT he (by omega) hxt
 ·have ho:ordI s.n w.n s.r w.r=2:=by unfold ordI;rw [if_pos e4,if_neg e5]
  have e6:s.n>w.n:=by omega
  by_cases hc:chkH w.n s.n w.r s.r pf=0
  ·have he:adE key (some w) s pf=2:=by unfold adE;rw [if_neg (by omega)];simp [ho,hc]
   have hn:adN key (some w) s pf=some s:=by unfold adN;rw [he,if_pos (.inr rfl)]
   have hf:adF key (some w) fd s pf=fd:=by unfold adF;rw [he,if_neg (by omega)]
   rw [hc]at hC2
   repeat' (first|apply zs_|apply zb_|apply zc_|apply zt_ rfl|apply zf_ rfl|(refine zd_ rfl ?_ ?_<;>intro ht<;>try omega)|((first|apply zr_|apply zk_|apply ze_|apply zq_|(apply callW.mk_pu;(first|exact(fun _=>hC2)))|(apply callW.za;(first|exact(hC2)))|(apply zG<;>intro ht));all_goals try simp (disch:=first|omega|(simp only [lens,z6,z7,lQr,lQm,lQt,lQd,z8,zg,zw,zy];first|done|omega)) only [go_sem,q0,q2,q4,q7,q8,h4,h7,h8,hgτ,e,e4,e5,e6,z1e,eq_self,and_self,if_true,hsl,hsa,zdm]))
   exact RHeadP.ok he hn hf (by rw [z2e dp];rfl) (by simpa using ht) fun j hj hjr=>by rw [z1c (fun e=>hjr e.symm),hτl j hj]
  ·have he:adE key (some w) s pf=5:=by unfold adE;rw [if_neg (by omega)];simp [ho,hc]
   generalize chkH w.n s.n w.r s.r pf=c at*
   repeat' (first|apply zs_|apply zb_|apply zc_|apply zt_ rfl|apply zf_ rfl|(refine zd_ rfl ?_ ?_<;>intro ht<;>try omega)|((first|apply zr_|apply zk_|apply ze_|apply zq_|(apply callW.mk_pu;(first|exact(fun _=>hC2)))|(apply callW.za;(first|exact(hC2)))|(apply zG<;>intro ht));all_goals try simp (disch:=first|omega|(simp only [lens,z6,z7,lQr,lQm,lQt,lQd,z8,zg,zw,zy];first|done|omega)) only [go_sem,q0,q2,q4,q7,q8,h4,h7,h8,e,e4,e5,e6,hc,z1e,eq_self,and_self,if_true]))
   exact RHeadP.ext hT he (by omega) hxt
attribute [local irreducible] zdj
theorem zqh(J:Store)(r:Nat)(key:Hash)(now:Option Hdr)(fd:Option (Hdr × Hdr))(s:Hdr)(pf:List Hash)(y:AV)(hT:RaIs J r key now fd)(hy:RdSl J 32 (hr pf) y)(hpl:pf.length<1000000):
  ACallsP TC 14 [.ptr r 0 0,.agg (hdrC s),y] J (RHeadP J r key now fd s pf):=by
 have d:=slen hT
 have hg:=hT
 unfold RaIs at hg
 have hCk:=fun J=>zqk J key s.n s.i s.r s.s s.p (z15 32 (hr s.p)) (.of (z2x _ _))
 have e0:sgC s.n s.r s.i s.s (z15 32 (hr s.p))=hdrC s:=rfl
 rw [e0]at hCk
 have hsl:=zg s
 have hsa:=z3s s
 have hsh:(hdrC s).take 33= .int .i64 s.n::hc s.r:=z9h _ _ _ _ _
 refine ACallsP.of_keepW q2dok (by simp) fun hw=> ?_
 by_cases hbad:z2q key s.n s.i s.r s.s s.p=0
 ·rw [hbad]at hCk
  cases now with
  |none=>
   have he:adE key none s pf=1:=by unfold adE;rw [if_neg (by omega)]
   have hn:adN key none s pf=some s:=by unfold adN;rw [he,if_pos (.inl rfl)]
   have hf:adF key none fd s pf=fd:=by unfold adF;rw [he,if_neg (by omega)]
   unfold nwV at hg
   simp only at hg
   repeat' (first|apply zs_|apply zb_|apply zc_|apply zt_ rfl|apply zf_ rfl|(refine zd_ rfl ?_ ?_<;>intro ht<;>try omega)|((first|apply zr_|apply zk_|apply ze_|apply zq_|(apply callW.mk_pu;(first|exact(fun _=>hCk _)))|(apply callW.za;(first|exact(hCk _)))|(apply zG<;>intro ht));all_goals try simp (disch:=first|omega|(simp only [lens,z6,z7,lQr,lQm,lQt,lQd,z8,zg,zw,zy];first|done|omega)) only [go_sem,hg,hsl,hsa,zdm]))
   exact RHeadP.ok he hn hf (by rw [gapp (by simpa using d),z2e d];rfl) (by simp) fun j hj hjr=>by rw [gapp (by simpa using hj),z1c (fun e=>hjr e.symm)]
  |some w=>
   have hwh:(hdrC w).take 33= .int .i64 w.n::hc w.r:=z9h _ _ _ _ _
   have hwl:=zg w
   unfold nwV at hg
   simp only at hg
   repeat' (first|apply zs_|apply zb_|apply zc_|apply zt_ rfl|apply zf_ rfl|(refine zd_ rfl ?_ ?_<;>intro ht<;>try omega)|((first|apply zr_|apply zk_|apply ze_|apply zq_|(apply callW.mk_pu;(first|exact(fun _=>hCk _)))|(apply callW.za;(first|exact(hCk _)))|(apply zG<;>intro ht));all_goals try simp (disch:=first|omega|(simp only [lens,z6,z7,lQr,lQm,lQt,lQd,z8,zg,zw,zy];first|done|omega)) only [go_sem,hg,hsl,hsa]))
   refine zW.reg2 ?_ ?_
   ·simp (disch:=first|omega|(simp only [lens,z6,z7,lQr,lQm,lQt,lQd,z8,zg,zw,zy];first|done|omega)) only [go_sem,hg,hsl,hsa,hsh,hwh,hwl]
    repeat' (first|apply zs_|apply zb_|apply zc_|apply zt_ rfl|apply zf_ rfl|(refine zd_ rfl ?_ ?_<;>intro ht<;>try omega)|((first|apply zr_|apply zk_|apply ze_|apply zq_|(apply zG<;>intro ht));all_goals try simp (disch:=first|omega|(simp only [lens,z6,z7,lQr,lQm,lQt,lQd,z8,zg,zw,zy];first|done|omega)) only [go_sem,hg,hsl,hsh,hwh,hwl]))
    refine zif J _ r (J.length+1) (J.length+2) key w fd s pf y hT ⟨_,rfl⟩ hy hpl hbad ?_ ?_ ?_ _ ?_ ?_ ?_ ?_ ?_
    all_goals first|simp (disch:=first|omega|(simp only [lens,z6,z7,lQr,lQm,lQt,lQd,z8,zg,zw,zy];first|done|omega)) only [go_sem]|skip
   ·simp (disch:=first|omega|(simp only [lens,z6,z7,lQr,lQm,lQt,lQd,z8,zg,zw,zy];first|done|omega)) only [go_sem,hg,hsl,hsa,hsh,hwh,hwl]
    repeat' (first|apply zs_|apply zb_|apply zc_|apply zt_ rfl|apply zf_ rfl|(refine zd_ rfl ?_ ?_<;>intro ht<;>try omega)|((first|apply zr_|apply zk_|apply ze_|apply zq_|(apply zG<;>intro ht));all_goals try simp (disch:=first|omega|(simp only [lens,z6,z7,lQr,lQm,lQt,lQd,z8,zg,zw,zy];first|done|omega)) only [go_sem,hg,hsl,hsh,hwh,hwl]))
    refine zif J _ r (J.length+2) (J.length+1) key w fd s pf y hT ⟨_,rfl⟩ hy hpl hbad ?_ ?_ ?_ _ ?_ ?_ ?_ ?_ ?_
    all_goals first|simp (disch:=first|omega|(simp only [lens,z6,z7,lQr,lQm,lQt,lQd,z8,zg,zw,zy];first|done|omega)) only [go_sem]|skip
 ·have he:adE key now s pf=0:=by unfold adE;rw [if_pos hbad]
  generalize z2q key s.n s.i s.r s.s s.p=c at*
  repeat' (first|apply zs_|apply zb_|apply zc_|apply zt_ rfl|apply zf_ rfl|(refine zd_ rfl ?_ ?_<;>intro ht<;>try omega)|((first|apply zr_|apply zk_|apply ze_|apply zq_|(apply callW.mk_pu;(first|exact(fun _=>hCk _)))|(apply callW.za;(first|exact(hCk _)))|(apply zG<;>intro ht));all_goals try simp (disch:=first|omega|(simp only [lens,z6,z7,lQr,lQm,lQt,lQd,z8,zg,zw,zy];first|done|omega)) only [go_sem,hg,hbad,hsl,hsa]))
  exact RHeadP.ext hT he (by omega) ⟨_,rfl⟩
end
section
theorem z8s(P:List Hash)(h:Hash)(i:Nat):z18 P h i 0=(h,0,0):=by
 cases P with
 |nil=>rfl
 |cons p ps=>rw [z18,if_pos rfl]
theorem z4p(p:Hash)(ps:List Hash)(h:Hash)(i l:Nat)(hl:l ≠ 0):z18 (p::ps) h i l=if i%2=1 \/i=l then((z18 ps (z11 p h) ((z1o 13 i l).1/2) ((z1o 13 i l).2/2)).1,(z18 ps (z11 p h) ((z1o 13 i l).1/2) ((z1o 13 i l).2/2)).2.1,(z18 ps (z11 p h) ((z1o 13 i l).1/2) ((z1o 13 i l).2/2)).2.2+1)
  else((z18 ps (z11 h p) (i/2) (l/2)).1,(z18 ps (z11 h p) (i/2) (l/2)).2.1,(z18 ps (z11 h p) (i/2) (l/2)).2.2+1):=by
 rw [z18,if_neg hl]
theorem zj8:∀(f e i l:Nat),0<i->i<=l->l<2^e->∃e' i1 l1,1<=e'/\ e'<=e/\ z1o f i l=(i1,l1)/\ z1o f (2^e+i) (2^e+l)=(2^e'+i1,2^e'+l1)/\ i1<=l1/\ l1<2^e'/\ 0<i1:=by
 intro f
 induction f with
 |zero=>
  intro e i l h0 h1 h2
  refine⟨e,i,l,?_,Nat.le_refl _,rfl,rfl,h1,h2,h0⟩
  rcases e with _|e
  ·rw [Nat.pow_zero]at h2;omega
  ·omega
 |succ f ih=>
  intro e i l h0 h1 h2
  rcases e with _|e
  ·rw [Nat.pow_zero]at h2;omega
  ·have hp:2^(e+1)=2^e+2^e:=by rw [Nat.pow_succ];omega
   by_cases hi:i%2=0
   ·rw [z1o,z1o,if_pos ⟨hi,h0⟩,if_pos (by omega)]
    obtain⟨e',i1,l1,a1,a2,a3,a4,a5,a6,a7⟩:=ih e (i/2) (l/2) (by omega) (by omega) (by omega)
    refine⟨e',i1,l1,a1,by omega,a3,?_,a5,a6,a7⟩
    rw [<-a4,show (2^(e+1)+i)/2=2^e+i/2 by omega,show (2^(e+1)+l)/2=2^e+l/2 by omega]
   ·rw [z6n (by omega),z6n (by omega)]
    exact⟨e+1,i,l,by omega,Nat.le_refl _,rfl,rfl,h1,h2,h0⟩
theorem zem:∀(f e:Nat),e<=f->z1o f (2^e) (2^e)=(1,1)
 |f,0,_=>by rw [Nat.pow_zero];exact z6n (by omega)
 | 0,e+1,h=>by omega
 |f+1,e+1,h=>by
  have hp:2^(e+1)=2^e+2^e:=by rw [Nat.pow_succ];omega
  have h0:0<2^e:=Nat.two_pow_pos e
  rw [z1o,if_pos (by omega),show 2^(e+1)/2=2^e by omega]
  exact zem f e (by omega)
def z3o(r:Hash × Nat × Nat)(n:Nat):Prop:=r.2.1=0/\ r.2.2=n
theorem zm1:∀(Q:List Hash) (x h:Hash) (e i l:Nat),i<2^e->2^e<=l->l<2^(e+1)->
  (z3o (z18 Q h i (2^e-1)) Q.length->z18 (Q++ [x]) h i l=(z11 (z18 Q h i (2^e-1)).1 x,0,Q.length+1))/\ (¬z3o (z18 Q h i (2^e-1)) Q.length->¬z3o (z18 (Q++ [x]) h i l) (Q.length+1)):=by
 intro Q
 induction Q with
 |nil=>
  intro x h e i l h1 h2 h3
  rcases e with _|e
  ·rw [Nat.pow_zero]at h1 h2
   rw [show 2^(0+1)=2 from rfl]at h3
   obtain rfl:i=0:=by omega
   obtain rfl:l=1:=by omega
   refine⟨fun _=>rfl,fun hh=>absurd ?_ hh⟩
   exact⟨rfl,rfl⟩
  ·have hp:2^(e+1)=2^e+2^e:=by rw [Nat.pow_succ];omega
   have h0:0<2^e:=Nat.two_pow_pos e
   refine⟨fun hh=> ?_,fun _ hh=> ?_⟩
   ·have:=hh.1
    simp only [z18]at this
    omega
   ·have:=hh.1
    rw [List.nil_append,z4p _ _ _ _ _ (by omega)]at this
    by_cases hi:i%2=1
    ·rw [if_pos (.inl hi),z6n (by omega)]at this
     simp only [z18]at this
     omega
    ·rw [if_neg (by omega)]at this
     simp only [z18]at this
     omega
 |cons p Q ih=>
  intro x h e i l h1 h2 h3
  rcases e with _|e
  ·rw [Nat.pow_zero]at h1 h2
   rw [show 2^(0+1)=2 from rfl]at h3
   obtain rfl:i=0:=by omega
   obtain rfl:l=1:=by omega
   refine⟨fun hh=> ?_,fun _ hh=> ?_⟩
   ·have:=hh.2
    rw [z8s]at this
    simp at this
   ·have:=hh.2
    rw [List.cons_append,z4p _ _ _ _ _ (by omega),if_neg (by omega),z8s]at this
    simp at this
  ·have hp:2^(e+1)=2^e+2^e:=by rw [Nat.pow_succ];omega
   have hp2:2^(e+1+1)=2^(e+1)+2^(e+1):=by rw [Nat.pow_succ];omega
   have h0:0<2^e:=Nat.two_pow_pos e
   rw [List.cons_append,z4p _ _ _ _ l (by omega),z4p _ _ _ _ (2^(e+1)-1) (by omega)]
   by_cases hi:i%2=1
   ·rw [if_pos (.inl hi),if_pos (.inl hi),z6n (by omega),z6n (by omega)]
    obtain⟨a,b⟩:=ih x (z11 p h) e (i/2) (l/2) (by omega) (by omega) (by omega)
    rw [show (2^(e+1)-1)/2=2^e-1 by omega]
    refine⟨fun hh=> ?_,fun hh hh2=>b (fun c=>hh ⟨c.1,by rw [List.length_cons];have:=c.2;simp only;omega⟩) ⟨hh2.1,by have:=hh2.2;rw [List.length_cons]at this;simp only at this;omega⟩⟩
    have c:=a ⟨hh.1,by have:=hh.2;rw [List.length_cons]at this;simp only at this;omega⟩
    simp only [c,List.length_cons]
   ·rw [if_neg (by omega),if_neg (by omega)]
    obtain⟨a,b⟩:=ih x (z11 h p) e (i/2) (l/2) (by omega) (by omega) (by omega)
    rw [show (2^(e+1)-1)/2=2^e-1 by omega]
    refine⟨fun hh=> ?_,fun hh hh2=>b (fun c=>hh ⟨c.1,by rw [List.length_cons];have:=c.2;simp only;omega⟩) ⟨hh2.1,by have:=hh2.2;rw [List.length_cons]at this;simp only at this;omega⟩⟩
    have c:=a ⟨hh.1,by have:=hh.2;rw [List.length_cons]at this;simp only at this;omega⟩
    simp only [c,List.length_cons]
theorem zm2:∀(Q:List Hash) (x h:Hash) (e i l:Nat),e<=13->i<=l->l<2^e->
  (z3o (z18 Q h i l) Q.length->z18 (Q++ [x]) h (2^e+i) (2^e+l)=(z11 x (z18 Q h i l).1,0,Q.length+1))/\ (¬z3o (z18 Q h i l) Q.length->¬z3o (z18 (Q++ [x]) h (2^e+i) (2^e+l)) (Q.length+1)):=by
 intro Q
 induction Q with
 |nil=>
  intro x h e i l he h1 h2
  have h0:0<2^e:=Nat.two_pow_pos e
  by_cases hl:l=0
  ·subst hl
   obtain rfl:i=0:=by omega
   refine⟨fun _=> ?_,fun hh=>absurd ⟨rfl,rfl⟩ hh⟩
   rw [List.nil_append,Nat.add_zero,z4p _ _ _ _ _ (by omega),if_pos (.inr rfl),zem 13 e he]
   rfl
  ·refine⟨fun hh=>absurd hh.1 hl,fun _ hh=> ?_⟩
   have:=hh.1
   rw [List.nil_append,z4p _ _ _ _ _ (by omega)]at this
   rcases e with _|e
   ·rw [Nat.pow_zero]at h2;omega
   have hp:2^(e+1)=2^e+2^e:=by rw [Nat.pow_succ];omega
   have h0:0<2^e:=Nat.two_pow_pos e
   by_cases hi:(2^(e+1)+i)%2=1 \/2^(e+1)+i=2^(e+1)+l
   ·rw [if_pos hi]at this
    obtain⟨e',i1,l1,a1,a2,a3,a4,a5,a6,a7⟩:=zj8 13 (e+1) i l (by omega) h1 h2
    rw [a4]at this
    simp only [z18]at this
    obtain⟨e',rfl⟩:∃d,e'=d+1:=⟨e'-1,by omega⟩
    have hp:2^(e'+1)=2^e'+2^e':=by rw [Nat.pow_succ];omega
    have h0:0<2^e':=Nat.two_pow_pos e'
    omega
   ·rw [if_neg hi]at this
    simp only [z18]at this
    omega
 |cons p Q ih=>
  intro x h e i l he h1 h2
  have h0:0<2^e:=Nat.two_pow_pos e
  by_cases hl:l=0
  ·subst hl
   obtain rfl:i=0:=by omega
   refine⟨fun hh=> ?_,fun _ hh=> ?_⟩
   ·have:=hh.2
    rw [z8s]at this
    simp at this
   ·have:=hh.2
    rw [List.cons_append,Nat.add_zero,z4p _ _ _ _ _ (by omega),if_pos (.inr rfl),zem 13 e he]at this
    rw [show (1,1).2/2=0 from rfl,z8s]at this
    simp at this
  ·rcases e with _|e
   ·rw [Nat.pow_zero]at h2;omega
   have hp:2^(e+1)=2^e+2^e:=by rw [Nat.pow_succ];omega
   have h0:0<2^e:=Nat.two_pow_pos e
   rw [List.cons_append,z4p _ _ _ _ (2^(e+1)+l) (by omega),z4p _ _ _ _ l hl]
   by_cases hi:i%2=1 \/i=l
   ·rw [if_pos hi,if_pos (show (2^(e+1)+i)%2=1 \/2^(e+1)+i=2^(e+1)+l by omega)]
    obtain⟨e',i1,l1,a1,a2,a3,a4,a5,a6,a7⟩:=zj8 13 (e+1) i l (by omega) h1 h2
    rw [a3,a4]
    obtain⟨e',rfl⟩:∃d,e'=d+1:=⟨e'-1,by omega⟩
    have hp:2^(e'+1)=2^e'+2^e':=by rw [Nat.pow_succ];omega
    have h0:0<2^e':=Nat.two_pow_pos e'
    obtain⟨a,b⟩:=ih x (z11 p h) e' (i1/2) (l1/2) (by omega) (by omega) (by omega)
    simp only
    rw [show (2^(e'+1)+i1)/2=2^e'+i1/2 by omega,show (2^(e'+1)+l1)/2=2^e'+l1/2 by omega]
    refine⟨fun hh=> ?_,fun hh hh2=>b (fun c=>hh ⟨c.1,by rw [List.length_cons];have:=c.2;simp only;omega⟩) ⟨hh2.1,by have:=hh2.2;rw [List.length_cons]at this;simp only at this;omega⟩⟩
    have c:=a ⟨hh.1,by have:=hh.2;rw [List.length_cons]at this;simp only at this;omega⟩
    simp only [c,List.length_cons]
   ·rw [if_neg hi,if_neg (show ¬((2^(e+1)+i)%2=1 \/2^(e+1)+i=2^(e+1)+l)by omega)]
    obtain⟨a,b⟩:=ih x (z11 h p) e (i/2) (l/2) (by omega) (by omega) (by omega)
    rw [show (2^(e+1)+i)/2=2^e+i/2 by omega,show (2^(e+1)+l)/2=2^e+l/2 by omega]
    refine⟨fun hh=> ?_,fun hh hh2=>b (fun c=>hh ⟨c.1,by rw [List.length_cons];have:=c.2;simp only;omega⟩) ⟨hh2.1,by have:=hh2.2;rw [List.length_cons]at this;simp only at this;omega⟩⟩
    have c:=a ⟨hh.1,by have:=hh.2;rw [List.length_cons]at this;simp only at this;omega⟩
    simp only [c,List.length_cons]
theorem zm7:∀(rs:List Hash) (h:Hash) (i n:Nat),1<=n->n<=4096->i<n->
  (z3o (z18 rs.reverse h i (n-1)) rs.length->z1y rs h i n=((z18 rs.reverse h i (n-1)).1,true))/\ (¬z3o (z18 rs.reverse h i (n-1)) rs.length->(z1y rs h i n).2=false):=by
 intro rs
 induction rs with
 |nil=>
  intro h i n h1 h2 h3
  refine⟨fun hh=> ?_,fun hh=> ?_⟩
  ·have:=hh.1
   simp only [List.reverse_nil,z18]at this
   rw [z1y,decide_eq_true (by omega:n=1)]
   rfl
  ·rw [z1y]
   refine decide_eq_false fun e=>hh ?_
   subst e
   exact⟨rfl,rfl⟩
 |cons x rs ih=>
  intro h i n h1 h2 h3
  rw [List.reverse_cons,List.length_cons]
  by_cases hn:n=1
  ·subst hn
   rw [z1y,if_pos rfl]
   refine⟨fun hh=> ?_,fun _=>rfl⟩
   have:=hh.2
   rw [show 1-1=0 from rfl,z8s]at this
   simp at this
  ·obtain⟨e,s1,s2,s3⟩:=zed (n:=n) (by omega)
   have hp:2^(e+1)=2^e+2^e:=by rw [Nat.pow_succ];omega
   have h0:0<2^e:=Nat.two_pow_pos e
   rw [z1y,if_neg hn,s1]
   by_cases hi:i<2^e
   ·rw [if_pos hi]
    obtain⟨a,b⟩:=ih h i (2^e) (by omega) (by omega) hi
    obtain⟨c,d⟩:=zm1 rs.reverse x h e i (n-1) hi (by omega) (by omega)
    rw [List.length_reverse]at c d
    by_cases hg:z3o (z18 rs.reverse h i (2^e-1)) rs.length
    ·rw [c hg,a hg]
     exact⟨fun _=>rfl,fun hh=>absurd ⟨rfl,rfl⟩ hh⟩
    ·exact⟨fun hh=>absurd hh (d hg),fun _=>b hg⟩
   ·rw [if_neg hi]
    have he:e<=13:=by
     rcases Nat.lt_or_ge 13 e with h|h
     ·have:=Nat.pow_le_pow_right (show 0<2 by omega) h
      omega
     ·exact h
    obtain⟨a,b⟩:=ih h (i-2^e) (n-2^e) (by omega) (by omega) (by omega)
    obtain⟨c,d⟩:=zm2 rs.reverse x h e (i-2^e) (n-2^e-1) he (by omega) (by omega)
    rw [List.length_reverse,show 2^e+(i-2^e)=i by omega,show 2^e+(n-2^e-1)=n-1 by omega]at c d
    by_cases hg:z3o (z18 rs.reverse h (i-2^e) (n-2^e-1)) rs.length
    ·rw [c hg,a hg]
     exact⟨fun _=>rfl,fun hh=>absurd ⟨rfl,rfl⟩ hh⟩
    ·exact⟨fun hh=>absurd hh (d hg),fun _=>b hg⟩
theorem chk_eq(leaf:Hash)(i n:Int)(path:List Hash)(root:Hash):chkR leaf i n path root=chkP leaf i n path root:=by
 unfold chkP chkR
 by_cases h:n<1 \/4096<n \/i<0 \/n<=i
 ·rw [if_pos h,if_pos h]
 ·rw [if_neg h,if_neg h]
  obtain⟨i,rfl⟩:∃k:Nat,i=k:=⟨i.toNat,by omega⟩
  obtain⟨n,rfl⟩:∃l:Nat,n=(l:Int):=⟨n.toNat,by omega⟩
  rw [Int.toNat_natCast,Int.toNat_natCast]
  obtain⟨a,b⟩:=zm7 path.reverse leaf i n (by omega) (by omega) (by omega)
  rw [List.reverse_reverse,List.length_reverse]at a b
  unfold z2d
  by_cases hg:z3o (z18 path leaf i (n-1)) path.length
  ·rw [a hg]
   obtain⟨g1,g2⟩:=hg
   by_cases hr:(z18 path leaf i (n-1)).1=root
   ·rw [if_neg (by simp [hr]),if_neg (by simp [g1,g2,hr])]
   ·rw [if_pos (.inr hr),if_pos (.inr (.inr hr))]
  ·rw [b hg,if_pos (.inl rfl),if_pos]
   by_cases g1:(z18 path leaf i (n-1)).2.1=0
   ·exact .inr (.inl fun g2=>hg ⟨g1,g2⟩)
   ·exact .inl g1
end
section
theorem zgt(k:Int)(a b:Hdr):(evC k a b).drop 1=hdrC a++(hdrC b++(hc zeroH++ [.nilsl])):=rfl
theorem zcg(k:Int)(a b:Hdr):(evC k a b).drop 37=hdrC b++(hc zeroH++ [.nilsl]):=by
 rw [show 37=1+36 from rfl,<-List.drop_drop,zgt,List.drop_left' (zg a)]
theorem zch(k:Int)(a b:Hdr):(evC k a b).drop 73=hc zeroH++ [.nilsl]:=by
 rw [show 73=37+36 from rfl,<-List.drop_drop,zcg,List.drop_left' (zg b)]
theorem zmg(k:Int)(a b:Hdr):(evC k a b).drop 105=[.nilsl]:=by
 rw [show 105=73+32 from rfl,<-List.drop_drop,zch,z8z]
@[go_sem] theorem evC_0 (k:Int) (a b:Hdr):(evC k a b)[0]? =some (.int .i64 k):=rfl
@[go_sem] theorem evC_105 (k:Int) (a b:Hdr):(evC k a b)[105]? =some .nilsl:=z7h (zmg k a b)
@[go_sem] theorem evC_old (k:Int) (a b:Hdr):((evC k a b).drop 1).take 36=hdrC a:=by rw [zgt,List.take_left' (zg a)]
@[go_sem] theorem evC_new (k:Int) (a b:Hdr):((evC k a b).drop 37).take 36=hdrC b:=by rw [zcg,List.take_left' (zg b)]
@[go_sem] theorem evC_root (k:Int) (a b:Hdr):((evC k a b).drop 73).take 32=hc zeroH:=by rw [zch,z6x]
@[go_sem] theorem zgs (k:Int) (a b:Hdr):(evC k a b).take 106=evC k a b:=List.take_of_length_le (by rw [zw];omega)
@[go_sem] theorem evC_set1 (k:Int) (a b c:Hdr):(evC k a b).take 1++(hdrC c++(evC k a b).drop 37)=evC k c b:=by rw [zcg];rfl
@[go_sem] theorem evC_set37 (k:Int) (a b c:Hdr):(evC k a b).take 37++(hdrC c++(evC k a b).drop 73)=evC k a c:=by
 rw [zch]
 have e:evC k a b=(.int .i64 k::hdrC a)++(hdrC b++(hc zeroH++ [.nilsl])):=by simp [evC]
 rw [e,List.take_left' (by simp [zg])];simp [evC]
theorem rls_ev{n:Nat}(k:Int)(a b:Hdr):RLs n (evC k a b):=by
 have:∀(l m:List AV),RLs n l->RLs n m->RLs n (l++m):=by
  intro l m h1 h2
  induction l with
  |nil=>exact h2
  |cons x l ih=>simp only [List.cons_append,RLs]at h1 ⊢;exact⟨h1.1,ih h1.2⟩
 unfold evC
 simp only [RLs,RL]
 exact⟨trivial,this _ _ (z7v a) (this _ _ (z7v b) (this _ _ (z6h _) (by simp [RLs,RL])))⟩
attribute [local irreducible] ACallsTo ACallsP
theorem zc3(J:Store)(h:Hdr)(hl:h.p.length<1000000)(h0:h.p ≠ []):ACallsTo TC 43 [.agg (hdrC h)] J (.agg (hdrC h)) J:=
 zac J h.n h.r h.i h.s h.p _ (.of (z2x _ _)) hl h0
theorem zfn(J:Store)(p:Nat)(key:Hash)(now:Option Hdr)(fd:Option (Hdr × Hdr))(own:List Nat)(hT:AudIs J p key now fd own)(hn:∀w,now=some w->w.p.length=3):ACallsTo TC 18 [.ptr p 0 0] J (.tup [.agg (match now with|none=>sgZ|some w=>hdrC w),.bool now.isSome]) J:=by
 obtain⟨fv,fo,rfl,hg,hf⟩:=hT
 have d:=slen hg
 have hMade:=fun y=>z8g (J++y) p key now.isSome (now.getD zHd).n (now.getD zHd).r (now.getD zHd).i (now.getD zHd).s (z15 32 (hr (now.getD zHd).p)) fv (by rw [gapp d];exact hg)
 unfold adS at hg
 refine ACallsTo.of_body q1zok (by simp) fun hw _=> ?_
 cases now with
 |none=>
  simp only [Option.getD_none,Option.isSome_none]at hg hMade ⊢
  repeat' (first|apply zs_|apply zb_|apply zc_|apply zt_ rfl|apply zf_ rfl|(refine zd_ rfl ?_ ?_<;>intro ht<;>try omega)|((first|apply zr_|apply zk_|apply ze_|apply zq_|(apply callW.mk_pu;(first|exact(fun _=>hMade _)))|(apply callW.za;(first|exact(hMade _)))|(apply zG<;>intro ht));all_goals try simp (disch:=first|omega|(simp only [lens,z6,z7,lQr,lQm,lQt,lQd,z8,zg,zw,zy,z1g];first|done|omega)) only [go_sem,hg]))
  exact Ext.pure hw ⟨_,rfl⟩ (zz _ rfl)
 |some w=>
  have hw3:=hn w rfl
  have hO:=fun J=>zc3 J w (by omega) (fun e=>by rw [e]at hw3;simp at hw3)
  have e0:sgC w.n w.r w.i w.s (z15 32 (hr w.p))=hdrC w:=rfl
  have hwl:=zg w
  simp only [Option.getD_some,Option.isSome_some]at hg hMade ⊢
  repeat' (first|apply zs_|apply zb_|apply zc_|apply zt_ rfl|apply zf_ rfl|(refine zd_ rfl ?_ ?_<;>intro ht<;>try omega)|((first|apply zr_|apply zk_|apply ze_|apply zq_|(apply callW.mk_pu;(first|exact(fun _=>hMade _)|exact(fun _=>hO _)))|(apply callW.za;(first|exact(hMade _)|exact(hO _)))|(apply zG<;>intro ht));all_goals try simp (disch:=first|omega|(simp only [lens,z6,z7,lQr,lQm,lQt,lQd,z8,zg,zw,zy,z1g];first|done|omega)) only [go_sem,hg,e0,hwl]))
  exact Ext.pure hw ⟨_,rfl⟩ (by simp only [RL,RLs];exact⟨z7v w,trivial,trivial⟩)
theorem zl0(J:Store)(p:Nat)(key:Hash)(now:Option Hdr)(fd:Option (Hdr × Hdr))(own:List Nat)(hT:AudIs J p key now fd own)(hn:∀f,fd=some f->f.1.p.length=3/\ f.2.p.length=3):ACallsTo TC 19 [.ptr p 0 0] J (.tup [.agg (match fd with|none=>evZ|some f=>evC 1 f.1 f.2),.bool fd.isSome]) J:=by
 obtain⟨fv,fo,rfl,hg,hf⟩:=hT
 have d:=slen hg
 have hMade:=fun y=>z8g (J++y) p key now.isSome (now.getD zHd).n (now.getD zHd).r (now.getD zHd).i (now.getD zHd).s (z15 32 (hr (now.getD zHd).p)) fv (by rw [gapp d];exact hg)
 unfold adS at hg
 refine ACallsTo.of_body q20ok (by simp) fun hw _=> ?_
 rcases hf with⟨rfl,rfl,rfl⟩| ⟨a,b,q,rfl,rfl,rfl,hq⟩
 ·simp only [Option.isSome_none]
  repeat' (first|apply zs_|apply zb_|apply zc_|apply zt_ rfl|apply zf_ rfl|(refine zd_ rfl ?_ ?_<;>intro ht<;>try omega)|((first|apply zr_|apply zk_|apply ze_|apply zq_|(apply callW.mk_pu;(first|exact(fun _=>hMade _)))|(apply callW.za;(first|exact(hMade _)))|(apply zG<;>intro ht));all_goals try simp (disch:=first|omega|(simp only [lens,z6,z7,lQr,lQm,lQt,lQd,z8,zg,zw,zy,z1g];first|done|omega)) only [go_sem,hg]))
  exact Ext.pure hw ⟨_,rfl⟩ (zz _ rfl)
 ·obtain⟨a3,b3⟩:=hn _ rfl
  simp only at a3 b3
  have dq:=slen hq
  have hO1:=fun J=>zc3 J a (by omega) (fun e=>by rw [e]at a3;simp at a3)
  have hO2:=fun J=>zc3 J b (by omega) (fun e=>by rw [e]at b3;simp at b3)
  have hal:=zg a
  have hbl:=zg b
  have hel:=zw 1 a b
  simp only [Option.isSome_some]
  repeat' (first|apply zs_|apply zb_|apply zc_|apply zt_ rfl|apply zf_ rfl|(refine zd_ rfl ?_ ?_<;>intro ht<;>try omega)|((first|apply zr_|apply zk_|apply ze_|apply zq_|(apply callW.mk_pu;(first|exact(fun _=>hMade _)|exact(fun _=>hO1 _)|exact(fun _=>hO2 _)))|(apply callW.za;(first|exact(hMade _)|exact(hO1 _)|exact(hO2 _)))|(apply zG<;>intro ht));all_goals try simp (disch:=first|omega|(simp only [lens,z6,z7,lQr,lQm,lQt,lQd,z8,zg,zw,zy,z1g];first|done|omega)) only [go_sem,hg,hq,hal,hbl,hel]))
  exact Ext.pure hw ⟨_,rfl⟩ (by simp only [RL,RLs];exact⟨rls_ev 1 a b,trivial,trivial⟩)
theorem zih(J:Store)(a b:Hdr)(ha:a.p.length<1000000)(hb:b.p.length<1000000):ACallsTo TC 21 [.agg (evC 1 a b),.agg (evC 1 a b)] J (.bool true) J:=by
 have h1:=fun J=>zdq J a ha
 have h2:=fun J=>zdq J b hb
 have hel:=zw 1 a b
 refine ACallsTo.of_body q2fok (by simp) fun hw _=> ?_
 repeat' (first|apply zs_|apply zb_|apply zc_|apply zt_ rfl|apply zf_ rfl|(refine zd_ rfl ?_ ?_<;>intro ht<;>try omega)|((first|apply zr_|apply zk_|apply ze_|apply zq_|(apply callW.mk_pu;(first|exact(fun _=>h1 _)|exact(fun _=>h2 _)))|(apply callW.za;(first|exact(h1 _)|exact(h2 _)))|(apply zG<;>intro ht));all_goals try simp (disch:=first|omega|(simp only [lens,z6,z7,lQr,lQm,lQt,lQd,z8,zg,zw,zy,z1g];first|done|omega)) only [go_sem,hel]))
 refine zW.loop (fun m ρ J'=>J'=J++ [some [evC 1 a b],some [evC 1 a b]]/\ ρ 2= .ptr J.length 0 0/\ ρ 3= .ptr (J.length+1) 0 0/\ ρ 5= .int .i64 0) 0 ?_ ?_
 ·exact⟨rfl,by simp (disch:=first|omega|(simp only [lens,z6,z7,lQr,lQm,lQt,lQd,z8,zg,zw,zy,z1g];first|done|omega)) only [go_sem],by simp (disch:=first|omega|(simp only [lens,z6,z7,lQr,lQm,lQt,lQd,z8,zg,zw,zy,z1g];first|done|omega)) only [go_sem],by simp (disch:=first|omega|(simp only [lens,z6,z7,lQr,lQm,lQt,lQd,z8,zg,zw,zy,z1g];first|done|omega)) only [go_sem]⟩
 ·rintro m ρ J' ⟨rfl,q2,q3,q5⟩
  repeat' (first|apply zs_|apply zb_|apply zc_|apply zt_ rfl|apply zf_ rfl|(refine zd_ rfl ?_ ?_<;>intro ht<;>try omega)|((first|apply zr_|apply zk_|apply ze_|apply zq_|(apply zG<;>intro ht));all_goals try simp (disch:=first|omega|(simp only [lens,z6,z7,lQr,lQm,lQt,lQd,z8,zg,zw,zy,z1g];first|done|omega)) only [go_sem,q2,q3,q5,hel]))
  exact DownV.pure hw (zz _ rfl)
theorem zqg(J:Store)(r:Nat)(key:Hash)(now:Option Hdr)(fd:Option (Hdr × Hdr))(i:Int)(text:List UInt8)(path:List Hash)(y:AV)(hT:RaIs J r key now fd)(hy:RdSl J 32 (hr path) y)(hpl:path.length<1000000)(htl:text.length<1000000)
  (hi: -9223372036854775808<=i/\ i<=9223372036854775807) (hn:∀w,now=some w-> -9223372036854775808<=w.n/\ w.n<=9223372036854775807):ACallsTo TC 17 [.ptr r 0 0,.int .i64 i,.str text,y] J (.int .i64 (adT now i text path)) J:=by
 have d:=slen hT
 have hg:=hT
 unfold RaIs at hg
 have hLf:=fun J=>zdr J text (by omega)
 refine ACallsTo.of_body q2eok (by simp) fun hw _=> ?_
 cases now with
 |none=>
  unfold nwV at hg
  simp only at hg
  repeat' (first|apply zs_|apply zb_|apply zc_|apply zt_ rfl|apply zf_ rfl|(refine zd_ rfl ?_ ?_<;>intro ht<;>try omega)|((first|apply zr_|apply zk_|apply ze_|apply zq_|(apply zG<;>intro ht));all_goals try simp (disch:=first|omega|(simp only [lens,z6,z7,lQr,lQm,lQt,lQd,z8,zg,zw,zy,z1g];first|done|omega)) only [go_sem,hg]))
  exact DownV.same hw (zz _ rfl)
 |some w=>
  have hC:=fun y0=>zig (J++y0) (lfH text) i w.n path y w.r hy.app hpl hi (hn w rfl)
  have hwh:(hdrC w).take 33= .int .i64 w.n::hc w.r:=z9h _ _ _ _ _
  have hwl:=zg w
  unfold nwV at hg
  simp only at hg
  unfold adT
  simp only
  by_cases h1:i<0
  ·rw [if_pos (.inl h1)]
   repeat' (first|apply zs_|apply zb_|apply zc_|apply zt_ rfl|apply zf_ rfl|(refine zd_ rfl ?_ ?_<;>intro ht<;>try omega)|((first|apply zr_|apply zk_|apply ze_|apply zq_|(apply zG<;>intro ht));all_goals try simp (disch:=first|omega|(simp only [lens,z6,z7,lQr,lQm,lQt,lQd,z8,zg,zw,zy,z1g];first|done|omega)) only [go_sem,hg,h1,hwh,hwl]))
   exact Ext.pure hw ⟨_,rfl⟩ (zz _ rfl)
  ·by_cases h2:w.n<=i
   ·rw [if_pos (.inr h2)]
    have h2':i>=w.n:=h2
    repeat' (first|apply zs_|apply zb_|apply zc_|apply zt_ rfl|apply zf_ rfl|(refine zd_ rfl ?_ ?_<;>intro ht<;>try omega)|((first|apply zr_|apply zk_|apply ze_|apply zq_|(apply zG<;>intro ht));all_goals try simp (disch:=first|omega|(simp only [lens,z6,z7,lQr,lQm,lQt,lQd,z8,zg,zw,zy,z1g];first|done|omega)) only [go_sem,hg,h1,h2',hwh,hwl]))
    exact Ext.pure hw ⟨_,rfl⟩ (zz _ rfl)
   ·rw [if_neg (by omega)]
    have h2':¬i>=w.n:=h2
    by_cases h3:200<text.length
    ·rw [if_pos h3]
     have h3':(text.length:Int)>200:=by omega
     repeat' (first|apply zs_|apply zb_|apply zc_|apply zt_ rfl|apply zf_ rfl|(refine zd_ rfl ?_ ?_<;>intro ht<;>try omega)|((first|apply zr_|apply zk_|apply ze_|apply zq_|(apply zG<;>intro ht));all_goals try simp (disch:=first|omega|(simp only [lens,z6,z7,lQr,lQm,lQt,lQd,z8,zg,zw,zy,z1g];first|done|omega)) only [go_sem,hg,h1,h2',h3',hwh,hwl]))
     exact Ext.pure hw ⟨_,rfl⟩ (zz _ rfl)
    ·rw [if_neg h3]
     have h3':¬(text.length:Int)>200:=by omega
     simp only [chk_eq]at hC
     generalize chkP (lfH text) i w.n path w.r=c at*
     repeat' (first|apply zs_|apply zb_|apply zc_|apply zt_ rfl|apply zf_ rfl|(refine zd_ rfl ?_ ?_<;>intro ht<;>try omega)|((first|apply zr_|apply zk_|apply ze_|apply zq_|(apply callW.mk_pu;(first|exact(fun _=>hLf _)|exact(fun _=>hC _)))|(apply callW.za;(first|exact(hLf _)|exact(hC _)))|(apply zG<;>intro ht));all_goals try simp (disch:=first|omega|(simp only [lens,z6,z7,lQr,lQm,lQt,lQd,z8,zg,zw,zy,z1g];first|done|omega)) only [go_sem,hg,h1,h2',h3',hwh,hwl]))
     exact DownV.pure hw z4f
end
section
def z3r(L:List (List UInt8)):Bool:=L.any (fun s=>decide (200<s.length)) ||decide (30<L.length)
def TxIs(J:Store)(L:List (List UInt8))(y:AV):Prop:=(∃ex,y= .vsl 1 (strs L) ex) \/ ∃q,y= .sl q 0 L.length none 1/\ J[q]? =some (some (strs L))
theorem TxIs.app{J:Store}{L:List (List UInt8)}{y:AV}(h:TxIs J L y)(z:Store):TxIs (J++z) L y:=by
 rcases h with h| ⟨q,h,hg⟩
 ·exact .inl h
 ·exact .inr ⟨q,h,by rw [gapp (slen hg)];exact hg⟩
theorem TxIs.cells{J:Store}{L:List (List UInt8)}{y:AV}(h:TxIs J L y):cellsOf y=some [y]:=by
 rcases h with⟨ex,rfl⟩| ⟨q,rfl,_⟩<;>rfl
theorem TxIs.len{J:Store}{L:List (List UInt8)}{y:AV}(h:TxIs J L y):z1h y=some (.int .i64 L.length):=by
 rcases h with⟨ex,rfl⟩| ⟨q,rfl,_⟩
 ·show some (AV.int .i64 ((strs L).length:Nat))=_
  rw [zh]
 ·rfl
attribute [local irreducible] ACallsTo ACallsP
theorem zex(J:Store)(L:List (List UInt8))(y:AV)(hy:SlV 1 (strs L) y)(hl:L.length<9223372036854775808):ACallsTo TC 32 [y,.nilsl] J (.bool (z3r L)) J:=by
 have r1:=hy.len
 rw [zh]at r1
 unfold z1h at r1
 refine ACallsTo.of_body q2gok (by simp) fun hw _=> ?_
 repeat' (first|apply zs_|apply zb_|apply zc_|apply zt_ rfl|apply zf_ rfl|(refine zd_ rfl ?_ ?_<;>intro ht<;>try omega)|((first|apply zr_|apply zk_|apply ze_|apply zq_|(apply zG<;>intro ht));all_goals try simp (disch:=first|omega|(simp only [lens,z6,z7,lQr,lQm,lQt,lQd,z8,zh,zi,zg];first|done|omega)) only [go_sem,r1]))
 refine zW.loop (fun m ρ J'=>J'=J/\ ρ 0=y/\ ρ 1= .nilsl/\ ρ 5= .int .i64 0) 0 ?_ ?_
 ·exact⟨rfl,by simp (disch:=first|omega|(simp only [lens,z6,z7,lQr,lQm,lQt,lQd,z8,zh,zi,zg];first|done|omega)) only [go_sem],by simp (disch:=first|omega|(simp only [lens,z6,z7,lQr,lQm,lQt,lQd,z8,zh,zi,zg];first|done|omega)) only [go_sem],by simp (disch:=first|omega|(simp only [lens,z6,z7,lQr,lQm,lQt,lQd,z8,zh,zi,zg];first|done|omega)) only [go_sem]⟩
 rintro m ρ J' ⟨rfl,q0,q1,q5⟩
 repeat' (first|apply zs_|apply zb_|apply zc_|apply zt_ rfl|apply zf_ rfl|(refine zd_ rfl ?_ ?_<;>intro ht<;>try omega)|((first|apply zr_|apply zk_|apply ze_|apply zq_|(apply zG<;>intro ht));all_goals try simp (disch:=first|omega|(simp only [lens,z6,z7,lQr,lQm,lQt,lQd,z8,zh,zi,zg];first|done|omega)) only [go_sem,q0,q1,q5,r1]))
 refine zW.loop (fun m ρ J2=>∃i:Nat,m+i=L.length/\ J2=J'/\ (L.take i).any (fun s=>decide (200<s.length))=false/\ ρ 0=y/\ ρ 1= .nilsl/\ ρ 6= .int .i64 i) L.length ?_ ?_
 ·exact⟨0,by omega,rfl,by simp,by simp (disch:=first|omega|(simp only [lens,z6,z7,lQr,lQm,lQt,lQd,z8,zh,zi,zg];first|done|omega)) only [go_sem,q0],by simp (disch:=first|omega|(simp only [lens,z6,z7,lQr,lQm,lQt,lQd,z8,zh,zi,zg];first|done|omega)) only [go_sem,q1],by simp (disch:=first|omega|(simp only [lens,z6,z7,lQr,lQm,lQt,lQd,z8,zh,zi,zg];first|done|omega)) only [go_sem];rfl⟩
 ·rintro m ρ J2 ⟨i,hm,rfl,ht,q0,q1,q6⟩
  by_cases hi:i<L.length
  ·obtain⟨ex,rfl⟩:=hy.vsl (by rw [zh];omega)
   have hg:=z9m hi
   rw [show L.getD i []=stD L i from rfl]at hg
   by_cases h2:200<(stD L i).length
   ·have hb:z3r L=true:=by
     unfold z3r
     rw [List.any_eq_true.2 ⟨stD L i,z9k hi,decide_eq_true h2⟩];rfl
    rw [hb]
    have h2':((stD L i).length:Int)>200:=by omega
    repeat' (first|apply zs_|apply zb_|apply zc_|apply zt_ rfl|apply zf_ rfl|(refine zd_ rfl ?_ ?_<;>intro ht<;>try omega)|((first|apply zr_|apply zk_|apply ze_|apply zq_|(apply zG<;>intro ht));all_goals try simp (disch:=first|omega|(simp only [lens,z6,z7,lQr,lQm,lQt,lQd,z8,zh,zi,zg];first|done|omega)) only [go_sem,q0,q1,q6,hg,r1,h2']))
    exact DownV.same hw z1v
   ·have h2':¬((stD L i).length:Int)>200:=by omega
    have ht2:(L.take (i+1)).any (fun s=>decide (200<s.length))=false:=by
     rw [zeq hi,List.any_append,ht]
     simp [h2]
     try omega
    repeat' (first|apply zs_|apply zb_|apply zc_|apply zt_ rfl|apply zf_ rfl|(refine zd_ rfl ?_ ?_<;>intro ht<;>try omega)|((first|apply zr_|apply zk_|apply ze_|apply zq_|(apply zG<;>intro ht));all_goals try simp (disch:=first|omega|(simp only [lens,z6,z7,lQr,lQm,lQt,lQd,z8,zh,zi,zg];first|done|omega)) only [go_sem,q0,q1,q6,hg,r1,h2']))
    exact⟨m-1,by omega,i+1,by omega,ht2,by simp⟩
  ·obtain rfl:i=L.length:=by omega
   rw [List.take_of_length_le (Nat.le_refl _)]at ht
   unfold z3r
   rw [ht,Bool.false_or]
   by_cases h6:30<L.length
   ·rw [decide_eq_true h6]
    have h6':(L.length:Int)>30:=by omega
    repeat' (first|apply zs_|apply zb_|apply zc_|apply zt_ rfl|apply zf_ rfl|(refine zd_ rfl ?_ ?_<;>intro ht<;>try omega)|((first|apply zr_|apply zk_|apply ze_|apply zq_|(apply zG<;>intro ht));all_goals try simp (disch:=first|omega|(simp only [lens,z6,z7,lQr,lQm,lQt,lQd,z8,zh,zi,zg];first|done|omega)) only [go_sem,q0,q1,q6,r1,h6']))
    exact DownV.same hw z1v
   ·rw [decide_eq_false h6]
    have h6':¬(L.length:Int)>30:=by omega
    repeat' (first|apply zs_|apply zb_|apply zc_|apply zt_ rfl|apply zf_ rfl|(refine zd_ rfl ?_ ?_<;>intro ht<;>try omega)|((first|apply zr_|apply zk_|apply ze_|apply zq_|(apply zG<;>intro ht));all_goals try simp (disch:=first|omega|(simp only [lens,z6,z7,lQr,lQm,lQt,lQd,z8,zh,zi,zg];first|done|omega)) only [go_sem,q0,q1,q6,r1,h6']))
    exact DownV.same hw z1v
theorem zez(J:Store)(L:List (List UInt8))(q n:Nat)(lim:Option Nat)(hq:J[q]? =some (some (strs L)))(hn:n<=L.length)(hL:∀s ∈ L,s.length<1000000)(hl:L.length<1000000):ACallsTo TC 9 [.sl q 0 n lim 1] J (z15 32 (hr (lvs (L.take n)))) J:=by
 have dq:=slen hq
 have l1:=zh L
 refine ACallsTo.of_body q29ok (by simp) fun hw _=> ?_
 repeat' (first|apply zs_|apply zb_|apply zc_|apply zt_ rfl|apply zf_ rfl|(refine zd_ rfl ?_ ?_<;>intro ht<;>try omega)|((first|apply zr_|apply zk_|apply ze_|apply zq_|(apply zG<;>intro ht));all_goals try simp (disch:=first|omega|(simp only [lens,z6,z7,lQr,lQm,lQt,lQd,z8,zh,zi,zg];first|done|omega)) only [go_sem]))
 refine zW.loop (fun m ρ J'=>∃(i:Nat) (v:AV),m+i=n/\ OwnN 32 J J' v (hr (lvs (L.take i)))/\ ρ 0= .sl q 0 n lim 1/\ ρ 3=v/\ ρ 4= .int .i64 i) n ?_ ?_
 ·refine⟨0,.nilsl,by omega,?_,by simp (disch:=first|omega|(simp only [lens,z6,z7,lQr,lQm,lQt,lQd,z8,zh,zi,zg];first|done|omega)) only [go_sem],by simp (disch:=first|omega|(simp only [lens,z6,z7,lQr,lQm,lQt,lQd,z8,zh,zi,zg];first|done|omega)) only [go_sem],by simp (disch:=first|omega|(simp only [lens,z6,z7,lQr,lQm,lQt,lQd,z8,zh,zi,zg];first|done|omega)) only [go_sem];rfl⟩
  exact⟨[],by simp,.inl ⟨by simp [lvs,hr],rfl⟩⟩
 ·rintro m ρ J' ⟨i,v,hm,hO,q0,q3,q4⟩
  by_cases hi:i<n
  ·have hg:=z9m (show i<L.length by omega)
   have hq':J'[q]? =some (some (strs L)):=by
    obtain⟨y,rfl⟩:=hO.ext
    rw [gapp dq];exact hq
   have hLf:=fun J=>zdr J (stD L i) (by have:=hL _ (z9k (L:=L) (i:=i) (by omega));omega)
   obtain⟨v',J2,ha,hO2⟩:=hO.app (ys:=[hc (lfH (stD L i))]) (by simp) (by rw [z7,zi,List.length_take];simp;omega)
   have hcat:hr (lvs (L.take i))++ [hc (lfH (stD L i))]=hr (lvs (L.take (i+1))):=by rw [zeq (by omega)];simp [lvs,hr]
   rw [hcat]at hO2
   rw [show L.getD i []=stD L i from rfl]at hg
   generalize stD L i=s at*
   repeat' (first|apply zs_|apply zb_|apply zc_|apply zt_ rfl|apply zf_ rfl|(refine zd_ rfl ?_ ?_<;>intro ht<;>try omega)|((first|apply zr_|apply zk_|apply ze_|apply zq_|(apply callW.mk_pu;(first|exact(fun _=>hLf _)))|(apply callW.za;(first|exact(hLf _)))|(apply zG<;>intro ht));all_goals try simp (disch:=first|omega|(simp only [lens,z6,z7,lQr,lQm,lQt,lQd,z8,zh,zi,zg];first|done|omega)) only [go_sem,q0,q3,q4,hg,hq',l1,ha]))
   exact⟨m-1,by omega,i+1,v',by omega,hO2,by simp⟩
  ·obtain rfl:i=n:=by omega
   repeat' (first|apply zs_|apply zb_|apply zc_|apply zt_ rfl|apply zf_ rfl|(refine zd_ rfl ?_ ?_<;>intro ht<;>try omega)|((first|apply zr_|apply zk_|apply ze_|apply zq_|(apply zG<;>intro ht));all_goals try simp (disch:=first|omega|(simp only [lens,z6,z7,lQr,lQm,lQt,lQd,z8,zh,zi,zg];first|done|omega)) only [go_sem,q0,q3,q4]))
   exact hO.froze hw (z1w _)
theorem zk6(J:Store)(t q:Nat)(seed:List UInt8)(L:List (List UInt8))(n k:Nat)(a:Int)(hk:z16 .and .i64 a 7=some (.int .i64 (k:Nat)))(hk8:k<8)(hn:n<=L.length)(ht:J[t]? =some (some [z1n true seed (keyL seed)]))(hq:J[q]? =some (some (strs L)))(hs:seed.length<1000000)(hL:∀s ∈ L,s.length<1000000)(hl:L.length<1000000):
  ACallsTo TC 36 [.agg [.ptr t 0 0,.sl q 0 L.length none 1],.int .i64 n,.int .i64 a] J (.agg (hdrC (mkH seed k (L.take n)))) J:=by
 have d:=slen ht
 have dq:=slen hq
 have hLv:=fun y lim=>zez (J++y) L q n lim (by rw [gapp dq];exact hq) hn hL hl
 have hRt:=fun J=>zb2 J (lvs (L.take n)) (z15 32 (hr (lvs (L.take n)))) (.of (z2x _ _)) (by rw [zi,List.length_take];omega)
 have hD:=fun J=>zdp J (n:Int) (z1b (lvs (L.take n)))
 have hS:=fun y=>zjd (J++y) t seed (keyL seed) k (digH n (z1b (lvs (L.take n)))) (by rw [gapp d];exact ht) (z36 seed) hk8 hs
 have hm:hdrC (mkH seed k (L.take n))=sgC n (z1b (lvs (L.take n))) k (ksgS seed k (digH n (z1b (lvs (L.take n)))).1) (z15 32 (hr (z1r (keyL seed) k))):=by
  unfold mkH hdrC
  simp only [List.length_take,Nat.min_eq_left hn]
 rw [hm]
 have hrl:RLs J.length (sgC n (z1b (lvs (L.take n))) k (ksgS seed k (digH n (z1b (lvs (L.take n)))).1) (z15 32 (hr (z1r (keyL seed) k)))):=z9b (z5u (z1w _))
 unfold zbe at hS
 generalize z1b (lvs (L.take n))=R at*
 generalize hsig:ksgS seed k (digH n R).1=sig at*
 generalize z1r (keyL seed) k=PH at*
 generalize digH n R=dg at*
 refine ACallsTo.of_body q25ok (by simp) fun hw _=> ?_
 repeat' (first|apply zs_|apply zb_|apply zc_|apply zt_ rfl|apply zf_ rfl|(refine zd_ rfl ?_ ?_<;>intro ht<;>try omega)|((first|apply zr_|apply zk_|apply ze_|apply zq_|(apply callW.mk_pu;(first|exact(fun _=>hLv _ _)|exact(fun _=>hRt _)|exact(fun _=>hD _)))|(apply callW.za;(first|exact(hLv _ _)|exact(hRt _)|exact(hD _)))|(apply zG<;>intro ht));all_goals try simp (disch:=first|omega|(simp only [lens,z6,z7,lQr,lQm,lQt,lQd,z8,zh,zi,zg];first|done|omega)) only [go_sem,hk,Int.toNat_natCast,z7z]))
 refine callW.mk_pu2 (caps:=[]) (hS _) (fun h hh=>hh.elim) ?_
 simp (disch:=first|omega|(simp only [lens,z6,z7,lQr,lQm,lQt,lQd,z8,zh,zi,zg];first|done|omega)) only [go_sem,hS,List.append_nil,z7z]
 repeat' (first|apply zs_|apply zb_|apply zc_|apply zt_ rfl|apply zf_ rfl|(refine zd_ rfl ?_ ?_<;>intro ht<;>try omega)|((first|apply zr_|apply zk_|apply ze_|apply zq_|(apply zG<;>intro ht));all_goals try simp (disch:=first|omega|(simp only [lens,z6,z7,lQr,lQm,lQt,lQd,z8,zh,zi,zg];first|done|omega)) only [go_sem,z7z]))
 have e:∀(Z:List AV),Z.length=36->sgC n R k sig (z15 32 (hr PH))++(List.drop 36 (sgC n R 0 [] AV.nilsl)++List.drop (36+(List.drop 36 (sgC n R 0 [] AV.nilsl)).length) Z)=sgC n R k sig (z15 32 (hr PH)):=by
  intro Z hZ
  rw [z9g,List.nil_append,List.drop_eq_nil_of_le (by simp [hZ]),List.append_nil]
 rw [e _ rfl]
 exact Ext.pure hw ⟨_,rfl⟩ (by simp only [RL];exact hrl)
end
section
def othL(L:List (List UInt8))(k:Nat):List (List UInt8):=L.set k ((stD L k).take (min (stD L k).length 100)++ [63])
theorem zps(L:List (List UInt8))(k:Nat):(othL L k).length=L.length:=by simp [othL]
def badL(L:List (List UInt8)):Prop:=L.length<2 \/14<L.length \/z3r L=true
def LogsP(J:Store)(L:List (List UInt8))(y:AV)(k:Nat)(v:AV)(J':Store):Prop:=
 ∃t q,v= .tup [.agg [.ptr t 0 0,y],.agg [.ptr t 0 0,.sl q 0 L.length none 1],.bool true]/\ Ext J J'/\ J.length<=t/\ J.length<=q/\ J'[t]? =some (some [z1n true logS (keyL logS)])/\ J'[q]? =some (some (strs (othL L k)))
theorem LogsP.is(J:Store)(L:List (List UInt8))(y:AV)(k:Nat):∃v J',LogsP J L y k v J':=
 ⟨_,J++ [some [z1n true logS (keyL logS)],some (strs (othL L k))],J.length,J.length+1,rfl,⟨_,rfl⟩,Nat.le_refl _,by omega,by rw [z1j (by omega),Nat.sub_self];rfl,by rw [z1j (by omega),Nat.add_sub_cancel_left];rfl⟩
theorem zsd{L:List (List UInt8)}{k:Nat}{s:List UInt8}:(strs L).set k [.str s]=strs (L.set k s):=by simp [strs,List.map_set]
attribute [local irreducible] ACallsTo ACallsP
theorem zk7(J:Store)(L:List (List UInt8))(y:AV)(hy:SlV 1 (strs L) y)(part:Int)(hl:L.length<9223372036854775808)(hb:badL L):ACallsTo TC 6 [y,.int .u8 part] J (.tup [.agg [.nilp,.nilsl],.agg [.nilp,.nilsl],.bool false]) J:=by
 have r1:=hy.len
 rw [zh]at r1
 unfold z1h at r1
 have hG:=fun J=>zex J L y hy hl
 refine ACallsTo.of_body q2bok (by simp) fun hw _=> ?_
 by_cases h1:L.length<2
 ·have h1':(L.length:Int)<2:=by omega
  repeat' (first|apply zs_|apply zb_|apply zc_|apply zt_ rfl|apply zf_ rfl|(refine zd_ rfl ?_ ?_<;>intro ht<;>try omega)|((first|apply zr_|apply zk_|apply ze_|apply zq_|(apply zG<;>intro ht));all_goals try simp (disch:=first|omega|(simp only [lens,z6,z7,lQr,lQm,lQt,lQd,z8,zh,zi,zg,lQs];first|done|omega)) only [go_sem,r1,h1']))
  exact Ext.pure hw ⟨_,rfl⟩ (by simp [RL,RLs])
 have h1':¬(L.length:Int)<2:=by omega
 by_cases h2:14<L.length
 ·have h2':(L.length:Int)>14:=by omega
  repeat' (first|apply zs_|apply zb_|apply zc_|apply zt_ rfl|apply zf_ rfl|(refine zd_ rfl ?_ ?_<;>intro ht<;>try omega)|((first|apply zr_|apply zk_|apply ze_|apply zq_|(apply zG<;>intro ht));all_goals try simp (disch:=first|omega|(simp only [lens,z6,z7,lQr,lQm,lQt,lQd,z8,zh,zi,zg,lQs];first|done|omega)) only [go_sem,r1,h1',h2']))
  exact Ext.pure hw ⟨_,rfl⟩ (by simp [RL,RLs])
 have h2':¬(L.length:Int)>14:=by omega
 rcases hb with h|h|h
 ·exact absurd h h1
 ·exact absurd h h2
 ·rw [h]at hG
  repeat' (first|apply zs_|apply zb_|apply zc_|apply zt_ rfl|apply zf_ rfl|(refine zd_ rfl ?_ ?_<;>intro ht<;>try omega)|((first|apply zr_|apply zk_|apply ze_|apply zq_|(apply callW.mk_pu;(first|exact(fun _=>hG _)))|(apply callW.za;(first|exact(hG _)))|(apply zG<;>intro ht));all_goals try simp (disch:=first|omega|(simp only [lens,z6,z7,lQr,lQm,lQt,lQd,z8,zh,zi,zg,lQs];first|done|omega)) only [go_sem,r1,h1',h2']))
  exact Ext.pure hw ⟨_,rfl⟩ (by simp [RL,RLs])
theorem zk8(J:Store)(L:List (List UInt8))(ex:Bool)(part:Nat)(hp:part<=255)(hL:∀s ∈ L,s.length<=200)(hb:¬badL L):ACallsP TC 6 [.vsl 1 (strs L) ex,.int .u8 part] J (LogsP J L (.vsl 1 (strs L) ex) (part%L.length)):=by
 have h1:¬L.length<2:=fun h=>hb (.inl h)
 have h2:¬14<L.length:=fun h=>hb (.inr (.inl h))
 have h3:z3r L=false:=by cases h:z3r L with|true=>exact absurd (.inr (.inr h)) hb|false=>rfl
 have h1':¬(L.length:Int)<2:=by omega
 have h2':¬(L.length:Int)>14:=by omega
 have l1:=zh L
 have hG:=fun J=>zex J L (.vsl 1 (strs L) ex) (.inr ⟨ex,rfl⟩) (by omega)
 rw [h3]at hG
 have hMd:=fun J=>zf0 J [] (strs L) ex
 have hk:(part:Int)%L.length=((part%L.length:Nat):Int):=by omega
 have hkl:part%L.length<L.length:=Nat.mod_lt _ (by omega)
 have hL0:¬(L.length:Int)=0:=by omega
 have hLn:¬L.length=0:=by omega
 have hg:=z9m hkl
 rw [show L.getD (part%L.length) []=stD L (part%L.length)from rfl]at hg
 have hs2:=hL _ (z9k hkl)
 have hput:=fun s=>zsd (L:=L) (k:=part%L.length) (s:=s)
 have hoth:othL L (part%L.length)=L.set (part%L.length) ((stD L (part%L.length)).take (min (stD L (part%L.length)).length 100)++ [63]):=rfl
 generalize part%L.length=k at*
 generalize stD L k=s at*
 have hmin:(if (100:Int)<s.length then(100:Int)else s.length)=((min s.length 100:Nat):Int):=by split<;>omega
 refine ACallsP.of_keepW q2bok (by simp) fun hw=> ?_
 repeat' (first|apply zs_|apply zb_|apply zc_|apply zt_ rfl|apply zf_ rfl|(refine zd_ rfl ?_ ?_<;>intro ht<;>try omega)|((first|apply zr_|apply zk_|apply ze_|apply zq_|(apply callW.mk_pu;(first|exact(fun _=>hG _)|exact(fun _=>hMd _)))|(apply callW.za;(first|exact(hG _)|exact(hMd _)))|(apply zG<;>intro ht));all_goals try simp (disch:=first|omega|(simp only [lens,z6,z7,lQr,lQm,lQt,lQd,z8,zh,zi,zg,lQs];first|done|omega)) only [go_sem,l1,h1',h2',hk,hL0,hLn,hg,hput,hmin,Int.toNat_natCast]))
 exact⟨J.length+3,J.length+5,by simp,⟨_,rfl⟩,by omega,by omega,by rw [z1j (by omega),Nat.add_sub_cancel_left];rfl,by rw [z1j (by omega),Nat.add_sub_cancel_left,hoth];rfl⟩
theorem zi9(J:Store)(L:List (List UInt8))(y:AV)(m n:Nat)(hy:TxIs J L y)(hm:m<=L.length)(hn:n<=L.length)(hL:∀s ∈ L,s.length<1000000)(hl:L.length<1000000):
  ACallsTo TC 40 [y,.int .i64 m,.int .i64 n] J (z15 32 (hr (z2i (lvs (L.take (max m n))) (min m n:Nat)))) J:=by
 have hmx:(if (n:Int)>m then(n:Int)else m)=((max m n:Nat):Int):=by split<;>omega
 have hmn:(if (n:Int)<m then(n:Int)else m)=((min m n:Nat):Int):=by split<;>omega
 have hx:max m n<=L.length:=by omega
 have hPf:=fun J=>zqp J (lvs (L.take (max m n))) (z15 32 (hr (lvs (L.take (max m n))))) (min m n:Nat) (z2x _ _) (by rw [zi,List.length_take];omega)
 generalize hM:max m n=M at*
 generalize min m n=K at*
 rcases hy with⟨ex,rfl⟩| ⟨q,rfl,hq⟩
 ·have hLv:=fun J b=>zbw J (L.take M) (.vsl 1 (strs (L.take M)) b) (.inr ⟨b,rfl⟩) (fun s hs=>hL s (List.mem_of_mem_take hs)) (by rw [List.length_take];omega)
  have l1:=zh L
  refine ACallsTo.of_body q2hok (by simp) fun hw _=> ?_
  repeat' (first|apply zs_|apply zb_|apply zc_|apply zt_ rfl|apply zf_ rfl|(refine zd_ rfl ?_ ?_<;>intro ht<;>try omega)|((first|apply zr_|apply zk_|apply ze_|apply zq_|(apply callW.mk_pu;(first|exact(fun _=>hLv _ _)|exact(fun _=>hPf _)))|(apply callW.za;(first|exact(hLv _ _)|exact(hPf _)))|(apply zG<;>intro ht));all_goals try simp (disch:=first|omega|(simp only [lens,z6,z7,lQr,lQm,lQt,lQd,z8,zh,zi,zg,lQs];first|done|omega)) only [go_sem,hmx,hmn,l1,Int.toNat_natCast,zj9]))
  exact DownV.same hw (z5u (z1w _))
 ·have hLv:=fun lim=>zez J L q M lim hq hx hL hl
  refine ACallsTo.of_body q2hok (by simp) fun hw _=> ?_
  repeat' (first|apply zs_|apply zb_|apply zc_|apply zt_ rfl|apply zf_ rfl|(refine zd_ rfl ?_ ?_<;>intro ht<;>try omega)|((first|apply zr_|apply zk_|apply ze_|apply zq_|(apply callW.mk_pu;(first|exact(fun _=>hLv _)|exact(fun _=>hPf _)))|(apply callW.za;(first|exact(hLv _)|exact(hPf _)))|(apply zG<;>intro ht));all_goals try simp (disch:=first|omega|(simp only [lens,z6,z7,lQr,lQm,lQt,lQd,z8,zh,zi,zg,lQs];first|done|omega)) only [go_sem,hmx,hmn,Int.toNat_natCast]))
  exact DownV.same hw (z5u (z1w _))
end
section
theorem xor1_b(a:UInt8):z16 .xor .u8 (a.toNat:Int) 1=some (.int .u8 ((a^^^1).toNat:Int)):=by
 rw [zhd ⟨by omega,by have:=a.toNat_lt;omega⟩ ⟨by omega,by omega⟩];simp
theorem zlg(s:List UInt8)(i:Nat)(b:UInt8):(zn s).set i [.int .u8 (b.toNat:Int)]=zn (s.set i b):=by
 simp [zn,B8,List.map_set]
theorem ziu(n:Int)(r:Hash)(i:Int)(s u:List UInt8)(x:AV):(sgC n r i s x).set 34 (.str u)=sgC n r i u x:=by
 unfold sgC
 rw [List.set_cons_succ,List.set_append_right _ _ (by rw [z6];omega),z6];rfl
theorem zrk(n:Int)(r:Hash)(i:Int)(s u:List UInt8)(x:AV):(sgC n r i s x).take 34++ .str u::(sgC n r i s x).drop 35=sgC n r i u x:=by
 rw [<-ziu n r i s u x,List.set_eq_take_append_cons_drop,if_pos (by rw [z8];omega)]
def WhatIs(L:List (List UInt8))(ex:Bool)(O:List (List UInt8))(x:List AV)(nw:Nat)(h:Hdr)(P:List Hash)(z:AV):Prop:=
 ∀(J:Store) (t q:Nat),J[t]? =some (some [z1n true logS (keyL logS)])->J[q]? =some (some (strs O))->
  ACallsTo TC 12 [.agg x,.agg [.ptr t 0 0,.vsl 1 (strs L) ex],.agg [.ptr t 0 0,.sl q 0 L.length none 1],.int .i64 nw] J (.tup [.agg (hdrC h),z]) J
attribute [local irreducible] ACallsTo ACallsP
theorem zsw(L O:List (List UInt8))(ex:Bool)(kd sz i:Nat)(text:List UInt8)(R:List Hash)(y:AV)(nw:Nat)(hk:kd<=255)(hsz:sz<=255)(hi:i<=255)(hy:SlV 32 (hr R) y)(hR:R.length<1000000)
  (h2:2<=L.length) (h14:L.length<=14) (hO:O.length=L.length) (hL:∀s ∈ L,s.length<1000000) (hOL:∀s ∈ O,s.length<1000000):
  ∃h P z,SlV 32 (hr P) z/\ P.length<1000000/\ h.p.length=3/\ (1<=h.n/\ h.n<=14)/\ WhatIs L ex O [.int .u8 kd,.int .u8 sz,.int .u8 i,.str text,y] nw h P z:=by
 have hj:(sz:Int)%L.length=((sz%L.length:Nat):Int):=by omega
 have hjl:sz%L.length<L.length:=Nat.mod_lt _ (by omega)
 have hL0:¬(L.length:Int)=0:=by omega
 have hLn:¬L.length=0:=by omega
 have hkd:(kd:Int)%11=((kd%11:Nat):Int):=by omega
 have hmin:(if (L.length:Int)<nw then(L.length:Int)else nw)=((min nw L.length:Nat):Int):=by split<;>omega
 have hml:min nw L.length<=L.length:=by omega
 have hand:z16 .and .i64 (i:Int) 7=some (.int .i64 ((i%8:Nat):Int)):=by rw [and7];congr 1
 have hi8:i%8<8:=by omega
 have l1:=zh L
 obtain⟨n,hn⟩:∃n,n=1+sz%L.length:=⟨_,rfl⟩
 have hn1:(1:Int)+((sz%L.length:Nat):Int)=(n:Int):=by omega
 have hnl:n<=L.length:=by omega
 have hn0:1<=n:=by omega
 clear hn
 have HA:=fun J t hg=>zbx J t logS L ex n (i%8) i hand hi8 hnl hg zar hL (by omega)
 have HB:=fun J t q hg hq=>zk6 J t q logS O n (i%8) i hand hi8 (by omega) hg hq zar hOL (by omega)
 have PA:=fun J=>zi9 J L (.vsl 1 (strs L) ex) (min nw L.length) n (.inl ⟨ex,rfl⟩) hml hnl hL (by omega)
 have PB:=fun J q (hq:J[q]? =some (some (strs O)))=>zi9 J O (.sl q 0 O.length none 1) (min nw L.length) n (.inr ⟨q,rfl,hq⟩) (by omega) (by omega) hOL (by omega)
 rw [hO]at PB HB
 have pA:(z2i (lvs (L.take (max (min nw L.length) n))) (min (min nw L.length) n:Nat)).length<1000000:=by
  have:=zdd (lvs (L.take (max (min nw L.length) n))) (min (min nw L.length) n:Nat)
  rw [zi,List.length_take]at this
  omega
 have pB:(z2i (lvs (O.take (max (min nw L.length) n))) (min (min nw L.length) n:Nat)).length<1000000:=by
  have:=zdd (lvs (O.take (max (min nw L.length) n))) (min (min nw L.length) n:Nat)
  rw [zi,List.length_take]at this
  omega
 have mA:(mkH logS (i%8) (L.take n)).p.length=3/\ (mkH logS (i%8) (L.take n)).n=n/\ (mkH logS (i%8) (L.take n)).s.length=16384:=⟨zat _ _,by simp only [mkH,List.length_take];omega,zcw _ _ _⟩
 have mB:(mkH logS (i%8) (O.take n)).p.length=3/\ (mkH logS (i%8) (O.take n)).n=n:=⟨zat _ _,by simp only [mkH,List.length_take];omega⟩
 generalize z2i (lvs (L.take (max (min nw L.length) n))) (min (min nw L.length) n:Nat)=pfA at*
 generalize z2i (lvs (O.take (max (min nw L.length) n))) (min (min nw L.length) n:Nat)=pfB at*
 generalize min nw L.length=m at*
 generalize mkH logS (i%8) (L.take n)=hA at*
 generalize mkH logS (i%8) (O.take n)=hB at*
 generalize sz%L.length=j at*
 clear hand hi8
 have lA:=zg hA
 have lB:=zg hB
 have dA:(hdrC hA).drop 36=[]:=z9g _ _ _ _ _
 have dB:(hdrC hB).drop 36=[]:=z9g _ _ _ _ _
 have aA:=z3s hA
 have aB:=z3s hB
 by_cases h4:kd%11=4
 ·refine⟨hB,pfB,z15 32 (hr pfB),z2x _ _,pB,mB.1,by omega,fun J t q hg hq=> ?_⟩
  have dg:=slen hg
  have dq:=slen hq
  have HA':=fun y=>HA (J++y) t (by rw [gapp dg];exact hg)
  have HB':=fun y=>HB (J++y) t q (by rw [gapp dg];exact hg) (by rw [gapp dq];exact hq)
  have PB':=fun y=>PB (J++y) q (by rw [gapp dq];exact hq)
  clear HA HB PB
  rw [h4]at hkd
  refine ACallsTo.of_body zaz (by simp) fun hw _=> ?_
  repeat' (first|apply zs_|apply zb_|apply zc_|apply zt_ rfl|apply zf_ rfl|(refine zd_ rfl ?_ ?_<;>intro ht<;>try omega)|((first|apply zr_|apply zk_|apply ze_|apply zq_|(apply callW.mk_pu;(first|exact(fun _=>HA' _)|exact(fun _=>HB' _)|exact(fun _=>PA _)|exact(fun _=>PB' _)))|(apply callW.za;(first|exact(HA' _)|exact(HB' _)|exact(PA _)|exact(PB' _)))|(apply zG<;>intro ht));all_goals try simp (disch:=first|omega|(simp only [lens,z6,z7,lQr,lQm,lQt,lQd,z8,zh,zi,zg,lQs,zx];first|done|omega)) only [go_sem,hmin,hj,hL0,hLn,hkd,hn1,l1,lA,lB,aA,aB,dA,dB,List.append_nil,List.nil_append]))
  exact DownV.pure hw (by simp only [RL,RLs];exact⟨z7v _,z5u (z1w _),trivial⟩)
 by_cases h5:kd%11=5
 ·refine⟨hA,R,y,hy,hR,mA.1,by omega,fun J t q hg hq=> ?_⟩
  have dg:=slen hg
  have HA':=fun y=>HA (J++y) t (by rw [gapp dg];exact hg)
  clear HA HB PB
  rw [h5]at hkd
  refine ACallsTo.of_body zaz (by simp) fun hw _=> ?_
  repeat' (first|apply zs_|apply zb_|apply zc_|apply zt_ rfl|apply zf_ rfl|(refine zd_ rfl ?_ ?_<;>intro ht<;>try omega)|((first|apply zr_|apply zk_|apply ze_|apply zq_|(apply callW.mk_pu;(first|exact(fun _=>HA' _)|exact(fun _=>PA _)))|(apply callW.za;(first|exact(HA' _)|exact(PA _)))|(apply zG<;>intro ht));all_goals try simp (disch:=first|omega|(simp only [lens,z6,z7,lQr,lQm,lQt,lQd,z8,zh,zi,zg,lQs,zx];first|done|omega)) only [go_sem,hmin,hj,hL0,hLn,hkd,hn1,l1,lA,lB,aA,aB]))
  exact DownV.pure hw (by simp only [RL,RLs];exact⟨z7v _,slv_rl hy,trivial⟩)
 by_cases h6:kd%11=6
 ·obtain⟨a1,a2,a3,a4,a5⟩:=hA
  obtain⟨m1,m2,m3⟩:=mA
  simp only at m1 m2 m3
  simp only [hdrC]at HA
  obtain⟨k,hk6⟩:∃k,k=i*60:=⟨_,rfl⟩
  have hkl:k<a4.length:=by omega
  have hk1:((i:Int)*60)%a4.length=(k:Int):=by rw [m3,hk6];omega
  have hk2:(a4.length:Int)>0:=by omega
  have hk3:¬(a4.length:Int)=0:=by omega
  have hget:=z7k hkl
  refine⟨⟨a1,a2,a3,a4.set k (a4.getD k 0^^^1),a5⟩,pfA,z15 32 (hr pfA),z2x _ _,pA,m1,by simp only;omega,fun J t q hg hq=> ?_⟩
  have dg:=slen hg
  have HA':=fun y=>HA (J++y) t (by rw [gapp dg];exact hg)
  clear HA HB PB lA aA dA
  rw [h6]at hkd
  have hset:=zlg a4 k (a4.getD k 0^^^1)
  have hxor:=xor1_b (a4.getD k 0)
  have hrl:RLs J.length (sgC a1 a2 a3 (a4.set k (a4.getD k 0^^^1)) (z15 32 (hr a5))):=z9b (z5u (z1w _))
  simp only [hdrC]
  generalize a4.getD k 0=b at*
  refine ACallsTo.of_body zaz (by simp) fun hw _=> ?_
  repeat' (first|apply zs_|apply zb_|apply zc_|apply zt_ rfl|apply zf_ rfl|(refine zd_ rfl ?_ ?_<;>intro ht<;>try omega)|((first|apply zr_|apply zk_|apply ze_|apply zq_|(apply callW.mk_pu;(first|exact(fun _=>HA' _)|exact(fun _=>PA _)))|(apply callW.za;(first|exact(HA' _)|exact(PA _)))|(apply zG<;>intro ht));all_goals try simp (disch:=first|omega|(simp only [lens,z6,z7,lQr,lQm,lQt,lQd,z8,zh,zi,zg,lQs,zx];first|done|omega)) only [go_sem,hmin,hj,hL0,hLn,hkd,hn1,l1,hk1,hk2,hk3,hget,hset,hxor,zrk,ziu]))
  exact DownV.pure hw (by simp only [RL,RLs];exact⟨hrl,z5u (z1w _),trivial⟩)
 ·refine⟨hA,pfA,z15 32 (hr pfA),z2x _ _,pA,mA.1,by omega,fun J t q hg hq=> ?_⟩
  have dg:=slen hg
  have HA':=fun y=>HA (J++y) t (by rw [gapp dg];exact hg)
  clear HA HB PB
  have e4:¬((kd%11:Nat):Int)=4:=by omega
  have e5:¬((kd%11:Nat):Int)=5:=by omega
  have e6:¬((kd%11:Nat):Int)=6:=by omega
  generalize kd%11=kk at*
  refine ACallsTo.of_body zaz (by simp) fun hw _=> ?_
  repeat' (first|apply zs_|apply zb_|apply zc_|apply zt_ rfl|apply zf_ rfl|(refine zd_ rfl ?_ ?_<;>intro ht<;>try omega)|((first|apply zr_|apply zk_|apply ze_|apply zq_|(apply callW.mk_pu;(first|exact(fun _=>HA' _)|exact(fun _=>PA _)))|(apply callW.za;(first|exact(HA' _)|exact(PA _)))|(apply zG<;>intro ht));all_goals try simp (disch:=first|omega|(simp only [lens,z6,z7,lQr,lQm,lQt,lQd,z8,zh,zi,zg,lQs,zx];first|done|omega)) only [go_sem,hmin,hj,hL0,hLn,hkd,e4,e5,e6,hn1,l1,lA,lB,aA,aB]))
  exact DownV.pure hw (by simp only [RL,RLs];exact⟨z7v _,z5u (z1w _),trivial⟩)
end
section
def zbz(l:List Hash)(j:Nat)(P:List Hash)(e:Int):Prop:=
 ∀(J:Store) (t:Bool),ACallsTo TC 15 [.vsl 32 (hr l) t,.int .i64 j] J (.tup [ownV J 32 (hr P),.int .i64 e]) (ownS J (hr P))
attribute [local irreducible] ACallsTo ACallsP
theorem zds:∀(f:Nat) (l:List Hash) (j:Nat),l.length<=f->f<=1000->j<l.length->∃P,P.length<=f/\ zbz l j P 0
 | 0,l,j,hf,h9,hj=>by omega
 |f+1,l,j,hf,h9,hj=>by
  by_cases h1:l.length=1
  ·refine⟨[],by simp,fun J t=> ?_⟩
   have hl1:(l.length:Int)=1:=by omega
   have hj0:(j:Int)=0:=by omega
   have hp0:hr ([]:List Hash)=[]:=rfl
   unfold ownV ownS
   rw [if_pos hp0,if_pos hp0]
   refine ACallsTo.of_body zay (by simp) fun hw _=> ?_
   repeat' (first|apply zs_|apply zb_|apply zc_|apply zt_ rfl|apply zf_ rfl|(refine zd_ rfl ?_ ?_<;>intro ht<;>try omega)|((first|apply zr_|apply zk_|apply ze_|apply zq_|(apply zG<;>intro ht));all_goals try simp (disch:=first|omega|(simp only [lens,z6,z7,lQr,lQm,lQt,lQd];first|done|omega)) only [go_sem,hl1,hj0]))
   exact Ext.pure hw (.refl J) (zz _ rfl)
  have hl2:2<=l.length:=by omega
  have hl1:¬(l.length:Int)=1:=by omega
  have hj1:¬(j:Int)>=l.length:=by omega
  have hSp:=fun J=>z9a J l.length (by omega)
  obtain⟨s1,s2,s3⟩:=z3a hl2
  generalize zu l.length=k at*
  have tl:(l.take k).length=k:=by rw [List.length_take];omega
  have dl:(l.drop k).length=l.length-k:=by rw [List.length_drop]
  have hRa:=fun J t=>zb2 J (l.take k) (.vsl 32 (hr (l.take k)) t) (.of (.inr ⟨t,rfl⟩)) (by omega)
  have hRb:=fun J t=>zb2 J (l.drop k) (.vsl 32 (hr (l.drop k)) t) (.of (.inr ⟨t,rfl⟩)) (by omega)
  by_cases hj2:j<k
  ·obtain⟨PF,hPl,hIH⟩:=zds f (l.take k) j (by omega) (by omega) (by omega)
   refine⟨PF++ [z1b (l.drop k)],by rw [List.length_append];simp;omega,fun J t=> ?_⟩
   have hIH':=fun J t=>hIH J t
   generalize z1b (l.drop k)=R at*
   have hj2':(j:Int)<k:=by omega
   obtain⟨v',J2,ha,hO2⟩:=(z4e J 32 (hr PF)).app (ys:=[hc R]) (by simp) (by rw [z7];simp;omega)
   rw [show hr PF++ [hc R]=hr (PF++ [R])by simp [hr]]at hO2
   refine ACallsTo.of_body zay (by simp) fun hw _=> ?_
   repeat' (first|apply zs_|apply zb_|apply zc_|apply zt_ rfl|apply zf_ rfl|(refine zd_ rfl ?_ ?_<;>intro ht<;>try omega)|((first|apply zr_|apply zk_|apply ze_|apply zq_|(apply callW.mk_pu;(first|exact(fun _=>hSp _)|exact(fun _=>hIH' _ _)|exact(fun _=>hRb _ _)))|(apply callW.za;(first|exact(hSp _)|exact(hIH' _ _)|exact(hRb _ _)))|(apply zG<;>intro ht));all_goals try simp (disch:=first|omega|(simp only [lens,z6,z7,lQr,lQm,lQt,lQd];first|done|omega)) only [go_sem,hl1,hj1,hj2',ha,Int.toNat_natCast]))
   exact DownV.tup2 (hO2.own hw (z1w _))
  ·obtain⟨PF,hPl,hIH⟩:=zds f (l.drop k) (j-k) (by omega) (by omega) (by omega)
   refine⟨PF++ [z1b (l.take k)],by rw [List.length_append];simp;omega,fun J t=> ?_⟩
   have hIH':=fun J t=>hIH J t
   generalize z1b (l.take k)=R at*
   have hj2':¬(j:Int)<k:=by omega
   have hsub:(j:Int)-k=((j-k:Nat):Int):=by omega
   unfold zbz at hIH
   rw [<-hsub]at hIH'
   obtain⟨v',J2,ha,hO2⟩:=(z4e J 32 (hr PF)).app (ys:=[hc R]) (by simp) (by rw [z7];simp;omega)
   rw [show hr PF++ [hc R]=hr (PF++ [R])by simp [hr]]at hO2
   refine ACallsTo.of_body zay (by simp) fun hw _=> ?_
   repeat' (first|apply zs_|apply zb_|apply zc_|apply zt_ rfl|apply zf_ rfl|(refine zd_ rfl ?_ ?_<;>intro ht<;>try omega)|((first|apply zr_|apply zk_|apply ze_|apply zq_|(apply callW.mk_pu;(first|exact(fun _=>hSp _)|exact(fun _=>hIH' _ _)|exact(fun _=>hRa _ _)))|(apply callW.za;(first|exact(hSp _)|exact(hIH' _ _)|exact(hRa _ _)))|(apply zG<;>intro ht));all_goals try simp (disch:=first|omega|(simp only [lens,z6,z7,lQr,lQm,lQt,lQd];first|done|omega)) only [go_sem,hl1,hj1,hj2',ha,Int.toNat_natCast]))
   exact DownV.tup2 (hO2.own hw (z1w _))
theorem zqn(l:List Hash)(j:Nat)(hl:l.length<=1000):∃P e,P.length<=1000/\ zbz l j P e:=by
 by_cases hj:j<l.length
 ·obtain⟨P,h1,h2⟩:=zds 1000 l j hl (Nat.le_refl _) hj
  exact⟨P,0,h1,h2⟩
 ·refine⟨[],2,by simp,fun J t=> ?_⟩
  have hj1:(j:Int)>=l.length:=by omega
  have hp0:hr ([]:List Hash)=[]:=rfl
  unfold ownV ownS
  rw [if_pos hp0,if_pos hp0]
  refine ACallsTo.of_body zay (by simp) fun hw _=> ?_
  repeat' (first|apply zs_|apply zb_|apply zc_|apply zt_ rfl|apply zf_ rfl|(refine zd_ rfl ?_ ?_<;>intro ht<;>try omega)|((first|apply zr_|apply zk_|apply ze_|apply zq_|(apply zG<;>intro ht));all_goals try simp (disch:=first|omega|(simp only [lens,z6,z7,lQr,lQm,lQt,lQd];first|done|omega)) only [go_sem,hj1]))
  exact Ext.pure hw (.refl J) (zz _ rfl)
end
section
def HdOk(h:Hdr):Prop:=h.p.length=3/\ 1<=h.n/\ h.n<=14
def PlInv(J1:Store)(p r:Nat)(key:Hash)(J:Store):Prop:=
 ∃now fd own,AudIs J p key now fd own/\ RaIs J r key now fd/\ r ∉ own/\ J1.length<=J.length/\ (∀j,j<J1.length->j ≠ p->j ≠ r->j ∉ own/\ J[j]? =J1[j]?)/\ (∀w,now=some w->HdOk w)/\ (∀f,fd=some f->HdOk f.1/\ HdOk f.2)
theorem RaIs.app{J:Store}{r:Nat}{key:Hash}{now:Option Hdr}{fd:Option (Hdr × Hdr)}(h:RaIs J r key now fd)(y:Store):RaIs (J++y) r key now fd:=by
 unfold RaIs at h ⊢
 rw [gapp (slen h)];exact h
theorem PlInv.app{J1:Store}{p r:Nat}{key:Hash}{J:Store}(h:PlInv J1 p r key J)(y:Store):PlInv J1 p r key (J++y):=by
 obtain⟨now,fd,own,hT,hR,hrn,hle,hk,hno,hfo⟩:=h
 refine⟨now,fd,own,hT.ext ⟨y,rfl⟩,hR.app y,hrn,by rw [List.length_append];omega,fun j hj hp hr=> ?_,hno,hfo⟩
 obtain⟨a,b⟩:=hk j hj hp hr
 exact⟨a,by rw [gapp (by omega)];exact b⟩
theorem PlInv.get{J1:Store}{p r:Nat}{key:Hash}{J:Store}(h:PlInv J1 p r key J){j:Nat}{o:Option AObj}(hj:J1[j]? =some o)(hp:j ≠ p)(hr:j ≠ r):J[j]? =some o:=by
 obtain⟨now,fd,own,hT,hR,hrn,hle,hk,hno,hfo⟩:=h
 rw [(hk j (slen hj) hp hr).2];exact hj
theorem ziv:hdrC ⟨0,zeroH,0,[],[]⟩=sgZ:=rfl
theorem adN_ok{key:Hash}{now:Option Hdr}{s:Hdr}{pf:List Hash}(hs:HdOk s)(h:∀w,now=some w->HdOk w):∀w,adN key now s pf=some w->HdOk w:=by
 intro w hw
 unfold adN at hw
 split at hw
 ·cases hw;exact hs
 ·exact h w hw
theorem adF_ok{key:Hash}{now:Option Hdr}{fd:Option (Hdr × Hdr)}{s:Hdr}{pf:List Hash}(hs:HdOk s)(h:∀w,now=some w->HdOk w)(h2:∀f,fd=some f->HdOk f.1/\ HdOk f.2):∀f,adF key now fd s pf=some f->HdOk f.1/\ HdOk f.2:=by
 intro f hf
 unfold adF at hf
 split at hf
 ·rename_i h6
  cases fd with
  |some g=>cases hf;exact h2 _ rfl
  |none=>
   cases now with
   |none=>unfold adE at h6;split at h6<;>simp at h6
   |some w=>cases hf;exact⟨h w rfl,hs⟩
 ·exact h2 f hf
attribute [local irreducible] ACallsTo ACallsP
theorem zq3(Q:AExit->Env->Store->Prop)(J1 J y:Store)(p r b:Nat)(key:Hash)(h:Hdr)(P:List Hash)(z:AV)(hI:PlInv J1 p r key J)(hb:(J++y)[b]? =some (some [hdrC h]))(hbl:J.length<=b)(hz:SlV 32 (hr P) z)(hP:P.length<1000000)(hh:HdOk h)
  (ρ:Env) (q11:ρ 11= .ptr p 0 0) (q12:ρ 12= .ptr r 0 0) (q17:ρ 17= .ptr b 0 0) (q18:ρ 18=z)
  (hQ:∀ρ' J3,PlInv J1 p r key J3->ρ' 0=ρ 0->ρ' 2=ρ 2->ρ' 7=ρ 7->ρ' 8=ρ 8->ρ' 10=ρ 10->ρ' 11=ρ 11->ρ' 12=ρ 12->ρ' 13=ρ 13->ρ' 14=ρ 14->Q .normal ρ' J3):
  zW TC 193 0 zdg Q ρ (J++y):=by
 obtain⟨now,fd,own,hT,hR,hrn,hle,hk,hno,hfo⟩:=hI
 have hT':=hT.ext (J':=J++y) ⟨y,rfl⟩
 have hR':=hR.app y
 have hbn:b ∉ own:=fun hm=>by have:=hT.lt hm;omega
 have hrl:r<J.length:=slen hR
 have hbr:b ≠ r:=by omega
 have hk':∀j,j<J1.length->j ≠ p->j ≠ r->j ∉ own/\ (J++y)[j]? =J1[j]?:=fun j hj h1 h2=>by
  obtain⟨a,c⟩:=hk j hj h1 h2
  exact⟨a,by rw [gapp (by omega)];exact c⟩
 have hle':J1.length<=(J++y).length:=by rw [List.length_append];omega
 have hrl':r<(J++y).length:=by rw [List.length_append];omega
 clear hT hR hk hle hrl hbl
 generalize J++y=τ at*
 have la:=zg h
 have aa:=z3s h
 have hN:=adN_ok (key:=key) (pf:=P) hh hno
 have hF:=adF_ok (key:=key) (pf:=P) hh hno hfo
 repeat' (first|apply zs_|apply zb_|apply zc_|apply zt_ rfl|apply zf_ rfl|(refine zd_ rfl ?_ ?_<;>intro ht<;>try omega)|((first|apply zr_|apply zk_|apply ze_|apply zq_|(apply zG<;>intro ht));all_goals try simp (disch:=first|omega|(simp only [lens,z6,z7,lQr,lQm,lQt,lQd,z8,zg,zw,zy];first|done|omega)) only [go_sem,q11,q12,q17,q18,hb,la,aa]))
 refine callW.mkP_ef (caps:=[]) (z7i τ p key now fd own h P (z15 32 (hr h.p)) z hT' (.of (z2x _ _)) (.of hz) hP) (AHeadP.is hT') ?_
 rintro v s2 ⟨rfl,own2,fr,T2⟩
 have hb2:=fr.get hb hbn
 have R2:RaIs s2 r key now fd:=fr.get hR' hrn
 refine⟨by simp (disch:=first|omega|(simp only [lens,z6,z7,lQr,lQm,lQt,lQd,z8,zg,zw,zy];first|done|omega)) only [go_sem,q11,q12,q17,q18,hb,hb2,la,aa],?_⟩
 simp (disch:=first|omega|(simp only [lens,z6,z7,lQr,lQm,lQt,lQd,z8,zg,zw,zy];first|done|omega)) only [go_sem,q11,q12,q17,q18,hb,hb2,la,aa]
 refine callW.mkP (caps:=[]) (zqh s2 r key now fd h P z R2 (.of hz) hP) (RHeadP.is R2) ?_
 rintro v s3 ⟨rfl,fr2,R3⟩
 have hr2:r ∉ own2:=fr.notin hrl' hrn
 have T3:=T2.keep fun j hj=>fr2.st j (T2.lt hj) (by simp only [List.mem_singleton];intro e;subst e;exact hr2 hj)
 have hle2:=fr.le
 have hle3:=fr2.le
 have hI3:PlInv J1 p r key s3:=⟨_,_,own2,T3,R3,hr2,by omega,fun j hj h1 h2=>by
  obtain⟨a,c⟩:=hk' j hj h1 h2
  refine⟨fr.notin (by omega) a,?_⟩
  rw [fr2.st j (by omega) (by simp only [List.mem_singleton];exact h2),fr.st j (by omega) a];exact c,hN,hF⟩
 generalize adE key now h P=e at*
 simp (disch:=first|omega|(simp only [lens,z6,z7,lQr,lQm,lQt,lQd,z8,zg,zw,zy];first|done|omega)) only [go_sem,q11,q12,q17,q18]
 repeat' (first|apply zs_|apply zb_|apply zc_|apply zt_ rfl|apply zf_ rfl|(refine zd_ rfl ?_ ?_<;>intro ht<;>try omega)|((first|apply zr_|apply zk_|apply ze_|apply zq_|(apply zG<;>intro ht));all_goals try simp (disch:=first|omega|(simp only [lens,z6,z7,lQr,lQm,lQt,lQd,z8,zg,zw,zy];first|done|omega)) only [go_sem,q11,q12,q17,q18]))
 exact hQ _ _ hI3 (by simp (disch:=first|omega|(simp only [lens,z6,z7,lQr,lQm,lQt,lQd,z8,zg,zw,zy];first|done|omega)) only [go_sem]) (by simp (disch:=first|omega|(simp only [lens,z6,z7,lQr,lQm,lQt,lQd,z8,zg,zw,zy];first|done|omega)) only [go_sem]) (by simp (disch:=first|omega|(simp only [lens,z6,z7,lQr,lQm,lQt,lQd,z8,zg,zw,zy];first|done|omega)) only [go_sem]) (by simp (disch:=first|omega|(simp only [lens,z6,z7,lQr,lQm,lQt,lQd,z8,zg,zw,zy];first|done|omega)) only [go_sem]) (by simp (disch:=first|omega|(simp only [lens,z6,z7,lQr,lQm,lQt,lQd,z8,zg,zw,zy];first|done|omega)) only [go_sem]) (by simp (disch:=first|omega|(simp only [lens,z6,z7,lQr,lQm,lQt,lQd,z8,zg,zw,zy];first|done|omega)) only [go_sem]) (by simp (disch:=first|omega|(simp only [lens,z6,z7,lQr,lQm,lQt,lQd,z8,zg,zw,zy];first|done|omega)) only [go_sem]) (by simp (disch:=first|omega|(simp only [lens,z6,z7,lQr,lQm,lQt,lQd,z8,zg,zw,zy];first|done|omega)) only [go_sem]) (by simp (disch:=first|omega|(simp only [lens,z6,z7,lQr,lQm,lQt,lQd,z8,zg,zw,zy];first|done|omega)) only [go_sem])
theorem zdb(Q:AExit->Env->Store->Prop)(J1 J:Store)(p r:Nat)(key:Hash)(i:Int)(text:List UInt8)(P:List Hash)(y:AV)(hI:PlInv J1 p r key J)(hy:RdSl J 32 (hr P) y)(hP:P.length<1000000)(htl:text.length<1000000)(hi: -9223372036854775808<=i/\ i<=9223372036854775807)
  (ρ:Env) (q11:ρ 11= .ptr p 0 0) (q12:ρ 12= .ptr r 0 0) (q19:ρ 19= .int .i64 i) (q20:ρ 20=y) (q22:ρ 22= .str text)
  (hQ:∀ρ',ρ' 0=ρ 0->ρ' 2=ρ 2->ρ' 7=ρ 7->ρ' 8=ρ 8->ρ' 10=ρ 10->ρ' 11=ρ 11->ρ' 12=ρ 12->ρ' 13=ρ 13->ρ' 14=ρ 14->Q .normal ρ' J):
  zW TC 193 0 zdh Q ρ J:=by
 obtain⟨now,fd,own,hT,hR,hrn,hle,hk,hno,hfo⟩:=hI
 have hn:∀w,now=some w-> -9223372036854775808<=w.n/\ w.n<=9223372036854775807:=fun w hw=>by have:=hno w hw;unfold HdOk at this;omega
 have hA:=z8f J p key now fd own i text P y hT hy hP htl hi hn
 have hB:=zqg J r key now fd i text P y hR hy hP htl hi hn
 generalize adT now i text P=e at*
 repeat' (first|apply zs_|apply zb_|apply zc_|apply zt_ rfl|apply zf_ rfl|(refine zd_ rfl ?_ ?_<;>intro ht<;>try omega)|((first|apply zr_|apply zk_|apply ze_|apply zq_|(apply callW.mk_pu;(first|exact(fun _=>hA)|exact(fun _=>hB)))|(apply callW.za;(first|exact(hA)|exact(hB)))|(apply zG<;>intro ht));all_goals try simp (disch:=first|omega|(simp only [lens,z6,z7,lQr,lQm,lQt,lQd,z8,zg,zw,zy];first|done|omega)) only [go_sem,q11,q12,q19,q20,q22]))
 exact hQ _ (by simp (disch:=first|omega|(simp only [lens,z6,z7,lQr,lQm,lQt,lQd,z8,zg,zw,zy];first|done|omega)) only [go_sem]) (by simp (disch:=first|omega|(simp only [lens,z6,z7,lQr,lQm,lQt,lQd,z8,zg,zw,zy];first|done|omega)) only [go_sem]) (by simp (disch:=first|omega|(simp only [lens,z6,z7,lQr,lQm,lQt,lQd,z8,zg,zw,zy];first|done|omega)) only [go_sem]) (by simp (disch:=first|omega|(simp only [lens,z6,z7,lQr,lQm,lQt,lQd,z8,zg,zw,zy];first|done|omega)) only [go_sem]) (by simp (disch:=first|omega|(simp only [lens,z6,z7,lQr,lQm,lQt,lQd,z8,zg,zw,zy];first|done|omega)) only [go_sem]) (by simp (disch:=first|omega|(simp only [lens,z6,z7,lQr,lQm,lQt,lQd,z8,zg,zw,zy];first|done|omega)) only [go_sem]) (by simp (disch:=first|omega|(simp only [lens,z6,z7,lQr,lQm,lQt,lQd,z8,zg,zw,zy];first|done|omega)) only [go_sem]) (by simp (disch:=first|omega|(simp only [lens,z6,z7,lQr,lQm,lQt,lQd,z8,zg,zw,zy];first|done|omega)) only [go_sem]) (by simp (disch:=first|omega|(simp only [lens,z6,z7,lQr,lQm,lQt,lQd,z8,zg,zw,zy];first|done|omega)) only [go_sem])
theorem zav(Q:AExit->Env->Store->Prop)(J1 J:Store)(p r nw:Nat)(key:Hash)(hI:PlInv J1 p r key J)
  (ρ:Env) (q11:ρ 11= .ptr p 0 0) (q12:ρ 12= .ptr r 0 0) (q13:ρ 13= .int .i64 nw)
  (hQ:∀ρ' J3 (nw':Nat),PlInv J1 p r key J3->ρ' 13= .int .i64 nw'->ρ' 0=ρ 0->ρ' 2=ρ 2->ρ' 7=ρ 7->ρ' 8=ρ 8->ρ' 10=ρ 10->ρ' 11=ρ 11->ρ' 12=ρ 12->ρ' 14=ρ 14->Q .normal ρ' J3):
  zW TC 193 0 zdi Q ρ J:=by
 have hI0:=hI
 obtain⟨now,fd,own,hT,hR,hrn,hle,hk,hno,hfo⟩:=hI
 have hA:=fun y=>zfn (J++y) p key now fd own (hT.ext ⟨y,rfl⟩) (fun w hw=>(hno w hw).1)
 have hE:=fun y=>zl0 (J++y) p key now fd own (hT.ext ⟨y,rfl⟩) (fun f hf=>⟨(hfo f hf).1.1,(hfo f hf).2.1⟩)
 have hA0:=zfn J p key now fd own hT (fun w hw=>(hno w hw).1)
 have hg:J[r]? =some (some [raC key (nwV now) (fdV fd)]):=hR
 have dr:=slen hg
 have zl:sgZ.length=36:=by rw [<-ziv];exact zg _
 have za:sgZ.take 36=sgZ:=by rw [<-ziv];exact z3s _
 have ezl:evZ.length=106:=rfl
 have eza:evZ.take 106=evZ:=rfl
 cases now with
 |none=>
  have hQ':=fun ρ' J3 a b=>hQ ρ' J3 nw a b
  unfold nwV at hg
  simp only [Option.isSome_none]at hA hA0 hg
  cases fd with
  |none=>
   unfold fdV at hg
   simp only [Option.isSome_none]at hE hg
   generalize evZ=ez at*
   generalize sgZ=sz at*
   repeat' (first|apply zs_|apply zb_|apply zc_|apply zt_ rfl|apply zf_ rfl|(refine zd_ rfl ?_ ?_<;>intro ht<;>try omega)|((first|apply zr_|apply zk_|apply ze_|apply zq_|(apply callW.mk_pu;(first|exact(fun _=>hA0)|exact(fun _=>hA _)|exact(fun _=>hE _)))|(apply callW.za;(first|exact(hA0)|exact(hA _)|exact(hE _)))|(apply zG<;>intro ht));all_goals try simp (disch:=first|omega|(simp only [lens,z6,z7,lQr,lQm,lQt,lQd,z8,zg,zw,zy];first|done|omega)) only [go_sem,q11,q12,q13,hg,zl,za,ezl,eza]))
   exact hQ' _ _ (hI0.app _) (by simp (disch:=first|omega|(simp only [lens,z6,z7,lQr,lQm,lQt,lQd,z8,zg,zw,zy];first|done|omega)) only [go_sem,q13]) (by simp (disch:=first|omega|(simp only [lens,z6,z7,lQr,lQm,lQt,lQd,z8,zg,zw,zy];first|done|omega)) only [go_sem]) (by simp (disch:=first|omega|(simp only [lens,z6,z7,lQr,lQm,lQt,lQd,z8,zg,zw,zy];first|done|omega)) only [go_sem]) (by simp (disch:=first|omega|(simp only [lens,z6,z7,lQr,lQm,lQt,lQd,z8,zg,zw,zy];first|done|omega)) only [go_sem]) (by simp (disch:=first|omega|(simp only [lens,z6,z7,lQr,lQm,lQt,lQd,z8,zg,zw,zy];first|done|omega)) only [go_sem]) (by simp (disch:=first|omega|(simp only [lens,z6,z7,lQr,lQm,lQt,lQd,z8,zg,zw,zy];first|done|omega)) only [go_sem]) (by simp (disch:=first|omega|(simp only [lens,z6,z7,lQr,lQm,lQt,lQd,z8,zg,zw,zy];first|done|omega)) only [go_sem]) (by simp (disch:=first|omega|(simp only [lens,z6,z7,lQr,lQm,lQt,lQd,z8,zg,zw,zy];first|done|omega)) only [go_sem]) (by simp (disch:=first|omega|(simp only [lens,z6,z7,lQr,lQm,lQt,lQd,z8,zg,zw,zy];first|done|omega)) only [go_sem])
  |some f=>
   unfold fdV at hg
   simp only [Option.isSome_some]at hE hg
   have el:=zw 1 f.1 f.2
   have ea:=zgs 1 f.1 f.2
   have hS:=fun J=>zih J f.1 f.2 (by have:=(hfo f rfl).1.1;omega) (by have:=(hfo f rfl).2.1;omega)
   generalize sgZ=sz at*
   repeat' (first|apply zs_|apply zb_|apply zc_|apply zt_ rfl|apply zf_ rfl|(refine zd_ rfl ?_ ?_<;>intro ht<;>try omega)|((first|apply zr_|apply zk_|apply ze_|apply zq_|(apply callW.mk_pu;(first|exact(fun _=>hA0)|exact(fun _=>hA _)|exact(fun _=>hE _)|exact(fun _=>hS _)))|(apply callW.za;(first|exact(hA0)|exact(hA _)|exact(hE _)|exact(hS _)))|(apply zG<;>intro ht));all_goals try simp (disch:=first|omega|(simp only [lens,z6,z7,lQr,lQm,lQt,lQd,z8,zg,zw,zy];first|done|omega)) only [go_sem,q11,q12,q13,hg,zl,za,el,ea]))
   exact hQ' _ _ (hI0.app _) (by simp (disch:=first|omega|(simp only [lens,z6,z7,lQr,lQm,lQt,lQd,z8,zg,zw,zy];first|done|omega)) only [go_sem,q13]) (by simp (disch:=first|omega|(simp only [lens,z6,z7,lQr,lQm,lQt,lQd,z8,zg,zw,zy];first|done|omega)) only [go_sem]) (by simp (disch:=first|omega|(simp only [lens,z6,z7,lQr,lQm,lQt,lQd,z8,zg,zw,zy];first|done|omega)) only [go_sem]) (by simp (disch:=first|omega|(simp only [lens,z6,z7,lQr,lQm,lQt,lQd,z8,zg,zw,zy];first|done|omega)) only [go_sem]) (by simp (disch:=first|omega|(simp only [lens,z6,z7,lQr,lQm,lQt,lQd,z8,zg,zw,zy];first|done|omega)) only [go_sem]) (by simp (disch:=first|omega|(simp only [lens,z6,z7,lQr,lQm,lQt,lQd,z8,zg,zw,zy];first|done|omega)) only [go_sem]) (by simp (disch:=first|omega|(simp only [lens,z6,z7,lQr,lQm,lQt,lQd,z8,zg,zw,zy];first|done|omega)) only [go_sem]) (by simp (disch:=first|omega|(simp only [lens,z6,z7,lQr,lQm,lQt,lQd,z8,zg,zw,zy];first|done|omega)) only [go_sem]) (by simp (disch:=first|omega|(simp only [lens,z6,z7,lQr,lQm,lQt,lQd,z8,zg,zw,zy];first|done|omega)) only [go_sem])
 |some w=>
  obtain⟨w3,w1,w14⟩:=hno w rfl
  obtain⟨nw',hnw⟩:∃nw':Nat,w.n=(nw':Int):=⟨w.n.toNat,by omega⟩
  have hQ':=fun ρ' J3 a b=>hQ ρ' J3 nw' a b
  have hSh:=fun J=>zdq J w (by omega)
  have wl:=zg w
  have wa:=z3s w
  have w0:=zni w
  rw [hnw]at w0
  unfold nwV at hg
  simp only [Option.isSome_some]at hA hA0 hg
  cases fd with
  |none=>
   unfold fdV at hg
   simp only [Option.isSome_none]at hE hg
   generalize evZ=ez at*
   repeat' (first|apply zs_|apply zb_|apply zc_|apply zt_ rfl|apply zf_ rfl|(refine zd_ rfl ?_ ?_<;>intro ht<;>try omega)|((first|apply zr_|apply zk_|apply ze_|apply zq_|(apply callW.mk_pu;(first|exact(fun _=>hA0)|exact(fun _=>hA _)|exact(fun _=>hE _)|exact(fun _=>hSh _)))|(apply callW.za;(first|exact(hA0)|exact(hA _)|exact(hE _)|exact(hSh _)))|(apply zG<;>intro ht));all_goals try simp (disch:=first|omega|(simp only [lens,z6,z7,lQr,lQm,lQt,lQd,z8,zg,zw,zy];first|done|omega)) only [go_sem,q11,q12,q13,hg,wl,wa,w0,ezl,eza]))
   exact hQ' _ _ (hI0.app _) (by simp (disch:=first|omega|(simp only [lens,z6,z7,lQr,lQm,lQt,lQd,z8,zg,zw,zy];first|done|omega)) only [go_sem,q13]) (by simp (disch:=first|omega|(simp only [lens,z6,z7,lQr,lQm,lQt,lQd,z8,zg,zw,zy];first|done|omega)) only [go_sem]) (by simp (disch:=first|omega|(simp only [lens,z6,z7,lQr,lQm,lQt,lQd,z8,zg,zw,zy];first|done|omega)) only [go_sem]) (by simp (disch:=first|omega|(simp only [lens,z6,z7,lQr,lQm,lQt,lQd,z8,zg,zw,zy];first|done|omega)) only [go_sem]) (by simp (disch:=first|omega|(simp only [lens,z6,z7,lQr,lQm,lQt,lQd,z8,zg,zw,zy];first|done|omega)) only [go_sem]) (by simp (disch:=first|omega|(simp only [lens,z6,z7,lQr,lQm,lQt,lQd,z8,zg,zw,zy];first|done|omega)) only [go_sem]) (by simp (disch:=first|omega|(simp only [lens,z6,z7,lQr,lQm,lQt,lQd,z8,zg,zw,zy];first|done|omega)) only [go_sem]) (by simp (disch:=first|omega|(simp only [lens,z6,z7,lQr,lQm,lQt,lQd,z8,zg,zw,zy];first|done|omega)) only [go_sem]) (by simp (disch:=first|omega|(simp only [lens,z6,z7,lQr,lQm,lQt,lQd,z8,zg,zw,zy];first|done|omega)) only [go_sem])
  |some f=>
   unfold fdV at hg
   simp only [Option.isSome_some]at hE hg
   have el:=zw 1 f.1 f.2
   have ea:=zgs 1 f.1 f.2
   have hS:=fun J=>zih J f.1 f.2 (by have:=(hfo f rfl).1.1;omega) (by have:=(hfo f rfl).2.1;omega)
   repeat' (first|apply zs_|apply zb_|apply zc_|apply zt_ rfl|apply zf_ rfl|(refine zd_ rfl ?_ ?_<;>intro ht<;>try omega)|((first|apply zr_|apply zk_|apply ze_|apply zq_|(apply callW.mk_pu;(first|exact(fun _=>hA0)|exact(fun _=>hA _)|exact(fun _=>hE _)|exact(fun _=>hSh _)|exact(fun _=>hS _)))|(apply callW.za;(first|exact(hA0)|exact(hA _)|exact(hE _)|exact(hSh _)|exact(hS _)))|(apply zG<;>intro ht));all_goals try simp (disch:=first|omega|(simp only [lens,z6,z7,lQr,lQm,lQt,lQd,z8,zg,zw,zy];first|done|omega)) only [go_sem,q11,q12,q13,hg,wl,wa,w0,el,ea]))
   exact hQ' _ _ (hI0.app _) (by simp (disch:=first|omega|(simp only [lens,z6,z7,lQr,lQm,lQt,lQd,z8,zg,zw,zy];first|done|omega)) only [go_sem,q13]) (by simp (disch:=first|omega|(simp only [lens,z6,z7,lQr,lQm,lQt,lQd,z8,zg,zw,zy];first|done|omega)) only [go_sem]) (by simp (disch:=first|omega|(simp only [lens,z6,z7,lQr,lQm,lQt,lQd,z8,zg,zw,zy];first|done|omega)) only [go_sem]) (by simp (disch:=first|omega|(simp only [lens,z6,z7,lQr,lQm,lQt,lQd,z8,zg,zw,zy];first|done|omega)) only [go_sem]) (by simp (disch:=first|omega|(simp only [lens,z6,z7,lQr,lQm,lQt,lQd,z8,zg,zw,zy];first|done|omega)) only [go_sem]) (by simp (disch:=first|omega|(simp only [lens,z6,z7,lQr,lQm,lQt,lQd,z8,zg,zw,zy];first|done|omega)) only [go_sem]) (by simp (disch:=first|omega|(simp only [lens,z6,z7,lQr,lQm,lQt,lQd,z8,zg,zw,zy];first|done|omega)) only [go_sem]) (by simp (disch:=first|omega|(simp only [lens,z6,z7,lQr,lQm,lQt,lQd,z8,zg,zw,zy];first|done|omega)) only [go_sem]) (by simp (disch:=first|omega|(simp only [lens,z6,z7,lQr,lQm,lQt,lQd,z8,zg,zw,zy];first|done|omega)) only [go_sem])
end
section
structure Act33 where
 k:Nat
 z:Nat
 i:Nat
 t:List UInt8
 R:List Hash
 y:AV
def ac33(a:Act33):List AV:=[.int .u8 a.k,.int .u8 a.z,.int .u8 a.i,.str a.t,a.y]
def Act33.Ok(a:Act33):Prop:=SlV 32 (hr a.R) a.y/\ a.k<=255/\ a.z<=255/\ a.i<=255
def actG(a:Act33):Bool:=decide (300<a.t.length \/20<a.R.length)
def z4t(l:List Act33)(n:Int):Bool:=l.any actG ||decide (n<l.length)
theorem zn3{l:List Act33}{n:Int}(h:z4t l n=false):(l.length:Int)<=n/\ ∀a ∈ l,a.t.length<=300/\ a.R.length<=20:=by
 unfold z4t actG at h
 simp only [Bool.or_eq_false_iff,decide_eq_false_iff_not,List.any_eq_false,decide_eq_true_eq]at h
 exact⟨by omega,fun a ha=>by have:=h.1 a ha;omega⟩
theorem zfc{l:List Act33}{i:Nat}{a:Act33}(h:l[i]? =some a):(l.map ac33)[i]? =some [.int .u8 a.k,.int .u8 a.z,.int .u8 a.i,.str a.t,a.y]:=by rw [List.getElem?_map,h];rfl
theorem zkr{x:AV}(h:ShC (.sl 5 z8d) [x]):∃l:List Act33,SlV 5 (l.map ac33) x/\ l.length<=maxLen/\ ∀a ∈ l,a.Ok:=by
 simp only [ShC]at h
 rcases h with h| ⟨es,h,hl,_,h2⟩
 ·cases h
  exact⟨[],.inl ⟨rfl,rfl⟩,Nat.zero_le _,by simp⟩
 ·cases h
  have:∀es:List (List AV),(∀x ∈ es,ShC z8d x)->∃l:List Act33,es=l.map ac33/\ ∀a ∈ l,a.Ok:=by
   intro es
   induction es with
   |nil=>intro _;exact⟨[],rfl,by simp⟩
   |cons e es ih=>
    intro h
    obtain⟨a,b,c,t,R,y,rfl,hy,_,_,⟨a0,a1⟩,⟨b0,b1⟩,⟨c0,c1⟩⟩:=zkq (h e (by simp))
    obtain⟨l,rfl,hl⟩:=ih fun x hx=>h x (by simp [hx])
    obtain⟨a,rfl⟩:∃k:Nat,a=k:=⟨a.toNat,by omega⟩
    obtain⟨b,rfl⟩:∃k:Nat,b=k:=⟨b.toNat,by omega⟩
    obtain⟨c,rfl⟩:∃k:Nat,c=k:=⟨c.toNat,by omega⟩
    exact⟨⟨a,b,c,t,R,y⟩::l,rfl,fun q hb=>by rcases List.mem_cons.1 hb with rfl|h1;exact⟨hy,by simp only;omega,by simp only;omega,by simp only;omega⟩;exact hl q h1⟩
  obtain⟨l,rfl,hok⟩:=this es h2
  exact⟨l,.inr ⟨false,rfl⟩,by rwa [List.length_map]at hl,hok⟩
attribute [local irreducible] ACallsTo ACallsP
theorem zk3(J:Store)(l:List Act33)(n:Int)(y:AV)(hy:SlV 5 (l.map ac33) y)(hl:l.length<9223372036854775808)(hok:∀a ∈ l,a.Ok):ACallsTo TC 7 [y,.int .i64 n] J (.bool (z4t l n)) J:=by
 have r1:=hy.len
 rw [List.length_map]at r1
 unfold z1h at r1
 refine ACallsTo.of_body q1xok (by simp) fun hw _=> ?_
 repeat' (first|apply zs_|apply zb_|apply zc_|apply zt_ rfl|apply zf_ rfl|(refine zd_ rfl ?_ ?_<;>intro ht<;>try omega)|((first|apply zr_|apply zk_|apply ze_|apply zq_|(apply zG<;>intro ht));all_goals try simp (disch:=first|omega|(simp only [lens,z6,z7,lQr,lQm,lQt,lQd];first|done|omega)) only [go_sem,r1]))
 refine zW.loop (fun m ρ J'=>∃i:Nat,m+i=l.length/\ J'=J/\ (l.take i).any actG=false/\ ρ 0=y/\ ρ 1= .int .i64 n/\ ρ 5= .int .i64 i) l.length ?_ ?_
 ·exact⟨0,by omega,rfl,by simp,by simp (disch:=first|omega|(simp only [lens,z6,z7,lQr,lQm,lQt,lQd];first|done|omega)) only [go_sem],by simp (disch:=first|omega|(simp only [lens,z6,z7,lQr,lQm,lQt,lQd];first|done|omega)) only [go_sem],by simp (disch:=first|omega|(simp only [lens,z6,z7,lQr,lQm,lQt,lQd];first|done|omega)) only [go_sem];rfl⟩
 ·rintro m ρ J' ⟨i,hm,rfl,ht,q0,q1,q5⟩
  by_cases hi:i<l.length
  ·obtain⟨ex,rfl⟩:=hy.vsl (by rw [List.length_map];omega)
   obtain⟨a,hal⟩:∃a,l[i]? =some a:=⟨_,List.getElem?_eq_getElem hi⟩
   have ham:a ∈ l:=List.mem_of_getElem? hal
   have hg:=zfc hal
   have r2:=(hok a ham).1.len
   rw [z7]at r2
   unfold z1h at r2
   by_cases h2:300<a.t.length
   ·have hb:z4t l n=true:=by
     unfold z4t
     rw [List.any_eq_true.2 ⟨a,ham,decide_eq_true (.inl h2)⟩];rfl
    rw [hb]
    have h2':(a.t.length:Int)>300:=by omega
    repeat' (first|apply zs_|apply zb_|apply zc_|apply zt_ rfl|apply zf_ rfl|(refine zd_ rfl ?_ ?_<;>intro ht<;>try omega)|((first|apply zr_|apply zk_|apply ze_|apply zq_|(apply zG<;>intro ht));all_goals try simp (disch:=first|omega|(simp only [lens,z6,z7,lQr,lQm,lQt,lQd];first|done|omega)) only [go_sem,q0,q1,q5,hg,r1,r2,h2']))
    exact DownV.same hw z1v
   ·have h2':¬(a.t.length:Int)>300:=by omega
    by_cases h3:20<a.R.length
    ·have hb:z4t l n=true:=by
      unfold z4t
      rw [List.any_eq_true.2 ⟨a,ham,decide_eq_true (.inr h3)⟩];rfl
     rw [hb]
     have h3':(a.R.length:Int)>20:=by omega
     repeat' (first|apply zs_|apply zb_|apply zc_|apply zt_ rfl|apply zf_ rfl|(refine zd_ rfl ?_ ?_<;>intro ht<;>try omega)|((first|apply zr_|apply zk_|apply ze_|apply zq_|(apply zG<;>intro ht));all_goals try simp (disch:=first|omega|(simp only [lens,z6,z7,lQr,lQm,lQt,lQd];first|done|omega)) only [go_sem,q0,q1,q5,hg,r1,r2,h2',h3']))
     exact DownV.same hw z1v
    ·have h3':¬(a.R.length:Int)>20:=by omega
     have ht2:(l.take (i+1)).any actG=false:=by
      rw [List.take_add_one,hal,List.any_append,ht]
      simp [actG]
      omega
     repeat' (first|apply zs_|apply zb_|apply zc_|apply zt_ rfl|apply zf_ rfl|(refine zd_ rfl ?_ ?_<;>intro ht<;>try omega)|((first|apply zr_|apply zk_|apply ze_|apply zq_|(apply zG<;>intro ht));all_goals try simp (disch:=first|omega|(simp only [lens,z6,z7,lQr,lQm,lQt,lQd];first|done|omega)) only [go_sem,q0,q1,q5,hg,r1,r2,h2',h3']))
     exact⟨m-1,by omega,i+1,by omega,ht2,by simp⟩
  ·obtain rfl:i=l.length:=by omega
   rw [List.take_of_length_le (Nat.le_refl _)]at ht
   unfold z4t
   rw [ht,Bool.false_or]
   by_cases h6:n<l.length
   ·rw [decide_eq_true h6]
    have h6':(l.length:Int)>n:=by omega
    repeat' (first|apply zs_|apply zb_|apply zc_|apply zt_ rfl|apply zf_ rfl|(refine zd_ rfl ?_ ?_<;>intro ht<;>try omega)|((first|apply zr_|apply zk_|apply ze_|apply zq_|(apply zG<;>intro ht));all_goals try simp (disch:=first|omega|(simp only [lens,z6,z7,lQr,lQm,lQt,lQd];first|done|omega)) only [go_sem,q0,q1,q5,r1,h6']))
    exact DownV.same hw z1v
   ·rw [decide_eq_false h6]
    have h6':¬(l.length:Int)>n:=by omega
    repeat' (first|apply zs_|apply zb_|apply zc_|apply zt_ rfl|apply zf_ rfl|(refine zd_ rfl ?_ ?_<;>intro ht<;>try omega)|((first|apply zr_|apply zk_|apply ze_|apply zq_|(apply zG<;>intro ht));all_goals try simp (disch:=first|omega|(simp only [lens,z6,z7,lQr,lQm,lQt,lQd];first|done|omega)) only [go_sem,q0,q1,q5,r1,h6']))
    exact DownV.same hw z1v
end
end Am
end Go.Proofs.YtfldkpghggbdkaaGreatDoor
