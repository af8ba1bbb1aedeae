import Derived.Test.YtlfpiblipmiobaaGreatDoorK44f0e28f9
import Derived.Test.YtlfpiblipmiobaaGreatDoorK31d830b3d
import Derived.Test.YtlfpiblipmiobaaGreatDoorK292660182
import Derived.Test.YtlfpiblipmiobaaGreatDoorRows
import Derived.Test.YtlfpiblipmiobaaGreatDoorCards
import Derived.Test.YtlfpiblipmiobaaGreatDoorTie
import Derived.ProofKit
import Derived.LaidMore
import Derived.OpenShut
import Derived.Stop.Joined
import Derived.SevenTiedAt
import Derived.MakeChecks
set_option linter.unusedSimpArgs false
set_option linter.unusedVariables false
open Nat (reduceEqDiff reduceAdd reduceMul reduceSub reduceLeDiff)
open Int (reduceToNat reducePow)
open Nat renaming reduceEqDiff -> nQ1, reduceBEq -> nQ2, reduceAdd -> nQ3, reduceMul -> nQ4, reduceSub -> nQ5, reduceLeDiff -> nQ6
open Int renaming reduceToNat -> nQ7, reducePow -> nQ8
open List renaming length_reverse -> lQr, length_map -> lQm, length_take -> lQt, length_drop -> lQd, length_set -> lQs
set_option maxHeartbeats 16000000
attribute [local go_sem_proc] Nat.reduceEqDiff Nat.reduceBEq Nat.reduceAdd Nat.reduceMul Nat.reduceSub Nat.reduceLeDiff Int.reduceToNat Int.reducePow
namespace Go.Proofs.YtlfpiblipmiobaaGreatDoor
namespace Am
section
def ordI(n m:Int)(a b:Hash):Int:=if n ≠ m then(if n<m then 0 else 2)else if a ≠ b then 3 else 1
def z7t(n n2 i i2:Int)(r r2:Hash)(s s2:List UInt8)(l l2:List Hash):Bool:=decide (n=n2/\ r=r2/\ i=i2/\ s=s2/\ l=l2)
attribute [local irreducible] ACallsTo ACallsP
theorem zgp(O:Store)(n m:Int)(a b:Hash):ACallsTo TC 90 [.agg (.int .i64 n::hc a),.agg (.int .i64 m::hc b)] O (.int .i64 (ordI n m a b)) O:=by
 unfold ordI
 refine ACallsTo.of_body q1sok (by simp) fun hw _=> ?_
 rcases Int.lt_trichotomy n m with h|h|h
 ·rw [if_pos (by omega),if_pos h]
  repeat' (first|apply zs_|apply zb_|apply zc_|apply zt_ rfl|apply zf_ rfl|(apply zd_ rfl<;>intro ht<;>try omega)|((first|apply zr_|apply zk_|apply ze_|apply zq_|(apply zG<;>intro ht));all_goals try simp (disch:=first|omega|(simp only [lens,z8,zg,lQr,zh];first|done|omega)) only [go_sem,h]))
  all_goals exact DownV.pure hw (z15 _ rfl)
 ·subst h
  by_cases h2:a=b
  ·subst h2
   rw [if_neg (by simp),if_neg (by simp)]
   repeat' (first|apply zs_|apply zb_|apply zc_|apply zt_ rfl|apply zf_ rfl|(apply zd_ rfl<;>intro ht<;>try omega)|((first|apply zr_|apply zk_|apply ze_|apply zq_|(apply zG<;>intro ht));all_goals try simp (disch:=first|omega|(simp only [lens,z8,zg,lQr,zh];first|done|omega)) only [go_sem]))
   all_goals exact DownV.pure hw (z15 _ rfl)
  ·rw [if_neg (by simp),if_pos h2]
   repeat' (first|apply zs_|apply zb_|apply zc_|apply zt_ rfl|apply zf_ rfl|(apply zd_ rfl<;>intro ht<;>try omega)|((first|apply zr_|apply zk_|apply ze_|apply zq_|(apply zG<;>intro ht));all_goals try simp (disch:=first|omega|(simp only [lens,z8,zg,lQr,zh];first|done|omega)) only [go_sem,h2]))
   all_goals exact DownV.pure hw (z15 _ rfl)
 ·rw [if_pos (by omega),if_neg (by omega)]
  repeat' (first|apply zs_|apply zb_|apply zc_|apply zt_ rfl|apply zf_ rfl|(apply zd_ rfl<;>intro ht<;>try omega)|((first|apply zr_|apply zk_|apply ze_|apply zq_|(apply zG<;>intro ht));all_goals try simp (disch:=first|omega|(simp only [lens,z8,zg,lQr,zh];first|done|omega)) only [go_sem,h]))
  all_goals exact DownV.pure hw (z15 _ rfl)
theorem zks(O:Store)(n n2 i i2:Int)(r r2:Hash)(s s2:List UInt8)(l l2:List Hash)(x y:AV)(hx:SlV 32 (hr l) x)(hy:SlV 32 (hr l2) y)(hl:l.length<1000000)(hl2:l2.length<1000000):
  ACallsTo TC 50 [.agg (sgC n r i s x),.agg (sgC n2 r2 i2 s2 y)] O (.bool (z7t n n2 i i2 r r2 s s2 l l2)) O:=by
 have a1:=hx.len
 have a2:=hy.len
 rw [zg]at a1 a2
 unfold z1k at a1 a2
 unfold z7t
 refine ACallsTo.of_body q1yok (by simp) fun hw _=> ?_
 by_cases h1:n=n2/\ r=r2
 ·have e1:=(sg_eq n n2 r r2).trans (decide_eq_true h1)
  by_cases h2:i=i2
  ·subst h2
   by_cases h3:s=s2
   ·subst h3
    rw [show decide (n=n2/\ r=r2/\ i=i/\ s=s/\ l=l2)=decide (l=l2)from by rw [Bool.eq_iff_iff];simp [h1]]
    by_cases hll:l.length=l2.length
    ·have hll':(l.length:Int)=l2.length:=by omega
     repeat' (first|apply zs_|apply zb_|apply zc_|apply zt_ rfl|apply zf_ rfl|(apply zd_ rfl<;>intro ht<;>try omega)|((first|apply zr_|apply zk_|apply ze_|apply zq_|(apply zG<;>intro ht));all_goals try simp (disch:=first|omega|(simp only [lens,z8,zg,lQr,zh];first|done|omega)) only [go_sem,e1,a1,a2,hll',z1l,eq_self,and_self,if_true]))
     refine zW.loop (fun m J O'=>∃k:Nat,m+k=l.length/\ O'=O++ [some [sgC n r i s x],some [sgC n2 r2 i s y]]/\ l.take k=l2.take k/\ J 2=.ptr O.length 0 0/\ J 3=.ptr (O.length+1) 0 0/\ J 5=.int .i64 k) l.length ?_ ?_
     ·exact⟨0,by omega,rfl,rfl,by simp (disch:=first|omega|(simp only [lens,z8,zg,lQr,zh];first|done|omega)) only [go_sem],by simp (disch:=first|omega|(simp only [lens,z8,zg,lQr,zh];first|done|omega)) only [go_sem],by simp (disch:=first|omega|(simp only [lens,z8,zg,lQr,zh];first|done|omega)) only [go_sem];rfl⟩
     ·rintro m J O' ⟨k,hm,rfl,htk,q2,q3,q5⟩
      by_cases hk:k<l.length
      ·obtain⟨ex,rfl⟩:=hx.vsl (by rw [zg];omega)
       obtain⟨ex2,rfl⟩:=hy.vsl (by rw [zg];omega)
       have hk':(k:Int)<l2.length:=by omega
       by_cases hh:hd l k=hd l2 k
       ·have t1:=z6f (l:=l) (i:=k) hk
        have t2:=z6f (l:=l2) (i:=k) (by omega)
        repeat' (first|apply zs_|apply zb_|apply zc_|apply zt_ rfl|apply zf_ rfl|(apply zd_ rfl<;>intro ht<;>try omega)|((first|apply zr_|apply zk_|apply ze_|apply zq_|(apply zG<;>intro ht));all_goals try simp (disch:=first|omega|(simp only [lens,z8,zg,lQr,zh];first|done|omega)) only [go_sem,q2,q3,q5,a1,a2,hk',hh]))
        exact⟨m-1,by omega,k+1,by omega,by rw [t1,t2,htk,hh],by simp⟩
       ·rw [decide_eq_false (fun e=>hh (by rw [e]))]
        repeat' (first|apply zs_|apply zb_|apply zc_|apply zt_ rfl|apply zf_ rfl|(apply zd_ rfl<;>intro ht<;>try omega)|((first|apply zr_|apply zk_|apply ze_|apply zq_|(apply zG<;>intro ht));all_goals try simp (disch:=first|omega|(simp only [lens,z8,zg,lQr,zh];first|done|omega)) only [go_sem,q2,q3,q5,a1,a2,hk',hh]))
        exact DownV.pure hw z19
      ·have hk':¬(k:Int)<l2.length:=by omega
       have:l=l2:=by
        rw [List.take_of_length_le (by omega),List.take_of_length_le (by omega)]at htk
        exact htk
       rw [decide_eq_true this]
       repeat' (first|apply zs_|apply zb_|apply zc_|apply zt_ rfl|apply zf_ rfl|(apply zd_ rfl<;>intro ht<;>try omega)|((first|apply zr_|apply zk_|apply ze_|apply zq_|(apply zG<;>intro ht));all_goals try simp (disch:=first|omega|(simp only [lens,z8,zg,lQr,zh];first|done|omega)) only [go_sem,q2,q3,q5,a1,a2,hll',hk']))
       exact DownV.pure hw z19
    ·rw [decide_eq_false (fun e=>hll (by rw [e]))]
     have hll':¬(l.length:Int)=l2.length:=by omega
     repeat' (first|apply zs_|apply zb_|apply zc_|apply zt_ rfl|apply zf_ rfl|(apply zd_ rfl<;>intro ht<;>try omega)|((first|apply zr_|apply zk_|apply ze_|apply zq_|(apply zG<;>intro ht));all_goals try simp (disch:=first|omega|(simp only [lens,z8,zg,lQr,zh];first|done|omega)) only [go_sem,e1,a1,a2,hll',z1l,eq_self,and_self,if_true]))
     exact DownV.pure hw z19
   ·rw [decide_eq_false (by simp [h3])]
    have e:(s==s2)=false:=beq_false_of_ne h3
    repeat' (first|apply zs_|apply zb_|apply zc_|apply zt_ rfl|apply zf_ rfl|(apply zd_ rfl<;>intro ht<;>try omega)|((first|apply zr_|apply zk_|apply ze_|apply zq_|(apply zG<;>intro ht));all_goals try simp (disch:=first|omega|(simp only [lens,z8,zg,lQr,zh];first|done|omega)) only [go_sem,e1,e,z1l,eq_self,and_self,if_true]))
    exact DownV.pure hw z19
  ·rw [decide_eq_false (by simp [h2])]
   repeat' (first|apply zs_|apply zb_|apply zc_|apply zt_ rfl|apply zf_ rfl|(apply zd_ rfl<;>intro ht<;>try omega)|((first|apply zr_|apply zk_|apply ze_|apply zq_|(apply zG<;>intro ht));all_goals try simp (disch:=first|omega|(simp only [lens,z8,zg,lQr,zh];first|done|omega)) only [go_sem,e1,h2,z1l,eq_self,and_self,if_true]))
   exact DownV.pure hw z19
 ·rw [decide_eq_false (by rintro⟨a,b,_⟩;exact h1 ⟨a,b⟩)]
  have e1:=(sg_eq n n2 r r2).trans (decide_eq_false h1)
  repeat' (first|apply zs_|apply zb_|apply zc_|apply zt_ rfl|apply zf_ rfl|(apply zd_ rfl<;>intro ht<;>try omega)|((first|apply zr_|apply zk_|apply ze_|apply zq_|(apply zG<;>intro ht));all_goals try simp (disch:=first|omega|(simp only [lens,z8,zg,lQr,zh];first|done|omega)) only [go_sem,e1,z1l,eq_self,and_self,if_true]))
  exact DownV.pure hw z19
end
section
set_option maxRecDepth 10000

end
section
set_option maxRecDepth 10000
def q1zr0:yW:=[
 yI 2 (.alloc zZ0)]
def q1zr1:yW:=[
 yM 3 0,
 yI 4 (.bin .add .none (.v (.str [0])) (.t 3)),
 yC 5 101 4,
 yS 32 2 5]
def q1zc2:yX:=yq q1zr1 .ret
def q1zc3:yX:=yq q1zr0 q1zc2
attribute [go_sem] q1zr0 q1zr1
theorem q1zok:cFn TC 124=some (6,[.c 2 true 32],q1zc3):=by kernel_rfl
end
section
def stC(n:Int)(root:Hash)(rn:Int)(z v:AV):List AV:=.int .i64 n::(hc root++ [.int .i64 rn,z,v])
@[go_sem] theorem zm2 (n:Int) (root:Hash) (rn:Int) (z v:AV):(stC n root rn z v).length=36:=by simp [stC,z8]
@[go_sem] theorem stC_0 (n:Int) (root:Hash) (rn:Int) (z v:AV):(stC n root rn z v)[0]? =some (.int .i64 n):=rfl
theorem zfv(n:Int)(root:Hash)(rn:Int)(z v:AV)(k:Nat):(stC n root rn z v)[33+k]? =[AV.int .i64 rn,z,v][k]?:=by
 rw [stC,show 33+k=(32+k)+1 by omega,List.getElem?_cons_succ,List.getElem?_append_right (by rw [z8];omega),z8,Nat.add_sub_cancel_left]
@[go_sem] theorem stC_33 (n:Int) (root:Hash) (rn:Int) (z v:AV):(stC n root rn z v)[33]? =some (.int .i64 rn):=zfv n root rn z v 0
@[go_sem] theorem stC_34 (n:Int) (root:Hash) (rn:Int) (z v:AV):(stC n root rn z v)[34]? =some z:=zfv n root rn z v 1
@[go_sem] theorem stC_35 (n:Int) (root:Hash) (rn:Int) (z v:AV):(stC n root rn z v)[35]? =some v:=zfv n root rn z v 2
@[go_sem] theorem stC_root (n:Int) (root:Hash) (rn:Int) (z v:AV):((stC n root rn z v).drop 1).take 32=hc root:=by rw [stC,List.drop_succ_cons,List.drop_zero,z7r]
@[go_sem] theorem zvd (n:Int) (root:Hash) (rn:Int) (z v:AV):(stC n root rn z v).drop 33=[.int .i64 rn,z,v]:=by rw [stC,List.drop_succ_cons,z7q]
attribute [local irreducible] ACallsTo ACallsP
end
section
def lfH(s:List UInt8):Hash:=shaH (0::s)
attribute [local irreducible] ACallsTo ACallsP
theorem zu3(O:Store)(s:List UInt8)(h:s.length<100000000):ACallsTo TC 124 [.str s] O (.agg (hc (lfH s))) O:=by
 have hS:=fun O=>zkx O (0::s) (by simp;omega)
 refine ACallsTo.of_body q1zok (by simp) fun hw _=> ?_
 unfold lfH
 repeat' (first|apply zs_|apply zb_|apply zc_|apply zt_ rfl|apply zf_ rfl|(apply zd_ rfl<;>intro ht<;>try omega)|((first|apply zr_|apply zk_|apply ze_|apply zq_|(apply callW.mk_pu;(first|exact(fun _=>hS _)))|(apply callW.za;(first|exact(hS _)))|(apply zG<;>intro ht));all_goals try simp (disch:=first|omega|(simp only [lens,z8,zg,lQr,zm2];first|done|omega)) only [go_sem]))
 exact DownV.pure hw (z4s _)
end
section
attribute [local irreducible] ACallsTo ACallsP
end
section
attribute [local irreducible] ACallsTo ACallsP
end
section
attribute [local irreducible] ACallsTo ACallsP
end
section
def stD(L:List (List UInt8))(i:Nat):List UInt8:=L.getD i []
theorem zve{L:List (List UInt8)}{i:Nat}(h:i<L.length):stD L i ∈ L:=by
 rw [stD,List.getD_eq_getElem?_getD,List.getElem?_eq_getElem h];exact List.getElem_mem h
theorem zw0{L:List (List UInt8)}{i:Nat}(h:i<L.length):L.take (i+1)=L.take i++ [stD L i]:=by
 rw [List.take_add_one,stD,List.getD_eq_getElem?_getD,List.getElem?_eq_getElem h];rfl
def lvs(L:List (List UInt8)):List Hash:=L.map lfH
theorem z3s(L:List (List UInt8)):(lvs L).length=L.length:=by simp [lvs]
attribute [local irreducible] ACallsTo ACallsP
end
section
@[go_sem] theorem stC_set33 (n:Int) (root:Hash) (rn m:Int) (z v b:AV):(stC n root rn z v).take 33++ .int .i64 m::b::(stC n root rn z v).drop 35=stC n root m b v:=by
 have e:(stC n root rn z v).drop 35=[v]:=by
  have:=zvd n root rn z v
  have h2:(stC n root rn z v).drop 35=((stC n root rn z v).drop 33).drop 2:=by rw [List.drop_drop]
  rw [h2,this];rfl
 have e2:(stC n root rn z v).take 33=.int .i64 n::hc root:=by rw [stC,List.take_succ_cons,z7r]
 rw [e,e2];rfl
@[go_sem] theorem stC_set35 (n:Int) (root:Hash) (rn:Int) (z v b:AV):(stC n root rn z v).take 35++b::(stC n root rn z v).drop 36=stC n root rn z b:=by
 have e:(stC n root rn z v).drop 36=[]:=List.drop_eq_nil_of_le (by rw [zm2];omega)
 have e2:(stC n root rn z v).take 35=.int .i64 n::(hc root++ [.int .i64 rn,z]):=by
  have h3:stC n root rn z v=(.int .i64 n::(hc root++ [.int .i64 rn,z]))++ [v]:=by simp [stC]
  rw [h3,List.take_append_of_le_length (by simp [z8]),List.take_of_length_le (by simp [z8])]
 rw [e,e2];simp [stC]
def RowAt(sz:Nat)(O:Store)(sid:Option Nat)(v:AV)(es:List (List AV)):Prop:=
 (sid=none/\ es=[]/\ v=.nilsl) \/ ∃q,sid=some q/\ es ≠ []/\ v=.sl q 0 es.length none sz/\ O[q]? =some (some es)
theorem RowAt.rd{sz:Nat}{O:Store}{sid:Option Nat}{v:AV}{es:List (List AV)}(h:RowAt sz O sid v es):RdSl O sz es v:=by
 rcases h with⟨_,h,rfl⟩| ⟨r,_,_,rfl,hg⟩
 ·exact .inl (.inl ⟨rfl,h⟩)
 ·exact .inr ⟨r,0,none,es,rfl,hg,by omega,by simp⟩
theorem RowAt.keep{sz:Nat}{O O':Store}{sid:Option Nat}{v:AV}{es:List (List AV)}(h:RowAt sz O sid v es)(hk:∀q,sid=some q->O'[q]? =O[q]?):RowAt sz O' sid v es:=by
 rcases h with h| ⟨r,e,h2,h3,hg⟩
 ·exact .inl h
 ·exact .inr ⟨r,e,h2,h3,by rw [hk r e];exact hg⟩
theorem RowAt.cells{sz:Nat}{O:Store}{sid:Option Nat}{v:AV}{es:List (List AV)}(h:RowAt sz O sid v es):cellsOf v=some [v]:=by
 rcases h with⟨_,_,rfl⟩| ⟨r,_,_,rfl,_⟩<;>rfl
theorem RowAt.lt{sz:Nat}{O:Store}{sid:Option Nat}{v:AV}{es:List (List AV)}(h:RowAt sz O sid v es){q:Nat}(hq:sid=some q):q<O.length:=by
 rcases h with⟨e,_,_⟩| ⟨r,e,_,_,hg⟩
 ·rw [e]at hq;cases hq
 ·rw [e]at hq;cases hq;exact slen hg
structure StFr(O O':Store)(r:Nat)(sid sid':Option Nat):Prop where
 st:∀j,j<O.length->j ≠ r->sid ≠ some j->O'[j]? =O[j]?
 new:sid'=sid \/ ∃q,sid'=some q/\ O.length<=q
 le:O.length<=O'.length
theorem StFr.ext{O O':Store}{r:Nat}{sid:Option Nat}(h:Ext O O'):StFr O O' r sid sid:=by
 refine⟨fun j hj _ _=> ?_,.inl rfl,h.le⟩
 obtain⟨y,rfl⟩:=h
 exact gapp hj
def StgIs(O:Store)(r:Nat)(hn:Nat)(root:Hash)(rn:Nat)(hs:List Hash)(L:List (List UInt8))(sid:Option Nat):Prop:=
 ∃z v,O[r]? =some (some [stC hn root rn z v])/\ SlV 32 (hr hs) z/\ RowAt 1 O sid v (strs L)
theorem StgIs.keep{O O':Store}{r hn:Nat}{root:Hash}{rn:Nat}{hs:List Hash}{L:List (List UInt8)}{sid:Option Nat}(h:StgIs O r hn root rn hs L sid)(h0:O'[r]? =O[r]?)(hk:∀q,sid=some q->O'[q]? =O[q]?):StgIs O' r hn root rn hs L sid:=by
 obtain⟨z,v,hg,hz,hv⟩:=h
 exact⟨z,v,by rw [h0];exact hg,hz,hv.keep hk⟩
theorem StgIs.ext{O O':Store}{r hn:Nat}{root:Hash}{rn:Nat}{hs:List Hash}{L:List (List UInt8)}{sid:Option Nat}(h:StgIs O r hn root rn hs L sid)(he:Ext O O'):StgIs O' r hn root rn hs L sid:=by
 obtain⟨y,rfl⟩:=he
 have h':=h
 obtain⟨z,v,hg,hz,hv⟩:=h'
 exact h.keep (gapp (slen hg)) (fun q hq=>gapp (hv.lt hq))
def longs(X:List (List UInt8)):Bool:=X.any (fun s=>decide (200<s.length))
def nxH(rn:Nat)(hs:List Hash)(X:List (List UInt8)):List Hash:=(extR rn hs.reverse (lvs X)).reverse
def addE(hn:Nat)(root:Hash)(rn:Nat)(hs:List Hash)(X:List (List UInt8))(P:List Hash):Int:=
 if X.length<1 \/16<X.length \/hn<rn+X.length then 2 else if longs X=true then 3
 else if chkH ((rn+X.length:Nat):Int) hn (rootR (nxH rn hs X).reverse) root P=0 then 0 else 80
def AddP(O:Store)(r hn:Nat)(root:Hash)(rn:Nat)(hs:List Hash)(L X:List (List UInt8))(P:List Hash)(sid:Option Nat)(a:AV)(O':Store):Prop:=
 a=.int .i64 (addE hn root rn hs X P)/\ ∃sid',StFr O O' r sid sid' ∧
  StgIs O' r hn root (if addE hn root rn hs X P=0 then rn+X.length else rn) (if addE hn root rn hs X P=0 then nxH rn hs X else hs) (if addE hn root rn hs X P=0 then L++X else L) sid'
theorem AddP.no{O O':Store}{r hn:Nat}{root:Hash}{rn:Nat}{hs:List Hash}{L X:List (List UInt8)}{P:List Hash}{sid:Option Nat}{e:Int}(hT:StgIs O r hn root rn hs L sid)
  (he:addE hn root rn hs X P=e) (h0:e ≠ 0) (hx:Ext O O'):AddP O r hn root rn hs L X P sid (.int .i64 e) O':=by
 subst he
 refine⟨rfl,sid,.ext hx,?_⟩
 rw [if_neg h0,if_neg h0,if_neg h0]
 exact hT.ext hx
theorem AddP.is{O:Store}{r hn:Nat}{root:Hash}{rn:Nat}{hs:List Hash}{L X:List (List UInt8)}{P:List Hash}{sid:Option Nat}(hT:StgIs O r hn root rn hs L sid)(hX:X ≠ []):∃a O',AddP O r hn root rn hs L X P sid a O':=by
 by_cases h:addE hn root rn hs X P=0
 ·obtain⟨z,v,hg,hz,hv⟩:=hT
  have hrl:=slen hg
  have hne:strs (L++X) ≠ []:=fun e=>by
   have h1:(strs (L++X)).length=0:=by rw [e];rfl
   rw [z1n,List.length_append]at h1
   exact hX (List.eq_nil_of_length_eq_zero (by omega))
  refine⟨_,(O.set r (some [stC hn root ((rn+X.length:Nat):Int) (zu 32 (hr (nxH rn hs X))) (.sl O.length 0 (strs (L++X)).length none 1)]))++ [some (strs (L++X))],rfl,some O.length,⟨fun j hj hjr _=> ?_,.inr ⟨O.length,rfl,Nat.le_refl _⟩,by simp⟩,?_⟩
  ·rw [gapp (by simpa using hj),z1h (fun e=>hjr e.symm)]
  ·rw [if_pos h,if_pos h,if_pos h]
   refine⟨_,_,by rw [gapp (by simpa using hrl),z3h hrl],z3m _ _,.inr ⟨O.length,rfl,hne,rfl,?_⟩⟩
   rw [z2r (by simp)];simp
 ·exact⟨_,O,.no hT rfl h (.refl _)⟩
theorem AddP.ok{O O':Store}{r hn:Nat}{root:Hash}{rn:Nat}{hs:List Hash}{L X:List (List UInt8)}{P:List Hash}{sid:Option Nat}{z2:AV}{q':Nat}(he:addE hn root rn hs X P=0)(hX:X ≠ [])
  (hg:O'[r]? =some (some [stC hn root ((rn+X.length:Nat):Int) z2 (.sl q' 0 (strs (L++X)).length none 1)])) (hz:SlV 32 (hr (nxH rn hs X)) z2) (hq:O'[q']? =some (some (strs (L++X)))) (hqn:O.length<=q') (hle:O.length<=O'.length)
  (hst:∀j,j<O.length->j ≠ r->sid ≠ some j->O'[j]? =O[j]?):AddP O r hn root rn hs L X P sid (.int .i64 0) O':=by
 have hne:strs (L++X) ≠ []:=fun e=>by
  have h1:(strs (L++X)).length=0:=by rw [e];rfl
  rw [z1n,List.length_append]at h1
  exact hX (List.eq_nil_of_length_eq_zero (by omega))
 refine⟨by rw [he],some q',⟨hst,.inr ⟨q',rfl,hqn⟩,hle⟩,?_⟩
 rw [if_pos he,if_pos he,if_pos he]
 exact⟨_,_,hg,hz,.inr ⟨q',rfl,hne,rfl,hq⟩⟩
attribute [local irreducible] ACallsTo ACallsP
end
section
attribute [local irreducible] ACallsTo ACallsP
end
section
structure ActS where
 k:Int
 c:Int
 L:List (List UInt8)
 P:List Hash
 x:AV
 y:AV
structure ActOk(a:ActS):Prop where
 k:0<=a.k/\ a.k<=255
 c:0<=a.c/\ a.c<=255
 x:SlV 1 (strs a.L) a.x
 y:SlV 32 (hr a.P) a.y
 ll:a.L.length<=maxLen
 pl:a.P.length<=maxLen
 sl:∀s ∈ a.L,s.length<=maxLen
attribute [local irreducible] ACallsTo ACallsP
end
section
theorem zvt(l:List (List UInt8))(n:Nat):(strs l).take n=strs (l.take n):=by simp [strs,List.map_take]
attribute [local irreducible] ACallsTo ACallsP
end
section
structure StAt(τ O':Store)(r hn:Nat)(root:Hash)(rn:Nat)(hs:List Hash)(L:List (List UInt8)):Prop where
 is:∃sid,StgIs O' r hn root rn hs L sid/\ ∀q,sid=some q->τ.length<=q
 r:τ.length<=r
 le:τ.length<=O'.length
 st:∀q,q<τ.length->O'[q]? =τ[q]?
theorem StAt.get{τ O':Store}{r hn:Nat}{root:Hash}{rn:Nat}{hs:List Hash}{L:List (List UInt8)}(h:StAt τ O' r hn root rn hs L){q:Nat}{o:Option AObj}(hq:τ[q]? =some o):O'[q]? =some o:=by
 rw [h.st q (slen hq)];exact hq
theorem StAt.more{τ O' y:Store}{r hn:Nat}{root:Hash}{rn:Nat}{hs:List Hash}{L:List (List UInt8)}(h:StAt τ O' r hn root rn hs L):StAt τ (O'++y) r hn root rn hs L:=by
 obtain⟨sid,h1,h2⟩:=h.is
 exact⟨⟨sid,h1.ext ⟨y,rfl⟩,h2⟩,h.r,by have:=h.le;simp;omega,fun q hq=>by rw [gapp (by have:=h.le;omega)];exact h.st q hq⟩
theorem StAt.has {τ O' : Store} {r hn : Nat} {root : Hash} {rn : Nat} {hs : List Hash} {L X : List (List UInt8)} {P : List Hash} (h : StAt τ O' r hn root rn hs L) (hX : X ≠ []) : ∃ a O'', a = AV.int .i64 (addE hn root rn hs X P) ∧
   StAt τ O'' r hn root (if addE hn root rn hs X P=0 then rn+X.length else rn) (if addE hn root rn hs X P=0 then nxH rn hs X else hs) (if addE hn root rn hs X P=0 then L++X else L):=by
 obtain⟨sid,h1,h2⟩:=h.is
 obtain⟨a,O'',e,sid',fr,T⟩:=AddP.is (P:=P) h1 hX
 refine⟨a,O'',e,⟨sid',T,fun q hq=> ?_⟩,h.r,by have:=h.le;have:=fr.le;omega,fun q hq=> ?_⟩
 ·rcases fr.new with h3| ⟨q',h3,h4⟩
  ·exact h2 q (by rw [<-h3];exact hq)
  ·rw [h3]at hq;cases hq;have:=h.le;omega
 ·rw [fr.st q (by have:=h.le;omega) (fun e=>by have:=h.r;omega) (fun e=>by have:=h2 q e;omega)]
  exact h.st q hq
section
variable (a b c d:Hash)
end
end
section
set_option maxRecDepth 10000

end
section
set_option maxRecDepth 10000
def q20r0:yW:=[
 yI 2 (.alloc [.nilp,.nilsl])]
def q20r1:yW:=[
 yI 3 (.call (.v (.fn 18 [])) [(.v (.str [108,111,103]))]),
 yM 4 0,
 yI 5 (.build [.nilp,.nilsl] [(0,1,(.t 3)),(1,1,(.t 4))]),
 yS 2 2 5]
def q20c2:yX:=yq q20r1 .ret
def q20c3:yX:=yq q20r0 q20c2
attribute [go_sem] q20r0 q20r1
theorem q20ok:cFn TC 29=some (6,[.c 2 true 2],q20c3):=by kernel_rfl
def q21r0:yW:=[
 yI 3 (.box (.t 0)),
 yI 6 (.alloc [(.int .i64 0),(.int .u8 0),(.int .u8 0),(.int .u8 0),(.int .u8 0),(.int .u8 0),(.int .u8 0),(.int .u8 0),(.int .u8 0),(.int .u8 0),(.int .u8 0),(.int .u8 0),(.int .u8 0),(.int .u8 0),(.int .u8 0),(.int .u8 0),(.int .u8 0),(.int .u8 0),(.int .u8 0),(.int .u8 0),(.int .u8 0),(.int .u8 0),(.int .u8 0),(.int .u8 0),(.int .u8 0),(.int .u8 0),(.int .u8 0),(.int .u8 0),(.int .u8 0),(.int .u8 0),(.int .u8 0),(.int .u8 0),(.int .u8 0),(.int .i64 0),(.str []),.nilsl])]
def q21r1:yW:=[
 yM 10 1,
 yF 11 1 3,
 yL 12 false 1 11,
 yM 13 1,
 yI 14 (.slice (.sl 1) (.t 12) none (some (.t 13)) none),
 yC 15 89 14,
 yC 16 88 15,
 yI 17 (.build ((.int .i64 0)::zZ0) [(0,1,(.t 10)),(1,32,(.t 16))]),
 yI 7 (.alloc ((.int .i64 0)::zZ0)),
 yS 33 7 17]
def q21r2:yW:=[
 yF 19 0 3,
 ⟨some 20,none,.rd,.load false 1 (.t 19)⟩,
 yM 21 2,
 yJ 22 .and 21 .i64 7,
 ⟨some 23,none,.rd,.load true 33 (.t 7)⟩,
 ⟨some 24,none,.pu,.call (.v (.fn 66 [])) [(.t 23)]⟩,
 ⟨some 25,none,.pu,.call (.v (.fn 65 [])) [(.t 20),(.t 22),(.t 24)]⟩,
 yM 18 25,
 yE 26 0 18,
 yE 27 1 18,
 ⟨some 8,none,.ef,.alloc [(.int .i64 0),(.str []),.nilsl]⟩,
 yS 3 8 26,
 yM 9 27]
def q21r3:yW:=[
 yL 28 true 33 7,
 yL 29 true 3 8,
 yI 30 (.build [(.int .i64 0),(.int .u8 0),(.int .u8 0),(.int .u8 0),(.int .u8 0),(.int .u8 0),(.int .u8 0),(.int .u8 0),(.int .u8 0),(.int .u8 0),(.int .u8 0),(.int .u8 0),(.int .u8 0),(.int .u8 0),(.int .u8 0),(.int .u8 0),(.int .u8 0),(.int .u8 0),(.int .u8 0),(.int .u8 0),(.int .u8 0),(.int .u8 0),(.int .u8 0),(.int .u8 0),(.int .u8 0),(.int .u8 0),(.int .u8 0),(.int .u8 0),(.int .u8 0),(.int .u8 0),(.int .u8 0),(.int .u8 0),(.int .u8 0),(.int .i64 0),(.str []),.nilsl] [(0,33,(.t 28)),(33,3,(.t 29))]),
 yS 36 6 30]
def q21c4:yX:=yq q21r3 .ret
def q21c5:yX:=yq q21r2 q21c4
def q21c6:yX:=yq q21r1 q21c5
def q21c7:yX:=yq q21r0 q21c6
attribute [go_sem] q21r0 q21r1 q21r2 q21r3
theorem q21ok:cFn TC 30=some (31,[.c 6 true 36],q21c7):=by kernel_rfl
def q22r0:yW:=[
 yI 2 (.mv (.v .nilsl))]
def q22r1:yW:=[
 yI 3 (.mv (.v .nilsl))]
def q22r2:yW:=[
 yK 4 .i64 0]
def q22r3:yW:=[
 yM 5 4,
 yM 6 0,
 yI 7 (.lenSl (.t 6)),
 yB 8 .lss 5 7]
def q22c4:yX:=.cond (.t 8) .skip (.exit 0)
def q22c5:yX:=yq q22r3 q22c4
def q22r6:yW:=[
 yM 11 3,
 yM 12 0,
 yM 13 4,
 yI 14 (.iaSl 1 (.t 12) (.t 13)),
 yL 15 false 1 14,
 yC 16 124 15,
 yI 17 (.lit 32 [(.t 16)]),
 yI 18 (.app 32 (.t 11) (.t 17)),
 yM 3 18]
def q22r7:yW:=[
 yM 9 4,
 yJ 10 .add 9 .i64 1,
 yM 4 10]
def q22c8:yX:=.seq (.block 1 (.reg q22r6)) (.reg q22r7)
def q22c9:yX:=.seq q22c5 q22c8
def q22c10:yX:=.loop q22c9
def q22c11:yX:=.block 0 q22c10
def q22c12:yX:=yq q22r2 q22c11
def q22r13:yW:=[
 yM 19 3,
 yM 2 19]
def q22c14:yX:=yq q22r13 .ret
def q22c15:yX:=.seq q22c12 q22c14
def q22c16:yX:=yq q22r1 q22c15
def q22c17:yX:=yq q22r0 q22c16
attribute [go_sem] q22r0 q22r1 q22r2 q22r3 q22r6 q22r7 q22r13
theorem q22ok:cFn TC 89=some (20,[.t 2],q22c17):=by kernel_rfl
end
section
def pbC0:List AV:=[.nilp,.nilsl,.nilsl,.int .i64 0,.nilsl,.nilsl]
def PubN(O:Store)(p:AV):Prop:=p=.nilp \/ ∃r,p=.ptr r 0 0/\ O[r]? =some (some [pbC0])
theorem PubN.more{O:Store}{p:AV}(h:PubN O p)(y:Store):PubN (O++y) p:=by
 rcases h with h| ⟨r,h,hg⟩
 ·exact .inl h
 ·exact .inr ⟨r,h,by rw [gapp (slen hg)];exact hg⟩
def sgZ:List AV:=.int .i64 0::(hc zeroH++ [.int .i64 0,.str [],.nilsl])
attribute [local irreducible] ACallsTo ACallsP pubH
end
section
attribute [local irreducible] ACallsTo ACallsP pubH
end
section
def adC0:List AV:=.bool false::(hc zeroH++(.bool false::(sgZ++ [.nilp])))
def AudN(O:Store)(p:AV):Prop:=p=.nilp \/ ∃r,p=.ptr r 0 0/\ O[r]? =some (some [adC0])
theorem AudN.more{O:Store}{p:AV}(h:AudN O p)(y:Store):AudN (O++y) p:=by
 rcases h with h| ⟨r,h,hg⟩
 ·exact .inl h
 ·exact .inr ⟨r,h,by rw [gapp (slen hg)];exact hg⟩
attribute [local irreducible] ACallsTo ACallsP pubH
end
section
attribute [local irreducible] ACallsTo ACallsP pubH
end
section
attribute [local irreducible] ACallsTo ACallsP pubH
end
section
attribute [local irreducible] ACallsTo ACallsP pubH
def pbC(t:AV)(log lv:AV)(n:Int)(rg hs:AV):List AV:=[t,log,lv,.int .i64 n,rg,hs]
end
section
attribute [local irreducible] ACallsTo ACallsP
end
section
attribute [local irreducible] ACallsTo ACallsP
end
section
structure Hdr where
 n:Int
 r:Hash
 i:Int
 s:List UInt8
 p:List Hash
def hdrC(h:Hdr):List AV:=sgC h.n h.r h.i h.s (zu 32 (hr h.p))
def hdrs(H:List Hdr):List (List AV):=H.map hdrC
theorem zqu(H:List Hdr):(hdrs H).length=H.length:=by simp [hdrs]
theorem z3i(h:Hdr):(hdrC h).length=36:=zh _ _ _ _ _
attribute [local irreducible] ACallsTo ACallsP
end
section
attribute [local irreducible] ACallsTo ACallsP
end
section
theorem zac{O:Store}{q q':Nat}{a b:List AV}{es es':List (List AV)}(h:O[q]? =some (some es))(h':O[q']? =some (some es'))(e:es[0]? =some a)(e':es'[0]? =some b)(hl:a.length ≠ b.length):q ≠ q':=by
 rintro rfl
 rw [h]at h'
 simp only [Option.some.injEq]at h'
 subst h'
 rw [e]at e'
 simp only [Option.some.injEq]at e'
 exact hl (by rw [e'])
theorem zvr{L:List (List UInt8)}(h:L ≠ []):∃a:List AV,(strs L)[0]? =some a/\ a.length=1:=by
 cases L with
 |nil=>exact absurd rfl h
 |cons s L=>exact⟨[.str s],rfl,rfl⟩
theorem hr_at0{l:List Hash}(h:l ≠ []):∃a:List AV,(hr l)[0]? =some a/\ a.length=32:=by
 cases l with
 |nil=>exact absurd rfl h
 |cons s l=>exact⟨hc s,rfl,z8 s⟩
theorem zj1{H:List Hdr}(h:H ≠ []):∃a:List AV,(hdrs H)[0]? =some a/\ a.length=36:=by
 cases H with
 |nil=>exact absurd rfl h
 |cons s H=>exact⟨hdrC s,rfl,z3i s⟩
theorem RowAt.ne{sz n q:Nat}{O:Store}{sid:Option Nat}{v:AV}{es es':List (List AV)}{b:List AV}(h:RowAt sz O sid v es)(hw:es ≠ []->∃a:List AV,es[0]? =some a/\ a.length=n)(h':O[q]? =some (some es'))(e':es'[0]? =some b)(hb:b.length ≠ n):∀j,sid=some j->j ≠ q:=by
 intro j e
 rcases h with⟨e2,_⟩| ⟨j',e2,hn,_,hg⟩
 ·rw [e2]at e;cases e
 ·rw [e2]at e;cases e
  obtain⟨a,ha,hl⟩:=hw hn
  exact zac hg h' ha e' (by omega)
theorem RowAt.ne2{sz n sz' n':Nat}{O:Store}{sid sid':Option Nat}{v v':AV}{es es':List (List AV)}(h:RowAt sz O sid v es)(hw:es ≠ []->∃a:List AV,es[0]? =some a/\ a.length=n)(h':RowAt sz' O sid' v' es')(hw':es' ≠ []->∃a:List AV,es'[0]? =some a/\ a.length=n')(hnn:n ≠ n'):∀j,sid=some j->sid' ≠ some j:=by
 intro j e e'
 rcases h' with⟨e2,_⟩| ⟨j',e2,hn,_,hg⟩
 ·rw [e2]at e';cases e'
 ·rw [e2]at e';cases e'
  obtain⟨a,ha,hl⟩:=hw' hn
  exact h.ne hw hg ha (by omega) j e rfl
theorem zm7{L:List (List UInt8)}(h:strs L ≠ []):∃a:List AV,(strs L)[0]? =some a/\ a.length=1:=zvr fun e=>h (by rw [e];rfl)
theorem hr_w{l:List Hash}(h:hr l ≠ []):∃a:List AV,(hr l)[0]? =some a/\ a.length=32:=hr_at0 fun e=>h (by rw [e];rfl)
theorem zeb{H:List Hdr}(h:hdrs H ≠ []):∃a:List AV,(hdrs H)[0]? =some a/\ a.length=36:=zj1 fun e=>h (by rw [e];rfl)
structure Fr(O O':Store)(own own':List Nat):Prop where
 st:∀j,j<O.length->j ∉ own->O'[j]? =O[j]?
 new:∀j,j ∈ own'->j ∈ own \/O.length<=j
 le:O.length<=O'.length
theorem Fr.ext{O O':Store}{own:List Nat}(h:Ext O O'):Fr O O' own own:=by
 refine⟨fun j hj _=> ?_,fun j hj=> .inl hj,h.le⟩
 obtain⟨y,rfl⟩:=h
 exact gapp hj
theorem Fr.get{O O':Store}{own own':List Nat}(h:Fr O O' own own'){j:Nat}{o:Option AObj}(hg:O[j]? =some o)(hj:j ∉ own):O'[j]? =some o:=by
 rw [h.st j (slen hg) hj];exact hg
def PubIs(O:Store)(r:Nat)(seed:List UInt8)(L:List (List UInt8))(H:List Hdr)(own:List Nat):Prop:=
 ∃t lg lv z hs sl sv sh,own=r::t::(Option.toList sl++(Option.toList sv++Option.toList sh))/\ O[r]? =some (some [pbC (.ptr t 0 0) lg lv L.length z hs]) ∧
  O[t]? =some (some [z1r true seed (keyL seed)])/\ RowAt 1 O sl lg (strs L)/\ RowAt 32 O sv lv (hr (lvs L))/\ SlV 32 (hr (ofR (lvs L)).reverse) z/\ RowAt 36 O sh hs (hdrs H)
theorem PubIs.lt{O:Store}{r:Nat}{seed:List UInt8}{L:List (List UInt8)}{H:List Hdr}{own:List Nat}(h:PubIs O r seed L H own){j:Nat}(hj:j ∈ own):j<O.length:=by
 obtain⟨t,lg,lv,z,hs,sl,sv,sh,rfl,hg,ht,h1,h2,hz,h3⟩:=h
 simp only [List.mem_cons,List.mem_append,Option.mem_toList]at hj
 rcases hj with rfl|rfl|h|h|h
 ·exact slen hg
 ·exact slen ht
 ·exact h1.lt h
 ·exact h2.lt h
 ·exact h3.lt h
theorem PubIs.keep{O O':Store}{r:Nat}{seed:List UInt8}{L:List (List UInt8)}{H:List Hdr}{own:List Nat}(h:PubIs O r seed L H own)(hk:∀j,j ∈ own->O'[j]? =O[j]?):PubIs O' r seed L H own:=by
 obtain⟨t,lg,lv,z,hs,sl,sv,sh,rfl,hg,ht,h1,h2,hz,h3⟩:=h
 refine⟨t,lg,lv,z,hs,sl,sv,sh,rfl,?_,?_,h1.keep fun q e=>hk q ?_,h2.keep fun q e=>hk q ?_,hz,h3.keep fun q e=>hk q ?_⟩
 ·rw [hk r (by simp)];exact hg
 ·rw [hk t (by simp)];exact ht
 all_goals simp [e]
theorem PubIs.ext{O O':Store}{r:Nat}{seed:List UInt8}{L:List (List UInt8)}{H:List Hdr}{own:List Nat}(h:PubIs O r seed L H own)(he:Ext O O'):PubIs O' r seed L H own:=by
 obtain⟨y,rfl⟩:=he
 exact h.keep fun j hj=>gapp (h.lt hj)
def apE(s:List UInt8):Int:=if 200<s.length then 3 else 0
def apL(L:List (List UInt8))(s:List UInt8):List (List UInt8):=if 200<s.length then L else L++ [s]
def AppendP(O:Store)(r:Nat)(seed:List UInt8)(L:List (List UInt8))(H:List Hdr)(own:List Nat)(s:List UInt8)(a:AV)(O':Store):Prop:=
 a=.int .i64 (apE s)/\ ∃own',Fr O O' own own'/\ PubIs O' r seed (apL L s) H own'
theorem zvs{L:List (List UInt8)}(h:L ≠ []):strs L ≠ []:=fun e=>h (by cases L with|nil=>rfl|cons a l=>simp [strs]at e)
theorem zqv{H:List Hdr}(h:H ≠ []):hdrs H ≠ []:=fun e=>h (by cases H with|nil=>rfl|cons a l=>simp [hdrs]at e)
theorem lvs_ne{L:List (List UInt8)}(h:L ≠ []):hr (lvs L) ≠ []:=fun e=>h (by cases L with|nil=>rfl|cons a l=>simp [lvs,hr]at e)
theorem AppendP.ok{O O':Store}{r t q1 q2:Nat}{seed:List UInt8}{L:List (List UInt8)}{H:List Hdr}{s:List UInt8}{z2 hs:AV}{sl sv sh:Option Nat}(h200:¬200<s.length)
  (hg:O'[r]? =some (some [pbC (.ptr t 0 0) (.sl q1 0 (L.length+1) none 1) (.sl q2 0 (L.length+1) none 32) ((L.length+1:Nat):Int) z2 hs])) (ht:O'[t]? =some (some [z1r true seed (keyL seed)]))
  (h1:O'[q1]? =some (some (strs (L++ [s])))) (h2:O'[q2]? =some (some (hr (lvs (L++ [s]))))) (hz:SlV 32 (hr (ofR (lvs (L++ [s]))).reverse) z2) (h3:RowAt 36 O' sh hs (hdrs H))
  (hq1:O.length<=q1) (hq2:O.length<=q2) (hle:O.length<=O'.length) (hst:∀j,j<O.length->j ≠ r->sl ≠ some j->sv ≠ some j->O'[j]? =O[j]?):
  AppendP O r seed L H (r::t::(Option.toList sl++(Option.toList sv++Option.toList sh))) s (.int .i64 0) O':=by
 refine⟨by unfold apE;rw [if_neg h200],r::t::(Option.toList (some q1)++(Option.toList (some q2)++Option.toList sh)),⟨fun j hj hn=> ?_,fun j hj=> ?_,hle⟩,?_⟩
 ·simp only [List.mem_cons,List.mem_append,Option.mem_toList,not_or]at hn
  exact hst j hj hn.1 (fun e=>hn.2.2.1 e) (fun e=>hn.2.2.2.1 e)
 ·simp only [List.mem_cons,List.mem_append,Option.mem_toList,Option.some.injEq]at hj ⊢
  rcases hj with h|h|h|h|h
  ·exact .inl (.inl h)
  ·exact .inl (.inr (.inl h))
  ·exact .inr (by omega)
  ·exact .inr (by omega)
  ·exact .inl (.inr (.inr (.inr (.inr h))))
 ·unfold apL
  rw [if_neg h200]
  have hne:L++ [s] ≠ []:=by simp
  refine⟨t,_,_,z2,hs,some q1,some q2,sh,rfl,by rw [List.length_append];exact hg,ht,.inr ⟨q1,rfl,zvs hne,?_,h1⟩,.inr ⟨q2,rfl,lvs_ne hne,?_,h2⟩,hz,h3⟩
  ·rw [z1n,List.length_append];rfl
  ·rw [zg,z3s,List.length_append];rfl
theorem AppendP.is{O:Store}{r:Nat}{seed:List UInt8}{L:List (List UInt8)}{H:List Hdr}{own:List Nat}{s:List UInt8}(hT:PubIs O r seed L H own):∃a O',AppendP O r seed L H own s a O':=by
 by_cases h:200<s.length
 ·exact⟨_,O,rfl,own,.ext (.refl _),by unfold apL;rw [if_pos h];exact hT⟩
 ·obtain⟨t,lg,lv,z,hs,sl,sv,sh,rfl,hg,ht,h1,h2,hz,h3⟩:=hT
  have d:=slen hg
  have d2:=slen ht
  have hrt:t ≠ r:=zac ht hg (a:=z1r true seed (keyL seed)) (b:=pbC (.ptr t 0 0) lg lv L.length z hs) rfl rfl (by rw [zg9,z3r];simp [pbC])
  refine⟨_,(O.set r (some [pbC (.ptr t 0 0) (.sl O.length 0 (L.length+1) none 1) (.sl (O.length+1) 0 (L.length+1) none 32) ((L.length+1:Nat):Int) (zu 32 (hr (ofR (lvs (L++ [s]))).reverse)) hs]))++ [some (strs (L++ [s])),some (hr (lvs (L++ [s])))],
   .ok (O:=O) (q1:=O.length) (q2:=O.length+1) (hs:=hs) h ?_ ?_ ?_ ?_ (z3m _ _) ?_ (Nat.le_refl _) (by omega) (by simp) fun j hj hjr _ _=> ?_⟩
  ·rw [gapp (by simpa using d),z3h d]
  ·rw [gapp (by simpa using d2),z1h (fun e=>hrt e.symm)];exact ht
  ·rw [z2r (by simp)];simp
  ·rw [z2r (by simp)];simp
  ·refine h3.keep fun q e=> ?_
   have hq:=h3.lt e
   have hqr:q ≠ r:=by
    rcases h3 with⟨e2,_⟩| ⟨q',e2,hn,rfl,hgq⟩
    ·rw [e2]at e;cases e
    ·rw [e2]at e;cases e
     obtain⟨a,ha,hal⟩:=zj1 (H:=H) (fun e=>hn (by rw [e];rfl))
     exact zac hgq hg ha (b:=pbC (.ptr t 0 0) lg lv L.length z _) rfl (by rw [hal];simp [pbC])
   rw [gapp (by simpa using hq),z1h (fun e=>hqr e.symm)]
  ·rw [gapp (by simpa using hj),z1h (fun e=>hjr e.symm)]
attribute [local irreducible] ACallsTo ACallsP
end
section
def mkH(seed:List UInt8)(i:Nat)(M:List (List UInt8)):Hdr:=⟨M.length,z1e (lvs M),i,ksgS seed i (digH M.length (z1e (lvs M))).1,z1u (keyL seed) i⟩
theorem zeu(seed:List UInt8)(i:Nat):(z1u (keyL seed) i).length=3:=by unfold z1u;rw [List.length_reverse,zkb _ i (z3r seed)]
theorem zjs(seed:List UInt8)(i:Nat)(M:List (List UInt8))(hi:i<8)(hM:M.length<=4096):z4m (z1e (keyL seed)) (mkH seed i M).n (mkH seed i M).i (mkH seed i M).r (mkH seed i M).s (mkH seed i M).p=0:=by
 have hv:z1i (mkH seed i M).n (mkH seed i M).i (mkH seed i M).s (mkH seed i M).p=true:=decide_eq_true ⟨by simp only [mkH];omega,by simp only [mkH];omega,by simp only [mkH];omega,by simp only [mkH];omega,zbz _ _ _,zeu _ _⟩
 unfold z4m
 rw [hv,if_neg (by simp)]
 exact if_pos (zwh seed i hi _)
def pubN(H:List Hdr):Int:=((H[H.length-1]?).map Hdr.n).getD 0
structure PubOk(seed:List UInt8)(L:List (List UInt8))(H:List Hdr):Prop where
 len:H.length<=8
 at':∀i h,H[i]? =some h->∃n,h=mkH seed i (L.take n)/\ 0<n/\ n<=L.length
 up:∀i h h',H[i]? =some h->H[i+1]? =some h'->h.n<h'.n
theorem PubOk.nil(seed:List UInt8):PubOk seed [] []:=⟨by simp,by simp,by simp⟩
theorem PubOk.app{seed:List UInt8}{L:List (List UInt8)}{H:List Hdr}(h:PubOk seed L H)(M:List (List UInt8)):PubOk seed (L++M) H:=by
 refine⟨h.len,fun i x hx=> ?_,h.up⟩
 obtain⟨n,e,h0,hn⟩:=h.at' i x hx
 exact⟨n,by rw [List.take_append_of_le_length hn];exact e,h0,by rw [List.length_append];omega⟩
theorem PubOk.path{seed:List UInt8}{L:List (List UInt8)}{H:List Hdr}(h:PubOk seed L H):∀x ∈ H,x.p.length<1000000:=by
 intro x hx
 obtain⟨i,hi⟩:=List.mem_iff_getElem?.1 hx
 obtain⟨n,rfl,_,_⟩:=h.at' i x hi
 show (z1u (keyL seed) i).length<1000000
 rw [zeu];omega
def puE(L:List (List UInt8))(H:List Hdr):Int:=if 8<=H.length then 85 else if (L.length:Int)=pubN H then 83 else 0
def puV(seed:List UInt8)(L:List (List UInt8))(H:List Hdr):AV:=.tup [.agg (if puE L H=0 then hdrC (mkH seed H.length L)else sgZ),.int .i64 (puE L H)]
def puH(seed:List UInt8)(L:List (List UInt8))(H:List Hdr):List Hdr:=if puE L H=0 then H++ [mkH seed H.length L]else H
def PublishP(O:Store)(r:Nat)(seed:List UInt8)(L:List (List UInt8))(H:List Hdr)(own:List Nat)(a:AV)(O':Store):Prop:=
 a=puV seed L H/\ ∃own',Fr O O' own own'/\ PubIs O' r seed L (puH seed L H) own'
theorem PublishP.ok{O O':Store}{r t q:Nat}{seed:List UInt8}{L:List (List UInt8)}{H:List Hdr}{lg lv z hs:AV}{sl sv sh:Option Nat}(he:puE L H=0)
  (hg0:O[r]? =some (some [pbC (.ptr t 0 0) lg lv L.length z hs])) (ht0:O[t]? =some (some [z1r true seed (keyL seed)])) (h1:RowAt 1 O sl lg (strs L)) (h2:RowAt 32 O sv lv (hr (lvs L))) (h3:RowAt 36 O sh hs (hdrs H))
  (hg:O'[r]? =some (some [pbC (.ptr t 0 0) lg lv L.length z (.sl q 0 (H.length+1) none 36)])) (hz:SlV 32 (hr (ofR (lvs L)).reverse) z)
  (hq:O'[q]? =some (some (hdrs (H++ [mkH seed H.length L])))) (hqn:O.length<=q) (hle:O.length<=O'.length) (hst:∀j,j<O.length->j ≠ r->sh ≠ some j->O'[j]? =O[j]?):
  PublishP O r seed L H (r::t::(Option.toList sl++(Option.toList sv++Option.toList sh))) (.tup [.agg (hdrC (mkH seed H.length L)),.int .i64 0]) O':=by
 refine⟨by unfold puV;rw [he,if_pos rfl],r::t::(Option.toList sl++(Option.toList sv++Option.toList (some q))),⟨fun j hj hn=> ?_,fun j hj=> ?_,hle⟩,?_⟩
 ·simp only [List.mem_cons,List.mem_append,Option.mem_toList,not_or]at hn
  exact hst j hj hn.1 (fun e=>hn.2.2.2.2 e)
 ·simp only [List.mem_cons,List.mem_append,Option.mem_toList,Option.some.injEq]at hj ⊢
  rcases hj with h|h|h|h|h
  ·exact .inl (.inl h)
  ·exact .inl (.inr (.inl h))
  ·exact .inl (.inr (.inr (.inl h)))
  ·exact .inl (.inr (.inr (.inr (.inl h))))
  ·exact .inr (by omega)
 ·unfold puH
  rw [if_pos he]
  have hne:H++ [mkH seed H.length L] ≠ []:=by simp
  have hpl:(pbC (.ptr t 0 0) lg lv L.length z hs).length=6:=rfl
  have htl:(z1r true seed (keyL seed)).length=258:=by rw [zg9,z3r]
  have hrt:t ≠ r:=zac ht0 hg0 (a:=z1r true seed (keyL seed)) (b:=pbC (.ptr t 0 0) lg lv L.length z hs) rfl rfl (by omega)
  refine⟨t,lg,lv,z,_,sl,sv,some q,rfl,hg,by rw [hst t (slen ht0) hrt fun e=>h3.ne zeb ht0 (b:=z1r true seed (keyL seed)) rfl (by omega) t e rfl];exact ht0,h1.keep fun j e=>hst j (h1.lt e) ?_ ?_,h2.keep fun j e=>hst j (h2.lt e) ?_ ?_,hz,.inr ⟨q,rfl,zqv hne,?_,hq⟩⟩
  ·exact h1.ne zm7 hg0 (b:=pbC (.ptr t 0 0) lg lv L.length z hs) rfl (by omega) j e
  ·exact h1.ne2 zm7 h3 zeb (by omega) j e
  ·exact h2.ne hr_w hg0 (b:=pbC (.ptr t 0 0) lg lv L.length z hs) rfl (by omega) j e
  ·exact h2.ne2 hr_w h3 zeb (by omega) j e
  ·rw [zqu,List.length_append];rfl
theorem PublishP.no{O:Store}{r:Nat}{seed:List UInt8}{L:List (List UInt8)}{H:List Hdr}{own:List Nat}{e:Int}(hT:PubIs O r seed L H own)(he:puE L H=e)(h0:e ≠ 0):PublishP O r seed L H own (.tup [.agg sgZ,.int .i64 e]) O:=by
 subst he
 exact⟨by unfold puV;rw [if_neg h0],own,.ext (.refl _),by unfold puH;rw [if_neg h0];exact hT⟩
theorem PublishP.is{O:Store}{r:Nat}{seed:List UInt8}{L:List (List UInt8)}{H:List Hdr}{own:List Nat}(hT:PubIs O r seed L H own):∃a O',PublishP O r seed L H own a O':=by
 by_cases he:puE L H=0
 ·obtain⟨t,lg,lv,z,hs,sl,sv,sh,rfl,hg,ht,h1,h2,hz,h3⟩:=hT
  have d:=slen hg
  refine⟨_,(O.set r (some [pbC (.ptr t 0 0) lg lv L.length z (.sl O.length 0 (H.length+1) none 36)]))++ [some (hdrs (H++ [mkH seed H.length L]))],.ok (q:=O.length) he hg ht h1 h2 h3 ?_ hz ?_ (Nat.le_refl _) (by simp) fun j hj hjr _=> ?_⟩
  ·rw [gapp (by simpa using d),z3h d]
  ·rw [z2r (by simp)];simp
  ·rw [gapp (by simpa using hj),z1h (fun e=>hjr e.symm)]
 ·exact⟨_,O,.no hT rfl he⟩
@[go_sem] theorem sgC_set33 (n:Int) (r:Hash) (i j:Int) (s u:List UInt8) (x v:AV):(sgC n r i s x).take 33++ .int .i64 j:: .str u::v::(sgC n r i s x).drop 36=sgC n r j u v:=by
 rw [zfk,zli];rfl
theorem zfj(n:Int)(r:Hash)(i:Int)(s:List UInt8)(x:AV):AV.int .i64 n::(hc r++ [AV.int .i64 i,.str s,x])=sgC n r i s x:=rfl
attribute [local irreducible] ACallsTo ACallsP
end
section
attribute [local irreducible] ACallsTo ACallsP
end
section
theorem PubOk.one(seed:List UInt8)(s:List UInt8)(M:List (List UInt8)):PubOk seed (s::M) [mkH seed 0 [s]]:=by
 refine⟨by simp,fun i h hi=> ?_,fun i h h' hi hi'=>by simp at hi'⟩
 match i,hi with
 | 0,hi=>
  simp only [List.getElem?_cons_zero,Option.some.injEq]at hi
  exact⟨1,by rw [<-hi];simp,by omega,by simp⟩
 |i+1,hi=>simp at hi
attribute [local irreducible] ACallsTo ACallsP
end
section
def adC(key:Hash)(has:Bool)(n:Int)(r:Hash)(i:Int)(s:List UInt8)(x fd:AV):List AV:=.bool true::(hc key++(.bool has::(sgC n r i s x++ [fd])))
@[go_sem] theorem znp (key:Hash) (has:Bool) (n:Int) (r:Hash) (i:Int) (s:List UInt8) (x fd:AV):(adC key has n r i s x fd).length=71:=by simp [adC,z8,zh]
@[go_sem] theorem adC_0 (key:Hash) (has:Bool) (n:Int) (r:Hash) (i:Int) (s:List UInt8) (x fd:AV):(adC key has n r i s x fd)[0]? =some (.bool true):=rfl
theorem zh6(key:Hash)(has:Bool)(n:Int)(r:Hash)(i:Int)(s:List UInt8)(x fd:AV):adC key has n r i s x fd=(.bool true::hc key)++(.bool has::(sgC n r i s x++ [fd])):=by simp [adC]
theorem zh4(key:Hash)(has:Bool)(n:Int)(r:Hash)(i:Int)(s:List UInt8)(x fd:AV):(adC key has n r i s x fd).drop 33=.bool has::(sgC n r i s x++ [fd]):=by
 rw [zh6,List.drop_left' (by simp [z8])]
theorem znq(key:Hash)(has:Bool)(n:Int)(r:Hash)(i:Int)(s:List UInt8)(x fd:AV):(adC key has n r i s x fd).take 33=.bool true::hc key:=by
 rw [zh6,List.take_left' (by simp [z8])]
theorem z8a(key:Hash)(has:Bool)(n:Int)(r:Hash)(i:Int)(s:List UInt8)(x fd:AV):(adC key has n r i s x fd).drop 34=sgC n r i s x++ [fd]:=by
 rw [show 34=33+1 from rfl,<-List.drop_drop,zh4];rfl
theorem zh5(key:Hash)(has:Bool)(n:Int)(r:Hash)(i:Int)(s:List UInt8)(x fd:AV):(adC key has n r i s x fd).drop 70=[fd]:=by
 rw [show 70=34+36 from rfl,<-List.drop_drop,z8a,List.drop_left' (by simp [zh])]
@[go_sem] theorem adC_key (key:Hash) (has:Bool) (n:Int) (r:Hash) (i:Int) (s:List UInt8) (x fd:AV):((adC key has n r i s x fd).drop 1).take 32=hc key:=by
 unfold adC;rw [List.drop_succ_cons,List.drop_zero,List.take_left' (by simp [z8])]
theorem z6n{l:List AV}{k:Nat}{a:AV}{m:List AV}(h:l.drop k=a::m):l[k]? =some a:=by
 have:(l.drop k)[0]? =some a:=by rw [h];rfl
 rwa [List.getElem?_drop,Nat.add_zero]at this
@[go_sem] theorem adC_33 (key:Hash) (has:Bool) (n:Int) (r:Hash) (i:Int) (s:List UInt8) (x fd:AV):(adC key has n r i s x fd)[33]? =some (.bool has):=z6n (zh4 key has n r i s x fd)
@[go_sem] theorem adC_34 (key:Hash) (has:Bool) (n:Int) (r:Hash) (i:Int) (s:List UInt8) (x fd:AV):(adC key has n r i s x fd)[34]? =some (.int .i64 n):=z6n (z8a key has n r i s x fd)
@[go_sem] theorem adC_70 (key:Hash) (has:Bool) (n:Int) (r:Hash) (i:Int) (s:List UInt8) (x fd:AV):(adC key has n r i s x fd)[70]? =some fd:=z6n (zh5 key has n r i s x fd)
@[go_sem] theorem adC_now (key:Hash) (has:Bool) (n:Int) (r:Hash) (i:Int) (s:List UInt8) (x fd:AV):((adC key has n r i s x fd).drop 34).take 36=sgC n r i s x:=by
 rw [z8a,List.take_left' (by simp [zh])]
@[go_sem] theorem adC_head (key:Hash) (has:Bool) (n:Int) (r:Hash) (i:Int) (s:List UInt8) (x fd:AV):((adC key has n r i s x fd).drop 34).take 33=.int .i64 n::hc r:=by
 rw [z8a,List.take_append_of_le_length (by rw [zh];omega),zfk]
@[go_sem] theorem adC_root (key:Hash) (has:Bool) (n:Int) (r:Hash) (i:Int) (s:List UInt8) (x fd:AV):((adC key has n r i s x fd).drop 35).take 32=hc r:=by
 rw [show 35=34+1 from rfl,<-List.drop_drop,z8a]
 unfold sgC
 rw [List.cons_append,List.drop_succ_cons,List.drop_zero,List.append_assoc,List.take_left' (by simp [z8])]
@[go_sem] theorem adC_set33 (key:Hash) (has b:Bool) (n:Int) (r:Hash) (i:Int) (s:List UInt8) (x fd:AV):(adC key has n r i s x fd).take 33++ .bool b::(adC key has n r i s x fd).drop 34=adC key b n r i s x fd:=by
 rw [znq,z8a];simp [adC]
theorem znr(key:Hash)(has:Bool)(n:Int)(r:Hash)(i:Int)(s:List UInt8)(x fd:AV):(adC key has n r i s x fd).take 34=.bool true::(hc key++ [.bool has]):=by
 rw [show adC key has n r i s x fd=(.bool true::(hc key++ [.bool has]))++(sgC n r i s x++ [fd])by simp [adC],List.take_left' (by simp [z8])]
@[go_sem] theorem adC_set34 (key:Hash) (has:Bool) (n m:Int) (r r2:Hash) (i j:Int) (s s2:List UInt8) (x x2 fd:AV):(adC key has n r i s x fd).take 34++(sgC m r2 j s2 x2++(adC key has n r i s x fd).drop 70)=adC key has m r2 j s2 x2 fd:=by
 rw [znr,zh5];simp [adC]
@[go_sem] theorem adC_set70 (key:Hash) (has:Bool) (n:Int) (r:Hash) (i:Int) (s:List UInt8) (x fd fd2:AV):(adC key has n r i s x fd).take 70++fd2::(adC key has n r i s x fd).drop 71=adC key has n r i s x fd2:=by
 rw [show adC key has n r i s x fd=(.bool true::(hc key++(.bool has::sgC n r i s x)))++ [fd]by simp [adC],List.take_left' (by simp [z8,zh]),List.drop_eq_nil_of_le (by simp [z8,zh])]
 simp [adC]
attribute [local irreducible] ACallsTo ACallsP
end
section
def zHd:Hdr:=⟨0,zeroH,0,[],[]⟩
def adS(key:Hash)(now:Option Hdr)(fd:AV):List AV:=adC key now.isSome (now.getD zHd).n (now.getD zHd).r (now.getD zHd).i (now.getD zHd).s (zu 32 (hr (now.getD zHd).p)) fd
def evC(k:Int)(a b:Hdr):List AV:=.int .i64 k::(hdrC a++(hdrC b++(hc zeroH++ [.nilsl])))
def FdAt(O:Store)(fv:AV)(fd:Option (Hdr × Hdr))(own:List Nat):Prop:=(fd=none/\ fv=.nilp/\ own=[]) \/ ∃a b q,fd=some (a,b)/\ fv=.ptr q 0 0/\ own=[q]/\ O[q]? =some (some [evC 1 a b])
theorem FdAt.keep{O O':Store}{fv:AV}{fd:Option (Hdr × Hdr)}{own:List Nat}(h:FdAt O fv fd own)(hk:∀j,j ∈ own->O'[j]? =O[j]?):FdAt O' fv fd own:=by
 rcases h with h| ⟨a,b,q,e1,e2,rfl,hg⟩
 ·exact .inl h
 ·exact .inr ⟨a,b,q,e1,e2,rfl,by rw [hk q (by simp)];exact hg⟩
theorem FdAt.lt{O:Store}{fv:AV}{fd:Option (Hdr × Hdr)}{own:List Nat}(h:FdAt O fv fd own){j:Nat}(hj:j ∈ own):j<O.length:=by
 rcases h with⟨_,_,rfl⟩| ⟨a,b,q,e1,e2,rfl,hg⟩
 ·cases hj
 ·simp only [List.mem_singleton]at hj;subst hj;exact slen hg
def AudIs(O:Store)(p:Nat)(key:Hash)(now:Option Hdr)(fd:Option (Hdr × Hdr))(own:List Nat):Prop:=
 ∃fv fo,own=p::fo/\ O[p]? =some (some [adS key now fv])/\ FdAt O fv fd fo
theorem AudIs.lt{O:Store}{p:Nat}{key:Hash}{now:Option Hdr}{fd:Option (Hdr × Hdr)}{own:List Nat}(h:AudIs O p key now fd own){j:Nat}(hj:j ∈ own):j<O.length:=by
 obtain⟨fv,fo,rfl,hg,hf⟩:=h
 rcases List.mem_cons.1 hj with rfl|hj
 ·exact slen hg
 ·exact hf.lt hj
theorem AudIs.keep{O O':Store}{p:Nat}{key:Hash}{now:Option Hdr}{fd:Option (Hdr × Hdr)}{own:List Nat}(h:AudIs O p key now fd own)(hk:∀j,j ∈ own->O'[j]? =O[j]?):AudIs O' p key now fd own:=by
 obtain⟨fv,fo,rfl,hg,hf⟩:=h
 exact⟨fv,fo,rfl,by rw [hk p (by simp)];exact hg,hf.keep fun j hj=>hk j (by simp [hj])⟩
theorem AudIs.ext{O O':Store}{p:Nat}{key:Hash}{now:Option Hdr}{fd:Option (Hdr × Hdr)}{own:List Nat}(h:AudIs O p key now fd own)(he:Ext O O'):AudIs O' p key now fd own:=by
 obtain⟨y,rfl⟩:=he
 exact h.keep fun j hj=>gapp (h.lt hj)
def adE(key:Hash)(now:Option Hdr)(s:Hdr)(pf:List Hash):Int:=
 if z4m key s.n s.i s.r s.s s.p ≠ 0 then 0 else match now with
  |none=>1
  |some w=>if ordI s.n w.n s.r w.r=1 then 3 else if ordI s.n w.n s.r w.r=3 then 6
   else if ordI s.n w.n s.r w.r=0 then(if chkH s.n w.n s.r w.r pf=0 then 4 else 5)
   else(if chkH w.n s.n w.r s.r pf=0 then 2 else 5)
def adN(key:Hash)(now:Option Hdr)(s:Hdr)(pf:List Hash):Option Hdr:=if adE key now s pf=1 \/adE key now s pf=2 then some s else now
def adF(key:Hash)(now:Option Hdr)(fd:Option (Hdr × Hdr))(s:Hdr)(pf:List Hash):Option (Hdr × Hdr):=if adE key now s pf=6 then some (fd.getD (now.getD zHd,s))else fd
def AHeadP(O:Store)(p:Nat)(key:Hash)(now:Option Hdr)(fd:Option (Hdr × Hdr))(own:List Nat)(s:Hdr)(pf:List Hash)(a:AV)(O':Store):Prop:=
 a=.int .i64 (adE key now s pf)/\ ∃own',Fr O O' own own'/\ AudIs O' p key (adN key now s pf) (adF key now fd s pf) own'
theorem AHeadP.ext{O O':Store}{p:Nat}{key:Hash}{now:Option Hdr}{fd:Option (Hdr × Hdr)}{own:List Nat}{s:Hdr}{pf:List Hash}{e:Int}(hT:AudIs O p key now fd own)(he:adE key now s pf=e)(h:e ≠ 1/\ e ≠ 2/\ e ≠ 6)(hx:Ext O O'):AHeadP O p key now fd own s pf (.int .i64 e) O':=by
 subst he
 refine⟨rfl,own,.ext hx,?_⟩
 unfold adN adF
 rw [if_neg (by omega),if_neg h.2.2]
 exact hT.ext hx
theorem zns(key:Hash)(now:Option Hdr)(fd:AV):(adS key now fd).length=71:=znp _ _ _ _ _ _ _ _
theorem zp9(k:Int)(a b:Hdr):(evC k a b).length=106:=by simp [evC,z3i,z8]
theorem FdAt.ne{O:Store}{p:Nat}{key:Hash}{now:Option Hdr}{fv fv':AV}{fd:Option (Hdr × Hdr)}{fo:List Nat}(h:FdAt O fv fd fo)(hg:O[p]? =some (some [adS key now fv'])):p ∉ fo:=by
 rcases h with⟨_,_,rfl⟩| ⟨a,b,q,e1,e2,rfl,hq⟩
 ·simp
 ·intro hm
  simp only [List.mem_singleton]at hm
  exact zac hg hq (a:=adS key now fv') (b:=evC 1 a b) rfl rfl (by rw [zns,zp9];omega) hm
theorem AHeadP.now{O O':Store}{p:Nat}{key:Hash}{now:Option Hdr}{fd:Option (Hdr × Hdr)}{fv:AV}{fo:List Nat}{s:Hdr}{pf:List Hash}{e:Int}(hg:O[p]? =some (some [adS key now fv]))(hf:FdAt O fv fd fo)(he:adE key now s pf=e)(h:e=1 \/e=2)
  (hg':O'[p]? =some (some [adS key (some s) fv])) (hle:O.length<=O'.length) (hst:∀j,j<O.length->j ≠ p->O'[j]? =O[j]?):AHeadP O p key now fd (p::fo) s pf (.int .i64 e) O':=by
 subst he
 have hp:=hf.ne hg
 refine⟨rfl,p::fo,⟨fun j hj hn=>hst j hj (fun e=>hn (by simp [e])),fun j hj=> .inl hj,hle⟩,fv,fo,rfl,?_,?_⟩
 ·unfold adN;rw [if_pos h];exact hg'
 ·unfold adF;rw [if_neg (by omega)]
  exact hf.keep fun j hj=>hst j (hf.lt hj) fun e=>hp (by rw [<-e];exact hj)
theorem AHeadP.fork{O O':Store}{p q:Nat}{key:Hash}{w s:Hdr}{pf:List Hash}(hg:O[p]? =some (some [adS key (some w) .nilp]))(he:adE key (some w) s pf=6)
  (hg':O'[p]? =some (some [adS key (some w) (.ptr q 0 0)])) (hq:O'[q]? =some (some [evC 1 w s])) (hqn:O.length<=q) (hle:O.length<=O'.length) (hst:∀j,j<O.length->j ≠ p->O'[j]? =O[j]?):AHeadP O p key (some w) none [p] s pf (.int .i64 6) O':=by
 refine⟨by rw [he],[p,q],⟨fun j hj hn=>hst j hj (fun e=>hn (by simp [e])),fun j hj=> ?_,hle⟩,.ptr q 0 0,[q],rfl,?_,?_⟩
 ·simp only [List.mem_cons,List.not_mem_nil,or_false]at hj ⊢
  rcases hj with h|h
  ·exact .inl h
  ·exact .inr (by omega)
 ·unfold adN;rw [he,if_neg (by omega)];exact hg'
 ·unfold adF;rw [he,if_pos rfl]
  exact .inr ⟨w,s,q,rfl,rfl,rfl,hq⟩
theorem AHeadP.forked{O O':Store}{p:Nat}{key:Hash}{now:Option Hdr}{fd:Option (Hdr × Hdr)}{own:List Nat}{s:Hdr}{pf:List Hash}(hT:AudIs O p key now fd own)(hfd:fd ≠ none)(he:adE key now s pf=6)(hx:Ext O O'):AHeadP O p key now fd own s pf (.int .i64 6) O':=by
 refine⟨by rw [he],own,.ext hx,?_⟩
 unfold adN adF
 rw [he,if_neg (by omega),if_pos rfl]
 cases fd with
 |none=>exact absurd rfl hfd
 |some f=>exact hT.ext hx
theorem AHeadP.is{O:Store}{p:Nat}{key:Hash}{now:Option Hdr}{fd:Option (Hdr × Hdr)}{own:List Nat}{s:Hdr}{pf:List Hash}(hT:AudIs O p key now fd own):∃a O',AHeadP O p key now fd own s pf a O':=by
 have hT':=hT
 obtain⟨fv,fo,rfl,hg,hf⟩:=hT
 have d:=slen hg
 by_cases h1:adE key now s pf=1 \/adE key now s pf=2
 ·exact⟨_,O.set p (some [adS key (some s) fv]),.now hg hf rfl h1 (z3h d) (by simp) fun j hj hjp=>z1h (fun e=>hjp e.symm)⟩
 ·by_cases h6:adE key now s pf=6
  ·rcases hf with⟨rfl,rfl,rfl⟩| ⟨a,b,q,rfl,_⟩
   ·cases now with
    |none=>unfold adE at h6;split at h6<;>simp at h6
    |some w=>
     refine⟨_,(O.set p (some [adS key (some w) (.ptr O.length 0 0)]))++ [some [evC 1 w s]],.fork (q:=O.length) hg h6 ?_ ?_ (Nat.le_refl _) (by simp) fun j hj hjp=> ?_⟩
     ·rw [gapp (by simpa using d),z3h d]
     ·rw [z2r (by simp)];simp
     ·rw [gapp (by simpa using hj),z1h (fun e=>hjp e.symm)]
   ·exact⟨_,O,.forked hT' (by simp) h6 (.refl _)⟩
  ·exact⟨_,O,.ext hT' rfl ⟨by omega,by omega,h6⟩ (.refl _)⟩
end
section
attribute [local irreducible] ACallsTo ACallsP
end
section
def logS:List UInt8:=[108,111,103]
attribute [local irreducible] ACallsTo ACallsP
theorem zn8(O:Store)(L:List (List (List UInt8)))(es:List (List AV))(ex:Bool):ACallsTo TC 29 [.vsl 1 es ex] O (.agg [.ptr (O.length+1) 0 0,.vsl 1 es ex]) (O++ [some [[.ptr (O.length+1) 0 0,.vsl 1 es ex]],some [z1r true logS (keyL logS)]]):=by
 have hN:=fun O=>zrj O logS (by simp [logS])
 rw [show logS=[108,111,103]from rfl]at*
 refine ACallsTo.of_body_keep q20ok (by simp) ?_
 repeat' (first|apply zs_|apply zb_|apply zc_|apply zt_ rfl|apply zf_ rfl|(apply zd_ rfl<;>intro ht<;>try omega)|((first|apply zr_|apply zk_|apply ze_|apply zq_|(apply callW.mk_pu;(first|exact(fun _=>hN _)))|(apply callW.za;(first|exact(hN _)))|(apply zG<;>intro ht));all_goals try simp (disch:=first|omega|(simp only [lens,z8,zg,lQr,lQm,lQt,lQd,zh,z1n,z3s,z3i];first|done|omega)) only [go_sem,z6s]))
theorem zn7(O:Store)(L:List (List UInt8))(y:AV)(hy:SlV 1 (strs L) y)(hL:∀s ∈ L,s.length<1000000)(hl:L.length<1000000):ACallsTo TC 89 [y] O (zu 32 (hr (lvs L))) O:=by
 have r1:=hy.len
 rw [z1n]at r1
 unfold z1k at r1
 refine ACallsTo.of_body q22ok (by simp) fun hw _=> ?_
 repeat' (first|apply zs_|apply zb_|apply zc_|apply zt_ rfl|apply zf_ rfl|(apply zd_ rfl<;>intro ht<;>try omega)|((first|apply zr_|apply zk_|apply ze_|apply zq_|(apply zG<;>intro ht));all_goals try simp (disch:=first|omega|(simp only [lens,z8,zg,lQr,lQm,lQt,lQd,zh,z1n,z3s,z3i];first|done|omega)) only [go_sem,r1]))
 refine zW.loop (fun m J O'=>∃(i:Nat) (v:AV),m+i=L.length/\ OwnN 32 O O' v (hr (lvs (L.take i)))/\ J 0=y/\ J 3=v/\ J 4=.int .i64 i) L.length ?_ ?_
 ·refine⟨0,.nilsl,by omega,?_,by simp (disch:=first|omega|(simp only [lens,z8,zg,lQr,lQm,lQt,lQd,zh,z1n,z3s,z3i];first|done|omega)) only [go_sem],by simp (disch:=first|omega|(simp only [lens,z8,zg,lQr,lQm,lQt,lQd,zh,z1n,z3s,z3i];first|done|omega)) only [go_sem],by simp (disch:=first|omega|(simp only [lens,z8,zg,lQr,lQm,lQt,lQd,zh,z1n,z3s,z3i];first|done|omega)) only [go_sem];rfl⟩
  exact⟨[],by simp,.inl ⟨by simp [lvs,hr],rfl⟩⟩
 ·rintro m J O' ⟨i,v,hm,hO,q0,q3,q4⟩
  by_cases hi:i<L.length
  ·obtain⟨ex,rfl⟩:=hy.vsl (by rw [z1n];omega)
   have hg:=zm6 hi
   have hLf:=fun O=>zu3 O (stD L i) (by have:=hL _ (zve hi);omega)
   obtain⟨v',O2,ha,hO2⟩:=hO.app (ys:=[hc (lfH (stD L i))]) (by simp) (by rw [zg,z3s,List.length_take];simp;omega)
   have hcat:hr (lvs (L.take i))++ [hc (lfH (stD L i))]=hr (lvs (L.take (i+1))):=by rw [zw0 hi];simp [lvs,hr]
   rw [hcat]at hO2
   rw [show L.getD i []=stD L i from rfl]at hg
   generalize stD L i=s at*
   repeat' (first|apply zs_|apply zb_|apply zc_|apply zt_ rfl|apply zf_ rfl|(apply zd_ rfl<;>intro ht<;>try omega)|((first|apply zr_|apply zk_|apply ze_|apply zq_|(apply callW.mk_pu;(first|exact(fun _=>hLf _)))|(apply callW.za;(first|exact(hLf _)))|(apply zG<;>intro ht));all_goals try simp (disch:=first|omega|(simp only [lens,z8,zg,lQr,lQm,lQt,lQd,zh,z1n,z3s,z3i];first|done|omega)) only [go_sem,q0,q3,q4,hg,r1,ha]))
   exact⟨m-1,by omega,i+1,v',by omega,hO2,by simp⟩
  ·obtain rfl:i=L.length:=by omega
   rw [List.take_of_length_le (Nat.le_refl _)]at hO
   repeat' (first|apply zs_|apply zb_|apply zc_|apply zt_ rfl|apply zf_ rfl|(apply zd_ rfl<;>intro ht<;>try omega)|((first|apply zr_|apply zk_|apply ze_|apply zq_|(apply zG<;>intro ht));all_goals try simp (disch:=first|omega|(simp only [lens,z8,zg,lQr,lQm,lQt,lQd,zh,z1n,z3s,z3i];first|done|omega)) only [go_sem,q0,q3,q4,r1]))
   exact hO.froze hw (z25 _)
theorem zgr(O:Store)(t:Nat)(seed:List UInt8)(L:List (List UInt8))(ex:Bool)(n k:Nat)(a:Int)(hk:z18 .and .i64 a 7=some (.int .i64 (k:Nat)))(hk8:k<8)(hn:n<=L.length)(ht:O[t]? =some (some [z1r true seed (keyL seed)]))(hs:seed.length<1000000)(hL:∀s ∈ L,s.length<1000000)(hl:L.length<1000000):
  ACallsTo TC 30 [.agg [.ptr t 0 0,.vsl 1 (strs L) ex],.int .i64 n,.int .i64 a] O (.agg (hdrC (mkH seed k (L.take n)))) O:=by
 have d:=slen ht
 have hLv:=fun O b=>zn7 O (L.take n) (.vsl 1 (strs (L.take n)) b) (.inr ⟨b,rfl⟩) (fun s hs=>hL s (List.mem_of_mem_take hs)) (by rw [List.length_take];omega)
 have hRt:=fun O=>zu4 O (lvs (L.take n)) (zu 32 (hr (lvs (L.take n)))) (.of (z3m _ _)) (by rw [z3s,List.length_take];omega)
 have hD:=fun O=>zty O (n:Int) (z1e (lvs (L.take n)))
 have hS:=fun y=>zw6 (O++y) t seed (keyL seed) k (digH n (z1e (lvs (L.take n)))) (by rw [gapp d];exact ht) (z3r seed) hk8 hs
 have hm:hdrC (mkH seed k (L.take n))=sgC n (z1e (lvs (L.take n))) k (ksgS seed k (digH n (z1e (lvs (L.take n)))).1) (zu 32 (hr (z1u (keyL seed) k))):=by
  unfold mkH hdrC
  simp only [List.length_take,Nat.min_eq_left hn]
 rw [hm]
 have hrl:RLs O.length (sgC n (z1e (lvs (L.take n))) k (ksgS seed k (digH n (z1e (lvs (L.take n)))).1) (zu 32 (hr (z1u (keyL seed) k)))):=z73 (z4e (z25 _))
 unfold zfg at hS
 generalize z1e (lvs (L.take n))=R at*
 generalize hsig:ksgS seed k (digH n R).1=sig at*
 generalize z1u (keyL seed) k=PH at*
 generalize digH n R=dg at*
 refine ACallsTo.of_body q21ok (by simp) fun hw _=> ?_
 repeat' (first|apply zs_|apply zb_|apply zc_|apply zt_ rfl|apply zf_ rfl|(apply zd_ rfl<;>intro ht<;>try omega)|((first|apply zr_|apply zk_|apply ze_|apply zq_|(apply callW.mk_pu;(first|exact(fun _=>hLv _ _)|exact(fun _=>hRt _)|exact(fun _=>hD _)))|(apply callW.za;(first|exact(hLv _ _)|exact(hRt _)|exact(hD _)))|(apply zG<;>intro ht));all_goals try simp (disch:=first|omega|(simp only [lens,z8,zg,lQr,lQm,lQt,lQd,zh,z1n,z3s,z3i];first|done|omega)) only [go_sem,hk,Int.toNat_natCast,zvt,zfj]))
 refine callW.mk_pu2 (caps:=[]) (hS _) (fun h hh=>hh.elim) ?_
 simp (disch:=first|omega|(simp only [lens,z8,zg,lQr,lQm,lQt,lQd,zh,z1n,z3s,z3i];first|done|omega)) only [go_sem,hS,List.append_nil,zfj]
 repeat' (first|apply zs_|apply zb_|apply zc_|apply zt_ rfl|apply zf_ rfl|(apply zd_ rfl<;>intro ht<;>try omega)|((first|apply zr_|apply zk_|apply ze_|apply zq_|(apply zG<;>intro ht));all_goals try simp (disch:=first|omega|(simp only [lens,z8,zg,lQr,lQm,lQt,lQd,zh,z1n,z3s,z3i];first|done|omega)) only [go_sem,zfj]))
 have e:∀(Z:List AV),Z.length=36->sgC n R k sig (zu 32 (hr PH))++(List.drop 36 (sgC n R 0 [] AV.nilsl)++List.drop (36+(List.drop 36 (sgC n R 0 [] AV.nilsl)).length) Z)=sgC n R k sig (zu 32 (hr PH)):=by
  intro Z hZ
  rw [zli,List.nil_append,List.drop_eq_nil_of_le (by simp [hZ]),List.append_nil]
 rw [e _ rfl]
 exact Ext.pure hw ⟨_,rfl⟩ (by simp only [RL];exact hrl)
end
section
def lgA:List (List UInt8):=[[97],[98]]
def hdA:Hdr:=mkH logS 0 [[97]]
def hdB:Hdr:=mkH logS 1 [[97],[98]]
def kyA:Hash:=z1e (keyL logS)
end
section
attribute [local irreducible] ACallsTo ACallsP kyA hdA hdB logS
end
section
set_option maxRecDepth 10000

end
section
set_option maxRecDepth 10000
def q23r0:yW:=[
 yI 2 (.box (.t 0)),
 yI 3 (.box (.t 1)),
 yI 4 (.mv (.v (.bool false)))]
def q23r1:yW:=[
 yF 6 0 2,
 yL 7 false 1 6,
 yF 8 0 3,
 yL 9 false 1 8,
 yB 10 .neq 7 9,
 yM 11 10,
 yT 12 11 false 1 2,
 yU 13 11 false true 36 12,
 yT 14 11 false 1 3,
 yU 15 11 false true 36 14,
 yG 16 11 false (.call (.v (.fn 50 [])) [(.t 13),(.t 15)]),
 yG 17 11 false (.un .not (.t 16)),
 yP 18 11 17,
 yM 19 18,
 yT 20 19 false 37 2,
 yU 21 19 false true 36 20,
 yT 22 19 false 37 3,
 yU 23 19 false true 36 22,
 yG 24 19 false (.call (.v (.fn 50 [])) [(.t 21),(.t 23)]),
 yG 25 19 false (.un .not (.t 24)),
 yP 26 19 25,
 yM 27 26,
 yT 28 27 false 73 2,
 yU 29 27 false true 32 28,
 yT 30 27 false 73 3,
 yU 31 27 false true 32 30,
 yG 32 27 false (.bin .neq (.agg (List.replicate 32 (.i .u8)++ [])) (.t 29) (.t 31)),
 yP 33 27 32,
 yM 34 33,
 yT 35 34 false 105 2,
 yU 36 34 false false 1 35,
 yG 37 34 false (.lenSl (.t 36)),
 yT 38 34 false 105 3,
 yU 39 34 false false 1 38,
 yG 40 34 false (.lenSl (.t 39)),
 yG 41 34 false (.bin .neq .none (.t 37) (.t 40)),
 yP 42 34 41]
def q23r2:yW:=[
 yI 4 (.mv (.v (.bool false)))]
def q23c3:yX:=yq q23r2 .ret
def q23c4:yX:=.cond (.t 42) q23c3 .skip
def q23c5:yX:=yq q23r1 q23c4
def q23r6:yW:=[
 yK 5 .i64 0]
def q23r7:yW:=[
 yM 43 5,
 yF 44 105 2,
 yL 45 false 1 44,
 yI 46 (.lenSl (.t 45)),
 yB 47 .lss 43 46]
def q23c8:yX:=.cond (.t 47) .skip (.exit 0)
def q23c9:yX:=yq q23r7 q23c8
def q23r10:yW:=[
 yF 50 105 2,
 ⟨some 51,none,.rd,.load false 1 (.t 50)⟩,
 yM 52 5,
 yI 53 (.iaSl 32 (.t 51) (.t 52)),
 ⟨some 54,none,.rd,.load true 32 (.t 53)⟩,
 yF 55 105 3,
 ⟨some 56,none,.rd,.load false 1 (.t 55)⟩,
 yM 57 5,
 yI 58 (.iaSl 32 (.t 56) (.t 57)),
 ⟨some 59,none,.rd,.load true 32 (.t 58)⟩,
 yI 60 (.bin .neq (.agg (List.replicate 32 (.i .u8)++ [])) (.t 54) (.t 59))]
def q23r11:yW:=[
 yI 4 (.mv (.v (.bool false)))]
def q23c12:yX:=yq q23r11 .ret
def q23c13:yX:=.cond (.t 60) q23c12 .skip
def q23c14:yX:=yq q23r10 q23c13
def q23r15:yW:=[
 yM 48 5,
 yJ 49 .add 48 .i64 1,
 yM 5 49]
def q23c16:yX:=.seq (.block 1 q23c14) (.reg q23r15)
def q23c17:yX:=.seq q23c9 q23c16
def q23c18:yX:=.loop q23c17
def q23c19:yX:=.block 0 q23c18
def q23c20:yX:=yq q23r6 q23c19
def q23r21:yW:=[
 yI 4 (.mv (.v (.bool true)))]
def q23c22:yX:=yq q23r21 .ret
def q23c23:yX:=.seq q23c20 q23c22
def q23c24:yX:=.seq q23c5 q23c23
def q23c25:yX:=yq q23r0 q23c24
attribute [go_sem] q23r0 q23r1 q23r2 q23r6 q23r7 q23r10 q23r11 q23r15 q23r21
theorem q23ok:cFn TC 14=some (61,[.t 4],q23c25):=by kernel_rfl
end
section
set_option maxRecDepth 4000
def zar:Nat->Nat->Nat
 | 0,_=>33778799
 | 1,_=>1728053248
 | 2,l=>l%8*16777216+l/8/256%256*65536+l/8%256*256+128
 | 15,_=>88
 | _,_=>0
theorem z7f:∀j l,zar j l<2^64:=by
 intro j l
 unfold zar
 split<;>omega
def secG(i k:Nat):List UInt8:=[2,3,108,111,103,0,0,0,UInt8.ofNat i,UInt8.ofNat (k/256),UInt8.ofNat k,128,0,0,0,0,0,0,0,0,0,0,0,0,0,0,0,0,0,0,0,0,0,0,0,0,0,0,0,0,0,0,0,0,0,0,0,0,0,0,0,0,0,0,0,0,0,0,0,0,0,0,0,88]
theorem zle(i k:Nat)(hi:i<8):padS (secM [108,111,103] i k)=secG i k:=by
 have e0:secM [108,111,103] i k=[2,3,108,111,103,0,0,0,UInt8.ofNat i,UInt8.ofNat (k/256),UInt8.ofNat k]:=by
  unfold secM putS z1v
  rw [if_pos (by omega),if_pos (by omega),show (4:Int).toNat=4 from rfl,show (2:Int).toNat=2 from rfl,Int.toNat_natCast,Int.toNat_natCast,be4]
  have e1:i/16777216=0:=by omega
  have e2:i/65536=0:=by omega
  have e3:i/256=0:=by omega
  rw [e1,e2,e3]
  have e4:be 2 k=[UInt8.ofNat (k/256),UInt8.ofNat k]:=by simp [be]
  have e5:numS ([108,111,103]:List UInt8).length=[3]:=rfl
  rw [e4,e5]
  rfl
 rw [e0]
 unfold padS
 have e:[2,3,108,111,103,0,0,0,UInt8.ofNat i,UInt8.ofNat (k/256),UInt8.ofNat k].length=11:=rfl
 rw [e,show (119-11%64)%64=44 from rfl,show 11*8=88 from rfl,show List.replicate 44 (0:UInt8)++be 8 88=[0,0,0,0,0,0,0,0,0,0,0,0,0,0,0,0,0,0,0,0,0,0,0,0,0,0,0,0,0,0,0,0,0,0,0,0,0,0,0,0,0,0,0,0,0,0,0,0,0,0,0,88]from by decide+kernel]
 rfl
theorem z74(l j:Nat)(hj:j<16):zz (padS (secM [108,111,103] ((l%8:Nat):Int) ((id (l/8):Nat):Int))) j=BitVec.ofNat 32 (zar j l):=by
  rw [zle (l%8) (id (l/8)) (Nat.mod_lt _ (by omega))]
  change zz (secG (l%8) (l/8)) j=_
  match j,hj with
  | 2, _ => exact z36 _ 2 rfl (by
      have z128:(128:UInt8).toNat=128:=rfl
      have h1:(UInt8.ofNat (l%8)).toNat=l%8%2^8:=UInt8.toNat_ofNat'
      have h2:(UInt8.ofNat (l/8/256)).toNat=l/8/256%2^8:=UInt8.toNat_ofNat'
      have h3:(UInt8.ofNat (l/8)).toNat=l/8%2^8:=UInt8.toNat_ofNat'
      have h4:zar 2 l=l%8*16777216+l/8/256%256*65536+l/8%256*256+128:=rfl
      omega)
  | 0,_=>exact z36 _ 0 rfl rfl
  | 1,_=>exact z36 _ 1 rfl rfl
  | 3,_=>exact z36 _ 3 rfl rfl
  | 4,_=>exact z36 _ 4 rfl rfl
  | 5,_=>exact z36 _ 5 rfl rfl
  | 6,_=>exact z36 _ 6 rfl rfl
  | 7,_=>exact z36 _ 7 rfl rfl
  | 8,_=>exact z36 _ 8 rfl rfl
  | 9,_=>exact z36 _ 9 rfl rfl
  | 10,_=>exact z36 _ 10 rfl rfl
  | 11,_=>exact z36 _ 11 rfl rfl
  | 12,_=>exact z36 _ 12 rfl rfl
  | 13,_=>exact z36 _ 13 rfl rfl
  | 14,_=>exact z36 _ 14 rfl rfl
  | 15,_=>exact z36 _ 15 rfl rfl
  |j+16,h=>omega
set_option maxRecDepth 100000 in
theorem z6r:S8.beq (zc1 zar) 1320835449206203866968076020261438702849544712518655694594726786435725497492055048555651861447073614291391284224593337609353361163864314234628065 2013796147878520090777087847541815710076959536117237416500479438883090368637474608574000615118968184963559477138501976632380654710688406745170962 764677164750291394651456146995311753182295554811497401143325479492167841979218991961787130411770669366995379369167074185438647288952392840850119 2820532317304250986185441863165357658723354557117661337876442221713392596583902174695393914508297141563107553324167067054064426302871453685465301 4288889241354956728289634705347294290886559619521404258259498530673754312111797092585911532674921074801148668119997317565658285810729428459978 1532455314960756290783695641016176468105767434538854070937505973105784005677135635410655906952828073783636638650614393447809143328208428770758431 2436926052602706423628281069676967468239015793754056925121058134370771685922224871690994533947280866332420918801877964605410961094719201329583076 2213900926502513227729612905972299321349082970510711465694822006630624413376917535197471595075019592482578544502151732206519080708072907146844930=true:=by decide+kernel
theorem z6w:z86 [108,111,103]:=fun i k hi=>by rw [zle i k hi];rfl
theorem z6x(i:Nat):pubH [108,111,103] i=pubS [108,111,103] id i:=rfl
def kg0:List UInt8:=[112,245,103,225,125,0,196,18,184,195,42,199,35,239,64,213,83,188,33,202,136,167,143,31,228,76,147,228,13,48,219,2]
def kg1:List UInt8:=[135,101,180,93,79,81,114,205,119,129,56,115,255,106,191,177,241,221,151,178,170,61,192,111,235,227,83,106,178,100,238,83]
def kg2:List UInt8:=[10,102,171,250,54,84,240,188,26,112,123,104,235,24,77,171,169,91,78,253,147,180,146,24,140,209,58,6,197,52,216,59]
def kg3:List UInt8:=[103,180,156,23,49,165,161,209,222,241,72,94,32,115,93,137,123,165,248,108,215,211,204,216,96,200,101,74,209,228,161,226]
def kg4:List UInt8:=[47,166,43,133,212,89,81,134,209,2,48,127,187,208,93,204,118,132,84,137,196,197,80,214,239,159,209,154,85,6,60,89]
def kg5:List UInt8:=[138,196,10,114,0,35,196,139,35,160,27,92,49,58,62,159,68,188,20,150,191,169,158,67,75,8,179,43,254,242,170,207]
def kg6:List UInt8:=[64,186,91,239,47,232,114,61,67,27,206,134,187,119,47,75,215,152,249,219,54,141,80,65,46,53,43,110,228,165,46,238]
def kg7:List UInt8:=[108,80,199,32,165,36,90,108,62,181,37,42,231,76,117,85,0,90,9,200,125,171,99,245,199,215,69,216,181,141,57,182]
theorem lg0:(z24 (pubH [108,111,103] ((0:Nat):Int))).1=kg0:=by rw [z6x,z6t [108,111,103] id z6w z74 z7f z6r 0 (by omega)];decide+kernel
theorem lg1:(z24 (pubH [108,111,103] ((1:Nat):Int))).1=kg1:=by rw [z6x,z6t [108,111,103] id z6w z74 z7f z6r 1 (by omega)];decide+kernel
theorem lg2:(z24 (pubH [108,111,103] ((2:Nat):Int))).1=kg2:=by rw [z6x,z6t [108,111,103] id z6w z74 z7f z6r 2 (by omega)];decide+kernel
theorem lg3:(z24 (pubH [108,111,103] ((3:Nat):Int))).1=kg3:=by rw [z6x,z6t [108,111,103] id z6w z74 z7f z6r 3 (by omega)];decide+kernel
theorem lg4:(z24 (pubH [108,111,103] ((4:Nat):Int))).1=kg4:=by rw [z6x,z6t [108,111,103] id z6w z74 z7f z6r 4 (by omega)];decide+kernel
theorem lg5:(z24 (pubH [108,111,103] ((5:Nat):Int))).1=kg5:=by rw [z6x,z6t [108,111,103] id z6w z74 z7f z6r 5 (by omega)];decide+kernel
theorem lg6:(z24 (pubH [108,111,103] ((6:Nat):Int))).1=kg6:=by rw [z6x,z6t [108,111,103] id z6w z74 z7f z6r 6 (by omega)];decide+kernel
theorem lg7:(z24 (pubH [108,111,103] ((7:Nat):Int))).1=kg7:=by rw [z6x,z6t [108,111,103] id z6w z74 z7f z6r 7 (by omega)];decide+kernel
theorem rt_g:z1q (z1q (z1q kg0 kg1) (z1q kg2 kg3)) (z1q (z1q kg4 kg5) (z1q kg6 kg7)) ≠ 1::List.replicate 31 0:=by decide+kernel
theorem root_g(x:Hash)(hx:x.1=1::List.replicate 31 0):z1e (keyL [108,111,103]) ≠ x:=by
 obtain⟨a,b,c,d,e,f,g,h,hK,k0,k1,k2,k3,k4,k5,k6,k7⟩:∃a b c d e f g h:Hash,keyL [108,111,103]=[a,b,c,d,e,f,g,h]/\ a.1=kg0/\ b.1=kg1/\ c.1=kg2/\ d.1=kg3/\ e.1=kg4/\ f.1=kg5/\ g.1=kg6/\ h.1=kg7:=
  ⟨_,_,_,_,_,_,_,_,rfl,lg0,lg1,lg2,lg3,lg4,lg5,lg6,lg7⟩
 intro hh
 rw [hK,zfc]at hh
 have h3:=congrArg Subtype.val hh
 simp only [z1a]at h3
 rw [k0,k1,k2,k3,k4,k5,k6,k7,hx]at h3
 exact rt_g h3
end
section
structure Ev where
 k:Int
 a:Hdr
 b:Hdr
 r:Hash
 p:List Hash
def evZ0:Ev:=⟨0,zHd,zHd,zeroH,[]⟩
def sgX(h:Hdr)(x:AV):List AV:=sgC h.n h.r h.i h.s x
theorem zi(h:Hdr)(x:AV):(sgX h x).length=36:=zh _ _ _ _ _
@[go_sem] theorem sgX_0 (h:Hdr) (x:AV):(sgX h x)[0]? =some (.int .i64 h.n):=rfl
@[go_sem] theorem sgX_35 (h:Hdr) (x:AV):(sgX h x)[35]? =some x:=sgC_35 _ _ _ _ _
@[go_sem] theorem sgX_all (h:Hdr) (x:AV):(sgX h x).take 36=sgX h x:=zuu _ _ _ _ _
@[go_sem] theorem zlk (h:Hdr) (x:AV):((sgX h x).drop 1).take 32=hc h.r:=zuv _ _ _ _ _
@[go_sem] theorem zlj (h:Hdr) (x:AV):(sgX h x).take 33=.int .i64 h.n::hc h.r:=zfk _ _ _ _ _
theorem z1w(h:Hdr)(x:AV):(sgX h x).drop 36=[]:=List.drop_eq_nil_of_le (by rw [zi];omega)
def evX(e:Ev)(x y z:AV):List AV:=.int .i64 e.k::(sgX e.a x++(sgX e.b y++(hc e.r++ [z])))
def evO:List AV:=evX evZ0 .nilsl .nilsl .nilsl
theorem zj(e:Ev)(x y z:AV):(evX e x y z).length=106:=by simp [evX,zi,z8]
theorem zl:evO.length=106:=zj _ _ _ _
section
variable (e:Ev) (x y z:AV)
theorem zbp:(evX e x y z).drop 1=sgX e.a x++(sgX e.b y++(hc e.r++ [z])):=rfl
theorem evX_d2:(evX e x y z).drop 2=(sgX e.a x).drop 1++(sgX e.b y++(hc e.r++ [z])):=rfl
theorem z7p:(evX e x y z).drop 37=sgX e.b y++(hc e.r++ [z]):=by
 rw [show 37=1+36 from rfl,<-List.drop_drop,zbp,List.drop_left' (zi e.a x)]
theorem zpd:(evX e x y z).drop 38=(sgX e.b y).drop 1++(hc e.r++ [z]):=by
 rw [show 38=37+1 from rfl,<-List.drop_drop,z7p];rfl
theorem ze0:(evX e x y z).drop 73=hc e.r++ [z]:=by
 rw [show 73=37+36 from rfl,<-List.drop_drop,z7p,List.drop_left' (zi e.b y)]
theorem zig:(evX e x y z).drop 105=[z]:=by
 rw [show 105=73+32 from rfl,<-List.drop_drop,ze0,z7q]
theorem zpc:(evX e x y z).drop 36=x::(sgX e.b y++(hc e.r++ [z])):=by
 rw [show 36=1+35 from rfl,<-List.drop_drop,zbp];unfold sgX sgC
 rw [List.cons_append,List.drop_succ_cons,List.append_assoc,show 34=32+2 from rfl,<-List.drop_drop,z7q];rfl
theorem zpe:(evX e x y z).drop 72=y::(hc e.r++ [z]):=by
 rw [show 72=37+35 from rfl,<-List.drop_drop,z7p];unfold sgX sgC
 rw [List.cons_append,List.drop_succ_cons,List.append_assoc,show 34=32+2 from rfl,<-List.drop_drop,z7q];rfl
@[go_sem] theorem evX_0:(evX e x y z)[0]? =some (.int .i64 e.k):=rfl
@[go_sem] theorem evX_1:(evX e x y z)[1]? =some (.int .i64 e.a.n):=rfl
@[go_sem] theorem evX_36:(evX e x y z)[36]? =some x:=z6n (zpc e x y z)
@[go_sem] theorem evX_37:(evX e x y z)[37]? =some (.int .i64 e.b.n):=z6n (z7p e x y z)
@[go_sem] theorem evX_72:(evX e x y z)[72]? =some y:=z6n (zpe e x y z)
@[go_sem] theorem evX_105:(evX e x y z)[105]? =some z:=z6n (zig e x y z)
@[go_sem] theorem evX_all:(evX e x y z).take 106=evX e x y z:=List.take_of_length_le (by rw [zj];omega)
theorem z1p:(evX e x y z).drop 106=[]:=List.drop_eq_nil_of_le (by rw [zj];omega)
@[go_sem] theorem evX_old:((evX e x y z).drop 1).take 36=sgX e.a x:=by rw [zbp,List.take_left' (zi e.a x)]
@[go_sem] theorem evX_new:((evX e x y z).drop 37).take 36=sgX e.b y:=by rw [z7p,List.take_left' (zi e.b y)]
@[go_sem] theorem evX_oldh:((evX e x y z).drop 1).take 33=.int .i64 e.a.n::hc e.a.r:=by
 rw [zbp,List.take_append_of_le_length (by rw [zi];omega),zlj]
@[go_sem] theorem evX_newh:((evX e x y z).drop 37).take 33=.int .i64 e.b.n::hc e.b.r:=by
 rw [z7p,List.take_append_of_le_length (by rw [zi];omega),zlj]
@[go_sem] theorem evX_oldr:((evX e x y z).drop 2).take 32=hc e.a.r:=by
 rw [evX_d2,List.take_append_of_le_length (by rw [List.length_drop,zi];omega),zlk]
@[go_sem] theorem evX_newr:((evX e x y z).drop 38).take 32=hc e.b.r:=by
 rw [zpd,List.take_append_of_le_length (by rw [List.length_drop,zi];omega),zlk]
@[go_sem] theorem evX_root:((evX e x y z).drop 73).take 32=hc e.r:=by rw [ze0,z7r]
@[go_sem] theorem evX_pk (k:Int): .int .i64 k::(evX e x y z).drop 1=evX ⟨k,e.a,e.b,e.r,e.p⟩ x y z:=rfl
theorem zpa:evX e x y z=(.int .i64 e.k::sgX e.a x)++(sgX e.b y++(hc e.r++ [z])):=rfl
theorem zpb:evX e x y z=(.int .i64 e.k::sgX e.a x++sgX e.b y)++(hc e.r++ [z]):=by simp [evX]
theorem zif:evX e x y z=(.int .i64 e.k::sgX e.a x++sgX e.b y++hc e.r)++ [z]:=by simp [evX]
@[go_sem] theorem evX_sold (h:Hdr) (v:AV):(evX e x y z).take 1++(sgX h v++(evX e x y z).drop 37)=evX ⟨e.k,h,e.b,e.r,e.p⟩ v y z:=by
 rw [z7p];rfl
@[go_sem] theorem evX_snew (h:Hdr) (v:AV):(evX e x y z).take 37++(sgX h v++(evX e x y z).drop 73)=evX ⟨e.k,e.a,h,e.r,e.p⟩ x v z:=by
 rw [ze0,zpa,List.take_left' (by simp [zi])];rfl
@[go_sem] theorem evX_sroot (r:Hash):(evX e x y z).take 73++(hc r++(evX e x y z).drop 105)=evX ⟨e.k,e.a,e.b,r,e.p⟩ x y z:=by
 rw [zig,zpb,List.take_left' (by simp [zi])];simp [evX]
theorem zpf(v:AV):(evX e x y z).set 105 v=evX e x y v:=by
 rw [zif,List.set_append_right _ _ (by simp [zi,z8]),zif];simp [zi,z8]
theorem zll(h:Hdr)(x v:AV):(sgX h x).set 35 v=sgX h v:=by
 unfold sgX sgC
 rw [List.set_cons_succ,List.set_append_right _ _ (by rw [z8];omega),z8];rfl
theorem zpg(v:AV):(evX e x y z).set 36 v=evX e v y z:=by
 unfold evX
 rw [List.set_cons_succ,List.set_append_left _ _ (by rw [zi];omega),zll]
theorem zph(v:AV):(evX e x y z).set 72 v=evX e x v z:=by
 unfold evX
 rw [List.set_cons_succ,List.set_append_right _ _ (by rw [zi];omega),zi,List.set_append_left _ _ (by rw [zi];omega),zll]
theorem zfh{l:List AV}{k:Nat}{v:AV}(h:k<l.length):l.take k++v::l.drop (k+1)=l.set k v:=by
 rw [List.set_eq_take_append_cons_drop,if_pos h]
@[go_sem] theorem evX_p36 (v:AV):(evX e x y z).take 36++v::(evX e x y z).drop 37=evX e v y z:=by rw [zfh (by rw [zj];omega),zpg]
@[go_sem] theorem evX_p72 (v:AV):(evX e x y z).take 72++v::(evX e x y z).drop 73=evX e x v z:=by rw [zfh (by rw [zj];omega),zph]
@[go_sem] theorem z9z (v:AV):(evX e x y z).take 105++v::(evX e x y z).drop 106=evX e x y v:=by rw [zfh (by rw [zj];omega),zpf]
theorem zci{n:Nat}(hx:RL n x)(hy:RL n y)(hz:RL n z):RLs n (evX e x y z):=by
 have app:∀(A B:List AV),RLs n A->RLs n B->RLs n (A++B):=by
  intro A B
  induction A with
  |nil=>intro _ h;exact h
  |cons a A ih=>intro h1 h2;simp only [List.cons_append,RLs]at h1 ⊢;exact⟨h1.1,ih h1.2 h2⟩
 unfold evX
 simp only [RLs]
 exact⟨by simp [RL],app _ _ (z73 hx) (app _ _ (z73 hy) (app _ _ (zcf _) ⟨hz,by simp [RLs]⟩))⟩
end
def evL(e:Ev):List AV:=evX e (zu 32 (hr e.a.p)) (zu 32 (hr e.b.p)) (zu 32 (hr e.p))
end
section
def zag(h:Hd):Hdr:=⟨h.n,h.r,h.i,h.g,h.l⟩
def valH(h:Hdr):Bool:=z1i h.n h.i h.s h.p
def z2i(h:Hdr):List UInt8:=putH h.n.toNat h.r h.i.toNat h.s h.p
def z5b(e:Ev):Bool:=if e.k=1 then decide (e.a.n=e.b.n/\ e.a.r ≠ e.b.r/\ e.r=zeroH/\ e.p=[])else decide (e.k=2/\ e.a.n<e.b.n/\ e.r ≠ e.a.r)
def mayB(e:Ev):Bool:=valH e.a && valH e.b && decide (e.p.length<=64) && z5b e
theorem zc4{e:Ev}(h:mayB e=true):valH e.a=true/\ valH e.b=true/\ e.p.length<=64/\ z5b e=true:=by
 unfold mayB at h
 simp only [Bool.and_eq_true,decide_eq_true_eq]at h
 exact⟨h.1.1.1,h.1.1.2,h.1.2,h.2⟩
theorem zjg{e:Ev}(h:z5b e=true):(e.k=1/\ e.r=zeroH/\ e.p=[]) \/(e.k=2):=by
 unfold z5b at h
 split at h
 ·rename_i hk
  have h:=of_decide_eq_true h
  exact .inl ⟨hk,h.2.2⟩
 ·exact .inr (of_decide_eq_true h).1
def z2k(e:Ev):List UInt8:=numS e.k.toNat++(z1v (z2i e.a)++(z1v (z2i e.b)++(if e.k=2 then e.r.1++z3a e.p else [])))
def sgnS(s:List UInt8):Option (Hdr × List UInt8):=(cutS s).bind fun x=>(getH x.1).map fun h=>(zag h,x.2)
def z4q(s:List UInt8):Option (Ev × List UInt8):=
 (z1g s).bind fun x=>(sgnS x.2).bind fun y=>(sgnS y.2).bind fun z=>
  if x.1=1 then some (⟨1,y.1,z.1,zeroH,[]⟩,z.2)else if x.1=2 then(unS z.2).bind fun u=>(unsS u.2).map fun v=>(⟨2,y.1,z.1,u.1,v.1⟩,v.2)else none
def getE(s:List UInt8):Option Ev:=(z4q s).bind fun x=>if x.2=[]/\ mayB x.1=true then some x.1 else none
theorem val_of{h:Hdr}(hv:valH h=true):∃d:Hd,h=zag d/\ z1i d.n d.i d.g d.l=true/\ z2i h=putH d.n d.r d.i d.g d.l:=by
 obtain⟨N,I,e1,e2,_⟩:=z99 hv
 refine⟨⟨N,h.r,I,h.s,h.p⟩,?_,?_,?_⟩
 ·cases h;simp only [zag]at*;subst e1;subst e2;rfl
 ·unfold valH at hv;rw [<-e1,<-e2];exact hv
 ·unfold z2i;rw [e1,e2];rfl
theorem z8s{h:Hdr}(hv:valH h=true):(z2i h).length<1000000:=by
 obtain⟨N,I,e1,e2,b1,b2,b3,b4⟩:=z99 hv
 have h1:=z2t h.n.toNat
 have h2:=z2t h.i.toNat
 have h3:=z2t h.s.length
 have h4:=zbr (l:=h.p)
 have h5:=h.r.2
 unfold z2i putH z1v
 simp only [List.length_append]
 omega
theorem zlm{h:Hdr}(hv:valH h=true)(t:List UInt8):sgnS (z1v (z2i h)++t)=some (h,t):=by
 have hl:=z8s hv
 obtain⟨d,rfl,hd,he⟩:=val_of hv
 unfold sgnS
 rw [zhz (by omega),Option.bind_some,he]
 have:=zq9 hd []
 rw [List.append_nil,if_pos rfl]at this
 rw [this];rfl
theorem zln{s r:List UInt8}{h:Hdr}(e:sgnS s=some (h,r)):s=z1v (z2i h)++r/\ valH h=true:=by
 unfold sgnS at e
 cases e1:cutS s with
 |none=>rw [e1]at e;simp at e
 |some x=>
 rw [e1,Option.bind_some]at e
 cases e2:getH x.1 with
 |none=>rw [e2]at e;simp at e
 |some d=>
 rw [e2,Option.map_some]at e
 simp only [Option.some.injEq,Prod.mk.injEq]at e
 obtain⟨rfl,rfl⟩:=e
 have s1:=zdr (g:=x.1) (r:=x.2) e1
 obtain⟨s2,s3⟩:=zis e2
 refine⟨?_,s3⟩
 rw [s1,s2]
 unfold z2i zag
 simp only [Int.toNat_natCast]
theorem zti{e:Ev}(h:mayB e=true)(t:List UInt8):z4q (z2k e++t)=some (e,t):=by
 obtain⟨h1,h2,h3,h4⟩:=zc4 h
 have hk:=zjg h4
 unfold z4q z2k
 simp only [List.append_assoc]
 rw [z8v (by omega),Option.bind_some,zlm h1,Option.bind_some,zlm h2,Option.bind_some]
 obtain⟨k,a,b,r,p⟩:=e
 rcases hk with⟨hk,hr,hp⟩|hk
 ·simp only at hk hr hp
  subst hk;subst hr;subst hp
  rfl
 ·simp only at hk h3
  subst hk
  dsimp only
  rw [if_neg (show ¬(2:Int).toNat=1 by decide),if_pos (show (2:Int).toNat=2 from rfl),if_pos rfl]
  simp only [List.append_assoc]
  rw [zmj,Option.bind_some,zml h3,Option.map_some]
theorem ztg{s t:List UInt8}{e:Ev}(h:z4q s=some (e,t)):s=z2k e++t:=by
 unfold z4q at h
 cases e1:z1g s with
 |none=>rw [e1]at h;simp at h
 |some x=>
 rw [e1,Option.bind_some]at h
 cases e2:sgnS x.2 with
 |none=>rw [e2]at h;simp at h
 |some y=>
 rw [e2,Option.bind_some]at h
 cases e3:sgnS y.2 with
 |none=>rw [e3]at h;simp at h
 |some z=>
 rw [e3,Option.bind_some]at h
 have s1:=(z6y (n:=x.1) (rest:=x.2) e1).2
 have s2:=(zln (h:=y.1) (r:=y.2) e2).1
 have s3:=(zln (h:=z.1) (r:=z.2) e3).1
 by_cases k1:x.1=1
 ·rw [if_pos k1]at h
  simp only [Option.some.injEq,Prod.mk.injEq]at h
  obtain⟨rfl,rfl⟩:=h
  unfold z2k
  rw [s1,s2,s3,k1]
  simp [List.append_assoc]
 ·rw [if_neg k1]at h
  by_cases k2:x.1=2
  ·rw [if_pos k2]at h
   cases e4:unS z.2 with
   |none=>rw [e4]at h;simp at h
   |some u=>
   rw [e4,Option.bind_some]at h
   cases e5:unsS u.2 with
   |none=>rw [e5]at h;simp at h
   |some v=>
   rw [e5,Option.map_some]at h
   simp only [Option.some.injEq,Prod.mk.injEq]at h
   obtain⟨rfl,rfl⟩:=h
   have s4:=zgd (h:=u.1) (r:=u.2) e4
   have s5:=zmm (l:=v.1) (r:=v.2) e5
   unfold z2k
   rw [s1,s2,s3,s4,s5,k2]
   simp [List.append_assoc]
  ·rw [if_neg k2]at h;cases h
theorem zq8{e:Ev}(h:mayB e=true)(t:List UInt8):getE (z2k e++t)=if t=[]then some e else none:=by
 unfold getE
 rw [zti h,Option.bind_some]
 by_cases ht:t=[]
 ·rw [if_pos ⟨ht,h⟩,if_pos ht]
 ·rw [if_neg (fun e=>ht e.1),if_neg ht]
theorem zir{s:List UInt8}{e:Ev}(h:getE s=some e):s=z2k e/\ mayB e=true:=by
 unfold getE at h
 cases hp:z4q s with
 |none=>rw [hp]at h;simp at h
 |some x=>
  obtain⟨e',t⟩:=x
  have hs:=ztg hp
  rw [hp,Option.bind_some]at h
  split at h
  ·rename_i hc
   simp only [Option.some.injEq]at h
   subst h
   obtain⟨rfl,hv⟩:=hc
   exact⟨by simpa using hs,hv⟩
  ·cases h
theorem zob{e:Ev}(h:mayB e=true):(z2k e).length<10000000/\ 0<(z2k e).length:=by
 obtain⟨h1,h2,h3,_⟩:=zc4 h
 have l1:=z8s h1
 have l2:=z8s h2
 have l3:=z2t e.k.toNat
 have l4:=z2t (z2i e.a).length
 have l5:=z2t (z2i e.b).length
 have l6:=zbr (l:=e.p)
 have l7:=e.r.2
 have l8:=List.length_pos_iff.2 (zsa e.k.toNat)
 unfold z2k z1v
 simp only [List.length_append]
 split
 ·simp only [List.length_append];omega
 ·simp only [List.length_nil];omega
def rdD(s:List UInt8):Nat × List UInt8:=(z1g s).getD (0,[])
def cutD(s:List UInt8):List UInt8 × List UInt8:=(cutS s).getD ([],[])
def unD(s:List UInt8):Hash × List UInt8:=(unS s).getD (zeroH,[])
def unsD(s:List UInt8):List Hash × List UInt8:=(unsS s).getD ([],[])
def z2z(s:List UInt8):Hdr:=((getH s).map zag).getD zHd
def refE(s:List UInt8):Ev:=
 ⟨((rdD s).1%256:Nat),z2z (cutD (rdD s).2).1,z2z (cutD (cutD (rdD s).2).2).1,
  if (rdD s).1=2 then(unD (cutD (cutD (rdD s).2).2).2).1 else zeroH,if (rdD s).1=2 then(unsD (unD (cutD (cutD (rdD s).2).2).2).2).1 else []⟩
def ze8(s:List UInt8):Option Ev:=if mayB (refE s)=true/\ z2k (refE s)=s then some (refE s)else none
theorem zcq{s r:List UInt8}{h:Hdr}(e:sgnS s=some (h,r)):z2z (cutD s).1=h/\ (cutD s).2=r:=by
 unfold sgnS at e
 cases e1:cutS s with
 |none=>rw [e1]at e;simp at e
 |some x=>
 rw [e1,Option.bind_some]at e
 unfold cutD
 rw [e1,Option.getD_some]
 cases e2:getH x.1 with
 |none=>rw [e2]at e;simp at e
 |some d=>
 rw [e2,Option.map_some]at e
 simp only [Option.some.injEq,Prod.mk.injEq]at e
 unfold z2z
 rw [e2]
 exact e
theorem zu1{s t:List UInt8}{e:Ev}(h:z4q s=some (e,t)):refE s=e:=by
 unfold z4q at h
 cases e1:z1g s with
 |none=>rw [e1]at h;simp at h
 |some x=>
 rw [e1,Option.bind_some]at h
 have hr:rdD s=x:=by unfold rdD;rw [e1];rfl
 cases e2:sgnS x.2 with
 |none=>rw [e2]at h;simp at h
 |some y=>
 rw [e2,Option.bind_some]at h
 obtain⟨a1,a2⟩:=zcq (h:=y.1) (r:=y.2) e2
 cases e3:sgnS y.2 with
 |none=>rw [e3]at h;simp at h
 |some z=>
 rw [e3,Option.bind_some]at h
 obtain⟨b1,b2⟩:=zcq (h:=z.1) (r:=z.2) e3
 unfold refE
 rw [hr,a1,a2,b1,b2]
 by_cases k1:x.1=1
 ·rw [if_pos k1]at h
  simp only [Option.some.injEq,Prod.mk.injEq]at h
  rw [<-h.1,k1];rfl
 ·rw [if_neg k1]at h
  by_cases k2:x.1=2
  ·rw [if_pos k2]at h
   cases e4:unS z.2 with
   |none=>rw [e4]at h;simp at h
   |some u=>
   rw [e4,Option.bind_some]at h
   cases e5:unsS u.2 with
   |none=>rw [e5]at h;simp at h
   |some v=>
   rw [e5,Option.map_some]at h
   simp only [Option.some.injEq,Prod.mk.injEq]at h
   have hu:unD z.2=u:=by unfold unD;rw [e4];rfl
   have hus:unsD u.2=v:=by unfold unsD;rw [e5];rfl
   rw [if_pos k2,if_pos k2,hu,hus,<-h.1,k2];rfl
  ·rw [if_neg k2]at h;cases h
theorem zqa(s:List UInt8):ze8 s=getE s:=by
 unfold ze8
 by_cases hc:mayB (refE s)=true/\ z2k (refE s)=s
 ·rw [if_pos hc]
  have:=zq8 hc.1 []
  rw [List.append_nil,if_pos rfl,hc.2]at this
  exact this.symm
 ·rw [if_neg hc]
  cases h:getE s with
  |none=>rfl
  |some e=>
   exfalso
   obtain⟨h1,h2⟩:=zir h
   unfold getE at h
   cases hp:z4q s with
   |none=>rw [hp]at h;simp at h
   |some x=>
    have hx:=zu1 (e:=x.1) (t:=x.2) hp
    rw [hp,Option.bind_some]at h
    split at h
    ·simp only [Option.some.injEq]at h
     rw [hx,h]at hc
     exact hc ⟨h2,h1.symm⟩
    ·cases h
end
section
set_option maxRecDepth 10000
def q24r0:yW:=[
 yI 3 (.box (.t 0)),
 yI 5 (.box (.t 2)),
 yI 6 (.mv (.v (.bool false)))]
def q24r1:yW:=[
 yL 16 true 108 3,
 yC 17 6 16,
 yM 18 17,
 yV 19 18 false 1,
 yG 20 18 false (.lenStr (.t 19)),
 yG 21 18 false (.bin .gtr .none (.t 20) (.v (.int .i64 300))),
 yP 22 18 21]
def q24r2:yW:=[
 yI 23 (.call (.v (.fn 7 [])) []),
 yM 6 23]
def q24c3:yX:=yq q24r2 .ret
def q24c4:yX:=.cond (.t 22) q24c3 .skip
def q24c5:yX:=yq q24r1 q24c4
def q24r6:yW:=[
 yL 25 true 108 3,
 yC 26 8 25,
 yC 27 10 26,
 yM 24 27,
 yE 28 0 24,
 yE 29 1 24,
 yM 7 28,
 yM 8 29]
def q24r7:yW:=[
 yM 30 1,
 yM 31 7,
 yM 32 7,
 yM 33 1,
 yB 34 .add 32 33,
 yM 35 7,
 yI 36 (.iaArr 2 1 (.t 5) (.v (.int .i64 0))),
 yL 37 false 1 36,
 yI 38 (.conv (.int .i64) (.t 37)),
 yM 39 7,
 yI 40 (.lenStr (.t 39)),
 yJ 41 .add 40 .i64 1,
 yB 42 .rem 38 41,
 yI 43 (.slice .str (.t 35) none (some (.t 42)) none),
 yI 44 (.lit 1 [(.t 30),(.t 31),(.t 34),(.t 43)]),
 yM 9 44]
def q24r8:yW:=[
 yM 45 7,
 yI 46 (.lenStr (.t 45)),
 yJ 47 .gtr 46 .i64 0]
def q24r9:yW:=[
 yM 48 7,
 yI 49 (.conv .bytes (.t 48)),
 yM 10 49]
def q24r10:yW:=[
 yM 50 10,
 yI 51 (.iaArr 2 1 (.t 5) (.v (.int .i64 0))),
 ⟨some 52,none,.rd,.load false 1 (.t 51)⟩,
 yI 53 (.conv (.int .i64) (.t 52)),
 yM 54 10,
 yI 55 (.lenSl (.t 54)),
 yB 56 .rem 53 55,
 yI 57 (.iaArr 2 1 (.t 5) (.v (.int .i64 1))),
 ⟨some 58,none,.rd,.load false 1 (.t 57)⟩,
 yI 59 (.conv (.int .u8) (.t 58)),
 yI 60 (.iaSl 1 (.t 50) (.t 56)),
 yS 1 60 59]
def q24r11:yW:=[
 yM 61 9,
 yM 62 10,
 yI 63 (.conv .str (.t 62)),
 yI 64 (.lit 1 [(.t 63)]),
 yI 65 (.app 1 (.t 61) (.t 64)),
 yM 9 65]
def q24r12:yW:=[
 yM 66 7,
 yI 67 (.conv .bytes (.t 66)),
 yM 10 67]
def q24r13:yW:=[
 yM 68 10,
 yI 69 (.iaArr 2 1 (.t 5) (.v (.int .i64 0))),
 ⟨some 70,none,.rd,.load false 1 (.t 69)⟩,
 yI 71 (.conv (.int .i64) (.t 70)),
 yM 72 10,
 yI 73 (.lenSl (.t 72)),
 yI 74 (.minmax false (.v (.int .i64 60)) (.t 73)),
 yB 75 .rem 71 74,
 yI 76 (.iaArr 2 1 (.t 5) (.v (.int .i64 1))),
 ⟨some 77,none,.rd,.load false 1 (.t 76)⟩,
 yI 78 (.conv (.int .u8) (.t 77)),
 yI 79 (.iaSl 1 (.t 68) (.t 75)),
 yS 1 79 78]
def q24r14:yW:=[
 yM 80 9,
 yM 81 10,
 yI 82 (.conv .str (.t 81)),
 yI 83 (.lit 1 [(.t 82)]),
 yI 84 (.app 1 (.t 80) (.t 83)),
 yM 9 84]
def q24c15:yX:=yq q24r13 (.reg q24r14)
def q24c16:yX:=yq q24r12 q24c15
def q24c17:yX:=yq q24r11 q24c16
def q24c18:yX:=yq q24r10 q24c17
def q24c19:yX:=yq q24r9 q24c18
def q24c20:yX:=.cond (.t 47) q24c19 .skip
def q24c21:yX:=yq q24r8 q24c20
def q24r22:yW:=[
 yK 11 .i64 0]
def q24r23:yW:=[
 yM 85 11,
 yM 86 9,
 yI 87 (.lenSl (.t 86)),
 yB 88 .lss 85 87]
def q24c24:yX:=.cond (.t 88) .skip (.exit 0)
def q24c25:yX:=yq q24r23 q24c24
def q24r26:yW:=[
 yM 92 9,
 yM 93 11,
 yI 94 (.iaSl 1 (.t 92) (.t 93)),
 yL 95 false 1 94,
 yC 96 15 95,
 yM 91 96,
 yE 97 0 91,
 yE 98 1 91,
 yI 12 (.alloc evO),
 yS 106 12 97,
 yM 13 98]
def q24r27:yW:=[
 yM 100 9,
 yM 101 11,
 yI 102 (.iaSl 1 (.t 100) (.t 101)),
 yL 103 false 1 102,
 yC 104 16 103,
 yM 99 104,
 yE 105 0 99,
 yE 106 1 99,
 yI 14 (.alloc evO),
 yS 106 14 105,
 yM 15 106]
def q24r28:yW:=[
 yL 107 true 106 12,
 yL 108 true 106 14,
 yD 109 14 107 108,
 yI 110 (.un .not (.t 109)),
 yM 111 110,
 yV 112 111 false 13,
 yV 113 111 false 15,
 yG 114 111 false (.bin .neq .none (.t 112) (.t 113)),
 yP 115 111 114]
def q24r29:yW:=[
 yI 6 (.mv (.v (.bool false)))]
def q24c30:yX:=yq q24r29 .ret
def q24c31:yX:=.cond (.t 115) q24c30 .skip
def q24c32:yX:=yq q24r28 q24c31
def q24c33:yX:=yq q24r27 q24c32
def q24c34:yX:=yq q24r26 q24c33
def q24r35:yW:=[
 yM 89 11,
 yJ 90 .add 89 .i64 1,
 yM 11 90]
def q24c36:yX:=.seq (.block 1 q24c34) (.reg q24r35)
def q24c37:yX:=.seq q24c25 q24c36
def q24c38:yX:=.loop q24c37
def q24c39:yX:=.block 0 q24c38
def q24c40:yX:=yq q24r22 q24c39
def q24r41:yW:=[
 yI 116 (.call (.v (.fn 7 [])) []),
 yM 6 116]
def q24c42:yX:=yq q24r41 .ret
def zew:ACode:=.seq q24c40 q24c42
def q24c44:yX:=.seq q24c21 zew
def q24c45:yX:=yq q24r7 q24c44
def q24c46:yX:=yq q24r6 q24c45
def q24c47:yX:=.seq q24c5 q24c46
def q24c48:yX:=yq q24r0 q24c47
attribute [go_sem] q24r0 q24r1 q24r2 q24r6 q24r7 q24r8 q24r9 q24r10 q24r11 q24r12 q24r13 q24r14 q24r22 q24r23 q24r26 q24r27 q24r28 q24r29 q24r35 q24r41
theorem q24ok:cFn TC 4=some (117,[.t 6],q24c48):=by kernel_rfl
def q25r0:yW:=[
 yI 1 (.box (.t 0)),
 yI 2 (.mv (.v (.bool false)))]
def q25r1:yW:=[
 yF 3 1 1,
 yL 4 true 37 3,
 yC 5 27 4,
 yM 6 5,
 yT 7 6 false 38 1,
 yU 8 6 false true 37 7,
 yG 9 6 false (.call (.v (.fn 27 [])) [(.t 8)]),
 yP 10 6 9,
 yM 11 10,
 yT 12 11 false 107 1,
 yU 13 11 false false 1 12,
 yG 14 11 false (.lenSl (.t 13)),
 yG 15 11 false (.bin .gtr .none (.t 14) (.v (.int .i64 70))),
 yP 16 11 15,
 yM 2 16]
def q25c2:yX:=yq q25r1 .ret
def q25c3:yX:=yq q25r0 q25c2
attribute [go_sem] q25r0 q25r1
theorem q25ok:cFn TC 6=some (17,[.t 2],q25c3):=by kernel_rfl
def q26r0:yW:=[
 yI 0 (.mv (.v (.bool false)))]
def q26r1:yW:=[
 yI 8 (.call (.v (.fn 28 [])) [(.v .nilsl),(.v .nilsl)]),
 yM 7 8,
 yE 9 0 7,
 yE 10 1 7,
 yI 1 (.alloc evO),
 yS 106 1 9,
 yM 2 10]
def q26r2:yW:=[
 yI 11 (.lit 1 [(.v (.str [97])),(.v (.str [98]))]),
 yC 12 29 11,
 yI 3 (.alloc [.nilp,.nilsl]),
 yS 2 3 12]
def q26r3:yW:=[
 yF 13 0 3,
 yL 14 false 1 13,
 yI 15 (.lit 1 [(.v (.str [97])),(.v (.str [99]))]),
 yI 16 (.build [.nilp,.nilsl] [(0,1,(.t 14)),(1,1,(.t 15))]),
 yI 4 (.alloc [.nilp,.nilsl]),
 yS 2 4 16]
def q26r4:yW:=[
 ⟨some 18,none,.rd,.load true 2 (.t 3)⟩,
 ⟨some 19,none,.pu,.call (.v (.fn 30 [])) [(.t 18),(.v (.int .i64 2)),(.v (.int .i64 0))]⟩,
 ⟨some 20,none,.rd,.load true 2 (.t 4)⟩,
 ⟨some 21,none,.pu,.call (.v (.fn 30 [])) [(.t 20),(.v (.int .i64 2)),(.v (.int .i64 0))]⟩,
 yI 22 (.lit 36 [(.t 19),(.t 21)]),
 ⟨some 23,none,.pu,.call (.v (.fn 28 [])) [(.t 22),(.v .nilsl)]⟩,
 yM 17 23,
 yE 24 0 17,
 yE 25 1 17,
 ⟨some 5,none,.ef,.alloc evO⟩,
 yS 106 5 24,
 yM 6 25]
def q26r5:yW:=[
 yM 26 2,
 yI 27 (.un .not (.t 26)),
 yM 28 27,
 yV 29 28 true 6,
 yQ 30 28 29,
 yM 31 30,
 yT 32 31 true 0 5,
 yU 33 31 true false 1 32,
 yG 34 31 true (.bin .eql .none (.t 33) (.v (.int .i64 1))),
 yQ 35 31 34,
 yM 36 35,
 yT 37 36 true 0 3,
 ⟨some 38,some (36,true),.rd,.load false 1 (.t 37)⟩,
 ⟨some 39,some (36,true),.ef,.call (.v (.fn 20 [])) [(.t 38)]⟩,
 ⟨some 40,some (36,true),.rd,.load true 106 (.t 5)⟩,
 yG 41 36 true (.call (.v (.fn 11 [])) [(.t 39),(.t 40)]),
 yG 42 36 true (.bin .eql .none (.t 41) (.v (.int .i64 0))),
 yQ 43 36 42,
 yM 44 43,
 yG 45 44 true (.build zZ0 [(0,1,(.v (.int .u8 1)))]),
 yU 46 44 true true 106 5,
 yG 47 44 true (.call (.v (.fn 11 [])) [(.t 45),(.t 46)]),
 yG 48 44 true (.bin .eql .none (.t 47) (.v (.int .i64 81))),
 yQ 49 44 48,
 yM 50 49,
 yT 51 50 true 0 3,
 yU 52 50 true false 1 51,
 yG 53 50 true (.call (.v (.fn 20 [])) [(.t 52)]),
 yG 54 50 true (.build evO []),
 yG 55 50 true (.call (.v (.fn 11 [])) [(.t 53),(.t 54)]),
 yG 56 50 true (.bin .eql .none (.t 55) (.v (.int .i64 2))),
 yQ 57 50 56,
 yM 0 57]
def q26c6:yX:=yq q26r5 .ret
def zex:ACode:=.seq (.reg q26r4) q26c6
def q26c8:yX:=yq q26r3 zex
def q26c9:yX:=yq q26r2 q26c8
def q26c10:yX:=yq q26r1 q26c9
def q26c11:yX:=yq q26r0 q26c10
attribute [go_sem] q26r0 q26r1 q26r2 q26r3 q26r4 q26r5
theorem q26ok:cFn TC 7=some (58,[.t 0],q26c11):=by kernel_rfl
def q27r0:yW:=[
 yI 1 (.box (.t 0)),
 yI 2 (.alloc evO)]
def q27r1:yW:=[
 yF 3 0 1,
 ⟨some 4,none,.rd,.load false 1 (.t 3)⟩,
 yF 5 1 1,
 ⟨some 6,none,.rd,.load true 37 (.t 5)⟩,
 ⟨some 7,none,.ef,.call (.v (.fn 31 [])) [(.t 6)]⟩,
 yF 8 38 1,
 ⟨some 9,none,.rd,.load true 37 (.t 8)⟩,
 ⟨some 10,none,.ef,.call (.v (.fn 31 [])) [(.t 9)]⟩,
 yF 11 75 1,
 ⟨some 12,none,.rd,.load true 32 (.t 11)⟩,
 yF 13 107 1,
 ⟨some 14,none,.rd,.load false 1 (.t 13)⟩,
 yI 15 (.build evO [(0,1,(.t 4)),(1,36,(.t 7)),(37,36,(.t 10)),(73,32,(.t 12)),(105,1,(.t 14))]),
 yS 106 2 15]
def q27c2:yX:=yq q27r1 .ret
def q27c3:yX:=yq q27r0 q27c2
attribute [go_sem] q27r0 q27r1
theorem q27ok:cFn TC 8=some (16,[.c 2 true 106],q27c3):=by kernel_rfl
def q28r0:yW:=[
 yI 1 (.box (.t 0)),
 yI 2 (.mv (.v (.str []))),
 yK 3 .i64 0]
def q28r1:yW:=[
 yL 9 true 106 1,
 yC 10 38 9,
 yI 11 (.un .not (.t 10))]
def q28r2:yW:=[
 yI 2 (.mv (.v (.str []))),
 yK 3 .i64 2]
def q28c3:yX:=yq q28r2 .ret
def q28c4:yX:=.cond (.t 11) q28c3 .skip
def q28c5:yX:=yq q28r1 q28c4
def q28r6:yW:=[
 yF 13 1 1,
 yL 14 true 36 13,
 yC 15 39 14,
 yM 12 15,
 yE 16 0 12,
 yE 17 1 12,
 yM 4 16,
 yM 5 17]
def q28r7:yW:=[
 yF 19 37 1,
 yL 20 true 36 19,
 yC 21 39 20,
 yM 18 21,
 yE 22 0 18,
 yE 23 1 18,
 yM 6 22,
 yM 7 23]
def q28r8:yW:=[
 yF 24 0 1,
 yL 25 false 1 24,
 yI 26 (.conv (.int .u64) (.t 25)),
 yC 27 40 26,
 yM 28 4,
 yC 29 41 28,
 yB 30 .add 27 29,
 yM 31 6,
 yC 32 41 31,
 yB 33 .add 30 32,
 yM 8 33]
def q28r9:yW:=[
 yF 34 0 1,
 yL 35 false 1 34,
 yJ 36 .eql 35 .i64 2]
def q28r10:yW:=[
 yM 37 8,
 yF 38 73 1,
 ⟨some 39,none,.rd,.load true 32 (.t 38)⟩,
 ⟨some 40,none,.ef,.call (.v (.fn 42 [])) [(.t 39)]⟩,
 yB 41 .add 37 40,
 yF 42 105 1,
 ⟨some 43,none,.rd,.load false 1 (.t 42)⟩,
 yC 44 43 43,
 yB 45 .add 41 44,
 yM 8 45]
def q28c11:yX:=.cond (.t 36) (.reg q28r10) .skip
def q28c12:yX:=yq q28r9 q28c11
def q28r13:yW:=[
 yM 46 8,
 yM 2 46,
 yK 3 .i64 0]
def q28c14:yX:=yq q28r13 .ret
def q28c15:yX:=.seq q28c12 q28c14
def q28c16:yX:=yq q28r8 q28c15
def q28c17:yX:=yq q28r7 q28c16
def q28c18:yX:=yq q28r6 q28c17
def q28c19:yX:=.seq q28c5 q28c18
def q28c20:yX:=yq q28r0 q28c19
attribute [go_sem] q28r0 q28r1 q28r2 q28r6 q28r7 q28r8 q28r9 q28r10 q28r13
theorem q28ok:cFn TC 10=some (47,[.t 2,.t 3],q28c20):=by kernel_rfl
def q29r0:yW:=[
 yI 2 (.box (.t 0)),
 yI 3 (.box (.t 1)),
 yK 4 .i64 0]
def q29r1:yW:=[
 yF 7 1 3,
 yF 8 0 7,
 ⟨some 9,none,.rd,.load true 33 (.t 8)⟩,
 yF 10 37 3,
 yF 11 0 10,
 ⟨some 12,none,.rd,.load true 33 (.t 11)⟩,
 ⟨some 5,none,.ef,.alloc ((.int .i64 0)::zZ0)⟩,
 ⟨some 6,none,.ef,.alloc ((.int .i64 0)::zZ0)⟩,
 ⟨none,none,.ef,.store 33 (.t 5) (.t 9)⟩,
 yS 33 6 12]
def q29r2:yW:=[
 yF 7 1 3,
 yF 8 0 7,
 ⟨some 9,none,.rd,.load true 33 (.t 8)⟩,
 yF 10 37 3,
 yF 11 0 10,
 ⟨some 12,none,.rd,.load true 33 (.t 11)⟩,
 ⟨some 6,none,.ef,.alloc ((.int .i64 0)::zZ0)⟩,
 ⟨some 5,none,.ef,.alloc ((.int .i64 0)::zZ0)⟩,
 ⟨none,none,.ef,.store 33 (.t 5) (.t 9)⟩,
 yS 33 6 12]
def q29r3:yW:=[
 yL 14 true 106 3,
 yC 15 32 14,
 yI 16 (.un .not (.t 15)),
 yM 13 16]
def q29r4:yW:=[
 yK 4 .i64 2]
def q29c5:yX:=yq q29r4 .ret
def q29r6:yW:=[
 yL 18 true 32 2,
 yF 19 1 3,
 yL 20 true 36 19,
 yD 21 44 18 20,
 yJ 22 .neq 21 .i64 0,
 yM 17 22]
def q29r7:yW:=[
 yL 23 true 32 2,
 yF 24 37 3,
 yL 25 true 36 24,
 yD 26 44 23 25,
 yJ 27 .neq 26 .i64 0,
 yM 17 27]
def q29c8:yX:=.cond (.t 17) .skip (.reg q29r7)
def q29c9:yX:=yq q29r6 q29c8
def q29r10:yW:=[
 yK 4 .i64 81]
def q29c11:yX:=yq q29r10 .ret
def q29r12:yW:=[
 yF 29 0 3,
 yL 30 false 1 29,
 yJ 31 .eql 30 .i64 2,
 yM 32 31,
 yT 33 32 true 0 5,
 yU 34 32 true false 1 33,
 yT 35 32 true 0 6,
 yU 36 32 true false 1 35,
 yT 37 32 true 73 3,
 yU 38 32 true true 32 37,
 yT 39 32 true 1 6,
 yU 40 32 true true 32 39,
 yT 41 32 true 105 3,
 yU 42 32 true false 1 41,
 yG 43 32 true (.call (.v (.fn 45 [])) [(.t 34),(.t 36),(.t 38),(.t 40),(.t 42)]),
 yG 44 32 true (.bin .neq .none (.t 43) (.v (.int .i64 0))),
 yQ 45 32 44,
 yM 28 45]
def q29r13:yW:=[
 yK 4 .i64 80]
def q29c14:yX:=yq q29r13 .ret
def q29c15:yX:=.cond (.t 28) q29c14 .skip
def q29c16:yX:=yq q29r12 q29c15
def q29c17:yX:=.cond (.t 17) q29c11 q29c16
def q29c18:yX:=.seq q29c9 q29c17
def q29c19:yX:=.cond (.t 13) q29c5 q29c18
def q29c20:yX:=yq q29r3 q29c19
def q29r21:yW:=[
 yK 4 .i64 0]
def q29c22:yX:=yq q29r21 .ret
def q29c23:yX:=.seq (.block 0 q29c20) q29c22
def q29c24:yX:=.seq (.reg2 q29r1 q29r2) q29c23
def q29c25:yX:=yq q29r0 q29c24
attribute [go_sem] q29r0 q29r1 q29r2 q29r3 q29r4 q29r6 q29r7 q29r10 q29r12 q29r13 q29r21
theorem q29ok:cFn TC 11=some (46,[.t 4],q29c25):=by kernel_rfl
def q2ar0:yW:=[
 yI 2 (.alloc evO),
 yK 3 .i64 0]
def q2ar1:yW:=[
 yI 4 (.alloc evO)]
def q2ar2:yW:=[
 yM 13 0,
 yC 14 51 13,
 yM 12 14,
 yE 15 0 12,
 yE 16 1 12,
 yE 17 2 12,
 yM 5 15,
 yM 6 16,
 yM 7 17]
def q2ar3:yW:=[
 yM 19 6,
 yC 20 52 19,
 yM 18 20,
 yE 21 0 18,
 yE 22 1 18,
 yE 23 2 18,
 yI 8 (.alloc sgZ),
 yS 36 8 21,
 yM 6 22,
 yM 9 23]
def q2ar4:yW:=[
 yM 25 6,
 yC 26 52 25,
 yM 24 26,
 yE 27 0 24,
 yE 28 1 24,
 yE 29 2 24,
 yI 10 (.alloc sgZ),
 yS 36 10 27,
 yM 6 28,
 yM 11 29]
def q2ar5:yW:=[
 yM 30 7,
 yI 31 (.un .not (.t 30)),
 yM 32 31,
 yV 33 32 false 9,
 yG 34 32 false (.un .not (.t 33)),
 yP 35 32 34,
 yM 36 35,
 yV 37 36 false 11,
 yG 38 36 false (.un .not (.t 37)),
 yP 39 36 38,
 yM 40 39,
 yV 41 40 false 5,
 yG 42 40 false (.bin .neq .none (.t 41) (.v (.int .u64 1))),
 yV 43 40 false 42,
 yV 44 43 true 5,
 yG 45 43 true (.bin .neq .none (.t 44) (.v (.int .u64 2))),
 yG 46 40 false (.pick (.t 43) (.t 45) (.v (.bool false))),
 yP 47 40 46]
def q2ar6:yW:=[
 yI 48 (.build evO []),
 yS 106 2 48,
 yK 3 .i64 10]
def q2ac7:yX:=yq q2ar6 .ret
def q2ac8:yX:=.cond (.t 47) q2ac7 .skip
def q2ac9:yX:=yq q2ar5 q2ac8
def q2ar10:yW:=[
 yM 49 5,
 yI 50 (.conv (.int .i64) (.t 49)),
 ⟨some 51,none,.rd,.load true 36 (.t 8)⟩,
 ⟨some 52,none,.rd2,.load true 36 (.t 10)⟩,
 yF 53 0 4,
 ⟨none,none,.ef,.store 1 (.t 53) (.t 50)⟩,
 yF 54 1 4,
 ⟨none,none,.ef2,.store 36 (.t 54) (.t 51)⟩,
 yF 55 37 4,
 yS 36 55 52]
def q2ar11:yW:=[
 yM 56 5,
 yJ 57 .eql 56 .u64 2]
def q2ar12:yW:=[
 yM 59 6,
 yC 60 53 59,
 yM 58 60,
 yE 61 0 58,
 yE 62 1 58,
 yE 63 2 58,
 yF 64 73 4,
 yS 32 64 61,
 yM 6 62,
 yM 7 63]
def q2ar13:yW:=[
 yM 66 6,
 yC 67 54 66,
 yM 65 67,
 yE 68 0 65,
 yE 69 1 65,
 yE 70 2 65,
 yF 71 105 4,
 yS 1 71 68,
 yM 6 69,
 yM 9 70]
def q2ac14:yX:=yq q2ar12 (.reg q2ar13)
def q2ac15:yX:=.cond (.t 57) q2ac14 .skip
def q2ac16:yX:=yq q2ar11 q2ac15
def q2ar17:yW:=[
 yM 72 7,
 yI 73 (.un .not (.t 72)),
 yM 74 73,
 yV 75 74 false 9,
 yG 76 74 false (.un .not (.t 75)),
 yP 77 74 76,
 yM 78 77,
 yV 79 78 false 6,
 yG 80 78 false (.bin .neq .none (.t 79) (.v (.str []))),
 yP 81 78 80,
 yM 82 81,
 yU 83 82 false true 106 4,
 yG 84 82 false (.call (.v (.fn 32 [])) [(.t 83)]),
 yG 85 82 false (.un .not (.t 84)),
 yP 86 82 85]
def q2ar18:yW:=[
 yI 87 (.build evO []),
 yS 106 2 87,
 yK 3 .i64 10]
def q2ac19:yX:=yq q2ar18 .ret
def q2ac20:yX:=.cond (.t 86) q2ac19 .skip
def q2ac21:yX:=yq q2ar17 q2ac20
def q2ar22:yW:=[
 yL 88 true 106 4,
 yS 106 2 88,
 yK 3 .i64 0]
def q2ac23:yX:=yq q2ar22 .ret
def q2ac24:yX:=.seq q2ac21 q2ac23
def q2ac25:yX:=.seq q2ac16 q2ac24
def q2ac26:yX:=yq q2ar10 q2ac25
def q2ac27:yX:=.seq q2ac9 q2ac26
def q2ac28:yX:=yq q2ar4 q2ac27
def q2ac29:yX:=yq q2ar3 q2ac28
def q2ac30:yX:=yq q2ar2 q2ac29
def q2ac31:yX:=yq q2ar1 q2ac30
def q2ac32:yX:=yq q2ar0 q2ac31
attribute [go_sem] q2ar0 q2ar1 q2ar2 q2ar3 q2ar4 q2ar5 q2ar6 q2ar10 q2ar11 q2ar12 q2ar13 q2ar17 q2ar18 q2ar22
theorem q2aok:cFn TC 15=some (89,[.c 2 true 106,.t 3],q2ac32):=by kernel_rfl
def q2br0:yW:=[
 yI 2 (.alloc evO),
 yK 3 .i64 0]
def q2br1:yW:=[
 yM 21 0,
 yC 22 55 21,
 yM 20 22,
 yE 23 0 20,
 yE 24 1 20,
 yE 25 2 20,
 yM 4 23,
 yM 5 24,
 yM 6 25]
def q2br2:yW:=[
 yM 27 5,
 yC 28 56 27,
 yM 26 28,
 yE 29 0 26,
 yE 30 1 26,
 yE 31 2 26,
 yM 7 29,
 yM 5 30,
 yM 8 31]
def q2br3:yW:=[
 yM 33 5,
 yC 34 56 33,
 yM 32 34,
 yE 35 0 32,
 yE 36 1 32,
 yE 37 2 32,
 yM 9 35,
 yM 5 36,
 yM 10 37]
def q2br4:yW:=[
 yM 38 4,
 yJ 39 .rem 38 .u64 256,
 yI 40 (.conv (.int .i64) (.t 39)),
 yI 41 (.build evO [(0,1,(.t 40))]),
 yI 11 (.alloc evO),
 yS 106 11 41]
def q2br5:yW:=[
 yM 43 7,
 yC 44 57 43,
 yM 42 44,
 yE 45 0 42,
 yE 46 1 42,
 yF 47 1 11,
 yS 36 47 45]
def q2br6:yW:=[
 yM 49 9,
 yC 50 57 49,
 yM 48 50,
 yE 51 0 48,
 yE 52 1 48,
 yF 53 37 11,
 yS 36 53 51]
def q2br7:yW:=[
 yM 54 4,
 yJ 55 .eql 54 .u64 2]
def q2br8:yW:=[
 yM 57 5,
 yC 58 58 57,
 yM 56 58,
 yE 59 0 56,
 yE 60 1 56,
 yE 61 2 56,
 yI 12 (.alloc zZ0),
 yS 32 12 59,
 yM 13 60,
 yM 14 61]
def q2br9:yW:=[
 yM 63 13,
 yC 64 59 63,
 yM 62 64,
 yE 65 0 62,
 yE 66 1 62,
 yE 67 2 62,
 yM 15 65,
 yM 16 66,
 yM 17 67]
def q2br10:yW:=[
 yL 68 true 32 12,
 yM 69 15,
 yF 70 73 11,
 yS 32 70 68,
 yF 71 105 11,
 yS 1 71 69]
def q2bc11:yX:=yq q2br9 (.reg q2br10)
def q2bc12:yX:=yq q2br8 q2bc11
def q2bc13:yX:=.cond (.t 55) q2bc12 .skip
def q2bc14:yX:=yq q2br7 q2bc13
def q2br15:yW:=[
 yL 73 true 106 11,
 yC 74 10 73,
 yM 72 74,
 yE 75 0 72,
 yE 76 1 72,
 yM 18 75,
 yM 19 76]
def q2br16:yW:=[
 yM 77 19,
 yJ 78 .neq 77 .i64 0,
 yM 79 78,
 yV 80 79 false 18,
 yV 81 79 false 0,
 yG 82 79 false (.bin .neq .none (.t 80) (.t 81)),
 yP 83 79 82]
def q2br17:yW:=[
 yI 84 (.build evO []),
 yS 106 2 84,
 yK 3 .i64 10]
def q2bc18:yX:=yq q2br17 .ret
def q2bc19:yX:=.cond (.t 83) q2bc18 .skip
def q2bc20:yX:=yq q2br16 q2bc19
def q2br21:yW:=[
 yL 85 true 106 11,
 yS 106 2 85,
 yK 3 .i64 0]
def q2bc22:yX:=yq q2br21 .ret
def q2bc23:yX:=.seq q2bc20 q2bc22
def q2bc24:yX:=yq q2br15 q2bc23
def q2bc25:yX:=.seq q2bc14 q2bc24
def q2bc26:yX:=yq q2br6 q2bc25
def q2bc27:yX:=yq q2br5 q2bc26
def q2bc28:yX:=yq q2br4 q2bc27
def q2bc29:yX:=yq q2br3 q2bc28
def q2bc30:yX:=yq q2br2 q2bc29
def q2bc31:yX:=yq q2br1 q2bc30
def q2bc32:yX:=yq q2br0 q2bc31
attribute [go_sem] q2br0 q2br1 q2br2 q2br3 q2br4 q2br5 q2br6 q2br7 q2br8 q2br9 q2br10 q2br15 q2br16 q2br17 q2br21
theorem q2bok:cFn TC 16=some (86,[.c 2 true 106,.t 3],q2bc32):=by kernel_rfl
def q2cr0:yW:=[
 yI 4 (.alloc evO),
 yI 5 (.mv (.v (.bool false)))]
def q2cr1:yW:=[
 yM 16 0,
 yC 17 83 16,
 yM 15 17,
 yE 18 0 15,
 yE 19 1 15,
 yI 6 (.alloc evO),
 yS 106 6 18,
 yM 7 19]
def q2cr2:yW:=[
 yM 20 7]
def q2cr3:yW:=[
 yL 21 true 106 6,
 yC 22 84 21,
 yS 106 4 22,
 yI 5 (.mv (.v (.bool true)))]
def q2cc4:yX:=yq q2cr3 .ret
def q2cc5:yX:=.cond (.t 20) q2cc4 .skip
def q2cc6:yX:=yq q2cr2 q2cc5
def q2cc7:yX:=yq q2cr1 q2cc6
def q2cr8:yW:=[
 yM 24 0,
 yM 25 1,
 yD 26 85 24 25,
 yM 23 26,
 yE 27 0 23,
 yE 28 1 23,
 yI 8 (.alloc sgZ),
 yS 36 8 27,
 yM 9 28]
def q2cr9:yW:=[
 yM 29 9,
 yI 30 (.un .not (.t 29))]
def q2cr10:yW:=[
 yI 31 (.build evO []),
 yS 106 4 31,
 yI 5 (.mv (.v (.bool false)))]
def q2cc11:yX:=yq q2cr10 .ret
def q2cc12:yX:=.cond (.t 30) q2cc11 .skip
def q2cc13:yX:=yq q2cr9 q2cc12
def q2cr14:yW:=[
 yM 32 0,
 yI 33 (.lenSl (.t 32)),
 yK 34 .i64 0]
def q2cr15:yW:=[
 yB 35 .lss 34 33]
def q2cr16:yW:=[
 yI 36 (.iaSl 36 (.t 32) (.t 34)),
 yL 37 true 36 36,
 yI 11 (.alloc sgZ),
 yS 36 11 37]
def q2cr17:yW:=[
 yL 38 true 36 11,
 yC 39 86 38,
 yI 40 (.un .not (.t 39)),
 yM 41 40,
 yT 42 41 false 0 11,
 yT 43 41 false 0 42,
 yU 44 41 false false 1 43,
 yT 45 41 false 0 8,
 yT 46 41 false 0 45,
 yU 47 41 false false 1 46,
 yG 48 41 false (.bin .geq .none (.t 44) (.t 47)),
 yP 49 41 48]
def q2cc18:yX:=.cond (.t 49) (.exit 1) .skip
def q2cc19:yX:=yq q2cr17 q2cc18
def q2cr20:yW:=[
 yM 50 1,
 yF 51 0 11,
 yF 52 0 51,
 yL 53 false 1 52,
 yI 54 (.slice (.sl 32) (.t 50) none (some (.t 53)) none),
 yC 55 64 54,
 yI 12 (.alloc zZ0),
 yS 32 12 55]
def q2cr21:yW:=[
 yL 56 true 32 12,
 yF 57 0 11,
 yF 58 1 57,
 yL 59 true 32 58,
 yI 60 (.bin .neq (.agg (List.replicate 32 (.i .u8)++ [])) (.t 56) (.t 59))]
def q2cr22:yW:=[
 yM 62 1,
 yF 63 0 8,
 yF 64 0 63,
 ⟨some 65,none,.rd,.load false 1 (.t 64)⟩,
 yI 66 (.slice (.sl 32) (.t 62) none (some (.t 65)) none),
 yF 67 0 11,
 yF 68 0 67,
 ⟨some 69,none,.rd,.load false 1 (.t 68)⟩,
 yD 70 87 66 69,
 yM 61 70,
 yE 71 0 61,
 yE 72 1 61,
 yM 13 71,
 yM 14 72]
def q2cr23:yW:=[
 yL 73 true 36 11,
 yL 74 true 36 8,
 yL 75 true 32 12,
 yM 76 13,
 yI 77 (.build evO [(0,1,(.v (.int .i64 2))),(1,36,(.t 73)),(37,36,(.t 74)),(73,32,(.t 75)),(105,1,(.t 76))]),
 yC 78 84 77,
 yS 106 4 78,
 yI 5 (.mv (.v (.bool true)))]
def q2cc24:yX:=yq q2cr23 .ret
def q2cc25:yX:=yq q2cr22 q2cc24
def q2cc26:yX:=.cond (.t 60) q2cc25 .skip
def q2cc27:yX:=yq q2cr21 q2cc26
def q2cc28:yX:=yq q2cr20 q2cc27
def q2cc29:yX:=.seq q2cc19 q2cc28
def q2cc30:yX:=yq q2cr16 q2cc29
def q2cr31:yW:=[
 yJ 79 .add 34 .i64 1,
 yM 34 79]
def q2cc32:yX:=.seq (.block 1 q2cc30) (.reg q2cr31)
def q2cc33:yX:=.seq (.cond (.t 35) .skip (.exit 0)) q2cc32
def q2cc34:yX:=yq q2cr15 q2cc33
def q2cc35:yX:=.loop q2cc34
def q2cc36:yX:=.block 0 q2cc35
def q2cc37:yX:=yq q2cr14 q2cc36
def q2cr38:yW:=[
 yI 80 (.build evO []),
 yS 106 4 80,
 yI 5 (.mv (.v (.bool false)))]
def q2cc39:yX:=yq q2cr38 .ret
def q2cc40:yX:=.seq q2cc37 q2cc39
def q2cc41:yX:=.seq q2cc13 q2cc40
def q2cc42:yX:=yq q2cr8 q2cc41
def q2cc43:yX:=.seq q2cc7 q2cc42
def q2cc44:yX:=yq q2cr0 q2cc43
attribute [go_sem] q2cr0 q2cr1 q2cr2 q2cr3 q2cr8 q2cr9 q2cr10 q2cr14 q2cr15 q2cr16 q2cr17 q2cr20 q2cr21 q2cr22 q2cr23 q2cr31 q2cr38
theorem q2cok:cFn TC 28=some (81,[.c 4 true 106,.t 5],q2cc44):=by kernel_rfl
def q2dr0:yW:=[
 yI 1 (.box (.t 0)),
 yI 2 (.mv (.v (.bool false)))]
def q2dr1:yW:=[
 yF 4 1 1,
 yL 5 true 36 4,
 yC 6 86 5,
 yI 7 (.un .not (.t 6)),
 yM 8 7,
 yT 9 8 false 37 1,
 yU 10 8 false true 36 9,
 yG 11 8 false (.call (.v (.fn 86 [])) [(.t 10)]),
 yG 12 8 false (.un .not (.t 11)),
 yP 13 8 12,
 yM 14 13,
 yT 15 14 false 105 1,
 yU 16 14 false false 1 15,
 yG 17 14 false (.lenSl (.t 16)),
 yG 18 14 false (.bin .gtr .none (.t 17) (.v (.int .i64 64))),
 yP 19 14 18]
def q2dr2:yW:=[
 yI 2 (.mv (.v (.bool false)))]
def q2dc3:yX:=yq q2dr2 .ret
def q2dc4:yX:=.cond (.t 19) q2dc3 .skip
def q2dc5:yX:=yq q2dr1 q2dc4
def q2dr6:yW:=[
 yF 20 1 1,
 yF 21 0 20,
 yL 22 true 33 21,
 yF 23 37 1,
 yF 24 0 23,
 yL 25 true 33 24,
 yD 26 90 22 25,
 yM 3 26]
def q2dr7:yW:=[
 yF 27 0 1,
 yL 28 false 1 27]
def q2dr8:yW:=[
 yJ 30 .eql 28 .i64 1,
 yM 29 30]
def q2dr9:yW:=[
 yM 31 3,
 yJ 32 .eql 31 .i64 3,
 yM 33 32,
 yT 34 33 true 73 1,
 yU 35 33 true true 32 34,
 yG 36 33 true (.build zZ0 []),
 yG 37 33 true (.bin .eql (.agg (List.replicate 32 (.i .u8)++ [])) (.t 35) (.t 36)),
 yQ 38 33 37,
 yM 39 38,
 yT 40 39 true 105 1,
 yU 41 39 true false 1 40,
 yG 42 39 true (.lenSl (.t 41)),
 yG 43 39 true (.bin .eql .none (.t 42) (.v (.int .i64 0))),
 yQ 44 39 43,
 yM 2 44]
def q2dc10:yX:=yq q2dr9 .ret
def q2dr11:yW:=[
 yJ 46 .eql 28 .i64 2,
 yM 45 46]
def q2dr12:yW:=[
 yM 47 3,
 yJ 48 .eql 47 .i64 0,
 yM 49 48,
 yT 50 49 true 73 1,
 yU 51 49 true true 32 50,
 yT 52 49 true 1 1,
 yT 53 49 true 0 52,
 yT 54 49 true 1 53,
 yU 55 49 true true 32 54,
 yG 56 49 true (.bin .neq (.agg (List.replicate 32 (.i .u8)++ [])) (.t 51) (.t 55)),
 yQ 57 49 56,
 yM 2 57]
def q2dc13:yX:=yq q2dr12 .ret
def q2dc14:yX:=.cond (.t 45) q2dc13 .skip
def q2dc15:yX:=yq q2dr11 q2dc14
def q2dc16:yX:=.cond (.t 29) q2dc10 q2dc15
def q2dc17:yX:=yq q2dr8 q2dc16
def q2dc18:yX:=.block 0 q2dc17
def q2dc19:yX:=yq q2dr7 q2dc18
def q2dr20:yW:=[
 yI 2 (.mv (.v (.bool false)))]
def q2dc21:yX:=yq q2dr20 .ret
def q2dc22:yX:=.seq q2dc19 q2dc21
def q2dc23:yX:=yq q2dr6 q2dc22
def q2dc24:yX:=.seq q2dc5 q2dc23
def q2dc25:yX:=yq q2dr0 q2dc24
attribute [go_sem] q2dr0 q2dr1 q2dr2 q2dr6 q2dr7 q2dr8 q2dr9 q2dr11 q2dr12 q2dr20
theorem q2dok:cFn TC 32=some (58,[.t 2],q2dc25):=by kernel_rfl
def q2er0:yW:=[
 yI 1 (.box (.t 0)),
 yI 2 (.mv (.v (.bool false)))]
def q2er1:yW:=[
 yF 5 1 1,
 yL 6 true 36 5,
 yC 7 93 6,
 yI 8 (.un .not (.t 7)),
 yM 9 8,
 yT 10 9 false 37 1,
 yU 11 9 false true 36 10,
 yG 12 9 false (.call (.v (.fn 93 [])) [(.t 11)]),
 yG 13 9 false (.un .not (.t 12)),
 yP 14 9 13]
def q2er2:yW:=[
 yI 2 (.mv (.v (.bool false)))]
def q2ec3:yX:=yq q2er2 .ret
def q2ec4:yX:=.cond (.t 14) q2ec3 .skip
def q2ec5:yX:=yq q2er1 q2ec4
def q2er6:yW:=[
 yF 15 1 1,
 yF 16 0 15,
 ⟨some 17,none,.rd,.load true 33 (.t 16)⟩,
 yF 18 37 1,
 yF 19 0 18,
 ⟨some 20,none,.rd,.load true 33 (.t 19)⟩,
 ⟨some 3,none,.ef,.alloc ((.int .i64 0)::zZ0)⟩,
 ⟨some 4,none,.ef,.alloc ((.int .i64 0)::zZ0)⟩,
 ⟨none,none,.ef,.store 33 (.t 3) (.t 17)⟩,
 yS 33 4 20]
def q2er7:yW:=[
 yF 15 1 1,
 yF 16 0 15,
 ⟨some 17,none,.rd,.load true 33 (.t 16)⟩,
 yF 18 37 1,
 yF 19 0 18,
 ⟨some 20,none,.rd,.load true 33 (.t 19)⟩,
 ⟨some 4,none,.ef,.alloc ((.int .i64 0)::zZ0)⟩,
 ⟨some 3,none,.ef,.alloc ((.int .i64 0)::zZ0)⟩,
 ⟨none,none,.ef,.store 33 (.t 3) (.t 17)⟩,
 yS 33 4 20]
def q2er8:yW:=[
 yF 21 0 1,
 yL 22 false 1 21,
 yJ 23 .eql 22 .i64 1]
def q2er9:yW:=[
 yF 24 0 3,
 yL 25 false 1 24,
 yF 26 0 4,
 yL 27 false 1 26,
 yB 28 .eql 25 27,
 yM 29 28,
 yT 30 29 true 1 3,
 yU 31 29 true true 32 30,
 yT 32 29 true 1 4,
 yU 33 29 true true 32 32,
 yG 34 29 true (.bin .neq (.agg (List.replicate 32 (.i .u8)++ [])) (.t 31) (.t 33)),
 yQ 35 29 34,
 yM 36 35,
 yT 37 36 true 73 1,
 yU 38 36 true true 32 37,
 yG 39 36 true (.build zZ0 []),
 yG 40 36 true (.bin .eql (.agg (List.replicate 32 (.i .u8)++ [])) (.t 38) (.t 39)),
 yQ 41 36 40,
 yM 42 41,
 yT 43 42 true 105 1,
 yU 44 42 true false 1 43,
 yG 45 42 true (.lenSl (.t 44)),
 yG 46 42 true (.bin .eql .none (.t 45) (.v (.int .i64 0))),
 yQ 47 42 46,
 yM 2 47]
def q2ec10:yX:=yq q2er9 .ret
def q2ec11:yX:=.cond (.t 23) q2ec10 .skip
def q2ec12:yX:=yq q2er8 q2ec11
def q2er13:yW:=[
 yF 48 0 1,
 yL 49 false 1 48,
 yJ 50 .eql 49 .i64 2,
 yM 51 50,
 yT 52 51 true 0 3,
 yU 53 51 true false 1 52,
 yT 54 51 true 0 4,
 yU 55 51 true false 1 54,
 yG 56 51 true (.bin .lss .none (.t 53) (.t 55)),
 yQ 57 51 56,
 yM 58 57,
 yT 59 58 true 73 1,
 yU 60 58 true true 32 59,
 yT 61 58 true 1 3,
 yU 62 58 true true 32 61,
 yG 63 58 true (.bin .neq (.agg (List.replicate 32 (.i .u8)++ [])) (.t 60) (.t 62)),
 yQ 64 58 63,
 yM 65 64,
 yT 66 65 true 105 1,
 yU 67 65 true false 1 66,
 yG 68 65 true (.lenSl (.t 67)),
 yG 69 65 true (.bin .leq .none (.t 68) (.v (.int .i64 64))),
 yQ 70 65 69,
 yM 2 70]
def q2ec14:yX:=yq q2er13 .ret
def q2ec15:yX:=.seq q2ec12 q2ec14
def q2ec16:yX:=.seq (.reg2 q2er6 q2er7) q2ec15
def q2ec17:yX:=.seq q2ec5 q2ec16
def q2ec18:yX:=yq q2er0 q2ec17
attribute [go_sem] q2er0 q2er1 q2er2 q2er6 q2er7 q2er8 q2er9 q2er13
theorem q2eok:cFn TC 38=some (71,[.t 2],q2ec18):=by kernel_rfl
def q2fr0:yW:=[
 yI 2 (.alloc sgZ),
 yI 3 (.mv (.v (.str []))),
 yI 4 (.mv (.v (.bool false)))]
def q2fr1:yW:=[
 yM 8 0,
 yC 9 103 8,
 yM 7 9,
 yE 10 0 7,
 yE 11 1 7,
 yE 12 2 7,
 yM 5 10,
 yM 3 11,
 yM 4 12]
def q2fr2:yW:=[
 yM 14 5,
 yC 15 104 14,
 yM 13 15,
 yE 16 0 13,
 yE 17 1 13,
 yS 36 2 16,
 yM 6 17]
def q2fr3:yW:=[
 yL 18 true 36 2,
 yM 19 3,
 yM 20 4,
 yM 21 20,
 yV 22 21 true 6,
 yG 23 21 true (.bin .eql .none (.t 22) (.v (.int .i64 0))),
 yQ 24 21 23,
 yS 36 2 18,
 yM 3 19,
 yM 4 24]
def q2fc4:yX:=yq q2fr3 .ret
def q2fc5:yX:=yq q2fr2 q2fc4
def q2fc6:yX:=yq q2fr1 q2fc5
def q2fc7:yX:=yq q2fr0 q2fc6
attribute [go_sem] q2fr0 q2fr1 q2fr2 q2fr3
theorem q2fok:cFn TC 52=some (25,[.c 2 true 36,.t 3,.t 4],q2fc7):=by kernel_rfl
def q2gr0:yW:=[
 yI 2 (.alloc evO),
 yI 3 (.mv (.v (.bool false)))]
def q2gr1:yW:=[
 yM 8 0,
 yI 9 (.lenSl (.t 8)),
 yK 10 .i64 0]
def q2gr2:yW:=[
 yB 11 .lss 10 9]
def q2gr3:yW:=[
 yM 12 10,
 yI 13 (.iaSl 36 (.t 8) (.t 10)),
 yL 14 true 36 13,
 yI 5 (.alloc sgZ),
 yM 4 12,
 yS 36 5 14]
def q2gr4:yW:=[
 yM 15 0,
 yM 16 4,
 yJ 17 .add 16 .i64 1,
 yI 18 (.slice (.sl 36) (.t 15) (some (.t 17)) none none),
 yI 19 (.lenSl (.t 18)),
 yK 20 .i64 0]
def q2gr5:yW:=[
 yB 21 .lss 20 19]
def q2gr6:yW:=[
 yI 22 (.iaSl 36 (.t 18) (.t 20)),
 yL 23 true 36 22,
 yI 7 (.alloc sgZ),
 yS 36 7 23]
def q2gr7:yW:=[
 yL 24 true 36 5,
 yC 25 86 24,
 yM 26 25,
 yU 27 26 true true 36 7,
 yG 28 26 true (.call (.v (.fn 86 [])) [(.t 27)]),
 yQ 29 26 28,
 yM 30 29,
 yT 31 30 true 0 5,
 yU 32 30 true true 33 31,
 yT 33 30 true 0 7,
 yU 34 30 true true 33 33,
 yG 35 30 true (.call (.v (.fn 90 [])) [(.t 32),(.t 34)]),
 yG 36 30 true (.bin .eql .none (.t 35) (.v (.int .i64 3))),
 yQ 37 30 36]
def q2gr8:yW:=[
 yL 38 true 36 5,
 yL 39 true 36 7,
 yI 40 (.build evO [(0,1,(.v (.int .i64 1))),(1,36,(.t 38)),(37,36,(.t 39))]),
 yS 106 2 40,
 yI 3 (.mv (.v (.bool true)))]
def q2gc9:yX:=yq q2gr8 .ret
def q2gc10:yX:=.cond (.t 37) q2gc9 .skip
def q2gc11:yX:=yq q2gr7 q2gc10
def q2gc12:yX:=yq q2gr6 q2gc11
def q2gr13:yW:=[
 yJ 41 .add 20 .i64 1,
 yM 20 41]
def q2gc14:yX:=.seq (.block 3 q2gc12) (.reg q2gr13)
def q2gc15:yX:=.seq (.cond (.t 21) .skip (.exit 2)) q2gc14
def q2gc16:yX:=yq q2gr5 q2gc15
def q2gc17:yX:=.loop q2gc16
def q2gc18:yX:=.block 2 q2gc17
def q2gc19:yX:=yq q2gr4 q2gc18
def q2gc20:yX:=yq q2gr3 q2gc19
def q2gr21:yW:=[
 yJ 42 .add 10 .i64 1,
 yM 10 42]
def q2gc22:yX:=.seq (.block 1 q2gc20) (.reg q2gr21)
def q2gc23:yX:=.seq (.cond (.t 11) .skip (.exit 0)) q2gc22
def q2gc24:yX:=yq q2gr2 q2gc23
def q2gc25:yX:=.loop q2gc24
def q2gc26:yX:=.block 0 q2gc25
def q2gc27:yX:=yq q2gr1 q2gc26
def q2gr28:yW:=[
 yI 43 (.build evO []),
 yS 106 2 43,
 yI 3 (.mv (.v (.bool false)))]
def q2gc29:yX:=yq q2gr28 .ret
def q2gc30:yX:=.seq q2gc27 q2gc29
def q2gc31:yX:=yq q2gr0 q2gc30
attribute [go_sem] q2gr0 q2gr1 q2gr2 q2gr3 q2gr4 q2gr5 q2gr6 q2gr7 q2gr8 q2gr13 q2gr21 q2gr28
theorem q2gok:cFn TC 83=some (44,[.c 2 true 106,.t 3],q2gc31):=by kernel_rfl
def q2hr0:yW:=[
 yI 1 (.box (.t 0)),
 yI 2 (.alloc evO)]
def q2hr1:yW:=[
 yF 3 1 1,
 yF 4 33 3,
 yF 5 2 4,
 yL 6 false 1 5,
 yC 7 120 6,
 yF 8 1 1,
 yF 9 33 8,
 yF 10 2 9,
 yS 1 10 7]
def q2hr2:yW:=[
 yF 11 37 1,
 yF 12 33 11,
 yF 13 2 12,
 yL 14 false 1 13,
 yC 15 120 14,
 yF 16 37 1,
 yF 17 33 16,
 yF 18 2 17,
 yS 1 18 15]
def q2hr3:yW:=[
 yL 19 true 106 1,
 yS 106 2 19]
def q2hc4:yX:=yq q2hr3 .ret
def q2hc5:yX:=yq q2hr2 q2hc4
def q2hc6:yX:=yq q2hr1 q2hc5
def q2hc7:yX:=yq q2hr0 q2hc6
attribute [go_sem] q2hr0 q2hr1 q2hr2 q2hr3
theorem q2hok:cFn TC 84=some (20,[.c 2 true 106],q2hc7):=by kernel_rfl
def q2ir0:yW:=[
 yI 4 (.alloc sgZ),
 yI 5 (.mv (.v (.bool false)))]
def q2ir1:yW:=[
 yI 6 (.alloc sgZ)]
def q2ir2:yW:=[
 yI 7 (.mv (.v (.bool false)))]
def q2ir3:yW:=[
 yM 11 0,
 yI 12 (.lenSl (.t 11)),
 yK 13 .i64 0]
def q2ir4:yW:=[
 yB 14 .lss 13 12]
def q2ir5:yW:=[
 yI 15 (.iaSl 36 (.t 11) (.t 13)),
 yL 16 true 36 15,
 yI 9 (.alloc sgZ),
 yS 36 9 16]
def q2ir6:yW:=[
 yF 17 0 9,
 yF 18 0 17,
 yL 19 false 1 18,
 yM 10 19]
def q2ir7:yW:=[
 yL 20 true 36 9,
 yC 21 86 20,
 yM 22 21,
 yV 23 22 true 10,
 yV 24 22 true 1,
 yG 25 22 true (.lenSl (.t 24)),
 yG 26 22 true (.bin .leq .none (.t 23) (.t 25)),
 yQ 27 22 26,
 yM 28 27,
 yV 29 28 true 7,
 yG 30 28 true (.un .not (.t 29)),
 yV 31 28 true 30,
 yV 32 31 false 10,
 yT 33 31 false 0 6,
 yT 34 31 false 0 33,
 yU 35 31 false false 1 34,
 yG 36 31 false (.bin .gtr .none (.t 32) (.t 35)),
 yG 37 28 true (.pick (.t 31) (.v (.bool true)) (.t 36)),
 yQ 38 28 37,
 yM 39 38,
 yV 40 39 true 1,
 yV 41 39 true 10,
 yG 42 39 true (.slice (.sl 32) (.t 40) none (some (.t 41)) none),
 ⟨some 43,some (39,true),.ef,.call (.v (.fn 64 [])) [(.t 42)]⟩,
 yT 44 39 true 0 9,
 yT 45 39 true 1 44,
 ⟨some 46,some (39,true),.rd,.load true 32 (.t 45)⟩,
 yG 47 39 true (.bin .eql (.agg (List.replicate 32 (.i .u8)++ [])) (.t 43) (.t 46)),
 yQ 48 39 47]
def q2ir8:yW:=[
 yL 49 true 36 9,
 yS 36 6 49,
 yI 7 (.mv (.v (.bool true)))]
def q2ic9:yX:=.cond (.t 48) (.reg q2ir8) .skip
def q2ic10:yX:=yq q2ir7 q2ic9
def q2ic11:yX:=yq q2ir6 q2ic10
def q2ic12:yX:=yq q2ir5 q2ic11
def q2ir13:yW:=[
 yJ 50 .add 13 .i64 1,
 yM 13 50]
def q2ic14:yX:=.seq (.block 1 q2ic12) (.reg q2ir13)
def q2ic15:yX:=.seq (.cond (.t 14) .skip (.exit 0)) q2ic14
def q2ic16:yX:=yq q2ir4 q2ic15
def q2ic17:yX:=.loop q2ic16
def q2ic18:yX:=.block 0 q2ic17
def q2ic19:yX:=yq q2ir3 q2ic18
def q2ir20:yW:=[
 yL 51 true 36 6,
 yM 52 7,
 yS 36 4 51,
 yM 5 52]
def q2ic21:yX:=yq q2ir20 .ret
def q2ic22:yX:=.seq q2ic19 q2ic21
def q2ic23:yX:=yq q2ir2 q2ic22
def q2ic24:yX:=yq q2ir1 q2ic23
def q2ic25:yX:=yq q2ir0 q2ic24
attribute [go_sem] q2ir0 q2ir1 q2ir2 q2ir3 q2ir4 q2ir5 q2ir6 q2ir7 q2ir8 q2ir13 q2ir20
theorem q2iok:cFn TC 85=some (53,[.c 4 true 36,.t 5],q2ic25):=by kernel_rfl
end
section
theorem ord3(n m:Int)(a b:Hash):ordI n m a b=3 ↔ (n=m/\ a ≠ b):=by
 unfold ordI
 by_cases h:n=m
 ·subst h
  by_cases h2:a=b
  ·simp [h2]
  ·simp [h2]
 ·rw [if_pos h]
  constructor
  ·intro e;split at e<;>omega
  ·exact fun e=>absurd e.1 h
theorem ord0(n m:Int)(a b:Hash):ordI n m a b=0 ↔ n<m:=by
 unfold ordI
 by_cases h:n=m
 ·subst h
  by_cases h2:a=b
  ·simp [h2]
  ·simp [h2]
 ·rw [if_pos h]
  constructor
  ·intro e;split at e<;>omega
  ·intro e;rw [if_pos e]
theorem zjx{l:List Hash}(h:(l.length:Int)=0):l=[]:=List.eq_nil_of_length_eq_zero (by omega)
attribute [local irreducible] ACallsTo ACallsP
theorem zfm(O:Store)(e:Ev)(x y z:AV)(hx:RdSl O 32 (hr e.a.p) x)(hy:RdSl O 32 (hr e.b.p) y)(hz:RdSl O 32 (hr e.p) z):
  ACallsTo TC 32 [.agg (evX e x y z)] O (.bool (mayB e)) O:=by
 have hVa:=fun t=>z4x (O++t) e.a.n e.a.i e.a.r e.a.s e.a.p x hx.app
 have hVb:=fun t=>z4x (O++t) e.b.n e.b.i e.b.r e.b.s e.b.p y hy.app
 have hO:=fun O=>zgp O e.a.n e.b.n e.a.r e.b.r
 have o3:=ord3 e.a.n e.b.n e.a.r e.b.r
 have o0:=ord0 e.a.n e.b.n e.a.r e.b.r
 have z1:=hz.len
 rw [zg]at z1
 unfold z1k at z1
 have hm:mayB e=(z1i e.a.n e.a.i e.a.s e.a.p && z1i e.b.n e.b.i e.b.s e.b.p && decide (e.p.length<=64) && z5b e):=rfl
 rw [hm]
 generalize z1i e.a.n e.a.i e.a.s e.a.p=va at*
 generalize z1i e.b.n e.b.i e.b.s e.b.p=vb at*
 generalize ordI e.a.n e.b.n e.a.r e.b.r=o at*
 refine ACallsTo.of_body q2dok (by simp) fun hw _=> ?_
 cases va with
 |false=>
  repeat' (first|apply zs_|apply zb_|apply zc_|apply zt_ rfl|apply zf_ rfl|(apply zd_ rfl<;>intro ht<;>try omega)|((first|apply zr_|apply zk_|apply ze_|apply zq_|(apply callW.mk_pu;(first|exact(fun _=>hVa _)))|(apply callW.za;(first|exact(hVa _)))|(apply zG<;>intro ht));all_goals try simp (disch:=first|omega|(simp only [lens,z8,zg,lQr,lQm,lQt,lQd,zh,zi,zj,zl];first|done|omega)) only [go_sem,z1]))
  exact DownV.pure hw z19
 |true=>
 cases vb with
 |false=>
  repeat' (first|apply zs_|apply zb_|apply zc_|apply zt_ rfl|apply zf_ rfl|(apply zd_ rfl<;>intro ht<;>try omega)|((first|apply zr_|apply zk_|apply ze_|apply zq_|(apply callW.mk_pu;(first|exact(fun _=>hVa _)|exact(fun _=>hVb _)))|(apply callW.za;(first|exact(hVa _)|exact(hVb _)))|(apply zG<;>intro ht));all_goals try simp (disch:=first|omega|(simp only [lens,z8,zg,lQr,lQm,lQt,lQd,zh,zi,zj,zl];first|done|omega)) only [go_sem,z1]))
  exact DownV.pure hw z19
 |true=>
 by_cases h64:e.p.length<=64
 ·have h64':¬(e.p.length:Int)>64:=by omega
  rw [decide_eq_true h64]
  unfold z5b
  by_cases k1:e.k=1
  ·rw [if_pos k1]
   by_cases c1:o=3
   ·by_cases c2:e.r=zeroH
    ·by_cases c3:(e.p.length:Int)=0
     ·rw [decide_eq_true ⟨(o3.1 c1).1,(o3.1 c1).2,c2,zjx c3⟩]
      repeat' (first|apply zs_|apply zb_|apply zc_|apply zt_ rfl|apply zf_ rfl|(apply zd_ rfl<;>intro ht<;>try omega)|((first|apply zr_|apply zk_|apply ze_|apply zq_|(apply callW.mk_pu;(first|exact(fun _=>hVa _)|exact(fun _=>hVb _)|exact(fun _=>hO _)))|(apply callW.za;(first|exact(hVa _)|exact(hVb _)|exact(hO _)))|(apply zG<;>intro ht));all_goals try simp (disch:=first|omega|(simp only [lens,z8,zg,lQr,lQm,lQt,lQd,zh,zi,zj,zl];first|done|omega)) only [go_sem,z1,h64',k1,c1,c2,c3,<-z44]))
      exact DownV.pure hw z19
     ·rw [decide_eq_false (fun h=>c3 (by rw [h.2.2.2];rfl))]
      repeat' (first|apply zs_|apply zb_|apply zc_|apply zt_ rfl|apply zf_ rfl|(apply zd_ rfl<;>intro ht<;>try omega)|((first|apply zr_|apply zk_|apply ze_|apply zq_|(apply callW.mk_pu;(first|exact(fun _=>hVa _)|exact(fun _=>hVb _)|exact(fun _=>hO _)))|(apply callW.za;(first|exact(hVa _)|exact(hVb _)|exact(hO _)))|(apply zG<;>intro ht));all_goals try simp (disch:=first|omega|(simp only [lens,z8,zg,lQr,lQm,lQt,lQd,zh,zi,zj,zl];first|done|omega)) only [go_sem,z1,h64',k1,c1,c2,c3,<-z44]))
      exact DownV.pure hw z19
    ·rw [decide_eq_false (fun h=>c2 h.2.2.1)]
     repeat' (first|apply zs_|apply zb_|apply zc_|apply zt_ rfl|apply zf_ rfl|(apply zd_ rfl<;>intro ht<;>try omega)|((first|apply zr_|apply zk_|apply ze_|apply zq_|(apply callW.mk_pu;(first|exact(fun _=>hVa _)|exact(fun _=>hVb _)|exact(fun _=>hO _)))|(apply callW.za;(first|exact(hVa _)|exact(hVb _)|exact(hO _)))|(apply zG<;>intro ht));all_goals try simp (disch:=first|omega|(simp only [lens,z8,zg,lQr,lQm,lQt,lQd,zh,zi,zj,zl];first|done|omega)) only [go_sem,z1,h64',k1,c1,c2,<-z44]))
     exact DownV.pure hw z19
   ·rw [decide_eq_false (fun h=>c1 (o3.2 ⟨h.1,h.2.1⟩))]
    repeat' (first|apply zs_|apply zb_|apply zc_|apply zt_ rfl|apply zf_ rfl|(apply zd_ rfl<;>intro ht<;>try omega)|((first|apply zr_|apply zk_|apply ze_|apply zq_|(apply callW.mk_pu;(first|exact(fun _=>hVa _)|exact(fun _=>hVb _)|exact(fun _=>hO _)))|(apply callW.za;(first|exact(hVa _)|exact(hVb _)|exact(hO _)))|(apply zG<;>intro ht));all_goals try simp (disch:=first|omega|(simp only [lens,z8,zg,lQr,lQm,lQt,lQd,zh,zi,zj,zl];first|done|omega)) only [go_sem,z1,h64',k1,c1]))
    exact DownV.pure hw z19
  ·rw [if_neg k1]
   by_cases k2:e.k=2
   ·by_cases c1:o=0
    ·by_cases c2:e.r=e.a.r
     ·rw [decide_eq_false (fun h=>h.2.2 c2)]
      repeat' (first|apply zs_|apply zb_|apply zc_|apply zt_ rfl|apply zf_ rfl|(apply zd_ rfl<;>intro ht<;>try omega)|((first|apply zr_|apply zk_|apply ze_|apply zq_|(apply callW.mk_pu;(first|exact(fun _=>hVa _)|exact(fun _=>hVb _)|exact(fun _=>hO _)))|(apply callW.za;(first|exact(hVa _)|exact(hVb _)|exact(hO _)))|(apply zG<;>intro ht));all_goals try simp (disch:=first|omega|(simp only [lens,z8,zg,lQr,lQm,lQt,lQd,zh,zi,zj,zl];first|done|omega)) only [go_sem,z1,h64',k1,k2,c1,c2]))
      exact DownV.pure hw z19
     ·rw [decide_eq_true ⟨k2,o0.1 c1,c2⟩]
      repeat' (first|apply zs_|apply zb_|apply zc_|apply zt_ rfl|apply zf_ rfl|(apply zd_ rfl<;>intro ht<;>try omega)|((first|apply zr_|apply zk_|apply ze_|apply zq_|(apply callW.mk_pu;(first|exact(fun _=>hVa _)|exact(fun _=>hVb _)|exact(fun _=>hO _)))|(apply callW.za;(first|exact(hVa _)|exact(hVb _)|exact(hO _)))|(apply zG<;>intro ht));all_goals try simp (disch:=first|omega|(simp only [lens,z8,zg,lQr,lQm,lQt,lQd,zh,zi,zj,zl];first|done|omega)) only [go_sem,z1,h64',k1,k2,c1,c2]))
      exact DownV.pure hw z19
    ·rw [decide_eq_false (fun h=>c1 (o0.2 h.2.1))]
     repeat' (first|apply zs_|apply zb_|apply zc_|apply zt_ rfl|apply zf_ rfl|(apply zd_ rfl<;>intro ht<;>try omega)|((first|apply zr_|apply zk_|apply ze_|apply zq_|(apply callW.mk_pu;(first|exact(fun _=>hVa _)|exact(fun _=>hVb _)|exact(fun _=>hO _)))|(apply callW.za;(first|exact(hVa _)|exact(hVb _)|exact(hO _)))|(apply zG<;>intro ht));all_goals try simp (disch:=first|omega|(simp only [lens,z8,zg,lQr,lQm,lQt,lQd,zh,zi,zj,zl];first|done|omega)) only [go_sem,z1,h64',k1,k2,c1]))
     exact DownV.pure hw z19
   ·rw [decide_eq_false (fun h=>k2 h.1)]
    repeat' (first|apply zs_|apply zb_|apply zc_|apply zt_ rfl|apply zf_ rfl|(apply zd_ rfl<;>intro ht<;>try omega)|((first|apply zr_|apply zk_|apply ze_|apply zq_|(apply callW.mk_pu;(first|exact(fun _=>hVa _)|exact(fun _=>hVb _)|exact(fun _=>hO _)))|(apply callW.za;(first|exact(hVa _)|exact(hVb _)|exact(hO _)))|(apply zG<;>intro ht));all_goals try simp (disch:=first|omega|(simp only [lens,z8,zg,lQr,lQm,lQt,lQd,zh,zi,zj,zl];first|done|omega)) only [go_sem,z1,h64',k1,k2]))
    exact DownV.pure hw z19
 ·have h64':(e.p.length:Int)>64:=by omega
  rw [decide_eq_false h64]
  repeat' (first|apply zs_|apply zb_|apply zc_|apply zt_ rfl|apply zf_ rfl|(apply zd_ rfl<;>intro ht<;>try omega)|((first|apply zr_|apply zk_|apply ze_|apply zq_|(apply callW.mk_pu;(first|exact(fun _=>hVa _)|exact(fun _=>hVb _)))|(apply callW.za;(first|exact(hVa _)|exact(hVb _)))|(apply zG<;>intro ht));all_goals try simp (disch:=first|omega|(simp only [lens,z8,zg,lQr,lQm,lQt,lQd,zh,zi,zj,zl];first|done|omega)) only [go_sem,z1,h64']))
  exact DownV.pure hw z19
theorem May_to(O:Store)(e:Ev)(x y z:AV)(hx:RdSl O 32 (hr e.a.p) x)(hy:RdSl O 32 (hr e.b.p) y)(hz:RdSl O 32 (hr e.p) z):
  ACallsTo TC 38 [.agg (evX e x y z)] O (.bool (mayB e)) O:=by
 have hVa:=fun t=>zf5 (O++t) e.a.n e.a.i e.a.r e.a.s e.a.p x hx.app
 have hVb:=fun t=>zf5 (O++t) e.b.n e.b.i e.b.r e.b.s e.b.p y hy.app
 have z1:=hz.len
 rw [zg]at z1
 unfold z1k at z1
 have hm:mayB e=(z1i e.a.n e.a.i e.a.s e.a.p && z1i e.b.n e.b.i e.b.s e.b.p && decide (e.p.length<=64) && z5b e):=rfl
 rw [hm]
 generalize z1i e.a.n e.a.i e.a.s e.a.p=va at*
 generalize z1i e.b.n e.b.i e.b.s e.b.p=vb at*
 refine ACallsTo.of_body q2eok (by simp) fun hw _=> ?_
 cases va with
 |false=>
  repeat' (first|apply zs_|apply zb_|apply zc_|apply zt_ rfl|apply zf_ rfl|(apply zd_ rfl<;>intro ht<;>try omega)|((first|apply zr_|apply zk_|apply ze_|apply zq_|(apply callW.mk_pu;(first|exact(fun _=>hVa _)))|(apply callW.za;(first|exact(hVa _)))|(apply zG<;>intro ht));all_goals try simp (disch:=first|omega|(simp only [lens,z8,zg,lQr,lQm,lQt,lQd,zh,zi,zj,zl];first|done|omega)) only [go_sem,z1]))
  exact DownV.pure hw z19
 |true=>
 cases vb with
 |false=>
  repeat' (first|apply zs_|apply zb_|apply zc_|apply zt_ rfl|apply zf_ rfl|(apply zd_ rfl<;>intro ht<;>try omega)|((first|apply zr_|apply zk_|apply ze_|apply zq_|(apply callW.mk_pu;(first|exact(fun _=>hVa _)|exact(fun _=>hVb _)))|(apply callW.za;(first|exact(hVa _)|exact(hVb _)))|(apply zG<;>intro ht));all_goals try simp (disch:=first|omega|(simp only [lens,z8,zg,lQr,lQm,lQt,lQd,zh,zi,zj,zl];first|done|omega)) only [go_sem,z1]))
  exact DownV.pure hw z19
 |true=>
 rw [Bool.true_and,Bool.true_and]
 unfold z5b
 by_cases k1:e.k=1
 ·rw [if_pos k1]
  by_cases c0:e.a.n=e.b.n/\ e.a.r ≠ e.b.r/\ e.r=zeroH
  ·obtain⟨c1,c2,c3⟩:=c0
   by_cases c4:(e.p.length:Int)=0
   ·rw [decide_eq_true (p:=_/\ _) ⟨c1,c2,c3,zjx c4⟩,decide_eq_true (show e.p.length<=64 by omega),Bool.true_and]
    repeat' (first|apply zs_|apply zb_|apply zc_|apply zt_ rfl|apply zf_ rfl|(apply zd_ rfl<;>intro ht<;>try omega)|((first|apply zr_|apply zk_|apply ze_|apply zq_|(apply callW.mk_pu;(first|exact(fun _=>hVa _)|exact(fun _=>hVb _)))|(apply callW.za;(first|exact(hVa _)|exact(hVb _)))|(apply zG<;>intro ht));all_goals try simp (disch:=first|omega|(simp only [lens,z8,zg,lQr,lQm,lQt,lQd,zh,zi,zj,zl];first|done|omega)) only [go_sem]))
    refine zW.reg2 ?_ ?_
    all_goals
     simp (disch:=first|omega|(simp only [lens,z8,zg,lQr,lQm,lQt,lQd,zh,zi,zj,zl];first|done|omega)) only [go_sem,z1]
     repeat' (first|apply zs_|apply zb_|apply zc_|apply zt_ rfl|apply zf_ rfl|(apply zd_ rfl<;>intro ht<;>try omega)|((first|apply zr_|apply zk_|apply ze_|apply zq_|(apply zG<;>intro ht));all_goals try simp (disch:=first|omega|(simp only [lens,z8,zg,lQr,lQm,lQt,lQd,zh,zi,zj,zl];first|done|omega)) only [go_sem,z1,k1,c1,c2,c3,c4,<-z44]))
     exact DownV.pure hw z19
   ·rw [decide_eq_false (p:=_/\ _) (fun h=>c4 (by rw [h.2.2.2];rfl)),Bool.and_false]
    repeat' (first|apply zs_|apply zb_|apply zc_|apply zt_ rfl|apply zf_ rfl|(apply zd_ rfl<;>intro ht<;>try omega)|((first|apply zr_|apply zk_|apply ze_|apply zq_|(apply callW.mk_pu;(first|exact(fun _=>hVa _)|exact(fun _=>hVb _)))|(apply callW.za;(first|exact(hVa _)|exact(hVb _)))|(apply zG<;>intro ht));all_goals try simp (disch:=first|omega|(simp only [lens,z8,zg,lQr,lQm,lQt,lQd,zh,zi,zj,zl];first|done|omega)) only [go_sem]))
    refine zW.reg2 ?_ ?_
    all_goals
     simp (disch:=first|omega|(simp only [lens,z8,zg,lQr,lQm,lQt,lQd,zh,zi,zj,zl];first|done|omega)) only [go_sem,z1]
     repeat' (first|apply zs_|apply zb_|apply zc_|apply zt_ rfl|apply zf_ rfl|(apply zd_ rfl<;>intro ht<;>try omega)|((first|apply zr_|apply zk_|apply ze_|apply zq_|(apply zG<;>intro ht));all_goals try simp (disch:=first|omega|(simp only [lens,z8,zg,lQr,lQm,lQt,lQd,zh,zi,zj,zl];first|done|omega)) only [go_sem,z1,k1,c1,c2,c3,c4,<-z44]))
     exact DownV.pure hw z19
  ·rw [decide_eq_false (p:=_/\ _) (fun h=>c0 ⟨h.1,h.2.1,h.2.2.1⟩),Bool.and_false]
   repeat' (first|apply zs_|apply zb_|apply zc_|apply zt_ rfl|apply zf_ rfl|(apply zd_ rfl<;>intro ht<;>try omega)|((first|apply zr_|apply zk_|apply ze_|apply zq_|(apply callW.mk_pu;(first|exact(fun _=>hVa _)|exact(fun _=>hVb _)))|(apply callW.za;(first|exact(hVa _)|exact(hVb _)))|(apply zG<;>intro ht));all_goals try simp (disch:=first|omega|(simp only [lens,z8,zg,lQr,lQm,lQt,lQd,zh,zi,zj,zl];first|done|omega)) only [go_sem]))
   refine zW.reg2 ?_ ?_
   all_goals
    simp (disch:=first|omega|(simp only [lens,z8,zg,lQr,lQm,lQt,lQd,zh,zi,zj,zl];first|done|omega)) only [go_sem,z1]
    by_cases c1:e.a.n=e.b.n
    ·by_cases c2:e.a.r=e.b.r
     ·repeat' (first|apply zs_|apply zb_|apply zc_|apply zt_ rfl|apply zf_ rfl|(apply zd_ rfl<;>intro ht<;>try omega)|((first|apply zr_|apply zk_|apply ze_|apply zq_|(apply zG<;>intro ht));all_goals try simp (disch:=first|omega|(simp only [lens,z8,zg,lQr,lQm,lQt,lQd,zh,zi,zj,zl];first|done|omega)) only [go_sem,z1,k1,c1,c2,<-z44]))
      exact DownV.pure hw z19
     ·have c3:¬e.r=zeroH:=fun h=>c0 ⟨c1,c2,h⟩
      repeat' (first|apply zs_|apply zb_|apply zc_|apply zt_ rfl|apply zf_ rfl|(apply zd_ rfl<;>intro ht<;>try omega)|((first|apply zr_|apply zk_|apply ze_|apply zq_|(apply zG<;>intro ht));all_goals try simp (disch:=first|omega|(simp only [lens,z8,zg,lQr,lQm,lQt,lQd,zh,zi,zj,zl];first|done|omega)) only [go_sem,z1,k1,c1,c2,c3,<-z44]))
      exact DownV.pure hw z19
    ·repeat' (first|apply zs_|apply zb_|apply zc_|apply zt_ rfl|apply zf_ rfl|(apply zd_ rfl<;>intro ht<;>try omega)|((first|apply zr_|apply zk_|apply ze_|apply zq_|(apply zG<;>intro ht));all_goals try simp (disch:=first|omega|(simp only [lens,z8,zg,lQr,lQm,lQt,lQd,zh,zi,zj,zl];first|done|omega)) only [go_sem,z1,k1,c1,<-z44]))
     exact DownV.pure hw z19
 ·rw [if_neg k1]
  by_cases k2:e.k=2
  ·by_cases c1:e.a.n<e.b.n
   ·by_cases c2:e.r=e.a.r
    ·rw [decide_eq_false (p:=_/\ _) (fun h=>h.2.2 c2),Bool.and_false]
     repeat' (first|apply zs_|apply zb_|apply zc_|apply zt_ rfl|apply zf_ rfl|(apply zd_ rfl<;>intro ht<;>try omega)|((first|apply zr_|apply zk_|apply ze_|apply zq_|(apply callW.mk_pu;(first|exact(fun _=>hVa _)|exact(fun _=>hVb _)))|(apply callW.za;(first|exact(hVa _)|exact(hVb _)))|(apply zG<;>intro ht));all_goals try simp (disch:=first|omega|(simp only [lens,z8,zg,lQr,lQm,lQt,lQd,zh,zi,zj,zl];first|done|omega)) only [go_sem]))
     refine zW.reg2 ?_ ?_
     all_goals
      simp (disch:=first|omega|(simp only [lens,z8,zg,lQr,lQm,lQt,lQd,zh,zi,zj,zl];first|done|omega)) only [go_sem,z1]
      repeat' (first|apply zs_|apply zb_|apply zc_|apply zt_ rfl|apply zf_ rfl|(apply zd_ rfl<;>intro ht<;>try omega)|((first|apply zr_|apply zk_|apply ze_|apply zq_|(apply zG<;>intro ht));all_goals try simp (disch:=first|omega|(simp only [lens,z8,zg,lQr,lQm,lQt,lQd,zh,zi,zj,zl];first|done|omega)) only [go_sem,z1,k1,k2,c1,c2]))
      exact DownV.pure hw z19
    ·rw [decide_eq_true (p:=_/\ _) ⟨k2,c1,c2⟩,Bool.and_true]
     by_cases h64:e.p.length<=64
     ·have h64':(e.p.length:Int)<=64:=by omega
      rw [decide_eq_true h64]
      repeat' (first|apply zs_|apply zb_|apply zc_|apply zt_ rfl|apply zf_ rfl|(apply zd_ rfl<;>intro ht<;>try omega)|((first|apply zr_|apply zk_|apply ze_|apply zq_|(apply callW.mk_pu;(first|exact(fun _=>hVa _)|exact(fun _=>hVb _)))|(apply callW.za;(first|exact(hVa _)|exact(hVb _)))|(apply zG<;>intro ht));all_goals try simp (disch:=first|omega|(simp only [lens,z8,zg,lQr,lQm,lQt,lQd,zh,zi,zj,zl];first|done|omega)) only [go_sem]))
      refine zW.reg2 ?_ ?_
      all_goals
       simp (disch:=first|omega|(simp only [lens,z8,zg,lQr,lQm,lQt,lQd,zh,zi,zj,zl];first|done|omega)) only [go_sem,z1]
       repeat' (first|apply zs_|apply zb_|apply zc_|apply zt_ rfl|apply zf_ rfl|(apply zd_ rfl<;>intro ht<;>try omega)|((first|apply zr_|apply zk_|apply ze_|apply zq_|(apply zG<;>intro ht));all_goals try simp (disch:=first|omega|(simp only [lens,z8,zg,lQr,lQm,lQt,lQd,zh,zi,zj,zl];first|done|omega)) only [go_sem,z1,k1,k2,c1,c2,h64']))
       exact DownV.pure hw z19
     ·have h64':¬(e.p.length:Int)<=64:=by omega
      rw [decide_eq_false h64]
      repeat' (first|apply zs_|apply zb_|apply zc_|apply zt_ rfl|apply zf_ rfl|(apply zd_ rfl<;>intro ht<;>try omega)|((first|apply zr_|apply zk_|apply ze_|apply zq_|(apply callW.mk_pu;(first|exact(fun _=>hVa _)|exact(fun _=>hVb _)))|(apply callW.za;(first|exact(hVa _)|exact(hVb _)))|(apply zG<;>intro ht));all_goals try simp (disch:=first|omega|(simp only [lens,z8,zg,lQr,lQm,lQt,lQd,zh,zi,zj,zl];first|done|omega)) only [go_sem]))
      refine zW.reg2 ?_ ?_
      all_goals
       simp (disch:=first|omega|(simp only [lens,z8,zg,lQr,lQm,lQt,lQd,zh,zi,zj,zl];first|done|omega)) only [go_sem,z1]
       repeat' (first|apply zs_|apply zb_|apply zc_|apply zt_ rfl|apply zf_ rfl|(apply zd_ rfl<;>intro ht<;>try omega)|((first|apply zr_|apply zk_|apply ze_|apply zq_|(apply zG<;>intro ht));all_goals try simp (disch:=first|omega|(simp only [lens,z8,zg,lQr,lQm,lQt,lQd,zh,zi,zj,zl];first|done|omega)) only [go_sem,z1,k1,k2,c1,c2,h64']))
       exact DownV.pure hw z19
   ·rw [decide_eq_false (p:=_/\ _) (fun h=>c1 h.2.1),Bool.and_false]
    repeat' (first|apply zs_|apply zb_|apply zc_|apply zt_ rfl|apply zf_ rfl|(apply zd_ rfl<;>intro ht<;>try omega)|((first|apply zr_|apply zk_|apply ze_|apply zq_|(apply callW.mk_pu;(first|exact(fun _=>hVa _)|exact(fun _=>hVb _)))|(apply callW.za;(first|exact(hVa _)|exact(hVb _)))|(apply zG<;>intro ht));all_goals try simp (disch:=first|omega|(simp only [lens,z8,zg,lQr,lQm,lQt,lQd,zh,zi,zj,zl];first|done|omega)) only [go_sem]))
    refine zW.reg2 ?_ ?_
    all_goals
     simp (disch:=first|omega|(simp only [lens,z8,zg,lQr,lQm,lQt,lQd,zh,zi,zj,zl];first|done|omega)) only [go_sem,z1]
     repeat' (first|apply zs_|apply zb_|apply zc_|apply zt_ rfl|apply zf_ rfl|(apply zd_ rfl<;>intro ht<;>try omega)|((first|apply zr_|apply zk_|apply ze_|apply zq_|(apply zG<;>intro ht));all_goals try simp (disch:=first|omega|(simp only [lens,z8,zg,lQr,lQm,lQt,lQd,zh,zi,zj,zl];first|done|omega)) only [go_sem,z1,k1,k2,c1]))
     exact DownV.pure hw z19
  ·rw [decide_eq_false (p:=_/\ _) (fun h=>k2 h.1),Bool.and_false]
   repeat' (first|apply zs_|apply zb_|apply zc_|apply zt_ rfl|apply zf_ rfl|(apply zd_ rfl<;>intro ht<;>try omega)|((first|apply zr_|apply zk_|apply ze_|apply zq_|(apply callW.mk_pu;(first|exact(fun _=>hVa _)|exact(fun _=>hVb _)))|(apply callW.za;(first|exact(hVa _)|exact(hVb _)))|(apply zG<;>intro ht));all_goals try simp (disch:=first|omega|(simp only [lens,z8,zg,lQr,lQm,lQt,lQd,zh,zi,zj,zl];first|done|omega)) only [go_sem]))
   refine zW.reg2 ?_ ?_
   all_goals
    simp (disch:=first|omega|(simp only [lens,z8,zg,lQr,lQm,lQt,lQd,zh,zi,zj,zl];first|done|omega)) only [go_sem,z1]
    repeat' (first|apply zs_|apply zb_|apply zc_|apply zt_ rfl|apply zf_ rfl|(apply zd_ rfl<;>intro ht<;>try omega)|((first|apply zr_|apply zk_|apply ze_|apply zq_|(apply zG<;>intro ht));all_goals try simp (disch:=first|omega|(simp only [lens,z8,zg,lQr,lQm,lQt,lQd,zh,zi,zj,zl];first|done|omega)) only [go_sem,z1,k1,k2]))
    exact DownV.pure hw z19
end
section
def z57(key:Hash)(e:Ev):Int:=
 if mayB e=false then 2 else if z4m key e.a.n e.a.i e.a.r e.a.s e.a.p ≠ 0 \/z4m key e.b.n e.b.i e.b.r e.b.s e.b.p ≠ 0 then 81 else if e.k=2/\ chkH e.a.n e.b.n e.r e.b.r e.p ≠ 0 then 80 else 0
def z9y(e:Ev):AV:=if mayB e=true then .tup [.str (z2k e),.int .i64 0]else .tup [.str [],.int .i64 2]
def zbo(e f:Ev):Bool:=decide (e.k=f.k) && z7t e.a.n f.a.n e.a.i f.a.i e.a.r f.a.r e.a.s f.a.s e.a.p f.a.p && z7t e.b.n f.b.n e.b.i f.b.i e.b.r f.b.r e.b.s f.b.s e.b.p f.b.p && decide (e.r=f.r) && decide (e.p=f.p)
def EvOk(e:Ev):Prop:=e.a.p.length<1000000/\ e.b.p.length<1000000/\ e.p.length<1000000
theorem zkh{h:Hdr}(hv:valH h=true):putV h.n h.i h.r h.s h.p=.tup [.str (z2i h),.int .i64 0]:=by
 unfold putV
 rw [if_pos (show z1i h.n h.i h.s h.p=true from hv)]
 rfl
theorem rlS2{n:Nat}(s:List UInt8)(k:Int):RL n (.tup [.str s,.int .i64 k]):=by simp [RL,RLs]
attribute [local irreducible] ACallsTo ACallsP
theorem zgj(O:Store)(key:Hash)(e:Ev)(x y z:AV)(hx:RdSl O 32 (hr e.a.p) x)(hy:RdSl O 32 (hr e.b.p) y)(hz:RdSl O 32 (hr e.p) z)(hl:EvOk e):
  ACallsTo TC 11 [.agg (hc key),.agg (evX e x y z)] O (.int .i64 (z57 key e)) O:=by
 have hS:=fun t=>zfm (O++t) e x y z hx.app hy.app hz.app
 have hA:=fun t=>zgn (O++t) key e.a.n e.a.i e.a.r e.a.s e.a.p x hx.app
 have hB:=fun t=>zgn (O++t) key e.b.n e.b.i e.b.r e.b.s e.b.p y hy.app
 have hP:=fun t=>ztf (O++t) e.a.n e.b.n e.r e.b.r z e.p hz.app hl.2.2
 unfold z57
 generalize z4m key e.a.n e.a.i e.a.r e.a.s e.a.p=ca at*
 generalize z4m key e.b.n e.b.i e.b.r e.b.s e.b.p=cb at*
 generalize chkH e.a.n e.b.n e.r e.b.r e.p=cp at*
 generalize mayB e=mb at*
 refine ACallsTo.of_body q29ok (by simp) fun hw _=> ?_
 repeat' (first|apply zs_|apply zb_|apply zc_|apply zt_ rfl|apply zf_ rfl|(apply zd_ rfl<;>intro ht<;>try omega)|((first|apply zr_|apply zk_|apply ze_|apply zq_|(apply zG<;>intro ht));all_goals try simp (disch:=first|omega|(simp only [lens,z8,zg,lQr,lQm,lQt,lQd,zh,zi,zj,zl];first|done|omega)) only [go_sem]))
 refine zW.reg2 ?_ ?_
 all_goals
  simp (disch:=first|omega|(simp only [lens,z8,zg,lQr,lQm,lQt,lQd,zh,zi,zj,zl];first|done|omega)) only [go_sem]
  cases mb with
  |false=>
   repeat' (first|apply zs_|apply zb_|apply zc_|apply zt_ rfl|apply zf_ rfl|(apply zd_ rfl<;>intro ht<;>try omega)|((first|apply zr_|apply zk_|apply ze_|apply zq_|(apply callW.mk_pu;(first|exact(fun _=>hS _)))|(apply callW.za;(first|exact(hS _)))|(apply zG<;>intro ht));all_goals try simp (disch:=first|omega|(simp only [lens,z8,zg,lQr,lQm,lQt,lQd,zh,zi,zj,zl];first|done|omega)) only [go_sem]))
   exact DownV.pure hw z3l
  |true=>
   rw [if_neg (by simp)]
   by_cases h1:ca=0
   ·by_cases h2:cb=0
    ·rw [if_neg (by omega)]
     by_cases k2:e.k=2
     ·by_cases h3:cp=0
      ·rw [if_neg (by omega)]
       repeat' (first|apply zs_|apply zb_|apply zc_|apply zt_ rfl|apply zf_ rfl|(apply zd_ rfl<;>intro ht<;>try omega)|((first|apply zr_|apply zk_|apply ze_|apply zq_|(apply callW.mk_pu;(first|exact(fun _=>hS _)|exact(fun _=>hA _)|exact(fun _=>hB _)|exact(fun _=>hP _)))|(apply callW.za;(first|exact(hS _)|exact(hA _)|exact(hB _)|exact(hP _)))|(apply zG<;>intro ht));all_goals try simp (disch:=first|omega|(simp only [lens,z8,zg,lQr,lQm,lQt,lQd,zh,zi,zj,zl];first|done|omega)) only [go_sem,h1,h2,k2,h3]))
       exact DownV.pure hw z3l
      ·rw [if_pos ⟨k2,h3⟩]
       repeat' (first|apply zs_|apply zb_|apply zc_|apply zt_ rfl|apply zf_ rfl|(apply zd_ rfl<;>intro ht<;>try omega)|((first|apply zr_|apply zk_|apply ze_|apply zq_|(apply callW.mk_pu;(first|exact(fun _=>hS _)|exact(fun _=>hA _)|exact(fun _=>hB _)|exact(fun _=>hP _)))|(apply callW.za;(first|exact(hS _)|exact(hA _)|exact(hB _)|exact(hP _)))|(apply zG<;>intro ht));all_goals try simp (disch:=first|omega|(simp only [lens,z8,zg,lQr,lQm,lQt,lQd,zh,zi,zj,zl];first|done|omega)) only [go_sem,h1,h2,k2,h3]))
       exact DownV.pure hw z3l
     ·rw [if_neg (by omega)]
      repeat' (first|apply zs_|apply zb_|apply zc_|apply zt_ rfl|apply zf_ rfl|(apply zd_ rfl<;>intro ht<;>try omega)|((first|apply zr_|apply zk_|apply ze_|apply zq_|(apply callW.mk_pu;(first|exact(fun _=>hS _)|exact(fun _=>hA _)|exact(fun _=>hB _)|exact(fun _=>hP _)))|(apply callW.za;(first|exact(hS _)|exact(hA _)|exact(hB _)|exact(hP _)))|(apply zG<;>intro ht));all_goals try simp (disch:=first|omega|(simp only [lens,z8,zg,lQr,lQm,lQt,lQd,zh,zi,zj,zl];first|done|omega)) only [go_sem,h1,h2,k2]))
      exact DownV.pure hw z3l
    ·rw [if_pos (.inr h2)]
     repeat' (first|apply zs_|apply zb_|apply zc_|apply zt_ rfl|apply zf_ rfl|(apply zd_ rfl<;>intro ht<;>try omega)|((first|apply zr_|apply zk_|apply ze_|apply zq_|(apply callW.mk_pu;(first|exact(fun _=>hS _)|exact(fun _=>hA _)|exact(fun _=>hB _)))|(apply callW.za;(first|exact(hS _)|exact(hA _)|exact(hB _)))|(apply zG<;>intro ht));all_goals try simp (disch:=first|omega|(simp only [lens,z8,zg,lQr,lQm,lQt,lQd,zh,zi,zj,zl];first|done|omega)) only [go_sem,h1,h2]))
     exact DownV.pure hw z3l
   ·rw [if_pos (.inl h1)]
    repeat' (first|apply zs_|apply zb_|apply zc_|apply zt_ rfl|apply zf_ rfl|(apply zd_ rfl<;>intro ht<;>try omega)|((first|apply zr_|apply zk_|apply ze_|apply zq_|(apply callW.mk_pu;(first|exact(fun _=>hS _)|exact(fun _=>hA _)))|(apply callW.za;(first|exact(hS _)|exact(hA _)))|(apply zG<;>intro ht));all_goals try simp (disch:=first|omega|(simp only [lens,z8,zg,lQr,lQm,lQt,lQd,zh,zi,zj,zl];first|done|omega)) only [go_sem,h1]))
    exact DownV.pure hw z3l
end
section
theorem zmb{h:Hdr}(hv:valH h=true):(z1v (z2i h)).length<2000000:=by
 have h1:=z8s hv
 have h2:=z2t (z2i h).length
 unfold z1v
 rw [List.length_append];omega
attribute [local irreducible] ACallsTo ACallsP
theorem zf3(O:Store)(e:Ev)(x y z:AV)(hx:RdSl O 32 (hr e.a.p) x)(hy:RdSl O 32 (hr e.b.p) y)(hz:RdSl O 32 (hr e.p) z)(hl:EvOk e):
  ACallsTo TC 10 [.agg (evX e x y z)] O (z9y e) O:=by
 have hS:=fun t=>May_to (O++t) e x y z hx.app hy.app hz.app
 refine ACallsTo.of_body q28ok (by simp) fun hw _=> ?_
 unfold z9y
 by_cases hm:mayB e=true
 ·obtain⟨va,vb,h64,hk⟩:=zc4 hm
  rw [if_pos hm]
  rw [hm]at hS
  have hA:=fun t=>zf4 (O++t) e.a.n e.a.i e.a.r e.a.s e.a.p x hx.app
  have hB:=fun t=>zf4 (O++t) e.b.n e.b.i e.b.r e.b.s e.b.p y hy.app
  rw [zkh va]at hA
  rw [zkh vb]at hB
  have hTa:=fun O=>zf6 O (z2i e.a) (by have:=z8s va;omega)
  have hTb:=fun O=>zf6 O (z2i e.b) (by have:=z8s vb;omega)
  have hH:=fun O=>zkv O e.r
  have hHs:=fun t=>zkt (O++t) e.p z hz.app hl.2.2
  have b1:=zmb va
  have b2:=zmb vb
  have b3:=z2t 1
  have b4:=z2t 2
  have b5:=e.r.2
  have b6:=zbr (l:=e.p)
  rcases zjg hk with⟨k1,_,_⟩|k2
  ·have hN:∀O,ACallsTo TC 40 [.int .u64 1] O (.str (numS 1)) O:=fun O=>z7x O 1 (by omega)
   have he:z2k e=numS 1++z1v (z2i e.a)++z1v (z2i e.b):=by
    unfold z2k
    rw [k1,if_neg (by omega)];simp
   rw [he]
   repeat' (first|apply zs_|apply zb_|apply zc_|apply zt_ rfl|apply zf_ rfl|(apply zd_ rfl<;>intro ht<;>try omega)|((first|apply zr_|apply zk_|apply ze_|apply zq_|(apply callW.mk_pu;(first|exact(fun _=>hS _)|exact(fun _=>hA _)|exact(fun _=>hB _)|exact(fun _=>hN _)|exact(fun _=>hTa _)|exact(fun _=>hTb _)))|(apply callW.za;(first|exact(hS _)|exact(hA _)|exact(hB _)|exact(hN _)|exact(hTa _)|exact(hTb _)))|(apply zG<;>intro ht));all_goals try simp (disch:=first|omega|(simp only [lens,z8,zg,lQr,lQm,lQt,lQd,zh,zi,zj,zl];first|done|omega)) only [go_sem,k1]))
   exact DownV.pure hw (rlS2 _ _)
  ·have hN:∀O,ACallsTo TC 40 [.int .u64 2] O (.str (numS 2)) O:=fun O=>z7x O 2 (by omega)
   have he:z2k e=numS 2++z1v (z2i e.a)++z1v (z2i e.b)++e.r.1++z3a e.p:=by
    unfold z2k
    rw [k2,if_pos (by omega)];simp
   rw [he]
   repeat' (first|apply zs_|apply zb_|apply zc_|apply zt_ rfl|apply zf_ rfl|(apply zd_ rfl<;>intro ht<;>try omega)|((first|apply zr_|apply zk_|apply ze_|apply zq_|(apply callW.mk_pu;(first|exact(fun _=>hS _)|exact(fun _=>hA _)|exact(fun _=>hB _)|exact(fun _=>hN _)|exact(fun _=>hTa _)|exact(fun _=>hTb _)|exact(fun _=>hH _)|exact(fun _=>hHs _)))|(apply callW.za;(first|exact(hS _)|exact(hA _)|exact(hB _)|exact(hN _)|exact(hTa _)|exact(hTb _)|exact(hH _)|exact(hHs _)))|(apply zG<;>intro ht));all_goals try simp (disch:=first|omega|(simp only [lens,z8,zg,lQr,lQm,lQt,lQd,zh,zi,zj,zl];first|done|omega)) only [go_sem,k2]))
   exact DownV.pure hw (rlS2 _ _)
 ·rw [if_neg hm]
  rw [show mayB e=false by simpa using hm]at hS
  repeat' (first|apply zs_|apply zb_|apply zc_|apply zt_ rfl|apply zf_ rfl|(apply zd_ rfl<;>intro ht<;>try omega)|((first|apply zr_|apply zk_|apply ze_|apply zq_|(apply callW.mk_pu;(first|exact(fun _=>hS _)))|(apply callW.za;(first|exact(hS _)))|(apply zG<;>intro ht));all_goals try simp (disch:=first|omega|(simp only [lens,z8,zg,lQr,lQm,lQt,lQd,zh,zi,zj,zl];first|done|omega)) only [go_sem]))
  exact DownV.pure hw (rlS2 _ _)
end
section
attribute [local irreducible] ACallsTo ACallsP
theorem zu0(O:Store)(e f:Ev)(x y z x2 y2 z2:AV)(hx:SlV 32 (hr e.a.p) x)(hy:SlV 32 (hr e.b.p) y)(hz:SlV 32 (hr e.p) z)(hl:EvOk e)
  (hx2:SlV 32 (hr f.a.p) x2) (hy2:SlV 32 (hr f.b.p) y2) (hz2:SlV 32 (hr f.p) z2) (hl2:EvOk f):
  ACallsTo TC 14 [.agg (evX e x y z),.agg (evX f x2 y2 z2)] O (.bool (zbo e f)) O:=by
 have hA:=fun O=>zks O e.a.n f.a.n e.a.i f.a.i e.a.r f.a.r e.a.s f.a.s e.a.p f.a.p x x2 hx hx2 hl.1 hl2.1
 have hB:=fun O=>zks O e.b.n f.b.n e.b.i f.b.i e.b.r f.b.r e.b.s f.b.s e.b.p f.b.p y y2 hy hy2 hl.2.1 hl2.2.1
 obtain⟨_,_,lp⟩:=hl
 obtain⟨_,_,lp2⟩:=hl2
 have a1:=hz.len
 have a2:=hz2.len
 rw [zg]at a1 a2
 unfold z1k at a1 a2
 unfold zbo
 generalize z7t e.a.n f.a.n e.a.i f.a.i e.a.r f.a.r e.a.s f.a.s e.a.p f.a.p=ba at*
 generalize z7t e.b.n f.b.n e.b.i f.b.i e.b.r f.b.r e.b.s f.b.s e.b.p f.b.p=bb at*
 have el:=zj e x y z
 have fl:=zj f x2 y2 z2
 refine ACallsTo.of_body q23ok (by simp) fun hw _=> ?_
 by_cases h1:e.k=f.k
 ·rw [decide_eq_true h1]
  cases ba with
  |false=>
   repeat' (first|apply zs_|apply zb_|apply zc_|apply zt_ rfl|apply zf_ rfl|(apply zd_ rfl<;>intro ht<;>try omega)|((first|apply zr_|apply zk_|apply ze_|apply zq_|(apply callW.mk_pu;(first|exact(fun _=>hA _)))|(apply callW.za;(first|exact(hA _)))|(apply zG<;>intro ht));all_goals try simp (disch:=first|omega|(simp only [lens,z8,zg,lQr,lQm,lQt,lQd,zh,zi,zj,zl];first|done|omega)) only [go_sem,h1]))
   exact DownV.pure hw z19
  |true=>
  cases bb with
  |false=>
   repeat' (first|apply zs_|apply zb_|apply zc_|apply zt_ rfl|apply zf_ rfl|(apply zd_ rfl<;>intro ht<;>try omega)|((first|apply zr_|apply zk_|apply ze_|apply zq_|(apply callW.mk_pu;(first|exact(fun _=>hA _)|exact(fun _=>hB _)))|(apply callW.za;(first|exact(hA _)|exact(hB _)))|(apply zG<;>intro ht));all_goals try simp (disch:=first|omega|(simp only [lens,z8,zg,lQr,lQm,lQt,lQd,zh,zi,zj,zl];first|done|omega)) only [go_sem,h1]))
   exact DownV.pure hw z19
  |true=>
  by_cases h2:e.r=f.r
  ·rw [decide_eq_true h2]
   by_cases hll:e.p.length=f.p.length
   ·have hll':(e.p.length:Int)=f.p.length:=by omega
    repeat' (first|apply zs_|apply zb_|apply zc_|apply zt_ rfl|apply zf_ rfl|(apply zd_ rfl<;>intro ht<;>try omega)|((first|apply zr_|apply zk_|apply ze_|apply zq_|(apply callW.mk_pu;(first|exact(fun _=>hA _)|exact(fun _=>hB _)))|(apply callW.za;(first|exact(hA _)|exact(hB _)))|(apply zG<;>intro ht));all_goals try simp (disch:=first|omega|(simp only [lens,z8,zg,lQr,lQm,lQt,lQd,zh,zi,zj,zl];first|done|omega)) only [go_sem,h1,h2,a1,a2,hll']))
    refine zW.loop (fun m J O'=>∃k:Nat,m+k=e.p.length/\ O'=O++ [some [evX e x y z],some [evX f x2 y2 z2]]/\ e.p.take k=f.p.take k/\ J 2=.ptr O.length 0 0/\ J 3=.ptr (O.length+1) 0 0/\ J 5=.int .i64 k) e.p.length ?_ ?_
    ·exact⟨0,by omega,rfl,rfl,by simp (disch:=first|omega|(simp only [lens,z8,zg,lQr,lQm,lQt,lQd,zh,zi,zj,zl];first|done|omega)) only [go_sem],by simp (disch:=first|omega|(simp only [lens,z8,zg,lQr,lQm,lQt,lQd,zh,zi,zj,zl];first|done|omega)) only [go_sem],by simp (disch:=first|omega|(simp only [lens,z8,zg,lQr,lQm,lQt,lQd,zh,zi,zj,zl];first|done|omega)) only [go_sem];rfl⟩
    ·rintro m J O' ⟨k,hm,rfl,htk,q2,q3,q5⟩
     by_cases hk:k<e.p.length
     ·obtain⟨ex,rfl⟩:=hz.vsl (by rw [zg];omega)
      obtain⟨ex2,rfl⟩:=hz2.vsl (by rw [zg];omega)
      have hk':(k:Int)<f.p.length:=by omega
      by_cases hh:hd e.p k=hd f.p k
      ·have t1:=z6f (l:=e.p) (i:=k) hk
       have t2:=z6f (l:=f.p) (i:=k) (by omega)
       repeat' (first|apply zs_|apply zb_|apply zc_|apply zt_ rfl|apply zf_ rfl|(apply zd_ rfl<;>intro ht<;>try omega)|((first|apply zr_|apply zk_|apply ze_|apply zq_|(apply zG<;>intro ht));all_goals try simp (disch:=first|omega|(simp only [lens,z8,zg,lQr,lQm,lQt,lQd,zh,zi,zj,zl];first|done|omega)) only [go_sem,q2,q3,q5,a1,a2,hk',hh]))
       exact⟨m-1,by omega,k+1,by omega,by rw [t1,t2,htk,hh],by simp⟩
      ·rw [decide_eq_false (fun e=>hh (by rw [e]))]
       repeat' (first|apply zs_|apply zb_|apply zc_|apply zt_ rfl|apply zf_ rfl|(apply zd_ rfl<;>intro ht<;>try omega)|((first|apply zr_|apply zk_|apply ze_|apply zq_|(apply zG<;>intro ht));all_goals try simp (disch:=first|omega|(simp only [lens,z8,zg,lQr,lQm,lQt,lQd,zh,zi,zj,zl];first|done|omega)) only [go_sem,q2,q3,q5,a1,a2,hk',hh]))
       exact DownV.pure hw z19
     ·have hk':¬(k:Int)<f.p.length:=by omega
      have:e.p=f.p:=by
       rw [List.take_of_length_le (by omega),List.take_of_length_le (by omega)]at htk
       exact htk
      rw [decide_eq_true this]
      repeat' (first|apply zs_|apply zb_|apply zc_|apply zt_ rfl|apply zf_ rfl|(apply zd_ rfl<;>intro ht<;>try omega)|((first|apply zr_|apply zk_|apply ze_|apply zq_|(apply zG<;>intro ht));all_goals try simp (disch:=first|omega|(simp only [lens,z8,zg,lQr,lQm,lQt,lQd,zh,zi,zj,zl];first|done|omega)) only [go_sem,q2,q3,q5,a1,a2,hll',hk']))
      exact DownV.pure hw z19
   ·rw [decide_eq_false (fun e=>hll (by rw [e]))]
    have hll':¬(e.p.length:Int)=f.p.length:=by omega
    repeat' (first|apply zs_|apply zb_|apply zc_|apply zt_ rfl|apply zf_ rfl|(apply zd_ rfl<;>intro ht<;>try omega)|((first|apply zr_|apply zk_|apply ze_|apply zq_|(apply callW.mk_pu;(first|exact(fun _=>hA _)|exact(fun _=>hB _)))|(apply callW.za;(first|exact(hA _)|exact(hB _)))|(apply zG<;>intro ht));all_goals try simp (disch:=first|omega|(simp only [lens,z8,zg,lQr,lQm,lQt,lQd,zh,zi,zj,zl];first|done|omega)) only [go_sem,h1,h2,a1,a2,hll']))
    exact DownV.pure hw z19
  ·rw [decide_eq_false h2]
   repeat' (first|apply zs_|apply zb_|apply zc_|apply zt_ rfl|apply zf_ rfl|(apply zd_ rfl<;>intro ht<;>try omega)|((first|apply zr_|apply zk_|apply ze_|apply zq_|(apply callW.mk_pu;(first|exact(fun _=>hA _)|exact(fun _=>hB _)))|(apply callW.za;(first|exact(hA _)|exact(hB _)))|(apply zG<;>intro ht));all_goals try simp (disch:=first|omega|(simp only [lens,z8,zg,lQr,lQm,lQt,lQd,zh,zi,zj,zl];first|done|omega)) only [go_sem,h1,h2]))
   exact DownV.pure hw z19
 ·rw [decide_eq_false h1]
  repeat' (first|apply zs_|apply zb_|apply zc_|apply zt_ rfl|apply zf_ rfl|(apply zd_ rfl<;>intro ht<;>try omega)|((first|apply zr_|apply zk_|apply ze_|apply zq_|(apply zG<;>intro ht));all_goals try simp (disch:=first|omega|(simp only [lens,z8,zg,lQr,lQm,lQt,lQd,zh,zi,zj,zl];first|done|omega)) only [go_sem,h1]))
  exact DownV.pure hw z19
end
section
def sgV(h:Hdr):AV:=.agg (sgX h (zu 32 (hr h.p)))
def z6q:Option Ev->AV
 |none=> .tup [.agg evO,.int .i64 10]
 |some e=> .tup [.agg (evL e),.int .i64 0]
theorem rdV_D(s:List UInt8):rdV (z1g s)=.tup [.int .u64 ((rdD s).1:Nat),.str (rdD s).2,.bool (z1g s).isSome]:=by
 unfold rdD;cases z1g s<;>rfl
theorem stV_D(s:List UInt8):stV (cutS s)=.tup [.str (cutD s).1,.str (cutD s).2,.bool (cutS s).isSome]:=by
 unfold cutD;cases cutS s<;>rfl
theorem unV_D(s:List UInt8):unV (unS s)=.tup [.agg (hc (unD s).1),.str (unD s).2,.bool (unS s).isSome]:=by
 unfold unD;cases unS s<;>rfl
theorem zmn(s:List UInt8):unsV (unsS s)=.tup [zu 32 (hr (unsD s).1),.str (unsD s).2,.bool (unsS s).isSome]:=by
 unfold unsD;cases unsS s<;>rfl
theorem zit(s:List UInt8):getV (getH s)=.tup [sgV (z2z s),.int .i64 (if (getH s).isSome=true then 0 else 10)]:=by
 unfold z2z;cases getH s<;>rfl
theorem sgnS_D(s:List UInt8):(sgnS s).isSome=((cutS s).isSome && (getH (cutD s).1).isSome):=by
 unfold sgnS cutD
 cases cutS s with
 |none=>rfl
 |some x=>simp
theorem z7m(s:List UInt8):(cutD s).1.length<=s.length/\ (cutD s).2.length<=s.length:=by
 unfold cutD
 cases h:cutS s with
 |none=>simp
 |some x=>
  have:=zdr (g:=x.1) (r:=x.2) h
  have:=congrArg List.length this
  unfold z1v at this
  simp only [List.length_append]at this
  simp only [Option.getD_some]
  omega
theorem zki(s:List UInt8):(rdD s).2.length<=s.length:=by
 unfold rdD
 cases h:z1g s with
 |none=>simp
 |some x=>
  have:=(z4c (n:=x.1) (r:=x.2) h).2
  simp only [Option.getD_some]
  omega
theorem zkj(s:List UInt8):(rdD s).1<18446744073709551616:=by
 unfold rdD
 cases h:z1g s with
 |none=>simp
 |some x=>exact(z4c (n:=x.1) (r:=x.2) h).1
theorem zmh(s:List UInt8):(unD s).2.length<=s.length:=by
 unfold unD
 cases h:unS s with
 |none=>simp
 |some x=>
  have:=congrArg List.length (zgd (h:=x.1) (r:=x.2) h)
  rw [List.length_append]at this
  simp only [Option.getD_some]
  omega
def gE(b1:Bool)(n:Nat)(b2:Bool)(A:Hdr)(b3:Bool)(B:Hdr)(t:List UInt8)(b4:Bool)(r:Hash)(b5:Bool)(p:List Hash)(u:List UInt8):Option Ev:=
 if b1=true/\ b2=true/\ b3=true then
  if n=1 then(if t=[]/\ mayB ⟨1,A,B,zeroH,[]⟩=true then some ⟨1,A,B,zeroH,[]⟩else none)
  else if n=2 then(if b4=true/\ b5=true/\ u=[]/\ mayB ⟨2,A,B,r,p⟩=true then some ⟨2,A,B,r,p⟩else none)else none
 else none
theorem getE_D(s:List UInt8):getE s=gE (z1g s).isSome (rdD s).1 (sgnS (rdD s).2).isSome (z2z (cutD (rdD s).2).1) (sgnS (cutD (rdD s).2).2).isSome (z2z (cutD (cutD (rdD s).2).2).1) (cutD (cutD (rdD s).2).2).2
  (unS (cutD (cutD (rdD s).2).2).2).isSome (unD (cutD (cutD (rdD s).2).2).2).1 (unsS (unD (cutD (cutD (rdD s).2).2).2).2).isSome (unsD (unD (cutD (cutD (rdD s).2).2).2).2).1 (unsD (unD (cutD (cutD (rdD s).2).2).2).2).2:=by
 unfold getE z4q gE
 cases e1:z1g s with
 |none=>rfl
 |some x=>
 have hr:rdD s=x:=by unfold rdD;rw [e1];rfl
 rw [hr,Option.bind_some]
 cases e2:sgnS x.2 with
 |none=>rw [if_neg (by simp)];rfl
 |some y=>
 obtain⟨a1,a2⟩:=zcq (h:=y.1) (r:=y.2) e2
 rw [a1,a2,Option.bind_some]
 cases e3:sgnS y.2 with
 |none=>rw [if_neg (by simp)];rfl
 |some z=>
 obtain⟨b1,b2⟩:=zcq (h:=z.1) (r:=z.2) e3
 have e0:(some x).isSome=true/\ (some y).isSome=true/\ (some z).isSome=true:=⟨rfl,rfl,rfl⟩
 rw [b1,b2,Option.bind_some,if_pos e0]
 by_cases k1:x.1=1
 ·rw [if_pos k1,if_pos k1,Option.bind_some]
 ·rw [if_neg k1,if_neg k1]
  by_cases k2:x.1=2
  ·rw [if_pos k2,if_pos k2]
   cases e4:unS z.2 with
   |none=>rw [if_neg (by simp)];rfl
   |some u=>
   have hu:unD z.2=u:=by unfold unD;rw [e4];rfl
   rw [Option.bind_some,hu]
   cases e5:unsS u.2 with
   |none=>rw [if_neg (by simp)];rfl
   |some v=>
   have hv:unsD u.2=v:=by unfold unsD;rw [e5];rfl
   rw [Option.map_some,Option.bind_some,hv]
   by_cases hc:v.2=[]/\ mayB ⟨2,y.1,z.1,u.1,v.1⟩=true
   ·rw [if_pos hc,if_pos ⟨rfl,rfl,hc⟩]
   ·rw [if_neg hc,if_neg (fun h=>hc h.2.2)]
  ·rw [if_neg k2,if_neg k2];rfl
theorem rl3{n:Nat}(h:Hdr)(s:List UInt8)(b:Bool):RL n (.tup [.agg (sgX h (zu 32 (hr h.p))),.str s,.bool b]):=by
 simp only [RL,RLs]
 exact⟨z73 (z4e (z25 _)),trivial,trivial,trivial⟩
theorem rlN{n:Nat}:RL n .nilsl:=by simp [RL]
theorem rlI{n:Nat}{k:IntKind}{i:Int}:RL n (.int k i):=by simp [RL]
attribute [local irreducible] ACallsTo ACallsP
theorem zly(O:Store)(s:List UInt8)(hs:s.length<1000000000):ACallsTo TC 52 [.str s] O (.tup [sgV (z2z (cutD s).1),.str (cutD s).2,.bool (sgnS s).isSome]) O:=by
 have hC:=fun O=>zdo O s hs
 have hG:=fun O=>Get_to O (cutD s).1 (by have:=(z7m s).1;omega)
 have hn:∀i:Int,(cutS s).isSome=false->(getH (cutD s).1).isSome=false:=fun _ h=>by
  unfold cutD
  cases e:cutS s with
  |none=>rfl
  |some x=>rw [e]at h;cases h
 rw [stV_D]at hC
 rw [zit]at hG
 rw [sgnS_D]
 generalize (cutS s).isSome=b at*
 generalize (getH (cutD s).1).isSome=c at*
 generalize (cutD s).1=t at*
 generalize (cutD s).2=u at*
 unfold sgV at*
 generalize z2z t=h at*
 have hsl:=zi h (zu 32 (hr h.p))
 have hzl:sgZ.length=36:=zi zHd .nilsl
 have hzd:sgZ.drop 36=[]:=z1w zHd .nilsl
 refine ACallsTo.of_body q2fok (by simp) fun hw _=> ?_
 cases b with
 |false=>
  rw [hn 0 rfl]at*
  repeat' (first|apply zs_|apply zb_|apply zc_|apply zt_ rfl|apply zf_ rfl|(apply zd_ rfl<;>intro ht<;>try omega)|((first|apply zr_|apply zk_|apply ze_|apply zq_|(apply callW.mk_pu;(first|exact(fun _=>hC _)|exact(fun _=>hG _)))|(apply callW.za;(first|exact(hC _)|exact(hG _)))|(apply zG<;>intro ht));all_goals try simp (disch:=first|omega|(simp only [lens,z8,zg,lQr,lQm,lQt,lQd,zh,zi,zj,zl];first|done|omega)) only [go_sem,hsl,hzl,hzd,List.append_nil,z1w]))
  exact DownV.pure hw (rl3 _ _ _)
 |true=>
  cases c with
  |false=>
   repeat' (first|apply zs_|apply zb_|apply zc_|apply zt_ rfl|apply zf_ rfl|(apply zd_ rfl<;>intro ht<;>try omega)|((first|apply zr_|apply zk_|apply ze_|apply zq_|(apply callW.mk_pu;(first|exact(fun _=>hC _)|exact(fun _=>hG _)))|(apply callW.za;(first|exact(hC _)|exact(hG _)))|(apply zG<;>intro ht));all_goals try simp (disch:=first|omega|(simp only [lens,z8,zg,lQr,lQm,lQt,lQd,zh,zi,zj,zl];first|done|omega)) only [go_sem,hsl,hzl,hzd,List.append_nil,z1w]))
   exact DownV.pure hw (rl3 _ _ _)
  |true=>
   repeat' (first|apply zs_|apply zb_|apply zc_|apply zt_ rfl|apply zf_ rfl|(apply zd_ rfl<;>intro ht<;>try omega)|((first|apply zr_|apply zk_|apply ze_|apply zq_|(apply callW.mk_pu;(first|exact(fun _=>hC _)|exact(fun _=>hG _)))|(apply callW.za;(first|exact(hC _)|exact(hG _)))|(apply zG<;>intro ht));all_goals try simp (disch:=first|omega|(simp only [lens,z8,zg,lQr,lQm,lQt,lQd,zh,zi,zj,zl];first|done|omega)) only [go_sem,hsl,hzl,hzd,List.append_nil,z1w]))
   exact DownV.pure hw (rl3 _ _ _)
theorem rlE{n:Nat}(e:Ev){x y z w:AV}(hx:RL n x)(hy:RL n y)(hz:RL n z)(hw:RL n w):RL n (.tup [.agg (evX e x y z),w]):=by
 simp only [RL,RLs]
 exact⟨zci e x y z hx hy hz,hw,trivial⟩
theorem rlO{n:Nat}{w:AV}(hw:RL n w):RL n (.tup [.agg evO,w]):=rlE evZ0 rlN rlN rlN hw
theorem zn4(O:Store)(s:List UInt8)(hs:s.length<1000000000):ACallsTo TC 15 [.str s] O (z6q (getE s)) O:=by
 have l1:=zki s
 have l2:=(z7m (rdD s).2).2
 have l3:=(z7m (cutD (rdD s).2).2).2
 have l4:=zmh (cutD (cutD (rdD s).2).2).2
 have hR:=fun O=>z8e O s hs
 have hA:=fun O=>zly O (rdD s).2 (by omega)
 have hB:=fun O=>zly O (cutD (rdD s).2).2 (by omega)
 have hU:=fun O=>z8f O (cutD (cutD (rdD s).2).2).2 (by omega)
 have hUs:=fun O=>zdp O (unD (cutD (cutD (rdD s).2).2).2).2 (by omega)
 have hlt:=zkj s
 simp only [rdV_D,unV_D,zmn]at hR hU hUs
 rw [getE_D]
 clear l1 l2 l3 l4
 generalize (z1g s).isSome=b1 at*
 generalize (rdD s).1=n at*
 generalize (rdD s).2=t1 at*
 generalize (sgnS t1).isSome=b2 at*
 generalize z2z (cutD t1).1=A at*
 generalize (cutD t1).2=t2 at*
 generalize (sgnS t2).isSome=b3 at*
 generalize z2z (cutD t2).1=B at*
 generalize (cutD t2).2=t3 at*
 generalize (unS t3).isSome=b4 at*
 generalize (unD t3).1=r at*
 generalize (unD t3).2=t4 at*
 generalize (unsS t4).isSome=b5 at*
 generalize (unsD t4).1=p at*
 generalize (unsD t4).2=u at*
 unfold sgV at*
 have hS1:=fun t=>zfm (O++t) ⟨1,A,B,zeroH,[]⟩ (zu 32 (hr A.p)) (zu 32 (hr B.p)) .nilsl z43 z43 (.of (.inl ⟨rfl,rfl⟩))
 have hS2:=fun t=>zfm (O++t) ⟨2,A,B,r,p⟩ (zu 32 (hr A.p)) (zu 32 (hr B.p)) (zu 32 (hr p)) z43 z43 z43
 have rA:∀k,RL k (zu 32 (hr A.p)):=fun k=>z4e (z25 _)
 have rB:∀k,RL k (zu 32 (hr B.p)):=fun k=>z4e (z25 _)
 have rP:∀k,RL k (zu 32 (hr p)):=fun k=>z4e (z25 _)
 have cP:cellsOf (zu 32 (hr p))=some [zu 32 (hr p)]:=zaf
 have hv1:z6q (some ⟨1,A,B,zeroH,[]⟩)=.tup [.agg (evX ⟨1,A,B,zeroH,[]⟩ (zu 32 (hr A.p)) (zu 32 (hr B.p)) .nilsl),.int .i64 0]:=rfl
 have hv2:z6q (some ⟨2,A,B,r,p⟩)=.tup [.agg (evX ⟨2,A,B,r,p⟩ (zu 32 (hr A.p)) (zu 32 (hr B.p)) (zu 32 (hr p))),.int .i64 0]:=rfl
 have hv0:z6q none=.tup [.agg evO,.int .i64 10]:=rfl
 have hzl:sgZ.length=36:=zi zHd .nilsl
 have hzd:sgZ.drop 36=[]:=z1w zHd .nilsl
 have pX:∀(e:Ev) (x y z v:AV),(evX e x y z).take 105++ [v]=evX e x y v:=fun e x y z v=>by have:=z9z e x y z v;rwa [z1p]at this
 have hO:evO=evX ⟨0,zHd,zHd,zeroH,[]⟩ .nilsl .nilsl .nilsl:=rfl
 unfold cellsOf at cP
 generalize zu 32 (hr A.p)=xA at*
 generalize zu 32 (hr B.p)=xB at*
 generalize zu 32 (hr p)=xP at*
 unfold gE
 refine ACallsTo.of_body q2aok (by simp) fun hw _=> ?_
 cases b1 with
 |false=>
  rw [if_neg (by simp),hv0]
  repeat' (first|apply zs_|apply zb_|apply zc_|apply zt_ rfl|apply zf_ rfl|(apply zd_ rfl<;>intro ht<;>try omega)|((first|apply zr_|apply zk_|apply ze_|apply zq_|(apply callW.mk_pu;(first|exact(fun _=>hR _)|exact(fun _=>hA _)|exact(fun _=>hB _)))|(apply callW.za;(first|exact(hR _)|exact(hA _)|exact(hB _)))|(apply zG<;>intro ht));all_goals try simp (disch:=first|omega|(simp only [lens,z8,zg,lQr,lQm,lQt,lQd,zh,zi,zj,zl];first|done|omega)) only [go_sem,hzl,hzd,zi,zj,zl,z1p,List.append_nil,z1w]))
  exact DownV.pure hw (rlO rlI)
 |true=>
 cases b2 with
 |false=>
  rw [if_neg (by simp),hv0]
  repeat' (first|apply zs_|apply zb_|apply zc_|apply zt_ rfl|apply zf_ rfl|(apply zd_ rfl<;>intro ht<;>try omega)|((first|apply zr_|apply zk_|apply ze_|apply zq_|(apply callW.mk_pu;(first|exact(fun _=>hR _)|exact(fun _=>hA _)|exact(fun _=>hB _)))|(apply callW.za;(first|exact(hR _)|exact(hA _)|exact(hB _)))|(apply zG<;>intro ht));all_goals try simp (disch:=first|omega|(simp only [lens,z8,zg,lQr,lQm,lQt,lQd,zh,zi,zj,zl];first|done|omega)) only [go_sem,hzl,hzd,zi,zj,zl,z1p,List.append_nil,z1w]))
  exact DownV.pure hw (rlO rlI)
 |true=>
 cases b3 with
 |false=>
  rw [if_neg (by simp),hv0]
  repeat' (first|apply zs_|apply zb_|apply zc_|apply zt_ rfl|apply zf_ rfl|(apply zd_ rfl<;>intro ht<;>try omega)|((first|apply zr_|apply zk_|apply ze_|apply zq_|(apply callW.mk_pu;(first|exact(fun _=>hR _)|exact(fun _=>hA _)|exact(fun _=>hB _)))|(apply callW.za;(first|exact(hR _)|exact(hA _)|exact(hB _)))|(apply zG<;>intro ht));all_goals try simp (disch:=first|omega|(simp only [lens,z8,zg,lQr,lQm,lQt,lQd,zh,zi,zj,zl];first|done|omega)) only [go_sem,hzl,hzd,zi,zj,zl,z1p,List.append_nil,z1w]))
  exact DownV.pure hw (rlO rlI)
 |true=>
 rw [if_pos ⟨rfl,rfl,rfl⟩]
 by_cases n1:n=1
 ·have e1:(n:Int)=1:=by omega
  rw [if_pos n1]
  by_cases h3:t3=[]
  ·subst h3
   generalize mayB ⟨1,A,B,zeroH,[]⟩=m1 at*
   cases m1 with
   |false=>
    rw [if_neg (by simp),hv0]
    repeat' (first|apply zs_|apply zb_|apply zc_|apply zt_ rfl|apply zf_ rfl|(apply zd_ rfl<;>intro ht<;>try omega)|((first|apply zr_|apply zk_|apply ze_|apply zq_|(apply callW.mk_pu;(first|exact(fun _=>hR _)|exact(fun _=>hA _)|exact(fun _=>hB _)|exact(fun _=>hS1 _)))|(apply callW.za;(first|exact(hR _)|exact(hA _)|exact(hB _)|exact(hS1 _)))|(apply zG<;>intro ht));all_goals try simp (disch:=first|omega|(simp only [lens,z8,zg,lQr,lQm,lQt,lQd,zh,zi,zj,zl];first|done|omega)) only [go_sem,hzl,hzd,zi,zj,zl,z1p,List.append_nil,z1w,e1,pX,hO]))
    exact DownV.pure hw (rlO rlI)
   |true=>
    rw [if_pos ⟨rfl,rfl⟩,hv1]
    repeat' (first|apply zs_|apply zb_|apply zc_|apply zt_ rfl|apply zf_ rfl|(apply zd_ rfl<;>intro ht<;>try omega)|((first|apply zr_|apply zk_|apply ze_|apply zq_|(apply callW.mk_pu;(first|exact(fun _=>hR _)|exact(fun _=>hA _)|exact(fun _=>hB _)|exact(fun _=>hS1 _)))|(apply callW.za;(first|exact(hR _)|exact(hA _)|exact(hB _)|exact(hS1 _)))|(apply zG<;>intro ht));all_goals try simp (disch:=first|omega|(simp only [lens,z8,zg,lQr,lQm,lQt,lQd,zh,zi,zj,zl];first|done|omega)) only [go_sem,hzl,hzd,zi,zj,zl,z1p,List.append_nil,z1w,e1,pX,hO]))
    exact DownV.pure hw (rlE _ (rA _) (rB _) rlN rlI)
  ·rw [if_neg (fun h=>h3 h.1),hv0]
   have h3':(t3==[])=false:=by simpa using h3
   repeat' (first|apply zs_|apply zb_|apply zc_|apply zt_ rfl|apply zf_ rfl|(apply zd_ rfl<;>intro ht<;>try omega)|((first|apply zr_|apply zk_|apply ze_|apply zq_|(apply callW.mk_pu;(first|exact(fun _=>hR _)|exact(fun _=>hA _)|exact(fun _=>hB _)))|(apply callW.za;(first|exact(hR _)|exact(hA _)|exact(hB _)))|(apply zG<;>intro ht));all_goals try simp (disch:=first|omega|(simp only [lens,z8,zg,lQr,lQm,lQt,lQd,zh,zi,zj,zl];first|done|omega)) only [go_sem,hzl,hzd,zi,zj,zl,z1p,List.append_nil,z1w,e1,pX,hO,h3,h3']))
   exact DownV.pure hw (rlO rlI)
 ·rw [if_neg n1]
  have n1':¬(n:Int)=1:=by omega
  by_cases n2:n=2
  ·have e1:(n:Int)=2:=by omega
   rw [if_pos n2]
   generalize mayB ⟨2,A,B,r,p⟩=m2 at*
   cases b4 with
   |false=>
    rw [if_neg (by simp),hv0]
    repeat' (first|apply zs_|apply zb_|apply zc_|apply zt_ rfl|apply zf_ rfl|(apply zd_ rfl<;>intro ht<;>try omega)|((first|apply zr_|apply zk_|apply ze_|apply zq_|(apply callW.mk_pu;(first|exact(fun _=>hR _)|exact(fun _=>hA _)|exact(fun _=>hB _)|exact(fun _=>hU _)|exact(fun _=>hUs _)))|(apply callW.za;(first|exact(hR _)|exact(hA _)|exact(hB _)|exact(hU _)|exact(hUs _)))|(apply zG<;>intro ht));all_goals try simp (disch:=first|omega|(simp only [lens,z8,zg,lQr,lQm,lQt,lQd,zh,zi,zj,zl];first|done|omega)) only [go_sem,hzl,hzd,zi,zj,zl,z1p,List.append_nil,z1w,e1,pX,hO,cP]))
    exact DownV.pure hw (rlO rlI)
   |true=>
   cases b5 with
   |false=>
    rw [if_neg (by simp),hv0]
    repeat' (first|apply zs_|apply zb_|apply zc_|apply zt_ rfl|apply zf_ rfl|(apply zd_ rfl<;>intro ht<;>try omega)|((first|apply zr_|apply zk_|apply ze_|apply zq_|(apply callW.mk_pu;(first|exact(fun _=>hR _)|exact(fun _=>hA _)|exact(fun _=>hB _)|exact(fun _=>hU _)|exact(fun _=>hUs _)))|(apply callW.za;(first|exact(hR _)|exact(hA _)|exact(hB _)|exact(hU _)|exact(hUs _)))|(apply zG<;>intro ht));all_goals try simp (disch:=first|omega|(simp only [lens,z8,zg,lQr,lQm,lQt,lQd,zh,zi,zj,zl];first|done|omega)) only [go_sem,hzl,hzd,zi,zj,zl,z1p,List.append_nil,z1w,e1,pX,hO,cP]))
    exact DownV.pure hw (rlO rlI)
   |true=>
   by_cases h3:u=[]
   ·subst h3
    cases m2 with
    |false=>
     rw [if_neg (by simp),hv0]
     repeat' (first|apply zs_|apply zb_|apply zc_|apply zt_ rfl|apply zf_ rfl|(apply zd_ rfl<;>intro ht<;>try omega)|((first|apply zr_|apply zk_|apply ze_|apply zq_|(apply callW.mk_pu;(first|exact(fun _=>hR _)|exact(fun _=>hA _)|exact(fun _=>hB _)|exact(fun _=>hU _)|exact(fun _=>hUs _)|exact(fun _=>hS2 _)))|(apply callW.za;(first|exact(hR _)|exact(hA _)|exact(hB _)|exact(hU _)|exact(hUs _)|exact(hS2 _)))|(apply zG<;>intro ht));all_goals try simp (disch:=first|omega|(simp only [lens,z8,zg,lQr,lQm,lQt,lQd,zh,zi,zj,zl];first|done|omega)) only [go_sem,hzl,hzd,zi,zj,zl,z1p,List.append_nil,z1w,e1,pX,hO,cP]))
     exact DownV.pure hw (rlO rlI)
    |true=>
     rw [if_pos ⟨rfl,rfl,rfl,rfl⟩,hv2]
     repeat' (first|apply zs_|apply zb_|apply zc_|apply zt_ rfl|apply zf_ rfl|(apply zd_ rfl<;>intro ht<;>try omega)|((first|apply zr_|apply zk_|apply ze_|apply zq_|(apply callW.mk_pu;(first|exact(fun _=>hR _)|exact(fun _=>hA _)|exact(fun _=>hB _)|exact(fun _=>hU _)|exact(fun _=>hUs _)|exact(fun _=>hS2 _)))|(apply callW.za;(first|exact(hR _)|exact(hA _)|exact(hB _)|exact(hU _)|exact(hUs _)|exact(hS2 _)))|(apply zG<;>intro ht));all_goals try simp (disch:=first|omega|(simp only [lens,z8,zg,lQr,lQm,lQt,lQd,zh,zi,zj,zl];first|done|omega)) only [go_sem,hzl,hzd,zi,zj,zl,z1p,List.append_nil,z1w,e1,pX,hO,cP]))
     exact DownV.pure hw (rlE _ (rA _) (rB _) (rP _) rlI)
   ·rw [if_neg (fun h=>h3 h.2.2.1),hv0]
    have h3':(u==[])=false:=by simpa using h3
    repeat' (first|apply zs_|apply zb_|apply zc_|apply zt_ rfl|apply zf_ rfl|(apply zd_ rfl<;>intro ht<;>try omega)|((first|apply zr_|apply zk_|apply ze_|apply zq_|(apply callW.mk_pu;(first|exact(fun _=>hR _)|exact(fun _=>hA _)|exact(fun _=>hB _)|exact(fun _=>hU _)|exact(fun _=>hUs _)))|(apply callW.za;(first|exact(hR _)|exact(hA _)|exact(hB _)|exact(hU _)|exact(hUs _)))|(apply zG<;>intro ht));all_goals try simp (disch:=first|omega|(simp only [lens,z8,zg,lQr,lQm,lQt,lQd,zh,zi,zj,zl];first|done|omega)) only [go_sem,hzl,hzd,zi,zj,zl,z1p,List.append_nil,z1w,e1,pX,hO,cP,h3,h3']))
    exact DownV.pure hw (rlO rlI)
  ·rw [if_neg n2,hv0]
   have n2':¬(n:Int)=2:=by omega
   repeat' (first|apply zs_|apply zb_|apply zc_|apply zt_ rfl|apply zf_ rfl|(apply zd_ rfl<;>intro ht<;>try omega)|((first|apply zr_|apply zk_|apply ze_|apply zq_|(apply callW.mk_pu;(first|exact(fun _=>hR _)|exact(fun _=>hA _)|exact(fun _=>hB _)))|(apply callW.za;(first|exact(hR _)|exact(hA _)|exact(hB _)))|(apply zG<;>intro ht));all_goals try simp (disch:=first|omega|(simp only [lens,z8,zg,lQr,lQm,lQt,lQd,zh,zi,zj,zl];first|done|omega)) only [go_sem,hzl,hzd,zi,zj,zl,z1p,List.append_nil,z1w,n1',n2']))
   exact DownV.pure hw (rlO rlI)
end
section
abbrev HV:=Hdr × AV
def hrw(P:List HV):List (List AV):=P.map fun p=>sgX p.1 p.2
theorem z13(P:List HV):(hrw P).length=P.length:=by simp [hrw]
theorem zbu{P:List HV}{i:Nat}(h:i<P.length):(hrw P)[i]? =some (sgX P[i].1 P[i].2):=by
 simp [hrw,List.getElem?_eq_getElem h]
theorem zqw(P:List HV)(i:Nat):(hrw P).drop i=hrw (P.drop i):=by simp [hrw,List.map_drop]
theorem zqx(P:List HV):(hrw P).take P.length=hrw P:=List.take_of_length_le (by rw [z13];exact Nat.le_refl _)
def HOk(P:List HV):Prop:=∀p ∈ P,SlV 32 (hr p.1.p) p.2
theorem HOk.drop{P:List HV}(h:HOk P)(i:Nat):HOk (P.drop i):=fun p hp=>h p (List.mem_of_mem_drop hp)
theorem HOk.at{P:List HV}(h:HOk P){i:Nat}(hi:i<P.length):SlV 32 (hr P[i].1.p) P[i].2:=h _ (List.getElem_mem hi)
def z3q(a b:HV):Bool:=valH a.1 && valH b.1 && decide (ordI a.1.n b.1.n a.1.r b.1.r=3)
def z2y:List HV->Option (HV × HV)
 | []=>none
 |p::P=>match P.find? (z3q p)with
  |some q=>some (p,q)
  |none=>z2y P
theorem zq5{P:List HV}{i:Nat}(hi:i<P.length):z2y (P.drop i)=match (P.drop (i+1)).find? (z3q P[i])with|some q=>some (P[i],q)|none=>z2y (P.drop (i+1)):=by
 rw [List.drop_eq_getElem_cons hi];rfl
theorem zq6{P:List HV}:z2y (P.drop P.length)=none:=by rw [List.drop_length];rfl
theorem zij{P:List HV}{f:HV->Bool}{j:Nat}(hj:j<P.length):(P.drop j).find? f=if f P[j]=true then some P[j]else(P.drop (j+1)).find? f:=by
 rw [List.drop_eq_getElem_cons hj,List.find?_cons]
 cases f P[j]<;>rfl
def ze7:Option (HV × HV)->AV
 |none=> .tup [.agg evO,.bool false]
 |some (p,q)=> .tup [.agg (evX ⟨1,p.1,q.1,zeroH,[]⟩ p.2 q.2 .nilsl),.bool true]
theorem rlE'{n:Nat}(e:Ev){x y z w:AV}(hx:RL n x)(hy:RL n y)(hz:RL n z)(hw:RL n w):RL n (.tup [.agg (evX e x y z),w]):=by
 simp only [RL,RLs]
 exact⟨zci e x y z hx hy hz,hw,trivial⟩
attribute [local irreducible] ACallsTo ACallsP
theorem zk6(O:Store)(e:Ev)(x y z:AV)(hx:SlV 32 (hr e.a.p) x)(hy:SlV 32 (hr e.b.p) y)(hz:RL O.length z)(ha:e.a.p ≠ [])(hb:e.b.p ≠ [])(hla:e.a.p.length<1000000)(hlb:e.b.p.length<1000000):
  ACallsTo TC 84 [.agg (evX e x y z)] O (.agg (evX e (zu 32 (hr e.a.p)) (zu 32 (hr e.b.p)) z)) O:=by
 have h1:=fun O=>zgi O e.a.p x (.of hx) hla
 have h2:=fun O=>zgi O e.b.p y (.of hy) hlb
 have ne:∀(l:List Hash) (v:AV),l ≠ []->SlV 32 (hr l) v->v ≠ .nilsl:=by
  rintro l v h0 (⟨_,h⟩| ⟨ex,rfl⟩)
  ·exact absurd (hr_nil_iff.1 h) h0
  ·exact nofun
 have e0:∀l:List Hash,l ≠ []->zu 32 (hr l)=.vsl 32 (hr l) false:=fun l h0=>by unfold zu;rw [if_neg fun e=>h0 (hr_nil_iff.1 e)]
 rw [zed (ne _ _ ha hx)]at h1
 rw [zed (ne _ _ hb hy)]at h2
 rw [e0 _ ha,e0 _ hb]
 have hel:=zj e (.vsl 32 (hr e.a.p) false) (.vsl 32 (hr e.b.p) false) z
 have hO6:evO.drop 106=[]:=z1p _ _ _ _
 refine ACallsTo.of_body q2hok (by simp) fun hw _=> ?_
 repeat' (first|apply zs_|apply zb_|apply zc_|apply zt_ rfl|apply zf_ rfl|(apply zd_ rfl<;>intro ht<;>try omega)|((first|apply zr_|apply zk_|apply ze_|apply zq_|(apply callW.mk_pu;(first|exact(fun _=>h1 _)|exact(fun _=>h2 _)))|(apply callW.za;(first|exact(h1 _)|exact(h2 _)))|(apply zG<;>intro ht));all_goals try simp (disch:=first|omega|(simp only [lens,z8,zg,lQr,lQm,lQt,lQd,zh,zi,zj,zl,z13];first|done|omega)) only [go_sem,hel,hO6,List.append_nil]))
 have rv:∀(l:List Hash) (b:Bool),RL O.length (.vsl 32 (hr l) b):=fun l b=>by simp only [RL];exact z25 l
 have hev:RL O.length (.agg (evX e (.vsl 32 (hr e.a.p) false) (.vsl 32 (hr e.b.p) false) z)):=by
  simp only [RL]
  exact zci e _ _ _ (rv _ _) (rv _ _) hz
 exact DownV.pure hw hev
theorem zq7(O:Store)(P:List HV)(v:AV)(hv:SlV 36 (hrw P) v)(hP:HOk P)(hl:P.length<1000000):ACallsTo TC 83 [v] O (ze7 (z2y P)) O:=by
 have r1:=hv.len
 rw [z13]at r1
 unfold z1k at r1
 refine ACallsTo.of_body q2gok (by simp) fun hw _=> ?_
 repeat' (first|apply zs_|apply zb_|apply zc_|apply zt_ rfl|apply zf_ rfl|(apply zd_ rfl<;>intro ht<;>try omega)|((first|apply zr_|apply zk_|apply ze_|apply zq_|(apply zG<;>intro ht));all_goals try simp (disch:=first|omega|(simp only [lens,z8,zg,lQr,lQm,lQt,lQd,zh,zi,zj,zl,z13];first|done|omega)) only [go_sem,r1]))
 refine zW.loop (fun m J O'=>∃(i:Nat) (y:Store),m+i=P.length/\ O'=O++(some [evO]::y)/\ z2y P=z2y (P.drop i)/\ J 0=v/\ J 2=.ptr O.length 0 0/\ J 8=v/\ J 9=.int .i64 P.length/\ J 10=.int .i64 i) P.length ?_ ?_
 ·exact⟨0,[],by omega,rfl,rfl,by simp (disch:=first|omega|(simp only [lens,z8,zg,lQr,lQm,lQt,lQd,zh,zi,zj,zl,z13];first|done|omega)) only [go_sem],by simp (disch:=first|omega|(simp only [lens,z8,zg,lQr,lQm,lQt,lQd,zh,zi,zj,zl,z13];first|done|omega)) only [go_sem],by simp (disch:=first|omega|(simp only [lens,z8,zg,lQr,lQm,lQt,lQd,zh,zi,zj,zl,z13];first|done|omega)) only [go_sem],by simp (disch:=first|omega|(simp only [lens,z8,zg,lQr,lQm,lQt,lQd,zh,zi,zj,zl,z13];first|done|omega)) only [go_sem],by simp (disch:=first|omega|(simp only [lens,z8,zg,lQr,lQm,lQt,lQd,zh,zi,zj,zl,z13];first|done|omega)) only [go_sem];rfl⟩
 ·rintro m J O' ⟨i,y,hm,rfl,hF,q0,q2,q8,q9,q10⟩
  by_cases hi:i<P.length
  ·have hi':(i:Int)<P.length:=by omega
   obtain⟨ex,rfl⟩:=hv.vsl (by rw [z13];omega)
   have hgi:=zbu hi
   have hp:=hP.at hi
   have hst:=zq5 hi
   have hdr:=zqw P (i+1)
   have htk:=zqx P
   have hpl:=z13 P
   have hPD:=hP.drop (i+1)
   have hDl:(P.drop (i+1)).length=P.length-(i+1):=List.length_drop
   have hDe:z2y (P.drop (i+1))=z2y (P.drop (i+1)):=rfl
   generalize hDD:P.drop (i+1)=D at hdr hPD hDl hst
   rw [hst]at hF
   generalize P[i]=p at*
   have hi1:((i:Int)+1).toNat=i+1:=by omega
   have hsl:=zi p.1 p.2
   have hzl:sgZ.length=36:=zi zHd .nilsl
   have hzd:sgZ.drop 36=[]:=z1w zHd .nilsl
   have hdl:=z13 D
   have hVa:=fun O=>z4x O p.1.n p.1.i p.1.r p.1.s p.1.p p.2 (.of hp)
   repeat' (first|apply zs_|apply zb_|apply zc_|apply zt_ rfl|apply zf_ rfl|(apply zd_ rfl<;>intro ht<;>try omega)|((first|apply zr_|apply zk_|apply ze_|apply zq_|(apply zG<;>intro ht));all_goals try simp (disch:=first|omega|(simp only [lens,z8,zg,lQr,lQm,lQt,lQd,zh,zi,zj,zl,z13];first|done|omega)) only [go_sem,q0,q2,q8,q9,q10,hi',hgi,htk,hdr,hpl,hi1,hsl,hzl,hzd,hdl]))
   have hO:evO=evX ⟨0,zHd,zHd,zeroH,[]⟩ .nilsl .nilsl .nilsl:=rfl
   have hel:=fun e x y z=>zj e x y z
   have hO6:=fun e x y z=>z1p e x y z
   refine zW.loop (fun m J O'=>∃(j:Nat) (y':Store),m+j=D.length/\ O'=O++(some [evO]::(y++(some [sgX p.1 p.2]::y')))/\ D.find? (z3q p)=(D.drop j).find? (z3q p)/\ J 0=.vsl 36 (hrw P) ex/\ J 2=.ptr O.length 0 0/\ J 5=.ptr (O.length+(y.length+1)) 0 0/\ J 8=.vsl 36 (hrw P) ex/\ J 9=.int .i64 P.length/\ J 10=.int .i64 i/\ J 18=.vsl 36 (hrw D) ex/\ J 19=.int .i64 D.length/\ J 20=.int .i64 j) D.length ?_ ?_
   ·exact⟨0,[],by omega,rfl,rfl,by simp (disch:=first|omega|(simp only [lens,z8,zg,lQr,lQm,lQt,lQd,zh,zi,zj,zl,z13];first|done|omega)) only [go_sem,q0],by simp (disch:=first|omega|(simp only [lens,z8,zg,lQr,lQm,lQt,lQd,zh,zi,zj,zl,z13];first|done|omega)) only [go_sem,q2],by simp (disch:=first|omega|(simp only [lens,z8,zg,lQr,lQm,lQt,lQd,zh,zi,zj,zl,z13];first|done|omega)) only [go_sem],by simp (disch:=first|omega|(simp only [lens,z8,zg,lQr,lQm,lQt,lQd,zh,zi,zj,zl,z13];first|done|omega)) only [go_sem,q8],by simp (disch:=first|omega|(simp only [lens,z8,zg,lQr,lQm,lQt,lQd,zh,zi,zj,zl,z13];first|done|omega)) only [go_sem,q9],by simp (disch:=first|omega|(simp only [lens,z8,zg,lQr,lQm,lQt,lQd,zh,zi,zj,zl,z13];first|done|omega)) only [go_sem,q10],by simp (disch:=first|omega|(simp only [lens,z8,zg,lQr,lQm,lQt,lQd,zh,zi,zj,zl,z13];first|done|omega)) only [go_sem],by simp (disch:=first|omega|(simp only [lens,z8,zg,lQr,lQm,lQt,lQd,zh,zi,zj,zl,z13];first|done|omega)) only [go_sem],by simp (disch:=first|omega|(simp only [lens,z8,zg,lQr,lQm,lQt,lQd,zh,zi,zj,zl,z13];first|done|omega)) only [go_sem];rfl⟩
   ·rintro m2 J2 O2 ⟨j,y2,hm2,rfl,hF2,s0,s2,s5,s8,s9,s10,s18,s19,s20⟩
    by_cases hj:j<D.length
    ·have hj':(j:Int)<D.length:=by omega
     have hgj:=zbu hj
     have hq:=hPD.at hj
     have hfd:=zij (f:=z3q p) hj
     rw [hfd]at hF2
     generalize D[j]=q at*
     have hsq:=zi q.1 q.2
     have hVb:=fun O=>z4x O q.1.n q.1.i q.1.r q.1.s q.1.p q.2 (.of hq)
     have hOr:=fun O=>zgp O p.1.n q.1.n p.1.r q.1.r
     by_cases hb:z3q p q=true
     ·rw [if_pos hb]at hF2
      rw [hF2]at hF
      simp only at hF
      rw [hF]
      unfold z3q valH at hb
      simp only [Bool.and_eq_true,decide_eq_true_eq]at hb
      obtain⟨⟨b1,b2⟩,b3⟩:=hb
      rw [b1]at hVa
      rw [b2]at hVb
      rw [b3]at hOr
      repeat' (first|apply zs_|apply zb_|apply zc_|apply zt_ rfl|apply zf_ rfl|(apply zd_ rfl<;>intro ht<;>try omega)|((first|apply zr_|apply zk_|apply ze_|apply zq_|(apply callW.mk_pu;(first|exact(fun _=>hVa _)|exact(fun _=>hVb _)|exact(fun _=>hOr _)))|(apply callW.za;(first|exact(hVa _)|exact(hVb _)|exact(hOr _)))|(apply zG<;>intro ht));all_goals try simp (disch:=first|omega|(simp only [lens,z8,zg,lQr,lQm,lQt,lQd,zh,zi,zj,zl,z13];first|done|omega)) only [go_sem,s0,s2,s5,s8,s9,s10,s18,s19,s20,hj',hgj,hsl,hsq,hzl,hzd,hdl,hpl,hO,hel,hO6,List.append_nil]))
      exact DownV.pure hw (rlE' _ (z95 hp) (z95 hq) (by simp [RL]) (by simp [RL]))
     ·rw [if_neg hb]at hF2
      have hbf:(valH p.1 && valH q.1 && decide (ordI p.1.n q.1.n p.1.r q.1.r=3))=false:=by
       unfold z3q at hb
       simpa using hb
      unfold valH at hbf
      generalize z1i p.1.n p.1.i p.1.s p.1.p=va at*
      generalize z1i q.1.n q.1.i q.1.s q.1.p=vb at*
      generalize ordI p.1.n q.1.n p.1.r q.1.r=o at*
      cases va with
      |false=>
       repeat' (first|apply zs_|apply zb_|apply zc_|apply zt_ rfl|apply zf_ rfl|(apply zd_ rfl<;>intro ht<;>try omega)|((first|apply zr_|apply zk_|apply ze_|apply zq_|(apply callW.mk_pu;(first|exact(fun _=>hVa _)))|(apply callW.za;(first|exact(hVa _)))|(apply zG<;>intro ht));all_goals try simp (disch:=first|omega|(simp only [lens,z8,zg,lQr,lQm,lQt,lQd,zh,zi,zj,zl,z13];first|done|omega)) only [go_sem,s0,s2,s5,s8,s9,s10,s18,s19,s20,hj',hgj,hsl,hsq,hzl,hzd,hdl,hpl,List.append_nil]))
       exact⟨m2-1,by omega,j+1,_,by omega,rfl,hF2,by simp⟩
      |true=>
      cases vb with
      |false=>
       repeat' (first|apply zs_|apply zb_|apply zc_|apply zt_ rfl|apply zf_ rfl|(apply zd_ rfl<;>intro ht<;>try omega)|((first|apply zr_|apply zk_|apply ze_|apply zq_|(apply callW.mk_pu;(first|exact(fun _=>hVa _)|exact(fun _=>hVb _)))|(apply callW.za;(first|exact(hVa _)|exact(hVb _)))|(apply zG<;>intro ht));all_goals try simp (disch:=first|omega|(simp only [lens,z8,zg,lQr,lQm,lQt,lQd,zh,zi,zj,zl,z13];first|done|omega)) only [go_sem,s0,s2,s5,s8,s9,s10,s18,s19,s20,hj',hgj,hsl,hsq,hzl,hzd,hdl,hpl,List.append_nil]))
       exact⟨m2-1,by omega,j+1,_,by omega,rfl,hF2,by simp⟩
      |true=>
       have h3:¬o=3:=by simpa using hbf
       repeat' (first|apply zs_|apply zb_|apply zc_|apply zt_ rfl|apply zf_ rfl|(apply zd_ rfl<;>intro ht<;>try omega)|((first|apply zr_|apply zk_|apply ze_|apply zq_|(apply callW.mk_pu;(first|exact(fun _=>hVa _)|exact(fun _=>hVb _)|exact(fun _=>hOr _)))|(apply callW.za;(first|exact(hVa _)|exact(hVb _)|exact(hOr _)))|(apply zG<;>intro ht));all_goals try simp (disch:=first|omega|(simp only [lens,z8,zg,lQr,lQm,lQt,lQd,zh,zi,zj,zl,z13];first|done|omega)) only [go_sem,s0,s2,s5,s8,s9,s10,s18,s19,s20,hj',hgj,hsl,hsq,hzl,hzd,hdl,hpl,h3,List.append_nil]))
       exact⟨m2-1,by omega,j+1,_,by omega,rfl,hF2,by simp⟩
    ·obtain rfl:j=D.length:=by omega
     rw [List.drop_length]at hF2
     rw [hF2]at hF
     have hF':z2y P=z2y D:=hF
     repeat' (first|apply zs_|apply zb_|apply zc_|apply zt_ rfl|apply zf_ rfl|(apply zd_ rfl<;>intro ht<;>try omega)|((first|apply zr_|apply zk_|apply ze_|apply zq_|(apply zG<;>intro ht));all_goals try simp (disch:=first|omega|(simp only [lens,z8,zg,lQr,lQm,lQt,lQd,zh,zi,zj,zl,z13];first|done|omega)) only [go_sem,s0,s2,s5,s8,s9,s10,s18,s19,s20,hdl,hpl]))
     exact⟨m-1,by omega,i+1,_,by omega,rfl,by rw [hDD];exact hF',by simp⟩
  ·obtain rfl:i=P.length:=by omega
   rw [zq6]at hF
   rw [hF]
   have hO6:evO.drop 106=[]:=z1p _ _ _ _
   repeat' (first|apply zs_|apply zb_|apply zc_|apply zt_ rfl|apply zf_ rfl|(apply zd_ rfl<;>intro ht<;>try omega)|((first|apply zr_|apply zk_|apply ze_|apply zq_|(apply zG<;>intro ht));all_goals try simp (disch:=first|omega|(simp only [lens,z8,zg,lQr,lQm,lQt,lQd,zh,zi,zj,zl,z13];first|done|omega)) only [go_sem,q0,q2,q8,q9,q10,zl,hO6,List.append_nil]))
   exact DownV.pure hw (rlE' evZ0 (by simp [RL]) (by simp [RL]) (by simp [RL]) (by simp [RL]))
end
section
def z9m(L:List Hash)(o:Option HV)(p:HV):Bool:=valH p.1 && decide (p.1.n<=L.length) && (match o with|none=>true|some w=>decide (w.1.n<p.1.n)) && decide (z1e (L.take p.1.n.toNat)=p.1.r)
def z3y(L:List Hash)(o:Option HV)(p:HV):Option HV:=if z9m L o p=true then some p else o
def zbb(L:List Hash)(P:List HV):Option HV:=P.foldl (z3y L) none
theorem znu{L:List Hash}{P:List HV}{i:Nat}(hi:i<P.length):(P.take (i+1)).foldl (z3y L) none=z3y L ((P.take i).foldl (z3y L) none) P[i]:=by
 rw [List.take_succ_eq_append_getElem hi,List.foldl_append];rfl
def oC:Option HV->List AV
 |none=>sgZ
 |some p=>sgX p.1 p.2
theorem zc5(o:Option HV):(oC o).length=36:=by cases o<;>exact zh _ _ _ _ _
def zbc(o:Option HV):AV:=.tup [.agg (oC o),.bool o.isSome]
theorem zd4{h:Hdr}(hv:valH h=true):0<=h.n/\ h.n<=4096/\ h.p.length=3:=by
 obtain⟨N,I,e1,e2,b1,b2,b3,b4⟩:=z99 hv
 omega
def splB(L:List Hash)(w p:HV):Bool:=valH p.1 && decide (p.1.n<w.1.n) && decide (z1e (L.take p.1.n.toNat) ≠ p.1.r)
def za0(L:List Hash)(P:List HV):Option (Ev × AV × AV):=
 match z2y P with
 |some (p,q)=>some (⟨1,p.1,q.1,zeroH,[]⟩,p.2,q.2)
 |none=>match zbb L P with
  |none=>none
  |some w=>match P.find? (splB L w)with
   |none=>none
   |some p=>some (⟨2,p.1,w.1,z1e (L.take p.1.n.toNat),z7v (L.take w.1.n.toNat) p.1.n⟩,p.2,w.2)
def za1:Option (Ev × AV × AV)->AV
 |none=> .tup [.agg evO,.bool false]
 |some x=> .tup [.agg (evL x.1),.bool true]
attribute [local irreducible] ACallsTo ACallsP
theorem ze5(L:List Hash)(n:Nat):(hr L).take n=hr (L.take n):=by simp [hr,List.map_take]
theorem znv (O : Store) (P : List HV) (v w : AV) (L : List Hash) (hv : SlV 36 (hrw P) v) (hP : HOk P) (hl : P.length < 1000000) (hw' : SlV 32 (hr L) w) (hL : L.length < 1000000) :
    ACallsTo TC 85 [v,w] O (zbc (zbb L P)) O:=by
  have r1:=hv.len
  rw [z13]at r1
  unfold z1k at r1
  have r2:=hw'.len
  rw [zg]at r2
  unfold z1k at r2
  have hoz:oC none=sgZ:=rfl
  refine ACallsTo.of_body q2iok (by simp) fun hw _=> ?_
  repeat' (first|apply zs_|apply zb_|apply zc_|apply zt_ rfl|apply zf_ rfl|(apply zd_ rfl<;>intro ht<;>try omega)|((first|apply zr_|apply zk_|apply ze_|apply zq_|(apply zG<;>intro ht));all_goals try simp (disch:=first|omega|(simp only [lens,z8,zg,lQr,lQm,lQt,lQd,zh,zi,zj,zl,z13];first|done|omega)) only [go_sem,r1,r2]))
  refine zW.loop (fun m J O'=>∃(i:Nat) (y:Store) (o:Option HV),m+i=P.length/\ O'=O++(some [sgZ]::some [oC o]::y)/\ o=(P.take i).foldl (z3y L) none/\ (∀k,RLs k (oC o))/\ J 1=w/\ J 4=.ptr O.length 0 0/\ J 6=.ptr (O.length+1) 0 0/\ J 7=.bool o.isSome/\ J 11=v/\ J 12=.int .i64 P.length/\ J 13=.int .i64 i) P.length ?_ ?_
  · exact⟨0,[],none,by omega,rfl,rfl,fun k=>z73 (by simp [RL]),by simp (disch:=first|omega|(simp only [lens,z8,zg,lQr,lQm,lQt,lQd,zh,zi,zj,zl,z13];first|done|omega)) only [go_sem],by simp (disch:=first|omega|(simp only [lens,z8,zg,lQr,lQm,lQt,lQd,zh,zi,zj,zl,z13];first|done|omega)) only [go_sem],by simp (disch:=first|omega|(simp only [lens,z8,zg,lQr,lQm,lQt,lQd,zh,zi,zj,zl,z13];first|done|omega)) only [go_sem],by simp (disch:=first|omega|(simp only [lens,z8,zg,lQr,lQm,lQt,lQd,zh,zi,zj,zl,z13];first|done|omega)) only [go_sem];rfl,by simp (disch:=first|omega|(simp only [lens,z8,zg,lQr,lQm,lQt,lQd,zh,zi,zj,zl,z13];first|done|omega)) only [go_sem],by simp (disch:=first|omega|(simp only [lens,z8,zg,lQr,lQm,lQt,lQd,zh,zi,zj,zl,z13];first|done|omega)) only [go_sem],by simp (disch:=first|omega|(simp only [lens,z8,zg,lQr,lQm,lQt,lQd,zh,zi,zj,zl,z13];first|done|omega)) only [go_sem];rfl⟩
  · rintro m J O' ⟨i,y,o,hm,rfl,hF,hRo,q1,q4,q6,q7,q11,q12,q13⟩
    have hol:=zc5 o
    by_cases hi:i<P.length
    · have hi':(i:Int)<P.length:=by omega
      obtain⟨ex,rfl⟩:=hv.vsl (by rw [z13];omega)
      have hgi:=zbu hi
      have hp:=hP.at hi
      have hst:=znu (L:=L) hi
      rw [<-hF]at hst
      have hpl:=z13 P
      generalize P[i]=p at*
      have hsl:=zi p.1 p.2
      have hzl:sgZ.length=36:=zi zHd .nilsl
      have hzd:sgZ.drop 36=[]:=z1w zHd .nilsl
      have hV:=fun O=>z4x O p.1.n p.1.i p.1.r p.1.s p.1.p p.2 (.of hp)
      have hval:valH p.1=z1i p.1.n p.1.i p.1.s p.1.p:=rfl
      have hvn:= @zd4 p.1
      rw [hval]at hvn
      have keep:z9m L o p=false->(P.take (i+1)).foldl (z3y L) none=o:=fun h=>by rw [hst];unfold z3y;rw [h];rfl
      have new:z9m L o p=true->(P.take (i+1)).foldl (z3y L) none=some p:=fun h=>by rw [hst];unfold z3y;rw [h];rfl
      have hrp:∀k,RLs k (oC (some p)):=fun k=>z73 (z95 hp)
      have hoc:oC (some p)=sgX p.1 p.2:=rfl
      unfold z9m at keep new
      rw [hval]at keep new
      generalize z1i p.1.n p.1.i p.1.s p.1.p=vb at*
      cases vb with
      |false=>
        repeat' (first|apply zs_|apply zb_|apply zc_|apply zt_ rfl|apply zf_ rfl|(apply zd_ rfl<;>intro ht<;>try omega)|((first|apply zr_|apply zk_|apply ze_|apply zq_|(apply callW.mk_pu;(first|exact(fun _=>hV _)))|(apply callW.za;(first|exact(hV _)))|(apply zG<;>intro ht));all_goals try simp (disch:=first|omega|(simp only [lens,z8,zg,lQr,lQm,lQt,lQd,zh,zi,zj,zl,z13];first|done|omega)) only [go_sem,q1,q4,q6,q7,q11,q12,q13,hi',hgi,hpl,hsl,hzl,hzd,List.append_nil,r2,hol]))
        exact⟨m-1,by omega,i+1,_,o,by omega,rfl,(keep (by simp)).symm,hRo,by simp⟩
      |true=>
        obtain⟨n0,n1,_⟩:=hvn rfl
        by_cases c2:p.1.n<=L.length
        · rw [decide_eq_true c2]at keep new
          have hln:(L.take p.1.n.toNat).length<1000000:=by rw [List.length_take];omega
          have hR:=fun O x (hx:SlV 32 (hr (L.take p.1.n.toNat)) x)=>zah O (L.take p.1.n.toNat) x (.of hx) (by omega)
          have fk:=ze5 L p.1.n.toNat
          have hcase:((o=none/\ p.1.n> -1) \/ ∃q,o=some q/\ p.1.n>q.1.n) \/ ∃q,o=some q/\ ¬q.1.n<p.1.n:=by
            cases o with
            |none=>exact .inl (.inl ⟨rfl,by omega⟩)
            | some q => by_cases h : q.1.n < p.1.n
                        · exact .inl (.inr ⟨q,rfl,h⟩)
                        · exact .inr ⟨q,rfl,h⟩
          have nlL:(hr L).length=L.length:=zg L
          rcases hcase with hc| ⟨q,rfl,h3⟩
          · have kb:∀b,(true && true && (match o with|none=>true|some w=>decide (w.1.n<p.1.n)) && b)=b:=by
              intro b
              rcases hc with⟨rfl,_⟩| ⟨q,rfl,h⟩
              · rfl
              · simp;intro h';omega
            rw [kb]at keep new
            clear kb
            generalize z1e (L.take p.1.n.toNat)=R at*
            have hsl2:∃x,SlV 32 (hr (L.take p.1.n.toNat)) x/\ ((w=.nilsl/\ x=.nilsl/\ p.1.n=0/\ L=[]) \/ ∃b b2,w=.vsl 32 (hr L) b/\ x=.vsl 32 (hr (L.take p.1.n.toNat)) b2/\ b2=(b && (p.1.n.toNat==L.length))):=by
              rcases hw' with⟨rfl,h0⟩| ⟨b,rfl⟩
              · have hLn:L=[]:=hr_nil_iff.1 h0
                subst hLn
                exact⟨.nilsl,.inl ⟨rfl,by simp [hr]⟩,.inl ⟨rfl,rfl,by simp at c2;omega,rfl⟩⟩
              · exact⟨_,.inr ⟨_,rfl⟩,.inr ⟨b,_,rfl,rfl,rfl⟩⟩
            obtain⟨x,hx,hcx⟩:=hsl2
            have hR':=fun O=>hR O x hx
            have hq0:∀q:HV,(oC (some q))[0]? =some (.int .i64 q.1.n):=fun q=>rfl
            have hod:∀o,(oC o).drop 36=[]:=fun o=>List.drop_eq_nil_of_le (by rw [zc5];omega)
            by_cases h4:R=p.1.r
            · have n2:=new (decide_eq_true h4)
              rcases hc with⟨rfl,h3⟩| ⟨q,rfl,h3⟩<;>rcases hcx with⟨rfl,rfl,e0,hL0⟩| ⟨b,b2,rfl,rfl,e0⟩
              all_goals
                repeat' (first|apply zs_|apply zb_|apply zc_|apply zt_ rfl|apply zf_ rfl|(apply zd_ rfl<;>intro ht<;>try omega)|((first|apply zr_|apply zk_|apply ze_|apply zq_|(apply callW.mk_pu;(first|exact(fun _=>hV _)|exact(fun _=>hR _ _ (.inr ⟨_,rfl⟩))|exact(fun _=>hR' _)))|(apply callW.za;(first|exact(hV _)|exact(hR _ _ (.inr ⟨_,rfl⟩))|exact(hR' _)))|(apply zG<;>intro ht));all_goals try simp (disch:=first|omega|(simp only [lens,z8,zg,lQr,lQm,lQt,lQd,zh,zi,zj,zl,z13];first|done|omega)) only [go_sem,q1,q4,q6,q7,q11,q12,q13,hi',hgi,hpl,hsl,hzl,hzd,List.append_nil,r2,hol,c2,h3,hq0,h4,fk,Option.isSome_some,Option.isSome_none,nlL,hoc,hod,zc5]))
                exact⟨m-1,by omega,i+1,_,some p,by omega,rfl,n2.symm,hrp,by simp⟩
            · have k2:=keep (decide_eq_false h4)
              rcases hc with⟨rfl,h3⟩| ⟨q,rfl,h3⟩<;>rcases hcx with⟨rfl,rfl,e0,hL0⟩| ⟨b,b2,rfl,rfl,e0⟩
              all_goals
                repeat' (first|apply zs_|apply zb_|apply zc_|apply zt_ rfl|apply zf_ rfl|(apply zd_ rfl<;>intro ht<;>try omega)|((first|apply zr_|apply zk_|apply ze_|apply zq_|(apply callW.mk_pu;(first|exact(fun _=>hV _)|exact(fun _=>hR _ _ (.inr ⟨_,rfl⟩))|exact(fun _=>hR' _)))|(apply callW.za;(first|exact(hV _)|exact(hR _ _ (.inr ⟨_,rfl⟩))|exact(hR' _)))|(apply zG<;>intro ht));all_goals try simp (disch:=first|omega|(simp only [lens,z8,zg,lQr,lQm,lQt,lQd,zh,zi,zj,zl,z13];first|done|omega)) only [go_sem,q1,q4,q6,q7,q11,q12,q13,hi',hgi,hpl,hsl,hzl,hzd,List.append_nil,r2,hol,c2,h3,hq0,h4,fk,Option.isSome_some,Option.isSome_none,nlL,hoc,hod,zc5]))
                exact⟨m-1,by omega,i+1,_,_,by omega,rfl,k2.symm,hRo,by simp⟩
          · have k2:=keep (by simp [h3])
            have h3':¬p.1.n>q.1.n:=h3
            have hq0:(oC (some q))[0]? =some (.int .i64 q.1.n):=rfl
            repeat' (first|apply zs_|apply zb_|apply zc_|apply zt_ rfl|apply zf_ rfl|(apply zd_ rfl<;>intro ht<;>try omega)|((first|apply zr_|apply zk_|apply ze_|apply zq_|(apply callW.mk_pu;(first|exact(fun _=>hV _)))|(apply callW.za;(first|exact(hV _)))|(apply zG<;>intro ht));all_goals try simp (disch:=first|omega|(simp only [lens,z8,zg,lQr,lQm,lQt,lQd,zh,zi,zj,zl,z13];first|done|omega)) only [go_sem,q1,q4,q6,q7,q11,q12,q13,hi',hgi,hpl,hsl,hzl,hzd,List.append_nil,r2,hol,c2,h3',hq0,Option.isSome_some]))
            exact⟨m-1,by omega,i+1,_,some q,by omega,rfl,k2.symm,hRo,by simp⟩
        · repeat' (first|apply zs_|apply zb_|apply zc_|apply zt_ rfl|apply zf_ rfl|(apply zd_ rfl<;>intro ht<;>try omega)|((first|apply zr_|apply zk_|apply ze_|apply zq_|(apply callW.mk_pu;(first|exact(fun _=>hV _)))|(apply callW.za;(first|exact(hV _)))|(apply zG<;>intro ht));all_goals try simp (disch:=first|omega|(simp only [lens,z8,zg,lQr,lQm,lQt,lQd,zh,zi,zj,zl,z13];first|done|omega)) only [go_sem,q1,q4,q6,q7,q11,q12,q13,hi',hgi,hpl,hsl,hzl,hzd,List.append_nil,r2,hol,c2]))
          exact⟨m-1,by omega,i+1,_,o,by omega,rfl,(keep (by simp [c2])).symm,hRo,by simp⟩
    · obtain rfl:i=P.length:=by omega
      rw [List.take_of_length_le (Nat.le_refl _)]at hF
      have hzl:sgZ.length=36:=zi zHd .nilsl
      have hzd:sgZ.drop 36=[]:=z1w zHd .nilsl
      repeat' (first|apply zs_|apply zb_|apply zc_|apply zt_ rfl|apply zf_ rfl|(apply zd_ rfl<;>intro ht<;>try omega)|((first|apply zr_|apply zk_|apply ze_|apply zq_|(apply zG<;>intro ht));all_goals try simp (disch:=first|omega|(simp only [lens,z8,zg,lQr,lQm,lQt,lQd,zh,zi,zj,zl,z13];first|done|omega)) only [go_sem,q1,q4,q6,q7,q11,q12,q13,r2,hol,hzd,List.append_nil]))
      unfold zbc zbb
      rw [<-hF]
      exact DownV.pure hw (by simp only [RL,RLs];exact⟨hRo _,trivial,trivial⟩)
end
section
theorem ziq(s:List UInt8):(z2z s).p.length<1000000:=by
 unfold z2z
 cases h:getH s with
 |none=>exact Nat.zero_lt_succ _
 |some d=>
  obtain⟨_,_,_,_,_,_,_,b⟩:=z99 (zis h).2
  show d.l.length<_
  omega
theorem zwe(s:List UInt8):(unsD s).1.length<1000000:=by
 unfold unsD
 cases h:unsS s with
 |none=>exact Nat.zero_lt_succ _
 |some x=>
  unfold unsS at h
  cases h1:z1g s with
  |none=>rw [h1]at h;simp at h
  |some y=>
   rw [h1]at h
   simp only [Option.bind_some]at h
   split at h
   ·rename_i hc
    simp only [Option.some.injEq]at h
    rw [<-h]
    simp only [Option.getD_some,zbv]
    omega
   ·cases h
attribute [local irreducible] ACallsTo ACallsP
theorem ztz(O:Store)(s:List UInt8)(hs:s.length<1000000000):ACallsTo TC 16 [.str s] O (z6q (getE s)) O:=by
 have l1:=zki s
 have l2:=(z7m (rdD s).2).2
 have l3:=(z7m (cutD (rdD s).2).2).2
 have l4:=zmh (cutD (cutD (rdD s).2).2).2
 have l5:=(z7m (rdD s).2).1
 have l6:=(z7m (cutD (rdD s).2).2).1
 have hR:=fun O=>z8x O s hs
 have hA:=fun O=>zcc O (rdD s).2 (by omega)
 have hB:=fun O=>zcc O (cutD (rdD s).2).2 (by omega)
 have hGa:=fun O=>zkr O (cutD (rdD s).2).1 (by omega)
 have hGb:=fun O=>zkr O (cutD (cutD (rdD s).2).2).1 (by omega)
 have hU:=fun O=>zcd O (cutD (cutD (rdD s).2).2).2 (by omega)
 have hUs:=fun O=>zf7 O (unD (cutD (cutD (rdD s).2).2).2).2 (by omega)
 have hlt:=zkj s
 simp only [rdV_D,unV_D,zmn,stV_D,zqb,zit]at hR hU hUs hA hB hGa hGb
 have hAl:=ziq (cutD (rdD s).2).1
 have hBl:=ziq (cutD (cutD (rdD s).2).2).1
 have hPl:=zwe (unD (cutD (cutD (rdD s).2).2).2).2
 rw [<-zqa]
 unfold ze8 refE
 clear l1 l2 l3 l4 l5 l6
 generalize (z1g s).isSome=b1 at*
 generalize (rdD s).1=n at*
 generalize (rdD s).2=t1 at*
 generalize (cutS t1).isSome=b2 at*
 generalize (cutD t1).1=u1 at*
 generalize z2z u1=A at*
 generalize (getH u1).isSome=c1 at*
 generalize (cutD t1).2=t2 at*
 generalize (cutS t2).isSome=b3 at*
 generalize (cutD t2).1=u2 at*
 generalize z2z u2=B at*
 generalize (getH u2).isSome=c2 at*
 generalize (cutD t2).2=t3 at*
 generalize (unS t3).isSome=b4 at*
 generalize (unD t3).1=r at*
 generalize (unD t3).2=t4 at*
 generalize (unsS t4).isSome=b5 at*
 generalize (unsD t4).1=p at*
 generalize (unsD t4).2=u at*
 unfold sgV at*
 have hK:(n:Int)%256=((n%256:Nat):Int):=by omega
 have hK2:n%256<256:=by omega
 have hn2:n=2->n%256=2:=fun h=>by omega
 generalize n%256=K at*
 have rA:∀k,RL k (zu 32 (hr A.p)):=fun k=>z4e (z25 _)
 have rB:∀k,RL k (zu 32 (hr B.p)):=fun k=>z4e (z25 _)
 have rP:∀k,RL k (zu 32 (hr p)):=fun k=>z4e (z25 _)
 have cP:cellsOf (zu 32 (hr p))=some [zu 32 (hr p)]:=zaf
 have hzl:sgZ.length=36:=zi zHd .nilsl
 have hzd:sgZ.drop 36=[]:=z1w zHd .nilsl
 have pX:∀(e:Ev) (x y z v:AV),(evX e x y z).take 105++ [v]=evX e x y v:=fun e x y z v=>by have:=z9z e x y z v;rwa [z1p]at this
 have hO:evO=evX ⟨0,zHd,zHd,zeroH,[]⟩ .nilsl .nilsl .nilsl:=rfl
 have hv0:z6q none=.tup [.agg evO,.int .i64 10]:=rfl
 have hv1:∀e,z6q (some e)=.tup [.agg (evX e (zu 32 (hr e.a.p)) (zu 32 (hr e.b.p)) (zu 32 (hr e.p))),.int .i64 0]:=fun e=>rfl
 have hP1:=fun O=>zf3 O ⟨K,A,B,zeroH,[]⟩ (zu 32 (hr A.p)) (zu 32 (hr B.p)) .nilsl z43 z43 (.of (.inl ⟨rfl,rfl⟩)) ⟨hAl,hBl,Nat.zero_lt_succ _⟩
 have hP2:=fun O=>zf3 O ⟨K,A,B,r,p⟩ (zu 32 (hr A.p)) (zu 32 (hr B.p)) (zu 32 (hr p)) z43 z43 z43 ⟨hAl,hBl,hPl⟩
 unfold z9y at hP1 hP2
 unfold cellsOf at cP
 refine ACallsTo.of_body q2bok (by simp) fun hw _=> ?_
 by_cases n2:n=2
 ·rw [if_pos n2,if_pos n2]
  have e1:(n:Int)=2:=by omega
  have e2:(2:Int)%256=2:=rfl
  have hKn:(K:Int)=2:=by have:=hn2 n2;omega
  rw [hKn]at hP2 ⊢
  generalize mayB ⟨2,A,B,r,p⟩=mb at*
  generalize z2k ⟨2,A,B,r,p⟩=T at*
  cases mb with
  |false=>
   rw [if_neg (by simp)]at hP2 ⊢
   rw [hv0]
   repeat' (first|apply zs_|apply zb_|apply zc_|apply zt_ rfl|apply zf_ rfl|(apply zd_ rfl<;>intro ht<;>try omega)|((first|apply zr_|apply zk_|apply ze_|apply zq_|(apply callW.mk_pu;(first|exact(fun _=>hR _)|exact(fun _=>hA _)|exact(fun _=>hB _)|exact(fun _=>hGa _)|exact(fun _=>hGb _)|exact(fun _=>hU _)|exact(fun _=>hUs _)|exact(fun _=>hP2 _)))|(apply callW.za;(first|exact(hR _)|exact(hA _)|exact(hB _)|exact(hGa _)|exact(hGb _)|exact(hU _)|exact(hUs _)|exact(hP2 _)))|(apply zG<;>intro ht));all_goals try simp (disch:=first|omega|(simp only [lens,z8,zg,lQr,lQm,lQt,lQd,zh,zi,zj,zl];first|done|omega)) only [go_sem,hzl,hzd,zi,zj,zl,z1p,List.append_nil,z1w,e1,e2,pX,hO,cP]))
   exact DownV.pure hw (rlO rlI)
  |true=>
   rw [if_pos rfl]at hP2
   by_cases hT:T=s
   ·subst hT
    rw [if_pos ⟨rfl,rfl⟩,hv1]
    have hTT:(T==T)=true:=beq_self_eq_true T
    repeat' (first|apply zs_|apply zb_|apply zc_|apply zt_ rfl|apply zf_ rfl|(apply zd_ rfl<;>intro ht<;>try omega)|((first|apply zr_|apply zk_|apply ze_|apply zq_|(apply callW.mk_pu;(first|exact(fun _=>hR _)|exact(fun _=>hA _)|exact(fun _=>hB _)|exact(fun _=>hGa _)|exact(fun _=>hGb _)|exact(fun _=>hU _)|exact(fun _=>hUs _)|exact(fun _=>hP2 _)))|(apply callW.za;(first|exact(hR _)|exact(hA _)|exact(hB _)|exact(hGa _)|exact(hGb _)|exact(hU _)|exact(hUs _)|exact(hP2 _)))|(apply zG<;>intro ht));all_goals try simp (disch:=first|omega|(simp only [lens,z8,zg,lQr,lQm,lQt,lQd,zh,zi,zj,zl];first|done|omega)) only [go_sem,hzl,hzd,zi,zj,zl,z1p,List.append_nil,z1w,e1,e2,pX,hO,cP,hTT]))
    exact DownV.pure hw (rlE _ (rA _) (rB _) (rP _) rlI)
   ·rw [if_neg (fun h=>hT h.2),hv0]
    have hTT:(T==s)=false:=beq_false_of_ne hT
    repeat' (first|apply zs_|apply zb_|apply zc_|apply zt_ rfl|apply zf_ rfl|(apply zd_ rfl<;>intro ht<;>try omega)|((first|apply zr_|apply zk_|apply ze_|apply zq_|(apply callW.mk_pu;(first|exact(fun _=>hR _)|exact(fun _=>hA _)|exact(fun _=>hB _)|exact(fun _=>hGa _)|exact(fun _=>hGb _)|exact(fun _=>hU _)|exact(fun _=>hUs _)|exact(fun _=>hP2 _)))|(apply callW.za;(first|exact(hR _)|exact(hA _)|exact(hB _)|exact(hGa _)|exact(hGb _)|exact(hU _)|exact(hUs _)|exact(hP2 _)))|(apply zG<;>intro ht));all_goals try simp (disch:=first|omega|(simp only [lens,z8,zg,lQr,lQm,lQt,lQd,zh,zi,zj,zl];first|done|omega)) only [go_sem,hzl,hzd,zi,zj,zl,z1p,List.append_nil,z1w,e1,e2,pX,hO,cP,hTT]))
    exact DownV.pure hw (rlO rlI)
 ·rw [if_neg n2,if_neg n2]
  have e1:¬(n:Int)=2:=by omega
  generalize mayB ⟨K,A,B,zeroH,[]⟩=mb at*
  generalize z2k ⟨K,A,B,zeroH,[]⟩=T at*
  cases mb with
  |false=>
   rw [if_neg (by simp)]at hP1 ⊢
   rw [hv0]
   repeat' (first|apply zs_|apply zb_|apply zc_|apply zt_ rfl|apply zf_ rfl|(apply zd_ rfl<;>intro ht<;>try omega)|((first|apply zr_|apply zk_|apply ze_|apply zq_|(apply callW.mk_pu;(first|exact(fun _=>hR _)|exact(fun _=>hA _)|exact(fun _=>hB _)|exact(fun _=>hGa _)|exact(fun _=>hGb _)|exact(fun _=>hP1 _)))|(apply callW.za;(first|exact(hR _)|exact(hA _)|exact(hB _)|exact(hGa _)|exact(hGb _)|exact(hP1 _)))|(apply zG<;>intro ht));all_goals try simp (disch:=first|omega|(simp only [lens,z8,zg,lQr,lQm,lQt,lQd,zh,zi,zj,zl];first|done|omega)) only [go_sem,hzl,hzd,zi,zj,zl,z1p,List.append_nil,z1w,e1,hK,pX,hO]))
   exact DownV.pure hw (rlO rlI)
  |true=>
   rw [if_pos rfl]at hP1
   by_cases hT:T=s
   ·subst hT
    rw [if_pos ⟨rfl,rfl⟩,hv1]
    have hTT:(T==T)=true:=beq_self_eq_true T
    repeat' (first|apply zs_|apply zb_|apply zc_|apply zt_ rfl|apply zf_ rfl|(apply zd_ rfl<;>intro ht<;>try omega)|((first|apply zr_|apply zk_|apply ze_|apply zq_|(apply callW.mk_pu;(first|exact(fun _=>hR _)|exact(fun _=>hA _)|exact(fun _=>hB _)|exact(fun _=>hGa _)|exact(fun _=>hGb _)|exact(fun _=>hP1 _)))|(apply callW.za;(first|exact(hR _)|exact(hA _)|exact(hB _)|exact(hGa _)|exact(hGb _)|exact(hP1 _)))|(apply zG<;>intro ht));all_goals try simp (disch:=first|omega|(simp only [lens,z8,zg,lQr,lQm,lQt,lQd,zh,zi,zj,zl];first|done|omega)) only [go_sem,hzl,hzd,zi,zj,zl,z1p,List.append_nil,z1w,e1,hK,pX,hO,hTT]))
    exact DownV.pure hw (rlE _ (rA _) (rB _) rlN rlI)
   ·rw [if_neg (fun h=>hT h.2),hv0]
    have hTT:(T==s)=false:=beq_false_of_ne hT
    repeat' (first|apply zs_|apply zb_|apply zc_|apply zt_ rfl|apply zf_ rfl|(apply zd_ rfl<;>intro ht<;>try omega)|((first|apply zr_|apply zk_|apply ze_|apply zq_|(apply callW.mk_pu;(first|exact(fun _=>hR _)|exact(fun _=>hA _)|exact(fun _=>hB _)|exact(fun _=>hGa _)|exact(fun _=>hGb _)|exact(fun _=>hP1 _)))|(apply callW.za;(first|exact(hR _)|exact(hA _)|exact(hB _)|exact(hGa _)|exact(hGb _)|exact(hP1 _)))|(apply zG<;>intro ht));all_goals try simp (disch:=first|omega|(simp only [lens,z8,zg,lQr,lQm,lQt,lQd,zh,zi,zj,zl];first|done|omega)) only [go_sem,hzl,hzd,zi,zj,zl,z1p,List.append_nil,z1w,e1,hK,pX,hO,hTT]))
    exact DownV.pure hw (rlO rlI)
end
section
structure Rgh where
 n:Int
 r:Hash
 i:Int
 s:List UInt8
 m:Int
 p:List Hash
structure Rev where
 k:Int
 a:Rgh
 b:Rgh
 r:Hash
 p:List Hash
def rgX(h:Rgh)(x:AV):List AV:=rgC h.n h.r h.i h.s h.m x
theorem z2j(h:Rgh)(x:AV):(rgX h x).length=37:=z28 _ _ _ _ _ _
def rvX(e:Rev)(x y z:AV):List AV:=.int .i64 e.k::(rgX e.a x++(rgX e.b y++(hc e.r++ [z])))
section
variable (e:Rev) (x y z:AV)
theorem z2n:(rvX e x y z).length=108:=by simp [rvX,z2j,z8]
theorem zlb:(rvX e x y z).drop 1=rgX e.a x++(rgX e.b y++(hc e.r++ [z])):=rfl
theorem zlc:(rvX e x y z).drop 38=rgX e.b y++(hc e.r++ [z]):=by
 rw [show 38=1+37 from rfl,<-List.drop_drop,zlb,List.drop_left' (z2j e.a x)]
theorem zld:(rvX e x y z).drop 75=hc e.r++ [z]:=by
 rw [show 75=38+37 from rfl,<-List.drop_drop,zlc,List.drop_left' (z2j e.b y)]
theorem zuk:(rvX e x y z).drop 107=[z]:=by
 rw [show 107=75+32 from rfl,<-List.drop_drop,zld,z7q]
@[go_sem] theorem rvX_0:(rvX e x y z)[0]? =some (.int .i64 e.k):=rfl
@[go_sem] theorem rvX_107:(rvX e x y z)[107]? =some z:=z6n (zuk e x y z)
@[go_sem] theorem rvX_a:((rvX e x y z).drop 1).take 37=rgX e.a x:=by rw [zlb,List.take_left' (z2j e.a x)]
@[go_sem] theorem rvX_b:((rvX e x y z).drop 38).take 37=rgX e.b y:=by rw [zlc,List.take_left' (z2j e.b y)]
@[go_sem] theorem rvX_r:((rvX e x y z).drop 75).take 32=hc e.r:=by rw [zld,z7r]
@[go_sem] theorem rvX_all:(rvX e x y z).take 108=rvX e x y z:=List.take_of_length_le (by rw [z2n];omega)
end
def rgGr(h:Rgh):Bool:=decide (300<h.s.length \/40<h.p.length)
def rvGr(e:Rev):Bool:=rgGr e.a ||rgGr e.b ||decide (70<e.p.length)
def sgnR(h:Rgh):Hdr:=⟨h.n,h.r,h.i,sigS h.s (16384+h.m).toNat,h.p⟩
def evR(e:Rev):Ev:=⟨e.k,sgnR e.a,sgnR e.b,e.r,e.p⟩
def mOk(h:Rgh):Prop:= -128<=h.m/\ h.m<=127
theorem gr_of{e:Rev}(h:rvGr e=false):(e.a.s.length<=300/\ e.a.p.length<=40)/\ (e.b.s.length<=300/\ e.b.p.length<=40)/\ e.p.length<=70:=by
 unfold rvGr rgGr at h
 simp at h
 omega
attribute [local irreducible] ACallsTo ACallsP
theorem zn5(O:Store)(e:Rev)(x y z:AV)(hx:RdSl O 32 (hr e.a.p) x)(hy:RdSl O 32 (hr e.b.p) y)(hz:RdSl O 32 (hr e.p) z):ACallsTo TC 6 [.agg (rvX e x y z)] O (.bool (rvGr e)) O:=by
 have hA:=fun t=>zgo (O++t) e.a.n e.a.i e.a.m e.a.r e.a.s e.a.p x hx.app
 have hB:=fun t=>zgo (O++t) e.b.n e.b.i e.b.m e.b.r e.b.s e.b.p y hy.app
 have z1:=hz.len
 rw [zg]at z1
 unfold z1k at z1
 unfold rvGr rgGr
 generalize decide (300<e.a.s.length \/40<e.a.p.length)=a at*
 generalize decide (300<e.b.s.length \/40<e.b.p.length)=b at*
 have hl:=z2n e x y z
 refine ACallsTo.of_body q25ok (by simp) fun hw _=> ?_
 cases a with
 |true=>
  repeat' (first|apply zs_|apply zb_|apply zc_|apply zt_ rfl|apply zf_ rfl|(apply zd_ rfl<;>intro ht<;>try omega)|((first|apply zr_|apply zk_|apply ze_|apply zq_|(apply callW.mk_pu;(first|exact(fun _=>hA _)))|(apply callW.za;(first|exact(hA _)))|(apply zG<;>intro ht));all_goals try simp (disch:=first|omega|(simp only [lens,z8,zg,lQr,lQm,lQt,lQd,zh,zi,zj,zl,z28,z2j,z2n];first|done|omega)) only [go_sem,hl]))
  exact DownV.pure hw z19
 |false=>
 cases b with
 |true=>
  repeat' (first|apply zs_|apply zb_|apply zc_|apply zt_ rfl|apply zf_ rfl|(apply zd_ rfl<;>intro ht<;>try omega)|((first|apply zr_|apply zk_|apply ze_|apply zq_|(apply callW.mk_pu;(first|exact(fun _=>hA _)|exact(fun _=>hB _)))|(apply callW.za;(first|exact(hA _)|exact(hB _)))|(apply zG<;>intro ht));all_goals try simp (disch:=first|omega|(simp only [lens,z8,zg,lQr,lQm,lQt,lQd,zh,zi,zj,zl,z28,z2j,z2n];first|done|omega)) only [go_sem,hl]))
  exact DownV.pure hw z19
 |false=>
  by_cases h:70<e.p.length
  ·have h':(e.p.length:Int)>70:=by omega
   rw [decide_eq_true h]
   repeat' (first|apply zs_|apply zb_|apply zc_|apply zt_ rfl|apply zf_ rfl|(apply zd_ rfl<;>intro ht<;>try omega)|((first|apply zr_|apply zk_|apply ze_|apply zq_|(apply callW.mk_pu;(first|exact(fun _=>hA _)|exact(fun _=>hB _)))|(apply callW.za;(first|exact(hA _)|exact(hB _)))|(apply zG<;>intro ht));all_goals try simp (disch:=first|omega|(simp only [lens,z8,zg,lQr,lQm,lQt,lQd,zh,zi,zj,zl,z28,z2j,z2n];first|done|omega)) only [go_sem,hl,z1,h']))
   exact DownV.pure hw z19
  ·have h':¬(e.p.length:Int)>70:=by omega
   rw [decide_eq_false h]
   repeat' (first|apply zs_|apply zb_|apply zc_|apply zt_ rfl|apply zf_ rfl|(apply zd_ rfl<;>intro ht<;>try omega)|((first|apply zr_|apply zk_|apply ze_|apply zq_|(apply callW.mk_pu;(first|exact(fun _=>hA _)|exact(fun _=>hB _)))|(apply callW.za;(first|exact(hA _)|exact(hB _)))|(apply zG<;>intro ht));all_goals try simp (disch:=first|omega|(simp only [lens,z8,zg,lQr,lQm,lQt,lQd,zh,zi,zj,zl,z28,z2j,z2n];first|done|omega)) only [go_sem,hl,z1,h']))
   exact DownV.pure hw z19
theorem EOf_to(O:Store)(e:Rev)(x y z:AV)(hx:SlV 32 (hr e.a.p) x)(hy:SlV 32 (hr e.b.p) y)(hz:SlV 32 (hr e.p) z)(ha:mOk e.a)(hb:mOk e.b)(hg:rvGr e=false):
  ACallsTo TC 8 [.agg (rvX e x y z)] O (.agg (evX (evR e) x y z)) O:=by
 obtain⟨⟨g1,_⟩,⟨g2,_⟩,_⟩:=gr_of hg
 have hA:=fun O=>zgy O e.a.n e.a.i e.a.m e.a.r e.a.s e.a.p x hx ha g1
 have hB:=fun O=>zgy O e.b.n e.b.i e.b.m e.b.r e.b.s e.b.p y hy hb g2
 have hra:∀k,RL k x:=fun k=>z95 hx
 have hrb:∀k,RL k y:=fun k=>z95 hy
 have hrz:∀k,RL k z:=fun k=>z95 hz
 have cz:=hz.cells
 unfold cellsOf at cz
 have hl:=z2n e x y z
 have fa:∀s,sgC e.a.n e.a.r e.a.i s x=sgX ⟨e.a.n,e.a.r,e.a.i,s,e.a.p⟩ x:=fun _=>rfl
 have fb:∀s,sgC e.b.n e.b.r e.b.i s y=sgX ⟨e.b.n,e.b.r,e.b.i,s,e.b.p⟩ y:=fun _=>rfl
 have pX:∀(e:Ev) (x y z v:AV),(evX e x y z).take 105++ [v]=evX e x y v:=fun e x y z v=>by have:=z9z e x y z v;rwa [z1p]at this
 have hO:evO=evX ⟨0,zHd,zHd,zeroH,[]⟩ .nilsl .nilsl .nilsl:=rfl
 have hfz:∀(e:Ev) (x y v:AV),z17 (evX e x y v) [(105,1,z)]=some (evX e x y z):=by
  intro e x y v
  have h1:=hz.cells
  have h2:=z9z e x y v z
  rw [z1p]at h2
  simp only [z17,h1,Option.bind_some,zj,z1c,List.length_cons,List.length_nil]
  rw [if_pos ⟨trivial,by omega⟩,z1p,List.append_nil,h2]
 refine ACallsTo.of_body q27ok (by simp) fun hw _=> ?_
 repeat' (first|apply zs_|apply zb_|apply zc_|apply zt_ rfl|apply zf_ rfl|(apply zd_ rfl<;>intro ht<;>try omega)|((first|apply zr_|apply zk_|apply ze_|apply zq_|(apply callW.mk_pu;(first|exact(fun _=>hA _)|exact(fun _=>hB _)))|(apply callW.za;(first|exact(hA _)|exact(hB _)))|(apply zG<;>intro ht));all_goals try simp (disch:=first|omega|(simp only [lens,z8,zg,lQr,lQm,lQt,lQd,zh,zi,zj,zl,z28,z2j,z2n];first|done|omega)) only [go_sem,hl,cz,hfz,fa,fb,pX,hO,zi,zj,z1p,List.append_nil]))
 have hrl:RL O.length (.agg (evX (evR e) x y z)):=by
  simp only [RL]
  exact zci (evR e) x y z (hra _) (hrb _) (hrz _)
 exact DownV.pure hw hrl
end
section
theorem zh8{L:List Hash}{w:HV}:∀(P:List HV) (o:Option HV),P.foldl (z3y L) o=some w->o=some w \/(w ∈ P/\ valH w.1=true/\ w.1.n<=L.length)
 | [],o,h=> .inl h
 |p::P,o,h=>by
  rcases zh8 P (z3y L o p) h with h1| ⟨h1,h2⟩
  ·unfold z3y at h1
   split at h1
   ·rename_i hb
    simp only [Option.some.injEq]at h1
    subst h1
    unfold z9m at hb
    simp only [Bool.and_eq_true,decide_eq_true_eq]at hb
    exact .inr ⟨List.mem_cons_self,hb.1.1.1,hb.1.1.2⟩
   ·exact .inl h1
  ·exact .inr ⟨List.mem_cons_of_mem _ h1,h2⟩
theorem zip{a b:HV}:∀(P:List HV),z2y P=some (a,b)->a ∈ P/\ b ∈ P/\ valH a.1=true/\ valH b.1=true
 |p::P,h=>by
  unfold z2y at h
  cases hf:P.find? (z3q p)with
  |some q=>
   rw [hf]at h
   simp only [Option.some.injEq,Prod.mk.injEq]at h
   obtain⟨rfl,rfl⟩:=h
   have h1:=List.find?_some hf
   have h2:=List.mem_of_find?_eq_some hf
   unfold z3q at h1
   simp only [Bool.and_eq_true,decide_eq_true_eq]at h1
   exact⟨List.mem_cons_self,List.mem_cons_of_mem _ h2,h1.1⟩
  |none=>
   rw [hf]at h
   obtain⟨h1,h2,h3⟩:=zip P h
   exact⟨List.mem_cons_of_mem _ h1,List.mem_cons_of_mem _ h2,h3⟩
attribute [local irreducible] ACallsTo ACallsP
theorem z3v{h:Hdr}(hv:valH h=true):h.p ≠ []/\ h.p.length<1000000:=by
 have:=(zd4 hv).2.2
 exact⟨fun e=>by rw [e]at this;simp at this,by omega⟩
theorem zgm(O:Store)(P:List HV)(v w:AV)(L:List Hash)(hv:SlV 36 (hrw P) v)(hP:HOk P)(hl:P.length<1000000)(hw':SlV 32 (hr L) w)(hL:L.length<1000000):
  ACallsTo TC 28 [v,w] O (za1 (za0 L P)) O:=by
 have hFk:=fun O=>zq7 O P v hv hP hl
 have hAn:=fun O=>znv O P v w L hv hP hl hw' hL
 have hzl:sgZ.length=36:=zi zHd .nilsl
 have hzd:sgZ.drop 36=[]:=z1w zHd .nilsl
 have hO6:evO.drop 106=[]:=z1p _ _ _ _
 have hel:=fun e x y z=>zj e x y z
 have hed:=fun e x y z=>z1p e x y z
 have hrv:∀(k:Nat) (l:List Hash),RL k (zu 32 (hr l)):=fun k l=>z4e (z25 _)
 refine ACallsTo.of_body q2cok (by simp) fun hw _=> ?_
 unfold za0
 cases hf:z2y P with
 |some pq=>
  obtain⟨p,q⟩:=pq
  rw [hf]at hFk
  unfold ze7 at hFk
  obtain⟨mp,mq,vp,vq⟩:=zip P hf
  have hOw:=fun O=>zk6 O ⟨1,p.1,q.1,zeroH,[]⟩ p.2 q.2 .nilsl (hP p mp) (hP q mq) (by simp [RL]) (z3v vp).1 (z3v vq).1 (z3v vp).2 (z3v vq).2
  have e:za1 (some (⟨1,p.1,q.1,zeroH,[]⟩,p.2,q.2))=.tup [.agg (evX ⟨1,p.1,q.1,zeroH,[]⟩ (zu 32 (hr p.1.p)) (zu 32 (hr q.1.p)) .nilsl),.bool true]:=rfl
  simp only
  rw [e]
  repeat' (first|apply zs_|apply zb_|apply zc_|apply zt_ rfl|apply zf_ rfl|(apply zd_ rfl<;>intro ht<;>try omega)|((first|apply zr_|apply zk_|apply ze_|apply zq_|(apply callW.mk_pu;(first|exact(fun _=>hFk _)|exact(fun _=>hOw _)))|(apply callW.za;(first|exact(hFk _)|exact(hOw _)))|(apply zG<;>intro ht));all_goals try simp (disch:=first|omega|(simp only [lens,z8,zg,lQr,lQm,lQt,lQd,zh,zi,zj,zl,z13];first|done|omega)) only [go_sem,zl,hO6,hel,hed,List.append_nil]))
  exact DownV.pure hw (rlE' _ (hrv _ _) (hrv _ _) (by simp [RL]) (by simp [RL]))
 |none=>
  rw [hf]at hFk
  unfold ze7 at hFk
  simp only
  have ev0:za1 none=.tup [.agg evO,.bool false]:=rfl
  have rO:∀k,RL k (.tup [.agg evO,.bool false]):=fun k=>rlE' evZ0 (by simp [RL]) (by simp [RL]) (by simp [RL]) (by simp [RL])
  cases ha:zbb L P with
  |none=>
   rw [ha]at hAn
   have e1:zbc none=.tup [.agg sgZ,.bool false]:=rfl
   rw [e1]at hAn
   simp only
   rw [ev0]
   repeat' (first|apply zs_|apply zb_|apply zc_|apply zt_ rfl|apply zf_ rfl|(apply zd_ rfl<;>intro ht<;>try omega)|((first|apply zr_|apply zk_|apply ze_|apply zq_|(apply callW.mk_pu;(first|exact(fun _=>hFk _)|exact(fun _=>hAn _)))|(apply callW.za;(first|exact(hFk _)|exact(hAn _)))|(apply zG<;>intro ht));all_goals try simp (disch:=first|omega|(simp only [lens,z8,zg,lQr,lQm,lQt,lQd,zh,zi,zj,zl,z13];first|done|omega)) only [go_sem,zl,hO6,hzl,hzd,List.append_nil]))
   exact DownV.pure hw (rO _)
  |some g=>
   rw [ha]at hAn
   have e1:zbc (some g)=.tup [.agg (sgX g.1 g.2),.bool true]:=rfl
   rw [e1]at hAn
   simp only
   obtain⟨mg,vg,ng⟩:g ∈ P/\ valH g.1=true/\ g.1.n<=L.length:=by
    rcases zh8 P none ha with h|h
    ·cases h
    ·exact h
   have hg:=hP g mg
   have r1:=hv.len
   rw [z13]at r1
   unfold z1k at r1
   have hgl:=zi g.1 g.2
   repeat' (first|apply zs_|apply zb_|apply zc_|apply zt_ rfl|apply zf_ rfl|(apply zd_ rfl<;>intro ht<;>try omega)|((first|apply zr_|apply zk_|apply ze_|apply zq_|(apply callW.mk_pu;(first|exact(fun _=>hFk _)|exact(fun _=>hAn _)))|(apply callW.za;(first|exact(hFk _)|exact(hAn _)))|(apply zG<;>intro ht));all_goals try simp (disch:=first|omega|(simp only [lens,z8,zg,lQr,lQm,lQt,lQd,zh,zi,zj,zl,z13];first|done|omega)) only [go_sem,zl,hO6,hzl,hzd,hgl,r1,List.append_nil]))
   refine zW.loop (fun m J O'=>∃(i:Nat) (y:Store),m+i=P.length/\ O'=O++(some [evO]::some [evO]::some [sgX g.1 g.2]::y)/\ P.find? (splB L g)=(P.drop i).find? (splB L g)/\ J 1=w/\ J 4=.ptr O.length 0 0/\ J 8=.ptr (O.length+2) 0 0/\ J 32=v/\ J 33=.int .i64 P.length/\ J 34=.int .i64 i) P.length ?_ ?_
   ·exact⟨0,[],by omega,rfl,rfl,by simp (disch:=first|omega|(simp only [lens,z8,zg,lQr,lQm,lQt,lQd,zh,zi,zj,zl,z13];first|done|omega)) only [go_sem],by simp (disch:=first|omega|(simp only [lens,z8,zg,lQr,lQm,lQt,lQd,zh,zi,zj,zl,z13];first|done|omega)) only [go_sem],by simp (disch:=first|omega|(simp only [lens,z8,zg,lQr,lQm,lQt,lQd,zh,zi,zj,zl,z13];first|done|omega)) only [go_sem],by simp (disch:=first|omega|(simp only [lens,z8,zg,lQr,lQm,lQt,lQd,zh,zi,zj,zl,z13];first|done|omega)) only [go_sem],by simp (disch:=first|omega|(simp only [lens,z8,zg,lQr,lQm,lQt,lQd,zh,zi,zj,zl,z13];first|done|omega)) only [go_sem],by simp (disch:=first|omega|(simp only [lens,z8,zg,lQr,lQm,lQt,lQd,zh,zi,zj,zl,z13];first|done|omega)) only [go_sem];rfl⟩
   ·rintro m J O' ⟨i,y,hm,rfl,hF,q1,q4,q8,q32,q33,q34⟩
    by_cases hi:i<P.length
    ·have hi':(i:Int)<P.length:=by omega
     obtain⟨ex,rfl⟩:=hv.vsl (by rw [z13];omega)
     have hgi:=zbu hi
     have hp:=hP.at hi
     have hfd:=zij (f:=splB L g) hi
     rw [hfd]at hF
     have hpl:=z13 P
     generalize P[i]=p at*
     have hsl:=zi p.1 p.2
     have hV:=fun O=>z4x O p.1.n p.1.i p.1.r p.1.s p.1.p p.2 (.of hp)
     have hval:valH p.1=z1i p.1.n p.1.i p.1.s p.1.p:=rfl
     have hvn:= @zd4 p.1
     have hvp:= @z3v p.1
     rw [show splB L g p=(valH p.1 && decide (p.1.n<g.1.n) && decide (z1e (L.take p.1.n.toNat) ≠ p.1.r))from rfl,hval]at hF
     rw [hval]at hvn hvp
     generalize z1i p.1.n p.1.i p.1.s p.1.p=vb at*
     cases vb with
     |false=>
      rw [if_neg (by simp)]at hF
      repeat' (first|apply zs_|apply zb_|apply zc_|apply zt_ rfl|apply zf_ rfl|(apply zd_ rfl<;>intro ht<;>try omega)|((first|apply zr_|apply zk_|apply ze_|apply zq_|(apply callW.mk_pu;(first|exact(fun _=>hV _)))|(apply callW.za;(first|exact(hV _)))|(apply zG<;>intro ht));all_goals try simp (disch:=first|omega|(simp only [lens,z8,zg,lQr,lQm,lQt,lQd,zh,zi,zj,zl,z13];first|done|omega)) only [go_sem,q1,q4,q8,q32,q33,q34,hi',hgi,hpl,hsl,hgl,hzl,hzd,List.append_nil]))
      exact⟨m-1,by omega,i+1,_,by omega,rfl,hF,by simp⟩
     |true=>
     by_cases c2:p.1.n<g.1.n
     ·have c2':¬p.1.n>=g.1.n:=by omega
      obtain⟨n0,n1,_⟩:=hvn rfl
      obtain⟨g0,g1,_⟩:=zd4 vg
      have hLn:(hr L).length=L.length:=zg L
      obtain⟨b,rfl⟩:=hw'.vsl (by rw [zg];omega)
      have fk:=ze5 L p.1.n.toNat
      have fk2:=ze5 L g.1.n.toNat
      have hR:=fun O b=>zah O (L.take p.1.n.toNat) (.vsl 32 (hr (L.take p.1.n.toNat)) b) (.of (.inr ⟨b,rfl⟩)) (by rw [List.length_take];omega)
      have hPr:=fun O b=>znf O (L.take g.1.n.toNat) (.vsl 32 (hr (L.take g.1.n.toNat)) b) p.1.n (.inr ⟨b,rfl⟩) (by rw [List.length_take];omega)
      generalize hRR:z1e (L.take p.1.n.toNat)=R at*
      by_cases c3:R=p.1.r
      ·have hb:(true && decide (p.1.n<g.1.n) && decide (R ≠ p.1.r))=false:=by simp [c3]
       rw [hb,if_neg (by simp)]at hF
       repeat' (first|apply zs_|apply zb_|apply zc_|apply zt_ rfl|apply zf_ rfl|(apply zd_ rfl<;>intro ht<;>try omega)|((first|apply zr_|apply zk_|apply ze_|apply zq_|(apply callW.mk_pu;(first|exact(fun _=>hV _)|exact(fun _=>hR _ _)))|(apply callW.za;(first|exact(hV _)|exact(hR _ _)))|(apply zG<;>intro ht));all_goals try simp (disch:=first|omega|(simp only [lens,z8,zg,lQr,lQm,lQt,lQd,zh,zi,zj,zl,z13];first|done|omega)) only [go_sem,q1,q4,q8,q32,q33,q34,hi',hgi,hpl,hsl,hgl,hzl,hzd,List.append_nil,c2',c3,hLn,fk]))
       exact⟨m-1,by omega,i+1,_,by omega,rfl,hF,by simp⟩
      ·have hb:(true && decide (p.1.n<g.1.n) && decide (R ≠ p.1.r))=true:=by simp [c2,c3]
       rw [hb,if_pos rfl]at hF
       rw [hF]
       simp only [hRR]
       have e:za1 (some (⟨2,p.1,g.1,R,z7v (L.take g.1.n.toNat) p.1.n⟩,p.2,g.2))=.tup [.agg (evX ⟨2,p.1,g.1,R,z7v (L.take g.1.n.toNat) p.1.n⟩ (zu 32 (hr p.1.p)) (zu 32 (hr g.1.p)) (zu 32 (hr (z7v (L.take g.1.n.toNat) p.1.n)))),.bool true]:=rfl
       rw [e]
       generalize z7v (L.take g.1.n.toNat) p.1.n=pf at*
       have hOw:=fun O=>zk6 O ⟨2,p.1,g.1,R,pf⟩ p.2 g.2 (zu 32 (hr pf)) hp hg (hrv _ _) (hvp rfl).1 (z3v vg).1 (hvp rfl).2 (z3v vg).2
       have hfz:∀(e:Ev) (x y v:AV),z17 (evX e x y v) [(105,1,zu 32 (hr pf))]=some (evX e x y (zu 32 (hr pf))):=by
        intro e x y v
        have h1:=zaf (sz:=32) (es:=hr pf)
        have h2:=z9z e x y v (zu 32 (hr pf))
        rw [z1p]at h2
        simp only [z17,h1,Option.bind_some,zj,z1c,List.length_cons,List.length_nil]
        rw [if_pos ⟨trivial,by omega⟩,z1p,List.append_nil,h2]
       have hrz:=hrv O.length pf
       have hO:evO=evX ⟨0,zHd,zHd,zeroH,[]⟩ .nilsl .nilsl .nilsl:=rfl
       generalize zu 32 (hr pf)=Z at*
       repeat' (first|apply zs_|apply zb_|apply zc_|apply zt_ rfl|apply zf_ rfl|(apply zd_ rfl<;>intro ht<;>try omega)|((first|apply zr_|apply zk_|apply ze_|apply zq_|(apply callW.mk_pu;(first|exact(fun _=>hV _)|exact(fun _=>hR _ _)|exact(fun _=>hPr _ _)|exact(fun _=>hOw _)))|(apply callW.za;(first|exact(hV _)|exact(hR _ _)|exact(hPr _ _)|exact(hOw _)))|(apply zG<;>intro ht));all_goals try simp (disch:=first|omega|(simp only [lens,z8,zg,lQr,lQm,lQt,lQd,zh,zi,zj,zl,z13];first|done|omega)) only [go_sem,q1,q4,q8,q32,q33,q34,hi',hgi,hpl,hsl,hgl,hzl,hzd,List.append_nil,c2',c3,hLn,fk,fk2,hfz,hO,hel,hed]))
       exact DownV.pure hw (rlE' _ (hrv _ _) (hrv _ _) hrz (by simp [RL]))
     ·have c2':p.1.n>=g.1.n:=by omega
      have hb:(true && decide (p.1.n<g.1.n) && decide (z1e (L.take p.1.n.toNat) ≠ p.1.r))=false:=by simp [c2]
      rw [hb,if_neg (by simp)]at hF
      repeat' (first|apply zs_|apply zb_|apply zc_|apply zt_ rfl|apply zf_ rfl|(apply zd_ rfl<;>intro ht<;>try omega)|((first|apply zr_|apply zk_|apply ze_|apply zq_|(apply callW.mk_pu;(first|exact(fun _=>hV _)))|(apply callW.za;(first|exact(hV _)))|(apply zG<;>intro ht));all_goals try simp (disch:=first|omega|(simp only [lens,z8,zg,lQr,lQm,lQt,lQd,zh,zi,zj,zl,z13];first|done|omega)) only [go_sem,q1,q4,q8,q32,q33,q34,hi',hgi,hpl,hsl,hgl,hzl,hzd,List.append_nil,c2']))
      exact⟨m-1,by omega,i+1,_,by omega,rfl,hF,by simp⟩
    ·obtain rfl:i=P.length:=by omega
     rw [List.drop_length]at hF
     rw [hF]
     simp only [List.find?_nil]
     rw [ev0]
     have hO:evO=evX ⟨0,zHd,zHd,zeroH,[]⟩ .nilsl .nilsl .nilsl:=rfl
     repeat' (first|apply zs_|apply zb_|apply zc_|apply zt_ rfl|apply zf_ rfl|(apply zd_ rfl<;>intro ht<;>try omega)|((first|apply zr_|apply zk_|apply ze_|apply zq_|(apply zG<;>intro ht));all_goals try simp (disch:=first|omega|(simp only [lens,z8,zg,lQr,lQm,lQt,lQd,zh,zi,zj,zl,z13];first|done|omega)) only [go_sem,q1,q4,q8,q32,q33,q34,zl,hO6,List.append_nil]))
     exact DownV.pure hw (rO _)
end
section
theorem ac_ne:z1q (shaS [0,97]) (shaS [0,98]) ≠ z1q (shaS [0,97]) (shaS [0,99]):=by decide+kernel
def lgC:List (List UInt8):=[[97],[99]]
def hdP:Hdr:=mkH logS 0 lgA
def hdQ:Hdr:=mkH logS 0 lgC
theorem zjm:logS.length<1000000:=by simp [logS]
theorem zjt(seed:List UInt8)(i:Nat)(M:List (List UInt8))(hi:i<8)(hM:M.length<=4096):valH (mkH seed i M)=true:=
 decide_eq_true ⟨by simp only [mkH];omega,by simp only [mkH];omega,by simp only [mkH];omega,by simp only [mkH];omega,zbz _ _ _,zeu _ _⟩
theorem za5:valH hdP=true:=zjt logS 0 lgA (by omega) (by simp [lgA])
theorem zbs:valH hdQ=true:=zjt logS 0 lgC (by omega) (by simp [lgC])
theorem hdPQ:hdP.r ≠ hdQ.r:=by
 show z1e [lfH [97],lfH [98]] ≠ z1e [lfH [97],lfH [99]]
 rw [zcm,zcm]
 intro h
 have h2:=congrArg Subtype.val h
 simp only [z1a,lfH,shaH]at h2
 exact ac_ne h2
theorem zqr:z3q (hdP,zu 32 (hr hdP.p)) (hdQ,zu 32 (hr hdQ.p))=true:=by
 unfold z3q
 rw [za5,zbs]
 simp only [Bool.true_and,decide_eq_true_eq]
 exact(ord3 _ _ _ _).2 ⟨rfl,hdPQ⟩
def evPQ:Ev:=⟨1,hdP,hdQ,zeroH,[]⟩
theorem zie:mayB evPQ=true:=by
 unfold mayB z5b
 rw [show valH evPQ.a=true from za5,show valH evPQ.b=true from zbs,if_pos (show evPQ.k=1 from rfl),decide_eq_true (show evPQ.a.n=evPQ.b.n/\ evPQ.a.r ≠ evPQ.b.r/\ evPQ.r=zeroH/\ evPQ.p=[]from⟨rfl,hdPQ,rfl,rfl⟩)]
 rfl
theorem zwg(seed:List UInt8)(dg x:Hash)(hx:z1e (keyL seed) ≠ x):verI x dg (0:Nat) (ksgS seed (0:Nat) dg.1) (z1u (keyL seed) 0) ≠ 0:=by
 have hc:chkP (hd (keyL seed) 0) (0:Nat) 8 (z1u (keyL seed) 0) x ≠ 0:=by
  obtain⟨a,b,c,d,e,f,g,h,hK⟩:=len8 (z3r seed)
  rw [hK]at hx ⊢
  rw [zfc]at hx
  obtain⟨p0,_⟩:=zkc a b c d e f g h
  rw [p0,z52 0 (by omega),if_neg]
  ·decide
  ·exact fun e=>hx (by rw [<-e];simp [z2p,hd])
 unfold verI
 rw [if_neg (by omega),if_pos (zbz _ _ _),zkp,<-zjf seed 0 (by omega),if_neg hc]
 decide
theorem zos:z57 (z1e (keyL logS)) evPQ=0:=by
 unfold z57
 rw [zie,if_neg (by simp),if_neg,if_neg]
 ·exact fun h=>absurd h.1 (by decide)
 ·rintro(h|h)
  ·exact h (zjs logS 0 lgA (by omega) (by simp [lgA]))
  ·exact h (zjs logS 0 lgC (by omega) (by simp [lgC]))
theorem zor:z57 oneH evPQ=81:=by
 unfold z57
 rw [zie,if_neg (by simp),if_pos]
 refine .inl fun h=> ?_
 unfold z4m at h
 rw [show z1i evPQ.a.n evPQ.a.i evPQ.a.s evPQ.a.p=true from za5,if_neg (by simp),if_neg]at h
 ·exact absurd h (by decide)
 ·exact zwg logS _ oneH (root_g oneH rfl)
theorem chkO(k:Hash):z57 k evZ0=2:=by
 unfold z57
 rw [show mayB evZ0=false from rfl,if_pos rfl]
theorem zji:z1e (keyL logS)=kyA:=rfl
theorem zqs:mkH logS 0 (lgA.take 2)=hdP:=rfl
theorem zqt:mkH logS 0 (lgC.take 2)=hdQ:=rfl
attribute [local irreducible] ACallsTo ACallsP kyA hdP hdQ logS
theorem zqn:hc oneH=[.int .u8 1,.int .u8 0,.int .u8 0,.int .u8 0,.int .u8 0,.int .u8 0,.int .u8 0,.int .u8 0,.int .u8 0,.int .u8 0,.int .u8 0,.int .u8 0,.int .u8 0,.int .u8 0,.int .u8 0,.int .u8 0,.int .u8 0,.int .u8 0,.int .u8 0,.int .u8 0,.int .u8 0,.int .u8 0,.int .u8 0,.int .u8 0,.int .u8 0,.int .u8 0,.int .u8 0,.int .u8 0,.int .u8 0,.int .u8 0,.int .u8 0,.int .u8 0]:=rfl
theorem zv2(hw:Wf ([]:Store).length [])(τ:Store)(A B:Hdr)(ky:Hash)(e:Ev)(x y:AV)(J:Env)(q2:J 2=.bool false)(q3:J 3=.ptr 3 0 0)(q4:J 4=.ptr 4 0 0)(dτ:τ.length=5)(hk:e.k=1)
  (h3:τ[3]? =some (some [[AV.ptr 2 0 0,AV.vsl 1 [[AV.str [97]],[AV.str [98]]] true]])) (h4:τ[4]? =some (some [[AV.ptr 2 0 0,AV.vsl 1 [[AV.str [97]],[AV.str [99]]] true]]))
  (hH1:∀y,ACallsTo TC 30 [.agg [.ptr 2 0 0,.vsl 1 [[.str [97]],[.str [98]]] true],.int .i64 2,.int .i64 0] (τ++y) (.agg (hdrC A)) (τ++y))
  (hH2:∀y,ACallsTo TC 30 [.agg [.ptr 2 0 0,.vsl 1 [[.str [97]],[.str [99]]] true],.int .i64 2,.int .i64 0] (τ++y) (.agg (hdrC B)) (τ++y))
  (hRt:∀y,ACallsTo TC 20 [.ptr 2 0 0] (τ++y) (.agg (hc ky)) (τ++y))
  (hF:∀O b,ACallsTo TC 28 [.vsl 36 [hdrC A,hdrC B] b,.nilsl] O (.tup [.agg (evX e x y .nilsl),.bool true]) O)
  (hC1:∀O,ACallsTo TC 11 [.agg (hc ky),.agg (evX e x y .nilsl)] O (.int .i64 0) O)
  (hC2:∀O,ACallsTo TC 11 [.agg (hc oneH),.agg (evX e x y .nilsl)] O (.int .i64 81) O)
  (hC3:∀O,ACallsTo TC 11 [.agg (hc ky),.agg evO] O (.int .i64 2) O):
  zW TC 58 0 zex (endQ 0 [.t 0] (.bool true) []) J τ:=by
 have hH1':=hH1 []
 have hH2':=hH2 []
 rw [List.append_nil]at hH1' hH2'
 have la:=z3i A
 have lb:=z3i B
 have hel:=zj e x y .nilsl
 have hO6:evO.drop 106=[]:=z1p _ _ _ _
 have hRt0:=hRt []
 rw [List.append_nil]at hRt0
 repeat' (first|apply zs_|apply zb_|apply zc_|apply zt_ rfl|apply zf_ rfl|(apply zd_ rfl<;>intro ht<;>try omega)|((first|apply zr_|apply zk_|apply ze_|apply zq_|(apply zG<;>intro ht));all_goals try simp (disch:=first|omega|(simp only [lens,z8,zg,lQr,lQm,lQt,lQd,zh,zi,zj,zl,z13,z1n];first|done|omega)) only [go_sem,h3,h4,q2,q3,q4]))
 refine callW.mk_pu2 (caps:=[]) hH1' (fun h hh=>hh.elim) ?_
 simp (disch:=first|omega|(simp only [lens,z8,zg,lQr,lQm,lQt,lQd,zh,zi,zj,zl,z13,z1n];first|done|omega)) only [go_sem,h4,q4]
 refine callW.mk_pu2 (caps:=[]) hH2' (fun h hh=>hh.elim) ?_
 simp (disch:=first|omega|(simp only [lens,z8,zg,lQr,lQm,lQt,lQd,zh,zi,zj,zl,z13,z1n];first|done|omega)) only [go_sem,h3,h4,q3,q4,hH1,hH2,la,lb]
 refine callW.mk_pu (caps:=[]) (fun O=>hF O _) ?_
 simp (disch:=first|omega|(simp only [lens,z8,zg,lQr,lQm,lQt,lQd,zh,zi,zj,zl,z13,z1n];first|done|omega)) only [go_sem,h3,h4,q2,q3,q4,hH1,hH2,la,lb,hel,hO6,zl,List.append_nil]
 repeat' (first|apply zs_|apply zb_|apply zc_|apply zt_ rfl|apply zf_ rfl|(apply zd_ rfl<;>intro ht<;>try omega)|((first|apply zr_|apply zk_|apply ze_|apply zq_|(apply callW.mk_pu;(first|exact(fun _=>hRt _)|exact(fun _=>hC1 _)|exact(fun _=>hC2 _)|exact(fun _=>hC3 _)))|(apply callW.za;(first|exact(hRt _)|exact(hC1 _)|exact(hC2 _)|exact(hC3 _)))|(apply zG<;>intro ht));all_goals try simp (disch:=first|omega|(simp only [lens,z8,zg,lQr,lQm,lQt,lQd,zh,zi,zj,zl,z13,z1n];first|done|omega)) only [go_sem,h3,h4,q2,q3,q4,hel,hk,zl,hO6,List.append_nil,<-zqn]))
 exact DownV.pure (τ:=[]) hw z19
theorem P_head(τ:Store)(ht:τ[2]? =some (some [z1r true logS (keyL logS)]))(dτ:τ.length=5):∀y,ACallsTo TC 30 [.agg [.ptr 2 0 0,.vsl 1 [[.str [97]],[.str [98]]] true],.int .i64 2,.int .i64 0] (τ++y) (.agg (hdrC hdP)) (τ++y):=fun y=>by
 have hLs:∀s ∈ lgA,s.length<1000000:=by intro s hs;simp [lgA]at hs;rcases hs with rfl|rfl<;>simp
 have h:=zgr (τ++y) 2 logS lgA true 2 0 0 rfl (by omega) (by simp [lgA]) (by rw [gapp (by omega)];exact ht) zjm hLs (by simp [lgA])
 rw [zqs]at h
 exact h
theorem Q_head(τ:Store)(ht:τ[2]? =some (some [z1r true logS (keyL logS)]))(dτ:τ.length=5):∀y,ACallsTo TC 30 [.agg [.ptr 2 0 0,.vsl 1 [[.str [97]],[.str [99]]] true],.int .i64 2,.int .i64 0] (τ++y) (.agg (hdrC hdQ)) (τ++y):=fun y=>by
 have hLc:∀s ∈ lgC,s.length<1000000:=by intro s hs;simp [lgC]at hs;rcases hs with rfl|rfl<;>simp
 have h:=zgr (τ++y) 2 logS lgC true 2 0 0 rfl (by omega) (by simp [lgC]) (by rw [gapp (by omega)];exact ht) zjm hLc (by simp [lgC])
 rw [zqt]at h
 exact h
theorem znb(A B:Hdr)(hf:z3q (A,zu 32 (hr A.p)) (B,zu 32 (hr B.p))=true)(O:Store)(b:Bool):
  ACallsTo TC 28 [.vsl 36 [hdrC A,hdrC B] b,.nilsl] O (.tup [.agg (evX ⟨1,A,B,zeroH,[]⟩ (zu 32 (hr A.p)) (zu 32 (hr B.p)) .nilsl),.bool true]) O:=by
 have hOk:HOk [(A,zu 32 (hr A.p)),(B,zu 32 (hr B.p))]:=by
  intro p hp
  simp only [List.mem_cons,List.not_mem_nil,or_false]at hp
  rcases hp with rfl|rfl
  ·exact z3m _ _
  ·exact z3m _ _
 have hF2:=zgm O [(A,zu 32 (hr A.p)),(B,zu 32 (hr B.p))] (.vsl 36 [hdrC A,hdrC B] b) .nilsl [] (.inr ⟨b,rfl⟩) hOk (by simp) (.inl ⟨rfl,rfl⟩) (by simp)
 have hfp:za0 [] [(A,zu 32 (hr A.p)),(B,zu 32 (hr B.p))]=some (⟨1,A,B,zeroH,[]⟩,zu 32 (hr A.p),zu 32 (hr B.p)):=by
  unfold za0 z2y
  rw [List.find?_cons,hf]
 rw [hfp]at hF2
 exact hF2
theorem zgl(A B:Hdr)(key:Hash)(i:Int)(hi:z57 key ⟨1,A,B,zeroH,[]⟩=i)(ha:A.p.length<1000000)(hb:B.p.length<1000000)(O:Store):
  ACallsTo TC 11 [.agg (hc key),.agg (evX ⟨1,A,B,zeroH,[]⟩ (zu 32 (hr A.p)) (zu 32 (hr B.p)) .nilsl)] O (.int .i64 i) O:=by
 rw [<-hi]
 exact zgj O key ⟨1,A,B,zeroH,[]⟩ (zu 32 (hr A.p)) (zu 32 (hr B.p)) .nilsl z43 z43 (.of (.inl ⟨rfl,rfl⟩)) ⟨ha,hb,Nat.zero_lt_succ _⟩
theorem zn9(key:Hash)(O:Store):ACallsTo TC 11 [.agg (hc key),.agg evO] O (.int .i64 2) O:=by
 have h:=zgj O key evZ0 .nilsl .nilsl .nilsl (.of (.inl ⟨rfl,rfl⟩)) (.of (.inl ⟨rfl,rfl⟩)) (.of (.inl ⟨rfl,rfl⟩)) ⟨Nat.zero_lt_succ _,Nat.zero_lt_succ _,Nat.zero_lt_succ _⟩
 rw [chkO]at h
 exact h
theorem E_own(O:Store):ACallsTo TC 11 [.agg (hc kyA),.agg (evX ⟨1,hdP,hdQ,zeroH,[]⟩ (zu 32 (hr hdP.p)) (zu 32 (hr hdQ.p)) .nilsl)] O (.int .i64 0) O:=
 zgl hdP hdQ kyA 0 (by rw [<-zji];exact zos) (z3v za5).2 (z3v zbs).2 O
theorem E_one(O:Store):ACallsTo TC 11 [.agg (hc oneH),.agg (evX ⟨1,hdP,hdQ,zeroH,[]⟩ (zu 32 (hr hdP.p)) (zu 32 (hr hdQ.p)) .nilsl)] O (.int .i64 81) O:=
 zgl hdP hdQ oneH 81 zor (z3v za5).2 (z3v zbs).2 O
attribute [local irreducible] zex
theorem zv0:ACallsTo TC 7 [] [] (.bool true) []:=by
 have hMd:=fun O=>zn8 O [] (strs lgA) true
 rw [show strs lgA=[[.str [97]],[.str [98]]]from rfl]at hMd
 have hF0:=fun O=>zgm O [] .nilsl .nilsl [] (.inl ⟨rfl,rfl⟩) (fun _ h=>by cases h) (by simp) (.inl ⟨rfl,rfl⟩) (by simp)
 rw [show za1 (za0 [] [])=.tup [.agg evO,.bool false]from rfl]at hF0
 have hO6:evO.drop 106=[]:=z1p _ _ _ _
 refine ACallsTo.of_body q26ok (by simp) fun hw _=> ?_
 repeat' (first|apply zs_|apply zb_|apply zc_|apply zt_ rfl|apply zf_ rfl|(apply zd_ rfl<;>intro ht<;>try omega)|((first|apply zr_|apply zk_|apply ze_|apply zq_|(apply callW.mk_pu;(first|exact(fun _=>hMd _)|exact(fun _=>hF0 _)))|(apply callW.za;(first|exact(hMd _)|exact(hF0 _)))|(apply zG<;>intro ht));all_goals try simp (disch:=first|omega|(simp only [lens,z8,zg,lQr,lQm,lQt,lQd,zh,zi,zj,zl,z13,z1n];first|done|omega)) only [go_sem,zl,hO6,List.append_nil]))
 generalize hτ:([some [evO],some [[AV.ptr 2 0 0,_]],some [z1r true logS (keyL logS)],some [_],some [_]]:Store)=τ
 have ht:τ[2]? =some (some [z1r true logS (keyL logS)]):=by rw [<-hτ];rfl
 have h3:τ[3]? =some (some [[AV.ptr 2 0 0,AV.vsl 1 [[AV.str [97]],[AV.str [98]]] true]]):=by rw [<-hτ];rfl
 have h4:τ[4]? =some (some [[AV.ptr 2 0 0,AV.vsl 1 [[AV.str [97]],[AV.str [99]]] true]]):=by rw [<-hτ];rfl
 have dτ:τ.length=5:=by rw [<-hτ];rfl
 clear hτ
 have hRt:=fun y=>zw5 (τ++y) 2 logS (keyL logS) (by rw [gapp (by omega)];exact ht) (z3r _)
 rw [zji]at hRt
 exact zv2 hw τ hdP hdQ kyA ⟨1,hdP,hdQ,zeroH,[]⟩ _ _ _ (by simp (disch:=first|omega|(simp only [lens,z8,zg,lQr,lQm,lQt,lQd,zh,zi,zj,zl,z13,z1n];first|done|omega)) only [go_sem]) (by simp (disch:=first|omega|(simp only [lens,z8,zg,lQr,lQm,lQt,lQd,zh,zi,zj,zl,z13,z1n];first|done|omega)) only [go_sem]) (by simp (disch:=first|omega|(simp only [lens,z8,zg,lQr,lQm,lQt,lQd,zh,zi,zj,zl,z13,z1n];first|done|omega)) only [go_sem]) dτ rfl h3 h4 (P_head τ ht dτ) (Q_head τ ht dτ) hRt (znb hdP hdQ zqr) E_own E_one (zn9 kyA)
theorem z8i(O:Store):ACallsTo TC 7 [] O (.bool true) O:=ACallsTo.frame glok zv0 (by simp [RLs]) O
end
section
theorem zp8(e:Ev):zbo e e=true:=by simp [zbo,z7t]
theorem evOk_R{e:Rev}(h:rvGr e=false):EvOk (evR e):=by
 obtain⟨⟨_,h1⟩,⟨_,h2⟩,h3⟩:=gr_of h
 refine⟨?_,?_,?_⟩
 ·show e.a.p.length<_;omega
 ·show e.b.p.length<_;omega
 ·show e.p.length<_;omega
def zf8:Ty:=.row [.int .i64,zcn,zcn,z59,.sl 32 z59]
theorem zl7{cs:List AV}(h:ShC zcn cs):∃(g:Rgh) (x:AV),cs=rgX g x/\ SlV 32 (hr g.p) x/\ mOk g/\ g.p.length<=maxLen/\ g.s.length<=maxLen/\ (-9223372036854775808<=g.n/\ g.n<=9223372036854775807)/\ (-9223372036854775808<=g.i/\ g.i<=9223372036854775807):=by
 simp only [zcn,ShC,z3p]at h
 obtain⟨A,B,rfl,hA,C,D,rfl,hC,E,F,rfl,hE,G,K,rfl,hG,M,N,rfl,hM,rfl⟩:=h
 obtain⟨A1,A2,rfl,⟨n,rfl,n1,n2⟩,A3,A4,rfl,hA3,rfl⟩:=hA
 obtain⟨r,rfl⟩:=zix hA3
 obtain⟨i,rfl,i1,i2⟩:=hC
 obtain⟨s,rfl,hs⟩:=hE
 obtain⟨m,rfl,m1,m2⟩:=hG
 obtain⟨l,x,rfl,h3,h4⟩:=zj8 (by simpa only [ShC]using hM)
 simp only [IntKind.min,IntKind.max,IntKind.signed,IntKind.bits]at n1 n2 i1 i2 m1 m2
 simp at n1 n2 i1 i2 m1 m2
 exact⟨⟨n,r,i,s,m,l⟩,x,by simp [rgX,rgC],h3,⟨m1,m2⟩,h4,hs,⟨n1,n2⟩,⟨i1,i2⟩⟩
theorem rev_h{a:AV}(h:Sh zf8 a):∃(e:Rev) (x y z:AV),a=.agg (rvX e x y z)/\ SlV 32 (hr e.a.p) x/\ SlV 32 (hr e.b.p) y/\ SlV 32 (hr e.p) z/\ mOk e.a/\ mOk e.b/\ e.p.length<=maxLen:=by
 simp only [zf8,Sh]at h
 obtain⟨cs,rfl,h⟩:=h
 simp only [z3p]at h
 obtain⟨A,B,rfl,hA,C,D,rfl,hC,E,F,rfl,hE,G,K,rfl,hG,M,N,rfl,hM,rfl⟩:=h
 simp only [ShC]at hA
 obtain⟨k,rfl,_,_⟩:=hA
 obtain⟨g1,x,rfl,hx,m1,_⟩:=zl7 hC
 obtain⟨g2,y,rfl,hy,m2,_⟩:=zl7 hE
 obtain⟨r,rfl⟩:=zix hG
 obtain⟨l,z,rfl,hz,h4⟩:=zj8 (by simpa only [ShC]using hM)
 exact⟨⟨k,g1,g2,r,l⟩,x,y,z,by simp [rvX],hx,hy,hz,m1,m2,h4⟩
attribute [local irreducible] ACallsTo ACallsP
end
section
theorem zp6(s:List UInt8):∃(e:Ev) (i:Int),z6q (getE s)=.tup [.agg (evX e (zu 32 (hr e.a.p)) (zu 32 (hr e.b.p)) (zu 32 (hr e.p))),.int .i64 i]/\ EvOk e:=by
 cases h:getE s with
 |none=>exact⟨evZ0,10,rfl,Nat.zero_lt_succ _,Nat.zero_lt_succ _,Nat.zero_lt_succ _⟩
 |some e=>
  obtain⟨va,vb,h64,_⟩:=zc4 (zir h).2
  exact⟨e,0,rfl,(z3v va).2,(z3v vb).2,by omega⟩
attribute [local irreducible] ACallsTo ACallsP
theorem zgk(hw:Wf ([]:Store).length [])(J:Env)(O:Store)(v:AV)(L:List (List UInt8))(h9:J 9=v)(hv:RdSl O 1 (strs L) v)(hL:∀s ∈ L,s.length<100000000)(hLl:L.length<=100):
  zW TC 117 0 zew (endQ 0 [.t 6] (.bool true) []) J O:=by
 have r1:=hv.len
 rw [z1n]at r1
 unfold z1k at r1
 repeat' (first|apply zs_|apply zb_|apply zc_|apply zt_ rfl|apply zf_ rfl|(apply zd_ rfl<;>intro ht<;>try omega)|((first|apply zr_|apply zk_|apply ze_|apply zq_|(apply zG<;>intro ht));all_goals try simp (disch:=first|omega|(simp only [lens,z8,zg,lQr,lQm,lQt,lQd,zh,zi,zj,zl,z28,z2j,z2n,z1n];first|done|omega)) only [go_sem,h9,r1]))
 refine zW.loop (fun m J O'=>∃i:Nat,m+i=L.length/\ J 9=v/\ RdSl O' 1 (strs L) v/\ J 11=.int .i64 i) L.length ?_ ?_
 ·exact⟨0,by omega,by simp (disch:=first|omega|(simp only [lens,z8,zg,lQr,lQm,lQt,lQd,zh,zi,zj,zl,z28,z2j,z2n,z1n];first|done|omega)) only [go_sem,h9],hv,by simp (disch:=first|omega|(simp only [lens,z8,zg,lQr,lQm,lQt,lQd,zh,zi,zj,zl,z28,z2j,z2n,z1n];first|done|omega)) only [go_sem];rfl⟩
 ·rintro m J O' ⟨i,hm,q9,hv,q11⟩
  by_cases hi:i<L.length
  ·have hg:=zm6 hi
   have hsl:(L.getD i []).length<100000000:=by
    rw [List.getD_eq_getElem?_getD,List.getElem?_eq_getElem hi];exact hL _ (List.getElem_mem hi)
   have h1:=fun O=>zn4 O (L.getD i []) (by omega)
   have h2:=fun O=>ztz O (L.getD i []) (by omega)
   obtain⟨e,k,ek,ok⟩:=zp6 (L.getD i [])
   simp only [ek]at h1 h2
   have hs:=fun O=>zu0 O e e _ _ _ _ _ _ (z3m 32 (hr e.a.p)) (z3m 32 (hr e.b.p)) (z3m 32 (hr e.p)) ok (z3m 32 (hr e.a.p)) (z3m 32 (hr e.b.p)) (z3m 32 (hr e.p)) ok
   rw [zp8]at hs
   have hel:=zj e (zu 32 (hr e.a.p)) (zu 32 (hr e.b.p)) (zu 32 (hr e.p))
   have hO6:evO.drop 106=[]:=z1p _ _ _ _
   generalize zu 32 (hr e.a.p)=xA at*
   generalize zu 32 (hr e.b.p)=xB at*
   generalize zu 32 (hr e.p)=xP at*
   generalize L.getD i []=s at*
   have hll:=z1n L
   rcases hv with(⟨rfl,hn⟩| ⟨ex,rfl⟩)| ⟨q,off,lim,o,rfl,ho,hlo,hoe⟩
   ·rw [hn]at hg;simp at hg
   ·repeat' (first|apply zs_|apply zb_|apply zc_|apply zt_ rfl|apply zf_ rfl|(apply zd_ rfl<;>intro ht<;>try omega)|((first|apply zr_|apply zk_|apply ze_|apply zq_|(apply callW.mk_pu;(first|exact(fun _=>h1 _)|exact(fun _=>h2 _)|exact(fun _=>hs _)))|(apply callW.za;(first|exact(h1 _)|exact(h2 _)|exact(hs _)))|(apply zG<;>intro ht));all_goals try simp (disch:=first|omega|(simp only [lens,z8,zg,lQr,lQm,lQt,lQd,zh,zi,zj,zl,z28,z2j,z2n,z1n];first|done|omega)) only [go_sem,q9,q11,r1,hg,hll,hel,hO6,List.append_nil,bne_self_eq_false]))
    exact⟨L.length-(i+1),by omega,i+1,by omega,.inl (.inr ⟨ex,rfl⟩),by simp⟩
   ·have hgo:o[off+i]? =some [.str s]:=by
     rw [<-hoe,List.getElem?_take,if_pos (by rw [hll];omega),List.getElem?_drop]at hg
     exact hg
    have hq:=slen ho
    have hzo:((off:Int)+i).toNat=off+i:=by omega
    repeat' (first|apply zs_|apply zb_|apply zc_|apply zt_ rfl|apply zf_ rfl|(apply zd_ rfl<;>intro ht<;>try omega)|((first|apply zr_|apply zk_|apply ze_|apply zq_|(apply callW.mk_pu;(first|exact(fun _=>h1 _)|exact(fun _=>h2 _)|exact(fun _=>hs _)))|(apply callW.za;(first|exact(h1 _)|exact(h2 _)|exact(hs _)))|(apply zG<;>intro ht));all_goals try simp (disch:=first|omega|(simp only [lens,z8,zg,lQr,lQm,lQt,lQd,zh,zi,zj,zl,z28,z2j,z2n,z1n];first|done|omega)) only [go_sem,q9,q11,r1,hgo,ho,hq,hll,hel,hO6,List.append_nil,bne_self_eq_false]))
    refine⟨L.length-(i+1),by omega,i+1,by omega,.inr ⟨q,off,lim,o,by rw [hll],?_,hlo,hoe⟩,by simp⟩
    rw [List.getElem?_append_left (by omega)];exact ho
  ·rcases hv with(⟨rfl,hn⟩| ⟨ex,rfl⟩)| ⟨q,off,lim,o,rfl,ho,hlo,hoe⟩
   all_goals
    repeat' (first|apply zs_|apply zb_|apply zc_|apply zt_ rfl|apply zf_ rfl|(apply zd_ rfl<;>intro ht<;>try omega)|((first|apply zr_|apply zk_|apply ze_|apply zq_|(apply callW.mk_pu;(first|exact(fun _=>z8i _)))|(apply callW.za;(first|exact(z8i _)))|(apply zG<;>intro ht));all_goals try simp (disch:=first|omega|(simp only [lens,z8,zg,lQr,lQm,lQt,lQd,zh,zi,zj,zl,z28,z2j,z2n,z1n];first|done|omega)) only [go_sem,q9,q11,r1]))
    exact DownV.pure (τ:=[]) hw (z15 _ rfl)
attribute [local irreducible] zew
set_option maxRecDepth 20000 in
theorem zn6(e:Rev)(x y z:AV)(b:List UInt8)(a0 a1:Int)(hx:SlV 32 (hr e.a.p) x)(hy:SlV 32 (hr e.b.p) y)(hz:SlV 32 (hr e.p) z)(ha:mOk e.a)(hb:mOk e.b)(h0:0<=a0/\ a0<=65535)(h1:0<=a1/\ a1<=65535):
  ACallsTo TC 4 [.agg (rvX e x y z),.str b,.agg [.int .u16 a0,.int .u16 a1]] [] (.bool true) []:=by
 have hG:=fun O=>zn5 O e x y z (.of hx) (.of hy) (.of hz)
 have l1:=z2n e x y z
 refine ACallsTo.of_body q24ok (by simp) fun hw _=> ?_
 cases g1:rvGr e with
 |true=>
  rw [g1]at hG
  repeat' (first|apply zs_|apply zb_|apply zc_|apply zt_ rfl|apply zf_ rfl|(apply zd_ rfl<;>intro ht<;>try omega)|((first|apply zr_|apply zk_|apply ze_|apply zq_|(apply callW.mk_pu;(first|exact(fun _=>hG _)|exact(fun _=>z8i _)))|(apply callW.za;(first|exact(hG _)|exact(z8i _)))|(apply zG<;>intro ht));all_goals try simp (disch:=first|omega|(simp only [lens,z8,zg,lQr,lQm,lQt,lQd,zh,zi,zj,zl,z28,z2j,z2n,z1n];first|done|omega)) only [go_sem,l1]))
  exact DownV.pure (τ:=[]) hw (z15 _ rfl)
 |false=>
 rw [g1]at hG
 by_cases hbl:(b.length:Int)>300
 ·repeat' (first|apply zs_|apply zb_|apply zc_|apply zt_ rfl|apply zf_ rfl|(apply zd_ rfl<;>intro ht<;>try omega)|((first|apply zr_|apply zk_|apply ze_|apply zq_|(apply callW.mk_pu;(first|exact(fun _=>hG _)|exact(fun _=>z8i _)))|(apply callW.za;(first|exact(hG _)|exact(z8i _)))|(apply zG<;>intro ht));all_goals try simp (disch:=first|omega|(simp only [lens,z8,zg,lQr,lQm,lQt,lQd,zh,zi,zj,zl,z28,z2j,z2n,z1n];first|done|omega)) only [go_sem,l1,hbl]))
  exact DownV.pure (τ:=[]) hw (z15 _ rfl)
 have hO:=fun O=>EOf_to O e x y z hx hy hz ha hb g1
 have hP:=fun O=>zf3 O (evR e) x y z (.of hx) (.of hy) (.of hz) (evOk_R g1)
 obtain⟨T,i,hT,hTl⟩:∃(T:List UInt8) (i:Int),z9y (evR e)=.tup [.str T,.int .i64 i]/\ T.length<10000000:=by
  unfold z9y
  split
  ·rename_i hv
   exact⟨_,_,rfl,(zob hv).1⟩
  ·exact⟨_,_,rfl,by decide⟩
 simp only [hT]at hP
 have hm0:0<=a0%((T.length:Int)+1)/\ a0%((T.length:Int)+1)<=T.length:=by
  have k1:=Int.emod_nonneg a0 (b:=(T.length:Int)+1) (by omega)
  have k2:=Int.emod_lt_of_pos a0 (b:=(T.length:Int)+1) (by omega)
  omega
 have hT1:((T.length:Int)+1) ≠ 0:=by omega
 have hel:=zj (evR e) x y z
 by_cases hz:T=[]
 ·subst hz
  have hmz:a0%1=0:=by omega
  have hr0:z18 .rem .i64 a0 1=some (.int .i64 0):=by rw [zjc];simp [hmz]
  repeat' (first|apply zs_|apply zb_|apply zc_|apply zt_ rfl|apply zf_ rfl|(apply zd_ rfl<;>intro ht<;>try omega)|((first|apply zr_|apply zk_|apply ze_|apply zq_|(apply callW.mk_pu;(first|exact(fun _=>hG _)|exact(fun _=>hO _)|exact(fun _=>hP _)))|(apply callW.za;(first|exact(hG _)|exact(hO _)|exact(hP _)))|(apply zG<;>intro ht));all_goals try simp (disch:=first|omega|(simp only [lens,z8,zg,lQr,lQm,lQt,lQd,zh,zi,zj,zl,z28,z2j,z2n,z1n];first|done|omega)) only [go_sem,l1,hbl,hT1,hm0,hmz,hr0,hel]))
  exact zgk hw _ _ (.vsl 1 (strs [b,[],b,[]]) true) [b,[],b,[]] (by rfl) (.of (.inr ⟨true,rfl⟩)) (by
   intro t ht
   simp only [List.mem_cons,List.not_mem_nil,or_false]at ht
   rcases ht with rfl|rfl|rfl|rfl
   ·omega
   ·exact Nat.lt_of_le_of_lt (Nat.le_refl 0) (by decide)
   ·omega
   ·exact Nat.lt_of_le_of_lt (Nat.le_refl 0) (by decide)) (by simp)
 ·have hTn:(T.length:Int)>0:=by
   have:T.length ≠ 0:=by simpa using hz
   omega
  have hTn0:(T.length:Int) ≠ 0:=by omega
  have hk1:0<=a0%(T.length:Int)/\ a0%(T.length:Int)<T.length:=⟨Int.emod_nonneg a0 hTn0,Int.emod_lt_of_pos a0 (by omega)⟩
  obtain⟨c,hc8⟩:∃c:UInt8,a1%256=c.toNat:=⟨UInt8.ofNat a1.toNat,by rw [UInt8.toNat_ofNat'];omega⟩
  obtain⟨M,hM,hM0⟩:∃M:Int,(if (T.length:Int)<60 then(T.length:Int)else 60)=M/\ (0<M/\ M<=T.length):=⟨_,rfl,by split<;>omega⟩
  have hk3:0<=a0%M/\ a0%M<T.length:=⟨Int.emod_nonneg a0 (by omega),by have:=Int.emod_lt_of_pos a0 hM0.1;omega⟩
  have hMn:M ≠ 0:=by omega
  generalize hkk:a0%(T.length:Int)=k at*
  generalize hk4:a0%M=k2 at*
  repeat' (first|apply zs_|apply zb_|apply zc_|apply zt_ rfl|apply zf_ rfl|(apply zd_ rfl<;>intro ht<;>try omega)|((first|apply zr_|apply zk_|apply ze_|apply zq_|(apply callW.mk_pu;(first|exact(fun _=>hG _)|exact(fun _=>hO _)|exact(fun _=>hP _)))|(apply callW.za;(first|exact(hG _)|exact(hO _)|exact(hP _)))|(apply zG<;>intro ht));all_goals try simp (disch:=first|omega|(simp only [lens,z8,zg,lQr,lQm,lQt,lQd,zh,zi,zj,zl,z28,z2j,z2n,z1n];first|done|omega)) only [go_sem,l1,hbl,hT1,hm0,hTn,hTn0,hk1,hk3,hkk,hk4,hc8,hM,hMn,hel]))
  refine zgk hw _ _ (.sl 5 0 6 none 1) [b,T,T++b,T.take (a0%((T.length:Int)+1)).toNat,T.set k.toNat (UInt8.ofNat c.toNat),T.set k2.toNat (UInt8.ofNat c.toNat)] (by rfl) (.inr ⟨5,0,none,_,rfl,rfl,by simp [strs],rfl⟩) ?_ (by simp)
  intro t ht
  simp only [List.mem_cons,List.not_mem_nil,or_false]at ht
  rcases ht with rfl|rfl|rfl|rfl|rfl|rfl
  ·omega
  ·omega
  ·rw [List.length_append];omega
  ·rw [List.length_take];omega
  ·rw [List.length_set];omega
  ·rw [List.length_set];omega
theorem EvidenceGet_law(avs:List AV)(h:z9f [zf8,.str,.row [.int .u16,.int .u16]] avs):ACallsTo TC 4 avs [] (.bool true) []:=by
 simp only [z9f]at h
 obtain⟨_,_,rfl,h1,_,_,rfl,h2,_,_,rfl,h3,rfl⟩:=h
 obtain⟨e,x,y,z,rfl,hx,hy,hz,ha,hb,_⟩:=rev_h h1
 obtain⟨b,rfl,_⟩:=zvp h2
 simp only [Sh,z3p,ShC]at h3
 obtain⟨_,rfl,_,_,rfl,⟨a0,rfl,p1,p2⟩,_,_,rfl,⟨a1,rfl,p3,p4⟩,rfl⟩:=h3
 simp only [IntKind.min,IntKind.max,IntKind.signed,IntKind.bits]at p1 p2 p3 p4
 simp at p1 p2 p3 p4
 exact zn6 e x y z b a0 a1 hx hy hz ha hb ⟨p1,p2⟩ ⟨p3,p4⟩
end
end Am
end Go.Proofs.YtlfpiblipmiobaaGreatDoor
section
/- What a law with the laid tables of sha begins with. -/
namespace Go.Proofs.YtlfpiblipmiobaaGreatDoor.LawDoor
open Go.ChangeShapes Go.WideShapes Go.ChangeAt Go.RowKit
theorem own:ownKnob Tryz.prog.godebug=none:=by kernel_rfl
theorem zrn:laidOutB Tryz.prog=true:=by kernel_rfl
def za8:List (String × DataW Unit):=[("speculum/sha.first",Rows.laid_speculum_sha_first),("speculum/sha.rounds",Rows.laid_speculum_sha_rounds)]
set_option maxRecDepth 100000
theorem zp2(os:Os)(args:Array Value):laidMetH Tryz.prog za8 ((World.doorLaid Tryz.prog 400 os).forCall (fun _ _=>0) ⟨#[],args,[]⟩).memory:=
 laidMetH_of_parts3 (fuel:=8) (laidMet_of_run' 8 (by kernel_rfl) (by kernel_rfl)) (by kernel_rfl) (by kernel_rfl)
theorem rel_of{W:World}(h:laidMetH Tryz.prog za8 W):Am.Rel Am.TC [] [] W:=by
 rw [MakeChecks.laidMetH_plain _ _ _ (by kernel_rfl)]at h
 obtain⟨ps,⟨g0,t0,cs0,f0,p0,q0,hg0,ht0,hv0,hd0,⟨g1,t1,cs1,f1,p1,q1,hg1,ht1,hv1,hd1,_,_⟩,_⟩,_,_⟩:=h
 have v0:=Am.vp_of_var (P:=Tryz.prog) (n:= "speculum/sha.first") (g:=0) (t:=181) (e:=179) (m:=8) (k:=.u32) Am.shaFirst (by kernel_rfl) (by kernel_rfl) (by kernel_rfl) (by kernel_rfl) (by kernel_rfl) (by kernel_rfl) hg0 ht0 hv0 hd0
 have v1:=Am.vp_of_var (P:=Tryz.prog) (n:= "speculum/sha.rounds") (g:=1) (t:=180) (e:=179) (m:=64) (k:=.u32) Am.shaRounds (by kernel_rfl) (by kernel_rfl) (by kernel_rfl) (by kernel_rfl) (by kernel_rfl) (by kernel_rfl) hg1 ht1 hv1 hd1
 refine⟨rfl,fun r o h=>by simp at h,fun r h=>by simp at h,fun r r' pl pl' h=>by simp at h,fun g cs h=> ?_⟩
 simp only [Am.TC]at h
 split at h
 ·rename_i hg;subst hg;cases h;exact v0
 ·split at h
  ·rename_i hg;subst hg;cases h;exact v1
  ·cases h
end Go.Proofs.YtlfpiblipmiobaaGreatDoor.LawDoor
end
