import Derived.Test.YtkiimfgjimoffaaDoorK41e6ab8a8
import Derived.Test.YtkiimfgjimoffaaDoorK20b64ab36
import Derived.Test.YtkiimfgjimoffaaDoorRows
import Derived.Test.YtkiimfgjimoffaaDoorCards
import Derived.Test.YtkiimfgjimoffaaDoorTie
import Derived.ProofKit
import Derived.LaidMore
import Derived.OpenShut
import Derived.Stop.Joined
import Derived.SevenTiedAt
import Derived.MakeChecks
set_option linter.unusedSimpArgs false
set_option linter.unusedVariables false
open Nat (reduceEqDiff reduceAdd reduceMul reduceSub reduceLeDiff)
open Int (reduceToNat reducePow)
open Nat renaming reduceEqDiff -> nQ1, reduceBEq -> nQ2, reduceAdd -> nQ3, reduceMul -> nQ4, reduceSub -> nQ5, reduceLeDiff -> nQ6
open Int renaming reduceToNat -> nQ7, reducePow -> nQ8
open List renaming length_reverse -> lQr, length_map -> lQm, length_take -> lQt, length_drop -> lQd, length_set -> lQs
set_option maxHeartbeats 16000000
attribute [local go_sem_proc] Nat.reduceEqDiff Nat.reduceBEq Nat.reduceAdd Nat.reduceMul Nat.reduceSub Nat.reduceLeDiff Int.reduceToNat Int.reducePow
namespace Go.Proofs.YtkiimfgjimoffaaDoor
namespace Am
section
abbrev HV2:=Hdr × AV
def hw2(P:List HV2):List (List AV):=P.map fun p=>sgC p.1.n p.1.r p.1.i p.1.s p.2
theorem z10(P:List HV2):(hw2 P).length=P.length:=by simp [hw2]
theorem zmt{P:List HV2}{i:Nat}(h:i<P.length):(hw2 P)[i]? =some (sgC P[i].1.n P[i].1.r P[i].1.i P[i].1.s P[i].2):=by
 simp [hw2,List.getElem?_eq_getElem h]
def z3j(s:Hdr)(q:HV2):Bool:=decide (q.1.n=s.n/\ q.1.r=s.r)
def idxH(P:List HV2)(s:Hdr):Int:=match P.findIdx? (z3j s)with|some i=>(i:Int)|none=> -1
theorem zn6(P:List HV2)(s:Hdr):decide (idxH P s>=0)=P.any (z3j s):=by
 unfold idxH
 cases h:P.findIdx? (z3j s)with
 |none=>
  rw [List.findIdx?_eq_none_iff]at h
  have:P.any (z3j s)=false:=by
   rw [List.any_eq_false]
   intro x hx
   simp [h x hx]
  rw [this];rfl
 |some i=>
  rw [List.findIdx?_eq_some_iff_getElem]at h
  obtain⟨hi,h1,_⟩:=h
  have:P.any (z3j s)=true:=List.any_eq_true.2 ⟨_,List.getElem_mem hi,h1⟩
  rw [this]
  show decide ((i:Int)>=0)=true
  exact decide_eq_true (by omega)
theorem zn7{P:List HV2}{f:HV2->Bool}{i:Nat}(hi:i<P.length):(P.drop i).findIdx? f=if f P[i]=true then some 0 else((P.drop (i+1)).findIdx? f).map (· +1):=by
 rw [List.drop_eq_getElem_cons hi,List.findIdx?_cons]
theorem zt4(seed:List UInt8)(dg x:Hash)(hx:zx (keyL seed) ≠ x):verI x dg (0:Nat) (ksgS seed (0:Nat) dg.1) (z1n (keyL seed) 0) ≠ 0:=by
 have hc:chkP (hd (keyL seed) 0) (0:Nat) 8 (z1n (keyL seed) 0) x ≠ 0:=by
  obtain⟨a,b,c,d,e,f,g,h,hK⟩:=len8 (z2f seed)
  rw [hK]at hx ⊢
  rw [zdf]at hx
  obtain⟨p0,_⟩:=zhc a b c d e f g h
  rw [p0,z49 0 (by omega),if_neg]
  ·decide
  ·exact fun e=>hx (by rw [<-e];simp [z2c,hd])
 unfold verI
 rw [if_neg (by omega),if_pos (zaa _ _ _),zhr,<-zgi seed 0 (by omega),if_neg hc]
 decide
theorem zo1(seed:List UInt8)(x:Hash)(M:List (List UInt8))(hM:M.length<=4096)(hx:zx (keyL seed) ≠ x):z4d x (mkH seed 0 M).n (mkH seed 0 M).i (mkH seed 0 M).r (mkH seed 0 M).s (mkH seed 0 M).p ≠ 0:=by
 have hv:z7l (mkH seed 0 M).n (mkH seed 0 M).i (mkH seed 0 M).s (mkH seed 0 M).p=true:=decide_eq_true ⟨by simp only [mkH];omega,by simp only [mkH];omega,by simp only [mkH];omega,by simp only [mkH];omega,zaa _ _ _,zah _ _⟩
 unfold z4d
 have e:(if verI x (digH (mkH seed 0 M).n (mkH seed 0 M).r) (mkH seed 0 M).i (mkH seed 0 M).s (mkH seed 0 M).p=0 then(0:Int)else 81)=81:=if_neg (zt4 seed _ x hx)
 rw [hv,if_neg (by simp),e]
 decide
def z39(key:Hash)(h:Hdr)(P:List HV2):Bool:=decide (z4d key h.n h.i h.r h.s h.p=0) && !P.any (z3j h)
attribute [local irreducible] ACallsTo ACallsP
theorem zjo(O:Store)(q s:Hdr)(x y:AV)(p:Nat)(hp:O[p]? =some (some [sgC s.n s.r s.i s.s y])):
  ACallsTo TC 39 [.agg (sgC q.n q.r q.i q.s x),.ptr p 0 0] O (.bool (decide (q.n=s.n/\ q.r=s.r))) O:=by
 have d:=slen hp
 have he:=sg_eq q.n s.n q.r s.r
 refine ACallsTo.of_body q1sok (by simp) fun hw _=> ?_
 repeat' (first|apply zs_|apply zb_|apply zc_|apply zt_ rfl|apply zf_ rfl|(apply zd_ rfl<;>intro ht<;>try omega)|((first|apply zr_|apply zk_|apply ze_|apply zq_|(apply zG<;>intro ht));all_goals try simp (disch:=first|omega|(simp only [lens,z7,z6,lQr,lQm,lQt,lQd,zg,z8,zh,zi,zu,z10];first|done|omega)) only [go_sem,hp,he]))
 exact DownV.pure hw (z19 _ rfl)
theorem zjq(O:Store)(P:List HV2)(v:AV)(s:Hdr)(y:AV)(p:Nat)(hv:SlV 36 (hw2 P) v)(hp:O[p]? =some (some [sgC s.n s.r s.i s.s y]))(hl:P.length<1000000):
  ACallsTo TC 58 [v,.fn 39 [.ptr p 0 0]] O (.int .i64 (idxH P s)) O:=by
 have r1:=hv.len
 rw [z10]at r1
 unfold z1e at r1
 have d:=slen hp
 refine ACallsTo.of_body q1uok (by simp) fun hw _=> ?_
 repeat' (first|apply zs_|apply zb_|apply zc_|apply zt_ rfl|apply zf_ rfl|(apply zd_ rfl<;>intro ht<;>try omega)|((first|apply zr_|apply zk_|apply ze_|apply zq_|(apply zG<;>intro ht));all_goals try simp (disch:=first|omega|(simp only [lens,z7,z6,lQr,lQm,lQt,lQd,zg,z8,zh,zi,zu,z10];first|done|omega)) only [go_sem,r1]))
 refine zW.loop (fun m Z O'=>∃i:Nat,m+i=P.length/\ O'=O/\ P.findIdx? (z3j s)=((P.drop i).findIdx? (z3j s)).map (· +i)/\ Z 0=v/\ Z 1=.fn 39 [.ptr p 0 0]/\ Z 7=.int .i64 P.length/\ Z 8=.int .i64 i) P.length ?_ ?_
 ·exact⟨0,by omega,rfl,by simp,by simp (disch:=first|omega|(simp only [lens,z7,z6,lQr,lQm,lQt,lQd,zg,z8,zh,zi,zu,z10];first|done|omega)) only [go_sem],by simp (disch:=first|omega|(simp only [lens,z7,z6,lQr,lQm,lQt,lQd,zg,z8,zh,zi,zu,z10];first|done|omega)) only [go_sem],by simp (disch:=first|omega|(simp only [lens,z7,z6,lQr,lQm,lQt,lQd,zg,z8,zh,zi,zu,z10];first|done|omega)) only [go_sem],by simp (disch:=first|omega|(simp only [lens,z7,z6,lQr,lQm,lQt,lQd,zg,z8,zh,zi,zu,z10];first|done|omega)) only [go_sem];rfl⟩
 ·rintro m Z O' ⟨i,hm,rfl,hF,q0,q1,q7,q8⟩
  by_cases hi:i<P.length
  ·obtain⟨ex,rfl⟩:=hv.vsl (by rw [z10];omega)
   have hg:=zmt hi
   have l1:=z10 P
   rw [zn7 hi]at hF
   have hc:=zjo O' P[i].1 s P[i].2 y p hp
   have hx:z3j s P[i]=decide (P[i].1.n=s.n/\ P[i].1.r=s.r):=rfl
   rw [hx]at hF
   generalize P[i]=q at*
   have hsl:=zg q.1.n q.1.r q.1.i q.1.s q.2
   by_cases hs:q.1.n=s.n/\ q.1.r=s.r
   ·rw [decide_eq_true hs,if_pos rfl]at hF
    rw [decide_eq_true hs]at hc
    have hr:idxH P s=(i:Int):=by unfold idxH;rw [hF];simp
    rw [hr]
    repeat' (first|apply zs_|apply zb_|apply zc_|apply zt_ rfl|apply zf_ rfl|(apply zd_ rfl<;>intro ht<;>try omega)|((first|apply zr_|apply zk_|apply ze_|apply zq_|(apply callW.mk_pu;(first|exact(fun _=>hc)))|(apply callW.za;(first|exact(hc)))|(apply zG<;>intro ht));all_goals try simp (disch:=first|omega|(simp only [lens,z7,z6,lQr,lQm,lQt,lQd,zg,z8,zh,zi,zu,z10];first|done|omega)) only [go_sem,q0,q1,q7,q8,hg,l1,hsl]))
    exact DownV.same hw z3h
   ·rw [decide_eq_false hs,if_neg (by simp),Option.map_map]at hF
    rw [decide_eq_false hs]at hc
    repeat' (first|apply zs_|apply zb_|apply zc_|apply zt_ rfl|apply zf_ rfl|(apply zd_ rfl<;>intro ht<;>try omega)|((first|apply zr_|apply zk_|apply ze_|apply zq_|(apply callW.mk_pu;(first|exact(fun _=>hc)))|(apply callW.za;(first|exact(hc)))|(apply zG<;>intro ht));all_goals try simp (disch:=first|omega|(simp only [lens,z7,z6,lQr,lQm,lQt,lQd,zg,z8,zh,zi,zu,z10];first|done|omega)) only [go_sem,q0,q1,q7,q8,hg,l1,hsl]))
    exact⟨m-1,by omega,i+1,by omega,by rw [hF];congr 1;funext k;simp only [Function.comp];omega,by simp⟩
  ·obtain rfl:i=P.length:=by omega
   have hr:idxH P s= -1:=by unfold idxH;rw [hF,List.drop_length];rfl
   rw [hr]
   repeat' (first|apply zs_|apply zb_|apply zc_|apply zt_ rfl|apply zf_ rfl|(apply zd_ rfl<;>intro ht<;>try omega)|((first|apply zr_|apply zk_|apply ze_|apply zq_|(apply zG<;>intro ht));all_goals try simp (disch:=first|omega|(simp only [lens,z7,z6,lQr,lQm,lQt,lQd,zg,z8,zh,zi,zu,z10];first|done|omega)) only [go_sem,q0,q1,q7,q8]))
   exact DownV.same hw z3h
theorem z9a(O:Store)(key:Hash)(h:Hdr)(x:AV)(P:List HV2)(v:AV)(hx:SlV 32 (hr h.p) x)(hv:SlV 36 (hw2 P) v)(hl:P.length<1000000):
  ACallsTo TC 18 [.agg (hc key),.agg (sgC h.n h.r h.i h.s x),v] O (.bool (z39 key h P)) O:=by
 have hC:=fun O=>zjp O key h.n h.i h.r h.s h.p x (.of hx)
 have hkl:=z7 key
 have hsl:=zg h.n h.r h.i h.s x
 have hI:∀τ,ACallsTo TC 38 [v,.fn 39 [.ptr (O.length+1) 0 0]] (O++some [hc key]::some [sgC h.n h.r h.i h.s x]::τ) (.bool (P.any (z3j h))) (O++some [hc key]::some [sgC h.n h.r h.i h.s x]::τ):=by
  intro τ
  have hp:(O++some [hc key]::some [sgC h.n h.r h.i h.s x]::τ)[O.length+1]? =some (some [sgC h.n h.r h.i h.s x]):=by rw [z1k (by omega),Nat.add_sub_cancel_left];rfl
  have hi:=zjq _ P v h x (O.length+1) hv hp hl
  have hge:=zn6 P h
  generalize idxH P h=k at*
  generalize (O++some [hc key]::some [sgC h.n h.r h.i h.s x]::τ)=O1 at*
  refine ACallsTo.of_body q1rok (by simp) fun hw _=> ?_
  repeat' (first|apply zs_|apply zb_|apply zc_|apply zt_ rfl|apply zf_ rfl|(apply zd_ rfl<;>intro ht<;>try omega)|((first|apply zr_|apply zk_|apply ze_|apply zq_|(apply callW.mk_pu;(first|exact(fun _=>hi)))|(apply callW.za;(first|exact(hi)))|(apply zG<;>intro ht));all_goals try simp (disch:=first|omega|(simp only [lens,z7,z6,lQr,lQm,lQt,lQd,zg,z8,zh,zi,zu,z10];first|done|omega)) only [go_sem,hge]))
  exact DownV.same hw z2h
 unfold z39
 refine ACallsTo.of_body q1ook (by simp) fun hw _=> ?_
 by_cases hc0:z4d key h.n h.i h.r h.s h.p=0
 ·rw [decide_eq_true hc0]
  rw [hc0]at hC
  repeat' (first|apply zs_|apply zb_|apply zc_|apply zt_ rfl|apply zf_ rfl|(apply zd_ rfl<;>intro ht<;>try omega)|((first|apply zr_|apply zk_|apply ze_|apply zq_|(apply callW.mk_pu;(first|exact(fun _=>hC _)|exact(fun _=>hI [])))|(apply callW.za;(first|exact(hC _)|exact(hI [])))|(apply zG<;>intro ht));all_goals try simp (disch:=first|omega|(simp only [lens,z7,z6,lQr,lQm,lQt,lQd,zg,z8,zh,zi,zu,z10];first|done|omega)) only [go_sem,hkl,hsl]))
  exact DownV.pure hw z2h
 ·rw [decide_eq_false hc0]
  generalize z4d key h.n h.i h.r h.s h.p=c at*
  repeat' (first|apply zs_|apply zb_|apply zc_|apply zt_ rfl|apply zf_ rfl|(apply zd_ rfl<;>intro ht<;>try omega)|((first|apply zr_|apply zk_|apply ze_|apply zq_|(apply callW.mk_pu;(first|exact(fun _=>hC _)))|(apply callW.za;(first|exact(hC _)))|(apply zG<;>intro ht));all_goals try simp (disch:=first|omega|(simp only [lens,z7,z6,lQr,lQm,lQt,lQd,zg,z8,zh,zi,zu,z10];first|done|omega)) only [go_sem,hkl,hsl,hc0]))
  exact DownV.pure hw z2h
theorem zbx(A:List (List UInt8)):z2k A A=none:=by rw [zby,if_pos (.inr (.inr rfl))]
def witC(f:Bool):List AV:=[.str [],.str [],.bool f]
theorem zel(O:Store)(key:Hash)(h:Hdr)(x:AV)(P:List HV2)(v:AV)(L M:List (List UInt8))(y z:AV)(hx:SlV 32 (hr h.p) x)(hv:SlV 36 (hw2 P) v)(hl:P.length<1000000)(hy:SlV 1 (strs L) y)(hz:SlV 1 (strs M) z)(hL:TxtOk L)(hM:M.length<=L.length)(hp:L.take M.length=M):
  ACallsTo TC 15 [.agg (hc key),y,v,z,.agg (sgC h.n h.r h.i h.s x)] O (.tup [.agg (witC (z39 key h P)),.bool (z39 key h P)]) O:=by
 have hF:=fun O=>z9a O key h x P v hx hv hl
 have hkl:=z7 key
 have hsl:=zg h.n h.r h.i h.s x
 have r1:=hy.len
 have r2:=hz.len
 rw [z8]at r1 r2
 unfold z1e at r1 r2
 have hMo:TxtOk M:=by rw [<-hp];exact hL.take _
 have hle:¬(M.length:Int)>L.length:=by omega
 unfold witC
 cases hb:z39 key h P with
 |true=>
  rw [hb]at hF
  refine ACallsTo.of_body q1nok (by simp) fun hw _=> ?_
  repeat' (first|apply zs_|apply zb_|apply zc_|apply zt_ rfl|apply zf_ rfl|(apply zd_ rfl<;>intro ht<;>try omega)|((first|apply zr_|apply zk_|apply ze_|apply zq_|(apply callW.mk_pu;(first|exact(fun _=>hF _)))|(apply callW.za;(first|exact(hF _)))|(apply zG<;>intro ht));all_goals try simp (disch:=first|omega|(simp only [lens,z7,z6,lQr,lQm,lQt,lQd,zg,z8,zh,zi,zu,z10];first|done|omega)) only [go_sem,hkl,hsl,r1,r2]))
  exact DownV.pure hw (by simp [RL,RLs])
 |false=>
  rw [hb]at hF
  have hC:∀O u,SlV 1 (strs M) u->ACallsTo TC 7 [u,z] O (.tup [.str [],.str [],.bool false]) O:=fun O u hu=>by
   have:=z6k O M M u z hu hz hMo hMo
   rw [zbx]at this
   exact this
  have l1:=z8 L
  have tk:=z8y L M.length
  rw [hp]at tk
  refine ACallsTo.of_body q1nok (by simp) fun hw _=> ?_
  rcases hy with⟨rfl,h0⟩| ⟨ex,rfl⟩
  ·have hL0:L.length=0:=by rw [<-z8,h0];rfl
   have hM0:M=[]:=List.eq_nil_of_length_eq_zero (by omega)
   have hC0:=fun O=>hC O .nilsl (.inl ⟨rfl,by rw [hM0];rfl⟩)
   have hMl:M.length=0:=by rw [hM0];rfl
   rw [hMl]at r2
   repeat' (first|apply zs_|apply zb_|apply zc_|apply zt_ rfl|apply zf_ rfl|(apply zd_ rfl<;>intro ht<;>try omega)|((first|apply zr_|apply zk_|apply ze_|apply zq_|(apply callW.mk_pu;(first|exact(fun _=>hF _)|exact(fun _=>hC0 _)))|(apply callW.za;(first|exact(hF _)|exact(hC0 _)))|(apply zG<;>intro ht));all_goals try simp (disch:=first|omega|(simp only [lens,z7,z6,lQr,lQm,lQt,lQd,zg,z8,zh,zi,zu,z10];first|done|omega)) only [go_sem,hkl,hsl,r2]))
   exact DownV.pure hw (by simp [RL,RLs])
  ·have hC0:=fun O u=>hC O (.vsl 1 (strs M) u) (.inr ⟨u,rfl⟩)
   repeat' (first|apply zs_|apply zb_|apply zc_|apply zt_ rfl|apply zf_ rfl|(apply zd_ rfl<;>intro ht<;>try omega)|((first|apply zr_|apply zk_|apply ze_|apply zq_|(apply callW.mk_pu;(first|exact(fun _=>hF _)|exact(fun _=>hC0 _ _)))|(apply callW.za;(first|exact(hF _)|exact(hC0 _ _)))|(apply zG<;>intro ht));all_goals try simp (disch:=first|omega|(simp only [lens,z7,z6,lQr,lQm,lQt,lQd,zg,z8,zh,zi,zu,z10];first|done|omega)) only [go_sem,hkl,hsl,r2,l1,hle,tk]))
   exact DownV.pure hw (by simp [RL,RLs])
end
section
theorem zk5:z25 (shaS [0,97]) (shaS [0,98]) ≠ z25 (shaS [0,97]) (shaS [0,99]):=by decide+kernel
theorem zl8:z2k [[97],[98]] [[97],[99]]=none:=by
 have h:=za0 ([[97],[98]]:List (List UInt8)).length.succ [[97],[98]] [[97],[99]] (by simp) rfl (by simp)
 have hn:¬(([[97],[98]]:List (List UInt8)) ≠ [[97],[99]]/\ zx (lvs [[97],[98]])=zx (lvs [[97],[99]])):=by
  rintro⟨_,e⟩
  have e1:zx [lfH [97],lfH [98]]=zx [lfH [97],lfH [99]]:=e
  rw [zau,zau]at e1
  have e2:=congrArg Subtype.val e1
  simp only [z11,lfH,shaH]at e2
  exact zk5 e2
 have h2:¬(z2k [[97],[98]] [[97],[99]]).isSome=true:=fun e=>hn (h.1 e)
 simpa using h2
theorem zla{A B:List (List UInt8)}(h:A.length ≠ B.length):z2k A B=none:=by rw [zby,if_pos (.inl h)]
theorem zfv(seed:List UInt8)(M:List (List UInt8))(x:AV):z39 (zx (keyL seed)) (mkH seed 0 M) [(mkH seed 0 M,x)]=false:=by
 simp [z39,z3j]
theorem zfu(seed:List UInt8)(M:List (List UInt8))(hM:M.length<=4096):z39 (zx (keyL seed)) (mkH seed 0 M) []=true:=by
 unfold z39
 rw [zo0 seed 0 M (by omega) hM]
 rfl
theorem zmc(M:List (List UInt8))(hM:M.length<=4096):z39 zeroH (mkH [102] 0 M) []=false:=by
 unfold z39
 rw [decide_eq_false (zo1 [102] zeroH M hM (root_f zeroH rfl))]
 rfl
attribute [local irreducible] ACallsTo ACallsP
theorem hcZ:hc zeroH=[.int .u8 0,.int .u8 0,.int .u8 0,.int .u8 0,.int .u8 0,.int .u8 0,.int .u8 0,.int .u8 0,.int .u8 0,.int .u8 0,.int .u8 0,.int .u8 0,.int .u8 0,.int .u8 0,.int .u8 0,.int .u8 0,.int .u8 0,.int .u8 0,.int .u8 0,.int .u8 0,.int .u8 0,.int .u8 0,.int .u8 0,.int .u8 0,.int .u8 0,.int .u8 0,.int .u8 0,.int .u8 0,.int .u8 0,.int .u8 0,.int .u8 0,.int .u8 0]:=rfl
theorem zmd:ACallsTo TC 6 [] [] (.bool true) []:=by
 have ok1:TxtOk [[97],[98]]:=⟨by simp,by simp⟩
 have ok2:TxtOk [[97],[99]]:=⟨by simp,by simp⟩
 have ok3:TxtOk [[97]]:=⟨by simp,by simp⟩
 have ok0:TxtOk []:=⟨by simp,by simp⟩
 have hC1:∀O,ACallsTo TC 7 [.vsl 1 [[.str [97]],[.str [98]]] true,.vsl 1 [[.str [97]],[.str [98]]] true] O (.tup [.str [],.str [],.bool false]) O:=fun O=>by
  have h:=z6k O [[97],[98]] [[97],[98]] (.vsl 1 [[.str [97]],[.str [98]]] true) (.vsl 1 [[.str [97]],[.str [98]]] true) (.inr ⟨true,rfl⟩) (.inr ⟨true,rfl⟩) ok1 ok1
  rw [zbx]at h
  exact h
 have hC2:∀O,ACallsTo TC 7 [.vsl 1 [[.str [97]],[.str [98]]] true,.vsl 1 [[.str [97]],[.str [99]]] true] O (.tup [.str [],.str [],.bool false]) O:=fun O=>by
  have h:=z6k O [[97],[98]] [[97],[99]] (.vsl 1 [[.str [97]],[.str [98]]] true) (.vsl 1 [[.str [97]],[.str [99]]] true) (.inr ⟨true,rfl⟩) (.inr ⟨true,rfl⟩) ok1 ok2
  rw [zl8]at h
  exact h
 have hC3:∀O,ACallsTo TC 7 [.nilsl,.vsl 1 [[.str [97]]] true] O (.tup [.str [],.str [],.bool false]) O:=fun O=>by
  have h:=z6k O [] [[97]] .nilsl (.vsl 1 [[.str [97]]] true) (.inl ⟨rfl,rfl⟩) (.inr ⟨true,rfl⟩) ok0 ok3
  rw [zla (by simp)]at h
  exact h
 have hNew:=fun O=>zhk O [102] (by simp)
 have P0:=zhj [] [102]
 refine ACallsTo.of_body q1lok (by simp) fun hw _=> ?_
 repeat' (first|apply zs_|apply zb_|apply zc_|apply zt_ rfl|apply zf_ rfl|(apply zd_ rfl<;>intro ht<;>try omega)|((first|apply zr_|apply zk_|apply ze_|apply zq_|(apply callW.mk_pu;(first|exact(fun _=>hC1 _)|exact(fun _=>hC2 _)|exact(fun _=>hC3 _)|exact(fun _=>hNew _)))|(apply callW.za;(first|exact(hC1 _)|exact(hC2 _)|exact(hC3 _)|exact(hNew _)))|(apply zG<;>intro ht));all_goals try simp (disch:=first|omega|(simp only [lens,z7,z6,lQr,lQm,lQt,lQd,zg,z8,zh,zw,zi,z10];first|done|omega)) only [go_sem]))
 simp only [List.nil_append,List.length_nil,Nat.zero_add]at P0 ⊢
 have hsl:([102]:List UInt8).length<1000000:=by simp
 have hz0:=fun M hM=>zmc M hM
 generalize ([102]:List UInt8)=seed at*
 generalize [some [z1h true seed (keyL seed)],some [pbC (.ptr 0 0 0) .nilsl .nilsl 0 .nilsl .nilsl]]=O1 at*
 refine callW.mkP (caps:=[]) (zhh _ 1 seed [] [] _ [97] P0 (by simp) (by simp)) (AppendP.is P0) ?_
 rintro v O3 ⟨rfl,own3,fr3,P3⟩
 rw [apL_s (by simp),List.nil_append]at P3
 rw [apE_s (by simp)]
 simp (disch:=first|omega|(simp only [lens,z7,z6,lQr,lQm,lQt,lQd,zg,z8,zh,zw,zi,z10];first|done|omega)) only [go_sem]
 repeat' (first|apply zs_|apply zb_|apply zc_|apply zt_ rfl|apply zf_ rfl|(apply zd_ rfl<;>intro ht<;>try omega)|((first|apply zr_|apply zk_|apply ze_|apply zq_|(apply zG<;>intro ht));all_goals try simp (disch:=first|omega|(simp only [lens,z7,z6,lQr,lQm,lQt,lQd,zg,z8,zh,zw,zi,z10];first|done|omega)) only [go_sem]))
 refine callW.mkP (caps:=[]) (zhl O3 1 seed [[97]] [] own3 P3 (.none1 _ _) (by simp) hsl) (PublishP.is P3) ?_
 rintro v O4 ⟨rfl,own4,fr4,P4⟩
 rw [(puV_1 seed [97]).2]at P4
 rw [(puV_1 seed [97]).1]
 have hma:=zfz (mkH seed 0 [[97]])
 have hml:=zi (mkH seed 0 [[97]])
 have ok4:PubOk seed [[97]] [mkH seed 0 [[97]]]:=.one seed [97] []
 have f1:=zfv seed [[97]] (z18 32 (hr (mkH seed 0 [[97]]).p))
 have f2:=zfu seed [[97]] (by simp)
 have f3:=hz0 [[97]] (by simp)
 generalize mkH seed 0 [[97]]=m at*
 have hF1:∀O,ACallsTo TC 18 [.agg (hc (zx (keyL seed))),.agg (hdrC m),.vsl 36 [hdrC m] false] O (.bool false) O:=fun O=>by
  have h:=z9a O (zx (keyL seed)) m (z18 32 (hr m.p)) [(m,z18 32 (hr m.p))] (.vsl 36 [hdrC m] false) (z40 _ _) (.inr ⟨false,rfl⟩) (by simp)
  rw [f1]at h
  exact h
 have hF2:∀O,ACallsTo TC 18 [.agg (hc (zx (keyL seed))),.agg (hdrC m),.nilsl] O (.bool true) O:=fun O=>by
  have h:=z9a O (zx (keyL seed)) m (z18 32 (hr m.p)) [] .nilsl (z40 _ _) (.inl ⟨rfl,rfl⟩) (by simp)
  rw [f2]at h
  exact h
 have hF3:∀O,ACallsTo TC 18 [.agg [.int .u8 0,.int .u8 0,.int .u8 0,.int .u8 0,.int .u8 0,.int .u8 0,.int .u8 0,.int .u8 0,.int .u8 0,.int .u8 0,.int .u8 0,.int .u8 0,.int .u8 0,.int .u8 0,.int .u8 0,.int .u8 0,.int .u8 0,.int .u8 0,.int .u8 0,.int .u8 0,.int .u8 0,.int .u8 0,.int .u8 0,.int .u8 0,.int .u8 0,.int .u8 0,.int .u8 0,.int .u8 0,.int .u8 0,.int .u8 0,.int .u8 0,.int .u8 0],.agg (hdrC m),.nilsl] O (.bool false) O:=fun O=>by
  have h:=z9a O zeroH m (z18 32 (hr m.p)) [] .nilsl (z40 _ _) (.inl ⟨rfl,rfl⟩) (by simp)
  rw [f3,hcZ]at h
  exact h
 have hKey:=fun y=>(P4.ext (O':=O4++y) ⟨_,rfl⟩).key
 have hHd:=fun y=>(P4.ext (O':=O4++y) ⟨_,rfl⟩).heads ok4
 rw [show z18 36 (hdrs [m])=.vsl 36 [hdrC m] false from rfl]at hHd
 simp (disch:=first|omega|(simp only [lens,z7,z6,lQr,lQm,lQt,lQd,zg,z8,zh,zw,zi,z10];first|done|omega)) only [go_sem,hml]
 repeat' (first|apply zs_|apply zb_|apply zc_|apply zt_ rfl|apply zf_ rfl|(apply zd_ rfl<;>intro ht<;>try omega)|((first|apply zr_|apply zk_|apply ze_|apply zq_|(apply callW.mk_pu;(first|exact(fun _=>hKey _)|exact(fun _=>hHd _)|exact(fun _=>hF1 _)|exact(fun _=>hF2 _)|exact(fun _=>hF3 _)))|(apply callW.za;(first|exact(hKey _)|exact(hHd _)|exact(hF1 _)|exact(hF2 _)|exact(hF3 _)))|(apply zG<;>intro ht));all_goals try simp (disch:=first|omega|(simp only [lens,z7,z6,lQr,lQm,lQt,lQd,zg,z8,zh,zw,zi,z10];first|done|omega)) only [go_sem,hml,hma]))
 exact DownV.pure (τ:=[]) (news:=_) hw (z19 _ rfl)
theorem z8c(O:Store):ACallsTo TC 6 [] O (.bool true) O:=ACallsTo.frame glok zmd (by simp [RLs]) O
theorem zix{x:AV}(h:ShC (.sl 1 .str) [x]):∃(L:List (List UInt8)),SlV 1 (strs L) x/\ L.length<=maxLen:=by
 simp only [ShC]at h
 rcases h with h| ⟨es,h,hl,_,h2⟩
 ·cases h
  exact⟨[],.inl ⟨rfl,rfl⟩,Nat.zero_le _⟩
 ·cases h
  have:∀es:List (List AV),(∀x ∈ es,∃s:List UInt8,x=[.str s]/\ s.length<=maxLen)->∃L,es=strs L:=by
   intro es
   induction es with
   |nil=>intro _;exact⟨[],rfl⟩
   |cons e es ih=>
    intro h
    obtain⟨s,rfl,hs⟩:=h e (by simp)
    obtain⟨L,rfl⟩:=ih fun x hx=>h x (by simp [hx])
    exact⟨s::L,rfl⟩
  obtain⟨L,rfl⟩:=this es h2
  exact⟨L,.inr ⟨false,rfl⟩,by rwa [z8]at hl⟩
theorem zb7{L:List (List UInt8)}(h:z2g L=false):TxtOk L/\ L.length<=60:=by
 unfold z2g at h
 simp only [Bool.or_eq_false_iff,decide_eq_false_iff_not,List.any_eq_false,decide_eq_true_eq]at h
 exact⟨⟨fun s hs=>by have:=h.1 s hs;omega,by omega⟩,by omega⟩
end
section
theorem z8x{L:List (List UInt8)}{i:Nat}(h:i<L.length):L.take (i+1)=L.take i++ [stD L i]:=by
 rw [List.take_succ_eq_append_getElem h];simp [stD,List.getD_eq_getElem?_getD,List.getElem?_eq_getElem h]
theorem zsk{A B:List (List UInt8)}{i:Nat}(ha:i<A.length)(hb:i<B.length)(h:stD A i ≠ stD B i):A ≠ B:=by
 rintro rfl;exact h rfl
theorem puV_ne(seed:List UInt8)(L:List (List UInt8))(h:0<L.length):puV seed L []=.tup [.agg (hdrC (mkH seed 0 L)),.int .i64 0]/\ puH seed L []=[mkH seed 0 L]:=by
 have e:puE L []=0:=by
  unfold puE
  rw [if_neg (by simp),if_neg (by simp [pubN];intro e;subst e;simp at h)]
 exact⟨by unfold puV;rw [e,if_pos rfl];rfl,by unfold puH;rw [e,if_pos rfl];rfl⟩
theorem zi9{O:Store}{v:AV}{o:Option Nat}{es ys:List (List AV)}(h:RowAt 32 O o v es)(h0:ys.length ≠ 0)(hl:es.length+ys.length<=1073741824):
  ∃v' O2,aApp O 32 v ys=some (v',O2)/\ RowAt 32 O2 (some O.length) v' (es++ys)/\ ∀j,j<O.length->o ≠ some j->O2[j]? =O[j]?:=by
 have hne:es++ys ≠ []:=fun e=>h0 (by rw [(List.append_eq_nil_iff.1 e).2];rfl)
 rcases h with⟨rfl,rfl,rfl⟩| ⟨r,rfl,hs,rfl,hg⟩
 ·exact⟨.sl O.length 0 ys.length none 32,O++ [some ys],by rw [z7y,if_neg h0,if_pos (by simpa using hl)],.inr ⟨O.length,rfl,hne,by simp,by simp⟩,fun j hj _=>gapp hj⟩
 ·have hr:=slen hg
  refine⟨.sl O.length 0 (es.length+ys.length) none 32,O.set r none++ [some (es++ys)],?_,.inr ⟨O.length,rfl,hne,by simp,by rw [z1k (by simp)];simp⟩,fun j hj hjo=>by rw [gapp (by simpa using hj),z1r (fun e=>hjo (by rw [e]))]⟩
  rw [z7z,if_neg h0,hg]
  simp only
  rw [if_pos ⟨trivial,by omega,by omega⟩,if_neg (by omega),List.drop_zero,List.take_of_length_le (Nat.le_refl _)]
def Two(O:Store)(va vb:AV)(es fs:List (List AV)):Prop:=∃oa ob,RowAt 32 O oa va es/\ RowAt 32 O ob vb fs/\ ∀q,oa=some q->ob ≠ some q
theorem Two.step{O:Store}{va vb:AV}{es fs ys zs:List (List AV)}(h:Two O va vb es fs)(hy:ys.length ≠ 0)(hz:zs.length ≠ 0)(hl:es.length+ys.length<=1073741824)(hm:fs.length+zs.length<=1073741824):
  ∃va' O2 vb' O3,aApp O 32 va ys=some (va',O2)/\ aApp O2 32 vb zs=some (vb',O3)/\ Two O3 va' vb' (es++ys) (fs++zs):=by
 obtain⟨oa,ob,h1,h2,h3⟩:=h
 obtain⟨va',O2,e1,g1,k1⟩:=zi9 h1 hy hl
 have g2:RowAt 32 O2 ob vb fs:=h2.keep fun q e=>k1 q (h2.lt e) fun e2=>h3 q e2 e
 obtain⟨vb',O3,e2,g3,k2⟩:=zi9 g2 hz hm
 have d:=g1.lt rfl
 refine⟨va',O2,vb',O3,e1,e2,some O.length,some O2.length,g1.keep fun q e=> ?_,g3,fun q e e'=> ?_⟩
 ·cases e
  exact k2 _ d fun e=>by have:=h2.lt e;omega
 ·cases e;injection e' with e';omega
attribute [local irreducible] ACallsTo ACallsP
theorem zk0(O:Store)(A B:List (List UInt8))(x y:AV)(hx:SlV 1 (strs A) x)(hy:SlV 1 (strs B) y)(hl:A.length=B.length)(hA:A.length<1000000):ACallsTo TC 10 [x,y] O (.bool (decide (A=B))) O:=by
 have r1:=hx.len
 have r2:=hy.len
 rw [z8]at r1 r2
 rw [<-hl]at r2
 unfold z1e at r1 r2
 refine ACallsTo.of_body q1jok (by simp) fun hw _=> ?_
 repeat' (first|apply zs_|apply zb_|apply zc_|apply zt_ rfl|apply zf_ rfl|(apply zd_ rfl<;>intro ht<;>try omega)|((first|apply zr_|apply zk_|apply ze_|apply zq_|(apply zG<;>intro ht));all_goals try simp (disch:=first|omega|(simp only [lens,z7,z6,lQr,lQm,lQt,lQd,zg,z8,zh,zw,zi,z10];first|done|omega)) only [go_sem,r1,r2]))
 refine zW.loop (fun m Z O'=>∃i:Nat,m+i=A.length/\ O'=O/\ A.take i=B.take i/\ Z 0=x/\ Z 1=y/\ Z 5=.int .i64 i) A.length ?_ ?_
 ·exact⟨0,by omega,rfl,by simp,by simp (disch:=first|omega|(simp only [lens,z7,z6,lQr,lQm,lQt,lQd,zg,z8,zh,zw,zi,z10];first|done|omega)) only [go_sem],by simp (disch:=first|omega|(simp only [lens,z7,z6,lQr,lQm,lQt,lQd,zg,z8,zh,zw,zi,z10];first|done|omega)) only [go_sem],by simp (disch:=first|omega|(simp only [lens,z7,z6,lQr,lQm,lQt,lQd,zg,z8,zh,zw,zi,z10];first|done|omega)) only [go_sem];rfl⟩
 ·rintro m Z O' ⟨i,hm,rfl,hT,q0,q1,q5⟩
  by_cases hi:i<A.length
  ·obtain⟨e1,rfl⟩:=hx.vsl (by rw [z8];omega)
   obtain⟨e2,rfl⟩:=hy.vsl (by rw [z8];omega)
   have hg:=z3l hi
   have hg2:=z3l (L:=B) (i:=i) (by omega)
   rw [show A.getD i []=stD A i from rfl]at hg
   rw [show B.getD i []=stD B i from rfl]at hg2
   have l1:=z8 A
   have l2:=z8 B
   rw [<-hl]at l2
   by_cases he:stD A i=stD B i
   ·rw [he]at hg
    repeat' (first|apply zs_|apply zb_|apply zc_|apply zt_ rfl|apply zf_ rfl|(apply zd_ rfl<;>intro ht<;>try omega)|((first|apply zr_|apply zk_|apply ze_|apply zq_|(apply zG<;>intro ht));all_goals try simp (disch:=first|omega|(simp only [lens,z7,z6,lQr,lQm,lQt,lQd,zg,z8,zh,zw,zi,z10];first|done|omega)) only [go_sem,q0,q1,q5,hg,hg2,l1,l2]))
    exact⟨m-1,by omega,i+1,by omega,by rw [z8x hi,z8x (by omega),hT,he],by simp⟩
   ·have hne:=zsk hi (by omega) he
    rw [decide_eq_false hne]
    have hbn:(stD A i==stD B i)=false:=beq_eq_false_iff_ne.2 he
    repeat' (first|apply zs_|apply zb_|apply zc_|apply zt_ rfl|apply zf_ rfl|(apply zd_ rfl<;>intro ht<;>try omega)|((first|apply zr_|apply zk_|apply ze_|apply zq_|(apply zG<;>intro ht));all_goals try simp (disch:=first|omega|(simp only [lens,z7,z6,lQr,lQm,lQt,lQd,zg,z8,zh,zw,zi,z10];first|done|omega)) only [go_sem,q0,q1,q5,hg,hg2,l1,l2,hbn]))
    exact DownV.same hw z2h
  ·obtain rfl:i=A.length:=by omega
   rw [List.take_of_length_le (Nat.le_refl _),hl,List.take_of_length_le (Nat.le_refl _)]at hT
   rw [decide_eq_true hT]
   repeat' (first|apply zs_|apply zb_|apply zc_|apply zt_ rfl|apply zf_ rfl|(apply zd_ rfl<;>intro ht<;>try omega)|((first|apply zr_|apply zk_|apply ze_|apply zq_|(apply zG<;>intro ht));all_goals try simp (disch:=first|omega|(simp only [lens,z7,z6,lQr,lQm,lQt,lQd,zg,z8,zh,zw,zi,z10];first|done|omega)) only [go_sem,q0,q1,q5,r1]))
   exact DownV.same hw (z19 _ rfl)
end
section
attribute [local irreducible] ACallsTo ACallsP
theorem zlm(hw:Wf ([]:Store).length [])(O:Store)(A:List (List UInt8))(ex:Bool)(n size:Nat)(hn:0<n)(hnA:n<=A.length)(hA:∀s ∈ A,s.length<=200)(hAl:A.length<=60)(hsz:size<=255)
  (Z:Env) (q0:Z 0=.vsl 1 (strs A) ex) (q2:Z 2=.int .u8 size) (q7:Z 7=.int .i64 n):
  zW TC 159 0 zd4 (endQ 0 [.t 6] (.bool true) []) Z O:=by
 have hNew:=fun O=>zhk O [116] (by simp)
 have P0:=zhj O [116]
 have hsl:([116]:List UInt8).length<1000000:=by simp
 have hn0:¬(n:Int)=0:=by omega
 have hsm:(size:Int)%(n:Int)=((size%n:Nat):Int):=by omega
 have hml:=Nat.mod_lt size (y:=n) hn
 obtain⟨k,hk,hke⟩:∃k:Nat,(1:Int)+((size%n:Nat):Int)=k/\ k=1+size%n:=⟨1+size%n,by omega,rfl⟩
 have hkA:k<=A.length:=by omega
 have hk0:0<k:=by omega
 have l1:=z8 A
 repeat' (first|apply zs_|apply zb_|apply zc_|apply zt_ rfl|apply zf_ rfl|(apply zd_ rfl<;>intro ht<;>try omega)|((first|apply zr_|apply zk_|apply ze_|apply zq_|(apply callW.mk_pu;(first|exact(fun _=>hNew _)))|(apply callW.za;(first|exact(hNew _)))|(apply zG<;>intro ht));all_goals try simp (disch:=first|omega|(simp only [lens,z7,z6,lQr,lQm,lQt,lQd,zg,z8,zh,zw,zi,z10];first|done|omega)) only [go_sem,q0,q2,q7,hn0,hsm,hk]))
 clear hke hsm hml
 generalize ([116]:List UInt8)=seed at*
 generalize (O++ [some [z1h true seed (keyL seed)],some [pbC (.ptr O.length 0 0) .nilsl .nilsl 0 .nilsl .nilsl]])=O1 at*
 generalize O.length+1=r at*
 refine zW.loop (fun m Z O'=>∃(i:Nat) (own:List Nat),m+i=k/\ PubIs O' r seed (A.take i) [] own/\ Z 0=.vsl 1 (strs A) ex/\ Z 14=.ptr r 0 0/\ Z 15=.int .i64 k/\ Z 16=.int .i64 i) k ?_ ?_
 ·exact⟨0,_,by omega,P0,by simp (disch:=first|omega|(simp only [lens,z7,z6,lQr,lQm,lQt,lQd,zg,z8,zh,zw,zi,z10];first|done|omega)) only [go_sem,q0],by simp (disch:=first|omega|(simp only [lens,z7,z6,lQr,lQm,lQt,lQd,zg,z8,zh,zw,zi,z10];first|done|omega)) only [go_sem],by simp (disch:=first|omega|(simp only [lens,z7,z6,lQr,lQm,lQt,lQd,zg,z8,zh,zw,zi,z10];first|done|omega)) only [go_sem],by simp (disch:=first|omega|(simp only [lens,z7,z6,lQr,lQm,lQt,lQd,zg,z8,zh,zw,zi,z10];first|done|omega)) only [go_sem];rfl⟩
 ·rintro m Z O' ⟨i,own,hm,P,q0,q14,q15,q16⟩
  by_cases hi:i<k
  ·have hg:=z3l (L:=A) (i:=i) (by omega)
   rw [show A.getD i []=stD A i from rfl]at hg
   have hs:=hA _ (z7h (L:=A) (i:=i) (by omega))
   have ht:=z8x (L:=A) (i:=i) (by omega)
   have htl:(A.take i).length<4096:=by rw [List.length_take];omega
   generalize stD A i=s at*
   repeat' (first|apply zs_|apply zb_|apply zc_|apply zt_ rfl|apply zf_ rfl|(apply zd_ rfl<;>intro ht<;>try omega)|((first|apply zr_|apply zk_|apply ze_|apply zq_|(apply zG<;>intro ht));all_goals try simp (disch:=first|omega|(simp only [lens,z7,z6,lQr,lQm,lQt,lQd,zg,z8,zh,zw,zi,z10];first|done|omega)) only [go_sem,q0,q14,q15,q16,hg,l1]))
   refine callW.mkP (caps:=[]) (zhh _ r seed (A.take i) [] own s P htl (by omega)) (AppendP.is P) ?_
   rintro v O2 ⟨rfl,own2,fr2,P2⟩
   rw [apL_s hs,<-ht]at P2
   rw [apE_s hs]
   simp (disch:=first|omega|(simp only [lens,z7,z6,lQr,lQm,lQt,lQd,zg,z8,zh,zw,zi,z10];first|done|omega)) only [go_sem,q0,q14,q15,q16]
   repeat' (first|apply zs_|apply zb_|apply zc_|apply zt_ rfl|apply zf_ rfl|(apply zd_ rfl<;>intro ht<;>try omega)|((first|apply zr_|apply zk_|apply ze_|apply zq_|(apply zG<;>intro ht));all_goals try simp (disch:=first|omega|(simp only [lens,z7,z6,lQr,lQm,lQt,lQd,zg,z8,zh,zw,zi,z10];first|done|omega)) only [go_sem,q0,q14,q15,q16]))
   exact⟨m-1,by omega,i+1,own2,by omega,P2,by simp⟩
  ·obtain rfl:i=k:=by omega
   have hMl:(A.take i).length=i:=by rw [List.length_take];omega
   have hMt:(A.take i).length<=4096:=by omega
   repeat' (first|apply zs_|apply zb_|apply zc_|apply zt_ rfl|apply zf_ rfl|(apply zd_ rfl<;>intro ht<;>try omega)|((first|apply zr_|apply zk_|apply ze_|apply zq_|(apply zG<;>intro ht));all_goals try simp (disch:=first|omega|(simp only [lens,z7,z6,lQr,lQm,lQt,lQd,zg,z8,zh,zw,zi,z10];first|done|omega)) only [go_sem,q0,q14,q15,q16]))
   refine callW.mkP (caps:=[]) (zhl _ r seed (A.take i) [] own P (.none1 _ _) hMt hsl) (PublishP.is P) ?_
   rintro v O4 ⟨rfl,own4,fr4,P4⟩
   obtain⟨e1,e2⟩:=puV_ne seed (A.take i) (by omega)
   have ok4:=(PubOk.none1 seed (A.take i)).pub
   rw [e2]at P4 ok4
   rw [e1]
   have hma:=zfz (mkH seed 0 (A.take i))
   have hmL:=zi (mkH seed 0 (A.take i))
   have f1:=zfv seed (A.take i) (z18 32 (hr (mkH seed 0 (A.take i)).p))
   have f2:=zfu seed (A.take i) hMt
   have tk:=z8y A i
   have okA:TxtOk A:=⟨fun s hs=>by have:=hA s hs;omega,by omega⟩
   have htt:A.take (A.take i).length=A.take i:=by rw [hMl]
   generalize mkH seed 0 (A.take i)=m at*
   generalize A.take i=M at*
   have hW1:∀O b,ACallsTo TC 15 [.agg (hc (zx (keyL seed))),.vsl 1 (strs A) ex,.vsl 36 [hdrC m] false,.vsl 1 (strs M) b,.agg (hdrC m)] O (.tup [.agg [.str [],.str [],.bool false],.bool false]) O:=fun O b=>by
    have h:=zel O (zx (keyL seed)) m (z18 32 (hr m.p)) [(m,z18 32 (hr m.p))] (.vsl 36 [hdrC m] false) A M (.vsl 1 (strs A) ex) (.vsl 1 (strs M) b) (z40 _ _) (.inr ⟨false,rfl⟩) (by simp) (.inr ⟨ex,rfl⟩) (.inr ⟨b,rfl⟩) okA (by omega) htt
    rw [f1]at h
    exact h
   have hW2:∀O b,ACallsTo TC 15 [.agg (hc (zx (keyL seed))),.vsl 1 (strs A) ex,.nilsl,.vsl 1 (strs M) b,.agg (hdrC m)] O (.tup [.agg [.str [],.str [],.bool true],.bool true]) O:=fun O b=>by
    have h:=zel O (zx (keyL seed)) m (z18 32 (hr m.p)) [] .nilsl A M (.vsl 1 (strs A) ex) (.vsl 1 (strs M) b) (z40 _ _) (.inl ⟨rfl,rfl⟩) (by simp) (.inr ⟨ex,rfl⟩) (.inr ⟨b,rfl⟩) okA (by omega) htt
    rw [f2]at h
    exact h
   have hKey:=fun y=>(P4.ext (O':=O4++y) ⟨_,rfl⟩).key
   have hHd:=fun y=>(P4.ext (O':=O4++y) ⟨_,rfl⟩).heads ok4
   rw [show z18 36 (hdrs [m])=.vsl 36 [hdrC m] false from rfl]at hHd
   simp (disch:=first|omega|(simp only [lens,z7,z6,lQr,lQm,lQt,lQd,zg,z8,zh,zw,zi,z10];first|done|omega)) only [go_sem,q0,q14,q15,q16,hmL]
   repeat' (first|apply zs_|apply zb_|apply zc_|apply zt_ rfl|apply zf_ rfl|(apply zd_ rfl<;>intro ht<;>try omega)|((first|apply zr_|apply zk_|apply ze_|apply zq_|(apply zG<;>intro ht));all_goals try simp (disch:=first|omega|(simp only [lens,z7,z6,lQr,lQm,lQt,lQd,zg,z8,zh,zw,zi,z10];first|done|omega)) only [go_sem,q0,q14,q15,q16,hmL,hma,l1,tk]))
   refine callW.mk_pu2 (caps:=[]) (hKey _) (fun h hh=>hh.elim) ?_
   simp (disch:=first|omega|(simp only [lens,z7,z6,lQr,lQm,lQt,lQd,zg,z8,zh,zw,zi,z10];first|done|omega)) only [go_sem,q0,q14,q15,q16,hmL,hma,l1,tk,hKey,hHd]
   refine callW.mk_pu2 (caps:=[]) (hHd _) (fun h hh=>hh.elim) ?_
   simp (disch:=first|omega|(simp only [lens,z7,z6,lQr,lQm,lQt,lQd,zg,z8,zh,zw,zi,z10];first|done|omega)) only [go_sem,q0,q14,q15,q16,hmL,hma,l1,tk,hKey,hHd]
   repeat' (first|apply zs_|apply zb_|apply zc_|apply zt_ rfl|apply zf_ rfl|(apply zd_ rfl<;>intro ht<;>try omega)|((first|apply zr_|apply zk_|apply ze_|apply zq_|(apply callW.mk_pu;(first|exact(fun _=>hW1 _ _)))|(apply callW.za;(first|exact(hW1 _ _)))|(apply zG<;>intro ht));all_goals try simp (disch:=first|omega|(simp only [lens,z7,z6,lQr,lQm,lQt,lQd,zg,z8,zh,zw,zi,z10];first|done|omega)) only [go_sem,q0,q14,q15,q16,hmL,hma,l1,tk,hKey,hHd]))
   refine callW.mk_pu2 (caps:=[]) (hKey _) (fun h hh=>hh.elim) ?_
   simp (disch:=first|omega|(simp only [lens,z7,z6,lQr,lQm,lQt,lQd,zg,z8,zh,zw,zi,z10];first|done|omega)) only [go_sem,q0,q14,q15,q16,hmL,hma,l1,tk,hKey,hHd]
   repeat' (first|apply zs_|apply zb_|apply zc_|apply zt_ rfl|apply zf_ rfl|(apply zd_ rfl<;>intro ht<;>try omega)|((first|apply zr_|apply zk_|apply ze_|apply zq_|(apply callW.mk_pu;(first|exact(fun _=>hW2 _ _)|exact(fun _=>z8c _)))|(apply callW.za;(first|exact(hW2 _ _)|exact(z8c _)))|(apply zG<;>intro ht));all_goals try simp (disch:=first|omega|(simp only [lens,z7,z6,lQr,lQm,lQt,lQd,zg,z8,zh,zw,zi,z10];first|done|omega)) only [go_sem,q0,q14,q15,q16,hmL,hma,l1,tk,hKey,hHd]))
   exact DownV.pure (τ:=[]) (news:=_) hw (z19 _ rfl)
end
section
theorem zl9{a b:List (List UInt8)}(hl:a.length=b.length)(hm:a.length<=4096):∃u v ok,colV (z2k a b)=.tup [.str u,.str v,.bool ok]/\ (ok=true ↔ (a ≠ b/\ zx (lvs a)=zx (lvs b)))/\ (ok=true->u ≠ v):=by
 have h:=za0 (a.length+1) a b (by omega) hl hm
 rw [show z2y (a.length+1) a b=z2k a b from rfl]at h
 cases hc:z2k a b with
 |none=>
  rw [hc]at h
  exact⟨[],[],false,rfl,by simpa using h,by simp⟩
 |some p=>
  rw [hc]at h
  exact⟨p.1,p.2,true,rfl,by simpa using h,fun _=>zbw (a.length+1) a b p.1 p.2 hc⟩
attribute [local irreducible] ACallsTo ACallsP zd4
theorem zln(A B:List (List UInt8))(x y:AV)(size:Nat)(hx:SlV 1 (strs A) x)(hy:SlV 1 (strs B) y)(hA:z2g A=false)(hB:z2g B=false)(h0:min A.length B.length=0):ACallsTo TC 4 [x,y,.int .u8 size] [] (.bool true) []:=by
 have tA:=zb7 hA
 have tB:=zb7 hB
 have hLa:=fun O=>z6l O A x hx (by omega)
 have hLb:=fun O=>z6l O B y hy (by omega)
 rw [hA]at hLa
 rw [hB]at hLb
 have ok0:TxtOk []:=⟨by simp,by simp⟩
 have hC:∀O u v,SlV 1 (strs []) u->SlV 1 (strs []) v->ACallsTo TC 7 [u,v] O (.tup [.str [],.str [],.bool false]) O:=fun O u v hu hv=>by
  have h:=z6k O [] [] u v hu hv ok0 ok0
  rw [zbx]at h
  exact h
 have hT:∀O u v,SlV 1 (strs []) u->SlV 1 (strs []) v->ACallsTo TC 10 [u,v] O (.bool true) O:=fun O u v hu hv=>zk1 O [] u v hu hv (by simp)
 have zn:SlV 1 (strs []) .nilsl:=.inl ⟨rfl,rfl⟩
 have zv:∀b,SlV 1 (strs []) (.vsl 1 [] b):=fun b=> .inr ⟨b,rfl⟩
 have m1:(if (B.length:Int)<0 then(B.length:Int)else 0)=0:=if_neg (by omega)
 have m2:(if (0:Int)<(A.length:Int)then(0:Int)else A.length)=0:=by split<;>omega
 have m3:(if (B.length:Int)<A.length then(B.length:Int)else A.length)=0:=by split<;>omega
 have l1:=z8 A
 have l2:=z8 B
 refine ACallsTo.of_body q1kok (by simp) fun hw _=> ?_
 rcases hx with⟨rfl,e⟩| ⟨ex,rfl⟩<;>rcases hy with⟨rfl,e2⟩| ⟨ey,rfl⟩
 all_goals
  repeat' (first|apply zs_|apply zb_|apply zc_|apply zt_ rfl|apply zf_ rfl|(apply zd_ rfl<;>intro ht<;>try omega)|((first|apply zr_|apply zk_|apply ze_|apply zq_|(apply callW.mk_pu;(first|exact(fun _=>hLa _)|exact(fun _=>hLb _)|exact(fun _=>hC _ _ _ zn zn)|exact(fun _=>hC _ _ _ zn (zv _))|exact(fun _=>hC _ _ _ (zv _) zn)|exact(fun _=>hC _ _ _ (zv _) (zv _))))|(apply callW.za;(first|exact(hLa _)|exact(hLb _)|exact(hC _ _ _ zn zn)|exact(hC _ _ _ zn (zv _))|exact(hC _ _ _ (zv _) zn)|exact(hC _ _ _ (zv _) (zv _))))|(apply zG<;>intro ht));all_goals try simp (disch:=first|omega|(simp only [lens,z7,z6,lQr,lQm,lQt,lQd,zg,z8,zh,zw,zi,z10];first|done|omega)) only [go_sem,l1,l2,m1,m2,m3]))
  refine zW.loop (fun m Z O'=>O'=[]/\ Z 0=_/\ Z 1=_/\ Z 7=.int .i64 0/\ Z 10=.bool false/\ Z 13=.int .i64 0) 0 ⟨rfl,by simp (disch:=first|omega|(simp only [lens,z7,z6,lQr,lQm,lQt,lQd,zg,z8,zh,zw,zi,z10];first|done|omega)) only [go_sem];try rfl,by simp (disch:=first|omega|(simp only [lens,z7,z6,lQr,lQm,lQt,lQd,zg,z8,zh,zw,zi,z10];first|done|omega)) only [go_sem];try rfl,by simp (disch:=first|omega|(simp only [lens,z7,z6,lQr,lQm,lQt,lQd,zg,z8,zh,zw,zi,z10];first|done|omega)) only [go_sem],by simp (disch:=first|omega|(simp only [lens,z7,z6,lQr,lQm,lQt,lQd,zg,z8,zh,zw,zi,z10];first|done|omega)) only [go_sem],by simp (disch:=first|omega|(simp only [lens,z7,z6,lQr,lQm,lQt,lQd,zg,z8,zh,zw,zi,z10];first|done|omega)) only [go_sem];try rfl⟩ ?_
  rintro m Z O' ⟨rfl,q0,q1,q7,q10,q13⟩
  repeat' (first|apply zs_|apply zb_|apply zc_|apply zt_ rfl|apply zf_ rfl|(apply zd_ rfl<;>intro ht<;>try omega)|((first|apply zr_|apply zk_|apply ze_|apply zq_|(apply callW.mk_pu;(first|exact(fun _=>hT _ _ _ zn zn)|exact(fun _=>hT _ _ _ zn (zv _))|exact(fun _=>hT _ _ _ (zv _) zn)|exact(fun _=>hT _ _ _ (zv _) (zv _))|exact(fun _=>z8c _)))|(apply callW.za;(first|exact(hT _ _ _ zn zn)|exact(hT _ _ _ zn (zv _))|exact(hT _ _ _ (zv _) zn)|exact(hT _ _ _ (zv _) (zv _))|exact(z8c _)))|(apply zG<;>intro ht));all_goals try simp (disch:=first|omega|(simp only [lens,z7,z6,lQr,lQm,lQt,lQd,zg,z8,zh,zw,zi,z10];first|done|omega)) only [go_sem,q0,q1,q7,q10,q13,l1,l2]))
  exact DownV.same hw (z19 _ rfl)
theorem zll(A B:List (List UInt8))(ex ey:Bool)(n size:Nat)(hA:z2g A=false)(hB:z2g B=false)(hn:0<n)(hmn:min A.length B.length=n)(hsz:size<=255):ACallsTo TC 4 [.vsl 1 (strs A) ex,.vsl 1 (strs B) ey,.int .u8 size] [] (.bool true) []:=by
 have tA:=zb7 hA
 have tB:=zb7 hB
 have sA:∀s ∈ A,s.length<=200:=fun s hs=>by
  unfold z2g at hA
  simp only [Bool.or_eq_false_iff,decide_eq_false_iff_not,List.any_eq_false,decide_eq_true_eq]at hA
  have:=hA.1 s hs;omega
 have hLa:=fun O=>z6l O A (.vsl 1 (strs A) ex) (.inr ⟨ex,rfl⟩) (by omega)
 have hLb:=fun O=>z6l O B (.vsl 1 (strs B) ey) (.inr ⟨ey,rfl⟩) (by omega)
 rw [hA]at hLa
 rw [hB]at hLb
 have l1:=z8 A
 have l2:=z8 B
 have m3:(if (B.length:Int)<A.length then(B.length:Int)else A.length)=(n:Int):=by split<;>omega
 have tkA:=z8y A n
 have tkB:=z8y B n
 have nA:n<=A.length:=by omega
 have nB:n<=B.length:=by omega
 have lA:(A.take n).length=n:=by rw [List.length_take];omega
 have lB:(B.take n).length=n:=by rw [List.length_take];omega
 obtain⟨u,v,ok,hcv,hok,huv⟩:=zl9 (a:=A.take n) (b:=B.take n) (by omega) (by omega)
 have hC:∀O b c,ACallsTo TC 7 [.vsl 1 (strs (A.take n)) b,.vsl 1 (strs (B.take n)) c] O (.tup [.str u,.str v,.bool ok]) O:=fun O b c=>by
  have h:=z6k O (A.take n) (B.take n) (.vsl 1 (strs (A.take n)) b) (.vsl 1 (strs (B.take n)) c) (.inr ⟨b,rfl⟩) (.inr ⟨c,rfl⟩) (tA.1.take n) (tB.1.take n)
  rw [hcv]at h
  exact h
 have hT:∀O b c,ACallsTo TC 10 [.vsl 1 (strs (A.take n)) b,.vsl 1 (strs (B.take n)) c] O (.bool (decide (A.take n=B.take n))) O:=fun O b c=>zk0 O (A.take n) (B.take n) (.vsl 1 (strs (A.take n)) b) (.vsl 1 (strs (B.take n)) c) (.inr ⟨b,rfl⟩) (.inr ⟨c,rfl⟩) (by omega) (by omega)
 refine ACallsTo.of_body q1kok (by simp) fun hw _=> ?_
 repeat' (first|apply zs_|apply zb_|apply zc_|apply zt_ rfl|apply zf_ rfl|(apply zd_ rfl<;>intro ht<;>try omega)|((first|apply zr_|apply zk_|apply ze_|apply zq_|(apply callW.mk_pu;(first|exact(fun _=>hLa _)|exact(fun _=>hLb _)|exact(fun _=>hC _ _ _)))|(apply callW.za;(first|exact(hLa _)|exact(hLb _)|exact(hC _ _ _)))|(apply zG<;>intro ht));all_goals try simp (disch:=first|omega|(simp only [lens,z7,z6,lQr,lQm,lQt,lQd,zg,z8,zh,zw,zi,z10];first|done|omega)) only [go_sem,l1,l2,m3,tkA,tkB]))
 refine zW.loop (fun m Z O'=>∃(i:Nat) (va vb:AV),m+i=n/\ Two O' va vb (hr (lvs (A.take i))) (hr (lvs (B.take i)))/\ Z 0=.vsl 1 (strs A) ex/\ Z 1=.vsl 1 (strs B) ey/\ Z 2=.int .u8 size/\ Z 7=.int .i64 n/\ Z 8=.str u/\ Z 9=.str v/\ Z 10=.bool ok/\ Z 11=va/\ Z 12=vb/\ Z 13=.int .i64 i) n ?_ ?_
 ·exact⟨0,.nilsl,.nilsl,by omega,⟨none,none,.inl ⟨rfl,rfl,rfl⟩,.inl ⟨rfl,rfl,rfl⟩,by simp⟩,by simp (disch:=first|omega|(simp only [lens,z7,z6,lQr,lQm,lQt,lQd,zg,z8,zh,zw,zi,z10];first|done|omega)) only [go_sem],by simp (disch:=first|omega|(simp only [lens,z7,z6,lQr,lQm,lQt,lQd,zg,z8,zh,zw,zi,z10];first|done|omega)) only [go_sem],by simp (disch:=first|omega|(simp only [lens,z7,z6,lQr,lQm,lQt,lQd,zg,z8,zh,zw,zi,z10];first|done|omega)) only [go_sem],by simp (disch:=first|omega|(simp only [lens,z7,z6,lQr,lQm,lQt,lQd,zg,z8,zh,zw,zi,z10];first|done|omega)) only [go_sem],by simp (disch:=first|omega|(simp only [lens,z7,z6,lQr,lQm,lQt,lQd,zg,z8,zh,zw,zi,z10];first|done|omega)) only [go_sem],by simp (disch:=first|omega|(simp only [lens,z7,z6,lQr,lQm,lQt,lQd,zg,z8,zh,zw,zi,z10];first|done|omega)) only [go_sem],by simp (disch:=first|omega|(simp only [lens,z7,z6,lQr,lQm,lQt,lQd,zg,z8,zh,zw,zi,z10];first|done|omega)) only [go_sem],by simp (disch:=first|omega|(simp only [lens,z7,z6,lQr,lQm,lQt,lQd,zg,z8,zh,zw,zi,z10];first|done|omega)) only [go_sem],by simp (disch:=first|omega|(simp only [lens,z7,z6,lQr,lQm,lQt,lQd,zg,z8,zh,zw,zi,z10];first|done|omega)) only [go_sem],by simp (disch:=first|omega|(simp only [lens,z7,z6,lQr,lQm,lQt,lQd,zg,z8,zh,zw,zi,z10];first|done|omega)) only [go_sem];try rfl⟩
 ·rintro m Z O' ⟨i,va,vb,hm,hR,q0,q1,q2,q7,q8,q9,q10,q11,q12,q13⟩
  by_cases hi:i<n
  ·have hgA:=z3l (L:=A) (i:=i) (by omega)
   have hgB:=z3l (L:=B) (i:=i) (by omega)
   rw [show A.getD i []=stD A i from rfl]at hgA
   rw [show B.getD i []=stD B i from rfl]at hgB
   have stA:=z8x (L:=A) (i:=i) (by omega)
   have stB:=z8x (L:=B) (i:=i) (by omega)
   have hl1:=fun O=>zb1 O (stD A i) (by have:=tA.1.1 _ (z7h (L:=A) (i:=i) (by omega));omega)
   have hl2:=fun O=>zb1 O (stD B i) (by have:=tB.1.1 _ (z7h (L:=B) (i:=i) (by omega));omega)
   obtain⟨va',O2,vb',O3,e1,e2,hR2⟩:=hR.step (ys:=[hc (lfH (stD A i))]) (zs:=[hc (lfH (stD B i))]) (by simp) (by simp) (by rw [z6,zh,List.length_take];simp;omega) (by rw [z6,zh,List.length_take];simp;omega)
   have cA:hr (lvs (A.take i))++ [hc (lfH (stD A i))]=hr (lvs (A.take (i+1))):=by rw [stA,zcm,zg9];rfl
   have cB:hr (lvs (B.take i))++ [hc (lfH (stD B i))]=hr (lvs (B.take (i+1))):=by rw [stB,zcm,zg9];rfl
   rw [cA,cB]at hR2
   generalize lfH (stD A i)=a at*
   generalize lfH (stD B i)=b at*
   repeat' (first|apply zs_|apply zb_|apply zc_|apply zt_ rfl|apply zf_ rfl|(apply zd_ rfl<;>intro ht<;>try omega)|((first|apply zr_|apply zk_|apply ze_|apply zq_|(apply callW.mk_pu;(first|exact(fun _=>hl1 _)|exact(fun _=>hl2 _)))|(apply callW.za;(first|exact(hl1 _)|exact(hl2 _)))|(apply zG<;>intro ht));all_goals try simp (disch:=first|omega|(simp only [lens,z7,z6,lQr,lQm,lQt,lQd,zg,z8,zh,zw,zi,z10];first|done|omega)) only [go_sem,q0,q1,q2,q7,q8,q9,q10,q11,q12,q13,hgA,hgB,l1,l2,e1,e2]))
   exact⟨m-1,by omega,i+1,va',vb',by omega,hR2,rfl,rfl,by simp⟩
  ·obtain rfl:i=n:=by omega
   have T:=fun Z=>zlm hw O' A ex i size hn nA sA tA.2 hsz Z
   obtain⟨oa,ob,h1,h2,_⟩:=hR
   have hRa:=z6j O' (lvs (A.take i)) va h1.rd (by rw [zh];omega)
   have hRb:=z6j O' (lvs (B.take i)) vb h2.rd (by rw [zh];omega)
   have i0:¬(i:Int)=0:=by omega
   cases ok with
   |false=>
    by_cases hab:A.take i=B.take i
    ·rw [decide_eq_true hab]at hT
     repeat' (first|apply zs_|apply zb_|apply zc_|apply zt_ rfl|apply zf_ rfl|(apply zd_ rfl<;>intro ht<;>try omega)|((first|apply zr_|apply zk_|apply ze_|apply zq_|(apply callW.mk_pu;(first|exact(fun _=>hT _ _ _)))|(apply callW.za;(first|exact(hT _ _ _)))|(apply zG<;>intro ht));all_goals try simp (disch:=first|omega|(simp only [lens,z7,z6,lQr,lQm,lQt,lQd,zg,z8,zh,zw,zi,z10];first|done|omega)) only [go_sem,q0,q1,q2,q7,q8,q9,q10,q11,q12,q13,l1,l2,tkA,tkB,i0]))
     exact T _ (by simp (disch:=first|omega|(simp only [lens,z7,z6,lQr,lQm,lQt,lQd,zg,z8,zh,zw,zi,z10];first|done|omega)) only [go_sem,q0]) (by simp (disch:=first|omega|(simp only [lens,z7,z6,lQr,lQm,lQt,lQd,zg,z8,zh,zw,zi,z10];first|done|omega)) only [go_sem,q2]) (by simp (disch:=first|omega|(simp only [lens,z7,z6,lQr,lQm,lQt,lQd,zg,z8,zh,zw,zi,z10];first|done|omega)) only [go_sem,q7])
    ·have hne:¬zx (lvs (A.take i))=zx (lvs (B.take i)):=fun e=>by simp [hab,e]at hok
     rw [decide_eq_false hab]at hT
     generalize zx (lvs (A.take i))=RA at*
     generalize zx (lvs (B.take i))=RB at*
     repeat' (first|apply zs_|apply zb_|apply zc_|apply zt_ rfl|apply zf_ rfl|(apply zd_ rfl<;>intro ht<;>try omega)|((first|apply zr_|apply zk_|apply ze_|apply zq_|(apply callW.mk_pu;(first|exact(fun _=>hT _ _ _)|exact(fun _=>hRa)|exact(fun _=>hRb)))|(apply callW.za;(first|exact(hT _ _ _)|exact(hRa)|exact(hRb)))|(apply zG<;>intro ht));all_goals try simp (disch:=first|omega|(simp only [lens,z7,z6,lQr,lQm,lQt,lQd,zg,z8,zh,zw,zi,z10];first|done|omega)) only [go_sem,q0,q1,q2,q7,q8,q9,q10,q11,q12,q13,l1,l2,tkA,tkB,i0,hne]))
     exact T _ (by simp (disch:=first|omega|(simp only [lens,z7,z6,lQr,lQm,lQt,lQd,zg,z8,zh,zw,zi,z10];first|done|omega)) only [go_sem,q0]) (by simp (disch:=first|omega|(simp only [lens,z7,z6,lQr,lQm,lQt,lQd,zg,z8,zh,zw,zi,z10];first|done|omega)) only [go_sem,q2]) (by simp (disch:=first|omega|(simp only [lens,z7,z6,lQr,lQm,lQt,lQd,zg,z8,zh,zw,zi,z10];first|done|omega)) only [go_sem,q7])
   |true=>
    obtain⟨hab,he⟩:=hok.1 rfl
    have huv':(u==v)=false:=beq_eq_false_iff_ne.2 (huv rfl)
    rw [he]at hRa
    rw [decide_eq_false hab]at hT
    generalize zx (lvs (B.take i))=RB at*
    repeat' (first|apply zs_|apply zb_|apply zc_|apply zt_ rfl|apply zf_ rfl|(apply zd_ rfl<;>intro ht<;>try omega)|((first|apply zr_|apply zk_|apply ze_|apply zq_|(apply callW.mk_pu;(first|exact(fun _=>hT _ _ _)|exact(fun _=>hRa)|exact(fun _=>hRb)))|(apply callW.za;(first|exact(hT _ _ _)|exact(hRa)|exact(hRb)))|(apply zG<;>intro ht));all_goals try simp (disch:=first|omega|(simp only [lens,z7,z6,lQr,lQm,lQt,lQd,zg,z8,zh,zw,zi,z10];first|done|omega)) only [go_sem,q0,q1,q2,q7,q8,q9,q10,q11,q12,q13,l1,l2,tkA,tkB,i0,huv']))
    exact T _ (by simp (disch:=first|omega|(simp only [lens,z7,z6,lQr,lQm,lQt,lQd,zg,z8,zh,zw,zi,z10];first|done|omega)) only [go_sem,q0]) (by simp (disch:=first|omega|(simp only [lens,z7,z6,lQr,lQm,lQt,lQd,zg,z8,zh,zw,zi,z10];first|done|omega)) only [go_sem,q2]) (by simp (disch:=first|omega|(simp only [lens,z7,z6,lQr,lQm,lQt,lQd,zg,z8,zh,zw,zi,z10];first|done|omega)) only [go_sem,q7])
theorem zfl(A B:List (List UInt8))(x y z:AV)(hx:SlV 1 (strs A) x)(hy:SlV 1 (strs B) y)(ha:A.length<=maxLen)(hb:B.length<=maxLen)(h:z2g A=true \/z2g B=true):ACallsTo TC 4 [x,y,z] [] (.bool true) []:=by
 have hm:maxLen<9223372036854775808:=by decide
 have hLa:=fun O=>z6l O A x hx (by omega)
 have hLb:=fun O=>z6l O B y hy (by omega)
 have hf:=z8c
 refine ACallsTo.of_body q1kok (by simp) fun hw _=> ?_
 cases h1:z2g A with
 |true=>
  rw [h1]at hLa
  repeat' (first|apply zs_|apply zb_|apply zc_|apply zt_ rfl|apply zf_ rfl|(apply zd_ rfl<;>intro ht<;>try omega)|((first|apply zr_|apply zk_|apply ze_|apply zq_|(apply callW.mk_pu;(first|exact(fun _=>hLa _)|exact(fun _=>hf _)))|(apply callW.za;(first|exact(hLa _)|exact(hf _)))|(apply zG<;>intro ht));all_goals try simp (disch:=first|omega|(simp only [lens,z7,z6,lQr,lQm,lQt,lQd,zg,z8,zh,zw,zi,z10];first|done|omega)) only [go_sem]))
  exact DownV.same hw z2h
 |false=>
  rw [h1]at hLa
  have h2:z2g B=true:=by rcases h with h|h;rw [h1]at h;cases h;exact h
  rw [h2]at hLb
  repeat' (first|apply zs_|apply zb_|apply zc_|apply zt_ rfl|apply zf_ rfl|(apply zd_ rfl<;>intro ht<;>try omega)|((first|apply zr_|apply zk_|apply ze_|apply zq_|(apply callW.mk_pu;(first|exact(fun _=>hLa _)|exact(fun _=>hLb _)|exact(fun _=>hf _)))|(apply callW.za;(first|exact(hLa _)|exact(hLb _)|exact(hf _)))|(apply zG<;>intro ht));all_goals try simp (disch:=first|omega|(simp only [lens,z7,z6,lQr,lQm,lQt,lQd,zg,z8,zh,zw,zi,z10];first|done|omega)) only [go_sem]))
  exact DownV.same hw z2h
theorem ExtractTotal_law(avs:List AV)(h:z7r [.sl 1 .str,.sl 1 .str,.int .u8] avs):ACallsTo TC 4 avs [] (.bool true) []:=by
 simp only [z7r]at h
 obtain⟨x,_,rfl,h0,y,_,rfl,h1,_,_,rfl,h2,rfl⟩:=h
 obtain⟨A,hA,ha⟩:=zix (by simpa only [Sh]using h0)
 obtain⟨B,hB,hb⟩:=zix (by simpa only [Sh]using h1)
 simp only [Sh,ShC]at h2
 obtain⟨c,e,c0,c1⟩:=h2
 cases e
 simp only [IntKind.min,IntKind.max,IntKind.signed,IntKind.bits]at c0 c1
 simp at c0 c1
 obtain⟨c,rfl⟩:∃k:Nat,c=k:=⟨c.toNat,by omega⟩
 cases h3:z2g A with
 |true=>exact zfl A B x y _ hA hB ha hb (.inl h3)
 |false=>
  cases h4:z2g B with
  |true=>exact zfl A B x y _ hA hB ha hb (.inr h4)
  |false=>
   rcases Nat.eq_zero_or_pos (min A.length B.length)with h5|h5
   ·exact zln A B x y c hA hB h3 h4 h5
   ·obtain⟨ex,rfl⟩:=hA.vsl (by rw [z8];omega)
    obtain⟨ey,rfl⟩:=hB.vsl (by rw [z8];omega)
    exact zll A B ex ey _ c h3 h4 h5 rfl (by omega)
end
end Am
end Go.Proofs.YtkiimfgjimoffaaDoor
section
/- What a law with the laid tables of sha begins with. -/
namespace Go.Proofs.YtkiimfgjimoffaaDoor.LawDoor
open Go.ChangeShapes Go.WideShapes Go.ChangeAt Go.RowKit
theorem own:ownKnob Tryd.prog.godebug=none:=by kernel_rfl
theorem znn:laidOutB Tryd.prog=true:=by kernel_rfl
def z8i:List (String × DataW Unit):=[("speculum/sha.first",Rows.laid_speculum_sha_first),("speculum/sha.rounds",Rows.laid_speculum_sha_rounds)]
set_option maxRecDepth 100000
theorem zlh(os:Os)(args:Array Value):laidMetH Tryd.prog z8i ((World.doorLaid Tryd.prog 400 os).forCall (fun _ _=>0) ⟨#[],args,[]⟩).memory:=
 laidMetH_of_parts3 (fuel:=8) (laidMet_of_run' 8 (by kernel_rfl) (by kernel_rfl)) (by kernel_rfl) (by kernel_rfl)
theorem rel_of{W:World}(h:laidMetH Tryd.prog z8i W):Am.Rel Am.TC [] [] W:=by
 rw [MakeChecks.laidMetH_plain _ _ _ (by kernel_rfl)]at h
 obtain⟨ps,⟨g0,t0,cs0,f0,p0,q0,hg0,ht0,hv0,hd0,⟨g1,t1,cs1,f1,p1,q1,hg1,ht1,hv1,hd1,_,_⟩,_⟩,_,_⟩:=h
 have v0:=Am.vp_of_var (P:=Tryd.prog) (n:= "speculum/sha.first") (g:=0) (t:=80) (e:=79) (m:=8) (k:=.u32) Am.shaFirst (by kernel_rfl) (by kernel_rfl) (by kernel_rfl) (by kernel_rfl) (by kernel_rfl) (by kernel_rfl) hg0 ht0 hv0 hd0
 have v1:=Am.vp_of_var (P:=Tryd.prog) (n:= "speculum/sha.rounds") (g:=1) (t:=86) (e:=79) (m:=64) (k:=.u32) Am.shaRounds (by kernel_rfl) (by kernel_rfl) (by kernel_rfl) (by kernel_rfl) (by kernel_rfl) (by kernel_rfl) hg1 ht1 hv1 hd1
 refine⟨rfl,fun r o h=>by simp at h,fun r h=>by simp at h,fun r r' pl pl' h=>by simp at h,fun g cs h=> ?_⟩
 simp only [Am.TC]at h
 split at h
 ·rename_i hg;subst hg;cases h;exact v0
 ·split at h
  ·rename_i hg;subst hg;cases h;exact v1
  ·cases h
end Go.Proofs.YtkiimfgjimoffaaDoor.LawDoor
end
