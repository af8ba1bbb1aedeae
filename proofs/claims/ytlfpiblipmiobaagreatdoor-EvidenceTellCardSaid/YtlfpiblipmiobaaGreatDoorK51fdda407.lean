import Derived.Test.YtlfpiblipmiobaaGreatDoorK44bc11fc9
import Derived.Test.YtlfpiblipmiobaaGreatDoorK23430fda6
import Derived.Test.YtlfpiblipmiobaaGreatDoorRows
import Derived.Test.YtlfpiblipmiobaaGreatDoorCards
import Derived.Test.YtlfpiblipmiobaaGreatDoorTie
import Derived.ProofKit
import Derived.LaidMore
import Derived.OpenShut
import Derived.Stop.Joined
import Derived.SevenTiedAt
import Derived.MakeChecks
set_option linter.unusedSimpArgs false
set_option linter.unusedVariables false
open Nat (reduceEqDiff reduceAdd reduceMul reduceSub reduceLeDiff)
open Int (reduceToNat reducePow)
open Nat renaming reduceEqDiff -> nQ1, reduceBEq -> nQ2, reduceAdd -> nQ3, reduceMul -> nQ4, reduceSub -> nQ5, reduceLeDiff -> nQ6
open Int renaming reduceToNat -> nQ7, reducePow -> nQ8
open List renaming length_reverse -> lQr, length_map -> lQm, length_take -> lQt, length_drop -> lQd, length_set -> lQs
set_option maxHeartbeats 16000000
attribute [local go_sem_proc] Nat.reduceEqDiff Nat.reduceBEq Nat.reduceAdd Nat.reduceMul Nat.reduceSub Nat.reduceLeDiff Int.reduceToNat Int.reducePow
namespace Go.Proofs.YtlfpiblipmiobaaGreatDoor
namespace Am
section
attribute [local irreducible] ACallsTo ACallsP
def repF(s:List UInt8)(N:Nat):Nat->List UInt8->List UInt8
 | 0,a=>a
 |f+1,a=>if 0<s.length/\ a.length<N then repF s N f (a++s)else a
theorem zki{s a:List UInt8}{N f:Nat}(h:¬(0<s.length/\ a.length<N)):repF s N f a=a:=by
 cases f with
 |zero=>rfl
 |succ f=>rw [repF,if_neg h]
theorem z84{k:Nat}{n i:Int}{r:Hash}{s:List UInt8}{x:AV}(h:RL k x):RLs k (sgC n r i s x):=by
 have:=rl_sg (n:=n) (i:=i) (r:=r) (s:=s) (e:=0) h
 simp only [RL,RLs]at this
 exact this.1
def sigS(s:List UInt8)(N:Nat):List UInt8:=(repF s N N []).take N
theorem zgq(O:Store)(n i m:Int)(r:Hash)(s:List UInt8)(l:List Hash)(x:AV)(hx:SlV 32 (hr l) x)(hm: -128<=m/\ m<=127)(hs:s.length<=300):
  ACallsTo TC 31 [.agg (rgC n r i s m x)] O (.agg (sgC n r i (sigS s (16384+m).toNat) x)) O:=by
 refine ACallsTo.of_body q1sok (by simp) fun hw _=> ?_
 have xc:=zll hx
 have xl:RL O.length x:=rl_z hx
 have fx:∀(cells:List AV) (off:Nat) (rest:List (Nat × Nat × AV)),off+1<=cells.length->z18 cells ((off,1,x)::rest)=z18 (z1b cells off [x]) rest:=fun cells off rest h=>by simp [z18,xc,h]
 unfold cellsOf at xc
 have d35:∀(a b c:AV),List.drop 35 (hc r++ [a,b,c])=[]:=fun a b c=>List.drop_of_length_le (by simp [z7])
 have d36:List.drop 36 (sgC 0 zeroH 0 [] .nilsl)=[]:=rfl
 have dl:List.drop 35 [AV.int .u8 0,AV.int .u8 0,AV.int .u8 0,AV.int .u8 0,AV.int .u8 0,AV.int .u8 0,AV.int .u8 0,AV.int .u8 0,AV.int .u8 0,AV.int .u8 0,AV.int .u8 0,AV.int .u8 0,AV.int .u8 0,AV.int .u8 0,AV.int .u8 0,AV.int .u8 0,AV.int .u8 0,AV.int .u8 0,AV.int .u8 0,AV.int .u8 0,AV.int .u8 0,AV.int .u8 0,AV.int .u8 0,AV.int .u8 0,AV.int .u8 0,AV.int .u8 0,AV.int .u8 0,AV.int .u8 0,AV.int .u8 0,AV.int .u8 0,AV.int .u8 0,AV.int .u8 0,AV.int .i64 0,AV.str [],AV.nilsl]=[]:=rfl
 obtain⟨N,hN⟩:∃N:Nat,N=(16384+m).toNat:=⟨_,rfl⟩
 have hN2:16384+m=(N:Int):=by omega
 rw [<-hN]
 repeat' (first|apply zs_|apply zb_|apply zc_|apply zt_ rfl|apply zf_ rfl|(apply zd_ rfl<;>intro ht<;>try omega)|((first|apply zr_|apply zk_|apply ze_|apply zq_|(apply zG<;>intro ht));all_goals try simp (disch:=first|omega|(simp only [lens,z7,z6,lQr,zm,zl,lQd,z8,z21,List.length_append];first|done|omega)) only [go_sem,hN2]))
 refine zW.loop (fun k J O'=>∃a:List UInt8,a.length+k>=N/\ a.length<N+301/\ repF s N k a=repF s N N []/\ O'=O++ [some [rgC n r i s m x],some [sgC 0 zeroH 0 [] .nilsl]]/\ J 1=.ptr O.length 0 0/\ J 2=.ptr (O.length+1) 0 0/\ J 3=.int .i64 N/\ J 4=.str a) N ?_ ?_
 ·exact⟨[],by simp,by simp,rfl,rfl,by simp (disch:=first|omega|(simp only [lens,z7,z6,lQr,zm,zl,lQd,z8,z21,List.length_append];first|done|omega)) only [go_sem],by simp (disch:=first|omega|(simp only [lens,z7,z6,lQr,zm,zl,lQd,z8,z21,List.length_append];first|done|omega)) only [go_sem],by simp (disch:=first|omega|(simp only [lens,z7,z6,lQr,zm,zl,lQd,z8,z21,List.length_append];first|done|omega)) only [go_sem],by simp (disch:=first|omega|(simp only [lens,z7,z6,lQr,zm,zl,lQd,z8,z21,List.length_append];first|done|omega)) only [go_sem]⟩
 ·rintro k J O' ⟨a,hk,hal,hr,rfl,q1,q2,q3,q4⟩
  by_cases c1:(s.length:Int)>0
  ·by_cases c2:(a.length:Int)<N
   ·have hk1:∃k',k=k'+1:=⟨k-1,by omega⟩
    obtain⟨k,rfl⟩:=hk1
    rw [repF,if_pos ⟨by omega,by omega⟩]at hr
    repeat' (first|apply zs_|apply zb_|apply zc_|apply zt_ rfl|apply zf_ rfl|(apply zd_ rfl<;>intro ht<;>try omega)|((first|apply zr_|apply zk_|apply ze_|apply zq_|(apply zG<;>intro ht));all_goals try simp (disch:=first|omega|(simp only [lens,z7,z6,lQr,zm,zl,lQd,z8,z21,List.length_append];first|done|omega)) only [go_sem,q1,q2,q3,q4,c1,c2]))
    exact⟨k,by omega,a++s,by rw [List.length_append];omega,by rw [List.length_append];omega,hr,rfl⟩
   ·rw [zki (by omega)]at hr
    unfold sigS
    rw [<-hr]
    have h0:(if (N:Int)<(a.length:Int)then(N:Int)else(a.length:Int))=((min a.length N:Nat):Int):=by split<;>omega
    have ht:a.take (min a.length N)=a.take N:=by
     rcases Nat.le_total a.length N with h|h
     ·rw [Nat.min_eq_left h,List.take_of_length_le (Nat.le_refl _),List.take_of_length_le h]
     ·rw [Nat.min_eq_right h]
    have hM:min a.length N<=a.length:=Nat.min_le_left _ _
    generalize min a.length N=M at*
    repeat' (first|apply zs_|apply zb_|apply zc_|apply zt_ rfl|apply zf_ rfl|(apply zd_ rfl<;>intro ht<;>try omega)|((first|apply zr_|apply zk_|apply ze_|apply zq_|(apply zG<;>intro ht));all_goals try simp (disch:=first|omega|(simp only [lens,z7,z6,lQr,zm,zl,lQd,z8,z21,List.length_append];first|done|omega)) only [go_sem,q1,q2,q3,q4,c1,c2,xc,fx,d35,d36,dl,h0,ht]))
    exact DownV.pure hw (z2j (z84 xl))
  ·rw [zki (by omega)]at hr
   unfold sigS
   rw [<-hr]
   have h0:(if (N:Int)<(a.length:Int)then(N:Int)else(a.length:Int))=((min a.length N:Nat):Int):=by split<;>omega
   have ht:a.take (min a.length N)=a.take N:=by
    rcases Nat.le_total a.length N with h|h
    ·rw [Nat.min_eq_left h,List.take_of_length_le (Nat.le_refl _),List.take_of_length_le h]
    ·rw [Nat.min_eq_right h]
   have hM:min a.length N<=a.length:=Nat.min_le_left _ _
   generalize min a.length N=M at*
   repeat' (first|apply zs_|apply zb_|apply zc_|apply zt_ rfl|apply zf_ rfl|(apply zd_ rfl<;>intro ht<;>try omega)|((first|apply zr_|apply zk_|apply ze_|apply zq_|(apply zG<;>intro ht));all_goals try simp (disch:=first|omega|(simp only [lens,z7,z6,lQr,zm,zl,lQd,z8,z21,List.length_append];first|done|omega)) only [go_sem,q1,q2,q3,q4,c1,xc,fx,d35,d36,dl,h0,ht]))
   exact DownV.pure hw (z2j (z84 xl))
end
section
attribute [local irreducible] ACallsTo ACallsP
end
section
attribute [local irreducible] ACallsTo ACallsP
end
section
attribute [local irreducible] ACallsTo ACallsP
theorem zgn(O:Store)(n i:Int)(r:Hash)(s:List UInt8)(l:List Hash)(x:AV)(hx:RdSl O 32 (hr l) x):ACallsTo TC 33 [.agg (sgC n r i s x)] O (putV n i r s l) O:=by
 have hV:=z6r (O++ [some [sgC n r i s x]]) n i r s l x hx.app
 refine ACallsTo.of_body q1tok (by simp) fun hw _=> ?_
 unfold putV
 cases hv:z1t n i s l with
 |false=>
  rw [hv]at hV
  rw [if_neg (by decide)]
  repeat' (first|apply zs_|apply zb_|apply zc_|apply zt_ rfl|apply zf_ rfl|(apply zd_ rfl<;>intro ht<;>try omega)|((first|apply zr_|apply zk_|apply ze_|apply zq_|(apply callW.mk_pu;(first|exact(fun _=>hV)))|(apply callW.za;(first|exact(hV)))|(apply zG<;>intro ht));all_goals try simp (disch:=first|omega|(simp only [lens,z7,z6,lQr,zm,zl,lQd,z8];first|done|omega)) only [go_sem]))
  exact DownV.pure hw zc4
 |true=>
  rw [hv]at hV
  rw [if_pos rfl]
  obtain⟨N,I,rfl,rfl,h1,h2,h3,h4⟩:=zcw hv
  have hN:=fun O=>z8i O N (by omega)
  have hI:=fun O=>z8i O I (by omega)
  have hH:=fun O=>z8h O r.1 r.2
  have hT:=fun O=>zbg O s (by omega)
  have hL:=zhr (O++ [some [sgC N r I s x]]) l x hx.app (by omega)
  have l1:=z2m N
  have l2:=z2m I
  have l3:=r.2
  have l4:(z1s s).length<=11+16384:=by have:=z2m s.length;rw [z1s,List.length_append];omega
  have l5:=za2 (l:=l)
  have hcr:hc r=zh r.1:=rfl
  rw [Int.toNat_natCast,Int.toNat_natCast]
  unfold putH
  generalize numS N=sN at*
  generalize numS I=sI at*
  generalize z1s s=sT at*
  generalize z2u l=sH at*
  repeat' (first|apply zs_|apply zb_|apply zc_|apply zt_ rfl|apply zf_ rfl|(apply zd_ rfl<;>intro ht<;>try omega)|((first|apply zr_|apply zk_|apply ze_|apply zq_|(apply callW.mk_pu;(first|exact(fun _=>hV)|exact(fun _=>hN _)|exact(fun _=>hI _)|exact(fun _=>hH _)|exact(fun _=>hT _)|exact(fun _=>hL)))|(apply callW.za;(first|exact(hV)|exact(hN _)|exact(hI _)|exact(hH _)|exact(hT _)|exact(hL)))|(apply zG<;>intro ht));all_goals try simp (disch:=first|omega|(simp only [lens,z7,z6,lQr,zm,zl,lQd,z8];first|done|omega)) only [go_sem,hcr]))
  exact DownV.pure hw zc4
end
section
attribute [local irreducible] ACallsTo ACallsP
def oneH:Hash:=⟨1::List.replicate 31 0,by simp⟩
end
section
attribute [local irreducible] ACallsTo ACallsP
theorem zl4(n:Int)(r:Hash)(i:Int)(s:List UInt8)(x:AV):(sgC n r i s x).drop 36=[]:=List.drop_of_length_le (by rw [z8];decide)
end
section
attribute [local irreducible] ACallsTo ACallsP
def strs(L:List (List UInt8)):List (List AV):=L.map fun s=>[.str s]
theorem z28(L:List (List UInt8)):(strs L).length=L.length:=by simp [strs]
theorem zvb{L:List (List UInt8)}{i:Nat}(h:i<L.length):(strs L)[i]? =some [.str (L.getD i [])]:=by
 simp [strs,List.getElem?_map,List.getElem?_eq_getElem h]
def zcb:Ty:=.row [.row [.int .i64,z3y],.int .i64,.str,.int .i8,.sl 32 z3y]
end
section
set_option maxRecDepth 10000
def q1zr0:yW:=[
 yI 1 (.box (.t 0)),
 yI 2 (.alloc zZ0)]
def q1zr1:yW:=[
 yF 3 0 1,
 ⟨some 4,none,.rd,.load false 1 (.t 3)⟩,
 yI 5 (.conv (.int .u64) (.t 4)),
 ⟨some 6,none,.ef,.call (.v (.fn 114 [])) [(.t 5),(.v (.int .i64 8))]⟩,
 yI 7 (.bin .add .none (.v (.str [5])) (.t 6)),
 yF 8 1 1,
 ⟨some 9,none,.rd,.load true 32 (.t 8)⟩,
 yC 10 42 9,
 yB 11 .add 7 10,
 yC 12 101 11,
 yS 32 2 12]
def q1zc2:yX:=yq q1zr1 .ret
def q1zc3:yX:=yq q1zr0 q1zc2
attribute [go_sem] q1zr0 q1zr1
theorem q1zok:cFn TC 66=some (13,[.c 2 true 32],q1zc3):=by kernel_rfl
def q20r0:yW:=[
 yI 2 (.box (.t 0)),
 yI 3 (.box (.t 1)),
 yK 4 .i64 0]
def q20r1:yW:=[
 yL 5 true 36 3,
 yC 6 93 5,
 yI 7 (.un .not (.t 6))]
def q20r2:yW:=[
 yK 4 .i64 2]
def q20c3:yX:=yq q20r2 .ret
def q20c4:yX:=.cond (.t 7) q20c3 .skip
def q20c5:yX:=yq q20r1 q20c4
def q20r6:yW:=[
 ⟨some 8,none,.rd,.load true 32 (.t 2)⟩,
 yF 9 0 3,
 ⟨some 10,none,.rd,.load true 33 (.t 9)⟩,
 ⟨some 11,none,.ef,.call (.v (.fn 66 [])) [(.t 10)]⟩,
 yF 12 33 3,
 ⟨some 13,none,.rd,.load true 3 (.t 12)⟩,
 yI 14 (.call (.v (.fn 100 [])) [(.t 8),(.t 11),(.t 13)]),
 yJ 15 .neq 14 .i64 0]
def q20r7:yW:=[
 yK 4 .i64 81]
def q20c8:yX:=yq q20r7 .ret
def q20c9:yX:=.cond (.t 15) q20c8 .skip
def q20c10:yX:=yq q20r6 q20c9
def q20r11:yW:=[
 yK 4 .i64 0]
def q20c12:yX:=yq q20r11 .ret
def q20c13:yX:=.seq q20c10 q20c12
def q20c14:yX:=.seq q20c5 q20c13
def q20c15:yX:=yq q20r0 q20c14
attribute [go_sem] q20r0 q20r1 q20r2 q20r6 q20r7 q20r11
theorem q20ok:cFn TC 46=some (16,[.t 4],q20c15):=by kernel_rfl
def q21r0:yW:=[
 yI 2 (.box (.t 0)),
 yI 3 (.box (.t 1)),
 yI 4 (.mv (.v (.bool false)))]
def q21r1:yW:=[
 yF 5 0 2,
 yL 6 true 33 5,
 yF 7 0 3,
 yL 8 true 33 7,
 yI 9 (.bin .eql (.agg ([(.i .i64)]++(List.replicate 32 (.i .u8)++ []))) (.t 6) (.t 8)),
 yM 10 9,
 yT 11 10 true 33 2,
 yT 12 10 true 0 11,
 yU 13 10 true false 1 12,
 yT 14 10 true 33 3,
 yT 15 10 true 0 14,
 yU 16 10 true false 1 15,
 yG 17 10 true (.bin .eql .none (.t 13) (.t 16)),
 yQ 18 10 17,
 yM 19 18,
 yT 20 19 true 33 2,
 yT 21 19 true 1 20,
 yU 22 19 true false 1 21,
 yT 23 19 true 33 3,
 yT 24 19 true 1 23,
 yU 25 19 true false 1 24,
 yG 26 19 true (.bin .eql .none (.t 22) (.t 25)),
 yQ 27 19 26,
 yM 28 27,
 yT 29 28 true 33 2,
 yT 30 28 true 2 29,
 yU 31 28 true false 1 30,
 yT 32 28 true 33 3,
 yT 33 28 true 2 32,
 yU 34 28 true false 1 33,
 yG 35 28 true (.call (.v (.fn 49 [])) [(.t 31),(.t 34)]),
 yQ 36 28 35,
 yM 4 36]
def q21c2:yX:=yq q21r1 .ret
def q21c3:yX:=yq q21r0 q21c2
attribute [go_sem] q21r0 q21r1
theorem q21ok:cFn TC 48=some (37,[.t 4],q21c3):=by kernel_rfl
def q22r0:yW:=[
 yI 2 (.box (.t 0)),
 yI 3 (.box (.t 1)),
 yI 4 (.mv (.v (.bool false)))]
def q22r1:yW:=[
 yF 6 0 2,
 yL 7 true 33 6,
 yF 8 0 3,
 yL 9 true 33 8,
 yI 10 (.bin .neq (.agg ([(.i .i64)]++(List.replicate 32 (.i .u8)++ []))) (.t 7) (.t 9)),
 yM 11 10,
 yT 12 11 false 33 2,
 yT 13 11 false 0 12,
 yU 14 11 false false 1 13,
 yT 15 11 false 33 3,
 yT 16 11 false 0 15,
 yU 17 11 false false 1 16,
 yG 18 11 false (.bin .neq .none (.t 14) (.t 17)),
 yP 19 11 18,
 yM 20 19,
 yT 21 20 false 33 2,
 yT 22 20 false 1 21,
 yU 23 20 false false 1 22,
 yT 24 20 false 33 3,
 yT 25 20 false 1 24,
 yU 26 20 false false 1 25,
 yG 27 20 false (.bin .neq .none (.t 23) (.t 26)),
 yP 28 20 27,
 yM 29 28,
 yT 30 29 false 33 2,
 yT 31 29 false 2 30,
 yU 32 29 false false 1 31,
 yG 33 29 false (.lenSl (.t 32)),
 yT 34 29 false 33 3,
 yT 35 29 false 2 34,
 yU 36 29 false false 1 35,
 yG 37 29 false (.lenSl (.t 36)),
 yG 38 29 false (.bin .neq .none (.t 33) (.t 37)),
 yP 39 29 38]
def q22r2:yW:=[
 yI 4 (.mv (.v (.bool false)))]
def q22c3:yX:=yq q22r2 .ret
def q22c4:yX:=.cond (.t 39) q22c3 .skip
def q22c5:yX:=yq q22r1 q22c4
def q22r6:yW:=[
 yK 5 .i64 0]
def q22r7:yW:=[
 yM 40 5,
 yF 41 33 2,
 yF 42 2 41,
 yL 43 false 1 42,
 yI 44 (.lenSl (.t 43)),
 yB 45 .lss 40 44]
def q22c8:yX:=.cond (.t 45) .skip (.exit 0)
def q22c9:yX:=yq q22r7 q22c8
def q22r10:yW:=[
 yF 48 33 2,
 yF 49 2 48,
 ⟨some 50,none,.rd,.load false 1 (.t 49)⟩,
 yM 51 5,
 yI 52 (.iaSl 32 (.t 50) (.t 51)),
 ⟨some 53,none,.rd,.load true 32 (.t 52)⟩,
 yF 54 33 3,
 yF 55 2 54,
 ⟨some 56,none,.rd,.load false 1 (.t 55)⟩,
 yM 57 5,
 yI 58 (.iaSl 32 (.t 56) (.t 57)),
 ⟨some 59,none,.rd,.load true 32 (.t 58)⟩,
 yI 60 (.bin .neq (.agg (List.replicate 32 (.i .u8)++ [])) (.t 53) (.t 59))]
def q22r11:yW:=[
 yI 4 (.mv (.v (.bool false)))]
def q22c12:yX:=yq q22r11 .ret
def q22c13:yX:=.cond (.t 60) q22c12 .skip
def q22c14:yX:=yq q22r10 q22c13
def q22r15:yW:=[
 yM 46 5,
 yJ 47 .add 46 .i64 1,
 yM 5 47]
def q22c16:yX:=.seq (.block 1 q22c14) (.reg q22r15)
def q22c17:yX:=.seq q22c9 q22c16
def q22c18:yX:=.loop q22c17
def q22c19:yX:=.block 0 q22c18
def q22c20:yX:=yq q22r6 q22c19
def q22r21:yW:=[
 yI 4 (.mv (.v (.bool true)))]
def q22c22:yX:=yq q22r21 .ret
def q22c23:yX:=.seq q22c20 q22c22
def q22c24:yX:=.seq q22c5 q22c23
def q22c25:yX:=yq q22r0 q22c24
attribute [go_sem] q22r0 q22r1 q22r2 q22r6 q22r7 q22r10 q22r11 q22r15 q22r21
theorem q22ok:cFn TC 50=some (61,[.t 4],q22c25):=by kernel_rfl
end
section
def digH(n:Int)(r:Hash):Hash:=shaH (5::(putS (n%18446744073709551616) 8++r.1))
def z3h(key:Hash)(n i:Int)(r:Hash)(s:List UInt8)(l:List Hash):Int:=
 if z1t n i s l=false then 2 else if verI key (digH n r) i s l=0 then 0 else 81
theorem zkg(O:Store)(h:Hash):ACallsTo TC 42 [.agg (hc h)] O (.str h.1) O:=z81 O h.1 h.2
attribute [local irreducible] ACallsTo ACallsP
theorem zmi(O:Store)(n:Int)(r:Hash):ACallsTo TC 96 [.agg (.int .i64 n::hc r)] O (.agg (hc (digH n r))) O:=by
 have hP:=fun O=>z7l O (n%18446744073709551616) 8 (by omega) (by omega)
 have hl:=zk5 (n%18446744073709551616) 8
 have hH:=fun O=>z5a O r
 have h32:=r.2
 have hS:=fun O=>zch O (5::(putS (n%18446744073709551616) 8++r.1)) (by simp;omega)
 unfold digH
 generalize putS (n%18446744073709551616) 8=p at*
 refine ACallsTo.of_body q1yok (by simp) fun hw _=> ?_
 repeat' (first|apply zs_|apply zb_|apply zc_|apply zt_ rfl|apply zf_ rfl|(apply zd_ rfl<;>intro ht<;>try omega)|((first|apply zr_|apply zk_|apply ze_|apply zq_|(apply callW.mk_pu;(first|exact(fun _=>hP _)|exact(fun _=>hH _)|exact(fun _=>hS _)))|(apply callW.za;(first|exact(hP _)|exact(hH _)|exact(hS _)))|(apply zG<;>intro ht));all_goals try simp (disch:=first|omega|(simp only [lens,z7,z6,lQr];first|done|omega)) only [go_sem,h32]))
 exact DownV.pure hw (z3r _)
theorem zkb(O:Store)(n:Int)(r:Hash):ACallsTo TC 66 [.agg (.int .i64 n::hc r)] O (.agg (hc (digH n r))) O:=by
 have hP:=fun O=>zuw O (n%18446744073709551616) 8 (by omega) (by omega)
 have hl:=zk5 (n%18446744073709551616) 8
 have hH:=fun O=>zkg O r
 have h32:=r.2
 have hS:=fun O=>zc0 O (5::(putS (n%18446744073709551616) 8++r.1)) (by simp;omega)
 unfold digH
 generalize putS (n%18446744073709551616) 8=p at*
 refine ACallsTo.of_body q1zok (by simp) fun hw _=> ?_
 repeat' (first|apply zs_|apply zb_|apply zc_|apply zt_ rfl|apply zf_ rfl|(apply zd_ rfl<;>intro ht<;>try omega)|((first|apply zr_|apply zk_|apply ze_|apply zq_|(apply callW.mk_pu;(first|exact(fun _=>hP _)|exact(fun _=>hH _)|exact(fun _=>hS _)))|(apply callW.za;(first|exact(hP _)|exact(hH _)|exact(hS _)))|(apply zG<;>intro ht));all_goals try simp (disch:=first|omega|(simp only [lens,z7,z6,lQr];first|done|omega)) only [go_sem,h32]))
 exact DownV.pure hw (z3r _)
theorem zgc(O:Store)(key:Hash)(n i:Int)(r:Hash)(s:List UInt8)(l:List Hash)(x:AV)(hx:RdSl O 32 (hr l) x):
  ACallsTo TC 44 [.agg (hc key),.agg (sgC n r i s x)] O (.int .i64 (z3h key n i r s l)) O:=by
 have xc:=hx.cells
 unfold cellsOf at xc
 have hV:=fun y=>z6r (O++y) n i r s l x hx.app
 unfold z3h
 refine ACallsTo.of_body q1wok (by simp) fun hw _=> ?_
 cases hv:z1t n i s l with
 |false=>
  rw [hv]at hV
  rw [if_pos rfl]
  repeat' (first|apply zs_|apply zb_|apply zc_|apply zt_ rfl|apply zf_ rfl|(apply zd_ rfl<;>intro ht<;>try omega)|((first|apply zr_|apply zk_|apply ze_|apply zq_|(apply callW.mk_pu;(first|exact(fun _=>hV _)))|(apply callW.za;(first|exact(hV _)))|(apply zG<;>intro ht));all_goals try simp (disch:=first|omega|(simp only [lens,z7,z6,lQr];first|done|omega)) only [go_sem,xc]))
  exact DownV.pure hw (zz _ rfl)
 |true=>
  rw [hv]at hV
  rw [if_neg (by simp)]
  have hv2:=of_decide_eq_true hv
  have hD:=fun O=>zmi O n r
  have hY:=fun y=>zn3 (O++y) key (digH n r) i s l x hx.app (by omega) (by omega) (by omega)
  generalize verI key (digH n r) i s l=c at*
  by_cases h0:c=0
  ·subst h0
   rw [if_pos rfl]
   repeat' (first|apply zs_|apply zb_|apply zc_|apply zt_ rfl|apply zf_ rfl|(apply zd_ rfl<;>intro ht<;>try omega)|((first|apply zr_|apply zk_|apply ze_|apply zq_|(apply callW.mk_pu;(first|exact(fun _=>hV _)|exact(fun _=>hD _)|exact(fun _=>hY _)))|(apply callW.za;(first|exact(hV _)|exact(hD _)|exact(hY _)))|(apply zG<;>intro ht));all_goals try simp (disch:=first|omega|(simp only [lens,z7,z6,lQr];first|done|omega)) only [go_sem,xc]))
   exact DownV.pure hw (zz _ rfl)
  ·rw [if_neg h0]
   repeat' (first|apply zs_|apply zb_|apply zc_|apply zt_ rfl|apply zf_ rfl|(apply zd_ rfl<;>intro ht<;>try omega)|((first|apply zr_|apply zk_|apply ze_|apply zq_|(apply callW.mk_pu;(first|exact(fun _=>hV _)|exact(fun _=>hD _)|exact(fun _=>hY _)))|(apply callW.za;(first|exact(hV _)|exact(hD _)|exact(hY _)))|(apply zG<;>intro ht));all_goals try simp (disch:=first|omega|(simp only [lens,z7,z6,lQr];first|done|omega)) only [go_sem,xc,h0]))
   exact DownV.pure hw (zz _ rfl)
theorem zkc(O:Store)(key:Hash)(n i:Int)(r:Hash)(s:List UInt8)(l:List Hash)(x:AV)(hx:RdSl O 32 (hr l) x):
  ACallsTo TC 46 [.agg (hc key),.agg (sgC n r i s x)] O (.int .i64 (z3h key n i r s l)) O:=by
 have xc:=hx.cells
 unfold cellsOf at xc
 have hV:=fun y=>zbz (O++y) n i r s l x hx.app
 unfold z3h
 refine ACallsTo.of_body q20ok (by simp) fun hw _=> ?_
 cases hv:z1t n i s l with
 |false=>
  rw [hv]at hV
  rw [if_pos rfl]
  repeat' (first|apply zs_|apply zb_|apply zc_|apply zt_ rfl|apply zf_ rfl|(apply zd_ rfl<;>intro ht<;>try omega)|((first|apply zr_|apply zk_|apply ze_|apply zq_|(apply callW.mk_pu;(first|exact(fun _=>hV _)))|(apply callW.za;(first|exact(hV _)))|(apply zG<;>intro ht));all_goals try simp (disch:=first|omega|(simp only [lens,z7,z6,lQr];first|done|omega)) only [go_sem,xc]))
  exact DownV.pure hw (zz _ rfl)
 |true=>
  rw [hv]at hV
  rw [if_neg (by simp)]
  have hv2:=of_decide_eq_true hv
  have hD:=fun O=>zkb O n r
  have hY:=fun y=>ztl (O++y) key (digH n r) i s l x hx.app (by omega) (by omega) (by omega)
  generalize verI key (digH n r) i s l=c at*
  by_cases h0:c=0
  ·subst h0
   rw [if_pos rfl]
   repeat' (first|apply zs_|apply zb_|apply zc_|apply zt_ rfl|apply zf_ rfl|(apply zd_ rfl<;>intro ht<;>try omega)|((first|apply zr_|apply zk_|apply ze_|apply zq_|(apply callW.mk_pu;(first|exact(fun _=>hV _)|exact(fun _=>hD _)|exact(fun _=>hY _)))|(apply callW.za;(first|exact(hV _)|exact(hD _)|exact(hY _)))|(apply zG<;>intro ht));all_goals try simp (disch:=first|omega|(simp only [lens,z7,z6,lQr];first|done|omega)) only [go_sem,xc]))
   exact DownV.pure hw (zz _ rfl)
  ·rw [if_neg h0]
   repeat' (first|apply zs_|apply zb_|apply zc_|apply zt_ rfl|apply zf_ rfl|(apply zd_ rfl<;>intro ht<;>try omega)|((first|apply zr_|apply zk_|apply ze_|apply zq_|(apply callW.mk_pu;(first|exact(fun _=>hV _)|exact(fun _=>hD _)|exact(fun _=>hY _)))|(apply callW.za;(first|exact(hV _)|exact(hD _)|exact(hY _)))|(apply zG<;>intro ht));all_goals try simp (disch:=first|omega|(simp only [lens,z7,z6,lQr];first|done|omega)) only [go_sem,xc,h0]))
   exact DownV.pure hw (zz _ rfl)
end
section
def ordI(n m:Int)(a b:Hash):Int:=if n ≠ m then(if n<m then 0 else 2)else if a ≠ b then 3 else 1
def z47(n n2 i i2:Int)(r r2:Hash)(s s2:List UInt8)(l l2:List Hash):Bool:=decide (n=n2/\ r=r2/\ i=i2/\ s=s2/\ l=l2)
attribute [local irreducible] ACallsTo ACallsP
theorem zge(O:Store)(n m:Int)(a b:Hash):ACallsTo TC 90 [.agg (.int .i64 n::hc a),.agg (.int .i64 m::hc b)] O (.int .i64 (ordI n m a b)) O:=by
 unfold ordI
 refine ACallsTo.of_body q1vok (by simp) fun hw _=> ?_
 rcases Int.lt_trichotomy n m with h|h|h
 ·rw [if_pos (by omega),if_pos h]
  repeat' (first|apply zs_|apply zb_|apply zc_|apply zt_ rfl|apply zf_ rfl|(apply zd_ rfl<;>intro ht<;>try omega)|((first|apply zr_|apply zk_|apply ze_|apply zq_|(apply zG<;>intro ht));all_goals try simp (disch:=first|omega|(simp only [lens,z7,z6,lQr,z8];first|done|omega)) only [go_sem,h]))
  all_goals exact DownV.pure hw (zz _ rfl)
 ·subst h
  by_cases h2:a=b
  ·subst h2
   rw [if_neg (by simp),if_neg (by simp)]
   repeat' (first|apply zs_|apply zb_|apply zc_|apply zt_ rfl|apply zf_ rfl|(apply zd_ rfl<;>intro ht<;>try omega)|((first|apply zr_|apply zk_|apply ze_|apply zq_|(apply zG<;>intro ht));all_goals try simp (disch:=first|omega|(simp only [lens,z7,z6,lQr,z8];first|done|omega)) only [go_sem]))
   all_goals exact DownV.pure hw (zz _ rfl)
  ·rw [if_neg (by simp),if_pos h2]
   repeat' (first|apply zs_|apply zb_|apply zc_|apply zt_ rfl|apply zf_ rfl|(apply zd_ rfl<;>intro ht<;>try omega)|((first|apply zr_|apply zk_|apply ze_|apply zq_|(apply zG<;>intro ht));all_goals try simp (disch:=first|omega|(simp only [lens,z7,z6,lQr,z8];first|done|omega)) only [go_sem,h2]))
   all_goals exact DownV.pure hw (zz _ rfl)
 ·rw [if_pos (by omega),if_neg (by omega)]
  repeat' (first|apply zs_|apply zb_|apply zc_|apply zt_ rfl|apply zf_ rfl|(apply zd_ rfl<;>intro ht<;>try omega)|((first|apply zr_|apply zk_|apply ze_|apply zq_|(apply zG<;>intro ht));all_goals try simp (disch:=first|omega|(simp only [lens,z7,z6,lQr,z8];first|done|omega)) only [go_sem,h]))
  all_goals exact DownV.pure hw (zz _ rfl)
theorem zgf(O:Store)(n n2 i i2:Int)(r r2:Hash)(s s2:List UInt8)(l l2:List Hash)(x y:AV)(hx:RdSl O 32 (hr l) x)(hy:RdSl O 32 (hr l2) y)(hl:l.length<1000000)(hl2:l2.length<1000000):
  ACallsTo TC 48 [.agg (sgC n r i s x),.agg (sgC n2 r2 i2 s2 y)] O (.bool (z47 n n2 i i2 r r2 s s2 l l2)) O:=by
 have hE:=fun z=>zga (O++z) l l2 x y hx.app hy.app (by omega) (by omega)
 unfold z47
 refine ACallsTo.of_body q21ok (by simp) fun hw _=> ?_
 by_cases h1:n=n2/\ r=r2
 ·have e1:=(zcf n n2 r r2).trans (decide_eq_true h1)
  by_cases h2:i=i2
  ·subst h2
   by_cases h3:s=s2
   ·subst h3
    rw [show decide (n=n2/\ r=r2/\ i=i/\ s=s/\ l=l2)=decide (l=l2)from by rw [Bool.eq_iff_iff];simp [h1]]
    generalize decide (l=l2)=b at*
    repeat' (first|apply zs_|apply zb_|apply zc_|apply zt_ rfl|apply zf_ rfl|(apply zd_ rfl<;>intro ht<;>try omega)|((first|apply zr_|apply zk_|apply ze_|apply zq_|(apply callW.mk_pu;(first|exact(fun _=>hE _)))|(apply callW.za;(first|exact(hE _)))|(apply zG<;>intro ht));all_goals try simp (disch:=first|omega|(simp only [lens,z7,z6,lQr,z8];first|done|omega)) only [go_sem,e1,z1h,eq_self,and_self,if_true]))
    exact DownV.pure hw z16
   ·rw [decide_eq_false (by simp [h3])]
    have e:(s==s2)=false:=beq_false_of_ne h3
    repeat' (first|apply zs_|apply zb_|apply zc_|apply zt_ rfl|apply zf_ rfl|(apply zd_ rfl<;>intro ht<;>try omega)|((first|apply zr_|apply zk_|apply ze_|apply zq_|(apply zG<;>intro ht));all_goals try simp (disch:=first|omega|(simp only [lens,z7,z6,lQr,z8];first|done|omega)) only [go_sem,e1,e,z1h,eq_self,and_self,if_true]))
    exact DownV.pure hw z16
  ·rw [decide_eq_false (by simp [h2])]
   repeat' (first|apply zs_|apply zb_|apply zc_|apply zt_ rfl|apply zf_ rfl|(apply zd_ rfl<;>intro ht<;>try omega)|((first|apply zr_|apply zk_|apply ze_|apply zq_|(apply zG<;>intro ht));all_goals try simp (disch:=first|omega|(simp only [lens,z7,z6,lQr,z8];first|done|omega)) only [go_sem,e1,h2,z1h,eq_self,and_self,if_true]))
   exact DownV.pure hw z16
 ·rw [decide_eq_false (by rintro⟨a,b,_⟩;exact h1 ⟨a,b⟩)]
  have e1:=(zcf n n2 r r2).trans (decide_eq_false h1)
  repeat' (first|apply zs_|apply zb_|apply zc_|apply zt_ rfl|apply zf_ rfl|(apply zd_ rfl<;>intro ht<;>try omega)|((first|apply zr_|apply zk_|apply ze_|apply zq_|(apply zG<;>intro ht));all_goals try simp (disch:=first|omega|(simp only [lens,z7,z6,lQr,z8];first|done|omega)) only [go_sem,e1,z1h,eq_self,and_self,if_true]))
  exact DownV.pure hw z16
theorem zkd(O:Store)(n n2 i i2:Int)(r r2:Hash)(s s2:List UInt8)(l l2:List Hash)(x y:AV)(hx:SlV 32 (hr l) x)(hy:SlV 32 (hr l2) y)(hl:l.length<1000000)(hl2:l2.length<1000000):
  ACallsTo TC 50 [.agg (sgC n r i s x),.agg (sgC n2 r2 i2 s2 y)] O (.bool (z47 n n2 i i2 r r2 s s2 l l2)) O:=by
 have a1:=hx.len
 have a2:=hy.len
 rw [z6]at a1 a2
 unfold z1c at a1 a2
 unfold z47
 refine ACallsTo.of_body q22ok (by simp) fun hw _=> ?_
 by_cases h1:n=n2/\ r=r2
 ·have e1:=(zcf n n2 r r2).trans (decide_eq_true h1)
  by_cases h2:i=i2
  ·subst h2
   by_cases h3:s=s2
   ·subst h3
    rw [show decide (n=n2/\ r=r2/\ i=i/\ s=s/\ l=l2)=decide (l=l2)from by rw [Bool.eq_iff_iff];simp [h1]]
    by_cases hll:l.length=l2.length
    ·have hll':(l.length:Int)=l2.length:=by omega
     repeat' (first|apply zs_|apply zb_|apply zc_|apply zt_ rfl|apply zf_ rfl|(apply zd_ rfl<;>intro ht<;>try omega)|((first|apply zr_|apply zk_|apply ze_|apply zq_|(apply zG<;>intro ht));all_goals try simp (disch:=first|omega|(simp only [lens,z7,z6,lQr,z8];first|done|omega)) only [go_sem,e1,a1,a2,hll',z1h,eq_self,and_self,if_true]))
     refine zW.loop (fun m J O'=>∃k:Nat,m+k=l.length/\ O'=O++ [some [sgC n r i s x],some [sgC n2 r2 i s y]]/\ l.take k=l2.take k/\ J 2=.ptr O.length 0 0/\ J 3=.ptr (O.length+1) 0 0/\ J 5=.int .i64 k) l.length ?_ ?_
     ·exact⟨0,by omega,rfl,rfl,by simp (disch:=first|omega|(simp only [lens,z7,z6,lQr,z8];first|done|omega)) only [go_sem],by simp (disch:=first|omega|(simp only [lens,z7,z6,lQr,z8];first|done|omega)) only [go_sem],by simp (disch:=first|omega|(simp only [lens,z7,z6,lQr,z8];first|done|omega)) only [go_sem];rfl⟩
     ·rintro m J O' ⟨k,hm,rfl,htk,q2,q3,q5⟩
      by_cases hk:k<l.length
      ·obtain⟨ex,rfl⟩:=hx.vsl (by rw [z6];omega)
       obtain⟨ex2,rfl⟩:=hy.vsl (by rw [z6];omega)
       have hk':(k:Int)<l2.length:=by omega
       by_cases hh:hd l k=hd l2 k
       ·have t1:=z4k (l:=l) (i:=k) hk
        have t2:=z4k (l:=l2) (i:=k) (by omega)
        repeat' (first|apply zs_|apply zb_|apply zc_|apply zt_ rfl|apply zf_ rfl|(apply zd_ rfl<;>intro ht<;>try omega)|((first|apply zr_|apply zk_|apply ze_|apply zq_|(apply zG<;>intro ht));all_goals try simp (disch:=first|omega|(simp only [lens,z7,z6,lQr,z8];first|done|omega)) only [go_sem,q2,q3,q5,a1,a2,hk',hh]))
        exact⟨m-1,by omega,k+1,by omega,by rw [t1,t2,htk,hh],by simp⟩
       ·rw [decide_eq_false (fun e=>hh (by rw [e]))]
        repeat' (first|apply zs_|apply zb_|apply zc_|apply zt_ rfl|apply zf_ rfl|(apply zd_ rfl<;>intro ht<;>try omega)|((first|apply zr_|apply zk_|apply ze_|apply zq_|(apply zG<;>intro ht));all_goals try simp (disch:=first|omega|(simp only [lens,z7,z6,lQr,z8];first|done|omega)) only [go_sem,q2,q3,q5,a1,a2,hk',hh]))
        exact DownV.pure hw z16
      ·have hk':¬(k:Int)<l2.length:=by omega
       have:l=l2:=by
        rw [List.take_of_length_le (by omega),List.take_of_length_le (by omega)]at htk
        exact htk
       rw [decide_eq_true this]
       repeat' (first|apply zs_|apply zb_|apply zc_|apply zt_ rfl|apply zf_ rfl|(apply zd_ rfl<;>intro ht<;>try omega)|((first|apply zr_|apply zk_|apply ze_|apply zq_|(apply zG<;>intro ht));all_goals try simp (disch:=first|omega|(simp only [lens,z7,z6,lQr,z8];first|done|omega)) only [go_sem,q2,q3,q5,a1,a2,hll',hk']))
       exact DownV.pure hw z16
    ·rw [decide_eq_false (fun e=>hll (by rw [e]))]
     have hll':¬(l.length:Int)=l2.length:=by omega
     repeat' (first|apply zs_|apply zb_|apply zc_|apply zt_ rfl|apply zf_ rfl|(apply zd_ rfl<;>intro ht<;>try omega)|((first|apply zr_|apply zk_|apply ze_|apply zq_|(apply zG<;>intro ht));all_goals try simp (disch:=first|omega|(simp only [lens,z7,z6,lQr,z8];first|done|omega)) only [go_sem,e1,a1,a2,hll',z1h,eq_self,and_self,if_true]))
     exact DownV.pure hw z16
   ·rw [decide_eq_false (by simp [h3])]
    have e:(s==s2)=false:=beq_false_of_ne h3
    repeat' (first|apply zs_|apply zb_|apply zc_|apply zt_ rfl|apply zf_ rfl|(apply zd_ rfl<;>intro ht<;>try omega)|((first|apply zr_|apply zk_|apply ze_|apply zq_|(apply zG<;>intro ht));all_goals try simp (disch:=first|omega|(simp only [lens,z7,z6,lQr,z8];first|done|omega)) only [go_sem,e1,e,z1h,eq_self,and_self,if_true]))
    exact DownV.pure hw z16
  ·rw [decide_eq_false (by simp [h2])]
   repeat' (first|apply zs_|apply zb_|apply zc_|apply zt_ rfl|apply zf_ rfl|(apply zd_ rfl<;>intro ht<;>try omega)|((first|apply zr_|apply zk_|apply ze_|apply zq_|(apply zG<;>intro ht));all_goals try simp (disch:=first|omega|(simp only [lens,z7,z6,lQr,z8];first|done|omega)) only [go_sem,e1,h2,z1h,eq_self,and_self,if_true]))
   exact DownV.pure hw z16
 ·rw [decide_eq_false (by rintro⟨a,b,_⟩;exact h1 ⟨a,b⟩)]
  have e1:=(zcf n n2 r r2).trans (decide_eq_false h1)
  repeat' (first|apply zs_|apply zb_|apply zc_|apply zt_ rfl|apply zf_ rfl|(apply zd_ rfl<;>intro ht<;>try omega)|((first|apply zr_|apply zk_|apply ze_|apply zq_|(apply zG<;>intro ht));all_goals try simp (disch:=first|omega|(simp only [lens,z7,z6,lQr,z8];first|done|omega)) only [go_sem,e1,z1h,eq_self,and_self,if_true]))
  exact DownV.pure hw z16
end
section
set_option maxRecDepth 10000

end
section
set_option maxRecDepth 10000
def q23r0:yW:=[
 yI 2 (.alloc zZ0)]
def q23r1:yW:=[
 yM 3 0,
 yI 4 (.bin .add .none (.v (.str [0])) (.t 3)),
 yC 5 101 4,
 yS 32 2 5]
def q23c2:yX:=yq q23r1 .ret
def q23c3:yX:=yq q23r0 q23c2
attribute [go_sem] q23r0 q23r1
theorem q23ok:cFn TC 124=some (6,[.c 2 true 32],q23c3):=by kernel_rfl
end
section
def stC(n:Int)(root:Hash)(rn:Int)(z v:AV):List AV:=.int .i64 n::(hc root++ [.int .i64 rn,z,v])
@[go_sem] theorem zlm (n:Int) (root:Hash) (rn:Int) (z v:AV):(stC n root rn z v).length=36:=by simp [stC,z7]
@[go_sem] theorem stC_0 (n:Int) (root:Hash) (rn:Int) (z v:AV):(stC n root rn z v)[0]? =some (.int .i64 n):=rfl
theorem zfm(n:Int)(root:Hash)(rn:Int)(z v:AV)(k:Nat):(stC n root rn z v)[33+k]? =[AV.int .i64 rn,z,v][k]?:=by
 rw [stC,show 33+k=(32+k)+1 by omega,List.getElem?_cons_succ,List.getElem?_append_right (by rw [z7];omega),z7,Nat.add_sub_cancel_left]
@[go_sem] theorem stC_33 (n:Int) (root:Hash) (rn:Int) (z v:AV):(stC n root rn z v)[33]? =some (.int .i64 rn):=zfm n root rn z v 0
@[go_sem] theorem stC_34 (n:Int) (root:Hash) (rn:Int) (z v:AV):(stC n root rn z v)[34]? =some z:=zfm n root rn z v 1
@[go_sem] theorem stC_35 (n:Int) (root:Hash) (rn:Int) (z v:AV):(stC n root rn z v)[35]? =some v:=zfm n root rn z v 2
@[go_sem] theorem stC_root (n:Int) (root:Hash) (rn:Int) (z v:AV):((stC n root rn z v).drop 1).take 32=hc root:=by rw [stC,List.drop_succ_cons,List.drop_zero,z7s]
@[go_sem] theorem zuz (n:Int) (root:Hash) (rn:Int) (z v:AV):(stC n root rn z v).drop 33=[.int .i64 rn,z,v]:=by rw [stC,List.drop_succ_cons,z7r]
attribute [local irreducible] ACallsTo ACallsP
end
section
def lfH(s:List UInt8):Hash:=shaH (0::s)
attribute [local irreducible] ACallsTo ACallsP
theorem ztj(O:Store)(s:List UInt8)(h:s.length<100000000):ACallsTo TC 124 [.str s] O (.agg (hc (lfH s))) O:=by
 have hS:=fun O=>zc0 O (0::s) (by simp;omega)
 refine ACallsTo.of_body q23ok (by simp) fun hw _=> ?_
 unfold lfH
 repeat' (first|apply zs_|apply zb_|apply zc_|apply zt_ rfl|apply zf_ rfl|(apply zd_ rfl<;>intro ht<;>try omega)|((first|apply zr_|apply zk_|apply ze_|apply zq_|(apply callW.mk_pu;(first|exact(fun _=>hS _)))|(apply callW.za;(first|exact(hS _)))|(apply zG<;>intro ht));all_goals try simp (disch:=first|omega|(simp only [lens,z7,z6,lQr,zlm];first|done|omega)) only [go_sem]))
 exact DownV.pure hw (z3r _)
end
section
attribute [local irreducible] ACallsTo ACallsP
end
section
attribute [local irreducible] ACallsTo ACallsP
end
section
attribute [local irreducible] ACallsTo ACallsP
end
section
def stD(L:List (List UInt8))(i:Nat):List UInt8:=L.getD i []
theorem zv0{L:List (List UInt8)}{i:Nat}(h:i<L.length):stD L i ∈ L:=by
 rw [stD,List.getD_eq_getElem?_getD,List.getElem?_eq_getElem h];exact List.getElem_mem h
theorem zvk{L:List (List UInt8)}{i:Nat}(h:i<L.length):L.take (i+1)=L.take i++ [stD L i]:=by
 rw [List.take_add_one,stD,List.getD_eq_getElem?_getD,List.getElem?_eq_getElem h];rfl
def lvs(L:List (List UInt8)):List Hash:=L.map lfH
theorem z3o(L:List (List UInt8)):(lvs L).length=L.length:=by simp [lvs]
attribute [local irreducible] ACallsTo ACallsP
end
section
@[go_sem] theorem stC_set33 (n:Int) (root:Hash) (rn m:Int) (z v b:AV):(stC n root rn z v).take 33++ .int .i64 m::b::(stC n root rn z v).drop 35=stC n root m b v:=by
 have e:(stC n root rn z v).drop 35=[v]:=by
  have:=zuz n root rn z v
  have h2:(stC n root rn z v).drop 35=((stC n root rn z v).drop 33).drop 2:=by rw [List.drop_drop]
  rw [h2,this];rfl
 have e2:(stC n root rn z v).take 33=.int .i64 n::hc root:=by rw [stC,List.take_succ_cons,z7s]
 rw [e,e2];rfl
@[go_sem] theorem stC_set35 (n:Int) (root:Hash) (rn:Int) (z v b:AV):(stC n root rn z v).take 35++b::(stC n root rn z v).drop 36=stC n root rn z b:=by
 have e:(stC n root rn z v).drop 36=[]:=List.drop_eq_nil_of_le (by rw [zlm];omega)
 have e2:(stC n root rn z v).take 35=.int .i64 n::(hc root++ [.int .i64 rn,z]):=by
  have h3:stC n root rn z v=(.int .i64 n::(hc root++ [.int .i64 rn,z]))++ [v]:=by simp [stC]
  rw [h3,List.take_append_of_le_length (by simp [z7]),List.take_of_length_le (by simp [z7])]
 rw [e,e2];simp [stC]
def RowAt(sz:Nat)(O:Store)(sid:Option Nat)(v:AV)(es:List (List AV)):Prop:=
 (sid=none/\ es=[]/\ v=.nilsl) \/ ∃q,sid=some q/\ es ≠ []/\ v=.sl q 0 es.length none sz/\ O[q]? =some (some es)
theorem RowAt.rd{sz:Nat}{O:Store}{sid:Option Nat}{v:AV}{es:List (List AV)}(h:RowAt sz O sid v es):RdSl O sz es v:=by
 rcases h with⟨_,h,rfl⟩| ⟨r,_,_,rfl,hg⟩
 ·exact .inl (.inl ⟨rfl,h⟩)
 ·exact .inr ⟨r,0,none,es,rfl,hg,by omega,by simp⟩
theorem RowAt.keep{sz:Nat}{O O':Store}{sid:Option Nat}{v:AV}{es:List (List AV)}(h:RowAt sz O sid v es)(hk:∀q,sid=some q->O'[q]? =O[q]?):RowAt sz O' sid v es:=by
 rcases h with h| ⟨r,e,h2,h3,hg⟩
 ·exact .inl h
 ·exact .inr ⟨r,e,h2,h3,by rw [hk r e];exact hg⟩
theorem RowAt.cells{sz:Nat}{O:Store}{sid:Option Nat}{v:AV}{es:List (List AV)}(h:RowAt sz O sid v es):cellsOf v=some [v]:=by
 rcases h with⟨_,_,rfl⟩| ⟨r,_,_,rfl,_⟩<;>rfl
theorem RowAt.lt{sz:Nat}{O:Store}{sid:Option Nat}{v:AV}{es:List (List AV)}(h:RowAt sz O sid v es){q:Nat}(hq:sid=some q):q<O.length:=by
 rcases h with⟨e,_,_⟩| ⟨r,e,_,_,hg⟩
 ·rw [e]at hq;cases hq
 ·rw [e]at hq;cases hq;exact slen hg
structure StFr(O O':Store)(r:Nat)(sid sid':Option Nat):Prop where
 st:∀j,j<O.length->j ≠ r->sid ≠ some j->O'[j]? =O[j]?
 new:sid'=sid \/ ∃q,sid'=some q/\ O.length<=q
 le:O.length<=O'.length
theorem StFr.ext{O O':Store}{r:Nat}{sid:Option Nat}(h:Ext O O'):StFr O O' r sid sid:=by
 refine⟨fun j hj _ _=> ?_,.inl rfl,h.le⟩
 obtain⟨y,rfl⟩:=h
 exact gapp hj
def StgIs(O:Store)(r:Nat)(hn:Nat)(root:Hash)(rn:Nat)(hs:List Hash)(L:List (List UInt8))(sid:Option Nat):Prop:=
 ∃z v,O[r]? =some (some [stC hn root rn z v])/\ SlV 32 (hr hs) z/\ RowAt 1 O sid v (strs L)
theorem StgIs.keep{O O':Store}{r hn:Nat}{root:Hash}{rn:Nat}{hs:List Hash}{L:List (List UInt8)}{sid:Option Nat}(h:StgIs O r hn root rn hs L sid)(h0:O'[r]? =O[r]?)(hk:∀q,sid=some q->O'[q]? =O[q]?):StgIs O' r hn root rn hs L sid:=by
 obtain⟨z,v,hg,hz,hv⟩:=h
 exact⟨z,v,by rw [h0];exact hg,hz,hv.keep hk⟩
theorem StgIs.ext{O O':Store}{r hn:Nat}{root:Hash}{rn:Nat}{hs:List Hash}{L:List (List UInt8)}{sid:Option Nat}(h:StgIs O r hn root rn hs L sid)(he:Ext O O'):StgIs O' r hn root rn hs L sid:=by
 obtain⟨y,rfl⟩:=he
 have h':=h
 obtain⟨z,v,hg,hz,hv⟩:=h'
 exact h.keep (gapp (slen hg)) (fun q hq=>gapp (hv.lt hq))
def longs(X:List (List UInt8)):Bool:=X.any (fun s=>decide (200<s.length))
def nxH(rn:Nat)(hs:List Hash)(X:List (List UInt8)):List Hash:=(extR rn hs.reverse (lvs X)).reverse
def addE(hn:Nat)(root:Hash)(rn:Nat)(hs:List Hash)(X:List (List UInt8))(P:List Hash):Int:=
 if X.length<1 \/16<X.length \/hn<rn+X.length then 2 else if longs X=true then 3
 else if chkH ((rn+X.length:Nat):Int) hn (rootR (nxH rn hs X).reverse) root P=0 then 0 else 80
def AddP(O:Store)(r hn:Nat)(root:Hash)(rn:Nat)(hs:List Hash)(L X:List (List UInt8))(P:List Hash)(sid:Option Nat)(a:AV)(O':Store):Prop:=
 a=.int .i64 (addE hn root rn hs X P)/\ ∃sid',StFr O O' r sid sid' ∧
  StgIs O' r hn root (if addE hn root rn hs X P=0 then rn+X.length else rn) (if addE hn root rn hs X P=0 then nxH rn hs X else hs) (if addE hn root rn hs X P=0 then L++X else L) sid'
theorem AddP.no{O O':Store}{r hn:Nat}{root:Hash}{rn:Nat}{hs:List Hash}{L X:List (List UInt8)}{P:List Hash}{sid:Option Nat}{e:Int}(hT:StgIs O r hn root rn hs L sid)
  (he:addE hn root rn hs X P=e) (h0:e ≠ 0) (hx:Ext O O'):AddP O r hn root rn hs L X P sid (.int .i64 e) O':=by
 subst he
 refine⟨rfl,sid,.ext hx,?_⟩
 rw [if_neg h0,if_neg h0,if_neg h0]
 exact hT.ext hx
theorem AddP.is{O:Store}{r hn:Nat}{root:Hash}{rn:Nat}{hs:List Hash}{L X:List (List UInt8)}{P:List Hash}{sid:Option Nat}(hT:StgIs O r hn root rn hs L sid)(hX:X ≠ []):∃a O',AddP O r hn root rn hs L X P sid a O':=by
 by_cases h:addE hn root rn hs X P=0
 ·obtain⟨z,v,hg,hz,hv⟩:=hT
  have hrl:=slen hg
  have hne:strs (L++X) ≠ []:=fun e=>by
   have h1:(strs (L++X)).length=0:=by rw [e];rfl
   rw [z28,List.length_append]at h1
   exact hX (List.eq_nil_of_length_eq_zero (by omega))
  refine⟨_,(O.set r (some [stC hn root ((rn+X.length:Nat):Int) (z11 32 (hr (nxH rn hs X))) (.sl O.length 0 (strs (L++X)).length none 1)]))++ [some (strs (L++X))],rfl,some O.length,⟨fun j hj hjr _=> ?_,.inr ⟨O.length,rfl,Nat.le_refl _⟩,by simp⟩,?_⟩
  ·rw [gapp (by simpa using hj),z1g (fun e=>hjr e.symm)]
  ·rw [if_pos h,if_pos h,if_pos h]
   refine⟨_,_,by rw [gapp (by simpa using hrl),z3g hrl],z88 _ _,.inr ⟨O.length,rfl,hne,rfl,?_⟩⟩
   rw [z2h (by simp)];simp
 ·exact⟨_,O,.no hT rfl h (.refl _)⟩
theorem AddP.ok{O O':Store}{r hn:Nat}{root:Hash}{rn:Nat}{hs:List Hash}{L X:List (List UInt8)}{P:List Hash}{sid:Option Nat}{z2:AV}{q':Nat}(he:addE hn root rn hs X P=0)(hX:X ≠ [])
  (hg:O'[r]? =some (some [stC hn root ((rn+X.length:Nat):Int) z2 (.sl q' 0 (strs (L++X)).length none 1)])) (hz:SlV 32 (hr (nxH rn hs X)) z2) (hq:O'[q']? =some (some (strs (L++X)))) (hqn:O.length<=q') (hle:O.length<=O'.length)
  (hst:∀j,j<O.length->j ≠ r->sid ≠ some j->O'[j]? =O[j]?):AddP O r hn root rn hs L X P sid (.int .i64 0) O':=by
 have hne:strs (L++X) ≠ []:=fun e=>by
  have h1:(strs (L++X)).length=0:=by rw [e];rfl
  rw [z28,List.length_append]at h1
  exact hX (List.eq_nil_of_length_eq_zero (by omega))
 refine⟨by rw [he],some q',⟨hst,.inr ⟨q',rfl,hqn⟩,hle⟩,?_⟩
 rw [if_pos he,if_pos he,if_pos he]
 exact⟨_,_,hg,hz,.inr ⟨q',rfl,hne,rfl,hq⟩⟩
attribute [local irreducible] ACallsTo ACallsP
end
section
attribute [local irreducible] ACallsTo ACallsP
end
section
structure ActS where
 k:Int
 c:Int
 L:List (List UInt8)
 P:List Hash
 x:AV
 y:AV
structure ActOk(a:ActS):Prop where
 k:0<=a.k/\ a.k<=255
 c:0<=a.c/\ a.c<=255
 x:SlV 1 (strs a.L) a.x
 y:SlV 32 (hr a.P) a.y
 ll:a.L.length<=maxLen
 pl:a.P.length<=maxLen
 sl:∀s ∈ a.L,s.length<=maxLen
attribute [local irreducible] ACallsTo ACallsP
end
section
theorem zvd(l:List (List UInt8))(n:Nat):(strs l).take n=strs (l.take n):=by simp [strs,List.map_take]
attribute [local irreducible] ACallsTo ACallsP
end
section
structure StAt(τ O':Store)(r hn:Nat)(root:Hash)(rn:Nat)(hs:List Hash)(L:List (List UInt8)):Prop where
 is:∃sid,StgIs O' r hn root rn hs L sid/\ ∀q,sid=some q->τ.length<=q
 r:τ.length<=r
 le:τ.length<=O'.length
 st:∀q,q<τ.length->O'[q]? =τ[q]?
theorem StAt.get{τ O':Store}{r hn:Nat}{root:Hash}{rn:Nat}{hs:List Hash}{L:List (List UInt8)}(h:StAt τ O' r hn root rn hs L){q:Nat}{o:Option AObj}(hq:τ[q]? =some o):O'[q]? =some o:=by
 rw [h.st q (slen hq)];exact hq
theorem StAt.more{τ O' y:Store}{r hn:Nat}{root:Hash}{rn:Nat}{hs:List Hash}{L:List (List UInt8)}(h:StAt τ O' r hn root rn hs L):StAt τ (O'++y) r hn root rn hs L:=by
 obtain⟨sid,h1,h2⟩:=h.is
 exact⟨⟨sid,h1.ext ⟨y,rfl⟩,h2⟩,h.r,by have:=h.le;simp;omega,fun q hq=>by rw [gapp (by have:=h.le;omega)];exact h.st q hq⟩
theorem StAt.has {τ O' : Store} {r hn : Nat} {root : Hash} {rn : Nat} {hs : List Hash} {L X : List (List UInt8)} {P : List Hash} (h : StAt τ O' r hn root rn hs L) (hX : X ≠ []) : ∃ a O'', a = AV.int .i64 (addE hn root rn hs X P) ∧
   StAt τ O'' r hn root (if addE hn root rn hs X P=0 then rn+X.length else rn) (if addE hn root rn hs X P=0 then nxH rn hs X else hs) (if addE hn root rn hs X P=0 then L++X else L):=by
 obtain⟨sid,h1,h2⟩:=h.is
 obtain⟨a,O'',e,sid',fr,T⟩:=AddP.is (P:=P) h1 hX
 refine⟨a,O'',e,⟨sid',T,fun q hq=> ?_⟩,h.r,by have:=h.le;have:=fr.le;omega,fun q hq=> ?_⟩
 ·rcases fr.new with h3| ⟨q',h3,h4⟩
  ·exact h2 q (by rw [<-h3];exact hq)
  ·rw [h3]at hq;cases hq;have:=h.le;omega
 ·rw [fr.st q (by have:=h.le;omega) (fun e=>by have:=h.r;omega) (fun e=>by have:=h2 q e;omega)]
  exact h.st q hq
section
variable (a b c d:Hash)
end
end
section
set_option maxRecDepth 10000

end
section
set_option maxRecDepth 10000
def q24r0:yW:=[
 yI 2 (.alloc [.nilp,.nilsl])]
def q24r1:yW:=[
 yI 3 (.call (.v (.fn 18 [])) [(.v (.str [108,111,103]))]),
 yM 4 0,
 yI 5 (.build [.nilp,.nilsl] [(0,1,(.t 3)),(1,1,(.t 4))]),
 yS 2 2 5]
def q24c2:yX:=yq q24r1 .ret
def q24c3:yX:=yq q24r0 q24c2
attribute [go_sem] q24r0 q24r1
theorem q24ok:cFn TC 29=some (6,[.c 2 true 2],q24c3):=by kernel_rfl
def q25r0:yW:=[
 yI 3 (.box (.t 0)),
 yI 6 (.alloc [(.int .i64 0),(.int .u8 0),(.int .u8 0),(.int .u8 0),(.int .u8 0),(.int .u8 0),(.int .u8 0),(.int .u8 0),(.int .u8 0),(.int .u8 0),(.int .u8 0),(.int .u8 0),(.int .u8 0),(.int .u8 0),(.int .u8 0),(.int .u8 0),(.int .u8 0),(.int .u8 0),(.int .u8 0),(.int .u8 0),(.int .u8 0),(.int .u8 0),(.int .u8 0),(.int .u8 0),(.int .u8 0),(.int .u8 0),(.int .u8 0),(.int .u8 0),(.int .u8 0),(.int .u8 0),(.int .u8 0),(.int .u8 0),(.int .u8 0),(.int .i64 0),(.str []),.nilsl])]
def q25r1:yW:=[
 yM 10 1,
 yF 11 1 3,
 yL 12 false 1 11,
 yM 13 1,
 yI 14 (.slice (.sl 1) (.t 12) none (some (.t 13)) none),
 yC 15 89 14,
 yC 16 88 15,
 yI 17 (.build ((.int .i64 0)::zZ0) [(0,1,(.t 10)),(1,32,(.t 16))]),
 yI 7 (.alloc ((.int .i64 0)::zZ0)),
 yS 33 7 17]
def q25r2:yW:=[
 yF 19 0 3,
 ⟨some 20,none,.rd,.load false 1 (.t 19)⟩,
 yM 21 2,
 yJ 22 .and 21 .i64 7,
 ⟨some 23,none,.rd,.load true 33 (.t 7)⟩,
 ⟨some 24,none,.pu,.call (.v (.fn 66 [])) [(.t 23)]⟩,
 ⟨some 25,none,.pu,.call (.v (.fn 65 [])) [(.t 20),(.t 22),(.t 24)]⟩,
 yM 18 25,
 yE 26 0 18,
 yE 27 1 18,
 ⟨some 8,none,.ef,.alloc [(.int .i64 0),(.str []),.nilsl]⟩,
 yS 3 8 26,
 yM 9 27]
def q25r3:yW:=[
 yL 28 true 33 7,
 yL 29 true 3 8,
 yI 30 (.build [(.int .i64 0),(.int .u8 0),(.int .u8 0),(.int .u8 0),(.int .u8 0),(.int .u8 0),(.int .u8 0),(.int .u8 0),(.int .u8 0),(.int .u8 0),(.int .u8 0),(.int .u8 0),(.int .u8 0),(.int .u8 0),(.int .u8 0),(.int .u8 0),(.int .u8 0),(.int .u8 0),(.int .u8 0),(.int .u8 0),(.int .u8 0),(.int .u8 0),(.int .u8 0),(.int .u8 0),(.int .u8 0),(.int .u8 0),(.int .u8 0),(.int .u8 0),(.int .u8 0),(.int .u8 0),(.int .u8 0),(.int .u8 0),(.int .u8 0),(.int .i64 0),(.str []),.nilsl] [(0,33,(.t 28)),(33,3,(.t 29))]),
 yS 36 6 30]
def q25c4:yX:=yq q25r3 .ret
def q25c5:yX:=yq q25r2 q25c4
def q25c6:yX:=yq q25r1 q25c5
def q25c7:yX:=yq q25r0 q25c6
attribute [go_sem] q25r0 q25r1 q25r2 q25r3
theorem q25ok:cFn TC 30=some (31,[.c 6 true 36],q25c7):=by kernel_rfl
def q26r0:yW:=[
 yI 2 (.mv (.v .nilsl))]
def q26r1:yW:=[
 yI 3 (.mv (.v .nilsl))]
def q26r2:yW:=[
 yK 4 .i64 0]
def q26r3:yW:=[
 yM 5 4,
 yM 6 0,
 yI 7 (.lenSl (.t 6)),
 yB 8 .lss 5 7]
def q26c4:yX:=.cond (.t 8) .skip (.exit 0)
def q26c5:yX:=yq q26r3 q26c4
def q26r6:yW:=[
 yM 11 3,
 yM 12 0,
 yM 13 4,
 yI 14 (.iaSl 1 (.t 12) (.t 13)),
 yL 15 false 1 14,
 yC 16 124 15,
 yI 17 (.lit 32 [(.t 16)]),
 yI 18 (.app 32 (.t 11) (.t 17)),
 yM 3 18]
def q26r7:yW:=[
 yM 9 4,
 yJ 10 .add 9 .i64 1,
 yM 4 10]
def q26c8:yX:=.seq (.block 1 (.reg q26r6)) (.reg q26r7)
def q26c9:yX:=.seq q26c5 q26c8
def q26c10:yX:=.loop q26c9
def q26c11:yX:=.block 0 q26c10
def q26c12:yX:=yq q26r2 q26c11
def q26r13:yW:=[
 yM 19 3,
 yM 2 19]
def q26c14:yX:=yq q26r13 .ret
def q26c15:yX:=.seq q26c12 q26c14
def q26c16:yX:=yq q26r1 q26c15
def q26c17:yX:=yq q26r0 q26c16
attribute [go_sem] q26r0 q26r1 q26r2 q26r3 q26r6 q26r7 q26r13
theorem q26ok:cFn TC 89=some (20,[.t 2],q26c17):=by kernel_rfl
end
section
def pbC0:List AV:=[.nilp,.nilsl,.nilsl,.int .i64 0,.nilsl,.nilsl]
def PubN(O:Store)(p:AV):Prop:=p=.nilp \/ ∃r,p=.ptr r 0 0/\ O[r]? =some (some [pbC0])
theorem PubN.more{O:Store}{p:AV}(h:PubN O p)(y:Store):PubN (O++y) p:=by
 rcases h with h| ⟨r,h,hg⟩
 ·exact .inl h
 ·exact .inr ⟨r,h,by rw [gapp (slen hg)];exact hg⟩
def sgZ:List AV:=.int .i64 0::(hc zeroH++ [.int .i64 0,.str [],.nilsl])
attribute [local irreducible] ACallsTo ACallsP pubH
end
section
attribute [local irreducible] ACallsTo ACallsP pubH
end
section
def adC0:List AV:=.bool false::(hc zeroH++(.bool false::(sgZ++ [.nilp])))
def AudN(O:Store)(p:AV):Prop:=p=.nilp \/ ∃r,p=.ptr r 0 0/\ O[r]? =some (some [adC0])
theorem AudN.more{O:Store}{p:AV}(h:AudN O p)(y:Store):AudN (O++y) p:=by
 rcases h with h| ⟨r,h,hg⟩
 ·exact .inl h
 ·exact .inr ⟨r,h,by rw [gapp (slen hg)];exact hg⟩
attribute [local irreducible] ACallsTo ACallsP pubH
end
section
attribute [local irreducible] ACallsTo ACallsP pubH
end
section
attribute [local irreducible] ACallsTo ACallsP pubH
end
section
attribute [local irreducible] ACallsTo ACallsP pubH
def pbC(t:AV)(log lv:AV)(n:Int)(rg hs:AV):List AV:=[t,log,lv,.int .i64 n,rg,hs]
end
section
attribute [local irreducible] ACallsTo ACallsP
end
section
attribute [local irreducible] ACallsTo ACallsP
end
section
structure Hdr where
 n:Int
 r:Hash
 i:Int
 s:List UInt8
 p:List Hash
def hdrC(h:Hdr):List AV:=sgC h.n h.r h.i h.s (z11 32 (hr h.p))
def hdrs(H:List Hdr):List (List AV):=H.map hdrC
theorem zqa(H:List Hdr):(hdrs H).length=H.length:=by simp [hdrs]
theorem z3i(h:Hdr):(hdrC h).length=36:=z8 _ _ _ _ _
attribute [local irreducible] ACallsTo ACallsP
end
section
attribute [local irreducible] ACallsTo ACallsP
end
section
theorem zad{O:Store}{q q':Nat}{a b:List AV}{es es':List (List AV)}(h:O[q]? =some (some es))(h':O[q']? =some (some es'))(e:es[0]? =some a)(e':es'[0]? =some b)(hl:a.length ≠ b.length):q ≠ q':=by
 rintro rfl
 rw [h]at h'
 simp only [Option.some.injEq]at h'
 subst h'
 rw [e]at e'
 simp only [Option.some.injEq]at e'
 exact hl (by rw [e'])
theorem zva{L:List (List UInt8)}(h:L ≠ []):∃a:List AV,(strs L)[0]? =some a/\ a.length=1:=by
 cases L with
 |nil=>exact absurd rfl h
 |cons s L=>exact⟨[.str s],rfl,rfl⟩
theorem hr_at0{l:List Hash}(h:l ≠ []):∃a:List AV,(hr l)[0]? =some a/\ a.length=32:=by
 cases l with
 |nil=>exact absurd rfl h
 |cons s l=>exact⟨hc s,rfl,z7 s⟩
theorem zit{H:List Hdr}(h:H ≠ []):∃a:List AV,(hdrs H)[0]? =some a/\ a.length=36:=by
 cases H with
 |nil=>exact absurd rfl h
 |cons s H=>exact⟨hdrC s,rfl,z3i s⟩
theorem RowAt.ne{sz n q:Nat}{O:Store}{sid:Option Nat}{v:AV}{es es':List (List AV)}{b:List AV}(h:RowAt sz O sid v es)(hw:es ≠ []->∃a:List AV,es[0]? =some a/\ a.length=n)(h':O[q]? =some (some es'))(e':es'[0]? =some b)(hb:b.length ≠ n):∀j,sid=some j->j ≠ q:=by
 intro j e
 rcases h with⟨e2,_⟩| ⟨j',e2,hn,_,hg⟩
 ·rw [e2]at e;cases e
 ·rw [e2]at e;cases e
  obtain⟨a,ha,hl⟩:=hw hn
  exact zad hg h' ha e' (by omega)
theorem RowAt.ne2{sz n sz' n':Nat}{O:Store}{sid sid':Option Nat}{v v':AV}{es es':List (List AV)}(h:RowAt sz O sid v es)(hw:es ≠ []->∃a:List AV,es[0]? =some a/\ a.length=n)(h':RowAt sz' O sid' v' es')(hw':es' ≠ []->∃a:List AV,es'[0]? =some a/\ a.length=n')(hnn:n ≠ n'):∀j,sid=some j->sid' ≠ some j:=by
 intro j e e'
 rcases h' with⟨e2,_⟩| ⟨j',e2,hn,_,hg⟩
 ·rw [e2]at e';cases e'
 ·rw [e2]at e';cases e'
  obtain⟨a,ha,hl⟩:=hw' hn
  exact h.ne hw hg ha (by omega) j e rfl
theorem zlt{L:List (List UInt8)}(h:strs L ≠ []):∃a:List AV,(strs L)[0]? =some a/\ a.length=1:=zva fun e=>h (by rw [e];rfl)
theorem hr_w{l:List Hash}(h:hr l ≠ []):∃a:List AV,(hr l)[0]? =some a/\ a.length=32:=hr_at0 fun e=>h (by rw [e];rfl)
theorem ze0{H:List Hdr}(h:hdrs H ≠ []):∃a:List AV,(hdrs H)[0]? =some a/\ a.length=36:=zit fun e=>h (by rw [e];rfl)
structure Fr(O O':Store)(own own':List Nat):Prop where
 st:∀j,j<O.length->j ∉ own->O'[j]? =O[j]?
 new:∀j,j ∈ own'->j ∈ own \/O.length<=j
 le:O.length<=O'.length
theorem Fr.ext{O O':Store}{own:List Nat}(h:Ext O O'):Fr O O' own own:=by
 refine⟨fun j hj _=> ?_,fun j hj=> .inl hj,h.le⟩
 obtain⟨y,rfl⟩:=h
 exact gapp hj
theorem Fr.get{O O':Store}{own own':List Nat}(h:Fr O O' own own'){j:Nat}{o:Option AObj}(hg:O[j]? =some o)(hj:j ∉ own):O'[j]? =some o:=by
 rw [h.st j (slen hg) hj];exact hg
def PubIs(O:Store)(r:Nat)(seed:List UInt8)(L:List (List UInt8))(H:List Hdr)(own:List Nat):Prop:=
 ∃t lg lv z hs sl sv sh,own=r::t::(Option.toList sl++(Option.toList sv++Option.toList sh))/\ O[r]? =some (some [pbC (.ptr t 0 0) lg lv L.length z hs]) ∧
  O[t]? =some (some [z1m true seed (keyL seed)])/\ RowAt 1 O sl lg (strs L)/\ RowAt 32 O sv lv (hr (lvs L))/\ SlV 32 (hr (ofR (lvs L)).reverse) z/\ RowAt 36 O sh hs (hdrs H)
theorem PubIs.lt{O:Store}{r:Nat}{seed:List UInt8}{L:List (List UInt8)}{H:List Hdr}{own:List Nat}(h:PubIs O r seed L H own){j:Nat}(hj:j ∈ own):j<O.length:=by
 obtain⟨t,lg,lv,z,hs,sl,sv,sh,rfl,hg,ht,h1,h2,hz,h3⟩:=h
 simp only [List.mem_cons,List.mem_append,Option.mem_toList]at hj
 rcases hj with rfl|rfl|h|h|h
 ·exact slen hg
 ·exact slen ht
 ·exact h1.lt h
 ·exact h2.lt h
 ·exact h3.lt h
theorem PubIs.keep{O O':Store}{r:Nat}{seed:List UInt8}{L:List (List UInt8)}{H:List Hdr}{own:List Nat}(h:PubIs O r seed L H own)(hk:∀j,j ∈ own->O'[j]? =O[j]?):PubIs O' r seed L H own:=by
 obtain⟨t,lg,lv,z,hs,sl,sv,sh,rfl,hg,ht,h1,h2,hz,h3⟩:=h
 refine⟨t,lg,lv,z,hs,sl,sv,sh,rfl,?_,?_,h1.keep fun q e=>hk q ?_,h2.keep fun q e=>hk q ?_,hz,h3.keep fun q e=>hk q ?_⟩
 ·rw [hk r (by simp)];exact hg
 ·rw [hk t (by simp)];exact ht
 all_goals simp [e]
theorem PubIs.ext{O O':Store}{r:Nat}{seed:List UInt8}{L:List (List UInt8)}{H:List Hdr}{own:List Nat}(h:PubIs O r seed L H own)(he:Ext O O'):PubIs O' r seed L H own:=by
 obtain⟨y,rfl⟩:=he
 exact h.keep fun j hj=>gapp (h.lt hj)
def apE(s:List UInt8):Int:=if 200<s.length then 3 else 0
def apL(L:List (List UInt8))(s:List UInt8):List (List UInt8):=if 200<s.length then L else L++ [s]
def AppendP(O:Store)(r:Nat)(seed:List UInt8)(L:List (List UInt8))(H:List Hdr)(own:List Nat)(s:List UInt8)(a:AV)(O':Store):Prop:=
 a=.int .i64 (apE s)/\ ∃own',Fr O O' own own'/\ PubIs O' r seed (apL L s) H own'
theorem zvc{L:List (List UInt8)}(h:L ≠ []):strs L ≠ []:=fun e=>h (by cases L with|nil=>rfl|cons a l=>simp [strs]at e)
theorem zqb{H:List Hdr}(h:H ≠ []):hdrs H ≠ []:=fun e=>h (by cases H with|nil=>rfl|cons a l=>simp [hdrs]at e)
theorem lvs_ne{L:List (List UInt8)}(h:L ≠ []):hr (lvs L) ≠ []:=fun e=>h (by cases L with|nil=>rfl|cons a l=>simp [lvs,hr]at e)
theorem AppendP.ok{O O':Store}{r t q1 q2:Nat}{seed:List UInt8}{L:List (List UInt8)}{H:List Hdr}{s:List UInt8}{z2 hs:AV}{sl sv sh:Option Nat}(h200:¬200<s.length)
  (hg:O'[r]? =some (some [pbC (.ptr t 0 0) (.sl q1 0 (L.length+1) none 1) (.sl q2 0 (L.length+1) none 32) ((L.length+1:Nat):Int) z2 hs])) (ht:O'[t]? =some (some [z1m true seed (keyL seed)]))
  (h1:O'[q1]? =some (some (strs (L++ [s])))) (h2:O'[q2]? =some (some (hr (lvs (L++ [s]))))) (hz:SlV 32 (hr (ofR (lvs (L++ [s]))).reverse) z2) (h3:RowAt 36 O' sh hs (hdrs H))
  (hq1:O.length<=q1) (hq2:O.length<=q2) (hle:O.length<=O'.length) (hst:∀j,j<O.length->j ≠ r->sl ≠ some j->sv ≠ some j->O'[j]? =O[j]?):
  AppendP O r seed L H (r::t::(Option.toList sl++(Option.toList sv++Option.toList sh))) s (.int .i64 0) O':=by
 refine⟨by unfold apE;rw [if_neg h200],r::t::(Option.toList (some q1)++(Option.toList (some q2)++Option.toList sh)),⟨fun j hj hn=> ?_,fun j hj=> ?_,hle⟩,?_⟩
 ·simp only [List.mem_cons,List.mem_append,Option.mem_toList,not_or]at hn
  exact hst j hj hn.1 (fun e=>hn.2.2.1 e) (fun e=>hn.2.2.2.1 e)
 ·simp only [List.mem_cons,List.mem_append,Option.mem_toList,Option.some.injEq]at hj ⊢
  rcases hj with h|h|h|h|h
  ·exact .inl (.inl h)
  ·exact .inl (.inr (.inl h))
  ·exact .inr (by omega)
  ·exact .inr (by omega)
  ·exact .inl (.inr (.inr (.inr (.inr h))))
 ·unfold apL
  rw [if_neg h200]
  have hne:L++ [s] ≠ []:=by simp
  refine⟨t,_,_,z2,hs,some q1,some q2,sh,rfl,by rw [List.length_append];exact hg,ht,.inr ⟨q1,rfl,zvc hne,?_,h1⟩,.inr ⟨q2,rfl,lvs_ne hne,?_,h2⟩,hz,h3⟩
  ·rw [z28,List.length_append];rfl
  ·rw [z6,z3o,List.length_append];rfl
theorem AppendP.is{O:Store}{r:Nat}{seed:List UInt8}{L:List (List UInt8)}{H:List Hdr}{own:List Nat}{s:List UInt8}(hT:PubIs O r seed L H own):∃a O',AppendP O r seed L H own s a O':=by
 by_cases h:200<s.length
 ·exact⟨_,O,rfl,own,.ext (.refl _),by unfold apL;rw [if_pos h];exact hT⟩
 ·obtain⟨t,lg,lv,z,hs,sl,sv,sh,rfl,hg,ht,h1,h2,hz,h3⟩:=hT
  have d:=slen hg
  have d2:=slen ht
  have hrt:t ≠ r:=zad ht hg (a:=z1m true seed (keyL seed)) (b:=pbC (.ptr t 0 0) lg lv L.length z hs) rfl rfl (by rw [zfq,z3n];simp [pbC])
  refine⟨_,(O.set r (some [pbC (.ptr t 0 0) (.sl O.length 0 (L.length+1) none 1) (.sl (O.length+1) 0 (L.length+1) none 32) ((L.length+1:Nat):Int) (z11 32 (hr (ofR (lvs (L++ [s]))).reverse)) hs]))++ [some (strs (L++ [s])),some (hr (lvs (L++ [s])))],
   .ok (O:=O) (q1:=O.length) (q2:=O.length+1) (hs:=hs) h ?_ ?_ ?_ ?_ (z88 _ _) ?_ (Nat.le_refl _) (by omega) (by simp) fun j hj hjr _ _=> ?_⟩
  ·rw [gapp (by simpa using d),z3g d]
  ·rw [gapp (by simpa using d2),z1g (fun e=>hrt e.symm)];exact ht
  ·rw [z2h (by simp)];simp
  ·rw [z2h (by simp)];simp
  ·refine h3.keep fun q e=> ?_
   have hq:=h3.lt e
   have hqr:q ≠ r:=by
    rcases h3 with⟨e2,_⟩| ⟨q',e2,hn,rfl,hgq⟩
    ·rw [e2]at e;cases e
    ·rw [e2]at e;cases e
     obtain⟨a,ha,hal⟩:=zit (H:=H) (fun e=>hn (by rw [e];rfl))
     exact zad hgq hg ha (b:=pbC (.ptr t 0 0) lg lv L.length z _) rfl (by rw [hal];simp [pbC])
   rw [gapp (by simpa using hq),z1g (fun e=>hqr e.symm)]
  ·rw [gapp (by simpa using hj),z1g (fun e=>hjr e.symm)]
attribute [local irreducible] ACallsTo ACallsP
end
section
def mkH(seed:List UInt8)(i:Nat)(M:List (List UInt8)):Hdr:=⟨M.length,z1d (lvs M),i,ksgS seed i (digH M.length (z1d (lvs M))).1,z1p (keyL seed) i⟩
theorem zek(seed:List UInt8)(i:Nat):(z1p (keyL seed) i).length=3:=by unfold z1p;rw [List.length_reverse,zjz _ i (z3n seed)]
theorem zji(seed:List UInt8)(i:Nat)(M:List (List UInt8))(hi:i<8)(hM:M.length<=4096):z3h (z1d (keyL seed)) (mkH seed i M).n (mkH seed i M).i (mkH seed i M).r (mkH seed i M).s (mkH seed i M).p=0:=by
 have hv:z1t (mkH seed i M).n (mkH seed i M).i (mkH seed i M).s (mkH seed i M).p=true:=decide_eq_true ⟨by simp only [mkH];omega,by simp only [mkH];omega,by simp only [mkH];omega,by simp only [mkH];omega,zbq _ _ _,zek _ _⟩
 unfold z3h
 rw [hv,if_neg (by simp)]
 exact if_pos (zw3 seed i hi _)
def pubN(H:List Hdr):Int:=((H[H.length-1]?).map Hdr.n).getD 0
structure PubOk(seed:List UInt8)(L:List (List UInt8))(H:List Hdr):Prop where
 len:H.length<=8
 at':∀i h,H[i]? =some h->∃n,h=mkH seed i (L.take n)/\ 0<n/\ n<=L.length
 up:∀i h h',H[i]? =some h->H[i+1]? =some h'->h.n<h'.n
theorem PubOk.nil(seed:List UInt8):PubOk seed [] []:=⟨by simp,by simp,by simp⟩
theorem PubOk.app{seed:List UInt8}{L:List (List UInt8)}{H:List Hdr}(h:PubOk seed L H)(M:List (List UInt8)):PubOk seed (L++M) H:=by
 refine⟨h.len,fun i x hx=> ?_,h.up⟩
 obtain⟨n,e,h0,hn⟩:=h.at' i x hx
 exact⟨n,by rw [List.take_append_of_le_length hn];exact e,h0,by rw [List.length_append];omega⟩
theorem PubOk.path{seed:List UInt8}{L:List (List UInt8)}{H:List Hdr}(h:PubOk seed L H):∀x ∈ H,x.p.length<1000000:=by
 intro x hx
 obtain⟨i,hi⟩:=List.mem_iff_getElem?.1 hx
 obtain⟨n,rfl,_,_⟩:=h.at' i x hi
 show (z1p (keyL seed) i).length<1000000
 rw [zek];omega
def puE(L:List (List UInt8))(H:List Hdr):Int:=if 8<=H.length then 85 else if (L.length:Int)=pubN H then 83 else 0
def puV(seed:List UInt8)(L:List (List UInt8))(H:List Hdr):AV:=.tup [.agg (if puE L H=0 then hdrC (mkH seed H.length L)else sgZ),.int .i64 (puE L H)]
def puH(seed:List UInt8)(L:List (List UInt8))(H:List Hdr):List Hdr:=if puE L H=0 then H++ [mkH seed H.length L]else H
def PublishP(O:Store)(r:Nat)(seed:List UInt8)(L:List (List UInt8))(H:List Hdr)(own:List Nat)(a:AV)(O':Store):Prop:=
 a=puV seed L H/\ ∃own',Fr O O' own own'/\ PubIs O' r seed L (puH seed L H) own'
theorem PublishP.ok{O O':Store}{r t q:Nat}{seed:List UInt8}{L:List (List UInt8)}{H:List Hdr}{lg lv z hs:AV}{sl sv sh:Option Nat}(he:puE L H=0)
  (hg0:O[r]? =some (some [pbC (.ptr t 0 0) lg lv L.length z hs])) (ht0:O[t]? =some (some [z1m true seed (keyL seed)])) (h1:RowAt 1 O sl lg (strs L)) (h2:RowAt 32 O sv lv (hr (lvs L))) (h3:RowAt 36 O sh hs (hdrs H))
  (hg:O'[r]? =some (some [pbC (.ptr t 0 0) lg lv L.length z (.sl q 0 (H.length+1) none 36)])) (hz:SlV 32 (hr (ofR (lvs L)).reverse) z)
  (hq:O'[q]? =some (some (hdrs (H++ [mkH seed H.length L])))) (hqn:O.length<=q) (hle:O.length<=O'.length) (hst:∀j,j<O.length->j ≠ r->sh ≠ some j->O'[j]? =O[j]?):
  PublishP O r seed L H (r::t::(Option.toList sl++(Option.toList sv++Option.toList sh))) (.tup [.agg (hdrC (mkH seed H.length L)),.int .i64 0]) O':=by
 refine⟨by unfold puV;rw [he,if_pos rfl],r::t::(Option.toList sl++(Option.toList sv++Option.toList (some q))),⟨fun j hj hn=> ?_,fun j hj=> ?_,hle⟩,?_⟩
 ·simp only [List.mem_cons,List.mem_append,Option.mem_toList,not_or]at hn
  exact hst j hj hn.1 (fun e=>hn.2.2.2.2 e)
 ·simp only [List.mem_cons,List.mem_append,Option.mem_toList,Option.some.injEq]at hj ⊢
  rcases hj with h|h|h|h|h
  ·exact .inl (.inl h)
  ·exact .inl (.inr (.inl h))
  ·exact .inl (.inr (.inr (.inl h)))
  ·exact .inl (.inr (.inr (.inr (.inl h))))
  ·exact .inr (by omega)
 ·unfold puH
  rw [if_pos he]
  have hne:H++ [mkH seed H.length L] ≠ []:=by simp
  have hpl:(pbC (.ptr t 0 0) lg lv L.length z hs).length=6:=rfl
  have htl:(z1m true seed (keyL seed)).length=258:=by rw [zfq,z3n]
  have hrt:t ≠ r:=zad ht0 hg0 (a:=z1m true seed (keyL seed)) (b:=pbC (.ptr t 0 0) lg lv L.length z hs) rfl rfl (by omega)
  refine⟨t,lg,lv,z,_,sl,sv,some q,rfl,hg,by rw [hst t (slen ht0) hrt fun e=>h3.ne ze0 ht0 (b:=z1m true seed (keyL seed)) rfl (by omega) t e rfl];exact ht0,h1.keep fun j e=>hst j (h1.lt e) ?_ ?_,h2.keep fun j e=>hst j (h2.lt e) ?_ ?_,hz,.inr ⟨q,rfl,zqb hne,?_,hq⟩⟩
  ·exact h1.ne zlt hg0 (b:=pbC (.ptr t 0 0) lg lv L.length z hs) rfl (by omega) j e
  ·exact h1.ne2 zlt h3 ze0 (by omega) j e
  ·exact h2.ne hr_w hg0 (b:=pbC (.ptr t 0 0) lg lv L.length z hs) rfl (by omega) j e
  ·exact h2.ne2 hr_w h3 ze0 (by omega) j e
  ·rw [zqa,List.length_append];rfl
theorem PublishP.no{O:Store}{r:Nat}{seed:List UInt8}{L:List (List UInt8)}{H:List Hdr}{own:List Nat}{e:Int}(hT:PubIs O r seed L H own)(he:puE L H=e)(h0:e ≠ 0):PublishP O r seed L H own (.tup [.agg sgZ,.int .i64 e]) O:=by
 subst he
 exact⟨by unfold puV;rw [if_neg h0],own,.ext (.refl _),by unfold puH;rw [if_neg h0];exact hT⟩
theorem PublishP.is{O:Store}{r:Nat}{seed:List UInt8}{L:List (List UInt8)}{H:List Hdr}{own:List Nat}(hT:PubIs O r seed L H own):∃a O',PublishP O r seed L H own a O':=by
 by_cases he:puE L H=0
 ·obtain⟨t,lg,lv,z,hs,sl,sv,sh,rfl,hg,ht,h1,h2,hz,h3⟩:=hT
  have d:=slen hg
  refine⟨_,(O.set r (some [pbC (.ptr t 0 0) lg lv L.length z (.sl O.length 0 (H.length+1) none 36)]))++ [some (hdrs (H++ [mkH seed H.length L]))],.ok (q:=O.length) he hg ht h1 h2 h3 ?_ hz ?_ (Nat.le_refl _) (by simp) fun j hj hjr _=> ?_⟩
  ·rw [gapp (by simpa using d),z3g d]
  ·rw [z2h (by simp)];simp
  ·rw [gapp (by simpa using hj),z1g (fun e=>hjr e.symm)]
 ·exact⟨_,O,.no hT rfl he⟩
@[go_sem] theorem sgC_set33 (n:Int) (r:Hash) (i j:Int) (s u:List UInt8) (x v:AV):(sgC n r i s x).take 33++ .int .i64 j:: .str u::v::(sgC n r i s x).drop 36=sgC n r j u v:=by
 rw [zfd,zl4];rfl
theorem zfc(n:Int)(r:Hash)(i:Int)(s:List UInt8)(x:AV):AV.int .i64 n::(hc r++ [AV.int .i64 i,.str s,x])=sgC n r i s x:=rfl
attribute [local irreducible] ACallsTo ACallsP
end
section
attribute [local irreducible] ACallsTo ACallsP
end
section
theorem PubOk.one(seed:List UInt8)(s:List UInt8)(M:List (List UInt8)):PubOk seed (s::M) [mkH seed 0 [s]]:=by
 refine⟨by simp,fun i h hi=> ?_,fun i h h' hi hi'=>by simp at hi'⟩
 match i,hi with
 | 0,hi=>
  simp only [List.getElem?_cons_zero,Option.some.injEq]at hi
  exact⟨1,by rw [<-hi];simp,by omega,by simp⟩
 |i+1,hi=>simp at hi
attribute [local irreducible] ACallsTo ACallsP
end
section
def adC(key:Hash)(has:Bool)(n:Int)(r:Hash)(i:Int)(s:List UInt8)(x fd:AV):List AV:=.bool true::(hc key++(.bool has::(sgC n r i s x++ [fd])))
@[go_sem] theorem zn5 (key:Hash) (has:Bool) (n:Int) (r:Hash) (i:Int) (s:List UInt8) (x fd:AV):(adC key has n r i s x fd).length=71:=by simp [adC,z7,z8]
@[go_sem] theorem adC_0 (key:Hash) (has:Bool) (n:Int) (r:Hash) (i:Int) (s:List UInt8) (x fd:AV):(adC key has n r i s x fd)[0]? =some (.bool true):=rfl
theorem zgy(key:Hash)(has:Bool)(n:Int)(r:Hash)(i:Int)(s:List UInt8)(x fd:AV):adC key has n r i s x fd=(.bool true::hc key)++(.bool has::(sgC n r i s x++ [fd])):=by simp [adC]
theorem zgw(key:Hash)(has:Bool)(n:Int)(r:Hash)(i:Int)(s:List UInt8)(x fd:AV):(adC key has n r i s x fd).drop 33=.bool has::(sgC n r i s x++ [fd]):=by
 rw [zgy,List.drop_left' (by simp [z7])]
theorem zn6(key:Hash)(has:Bool)(n:Int)(r:Hash)(i:Int)(s:List UInt8)(x fd:AV):(adC key has n r i s x fd).take 33=.bool true::hc key:=by
 rw [zgy,List.take_left' (by simp [z7])]
theorem z8d(key:Hash)(has:Bool)(n:Int)(r:Hash)(i:Int)(s:List UInt8)(x fd:AV):(adC key has n r i s x fd).drop 34=sgC n r i s x++ [fd]:=by
 rw [show 34=33+1 from rfl,<-List.drop_drop,zgw];rfl
theorem zgx(key:Hash)(has:Bool)(n:Int)(r:Hash)(i:Int)(s:List UInt8)(x fd:AV):(adC key has n r i s x fd).drop 70=[fd]:=by
 rw [show 70=34+36 from rfl,<-List.drop_drop,z8d,List.drop_left' (by simp [z8])]
@[go_sem] theorem adC_key (key:Hash) (has:Bool) (n:Int) (r:Hash) (i:Int) (s:List UInt8) (x fd:AV):((adC key has n r i s x fd).drop 1).take 32=hc key:=by
 unfold adC;rw [List.drop_succ_cons,List.drop_zero,List.take_left' (by simp [z7])]
theorem z6u{l:List AV}{k:Nat}{a:AV}{m:List AV}(h:l.drop k=a::m):l[k]? =some a:=by
 have:(l.drop k)[0]? =some a:=by rw [h];rfl
 rwa [List.getElem?_drop,Nat.add_zero]at this
@[go_sem] theorem adC_33 (key:Hash) (has:Bool) (n:Int) (r:Hash) (i:Int) (s:List UInt8) (x fd:AV):(adC key has n r i s x fd)[33]? =some (.bool has):=z6u (zgw key has n r i s x fd)
@[go_sem] theorem adC_34 (key:Hash) (has:Bool) (n:Int) (r:Hash) (i:Int) (s:List UInt8) (x fd:AV):(adC key has n r i s x fd)[34]? =some (.int .i64 n):=z6u (z8d key has n r i s x fd)
@[go_sem] theorem adC_70 (key:Hash) (has:Bool) (n:Int) (r:Hash) (i:Int) (s:List UInt8) (x fd:AV):(adC key has n r i s x fd)[70]? =some fd:=z6u (zgx key has n r i s x fd)
@[go_sem] theorem adC_now (key:Hash) (has:Bool) (n:Int) (r:Hash) (i:Int) (s:List UInt8) (x fd:AV):((adC key has n r i s x fd).drop 34).take 36=sgC n r i s x:=by
 rw [z8d,List.take_left' (by simp [z8])]
@[go_sem] theorem adC_head (key:Hash) (has:Bool) (n:Int) (r:Hash) (i:Int) (s:List UInt8) (x fd:AV):((adC key has n r i s x fd).drop 34).take 33=.int .i64 n::hc r:=by
 rw [z8d,List.take_append_of_le_length (by rw [z8];omega),zfd]
@[go_sem] theorem adC_root (key:Hash) (has:Bool) (n:Int) (r:Hash) (i:Int) (s:List UInt8) (x fd:AV):((adC key has n r i s x fd).drop 35).take 32=hc r:=by
 rw [show 35=34+1 from rfl,<-List.drop_drop,z8d]
 unfold sgC
 rw [List.cons_append,List.drop_succ_cons,List.drop_zero,List.append_assoc,List.take_left' (by simp [z7])]
@[go_sem] theorem adC_set33 (key:Hash) (has b:Bool) (n:Int) (r:Hash) (i:Int) (s:List UInt8) (x fd:AV):(adC key has n r i s x fd).take 33++ .bool b::(adC key has n r i s x fd).drop 34=adC key b n r i s x fd:=by
 rw [zn6,z8d];simp [adC]
theorem zn7(key:Hash)(has:Bool)(n:Int)(r:Hash)(i:Int)(s:List UInt8)(x fd:AV):(adC key has n r i s x fd).take 34=.bool true::(hc key++ [.bool has]):=by
 rw [show adC key has n r i s x fd=(.bool true::(hc key++ [.bool has]))++(sgC n r i s x++ [fd])by simp [adC],List.take_left' (by simp [z7])]
@[go_sem] theorem adC_set34 (key:Hash) (has:Bool) (n m:Int) (r r2:Hash) (i j:Int) (s s2:List UInt8) (x x2 fd:AV):(adC key has n r i s x fd).take 34++(sgC m r2 j s2 x2++(adC key has n r i s x fd).drop 70)=adC key has m r2 j s2 x2 fd:=by
 rw [zn7,zgx];simp [adC]
@[go_sem] theorem adC_set70 (key:Hash) (has:Bool) (n:Int) (r:Hash) (i:Int) (s:List UInt8) (x fd fd2:AV):(adC key has n r i s x fd).take 70++fd2::(adC key has n r i s x fd).drop 71=adC key has n r i s x fd2:=by
 rw [show adC key has n r i s x fd=(.bool true::(hc key++(.bool has::sgC n r i s x)))++ [fd]by simp [adC],List.take_left' (by simp [z7,z8]),List.drop_eq_nil_of_le (by simp [z7,z8])]
 simp [adC]
attribute [local irreducible] ACallsTo ACallsP
end
section
def zHd:Hdr:=⟨0,zeroH,0,[],[]⟩
def adS(key:Hash)(now:Option Hdr)(fd:AV):List AV:=adC key now.isSome (now.getD zHd).n (now.getD zHd).r (now.getD zHd).i (now.getD zHd).s (z11 32 (hr (now.getD zHd).p)) fd
def evC(k:Int)(a b:Hdr):List AV:=.int .i64 k::(hdrC a++(hdrC b++(hc zeroH++ [.nilsl])))
def FdAt(O:Store)(fv:AV)(fd:Option (Hdr × Hdr))(own:List Nat):Prop:=(fd=none/\ fv=.nilp/\ own=[]) \/ ∃a b q,fd=some (a,b)/\ fv=.ptr q 0 0/\ own=[q]/\ O[q]? =some (some [evC 1 a b])
theorem FdAt.keep{O O':Store}{fv:AV}{fd:Option (Hdr × Hdr)}{own:List Nat}(h:FdAt O fv fd own)(hk:∀j,j ∈ own->O'[j]? =O[j]?):FdAt O' fv fd own:=by
 rcases h with h| ⟨a,b,q,e1,e2,rfl,hg⟩
 ·exact .inl h
 ·exact .inr ⟨a,b,q,e1,e2,rfl,by rw [hk q (by simp)];exact hg⟩
theorem FdAt.lt{O:Store}{fv:AV}{fd:Option (Hdr × Hdr)}{own:List Nat}(h:FdAt O fv fd own){j:Nat}(hj:j ∈ own):j<O.length:=by
 rcases h with⟨_,_,rfl⟩| ⟨a,b,q,e1,e2,rfl,hg⟩
 ·cases hj
 ·simp only [List.mem_singleton]at hj;subst hj;exact slen hg
def AudIs(O:Store)(p:Nat)(key:Hash)(now:Option Hdr)(fd:Option (Hdr × Hdr))(own:List Nat):Prop:=
 ∃fv fo,own=p::fo/\ O[p]? =some (some [adS key now fv])/\ FdAt O fv fd fo
theorem AudIs.lt{O:Store}{p:Nat}{key:Hash}{now:Option Hdr}{fd:Option (Hdr × Hdr)}{own:List Nat}(h:AudIs O p key now fd own){j:Nat}(hj:j ∈ own):j<O.length:=by
 obtain⟨fv,fo,rfl,hg,hf⟩:=h
 rcases List.mem_cons.1 hj with rfl|hj
 ·exact slen hg
 ·exact hf.lt hj
theorem AudIs.keep{O O':Store}{p:Nat}{key:Hash}{now:Option Hdr}{fd:Option (Hdr × Hdr)}{own:List Nat}(h:AudIs O p key now fd own)(hk:∀j,j ∈ own->O'[j]? =O[j]?):AudIs O' p key now fd own:=by
 obtain⟨fv,fo,rfl,hg,hf⟩:=h
 exact⟨fv,fo,rfl,by rw [hk p (by simp)];exact hg,hf.keep fun j hj=>hk j (by simp [hj])⟩
theorem AudIs.ext{O O':Store}{p:Nat}{key:Hash}{now:Option Hdr}{fd:Option (Hdr × Hdr)}{own:List Nat}(h:AudIs O p key now fd own)(he:Ext O O'):AudIs O' p key now fd own:=by
 obtain⟨y,rfl⟩:=he
 exact h.keep fun j hj=>gapp (h.lt hj)
def adE(key:Hash)(now:Option Hdr)(s:Hdr)(pf:List Hash):Int:=
 if z3h key s.n s.i s.r s.s s.p ≠ 0 then 0 else match now with
  |none=>1
  |some w=>if ordI s.n w.n s.r w.r=1 then 3 else if ordI s.n w.n s.r w.r=3 then 6
   else if ordI s.n w.n s.r w.r=0 then(if chkH s.n w.n s.r w.r pf=0 then 4 else 5)
   else(if chkH w.n s.n w.r s.r pf=0 then 2 else 5)
def adN(key:Hash)(now:Option Hdr)(s:Hdr)(pf:List Hash):Option Hdr:=if adE key now s pf=1 \/adE key now s pf=2 then some s else now
def adF(key:Hash)(now:Option Hdr)(fd:Option (Hdr × Hdr))(s:Hdr)(pf:List Hash):Option (Hdr × Hdr):=if adE key now s pf=6 then some (fd.getD (now.getD zHd,s))else fd
def AHeadP(O:Store)(p:Nat)(key:Hash)(now:Option Hdr)(fd:Option (Hdr × Hdr))(own:List Nat)(s:Hdr)(pf:List Hash)(a:AV)(O':Store):Prop:=
 a=.int .i64 (adE key now s pf)/\ ∃own',Fr O O' own own'/\ AudIs O' p key (adN key now s pf) (adF key now fd s pf) own'
theorem AHeadP.ext{O O':Store}{p:Nat}{key:Hash}{now:Option Hdr}{fd:Option (Hdr × Hdr)}{own:List Nat}{s:Hdr}{pf:List Hash}{e:Int}(hT:AudIs O p key now fd own)(he:adE key now s pf=e)(h:e ≠ 1/\ e ≠ 2/\ e ≠ 6)(hx:Ext O O'):AHeadP O p key now fd own s pf (.int .i64 e) O':=by
 subst he
 refine⟨rfl,own,.ext hx,?_⟩
 unfold adN adF
 rw [if_neg (by omega),if_neg h.2.2]
 exact hT.ext hx
theorem zn8(key:Hash)(now:Option Hdr)(fd:AV):(adS key now fd).length=71:=zn5 _ _ _ _ _ _ _ _
theorem zor(k:Int)(a b:Hdr):(evC k a b).length=106:=by simp [evC,z3i,z7]
theorem FdAt.ne{O:Store}{p:Nat}{key:Hash}{now:Option Hdr}{fv fv':AV}{fd:Option (Hdr × Hdr)}{fo:List Nat}(h:FdAt O fv fd fo)(hg:O[p]? =some (some [adS key now fv'])):p ∉ fo:=by
 rcases h with⟨_,_,rfl⟩| ⟨a,b,q,e1,e2,rfl,hq⟩
 ·simp
 ·intro hm
  simp only [List.mem_singleton]at hm
  exact zad hg hq (a:=adS key now fv') (b:=evC 1 a b) rfl rfl (by rw [zn8,zor];omega) hm
theorem AHeadP.now{O O':Store}{p:Nat}{key:Hash}{now:Option Hdr}{fd:Option (Hdr × Hdr)}{fv:AV}{fo:List Nat}{s:Hdr}{pf:List Hash}{e:Int}(hg:O[p]? =some (some [adS key now fv]))(hf:FdAt O fv fd fo)(he:adE key now s pf=e)(h:e=1 \/e=2)
  (hg':O'[p]? =some (some [adS key (some s) fv])) (hle:O.length<=O'.length) (hst:∀j,j<O.length->j ≠ p->O'[j]? =O[j]?):AHeadP O p key now fd (p::fo) s pf (.int .i64 e) O':=by
 subst he
 have hp:=hf.ne hg
 refine⟨rfl,p::fo,⟨fun j hj hn=>hst j hj (fun e=>hn (by simp [e])),fun j hj=> .inl hj,hle⟩,fv,fo,rfl,?_,?_⟩
 ·unfold adN;rw [if_pos h];exact hg'
 ·unfold adF;rw [if_neg (by omega)]
  exact hf.keep fun j hj=>hst j (hf.lt hj) fun e=>hp (by rw [<-e];exact hj)
theorem AHeadP.fork{O O':Store}{p q:Nat}{key:Hash}{w s:Hdr}{pf:List Hash}(hg:O[p]? =some (some [adS key (some w) .nilp]))(he:adE key (some w) s pf=6)
  (hg':O'[p]? =some (some [adS key (some w) (.ptr q 0 0)])) (hq:O'[q]? =some (some [evC 1 w s])) (hqn:O.length<=q) (hle:O.length<=O'.length) (hst:∀j,j<O.length->j ≠ p->O'[j]? =O[j]?):AHeadP O p key (some w) none [p] s pf (.int .i64 6) O':=by
 refine⟨by rw [he],[p,q],⟨fun j hj hn=>hst j hj (fun e=>hn (by simp [e])),fun j hj=> ?_,hle⟩,.ptr q 0 0,[q],rfl,?_,?_⟩
 ·simp only [List.mem_cons,List.not_mem_nil,or_false]at hj ⊢
  rcases hj with h|h
  ·exact .inl h
  ·exact .inr (by omega)
 ·unfold adN;rw [he,if_neg (by omega)];exact hg'
 ·unfold adF;rw [he,if_pos rfl]
  exact .inr ⟨w,s,q,rfl,rfl,rfl,hq⟩
theorem AHeadP.forked{O O':Store}{p:Nat}{key:Hash}{now:Option Hdr}{fd:Option (Hdr × Hdr)}{own:List Nat}{s:Hdr}{pf:List Hash}(hT:AudIs O p key now fd own)(hfd:fd ≠ none)(he:adE key now s pf=6)(hx:Ext O O'):AHeadP O p key now fd own s pf (.int .i64 6) O':=by
 refine⟨by rw [he],own,.ext hx,?_⟩
 unfold adN adF
 rw [he,if_neg (by omega),if_pos rfl]
 cases fd with
 |none=>exact absurd rfl hfd
 |some f=>exact hT.ext hx
theorem AHeadP.is{O:Store}{p:Nat}{key:Hash}{now:Option Hdr}{fd:Option (Hdr × Hdr)}{own:List Nat}{s:Hdr}{pf:List Hash}(hT:AudIs O p key now fd own):∃a O',AHeadP O p key now fd own s pf a O':=by
 have hT':=hT
 obtain⟨fv,fo,rfl,hg,hf⟩:=hT
 have d:=slen hg
 by_cases h1:adE key now s pf=1 \/adE key now s pf=2
 ·exact⟨_,O.set p (some [adS key (some s) fv]),.now hg hf rfl h1 (z3g d) (by simp) fun j hj hjp=>z1g (fun e=>hjp e.symm)⟩
 ·by_cases h6:adE key now s pf=6
  ·rcases hf with⟨rfl,rfl,rfl⟩| ⟨a,b,q,rfl,_⟩
   ·cases now with
    |none=>unfold adE at h6;split at h6<;>simp at h6
    |some w=>
     refine⟨_,(O.set p (some [adS key (some w) (.ptr O.length 0 0)]))++ [some [evC 1 w s]],.fork (q:=O.length) hg h6 ?_ ?_ (Nat.le_refl _) (by simp) fun j hj hjp=> ?_⟩
     ·rw [gapp (by simpa using d),z3g d]
     ·rw [z2h (by simp)];simp
     ·rw [gapp (by simpa using hj),z1g (fun e=>hjp e.symm)]
   ·exact⟨_,O,.forked hT' (by simp) h6 (.refl _)⟩
  ·exact⟨_,O,.ext hT' rfl ⟨by omega,by omega,h6⟩ (.refl _)⟩
end
section
attribute [local irreducible] ACallsTo ACallsP
end
section
def logS:List UInt8:=[108,111,103]
attribute [local irreducible] ACallsTo ACallsP
theorem zmn(O:Store)(L:List (List (List UInt8)))(es:List (List AV))(ex:Bool):ACallsTo TC 29 [.vsl 1 es ex] O (.agg [.ptr (O.length+1) 0 0,.vsl 1 es ex]) (O++ [some [[.ptr (O.length+1) 0 0,.vsl 1 es ex]],some [z1m true logS (keyL logS)]]):=by
 have hN:=fun O=>zqz O logS (by simp [logS])
 rw [show logS=[108,111,103]from rfl]at*
 refine ACallsTo.of_body_keep q24ok (by simp) ?_
 repeat' (first|apply zs_|apply zb_|apply zc_|apply zt_ rfl|apply zf_ rfl|(apply zd_ rfl<;>intro ht<;>try omega)|((first|apply zr_|apply zk_|apply ze_|apply zq_|(apply callW.mk_pu;(first|exact(fun _=>hN _)))|(apply callW.za;(first|exact(hN _)))|(apply zG<;>intro ht));all_goals try simp (disch:=first|omega|(simp only [lens,z7,z6,lQr,lQm,lQt,lQd,z8,z28,z3o,z3i];first|done|omega)) only [go_sem,z6y]))
theorem zmm(O:Store)(L:List (List UInt8))(y:AV)(hy:SlV 1 (strs L) y)(hL:∀s ∈ L,s.length<1000000)(hl:L.length<1000000):ACallsTo TC 89 [y] O (z11 32 (hr (lvs L))) O:=by
 have r1:=hy.len
 rw [z28]at r1
 unfold z1c at r1
 refine ACallsTo.of_body q26ok (by simp) fun hw _=> ?_
 repeat' (first|apply zs_|apply zb_|apply zc_|apply zt_ rfl|apply zf_ rfl|(apply zd_ rfl<;>intro ht<;>try omega)|((first|apply zr_|apply zk_|apply ze_|apply zq_|(apply zG<;>intro ht));all_goals try simp (disch:=first|omega|(simp only [lens,z7,z6,lQr,lQm,lQt,lQd,z8,z28,z3o,z3i];first|done|omega)) only [go_sem,r1]))
 refine zW.loop (fun m J O'=>∃(i:Nat) (v:AV),m+i=L.length/\ OwnN 32 O O' v (hr (lvs (L.take i)))/\ J 0=y/\ J 3=v/\ J 4=.int .i64 i) L.length ?_ ?_
 ·refine⟨0,.nilsl,by omega,?_,by simp (disch:=first|omega|(simp only [lens,z7,z6,lQr,lQm,lQt,lQd,z8,z28,z3o,z3i];first|done|omega)) only [go_sem],by simp (disch:=first|omega|(simp only [lens,z7,z6,lQr,lQm,lQt,lQd,z8,z28,z3o,z3i];first|done|omega)) only [go_sem],by simp (disch:=first|omega|(simp only [lens,z7,z6,lQr,lQm,lQt,lQd,z8,z28,z3o,z3i];first|done|omega)) only [go_sem];rfl⟩
  exact⟨[],by simp,.inl ⟨by simp [lvs,hr],rfl⟩⟩
 ·rintro m J O' ⟨i,v,hm,hO,q0,q3,q4⟩
  by_cases hi:i<L.length
  ·obtain⟨ex,rfl⟩:=hy.vsl (by rw [z28];omega)
   have hg:=zvb hi
   have hLf:=fun O=>ztj O (stD L i) (by have:=hL _ (zv0 hi);omega)
   obtain⟨v',O2,ha,hO2⟩:=hO.app (ys:=[hc (lfH (stD L i))]) (by simp) (by rw [z6,z3o,List.length_take];simp;omega)
   have hcat:hr (lvs (L.take i))++ [hc (lfH (stD L i))]=hr (lvs (L.take (i+1))):=by rw [zvk hi];simp [lvs,hr]
   rw [hcat]at hO2
   rw [show L.getD i []=stD L i from rfl]at hg
   generalize stD L i=s at*
   repeat' (first|apply zs_|apply zb_|apply zc_|apply zt_ rfl|apply zf_ rfl|(apply zd_ rfl<;>intro ht<;>try omega)|((first|apply zr_|apply zk_|apply ze_|apply zq_|(apply callW.mk_pu;(first|exact(fun _=>hLf _)))|(apply callW.za;(first|exact(hLf _)))|(apply zG<;>intro ht));all_goals try simp (disch:=first|omega|(simp only [lens,z7,z6,lQr,lQm,lQt,lQd,z8,z28,z3o,z3i];first|done|omega)) only [go_sem,q0,q3,q4,hg,r1,ha]))
   exact⟨m-1,by omega,i+1,v',by omega,hO2,by simp⟩
  ·obtain rfl:i=L.length:=by omega
   rw [List.take_of_length_le (Nat.le_refl _)]at hO
   repeat' (first|apply zs_|apply zb_|apply zc_|apply zt_ rfl|apply zf_ rfl|(apply zd_ rfl<;>intro ht<;>try omega)|((first|apply zr_|apply zk_|apply ze_|apply zq_|(apply zG<;>intro ht));all_goals try simp (disch:=first|omega|(simp only [lens,z7,z6,lQr,lQm,lQt,lQd,z8,z28,z3o,z3i];first|done|omega)) only [go_sem,q0,q3,q4,r1]))
   exact hO.froze hw (z2p _)
theorem zgh(O:Store)(t:Nat)(seed:List UInt8)(L:List (List UInt8))(ex:Bool)(n k:Nat)(a:Int)(hk:z17 .and .i64 a 7=some (.int .i64 (k:Nat)))(hk8:k<8)(hn:n<=L.length)(ht:O[t]? =some (some [z1m true seed (keyL seed)]))(hs:seed.length<1000000)(hL:∀s ∈ L,s.length<1000000)(hl:L.length<1000000):
  ACallsTo TC 30 [.agg [.ptr t 0 0,.vsl 1 (strs L) ex],.int .i64 n,.int .i64 a] O (.agg (hdrC (mkH seed k (L.take n)))) O:=by
 have d:=slen ht
 have hLv:=fun O b=>zmm O (L.take n) (.vsl 1 (strs (L.take n)) b) (.inr ⟨b,rfl⟩) (fun s hs=>hL s (List.mem_of_mem_take hs)) (by rw [List.length_take];omega)
 have hRt:=fun O=>ztm O (lvs (L.take n)) (z11 32 (hr (lvs (L.take n)))) (.of (z88 _ _)) (by rw [z3o,List.length_take];omega)
 have hD:=fun O=>zkb O (n:Int) (z1d (lvs (L.take n)))
 have hS:=fun y=>zvs (O++y) t seed (keyL seed) k (digH n (z1d (lvs (L.take n)))) (by rw [gapp d];exact ht) (z3n seed) hk8 hs
 have hm:hdrC (mkH seed k (L.take n))=sgC n (z1d (lvs (L.take n))) k (ksgS seed k (digH n (z1d (lvs (L.take n)))).1) (z11 32 (hr (z1p (keyL seed) k))):=by
  unfold mkH hdrC
  simp only [List.length_take,Nat.min_eq_left hn]
 rw [hm]
 have hrl:RLs O.length (sgC n (z1d (lvs (L.take n))) k (ksgS seed k (digH n (z1d (lvs (L.take n)))).1) (z11 32 (hr (z1p (keyL seed) k)))):=z84 (zkk (z2p _))
 unfold zf9 at hS
 generalize z1d (lvs (L.take n))=R at*
 generalize hsig:ksgS seed k (digH n R).1=sig at*
 generalize z1p (keyL seed) k=PH at*
 generalize digH n R=dg at*
 refine ACallsTo.of_body q25ok (by simp) fun hw _=> ?_
 repeat' (first|apply zs_|apply zb_|apply zc_|apply zt_ rfl|apply zf_ rfl|(apply zd_ rfl<;>intro ht<;>try omega)|((first|apply zr_|apply zk_|apply ze_|apply zq_|(apply callW.mk_pu;(first|exact(fun _=>hLv _ _)|exact(fun _=>hRt _)|exact(fun _=>hD _)))|(apply callW.za;(first|exact(hLv _ _)|exact(hRt _)|exact(hD _)))|(apply zG<;>intro ht));all_goals try simp (disch:=first|omega|(simp only [lens,z7,z6,lQr,lQm,lQt,lQd,z8,z28,z3o,z3i];first|done|omega)) only [go_sem,hk,Int.toNat_natCast,zvd,zfc]))
 refine callW.mk_pu2 (caps:=[]) (hS _) (fun h hh=>hh.elim) ?_
 simp (disch:=first|omega|(simp only [lens,z7,z6,lQr,lQm,lQt,lQd,z8,z28,z3o,z3i];first|done|omega)) only [go_sem,hS,List.append_nil,zfc]
 repeat' (first|apply zs_|apply zb_|apply zc_|apply zt_ rfl|apply zf_ rfl|(apply zd_ rfl<;>intro ht<;>try omega)|((first|apply zr_|apply zk_|apply ze_|apply zq_|(apply zG<;>intro ht));all_goals try simp (disch:=first|omega|(simp only [lens,z7,z6,lQr,lQm,lQt,lQd,z8,z28,z3o,z3i];first|done|omega)) only [go_sem,zfc]))
 have e:∀(Z:List AV),Z.length=36->sgC n R k sig (z11 32 (hr PH))++(List.drop 36 (sgC n R 0 [] AV.nilsl)++List.drop (36+(List.drop 36 (sgC n R 0 [] AV.nilsl)).length) Z)=sgC n R k sig (z11 32 (hr PH)):=by
  intro Z hZ
  rw [zl4,List.nil_append,List.drop_eq_nil_of_le (by simp [hZ]),List.append_nil]
 rw [e _ rfl]
 exact Ext.pure hw ⟨_,rfl⟩ (by simp only [RL];exact hrl)
end
section
def lgA:List (List UInt8):=[[97],[98]]
def hdA:Hdr:=mkH logS 0 [[97]]
def hdB:Hdr:=mkH logS 1 [[97],[98]]
def kyA:Hash:=z1d (keyL logS)
end
section
attribute [local irreducible] ACallsTo ACallsP kyA hdA hdB logS
end
section
set_option maxRecDepth 10000

end
section
set_option maxRecDepth 10000
def q27r0:yW:=[
 yI 2 (.box (.t 0)),
 yI 3 (.box (.t 1)),
 yI 4 (.mv (.v (.bool false)))]
def q27r1:yW:=[
 yF 6 0 2,
 yL 7 false 1 6,
 yF 8 0 3,
 yL 9 false 1 8,
 yB 10 .neq 7 9,
 yM 11 10,
 yT 12 11 false 1 2,
 yU 13 11 false true 36 12,
 yT 14 11 false 1 3,
 yU 15 11 false true 36 14,
 yG 16 11 false (.call (.v (.fn 50 [])) [(.t 13),(.t 15)]),
 yG 17 11 false (.un .not (.t 16)),
 yP 18 11 17,
 yM 19 18,
 yT 20 19 false 37 2,
 yU 21 19 false true 36 20,
 yT 22 19 false 37 3,
 yU 23 19 false true 36 22,
 yG 24 19 false (.call (.v (.fn 50 [])) [(.t 21),(.t 23)]),
 yG 25 19 false (.un .not (.t 24)),
 yP 26 19 25,
 yM 27 26,
 yT 28 27 false 73 2,
 yU 29 27 false true 32 28,
 yT 30 27 false 73 3,
 yU 31 27 false true 32 30,
 yG 32 27 false (.bin .neq (.agg (List.replicate 32 (.i .u8)++ [])) (.t 29) (.t 31)),
 yP 33 27 32,
 yM 34 33,
 yT 35 34 false 105 2,
 yU 36 34 false false 1 35,
 yG 37 34 false (.lenSl (.t 36)),
 yT 38 34 false 105 3,
 yU 39 34 false false 1 38,
 yG 40 34 false (.lenSl (.t 39)),
 yG 41 34 false (.bin .neq .none (.t 37) (.t 40)),
 yP 42 34 41]
def q27r2:yW:=[
 yI 4 (.mv (.v (.bool false)))]
def q27c3:yX:=yq q27r2 .ret
def q27c4:yX:=.cond (.t 42) q27c3 .skip
def q27c5:yX:=yq q27r1 q27c4
def q27r6:yW:=[
 yK 5 .i64 0]
def q27r7:yW:=[
 yM 43 5,
 yF 44 105 2,
 yL 45 false 1 44,
 yI 46 (.lenSl (.t 45)),
 yB 47 .lss 43 46]
def q27c8:yX:=.cond (.t 47) .skip (.exit 0)
def q27c9:yX:=yq q27r7 q27c8
def q27r10:yW:=[
 yF 50 105 2,
 ⟨some 51,none,.rd,.load false 1 (.t 50)⟩,
 yM 52 5,
 yI 53 (.iaSl 32 (.t 51) (.t 52)),
 ⟨some 54,none,.rd,.load true 32 (.t 53)⟩,
 yF 55 105 3,
 ⟨some 56,none,.rd,.load false 1 (.t 55)⟩,
 yM 57 5,
 yI 58 (.iaSl 32 (.t 56) (.t 57)),
 ⟨some 59,none,.rd,.load true 32 (.t 58)⟩,
 yI 60 (.bin .neq (.agg (List.replicate 32 (.i .u8)++ [])) (.t 54) (.t 59))]
def q27r11:yW:=[
 yI 4 (.mv (.v (.bool false)))]
def q27c12:yX:=yq q27r11 .ret
def q27c13:yX:=.cond (.t 60) q27c12 .skip
def q27c14:yX:=yq q27r10 q27c13
def q27r15:yW:=[
 yM 48 5,
 yJ 49 .add 48 .i64 1,
 yM 5 49]
def q27c16:yX:=.seq (.block 1 q27c14) (.reg q27r15)
def q27c17:yX:=.seq q27c9 q27c16
def q27c18:yX:=.loop q27c17
def q27c19:yX:=.block 0 q27c18
def q27c20:yX:=yq q27r6 q27c19
def q27r21:yW:=[
 yI 4 (.mv (.v (.bool true)))]
def q27c22:yX:=yq q27r21 .ret
def q27c23:yX:=.seq q27c20 q27c22
def q27c24:yX:=.seq q27c5 q27c23
def q27c25:yX:=yq q27r0 q27c24
attribute [go_sem] q27r0 q27r1 q27r2 q27r6 q27r7 q27r10 q27r11 q27r15 q27r21
theorem q27ok:cFn TC 14=some (61,[.t 4],q27c25):=by kernel_rfl
end
section
set_option maxRecDepth 4000
def zap:Nat->Nat->Nat
 | 0,_=>33778799
 | 1,_=>1728053248
 | 2,l=>l%8*16777216+l/8/256%256*65536+l/8%256*256+128
 | 15,_=>88
 | _,_=>0
theorem z7i:∀j l,zap j l<2^64:=by
 intro j l
 unfold zap
 split<;>omega
def secG(i k:Nat):List UInt8:=[2,3,108,111,103,0,0,0,UInt8.ofNat i,UInt8.ofNat (k/256),UInt8.ofNat k,128,0,0,0,0,0,0,0,0,0,0,0,0,0,0,0,0,0,0,0,0,0,0,0,0,0,0,0,0,0,0,0,0,0,0,0,0,0,0,0,0,0,0,0,0,0,0,0,0,0,0,0,88]
theorem zl0(i k:Nat)(hi:i<8):padS (secM [108,111,103] i k)=secG i k:=by
 have e0:secM [108,111,103] i k=[2,3,108,111,103,0,0,0,UInt8.ofNat i,UInt8.ofNat (k/256),UInt8.ofNat k]:=by
  unfold secM putS z1s
  rw [if_pos (by omega),if_pos (by omega),show (4:Int).toNat=4 from rfl,show (2:Int).toNat=2 from rfl,Int.toNat_natCast,Int.toNat_natCast,be4]
  have e1:i/16777216=0:=by omega
  have e2:i/65536=0:=by omega
  have e3:i/256=0:=by omega
  rw [e1,e2,e3]
  have e4:be 2 k=[UInt8.ofNat (k/256),UInt8.ofNat k]:=by simp [be]
  have e5:numS ([108,111,103]:List UInt8).length=[3]:=rfl
  rw [e4,e5]
  rfl
 rw [e0]
 unfold padS
 have e:[2,3,108,111,103,0,0,0,UInt8.ofNat i,UInt8.ofNat (k/256),UInt8.ofNat k].length=11:=rfl
 rw [e,show (119-11%64)%64=44 from rfl,show 11*8=88 from rfl,show List.replicate 44 (0:UInt8)++be 8 88=[0,0,0,0,0,0,0,0,0,0,0,0,0,0,0,0,0,0,0,0,0,0,0,0,0,0,0,0,0,0,0,0,0,0,0,0,0,0,0,0,0,0,0,0,0,0,0,0,0,0,0,88]from by decide+kernel]
 rfl
theorem z7a(l j:Nat)(hj:j<16):zx (padS (secM [108,111,103] ((l%8:Nat):Int) ((id (l/8):Nat):Int))) j=BitVec.ofNat 32 (zap j l):=by
  rw [zl0 (l%8) (id (l/8)) (Nat.mod_lt _ (by omega))]
  change zx (secG (l%8) (l/8)) j=_
  match j,hj with
  | 2, _ => exact z34 _ 2 rfl (by
      have z128:(128:UInt8).toNat=128:=rfl
      have h1:(UInt8.ofNat (l%8)).toNat=l%8%2^8:=UInt8.toNat_ofNat'
      have h2:(UInt8.ofNat (l/8/256)).toNat=l/8/256%2^8:=UInt8.toNat_ofNat'
      have h3:(UInt8.ofNat (l/8)).toNat=l/8%2^8:=UInt8.toNat_ofNat'
      have h4:zap 2 l=l%8*16777216+l/8/256%256*65536+l/8%256*256+128:=rfl
      omega)
  | 0,_=>exact z34 _ 0 rfl rfl
  | 1,_=>exact z34 _ 1 rfl rfl
  | 3,_=>exact z34 _ 3 rfl rfl
  | 4,_=>exact z34 _ 4 rfl rfl
  | 5,_=>exact z34 _ 5 rfl rfl
  | 6,_=>exact z34 _ 6 rfl rfl
  | 7,_=>exact z34 _ 7 rfl rfl
  | 8,_=>exact z34 _ 8 rfl rfl
  | 9,_=>exact z34 _ 9 rfl rfl
  | 10,_=>exact z34 _ 10 rfl rfl
  | 11,_=>exact z34 _ 11 rfl rfl
  | 12,_=>exact z34 _ 12 rfl rfl
  | 13,_=>exact z34 _ 13 rfl rfl
  | 14,_=>exact z34 _ 14 rfl rfl
  | 15,_=>exact z34 _ 15 rfl rfl
  |j+16,h=>omega
set_option maxRecDepth 100000 in
theorem z6x:S8.beq (zbs zap) 1320835449206203866968076020261438702849544712518655694594726786435725497492055048555651861447073614291391284224593337609353361163864314234628065 2013796147878520090777087847541815710076959536117237416500479438883090368637474608574000615118968184963559477138501976632380654710688406745170962 764677164750291394651456146995311753182295554811497401143325479492167841979218991961787130411770669366995379369167074185438647288952392840850119 2820532317304250986185441863165357658723354557117661337876442221713392596583902174695393914508297141563107553324167067054064426302871453685465301 4288889241354956728289634705347294290886559619521404258259498530673754312111797092585911532674921074801148668119997317565658285810729428459978 1532455314960756290783695641016176468105767434538854070937505973105784005677135635410655906952828073783636638650614393447809143328208428770758431 2436926052602706423628281069676967468239015793754056925121058134370771685922224871690994533947280866332420918801877964605410961094719201329583076 2213900926502513227729612905972299321349082970510711465694822006630624413376917535197471595075019592482578544502151732206519080708072907146844930=true:=by decide+kernel
theorem z74:z8a [108,111,103]:=fun i k hi=>by rw [zl0 i k hi];rfl
theorem z77(i:Nat):pubH [108,111,103] i=pubS [108,111,103] id i:=rfl
def kg0:List UInt8:=[112,245,103,225,125,0,196,18,184,195,42,199,35,239,64,213,83,188,33,202,136,167,143,31,228,76,147,228,13,48,219,2]
def kg1:List UInt8:=[135,101,180,93,79,81,114,205,119,129,56,115,255,106,191,177,241,221,151,178,170,61,192,111,235,227,83,106,178,100,238,83]
def kg2:List UInt8:=[10,102,171,250,54,84,240,188,26,112,123,104,235,24,77,171,169,91,78,253,147,180,146,24,140,209,58,6,197,52,216,59]
def kg3:List UInt8:=[103,180,156,23,49,165,161,209,222,241,72,94,32,115,93,137,123,165,248,108,215,211,204,216,96,200,101,74,209,228,161,226]
def kg4:List UInt8:=[47,166,43,133,212,89,81,134,209,2,48,127,187,208,93,204,118,132,84,137,196,197,80,214,239,159,209,154,85,6,60,89]
def kg5:List UInt8:=[138,196,10,114,0,35,196,139,35,160,27,92,49,58,62,159,68,188,20,150,191,169,158,67,75,8,179,43,254,242,170,207]
def kg6:List UInt8:=[64,186,91,239,47,232,114,61,67,27,206,134,187,119,47,75,215,152,249,219,54,141,80,65,46,53,43,110,228,165,46,238]
def kg7:List UInt8:=[108,80,199,32,165,36,90,108,62,181,37,42,231,76,117,85,0,90,9,200,125,171,99,245,199,215,69,216,181,141,57,182]
theorem lg0:(z1r (pubH [108,111,103] ((0:Nat):Int))).1=kg0:=by rw [z77,z6z [108,111,103] id z74 z7a z7i z6x 0 (by omega)];decide+kernel
theorem lg1:(z1r (pubH [108,111,103] ((1:Nat):Int))).1=kg1:=by rw [z77,z6z [108,111,103] id z74 z7a z7i z6x 1 (by omega)];decide+kernel
theorem lg2:(z1r (pubH [108,111,103] ((2:Nat):Int))).1=kg2:=by rw [z77,z6z [108,111,103] id z74 z7a z7i z6x 2 (by omega)];decide+kernel
theorem lg3:(z1r (pubH [108,111,103] ((3:Nat):Int))).1=kg3:=by rw [z77,z6z [108,111,103] id z74 z7a z7i z6x 3 (by omega)];decide+kernel
theorem lg4:(z1r (pubH [108,111,103] ((4:Nat):Int))).1=kg4:=by rw [z77,z6z [108,111,103] id z74 z7a z7i z6x 4 (by omega)];decide+kernel
theorem lg5:(z1r (pubH [108,111,103] ((5:Nat):Int))).1=kg5:=by rw [z77,z6z [108,111,103] id z74 z7a z7i z6x 5 (by omega)];decide+kernel
theorem lg6:(z1r (pubH [108,111,103] ((6:Nat):Int))).1=kg6:=by rw [z77,z6z [108,111,103] id z74 z7a z7i z6x 6 (by omega)];decide+kernel
theorem lg7:(z1r (pubH [108,111,103] ((7:Nat):Int))).1=kg7:=by rw [z77,z6z [108,111,103] id z74 z7a z7i z6x 7 (by omega)];decide+kernel
theorem rt_g:z1f (z1f (z1f kg0 kg1) (z1f kg2 kg3)) (z1f (z1f kg4 kg5) (z1f kg6 kg7)) ≠ 1::List.replicate 31 0:=by decide+kernel
theorem root_g(x:Hash)(hx:x.1=1::List.replicate 31 0):z1d (keyL [108,111,103]) ≠ x:=by
 obtain⟨a,b,c,d,e,f,g,h,hK,k0,k1,k2,k3,k4,k5,k6,k7⟩:∃a b c d e f g h:Hash,keyL [108,111,103]=[a,b,c,d,e,f,g,h]/\ a.1=kg0/\ b.1=kg1/\ c.1=kg2/\ d.1=kg3/\ e.1=kg4/\ f.1=kg5/\ g.1=kg6/\ h.1=kg7:=
  ⟨_,_,_,_,_,_,_,_,rfl,lg0,lg1,lg2,lg3,lg4,lg5,lg6,lg7⟩
 intro hh
 rw [hK,zf0]at hh
 have h3:=congrArg Subtype.val hh
 simp only [z15]at h3
 rw [k0,k1,k2,k3,k4,k5,k6,k7,hx]at h3
 exact rt_g h3
end
section
structure Ev where
 k:Int
 a:Hdr
 b:Hdr
 r:Hash
 p:List Hash
def evZ0:Ev:=⟨0,zHd,zHd,zeroH,[]⟩
def sgX(h:Hdr)(x:AV):List AV:=sgC h.n h.r h.i h.s x
theorem zg(h:Hdr)(x:AV):(sgX h x).length=36:=z8 _ _ _ _ _
@[go_sem] theorem sgX_0 (h:Hdr) (x:AV):(sgX h x)[0]? =some (.int .i64 h.n):=rfl
@[go_sem] theorem sgX_35 (h:Hdr) (x:AV):(sgX h x)[35]? =some x:=sgC_35 _ _ _ _ _
@[go_sem] theorem sgX_all (h:Hdr) (x:AV):(sgX h x).take 36=sgX h x:=zue _ _ _ _ _
@[go_sem] theorem zl6 (h:Hdr) (x:AV):((sgX h x).drop 1).take 32=hc h.r:=zuf _ _ _ _ _
@[go_sem] theorem zl5 (h:Hdr) (x:AV):(sgX h x).take 33=.int .i64 h.n::hc h.r:=zfd _ _ _ _ _
theorem zce(h:Hdr)(x:AV):(sgX h x).drop 36=[]:=List.drop_eq_nil_of_le (by rw [zg];omega)
def evX(e:Ev)(x y z:AV):List AV:=.int .i64 e.k::(sgX e.a x++(sgX e.b y++(hc e.r++ [z])))
def evO:List AV:=evX evZ0 .nilsl .nilsl .nilsl
theorem zi(e:Ev)(x y z:AV):(evX e x y z).length=106:=by simp [evX,zg,z7]
theorem zj:evO.length=106:=zi _ _ _ _
section
variable (e:Ev) (x y z:AV)
theorem zbk:(evX e x y z).drop 1=sgX e.a x++(sgX e.b y++(hc e.r++ [z])):=rfl
theorem evX_d2:(evX e x y z).drop 2=(sgX e.a x).drop 1++(sgX e.b y++(hc e.r++ [z])):=rfl
theorem z7p:(evX e x y z).drop 37=sgX e.b y++(hc e.r++ [z]):=by
 rw [show 37=1+36 from rfl,<-List.drop_drop,zbk,List.drop_left' (zg e.a x)]
theorem zov:(evX e x y z).drop 38=(sgX e.b y).drop 1++(hc e.r++ [z]):=by
 rw [show 38=37+1 from rfl,<-List.drop_drop,z7p];rfl
theorem zdp:(evX e x y z).drop 73=hc e.r++ [z]:=by
 rw [show 73=37+36 from rfl,<-List.drop_drop,z7p,List.drop_left' (zg e.b y)]
theorem zib:(evX e x y z).drop 105=[z]:=by
 rw [show 105=73+32 from rfl,<-List.drop_drop,zdp,z7r]
theorem zou:(evX e x y z).drop 36=x::(sgX e.b y++(hc e.r++ [z])):=by
 rw [show 36=1+35 from rfl,<-List.drop_drop,zbk];unfold sgX sgC
 rw [List.cons_append,List.drop_succ_cons,List.append_assoc,show 34=32+2 from rfl,<-List.drop_drop,z7r];rfl
theorem zow:(evX e x y z).drop 72=y::(hc e.r++ [z]):=by
 rw [show 72=37+35 from rfl,<-List.drop_drop,z7p];unfold sgX sgC
 rw [List.cons_append,List.drop_succ_cons,List.append_assoc,show 34=32+2 from rfl,<-List.drop_drop,z7r];rfl
@[go_sem] theorem evX_0:(evX e x y z)[0]? =some (.int .i64 e.k):=rfl
@[go_sem] theorem evX_1:(evX e x y z)[1]? =some (.int .i64 e.a.n):=rfl
@[go_sem] theorem evX_36:(evX e x y z)[36]? =some x:=z6u (zou e x y z)
@[go_sem] theorem evX_37:(evX e x y z)[37]? =some (.int .i64 e.b.n):=z6u (z7p e x y z)
@[go_sem] theorem evX_72:(evX e x y z)[72]? =some y:=z6u (zow e x y z)
@[go_sem] theorem evX_105:(evX e x y z)[105]? =some z:=z6u (zib e x y z)
@[go_sem] theorem evX_all:(evX e x y z).take 106=evX e x y z:=List.take_of_length_le (by rw [zi];omega)
theorem z3f:(evX e x y z).drop 106=[]:=List.drop_eq_nil_of_le (by rw [zi];omega)
@[go_sem] theorem evX_old:((evX e x y z).drop 1).take 36=sgX e.a x:=by rw [zbk,List.take_left' (zg e.a x)]
@[go_sem] theorem evX_new:((evX e x y z).drop 37).take 36=sgX e.b y:=by rw [z7p,List.take_left' (zg e.b y)]
@[go_sem] theorem evX_oldh:((evX e x y z).drop 1).take 33=.int .i64 e.a.n::hc e.a.r:=by
 rw [zbk,List.take_append_of_le_length (by rw [zg];omega),zl5]
@[go_sem] theorem evX_newh:((evX e x y z).drop 37).take 33=.int .i64 e.b.n::hc e.b.r:=by
 rw [z7p,List.take_append_of_le_length (by rw [zg];omega),zl5]
@[go_sem] theorem evX_oldr:((evX e x y z).drop 2).take 32=hc e.a.r:=by
 rw [evX_d2,List.take_append_of_le_length (by rw [List.length_drop,zg];omega),zl6]
@[go_sem] theorem evX_newr:((evX e x y z).drop 38).take 32=hc e.b.r:=by
 rw [zov,List.take_append_of_le_length (by rw [List.length_drop,zg];omega),zl6]
@[go_sem] theorem evX_root:((evX e x y z).drop 73).take 32=hc e.r:=by rw [zdp,z7s]
@[go_sem] theorem evX_pk (k:Int): .int .i64 k::(evX e x y z).drop 1=evX ⟨k,e.a,e.b,e.r,e.p⟩ x y z:=rfl
theorem zos:evX e x y z=(.int .i64 e.k::sgX e.a x)++(sgX e.b y++(hc e.r++ [z])):=rfl
theorem zot:evX e x y z=(.int .i64 e.k::sgX e.a x++sgX e.b y)++(hc e.r++ [z]):=by simp [evX]
theorem zia:evX e x y z=(.int .i64 e.k::sgX e.a x++sgX e.b y++hc e.r)++ [z]:=by simp [evX]
@[go_sem] theorem evX_sold (h:Hdr) (v:AV):(evX e x y z).take 1++(sgX h v++(evX e x y z).drop 37)=evX ⟨e.k,h,e.b,e.r,e.p⟩ v y z:=by
 rw [z7p];rfl
@[go_sem] theorem evX_snew (h:Hdr) (v:AV):(evX e x y z).take 37++(sgX h v++(evX e x y z).drop 73)=evX ⟨e.k,e.a,h,e.r,e.p⟩ x v z:=by
 rw [zdp,zos,List.take_left' (by simp [zg])];rfl
@[go_sem] theorem evX_sroot (r:Hash):(evX e x y z).take 73++(hc r++(evX e x y z).drop 105)=evX ⟨e.k,e.a,e.b,r,e.p⟩ x y z:=by
 rw [zib,zot,List.take_left' (by simp [zg])];simp [evX]
theorem zox(v:AV):(evX e x y z).set 105 v=evX e x y v:=by
 rw [zia,List.set_append_right _ _ (by simp [zg,z7]),zia];simp [zg,z7]
theorem zl7(h:Hdr)(x v:AV):(sgX h x).set 35 v=sgX h v:=by
 unfold sgX sgC
 rw [List.set_cons_succ,List.set_append_right _ _ (by rw [z7];omega),z7];rfl
theorem zoy(v:AV):(evX e x y z).set 36 v=evX e v y z:=by
 unfold evX
 rw [List.set_cons_succ,List.set_append_left _ _ (by rw [zg];omega),zl7]
theorem zoz(v:AV):(evX e x y z).set 72 v=evX e x v z:=by
 unfold evX
 rw [List.set_cons_succ,List.set_append_right _ _ (by rw [zg];omega),zg,List.set_append_left _ _ (by rw [zg];omega),zl7]
theorem zfa{l:List AV}{k:Nat}{v:AV}(h:k<l.length):l.take k++v::l.drop (k+1)=l.set k v:=by
 rw [List.set_eq_take_append_cons_drop,if_pos h]
@[go_sem] theorem evX_p36 (v:AV):(evX e x y z).take 36++v::(evX e x y z).drop 37=evX e v y z:=by rw [zfa (by rw [zi];omega),zoy]
@[go_sem] theorem evX_p72 (v:AV):(evX e x y z).take 72++v::(evX e x y z).drop 73=evX e x v z:=by rw [zfa (by rw [zi];omega),zoz]
@[go_sem] theorem zdq (v:AV):(evX e x y z).take 105++v::(evX e x y z).drop 106=evX e x y v:=by rw [zfa (by rw [zi];omega),zox]
theorem zex{n:Nat}(hx:RL n x)(hy:RL n y)(hz:RL n z):RLs n (evX e x y z):=by
 have app:∀(A B:List AV),RLs n A->RLs n B->RLs n (A++B):=by
  intro A B
  induction A with
  |nil=>intro _ h;exact h
  |cons a A ih=>intro h1 h2;simp only [List.cons_append,RLs]at h1 ⊢;exact⟨h1.1,ih h1.2 h2⟩
 unfold evX
 simp only [RLs]
 exact⟨by simp [RL],app _ _ (z84 hx) (app _ _ (z84 hy) (app _ _ (z79 _) ⟨hz,by simp [RLs]⟩))⟩
end
def evL(e:Ev):List AV:=evX e (z11 32 (hr e.a.p)) (z11 32 (hr e.b.p)) (z11 32 (hr e.p))
end
section
def valH(h:Hdr):Bool:=z1t h.n h.i h.s h.p
def z2o(h:Hdr):List UInt8:=putH h.n.toNat h.r h.i.toNat h.s h.p
def z5e(e:Ev):Bool:=if e.k=1 then decide (e.a.n=e.b.n/\ e.a.r ≠ e.b.r/\ e.r=zeroH/\ e.p=[])else decide (e.k=2/\ e.a.n<e.b.n/\ e.r ≠ e.a.r)
def mayB(e:Ev):Bool:=valH e.a && valH e.b && decide (e.p.length<=64) && z5e e
theorem zjf{e:Ev}(h:mayB e=true):valH e.a=true/\ valH e.b=true/\ e.p.length<=64/\ z5e e=true:=by
 unfold mayB at h
 simp only [Bool.and_eq_true,decide_eq_true_eq]at h
 exact⟨h.1.1.1,h.1.1.2,h.1.2,h.2⟩
theorem zj4{e:Ev}(h:z5e e=true):(e.k=1/\ e.r=zeroH/\ e.p=[]) \/(e.k=2):=by
 unfold z5e at h
 split at h
 ·rename_i hk
  have h:=of_decide_eq_true h
  exact .inl ⟨hk,h.2.2⟩
 ·exact .inr (of_decide_eq_true h).1
def z55(e:Ev):List UInt8:=numS e.k.toNat++(z1s (z2o e.a)++(z1s (z2o e.b)++(if e.k=2 then e.r.1++z2u e.p else [])))
theorem zab{h:Hdr}(hv:valH h=true):(z2o h).length<1000000:=by
 obtain⟨N,I,e1,e2,b1,b2,b3,b4⟩:=zcw hv
 have h1:=z2m h.n.toNat
 have h2:=z2m h.i.toNat
 have h3:=z2m h.s.length
 have h4:=za2 (l:=h.p)
 have h5:=h.r.2
 unfold z2o putH z1s
 simp only [List.length_append]
 omega
end
section
set_option maxRecDepth 10000
def q28r0:yW:=[
 yI 3 (.box (.t 0)),
 yI 4 (.box (.t 1)),
 yI 5 (.box (.t 2)),
 yI 6 (.mv (.v (.bool false)))]
def q28r1:yW:=[
 yL 13 true 108 3,
 yC 14 6 13,
 yM 15 14,
 yU 16 15 false true 108 4,
 yG 17 15 false (.call (.v (.fn 6 [])) [(.t 16)]),
 yP 18 15 17]
def q28r2:yW:=[
 yI 19 (.call (.v (.fn 7 [])) []),
 yM 6 19]
def q28c3:yX:=yq q28r2 .ret
def q28c4:yX:=.cond (.t 18) q28c3 .skip
def q28c5:yX:=yq q28r1 q28c4
def q28r6:yW:=[
 ⟨some 20,none,.rd,.load true 108 (.t 3)⟩,
 ⟨some 21,none,.pu,.call (.v (.fn 8 [])) [(.t 20)]⟩,
 ⟨some 22,none,.rd,.load true 108 (.t 4)⟩,
 ⟨some 23,none,.pu,.call (.v (.fn 8 [])) [(.t 22)]⟩,
 ⟨some 7,none,.ef,.alloc evO⟩,
 ⟨some 8,none,.ef,.alloc evO⟩,
 yS 106 7 21,
 yS 106 8 23]
def q28r7:yW:=[
 ⟨some 4,none,.pu,.stuck⟩,
 ⟨some 8,none,.ef,.alloc evO⟩,
 ⟨some 7,none,.ef,.alloc evO⟩,
 yS 106 7 21,
 yS 106 8 23]
def q28r8:yW:=[
 yL 25 true 106 7,
 yC 26 9 25,
 yM 24 26,
 yE 27 0 24,
 yE 28 1 24,
 yM 9 27,
 yM 10 28]
def q28r9:yW:=[
 yL 30 true 106 7,
 yC 31 10 30,
 yM 29 31,
 yE 32 0 29,
 yE 33 1 29,
 yM 11 32,
 yM 12 33]
def q28r10:yW:=[
 yM 34 9,
 yM 35 11,
 yB 36 .eql 34 35,
 yM 37 36,
 yV 38 37 true 10,
 yV 39 37 true 12,
 yG 40 37 true (.bin .eql .none (.t 38) (.t 39)),
 yQ 41 37 40,
 yM 42 41,
 ⟨some 43,some (42,true),.rd,.load true 32 (.t 5)⟩,
 ⟨some 44,some (42,true),.rd,.load true 106 (.t 7)⟩,
 ⟨some 45,some (42,true),.ef,.call (.v (.fn 11 [])) [(.t 43),(.t 44)]⟩,
 ⟨some 46,some (42,true),.rd,.load true 32 (.t 5)⟩,
 ⟨some 47,some (42,true),.rd,.load true 106 (.t 7)⟩,
 yG 48 42 true (.call (.v (.fn 12 [])) [(.t 46),(.t 47)]),
 yG 49 42 true (.bin .eql .none (.t 45) (.t 48)),
 yQ 50 42 49,
 yM 51 50,
 ⟨some 52,some (51,true),.rd,.load true 106 (.t 7)⟩,
 ⟨some 53,some (51,true),.rd,.load true 106 (.t 8)⟩,
 ⟨some 54,some (51,true),.ef,.call (.v (.fn 13 [])) [(.t 52),(.t 53)]⟩,
 ⟨some 55,some (51,true),.rd,.load true 106 (.t 7)⟩,
 ⟨some 56,some (51,true),.rd,.load true 106 (.t 8)⟩,
 yG 57 51 true (.call (.v (.fn 14 [])) [(.t 55),(.t 56)]),
 yG 58 51 true (.bin .eql .bool (.t 54) (.t 57)),
 yQ 59 51 58,
 yM 60 59,
 ⟨some 61,some (60,true),.rd,.load true 106 (.t 7)⟩,
 ⟨some 62,some (60,true),.rd,.load true 106 (.t 7)⟩,
 yG 63 60 true (.call (.v (.fn 13 [])) [(.t 61),(.t 62)]),
 yQ 64 60 63,
 yM 65 64,
 yG 66 65 true (.call (.v (.fn 7 [])) []),
 yQ 67 65 66,
 yM 6 67]
def q28c11:yX:=yq q28r10 .ret
def q28c12:yX:=yq q28r9 q28c11
def zk6:ACode:=.seq (.reg q28r8) q28c12
def q28c14:yX:=.seq (.reg2 q28r6 q28r7) zk6
def q28c15:yX:=.seq q28c5 q28c14
def q28c16:yX:=yq q28r0 q28c15
attribute [go_sem] q28r0 q28r1 q28r2 q28r6 q28r7 q28r8 q28r9 q28r10
theorem q28ok:cFn TC 3=some (68,[.t 6],q28c16):=by kernel_rfl
def q29r0:yW:=[
 yI 1 (.box (.t 0)),
 yI 2 (.mv (.v (.bool false)))]
def q29r1:yW:=[
 yF 3 1 1,
 yL 4 true 37 3,
 yC 5 27 4,
 yM 6 5,
 yT 7 6 false 38 1,
 yU 8 6 false true 37 7,
 yG 9 6 false (.call (.v (.fn 27 [])) [(.t 8)]),
 yP 10 6 9,
 yM 11 10,
 yT 12 11 false 107 1,
 yU 13 11 false false 1 12,
 yG 14 11 false (.lenSl (.t 13)),
 yG 15 11 false (.bin .gtr .none (.t 14) (.v (.int .i64 70))),
 yP 16 11 15,
 yM 2 16]
def q29c2:yX:=yq q29r1 .ret
def q29c3:yX:=yq q29r0 q29c2
attribute [go_sem] q29r0 q29r1
theorem q29ok:cFn TC 6=some (17,[.t 2],q29c3):=by kernel_rfl
def q2ar0:yW:=[
 yI 0 (.mv (.v (.bool false)))]
def q2ar1:yW:=[
 yI 8 (.call (.v (.fn 28 [])) [(.v .nilsl),(.v .nilsl)]),
 yM 7 8,
 yE 9 0 7,
 yE 10 1 7,
 yI 1 (.alloc evO),
 yS 106 1 9,
 yM 2 10]
def q2ar2:yW:=[
 yI 11 (.lit 1 [(.v (.str [97])),(.v (.str [98]))]),
 yC 12 29 11,
 yI 3 (.alloc [.nilp,.nilsl]),
 yS 2 3 12]
def q2ar3:yW:=[
 yF 13 0 3,
 yL 14 false 1 13,
 yI 15 (.lit 1 [(.v (.str [97])),(.v (.str [99]))]),
 yI 16 (.build [.nilp,.nilsl] [(0,1,(.t 14)),(1,1,(.t 15))]),
 yI 4 (.alloc [.nilp,.nilsl]),
 yS 2 4 16]
def q2ar4:yW:=[
 ⟨some 18,none,.rd,.load true 2 (.t 3)⟩,
 ⟨some 19,none,.pu,.call (.v (.fn 30 [])) [(.t 18),(.v (.int .i64 2)),(.v (.int .i64 0))]⟩,
 ⟨some 20,none,.rd,.load true 2 (.t 4)⟩,
 ⟨some 21,none,.pu,.call (.v (.fn 30 [])) [(.t 20),(.v (.int .i64 2)),(.v (.int .i64 0))]⟩,
 yI 22 (.lit 36 [(.t 19),(.t 21)]),
 ⟨some 23,none,.pu,.call (.v (.fn 28 [])) [(.t 22),(.v .nilsl)]⟩,
 yM 17 23,
 yE 24 0 17,
 yE 25 1 17,
 ⟨some 5,none,.ef,.alloc evO⟩,
 yS 106 5 24,
 yM 6 25]
def q2ar5:yW:=[
 yM 26 2,
 yI 27 (.un .not (.t 26)),
 yM 28 27,
 yV 29 28 true 6,
 yQ 30 28 29,
 yM 31 30,
 yT 32 31 true 0 5,
 yU 33 31 true false 1 32,
 yG 34 31 true (.bin .eql .none (.t 33) (.v (.int .i64 1))),
 yQ 35 31 34,
 yM 36 35,
 yT 37 36 true 0 3,
 ⟨some 38,some (36,true),.rd,.load false 1 (.t 37)⟩,
 ⟨some 39,some (36,true),.ef,.call (.v (.fn 20 [])) [(.t 38)]⟩,
 ⟨some 40,some (36,true),.rd,.load true 106 (.t 5)⟩,
 yG 41 36 true (.call (.v (.fn 11 [])) [(.t 39),(.t 40)]),
 yG 42 36 true (.bin .eql .none (.t 41) (.v (.int .i64 0))),
 yQ 43 36 42,
 yM 44 43,
 yG 45 44 true (.build zZ0 [(0,1,(.v (.int .u8 1)))]),
 yU 46 44 true true 106 5,
 yG 47 44 true (.call (.v (.fn 11 [])) [(.t 45),(.t 46)]),
 yG 48 44 true (.bin .eql .none (.t 47) (.v (.int .i64 81))),
 yQ 49 44 48,
 yM 50 49,
 yT 51 50 true 0 3,
 yU 52 50 true false 1 51,
 yG 53 50 true (.call (.v (.fn 20 [])) [(.t 52)]),
 yG 54 50 true (.build evO []),
 yG 55 50 true (.call (.v (.fn 11 [])) [(.t 53),(.t 54)]),
 yG 56 50 true (.bin .eql .none (.t 55) (.v (.int .i64 2))),
 yQ 57 50 56,
 yM 0 57]
def q2ac6:yX:=yq q2ar5 .ret
def zeo:ACode:=.seq (.reg q2ar4) q2ac6
def q2ac8:yX:=yq q2ar3 zeo
def q2ac9:yX:=yq q2ar2 q2ac8
def q2ac10:yX:=yq q2ar1 q2ac9
def q2ac11:yX:=yq q2ar0 q2ac10
attribute [go_sem] q2ar0 q2ar1 q2ar2 q2ar3 q2ar4 q2ar5
theorem q2aok:cFn TC 7=some (58,[.t 0],q2ac11):=by kernel_rfl
def q2br0:yW:=[
 yI 1 (.box (.t 0)),
 yI 2 (.alloc evO)]
def q2br1:yW:=[
 yF 3 0 1,
 ⟨some 4,none,.rd,.load false 1 (.t 3)⟩,
 yF 5 1 1,
 ⟨some 6,none,.rd,.load true 37 (.t 5)⟩,
 ⟨some 7,none,.ef,.call (.v (.fn 31 [])) [(.t 6)]⟩,
 yF 8 38 1,
 ⟨some 9,none,.rd,.load true 37 (.t 8)⟩,
 ⟨some 10,none,.ef,.call (.v (.fn 31 [])) [(.t 9)]⟩,
 yF 11 75 1,
 ⟨some 12,none,.rd,.load true 32 (.t 11)⟩,
 yF 13 107 1,
 ⟨some 14,none,.rd,.load false 1 (.t 13)⟩,
 yI 15 (.build evO [(0,1,(.t 4)),(1,36,(.t 7)),(37,36,(.t 10)),(73,32,(.t 12)),(105,1,(.t 14))]),
 yS 106 2 15]
def q2bc2:yX:=yq q2br1 .ret
def q2bc3:yX:=yq q2br0 q2bc2
attribute [go_sem] q2br0 q2br1
theorem q2bok:cFn TC 8=some (16,[.c 2 true 106],q2bc3):=by kernel_rfl
def q2cr0:yW:=[
 yI 1 (.box (.t 0)),
 yI 2 (.mv (.v (.str []))),
 yK 3 .i64 0]
def q2cr1:yW:=[
 yL 9 true 106 1,
 yC 10 32 9,
 yI 11 (.un .not (.t 10))]
def q2cr2:yW:=[
 yI 2 (.mv (.v (.str []))),
 yK 3 .i64 2]
def q2cc3:yX:=yq q2cr2 .ret
def q2cc4:yX:=.cond (.t 11) q2cc3 .skip
def q2cc5:yX:=yq q2cr1 q2cc4
def q2cr6:yW:=[
 yF 13 1 1,
 yL 14 true 36 13,
 yC 15 33 14,
 yM 12 15,
 yE 16 0 12,
 yE 17 1 12,
 yM 4 16,
 yM 5 17]
def q2cr7:yW:=[
 yF 19 37 1,
 yL 20 true 36 19,
 yC 21 33 20,
 yM 18 21,
 yE 22 0 18,
 yE 23 1 18,
 yM 6 22,
 yM 7 23]
def q2cr8:yW:=[
 yF 24 0 1,
 yL 25 false 1 24,
 yI 26 (.conv (.int .u64) (.t 25)),
 yC 27 34 26,
 yM 28 4,
 yC 29 35 28,
 yB 30 .add 27 29,
 yM 31 6,
 yC 32 35 31,
 yB 33 .add 30 32,
 yM 8 33]
def q2cr9:yW:=[
 yF 34 0 1,
 yL 35 false 1 34,
 yJ 36 .eql 35 .i64 2]
def q2cr10:yW:=[
 yM 37 8,
 yF 38 73 1,
 ⟨some 39,none,.rd,.load true 32 (.t 38)⟩,
 ⟨some 40,none,.ef,.call (.v (.fn 36 [])) [(.t 39)]⟩,
 yF 41 105 1,
 ⟨some 42,none,.rd,.load false 1 (.t 41)⟩,
 yC 43 37 42,
 yB 44 .add 40 43,
 yB 45 .add 37 44,
 yM 8 45]
def q2cc11:yX:=.cond (.t 36) (.reg q2cr10) .skip
def q2cc12:yX:=yq q2cr9 q2cc11
def q2cr13:yW:=[
 yM 46 8,
 yM 2 46,
 yK 3 .i64 0]
def q2cc14:yX:=yq q2cr13 .ret
def q2cc15:yX:=.seq q2cc12 q2cc14
def q2cc16:yX:=yq q2cr8 q2cc15
def q2cc17:yX:=yq q2cr7 q2cc16
def q2cc18:yX:=yq q2cr6 q2cc17
def q2cc19:yX:=.seq q2cc5 q2cc18
def q2cc20:yX:=yq q2cr0 q2cc19
attribute [go_sem] q2cr0 q2cr1 q2cr2 q2cr6 q2cr7 q2cr8 q2cr9 q2cr10 q2cr13
theorem q2cok:cFn TC 9=some (47,[.t 2,.t 3],q2cc20):=by kernel_rfl
def q2dr0:yW:=[
 yI 1 (.box (.t 0)),
 yI 2 (.mv (.v (.str []))),
 yK 3 .i64 0]
def q2dr1:yW:=[
 yL 9 true 106 1,
 yC 10 38 9,
 yI 11 (.un .not (.t 10))]
def q2dr2:yW:=[
 yI 2 (.mv (.v (.str []))),
 yK 3 .i64 2]
def q2dc3:yX:=yq q2dr2 .ret
def q2dc4:yX:=.cond (.t 11) q2dc3 .skip
def q2dc5:yX:=yq q2dr1 q2dc4
def q2dr6:yW:=[
 yF 13 1 1,
 yL 14 true 36 13,
 yC 15 39 14,
 yM 12 15,
 yE 16 0 12,
 yE 17 1 12,
 yM 4 16,
 yM 5 17]
def q2dr7:yW:=[
 yF 19 37 1,
 yL 20 true 36 19,
 yC 21 39 20,
 yM 18 21,
 yE 22 0 18,
 yE 23 1 18,
 yM 6 22,
 yM 7 23]
def q2dr8:yW:=[
 yF 24 0 1,
 yL 25 false 1 24,
 yI 26 (.conv (.int .u64) (.t 25)),
 yC 27 40 26,
 yM 28 4,
 yC 29 41 28,
 yB 30 .add 27 29,
 yM 31 6,
 yC 32 41 31,
 yB 33 .add 30 32,
 yM 8 33]
def q2dr9:yW:=[
 yF 34 0 1,
 yL 35 false 1 34,
 yJ 36 .eql 35 .i64 2]
def q2dr10:yW:=[
 yM 37 8,
 yF 38 73 1,
 ⟨some 39,none,.rd,.load true 32 (.t 38)⟩,
 ⟨some 40,none,.ef,.call (.v (.fn 42 [])) [(.t 39)]⟩,
 yB 41 .add 37 40,
 yF 42 105 1,
 ⟨some 43,none,.rd,.load false 1 (.t 42)⟩,
 yC 44 43 43,
 yB 45 .add 41 44,
 yM 8 45]
def q2dc11:yX:=.cond (.t 36) (.reg q2dr10) .skip
def q2dc12:yX:=yq q2dr9 q2dc11
def q2dr13:yW:=[
 yM 46 8,
 yM 2 46,
 yK 3 .i64 0]
def q2dc14:yX:=yq q2dr13 .ret
def q2dc15:yX:=.seq q2dc12 q2dc14
def q2dc16:yX:=yq q2dr8 q2dc15
def q2dc17:yX:=yq q2dr7 q2dc16
def q2dc18:yX:=yq q2dr6 q2dc17
def q2dc19:yX:=.seq q2dc5 q2dc18
def q2dc20:yX:=yq q2dr0 q2dc19
attribute [go_sem] q2dr0 q2dr1 q2dr2 q2dr6 q2dr7 q2dr8 q2dr9 q2dr10 q2dr13
theorem q2dok:cFn TC 10=some (47,[.t 2,.t 3],q2dc20):=by kernel_rfl
def q2er0:yW:=[
 yI 2 (.box (.t 0)),
 yI 3 (.box (.t 1)),
 yK 4 .i64 0]
def q2er1:yW:=[
 yF 7 1 3,
 yF 8 0 7,
 ⟨some 9,none,.rd,.load true 33 (.t 8)⟩,
 yF 10 37 3,
 yF 11 0 10,
 ⟨some 12,none,.rd,.load true 33 (.t 11)⟩,
 ⟨some 5,none,.ef,.alloc ((.int .i64 0)::zZ0)⟩,
 ⟨some 6,none,.ef,.alloc ((.int .i64 0)::zZ0)⟩,
 ⟨none,none,.ef,.store 33 (.t 5) (.t 9)⟩,
 yS 33 6 12]
def q2er2:yW:=[
 yF 7 1 3,
 yF 8 0 7,
 ⟨some 9,none,.rd,.load true 33 (.t 8)⟩,
 yF 10 37 3,
 yF 11 0 10,
 ⟨some 12,none,.rd,.load true 33 (.t 11)⟩,
 ⟨some 6,none,.ef,.alloc ((.int .i64 0)::zZ0)⟩,
 ⟨some 5,none,.ef,.alloc ((.int .i64 0)::zZ0)⟩,
 ⟨none,none,.ef,.store 33 (.t 5) (.t 9)⟩,
 yS 33 6 12]
def q2er3:yW:=[
 yL 14 true 106 3,
 yC 15 32 14,
 yI 16 (.un .not (.t 15)),
 yM 13 16]
def q2er4:yW:=[
 yK 4 .i64 2]
def q2ec5:yX:=yq q2er4 .ret
def q2er6:yW:=[
 yL 18 true 32 2,
 yF 19 1 3,
 yL 20 true 36 19,
 yD 21 44 18 20,
 yJ 22 .neq 21 .i64 0,
 yM 17 22]
def q2er7:yW:=[
 yL 23 true 32 2,
 yF 24 37 3,
 yL 25 true 36 24,
 yD 26 44 23 25,
 yJ 27 .neq 26 .i64 0,
 yM 17 27]
def q2ec8:yX:=.cond (.t 17) .skip (.reg q2er7)
def q2ec9:yX:=yq q2er6 q2ec8
def q2er10:yW:=[
 yK 4 .i64 81]
def q2ec11:yX:=yq q2er10 .ret
def q2er12:yW:=[
 yF 29 0 3,
 yL 30 false 1 29,
 yJ 31 .eql 30 .i64 2,
 yM 32 31,
 yT 33 32 true 0 5,
 yU 34 32 true false 1 33,
 yT 35 32 true 0 6,
 yU 36 32 true false 1 35,
 yT 37 32 true 73 3,
 yU 38 32 true true 32 37,
 yT 39 32 true 1 6,
 yU 40 32 true true 32 39,
 yT 41 32 true 105 3,
 yU 42 32 true false 1 41,
 yG 43 32 true (.call (.v (.fn 45 [])) [(.t 34),(.t 36),(.t 38),(.t 40),(.t 42)]),
 yG 44 32 true (.bin .neq .none (.t 43) (.v (.int .i64 0))),
 yQ 45 32 44,
 yM 28 45]
def q2er13:yW:=[
 yK 4 .i64 80]
def q2ec14:yX:=yq q2er13 .ret
def q2ec15:yX:=.cond (.t 28) q2ec14 .skip
def q2ec16:yX:=yq q2er12 q2ec15
def q2ec17:yX:=.cond (.t 17) q2ec11 q2ec16
def q2ec18:yX:=.seq q2ec9 q2ec17
def q2ec19:yX:=.cond (.t 13) q2ec5 q2ec18
def q2ec20:yX:=yq q2er3 q2ec19
def q2er21:yW:=[
 yK 4 .i64 0]
def q2ec22:yX:=yq q2er21 .ret
def q2ec23:yX:=.seq (.block 0 q2ec20) q2ec22
def q2ec24:yX:=.seq (.reg2 q2er1 q2er2) q2ec23
def q2ec25:yX:=yq q2er0 q2ec24
attribute [go_sem] q2er0 q2er1 q2er2 q2er3 q2er4 q2er6 q2er7 q2er10 q2er12 q2er13 q2er21
theorem q2eok:cFn TC 11=some (46,[.t 4],q2ec25):=by kernel_rfl
def q2fr0:yW:=[
 yI 2 (.box (.t 0)),
 yI 3 (.box (.t 1)),
 yK 4 .i64 0]
def q2fr1:yW:=[
 yL 5 true 106 3,
 yC 6 38 5,
 yI 7 (.un .not (.t 6))]
def q2fr2:yW:=[
 yK 4 .i64 2]
def q2fc3:yX:=yq q2fr2 .ret
def q2fc4:yX:=.cond (.t 7) q2fc3 .skip
def q2fc5:yX:=yq q2fr1 q2fc4
def q2fr6:yW:=[
 yL 8 true 32 2,
 yF 9 1 3,
 yL 10 true 36 9,
 yD 11 46 8 10,
 yJ 12 .neq 11 .i64 0,
 yM 13 12,
 yU 14 13 false true 32 2,
 yT 15 13 false 37 3,
 yU 16 13 false true 36 15,
 yG 17 13 false (.call (.v (.fn 46 [])) [(.t 14),(.t 16)]),
 yG 18 13 false (.bin .neq .none (.t 17) (.v (.int .i64 0))),
 yP 19 13 18]
def q2fr7:yW:=[
 yK 4 .i64 81]
def q2fc8:yX:=yq q2fr7 .ret
def q2fc9:yX:=.cond (.t 19) q2fc8 .skip
def q2fc10:yX:=yq q2fr6 q2fc9
def q2fr11:yW:=[
 yF 20 0 3,
 yL 21 false 1 20,
 yJ 22 .eql 21 .i64 2,
 yM 23 22,
 yT 24 23 true 1 3,
 yT 25 23 true 0 24,
 yT 26 23 true 0 25,
 yU 27 23 true false 1 26,
 yT 28 23 true 37 3,
 yT 29 23 true 0 28,
 yT 30 23 true 0 29,
 yU 31 23 true false 1 30,
 yT 32 23 true 73 3,
 yU 33 23 true true 32 32,
 yT 34 23 true 37 3,
 yT 35 23 true 0 34,
 yT 36 23 true 1 35,
 yU 37 23 true true 32 36,
 yT 38 23 true 105 3,
 yU 39 23 true false 1 38,
 yG 40 23 true (.call (.v (.fn 47 [])) [(.t 27),(.t 31),(.t 33),(.t 37),(.t 39)]),
 yG 41 23 true (.bin .neq .none (.t 40) (.v (.int .i64 0))),
 yQ 42 23 41]
def q2fr12:yW:=[
 yK 4 .i64 80]
def q2fc13:yX:=yq q2fr12 .ret
def q2fc14:yX:=.cond (.t 42) q2fc13 .skip
def q2fc15:yX:=yq q2fr11 q2fc14
def q2fr16:yW:=[
 yK 4 .i64 0]
def q2fc17:yX:=yq q2fr16 .ret
def q2fc18:yX:=.seq q2fc15 q2fc17
def q2fc19:yX:=.seq q2fc10 q2fc18
def q2fc20:yX:=.seq q2fc5 q2fc19
def q2fc21:yX:=yq q2fr0 q2fc20
attribute [go_sem] q2fr0 q2fr1 q2fr2 q2fr6 q2fr7 q2fr11 q2fr12 q2fr16
theorem q2fok:cFn TC 12=some (43,[.t 4],q2fc21):=by kernel_rfl
def q2gr0:yW:=[
 yI 2 (.box (.t 0)),
 yI 3 (.box (.t 1)),
 yI 4 (.mv (.v (.bool false)))]
def q2gr1:yW:=[
 yF 5 0 2,
 yL 6 false 1 5,
 yF 7 0 3,
 yL 8 false 1 7,
 yB 9 .eql 6 8,
 yM 10 9,
 yT 11 10 true 1 2,
 yU 12 10 true true 36 11,
 yT 13 10 true 1 3,
 yU 14 10 true true 36 13,
 yG 15 10 true (.call (.v (.fn 48 [])) [(.t 12),(.t 14)]),
 yQ 16 10 15,
 yM 17 16,
 yT 18 17 true 37 2,
 yU 19 17 true true 36 18,
 yT 20 17 true 37 3,
 yU 21 17 true true 36 20,
 yG 22 17 true (.call (.v (.fn 48 [])) [(.t 19),(.t 21)]),
 yQ 23 17 22,
 yM 24 23,
 yT 25 24 true 73 2,
 yU 26 24 true true 32 25,
 yT 27 24 true 73 3,
 yU 28 24 true true 32 27,
 yG 29 24 true (.bin .eql (.agg (List.replicate 32 (.i .u8)++ [])) (.t 26) (.t 28)),
 yQ 30 24 29,
 yM 31 30,
 yT 32 31 true 105 2,
 yU 33 31 true false 1 32,
 yT 34 31 true 105 3,
 yU 35 31 true false 1 34,
 yG 36 31 true (.call (.v (.fn 49 [])) [(.t 33),(.t 35)]),
 yQ 37 31 36,
 yM 4 37]
def q2gc2:yX:=yq q2gr1 .ret
def q2gc3:yX:=yq q2gr0 q2gc2
attribute [go_sem] q2gr0 q2gr1
theorem q2gok:cFn TC 13=some (38,[.t 4],q2gc3):=by kernel_rfl
def q2hr0:yW:=[
 yI 4 (.alloc evO),
 yI 5 (.mv (.v (.bool false)))]
def q2hr1:yW:=[
 yM 16 0,
 yC 17 83 16,
 yM 15 17,
 yE 18 0 15,
 yE 19 1 15,
 yI 6 (.alloc evO),
 yS 106 6 18,
 yM 7 19]
def q2hr2:yW:=[
 yM 20 7]
def q2hr3:yW:=[
 yL 21 true 106 6,
 yC 22 84 21,
 yS 106 4 22,
 yI 5 (.mv (.v (.bool true)))]
def q2hc4:yX:=yq q2hr3 .ret
def q2hc5:yX:=.cond (.t 20) q2hc4 .skip
def q2hc6:yX:=yq q2hr2 q2hc5
def q2hc7:yX:=yq q2hr1 q2hc6
def q2hr8:yW:=[
 yM 24 0,
 yM 25 1,
 yD 26 85 24 25,
 yM 23 26,
 yE 27 0 23,
 yE 28 1 23,
 yI 8 (.alloc sgZ),
 yS 36 8 27,
 yM 9 28]
def q2hr9:yW:=[
 yM 29 9,
 yI 30 (.un .not (.t 29))]
def q2hr10:yW:=[
 yI 31 (.build evO []),
 yS 106 4 31,
 yI 5 (.mv (.v (.bool false)))]
def q2hc11:yX:=yq q2hr10 .ret
def q2hc12:yX:=.cond (.t 30) q2hc11 .skip
def q2hc13:yX:=yq q2hr9 q2hc12
def q2hr14:yW:=[
 yM 32 0,
 yI 33 (.lenSl (.t 32)),
 yK 34 .i64 0]
def q2hr15:yW:=[
 yB 35 .lss 34 33]
def q2hr16:yW:=[
 yI 36 (.iaSl 36 (.t 32) (.t 34)),
 yL 37 true 36 36,
 yI 11 (.alloc sgZ),
 yS 36 11 37]
def q2hr17:yW:=[
 yL 38 true 36 11,
 yC 39 86 38,
 yI 40 (.un .not (.t 39)),
 yM 41 40,
 yT 42 41 false 0 11,
 yT 43 41 false 0 42,
 yU 44 41 false false 1 43,
 yT 45 41 false 0 8,
 yT 46 41 false 0 45,
 yU 47 41 false false 1 46,
 yG 48 41 false (.bin .geq .none (.t 44) (.t 47)),
 yP 49 41 48]
def q2hc18:yX:=.cond (.t 49) (.exit 1) .skip
def q2hc19:yX:=yq q2hr17 q2hc18
def q2hr20:yW:=[
 yM 50 1,
 yF 51 0 11,
 yF 52 0 51,
 yL 53 false 1 52,
 yI 54 (.slice (.sl 32) (.t 50) none (some (.t 53)) none),
 yC 55 64 54,
 yI 12 (.alloc zZ0),
 yS 32 12 55]
def q2hr21:yW:=[
 yL 56 true 32 12,
 yF 57 0 11,
 yF 58 1 57,
 yL 59 true 32 58,
 yI 60 (.bin .neq (.agg (List.replicate 32 (.i .u8)++ [])) (.t 56) (.t 59))]
def q2hr22:yW:=[
 yM 62 1,
 yF 63 0 8,
 yF 64 0 63,
 ⟨some 65,none,.rd,.load false 1 (.t 64)⟩,
 yI 66 (.slice (.sl 32) (.t 62) none (some (.t 65)) none),
 yF 67 0 11,
 yF 68 0 67,
 ⟨some 69,none,.rd,.load false 1 (.t 68)⟩,
 yD 70 87 66 69,
 yM 61 70,
 yE 71 0 61,
 yE 72 1 61,
 yM 13 71,
 yM 14 72]
def q2hr23:yW:=[
 yL 73 true 36 11,
 yL 74 true 36 8,
 yL 75 true 32 12,
 yM 76 13,
 yI 77 (.build evO [(0,1,(.v (.int .i64 2))),(1,36,(.t 73)),(37,36,(.t 74)),(73,32,(.t 75)),(105,1,(.t 76))]),
 yC 78 84 77,
 yS 106 4 78,
 yI 5 (.mv (.v (.bool true)))]
def q2hc24:yX:=yq q2hr23 .ret
def q2hc25:yX:=yq q2hr22 q2hc24
def q2hc26:yX:=.cond (.t 60) q2hc25 .skip
def q2hc27:yX:=yq q2hr21 q2hc26
def q2hc28:yX:=yq q2hr20 q2hc27
def q2hc29:yX:=.seq q2hc19 q2hc28
def q2hc30:yX:=yq q2hr16 q2hc29
def q2hr31:yW:=[
 yJ 79 .add 34 .i64 1,
 yM 34 79]
def q2hc32:yX:=.seq (.block 1 q2hc30) (.reg q2hr31)
def q2hc33:yX:=.seq (.cond (.t 35) .skip (.exit 0)) q2hc32
def q2hc34:yX:=yq q2hr15 q2hc33
def q2hc35:yX:=.loop q2hc34
def q2hc36:yX:=.block 0 q2hc35
def q2hc37:yX:=yq q2hr14 q2hc36
def q2hr38:yW:=[
 yI 80 (.build evO []),
 yS 106 4 80,
 yI 5 (.mv (.v (.bool false)))]
def q2hc39:yX:=yq q2hr38 .ret
def q2hc40:yX:=.seq q2hc37 q2hc39
def q2hc41:yX:=.seq q2hc13 q2hc40
def q2hc42:yX:=yq q2hr8 q2hc41
def q2hc43:yX:=.seq q2hc7 q2hc42
def q2hc44:yX:=yq q2hr0 q2hc43
attribute [go_sem] q2hr0 q2hr1 q2hr2 q2hr3 q2hr8 q2hr9 q2hr10 q2hr14 q2hr15 q2hr16 q2hr17 q2hr20 q2hr21 q2hr22 q2hr23 q2hr31 q2hr38
theorem q2hok:cFn TC 28=some (81,[.c 4 true 106,.t 5],q2hc44):=by kernel_rfl
def q2ir0:yW:=[
 yI 1 (.box (.t 0)),
 yI 2 (.mv (.v (.bool false)))]
def q2ir1:yW:=[
 yF 4 1 1,
 yL 5 true 36 4,
 yC 6 86 5,
 yI 7 (.un .not (.t 6)),
 yM 8 7,
 yT 9 8 false 37 1,
 yU 10 8 false true 36 9,
 yG 11 8 false (.call (.v (.fn 86 [])) [(.t 10)]),
 yG 12 8 false (.un .not (.t 11)),
 yP 13 8 12,
 yM 14 13,
 yT 15 14 false 105 1,
 yU 16 14 false false 1 15,
 yG 17 14 false (.lenSl (.t 16)),
 yG 18 14 false (.bin .gtr .none (.t 17) (.v (.int .i64 64))),
 yP 19 14 18]
def q2ir2:yW:=[
 yI 2 (.mv (.v (.bool false)))]
def q2ic3:yX:=yq q2ir2 .ret
def q2ic4:yX:=.cond (.t 19) q2ic3 .skip
def q2ic5:yX:=yq q2ir1 q2ic4
def q2ir6:yW:=[
 yF 20 1 1,
 yF 21 0 20,
 yL 22 true 33 21,
 yF 23 37 1,
 yF 24 0 23,
 yL 25 true 33 24,
 yD 26 90 22 25,
 yM 3 26]
def q2ir7:yW:=[
 yF 27 0 1,
 yL 28 false 1 27]
def q2ir8:yW:=[
 yJ 30 .eql 28 .i64 1,
 yM 29 30]
def q2ir9:yW:=[
 yM 31 3,
 yJ 32 .eql 31 .i64 3,
 yM 33 32,
 yT 34 33 true 73 1,
 yU 35 33 true true 32 34,
 yG 36 33 true (.build zZ0 []),
 yG 37 33 true (.bin .eql (.agg (List.replicate 32 (.i .u8)++ [])) (.t 35) (.t 36)),
 yQ 38 33 37,
 yM 39 38,
 yT 40 39 true 105 1,
 yU 41 39 true false 1 40,
 yG 42 39 true (.lenSl (.t 41)),
 yG 43 39 true (.bin .eql .none (.t 42) (.v (.int .i64 0))),
 yQ 44 39 43,
 yM 2 44]
def q2ic10:yX:=yq q2ir9 .ret
def q2ir11:yW:=[
 yJ 46 .eql 28 .i64 2,
 yM 45 46]
def q2ir12:yW:=[
 yM 47 3,
 yJ 48 .eql 47 .i64 0,
 yM 49 48,
 yT 50 49 true 73 1,
 yU 51 49 true true 32 50,
 yT 52 49 true 1 1,
 yT 53 49 true 0 52,
 yT 54 49 true 1 53,
 yU 55 49 true true 32 54,
 yG 56 49 true (.bin .neq (.agg (List.replicate 32 (.i .u8)++ [])) (.t 51) (.t 55)),
 yQ 57 49 56,
 yM 2 57]
def q2ic13:yX:=yq q2ir12 .ret
def q2ic14:yX:=.cond (.t 45) q2ic13 .skip
def q2ic15:yX:=yq q2ir11 q2ic14
def q2ic16:yX:=.cond (.t 29) q2ic10 q2ic15
def q2ic17:yX:=yq q2ir8 q2ic16
def q2ic18:yX:=.block 0 q2ic17
def q2ic19:yX:=yq q2ir7 q2ic18
def q2ir20:yW:=[
 yI 2 (.mv (.v (.bool false)))]
def q2ic21:yX:=yq q2ir20 .ret
def q2ic22:yX:=.seq q2ic19 q2ic21
def q2ic23:yX:=yq q2ir6 q2ic22
def q2ic24:yX:=.seq q2ic5 q2ic23
def q2ic25:yX:=yq q2ir0 q2ic24
attribute [go_sem] q2ir0 q2ir1 q2ir2 q2ir6 q2ir7 q2ir8 q2ir9 q2ir11 q2ir12 q2ir20
theorem q2iok:cFn TC 32=some (58,[.t 2],q2ic25):=by kernel_rfl
def q2jr0:yW:=[
 yI 1 (.box (.t 0)),
 yI 2 (.mv (.v (.bool false)))]
def q2jr1:yW:=[
 yF 5 1 1,
 yL 6 true 36 5,
 yC 7 93 6,
 yI 8 (.un .not (.t 7)),
 yM 9 8,
 yT 10 9 false 37 1,
 yU 11 9 false true 36 10,
 yG 12 9 false (.call (.v (.fn 93 [])) [(.t 11)]),
 yG 13 9 false (.un .not (.t 12)),
 yP 14 9 13]
def q2jr2:yW:=[
 yI 2 (.mv (.v (.bool false)))]
def q2jc3:yX:=yq q2jr2 .ret
def q2jc4:yX:=.cond (.t 14) q2jc3 .skip
def q2jc5:yX:=yq q2jr1 q2jc4
def q2jr6:yW:=[
 yF 15 1 1,
 yF 16 0 15,
 ⟨some 17,none,.rd,.load true 33 (.t 16)⟩,
 yF 18 37 1,
 yF 19 0 18,
 ⟨some 20,none,.rd,.load true 33 (.t 19)⟩,
 ⟨some 3,none,.ef,.alloc ((.int .i64 0)::zZ0)⟩,
 ⟨some 4,none,.ef,.alloc ((.int .i64 0)::zZ0)⟩,
 ⟨none,none,.ef,.store 33 (.t 3) (.t 17)⟩,
 yS 33 4 20]
def q2jr7:yW:=[
 yF 15 1 1,
 yF 16 0 15,
 ⟨some 17,none,.rd,.load true 33 (.t 16)⟩,
 yF 18 37 1,
 yF 19 0 18,
 ⟨some 20,none,.rd,.load true 33 (.t 19)⟩,
 ⟨some 4,none,.ef,.alloc ((.int .i64 0)::zZ0)⟩,
 ⟨some 3,none,.ef,.alloc ((.int .i64 0)::zZ0)⟩,
 ⟨none,none,.ef,.store 33 (.t 3) (.t 17)⟩,
 yS 33 4 20]
def q2jr8:yW:=[
 yF 21 0 1,
 yL 22 false 1 21,
 yJ 23 .eql 22 .i64 1]
def q2jr9:yW:=[
 yF 24 0 3,
 yL 25 false 1 24,
 yF 26 0 4,
 yL 27 false 1 26,
 yB 28 .eql 25 27,
 yM 29 28,
 yT 30 29 true 1 3,
 yU 31 29 true true 32 30,
 yT 32 29 true 1 4,
 yU 33 29 true true 32 32,
 yG 34 29 true (.bin .neq (.agg (List.replicate 32 (.i .u8)++ [])) (.t 31) (.t 33)),
 yQ 35 29 34,
 yM 36 35,
 yT 37 36 true 73 1,
 yU 38 36 true true 32 37,
 yG 39 36 true (.build zZ0 []),
 yG 40 36 true (.bin .eql (.agg (List.replicate 32 (.i .u8)++ [])) (.t 38) (.t 39)),
 yQ 41 36 40,
 yM 42 41,
 yT 43 42 true 105 1,
 yU 44 42 true false 1 43,
 yG 45 42 true (.lenSl (.t 44)),
 yG 46 42 true (.bin .eql .none (.t 45) (.v (.int .i64 0))),
 yQ 47 42 46,
 yM 2 47]
def q2jc10:yX:=yq q2jr9 .ret
def q2jc11:yX:=.cond (.t 23) q2jc10 .skip
def q2jc12:yX:=yq q2jr8 q2jc11
def q2jr13:yW:=[
 yF 48 0 1,
 yL 49 false 1 48,
 yJ 50 .eql 49 .i64 2,
 yM 51 50,
 yT 52 51 true 0 3,
 yU 53 51 true false 1 52,
 yT 54 51 true 0 4,
 yU 55 51 true false 1 54,
 yG 56 51 true (.bin .lss .none (.t 53) (.t 55)),
 yQ 57 51 56,
 yM 58 57,
 yT 59 58 true 73 1,
 yU 60 58 true true 32 59,
 yT 61 58 true 1 3,
 yU 62 58 true true 32 61,
 yG 63 58 true (.bin .neq (.agg (List.replicate 32 (.i .u8)++ [])) (.t 60) (.t 62)),
 yQ 64 58 63,
 yM 65 64,
 yT 66 65 true 105 1,
 yU 67 65 true false 1 66,
 yG 68 65 true (.lenSl (.t 67)),
 yG 69 65 true (.bin .leq .none (.t 68) (.v (.int .i64 64))),
 yQ 70 65 69,
 yM 2 70]
def q2jc14:yX:=yq q2jr13 .ret
def q2jc15:yX:=.seq q2jc12 q2jc14
def q2jc16:yX:=.seq (.reg2 q2jr6 q2jr7) q2jc15
def q2jc17:yX:=.seq q2jc5 q2jc16
def q2jc18:yX:=yq q2jr0 q2jc17
attribute [go_sem] q2jr0 q2jr1 q2jr2 q2jr6 q2jr7 q2jr8 q2jr9 q2jr13
theorem q2jok:cFn TC 38=some (71,[.t 2],q2jc18):=by kernel_rfl
def q2kr0:yW:=[
 yI 2 (.alloc evO),
 yI 3 (.mv (.v (.bool false)))]
def q2kr1:yW:=[
 yM 8 0,
 yI 9 (.lenSl (.t 8)),
 yK 10 .i64 0]
def q2kr2:yW:=[
 yB 11 .lss 10 9]
def q2kr3:yW:=[
 yM 12 10,
 yI 13 (.iaSl 36 (.t 8) (.t 10)),
 yL 14 true 36 13,
 yI 5 (.alloc sgZ),
 yM 4 12,
 yS 36 5 14]
def q2kr4:yW:=[
 yM 15 0,
 yM 16 4,
 yJ 17 .add 16 .i64 1,
 yI 18 (.slice (.sl 36) (.t 15) (some (.t 17)) none none),
 yI 19 (.lenSl (.t 18)),
 yK 20 .i64 0]
def q2kr5:yW:=[
 yB 21 .lss 20 19]
def q2kr6:yW:=[
 yI 22 (.iaSl 36 (.t 18) (.t 20)),
 yL 23 true 36 22,
 yI 7 (.alloc sgZ),
 yS 36 7 23]
def q2kr7:yW:=[
 yL 24 true 36 5,
 yC 25 86 24,
 yM 26 25,
 yU 27 26 true true 36 7,
 yG 28 26 true (.call (.v (.fn 86 [])) [(.t 27)]),
 yQ 29 26 28,
 yM 30 29,
 yT 31 30 true 0 5,
 yU 32 30 true true 33 31,
 yT 33 30 true 0 7,
 yU 34 30 true true 33 33,
 yG 35 30 true (.call (.v (.fn 90 [])) [(.t 32),(.t 34)]),
 yG 36 30 true (.bin .eql .none (.t 35) (.v (.int .i64 3))),
 yQ 37 30 36]
def q2kr8:yW:=[
 yL 38 true 36 5,
 yL 39 true 36 7,
 yI 40 (.build evO [(0,1,(.v (.int .i64 1))),(1,36,(.t 38)),(37,36,(.t 39))]),
 yS 106 2 40,
 yI 3 (.mv (.v (.bool true)))]
def q2kc9:yX:=yq q2kr8 .ret
def q2kc10:yX:=.cond (.t 37) q2kc9 .skip
def q2kc11:yX:=yq q2kr7 q2kc10
def q2kc12:yX:=yq q2kr6 q2kc11
def q2kr13:yW:=[
 yJ 41 .add 20 .i64 1,
 yM 20 41]
def q2kc14:yX:=.seq (.block 3 q2kc12) (.reg q2kr13)
def q2kc15:yX:=.seq (.cond (.t 21) .skip (.exit 2)) q2kc14
def q2kc16:yX:=yq q2kr5 q2kc15
def q2kc17:yX:=.loop q2kc16
def q2kc18:yX:=.block 2 q2kc17
def q2kc19:yX:=yq q2kr4 q2kc18
def q2kc20:yX:=yq q2kr3 q2kc19
def q2kr21:yW:=[
 yJ 42 .add 10 .i64 1,
 yM 10 42]
def q2kc22:yX:=.seq (.block 1 q2kc20) (.reg q2kr21)
def q2kc23:yX:=.seq (.cond (.t 11) .skip (.exit 0)) q2kc22
def q2kc24:yX:=yq q2kr2 q2kc23
def q2kc25:yX:=.loop q2kc24
def q2kc26:yX:=.block 0 q2kc25
def q2kc27:yX:=yq q2kr1 q2kc26
def q2kr28:yW:=[
 yI 43 (.build evO []),
 yS 106 2 43,
 yI 3 (.mv (.v (.bool false)))]
def q2kc29:yX:=yq q2kr28 .ret
def q2kc30:yX:=.seq q2kc27 q2kc29
def q2kc31:yX:=yq q2kr0 q2kc30
attribute [go_sem] q2kr0 q2kr1 q2kr2 q2kr3 q2kr4 q2kr5 q2kr6 q2kr7 q2kr8 q2kr13 q2kr21 q2kr28
theorem q2kok:cFn TC 83=some (44,[.c 2 true 106,.t 3],q2kc31):=by kernel_rfl
def q2lr0:yW:=[
 yI 1 (.box (.t 0)),
 yI 2 (.alloc evO)]
def q2lr1:yW:=[
 yF 3 1 1,
 yF 4 33 3,
 yF 5 2 4,
 yL 6 false 1 5,
 yC 7 120 6,
 yF 8 1 1,
 yF 9 33 8,
 yF 10 2 9,
 yS 1 10 7]
def q2lr2:yW:=[
 yF 11 37 1,
 yF 12 33 11,
 yF 13 2 12,
 yL 14 false 1 13,
 yC 15 120 14,
 yF 16 37 1,
 yF 17 33 16,
 yF 18 2 17,
 yS 1 18 15]
def q2lr3:yW:=[
 yL 19 true 106 1,
 yS 106 2 19]
def q2lc4:yX:=yq q2lr3 .ret
def q2lc5:yX:=yq q2lr2 q2lc4
def q2lc6:yX:=yq q2lr1 q2lc5
def q2lc7:yX:=yq q2lr0 q2lc6
attribute [go_sem] q2lr0 q2lr1 q2lr2 q2lr3
theorem q2lok:cFn TC 84=some (20,[.c 2 true 106],q2lc7):=by kernel_rfl
def q2mr0:yW:=[
 yI 4 (.alloc sgZ),
 yI 5 (.mv (.v (.bool false)))]
def q2mr1:yW:=[
 yI 6 (.alloc sgZ)]
def q2mr2:yW:=[
 yI 7 (.mv (.v (.bool false)))]
def q2mr3:yW:=[
 yM 11 0,
 yI 12 (.lenSl (.t 11)),
 yK 13 .i64 0]
def q2mr4:yW:=[
 yB 14 .lss 13 12]
def q2mr5:yW:=[
 yI 15 (.iaSl 36 (.t 11) (.t 13)),
 yL 16 true 36 15,
 yI 9 (.alloc sgZ),
 yS 36 9 16]
def q2mr6:yW:=[
 yF 17 0 9,
 yF 18 0 17,
 yL 19 false 1 18,
 yM 10 19]
def q2mr7:yW:=[
 yL 20 true 36 9,
 yC 21 86 20,
 yM 22 21,
 yV 23 22 true 10,
 yV 24 22 true 1,
 yG 25 22 true (.lenSl (.t 24)),
 yG 26 22 true (.bin .leq .none (.t 23) (.t 25)),
 yQ 27 22 26,
 yM 28 27,
 yV 29 28 true 7,
 yG 30 28 true (.un .not (.t 29)),
 yV 31 28 true 30,
 yV 32 31 false 10,
 yT 33 31 false 0 6,
 yT 34 31 false 0 33,
 yU 35 31 false false 1 34,
 yG 36 31 false (.bin .gtr .none (.t 32) (.t 35)),
 yG 37 28 true (.pick (.t 31) (.v (.bool true)) (.t 36)),
 yQ 38 28 37,
 yM 39 38,
 yV 40 39 true 1,
 yV 41 39 true 10,
 yG 42 39 true (.slice (.sl 32) (.t 40) none (some (.t 41)) none),
 ⟨some 43,some (39,true),.ef,.call (.v (.fn 64 [])) [(.t 42)]⟩,
 yT 44 39 true 0 9,
 yT 45 39 true 1 44,
 ⟨some 46,some (39,true),.rd,.load true 32 (.t 45)⟩,
 yG 47 39 true (.bin .eql (.agg (List.replicate 32 (.i .u8)++ [])) (.t 43) (.t 46)),
 yQ 48 39 47]
def q2mr8:yW:=[
 yL 49 true 36 9,
 yS 36 6 49,
 yI 7 (.mv (.v (.bool true)))]
def q2mc9:yX:=.cond (.t 48) (.reg q2mr8) .skip
def q2mc10:yX:=yq q2mr7 q2mc9
def q2mc11:yX:=yq q2mr6 q2mc10
def q2mc12:yX:=yq q2mr5 q2mc11
def q2mr13:yW:=[
 yJ 50 .add 13 .i64 1,
 yM 13 50]
def q2mc14:yX:=.seq (.block 1 q2mc12) (.reg q2mr13)
def q2mc15:yX:=.seq (.cond (.t 14) .skip (.exit 0)) q2mc14
def q2mc16:yX:=yq q2mr4 q2mc15
def q2mc17:yX:=.loop q2mc16
def q2mc18:yX:=.block 0 q2mc17
def q2mc19:yX:=yq q2mr3 q2mc18
def q2mr20:yW:=[
 yL 51 true 36 6,
 yM 52 7,
 yS 36 4 51,
 yM 5 52]
def q2mc21:yX:=yq q2mr20 .ret
def q2mc22:yX:=.seq q2mc19 q2mc21
def q2mc23:yX:=yq q2mr2 q2mc22
def q2mc24:yX:=yq q2mr1 q2mc23
def q2mc25:yX:=yq q2mr0 q2mc24
attribute [go_sem] q2mr0 q2mr1 q2mr2 q2mr3 q2mr4 q2mr5 q2mr6 q2mr7 q2mr8 q2mr13 q2mr20
theorem q2mok:cFn TC 85=some (53,[.c 4 true 36,.t 5],q2mc25):=by kernel_rfl
end
section
theorem ord3(n m:Int)(a b:Hash):ordI n m a b=3 ↔ (n=m/\ a ≠ b):=by
 unfold ordI
 by_cases h:n=m
 ·subst h
  by_cases h2:a=b
  ·simp [h2]
  ·simp [h2]
 ·rw [if_pos h]
  constructor
  ·intro e;split at e<;>omega
  ·exact fun e=>absurd e.1 h
theorem ord0(n m:Int)(a b:Hash):ordI n m a b=0 ↔ n<m:=by
 unfold ordI
 by_cases h:n=m
 ·subst h
  by_cases h2:a=b
  ·simp [h2]
  ·simp [h2]
 ·rw [if_pos h]
  constructor
  ·intro e;split at e<;>omega
  ·intro e;rw [if_pos e]
theorem zjn{l:List Hash}(h:(l.length:Int)=0):l=[]:=List.eq_nil_of_length_eq_zero (by omega)
attribute [local irreducible] ACallsTo ACallsP
theorem zlb(O:Store)(e:Ev)(x y z:AV)(hx:RdSl O 32 (hr e.a.p) x)(hy:RdSl O 32 (hr e.b.p) y)(hz:RdSl O 32 (hr e.p) z):
  ACallsTo TC 32 [.agg (evX e x y z)] O (.bool (mayB e)) O:=by
 have hVa:=fun t=>z6r (O++t) e.a.n e.a.i e.a.r e.a.s e.a.p x hx.app
 have hVb:=fun t=>z6r (O++t) e.b.n e.b.i e.b.r e.b.s e.b.p y hy.app
 have hO:=fun O=>zge O e.a.n e.b.n e.a.r e.b.r
 have o3:=ord3 e.a.n e.b.n e.a.r e.b.r
 have o0:=ord0 e.a.n e.b.n e.a.r e.b.r
 have z1:=hz.len
 rw [z6]at z1
 unfold z1c at z1
 have hm:mayB e=(z1t e.a.n e.a.i e.a.s e.a.p && z1t e.b.n e.b.i e.b.s e.b.p && decide (e.p.length<=64) && z5e e):=rfl
 rw [hm]
 generalize z1t e.a.n e.a.i e.a.s e.a.p=va at*
 generalize z1t e.b.n e.b.i e.b.s e.b.p=vb at*
 generalize ordI e.a.n e.b.n e.a.r e.b.r=o at*
 refine ACallsTo.of_body q2iok (by simp) fun hw _=> ?_
 cases va with
 |false=>
  repeat' (first|apply zs_|apply zb_|apply zc_|apply zt_ rfl|apply zf_ rfl|(apply zd_ rfl<;>intro ht<;>try omega)|((first|apply zr_|apply zk_|apply ze_|apply zq_|(apply callW.mk_pu;(first|exact(fun _=>hVa _)))|(apply callW.za;(first|exact(hVa _)))|(apply zG<;>intro ht));all_goals try simp (disch:=first|omega|(simp only [lens,z7,z6,lQr,lQm,lQt,lQd,z8,zg,zi,zj];first|done|omega)) only [go_sem,z1]))
  exact DownV.pure hw z16
 |true=>
 cases vb with
 |false=>
  repeat' (first|apply zs_|apply zb_|apply zc_|apply zt_ rfl|apply zf_ rfl|(apply zd_ rfl<;>intro ht<;>try omega)|((first|apply zr_|apply zk_|apply ze_|apply zq_|(apply callW.mk_pu;(first|exact(fun _=>hVa _)|exact(fun _=>hVb _)))|(apply callW.za;(first|exact(hVa _)|exact(hVb _)))|(apply zG<;>intro ht));all_goals try simp (disch:=first|omega|(simp only [lens,z7,z6,lQr,lQm,lQt,lQd,z8,zg,zi,zj];first|done|omega)) only [go_sem,z1]))
  exact DownV.pure hw z16
 |true=>
 by_cases h64:e.p.length<=64
 ·have h64':¬(e.p.length:Int)>64:=by omega
  rw [decide_eq_true h64]
  unfold z5e
  by_cases k1:e.k=1
  ·rw [if_pos k1]
   by_cases c1:o=3
   ·by_cases c2:e.r=zeroH
    ·by_cases c3:(e.p.length:Int)=0
     ·rw [decide_eq_true ⟨(o3.1 c1).1,(o3.1 c1).2,c2,zjn c3⟩]
      repeat' (first|apply zs_|apply zb_|apply zc_|apply zt_ rfl|apply zf_ rfl|(apply zd_ rfl<;>intro ht<;>try omega)|((first|apply zr_|apply zk_|apply ze_|apply zq_|(apply callW.mk_pu;(first|exact(fun _=>hVa _)|exact(fun _=>hVb _)|exact(fun _=>hO _)))|(apply callW.za;(first|exact(hVa _)|exact(hVb _)|exact(hO _)))|(apply zG<;>intro ht));all_goals try simp (disch:=first|omega|(simp only [lens,z7,z6,lQr,lQm,lQt,lQd,z8,zg,zi,zj];first|done|omega)) only [go_sem,z1,h64',k1,c1,c2,c3,<-z3z]))
      exact DownV.pure hw z16
     ·rw [decide_eq_false (fun h=>c3 (by rw [h.2.2.2];rfl))]
      repeat' (first|apply zs_|apply zb_|apply zc_|apply zt_ rfl|apply zf_ rfl|(apply zd_ rfl<;>intro ht<;>try omega)|((first|apply zr_|apply zk_|apply ze_|apply zq_|(apply callW.mk_pu;(first|exact(fun _=>hVa _)|exact(fun _=>hVb _)|exact(fun _=>hO _)))|(apply callW.za;(first|exact(hVa _)|exact(hVb _)|exact(hO _)))|(apply zG<;>intro ht));all_goals try simp (disch:=first|omega|(simp only [lens,z7,z6,lQr,lQm,lQt,lQd,z8,zg,zi,zj];first|done|omega)) only [go_sem,z1,h64',k1,c1,c2,c3,<-z3z]))
      exact DownV.pure hw z16
    ·rw [decide_eq_false (fun h=>c2 h.2.2.1)]
     repeat' (first|apply zs_|apply zb_|apply zc_|apply zt_ rfl|apply zf_ rfl|(apply zd_ rfl<;>intro ht<;>try omega)|((first|apply zr_|apply zk_|apply ze_|apply zq_|(apply callW.mk_pu;(first|exact(fun _=>hVa _)|exact(fun _=>hVb _)|exact(fun _=>hO _)))|(apply callW.za;(first|exact(hVa _)|exact(hVb _)|exact(hO _)))|(apply zG<;>intro ht));all_goals try simp (disch:=first|omega|(simp only [lens,z7,z6,lQr,lQm,lQt,lQd,z8,zg,zi,zj];first|done|omega)) only [go_sem,z1,h64',k1,c1,c2,<-z3z]))
     exact DownV.pure hw z16
   ·rw [decide_eq_false (fun h=>c1 (o3.2 ⟨h.1,h.2.1⟩))]
    repeat' (first|apply zs_|apply zb_|apply zc_|apply zt_ rfl|apply zf_ rfl|(apply zd_ rfl<;>intro ht<;>try omega)|((first|apply zr_|apply zk_|apply ze_|apply zq_|(apply callW.mk_pu;(first|exact(fun _=>hVa _)|exact(fun _=>hVb _)|exact(fun _=>hO _)))|(apply callW.za;(first|exact(hVa _)|exact(hVb _)|exact(hO _)))|(apply zG<;>intro ht));all_goals try simp (disch:=first|omega|(simp only [lens,z7,z6,lQr,lQm,lQt,lQd,z8,zg,zi,zj];first|done|omega)) only [go_sem,z1,h64',k1,c1]))
    exact DownV.pure hw z16
  ·rw [if_neg k1]
   by_cases k2:e.k=2
   ·by_cases c1:o=0
    ·by_cases c2:e.r=e.a.r
     ·rw [decide_eq_false (fun h=>h.2.2 c2)]
      repeat' (first|apply zs_|apply zb_|apply zc_|apply zt_ rfl|apply zf_ rfl|(apply zd_ rfl<;>intro ht<;>try omega)|((first|apply zr_|apply zk_|apply ze_|apply zq_|(apply callW.mk_pu;(first|exact(fun _=>hVa _)|exact(fun _=>hVb _)|exact(fun _=>hO _)))|(apply callW.za;(first|exact(hVa _)|exact(hVb _)|exact(hO _)))|(apply zG<;>intro ht));all_goals try simp (disch:=first|omega|(simp only [lens,z7,z6,lQr,lQm,lQt,lQd,z8,zg,zi,zj];first|done|omega)) only [go_sem,z1,h64',k1,k2,c1,c2]))
      exact DownV.pure hw z16
     ·rw [decide_eq_true ⟨k2,o0.1 c1,c2⟩]
      repeat' (first|apply zs_|apply zb_|apply zc_|apply zt_ rfl|apply zf_ rfl|(apply zd_ rfl<;>intro ht<;>try omega)|((first|apply zr_|apply zk_|apply ze_|apply zq_|(apply callW.mk_pu;(first|exact(fun _=>hVa _)|exact(fun _=>hVb _)|exact(fun _=>hO _)))|(apply callW.za;(first|exact(hVa _)|exact(hVb _)|exact(hO _)))|(apply zG<;>intro ht));all_goals try simp (disch:=first|omega|(simp only [lens,z7,z6,lQr,lQm,lQt,lQd,z8,zg,zi,zj];first|done|omega)) only [go_sem,z1,h64',k1,k2,c1,c2]))
      exact DownV.pure hw z16
    ·rw [decide_eq_false (fun h=>c1 (o0.2 h.2.1))]
     repeat' (first|apply zs_|apply zb_|apply zc_|apply zt_ rfl|apply zf_ rfl|(apply zd_ rfl<;>intro ht<;>try omega)|((first|apply zr_|apply zk_|apply ze_|apply zq_|(apply callW.mk_pu;(first|exact(fun _=>hVa _)|exact(fun _=>hVb _)|exact(fun _=>hO _)))|(apply callW.za;(first|exact(hVa _)|exact(hVb _)|exact(hO _)))|(apply zG<;>intro ht));all_goals try simp (disch:=first|omega|(simp only [lens,z7,z6,lQr,lQm,lQt,lQd,z8,zg,zi,zj];first|done|omega)) only [go_sem,z1,h64',k1,k2,c1]))
     exact DownV.pure hw z16
   ·rw [decide_eq_false (fun h=>k2 h.1)]
    repeat' (first|apply zs_|apply zb_|apply zc_|apply zt_ rfl|apply zf_ rfl|(apply zd_ rfl<;>intro ht<;>try omega)|((first|apply zr_|apply zk_|apply ze_|apply zq_|(apply callW.mk_pu;(first|exact(fun _=>hVa _)|exact(fun _=>hVb _)|exact(fun _=>hO _)))|(apply callW.za;(first|exact(hVa _)|exact(hVb _)|exact(hO _)))|(apply zG<;>intro ht));all_goals try simp (disch:=first|omega|(simp only [lens,z7,z6,lQr,lQm,lQt,lQd,z8,zg,zi,zj];first|done|omega)) only [go_sem,z1,h64',k1,k2]))
    exact DownV.pure hw z16
 ·have h64':(e.p.length:Int)>64:=by omega
  rw [decide_eq_false h64]
  repeat' (first|apply zs_|apply zb_|apply zc_|apply zt_ rfl|apply zf_ rfl|(apply zd_ rfl<;>intro ht<;>try omega)|((first|apply zr_|apply zk_|apply ze_|apply zq_|(apply callW.mk_pu;(first|exact(fun _=>hVa _)|exact(fun _=>hVb _)))|(apply callW.za;(first|exact(hVa _)|exact(hVb _)))|(apply zG<;>intro ht));all_goals try simp (disch:=first|omega|(simp only [lens,z7,z6,lQr,lQm,lQt,lQd,z8,zg,zi,zj];first|done|omega)) only [go_sem,z1,h64']))
  exact DownV.pure hw z16
theorem zgi(O:Store)(e:Ev)(x y z:AV)(hx:RdSl O 32 (hr e.a.p) x)(hy:RdSl O 32 (hr e.b.p) y)(hz:RdSl O 32 (hr e.p) z):
  ACallsTo TC 38 [.agg (evX e x y z)] O (.bool (mayB e)) O:=by
 have hVa:=fun t=>zbz (O++t) e.a.n e.a.i e.a.r e.a.s e.a.p x hx.app
 have hVb:=fun t=>zbz (O++t) e.b.n e.b.i e.b.r e.b.s e.b.p y hy.app
 have z1:=hz.len
 rw [z6]at z1
 unfold z1c at z1
 have hm:mayB e=(z1t e.a.n e.a.i e.a.s e.a.p && z1t e.b.n e.b.i e.b.s e.b.p && decide (e.p.length<=64) && z5e e):=rfl
 rw [hm]
 generalize z1t e.a.n e.a.i e.a.s e.a.p=va at*
 generalize z1t e.b.n e.b.i e.b.s e.b.p=vb at*
 refine ACallsTo.of_body q2jok (by simp) fun hw _=> ?_
 cases va with
 |false=>
  repeat' (first|apply zs_|apply zb_|apply zc_|apply zt_ rfl|apply zf_ rfl|(apply zd_ rfl<;>intro ht<;>try omega)|((first|apply zr_|apply zk_|apply ze_|apply zq_|(apply callW.mk_pu;(first|exact(fun _=>hVa _)))|(apply callW.za;(first|exact(hVa _)))|(apply zG<;>intro ht));all_goals try simp (disch:=first|omega|(simp only [lens,z7,z6,lQr,lQm,lQt,lQd,z8,zg,zi,zj];first|done|omega)) only [go_sem,z1]))
  exact DownV.pure hw z16
 |true=>
 cases vb with
 |false=>
  repeat' (first|apply zs_|apply zb_|apply zc_|apply zt_ rfl|apply zf_ rfl|(apply zd_ rfl<;>intro ht<;>try omega)|((first|apply zr_|apply zk_|apply ze_|apply zq_|(apply callW.mk_pu;(first|exact(fun _=>hVa _)|exact(fun _=>hVb _)))|(apply callW.za;(first|exact(hVa _)|exact(hVb _)))|(apply zG<;>intro ht));all_goals try simp (disch:=first|omega|(simp only [lens,z7,z6,lQr,lQm,lQt,lQd,z8,zg,zi,zj];first|done|omega)) only [go_sem,z1]))
  exact DownV.pure hw z16
 |true=>
 rw [Bool.true_and,Bool.true_and]
 unfold z5e
 by_cases k1:e.k=1
 ·rw [if_pos k1]
  by_cases c0:e.a.n=e.b.n/\ e.a.r ≠ e.b.r/\ e.r=zeroH
  ·obtain⟨c1,c2,c3⟩:=c0
   by_cases c4:(e.p.length:Int)=0
   ·rw [decide_eq_true (p:=_/\ _) ⟨c1,c2,c3,zjn c4⟩,decide_eq_true (show e.p.length<=64 by omega),Bool.true_and]
    repeat' (first|apply zs_|apply zb_|apply zc_|apply zt_ rfl|apply zf_ rfl|(apply zd_ rfl<;>intro ht<;>try omega)|((first|apply zr_|apply zk_|apply ze_|apply zq_|(apply callW.mk_pu;(first|exact(fun _=>hVa _)|exact(fun _=>hVb _)))|(apply callW.za;(first|exact(hVa _)|exact(hVb _)))|(apply zG<;>intro ht));all_goals try simp (disch:=first|omega|(simp only [lens,z7,z6,lQr,lQm,lQt,lQd,z8,zg,zi,zj];first|done|omega)) only [go_sem]))
    refine zW.reg2 ?_ ?_
    all_goals
     simp (disch:=first|omega|(simp only [lens,z7,z6,lQr,lQm,lQt,lQd,z8,zg,zi,zj];first|done|omega)) only [go_sem,z1]
     repeat' (first|apply zs_|apply zb_|apply zc_|apply zt_ rfl|apply zf_ rfl|(apply zd_ rfl<;>intro ht<;>try omega)|((first|apply zr_|apply zk_|apply ze_|apply zq_|(apply zG<;>intro ht));all_goals try simp (disch:=first|omega|(simp only [lens,z7,z6,lQr,lQm,lQt,lQd,z8,zg,zi,zj];first|done|omega)) only [go_sem,z1,k1,c1,c2,c3,c4,<-z3z]))
     exact DownV.pure hw z16
   ·rw [decide_eq_false (p:=_/\ _) (fun h=>c4 (by rw [h.2.2.2];rfl)),Bool.and_false]
    repeat' (first|apply zs_|apply zb_|apply zc_|apply zt_ rfl|apply zf_ rfl|(apply zd_ rfl<;>intro ht<;>try omega)|((first|apply zr_|apply zk_|apply ze_|apply zq_|(apply callW.mk_pu;(first|exact(fun _=>hVa _)|exact(fun _=>hVb _)))|(apply callW.za;(first|exact(hVa _)|exact(hVb _)))|(apply zG<;>intro ht));all_goals try simp (disch:=first|omega|(simp only [lens,z7,z6,lQr,lQm,lQt,lQd,z8,zg,zi,zj];first|done|omega)) only [go_sem]))
    refine zW.reg2 ?_ ?_
    all_goals
     simp (disch:=first|omega|(simp only [lens,z7,z6,lQr,lQm,lQt,lQd,z8,zg,zi,zj];first|done|omega)) only [go_sem,z1]
     repeat' (first|apply zs_|apply zb_|apply zc_|apply zt_ rfl|apply zf_ rfl|(apply zd_ rfl<;>intro ht<;>try omega)|((first|apply zr_|apply zk_|apply ze_|apply zq_|(apply zG<;>intro ht));all_goals try simp (disch:=first|omega|(simp only [lens,z7,z6,lQr,lQm,lQt,lQd,z8,zg,zi,zj];first|done|omega)) only [go_sem,z1,k1,c1,c2,c3,c4,<-z3z]))
     exact DownV.pure hw z16
  ·rw [decide_eq_false (p:=_/\ _) (fun h=>c0 ⟨h.1,h.2.1,h.2.2.1⟩),Bool.and_false]
   repeat' (first|apply zs_|apply zb_|apply zc_|apply zt_ rfl|apply zf_ rfl|(apply zd_ rfl<;>intro ht<;>try omega)|((first|apply zr_|apply zk_|apply ze_|apply zq_|(apply callW.mk_pu;(first|exact(fun _=>hVa _)|exact(fun _=>hVb _)))|(apply callW.za;(first|exact(hVa _)|exact(hVb _)))|(apply zG<;>intro ht));all_goals try simp (disch:=first|omega|(simp only [lens,z7,z6,lQr,lQm,lQt,lQd,z8,zg,zi,zj];first|done|omega)) only [go_sem]))
   refine zW.reg2 ?_ ?_
   all_goals
    simp (disch:=first|omega|(simp only [lens,z7,z6,lQr,lQm,lQt,lQd,z8,zg,zi,zj];first|done|omega)) only [go_sem,z1]
    by_cases c1:e.a.n=e.b.n
    ·by_cases c2:e.a.r=e.b.r
     ·repeat' (first|apply zs_|apply zb_|apply zc_|apply zt_ rfl|apply zf_ rfl|(apply zd_ rfl<;>intro ht<;>try omega)|((first|apply zr_|apply zk_|apply ze_|apply zq_|(apply zG<;>intro ht));all_goals try simp (disch:=first|omega|(simp only [lens,z7,z6,lQr,lQm,lQt,lQd,z8,zg,zi,zj];first|done|omega)) only [go_sem,z1,k1,c1,c2,<-z3z]))
      exact DownV.pure hw z16
     ·have c3:¬e.r=zeroH:=fun h=>c0 ⟨c1,c2,h⟩
      repeat' (first|apply zs_|apply zb_|apply zc_|apply zt_ rfl|apply zf_ rfl|(apply zd_ rfl<;>intro ht<;>try omega)|((first|apply zr_|apply zk_|apply ze_|apply zq_|(apply zG<;>intro ht));all_goals try simp (disch:=first|omega|(simp only [lens,z7,z6,lQr,lQm,lQt,lQd,z8,zg,zi,zj];first|done|omega)) only [go_sem,z1,k1,c1,c2,c3,<-z3z]))
      exact DownV.pure hw z16
    ·repeat' (first|apply zs_|apply zb_|apply zc_|apply zt_ rfl|apply zf_ rfl|(apply zd_ rfl<;>intro ht<;>try omega)|((first|apply zr_|apply zk_|apply ze_|apply zq_|(apply zG<;>intro ht));all_goals try simp (disch:=first|omega|(simp only [lens,z7,z6,lQr,lQm,lQt,lQd,z8,zg,zi,zj];first|done|omega)) only [go_sem,z1,k1,c1,<-z3z]))
     exact DownV.pure hw z16
 ·rw [if_neg k1]
  by_cases k2:e.k=2
  ·by_cases c1:e.a.n<e.b.n
   ·by_cases c2:e.r=e.a.r
    ·rw [decide_eq_false (p:=_/\ _) (fun h=>h.2.2 c2),Bool.and_false]
     repeat' (first|apply zs_|apply zb_|apply zc_|apply zt_ rfl|apply zf_ rfl|(apply zd_ rfl<;>intro ht<;>try omega)|((first|apply zr_|apply zk_|apply ze_|apply zq_|(apply callW.mk_pu;(first|exact(fun _=>hVa _)|exact(fun _=>hVb _)))|(apply callW.za;(first|exact(hVa _)|exact(hVb _)))|(apply zG<;>intro ht));all_goals try simp (disch:=first|omega|(simp only [lens,z7,z6,lQr,lQm,lQt,lQd,z8,zg,zi,zj];first|done|omega)) only [go_sem]))
     refine zW.reg2 ?_ ?_
     all_goals
      simp (disch:=first|omega|(simp only [lens,z7,z6,lQr,lQm,lQt,lQd,z8,zg,zi,zj];first|done|omega)) only [go_sem,z1]
      repeat' (first|apply zs_|apply zb_|apply zc_|apply zt_ rfl|apply zf_ rfl|(apply zd_ rfl<;>intro ht<;>try omega)|((first|apply zr_|apply zk_|apply ze_|apply zq_|(apply zG<;>intro ht));all_goals try simp (disch:=first|omega|(simp only [lens,z7,z6,lQr,lQm,lQt,lQd,z8,zg,zi,zj];first|done|omega)) only [go_sem,z1,k1,k2,c1,c2]))
      exact DownV.pure hw z16
    ·rw [decide_eq_true (p:=_/\ _) ⟨k2,c1,c2⟩,Bool.and_true]
     by_cases h64:e.p.length<=64
     ·have h64':(e.p.length:Int)<=64:=by omega
      rw [decide_eq_true h64]
      repeat' (first|apply zs_|apply zb_|apply zc_|apply zt_ rfl|apply zf_ rfl|(apply zd_ rfl<;>intro ht<;>try omega)|((first|apply zr_|apply zk_|apply ze_|apply zq_|(apply callW.mk_pu;(first|exact(fun _=>hVa _)|exact(fun _=>hVb _)))|(apply callW.za;(first|exact(hVa _)|exact(hVb _)))|(apply zG<;>intro ht));all_goals try simp (disch:=first|omega|(simp only [lens,z7,z6,lQr,lQm,lQt,lQd,z8,zg,zi,zj];first|done|omega)) only [go_sem]))
      refine zW.reg2 ?_ ?_
      all_goals
       simp (disch:=first|omega|(simp only [lens,z7,z6,lQr,lQm,lQt,lQd,z8,zg,zi,zj];first|done|omega)) only [go_sem,z1]
       repeat' (first|apply zs_|apply zb_|apply zc_|apply zt_ rfl|apply zf_ rfl|(apply zd_ rfl<;>intro ht<;>try omega)|((first|apply zr_|apply zk_|apply ze_|apply zq_|(apply zG<;>intro ht));all_goals try simp (disch:=first|omega|(simp only [lens,z7,z6,lQr,lQm,lQt,lQd,z8,zg,zi,zj];first|done|omega)) only [go_sem,z1,k1,k2,c1,c2,h64']))
       exact DownV.pure hw z16
     ·have h64':¬(e.p.length:Int)<=64:=by omega
      rw [decide_eq_false h64]
      repeat' (first|apply zs_|apply zb_|apply zc_|apply zt_ rfl|apply zf_ rfl|(apply zd_ rfl<;>intro ht<;>try omega)|((first|apply zr_|apply zk_|apply ze_|apply zq_|(apply callW.mk_pu;(first|exact(fun _=>hVa _)|exact(fun _=>hVb _)))|(apply callW.za;(first|exact(hVa _)|exact(hVb _)))|(apply zG<;>intro ht));all_goals try simp (disch:=first|omega|(simp only [lens,z7,z6,lQr,lQm,lQt,lQd,z8,zg,zi,zj];first|done|omega)) only [go_sem]))
      refine zW.reg2 ?_ ?_
      all_goals
       simp (disch:=first|omega|(simp only [lens,z7,z6,lQr,lQm,lQt,lQd,z8,zg,zi,zj];first|done|omega)) only [go_sem,z1]
       repeat' (first|apply zs_|apply zb_|apply zc_|apply zt_ rfl|apply zf_ rfl|(apply zd_ rfl<;>intro ht<;>try omega)|((first|apply zr_|apply zk_|apply ze_|apply zq_|(apply zG<;>intro ht));all_goals try simp (disch:=first|omega|(simp only [lens,z7,z6,lQr,lQm,lQt,lQd,z8,zg,zi,zj];first|done|omega)) only [go_sem,z1,k1,k2,c1,c2,h64']))
       exact DownV.pure hw z16
   ·rw [decide_eq_false (p:=_/\ _) (fun h=>c1 h.2.1),Bool.and_false]
    repeat' (first|apply zs_|apply zb_|apply zc_|apply zt_ rfl|apply zf_ rfl|(apply zd_ rfl<;>intro ht<;>try omega)|((first|apply zr_|apply zk_|apply ze_|apply zq_|(apply callW.mk_pu;(first|exact(fun _=>hVa _)|exact(fun _=>hVb _)))|(apply callW.za;(first|exact(hVa _)|exact(hVb _)))|(apply zG<;>intro ht));all_goals try simp (disch:=first|omega|(simp only [lens,z7,z6,lQr,lQm,lQt,lQd,z8,zg,zi,zj];first|done|omega)) only [go_sem]))
    refine zW.reg2 ?_ ?_
    all_goals
     simp (disch:=first|omega|(simp only [lens,z7,z6,lQr,lQm,lQt,lQd,z8,zg,zi,zj];first|done|omega)) only [go_sem,z1]
     repeat' (first|apply zs_|apply zb_|apply zc_|apply zt_ rfl|apply zf_ rfl|(apply zd_ rfl<;>intro ht<;>try omega)|((first|apply zr_|apply zk_|apply ze_|apply zq_|(apply zG<;>intro ht));all_goals try simp (disch:=first|omega|(simp only [lens,z7,z6,lQr,lQm,lQt,lQd,z8,zg,zi,zj];first|done|omega)) only [go_sem,z1,k1,k2,c1]))
     exact DownV.pure hw z16
  ·rw [decide_eq_false (p:=_/\ _) (fun h=>k2 h.1),Bool.and_false]
   repeat' (first|apply zs_|apply zb_|apply zc_|apply zt_ rfl|apply zf_ rfl|(apply zd_ rfl<;>intro ht<;>try omega)|((first|apply zr_|apply zk_|apply ze_|apply zq_|(apply callW.mk_pu;(first|exact(fun _=>hVa _)|exact(fun _=>hVb _)))|(apply callW.za;(first|exact(hVa _)|exact(hVb _)))|(apply zG<;>intro ht));all_goals try simp (disch:=first|omega|(simp only [lens,z7,z6,lQr,lQm,lQt,lQd,z8,zg,zi,zj];first|done|omega)) only [go_sem]))
   refine zW.reg2 ?_ ?_
   all_goals
    simp (disch:=first|omega|(simp only [lens,z7,z6,lQr,lQm,lQt,lQd,z8,zg,zi,zj];first|done|omega)) only [go_sem,z1]
    repeat' (first|apply zs_|apply zb_|apply zc_|apply zt_ rfl|apply zf_ rfl|(apply zd_ rfl<;>intro ht<;>try omega)|((first|apply zr_|apply zk_|apply ze_|apply zq_|(apply zG<;>intro ht));all_goals try simp (disch:=first|omega|(simp only [lens,z7,z6,lQr,lQm,lQt,lQd,z8,zg,zi,zj];first|done|omega)) only [go_sem,z1,k1,k2]))
    exact DownV.pure hw z16
end
section
def z3x(key:Hash)(e:Ev):Int:=
 if mayB e=false then 2 else if z3h key e.a.n e.a.i e.a.r e.a.s e.a.p ≠ 0 \/z3h key e.b.n e.b.i e.b.r e.b.s e.b.p ≠ 0 then 81 else if e.k=2/\ chkH e.a.n e.b.n e.r e.b.r e.p ≠ 0 then 80 else 0
def z8l(e:Ev):AV:=if mayB e=true then .tup [.str (z55 e),.int .i64 0]else .tup [.str [],.int .i64 2]
def z7o(e f:Ev):Bool:=decide (e.k=f.k) && z47 e.a.n f.a.n e.a.i f.a.i e.a.r f.a.r e.a.s f.a.s e.a.p f.a.p && z47 e.b.n f.b.n e.b.i f.b.i e.b.r f.b.r e.b.s f.b.s e.b.p f.b.p && decide (e.r=f.r) && decide (e.p=f.p)
def EvOk(e:Ev):Prop:=e.a.p.length<1000000/\ e.b.p.length<1000000/\ e.p.length<1000000
theorem zbx{h:Hdr}(hv:valH h=true):putV h.n h.i h.r h.s h.p=.tup [.str (z2o h),.int .i64 0]:=by
 unfold putV
 rw [if_pos (show z1t h.n h.i h.s h.p=true from hv)]
 rfl
theorem rlS2{n:Nat}(s:List UInt8)(k:Int):RL n (.tup [.str s,.int .i64 k]):=by simp [RL,RLs]
attribute [local irreducible] ACallsTo ACallsP
theorem zd3(O:Store)(key:Hash)(e:Ev)(x y z:AV)(hx:RdSl O 32 (hr e.a.p) x)(hy:RdSl O 32 (hr e.b.p) y)(hz:RdSl O 32 (hr e.p) z)(hl:EvOk e):
  ACallsTo TC 11 [.agg (hc key),.agg (evX e x y z)] O (.int .i64 (z3x key e)) O:=by
 have hS:=fun t=>zlb (O++t) e x y z hx.app hy.app hz.app
 have hA:=fun t=>zgc (O++t) key e.a.n e.a.i e.a.r e.a.s e.a.p x hx.app
 have hB:=fun t=>zgc (O++t) key e.b.n e.b.i e.b.r e.b.s e.b.p y hy.app
 have hP:=fun t=>zsw (O++t) e.a.n e.b.n e.r e.b.r z e.p hz.app hl.2.2
 unfold z3x
 generalize z3h key e.a.n e.a.i e.a.r e.a.s e.a.p=ca at*
 generalize z3h key e.b.n e.b.i e.b.r e.b.s e.b.p=cb at*
 generalize chkH e.a.n e.b.n e.r e.b.r e.p=cp at*
 generalize mayB e=mb at*
 refine ACallsTo.of_body q2eok (by simp) fun hw _=> ?_
 repeat' (first|apply zs_|apply zb_|apply zc_|apply zt_ rfl|apply zf_ rfl|(apply zd_ rfl<;>intro ht<;>try omega)|((first|apply zr_|apply zk_|apply ze_|apply zq_|(apply zG<;>intro ht));all_goals try simp (disch:=first|omega|(simp only [lens,z7,z6,lQr,lQm,lQt,lQd,z8,zg,zi,zj];first|done|omega)) only [go_sem]))
 refine zW.reg2 ?_ ?_
 all_goals
  simp (disch:=first|omega|(simp only [lens,z7,z6,lQr,lQm,lQt,lQd,z8,zg,zi,zj];first|done|omega)) only [go_sem]
  cases mb with
  |false=>
   repeat' (first|apply zs_|apply zb_|apply zc_|apply zt_ rfl|apply zf_ rfl|(apply zd_ rfl<;>intro ht<;>try omega)|((first|apply zr_|apply zk_|apply ze_|apply zq_|(apply callW.mk_pu;(first|exact(fun _=>hS _)))|(apply callW.za;(first|exact(hS _)))|(apply zG<;>intro ht));all_goals try simp (disch:=first|omega|(simp only [lens,z7,z6,lQr,lQm,lQt,lQd,z8,zg,zi,zj];first|done|omega)) only [go_sem]))
   exact DownV.pure hw z2k
  |true=>
   rw [if_neg (by simp)]
   by_cases h1:ca=0
   ·by_cases h2:cb=0
    ·rw [if_neg (by omega)]
     by_cases k2:e.k=2
     ·by_cases h3:cp=0
      ·rw [if_neg (by omega)]
       repeat' (first|apply zs_|apply zb_|apply zc_|apply zt_ rfl|apply zf_ rfl|(apply zd_ rfl<;>intro ht<;>try omega)|((first|apply zr_|apply zk_|apply ze_|apply zq_|(apply callW.mk_pu;(first|exact(fun _=>hS _)|exact(fun _=>hA _)|exact(fun _=>hB _)|exact(fun _=>hP _)))|(apply callW.za;(first|exact(hS _)|exact(hA _)|exact(hB _)|exact(hP _)))|(apply zG<;>intro ht));all_goals try simp (disch:=first|omega|(simp only [lens,z7,z6,lQr,lQm,lQt,lQd,z8,zg,zi,zj];first|done|omega)) only [go_sem,h1,h2,k2,h3]))
       exact DownV.pure hw z2k
      ·rw [if_pos ⟨k2,h3⟩]
       repeat' (first|apply zs_|apply zb_|apply zc_|apply zt_ rfl|apply zf_ rfl|(apply zd_ rfl<;>intro ht<;>try omega)|((first|apply zr_|apply zk_|apply ze_|apply zq_|(apply callW.mk_pu;(first|exact(fun _=>hS _)|exact(fun _=>hA _)|exact(fun _=>hB _)|exact(fun _=>hP _)))|(apply callW.za;(first|exact(hS _)|exact(hA _)|exact(hB _)|exact(hP _)))|(apply zG<;>intro ht));all_goals try simp (disch:=first|omega|(simp only [lens,z7,z6,lQr,lQm,lQt,lQd,z8,zg,zi,zj];first|done|omega)) only [go_sem,h1,h2,k2,h3]))
       exact DownV.pure hw z2k
     ·rw [if_neg (by omega)]
      repeat' (first|apply zs_|apply zb_|apply zc_|apply zt_ rfl|apply zf_ rfl|(apply zd_ rfl<;>intro ht<;>try omega)|((first|apply zr_|apply zk_|apply ze_|apply zq_|(apply callW.mk_pu;(first|exact(fun _=>hS _)|exact(fun _=>hA _)|exact(fun _=>hB _)|exact(fun _=>hP _)))|(apply callW.za;(first|exact(hS _)|exact(hA _)|exact(hB _)|exact(hP _)))|(apply zG<;>intro ht));all_goals try simp (disch:=first|omega|(simp only [lens,z7,z6,lQr,lQm,lQt,lQd,z8,zg,zi,zj];first|done|omega)) only [go_sem,h1,h2,k2]))
      exact DownV.pure hw z2k
    ·rw [if_pos (.inr h2)]
     repeat' (first|apply zs_|apply zb_|apply zc_|apply zt_ rfl|apply zf_ rfl|(apply zd_ rfl<;>intro ht<;>try omega)|((first|apply zr_|apply zk_|apply ze_|apply zq_|(apply callW.mk_pu;(first|exact(fun _=>hS _)|exact(fun _=>hA _)|exact(fun _=>hB _)))|(apply callW.za;(first|exact(hS _)|exact(hA _)|exact(hB _)))|(apply zG<;>intro ht));all_goals try simp (disch:=first|omega|(simp only [lens,z7,z6,lQr,lQm,lQt,lQd,z8,zg,zi,zj];first|done|omega)) only [go_sem,h1,h2]))
     exact DownV.pure hw z2k
   ·rw [if_pos (.inl h1)]
    repeat' (first|apply zs_|apply zb_|apply zc_|apply zt_ rfl|apply zf_ rfl|(apply zd_ rfl<;>intro ht<;>try omega)|((first|apply zr_|apply zk_|apply ze_|apply zq_|(apply callW.mk_pu;(first|exact(fun _=>hS _)|exact(fun _=>hA _)))|(apply callW.za;(first|exact(hS _)|exact(hA _)))|(apply zG<;>intro ht));all_goals try simp (disch:=first|omega|(simp only [lens,z7,z6,lQr,lQm,lQt,lQd,z8,zg,zi,zj];first|done|omega)) only [go_sem,h1]))
    exact DownV.pure hw z2k
theorem zte(O:Store)(key:Hash)(e:Ev)(x y z:AV)(hx:RdSl O 32 (hr e.a.p) x)(hy:RdSl O 32 (hr e.b.p) y)(hz:RdSl O 32 (hr e.p) z)(hl:EvOk e):
  ACallsTo TC 12 [.agg (hc key),.agg (evX e x y z)] O (.int .i64 (z3x key e)) O:=by
 have hS:=fun t=>zgi (O++t) e x y z hx.app hy.app hz.app
 have hA:=fun t=>zkc (O++t) key e.a.n e.a.i e.a.r e.a.s e.a.p x hx.app
 have hB:=fun t=>zkc (O++t) key e.b.n e.b.i e.b.r e.b.s e.b.p y hy.app
 have hP:=fun t=>zt0 (O++t) e.a.n e.b.n e.r e.b.r z e.p hz.app hl.2.2
 unfold z3x
 generalize z3h key e.a.n e.a.i e.a.r e.a.s e.a.p=ca at*
 generalize z3h key e.b.n e.b.i e.b.r e.b.s e.b.p=cb at*
 generalize chkH e.a.n e.b.n e.r e.b.r e.p=cp at*
 generalize mayB e=mb at*
 refine ACallsTo.of_body q2fok (by simp) fun hw _=> ?_
 cases mb with
 |false=>
  repeat' (first|apply zs_|apply zb_|apply zc_|apply zt_ rfl|apply zf_ rfl|(apply zd_ rfl<;>intro ht<;>try omega)|((first|apply zr_|apply zk_|apply ze_|apply zq_|(apply callW.mk_pu;(first|exact(fun _=>hS _)))|(apply callW.za;(first|exact(hS _)))|(apply zG<;>intro ht));all_goals try simp (disch:=first|omega|(simp only [lens,z7,z6,lQr,lQm,lQt,lQd,z8,zg,zi,zj];first|done|omega)) only [go_sem]))
  exact DownV.pure hw z2k
 |true=>
  rw [if_neg (by simp)]
  by_cases h1:ca=0
  ·by_cases h2:cb=0
   ·rw [if_neg (by omega)]
    by_cases k2:e.k=2
    ·by_cases h3:cp=0
     ·rw [if_neg (by omega)]
      repeat' (first|apply zs_|apply zb_|apply zc_|apply zt_ rfl|apply zf_ rfl|(apply zd_ rfl<;>intro ht<;>try omega)|((first|apply zr_|apply zk_|apply ze_|apply zq_|(apply callW.mk_pu;(first|exact(fun _=>hS _)|exact(fun _=>hA _)|exact(fun _=>hB _)|exact(fun _=>hP _)))|(apply callW.za;(first|exact(hS _)|exact(hA _)|exact(hB _)|exact(hP _)))|(apply zG<;>intro ht));all_goals try simp (disch:=first|omega|(simp only [lens,z7,z6,lQr,lQm,lQt,lQd,z8,zg,zi,zj];first|done|omega)) only [go_sem,h1,h2,k2,h3]))
      exact DownV.pure hw z2k
     ·rw [if_pos ⟨k2,h3⟩]
      repeat' (first|apply zs_|apply zb_|apply zc_|apply zt_ rfl|apply zf_ rfl|(apply zd_ rfl<;>intro ht<;>try omega)|((first|apply zr_|apply zk_|apply ze_|apply zq_|(apply callW.mk_pu;(first|exact(fun _=>hS _)|exact(fun _=>hA _)|exact(fun _=>hB _)|exact(fun _=>hP _)))|(apply callW.za;(first|exact(hS _)|exact(hA _)|exact(hB _)|exact(hP _)))|(apply zG<;>intro ht));all_goals try simp (disch:=first|omega|(simp only [lens,z7,z6,lQr,lQm,lQt,lQd,z8,zg,zi,zj];first|done|omega)) only [go_sem,h1,h2,k2,h3]))
      exact DownV.pure hw z2k
    ·rw [if_neg (by omega)]
     repeat' (first|apply zs_|apply zb_|apply zc_|apply zt_ rfl|apply zf_ rfl|(apply zd_ rfl<;>intro ht<;>try omega)|((first|apply zr_|apply zk_|apply ze_|apply zq_|(apply callW.mk_pu;(first|exact(fun _=>hS _)|exact(fun _=>hA _)|exact(fun _=>hB _)|exact(fun _=>hP _)))|(apply callW.za;(first|exact(hS _)|exact(hA _)|exact(hB _)|exact(hP _)))|(apply zG<;>intro ht));all_goals try simp (disch:=first|omega|(simp only [lens,z7,z6,lQr,lQm,lQt,lQd,z8,zg,zi,zj];first|done|omega)) only [go_sem,h1,h2,k2]))
     exact DownV.pure hw z2k
   ·rw [if_pos (.inr h2)]
    repeat' (first|apply zs_|apply zb_|apply zc_|apply zt_ rfl|apply zf_ rfl|(apply zd_ rfl<;>intro ht<;>try omega)|((first|apply zr_|apply zk_|apply ze_|apply zq_|(apply callW.mk_pu;(first|exact(fun _=>hS _)|exact(fun _=>hA _)|exact(fun _=>hB _)))|(apply callW.za;(first|exact(hS _)|exact(hA _)|exact(hB _)))|(apply zG<;>intro ht));all_goals try simp (disch:=first|omega|(simp only [lens,z7,z6,lQr,lQm,lQt,lQd,z8,zg,zi,zj];first|done|omega)) only [go_sem,h1,h2]))
    exact DownV.pure hw z2k
  ·rw [if_pos (.inl h1)]
   repeat' (first|apply zs_|apply zb_|apply zc_|apply zt_ rfl|apply zf_ rfl|(apply zd_ rfl<;>intro ht<;>try omega)|((first|apply zr_|apply zk_|apply ze_|apply zq_|(apply callW.mk_pu;(first|exact(fun _=>hS _)|exact(fun _=>hA _)))|(apply callW.za;(first|exact(hS _)|exact(hA _)))|(apply zG<;>intro ht));all_goals try simp (disch:=first|omega|(simp only [lens,z7,z6,lQr,lQm,lQt,lQd,z8,zg,zi,zj];first|done|omega)) only [go_sem,h1]))
   exact DownV.pure hw z2k
end
section
theorem zcn{h:Hdr}(hv:valH h=true):(z1s (z2o h)).length<2000000:=by
 have h1:=zab hv
 have h2:=z2m (z2o h).length
 unfold z1s
 rw [List.length_append];omega
attribute [local irreducible] ACallsTo ACallsP
theorem zmj(O:Store)(e:Ev)(x y z:AV)(hx:RdSl O 32 (hr e.a.p) x)(hy:RdSl O 32 (hr e.b.p) y)(hz:RdSl O 32 (hr e.p) z)(hl:EvOk e):
  ACallsTo TC 9 [.agg (evX e x y z)] O (z8l e) O:=by
 have hS:=fun t=>zlb (O++t) e x y z hx.app hy.app hz.app
 refine ACallsTo.of_body q2cok (by simp) fun hw _=> ?_
 unfold z8l
 by_cases hm:mayB e=true
 ·obtain⟨va,vb,h64,hk⟩:=zjf hm
  rw [if_pos hm]
  rw [hm]at hS
  have hA:=fun t=>zgn (O++t) e.a.n e.a.i e.a.r e.a.s e.a.p x hx.app
  have hB:=fun t=>zgn (O++t) e.b.n e.b.i e.b.r e.b.s e.b.p y hy.app
  rw [zbx va]at hA
  rw [zbx vb]at hB
  have hTa:=fun O=>zbg O (z2o e.a) (by have:=zab va;omega)
  have hTb:=fun O=>zbg O (z2o e.b) (by have:=zab vb;omega)
  have hH:=fun O=>z5a O e.r
  have hHs:=fun t=>zhr (O++t) e.p z hz.app hl.2.2
  have b1:=zcn va
  have b2:=zcn vb
  have b3:=z2m 1
  have b4:=z2m 2
  have b5:=e.r.2
  have b6:=za2 (l:=e.p)
  rcases zj4 hk with⟨k1,_,_⟩|k2
  ·have hN:∀O,ACallsTo TC 34 [.int .u64 1] O (.str (numS 1)) O:=fun O=>z8i O 1 (by omega)
   have he:z55 e=numS 1++z1s (z2o e.a)++z1s (z2o e.b):=by
    unfold z55
    rw [k1,if_neg (by omega)];simp
   rw [he]
   repeat' (first|apply zs_|apply zb_|apply zc_|apply zt_ rfl|apply zf_ rfl|(apply zd_ rfl<;>intro ht<;>try omega)|((first|apply zr_|apply zk_|apply ze_|apply zq_|(apply callW.mk_pu;(first|exact(fun _=>hS _)|exact(fun _=>hA _)|exact(fun _=>hB _)|exact(fun _=>hN _)|exact(fun _=>hTa _)|exact(fun _=>hTb _)))|(apply callW.za;(first|exact(hS _)|exact(hA _)|exact(hB _)|exact(hN _)|exact(hTa _)|exact(hTb _)))|(apply zG<;>intro ht));all_goals try simp (disch:=first|omega|(simp only [lens,z7,z6,lQr,lQm,lQt,lQd,z8,zg,zi,zj];first|done|omega)) only [go_sem,k1]))
   exact DownV.pure hw (rlS2 _ _)
  ·have hN:∀O,ACallsTo TC 34 [.int .u64 2] O (.str (numS 2)) O:=fun O=>z8i O 2 (by omega)
   have he:z55 e=numS 2++z1s (z2o e.a)++z1s (z2o e.b)++(e.r.1++z2u e.p):=by
    unfold z55
    rw [k2,if_pos (by omega)];simp
   rw [he]
   repeat' (first|apply zs_|apply zb_|apply zc_|apply zt_ rfl|apply zf_ rfl|(apply zd_ rfl<;>intro ht<;>try omega)|((first|apply zr_|apply zk_|apply ze_|apply zq_|(apply callW.mk_pu;(first|exact(fun _=>hS _)|exact(fun _=>hA _)|exact(fun _=>hB _)|exact(fun _=>hN _)|exact(fun _=>hTa _)|exact(fun _=>hTb _)|exact(fun _=>hH _)|exact(fun _=>hHs _)))|(apply callW.za;(first|exact(hS _)|exact(hA _)|exact(hB _)|exact(hN _)|exact(hTa _)|exact(hTb _)|exact(hH _)|exact(hHs _)))|(apply zG<;>intro ht));all_goals try simp (disch:=first|omega|(simp only [lens,z7,z6,lQr,lQm,lQt,lQd,z8,zg,zi,zj];first|done|omega)) only [go_sem,k2]))
   exact DownV.pure hw (rlS2 _ _)
 ·rw [if_neg hm]
  rw [show mayB e=false by simpa using hm]at hS
  repeat' (first|apply zs_|apply zb_|apply zc_|apply zt_ rfl|apply zf_ rfl|(apply zd_ rfl<;>intro ht<;>try omega)|((first|apply zr_|apply zk_|apply ze_|apply zq_|(apply callW.mk_pu;(first|exact(fun _=>hS _)))|(apply callW.za;(first|exact(hS _)))|(apply zG<;>intro ht));all_goals try simp (disch:=first|omega|(simp only [lens,z7,z6,lQr,lQm,lQt,lQd,z8,zg,zi,zj];first|done|omega)) only [go_sem]))
  exact DownV.pure hw (rlS2 _ _)
theorem ztf(O:Store)(e:Ev)(x y z:AV)(hx:RdSl O 32 (hr e.a.p) x)(hy:RdSl O 32 (hr e.b.p) y)(hz:RdSl O 32 (hr e.p) z)(hl:EvOk e):
  ACallsTo TC 10 [.agg (evX e x y z)] O (z8l e) O:=by
 have hS:=fun t=>zgi (O++t) e x y z hx.app hy.app hz.app
 refine ACallsTo.of_body q2dok (by simp) fun hw _=> ?_
 unfold z8l
 by_cases hm:mayB e=true
 ·obtain⟨va,vb,h64,hk⟩:=zjf hm
  rw [if_pos hm]
  rw [hm]at hS
  have hA:=fun t=>zkf (O++t) e.a.n e.a.i e.a.r e.a.s e.a.p x hx.app
  have hB:=fun t=>zkf (O++t) e.b.n e.b.i e.b.r e.b.s e.b.p y hy.app
  rw [zbx va]at hA
  rw [zbx vb]at hB
  have hTa:=fun O=>zew O (z2o e.a) (by have:=zab va;omega)
  have hTb:=fun O=>zew O (z2o e.b) (by have:=zab vb;omega)
  have hH:=fun O=>zkg O e.r
  have hHs:=fun t=>zke (O++t) e.p z hz.app hl.2.2
  have b1:=zcn va
  have b2:=zcn vb
  have b3:=z2m 1
  have b4:=z2m 2
  have b5:=e.r.2
  have b6:=za2 (l:=e.p)
  rcases zj4 hk with⟨k1,_,_⟩|k2
  ·have hN:∀O,ACallsTo TC 40 [.int .u64 1] O (.str (numS 1)) O:=fun O=>z8w O 1 (by omega)
   have he:z55 e=numS 1++z1s (z2o e.a)++z1s (z2o e.b):=by
    unfold z55
    rw [k1,if_neg (by omega)];simp
   rw [he]
   repeat' (first|apply zs_|apply zb_|apply zc_|apply zt_ rfl|apply zf_ rfl|(apply zd_ rfl<;>intro ht<;>try omega)|((first|apply zr_|apply zk_|apply ze_|apply zq_|(apply callW.mk_pu;(first|exact(fun _=>hS _)|exact(fun _=>hA _)|exact(fun _=>hB _)|exact(fun _=>hN _)|exact(fun _=>hTa _)|exact(fun _=>hTb _)))|(apply callW.za;(first|exact(hS _)|exact(hA _)|exact(hB _)|exact(hN _)|exact(hTa _)|exact(hTb _)))|(apply zG<;>intro ht));all_goals try simp (disch:=first|omega|(simp only [lens,z7,z6,lQr,lQm,lQt,lQd,z8,zg,zi,zj];first|done|omega)) only [go_sem,k1]))
   exact DownV.pure hw (rlS2 _ _)
  ·have hN:∀O,ACallsTo TC 40 [.int .u64 2] O (.str (numS 2)) O:=fun O=>z8w O 2 (by omega)
   have he:z55 e=numS 2++z1s (z2o e.a)++z1s (z2o e.b)++e.r.1++z2u e.p:=by
    unfold z55
    rw [k2,if_pos (by omega)];simp
   rw [he]
   repeat' (first|apply zs_|apply zb_|apply zc_|apply zt_ rfl|apply zf_ rfl|(apply zd_ rfl<;>intro ht<;>try omega)|((first|apply zr_|apply zk_|apply ze_|apply zq_|(apply callW.mk_pu;(first|exact(fun _=>hS _)|exact(fun _=>hA _)|exact(fun _=>hB _)|exact(fun _=>hN _)|exact(fun _=>hTa _)|exact(fun _=>hTb _)|exact(fun _=>hH _)|exact(fun _=>hHs _)))|(apply callW.za;(first|exact(hS _)|exact(hA _)|exact(hB _)|exact(hN _)|exact(hTa _)|exact(hTb _)|exact(hH _)|exact(hHs _)))|(apply zG<;>intro ht));all_goals try simp (disch:=first|omega|(simp only [lens,z7,z6,lQr,lQm,lQt,lQd,z8,zg,zi,zj];first|done|omega)) only [go_sem,k2]))
   exact DownV.pure hw (rlS2 _ _)
 ·rw [if_neg hm]
  rw [show mayB e=false by simpa using hm]at hS
  repeat' (first|apply zs_|apply zb_|apply zc_|apply zt_ rfl|apply zf_ rfl|(apply zd_ rfl<;>intro ht<;>try omega)|((first|apply zr_|apply zk_|apply ze_|apply zq_|(apply callW.mk_pu;(first|exact(fun _=>hS _)))|(apply callW.za;(first|exact(hS _)))|(apply zG<;>intro ht));all_goals try simp (disch:=first|omega|(simp only [lens,z7,z6,lQr,lQm,lQt,lQd,z8,zg,zi,zj];first|done|omega)) only [go_sem]))
  exact DownV.pure hw (rlS2 _ _)
end
section
attribute [local irreducible] ACallsTo ACallsP
theorem zg8(O:Store)(e f:Ev)(x y z x2 y2 z2:AV)(hx:RdSl O 32 (hr e.a.p) x)(hy:RdSl O 32 (hr e.b.p) y)(hz:RdSl O 32 (hr e.p) z)(hl:EvOk e)
  (hx2:RdSl O 32 (hr f.a.p) x2) (hy2:RdSl O 32 (hr f.b.p) y2) (hz2:RdSl O 32 (hr f.p) z2) (hl2:EvOk f):
  ACallsTo TC 13 [.agg (evX e x y z),.agg (evX f x2 y2 z2)] O (.bool (z7o e f)) O:=by
 have hA:=fun t=>zgf (O++t) e.a.n f.a.n e.a.i f.a.i e.a.r f.a.r e.a.s f.a.s e.a.p f.a.p x x2 hx.app hx2.app hl.1 hl2.1
 have hB:=fun t=>zgf (O++t) e.b.n f.b.n e.b.i f.b.i e.b.r f.b.r e.b.s f.b.s e.b.p f.b.p y y2 hy.app hy2.app hl.2.1 hl2.2.1
 have hE:=fun t=>zga (O++t) e.p f.p z z2 hz.app hz2.app (by have:=hl.2.2;omega) (by have:=hl2.2.2;omega)
 unfold z7o
 generalize z47 e.a.n f.a.n e.a.i f.a.i e.a.r f.a.r e.a.s f.a.s e.a.p f.a.p=ba at*
 generalize z47 e.b.n f.b.n e.b.i f.b.i e.b.r f.b.r e.b.s f.b.s e.b.p f.b.p=bb at*
 generalize decide (e.p=f.p)=bp at*
 refine ACallsTo.of_body q2gok (by simp) fun hw _=> ?_
 by_cases h1:e.k=f.k
 ·rw [decide_eq_true h1]
  cases ba with
  |false=>
   repeat' (first|apply zs_|apply zb_|apply zc_|apply zt_ rfl|apply zf_ rfl|(apply zd_ rfl<;>intro ht<;>try omega)|((first|apply zr_|apply zk_|apply ze_|apply zq_|(apply callW.mk_pu;(first|exact(fun _=>hA _)))|(apply callW.za;(first|exact(hA _)))|(apply zG<;>intro ht));all_goals try simp (disch:=first|omega|(simp only [lens,z7,z6,lQr,lQm,lQt,lQd,z8,zg,zi,zj];first|done|omega)) only [go_sem,h1]))
   exact DownV.pure hw z16
  |true=>
  cases bb with
  |false=>
   repeat' (first|apply zs_|apply zb_|apply zc_|apply zt_ rfl|apply zf_ rfl|(apply zd_ rfl<;>intro ht<;>try omega)|((first|apply zr_|apply zk_|apply ze_|apply zq_|(apply callW.mk_pu;(first|exact(fun _=>hA _)|exact(fun _=>hB _)))|(apply callW.za;(first|exact(hA _)|exact(hB _)))|(apply zG<;>intro ht));all_goals try simp (disch:=first|omega|(simp only [lens,z7,z6,lQr,lQm,lQt,lQd,z8,zg,zi,zj];first|done|omega)) only [go_sem,h1]))
   exact DownV.pure hw z16
  |true=>
  by_cases h2:e.r=f.r
  ·rw [decide_eq_true h2]
   repeat' (first|apply zs_|apply zb_|apply zc_|apply zt_ rfl|apply zf_ rfl|(apply zd_ rfl<;>intro ht<;>try omega)|((first|apply zr_|apply zk_|apply ze_|apply zq_|(apply callW.mk_pu;(first|exact(fun _=>hA _)|exact(fun _=>hB _)|exact(fun _=>hE _)))|(apply callW.za;(first|exact(hA _)|exact(hB _)|exact(hE _)))|(apply zG<;>intro ht));all_goals try simp (disch:=first|omega|(simp only [lens,z7,z6,lQr,lQm,lQt,lQd,z8,zg,zi,zj];first|done|omega)) only [go_sem,h1,h2]))
   exact DownV.pure hw z16
  ·rw [decide_eq_false h2]
   repeat' (first|apply zs_|apply zb_|apply zc_|apply zt_ rfl|apply zf_ rfl|(apply zd_ rfl<;>intro ht<;>try omega)|((first|apply zr_|apply zk_|apply ze_|apply zq_|(apply callW.mk_pu;(first|exact(fun _=>hA _)|exact(fun _=>hB _)))|(apply callW.za;(first|exact(hA _)|exact(hB _)))|(apply zG<;>intro ht));all_goals try simp (disch:=first|omega|(simp only [lens,z7,z6,lQr,lQm,lQt,lQd,z8,zg,zi,zj];first|done|omega)) only [go_sem,h1,h2]))
   exact DownV.pure hw z16
 ·rw [decide_eq_false h1]
  repeat' (first|apply zs_|apply zb_|apply zc_|apply zt_ rfl|apply zf_ rfl|(apply zd_ rfl<;>intro ht<;>try omega)|((first|apply zr_|apply zk_|apply ze_|apply zq_|(apply zG<;>intro ht));all_goals try simp (disch:=first|omega|(simp only [lens,z7,z6,lQr,lQm,lQt,lQd,z8,zg,zi,zj];first|done|omega)) only [go_sem,h1]))
  exact DownV.pure hw z16
theorem ztg(O:Store)(e f:Ev)(x y z x2 y2 z2:AV)(hx:SlV 32 (hr e.a.p) x)(hy:SlV 32 (hr e.b.p) y)(hz:SlV 32 (hr e.p) z)(hl:EvOk e)
  (hx2:SlV 32 (hr f.a.p) x2) (hy2:SlV 32 (hr f.b.p) y2) (hz2:SlV 32 (hr f.p) z2) (hl2:EvOk f):
  ACallsTo TC 14 [.agg (evX e x y z),.agg (evX f x2 y2 z2)] O (.bool (z7o e f)) O:=by
 have hA:=fun O=>zkd O e.a.n f.a.n e.a.i f.a.i e.a.r f.a.r e.a.s f.a.s e.a.p f.a.p x x2 hx hx2 hl.1 hl2.1
 have hB:=fun O=>zkd O e.b.n f.b.n e.b.i f.b.i e.b.r f.b.r e.b.s f.b.s e.b.p f.b.p y y2 hy hy2 hl.2.1 hl2.2.1
 obtain⟨_,_,lp⟩:=hl
 obtain⟨_,_,lp2⟩:=hl2
 have a1:=hz.len
 have a2:=hz2.len
 rw [z6]at a1 a2
 unfold z1c at a1 a2
 unfold z7o
 generalize z47 e.a.n f.a.n e.a.i f.a.i e.a.r f.a.r e.a.s f.a.s e.a.p f.a.p=ba at*
 generalize z47 e.b.n f.b.n e.b.i f.b.i e.b.r f.b.r e.b.s f.b.s e.b.p f.b.p=bb at*
 have el:=zi e x y z
 have fl:=zi f x2 y2 z2
 refine ACallsTo.of_body q27ok (by simp) fun hw _=> ?_
 by_cases h1:e.k=f.k
 ·rw [decide_eq_true h1]
  cases ba with
  |false=>
   repeat' (first|apply zs_|apply zb_|apply zc_|apply zt_ rfl|apply zf_ rfl|(apply zd_ rfl<;>intro ht<;>try omega)|((first|apply zr_|apply zk_|apply ze_|apply zq_|(apply callW.mk_pu;(first|exact(fun _=>hA _)))|(apply callW.za;(first|exact(hA _)))|(apply zG<;>intro ht));all_goals try simp (disch:=first|omega|(simp only [lens,z7,z6,lQr,lQm,lQt,lQd,z8,zg,zi,zj];first|done|omega)) only [go_sem,h1]))
   exact DownV.pure hw z16
  |true=>
  cases bb with
  |false=>
   repeat' (first|apply zs_|apply zb_|apply zc_|apply zt_ rfl|apply zf_ rfl|(apply zd_ rfl<;>intro ht<;>try omega)|((first|apply zr_|apply zk_|apply ze_|apply zq_|(apply callW.mk_pu;(first|exact(fun _=>hA _)|exact(fun _=>hB _)))|(apply callW.za;(first|exact(hA _)|exact(hB _)))|(apply zG<;>intro ht));all_goals try simp (disch:=first|omega|(simp only [lens,z7,z6,lQr,lQm,lQt,lQd,z8,zg,zi,zj];first|done|omega)) only [go_sem,h1]))
   exact DownV.pure hw z16
  |true=>
  by_cases h2:e.r=f.r
  ·rw [decide_eq_true h2]
   by_cases hll:e.p.length=f.p.length
   ·have hll':(e.p.length:Int)=f.p.length:=by omega
    repeat' (first|apply zs_|apply zb_|apply zc_|apply zt_ rfl|apply zf_ rfl|(apply zd_ rfl<;>intro ht<;>try omega)|((first|apply zr_|apply zk_|apply ze_|apply zq_|(apply callW.mk_pu;(first|exact(fun _=>hA _)|exact(fun _=>hB _)))|(apply callW.za;(first|exact(hA _)|exact(hB _)))|(apply zG<;>intro ht));all_goals try simp (disch:=first|omega|(simp only [lens,z7,z6,lQr,lQm,lQt,lQd,z8,zg,zi,zj];first|done|omega)) only [go_sem,h1,h2,a1,a2,hll']))
    refine zW.loop (fun m J O'=>∃k:Nat,m+k=e.p.length/\ O'=O++ [some [evX e x y z],some [evX f x2 y2 z2]]/\ e.p.take k=f.p.take k/\ J 2=.ptr O.length 0 0/\ J 3=.ptr (O.length+1) 0 0/\ J 5=.int .i64 k) e.p.length ?_ ?_
    ·exact⟨0,by omega,rfl,rfl,by simp (disch:=first|omega|(simp only [lens,z7,z6,lQr,lQm,lQt,lQd,z8,zg,zi,zj];first|done|omega)) only [go_sem],by simp (disch:=first|omega|(simp only [lens,z7,z6,lQr,lQm,lQt,lQd,z8,zg,zi,zj];first|done|omega)) only [go_sem],by simp (disch:=first|omega|(simp only [lens,z7,z6,lQr,lQm,lQt,lQd,z8,zg,zi,zj];first|done|omega)) only [go_sem];rfl⟩
    ·rintro m J O' ⟨k,hm,rfl,htk,q2,q3,q5⟩
     by_cases hk:k<e.p.length
     ·obtain⟨ex,rfl⟩:=hz.vsl (by rw [z6];omega)
      obtain⟨ex2,rfl⟩:=hz2.vsl (by rw [z6];omega)
      have hk':(k:Int)<f.p.length:=by omega
      by_cases hh:hd e.p k=hd f.p k
      ·have t1:=z4k (l:=e.p) (i:=k) hk
       have t2:=z4k (l:=f.p) (i:=k) (by omega)
       repeat' (first|apply zs_|apply zb_|apply zc_|apply zt_ rfl|apply zf_ rfl|(apply zd_ rfl<;>intro ht<;>try omega)|((first|apply zr_|apply zk_|apply ze_|apply zq_|(apply zG<;>intro ht));all_goals try simp (disch:=first|omega|(simp only [lens,z7,z6,lQr,lQm,lQt,lQd,z8,zg,zi,zj];first|done|omega)) only [go_sem,q2,q3,q5,a1,a2,hk',hh]))
       exact⟨m-1,by omega,k+1,by omega,by rw [t1,t2,htk,hh],by simp⟩
      ·rw [decide_eq_false (fun e=>hh (by rw [e]))]
       repeat' (first|apply zs_|apply zb_|apply zc_|apply zt_ rfl|apply zf_ rfl|(apply zd_ rfl<;>intro ht<;>try omega)|((first|apply zr_|apply zk_|apply ze_|apply zq_|(apply zG<;>intro ht));all_goals try simp (disch:=first|omega|(simp only [lens,z7,z6,lQr,lQm,lQt,lQd,z8,zg,zi,zj];first|done|omega)) only [go_sem,q2,q3,q5,a1,a2,hk',hh]))
       exact DownV.pure hw z16
     ·have hk':¬(k:Int)<f.p.length:=by omega
      have:e.p=f.p:=by
       rw [List.take_of_length_le (by omega),List.take_of_length_le (by omega)]at htk
       exact htk
      rw [decide_eq_true this]
      repeat' (first|apply zs_|apply zb_|apply zc_|apply zt_ rfl|apply zf_ rfl|(apply zd_ rfl<;>intro ht<;>try omega)|((first|apply zr_|apply zk_|apply ze_|apply zq_|(apply zG<;>intro ht));all_goals try simp (disch:=first|omega|(simp only [lens,z7,z6,lQr,lQm,lQt,lQd,z8,zg,zi,zj];first|done|omega)) only [go_sem,q2,q3,q5,a1,a2,hll',hk']))
      exact DownV.pure hw z16
   ·rw [decide_eq_false (fun e=>hll (by rw [e]))]
    have hll':¬(e.p.length:Int)=f.p.length:=by omega
    repeat' (first|apply zs_|apply zb_|apply zc_|apply zt_ rfl|apply zf_ rfl|(apply zd_ rfl<;>intro ht<;>try omega)|((first|apply zr_|apply zk_|apply ze_|apply zq_|(apply callW.mk_pu;(first|exact(fun _=>hA _)|exact(fun _=>hB _)))|(apply callW.za;(first|exact(hA _)|exact(hB _)))|(apply zG<;>intro ht));all_goals try simp (disch:=first|omega|(simp only [lens,z7,z6,lQr,lQm,lQt,lQd,z8,zg,zi,zj];first|done|omega)) only [go_sem,h1,h2,a1,a2,hll']))
    exact DownV.pure hw z16
  ·rw [decide_eq_false h2]
   repeat' (first|apply zs_|apply zb_|apply zc_|apply zt_ rfl|apply zf_ rfl|(apply zd_ rfl<;>intro ht<;>try omega)|((first|apply zr_|apply zk_|apply ze_|apply zq_|(apply callW.mk_pu;(first|exact(fun _=>hA _)|exact(fun _=>hB _)))|(apply callW.za;(first|exact(hA _)|exact(hB _)))|(apply zG<;>intro ht));all_goals try simp (disch:=first|omega|(simp only [lens,z7,z6,lQr,lQm,lQt,lQd,z8,zg,zi,zj];first|done|omega)) only [go_sem,h1,h2]))
   exact DownV.pure hw z16
 ·rw [decide_eq_false h1]
  repeat' (first|apply zs_|apply zb_|apply zc_|apply zt_ rfl|apply zf_ rfl|(apply zd_ rfl<;>intro ht<;>try omega)|((first|apply zr_|apply zk_|apply ze_|apply zq_|(apply zG<;>intro ht));all_goals try simp (disch:=first|omega|(simp only [lens,z7,z6,lQr,lQm,lQt,lQd,z8,zg,zi,zj];first|done|omega)) only [go_sem,h1]))
  exact DownV.pure hw z16
end
section
abbrev HV:=Hdr × AV
def hrw(P:List HV):List (List AV):=P.map fun p=>sgX p.1 p.2
theorem z12(P:List HV):(hrw P).length=P.length:=by simp [hrw]
theorem zbn{P:List HV}{i:Nat}(h:i<P.length):(hrw P)[i]? =some (sgX P[i].1 P[i].2):=by
 simp [hrw,List.getElem?_eq_getElem h]
theorem zqc(P:List HV)(i:Nat):(hrw P).drop i=hrw (P.drop i):=by simp [hrw,List.map_drop]
theorem zqd(P:List HV):(hrw P).take P.length=hrw P:=List.take_of_length_le (by rw [z12];exact Nat.le_refl _)
def HOk(P:List HV):Prop:=∀p ∈ P,SlV 32 (hr p.1.p) p.2
theorem HOk.drop{P:List HV}(h:HOk P)(i:Nat):HOk (P.drop i):=fun p hp=>h p (List.mem_of_mem_drop hp)
theorem HOk.at{P:List HV}(h:HOk P){i:Nat}(hi:i<P.length):SlV 32 (hr P[i].1.p) P[i].2:=h _ (List.getElem_mem hi)
def z3m(a b:HV):Bool:=valH a.1 && valH b.1 && decide (ordI a.1.n b.1.n a.1.r b.1.r=3)
def z2y:List HV->Option (HV × HV)
 | []=>none
 |p::P=>match P.find? (z3m p)with
  |some q=>some (p,q)
  |none=>z2y P
theorem zpn{P:List HV}{i:Nat}(hi:i<P.length):z2y (P.drop i)=match (P.drop (i+1)).find? (z3m P[i])with|some q=>some (P[i],q)|none=>z2y (P.drop (i+1)):=by
 rw [List.drop_eq_getElem_cons hi];rfl
theorem zpo{P:List HV}:z2y (P.drop P.length)=none:=by rw [List.drop_length];rfl
theorem zie{P:List HV}{f:HV->Bool}{j:Nat}(hj:j<P.length):(P.drop j).find? f=if f P[j]=true then some P[j]else(P.drop (j+1)).find? f:=by
 rw [List.drop_eq_getElem_cons hj,List.find?_cons]
 cases f P[j]<;>rfl
def zdx:Option (HV × HV)->AV
 |none=> .tup [.agg evO,.bool false]
 |some (p,q)=> .tup [.agg (evX ⟨1,p.1,q.1,zeroH,[]⟩ p.2 q.2 .nilsl),.bool true]
theorem rlE'{n:Nat}(e:Ev){x y z w:AV}(hx:RL n x)(hy:RL n y)(hz:RL n z)(hw:RL n w):RL n (.tup [.agg (evX e x y z),w]):=by
 simp only [RL,RLs]
 exact⟨zex e x y z hx hy hz,hw,trivial⟩
attribute [local irreducible] ACallsTo ACallsP
theorem zjv(O:Store)(e:Ev)(x y z:AV)(hx:SlV 32 (hr e.a.p) x)(hy:SlV 32 (hr e.b.p) y)(hz:RL O.length z)(ha:e.a.p ≠ [])(hb:e.b.p ≠ [])(hla:e.a.p.length<1000000)(hlb:e.b.p.length<1000000):
  ACallsTo TC 84 [.agg (evX e x y z)] O (.agg (evX e (z11 32 (hr e.a.p)) (z11 32 (hr e.b.p)) z)) O:=by
 have h1:=fun O=>zfx O e.a.p x (.of hx) hla
 have h2:=fun O=>zfx O e.b.p y (.of hy) hlb
 have ne:∀(l:List Hash) (v:AV),l ≠ []->SlV 32 (hr l) v->v ≠ .nilsl:=by
  rintro l v h0 (⟨_,h⟩| ⟨ex,rfl⟩)
  ·exact absurd (hr_nil_iff.1 h) h0
  ·exact nofun
 have e0:∀l:List Hash,l ≠ []->z11 32 (hr l)=.vsl 32 (hr l) false:=fun l h0=>by unfold z11;rw [if_neg fun e=>h0 (hr_nil_iff.1 e)]
 rw [ze3 (ne _ _ ha hx)]at h1
 rw [ze3 (ne _ _ hb hy)]at h2
 rw [e0 _ ha,e0 _ hb]
 have hel:=zi e (.vsl 32 (hr e.a.p) false) (.vsl 32 (hr e.b.p) false) z
 have hO6:evO.drop 106=[]:=z3f _ _ _ _
 refine ACallsTo.of_body q2lok (by simp) fun hw _=> ?_
 repeat' (first|apply zs_|apply zb_|apply zc_|apply zt_ rfl|apply zf_ rfl|(apply zd_ rfl<;>intro ht<;>try omega)|((first|apply zr_|apply zk_|apply ze_|apply zq_|(apply callW.mk_pu;(first|exact(fun _=>h1 _)|exact(fun _=>h2 _)))|(apply callW.za;(first|exact(h1 _)|exact(h2 _)))|(apply zG<;>intro ht));all_goals try simp (disch:=first|omega|(simp only [lens,z7,z6,lQr,lQm,lQt,lQd,z8,zg,zi,zj,z12];first|done|omega)) only [go_sem,hel,hO6,List.append_nil]))
 have rv:∀(l:List Hash) (b:Bool),RL O.length (.vsl 32 (hr l) b):=fun l b=>by simp only [RL];exact z2p l
 have hev:RL O.length (.agg (evX e (.vsl 32 (hr e.a.p) false) (.vsl 32 (hr e.b.p) false) z)):=by
  simp only [RL]
  exact zex e _ _ _ (rv _ _) (rv _ _) hz
 exact DownV.pure hw hev
theorem zpp(O:Store)(P:List HV)(v:AV)(hv:SlV 36 (hrw P) v)(hP:HOk P)(hl:P.length<1000000):ACallsTo TC 83 [v] O (zdx (z2y P)) O:=by
 have r1:=hv.len
 rw [z12]at r1
 unfold z1c at r1
 refine ACallsTo.of_body q2kok (by simp) fun hw _=> ?_
 repeat' (first|apply zs_|apply zb_|apply zc_|apply zt_ rfl|apply zf_ rfl|(apply zd_ rfl<;>intro ht<;>try omega)|((first|apply zr_|apply zk_|apply ze_|apply zq_|(apply zG<;>intro ht));all_goals try simp (disch:=first|omega|(simp only [lens,z7,z6,lQr,lQm,lQt,lQd,z8,zg,zi,zj,z12];first|done|omega)) only [go_sem,r1]))
 refine zW.loop (fun m J O'=>∃(i:Nat) (y:Store),m+i=P.length/\ O'=O++(some [evO]::y)/\ z2y P=z2y (P.drop i)/\ J 0=v/\ J 2=.ptr O.length 0 0/\ J 8=v/\ J 9=.int .i64 P.length/\ J 10=.int .i64 i) P.length ?_ ?_
 ·exact⟨0,[],by omega,rfl,rfl,by simp (disch:=first|omega|(simp only [lens,z7,z6,lQr,lQm,lQt,lQd,z8,zg,zi,zj,z12];first|done|omega)) only [go_sem],by simp (disch:=first|omega|(simp only [lens,z7,z6,lQr,lQm,lQt,lQd,z8,zg,zi,zj,z12];first|done|omega)) only [go_sem],by simp (disch:=first|omega|(simp only [lens,z7,z6,lQr,lQm,lQt,lQd,z8,zg,zi,zj,z12];first|done|omega)) only [go_sem],by simp (disch:=first|omega|(simp only [lens,z7,z6,lQr,lQm,lQt,lQd,z8,zg,zi,zj,z12];first|done|omega)) only [go_sem],by simp (disch:=first|omega|(simp only [lens,z7,z6,lQr,lQm,lQt,lQd,z8,zg,zi,zj,z12];first|done|omega)) only [go_sem];rfl⟩
 ·rintro m J O' ⟨i,y,hm,rfl,hF,q0,q2,q8,q9,q10⟩
  by_cases hi:i<P.length
  ·have hi':(i:Int)<P.length:=by omega
   obtain⟨ex,rfl⟩:=hv.vsl (by rw [z12];omega)
   have hgi:=zbn hi
   have hp:=hP.at hi
   have hst:=zpn hi
   have hdr:=zqc P (i+1)
   have htk:=zqd P
   have hpl:=z12 P
   have hPD:=hP.drop (i+1)
   have hDl:(P.drop (i+1)).length=P.length-(i+1):=List.length_drop
   have hDe:z2y (P.drop (i+1))=z2y (P.drop (i+1)):=rfl
   generalize hDD:P.drop (i+1)=D at hdr hPD hDl hst
   rw [hst]at hF
   generalize P[i]=p at*
   have hi1:((i:Int)+1).toNat=i+1:=by omega
   have hsl:=zg p.1 p.2
   have hzl:sgZ.length=36:=zg zHd .nilsl
   have hzd:sgZ.drop 36=[]:=zce zHd .nilsl
   have hdl:=z12 D
   have hVa:=fun O=>z6r O p.1.n p.1.i p.1.r p.1.s p.1.p p.2 (.of hp)
   repeat' (first|apply zs_|apply zb_|apply zc_|apply zt_ rfl|apply zf_ rfl|(apply zd_ rfl<;>intro ht<;>try omega)|((first|apply zr_|apply zk_|apply ze_|apply zq_|(apply zG<;>intro ht));all_goals try simp (disch:=first|omega|(simp only [lens,z7,z6,lQr,lQm,lQt,lQd,z8,zg,zi,zj,z12];first|done|omega)) only [go_sem,q0,q2,q8,q9,q10,hi',hgi,htk,hdr,hpl,hi1,hsl,hzl,hzd,hdl]))
   have hO:evO=evX ⟨0,zHd,zHd,zeroH,[]⟩ .nilsl .nilsl .nilsl:=rfl
   have hel:=fun e x y z=>zi e x y z
   have hO6:=fun e x y z=>z3f e x y z
   refine zW.loop (fun m J O'=>∃(j:Nat) (y':Store),m+j=D.length/\ O'=O++(some [evO]::(y++(some [sgX p.1 p.2]::y')))/\ D.find? (z3m p)=(D.drop j).find? (z3m p)/\ J 0=.vsl 36 (hrw P) ex/\ J 2=.ptr O.length 0 0/\ J 5=.ptr (O.length+(y.length+1)) 0 0/\ J 8=.vsl 36 (hrw P) ex/\ J 9=.int .i64 P.length/\ J 10=.int .i64 i/\ J 18=.vsl 36 (hrw D) ex/\ J 19=.int .i64 D.length/\ J 20=.int .i64 j) D.length ?_ ?_
   ·exact⟨0,[],by omega,rfl,rfl,by simp (disch:=first|omega|(simp only [lens,z7,z6,lQr,lQm,lQt,lQd,z8,zg,zi,zj,z12];first|done|omega)) only [go_sem,q0],by simp (disch:=first|omega|(simp only [lens,z7,z6,lQr,lQm,lQt,lQd,z8,zg,zi,zj,z12];first|done|omega)) only [go_sem,q2],by simp (disch:=first|omega|(simp only [lens,z7,z6,lQr,lQm,lQt,lQd,z8,zg,zi,zj,z12];first|done|omega)) only [go_sem],by simp (disch:=first|omega|(simp only [lens,z7,z6,lQr,lQm,lQt,lQd,z8,zg,zi,zj,z12];first|done|omega)) only [go_sem,q8],by simp (disch:=first|omega|(simp only [lens,z7,z6,lQr,lQm,lQt,lQd,z8,zg,zi,zj,z12];first|done|omega)) only [go_sem,q9],by simp (disch:=first|omega|(simp only [lens,z7,z6,lQr,lQm,lQt,lQd,z8,zg,zi,zj,z12];first|done|omega)) only [go_sem,q10],by simp (disch:=first|omega|(simp only [lens,z7,z6,lQr,lQm,lQt,lQd,z8,zg,zi,zj,z12];first|done|omega)) only [go_sem],by simp (disch:=first|omega|(simp only [lens,z7,z6,lQr,lQm,lQt,lQd,z8,zg,zi,zj,z12];first|done|omega)) only [go_sem],by simp (disch:=first|omega|(simp only [lens,z7,z6,lQr,lQm,lQt,lQd,z8,zg,zi,zj,z12];first|done|omega)) only [go_sem];rfl⟩
   ·rintro m2 J2 O2 ⟨j,y2,hm2,rfl,hF2,s0,s2,s5,s8,s9,s10,s18,s19,s20⟩
    by_cases hj:j<D.length
    ·have hj':(j:Int)<D.length:=by omega
     have hgj:=zbn hj
     have hq:=hPD.at hj
     have hfd:=zie (f:=z3m p) hj
     rw [hfd]at hF2
     generalize D[j]=q at*
     have hsq:=zg q.1 q.2
     have hVb:=fun O=>z6r O q.1.n q.1.i q.1.r q.1.s q.1.p q.2 (.of hq)
     have hOr:=fun O=>zge O p.1.n q.1.n p.1.r q.1.r
     by_cases hb:z3m p q=true
     ·rw [if_pos hb]at hF2
      rw [hF2]at hF
      simp only at hF
      rw [hF]
      unfold z3m valH at hb
      simp only [Bool.and_eq_true,decide_eq_true_eq]at hb
      obtain⟨⟨b1,b2⟩,b3⟩:=hb
      rw [b1]at hVa
      rw [b2]at hVb
      rw [b3]at hOr
      repeat' (first|apply zs_|apply zb_|apply zc_|apply zt_ rfl|apply zf_ rfl|(apply zd_ rfl<;>intro ht<;>try omega)|((first|apply zr_|apply zk_|apply ze_|apply zq_|(apply callW.mk_pu;(first|exact(fun _=>hVa _)|exact(fun _=>hVb _)|exact(fun _=>hOr _)))|(apply callW.za;(first|exact(hVa _)|exact(hVb _)|exact(hOr _)))|(apply zG<;>intro ht));all_goals try simp (disch:=first|omega|(simp only [lens,z7,z6,lQr,lQm,lQt,lQd,z8,zg,zi,zj,z12];first|done|omega)) only [go_sem,s0,s2,s5,s8,s9,s10,s18,s19,s20,hj',hgj,hsl,hsq,hzl,hzd,hdl,hpl,hO,hel,hO6,List.append_nil]))
      exact DownV.pure hw (rlE' _ (z92 hp) (z92 hq) (by simp [RL]) (by simp [RL]))
     ·rw [if_neg hb]at hF2
      have hbf:(valH p.1 && valH q.1 && decide (ordI p.1.n q.1.n p.1.r q.1.r=3))=false:=by
       unfold z3m at hb
       simpa using hb
      unfold valH at hbf
      generalize z1t p.1.n p.1.i p.1.s p.1.p=va at*
      generalize z1t q.1.n q.1.i q.1.s q.1.p=vb at*
      generalize ordI p.1.n q.1.n p.1.r q.1.r=o at*
      cases va with
      |false=>
       repeat' (first|apply zs_|apply zb_|apply zc_|apply zt_ rfl|apply zf_ rfl|(apply zd_ rfl<;>intro ht<;>try omega)|((first|apply zr_|apply zk_|apply ze_|apply zq_|(apply callW.mk_pu;(first|exact(fun _=>hVa _)))|(apply callW.za;(first|exact(hVa _)))|(apply zG<;>intro ht));all_goals try simp (disch:=first|omega|(simp only [lens,z7,z6,lQr,lQm,lQt,lQd,z8,zg,zi,zj,z12];first|done|omega)) only [go_sem,s0,s2,s5,s8,s9,s10,s18,s19,s20,hj',hgj,hsl,hsq,hzl,hzd,hdl,hpl,List.append_nil]))
       exact⟨m2-1,by omega,j+1,_,by omega,rfl,hF2,by simp⟩
      |true=>
      cases vb with
      |false=>
       repeat' (first|apply zs_|apply zb_|apply zc_|apply zt_ rfl|apply zf_ rfl|(apply zd_ rfl<;>intro ht<;>try omega)|((first|apply zr_|apply zk_|apply ze_|apply zq_|(apply callW.mk_pu;(first|exact(fun _=>hVa _)|exact(fun _=>hVb _)))|(apply callW.za;(first|exact(hVa _)|exact(hVb _)))|(apply zG<;>intro ht));all_goals try simp (disch:=first|omega|(simp only [lens,z7,z6,lQr,lQm,lQt,lQd,z8,zg,zi,zj,z12];first|done|omega)) only [go_sem,s0,s2,s5,s8,s9,s10,s18,s19,s20,hj',hgj,hsl,hsq,hzl,hzd,hdl,hpl,List.append_nil]))
       exact⟨m2-1,by omega,j+1,_,by omega,rfl,hF2,by simp⟩
      |true=>
       have h3:¬o=3:=by simpa using hbf
       repeat' (first|apply zs_|apply zb_|apply zc_|apply zt_ rfl|apply zf_ rfl|(apply zd_ rfl<;>intro ht<;>try omega)|((first|apply zr_|apply zk_|apply ze_|apply zq_|(apply callW.mk_pu;(first|exact(fun _=>hVa _)|exact(fun _=>hVb _)|exact(fun _=>hOr _)))|(apply callW.za;(first|exact(hVa _)|exact(hVb _)|exact(hOr _)))|(apply zG<;>intro ht));all_goals try simp (disch:=first|omega|(simp only [lens,z7,z6,lQr,lQm,lQt,lQd,z8,zg,zi,zj,z12];first|done|omega)) only [go_sem,s0,s2,s5,s8,s9,s10,s18,s19,s20,hj',hgj,hsl,hsq,hzl,hzd,hdl,hpl,h3,List.append_nil]))
       exact⟨m2-1,by omega,j+1,_,by omega,rfl,hF2,by simp⟩
    ·obtain rfl:j=D.length:=by omega
     rw [List.drop_length]at hF2
     rw [hF2]at hF
     have hF':z2y P=z2y D:=hF
     repeat' (first|apply zs_|apply zb_|apply zc_|apply zt_ rfl|apply zf_ rfl|(apply zd_ rfl<;>intro ht<;>try omega)|((first|apply zr_|apply zk_|apply ze_|apply zq_|(apply zG<;>intro ht));all_goals try simp (disch:=first|omega|(simp only [lens,z7,z6,lQr,lQm,lQt,lQd,z8,zg,zi,zj,z12];first|done|omega)) only [go_sem,s0,s2,s5,s8,s9,s10,s18,s19,s20,hdl,hpl]))
     exact⟨m-1,by omega,i+1,_,by omega,rfl,by rw [hDD];exact hF',by simp⟩
  ·obtain rfl:i=P.length:=by omega
   rw [zpo]at hF
   rw [hF]
   have hO6:evO.drop 106=[]:=z3f _ _ _ _
   repeat' (first|apply zs_|apply zb_|apply zc_|apply zt_ rfl|apply zf_ rfl|(apply zd_ rfl<;>intro ht<;>try omega)|((first|apply zr_|apply zk_|apply ze_|apply zq_|(apply zG<;>intro ht));all_goals try simp (disch:=first|omega|(simp only [lens,z7,z6,lQr,lQm,lQt,lQd,z8,zg,zi,zj,z12];first|done|omega)) only [go_sem,q0,q2,q8,q9,q10,zj,hO6,List.append_nil]))
   exact DownV.pure hw (rlE' evZ0 (by simp [RL]) (by simp [RL]) (by simp [RL]) (by simp [RL]))
end
section
def z9i(L:List Hash)(o:Option HV)(p:HV):Bool:=valH p.1 && decide (p.1.n<=L.length) && (match o with|none=>true|some w=>decide (w.1.n<p.1.n)) && decide (z1d (L.take p.1.n.toNat)=p.1.r)
def z3v(L:List Hash)(o:Option HV)(p:HV):Option HV:=if z9i L o p=true then some p else o
def zb5(L:List Hash)(P:List HV):Option HV:=P.foldl (z3v L) none
theorem zna{L:List Hash}{P:List HV}{i:Nat}(hi:i<P.length):(P.take (i+1)).foldl (z3v L) none=z3v L ((P.take i).foldl (z3v L) none) P[i]:=by
 rw [List.take_succ_eq_append_getElem hi,List.foldl_append];rfl
def oC:Option HV->List AV
 |none=>sgZ
 |some p=>sgX p.1 p.2
theorem zbt(o:Option HV):(oC o).length=36:=by cases o<;>exact z8 _ _ _ _ _
def zb6(o:Option HV):AV:=.tup [.agg (oC o),.bool o.isSome]
theorem zcv{h:Hdr}(hv:valH h=true):0<=h.n/\ h.n<=4096/\ h.p.length=3:=by
 obtain⟨N,I,e1,e2,b1,b2,b3,b4⟩:=zcw hv
 omega
def splB(L:List Hash)(w p:HV):Bool:=valH p.1 && decide (p.1.n<w.1.n) && decide (z1d (L.take p.1.n.toNat) ≠ p.1.r)
def z9x(L:List Hash)(P:List HV):Option (Ev × AV × AV):=
 match z2y P with
 |some (p,q)=>some (⟨1,p.1,q.1,zeroH,[]⟩,p.2,q.2)
 |none=>match zb5 L P with
  |none=>none
  |some w=>match P.find? (splB L w)with
   |none=>none
   |some p=>some (⟨2,p.1,w.1,z1d (L.take p.1.n.toNat),z7z (L.take w.1.n.toNat) p.1.n⟩,p.2,w.2)
def z9y:Option (Ev × AV × AV)->AV
 |none=> .tup [.agg evO,.bool false]
 |some x=> .tup [.agg (evL x.1),.bool true]
attribute [local irreducible] ACallsTo ACallsP
theorem zdv(L:List Hash)(n:Nat):(hr L).take n=hr (L.take n):=by simp [hr,List.map_take]
theorem znb (O : Store) (P : List HV) (v w : AV) (L : List Hash) (hv : SlV 36 (hrw P) v) (hP : HOk P) (hl : P.length < 1000000) (hw' : SlV 32 (hr L) w) (hL : L.length < 1000000) :
    ACallsTo TC 85 [v,w] O (zb6 (zb5 L P)) O:=by
  have r1:=hv.len
  rw [z12]at r1
  unfold z1c at r1
  have r2:=hw'.len
  rw [z6]at r2
  unfold z1c at r2
  have hoz:oC none=sgZ:=rfl
  refine ACallsTo.of_body q2mok (by simp) fun hw _=> ?_
  repeat' (first|apply zs_|apply zb_|apply zc_|apply zt_ rfl|apply zf_ rfl|(apply zd_ rfl<;>intro ht<;>try omega)|((first|apply zr_|apply zk_|apply ze_|apply zq_|(apply zG<;>intro ht));all_goals try simp (disch:=first|omega|(simp only [lens,z7,z6,lQr,lQm,lQt,lQd,z8,zg,zi,zj,z12];first|done|omega)) only [go_sem,r1,r2]))
  refine zW.loop (fun m J O'=>∃(i:Nat) (y:Store) (o:Option HV),m+i=P.length/\ O'=O++(some [sgZ]::some [oC o]::y)/\ o=(P.take i).foldl (z3v L) none/\ (∀k,RLs k (oC o))/\ J 1=w/\ J 4=.ptr O.length 0 0/\ J 6=.ptr (O.length+1) 0 0/\ J 7=.bool o.isSome/\ J 11=v/\ J 12=.int .i64 P.length/\ J 13=.int .i64 i) P.length ?_ ?_
  · exact⟨0,[],none,by omega,rfl,rfl,fun k=>z84 (by simp [RL]),by simp (disch:=first|omega|(simp only [lens,z7,z6,lQr,lQm,lQt,lQd,z8,zg,zi,zj,z12];first|done|omega)) only [go_sem],by simp (disch:=first|omega|(simp only [lens,z7,z6,lQr,lQm,lQt,lQd,z8,zg,zi,zj,z12];first|done|omega)) only [go_sem],by simp (disch:=first|omega|(simp only [lens,z7,z6,lQr,lQm,lQt,lQd,z8,zg,zi,zj,z12];first|done|omega)) only [go_sem],by simp (disch:=first|omega|(simp only [lens,z7,z6,lQr,lQm,lQt,lQd,z8,zg,zi,zj,z12];first|done|omega)) only [go_sem];rfl,by simp (disch:=first|omega|(simp only [lens,z7,z6,lQr,lQm,lQt,lQd,z8,zg,zi,zj,z12];first|done|omega)) only [go_sem],by simp (disch:=first|omega|(simp only [lens,z7,z6,lQr,lQm,lQt,lQd,z8,zg,zi,zj,z12];first|done|omega)) only [go_sem],by simp (disch:=first|omega|(simp only [lens,z7,z6,lQr,lQm,lQt,lQd,z8,zg,zi,zj,z12];first|done|omega)) only [go_sem];rfl⟩
  · rintro m J O' ⟨i,y,o,hm,rfl,hF,hRo,q1,q4,q6,q7,q11,q12,q13⟩
    have hol:=zbt o
    by_cases hi:i<P.length
    · have hi':(i:Int)<P.length:=by omega
      obtain⟨ex,rfl⟩:=hv.vsl (by rw [z12];omega)
      have hgi:=zbn hi
      have hp:=hP.at hi
      have hst:=zna (L:=L) hi
      rw [<-hF]at hst
      have hpl:=z12 P
      generalize P[i]=p at*
      have hsl:=zg p.1 p.2
      have hzl:sgZ.length=36:=zg zHd .nilsl
      have hzd:sgZ.drop 36=[]:=zce zHd .nilsl
      have hV:=fun O=>z6r O p.1.n p.1.i p.1.r p.1.s p.1.p p.2 (.of hp)
      have hval:valH p.1=z1t p.1.n p.1.i p.1.s p.1.p:=rfl
      have hvn:= @zcv p.1
      rw [hval]at hvn
      have keep:z9i L o p=false->(P.take (i+1)).foldl (z3v L) none=o:=fun h=>by rw [hst];unfold z3v;rw [h];rfl
      have new:z9i L o p=true->(P.take (i+1)).foldl (z3v L) none=some p:=fun h=>by rw [hst];unfold z3v;rw [h];rfl
      have hrp:∀k,RLs k (oC (some p)):=fun k=>z84 (z92 hp)
      have hoc:oC (some p)=sgX p.1 p.2:=rfl
      unfold z9i at keep new
      rw [hval]at keep new
      generalize z1t p.1.n p.1.i p.1.s p.1.p=vb at*
      cases vb with
      |false=>
        repeat' (first|apply zs_|apply zb_|apply zc_|apply zt_ rfl|apply zf_ rfl|(apply zd_ rfl<;>intro ht<;>try omega)|((first|apply zr_|apply zk_|apply ze_|apply zq_|(apply callW.mk_pu;(first|exact(fun _=>hV _)))|(apply callW.za;(first|exact(hV _)))|(apply zG<;>intro ht));all_goals try simp (disch:=first|omega|(simp only [lens,z7,z6,lQr,lQm,lQt,lQd,z8,zg,zi,zj,z12];first|done|omega)) only [go_sem,q1,q4,q6,q7,q11,q12,q13,hi',hgi,hpl,hsl,hzl,hzd,List.append_nil,r2,hol]))
        exact⟨m-1,by omega,i+1,_,o,by omega,rfl,(keep (by simp)).symm,hRo,by simp⟩
      |true=>
        obtain⟨n0,n1,_⟩:=hvn rfl
        by_cases c2:p.1.n<=L.length
        · rw [decide_eq_true c2]at keep new
          have hln:(L.take p.1.n.toNat).length<1000000:=by rw [List.length_take];omega
          have hR:=fun O x (hx:SlV 32 (hr (L.take p.1.n.toNat)) x)=>zai O (L.take p.1.n.toNat) x (.of hx) (by omega)
          have fk:=zdv L p.1.n.toNat
          have hcase:((o=none/\ p.1.n> -1) \/ ∃q,o=some q/\ p.1.n>q.1.n) \/ ∃q,o=some q/\ ¬q.1.n<p.1.n:=by
            cases o with
            |none=>exact .inl (.inl ⟨rfl,by omega⟩)
            | some q => by_cases h : q.1.n < p.1.n
                        · exact .inl (.inr ⟨q,rfl,h⟩)
                        · exact .inr ⟨q,rfl,h⟩
          have nlL:(hr L).length=L.length:=z6 L
          rcases hcase with hc| ⟨q,rfl,h3⟩
          · have kb:∀b,(true && true && (match o with|none=>true|some w=>decide (w.1.n<p.1.n)) && b)=b:=by
              intro b
              rcases hc with⟨rfl,_⟩| ⟨q,rfl,h⟩
              · rfl
              · simp;intro h';omega
            rw [kb]at keep new
            clear kb
            generalize z1d (L.take p.1.n.toNat)=R at*
            have hsl2:∃x,SlV 32 (hr (L.take p.1.n.toNat)) x/\ ((w=.nilsl/\ x=.nilsl/\ p.1.n=0/\ L=[]) \/ ∃b b2,w=.vsl 32 (hr L) b/\ x=.vsl 32 (hr (L.take p.1.n.toNat)) b2/\ b2=(b && (p.1.n.toNat==L.length))):=by
              rcases hw' with⟨rfl,h0⟩| ⟨b,rfl⟩
              · have hLn:L=[]:=hr_nil_iff.1 h0
                subst hLn
                exact⟨.nilsl,.inl ⟨rfl,by simp [hr]⟩,.inl ⟨rfl,rfl,by simp at c2;omega,rfl⟩⟩
              · exact⟨_,.inr ⟨_,rfl⟩,.inr ⟨b,_,rfl,rfl,rfl⟩⟩
            obtain⟨x,hx,hcx⟩:=hsl2
            have hR':=fun O=>hR O x hx
            have hq0:∀q:HV,(oC (some q))[0]? =some (.int .i64 q.1.n):=fun q=>rfl
            have hod:∀o,(oC o).drop 36=[]:=fun o=>List.drop_eq_nil_of_le (by rw [zbt];omega)
            by_cases h4:R=p.1.r
            · have n2:=new (decide_eq_true h4)
              rcases hc with⟨rfl,h3⟩| ⟨q,rfl,h3⟩<;>rcases hcx with⟨rfl,rfl,e0,hL0⟩| ⟨b,b2,rfl,rfl,e0⟩
              all_goals
                repeat' (first|apply zs_|apply zb_|apply zc_|apply zt_ rfl|apply zf_ rfl|(apply zd_ rfl<;>intro ht<;>try omega)|((first|apply zr_|apply zk_|apply ze_|apply zq_|(apply callW.mk_pu;(first|exact(fun _=>hV _)|exact(fun _=>hR _ _ (.inr ⟨_,rfl⟩))|exact(fun _=>hR' _)))|(apply callW.za;(first|exact(hV _)|exact(hR _ _ (.inr ⟨_,rfl⟩))|exact(hR' _)))|(apply zG<;>intro ht));all_goals try simp (disch:=first|omega|(simp only [lens,z7,z6,lQr,lQm,lQt,lQd,z8,zg,zi,zj,z12];first|done|omega)) only [go_sem,q1,q4,q6,q7,q11,q12,q13,hi',hgi,hpl,hsl,hzl,hzd,List.append_nil,r2,hol,c2,h3,hq0,h4,fk,Option.isSome_some,Option.isSome_none,nlL,hoc,hod,zbt]))
                exact⟨m-1,by omega,i+1,_,some p,by omega,rfl,n2.symm,hrp,by simp⟩
            · have k2:=keep (decide_eq_false h4)
              rcases hc with⟨rfl,h3⟩| ⟨q,rfl,h3⟩<;>rcases hcx with⟨rfl,rfl,e0,hL0⟩| ⟨b,b2,rfl,rfl,e0⟩
              all_goals
                repeat' (first|apply zs_|apply zb_|apply zc_|apply zt_ rfl|apply zf_ rfl|(apply zd_ rfl<;>intro ht<;>try omega)|((first|apply zr_|apply zk_|apply ze_|apply zq_|(apply callW.mk_pu;(first|exact(fun _=>hV _)|exact(fun _=>hR _ _ (.inr ⟨_,rfl⟩))|exact(fun _=>hR' _)))|(apply callW.za;(first|exact(hV _)|exact(hR _ _ (.inr ⟨_,rfl⟩))|exact(hR' _)))|(apply zG<;>intro ht));all_goals try simp (disch:=first|omega|(simp only [lens,z7,z6,lQr,lQm,lQt,lQd,z8,zg,zi,zj,z12];first|done|omega)) only [go_sem,q1,q4,q6,q7,q11,q12,q13,hi',hgi,hpl,hsl,hzl,hzd,List.append_nil,r2,hol,c2,h3,hq0,h4,fk,Option.isSome_some,Option.isSome_none,nlL,hoc,hod,zbt]))
                exact⟨m-1,by omega,i+1,_,_,by omega,rfl,k2.symm,hRo,by simp⟩
          · have k2:=keep (by simp [h3])
            have h3':¬p.1.n>q.1.n:=h3
            have hq0:(oC (some q))[0]? =some (.int .i64 q.1.n):=rfl
            repeat' (first|apply zs_|apply zb_|apply zc_|apply zt_ rfl|apply zf_ rfl|(apply zd_ rfl<;>intro ht<;>try omega)|((first|apply zr_|apply zk_|apply ze_|apply zq_|(apply callW.mk_pu;(first|exact(fun _=>hV _)))|(apply callW.za;(first|exact(hV _)))|(apply zG<;>intro ht));all_goals try simp (disch:=first|omega|(simp only [lens,z7,z6,lQr,lQm,lQt,lQd,z8,zg,zi,zj,z12];first|done|omega)) only [go_sem,q1,q4,q6,q7,q11,q12,q13,hi',hgi,hpl,hsl,hzl,hzd,List.append_nil,r2,hol,c2,h3',hq0,Option.isSome_some]))
            exact⟨m-1,by omega,i+1,_,some q,by omega,rfl,k2.symm,hRo,by simp⟩
        · repeat' (first|apply zs_|apply zb_|apply zc_|apply zt_ rfl|apply zf_ rfl|(apply zd_ rfl<;>intro ht<;>try omega)|((first|apply zr_|apply zk_|apply ze_|apply zq_|(apply callW.mk_pu;(first|exact(fun _=>hV _)))|(apply callW.za;(first|exact(hV _)))|(apply zG<;>intro ht));all_goals try simp (disch:=first|omega|(simp only [lens,z7,z6,lQr,lQm,lQt,lQd,z8,zg,zi,zj,z12];first|done|omega)) only [go_sem,q1,q4,q6,q7,q11,q12,q13,hi',hgi,hpl,hsl,hzl,hzd,List.append_nil,r2,hol,c2]))
          exact⟨m-1,by omega,i+1,_,o,by omega,rfl,(keep (by simp [c2])).symm,hRo,by simp⟩
    · obtain rfl:i=P.length:=by omega
      rw [List.take_of_length_le (Nat.le_refl _)]at hF
      have hzl:sgZ.length=36:=zg zHd .nilsl
      have hzd:sgZ.drop 36=[]:=zce zHd .nilsl
      repeat' (first|apply zs_|apply zb_|apply zc_|apply zt_ rfl|apply zf_ rfl|(apply zd_ rfl<;>intro ht<;>try omega)|((first|apply zr_|apply zk_|apply ze_|apply zq_|(apply zG<;>intro ht));all_goals try simp (disch:=first|omega|(simp only [lens,z7,z6,lQr,lQm,lQt,lQd,z8,zg,zi,zj,z12];first|done|omega)) only [go_sem,q1,q4,q6,q7,q11,q12,q13,r2,hol,hzd,List.append_nil]))
      unfold zb6 zb5
      rw [<-hF]
      exact DownV.pure hw (by simp only [RL,RLs];exact⟨hRo _,trivial,trivial⟩)
end
section
structure Rgh where
 n:Int
 r:Hash
 i:Int
 s:List UInt8
 m:Int
 p:List Hash
structure Rev where
 k:Int
 a:Rgh
 b:Rgh
 r:Hash
 p:List Hash
def rgX(h:Rgh)(x:AV):List AV:=rgC h.n h.r h.i h.s h.m x
theorem z2c(h:Rgh)(x:AV):(rgX h x).length=37:=z21 _ _ _ _ _ _
def rvX(e:Rev)(x y z:AV):List AV:=.int .i64 e.k::(rgX e.a x++(rgX e.b y++(hc e.r++ [z])))
section
variable (e:Rev) (x y z:AV)
theorem z2e:(rvX e x y z).length=108:=by simp [rvX,z2c,z7]
theorem zkx:(rvX e x y z).drop 1=rgX e.a x++(rgX e.b y++(hc e.r++ [z])):=rfl
theorem zky:(rvX e x y z).drop 38=rgX e.b y++(hc e.r++ [z]):=by
 rw [show 38=1+37 from rfl,<-List.drop_drop,zkx,List.drop_left' (z2c e.a x)]
theorem zkz:(rvX e x y z).drop 75=hc e.r++ [z]:=by
 rw [show 75=38+37 from rfl,<-List.drop_drop,zky,List.drop_left' (z2c e.b y)]
theorem zu3:(rvX e x y z).drop 107=[z]:=by
 rw [show 107=75+32 from rfl,<-List.drop_drop,zkz,z7r]
@[go_sem] theorem rvX_0:(rvX e x y z)[0]? =some (.int .i64 e.k):=rfl
@[go_sem] theorem rvX_107:(rvX e x y z)[107]? =some z:=z6u (zu3 e x y z)
@[go_sem] theorem rvX_a:((rvX e x y z).drop 1).take 37=rgX e.a x:=by rw [zkx,List.take_left' (z2c e.a x)]
@[go_sem] theorem rvX_b:((rvX e x y z).drop 38).take 37=rgX e.b y:=by rw [zky,List.take_left' (z2c e.b y)]
@[go_sem] theorem rvX_r:((rvX e x y z).drop 75).take 32=hc e.r:=by rw [zkz,z7s]
@[go_sem] theorem rvX_all:(rvX e x y z).take 108=rvX e x y z:=List.take_of_length_le (by rw [z2e];omega)
end
def rgGr(h:Rgh):Bool:=decide (300<h.s.length \/40<h.p.length)
def rvGr(e:Rev):Bool:=rgGr e.a ||rgGr e.b ||decide (70<e.p.length)
def sgnR(h:Rgh):Hdr:=⟨h.n,h.r,h.i,sigS h.s (16384+h.m).toNat,h.p⟩
def evR(e:Rev):Ev:=⟨e.k,sgnR e.a,sgnR e.b,e.r,e.p⟩
def mOk(h:Rgh):Prop:= -128<=h.m/\ h.m<=127
theorem gr_of{e:Rev}(h:rvGr e=false):(e.a.s.length<=300/\ e.a.p.length<=40)/\ (e.b.s.length<=300/\ e.b.p.length<=40)/\ e.p.length<=70:=by
 unfold rvGr rgGr at h
 simp at h
 omega
attribute [local irreducible] ACallsTo ACallsP
theorem zfy(O:Store)(e:Rev)(x y z:AV)(hx:RdSl O 32 (hr e.a.p) x)(hy:RdSl O 32 (hr e.b.p) y)(hz:RdSl O 32 (hr e.p) z):ACallsTo TC 6 [.agg (rvX e x y z)] O (.bool (rvGr e)) O:=by
 have hA:=fun t=>zgd (O++t) e.a.n e.a.i e.a.m e.a.r e.a.s e.a.p x hx.app
 have hB:=fun t=>zgd (O++t) e.b.n e.b.i e.b.m e.b.r e.b.s e.b.p y hy.app
 have z1:=hz.len
 rw [z6]at z1
 unfold z1c at z1
 unfold rvGr rgGr
 generalize decide (300<e.a.s.length \/40<e.a.p.length)=a at*
 generalize decide (300<e.b.s.length \/40<e.b.p.length)=b at*
 have hl:=z2e e x y z
 refine ACallsTo.of_body q29ok (by simp) fun hw _=> ?_
 cases a with
 |true=>
  repeat' (first|apply zs_|apply zb_|apply zc_|apply zt_ rfl|apply zf_ rfl|(apply zd_ rfl<;>intro ht<;>try omega)|((first|apply zr_|apply zk_|apply ze_|apply zq_|(apply callW.mk_pu;(first|exact(fun _=>hA _)))|(apply callW.za;(first|exact(hA _)))|(apply zG<;>intro ht));all_goals try simp (disch:=first|omega|(simp only [lens,z7,z6,lQr,lQm,lQt,lQd,z8,zg,zi,zj,z21,z2c,z2e];first|done|omega)) only [go_sem,hl]))
  exact DownV.pure hw z16
 |false=>
 cases b with
 |true=>
  repeat' (first|apply zs_|apply zb_|apply zc_|apply zt_ rfl|apply zf_ rfl|(apply zd_ rfl<;>intro ht<;>try omega)|((first|apply zr_|apply zk_|apply ze_|apply zq_|(apply callW.mk_pu;(first|exact(fun _=>hA _)|exact(fun _=>hB _)))|(apply callW.za;(first|exact(hA _)|exact(hB _)))|(apply zG<;>intro ht));all_goals try simp (disch:=first|omega|(simp only [lens,z7,z6,lQr,lQm,lQt,lQd,z8,zg,zi,zj,z21,z2c,z2e];first|done|omega)) only [go_sem,hl]))
  exact DownV.pure hw z16
 |false=>
  by_cases h:70<e.p.length
  ·have h':(e.p.length:Int)>70:=by omega
   rw [decide_eq_true h]
   repeat' (first|apply zs_|apply zb_|apply zc_|apply zt_ rfl|apply zf_ rfl|(apply zd_ rfl<;>intro ht<;>try omega)|((first|apply zr_|apply zk_|apply ze_|apply zq_|(apply callW.mk_pu;(first|exact(fun _=>hA _)|exact(fun _=>hB _)))|(apply callW.za;(first|exact(hA _)|exact(hB _)))|(apply zG<;>intro ht));all_goals try simp (disch:=first|omega|(simp only [lens,z7,z6,lQr,lQm,lQt,lQd,z8,zg,zi,zj,z21,z2c,z2e];first|done|omega)) only [go_sem,hl,z1,h']))
   exact DownV.pure hw z16
  ·have h':¬(e.p.length:Int)>70:=by omega
   rw [decide_eq_false h]
   repeat' (first|apply zs_|apply zb_|apply zc_|apply zt_ rfl|apply zf_ rfl|(apply zd_ rfl<;>intro ht<;>try omega)|((first|apply zr_|apply zk_|apply ze_|apply zq_|(apply callW.mk_pu;(first|exact(fun _=>hA _)|exact(fun _=>hB _)))|(apply callW.za;(first|exact(hA _)|exact(hB _)))|(apply zG<;>intro ht));all_goals try simp (disch:=first|omega|(simp only [lens,z7,z6,lQr,lQm,lQt,lQd,z8,zg,zi,zj,z21,z2c,z2e];first|done|omega)) only [go_sem,hl,z1,h']))
   exact DownV.pure hw z16
theorem zfz(O:Store)(e:Rev)(x y z:AV)(hx:SlV 32 (hr e.a.p) x)(hy:SlV 32 (hr e.b.p) y)(hz:SlV 32 (hr e.p) z)(ha:mOk e.a)(hb:mOk e.b)(hg:rvGr e=false):
  ACallsTo TC 8 [.agg (rvX e x y z)] O (.agg (evX (evR e) x y z)) O:=by
 obtain⟨⟨g1,_⟩,⟨g2,_⟩,_⟩:=gr_of hg
 have hA:=fun O=>zgq O e.a.n e.a.i e.a.m e.a.r e.a.s e.a.p x hx ha g1
 have hB:=fun O=>zgq O e.b.n e.b.i e.b.m e.b.r e.b.s e.b.p y hy hb g2
 have hra:∀k,RL k x:=fun k=>z92 hx
 have hrb:∀k,RL k y:=fun k=>z92 hy
 have hrz:∀k,RL k z:=fun k=>z92 hz
 have cz:=hz.cells
 unfold cellsOf at cz
 have hl:=z2e e x y z
 have fa:∀s,sgC e.a.n e.a.r e.a.i s x=sgX ⟨e.a.n,e.a.r,e.a.i,s,e.a.p⟩ x:=fun _=>rfl
 have fb:∀s,sgC e.b.n e.b.r e.b.i s y=sgX ⟨e.b.n,e.b.r,e.b.i,s,e.b.p⟩ y:=fun _=>rfl
 have pX:∀(e:Ev) (x y z v:AV),(evX e x y z).take 105++ [v]=evX e x y v:=fun e x y z v=>by have:=zdq e x y z v;rwa [z3f]at this
 have hO:evO=evX ⟨0,zHd,zHd,zeroH,[]⟩ .nilsl .nilsl .nilsl:=rfl
 have hfz:∀(e:Ev) (x y v:AV),z18 (evX e x y v) [(105,1,z)]=some (evX e x y z):=by
  intro e x y v
  have h1:=hz.cells
  have h2:=zdq e x y v z
  rw [z3f]at h2
  simp only [z18,h1,Option.bind_some,zi,z1b,List.length_cons,List.length_nil]
  rw [if_pos ⟨trivial,by omega⟩,z3f,List.append_nil,h2]
 refine ACallsTo.of_body q2bok (by simp) fun hw _=> ?_
 repeat' (first|apply zs_|apply zb_|apply zc_|apply zt_ rfl|apply zf_ rfl|(apply zd_ rfl<;>intro ht<;>try omega)|((first|apply zr_|apply zk_|apply ze_|apply zq_|(apply callW.mk_pu;(first|exact(fun _=>hA _)|exact(fun _=>hB _)))|(apply callW.za;(first|exact(hA _)|exact(hB _)))|(apply zG<;>intro ht));all_goals try simp (disch:=first|omega|(simp only [lens,z7,z6,lQr,lQm,lQt,lQd,z8,zg,zi,zj,z21,z2c,z2e];first|done|omega)) only [go_sem,hl,cz,hfz,fa,fb,pX,hO,zg,zi,z3f,List.append_nil]))
 have hrl:RL O.length (.agg (evX (evR e) x y z)):=by
  simp only [RL]
  exact zex (evR e) x y z (hra _) (hrb _) (hrz _)
 exact DownV.pure hw hrl
end
section
theorem zh2{L:List Hash}{w:HV}:∀(P:List HV) (o:Option HV),P.foldl (z3v L) o=some w->o=some w \/(w ∈ P/\ valH w.1=true/\ w.1.n<=L.length)
 | [],o,h=> .inl h
 |p::P,o,h=>by
  rcases zh2 P (z3v L o p) h with h1| ⟨h1,h2⟩
  ·unfold z3v at h1
   split at h1
   ·rename_i hb
    simp only [Option.some.injEq]at h1
    subst h1
    unfold z9i at hb
    simp only [Bool.and_eq_true,decide_eq_true_eq]at hb
    exact .inr ⟨List.mem_cons_self,hb.1.1.1,hb.1.1.2⟩
   ·exact .inl h1
  ·exact .inr ⟨List.mem_cons_of_mem _ h1,h2⟩
theorem zij{a b:HV}:∀(P:List HV),z2y P=some (a,b)->a ∈ P/\ b ∈ P/\ valH a.1=true/\ valH b.1=true
 |p::P,h=>by
  unfold z2y at h
  cases hf:P.find? (z3m p)with
  |some q=>
   rw [hf]at h
   simp only [Option.some.injEq,Prod.mk.injEq]at h
   obtain⟨rfl,rfl⟩:=h
   have h1:=List.find?_some hf
   have h2:=List.mem_of_find?_eq_some hf
   unfold z3m at h1
   simp only [Bool.and_eq_true,decide_eq_true_eq]at h1
   exact⟨List.mem_cons_self,List.mem_cons_of_mem _ h2,h1.1⟩
  |none=>
   rw [hf]at h
   obtain⟨h1,h2,h3⟩:=zij P h
   exact⟨List.mem_cons_of_mem _ h1,List.mem_cons_of_mem _ h2,h3⟩
attribute [local irreducible] ACallsTo ACallsP
theorem z4m{h:Hdr}(hv:valH h=true):h.p ≠ []/\ h.p.length<1000000:=by
 have:=(zcv hv).2.2
 exact⟨fun e=>by rw [e]at this;simp at this,by omega⟩
theorem zgb(O:Store)(P:List HV)(v w:AV)(L:List Hash)(hv:SlV 36 (hrw P) v)(hP:HOk P)(hl:P.length<1000000)(hw':SlV 32 (hr L) w)(hL:L.length<1000000):
  ACallsTo TC 28 [v,w] O (z9y (z9x L P)) O:=by
 have hFk:=fun O=>zpp O P v hv hP hl
 have hAn:=fun O=>znb O P v w L hv hP hl hw' hL
 have hzl:sgZ.length=36:=zg zHd .nilsl
 have hzd:sgZ.drop 36=[]:=zce zHd .nilsl
 have hO6:evO.drop 106=[]:=z3f _ _ _ _
 have hel:=fun e x y z=>zi e x y z
 have hed:=fun e x y z=>z3f e x y z
 have hrv:∀(k:Nat) (l:List Hash),RL k (z11 32 (hr l)):=fun k l=>zkk (z2p _)
 refine ACallsTo.of_body q2hok (by simp) fun hw _=> ?_
 unfold z9x
 cases hf:z2y P with
 |some pq=>
  obtain⟨p,q⟩:=pq
  rw [hf]at hFk
  unfold zdx at hFk
  obtain⟨mp,mq,vp,vq⟩:=zij P hf
  have hOw:=fun O=>zjv O ⟨1,p.1,q.1,zeroH,[]⟩ p.2 q.2 .nilsl (hP p mp) (hP q mq) (by simp [RL]) (z4m vp).1 (z4m vq).1 (z4m vp).2 (z4m vq).2
  have e:z9y (some (⟨1,p.1,q.1,zeroH,[]⟩,p.2,q.2))=.tup [.agg (evX ⟨1,p.1,q.1,zeroH,[]⟩ (z11 32 (hr p.1.p)) (z11 32 (hr q.1.p)) .nilsl),.bool true]:=rfl
  simp only
  rw [e]
  repeat' (first|apply zs_|apply zb_|apply zc_|apply zt_ rfl|apply zf_ rfl|(apply zd_ rfl<;>intro ht<;>try omega)|((first|apply zr_|apply zk_|apply ze_|apply zq_|(apply callW.mk_pu;(first|exact(fun _=>hFk _)|exact(fun _=>hOw _)))|(apply callW.za;(first|exact(hFk _)|exact(hOw _)))|(apply zG<;>intro ht));all_goals try simp (disch:=first|omega|(simp only [lens,z7,z6,lQr,lQm,lQt,lQd,z8,zg,zi,zj,z12];first|done|omega)) only [go_sem,zj,hO6,hel,hed,List.append_nil]))
  exact DownV.pure hw (rlE' _ (hrv _ _) (hrv _ _) (by simp [RL]) (by simp [RL]))
 |none=>
  rw [hf]at hFk
  unfold zdx at hFk
  simp only
  have ev0:z9y none=.tup [.agg evO,.bool false]:=rfl
  have rO:∀k,RL k (.tup [.agg evO,.bool false]):=fun k=>rlE' evZ0 (by simp [RL]) (by simp [RL]) (by simp [RL]) (by simp [RL])
  cases ha:zb5 L P with
  |none=>
   rw [ha]at hAn
   have e1:zb6 none=.tup [.agg sgZ,.bool false]:=rfl
   rw [e1]at hAn
   simp only
   rw [ev0]
   repeat' (first|apply zs_|apply zb_|apply zc_|apply zt_ rfl|apply zf_ rfl|(apply zd_ rfl<;>intro ht<;>try omega)|((first|apply zr_|apply zk_|apply ze_|apply zq_|(apply callW.mk_pu;(first|exact(fun _=>hFk _)|exact(fun _=>hAn _)))|(apply callW.za;(first|exact(hFk _)|exact(hAn _)))|(apply zG<;>intro ht));all_goals try simp (disch:=first|omega|(simp only [lens,z7,z6,lQr,lQm,lQt,lQd,z8,zg,zi,zj,z12];first|done|omega)) only [go_sem,zj,hO6,hzl,hzd,List.append_nil]))
   exact DownV.pure hw (rO _)
  |some g=>
   rw [ha]at hAn
   have e1:zb6 (some g)=.tup [.agg (sgX g.1 g.2),.bool true]:=rfl
   rw [e1]at hAn
   simp only
   obtain⟨mg,vg,ng⟩:g ∈ P/\ valH g.1=true/\ g.1.n<=L.length:=by
    rcases zh2 P none ha with h|h
    ·cases h
    ·exact h
   have hg:=hP g mg
   have r1:=hv.len
   rw [z12]at r1
   unfold z1c at r1
   have hgl:=zg g.1 g.2
   repeat' (first|apply zs_|apply zb_|apply zc_|apply zt_ rfl|apply zf_ rfl|(apply zd_ rfl<;>intro ht<;>try omega)|((first|apply zr_|apply zk_|apply ze_|apply zq_|(apply callW.mk_pu;(first|exact(fun _=>hFk _)|exact(fun _=>hAn _)))|(apply callW.za;(first|exact(hFk _)|exact(hAn _)))|(apply zG<;>intro ht));all_goals try simp (disch:=first|omega|(simp only [lens,z7,z6,lQr,lQm,lQt,lQd,z8,zg,zi,zj,z12];first|done|omega)) only [go_sem,zj,hO6,hzl,hzd,hgl,r1,List.append_nil]))
   refine zW.loop (fun m J O'=>∃(i:Nat) (y:Store),m+i=P.length/\ O'=O++(some [evO]::some [evO]::some [sgX g.1 g.2]::y)/\ P.find? (splB L g)=(P.drop i).find? (splB L g)/\ J 1=w/\ J 4=.ptr O.length 0 0/\ J 8=.ptr (O.length+2) 0 0/\ J 32=v/\ J 33=.int .i64 P.length/\ J 34=.int .i64 i) P.length ?_ ?_
   ·exact⟨0,[],by omega,rfl,rfl,by simp (disch:=first|omega|(simp only [lens,z7,z6,lQr,lQm,lQt,lQd,z8,zg,zi,zj,z12];first|done|omega)) only [go_sem],by simp (disch:=first|omega|(simp only [lens,z7,z6,lQr,lQm,lQt,lQd,z8,zg,zi,zj,z12];first|done|omega)) only [go_sem],by simp (disch:=first|omega|(simp only [lens,z7,z6,lQr,lQm,lQt,lQd,z8,zg,zi,zj,z12];first|done|omega)) only [go_sem],by simp (disch:=first|omega|(simp only [lens,z7,z6,lQr,lQm,lQt,lQd,z8,zg,zi,zj,z12];first|done|omega)) only [go_sem],by simp (disch:=first|omega|(simp only [lens,z7,z6,lQr,lQm,lQt,lQd,z8,zg,zi,zj,z12];first|done|omega)) only [go_sem],by simp (disch:=first|omega|(simp only [lens,z7,z6,lQr,lQm,lQt,lQd,z8,zg,zi,zj,z12];first|done|omega)) only [go_sem];rfl⟩
   ·rintro m J O' ⟨i,y,hm,rfl,hF,q1,q4,q8,q32,q33,q34⟩
    by_cases hi:i<P.length
    ·have hi':(i:Int)<P.length:=by omega
     obtain⟨ex,rfl⟩:=hv.vsl (by rw [z12];omega)
     have hgi:=zbn hi
     have hp:=hP.at hi
     have hfd:=zie (f:=splB L g) hi
     rw [hfd]at hF
     have hpl:=z12 P
     generalize P[i]=p at*
     have hsl:=zg p.1 p.2
     have hV:=fun O=>z6r O p.1.n p.1.i p.1.r p.1.s p.1.p p.2 (.of hp)
     have hval:valH p.1=z1t p.1.n p.1.i p.1.s p.1.p:=rfl
     have hvn:= @zcv p.1
     have hvp:= @z4m p.1
     rw [show splB L g p=(valH p.1 && decide (p.1.n<g.1.n) && decide (z1d (L.take p.1.n.toNat) ≠ p.1.r))from rfl,hval]at hF
     rw [hval]at hvn hvp
     generalize z1t p.1.n p.1.i p.1.s p.1.p=vb at*
     cases vb with
     |false=>
      rw [if_neg (by simp)]at hF
      repeat' (first|apply zs_|apply zb_|apply zc_|apply zt_ rfl|apply zf_ rfl|(apply zd_ rfl<;>intro ht<;>try omega)|((first|apply zr_|apply zk_|apply ze_|apply zq_|(apply callW.mk_pu;(first|exact(fun _=>hV _)))|(apply callW.za;(first|exact(hV _)))|(apply zG<;>intro ht));all_goals try simp (disch:=first|omega|(simp only [lens,z7,z6,lQr,lQm,lQt,lQd,z8,zg,zi,zj,z12];first|done|omega)) only [go_sem,q1,q4,q8,q32,q33,q34,hi',hgi,hpl,hsl,hgl,hzl,hzd,List.append_nil]))
      exact⟨m-1,by omega,i+1,_,by omega,rfl,hF,by simp⟩
     |true=>
     by_cases c2:p.1.n<g.1.n
     ·have c2':¬p.1.n>=g.1.n:=by omega
      obtain⟨n0,n1,_⟩:=hvn rfl
      obtain⟨g0,g1,_⟩:=zcv vg
      have hLn:(hr L).length=L.length:=z6 L
      obtain⟨b,rfl⟩:=hw'.vsl (by rw [z6];omega)
      have fk:=zdv L p.1.n.toNat
      have fk2:=zdv L g.1.n.toNat
      have hR:=fun O b=>zai O (L.take p.1.n.toNat) (.vsl 32 (hr (L.take p.1.n.toNat)) b) (.of (.inr ⟨b,rfl⟩)) (by rw [List.length_take];omega)
      have hPr:=fun O b=>zmu O (L.take g.1.n.toNat) (.vsl 32 (hr (L.take g.1.n.toNat)) b) p.1.n (.inr ⟨b,rfl⟩) (by rw [List.length_take];omega)
      generalize hRR:z1d (L.take p.1.n.toNat)=R at*
      by_cases c3:R=p.1.r
      ·have hb:(true && decide (p.1.n<g.1.n) && decide (R ≠ p.1.r))=false:=by simp [c3]
       rw [hb,if_neg (by simp)]at hF
       repeat' (first|apply zs_|apply zb_|apply zc_|apply zt_ rfl|apply zf_ rfl|(apply zd_ rfl<;>intro ht<;>try omega)|((first|apply zr_|apply zk_|apply ze_|apply zq_|(apply callW.mk_pu;(first|exact(fun _=>hV _)|exact(fun _=>hR _ _)))|(apply callW.za;(first|exact(hV _)|exact(hR _ _)))|(apply zG<;>intro ht));all_goals try simp (disch:=first|omega|(simp only [lens,z7,z6,lQr,lQm,lQt,lQd,z8,zg,zi,zj,z12];first|done|omega)) only [go_sem,q1,q4,q8,q32,q33,q34,hi',hgi,hpl,hsl,hgl,hzl,hzd,List.append_nil,c2',c3,hLn,fk]))
       exact⟨m-1,by omega,i+1,_,by omega,rfl,hF,by simp⟩
      ·have hb:(true && decide (p.1.n<g.1.n) && decide (R ≠ p.1.r))=true:=by simp [c2,c3]
       rw [hb,if_pos rfl]at hF
       rw [hF]
       simp only [hRR]
       have e:z9y (some (⟨2,p.1,g.1,R,z7z (L.take g.1.n.toNat) p.1.n⟩,p.2,g.2))=.tup [.agg (evX ⟨2,p.1,g.1,R,z7z (L.take g.1.n.toNat) p.1.n⟩ (z11 32 (hr p.1.p)) (z11 32 (hr g.1.p)) (z11 32 (hr (z7z (L.take g.1.n.toNat) p.1.n)))),.bool true]:=rfl
       rw [e]
       generalize z7z (L.take g.1.n.toNat) p.1.n=pf at*
       have hOw:=fun O=>zjv O ⟨2,p.1,g.1,R,pf⟩ p.2 g.2 (z11 32 (hr pf)) hp hg (hrv _ _) (hvp rfl).1 (z4m vg).1 (hvp rfl).2 (z4m vg).2
       have hfz:∀(e:Ev) (x y v:AV),z18 (evX e x y v) [(105,1,z11 32 (hr pf))]=some (evX e x y (z11 32 (hr pf))):=by
        intro e x y v
        have h1:=zut (sz:=32) (es:=hr pf)
        have h2:=zdq e x y v (z11 32 (hr pf))
        rw [z3f]at h2
        simp only [z18,h1,Option.bind_some,zi,z1b,List.length_cons,List.length_nil]
        rw [if_pos ⟨trivial,by omega⟩,z3f,List.append_nil,h2]
       have hrz:=hrv O.length pf
       have hO:evO=evX ⟨0,zHd,zHd,zeroH,[]⟩ .nilsl .nilsl .nilsl:=rfl
       generalize z11 32 (hr pf)=Z at*
       repeat' (first|apply zs_|apply zb_|apply zc_|apply zt_ rfl|apply zf_ rfl|(apply zd_ rfl<;>intro ht<;>try omega)|((first|apply zr_|apply zk_|apply ze_|apply zq_|(apply callW.mk_pu;(first|exact(fun _=>hV _)|exact(fun _=>hR _ _)|exact(fun _=>hPr _ _)|exact(fun _=>hOw _)))|(apply callW.za;(first|exact(hV _)|exact(hR _ _)|exact(hPr _ _)|exact(hOw _)))|(apply zG<;>intro ht));all_goals try simp (disch:=first|omega|(simp only [lens,z7,z6,lQr,lQm,lQt,lQd,z8,zg,zi,zj,z12];first|done|omega)) only [go_sem,q1,q4,q8,q32,q33,q34,hi',hgi,hpl,hsl,hgl,hzl,hzd,List.append_nil,c2',c3,hLn,fk,fk2,hfz,hO,hel,hed]))
       exact DownV.pure hw (rlE' _ (hrv _ _) (hrv _ _) hrz (by simp [RL]))
     ·have c2':p.1.n>=g.1.n:=by omega
      have hb:(true && decide (p.1.n<g.1.n) && decide (z1d (L.take p.1.n.toNat) ≠ p.1.r))=false:=by simp [c2]
      rw [hb,if_neg (by simp)]at hF
      repeat' (first|apply zs_|apply zb_|apply zc_|apply zt_ rfl|apply zf_ rfl|(apply zd_ rfl<;>intro ht<;>try omega)|((first|apply zr_|apply zk_|apply ze_|apply zq_|(apply callW.mk_pu;(first|exact(fun _=>hV _)))|(apply callW.za;(first|exact(hV _)))|(apply zG<;>intro ht));all_goals try simp (disch:=first|omega|(simp only [lens,z7,z6,lQr,lQm,lQt,lQd,z8,zg,zi,zj,z12];first|done|omega)) only [go_sem,q1,q4,q8,q32,q33,q34,hi',hgi,hpl,hsl,hgl,hzl,hzd,List.append_nil,c2']))
      exact⟨m-1,by omega,i+1,_,by omega,rfl,hF,by simp⟩
    ·obtain rfl:i=P.length:=by omega
     rw [List.drop_length]at hF
     rw [hF]
     simp only [List.find?_nil]
     rw [ev0]
     have hO:evO=evX ⟨0,zHd,zHd,zeroH,[]⟩ .nilsl .nilsl .nilsl:=rfl
     repeat' (first|apply zs_|apply zb_|apply zc_|apply zt_ rfl|apply zf_ rfl|(apply zd_ rfl<;>intro ht<;>try omega)|((first|apply zr_|apply zk_|apply ze_|apply zq_|(apply zG<;>intro ht));all_goals try simp (disch:=first|omega|(simp only [lens,z7,z6,lQr,lQm,lQt,lQd,z8,zg,zi,zj,z12];first|done|omega)) only [go_sem,q1,q4,q8,q32,q33,q34,zj,hO6,List.append_nil]))
     exact DownV.pure hw (rO _)
end
section
theorem ac_ne:z1f (shaS [0,97]) (shaS [0,98]) ≠ z1f (shaS [0,97]) (shaS [0,99]):=by decide+kernel
def lgC:List (List UInt8):=[[97],[99]]
def hdP:Hdr:=mkH logS 0 lgA
def hdQ:Hdr:=mkH logS 0 lgC
theorem zja:logS.length<1000000:=by simp [logS]
theorem zjj(seed:List UInt8)(i:Nat)(M:List (List UInt8))(hi:i<8)(hM:M.length<=4096):valH (mkH seed i M)=true:=
 decide_eq_true ⟨by simp only [mkH];omega,by simp only [mkH];omega,by simp only [mkH];omega,by simp only [mkH];omega,zbq _ _ _,zek _ _⟩
theorem za3:valH hdP=true:=zjj logS 0 lgA (by omega) (by simp [lgA])
theorem zbm:valH hdQ=true:=zjj logS 0 lgC (by omega) (by simp [lgC])
theorem hdPQ:hdP.r ≠ hdQ.r:=by
 show z1d [lfH [97],lfH [98]] ≠ z1d [lfH [97],lfH [99]]
 rw [zca,zca]
 intro h
 have h2:=congrArg Subtype.val h
 simp only [z15,lfH,shaH]at h2
 exact ac_ne h2
theorem zq7:z3m (hdP,z11 32 (hr hdP.p)) (hdQ,z11 32 (hr hdQ.p))=true:=by
 unfold z3m
 rw [za3,zbm]
 simp only [Bool.true_and,decide_eq_true_eq]
 exact(ord3 _ _ _ _).2 ⟨rfl,hdPQ⟩
def evPQ:Ev:=⟨1,hdP,hdQ,zeroH,[]⟩
theorem zi9:mayB evPQ=true:=by
 unfold mayB z5e
 rw [show valH evPQ.a=true from za3,show valH evPQ.b=true from zbm,if_pos (show evPQ.k=1 from rfl),decide_eq_true (show evPQ.a.n=evPQ.b.n/\ evPQ.a.r ≠ evPQ.b.r/\ evPQ.r=zeroH/\ evPQ.p=[]from⟨rfl,hdPQ,rfl,rfl⟩)]
 rfl
theorem zw2(seed:List UInt8)(dg x:Hash)(hx:z1d (keyL seed) ≠ x):verI x dg (0:Nat) (ksgS seed (0:Nat) dg.1) (z1p (keyL seed) 0) ≠ 0:=by
 have hc:chkP (hd (keyL seed) 0) (0:Nat) 8 (z1p (keyL seed) 0) x ≠ 0:=by
  obtain⟨a,b,c,d,e,f,g,h,hK⟩:=len8 (z3n seed)
  rw [hK]at hx ⊢
  rw [zf0]at hx
  obtain⟨p0,_⟩:=zk0 a b c d e f g h
  rw [p0,z59 0 (by omega),if_neg]
  ·decide
  ·exact fun e=>hx (by rw [<-e];simp [z2q,hd])
 unfold verI
 rw [if_neg (by omega),if_pos (zbq _ _ _),zk9,<-zj3 seed 0 (by omega),if_neg hc]
 decide
theorem zo7:z3x (z1d (keyL logS)) evPQ=0:=by
 unfold z3x
 rw [zi9,if_neg (by simp),if_neg,if_neg]
 ·exact fun h=>absurd h.1 (by decide)
 ·rintro(h|h)
  ·exact h (zji logS 0 lgA (by omega) (by simp [lgA]))
  ·exact h (zji logS 0 lgC (by omega) (by simp [lgC]))
theorem zo6:z3x oneH evPQ=81:=by
 unfold z3x
 rw [zi9,if_neg (by simp),if_pos]
 refine .inl fun h=> ?_
 unfold z3h at h
 rw [show z1t evPQ.a.n evPQ.a.i evPQ.a.s evPQ.a.p=true from za3,if_neg (by simp),if_neg]at h
 ·exact absurd h (by decide)
 ·exact zw2 logS _ oneH (root_g oneH rfl)
theorem chkO(k:Hash):z3x k evZ0=2:=by
 unfold z3x
 rw [show mayB evZ0=false from rfl,if_pos rfl]
theorem zj6:z1d (keyL logS)=kyA:=rfl
theorem zq8:mkH logS 0 (lgA.take 2)=hdP:=rfl
theorem zq9:mkH logS 0 (lgC.take 2)=hdQ:=rfl
attribute [local irreducible] ACallsTo ACallsP kyA hdP hdQ logS
theorem zq3:hc oneH=[.int .u8 1,.int .u8 0,.int .u8 0,.int .u8 0,.int .u8 0,.int .u8 0,.int .u8 0,.int .u8 0,.int .u8 0,.int .u8 0,.int .u8 0,.int .u8 0,.int .u8 0,.int .u8 0,.int .u8 0,.int .u8 0,.int .u8 0,.int .u8 0,.int .u8 0,.int .u8 0,.int .u8 0,.int .u8 0,.int .u8 0,.int .u8 0,.int .u8 0,.int .u8 0,.int .u8 0,.int .u8 0,.int .u8 0,.int .u8 0,.int .u8 0,.int .u8 0]:=rfl
theorem zul(hw:Wf ([]:Store).length [])(τ:Store)(A B:Hdr)(ky:Hash)(e:Ev)(x y:AV)(J:Env)(q2:J 2=.bool false)(q3:J 3=.ptr 3 0 0)(q4:J 4=.ptr 4 0 0)(dτ:τ.length=5)(hk:e.k=1)
  (h3:τ[3]? =some (some [[AV.ptr 2 0 0,AV.vsl 1 [[AV.str [97]],[AV.str [98]]] true]])) (h4:τ[4]? =some (some [[AV.ptr 2 0 0,AV.vsl 1 [[AV.str [97]],[AV.str [99]]] true]]))
  (hH1:∀y,ACallsTo TC 30 [.agg [.ptr 2 0 0,.vsl 1 [[.str [97]],[.str [98]]] true],.int .i64 2,.int .i64 0] (τ++y) (.agg (hdrC A)) (τ++y))
  (hH2:∀y,ACallsTo TC 30 [.agg [.ptr 2 0 0,.vsl 1 [[.str [97]],[.str [99]]] true],.int .i64 2,.int .i64 0] (τ++y) (.agg (hdrC B)) (τ++y))
  (hRt:∀y,ACallsTo TC 20 [.ptr 2 0 0] (τ++y) (.agg (hc ky)) (τ++y))
  (hF:∀O b,ACallsTo TC 28 [.vsl 36 [hdrC A,hdrC B] b,.nilsl] O (.tup [.agg (evX e x y .nilsl),.bool true]) O)
  (hC1:∀O,ACallsTo TC 11 [.agg (hc ky),.agg (evX e x y .nilsl)] O (.int .i64 0) O)
  (hC2:∀O,ACallsTo TC 11 [.agg (hc oneH),.agg (evX e x y .nilsl)] O (.int .i64 81) O)
  (hC3:∀O,ACallsTo TC 11 [.agg (hc ky),.agg evO] O (.int .i64 2) O):
  zW TC 58 0 zeo (endQ 0 [.t 0] (.bool true) []) J τ:=by
 have hH1':=hH1 []
 have hH2':=hH2 []
 rw [List.append_nil]at hH1' hH2'
 have la:=z3i A
 have lb:=z3i B
 have hel:=zi e x y .nilsl
 have hO6:evO.drop 106=[]:=z3f _ _ _ _
 have hRt0:=hRt []
 rw [List.append_nil]at hRt0
 repeat' (first|apply zs_|apply zb_|apply zc_|apply zt_ rfl|apply zf_ rfl|(apply zd_ rfl<;>intro ht<;>try omega)|((first|apply zr_|apply zk_|apply ze_|apply zq_|(apply zG<;>intro ht));all_goals try simp (disch:=first|omega|(simp only [lens,z7,z6,lQr,lQm,lQt,lQd,z8,zg,zi,zj,z12,z28];first|done|omega)) only [go_sem,h3,h4,q2,q3,q4]))
 refine callW.mk_pu2 (caps:=[]) hH1' (fun h hh=>hh.elim) ?_
 simp (disch:=first|omega|(simp only [lens,z7,z6,lQr,lQm,lQt,lQd,z8,zg,zi,zj,z12,z28];first|done|omega)) only [go_sem,h4,q4]
 refine callW.mk_pu2 (caps:=[]) hH2' (fun h hh=>hh.elim) ?_
 simp (disch:=first|omega|(simp only [lens,z7,z6,lQr,lQm,lQt,lQd,z8,zg,zi,zj,z12,z28];first|done|omega)) only [go_sem,h3,h4,q3,q4,hH1,hH2,la,lb]
 refine callW.mk_pu (caps:=[]) (fun O=>hF O _) ?_
 simp (disch:=first|omega|(simp only [lens,z7,z6,lQr,lQm,lQt,lQd,z8,zg,zi,zj,z12,z28];first|done|omega)) only [go_sem,h3,h4,q2,q3,q4,hH1,hH2,la,lb,hel,hO6,zj,List.append_nil]
 repeat' (first|apply zs_|apply zb_|apply zc_|apply zt_ rfl|apply zf_ rfl|(apply zd_ rfl<;>intro ht<;>try omega)|((first|apply zr_|apply zk_|apply ze_|apply zq_|(apply callW.mk_pu;(first|exact(fun _=>hRt _)|exact(fun _=>hC1 _)|exact(fun _=>hC2 _)|exact(fun _=>hC3 _)))|(apply callW.za;(first|exact(hRt _)|exact(hC1 _)|exact(hC2 _)|exact(hC3 _)))|(apply zG<;>intro ht));all_goals try simp (disch:=first|omega|(simp only [lens,z7,z6,lQr,lQm,lQt,lQd,z8,zg,zi,zj,z12,z28];first|done|omega)) only [go_sem,h3,h4,q2,q3,q4,hel,hk,zj,hO6,List.append_nil,<-zq3]))
 exact DownV.pure (τ:=[]) hw z16
theorem P_head(τ:Store)(ht:τ[2]? =some (some [z1m true logS (keyL logS)]))(dτ:τ.length=5):∀y,ACallsTo TC 30 [.agg [.ptr 2 0 0,.vsl 1 [[.str [97]],[.str [98]]] true],.int .i64 2,.int .i64 0] (τ++y) (.agg (hdrC hdP)) (τ++y):=fun y=>by
 have hLs:∀s ∈ lgA,s.length<1000000:=by intro s hs;simp [lgA]at hs;rcases hs with rfl|rfl<;>simp
 have h:=zgh (τ++y) 2 logS lgA true 2 0 0 rfl (by omega) (by simp [lgA]) (by rw [gapp (by omega)];exact ht) zja hLs (by simp [lgA])
 rw [zq8]at h
 exact h
theorem Q_head(τ:Store)(ht:τ[2]? =some (some [z1m true logS (keyL logS)]))(dτ:τ.length=5):∀y,ACallsTo TC 30 [.agg [.ptr 2 0 0,.vsl 1 [[.str [97]],[.str [99]]] true],.int .i64 2,.int .i64 0] (τ++y) (.agg (hdrC hdQ)) (τ++y):=fun y=>by
 have hLc:∀s ∈ lgC,s.length<1000000:=by intro s hs;simp [lgC]at hs;rcases hs with rfl|rfl<;>simp
 have h:=zgh (τ++y) 2 logS lgC true 2 0 0 rfl (by omega) (by simp [lgC]) (by rw [gapp (by omega)];exact ht) zja hLc (by simp [lgC])
 rw [zq9]at h
 exact h
theorem zmq(A B:Hdr)(hf:z3m (A,z11 32 (hr A.p)) (B,z11 32 (hr B.p))=true)(O:Store)(b:Bool):
  ACallsTo TC 28 [.vsl 36 [hdrC A,hdrC B] b,.nilsl] O (.tup [.agg (evX ⟨1,A,B,zeroH,[]⟩ (z11 32 (hr A.p)) (z11 32 (hr B.p)) .nilsl),.bool true]) O:=by
 have hOk:HOk [(A,z11 32 (hr A.p)),(B,z11 32 (hr B.p))]:=by
  intro p hp
  simp only [List.mem_cons,List.not_mem_nil,or_false]at hp
  rcases hp with rfl|rfl
  ·exact z88 _ _
  ·exact z88 _ _
 have hF2:=zgb O [(A,z11 32 (hr A.p)),(B,z11 32 (hr B.p))] (.vsl 36 [hdrC A,hdrC B] b) .nilsl [] (.inr ⟨b,rfl⟩) hOk (by simp) (.inl ⟨rfl,rfl⟩) (by simp)
 have hfp:z9x [] [(A,z11 32 (hr A.p)),(B,z11 32 (hr B.p))]=some (⟨1,A,B,zeroH,[]⟩,z11 32 (hr A.p),z11 32 (hr B.p)):=by
  unfold z9x z2y
  rw [List.find?_cons,hf]
 rw [hfp]at hF2
 exact hF2
theorem zg9(A B:Hdr)(key:Hash)(i:Int)(hi:z3x key ⟨1,A,B,zeroH,[]⟩=i)(ha:A.p.length<1000000)(hb:B.p.length<1000000)(O:Store):
  ACallsTo TC 11 [.agg (hc key),.agg (evX ⟨1,A,B,zeroH,[]⟩ (z11 32 (hr A.p)) (z11 32 (hr B.p)) .nilsl)] O (.int .i64 i) O:=by
 rw [<-hi]
 exact zd3 O key ⟨1,A,B,zeroH,[]⟩ (z11 32 (hr A.p)) (z11 32 (hr B.p)) .nilsl zlk zlk (.of (.inl ⟨rfl,rfl⟩)) ⟨ha,hb,Nat.zero_lt_succ _⟩
theorem zmo(key:Hash)(O:Store):ACallsTo TC 11 [.agg (hc key),.agg evO] O (.int .i64 2) O:=by
 have h:=zd3 O key evZ0 .nilsl .nilsl .nilsl (.of (.inl ⟨rfl,rfl⟩)) (.of (.inl ⟨rfl,rfl⟩)) (.of (.inl ⟨rfl,rfl⟩)) ⟨Nat.zero_lt_succ _,Nat.zero_lt_succ _,Nat.zero_lt_succ _⟩
 rw [chkO]at h
 exact h
theorem E_own(O:Store):ACallsTo TC 11 [.agg (hc kyA),.agg (evX ⟨1,hdP,hdQ,zeroH,[]⟩ (z11 32 (hr hdP.p)) (z11 32 (hr hdQ.p)) .nilsl)] O (.int .i64 0) O:=
 zg9 hdP hdQ kyA 0 (by rw [<-zj6];exact zo7) (z4m za3).2 (z4m zbm).2 O
theorem E_one(O:Store):ACallsTo TC 11 [.agg (hc oneH),.agg (evX ⟨1,hdP,hdQ,zeroH,[]⟩ (z11 32 (hr hdP.p)) (z11 32 (hr hdQ.p)) .nilsl)] O (.int .i64 81) O:=
 zg9 hdP hdQ oneH 81 zo6 (z4m za3).2 (z4m zbm).2 O
attribute [local irreducible] zeo
theorem zuj:ACallsTo TC 7 [] [] (.bool true) []:=by
 have hMd:=fun O=>zmn O [] (strs lgA) true
 rw [show strs lgA=[[.str [97]],[.str [98]]]from rfl]at hMd
 have hF0:=fun O=>zgb O [] .nilsl .nilsl [] (.inl ⟨rfl,rfl⟩) (fun _ h=>by cases h) (by simp) (.inl ⟨rfl,rfl⟩) (by simp)
 rw [show z9y (z9x [] [])=.tup [.agg evO,.bool false]from rfl]at hF0
 have hO6:evO.drop 106=[]:=z3f _ _ _ _
 refine ACallsTo.of_body q2aok (by simp) fun hw _=> ?_
 repeat' (first|apply zs_|apply zb_|apply zc_|apply zt_ rfl|apply zf_ rfl|(apply zd_ rfl<;>intro ht<;>try omega)|((first|apply zr_|apply zk_|apply ze_|apply zq_|(apply callW.mk_pu;(first|exact(fun _=>hMd _)|exact(fun _=>hF0 _)))|(apply callW.za;(first|exact(hMd _)|exact(hF0 _)))|(apply zG<;>intro ht));all_goals try simp (disch:=first|omega|(simp only [lens,z7,z6,lQr,lQm,lQt,lQd,z8,zg,zi,zj,z12,z28];first|done|omega)) only [go_sem,zj,hO6,List.append_nil]))
 generalize hτ:([some [evO],some [[AV.ptr 2 0 0,_]],some [z1m true logS (keyL logS)],some [_],some [_]]:Store)=τ
 have ht:τ[2]? =some (some [z1m true logS (keyL logS)]):=by rw [<-hτ];rfl
 have h3:τ[3]? =some (some [[AV.ptr 2 0 0,AV.vsl 1 [[AV.str [97]],[AV.str [98]]] true]]):=by rw [<-hτ];rfl
 have h4:τ[4]? =some (some [[AV.ptr 2 0 0,AV.vsl 1 [[AV.str [97]],[AV.str [99]]] true]]):=by rw [<-hτ];rfl
 have dτ:τ.length=5:=by rw [<-hτ];rfl
 clear hτ
 have hRt:=fun y=>zvr (τ++y) 2 logS (keyL logS) (by rw [gapp (by omega)];exact ht) (z3n _)
 rw [zj6]at hRt
 exact zul hw τ hdP hdQ kyA ⟨1,hdP,hdQ,zeroH,[]⟩ _ _ _ (by simp (disch:=first|omega|(simp only [lens,z7,z6,lQr,lQm,lQt,lQd,z8,zg,zi,zj,z12,z28];first|done|omega)) only [go_sem]) (by simp (disch:=first|omega|(simp only [lens,z7,z6,lQr,lQm,lQt,lQd,z8,zg,zi,zj,z12,z28];first|done|omega)) only [go_sem]) (by simp (disch:=first|omega|(simp only [lens,z7,z6,lQr,lQm,lQt,lQd,z8,zg,zi,zj,z12,z28];first|done|omega)) only [go_sem]) dτ rfl h3 h4 (P_head τ ht dτ) (Q_head τ ht dτ) hRt (zmq hdP hdQ zq7) E_own E_one (zmo kyA)
theorem z8m(O:Store):ACallsTo TC 7 [] O (.bool true) O:=ACallsTo.frame glok zuj (by simp [RLs]) O
end
section
theorem zoo(e:Ev):∃(t:List UInt8) (i:Int),z8l e=.tup [.str t,.int .i64 i]:=by
 unfold z8l
 split
 ·exact⟨_,_,rfl⟩
 ·exact⟨_,_,rfl⟩
theorem zoq(e:Ev):z7o e e=true:=by simp [z7o,z47]
theorem zi8{e:Rev}(h:rvGr e=false):EvOk (evR e):=by
 obtain⟨⟨_,h1⟩,⟨_,h2⟩,h3⟩:=gr_of h
 refine⟨?_,?_,?_⟩
 ·show e.a.p.length<_;omega
 ·show e.b.p.length<_;omega
 ·show e.p.length<_;omega
def zc1:Ty:=.row [.int .i64,zcb,zcb,z3y,.sl 32 z3y]
theorem zkr{cs:List AV}(h:ShC zcb cs):∃(g:Rgh) (x:AV),cs=rgX g x/\ SlV 32 (hr g.p) x/\ mOk g/\ g.p.length<=maxLen/\ g.s.length<=maxLen/\ (-9223372036854775808<=g.n/\ g.n<=9223372036854775807)/\ (-9223372036854775808<=g.i/\ g.i<=9223372036854775807):=by
 simp only [zcb,ShC,z3t]at h
 obtain⟨A,B,rfl,hA,C,D,rfl,hC,E,F,rfl,hE,G,K,rfl,hG,M,N,rfl,hM,rfl⟩:=h
 obtain⟨A1,A2,rfl,⟨n,rfl,n1,n2⟩,A3,A4,rfl,hA3,rfl⟩:=hA
 obtain⟨r,rfl⟩:=zio hA3
 obtain⟨i,rfl,i1,i2⟩:=hC
 obtain⟨s,rfl,hs⟩:=hE
 obtain⟨m,rfl,m1,m2⟩:=hG
 obtain⟨l,x,rfl,h3,h4⟩:=zix (by simpa only [ShC]using hM)
 simp only [IntKind.min,IntKind.max,IntKind.signed,IntKind.bits]at n1 n2 i1 i2 m1 m2
 simp at n1 n2 i1 i2 m1 m2
 exact⟨⟨n,r,i,s,m,l⟩,x,by simp [rgX,rgC],h3,⟨m1,m2⟩,h4,hs,⟨n1,n2⟩,⟨i1,i2⟩⟩
theorem rev_h{a:AV}(h:Sh zc1 a):∃(e:Rev) (x y z:AV),a=.agg (rvX e x y z)/\ SlV 32 (hr e.a.p) x/\ SlV 32 (hr e.b.p) y/\ SlV 32 (hr e.p) z/\ mOk e.a/\ mOk e.b/\ e.p.length<=maxLen:=by
 simp only [zc1,Sh]at h
 obtain⟨cs,rfl,h⟩:=h
 simp only [z3t]at h
 obtain⟨A,B,rfl,hA,C,D,rfl,hC,E,F,rfl,hE,G,K,rfl,hG,M,N,rfl,hM,rfl⟩:=h
 simp only [ShC]at hA
 obtain⟨k,rfl,_,_⟩:=hA
 obtain⟨g1,x,rfl,hx,m1,_⟩:=zkr hC
 obtain⟨g2,y,rfl,hy,m2,_⟩:=zkr hE
 obtain⟨r,rfl⟩:=zio hG
 obtain⟨l,z,rfl,hz,h4⟩:=zix (by simpa only [ShC]using hM)
 exact⟨⟨k,g1,g2,r,l⟩,x,y,z,by simp [rvX],hx,hy,hz,m1,m2,h4⟩
attribute [local irreducible] ACallsTo ACallsP
theorem zn2(hw:Wf 0 [])(e f:Ev)(key:Hash)(x y z x2 y2 z2:AV)(hx:SlV 32 (hr e.a.p) x)(hy:SlV 32 (hr e.b.p) y)(hz:SlV 32 (hr e.p) z)(he:EvOk e)(hx2:SlV 32 (hr f.a.p) x2)(hy2:SlV 32 (hr f.b.p) y2)(hz2:SlV 32 (hr f.p) z2)(hf:EvOk f)
  (J:Env) (O:Store) (ra rb:Nat) (ca:O[ra]? =some (some [evX e x y z])) (cb:O[rb]? =some (some [evX f x2 y2 z2])) (c2:O[2]? =some (some [hc key])) (q5:J 5=.ptr 2 0 0) (q7:J 7=.ptr ra 0 0) (q8:J 8=.ptr rb 0 0):
  zW TC 68 0 zk6 (endQ 0 [RV.t 6] (AV.bool true) []) J O:=by
 have hP:=fun O=>zmj O e x y z (.of hx) (.of hy) (.of hz) he
 have hP2:=fun O=>ztf O e x y z (.of hx) (.of hy) (.of hz) he
 obtain⟨T,i,eP⟩:=zoo e
 simp only [eP]at hP hP2
 have hC:=fun O=>zd3 O key e x y z (.of hx) (.of hy) (.of hz) he
 have hC2:=fun O=>zte O key e x y z (.of hx) (.of hy) (.of hz) he
 generalize z3x key e=c at*
 have hS:=fun O=>zg8 O e f x y z x2 y2 z2 (.of hx) (.of hy) (.of hz) he (.of hx2) (.of hy2) (.of hz2) hf
 have hS2:=fun O=>ztg O e f x y z x2 y2 z2 hx hy hz he hx2 hy2 hz2 hf
 generalize z7o e f=sb at*
 have hSs:=fun O=>zg8 O e e x y z x y z (.of hx) (.of hy) (.of hz) he (.of hx) (.of hy) (.of hz) he
 rw [zoq]at hSs
 repeat' (first|apply zs_|apply zb_|apply zc_|apply zt_ rfl|apply zf_ rfl|(apply zd_ rfl<;>intro ht<;>try omega)|((first|apply zr_|apply zk_|apply ze_|apply zq_|(apply callW.mk_pu;(first|exact(fun _=>hP _)|exact(fun _=>hP2 _)|exact(fun _=>hC _)|exact(fun _=>hC2 _)|exact(fun _=>hSs _)|exact(fun _=>hS _)|exact(fun _=>hS2 _)|exact(fun _=>z8m _)))|(apply callW.za;(first|exact(hP _)|exact(hP2 _)|exact(hC _)|exact(hC2 _)|exact(hSs _)|exact(hS _)|exact(hS2 _)|exact(z8m _)))|(apply zG<;>intro ht));all_goals try simp (disch:=first|omega|(simp only [lens,z7,z6,lQr,lQm,lQt,lQd,z8,zg,zi,zj,z21,z2c,z2e];first|done|omega)) only [go_sem,q5,q7,q8,ca,cb,c2,bne_self_eq_false,beq_self_eq_true]))
 exact DownV.pure (τ:=[]) hw (zz _ rfl)
theorem zml(e f:Rev)(key:Hash)(x y z x2 y2 z2:AV)(hx:SlV 32 (hr e.a.p) x)(hy:SlV 32 (hr e.b.p) y)(hz:SlV 32 (hr e.p) z)(ha:mOk e.a)(hb:mOk e.b)(hx2:SlV 32 (hr f.a.p) x2)(hy2:SlV 32 (hr f.b.p) y2)(hz2:SlV 32 (hr f.p) z2)(ha2:mOk f.a)(hb2:mOk f.b):
  ACallsTo TC 3 [.agg (rvX e x y z),.agg (rvX f x2 y2 z2),.agg (hc key)] [] (.bool true) []:=by
 have hG:=fun O=>zfy O e x y z (.of hx) (.of hy) (.of hz)
 have hG2:=fun O=>zfy O f x2 y2 z2 (.of hx2) (.of hy2) (.of hz2)
 have l1:=z2e e x y z
 have l2:=z2e f x2 y2 z2
 refine ACallsTo.of_body q28ok (by simp) fun hw _=> ?_
 cases g1:rvGr e with
 |true=>
  rw [g1]at hG
  repeat' (first|apply zs_|apply zb_|apply zc_|apply zt_ rfl|apply zf_ rfl|(apply zd_ rfl<;>intro ht<;>try omega)|((first|apply zr_|apply zk_|apply ze_|apply zq_|(apply callW.mk_pu;(first|exact(fun _=>hG _)|exact(fun _=>z8m _)))|(apply callW.za;(first|exact(hG _)|exact(z8m _)))|(apply zG<;>intro ht));all_goals try simp (disch:=first|omega|(simp only [lens,z7,z6,lQr,lQm,lQt,lQd,z8,zg,zi,zj,z21,z2c,z2e];first|done|omega)) only [go_sem,l1,l2]))
  exact DownV.pure (τ:=[]) hw (zz _ rfl)
 |false=>
 rw [g1]at hG
 cases g2:rvGr f with
 |true=>
  rw [g2]at hG2
  repeat' (first|apply zs_|apply zb_|apply zc_|apply zt_ rfl|apply zf_ rfl|(apply zd_ rfl<;>intro ht<;>try omega)|((first|apply zr_|apply zk_|apply ze_|apply zq_|(apply callW.mk_pu;(first|exact(fun _=>hG _)|exact(fun _=>hG2 _)|exact(fun _=>z8m _)))|(apply callW.za;(first|exact(hG _)|exact(hG2 _)|exact(z8m _)))|(apply zG<;>intro ht));all_goals try simp (disch:=first|omega|(simp only [lens,z7,z6,lQr,lQm,lQt,lQd,z8,zg,zi,zj,z21,z2c,z2e];first|done|omega)) only [go_sem,l1,l2]))
  exact DownV.pure (τ:=[]) hw (zz _ rfl)
 |false=>
 rw [g2]at hG2
 have hO:=fun O=>zfz O e x y z hx hy hz ha hb g1
 have hO2:=fun O=>zfz O f x2 y2 z2 hx2 hy2 hz2 ha2 hb2 g2
 have hO6:evO.drop 106=[]:=z3f _ _ _ _
 have hel:=zi (evR e) x y z
 have hel2:=zi (evR f) x2 y2 z2
 have T:=zn2 hw (evR e) (evR f) key x y z x2 y2 z2 hx hy hz (zi8 g1) hx2 hy2 hz2 (zi8 g2)
 repeat' (first|apply zs_|apply zb_|apply zc_|apply zt_ rfl|apply zf_ rfl|(apply zd_ rfl<;>intro ht<;>try omega)|((first|apply zr_|apply zk_|apply ze_|apply zq_|(apply callW.mk_pu;(first|exact(fun _=>hG _)|exact(fun _=>hG2 _)))|(apply callW.za;(first|exact(hG _)|exact(hG2 _)))|(apply zG<;>intro ht));all_goals try simp (disch:=first|omega|(simp only [lens,z7,z6,lQr,lQm,lQt,lQd,z8,zg,zi,zj,z21,z2c,z2e];first|done|omega)) only [go_sem,l1,l2]))
 refine zW.reg2J ?_
 simp (disch:=first|omega|(simp only [lens,z7,z6,lQr,lQm,lQt,lQd,z8,zg,zi,zj,z21,z2c,z2e];first|done|omega)) only [go_sem,l1,l2,hO6,hel,hel2,List.append_nil]
 repeat' (first|apply zs_|apply zb_|apply zc_|apply zt_ rfl|apply zf_ rfl|(apply zd_ rfl<;>intro ht<;>try omega)|((first|apply zr_|apply zk_|apply ze_|apply zq_|(apply callW.mk_pu;(first|exact(fun _=>hO _)|exact(fun _=>hO2 _)))|(apply callW.za;(first|exact(hO _)|exact(hO2 _)))|(apply zG<;>intro ht));all_goals try simp (disch:=first|omega|(simp only [lens,z7,z6,lQr,lQm,lQt,lQd,z8,zg,zi,zj,z21,z2c,z2e];first|done|omega)) only [go_sem,l1,l2,hO6,hel,hel2,List.append_nil]))
 refine⟨?_,?_⟩
 ·exact T _ _ 3 4 rfl rfl rfl (by simp (disch:=first|omega|(simp only [lens,z7,z6,lQr,lQm,lQt,lQd,z8,zg,zi,zj,z21,z2c,z2e];first|done|omega)) only [go_sem]) (by simp (disch:=first|omega|(simp only [lens,z7,z6,lQr,lQm,lQt,lQd,z8,zg,zi,zj,z21,z2c,z2e];first|done|omega)) only [go_sem]) (by simp (disch:=first|omega|(simp only [lens,z7,z6,lQr,lQm,lQt,lQd,z8,zg,zi,zj,z21,z2c,z2e];first|done|omega)) only [go_sem])
 ·exact T _ _ 4 3 rfl rfl rfl (by simp (disch:=first|omega|(simp only [lens,z7,z6,lQr,lQm,lQt,lQd,z8,zg,zi,zj,z21,z2c,z2e];first|done|omega)) only [go_sem]) (by simp (disch:=first|omega|(simp only [lens,z7,z6,lQr,lQm,lQt,lQd,z8,zg,zi,zj,z21,z2c,z2e];first|done|omega)) only [go_sem]) (by simp (disch:=first|omega|(simp only [lens,z7,z6,lQr,lQm,lQt,lQd,z8,zg,zi,zj,z21,z2c,z2e];first|done|omega)) only [go_sem])
theorem EvidenceTell_law(avs:List AV)(h:z9b [zc1,zc1,z3y] avs):ACallsTo TC 3 avs [] (.bool true) []:=by
 simp only [z9b]at h
 obtain⟨_,_,rfl,h1,_,_,rfl,h2,_,_,rfl,h3,rfl⟩:=h
 obtain⟨e,x,y,z,rfl,hx,hy,hz,ha,hb,_⟩:=rev_h h1
 obtain⟨f,x2,y2,z2,rfl,hx2,hy2,hz2,ha2,hb2,_⟩:=rev_h h2
 obtain⟨key,rfl⟩:=hash_h h3
 exact zml e f key x y z x2 y2 z2 hx hy hz ha hb hx2 hy2 hz2 ha2 hb2
end
end Am
end Go.Proofs.YtlfpiblipmiobaaGreatDoor
section
/- What a law with the laid tables of sha begins with. -/
namespace Go.Proofs.YtlfpiblipmiobaaGreatDoor.LawDoor
open Go.ChangeShapes Go.WideShapes Go.ChangeAt Go.RowKit
theorem own:ownKnob Tryz.prog.godebug=none:=by kernel_rfl
theorem zr3:laidOutB Tryz.prog=true:=by kernel_rfl
def za6:List (String × DataW Unit):=[("speculum/sha.first",Rows.laid_speculum_sha_first),("speculum/sha.rounds",Rows.laid_speculum_sha_rounds)]
set_option maxRecDepth 100000
theorem zoj(os:Os)(args:Array Value):laidMetH Tryz.prog za6 ((World.doorLaid Tryz.prog 400 os).forCall (fun _ _=>0) ⟨#[],args,[]⟩).memory:=
 laidMetH_of_parts3 (fuel:=8) (laidMet_of_run' 8 (by kernel_rfl) (by kernel_rfl)) (by kernel_rfl) (by kernel_rfl)
theorem rel_of{W:World}(h:laidMetH Tryz.prog za6 W):Am.Rel Am.TC [] [] W:=by
 rw [MakeChecks.laidMetH_plain _ _ _ (by kernel_rfl)]at h
 obtain⟨ps,⟨g0,t0,cs0,f0,p0,q0,hg0,ht0,hv0,hd0,⟨g1,t1,cs1,f1,p1,q1,hg1,ht1,hv1,hd1,_,_⟩,_⟩,_,_⟩:=h
 have v0:=Am.vp_of_var (P:=Tryz.prog) (n:= "speculum/sha.first") (g:=0) (t:=181) (e:=179) (m:=8) (k:=.u32) Am.shaFirst (by kernel_rfl) (by kernel_rfl) (by kernel_rfl) (by kernel_rfl) (by kernel_rfl) (by kernel_rfl) hg0 ht0 hv0 hd0
 have v1:=Am.vp_of_var (P:=Tryz.prog) (n:= "speculum/sha.rounds") (g:=1) (t:=180) (e:=179) (m:=64) (k:=.u32) Am.shaRounds (by kernel_rfl) (by kernel_rfl) (by kernel_rfl) (by kernel_rfl) (by kernel_rfl) (by kernel_rfl) hg1 ht1 hv1 hd1
 refine⟨rfl,fun r o h=>by simp at h,fun r h=>by simp at h,fun r r' pl pl' h=>by simp at h,fun g cs h=> ?_⟩
 simp only [Am.TC]at h
 split at h
 ·rename_i hg;subst hg;cases h;exact v0
 ·split at h
  ·rename_i hg;subst hg;cases h;exact v1
  ·cases h
end Go.Proofs.YtlfpiblipmiobaaGreatDoor.LawDoor
end
