import Derived.Test.YtcdcmgjnbjoajaaGreatDoorK36321eac3
import Derived.Test.YtcdcmgjnbjoajaaGreatDoorK2e6d30c09
import Derived.Lib.Bytealg
import Derived.Lib.Overlaps
set_option linter.unusedSimpArgs false
set_option linter.unusedVariables false
open Nat (reduceEqDiff reduceAdd reduceMul reduceSub reduceLeDiff)
open Int (reduceToNat reducePow)
open Nat renaming reduceEqDiff -> nQ1, reduceBEq -> nQ2, reduceAdd -> nQ3, reduceMul -> nQ4, reduceSub -> nQ5, reduceLeDiff -> nQ6
open Int renaming reduceToNat -> nQ7, reducePow -> nQ8
open List renaming length_reverse -> lQr, length_map -> lQm, length_take -> lQt, length_drop -> lQd, length_set -> lQs
set_option maxHeartbeats 16000000
attribute [local go_sem_proc] Nat.reduceEqDiff Nat.reduceBEq Nat.reduceAdd Nat.reduceMul Nat.reduceSub Nat.reduceLeDiff Int.reduceToNat Int.reducePow
namespace Go.Proofs.YtcdcmgjnbjoajaaGreatDoor
namespace Am
variable {vs:List Value}{w w':World}{Z Z':Places}{k n i off sz r p:Nat}{C:Ctx}{cs:List AV}{t e:TypeId}{x v:AV}{a b:Int}{es ys:List (List AV)}{s:List UInt8}{O O' τ:Store}{f:FuncId}{J:Env}{K:Env->Store->Prop}{d:Option Nat}{ops:Array Oper}{ac:ACode}{rest:List (Nat × Nat × AV)}
variable {sid:Option Nat}
section
def BldAt(O:Store)(r:Nat)(sid:Option Nat)(s:List UInt8):Prop:=
 (s=[]/\ sid=none/\ O[r]? =some (some [[.bld r,.bnil]])) \/(s ≠ []/\ ∃rb,sid=some rb/\ rb ≠ r/\ O[r]? =some (some [[.bld r,.bsl rb s.length]])/\ O[rb]? =some (some (zy s)))
structure BlFr(O O':Store)(r:Nat)(sid sid':Option Nat):Prop where
 st:∀j,j<O.length->j ≠ r->sid ≠ some j->O'[j]? =O[j]?
 new:∀q,sid'=some q->O.length<=q
 le:O.length<=O'.length
theorem BldAt.lt(h:BldAt O r sid s):r<O.length/\ ∀q,sid=some q->q<O.length/\ q ≠ r:=by
 rcases h with⟨_,rfl,h⟩| ⟨_,rb,rfl,hne,h,h2⟩
 ·exact⟨slen h,by simp⟩
 ·exact⟨slen h,fun q e=>by cases e;exact⟨slen h2,hne⟩⟩
theorem BldAt.keep(h:BldAt O r sid s)(h0:O'[r]? =O[r]?)(hk:∀q,sid=some q->O'[q]? =O[q]?):BldAt O' r sid s:=by
 rcases h with⟨e,e2,h⟩| ⟨e,rb,e2,hne,h,h2⟩
 ·exact .inl ⟨e,e2,by rw [h0];exact h⟩
 ·exact .inr ⟨e,rb,e2,hne,by rw [h0];exact h,by rw [hk rb e2];exact h2⟩
theorem BldAt.write{t:List UInt8}(h:BldAt O r sid s)(h0:t ≠ [])(hl:s.length+t.length<=1073741824):
  ∃O2 sid',ACallsTo TC 83 [.ptr r 0 0,.str t] O (.tup [.int .i64 t.length,.any]) O2/\ BldAt O2 r sid' (s++t)/\ BlFr O O2 r sid sid':=by
 rcases h with⟨rfl,rfl,h⟩| ⟨e,rb,rfl,hne,h,h2⟩
 ·have hr:=slen h
  refine⟨_,some O.length,zi8 O r t h h0 (by simpa using hl),.inr ⟨by simpa using h0,O.length,rfl,by omega,?_,?_⟩,fun j hj hjr _=> ?_,by simp,by simp⟩
  ·rw [gapp (by simpa using hr),z2a hr];rfl
  ·rw [z18 (by simp)];simp
  ·rw [gapp (by simpa using hj),z1h (fun e=>hjr e.symm)]
 ·have hr:=slen h
  refine⟨_,some O.length,zi9 O r rb s t h h2 hne h0 hl,.inr ⟨by simp [e],O.length,rfl,by omega,?_,?_⟩,fun j hj hjr hjq=> ?_,by simp,by simp⟩
  ·rw [gapp (by simpa using hr),z2a (by simpa using hr)];simp
  ·rw [z18 (by simp)];simp
  ·rw [gapp (by simpa using hj),z1h (fun e=>hjr e.symm),z1h (fun e=>hjq (by rw [e]))]
structure Bl2(τ O':Store)(ra rb:Nat)(s t:List UInt8):Prop where
 is:∃sa sb,BldAt O' ra sa s/\ BldAt O' rb sb t/\ (∀q,sa=some q->τ.length<=q/\ q ≠ rb/\ sb ≠ some q)/\ (∀q,sb=some q->τ.length<=q/\ q ≠ ra)
 la:τ.length<=ra
 lb:τ.length<=rb
 ne:ra ≠ rb
 le:τ.length<=O'.length
 st:∀q,q<τ.length->O'[q]? =τ[q]?
theorem Bl2.get{ra rb:Nat}{t:List UInt8}(h:Bl2 τ O' ra rb s t){q:Nat}{o:Option AObj}(hq:τ[q]? =some o):O'[q]? =some o:=by
 rw [h.st q (slen hq)];exact hq
theorem Bl2.writeA{ra rb:Nat}{t u:List UInt8}(h:Bl2 τ O' ra rb s t)(h0:u ≠ [])(hl:s.length+u.length<=1073741824):
  ∃O2,ACallsTo TC 83 [.ptr ra 0 0,.str u] O' (.tup [.int .i64 u.length,.any]) O2/\ Bl2 τ O2 ra rb (s++u) t:=by
 obtain⟨sa,sb,h1,h2,h3,h4⟩:=h.is
 obtain⟨O2,sa',hw,hB,fr⟩:=h1.write h0 hl
 have l2:=h2.lt
 refine⟨O2,hw,⟨sa',sb,hB,h2.keep (fr.st rb l2.1 (fun e=>h.ne e.symm) fun e=>(h3 rb e).2.1 rfl) (fun q hq=>fr.st q (l2.2 q hq).1 (h4 q hq).2 fun e=>(h3 q e).2.2 hq),fun q hq=> ?_,h4⟩,h.la,h.lb,h.ne,by have:=h.le;have:=fr.le;omega,fun q hq=> ?_⟩
 ·have:=fr.new q hq
  exact⟨by have:=h.le;omega,by omega,fun e=>by have:=(l2.2 q e).1;omega⟩
 ·rw [fr.st q (by have:=h.le;omega) (fun e=>by have:=h.la;omega) (fun e=>by have:=(h3 q e).1;omega)]
  exact h.st q hq
theorem Bl2.writeB{ra rb:Nat}{t u:List UInt8}(h:Bl2 τ O' ra rb s t)(h0:u ≠ [])(hl:t.length+u.length<=1073741824):
  ∃O2,ACallsTo TC 83 [.ptr rb 0 0,.str u] O' (.tup [.int .i64 u.length,.any]) O2/\ Bl2 τ O2 ra rb s (t++u):=by
 obtain⟨sa,sb,h1,h2,h3,h4⟩:=h.is
 obtain⟨O2,sb',hw,hB,fr⟩:=h2.write h0 hl
 have l1:=h1.lt
 have hn:∀q,sb'=some q->τ.length<=q/\ q ≠ ra/\ sa ≠ some q:=fun q hq=>by
  have:=fr.new q hq
  exact⟨by have:=h.le;omega,by omega,fun e=>by have:=(l1.2 q e).1;omega⟩
 refine⟨O2,hw,⟨sa,sb',h1.keep (fr.st ra l1.1 h.ne fun e=>(h4 ra e).2 rfl) (fun q hq=>fr.st q (l1.2 q hq).1 (h3 q hq).2.1 (h3 q hq).2.2),hB,fun q hq=>⟨(h3 q hq).1,(h3 q hq).2.1,fun e=>(hn q e).2.2 hq⟩,fun q hq=>⟨(hn q hq).1,(hn q hq).2.1⟩⟩,h.la,h.lb,h.ne,by have:=h.le;have:=fr.le;omega,fun q hq=> ?_⟩
 rw [fr.st q (by have:=h.le;omega) (fun e=>by have:=h.lb;omega) (fun e=>by have:=(h4 q e).1;omega)]
 exact h.st q hq
theorem Bl2.strings{ra rb:Nat}{t:List UInt8}(h:Bl2 τ O' ra rb s t)(hs:s ≠ [])(ht:t ≠ [])(hl:s.length<=1073741824)(hl2:t.length<=1073741824):
  ∃O2 O3,ACallsTo TC 86 [.ptr ra 0 0] O' (.str s) O2/\ ACallsTo TC 86 [.ptr rb 0 0] O2 (.str t) O3/\ τ.length<=O3.length/\ ∀q,q<τ.length->O3[q]? =τ[q]?:=by
 obtain⟨sa,sb,h1,h2,h3,h4⟩:=h.is
 rcases h1 with⟨e,_⟩| ⟨_,qa,rfl,na,a1,a2⟩
 ·exact absurd e hs
 rcases h2 with⟨e,_⟩| ⟨_,qb,rfl,nb,b1,b2⟩
 ·exact absurd e ht
 obtain⟨x1,x2,x3⟩:=h3 qa rfl
 obtain⟨y1,y2⟩:=h4 qb rfl
 have hab:qa ≠ qb:=fun e=>x3 (by rw [e])
 refine⟨_,_,zdg O' ra qa s hs hl a1 a2,zdg _ rb qb t ht hl2 (by rw [z1h x2];exact b1) (by rw [z1h hab];exact b2),by simp;exact h.le,fun q hq=> ?_⟩
 rw [z1h (by omega),z1h (by omega)]
 exact h.st q hq
def sgA(seed:List UInt8)(idx:Int)(d:List UInt8):Nat->List UInt8
 | 0=>[]
 |n+1=>sgA seed idx d n++(secH seed idx (2*(n:Int)+bitS d n)).1
def sgB(seed:List UInt8)(idx:Int)(d:List UInt8):Nat->List UInt8
 | 0=>[]
 |n+1=>sgB seed idx d n++(shwH seed idx ((2*n+1-bitS d n:Nat):Int)).1
def ksgS(seed:List UInt8)(idx:Int)(d:List UInt8):List UInt8:=sgA seed idx d 256++sgB seed idx d 256
theorem z67(seed:List UInt8)(idx:Int)(d:List UInt8):∀n,(sgA seed idx d n).length=32*n
 | 0=>rfl
 |n+1=>by rw [sgA,List.length_append,z67 seed idx d n,(secH seed idx _).2];omega
theorem z87(seed:List UInt8)(idx:Int)(d:List UInt8):∀n,(sgB seed idx d n).length=32*n
 | 0=>rfl
 |n+1=>by rw [sgB,List.length_append,z87 seed idx d n,(shwH seed idx _).2];omega
theorem zen(seed:List UInt8)(idx:Int)(d:List UInt8):(ksgS seed idx d).length=16384:=by
 unfold ksgS
 rw [List.length_append,z67,z87]
attribute [local irreducible] ACallsTo ACallsP pubH
theorem zq3(O:Store)(seed:List UInt8)(idx:Int)(dg:Hash)(hs:seed.length<1000000)(hx:0<=idx/\ idx<2147483648):ACallsTo TC 93 [.str seed,.int .i64 idx,.agg (hc dg)] O (.str (ksgS seed idx dg.1)) O:=by
 refine ACallsTo.of_body q1cok (by simp) fun hw _=> ?_
 have hP:=fun O=>zhs O seed idx hs hx
 have hne:hr (pubH seed idx) ≠ []:=fun e=>by have:=congrArg List.length e;rw [zn,z4f]at this;simp at this
 have hpv:zz 32 (hr (pubH seed idx))=.vsl 32 (hr (pubH seed idx)) false:=by unfold zz;rw [if_neg hne]
 rw [hpv]at hP
 have hC:=fun O=>z55 O dg
 repeat' (first|apply zA rfl|(apply zd_ rfl<;>intro ht<;>try omega)|((first|apply zB rfl|(apply callW.mk_pu;(first|exact(fun _=>hP _)|exact(fun _=>hC _)))|(apply callW.za;(first|exact(hP _)|exact(hC _)))|(apply zG<;>intro ht))<;>try simp (disch:=first|omega|simp only [lz,z8,zn,lQr,lQm];try omega) only [go_sem]))
 refine zW.loop (fun m J O'=>∃i:Nat,m+i=256/\ Bl2 (O++ [some [hc dg]]) O' (O.length+1) (O.length+2) (sgA seed idx dg.1 i) (sgB seed idx dg.1 i)/\ J 0=.str seed/\ J 1=.int .i64 idx/\ J 7=.vsl 32 (hr (pubH seed idx)) false/\ J 8=.str dg.1/\ J 9=.ptr (O.length+1) 0 0/\ J 10=.ptr (O.length+2) 0 0/\ J 20=.int .i64 i) 256 ?_ ?_
 ·refine⟨0,by omega,?_,by simp only [go_sem],by simp only [go_sem],by simp only [go_sem],by simp only [go_sem],by simp only [go_sem],by simp only [go_sem],by simp only [go_sem];rfl⟩
  refine⟨⟨none,none,.inl ⟨rfl,rfl,?_⟩,.inl ⟨rfl,rfl,?_⟩,by simp,by simp⟩,by simp,by simp,by omega,by simp,fun q hq=> ?_⟩
  ·rw [z18 (by omega),Nat.add_sub_cancel_left];rfl
  ·rw [z18 (by omega),Nat.add_sub_cancel_left];rfl
  ·rw [show O++ [some [hc dg],some [[AV.bld (O.length+1),AV.bnil]],some [[AV.bld (O.length+2),AV.bnil]]]=(O++ [some [hc dg]])++ [some [[AV.bld (O.length+1),AV.bnil]],some [[AV.bld (O.length+2),AV.bnil]]]by simp]
   exact gapp hq
 ·rintro m J O' ⟨i,hm,hB,q0,q1,q7,q8,q9,q10,q20⟩
  have lA:=z67 seed idx dg.1 i
  have lB:=z87 seed idx dg.1 i
  by_cases hi:i<256
  ·have hi':(i:Int)<256:=by omega
   have hBt:=fun O=>zil O dg.1 i (by have:=dg.2;omega) (by omega)
   have hb1:=z8y dg.1 i
   have hSe:=fun O=>zhu O seed idx i (bitS dg.1 i) hs hx (by omega) (by omega)
   have hH1:=fun O=>z55 O (secH seed idx (2*(i:Int)+bitS dg.1 i))
   have hpa:=zm2 seed idx (2*i+1-bitS dg.1 i) (by omega)
   have hH2:=fun O=>z55 O (shwH seed idx ((2*i+1-bitS dg.1 i:Nat):Int))
   have hg:=z6o (l:=pubH seed idx) (i:=2*i+1-bitS dg.1 i) (by rw [z4f];omega)
   rw [hpa]at hg
   have hplen:=z4f seed idx
   have eA:sgA seed idx dg.1 (i+1)=sgA seed idx dg.1 i++(secH seed idx (2*(i:Int)+bitS dg.1 i)).1:=rfl
   have eB:sgB seed idx dg.1 (i+1)=sgB seed idx dg.1 i++(shwH seed idx ((2*i+1-bitS dg.1 i:Nat):Int)).1:=rfl
   generalize shwH seed idx ((2*i+1-bitS dg.1 i:Nat):Int)=A at*
   generalize secH seed idx (2*(i:Int)+bitS dg.1 i)=B at*
   generalize pubH seed idx=PB at*
   generalize bitS dg.1 i=b at*
   obtain⟨O2,w2,B2⟩:=hB.writeA (zeb B) (by rw [lA,B.2];omega)
   obtain⟨O3,w3,B3⟩:=B2.writeB (zeb A) (by rw [lB,A.2];omega)
   rw [<-eA]at B3
   rw [<-eB]at B3
   have n5:(2*(i:Int)+1-b).toNat=2*i+1-b:=by omega
   repeat' (first|apply zA rfl|(apply zd_ rfl<;>intro ht<;>try omega)|((first|apply zB rfl|(apply callW.mk_pu;(first|exact(fun _=>hBt _)|exact(fun _=>hSe _)|exact(fun _=>hH1 _)|exact(fun _=>hH2 _)|exact(fun _=>w2)|exact(fun _=>w3)))|(apply callW.za;(first|exact(hBt _)|exact(hSe _)|exact(hH1 _)|exact(hH2 _)|exact(w2)|exact(w3)))|(apply zG<;>intro ht))<;>try simp (disch:=first|omega|simp only [lz,z8,zn,lQr,lQm];try omega) only [go_sem,q0,q1,q7,q8,q9,q10,q20,hi',n5,hg]))
   exact⟨m-1,by omega,i+1,by omega,B3,by simp⟩
  ·obtain rfl:i=256:=by omega
   have hi':¬((256:Nat):Int)<256:=by omega
   obtain⟨O2,O3,w2,w3,hle,hst⟩:=hB.strings (fun e=>by rw [e]at lA;simp at lA) (fun e=>by rw [e]at lB;simp at lB) (by omega) (by omega)
   unfold ksgS
   generalize sgA seed idx dg.1 256=TA at*
   generalize sgB seed idx dg.1 256=TB at*
   repeat' (first|apply zA rfl|(apply zd_ rfl<;>intro ht<;>try omega)|((first|apply zB rfl|(apply callW.mk_pu;(first|exact(fun _=>w2)|exact(fun _=>w3)))|(apply callW.za;(first|exact(w2)|exact(w3)))|(apply zG<;>intro ht))<;>try simp (disch:=first|omega|simp only [lz,z8,zn,lQr,lQm];try omega) only [go_sem,q9,q10,q20,hi']))
   obtain⟨news,rfl⟩:=zjy (O:=O) (O':=O3) (by have:=hle;simp at this;omega) fun q hq=>by rw [hst q (by simp;omega)];exact gapp hq
   exact DownV.pure hw (by simp [RL])
end
section
def z2i:Nat->List Hash->Nat->List Hash
 | 0,_,_=>[]
 |f+1,l,i=>if l.length<=1 then []else if i<z1c l.length then z1o (l.drop (z1c l.length))::z2i f (l.take (z1c l.length)) i else z1o (l.take (z1c l.length))::z2i f (l.drop (z1c l.length)) (i-z1c l.length)
def z24(l:List Hash)(i:Nat):List Hash:=(z2i 3 l i).reverse
attribute [local irreducible] ACallsTo ACallsP
theorem zpz(O:Store)(r:Nat)(a b c:Hash)(hg:O[r]? =some (some (hr [a,b,c]))):ACallsTo TC 130 [.sl r 0 3 none 32] O (.tup []) (O.set r (some (hr [c,b,a]))):=by
 have d:=slen hg
 have hl:(hr [a,b,c]).length=3:=rfl
 have e0:(hr [a,b,c])[0]? =some (hc a):=rfl
 have e2:(hr [a,b,c])[2]? =some (hc c):=rfl
 have s1:((hr [a,b,c]).set 0 (hc c)).set 2 (hc a)=hr [c,b,a]:=rfl
 refine ACallsTo.of_body_keep q17ok (by simp) ?_
 repeat' (first|apply zA rfl|(apply zd_ rfl<;>intro ht<;>try omega)|((first|apply zB rfl|(apply zG<;>intro ht))<;>try simp (disch:=first|omega|simp only [lz,z8,zn,lQr,lQm,lQt,lQd];try omega) only [go_sem]))
 refine zW.loop (fun m J O'=>(m=1/\ O'=O/\ J 0=.sl r 0 3 none 32/\ J 2=.int .i64 0/\ J 3=.int .i64 2) \/(m=0/\ O'=O.set r (some (hr [c,b,a]))/\ J 2=.int .i64 1/\ J 3=.int .i64 1)) 1 ?_ ?_
 ·exact .inl ⟨rfl,rfl,by simp only [go_sem],by simp only [go_sem],by simp only [go_sem];rfl⟩
 ·rintro m J O' (⟨rfl,rfl,q0,q2,q3⟩| ⟨rfl,rfl,q2,q3⟩)
  ·generalize hr [a,b,c]=L at*
   repeat' (first|apply zA rfl|(apply zd_ rfl<;>intro ht<;>try omega)|((first|apply zB rfl|(apply zG<;>intro ht))<;>try simp (disch:=first|omega|simp only [lz,z8,zn,lQr,lQm,lQt,lQd];try omega) only [go_sem,q0,q2,q3,hg,e0,e2,s1]))
   exact⟨0,by omega,.inr ⟨rfl,rfl,rfl⟩⟩
  ·repeat' (first|apply zA rfl|(apply zd_ rfl<;>intro ht<;>try omega)|((first|apply zB rfl|(apply zG<;>intro ht))<;>try simp (disch:=first|omega|simp only [lz,z8,zn,lQr,lQm,lQt,lQd];try omega) only [go_sem,q2,q3,z5u]))
end
section
theorem zlw(l:List Hash)(i:Nat)(h:l.length=8):(z2i 3 l i).length=3:=by
 have e8:=spl8
 have e4:=spl4
 have e2:=spl2
 unfold z2i
 rw [if_neg (by omega),h,e8]
 split
 ·unfold z2i
  rw [List.length_take,h,if_neg (by omega),show min 4 8=4 from rfl,e4,List.length_cons]
  split
  ·unfold z2i
   simp [h,e2,z2i]
   split<;>rfl
  ·unfold z2i
   simp [h,e2,z2i]
   split<;>rfl
 ·unfold z2i
  rw [List.length_drop,h,if_neg (by omega),show 8-4=4 from rfl,e4,List.length_cons]
  split
  ·unfold z2i
   simp [h,e2,z2i]
   split<;>rfl
  ·unfold z2i
   simp [h,e2,z2i]
   split<;>rfl
attribute [local irreducible] ACallsTo ACallsP
theorem Path_v(O:Store)(K:List Hash)(ex:Bool)(i:Nat)(hK:K.length=8)(hi:i<8):ACallsTo TC 92 [.vsl 32 (hr K) ex,.int .i64 i] O (.tup [.sl O.length 0 3 none 32,.int .i64 0]) (O++ [some (hr (z24 K i))]):=by
 refine ACallsTo.of_body q14ok (by simp) fun hw _=> ?_
 have hK':(K.length:Int)=8:=by omega
 repeat' (first|apply zA rfl|(apply zd_ rfl<;>intro ht<;>try omega)|((first|apply zB rfl|(apply zG<;>intro ht))<;>try simp (disch:=first|omega|simp only [lz,z8,zn,lQr,lQm,lQt,lQd];try omega) only [go_sem,hK']))
 refine zW.loop (fun m J O'=>∃(l acc:List Hash) (j:Nat) (ex:Bool) (v:AV),l.length=2^m/\ m<=3/\ j<l.length/\ acc.length+m=3/\ OwnN 32 O O' v (hr acc)/\ z2i 3 K i=acc++z2i m l j/\ J 0=.vsl 32 (hr l) ex/\ J 1=.int .i64 j/\ J 6=v) 3 ?_ ?_
 ·exact⟨K,[],i,ex,.nilsl,hK,by omega,by omega,rfl,⟨[],by simp,.inl ⟨rfl,rfl⟩⟩,rfl,by simp only [go_sem],by simp only [go_sem],by simp only [go_sem]⟩
 ·rintro m J O' ⟨l,acc,j,ex,v,hl,hm,hj,hacc,hO,hp,q0,q1,q6⟩
  match m,hl,hm,hacc,hp with
  | 0,hl,_,hacc,hp=>
   have hl1:¬(l.length:Int)>1:=by omega
   have hp0:z2i 0 l j=[]:=rfl
   rw [hp0,List.append_nil]at hp
   obtain⟨news,hne⟩:=hO.ext
   have hn0:hr acc ≠ []:=fun e=>by rw [hr_nil_iff]at e;subst e;simp at hacc
   obtain⟨r,rfl,hg,hk⟩:=hO.sl hn0
   match acc,hacc with
   | [a,b,c],_=>
    have hRv:=zpz O' r a b c hg
    have dr:=slen hg
    have hph:z24 K i=[c,b,a]:=by unfold z24;rw [hp];rfl
    rw [show (hr [a,b,c]).length=3 from rfl]at*
    repeat' (first|apply zA rfl|(apply zd_ rfl<;>intro ht<;>try omega)|((first|apply zB rfl|(apply callW.mk_pu;exact(fun _=>hRv))|(apply callW.za;exact(hRv))|(apply zG<;>intro ht))<;>try simp (disch:=first|omega|simp only [lz,z8,zn,lQr,lQm,lQt,lQd];try omega) only [go_sem,q0,q6,hl1]))
    rw [hph]
    obtain⟨news2,hn2⟩:Ext O (O'.set r (some (hr [c,b,a]))):=Ext.set ⟨news,hne⟩ hk
    rw [hn2]
    have hg2:(O++news2)[r]? =some (some (hr [c,b,a])):=by rw [<-hn2,z2a dr]
    obtain⟨j,rfl⟩:∃j,r=O.length+j:=⟨r-O.length,by omega⟩
    rw [z18 (by omega),Nat.add_sub_cancel_left]at hg2
    exact DownV.tup2 (DownV.own hw hg2 (z3e _))
  |m+1,hl,hm,hacc,hp=>
   have hl1:(l.length:Int)>1:=by have:1<=2^m:=Nat.one_le_two_pow;rw [hl,Nat.pow_succ];omega
   have hlen2:l.length<=8:=by rw [hl];have:2^(m+1)<=2^3:=Nat.pow_le_pow_right (by omega) hm;omega
   have hsk:z1c l.length=2^m:=by rw [hl];exact zcy m
   have hSp:=fun O=>zhg O l.length (by omega)
   rw [hsk]at hSp
   have hpm:2^m+2^m=l.length:=by rw [hl,Nat.pow_succ];omega
   have hpos:0<2^m:=Nat.pos_of_ne_zero (by simp)
   have hRa:=fun O t=>zhf O (l.take (2^m)) (.vsl 32 (hr (l.take (2^m))) t) (.of (.inr ⟨t,rfl⟩)) (by rw [List.length_take];omega)
   have hRb:=fun O t=>zhf O (l.drop (2^m)) (.vsl 32 (hr (l.drop (2^m))) t) (.of (.inr ⟨t,rfl⟩)) (by rw [List.length_drop];omega)
   have hun:z2i (m+1) l j=if j<2^m then z1o (l.drop (2^m))::z2i m (l.take (2^m)) j else z1o (l.take (2^m))::z2i m (l.drop (2^m)) (j-2^m):=by
    rw [z2i,if_neg (by omega),hsk]
   have tl:(l.take (2^m)).length=2^m:=by rw [List.length_take];omega
   have dl:(l.drop (2^m)).length=2^m:=by rw [List.length_drop];omega
   rw [hun]at hp
   generalize hkk:2^m=k at*
   by_cases hj2:j<k
   ·rw [if_pos hj2]at hp
    have hj2':(j:Int)<k:=by omega
    generalize z1o (l.drop k)=R at*
    obtain⟨v',O2,ha,hO2⟩:=hO.app (ys:=[hc R]) (by simp) (by rw [zn];simp;omega)
    rw [show hr acc++ [hc R]=hr (acc++ [R])by simp [hr]]at hO2
    repeat' (first|apply zA rfl|(apply zd_ rfl<;>intro ht<;>try omega)|((first|apply zB rfl|(apply callW.mk_pu;(first|exact(fun _=>hSp _)|exact(fun _=>hRa _ _)|exact(fun _=>hRb _ _)))|(apply callW.za;(first|exact(hSp _)|exact(hRa _ _)|exact(hRb _ _)))|(apply zG<;>intro ht))<;>try simp (disch:=first|omega|simp only [lz,z8,zn,lQr,lQm,lQt,lQd];try omega) only [go_sem,q0,q1,q6,hl1,hj2',ha,Int.toNat_natCast]))
    exact⟨m,by omega,l.take k,acc++ [R],j,_,v',by rw [tl,hkk],by omega,by omega,by simp;omega,hO2,by rw [hp];simp,rfl,rfl,rfl⟩
   ·rw [if_neg hj2]at hp
    have hj2':¬(j:Int)<k:=by omega
    generalize z1o (l.take k)=R at*
    obtain⟨v',O2,ha,hO2⟩:=hO.app (ys:=[hc R]) (by simp) (by rw [zn];simp;omega)
    rw [show hr acc++ [hc R]=hr (acc++ [R])by simp [hr]]at hO2
    repeat' (first|apply zA rfl|(apply zd_ rfl<;>intro ht<;>try omega)|((first|apply zB rfl|(apply callW.mk_pu;(first|exact(fun _=>hSp _)|exact(fun _=>hRa _ _)|exact(fun _=>hRb _ _)))|(apply callW.za;(first|exact(hSp _)|exact(hRa _ _)|exact(hRb _ _)))|(apply zG<;>intro ht))<;>try simp (disch:=first|omega|simp only [lz,z8,zn,lQr,lQm,lQt,lQd];try omega) only [go_sem,q0,q1,q6,hl1,hj2',ha,Int.toNat_natCast]))
    exact⟨m,by omega,l.drop k,acc++ [R],j-k,_,v',by rw [dl,hkk],by omega,by omega,by simp;omega,hO2,by rw [hp];simp,rfl,by congr 1;omega,rfl⟩
end
variable {seed:List UInt8}
section
def keyL(seed:List UInt8):List Hash:=(List.range 8).map fun i:Nat=>z31 (pubH seed i)
theorem z3r(seed:List UInt8):(keyL seed).length=8:=by simp [keyL]
def keyZ(seed:List UInt8)(i:Nat):List Hash:=(keyL seed).take i++List.replicate (8-i) zeroH
theorem zv5(seed:List UInt8)(k:Nat)(h:k<=8):(keyZ seed k).length=8:=by
 unfold keyZ
 rw [List.length_append,List.length_take,z3r,List.length_replicate];omega
theorem zv3(seed:List UInt8)(i:Nat)(h:i<8):(keyL seed).take (i+1)=(keyL seed).take i++ [z31 (pubH seed i)]:=by
 rw [z5e (by rw [z3r];exact h),z9d (by rw [z3r];exact h)]
 simp [keyL]
theorem zv6(seed:List UInt8)(k:Nat)(h:k<8):(keyZ seed k).set k (z31 (pubH seed k))=keyZ seed (k+1):=by
 unfold keyZ
 have e:8-k=(8-(k+1))+1:=by omega
 have l:((keyL seed).take k).length=k:=by rw [List.length_take,z3r];omega
 rw [e,List.replicate_succ,List.set_append_right _ _ (by omega),l,Nat.sub_self,List.set_cons_zero,zv3 _ _ h,List.append_assoc]
 rfl
theorem zv4(seed:List UInt8):keyZ seed 8=keyL seed:=by
 unfold keyZ
 rw [List.take_of_length_le (by rw [z3r];omega)];simp
def z1m(b:Bool)(seed:List UInt8)(K:List Hash):List AV:=.bool b:: .str seed::(hr K).flatten
theorem zk1:∀(K:List Hash),(hr K).flatten.length=32*K.length
 | []=>rfl
 |h::K=>by rw [z9g,List.flatten_cons,List.length_append,z8,zk1 K,List.length_cons];omega
@[go_sem] theorem zhc (b:Bool) (seed:List UInt8) (K:List Hash):(z1m b seed K).length=2+32*K.length:=by rw [z1m,List.length_cons,List.length_cons,zk1];omega
@[go_sem] theorem treeC_0 (b:Bool) (seed:List UInt8) (K:List Hash):(z1m b seed K)[0]? =some (.bool b):=rfl
@[go_sem] theorem treeC_1 (b:Bool) (seed:List UInt8) (K:List Hash):(z1m b seed K)[1]? =some (.str seed):=rfl
theorem zk2:∀(K:List Hash) (i:Nat) (x:Hash),i<K.length->(hr K).flatten.take (32*i)++(hc x++(hr K).flatten.drop (32*i+32))=(hr (K.set i x)).flatten
 |h::K,0,x,_=>by
  rw [Nat.mul_zero,List.take_zero,List.nil_append,Nat.zero_add,List.set_cons_zero,z9g,z9g,List.flatten_cons,List.flatten_cons,List.drop_append_of_le_length (by rw [z8];omega),List.drop_of_length_le (by rw [z8];omega),List.nil_append]
 |h::K,i+1,x,hi=>by
  rw [z9g,List.flatten_cons,show 32*(i+1)=32+32*i by omega,show 32+32*i+32=32+(32*i+32)by omega,<-List.drop_drop,List.drop_append_of_le_length (l₁:=hc h) (by rw [z8];omega),List.drop_of_length_le (l:=hc h) (by rw [z8];omega),List.nil_append]
  have e:(hc h++(hr K).flatten).take (32+32*i)=hc h++(hr K).flatten.take (32*i):=by
   rw [List.take_append,List.take_of_length_le (l:=hc h) (by rw [z8];omega),z8,Nat.add_sub_cancel_left]
  rw [e,List.append_assoc,zk2 K i x (by simpa using hi),List.set_cons_succ,z9g,List.flatten_cons]
theorem z12w(b:Bool)(seed:List UInt8)(K:List Hash)(i:Nat)(x:Hash)(hi:i<K.length):(z1m b seed K).take (2+i*32)++(hc x++(z1m b seed K).drop (2+i*32+32))=z1m b seed (K.set i x):=by
 have h:=zk2 K i x hi
 unfold z1m
 rw [show 2+i*32+32=(32*i+32)+1+1 by omega,show 2+i*32=32*i+1+1 by omega,List.take_succ_cons,List.take_succ_cons,List.drop_succ_cons,List.drop_succ_cons,List.cons_append,List.cons_append,h]
theorem zov{K:List Hash}(cap:Nat)(hg:O[r]? =some (some [z1m true seed K]))(hK:K.length=8):DR (z4d O) (.vsl 32 (hr K) false) (.asl r 0 2 8 cap 32):=by
 have h:=zvb (O:=O) (r:=r) (i:=0) (off:=2) (cap:=cap) (esz:=32) (o:=[z1m true seed K]) (es:=hr K) (cs:=z1m true seed K) (rest:=[]) hg rfl (by rw [zhc];omega) (by rw [List.append_nil];rfl) (fun e he=>by
  simp only [hr,List.mem_map]at he
  obtain⟨x,_,rfl⟩:=he
  exact z8 x) (by rw [zn,hK];omega) (z3e K)
 rwa [zn,hK]at h
attribute [local irreducible] ACallsTo ACallsP pubH
theorem zq1(O:Store)(r:Nat)(seed:List UInt8)(K:List Hash)(cap:Nat)(hg:O[r]? =some (some [z1m true seed K]))(hK:K.length=8):ACallsTo TC 42 [.asl r 0 2 8 cap 32] O (.agg (hc (z1o K))) O:=by
 have:=ACallsTo.lend glok (zhf [] K (.vsl 32 (hr K) false) (.of (.inr ⟨false,rfl⟩)) (by omega)) (drs1 (zov cap hg hK))
 have e:sh O.length (.agg (hc (z1o K)))=.agg (hc (z1o K)):=by simp only [sh,zgv]
 rwa [e,z5b,List.append_nil]at this
theorem zpu(O:Store)(r:Nat)(seed:List UInt8)(K:List Hash)(cap i:Nat)(hg:O[r]? =some (some [z1m true seed K]))(hK:K.length=8)(hi:i<8):ACallsTo TC 92 [.asl r 0 2 8 cap 32,.int .i64 i] O (.tup [.sl O.length 0 3 none 32,.int .i64 0]) (O++ [some (hr (z24 K i))]):=by
 have:=ACallsTo.lend glok (Path_v [] K false i hK hi) (drsc (zov cap hg hK) (drs1 (rl0 (by simp [RL]) O)))
 have e:shS O.length ([]++ [some (hr (z24 K i))])=[some (hr (z24 K i))]:=by
  simp only [List.nil_append,shS,List.map_cons,List.map_nil,Option.map_some,shss,hr,List.map_map]
  congr 2
  exact List.map_congr_left fun h _=>zgv _ h
 rw [e]at this
 simpa [sh,shs]using this
set_option maxRecDepth 100000 in
theorem z12y:([.bool false,.str [],.int .u8 0,.int .u8 0,.int .u8 0,.int .u8 0,.int .u8 0,.int .u8 0,.int .u8 0,.int .u8 0,.int .u8 0,.int .u8 0,.int .u8 0,.int .u8 0,.int .u8 0,.int .u8 0,.int .u8 0,.int .u8 0,.int .u8 0,.int .u8 0,.int .u8 0,.int .u8 0,.int .u8 0,.int .u8 0,.int .u8 0,.int .u8 0,.int .u8 0,.int .u8 0,.int .u8 0,.int .u8 0,.int .u8 0,.int .u8 0,.int .u8 0,.int .u8 0,.int .u8 0,.int .u8 0,.int .u8 0,.int .u8 0,.int .u8 0,.int .u8 0,.int .u8 0,.int .u8 0,.int .u8 0,.int .u8 0,.int .u8 0,.int .u8 0,.int .u8 0,.int .u8 0,.int .u8 0,.int .u8 0,.int .u8 0,.int .u8 0,.int .u8 0,.int .u8 0,.int .u8 0,.int .u8 0,.int .u8 0,.int .u8 0,.int .u8 0,.int .u8 0,.int .u8 0,.int .u8 0,.int .u8 0,.int .u8 0,.int .u8 0,.int .u8 0,.int .u8 0,.int .u8 0,.int .u8 0,.int .u8 0,.int .u8 0,.int .u8 0,.int .u8 0,.int .u8 0,.int .u8 0,.int .u8 0,.int .u8 0,.int .u8 0,.int .u8 0,.int .u8 0,.int .u8 0,.int .u8 0,.int .u8 0,.int .u8 0,.int .u8 0,.int .u8 0,.int .u8 0,.int .u8 0,.int .u8 0,.int .u8 0,.int .u8 0,.int .u8 0,.int .u8 0,.int .u8 0,.int .u8 0,.int .u8 0,.int .u8 0,.int .u8 0,.int .u8 0,.int .u8 0,.int .u8 0,.int .u8 0,.int .u8 0,.int .u8 0,.int .u8 0,.int .u8 0,.int .u8 0,.int .u8 0,.int .u8 0,.int .u8 0,.int .u8 0,.int .u8 0,.int .u8 0,.int .u8 0,.int .u8 0,.int .u8 0,.int .u8 0,.int .u8 0,.int .u8 0,.int .u8 0,.int .u8 0,.int .u8 0,.int .u8 0,.int .u8 0,.int .u8 0,.int .u8 0,.int .u8 0,.int .u8 0,.int .u8 0,.int .u8 0,.int .u8 0,.int .u8 0,.int .u8 0,.int .u8 0,.int .u8 0,.int .u8 0,.int .u8 0,.int .u8 0,.int .u8 0,.int .u8 0,.int .u8 0,.int .u8 0,.int .u8 0,.int .u8 0,.int .u8 0,.int .u8 0,.int .u8 0,.int .u8 0,.int .u8 0,.int .u8 0,.int .u8 0,.int .u8 0,.int .u8 0,.int .u8 0,.int .u8 0,.int .u8 0,.int .u8 0,.int .u8 0,.int .u8 0,.int .u8 0,.int .u8 0,.int .u8 0,.int .u8 0,.int .u8 0,.int .u8 0,.int .u8 0,.int .u8 0,.int .u8 0,.int .u8 0,.int .u8 0,.int .u8 0,.int .u8 0,.int .u8 0,.int .u8 0,.int .u8 0,.int .u8 0,.int .u8 0,.int .u8 0,.int .u8 0,.int .u8 0,.int .u8 0,.int .u8 0,.int .u8 0,.int .u8 0,.int .u8 0,.int .u8 0,.int .u8 0,.int .u8 0,.int .u8 0,.int .u8 0,.int .u8 0,.int .u8 0,.int .u8 0,.int .u8 0,.int .u8 0,.int .u8 0,.int .u8 0,.int .u8 0,.int .u8 0,.int .u8 0,.int .u8 0,.int .u8 0,.int .u8 0,.int .u8 0,.int .u8 0,.int .u8 0,.int .u8 0,.int .u8 0,.int .u8 0,.int .u8 0,.int .u8 0,.int .u8 0,.int .u8 0,.int .u8 0,.int .u8 0,.int .u8 0,.int .u8 0,.int .u8 0,.int .u8 0,.int .u8 0,.int .u8 0,.int .u8 0,.int .u8 0,.int .u8 0,.int .u8 0,.int .u8 0,.int .u8 0,.int .u8 0,.int .u8 0,.int .u8 0,.int .u8 0,.int .u8 0,.int .u8 0,.int .u8 0,.int .u8 0,.int .u8 0,.int .u8 0,.int .u8 0,.int .u8 0,.int .u8 0,.int .u8 0,.int .u8 0,.int .u8 0,.int .u8 0,.int .u8 0,.int .u8 0,.int .u8 0,.int .u8 0,.int .u8 0,.int .u8 0,.int .u8 0,.int .u8 0,.int .u8 0,.int .u8 0,.int .u8 0,.int .u8 0,.int .u8 0,.int .u8 0]:List AV)=z1m false [] (List.replicate 8 zeroH):=by kernel_rfl
set_option maxRecDepth 100000 in
theorem zkv(O:Store)(seed:List UInt8)(hs:seed.length<1000000):ACallsTo TC 9 [.str seed] O (.ptr O.length 0 0) (O++ [some [z1m true seed (keyL seed)]]):=by
 refine ACallsTo.of_body_keep q1jok (by simp) ?_
 repeat' (first|apply zA rfl|(apply zd_ rfl<;>intro ht<;>try omega)|((first|apply zB rfl|(apply zG<;>intro ht))<;>try simp (disch:=first|omega|simp only [lz,z8,zn,lQr,lQm,lQt,lQd];try omega) only [go_sem,z12y]))
 have h0:(AV.bool true::AV.str seed::List.drop 1 (List.drop 1 (z1m false [] (List.replicate 8 zeroH))))=z1m true seed (keyZ seed 0):=by unfold keyZ;rw [List.take_zero,List.nil_append];rfl
 rw [h0]
 refine zW.loop (fun m J O'=>∃i:Nat,m+i=8/\ O'=O++ [some [z1m true seed (keyZ seed i)]]/\ J 0=.str seed/\ J 3=.ptr O.length 0 0/\ J 8=.int .i64 i) 8 ?_ ?_
 ·exact⟨0,by omega,rfl,by simp only [go_sem],by simp only [go_sem],by simp only [go_sem];rfl⟩
 ·rintro m J O' ⟨i,hm,rfl,q0,q3,q8⟩
  by_cases hi:i<8
  ·have hi':(i:Int)<8:=by omega
   have hP:=fun O=>zhs O seed i hs (by omega)
   have hL:=fun O=>zho O (pubH seed i) (zz 32 (hr (pubH seed i))) (z1l _ _) (by rw [z4f];omega)
   have hst:=zv6 seed i hi
   have hzl:=zv5 seed i (by omega)
   have hset:=fun x=>z12w true seed (keyZ seed i) i x (by omega)
   generalize keyZ seed i=L at*
   generalize hLF:z31 (pubH seed i)=X at*
   generalize zz 32 (hr (pubH seed i))=PV at*
   repeat' (first|apply zA rfl|(apply zd_ rfl<;>intro ht<;>try omega)|((first|apply zB rfl|(apply callW.mk_pu;(first|exact(fun _=>hP _)|exact(fun _=>hL _)))|(apply callW.za;(first|exact(hP _)|exact(hL _)))|(apply zG<;>intro ht))<;>try simp (disch:=first|omega|simp only [lz,z8,zn,lQr,lQm,lQt,lQd];try omega) only [go_sem,q0,q3,q8,hi',hzl,hset,Int.toNat_natCast]))
   exact⟨m-1,by omega,i+1,by omega,by rw [<-hst],by simp⟩
  ·obtain rfl:i=8:=by omega
   have hi':¬((8:Nat):Int)<8:=by omega
   repeat' (first|apply zA rfl|(apply zd_ rfl<;>intro ht<;>try omega)|((first|apply zB rfl|(apply zG<;>intro ht))<;>try simp (disch:=first|omega|simp only [lz,z8,zn,lQr,lQm,lQt,lQd];try omega) only [go_sem,q3,q8,hi',z5u]))
   rw [zv4]
end
section
attribute [local irreducible] ACallsTo ACallsP pubH
theorem zhd(O:Store)(r:Nat)(seed:List UInt8)(K:List Hash)(hg:O[r]? =some (some [z1m true seed K]))(hK:K.length=8):ACallsTo TC 11 [.ptr r 0 0] O (.agg (hc (z1o K))) O:=by
 have d:=slen hg
 have hR:=fun y cap=>zq1 (O++y) r seed K cap (by rw [gapp d];exact hg) hK
 refine ACallsTo.of_body q1kok (by simp) fun hw _=> ?_
 repeat' (first|apply zA rfl|(apply zd_ rfl<;>intro ht<;>try omega)|((first|apply zB rfl|(apply callW.mk_pu;exact(fun _=>hR _ _))|(apply callW.za;exact(hR _ _))|(apply zG<;>intro ht))<;>try simp (disch:=first|omega|simp only [lz,z8,zn,lQr,lQm,lQt,lQd];try omega) only [go_sem,hg]))
 exact DownV.pure hw (z49 _)
def zgn(i:Int)(s:List UInt8)(p:AV)(e:Int):AV:=.tup [.agg [.int .i64 i,.str s,p],.int .i64 e]
theorem z12x(O:Store)(r:Nat)(seed:List UInt8)(K:List Hash)(i:Nat)(dg:Hash)(hg:O[r]? =some (some [z1m true seed K]))(hK:K.length=8)(hi:i<8)(hs:seed.length<1000000):
  ACallsTo TC 43 [.ptr r 0 0,.int .i64 i,.agg (hc dg)] O (zgn i (ksgS seed i dg.1) (zz 32 (hr (z24 K i))) 0) O:=by
 have d:=slen hg
 have hP:=fun y cap=>zpu (O++y) r seed K cap i (by rw [gapp d];exact hg) hK hi
 have hS:=fun O=>zq3 O seed i dg hs (by omega)
 have hpl:(z24 K i).length=3:=by unfold z24;rw [List.length_reverse,zlw K i hK]
 have hne:hr (z24 K i) ≠ []:=fun e=>by have:=congrArg List.length e;rw [zn,hpl]at this;simp at this
 unfold zgn
 generalize ksgS seed i dg.1=sig at*
 generalize z24 K i=PH at*
 refine ACallsTo.of_body q1lok (by simp) fun hw _=> ?_
 repeat' (first|apply zA rfl|(apply zd_ rfl<;>intro ht<;>try omega)|((first|apply zB rfl|(apply callW.mk_pu;(first|exact(fun _=>hP _ _)|exact(fun _=>hS _)))|(apply callW.za;(first|exact(hP _ _)|exact(hS _)))|(apply zG<;>intro ht))<;>try simp (disch:=first|omega|simp only [lz,z8,zn,lQr,lQm,lQt,lQd];try omega) only [go_sem,hg]))
 refine DownV.all hw (drT (drsc (drA (drsc (FrzD.same (by simp [RL])) (drsc (FrzD.same (by simp [RL])) (drs1 ?_)))) (drs1 (FrzD.same (by simp [RL])))))
 unfold zz
 rw [if_neg hne]
 have hf:=FrzD.sl (τ:=O) (news:=[some [hc dg],some [[AV.int IntKind.i64 i,AV.str sig,AV.sl (O.length+2) 0 3 none 32]],some (hr PH)]) (r:=O.length+2) (off:=0) (lim:=none) (esz:=32) (o:=hr PH) (es:=hr PH) (by omega) (by rw [z18 (by omega),Nat.add_sub_cancel_left];rfl) (by omega) (by simp) (z3e _)
 rw [show (hr PH).length=3 by rw [zn,hpl]]at hf
 exact hf
end
section
theorem zo1(seed:List UInt8)(idx:Int)(d:List UInt8)(i:Nat):∀n,i<=n->(sgA seed idx d n).take (32*i)=sgA seed idx d i
  | 0, h => by obtain rfl : i = 0 := by omega
               rfl
  |n+1,h=>by
    by_cases h1:i=n+1
    · subst h1;rw [<-z67 seed idx d (n+1),List.take_length]
    · rw [sgA,List.take_append_of_le_length (by rw [z67];omega)]
      exact zo1 seed idx d i n (by omega)
theorem zo2(seed:List UInt8)(idx:Int)(d:List UInt8)(i:Nat):∀n,i<=n->(sgB seed idx d n).take (32*i)=sgB seed idx d i
  | 0, h => by obtain rfl : i = 0 := by omega
               rfl
  |n+1,h=>by
    by_cases h1:i=n+1
    · subst h1;rw [<-z87 seed idx d (n+1),List.take_length]
    · rw [sgB,List.take_append_of_le_length (by rw [z87];omega)]
      exact zo2 seed idx d i n (by omega)
theorem z10u(seed:List UInt8)(idx:Int)(d:List UInt8)(i:Nat)(h:i<256):((ksgS seed idx d).take (32*i+32)).drop (32*i)=(secH seed idx (2*(i:Int)+bitS d i)).1:=by
 unfold ksgS
 rw [List.take_append_of_le_length (by rw [z67];omega),show 32*i+32=32*(i+1)by omega,zo1 seed idx d (i+1) 256 (by omega),sgA,<-z67 seed idx d i,List.drop_left]
theorem z10t(seed:List UInt8)(idx:Int)(d:List UInt8)(i:Nat)(h:i<256):((ksgS seed idx d).drop (8192+32*i)).take 32=(shwH seed idx ((2*i+1-bitS d i:Nat):Int)).1:=by
 unfold ksgS
 have e:(sgA seed idx d 256).length=8192:=z67 seed idx d 256
 rw [<-List.drop_drop,<-e,List.drop_left]
 have h2:=zo2 seed idx d (i+1) 256 (by omega)
 rw [show 32*(i+1)=32*i+32 by omega]at h2
 rw [List.take_drop,h2,sgB,<-z87 seed idx d i,List.drop_left]
def rkK(d d':List UInt8)(k:Nat):Nat:=if bitS d ((k/2:Nat):Int)=bitS d' ((k/2:Nat):Int)then k else if k%2=0 then k+1 else k-1
theorem z10e{α:Type}(A R:List α)(z x y:α):((A++z::z::R).set A.length x).set (A.length+1) y=A++x::y::R/\ ((A++z::z::R).set (A.length+1) y).set A.length x=A++x::y::R:=by
 constructor
 ·rw [List.set_append_right _ _ (Nat.le_refl _),Nat.sub_self,List.set_cons_zero,List.set_append_right _ _ (by omega),Nat.add_sub_cancel_left];rfl
 ·rw [List.set_append_right _ _ (by omega),Nat.add_sub_cancel_left,List.set_cons_succ,List.set_cons_zero,List.set_append_right _ _ (Nat.le_refl _),Nat.sub_self,List.set_cons_zero]
theorem zn1(seed:List UInt8)(idx:Int)(d d':List UInt8):∀n,n<=256->recF (ksgS seed idx d) d' n=(List.range (2*n)).map (fun k:Nat=>shwH seed idx (rkK d d' k:Nat))++List.replicate (512-2*n) zeroH
 | 0,_=>by rw [recF];rfl
 |n+1,h=>by
  rw [recF,zn1 seed idx d d' n (by omega),recS,z10u seed idx d n (by omega),z10t seed idx d n (by omega),zha]
  have hl:((List.range (2*n)).map (fun k:Nat=>shwH seed idx (rkK d d' k:Nat))).length=2*n:=by simp
  have e1:List.replicate (512-2*n) zeroH=zeroH::zeroH::List.replicate (512-2*(n+1)) zeroH:=by
   rw [show 512-2*n=(512-2*(n+1))+1+1 by omega,List.replicate_succ,List.replicate_succ]
  have e2:(List.range (2*(n+1))).map (fun k:Nat=>shwH seed idx (rkK d d' k:Nat))=(List.range (2*n)).map (fun k:Nat=>shwH seed idx (rkK d d' k:Nat))++ [shwH seed idx (rkK d d' (2*n):Nat),shwH seed idx (rkK d d' (2*n+1):Nat)]:=by
   rw [show 2*(n+1)=2*n+1+1 by omega,List.range_succ,List.range_succ,List.map_append,List.map_append,List.append_assoc];rfl
  have hb:=z8y d n
  have hb':=z8y d' n
  have r0:rkK d d' (2*n)=if bitS d n=bitS d' n then 2*n else 2*n+1:=by
   unfold rkK
   rw [show 2*n/2=n by omega]
   split
   ·rfl
   ·rw [if_pos (by omega)]
  have r1:rkK d d' (2*n+1)=if bitS d n=bitS d' n then 2*n+1 else 2*n:=by
   unfold rkK
   rw [show (2*n+1)/2=n by omega]
   split
   ·rfl
   ·rw [if_neg (by omega)];omega
  rw [e1,e2,r0,r1]
  have hs:z5c (secH seed idx (2*(n:Int)+bitS d n)).1=shwH seed idx ((2*n+bitS d n:Nat):Int):=by
   rw [show ((2*n+bitS d n:Nat):Int)=2*(n:Int)+bitS d n by omega];rfl
  rw [hs]
  generalize (List.range (2*n)).map (fun k:Nat=>shwH seed idx (rkK d d' k:Nat))=A at*
  generalize List.replicate (512-2*(n+1)) zeroH=R at*
  rw [List.append_assoc]
  generalize bitS d n=b at*
  generalize bitS d' n=b' at*
  have two:∀x y,((A++zeroH::zeroH::R).set (2*n) x).set (2*n+1) y=A++([x,y]++R)/\ ((A++zeroH::zeroH::R).set (2*n+1) y).set (2*n) x=A++([x,y]++R):=by
   intro x y
   have:=z10e A R zeroH x y
   rw [hl]at this
   exact this
  rcases(show (b=0 \/b=1)by omega)with rfl|rfl<;>rcases(show (b'=0 \/b'=1)by omega)with rfl|rfl
  ·simp only [Nat.add_zero,Nat.sub_zero,if_true];exact(two _ _).1
  ·simp only [Nat.add_zero,Nat.sub_zero,Nat.add_sub_cancel];rw [if_neg (by omega),if_neg (by omega)];exact(two _ _).2
  ·simp only [Nat.add_zero,Nat.sub_zero,Nat.add_sub_cancel];rw [if_neg (by omega),if_neg (by omega)];exact(two _ _).1
  ·simp only [Nat.add_sub_cancel,if_true];exact(two _ _).2
theorem zzb(seed:List UInt8)(idx:Int)(d:List UInt8):recF (ksgS seed idx d) d 256=pubH seed idx:=by
 have e:(fun k:Nat=>shwH seed idx (rkK d d k:Nat))=fun k:Nat=>shwH seed idx k:=by
  funext k
  rw [show rkK d d k=k by unfold rkK;rw [if_pos rfl]]
 rw [zn1 seed idx d d 256 (Nat.le_refl _),e,show 2*256=512 from rfl,Nat.sub_self,List.replicate_zero,List.append_nil]
 rfl
theorem root_8(a b c d e f g h:Hash):z1o [a,b,c,d,e,f,g,h]=z1b (z1b (z1b a b) (z1b c d)) (z1b (z1b e f) (z1b g h)):=by
 rw [zgi (by simp)];simp [spl8,znl]
theorem zxy(a b c d e f g h:Hash):z24 [a,b,c,d,e,f,g,h] 0=[b,z1b c d,z1b (z1b e f) (z1b g h)]/\ z24 [a,b,c,d,e,f,g,h] 1=[a,z1b c d,z1b (z1b e f) (z1b g h)] ∧
  z24 [a,b,c,d,e,f,g,h] 2=[d,z1b a b,z1b (z1b e f) (z1b g h)]/\ z24 [a,b,c,d,e,f,g,h] 3=[c,z1b a b,z1b (z1b e f) (z1b g h)] ∧
  z24 [a,b,c,d,e,f,g,h] 4=[f,z1b g h,z1b (z1b a b) (z1b c d)]/\ z24 [a,b,c,d,e,f,g,h] 5=[e,z1b g h,z1b (z1b a b) (z1b c d)] ∧
  z24 [a,b,c,d,e,f,g,h] 6=[h,z1b e f,z1b (z1b a b) (z1b c d)]/\ z24 [a,b,c,d,e,f,g,h] 7=[g,z1b e f,z1b (z1b a b) (z1b c d)]:=by
 refine⟨?_,?_,?_,?_,?_,?_,?_,?_⟩<;>simp [z24,z2i,spl8,spl4,spl2,znk,znl,znj]
def z33(i:Nat)(x p q r:Hash):Hash:=
 let y:=if i%2=1 then z1b p x else z1b x p
 let z:=if i/2%2=1 then z1b q y else z1b y q
 if i/4%2=1 then z1b r z else z1b z r
theorem z5p(i:Nat)(hi:i<8)(x p q r root:Hash):chkP x i 8 [p,q,r] root=if z33 i x p q r=root then 0 else 80:=by
 unfold chkP
 rw [if_neg (by omega),Int.toNat_natCast,show (8:Int).toNat-1=7 from rfl]
 match i,hi with
 | 0,_=>simp [z2y,z2e,z33]
 | 1,_=>simp [z2y,z2e,z2m,z33]
 | 2,_=>simp [z2y,z2e,z2m,z33]
 | 3,_=>simp [z2y,z2e,z2m,z33]
 | 4,_=>simp [z2y,z2e,z2m,z33]
 | 5,_=>simp [z2y,z2e,z2m,z33]
 | 6,_=>simp [z2y,z2e,z2m,z33]
 | 7,_=>simp [z2y,z2e,z2m,z33]
 |i+8,h=>omega
theorem len8{K:List Hash}(h:K.length=8):∃a b c d e f g i,K=[a,b,c,d,e,f,g,i]:=by
 match K,h with
 | [a,b,c,d,e,f,g,i],_=>exact⟨a,b,c,d,e,f,g,i,rfl⟩
theorem zs0(K:List Hash)(hK:K.length=8)(i:Nat)(hi:i<8):chkP (hd K i) i 8 (z24 K i) (z1o K)=0:=by
 obtain⟨a,b,c,d,e,f,g,h,rfl⟩:=len8 hK
 obtain⟨p0,p1,p2,p3,p4,p5,p6,p7⟩:=zxy a b c d e f g h
 rw [root_8]
 match i,hi with
 | 0,_=>rw [p0,z5p 0 (by omega)];exact if_pos (by simp [z33,hd])
 | 1,_=>rw [p1,z5p 1 (by omega)];exact if_pos (by simp [z33,hd])
 | 2,_=>rw [p2,z5p 2 (by omega)];exact if_pos (by simp [z33,hd])
 | 3,_=>rw [p3,z5p 3 (by omega)];exact if_pos (by simp [z33,hd])
 | 4,_=>rw [p4,z5p 4 (by omega)];exact if_pos (by simp [z33,hd])
 | 5,_=>rw [p5,z5p 5 (by omega)];exact if_pos (by simp [z33,hd])
 | 6,_=>rw [p6,z5p 6 (by omega)];exact if_pos (by simp [z33,hd])
 | 7,_=>rw [p7,z5p 7 (by omega)];exact if_pos (by simp [z33,hd])
 |i+8,h=>omega
theorem zv2(seed:List UInt8)(i:Nat)(hi:i<8):hd (keyL seed) i=z31 (pubH seed i):=by
 rw [z9d (by rw [z3r];exact hi)]
 simp [keyL]
theorem z139(seed:List UInt8)(i:Nat)(hi:i<8)(dg:Hash):verI (z1o (keyL seed)) dg i (ksgS seed i dg.1) (z24 (keyL seed) i)=0:=by
 unfold verI
 rw [if_neg (by omega),if_pos (zen _ _ _),zzb,<-zv2 seed i hi,if_pos (zs0 _ (z3r seed) i hi)]
end
section
set_option maxRecDepth 10000
def q1oc8:yX:=.seq (yq [yL 4 true 36 1,yC 5 106 4,yu 6 5] (.cond (.t 6) (yq [ye 2,yK 3 .i64 2] .ret) .skip)) (yq [yF 7 0 1,yF 8 0 7,yR 9 false 1 8,yY 10 .u64 9,yf 11 117 10,yF 12 0 1,yF 13 1 12,yR 14 true 32 13,yf 15 96 14,yB 16 .add 11 15,yF 17 33 1,yF 18 0 17,yR 19 false 1 18,yY 20 .u64 19,yf 21 117 20,yB 22 .add 16 21,yF 23 33 1,yF 24 1 23,yR 25 false 1 24,yf 26 124 25,yB 27 .add 22 26,yF 28 33 1,yF 29 2 28,yR 30 false 1 29,yC 31 150 30,yB 32 .add 27 31,yM 2 32,yK 3 .i64 0] .ret)
def q1oc9:yX:=yq [yx 1 0,ye 2,yK 3 .i64 0] q1oc8
theorem q1ook:cFn TC 123=some (33,[.t 2,.t 3],q1oc9):=by kernel_rfl
def q1pr6:yW:=[
 yM 46 4,
 ⟨some 47,none,.pu,.call (.v (.fn 163 [])) [(.t 46)]⟩,
 yR 48 true 32 7,
 yI 49 (.build ((.int .i64 0)::zZ0) [(0,1,(.t 47)),(1,32,(.t 48))]),
 yM 50 9,
 ⟨some 51,none,.pu,.call (.v (.fn 163 [])) [(.t 50)]⟩,
 yM 52 11,
 yM 53 13,
 yI 54 (.build [(.int .i64 0),(.str []),.nilsl] [(0,1,(.t 51)),(1,1,(.t 52)),(2,1,(.t 53))]),
 yI 55 (.build zZ1 [(0,33,(.t 49)),(33,3,(.t 54))]),
 ⟨some 15,none,.ef,.alloc zZ1⟩,
 yS 36 15 55]
def q1pr7:yW:=[
 yM 56 6,
 yu 57 56,
 yM 58 57,
 yV 59 58 false 8,
 yG 60 58 false (.un .not (.t 59)),
 yP 61 58 60,
 yM 62 61,
 yV 63 62 false 10,
 yG 64 62 false (.un .not (.t 63)),
 yP 65 62 64,
 yM 66 65,
 yV 67 66 false 12,
 yG 68 66 false (.un .not (.t 67)),
 yP 69 66 68,
 yM 70 69,
 yV 71 70 false 14,
 yG 72 70 false (.un .not (.t 71)),
 yP 73 70 72,
 yM 74 73,
 yV 75 74 false 5,
 yG 76 74 false (.bin .neq .none (.t 75) (.v (.str []))),
 yP 77 74 76,
 yM 78 77,
 yU 79 78 false true 36 15,
 yG 80 78 false (.call (.v (.fn 97 [])) [(.t 79)]),
 yG 81 78 false (.un .not (.t 80)),
 yP 82 78 81]
def q1pc18:yX:=yq [yM 29 5,yC 30 145 29,yM 28 30,yE 31 0 28,yE 32 1 28,yE 33 2 28,yM 9 31,yM 5 32,yM 10 33] (yq [yM 35 5,yC 36 143 35,yM 34 36,yE 37 0 34,yE 38 1 34,yE 39 2 34,yM 11 37,yM 5 38,yM 12 39] (yq [yM 41 5,yC 42 162 41,yM 40 42,yE 43 0 40,yE 44 1 40,yE 45 2 40,yM 13 43,yM 5 44,yM 14 45] (yq q1pr6 (.seq (yq q1pr7 (.cond (.t 82) (yq [yI 83 (.build zZ1 []),yS 36 2 83,yK 3 .i64 10] .ret) .skip)) (yq [yL 84 true 36 15,yS 36 2 84,yK 3 .i64 0] .ret)))))
def q1pc21:yX:=yq [yI 2 (.alloc zZ1),yK 3 .i64 0] (yq [yM 17 0,yC 18 145 17,yM 16 18,yE 19 0 16,yE 20 1 16,yE 21 2 16,yM 4 19,yM 5 20,yM 6 21] (yq [yM 23 5,yC 24 146 23,yM 22 24,yE 25 0 22,yE 26 1 22,yE 27 2 22,yI 7 (.alloc zZ0),yS 32 7 25,yM 5 26,yM 8 27] q1pc18))
attribute [go_sem] q1pr6 q1pr7
theorem q1pok:cFn TC 144=some (85,[.c 2 true 36,.t 3],q1pc21):=by kernel_rfl
def q1qr6:yW:=[
 yM 49 6,
 yu 50 49,
 yM 51 50,
 yV 52 51 false 8,
 yG 53 51 false (.un .not (.t 52)),
 yP 54 51 53,
 yM 55 54,
 yV 56 55 false 10,
 yG 57 55 false (.un .not (.t 56)),
 yP 58 55 57,
 yM 59 58,
 yV 60 59 false 12,
 yG 61 59 false (.un .not (.t 60)),
 yP 62 59 61,
 yM 63 62,
 yV 64 63 false 15,
 yG 65 63 false (.un .not (.t 64)),
 yP 66 63 65,
 yM 67 66,
 yV 68 67 false 4,
 yG 69 67 false (.bin .gtr .none (.t 68) (.v (.int .u64 4096))),
 yP 70 67 69,
 yM 71 70,
 yV 72 71 false 9,
 yG 73 71 false (.bin .gtr .none (.t 72) (.v (.int .u64 7))),
 yP 74 71 73]
def q1qc22:yX:=yq [yM 76 4,yY 77 .i64 76,yL 78 true 32 7,yI 79 (.build ((.int .i64 0)::zZ0) [(0,1,(.t 77)),(1,32,(.t 78))]),yM 80 9,yY 81 .i64 80,yM 82 11,yM 83 13,yI 84 (.build [(.int .i64 0),(.str []),.nilsl] [(0,1,(.t 81)),(1,1,(.t 82)),(2,1,(.t 83))]),yI 85 (.build zZ1 [(0,33,(.t 79)),(33,3,(.t 84))]),yI 16 (.alloc zZ1),yS 36 16 85] (yq [yL 87 true 36 16,yC 88 123 87,yM 86 88,yE 89 0 86,yE 90 1 86,yM 17 89,yM 18 90] (.seq (yq [yM 91 18,yJ 92 .neq 91 .i64 0,yM 93 92,yV 94 93 false 17,yV 95 93 false 0,yG 96 93 false (.bin .neq .none (.t 94) (.t 95)),yP 97 93 96] (.cond (.t 97) (yq [yI 98 (.build zZ1 []),yS 36 2 98,yK 3 .i64 10] .ret) .skip)) (yq [yL 99 true 36 16,yS 36 2 99,yK 3 .i64 0] .ret)))
def q1qc27:yX:=yq [yM 26 5,yC 27 122 26,yM 25 27,yE 28 0 25,yE 29 1 25,yE 30 2 25,yI 7 (.alloc zZ0),yS 32 7 28,yM 5 29,yM 8 30] (yq [yM 32 5,yC 33 119 32,yM 31 33,yE 34 0 31,yE 35 1 31,yE 36 2 31,yM 9 34,yM 5 35,yM 10 36] (yq [yM 38 5,yC 39 120 38,yM 37 39,yE 40 0 37,yE 41 1 37,yE 42 2 37,yM 11 40,yM 5 41,yM 12 42] (yq [yM 44 5,yC 45 149 44,yM 43 45,yE 46 0 43,yE 47 1 43,yE 48 2 43,yM 13 46,yM 14 47,yM 15 48] (.seq (yq q1qr6 (.cond (.t 74) (yq [yI 75 (.build zZ1 []),yS 36 2 75,yK 3 .i64 10] .ret) .skip)) q1qc22))))
def q1qc29:yX:=yq [yI 2 (.alloc zZ1),yK 3 .i64 0] (yq [yM 20 0,yC 21 119 20,yM 19 21,yE 22 0 19,yE 23 1 19,yE 24 2 19,yM 4 22,yM 5 23,yM 6 24] q1qc27)
attribute [go_sem] q1qr6
theorem q1qok:cFn TC 121=some (100,[.c 2 true 36,.t 3],q1qc29):=by kernel_rfl
def q1rc8:yX:=.seq (yq [yL 4 true 36 1,yC 5 97 4,yu 6 5] (.cond (.t 6) (yq [ye 2,yK 3 .i64 2] .ret) .skip)) (yq [yF 7 0 1,yF 8 0 7,yR 9 false 1 8,yY 10 .u64 9,yf 11 109 10,yF 12 0 1,yF 13 1 12,yR 14 true 32 13,yf 15 84 14,yB 16 .add 11 15,yF 17 33 1,yF 18 0 17,yR 19 false 1 18,yY 20 .u64 19,yf 21 109 20,yB 22 .add 16 21,yF 23 33 1,yF 24 1 23,yR 25 false 1 24,yf 26 129 25,yB 27 .add 22 26,yF 28 33 1,yF 29 2 28,yR 30 false 1 29,yC 31 164 30,yB 32 .add 27 31,yM 2 32,yK 3 .i64 0] .ret)
def q1rc9:yX:=yq [yx 1 0,ye 2,yK 3 .i64 0] q1rc8
theorem q1rok:cFn TC 147=some (33,[.t 2,.t 3],q1rc9):=by kernel_rfl
def q1sr2:yW:=[
 yM 14 3,
 yM 15 14,
 yT 16 15 true 33 1,
 yT 17 15 true 0 16,
 yU 18 15 true false 1 17,
 yG 19 15 true (.bin .geq .none (.t 18) (.v (.int .i64 0))),
 yQ 20 15 19,
 yM 21 20,
 yT 22 21 true 33 1,
 yT 23 21 true 0 22,
 yU 24 21 true false 1 23,
 yG 25 21 true (.bin .lss .none (.t 24) (.v (.int .i64 8))),
 yQ 26 21 25,
 yM 27 26,
 yT 28 27 true 33 1,
 yT 29 27 true 1 28,
 yU 30 27 true false 1 29,
 yG 31 27 true (.lenStr (.t 30)),
 yG 32 27 true (.bin .eql .none (.t 31) (.v (.int .i64 16384))),
 yQ 33 27 32,
 yM 34 33,
 yT 35 34 true 33 1,
 yT 36 34 true 2 35,
 yU 37 34 true false 1 36,
 yG 38 34 true (.lenSl (.t 37)),
 yG 39 34 true (.bin .eql .none (.t 38) (.v (.int .i64 3))),
 yQ 40 34 39,
 yM 2 40]
def q1sc5:yX:=yq [yx 1 0,yb 2 false] (yq [yF 4 0 1,yF 5 0 4,yL 6 false 1 5,yJ 7 .geq 6 .i64 0,yM 8 7,yT 9 8 true 0 1,yT 10 8 true 0 9,yU 11 8 true false 1 10,yG 12 8 true (.bin .leq .none (.t 11) (.v (.int .i64 4096))),yQ 13 8 12,yM 3 13] (yq q1sr2 .ret))
attribute [go_sem] q1sr2
theorem q1sok:cFn TC 97=some (41,[.t 2],q1sc5):=by kernel_rfl
def q1tc14:yX:=yq [yx 2 0,yx 3 1,yK 4 .i64 0] (.seq (.block 0 (yq [yL 6 true 36 3,yC 7 97 6,yu 8 7,yM 5 8] (.cond (.t 5) (yq [yK 4 .i64 2] .ret) (yq [yR 10 true 32 2,yF 11 0 3,yR 12 true 33 11,yf 13 99 12,yF 14 33 3,yR 15 true 3 14,yc 16 98 10 13 15,yJ 17 .neq 16 .i64 0,yM 9 17] (.cond (.t 9) (yq [yK 4 .i64 81] .ret) .skip))))) (yq [yK 4 .i64 0] .ret))
theorem q1tok:cFn TC 47=some (18,[.t 4],q1tc14):=by kernel_rfl
def q1ur1:yW:=[
 yF 3 0 1,
 yF 4 0 3,
 yL 5 false 1 4,
 yJ 6 .geq 5 .i64 0,
 yM 7 6,
 yT 8 7 true 0 1,
 yT 9 7 true 0 8,
 yU 10 7 true false 1 9,
 yG 11 7 true (.bin .leq .none (.t 10) (.v (.int .i64 4096))),
 yQ 12 7 11,
 yM 13 12,
 yT 14 13 true 33 1,
 yT 15 13 true 0 14,
 yU 16 13 true false 1 15,
 yG 17 13 true (.bin .geq .none (.t 16) (.v (.int .i64 0))),
 yQ 18 13 17,
 yM 19 18,
 yT 20 19 true 33 1,
 yT 21 19 true 0 20,
 yU 22 19 true false 1 21,
 yG 23 19 true (.bin .leq .none (.t 22) (.v (.int .i64 7))),
 yQ 24 19 23,
 yM 25 24,
 yT 26 25 true 33 1,
 yT 27 25 true 1 26,
 yU 28 25 true false 1 27,
 yG 29 25 true (.lenStr (.t 28)),
 yG 30 25 true (.bin .eql .none (.t 29) (.v (.int .i64 16384))),
 yQ 31 25 30,
 yM 32 31,
 yT 33 32 true 33 1,
 yT 34 32 true 2 33,
 yU 35 32 true false 1 34,
 yG 36 32 true (.lenSl (.t 35)),
 yG 37 32 true (.bin .eql .none (.t 36) (.v (.int .i64 3))),
 yQ 38 32 37,
 yM 2 38]
def q1uc3:yX:=yq [yx 1 0,yb 2 false] (yq q1ur1 .ret)
attribute [go_sem] q1ur1
theorem q1uok:cFn TC 106=some (39,[.t 2],q1uc3):=by kernel_rfl
def q1vc3:yX:=yq [yK 2 .i64 0] (yq [yM 3 0,yI 4 (.minmax false (.t 3) (.v (.int .u64 1073741824))),yY 5 .i64 4,yM 2 5] .ret)
theorem q1vok:cFn TC 163=some (6,[.t 2],q1vc3):=by kernel_rfl
def q1wc3:yX:=yq [yx 1 0,yI 2 (.alloc zZ0)] (yq [yF 3 0 1,yR 4 false 1 3,yY 5 .u64 4,⟨some 6,none,.ef,.call (.v (.fn 128 [])) [(.t 5),(.v (.int .i64 8))]⟩,yI 7 (.bin .add .none (.v (.str [5])) (.t 6)),yF 8 1 1,yR 9 true 32 8,yC 10 84 9,yB 11 .add 7 10,yC 12 85 11,yS 32 2 12] .ret)
theorem q1wok:cFn TC 99=some (13,[.c 2 true 32],q1wc3):=by kernel_rfl
end
section
attribute [local irreducible] ACallsTo ACallsP
def sgC(n:Int)(r:Hash)(i:Int)(s:List UInt8)(x:AV):List AV:=.int .i64 n::(hc r++ [.int .i64 i,.str s,x])
@[go_sem] theorem zg (n:Int) (r:Hash) (i:Int) (s:List UInt8) (x:AV):(sgC n r i s x).length=36:=by simp [sgC,z8]
@[go_sem] theorem sgC_0 (n:Int) (r:Hash) (i:Int) (s:List UInt8) (x:AV):(sgC n r i s x)[0]? =some (.int .i64 n):=rfl
theorem zgs(n:Int)(r:Hash)(i:Int)(s:List UInt8)(x:AV)(k:Nat):(sgC n r i s x)[33+k]? =[AV.int .i64 i,.str s,x][k]?:=by
 rw [sgC,show 33+k=(32+k)+1 by omega,List.getElem?_cons_succ,List.getElem?_append_right (by rw [z8];omega),z8,Nat.add_sub_cancel_left]
@[go_sem] theorem sgC_33 (n:Int) (r:Hash) (i:Int) (s:List UInt8) (x:AV):(sgC n r i s x)[33]? =some (.int .i64 i):=zgs n r i s x 0
@[go_sem] theorem sgC_34 (n:Int) (r:Hash) (i:Int) (s:List UInt8) (x:AV):(sgC n r i s x)[34]? =some (.str s):=zgs n r i s x 1
@[go_sem] theorem zo3 (n:Int) (r:Hash) (i:Int) (s:List UInt8) (x:AV):(sgC n r i s x)[35]? =some x:=zgs n r i s x 2
@[go_sem] theorem z10g (n:Int) (r:Hash) (i:Int) (s:List UInt8) (x:AV):(sgC n r i s x).take 36=sgC n r i s x:=List.take_of_length_le (by rw [zg];decide)
@[go_sem] theorem z10i (n:Int) (r:Hash) (i:Int) (s:List UInt8) (x:AV):((sgC n r i s x).drop 1).take 32=hc r:=by
 rw [sgC,List.drop_succ_cons,List.drop_zero,z7q]
@[go_sem] theorem z9y (n:Int) (r:Hash) (i:Int) (s:List UInt8) (x:AV):(sgC n r i s x).take 33=.int .i64 n::hc r:=by
 rw [sgC,List.take_succ_cons,z7q]
@[go_sem] theorem sgC_seal (n:Int) (r:Hash) (i:Int) (s:List UInt8) (x:AV):((sgC n r i s x).drop 33).take 3=[.int .i64 i,.str s,x]:=by
 rw [sgC,List.drop_succ_cons,z7p];rfl
def z1w(n i:Int)(s:List UInt8)(l:List Hash):Bool:=decide (0<=n/\ n<=4096/\ 0<=i/\ i<=7/\ s.length=16384/\ l.length=3)
theorem lX:(∀(h:Hash),(hc h).length=32)/\ (∀(l:List Hash),(hr l).length=l.length)/\ (∀{α:Type}{l:List α},l.reverse.length=l.length)/\ (∀(s:List UInt8),(zy s).length=s.length)/\ (∀(l:List UInt8),(z11 l).length=l.length)/\ (∀{α:Type}{i:Nat}{l:List α},(l.drop i).length=l.length-i)/\ (∀(n:Int) (r:Hash) (i:Int) (s:List UInt8) (x:AV),(sgC n r i s x).length=36):=⟨@z8,@zn,by simp,@zo,@zw,by simp,@zg⟩
theorem zgz(O:Store)(n:Nat)(h:n<18446744073709551616):ACallsTo TC 163 [.int .u64 n] O (.int .i64 ((min n 1073741824:Nat):Int)) O:=by
 refine ACallsTo.of_body q1vok (by simp) fun hw _=> ?_
 by_cases h1:n<=1073741824
 ·rw [Nat.min_eq_left h1]
  have e:min (n:Int) 1073741824=n:=by omega
  repeat' (first|apply zA rfl|(apply zd_ rfl<;>intro ht<;>try omega)|((first|apply zB rfl|(apply zG<;>intro ht))<;>try simp (disch:=first|omega|simp only [lz,lX];try omega) only [go_sem]))
  exact DownV.same hw z2b
 ·rw [Nat.min_eq_right (by omega)]
  repeat' (first|apply zA rfl|(apply zd_ rfl<;>intro ht<;>try omega)|((first|apply zB rfl|(apply zG<;>intro ht))<;>try simp (disch:=first|omega|simp only [lz,lX];try omega) only [go_sem]))
  exact DownV.same hw z2b
theorem z8m(O:Store)(n i:Int)(r:Hash)(s:List UInt8)(l:List Hash)(x:AV)(hx:RdSl O 32 (hr l) x):ACallsTo TC 97 [.agg (sgC n r i s x)] O (.bool (z1w n i s l)) O:=by
 refine ACallsTo.of_body q1sok (by simp) fun hw _=> ?_
 have r1:=hx.len
 rw [zn]at r1
 unfold z1f at r1
 unfold z1w
 by_cases a1:n>=0
 ·by_cases a2:n<=4096
  ·by_cases a3:i>=0
   ·by_cases a4:i<8
    ·by_cases a5:(s.length:Int)=16384
     ·by_cases a6:(l.length:Int)=3
      ·rw [decide_eq_true (by omega)]
       repeat' (first|apply zA rfl|(apply zd_ rfl<;>intro ht<;>try omega)|((first|apply zB rfl|(apply zG<;>intro ht))<;>try simp (disch:=first|omega|simp only [lz,lX];try omega) only [go_sem,a1,a2,a3,a4,a5,a6,r1]))
       exact DownV.pure hw z1k
      ·rw [decide_eq_false (by omega)]
       repeat' (first|apply zA rfl|(apply zd_ rfl<;>intro ht<;>try omega)|((first|apply zB rfl|(apply zG<;>intro ht))<;>try simp (disch:=first|omega|simp only [lz,lX];try omega) only [go_sem,a1,a2,a3,a4,a5,a6,r1]))
       exact DownV.pure hw z1k
     ·rw [decide_eq_false (by omega)]
      repeat' (first|apply zA rfl|(apply zd_ rfl<;>intro ht<;>try omega)|((first|apply zB rfl|(apply zG<;>intro ht))<;>try simp (disch:=first|omega|simp only [lz,lX];try omega) only [go_sem,a1,a2,a3,a4,a5]))
      exact DownV.pure hw z1k
    ·rw [decide_eq_false (by omega)]
     repeat' (first|apply zA rfl|(apply zd_ rfl<;>intro ht<;>try omega)|((first|apply zB rfl|(apply zG<;>intro ht))<;>try simp (disch:=first|omega|simp only [lz,lX];try omega) only [go_sem,a1,a2,a3,a4]))
     exact DownV.pure hw z1k
   ·rw [decide_eq_false (by omega)]
    repeat' (first|apply zA rfl|(apply zd_ rfl<;>intro ht<;>try omega)|((first|apply zB rfl|(apply zG<;>intro ht))<;>try simp (disch:=first|omega|simp only [lz,lX];try omega) only [go_sem,a1,a2,a3]))
    exact DownV.pure hw z1k
  ·rw [decide_eq_false (by omega)]
   repeat' (first|apply zA rfl|(apply zd_ rfl<;>intro ht<;>try omega)|((first|apply zB rfl|(apply zG<;>intro ht))<;>try simp (disch:=first|omega|simp only [lz,lX];try omega) only [go_sem,a1,a2]))
   exact DownV.pure hw z1k
 ·rw [decide_eq_false (by omega)]
  repeat' (first|apply zA rfl|(apply zd_ rfl<;>intro ht<;>try omega)|((first|apply zB rfl|(apply zG<;>intro ht))<;>try simp (disch:=first|omega|simp only [lz,lX];try omega) only [go_sem,a1]))
  exact DownV.pure hw z1k
theorem zg8(O:Store)(n i:Int)(r:Hash)(s:List UInt8)(l:List Hash)(x:AV)(hx:RdSl O 32 (hr l) x):ACallsTo TC 106 [.agg (sgC n r i s x)] O (.bool (z1w n i s l)) O:=by
 refine ACallsTo.of_body q1uok (by simp) fun hw _=> ?_
 have r1:=hx.len
 rw [zn]at r1
 unfold z1f at r1
 unfold z1w
 by_cases a1:n>=0
 ·by_cases a2:n<=4096
  ·by_cases a3:i>=0
   ·by_cases a4:i<=7
    ·by_cases a5:(s.length:Int)=16384
     ·by_cases a6:(l.length:Int)=3
      ·rw [decide_eq_true (by omega)]
       repeat' (first|apply zA rfl|(apply zd_ rfl<;>intro ht<;>try omega)|((first|apply zB rfl|(apply zG<;>intro ht))<;>try simp (disch:=first|omega|simp only [lz,lX];try omega) only [go_sem,a1,a2,a3,a4,a5,a6,r1]))
       exact DownV.pure hw z1k
      ·rw [decide_eq_false (by omega)]
       repeat' (first|apply zA rfl|(apply zd_ rfl<;>intro ht<;>try omega)|((first|apply zB rfl|(apply zG<;>intro ht))<;>try simp (disch:=first|omega|simp only [lz,lX];try omega) only [go_sem,a1,a2,a3,a4,a5,a6,r1]))
       exact DownV.pure hw z1k
     ·rw [decide_eq_false (by omega)]
      repeat' (first|apply zA rfl|(apply zd_ rfl<;>intro ht<;>try omega)|((first|apply zB rfl|(apply zG<;>intro ht))<;>try simp (disch:=first|omega|simp only [lz,lX];try omega) only [go_sem,a1,a2,a3,a4,a5]))
      exact DownV.pure hw z1k
    ·rw [decide_eq_false (by omega)]
     repeat' (first|apply zA rfl|(apply zd_ rfl<;>intro ht<;>try omega)|((first|apply zB rfl|(apply zG<;>intro ht))<;>try simp (disch:=first|omega|simp only [lz,lX];try omega) only [go_sem,a1,a2,a3,a4]))
     exact DownV.pure hw z1k
   ·rw [decide_eq_false (by omega)]
    repeat' (first|apply zA rfl|(apply zd_ rfl<;>intro ht<;>try omega)|((first|apply zB rfl|(apply zG<;>intro ht))<;>try simp (disch:=first|omega|simp only [lz,lX];try omega) only [go_sem,a1,a2,a3]))
    exact DownV.pure hw z1k
  ·rw [decide_eq_false (by omega)]
   repeat' (first|apply zA rfl|(apply zd_ rfl<;>intro ht<;>try omega)|((first|apply zB rfl|(apply zG<;>intro ht))<;>try simp (disch:=first|omega|simp only [lz,lX];try omega) only [go_sem,a1,a2]))
   exact DownV.pure hw z1k
 ·rw [decide_eq_false (by omega)]
  repeat' (first|apply zA rfl|(apply zd_ rfl<;>intro ht<;>try omega)|((first|apply zB rfl|(apply zG<;>intro ht))<;>try simp (disch:=first|omega|simp only [lz,lX];try omega) only [go_sem,a1]))
  exact DownV.pure hw z1k
def putH(n:Nat)(r:Hash)(i:Nat)(s:List UInt8)(l:List Hash):List UInt8:=numS n++r.1++numS i++z23 s++z2v l
def putV(n i:Int)(r:Hash)(s:List UInt8)(l:List Hash):AV:=
 if z1w n i s l=true then .tup [.str (putH n.toNat r i.toNat s l),.int .i64 0]else .tup [.str [],.int .i64 2]
theorem z8i{n i:Int}{l:List Hash}(h:z1w n i s l=true):∃N I:Nat,n=N/\ i=I/\ N<=4096/\ I<=7/\ s.length=16384/\ l.length=3:=by
 obtain⟨h1,h2,h3,h4,h5,h6⟩:=of_decide_eq_true h
 exact⟨n.toNat,i.toNat,by omega,by omega,by omega,by omega,h5,h6⟩
theorem zbe{l:List Hash}:(z2v l).length<=11+32*l.length:=by
 unfold z2v
 have:=z1u l.length
 have:=z45 l
 split
 ·simp
 ·rw [List.length_append];omega
theorem zcp{n:Int}:RL k (.tup [.str s,.int .i64 n]):=by simp only [RL,RLs];exact⟨trivial,trivial,trivial⟩
theorem zn4(O:Store)(n i:Int)(r:Hash)(s:List UInt8)(l:List Hash)(x:AV)(hx:RdSl O 32 (hr l) x):ACallsTo TC 123 [.agg (sgC n r i s x)] O (putV n i r s l) O:=by
 have hV:=zg8 (O++ [some [sgC n r i s x]]) n i r s l x hx.app
 refine ACallsTo.of_body q1ook (by simp) fun hw _=> ?_
 unfold putV
 cases hv:z1w n i s l with
 |false=>
  rw [hv]at hV
  rw [if_neg (by decide)]
  repeat' (first|apply zA rfl|(apply zd_ rfl<;>intro ht<;>try omega)|((first|apply zB rfl|(apply callW.mk_pu;exact(fun _=>hV))|(apply callW.za;exact(hV))|(apply zG<;>intro ht))<;>try simp (disch:=first|omega|simp only [lz,lX];try omega) only [go_sem]))
  exact DownV.pure hw zcp
 |true=>
  rw [hv]at hV
  rw [if_pos rfl]
  obtain⟨N,I,rfl,rfl,h1,h2,h3,h4⟩:=z8i hv
  have hN:=fun O=>z62 O N (by omega)
  have hI:=fun O=>z62 O I (by omega)
  have hH:=fun O=>z73 O r.1 r.2
  have hT:=fun O=>zn9 O s (by omega)
  have hL:=zzj (O++ [some [sgC N r I s x]]) l x hx.app (by omega)
  have l1:=z1u N
  have l2:=z1u I
  have l4:(z23 s).length<=11+16384:=by have:=z1u s.length;rw [z23,List.length_append];omega
  have l5:=zbe (l:=l)
  have hcr:hc r=z11 r.1:=rfl
  rw [Int.toNat_natCast,Int.toNat_natCast]
  unfold putH
  generalize numS N=sN at*
  generalize numS I=sI at*
  generalize z23 s=sT at*
  generalize z2v l=sH at*
  repeat' (first|apply zA rfl|(apply zd_ rfl<;>intro ht<;>try omega)|((first|apply zB rfl|(apply callW.mk_pu;(first|exact(fun _=>hV)|exact(fun _=>hN _)|exact(fun _=>hI _)|exact(fun _=>hH _)|exact(fun _=>hT _)|exact(fun _=>hL)))|(apply callW.za;(first|exact(hV)|exact(hN _)|exact(hI _)|exact(hH _)|exact(hT _)|exact(hL)))|(apply zG<;>intro ht))<;>try simp (disch:=first|omega|simp only [lz,lX];try omega) only [go_sem,hcr]))
  exact DownV.pure hw zcp
structure Hd where
 n:Nat
 r:Hash
 i:Nat
 g:List UInt8
 l:List Hash
def z59(s:List UInt8):Option (Hd × List UInt8):=
 (z1r s).bind fun x=>(unS x.2).bind fun y=>(z1r y.2).bind fun z=>(cutS z.2).bind fun u=>(unsS u.2).map fun v=>(⟨x.1,y.1,z.1,u.1,v.1⟩,v.2)
def getH(s:List UInt8):Option Hd:=(z59 s).bind fun x=>if x.2=[]/\ z1w x.1.n x.1.i x.1.g x.1.l=true then some x.1 else none
def getV:Option Hd->AV
 |none=> .tup [.agg (sgC 0 zeroH 0 [] .nilsl),.int .i64 10]
 |some h=> .tup [.agg (sgC h.n h.r h.i h.g (zz 32 (hr h.l))),.int .i64 0]
theorem zco{n i:Int}{r:Hash}{e:Int}(h:RL k x):RL k (.tup [.agg (sgC n r i s x),.int .i64 e]):=by
 have h1:RLs k (sgC n r i s x):=by
  rw [sgC,RLs_iff]
  intro a ha
  simp only [List.mem_cons,List.mem_append,List.not_mem_nil,or_false]at ha
  rcases ha with rfl|ha|rfl|rfl|rfl
  ·exact z2b
  ·exact RLs_iff.1 (z65 r) a ha
  ·exact z2b
  ·exact z40
  ·exact h
 simp only [RL,RLs];exact⟨h1,trivial,trivial⟩
theorem z35:RL k (.tup [.agg (sgC 0 zeroH 0 [] .nilsl),.int .i64 10]):=zco (by simp [RL])
theorem zp1{r:List UInt8}{h:Hash}(e:unS s=some (h,r)):r.length<s.length:=by
 by_cases hl:32<=s.length
 ·rw [z6b hl]at e
  simp only [Option.some.injEq,Prod.mk.injEq]at e
  rw [<-e.2,List.length_drop];omega
 ·rw [za6 hl]at e;cases e
theorem zjg{g r:List UInt8}(e:cutS s=some (g,r)):r.length<s.length/\ g.length<s.length:=by
 unfold cutS at e
 cases h:z1r s with
 |none=>rw [h]at e;simp at e
 |some x=>
  obtain⟨n,t⟩:=x
  have hl:=(z4h h).2
  rw [h]at e
  simp only [Option.bind_some,z3g]at e
  split at e
  ·simp only [Option.some.injEq,Prod.mk.injEq]at e
   rw [<-e.2,<-e.1,List.length_drop,List.length_take];omega
  ·cases e
theorem zcl(O:Store):ACallsTo TC 119 [.str []] O (.tup [.int .u64 0,.str [],.bool false]) O:=z63 O [] (by simp)
theorem zn5(O:Store):ACallsTo TC 122 [.str []] O (.tup [.agg (hc zeroH),.str [],.bool false]) O:=z9t O [] (by simp)
theorem z81(O:Store):ACallsTo TC 120 [.str []] O (.tup [.str [],.str [],.bool false]) O:=zg9 O [] (by simp)
theorem z61(O:Store):ACallsTo TC 149 [.str []] O (.tup [.nilsl,.str [],.bool false]) O:=zna O [] (by simp)
theorem zp3(l:List Hash)(r:List UInt8):unsV (some (l,r))=.tup [zz 32 (hr l),.str r,.bool true]:=rfl
def getR(s:List UInt8):Option Hd:=(z59 s).bind fun x=>if z1w x.1.n x.1.i x.1.g x.1.l=true/\ putH x.1.n x.1.r x.1.i x.1.g x.1.l=s then some x.1 else none
theorem zzi(O:Store)(s:List UInt8)(hs:s.length<1000000000):ACallsTo TC 121 [.str s] O (getV (getR s)) O:=by
 refine ACallsTo.of_body q1qok (by simp) fun hw _=> ?_
 have h1:=fun O=>z63 O s hs
 unfold getR z59
 cases e1:z1r s with
 |none=>
  rw [e1]at h1
  unfold rdV at h1
  simp only [Option.bind_none,getV]
  repeat' (first|apply zA rfl|(apply zd_ rfl<;>intro ht<;>try omega)|((first|apply zB rfl|(apply callW.mk_pu;(first|exact(fun _=>h1 _)|exact(fun _=>zcl _)|exact(fun _=>zn5 _)|exact(fun _=>z81 _)|exact(fun _=>z61 _)))|(apply callW.za;(first|exact(h1 _)|exact(zcl _)|exact(zn5 _)|exact(z81 _)|exact(z61 _)))|(apply zG<;>intro ht))<;>try simp (disch:=first|omega|simp only [lz,lX];try omega) only [go_sem]))
  exact DownV.pure hw z35
 |some x=>
 obtain⟨n,t1⟩:=x
 obtain⟨n1,l1⟩:=z4h e1
 rw [e1]at h1
 unfold rdV at h1
 have h2:=fun O=>z9t O t1 (by omega)
 simp only [Option.bind_some]
 cases e2:unS t1 with
 |none=>
  rw [e2]at h2
  unfold unV at h2
  simp only [Option.bind_none,getV]
  repeat' (first|apply zA rfl|(apply zd_ rfl<;>intro ht<;>try omega)|((first|apply zB rfl|(apply callW.mk_pu;(first|exact(fun _=>h1 _)|exact(fun _=>h2 _)|exact(fun _=>zcl _)|exact(fun _=>z81 _)|exact(fun _=>z61 _)))|(apply callW.za;(first|exact(h1 _)|exact(h2 _)|exact(zcl _)|exact(z81 _)|exact(z61 _)))|(apply zG<;>intro ht))<;>try simp (disch:=first|omega|simp only [lz,lX];try omega) only [go_sem]))
  exact DownV.pure hw z35
 |some y=>
 obtain⟨r,t2⟩:=y
 have l2:=zp1 e2
 rw [e2]at h2
 unfold unV at h2
 have h3:=fun O=>z63 O t2 (by omega)
 simp only [Option.bind_some]
 cases e3:z1r t2 with
 |none=>
  rw [e3]at h3
  unfold rdV at h3
  simp only [Option.bind_none,getV]
  repeat' (first|apply zA rfl|(apply zd_ rfl<;>intro ht<;>try omega)|((first|apply zB rfl|(apply callW.mk_pu;(first|exact(fun _=>h1 _)|exact(fun _=>h2 _)|exact(fun _=>h3 _)|exact(fun _=>z81 _)|exact(fun _=>z61 _)))|(apply callW.za;(first|exact(h1 _)|exact(h2 _)|exact(h3 _)|exact(z81 _)|exact(z61 _)))|(apply zG<;>intro ht))<;>try simp (disch:=first|omega|simp only [lz,lX];try omega) only [go_sem]))
  exact DownV.pure hw z35
 |some z=>
 obtain⟨i,t3⟩:=z
 obtain⟨n3,l3⟩:=z4h e3
 rw [e3]at h3
 unfold rdV at h3
 have h4:=fun O=>zg9 O t3 (by omega)
 simp only [Option.bind_some]
 cases e4:cutS t3 with
 |none=>
  rw [e4]at h4
  unfold stV at h4
  simp only [Option.bind_none,getV]
  repeat' (first|apply zA rfl|(apply zd_ rfl<;>intro ht<;>try omega)|((first|apply zB rfl|(apply callW.mk_pu;(first|exact(fun _=>h1 _)|exact(fun _=>h2 _)|exact(fun _=>h3 _)|exact(fun _=>h4 _)|exact(fun _=>z61 _)))|(apply callW.za;(first|exact(h1 _)|exact(h2 _)|exact(h3 _)|exact(h4 _)|exact(z61 _)))|(apply zG<;>intro ht))<;>try simp (disch:=first|omega|simp only [lz,lX];try omega) only [go_sem]))
  exact DownV.pure hw z35
 |some u=>
 obtain⟨g,t4⟩:=u
 obtain⟨l4,l5⟩:=zjg e4
 rw [e4]at h4
 unfold stV at h4
 have h5:=fun O=>zna O t4 (by omega)
 simp only [Option.bind_some]
 cases e5:unsS t4 with
 |none=>
  rw [e5]at h5
  unfold unsV at h5
  simp only [Option.bind_none,Option.map_none,getV]
  repeat' (first|apply zA rfl|(apply zd_ rfl<;>intro ht<;>try omega)|((first|apply zB rfl|(apply callW.mk_pu;(first|exact(fun _=>h1 _)|exact(fun _=>h2 _)|exact(fun _=>h3 _)|exact(fun _=>h4 _)|exact(fun _=>h5 _)))|(apply callW.za;(first|exact(h1 _)|exact(h2 _)|exact(h3 _)|exact(h4 _)|exact(h5 _)))|(apply zG<;>intro ht))<;>try simp (disch:=first|omega|simp only [lz,lX];try omega) only [go_sem]))
  exact DownV.pure hw z35
 |some v=>
 obtain⟨l,t5⟩:=v
 rw [e5]at h5
 simp only [zp3]at h5
 simp only [Option.bind_some,Option.map_some]
 have xc:=zof (sz:=32) (es:=hr l)
 have xr:∀O,RdSl O 32 (hr l) (zz 32 (hr l)):=fun O=>zog
 have xl:RL O.length (zz 32 (hr l)):=zgd (z3e l)
 obtain⟨x,hx⟩:∃x,x=zz 32 (hr l):=⟨_,rfl⟩
 rw [<-hx]at xc xl
 simp only [<-hx]at xr h5
 have fx:∀(cells:List AV) (off:Nat) (rest:List (Nat × Nat × AV)),off+1<=cells.length->z1e cells ((off,1,x)::rest)=z1e (z1i cells off [x]) rest:=fun cells off rest h=>by simp [z1e,xc,h]
 unfold cellsOf at xc
 have d35:∀(a b c:AV),List.drop 35 (hc r++ [a,b,c])=[]:=fun a b c=>List.drop_of_length_le (by simp [z8])
 have dl:List.drop 35 [AV.int .u8 0,AV.int .u8 0,AV.int .u8 0,AV.int .u8 0,AV.int .u8 0,AV.int .u8 0,AV.int .u8 0,AV.int .u8 0,AV.int .u8 0,AV.int .u8 0,AV.int .u8 0,AV.int .u8 0,AV.int .u8 0,AV.int .u8 0,AV.int .u8 0,AV.int .u8 0,AV.int .u8 0,AV.int .u8 0,AV.int .u8 0,AV.int .u8 0,AV.int .u8 0,AV.int .u8 0,AV.int .u8 0,AV.int .u8 0,AV.int .u8 0,AV.int .u8 0,AV.int .u8 0,AV.int .u8 0,AV.int .u8 0,AV.int .u8 0,AV.int .u8 0,AV.int .u8 0,AV.int .i64 0,AV.str [],AV.nilsl]=[]:=rfl
 by_cases b1:n<=4096
 ·by_cases b2:i<=7
  ·have hP:=fun O=>zn4 O n i r g l x (xr O)
   unfold putV sgC at hP
   cases hv:z1w n i g l with
   |false=>
    rw [hv]at hP
    rw [if_neg (by simp)]at hP
    rw [if_neg (by simp)]
    simp only [getV]
    repeat' (first|apply zA rfl|(apply zd_ rfl<;>intro ht<;>try omega)|((first|apply zB rfl|(apply callW.mk_pu;(first|exact(fun _=>h1 _)|exact(fun _=>h2 _)|exact(fun _=>h3 _)|exact(fun _=>h4 _)|exact(fun _=>h5 _)|exact(fun _=>hP _)))|(apply callW.za;(first|exact(h1 _)|exact(h2 _)|exact(h3 _)|exact(h4 _)|exact(h5 _)|exact(hP _)))|(apply zG<;>intro ht))<;>try simp (disch:=first|omega|simp only [lz,lX];try omega) only [go_sem,fx,d35,dl]))
    exact DownV.pure hw z35
   |true=>
    rw [hv,if_pos rfl,Int.toNat_natCast,Int.toNat_natCast]at hP
    by_cases hp:putH n r i g l=s
    ·rw [if_pos ⟨rfl,hp⟩]
     simp only [getV,<-hx]
     repeat' (first|apply zA rfl|(apply zd_ rfl<;>intro ht<;>try omega)|((first|apply zB rfl|(apply callW.mk_pu;(first|exact(fun _=>h1 _)|exact(fun _=>h2 _)|exact(fun _=>h3 _)|exact(fun _=>h4 _)|exact(fun _=>h5 _)|exact(fun _=>hP _)))|(apply callW.za;(first|exact(h1 _)|exact(h2 _)|exact(h3 _)|exact(h4 _)|exact(h5 _)|exact(hP _)))|(apply zG<;>intro ht))<;>try simp (disch:=first|omega|simp only [lz,lX];try omega) only [go_sem,fx,d35,dl,hp]))
     exact DownV.pure hw (zco xl)
    ·rw [if_neg (fun e=>hp e.2)]
     simp only [getV]
     have hbq:(putH n r i g l==s)=false:=beq_false_of_ne hp
     generalize putH n r i g l=P at*
     repeat' (first|apply zA rfl|(apply zd_ rfl<;>intro ht<;>try omega)|((first|apply zB rfl|(apply callW.mk_pu;(first|exact(fun _=>h1 _)|exact(fun _=>h2 _)|exact(fun _=>h3 _)|exact(fun _=>h4 _)|exact(fun _=>h5 _)|exact(fun _=>hP _)))|(apply callW.za;(first|exact(h1 _)|exact(h2 _)|exact(h3 _)|exact(h4 _)|exact(h5 _)|exact(hP _)))|(apply zG<;>intro ht))<;>try simp (disch:=first|omega|simp only [lz,lX];try omega) only [go_sem,fx,d35,dl,hbq]))
     exact DownV.pure hw z35
  ·have e:z1w n i g l=false:=decide_eq_false (by omega)
   rw [if_neg (by rw [e];simp)]
   simp only [getV]
   repeat' (first|apply zA rfl|(apply zd_ rfl<;>intro ht<;>try omega)|((first|apply zB rfl|(apply callW.mk_pu;(first|exact(fun _=>h1 _)|exact(fun _=>h2 _)|exact(fun _=>h3 _)|exact(fun _=>h4 _)|exact(fun _=>h5 _)))|(apply callW.za;(first|exact(h1 _)|exact(h2 _)|exact(h3 _)|exact(h4 _)|exact(h5 _)))|(apply zG<;>intro ht))<;>try simp (disch:=first|omega|simp only [lz,lX];try omega) only [go_sem]))
   exact DownV.pure hw z35
 ·have e:z1w n i g l=false:=decide_eq_false (by omega)
  rw [if_neg (by rw [e];simp)]
  simp only [getV]
  repeat' (first|apply zA rfl|(apply zd_ rfl<;>intro ht<;>try omega)|((first|apply zB rfl|(apply callW.mk_pu;(first|exact(fun _=>h1 _)|exact(fun _=>h2 _)|exact(fun _=>h3 _)|exact(fun _=>h4 _)|exact(fun _=>h5 _)))|(apply callW.za;(first|exact(h1 _)|exact(h2 _)|exact(h3 _)|exact(h4 _)|exact(h5 _)))|(apply zG<;>intro ht))<;>try simp (disch:=first|omega|simp only [lz,lX];try omega) only [go_sem]))
  exact DownV.pure hw z35
end
section
theorem zp2{r:List UInt8}{h:Hash}(e:unS s=some (h,r)):s=h.1++r:=by
 by_cases hl:32<=s.length
 ·rw [z6b hl]at e
  simp only [Option.some.injEq,Prod.mk.injEq]at e
  have h32:(s.take 32).length=32:=by rw [List.length_take];omega
  have hv:h.1=s.take 32:=by rw [<-e.1,toH,dif_pos h32]
  rw [hv,<-e.2,List.take_append_drop]
 ·rw [za6 hl]at e;cases e
theorem zjh{g r:List UInt8}(e:cutS s=some (g,r)):s=z23 g++r:=by
 unfold cutS at e
 cases h:z1r s with
 |none=>rw [h]at e;simp at e
 |some x=>
  obtain⟨n,t⟩:=x
  obtain⟨h1,h2⟩:=z71 h
  rw [h]at e
  simp only [Option.bind_some,z3g]at e
  split at e
  ·rename_i hl
   simp only [Option.some.injEq,Prod.mk.injEq]at e
   have hg:g.length=n:=by rw [<-e.1,List.length_take];omega
   rw [z23,hg,h2,<-e.1,<-e.2,List.append_assoc,List.take_append_drop]
  ·cases e
theorem zj3(t:List UInt8):∀(n:Nat),32*n<=t.length->catS (hsOf t n)=t.take (32*n)
 | 0,_=>by simp [hsOf,catS]
 |n+1,h=>by
  have ih:=zj3 t n (by omega)
  have h32:((t.drop (32*n)).take 32).length=32:=by rw [List.length_take,List.length_drop];omega
  have hv:(hsAt t n).1=(t.drop (32*n)).take 32:=by rw [hsAt,toH,dif_pos h32]
  have hc:catS (hsOf t (n+1))=catS (hsOf t n)++(hsAt t n).1:=by rw [zbh];simp [catS]
  rw [hc,ih,hv,show 32*(n+1)=32*n+32 by omega,List.take_add]
theorem z137{r:List UInt8}{l:List Hash}(e:unsS s=some (l,r)):s=z2v l++r:=by
 unfold unsS at e
 cases h:z1r s with
 |none=>rw [h]at e;simp at e
 |some x=>
  obtain⟨n,t⟩:=x
  obtain⟨h1,h2⟩:=z71 h
  rw [h]at e
  simp only [Option.bind_some]at e
  split at e
  ·rename_i hl
   simp only [Option.some.injEq,Prod.mk.injEq]at e
   have hn:l.length=n:=by rw [<-e.1,zei]
   rw [z2v,if_neg (by omega),hn,h2,<-e.1,zj3 t n hl.2,<-e.2,List.append_assoc,List.take_append_drop]
  ·cases e
theorem zxw{t:List UInt8}{h:Hd}(e:z59 s=some (h,t)):s=putH h.n h.r h.i h.g h.l++t:=by
 unfold z59 at e
 cases e1:z1r s with
 |none=>rw [e1]at e;simp at e
 |some x=>
 rw [e1]at e
 simp only [Option.bind_some]at e
 cases e2:unS x.2 with
 |none=>rw [e2]at e;simp at e
 |some y=>
 rw [e2]at e
 simp only [Option.bind_some]at e
 cases e3:z1r y.2 with
 |none=>rw [e3]at e;simp at e
 |some z=>
 rw [e3]at e
 simp only [Option.bind_some]at e
 cases e4:cutS z.2 with
 |none=>rw [e4]at e;simp at e
 |some u=>
 rw [e4]at e
 simp only [Option.bind_some]at e
 cases e5:unsS u.2 with
 |none=>rw [e5]at e;simp at e
 |some v=>
 rw [e5]at e
 simp only [Option.map_some,Option.some.injEq,Prod.mk.injEq]at e
 obtain⟨rfl,rfl⟩:=e
 have s1:=(z71 (n:=x.1) (rest:=x.2) e1).2
 have s2:=zp2 (h:=y.1) (r:=y.2) e2
 have s3:=(z71 (n:=z.1) (rest:=z.2) e3).2
 have s4:=zjh (g:=u.1) (r:=u.2) e4
 have s5:=z137 (l:=v.1) (r:=v.2) e5
 simp only [putH]
 rw [s1,s2,s3,s4,s5]
 simp only [List.append_assoc]
theorem ztt(s:List UInt8):getR s=getH s:=by
 unfold getR getH
 cases e:z59 s with
 |none=>rfl
 |some x=>
  obtain⟨h,t⟩:=x
  have hs:=zxw e
  simp only [Option.bind_some]
  by_cases ht:t=[]
  ·subst ht
   rw [List.append_nil]at hs
   by_cases hv:z1w h.n h.i h.g h.l=true
   ·rw [if_pos ⟨hv,hs.symm⟩,if_pos ⟨rfl,hv⟩]
   ·rw [if_neg (fun e=>hv e.1),if_neg (fun e=>hv e.2)]
  ·rw [if_neg (fun e=> ?_),if_neg (fun e=>ht e.1)]
   have h2:=e.2
   rw [hs]at h2
   have:=congrArg List.length h2
   rw [List.length_append]at this
   exact ht (List.eq_nil_of_length_eq_zero (by omega))
end
section
theorem toH_eq(h:Hash){l:List UInt8}(e:l=h.1):toH l=h:=by rw [e,zha]
theorem zhk(h:Hash)(r:List UInt8):unS (h.1++r)=some (h,r):=by
 have h1:=h.2
 rw [z6b (by rw [List.length_append];omega),List.take_left' h1,List.drop_left' h1,zha]
theorem zdw{g:List UInt8}(hg:g.length<18446744073709551616)(r:List UInt8):cutS (z23 g++r)=some (g,r):=by
 rw [cutS,z23,List.append_assoc,z5a hg,Option.bind_some,z3g,if_pos (by simp),List.take_left' rfl,List.drop_left' rfl]
theorem zkn(r:List UInt8)(l:List Hash):∀n,n<=l.length->hsOf (catS l++r) n=l.take n
 | 0,_=>by simp [hsOf]
 |n+1,h=>by
  have ih:=zkn r l n (by omega)
  have h1:=z45 (l.take n)
  rw [List.length_take,Nat.min_eq_left (by omega)]at h1
  have hd1:=(hd l n).2
  have e:catS l=catS (l.take n)++((hd l n).1++catS (l.drop (n+1))):=by
   have e1:l=l.take n++(hd l n::l.drop (n+1)):=by
    have:=List.take_append_drop (n+1) l
    rw [z5e (by omega:n<l.length),List.append_assoc]at this
    simpa using this.symm
   have e2:∀(a b:List Hash),catS (a++b)=catS a++catS b:=fun a b=>by simp [catS]
   have e3:∀(x:Hash) (b:List Hash),catS (x::b)=x.1++catS b:=fun x b=>by simp [catS]
   conv=>lhs;rw [e1]
   rw [e2,e3]
  rw [zbh,ih,z5e (by omega:n<l.length)]
  congr 2
  refine toH_eq _ ?_
  rw [e,List.append_assoc,List.drop_left' h1,List.append_assoc,List.take_left' hd1]
theorem z136{l:List Hash}(hl:l.length<=64)(r:List UInt8):unsS (z2v l++r)=some (l,r):=by
 have h1:=z45 l
 rw [unsS,z2v,if_neg (by omega),List.append_assoc,z5a (by omega),Option.bind_some,if_pos ⟨hl,by rw [List.length_append];omega⟩,zkn r l l.length (Nat.le_refl _),List.take_of_length_le (Nat.le_refl _),List.drop_left' h1]
theorem zxx{h:Hd}(hv:z1w h.n h.i h.g h.l=true)(t:List UInt8):z59 (putH h.n h.r h.i h.g h.l++t)=some (h,t):=by
 obtain⟨N,I,e1,e2,b1,b2,b3,b4⟩:=z8i hv
 unfold z59 putH
 simp only [List.append_assoc]
 rw [z5a (by omega),Option.bind_some,zhk,Option.bind_some,z5a (by omega),Option.bind_some,zdw (by omega),Option.bind_some,z136 (by omega),Option.map_some]
theorem zk6{h:Hd}(hv:z1w h.n h.i h.g h.l=true)(t:List UInt8):getH (putH h.n h.r h.i h.g h.l++t)=if t=[]then some h else none:=by
 unfold getH
 rw [zxx hv,Option.bind_some]
 by_cases ht:t=[]
 ·rw [if_pos ⟨ht,hv⟩,if_pos ht]
 ·rw [if_neg (fun e=>ht e.1),if_neg ht]
end
section
attribute [local irreducible] ACallsTo ACallsP
def rgC(n:Int)(r:Hash)(i:Int)(s:List UInt8)(m:Int)(x:AV):List AV:=.int .i64 n::(hc r++ [.int .i64 i,.str s,.int .i8 m,x])
@[go_sem] theorem rgC_len (n:Int) (r:Hash) (i:Int) (s:List UInt8) (m:Int) (x:AV):(rgC n r i s m x).length=37:=by simp [rgC,z8]
theorem zcm(n:Int)(r:Hash)(i:Int)(s:List UInt8)(m:Int)(x:AV)(k:Nat):(rgC n r i s m x)[33+k]? =[AV.int .i64 i,.str s,.int .i8 m,x][k]?:=by
 rw [rgC,show 33+k=(32+k)+1 by omega,List.getElem?_cons_succ,List.getElem?_append_right (by rw [z8];omega),z8,Nat.add_sub_cancel_left]
@[go_sem] theorem rgC_33 (n:Int) (r:Hash) (i:Int) (s:List UInt8) (m:Int) (x:AV):(rgC n r i s m x)[33]? =some (.int .i64 i):=zcm n r i s m x 0
@[go_sem] theorem rgC_34 (n:Int) (r:Hash) (i:Int) (s:List UInt8) (m:Int) (x:AV):(rgC n r i s m x)[34]? =some (.str s):=zcm n r i s m x 1
@[go_sem] theorem rgC_35 (n:Int) (r:Hash) (i:Int) (s:List UInt8) (m:Int) (x:AV):(rgC n r i s m x)[35]? =some (.int .i8 m):=zcm n r i s m x 2
@[go_sem] theorem rgC_36 (n:Int) (r:Hash) (i:Int) (s:List UInt8) (m:Int) (x:AV):(rgC n r i s m x)[36]? =some x:=zcm n r i s m x 3
@[go_sem] theorem rgC_head (n:Int) (r:Hash) (i:Int) (s:List UInt8) (m:Int) (x:AV):(rgC n r i s m x).take 33=.int .i64 n::hc r:=by
 rw [rgC,List.take_succ_cons,z7q]
@[go_sem] theorem sgC_tail (n:Int) (r:Hash) (i:Int) (s:List UInt8) (x:AV):(sgC n r i s x).drop 33=[.int .i64 i,.str s,x]:=by
 rw [sgC,List.drop_succ_cons,z7p]
theorem z88(n m:Int)(a b:Hash):z2c (.int .i64 n::hc a) (.int .i64 m::hc b)=decide (n=m/\ a=b):=by
 rw [show z2c (.int .i64 n::hc a) (.int .i64 m::hc b)=(z6k (.int .i64 n) (.int .i64 m) && z2c (hc a) (hc b))from rfl,hc_eq,Bool.eq_iff_iff]
 simp [z6k]
theorem zgf{n i:Int}{r:Hash}(h:RL k x):RLs k (sgC n r i s x):=by
 have:=zco (n:=n) (i:=i) (r:=r) (s:=s) (e:=0) h
 simp only [RL,RLs]at this
 exact this.1
theorem z7c(O:Store):ACallsTo TC 145 [.str []] O (.tup [.int .u64 0,.str [],.bool false]) O:=z6i O [] (by simp)
theorem zac(O:Store):ACallsTo TC 146 [.str []] O (.tup [.agg (hc zeroH),.str [],.bool false]) O:=z7m O [] (by simp)
theorem z7b(O:Store):ACallsTo TC 143 [.str []] O (.tup [.str [],.str [],.bool false]) O:=zdt O [] (by simp)
theorem z5k(O:Store):ACallsTo TC 162 [.str []] O (.tup [.nilsl,.str [],.bool false]) O:=zjd O [] (by simp)
theorem z8a(O:Store):ACallsTo TC 163 [.int .u64 0] O (.int .i64 0) O:=zgz O 0 (by omega)
theorem Get_to(O:Store)(s:List UInt8)(hs:s.length<1000000000):ACallsTo TC 144 [.str s] O (getV (getH s)) O:=by
 refine ACallsTo.of_body q1pok (by simp) fun hw _=> ?_
 have h1:=fun O=>z6i O s hs
 unfold getH z59
 cases e1:z1r s with
 |none=>
  rw [e1]at h1
  unfold rdV at h1
  simp only [Option.bind_none,getV]
  repeat' (first|apply zA rfl|(apply zd_ rfl<;>intro ht<;>try omega)|((first|apply zB rfl|(apply callW.mk_pu;(first|exact(fun _=>h1 _)|exact(fun _=>z7c _)|exact(fun _=>zac _)|exact(fun _=>z7b _)|exact(fun _=>z5k _)|exact(fun _=>z8a _)))|(apply callW.za;(first|exact(h1 _)|exact(z7c _)|exact(zac _)|exact(z7b _)|exact(z5k _)|exact(z8a _)))|(apply zG<;>intro ht))<;>try simp (disch:=first|omega|simp only [lz,lX];try omega) only [go_sem]))
  exact DownV.pure hw z35
 |some x=>
 obtain⟨n,t1⟩:=x
 obtain⟨n1,l1⟩:=z4h e1
 rw [e1]at h1
 unfold rdV at h1
 have s1:=fun O=>zgz O n n1
 have h2:=fun O=>z7m O t1 (by omega)
 simp only [Option.bind_some]
 cases e2:unS t1 with
 |none=>
  rw [e2]at h2
  unfold unV at h2
  simp only [Option.bind_none,getV]
  repeat' (first|apply zA rfl|(apply zd_ rfl<;>intro ht<;>try omega)|((first|apply zB rfl|(apply callW.mk_pu;(first|exact(fun _=>h1 _)|exact(fun _=>h2 _)|exact(fun _=>s1 _)|exact(fun _=>z7c _)|exact(fun _=>zac _)|exact(fun _=>z7b _)|exact(fun _=>z5k _)|exact(fun _=>z8a _)))|(apply callW.za;(first|exact(h1 _)|exact(h2 _)|exact(s1 _)|exact(z7c _)|exact(zac _)|exact(z7b _)|exact(z5k _)|exact(z8a _)))|(apply zG<;>intro ht))<;>try simp (disch:=first|omega|simp only [lz,lX];try omega) only [go_sem]))
  exact DownV.pure hw z35
 |some y=>
 obtain⟨r,t2⟩:=y
 have l2:=zp1 e2
 rw [e2]at h2
 unfold unV at h2
 have h3:=fun O=>z6i O t2 (by omega)
 simp only [Option.bind_some]
 cases e3:z1r t2 with
 |none=>
  rw [e3]at h3
  unfold rdV at h3
  simp only [Option.bind_none,getV]
  repeat' (first|apply zA rfl|(apply zd_ rfl<;>intro ht<;>try omega)|((first|apply zB rfl|(apply callW.mk_pu;(first|exact(fun _=>h1 _)|exact(fun _=>h2 _)|exact(fun _=>h3 _)|exact(fun _=>s1 _)|exact(fun _=>z7c _)|exact(fun _=>z7b _)|exact(fun _=>z5k _)|exact(fun _=>z8a _)))|(apply callW.za;(first|exact(h1 _)|exact(h2 _)|exact(h3 _)|exact(s1 _)|exact(z7c _)|exact(z7b _)|exact(z5k _)|exact(z8a _)))|(apply zG<;>intro ht))<;>try simp (disch:=first|omega|simp only [lz,lX];try omega) only [go_sem]))
  exact DownV.pure hw z35
 |some z=>
 obtain⟨i,t3⟩:=z
 obtain⟨n3,l3⟩:=z4h e3
 rw [e3]at h3
 unfold rdV at h3
 have s3:=fun O=>zgz O i n3
 have h4:=fun O=>zdt O t3 (by omega)
 simp only [Option.bind_some]
 cases e4:cutS t3 with
 |none=>
  rw [e4]at h4
  unfold stV at h4
  simp only [Option.bind_none,getV]
  repeat' (first|apply zA rfl|(apply zd_ rfl<;>intro ht<;>try omega)|((first|apply zB rfl|(apply callW.mk_pu;(first|exact(fun _=>h1 _)|exact(fun _=>h2 _)|exact(fun _=>h3 _)|exact(fun _=>h4 _)|exact(fun _=>s1 _)|exact(fun _=>s3 _)|exact(fun _=>z5k _)))|(apply callW.za;(first|exact(h1 _)|exact(h2 _)|exact(h3 _)|exact(h4 _)|exact(s1 _)|exact(s3 _)|exact(z5k _)))|(apply zG<;>intro ht))<;>try simp (disch:=first|omega|simp only [lz,lX];try omega) only [go_sem]))
  exact DownV.pure hw z35
 |some u=>
 obtain⟨g,t4⟩:=u
 obtain⟨l4,l5⟩:=zjg e4
 rw [e4]at h4
 unfold stV at h4
 have h5:=fun O=>zjd O t4 (by omega)
 simp only [Option.bind_some]
 cases e5:unsS t4 with
 |none=>
  rw [e5]at h5
  unfold unsV at h5
  simp only [Option.bind_none,Option.map_none,getV]
  repeat' (first|apply zA rfl|(apply zd_ rfl<;>intro ht<;>try omega)|((first|apply zB rfl|(apply callW.mk_pu;(first|exact(fun _=>h1 _)|exact(fun _=>h2 _)|exact(fun _=>h3 _)|exact(fun _=>h4 _)|exact(fun _=>h5 _)|exact(fun _=>s1 _)|exact(fun _=>s3 _)))|(apply callW.za;(first|exact(h1 _)|exact(h2 _)|exact(h3 _)|exact(h4 _)|exact(h5 _)|exact(s1 _)|exact(s3 _)))|(apply zG<;>intro ht))<;>try simp (disch:=first|omega|simp only [lz,lX];try omega) only [go_sem]))
  exact DownV.pure hw z35
 |some v=>
 obtain⟨l,t5⟩:=v
 rw [e5]at h5
 simp only [zp3]at h5
 simp only [Option.bind_some,Option.map_some]
 have xc:=zof (sz:=32) (es:=hr l)
 have xr:∀O,RdSl O 32 (hr l) (zz 32 (hr l)):=fun O=>zog
 have xl:RL O.length (zz 32 (hr l)):=zgd (z3e l)
 obtain⟨x,hx⟩:∃x,x=zz 32 (hr l):=⟨_,rfl⟩
 rw [<-hx]at xc xl
 simp only [<-hx]at xr h5
 have fx:∀(cells:List AV) (off:Nat) (rest:List (Nat × Nat × AV)),off+1<=cells.length->z1e cells ((off,1,x)::rest)=z1e (z1i cells off [x]) rest:=fun cells off rest h=>by simp [z1e,xc,h]
 unfold cellsOf at xc
 have d35:∀(a b c:AV),List.drop 35 (hc r++ [a,b,c])=[]:=fun a b c=>List.drop_of_length_le (by simp [z8])
 have dl:List.drop 35 [AV.int .u8 0,AV.int .u8 0,AV.int .u8 0,AV.int .u8 0,AV.int .u8 0,AV.int .u8 0,AV.int .u8 0,AV.int .u8 0,AV.int .u8 0,AV.int .u8 0,AV.int .u8 0,AV.int .u8 0,AV.int .u8 0,AV.int .u8 0,AV.int .u8 0,AV.int .u8 0,AV.int .u8 0,AV.int .u8 0,AV.int .u8 0,AV.int .u8 0,AV.int .u8 0,AV.int .u8 0,AV.int .u8 0,AV.int .u8 0,AV.int .u8 0,AV.int .u8 0,AV.int .u8 0,AV.int .u8 0,AV.int .u8 0,AV.int .u8 0,AV.int .u8 0,AV.int .u8 0,AV.int .i64 0,AV.str [],AV.nilsl]=[]:=rfl
 have hN:z1w ((min n 1073741824:Nat):Int) ((min i 1073741824:Nat):Int) g l=z1w n i g l:=by
  unfold z1w;rw [decide_eq_decide];omega
 cases hv:z1w n i g l with
 |true=>
  obtain⟨_,b1,_,b2,_,_⟩:=of_decide_eq_true hv
  have m1:min n 1073741824=n:=by omega
  have m3:min i 1073741824=i:=by omega
  simp only [m1]at s1
  simp only [m3]at s3
  have hV:=fun O=>z8m O n i r g l x (xr O)
  rw [hv]at hV
  unfold sgC at hV
  cases t5 with
  |nil=>
   rw [if_pos ⟨rfl,rfl⟩]
   simp only [getV,<-hx]
   repeat' (first|apply zA rfl|(apply zd_ rfl<;>intro ht<;>try omega)|((first|apply zB rfl|(apply callW.mk_pu;(first|exact(fun _=>h1 _)|exact(fun _=>h2 _)|exact(fun _=>h3 _)|exact(fun _=>h4 _)|exact(fun _=>h5 _)|exact(fun _=>s1 _)|exact(fun _=>s3 _)|exact(fun _=>hV _)))|(apply callW.za;(first|exact(h1 _)|exact(h2 _)|exact(h3 _)|exact(h4 _)|exact(h5 _)|exact(s1 _)|exact(s3 _)|exact(hV _)))|(apply zG<;>intro ht))<;>try simp (disch:=first|omega|simp only [lz,lX];try omega) only [go_sem,fx,d35,dl]))
   exact DownV.pure hw (zco xl)
  |cons c t6=>
   rw [if_neg (by rintro⟨e,_⟩;cases e)]
   simp only [getV]
   have hbq:((c::t6)==([]:List UInt8))=false:=rfl
   repeat' (first|apply zA rfl|(apply zd_ rfl<;>intro ht<;>try omega)|((first|apply zB rfl|(apply callW.mk_pu;(first|exact(fun _=>h1 _)|exact(fun _=>h2 _)|exact(fun _=>h3 _)|exact(fun _=>h4 _)|exact(fun _=>h5 _)|exact(fun _=>s1 _)|exact(fun _=>s3 _)|exact(fun _=>hV _)))|(apply callW.za;(first|exact(h1 _)|exact(h2 _)|exact(h3 _)|exact(h4 _)|exact(h5 _)|exact(s1 _)|exact(s3 _)|exact(hV _)))|(apply zG<;>intro ht))<;>try simp (disch:=first|omega|simp only [lz,lX];try omega) only [go_sem,fx,d35,dl,hbq]))
   exact DownV.pure hw z35
 |false=>
  rw [if_neg (by rintro⟨_,e⟩;cases e)]
  simp only [getV]
  have hV:=fun O=>z8m O ((min n 1073741824:Nat):Int) ((min i 1073741824:Nat):Int) r g l x (xr O)
  rw [hN,hv]at hV
  unfold sgC at hV
  generalize ((min n 1073741824:Nat):Int)=N at*
  generalize ((min i 1073741824:Nat):Int)=I at*
  cases t5 with
  |nil=>
   repeat' (first|apply zA rfl|(apply zd_ rfl<;>intro ht<;>try omega)|((first|apply zB rfl|(apply callW.mk_pu;(first|exact(fun _=>h1 _)|exact(fun _=>h2 _)|exact(fun _=>h3 _)|exact(fun _=>h4 _)|exact(fun _=>h5 _)|exact(fun _=>s1 _)|exact(fun _=>s3 _)|exact(fun _=>hV _)))|(apply callW.za;(first|exact(h1 _)|exact(h2 _)|exact(h3 _)|exact(h4 _)|exact(h5 _)|exact(s1 _)|exact(s3 _)|exact(hV _)))|(apply zG<;>intro ht))<;>try simp (disch:=first|omega|simp only [lz,lX];try omega) only [go_sem,fx,d35,dl]))
   exact DownV.pure hw z35
  |cons c t6=>
   have hbq:((c::t6)==([]:List UInt8))=false:=rfl
   repeat' (first|apply zA rfl|(apply zd_ rfl<;>intro ht<;>try omega)|((first|apply zB rfl|(apply callW.mk_pu;(first|exact(fun _=>h1 _)|exact(fun _=>h2 _)|exact(fun _=>h3 _)|exact(fun _=>h4 _)|exact(fun _=>h5 _)|exact(fun _=>s1 _)|exact(fun _=>s3 _)|exact(fun _=>hV _)))|(apply callW.za;(first|exact(h1 _)|exact(h2 _)|exact(h3 _)|exact(h4 _)|exact(h5 _)|exact(s1 _)|exact(s3 _)|exact(hV _)))|(apply zG<;>intro ht))<;>try simp (disch:=first|omega|simp only [lz,lX];try omega) only [go_sem,fx,d35,dl,hbq]))
   exact DownV.pure hw z35
theorem Put_to(O:Store)(n i:Int)(r:Hash)(s:List UInt8)(l:List Hash)(x:AV)(hx:RdSl O 32 (hr l) x):ACallsTo TC 147 [.agg (sgC n r i s x)] O (putV n i r s l) O:=by
 have hV:=z8m (O++ [some [sgC n r i s x]]) n i r s l x hx.app
 refine ACallsTo.of_body q1rok (by simp) fun hw _=> ?_
 unfold putV
 cases hv:z1w n i s l with
 |false=>
  rw [hv]at hV
  rw [if_neg (by decide)]
  repeat' (first|apply zA rfl|(apply zd_ rfl<;>intro ht<;>try omega)|((first|apply zB rfl|(apply callW.mk_pu;exact(fun _=>hV))|(apply callW.za;exact(hV))|(apply zG<;>intro ht))<;>try simp (disch:=first|omega|simp only [lz,lX];try omega) only [go_sem]))
  exact DownV.pure hw zcp
 |true=>
  rw [hv]at hV
  rw [if_pos rfl]
  obtain⟨N,I,rfl,rfl,h1,h2,h3,h4⟩:=z8i hv
  have hN:=fun O=>z6h O N (by omega)
  have hI:=fun O=>z6h O I (by omega)
  have hH:=fun O=>z7l O r.1 r.2
  have hT:=fun O=>zdu O s (by omega)
  have hL:=zs5 (O++ [some [sgC N r I s x]]) l x hx.app (by omega)
  have l1:=z1u N
  have l2:=z1u I
  have l4:(z23 s).length<=11+16384:=by have:=z1u s.length;rw [z23,List.length_append];omega
  have l5:=zbe (l:=l)
  have hcr:hc r=z11 r.1:=rfl
  rw [Int.toNat_natCast,Int.toNat_natCast]
  unfold putH
  generalize numS N=sN at*
  generalize numS I=sI at*
  generalize z23 s=sT at*
  generalize z2v l=sH at*
  repeat' (first|apply zA rfl|(apply zd_ rfl<;>intro ht<;>try omega)|((first|apply zB rfl|(apply callW.mk_pu;(first|exact(fun _=>hV)|exact(fun _=>hN _)|exact(fun _=>hI _)|exact(fun _=>hH _)|exact(fun _=>hT _)|exact(fun _=>hL)))|(apply callW.za;(first|exact(hV)|exact(hN _)|exact(hI _)|exact(hH _)|exact(hT _)|exact(hL)))|(apply zG<;>intro ht))<;>try simp (disch:=first|omega|simp only [lz,lX];try omega) only [go_sem,hcr]))
  exact DownV.pure hw zcp
theorem z10h(n:Int)(r:Hash)(i:Int)(s:List UInt8)(x:AV):(sgC n r i s x).drop 36=[]:=List.drop_of_length_le (by rw [zg];decide)
def strs(L:List (List UInt8)):List (List AV):=L.map fun s=>[.str s]
theorem zh8(L:List (List UInt8)):(strs L).length=L.length:=by simp [strs]
end
section
set_option maxRecDepth 10000
def q1xc3:yX:=yq [yx 1 0,yI 2 (.alloc zZ0)] (yq [yF 3 0 1,yR 4 false 1 3,yY 5 .u64 4,⟨some 6,none,.ef,.call (.v (.fn 95 [])) [(.t 5),(.v (.int .i64 8))]⟩,yI 7 (.bin .add .none (.v (.str [5])) (.t 6)),yF 8 1 1,yR 9 true 32 8,yC 10 96 9,yB 11 .add 7 10,yC 12 94 11,yS 32 2 12] .ret)
theorem q1xok:cFn TC 44=some (13,[.c 2 true 32],q1xc3):=by kernel_rfl
def q1yc15:yX:=yq [yx 2 0,yx 3 1,yK 4 .i64 0] (.seq (yq [yL 5 true 36 3,yC 6 106 5,yu 7 6] (.cond (.t 7) (yq [yK 4 .i64 2] .ret) .skip)) (.seq (yq [yR 8 true 32 2,yF 9 0 3,yR 10 true 33 9,yf 11 44 10,yF 12 33 3,yR 13 true 3 12,yc 14 107 8 11 13,yJ 15 .neq 14 .i64 0] (.cond (.t 15) (yq [yK 4 .i64 81] .ret) .skip)) (yq [yK 4 .i64 0] .ret)))
theorem q1yok:cFn TC 53=some (16,[.t 4],q1yc15):=by kernel_rfl
def q1zr1:yW:=[
 yF 6 0 2,
 yL 7 true 33 6,
 yF 8 0 3,
 yL 9 true 33 8,
 yI 10 (.bin .neq (.agg ([(.i .i64)]++(List.replicate 32 (.i .u8)++ []))) (.t 7) (.t 9)),
 yM 11 10,
 yT 12 11 false 33 2,
 yT 13 11 false 0 12,
 yU 14 11 false false 1 13,
 yT 15 11 false 33 3,
 yT 16 11 false 0 15,
 yU 17 11 false false 1 16,
 yG 18 11 false (.bin .neq .none (.t 14) (.t 17)),
 yP 19 11 18,
 yM 20 19,
 yT 21 20 false 33 2,
 yT 22 20 false 1 21,
 yU 23 20 false false 1 22,
 yT 24 20 false 33 3,
 yT 25 20 false 1 24,
 yU 26 20 false false 1 25,
 yG 27 20 false (.bin .neq .none (.t 23) (.t 26)),
 yP 28 20 27,
 yM 29 28,
 yT 30 29 false 33 2,
 yT 31 29 false 2 30,
 yU 32 29 false false 1 31,
 yG 33 29 false (.lenSl (.t 32)),
 yT 34 29 false 33 3,
 yT 35 29 false 2 34,
 yU 36 29 false false 1 35,
 yG 37 29 false (.lenSl (.t 36)),
 yG 38 29 false (.bin .neq .none (.t 33) (.t 37)),
 yP 39 29 38]
def q1zc17:yX:=.seq (yq [yM 40 5,yF 41 33 2,yF 42 2 41,yL 43 false 1 42,yZ 44 43,yB 45 .lss 40 44] (.cond (.t 45) .skip (.exit 0))) (.seq (.block 1 (yq [yF 48 33 2,yF 49 2 48,yR 50 false 1 49,yM 51 5,yN 52 32 50 51,yR 53 true 32 52,yF 54 33 3,yF 55 2 54,yR 56 false 1 55,yM 57 5,yN 58 32 56 57,yR 59 true 32 58,yI 60 (.bin .neq (.agg (List.replicate 32 (.i .u8)++ [])) (.t 53) (.t 59))] (.cond (.t 60) (yq [yb 4 false] .ret) .skip))) (.reg [yM 46 5,yJ 47 .add 46 .i64 1,yM 5 47]))
def q1zc25:yX:=yq [yx 2 0,yx 3 1,yb 4 false] (.seq (yq q1zr1 (.cond (.t 39) (yq [yb 4 false] .ret) .skip)) (.seq (yq [yK 5 .i64 0] (.block 0 (.loop q1zc17))) (yq [yb 4 true] .ret)))
attribute [go_sem] q1zr1
theorem q1zok:cFn TC 60=some (61,[.t 4],q1zc25):=by kernel_rfl
end
section
def digH(n:Int)(r:Hash):Hash:=shaH (5::(putS (n%18446744073709551616) 8++r.1))
def z1s(key:Hash)(n i:Int)(r:Hash)(s:List UInt8)(l:List Hash):Int:=
 if z1w n i s l=false then 2 else if verI key (digH n r) i s l=0 then 0 else 81
theorem zn6(O:Store)(h:Hash):ACallsTo TC 96 [.agg (hc h)] O (.str h.1) O:=z73 O h.1 h.2
attribute [local irreducible] ACallsTo ACallsP
theorem zpm(O:Store)(n:Int)(r:Hash):ACallsTo TC 99 [.agg (.int .i64 n::hc r)] O (.agg (hc (digH n r))) O:=by
 have hP:=fun O=>z6g O (n%18446744073709551616) 8 (by omega) (by omega)
 have hl:=zm3 (n%18446744073709551616) 8
 have hH:=fun O=>z55 O r
 have h32:=r.2
 have hS:=fun O=>zcw O (5::(putS (n%18446744073709551616) 8++r.1)) (by simp;omega)
 unfold digH
 generalize putS (n%18446744073709551616) 8=p at*
 refine ACallsTo.of_body q1wok (by simp) fun hw _=> ?_
 repeat' (first|apply zA rfl|(apply zd_ rfl<;>intro ht<;>try omega)|((first|apply zB rfl|(apply callW.mk_pu;(first|exact(fun _=>hP _)|exact(fun _=>hH _)|exact(fun _=>hS _)))|(apply callW.za;(first|exact(hP _)|exact(hH _)|exact(hS _)))|(apply zG<;>intro ht))<;>try simp (disch:=first|omega|simp only [lz,lw];try omega) only [go_sem,h32]))
 exact DownV.pure hw (z49 _)
theorem zn2(O:Store)(n:Int)(r:Hash):ACallsTo TC 44 [.agg (.int .i64 n::hc r)] O (.agg (hc (digH n r))) O:=by
 have hP:=fun O=>z123 O (n%18446744073709551616) 8 (by omega) (by omega)
 have hl:=zm3 (n%18446744073709551616) 8
 have hH:=fun O=>zn6 O r
 have h32:=r.2
 have hS:=fun O=>zga O (5::(putS (n%18446744073709551616) 8++r.1)) (by simp;omega)
 unfold digH
 generalize putS (n%18446744073709551616) 8=p at*
 refine ACallsTo.of_body q1xok (by simp) fun hw _=> ?_
 repeat' (first|apply zA rfl|(apply zd_ rfl<;>intro ht<;>try omega)|((first|apply zB rfl|(apply callW.mk_pu;(first|exact(fun _=>hP _)|exact(fun _=>hH _)|exact(fun _=>hS _)))|(apply callW.za;(first|exact(hP _)|exact(hH _)|exact(hS _)))|(apply zG<;>intro ht))<;>try simp (disch:=first|omega|simp only [lz,lw];try omega) only [go_sem,h32]))
 exact DownV.pure hw (z49 _)
theorem zd8(O:Store)(key:Hash)(n i:Int)(r:Hash)(s:List UInt8)(l:List Hash)(x:AV)(hx:RdSl O 32 (hr l) x):
  ACallsTo TC 47 [.agg (hc key),.agg (sgC n r i s x)] O (.int .i64 (z1s key n i r s l)) O:=by
 have xc:=hx.cells
 unfold cellsOf at xc
 have hV:=fun y=>z8m (O++y) n i r s l x hx.app
 unfold z1s
 refine ACallsTo.of_body q1tok (by simp) fun hw _=> ?_
 cases hv:z1w n i s l with
 |false=>
  rw [hv]at hV
  rw [if_pos rfl]
  repeat' (first|apply zA rfl|(apply zd_ rfl<;>intro ht<;>try omega)|((first|apply zB rfl|(apply callW.mk_pu;exact(fun _=>hV _))|(apply callW.za;exact(hV _))|(apply zG<;>intro ht))<;>try simp (disch:=first|omega|simp only [lz,lw];try omega) only [go_sem]))
  exact DownV.pure hw (z15 _ rfl)
 |true=>
  rw [hv]at hV
  rw [if_neg (by simp)]
  have hv2:=of_decide_eq_true hv
  have hD:=fun O=>zpm O n r
  have hY:=fun y=>zq4 (O++y) key (digH n r) i s l x hx.app (by omega) (by omega) (by omega)
  generalize verI key (digH n r) i s l=c at*
  by_cases h0:c=0
  ·subst h0
   rw [if_pos rfl]
   repeat' (first|apply zA rfl|(apply zd_ rfl<;>intro ht<;>try omega)|((first|apply zB rfl|(apply callW.mk_pu;(first|exact(fun _=>hV _)|exact(fun _=>hD _)|exact(fun _=>hY _)))|(apply callW.za;(first|exact(hV _)|exact(hD _)|exact(hY _)))|(apply zG<;>intro ht))<;>try simp (disch:=first|omega|simp only [lz,lw];try omega) only [go_sem]))
   exact DownV.pure hw (z15 _ rfl)
  ·rw [if_neg h0]
   repeat' (first|apply zA rfl|(apply zd_ rfl<;>intro ht<;>try omega)|((first|apply zB rfl|(apply callW.mk_pu;(first|exact(fun _=>hV _)|exact(fun _=>hD _)|exact(fun _=>hY _)))|(apply callW.za;(first|exact(hV _)|exact(hD _)|exact(hY _)))|(apply zG<;>intro ht))<;>try simp (disch:=first|omega|simp only [lz,lw];try omega) only [go_sem,h0]))
   exact DownV.pure hw (z15 _ rfl)
theorem zn3(O:Store)(key:Hash)(n i:Int)(r:Hash)(s:List UInt8)(l:List Hash)(x:AV)(hx:RdSl O 32 (hr l) x):
  ACallsTo TC 53 [.agg (hc key),.agg (sgC n r i s x)] O (.int .i64 (z1s key n i r s l)) O:=by
 have xc:=hx.cells
 unfold cellsOf at xc
 have hV:=fun y=>zg8 (O++y) n i r s l x hx.app
 unfold z1s
 refine ACallsTo.of_body q1yok (by simp) fun hw _=> ?_
 cases hv:z1w n i s l with
 |false=>
  rw [hv]at hV
  rw [if_pos rfl]
  repeat' (first|apply zA rfl|(apply zd_ rfl<;>intro ht<;>try omega)|((first|apply zB rfl|(apply callW.mk_pu;exact(fun _=>hV _))|(apply callW.za;exact(hV _))|(apply zG<;>intro ht))<;>try simp (disch:=first|omega|simp only [lz,lw];try omega) only [go_sem]))
  exact DownV.pure hw (z15 _ rfl)
 |true=>
  rw [hv]at hV
  rw [if_neg (by simp)]
  have hv2:=of_decide_eq_true hv
  have hD:=fun O=>zn2 O n r
  have hY:=fun y=>zzn (O++y) key (digH n r) i s l x hx.app (by omega) (by omega) (by omega)
  generalize verI key (digH n r) i s l=c at*
  by_cases h0:c=0
  ·subst h0
   rw [if_pos rfl]
   repeat' (first|apply zA rfl|(apply zd_ rfl<;>intro ht<;>try omega)|((first|apply zB rfl|(apply callW.mk_pu;(first|exact(fun _=>hV _)|exact(fun _=>hD _)|exact(fun _=>hY _)))|(apply callW.za;(first|exact(hV _)|exact(hD _)|exact(hY _)))|(apply zG<;>intro ht))<;>try simp (disch:=first|omega|simp only [lz,lw];try omega) only [go_sem]))
   exact DownV.pure hw (z15 _ rfl)
  ·rw [if_neg h0]
   repeat' (first|apply zA rfl|(apply zd_ rfl<;>intro ht<;>try omega)|((first|apply zB rfl|(apply callW.mk_pu;(first|exact(fun _=>hV _)|exact(fun _=>hD _)|exact(fun _=>hY _)))|(apply callW.za;(first|exact(hV _)|exact(hD _)|exact(hY _)))|(apply zG<;>intro ht))<;>try simp (disch:=first|omega|simp only [lz,lw];try omega) only [go_sem,h0]))
   exact DownV.pure hw (z15 _ rfl)
end
section
def ordI(n m:Int)(a b:Hash):Int:=if n ≠ m then(if n<m then 0 else 2)else if a ≠ b then 3 else 1
def zej(n n2 i i2:Int)(r r2:Hash)(s s2:List UInt8)(l l2:List Hash):Bool:=decide (n=n2/\ r=r2/\ i=i2/\ s=s2/\ l=l2)
attribute [local irreducible] ACallsTo ACallsP
theorem zfz(O:Store)(n n2 i i2:Int)(r r2:Hash)(s s2:List UInt8)(l l2:List Hash)(x y:AV)(hx:SlV 32 (hr l) x)(hy:SlV 32 (hr l2) y)(hl:l.length<1000000)(hl2:l2.length<1000000):
  ACallsTo TC 60 [.agg (sgC n r i s x),.agg (sgC n2 r2 i2 s2 y)] O (.bool (zej n n2 i i2 r r2 s s2 l l2)) O:=by
 have a1:=hx.len
 have a2:=hy.len
 rw [zn]at a1 a2
 unfold z1f at a1 a2
 unfold zej
 refine ACallsTo.of_body q1zok (by simp) fun hw _=> ?_
 by_cases h1:n=n2/\ r=r2
 ·have e1:=(z88 n n2 r r2).trans (decide_eq_true h1)
  by_cases h2:i=i2
  ·subst h2
   by_cases h3:s=s2
   ·subst h3
    rw [show decide (n=n2/\ r=r2/\ i=i/\ s=s/\ l=l2)=decide (l=l2)from by rw [Bool.eq_iff_iff];simp [h1]]
    by_cases hll:l.length=l2.length
    ·have hll':(l.length:Int)=l2.length:=by omega
     repeat' (first|apply zA rfl|(apply zd_ rfl<;>intro ht<;>try omega)|((first|apply zB rfl|(apply zG<;>intro ht))<;>try simp (disch:=first|omega|simp only [lz,lX];try omega) only [go_sem,e1,a1,a2,hll',z1p,eq_self,and_self,if_true]))
     refine zW.loop (fun m J O'=>∃k:Nat,m+k=l.length/\ O'=O++ [some [sgC n r i s x],some [sgC n2 r2 i s y]]/\ l.take k=l2.take k/\ J 2=.ptr O.length 0 0/\ J 3=.ptr (O.length+1) 0 0/\ J 5=.int .i64 k) l.length ?_ ?_
     ·exact⟨0,by omega,rfl,rfl,by simp only [go_sem],by simp only [go_sem],by simp only [go_sem];rfl⟩
     ·rintro m J O' ⟨k,hm,rfl,htk,q2,q3,q5⟩
      by_cases hk:k<l.length
      ·obtain⟨ex,rfl⟩:=hx.vsl (by rw [zn];omega)
       obtain⟨ex2,rfl⟩:=hy.vsl (by rw [zn];omega)
       by_cases hh:hd l k=hd l2 k
       ·have t1:=z5e (l:=l) (i:=k) hk
        have t2:=z5e (l:=l2) (i:=k) (by omega)
        repeat' (first|apply zA rfl|(apply zd_ rfl<;>intro ht<;>try omega)|((first|apply zB rfl|(apply zG<;>intro ht))<;>try simp (disch:=first|omega|simp only [lz,lX];try omega) only [go_sem,q2,q3,q5,hh]))
        exact⟨m-1,by omega,k+1,by omega,by rw [t1,t2,htk,hh],by simp⟩
       ·rw [decide_eq_false (fun e=>hh (by rw [e]))]
        repeat' (first|apply zA rfl|(apply zd_ rfl<;>intro ht<;>try omega)|((first|apply zB rfl|(apply zG<;>intro ht))<;>try simp (disch:=first|omega|simp only [lz,lX];try omega) only [go_sem,q2,q3,q5,hh]))
        exact DownV.pure hw z1k
      ·have hk':¬(k:Int)<l2.length:=by omega
       have:l=l2:=by
        rw [List.take_of_length_le (by omega),List.take_of_length_le (by omega)]at htk
        exact htk
       rw [decide_eq_true this]
       repeat' (first|apply zA rfl|(apply zd_ rfl<;>intro ht<;>try omega)|((first|apply zB rfl|(apply zG<;>intro ht))<;>try simp (disch:=first|omega|simp only [lz,lX];try omega) only [go_sem,q2,q5,a1,hll',hk']))
       exact DownV.pure hw z1k
    ·rw [decide_eq_false (fun e=>hll (by rw [e]))]
     have hll':¬(l.length:Int)=l2.length:=by omega
     repeat' (first|apply zA rfl|(apply zd_ rfl<;>intro ht<;>try omega)|((first|apply zB rfl|(apply zG<;>intro ht))<;>try simp (disch:=first|omega|simp only [lz,lX];try omega) only [go_sem,e1,a1,a2,hll',z1p,eq_self,and_self,if_true]))
     exact DownV.pure hw z1k
   ·rw [decide_eq_false (by simp [h3])]
    have e:(s==s2)=false:=beq_false_of_ne h3
    repeat' (first|apply zA rfl|(apply zd_ rfl<;>intro ht<;>try omega)|((first|apply zB rfl|(apply zG<;>intro ht))<;>try simp (disch:=first|omega|simp only [lz,lX];try omega) only [go_sem,e1,e,z1p,eq_self,and_self,if_true]))
    exact DownV.pure hw z1k
  ·rw [decide_eq_false (by simp [h2])]
   repeat' (first|apply zA rfl|(apply zd_ rfl<;>intro ht<;>try omega)|((first|apply zB rfl|(apply zG<;>intro ht))<;>try simp (disch:=first|omega|simp only [lz,lX];try omega) only [go_sem,e1,h2,z1p,eq_self,and_self,if_true]))
   exact DownV.pure hw z1k
 ·rw [decide_eq_false (by rintro⟨a,b,_⟩;exact h1 ⟨a,b⟩)]
  have e1:=(z88 n n2 r r2).trans (decide_eq_false h1)
  repeat' (first|apply zA rfl|(apply zd_ rfl<;>intro ht<;>try omega)|((first|apply zB rfl|(apply zG<;>intro ht))<;>try simp (disch:=first|omega|simp only [lz,lX];try omega) only [go_sem,e1,z1p,eq_self,and_self,if_true]))
  exact DownV.pure hw z1k
end
section
def stC(n:Int)(root:Hash)(rn:Int)(z v:AV):List AV:=.int .i64 n::(hc root++ [.int .i64 rn,z,v])
@[go_sem] theorem z125 (n:Int) (root:Hash) (rn:Int) (z v:AV):(stC n root rn z v).length=36:=by simp [stC,z8]
@[go_sem] theorem stC_0 (n:Int) (root:Hash) (rn:Int) (z v:AV):(stC n root rn z v)[0]? =some (.int .i64 n):=rfl
theorem zh3(n:Int)(root:Hash)(rn:Int)(z v:AV)(k:Nat):(stC n root rn z v)[33+k]? =[AV.int .i64 rn,z,v][k]?:=by
 rw [stC,show 33+k=(32+k)+1 by omega,List.getElem?_cons_succ,List.getElem?_append_right (by rw [z8];omega),z8,Nat.add_sub_cancel_left]
@[go_sem] theorem stC_33 (n:Int) (root:Hash) (rn:Int) (z v:AV):(stC n root rn z v)[33]? =some (.int .i64 rn):=zh3 n root rn z v 0
@[go_sem] theorem stC_34 (n:Int) (root:Hash) (rn:Int) (z v:AV):(stC n root rn z v)[34]? =some z:=zh3 n root rn z v 1
@[go_sem] theorem stC_35 (n:Int) (root:Hash) (rn:Int) (z v:AV):(stC n root rn z v)[35]? =some v:=zh3 n root rn z v 2
@[go_sem] theorem stC_root (n:Int) (root:Hash) (rn:Int) (z v:AV):((stC n root rn z v).drop 1).take 32=hc root:=by rw [stC,List.drop_succ_cons,List.drop_zero,z7q]
@[go_sem] theorem z126 (n:Int) (root:Hash) (rn:Int) (z v:AV):(stC n root rn z v).drop 33=[.int .i64 rn,z,v]:=by rw [stC,List.drop_succ_cons,z7p]
end
section
def lfH(s:List UInt8):Hash:=shaH (0::s)
end
section
def lvs(L:List (List UInt8)):List Hash:=L.map lfH
theorem zvo(L:List (List UInt8)):(lvs L).length=L.length:=by simp [lvs]
end
variable {L:List (List UInt8)}
section
@[go_sem] theorem stC_set33 (n:Int) (root:Hash) (rn m:Int) (z v b:AV):(stC n root rn z v).take 33++ .int .i64 m::b::(stC n root rn z v).drop 35=stC n root m b v:=by
 have e:(stC n root rn z v).drop 35=[v]:=by
  have:=z126 n root rn z v
  have h2:(stC n root rn z v).drop 35=((stC n root rn z v).drop 33).drop 2:=by rw [List.drop_drop]
  rw [h2,this];rfl
 have e2:(stC n root rn z v).take 33=.int .i64 n::hc root:=by rw [stC,List.take_succ_cons,z7q]
 rw [e,e2];rfl
@[go_sem] theorem stC_set35 (n:Int) (root:Hash) (rn:Int) (z v b:AV):(stC n root rn z v).take 35++b::(stC n root rn z v).drop 36=stC n root rn z b:=by
 have e:(stC n root rn z v).drop 36=[]:=List.drop_eq_nil_of_le (by rw [z125];omega)
 have e2:(stC n root rn z v).take 35=.int .i64 n::(hc root++ [.int .i64 rn,z]):=by
  have h3:stC n root rn z v=(.int .i64 n::(hc root++ [.int .i64 rn,z]))++ [v]:=by simp [stC]
  rw [h3,List.take_append_of_le_length (by simp [z8]),List.take_of_length_le (by simp [z8])]
 rw [e,e2];simp [stC]
def RowAt(sz:Nat)(O:Store)(sid:Option Nat)(v:AV)(es:List (List AV)):Prop:=
 (sid=none/\ es=[]/\ v=.nilsl) \/ ∃q,sid=some q/\ es ≠ []/\ v=.sl q 0 es.length none sz/\ O[q]? =some (some es)
theorem RowAt.rd(h:RowAt sz O sid v es):RdSl O sz es v:=by
 rcases h with⟨_,h,rfl⟩| ⟨r,_,_,rfl,hg⟩
 ·exact .inl (.inl ⟨rfl,h⟩)
 ·exact .inr ⟨r,0,none,es,rfl,hg,by omega,by simp⟩
theorem RowAt.keep(h:RowAt sz O sid v es)(hk:∀q,sid=some q->O'[q]? =O[q]?):RowAt sz O' sid v es:=by
 rcases h with h| ⟨r,e,h2,h3,hg⟩
 ·exact .inl h
 ·exact .inr ⟨r,e,h2,h3,by rw [hk r e];exact hg⟩
theorem RowAt.cells(h:RowAt sz O sid v es):cellsOf v=some [v]:=by
 rcases h with⟨_,_,rfl⟩| ⟨r,_,_,rfl,_⟩<;>rfl
theorem RowAt.lt(h:RowAt sz O sid v es){q:Nat}(hq:sid=some q):q<O.length:=by
 rcases h with⟨e,_,_⟩| ⟨r,e,_,_,hg⟩
 ·rw [e]at hq;cases hq
 ·rw [e]at hq;cases hq;exact slen hg
structure StFr(O O':Store)(r:Nat)(sid sid':Option Nat):Prop where
 st:∀j,j<O.length->j ≠ r->sid ≠ some j->O'[j]? =O[j]?
 new:sid'=sid \/ ∃q,sid'=some q/\ O.length<=q
 le:O.length<=O'.length
theorem StFr.ext(h:Ext O O'):StFr O O' r sid sid:=by
 refine⟨fun j hj _ _=> ?_,.inl rfl,h.le⟩
 obtain⟨y,rfl⟩:=h
 exact gapp hj
def StgIs(O:Store)(r:Nat)(hn:Nat)(root:Hash)(rn:Nat)(hs:List Hash)(L:List (List UInt8))(sid:Option Nat):Prop:=
 ∃z v,O[r]? =some (some [stC hn root rn z v])/\ SlV 32 (hr hs) z/\ RowAt 1 O sid v (strs L)
theorem StgIs.keep{hn:Nat}{root:Hash}{rn:Nat}{hs:List Hash}(h:StgIs O r hn root rn hs L sid)(h0:O'[r]? =O[r]?)(hk:∀q,sid=some q->O'[q]? =O[q]?):StgIs O' r hn root rn hs L sid:=by
 obtain⟨z,v,hg,hz,hv⟩:=h
 exact⟨z,v,by rw [h0];exact hg,hz,hv.keep hk⟩
theorem StgIs.ext{hn:Nat}{root:Hash}{rn:Nat}{hs:List Hash}(h:StgIs O r hn root rn hs L sid)(he:Ext O O'):StgIs O' r hn root rn hs L sid:=by
 obtain⟨y,rfl⟩:=he
 have h':=h
 obtain⟨z,v,hg,hz,hv⟩:=h'
 exact h.keep (gapp (slen hg)) (fun q hq=>gapp (hv.lt hq))
def longs(X:List (List UInt8)):Bool:=X.any (fun s=>decide (200<s.length))
def nxH(rn:Nat)(hs:List Hash)(X:List (List UInt8)):List Hash:=(extR rn hs.reverse (lvs X)).reverse
def addE(hn:Nat)(root:Hash)(rn:Nat)(hs:List Hash)(X:List (List UInt8))(P:List Hash):Int:=
 if X.length<1 \/16<X.length \/hn<rn+X.length then 2 else if longs X=true then 3
 else if chkH ((rn+X.length:Nat):Int) hn (rootR (nxH rn hs X).reverse) root P=0 then 0 else 80
def AddP(O:Store)(r hn:Nat)(root:Hash)(rn:Nat)(hs:List Hash)(L X:List (List UInt8))(P:List Hash)(sid:Option Nat)(a:AV)(O':Store):Prop:=
 a=.int .i64 (addE hn root rn hs X P)/\ ∃sid',StFr O O' r sid sid' ∧
  StgIs O' r hn root (if addE hn root rn hs X P=0 then rn+X.length else rn) (if addE hn root rn hs X P=0 then nxH rn hs X else hs) (if addE hn root rn hs X P=0 then L++X else L) sid'
theorem AddP.no{hn:Nat}{root:Hash}{rn:Nat}{hs:List Hash}{X:List (List UInt8)}{P:List Hash}{e:Int}(hT:StgIs O r hn root rn hs L sid)
  (he:addE hn root rn hs X P=e) (h0:e ≠ 0) (hx:Ext O O'):AddP O r hn root rn hs L X P sid (.int .i64 e) O':=by
 subst he
 refine⟨rfl,sid,.ext hx,?_⟩
 rw [if_neg h0,if_neg h0,if_neg h0]
 exact hT.ext hx
theorem AddP.is{hn:Nat}{root:Hash}{rn:Nat}{hs:List Hash}{X:List (List UInt8)}{P:List Hash}(hT:StgIs O r hn root rn hs L sid)(hX:X ≠ []):∃a O',AddP O r hn root rn hs L X P sid a O':=by
 by_cases h:addE hn root rn hs X P=0
 ·obtain⟨z,v,hg,hz,hv⟩:=hT
  have hrl:=slen hg
  have hne:strs (L++X) ≠ []:=fun e=>by
   have h1:(strs (L++X)).length=0:=by rw [e];rfl
   rw [zh8,List.length_append]at h1
   exact hX (List.eq_nil_of_length_eq_zero (by omega))
  refine⟨_,(O.set r (some [stC hn root ((rn+X.length:Nat):Int) (zz 32 (hr (nxH rn hs X))) (.sl O.length 0 (strs (L++X)).length none 1)]))++ [some (strs (L++X))],rfl,some O.length,⟨fun j hj hjr _=> ?_,.inr ⟨O.length,rfl,Nat.le_refl _⟩,by simp⟩,?_⟩
  ·rw [gapp (by simpa using hj),z1h (fun e=>hjr e.symm)]
  ·rw [if_pos h,if_pos h,if_pos h]
   refine⟨_,_,by rw [gapp (by simpa using hrl),z2a hrl],z1l _ _,.inr ⟨O.length,rfl,hne,rfl,?_⟩⟩
   rw [z18 (by simp)];simp
 ·exact⟨_,O,.no hT rfl h (.refl _)⟩
theorem AddP.ok{hn:Nat}{root:Hash}{rn:Nat}{hs:List Hash}{X:List (List UInt8)}{P:List Hash}{z2:AV}{q':Nat}(he:addE hn root rn hs X P=0)(hX:X ≠ [])
  (hg:O'[r]? =some (some [stC hn root ((rn+X.length:Nat):Int) z2 (.sl q' 0 (strs (L++X)).length none 1)])) (hz:SlV 32 (hr (nxH rn hs X)) z2) (hq:O'[q']? =some (some (strs (L++X)))) (hqn:O.length<=q') (hle:O.length<=O'.length)
  (hst:∀j,j<O.length->j ≠ r->sid ≠ some j->O'[j]? =O[j]?):AddP O r hn root rn hs L X P sid (.int .i64 0) O':=by
 have hne:strs (L++X) ≠ []:=fun e=>by
  have h1:(strs (L++X)).length=0:=by rw [e];rfl
  rw [zh8,List.length_append]at h1
  exact hX (List.eq_nil_of_length_eq_zero (by omega))
 refine⟨by rw [he],some q',⟨hst,.inr ⟨q',rfl,hqn⟩,hle⟩,?_⟩
 rw [if_pos he,if_pos he,if_pos he]
 exact⟨_,_,hg,hz,.inr ⟨q',rfl,hne,rfl,hq⟩⟩
end
section
structure ActS where
 k:Int
 c:Int
 L:List (List UInt8)
 P:List Hash
 x:AV
 y:AV
structure ActOk(a:ActS):Prop where
 k:0<=a.k/\ a.k<=255
 c:0<=a.c/\ a.c<=255
 x:SlV 1 (strs a.L) a.x
 y:SlV 32 (hr a.P) a.y
 ll:a.L.length<=maxLen
 pl:a.P.length<=maxLen
 sl:∀s ∈ a.L,s.length<=maxLen
end
section
structure StAt(τ O':Store)(r hn:Nat)(root:Hash)(rn:Nat)(hs:List Hash)(L:List (List UInt8)):Prop where
 is:∃sid,StgIs O' r hn root rn hs L sid/\ ∀q,sid=some q->τ.length<=q
 r:τ.length<=r
 le:τ.length<=O'.length
 st:∀q,q<τ.length->O'[q]? =τ[q]?
theorem StAt.get{hn:Nat}{root:Hash}{rn:Nat}{hs:List Hash}(h:StAt τ O' r hn root rn hs L){q:Nat}{o:Option AObj}(hq:τ[q]? =some o):O'[q]? =some o:=by
 rw [h.st q (slen hq)];exact hq
theorem StAt.more{y:Store}{hn:Nat}{root:Hash}{rn:Nat}{hs:List Hash}(h:StAt τ O' r hn root rn hs L):StAt τ (O'++y) r hn root rn hs L:=by
 obtain⟨sid,h1,h2⟩:=h.is
 exact⟨⟨sid,h1.ext ⟨y,rfl⟩,h2⟩,h.r,by have:=h.le;simp;omega,fun q hq=>by rw [gapp (by have:=h.le;omega)];exact h.st q hq⟩
theorem StAt.has {τ O' : Store} {r hn : Nat} {root : Hash} {rn : Nat} {hs : List Hash} {L X : List (List UInt8)} {P : List Hash} (h : StAt τ O' r hn root rn hs L) (hX : X ≠ []) : ∃ a O'', a = AV.int .i64 (addE hn root rn hs X P) ∧
   StAt τ O'' r hn root (if addE hn root rn hs X P=0 then rn+X.length else rn) (if addE hn root rn hs X P=0 then nxH rn hs X else hs) (if addE hn root rn hs X P=0 then L++X else L):=by
 obtain⟨sid,h1,h2⟩:=h.is
 obtain⟨a,O'',e,sid',fr,T⟩:=AddP.is (P:=P) h1 hX
 refine⟨a,O'',e,⟨sid',T,fun q hq=> ?_⟩,h.r,by have:=h.le;have:=fr.le;omega,fun q hq=> ?_⟩
 ·rcases fr.new with h3| ⟨q',h3,h4⟩
  ·exact h2 q (by rw [<-h3];exact hq)
  ·rw [h3]at hq;cases hq;have:=h.le;omega
 ·rw [fr.st q (by have:=h.le;omega) (fun e=>by have:=h.r;omega) (fun e=>by have:=h2 q e;omega)]
  exact h.st q hq
section
variable (a b c d:Hash)
end
end
section
def pbC0:List AV:=[.nilp,.nilsl,.nilsl,.int .i64 0,.nilsl,.nilsl]
def PubN(O:Store)(p:AV):Prop:=p=.nilp \/ ∃r,p=.ptr r 0 0/\ O[r]? =some (some [pbC0])
theorem PubN.more{p:AV}(h:PubN O p)(y:Store):PubN (O++y) p:=by
 rcases h with h| ⟨r,h,hg⟩
 ·exact .inl h
 ·exact .inr ⟨r,h,by rw [gapp (slen hg)];exact hg⟩
def sgZ:List AV:=.int .i64 0::(hc zeroH++ [.int .i64 0,.str [],.nilsl])
end
section
def adC0:List AV:=.bool false::(hc zeroH++(.bool false::(sgZ++ [.nilp])))
def AudN(O:Store)(p:AV):Prop:=p=.nilp \/ ∃r,p=.ptr r 0 0/\ O[r]? =some (some [adC0])
theorem AudN.more{p:AV}(h:AudN O p)(y:Store):AudN (O++y) p:=by
 rcases h with h| ⟨r,h,hg⟩
 ·exact .inl h
 ·exact .inr ⟨r,h,by rw [gapp (slen hg)];exact hg⟩
end
section
attribute [local irreducible] ACallsTo ACallsP pubH
def pbC(t:AV)(log lv:AV)(n:Int)(rg hs:AV):List AV:=[t,log,lv,.int .i64 n,rg,hs]
end
section
theorem z10j(n:Int)(r:Hash)(i:Int)(s:List UInt8)(x v:AV):(sgC n r i s x).set 35 v=sgC n r i s v:=by
 unfold sgC
 rw [List.set_cons_succ,List.set_append_right _ _ (by rw [z8];omega),z8]
 rfl
theorem zo4(n:Int)(r:Hash)(i:Int)(s:List UInt8)(x v:AV):(sgC n r i s x).take 35++v::(sgC n r i s x).drop 36=sgC n r i s v:=by
 have h:=z10j n r i s x v
 rwa [List.set_eq_take_append_cons_drop,if_pos (by rw [zg];omega)]at h
theorem fz_sg{news:Store}(n:Int)(r:Hash)(i:Int)(s:List UInt8)(x v:AV)(h:DR (FrzD τ news) v x):DR (FrzD τ news) (.agg (sgC n r i s v)) (.agg (sgC n r i s x)):=by
 refine drA (drsc (FrzD.same (by simp [RL])) ?_)
 have h2:DRs (FrzD τ news) [.int .i64 i,.str s,v] [.int .i64 i,.str s,x]:=drsc (FrzD.same (by simp [RL])) (drsc (FrzD.same (by simp [RL])) (drs1 h))
 have:∀(l:List AV),RLs τ.length l->DRs (FrzD τ news) (l++ [.int .i64 i,.str s,v]) (l++ [.int .i64 i,.str s,x]):=by
  intro l
  induction l with
  |nil=>exact fun _=>h2
  |cons a l ih=>exact fun hl=>by simp only [RLs]at hl;exact drsc (FrzD.same hl.1) (ih hl.2)
 exact this _ (z65 r)
end
section
structure Hdr where
 n:Int
 r:Hash
 i:Int
 s:List UInt8
 p:List Hash
def hdrC(h:Hdr):List AV:=sgC h.n h.r h.i h.s (zz 32 (hr h.p))
def hdrs(H:List Hdr):List (List AV):=H.map hdrC
theorem zh(H:List Hdr):(hdrs H).length=H.length:=by simp [hdrs]
theorem zi(h:Hdr):(hdrC h).length=36:=zg _ _ _ _ _
theorem z84(h:Hdr):RLs k (hdrC h):=zgf (zgd (z3e _))
theorem z66{k:Nat}:∀(H:List Hdr),RLss k (hdrs H)
 | []=>by simp [hdrs,RLss]
 |h::H=>by simp only [hdrs,List.map_cons,RLss];exact⟨z84 h,z66 H⟩
theorem z2w{H:List Hdr}(h:i<H.length):(hdrs H)[i]? =some (hdrC H[i]):=by
 simp [hdrs,List.getElem?_eq_getElem h]
theorem zkj{H:List Hdr}(h:i<H.length):hdrs (H.take i)++ [hdrC H[i]]=hdrs (H.take (i+1)):=by
 unfold hdrs;rw [List.take_succ_eq_append_getElem h,List.map_append];rfl
end
variable {H:List Hdr}
section
theorem z9v{q q':Nat}{a b:List AV}{es':List (List AV)}(h:O[q]? =some (some es))(h':O[q']? =some (some es'))(e:es[0]? =some a)(e':es'[0]? =some b)(hl:a.length ≠ b.length):q ≠ q':=by
 rintro rfl
 rw [h]at h'
 simp only [Option.some.injEq]at h'
 subst h'
 rw [e]at e'
 simp only [Option.some.injEq]at e'
 exact hl (by rw [e'])
theorem z12j(h:L ≠ []):∃a:List AV,(strs L)[0]? =some a/\ a.length=1:=by
 cases L with
 |nil=>exact absurd rfl h
 |cons s L=>exact⟨[.str s],rfl,rfl⟩
theorem hr_at0{l:List Hash}(h:l ≠ []):∃a:List AV,(hr l)[0]? =some a/\ a.length=32:=by
 cases l with
 |nil=>exact absurd rfl h
 |cons s l=>exact⟨hc s,rfl,z8 s⟩
theorem zki(h:H ≠ []):∃a:List AV,(hdrs H)[0]? =some a/\ a.length=36:=by
 cases H with
 |nil=>exact absurd rfl h
 |cons s H=>exact⟨hdrC s,rfl,zi s⟩
theorem RowAt.ne{q:Nat}{es':List (List AV)}{b:List AV}(h:RowAt sz O sid v es)(hw:es ≠ []->∃a:List AV,es[0]? =some a/\ a.length=n)(h':O[q]? =some (some es'))(e':es'[0]? =some b)(hb:b.length ≠ n):∀j,sid=some j->j ≠ q:=by
 intro j e
 rcases h with⟨e2,_⟩| ⟨j',e2,hn,_,hg⟩
 ·rw [e2]at e;cases e
 ·rw [e2]at e;cases e
  obtain⟨a,ha,hl⟩:=hw hn
  exact z9v hg h' ha e' (by omega)
theorem RowAt.ne2{sz' n':Nat}{sid':Option Nat}{v':AV}{es':List (List AV)}(h:RowAt sz O sid v es)(hw:es ≠ []->∃a:List AV,es[0]? =some a/\ a.length=n)(h':RowAt sz' O sid' v' es')(hw':es' ≠ []->∃a:List AV,es'[0]? =some a/\ a.length=n')(hnn:n ≠ n'):∀j,sid=some j->sid' ≠ some j:=by
 intro j e e'
 rcases h' with⟨e2,_⟩| ⟨j',e2,hn,_,hg⟩
 ·rw [e2]at e';cases e'
 ·rw [e2]at e';cases e'
  obtain⟨a,ha,hl⟩:=hw' hn
  exact h.ne hw hg ha (by omega) j e rfl
theorem zon(h:strs L ≠ []):∃a:List AV,(strs L)[0]? =some a/\ a.length=1:=z12j fun e=>h (by rw [e];rfl)
theorem hr_w{l:List Hash}(h:hr l ≠ []):∃a:List AV,(hr l)[0]? =some a/\ a.length=32:=hr_at0 fun e=>h (by rw [e];rfl)
theorem zef(h:hdrs H ≠ []):∃a:List AV,(hdrs H)[0]? =some a/\ a.length=36:=zki fun e=>h (by rw [e];rfl)
structure Fr(O O':Store)(own own':List Nat):Prop where
 st:∀j,j<O.length->j ∉ own->O'[j]? =O[j]?
 new:∀j,j ∈ own'->j ∈ own \/O.length<=j
 le:O.length<=O'.length
theorem Fr.ext{own:List Nat}(h:Ext O O'):Fr O O' own own:=by
 refine⟨fun j hj _=> ?_,fun j hj=> .inl hj,h.le⟩
 obtain⟨y,rfl⟩:=h
 exact gapp hj
theorem Fr.get{own own':List Nat}(h:Fr O O' own own'){j:Nat}{o:Option AObj}(hg:O[j]? =some o)(hj:j ∉ own):O'[j]? =some o:=by
 rw [h.st j (slen hg) hj];exact hg
def PubIs(O:Store)(r:Nat)(seed:List UInt8)(L:List (List UInt8))(H:List Hdr)(own:List Nat):Prop:=
 ∃t lg lv z hs sl sv sh,own=r::t::(Option.toList sl++(Option.toList sv++Option.toList sh))/\ O[r]? =some (some [pbC (.ptr t 0 0) lg lv L.length z hs]) ∧
  O[t]? =some (some [z1m true seed (keyL seed)])/\ RowAt 1 O sl lg (strs L)/\ RowAt 32 O sv lv (hr (lvs L))/\ SlV 32 (hr (ofR (lvs L)).reverse) z/\ RowAt 36 O sh hs (hdrs H)
theorem PubIs.lt{own:List Nat}(h:PubIs O r seed L H own){j:Nat}(hj:j ∈ own):j<O.length:=by
 obtain⟨t,lg,lv,z,hs,sl,sv,sh,rfl,hg,ht,h1,h2,hz,h3⟩:=h
 simp only [List.mem_cons,List.mem_append,Option.mem_toList]at hj
 rcases hj with rfl|rfl|h|h|h
 ·exact slen hg
 ·exact slen ht
 ·exact h1.lt h
 ·exact h2.lt h
 ·exact h3.lt h
theorem PubIs.keep{own:List Nat}(h:PubIs O r seed L H own)(hk:∀j,j ∈ own->O'[j]? =O[j]?):PubIs O' r seed L H own:=by
 obtain⟨t,lg,lv,z,hs,sl,sv,sh,rfl,hg,ht,h1,h2,hz,h3⟩:=h
 refine⟨t,lg,lv,z,hs,sl,sv,sh,rfl,?_,?_,h1.keep fun q e=>hk q ?_,h2.keep fun q e=>hk q ?_,hz,h3.keep fun q e=>hk q ?_⟩
 ·rw [hk r (by simp)];exact hg
 ·rw [hk t (by simp)];exact ht
 all_goals simp [e]
theorem PubIs.ext{own:List Nat}(h:PubIs O r seed L H own)(he:Ext O O'):PubIs O' r seed L H own:=by
 obtain⟨y,rfl⟩:=he
 exact h.keep fun j hj=>gapp (h.lt hj)
def apE(s:List UInt8):Int:=if 200<s.length then 3 else 0
def apL(L:List (List UInt8))(s:List UInt8):List (List UInt8):=if 200<s.length then L else L++ [s]
def AppendP(O:Store)(r:Nat)(seed:List UInt8)(L:List (List UInt8))(H:List Hdr)(own:List Nat)(s:List UInt8)(a:AV)(O':Store):Prop:=
 a=.int .i64 (apE s)/\ ∃own',Fr O O' own own'/\ PubIs O' r seed (apL L s) H own'
theorem z12k(h:L ≠ []):strs L ≠ []:=fun e=>h (by cases L with|nil=>rfl|cons a l=>simp [strs]at e)
theorem zu8(h:H ≠ []):hdrs H ≠ []:=fun e=>h (by cases H with|nil=>rfl|cons a l=>simp [hdrs]at e)
theorem lvs_ne(h:L ≠ []):hr (lvs L) ≠ []:=fun e=>h (by cases L with|nil=>rfl|cons a l=>simp [lvs,hr]at e)
theorem AppendP.ok{t q1 q2:Nat}{z2 hs:AV}{sl sv sh:Option Nat}(h200:¬200<s.length)
  (hg:O'[r]? =some (some [pbC (.ptr t 0 0) (.sl q1 0 (L.length+1) none 1) (.sl q2 0 (L.length+1) none 32) ((L.length+1:Nat):Int) z2 hs])) (ht:O'[t]? =some (some [z1m true seed (keyL seed)]))
  (h1:O'[q1]? =some (some (strs (L++ [s])))) (h2:O'[q2]? =some (some (hr (lvs (L++ [s]))))) (hz:SlV 32 (hr (ofR (lvs (L++ [s]))).reverse) z2) (h3:RowAt 36 O' sh hs (hdrs H))
  (hq1:O.length<=q1) (hq2:O.length<=q2) (hle:O.length<=O'.length) (hst:∀j,j<O.length->j ≠ r->sl ≠ some j->sv ≠ some j->O'[j]? =O[j]?):
  AppendP O r seed L H (r::t::(Option.toList sl++(Option.toList sv++Option.toList sh))) s (.int .i64 0) O':=by
 refine⟨by unfold apE;rw [if_neg h200],r::t::(Option.toList (some q1)++(Option.toList (some q2)++Option.toList sh)),⟨fun j hj hn=> ?_,fun j hj=> ?_,hle⟩,?_⟩
 ·simp only [List.mem_cons,List.mem_append,Option.mem_toList,not_or]at hn
  exact hst j hj hn.1 (fun e=>hn.2.2.1 e) (fun e=>hn.2.2.2.1 e)
 ·simp only [List.mem_cons,List.mem_append,Option.mem_toList,Option.some.injEq]at hj ⊢
  rcases hj with h|h|h|h|h
  ·exact .inl (.inl h)
  ·exact .inl (.inr (.inl h))
  ·exact .inr (by omega)
  ·exact .inr (by omega)
  ·exact .inl (.inr (.inr (.inr (.inr h))))
 ·unfold apL
  rw [if_neg h200]
  have hne:L++ [s] ≠ []:=by simp
  refine⟨t,_,_,z2,hs,some q1,some q2,sh,rfl,by rw [List.length_append];exact hg,ht,.inr ⟨q1,rfl,z12k hne,?_,h1⟩,.inr ⟨q2,rfl,lvs_ne hne,?_,h2⟩,hz,h3⟩
  ·rw [zh8,List.length_append];rfl
  ·rw [zn,zvo,List.length_append];rfl
theorem AppendP.is{own:List Nat}(hT:PubIs O r seed L H own):∃a O',AppendP O r seed L H own s a O':=by
 by_cases h:200<s.length
 ·exact⟨_,O,rfl,own,.ext (.refl _),by unfold apL;rw [if_pos h];exact hT⟩
 ·obtain⟨t,lg,lv,z,hs,sl,sv,sh,rfl,hg,ht,h1,h2,hz,h3⟩:=hT
  have d:=slen hg
  have d2:=slen ht
  have hrt:t ≠ r:=z9v ht hg (a:=z1m true seed (keyL seed)) (b:=pbC (.ptr t 0 0) lg lv L.length z hs) rfl rfl (by rw [zhc,z3r];simp [pbC])
  refine⟨_,(O.set r (some [pbC (.ptr t 0 0) (.sl O.length 0 (L.length+1) none 1) (.sl (O.length+1) 0 (L.length+1) none 32) ((L.length+1:Nat):Int) (zz 32 (hr (ofR (lvs (L++ [s]))).reverse)) hs]))++ [some (strs (L++ [s])),some (hr (lvs (L++ [s])))],
   .ok (O:=O) (q1:=O.length) (q2:=O.length+1) (hs:=hs) h ?_ ?_ ?_ ?_ (z1l _ _) ?_ (Nat.le_refl _) (by omega) (by simp) fun j hj hjr _ _=> ?_⟩
  ·rw [gapp (by simpa using d),z2a d]
  ·rw [gapp (by simpa using d2),z1h (fun e=>hrt e.symm)];exact ht
  ·rw [z18 (by simp)];simp
  ·rw [z18 (by simp)];simp
  ·refine h3.keep fun q e=> ?_
   have hq:=h3.lt e
   have hqr:q ≠ r:=by
    rcases h3 with⟨e2,_⟩| ⟨q',e2,hn,rfl,hgq⟩
    ·rw [e2]at e;cases e
    ·rw [e2]at e;cases e
     obtain⟨a,ha,hal⟩:=zki (H:=H) (fun e=>hn (by rw [e];rfl))
     exact z9v hgq hg ha (b:=pbC (.ptr t 0 0) lg lv L.length z _) rfl (by rw [hal];simp [pbC])
   rw [gapp (by simpa using hq),z1h (fun e=>hqr e.symm)]
  ·rw [gapp (by simpa using hj),z1h (fun e=>hjr e.symm)]
end
section
def mkH(seed:List UInt8)(i:Nat)(M:List (List UInt8)):Hdr:=⟨M.length,z1o (lvs M),i,ksgS seed i (digH M.length (z1o (lvs M))).1,z24 (keyL seed) i⟩
theorem zbt(seed:List UInt8)(i:Nat):(z24 (keyL seed) i).length=3:=by unfold z24;rw [List.length_reverse,zlw _ i (z3r seed)]
def pubN(H:List Hdr):Int:=((H[H.length-1]?).map Hdr.n).getD 0
structure PubOk(seed:List UInt8)(L:List (List UInt8))(H:List Hdr):Prop where
 len:H.length<=8
 at':∀i h,H[i]? =some h->∃n,h=mkH seed i (L.take n)/\ 0<n/\ n<=L.length
 up:∀i h h',H[i]? =some h->H[i+1]? =some h'->h.n<h'.n
theorem PubOk.nil(seed:List UInt8):PubOk seed [] []:=⟨by simp,by simp,by simp⟩
theorem PubOk.app(h:PubOk seed L H)(M:List (List UInt8)):PubOk seed (L++M) H:=by
 refine⟨h.len,fun i x hx=> ?_,h.up⟩
 obtain⟨n,e,h0,hn⟩:=h.at' i x hx
 exact⟨n,by rw [List.take_append_of_le_length hn];exact e,h0,by rw [List.length_append];omega⟩
theorem PubOk.path(h:PubOk seed L H):∀x ∈ H,x.p.length<1000000:=by
 intro x hx
 obtain⟨i,hi⟩:=List.mem_iff_getElem?.1 hx
 obtain⟨n,rfl,_,_⟩:=h.at' i x hi
 show (z24 (keyL seed) i).length<1000000
 rw [zbt];omega
def puE(L:List (List UInt8))(H:List Hdr):Int:=if 8<=H.length then 85 else if (L.length:Int)=pubN H then 83 else 0
def puV(seed:List UInt8)(L:List (List UInt8))(H:List Hdr):AV:=.tup [.agg (if puE L H=0 then hdrC (mkH seed H.length L)else sgZ),.int .i64 (puE L H)]
def puH(seed:List UInt8)(L:List (List UInt8))(H:List Hdr):List Hdr:=if puE L H=0 then H++ [mkH seed H.length L]else H
def PublishP(O:Store)(r:Nat)(seed:List UInt8)(L:List (List UInt8))(H:List Hdr)(own:List Nat)(a:AV)(O':Store):Prop:=
 a=puV seed L H/\ ∃own',Fr O O' own own'/\ PubIs O' r seed L (puH seed L H) own'
theorem PublishP.ok{t q:Nat}{lg lv z hs:AV}{sl sv sh:Option Nat}(he:puE L H=0)
  (hg0:O[r]? =some (some [pbC (.ptr t 0 0) lg lv L.length z hs])) (ht0:O[t]? =some (some [z1m true seed (keyL seed)])) (h1:RowAt 1 O sl lg (strs L)) (h2:RowAt 32 O sv lv (hr (lvs L))) (h3:RowAt 36 O sh hs (hdrs H))
  (hg:O'[r]? =some (some [pbC (.ptr t 0 0) lg lv L.length z (.sl q 0 (H.length+1) none 36)])) (hz:SlV 32 (hr (ofR (lvs L)).reverse) z)
  (hq:O'[q]? =some (some (hdrs (H++ [mkH seed H.length L])))) (hqn:O.length<=q) (hle:O.length<=O'.length) (hst:∀j,j<O.length->j ≠ r->sh ≠ some j->O'[j]? =O[j]?):
  PublishP O r seed L H (r::t::(Option.toList sl++(Option.toList sv++Option.toList sh))) (.tup [.agg (hdrC (mkH seed H.length L)),.int .i64 0]) O':=by
 refine⟨by unfold puV;rw [he,if_pos rfl],r::t::(Option.toList sl++(Option.toList sv++Option.toList (some q))),⟨fun j hj hn=> ?_,fun j hj=> ?_,hle⟩,?_⟩
 ·simp only [List.mem_cons,List.mem_append,Option.mem_toList,not_or]at hn
  exact hst j hj hn.1 (fun e=>hn.2.2.2.2 e)
 ·simp only [List.mem_cons,List.mem_append,Option.mem_toList,Option.some.injEq]at hj ⊢
  rcases hj with h|h|h|h|h
  ·exact .inl (.inl h)
  ·exact .inl (.inr (.inl h))
  ·exact .inl (.inr (.inr (.inl h)))
  ·exact .inl (.inr (.inr (.inr (.inl h))))
  ·exact .inr (by omega)
 ·unfold puH
  rw [if_pos he]
  have hne:H++ [mkH seed H.length L] ≠ []:=by simp
  have hpl:(pbC (.ptr t 0 0) lg lv L.length z hs).length=6:=rfl
  have htl:(z1m true seed (keyL seed)).length=258:=by rw [zhc,z3r]
  have hrt:t ≠ r:=z9v ht0 hg0 (a:=z1m true seed (keyL seed)) (b:=pbC (.ptr t 0 0) lg lv L.length z hs) rfl rfl (by omega)
  refine⟨t,lg,lv,z,_,sl,sv,some q,rfl,hg,by rw [hst t (slen ht0) hrt fun e=>h3.ne zef ht0 (b:=z1m true seed (keyL seed)) rfl (by omega) t e rfl];exact ht0,h1.keep fun j e=>hst j (h1.lt e) ?_ ?_,h2.keep fun j e=>hst j (h2.lt e) ?_ ?_,hz,.inr ⟨q,rfl,zu8 hne,?_,hq⟩⟩
  ·exact h1.ne zon hg0 (b:=pbC (.ptr t 0 0) lg lv L.length z hs) rfl (by omega) j e
  ·exact h1.ne2 zon h3 zef (by omega) j e
  ·exact h2.ne hr_w hg0 (b:=pbC (.ptr t 0 0) lg lv L.length z hs) rfl (by omega) j e
  ·exact h2.ne2 hr_w h3 zef (by omega) j e
  ·rw [zh,List.length_append];rfl
theorem PublishP.no{own:List Nat}{e:Int}(hT:PubIs O r seed L H own)(he:puE L H=e)(h0:e ≠ 0):PublishP O r seed L H own (.tup [.agg sgZ,.int .i64 e]) O:=by
 subst he
 exact⟨by unfold puV;rw [if_neg h0],own,.ext (.refl _),by unfold puH;rw [if_neg h0];exact hT⟩
theorem PublishP.is{own:List Nat}(hT:PubIs O r seed L H own):∃a O',PublishP O r seed L H own a O':=by
 by_cases he:puE L H=0
 ·obtain⟨t,lg,lv,z,hs,sl,sv,sh,rfl,hg,ht,h1,h2,hz,h3⟩:=hT
  have d:=slen hg
  refine⟨_,(O.set r (some [pbC (.ptr t 0 0) lg lv L.length z (.sl O.length 0 (H.length+1) none 36)]))++ [some (hdrs (H++ [mkH seed H.length L]))],.ok (q:=O.length) he hg ht h1 h2 h3 ?_ hz ?_ (Nat.le_refl _) (by simp) fun j hj hjr _=> ?_⟩
  ·rw [gapp (by simpa using d),z2a d]
  ·rw [z18 (by simp)];simp
  ·rw [gapp (by simpa using hj),z1h (fun e=>hjr e.symm)]
 ·exact⟨_,O,.no hT rfl he⟩
@[go_sem] theorem sgC_set33 (n:Int) (r:Hash) (i j:Int) (s u:List UInt8) (x v:AV):(sgC n r i s x).take 33++ .int .i64 j:: .str u::v::(sgC n r i s x).drop 36=sgC n r j u v:=by
 rw [z9y,z10h];rfl
end
section
def adC(key:Hash)(has:Bool)(n:Int)(r:Hash)(i:Int)(s:List UInt8)(x fd:AV):List AV:=.bool true::(hc key++(.bool has::(sgC n r i s x++ [fd])))
@[go_sem] theorem zqo (key:Hash) (has:Bool) (n:Int) (r:Hash) (i:Int) (s:List UInt8) (x fd:AV):(adC key has n r i s x fd).length=71:=by simp [adC,z8,zg]
@[go_sem] theorem adC_0 (key:Hash) (has:Bool) (n:Int) (r:Hash) (i:Int) (s:List UInt8) (x fd:AV):(adC key has n r i s x fd)[0]? =some (.bool true):=rfl
theorem zih(key:Hash)(has:Bool)(n:Int)(r:Hash)(i:Int)(s:List UInt8)(x fd:AV):adC key has n r i s x fd=(.bool true::hc key)++(.bool has::(sgC n r i s x++ [fd])):=by simp [adC]
theorem zif(key:Hash)(has:Bool)(n:Int)(r:Hash)(i:Int)(s:List UInt8)(x fd:AV):(adC key has n r i s x fd).drop 33=.bool has::(sgC n r i s x++ [fd]):=by
 rw [zih,List.drop_left' (by simp [z8])]
theorem zqp(key:Hash)(has:Bool)(n:Int)(r:Hash)(i:Int)(s:List UInt8)(x fd:AV):(adC key has n r i s x fd).take 33=.bool true::hc key:=by
 rw [zih,List.take_left' (by simp [z8])]
theorem z7f(key:Hash)(has:Bool)(n:Int)(r:Hash)(i:Int)(s:List UInt8)(x fd:AV):(adC key has n r i s x fd).drop 34=sgC n r i s x++ [fd]:=by
 rw [show 34=33+1 from rfl,<-List.drop_drop,zif];rfl
theorem zig(key:Hash)(has:Bool)(n:Int)(r:Hash)(i:Int)(s:List UInt8)(x fd:AV):(adC key has n r i s x fd).drop 70=[fd]:=by
 rw [show 70=34+36 from rfl,<-List.drop_drop,z7f,List.drop_left' (by simp [zg])]
@[go_sem] theorem adC_key (key:Hash) (has:Bool) (n:Int) (r:Hash) (i:Int) (s:List UInt8) (x fd:AV):((adC key has n r i s x fd).drop 1).take 32=hc key:=by
 unfold adC;rw [List.drop_succ_cons,List.drop_zero,List.take_left' (by simp [z8])]
theorem z6f{l:List AV}{a:AV}{m:List AV}(h:l.drop k=a::m):l[k]? =some a:=by
 have:(l.drop k)[0]? =some a:=by rw [h];rfl
 rwa [List.getElem?_drop,Nat.add_zero]at this
@[go_sem] theorem adC_33 (key:Hash) (has:Bool) (n:Int) (r:Hash) (i:Int) (s:List UInt8) (x fd:AV):(adC key has n r i s x fd)[33]? =some (.bool has):=z6f (zif key has n r i s x fd)
@[go_sem] theorem adC_34 (key:Hash) (has:Bool) (n:Int) (r:Hash) (i:Int) (s:List UInt8) (x fd:AV):(adC key has n r i s x fd)[34]? =some (.int .i64 n):=z6f (z7f key has n r i s x fd)
@[go_sem] theorem adC_70 (key:Hash) (has:Bool) (n:Int) (r:Hash) (i:Int) (s:List UInt8) (x fd:AV):(adC key has n r i s x fd)[70]? =some fd:=z6f (zig key has n r i s x fd)
@[go_sem] theorem adC_now (key:Hash) (has:Bool) (n:Int) (r:Hash) (i:Int) (s:List UInt8) (x fd:AV):((adC key has n r i s x fd).drop 34).take 36=sgC n r i s x:=by
 rw [z7f,List.take_left' (by simp [zg])]
@[go_sem] theorem adC_head (key:Hash) (has:Bool) (n:Int) (r:Hash) (i:Int) (s:List UInt8) (x fd:AV):((adC key has n r i s x fd).drop 34).take 33=.int .i64 n::hc r:=by
 rw [z7f,List.take_append_of_le_length (by rw [zg];omega),z9y]
@[go_sem] theorem adC_root (key:Hash) (has:Bool) (n:Int) (r:Hash) (i:Int) (s:List UInt8) (x fd:AV):((adC key has n r i s x fd).drop 35).take 32=hc r:=by
 rw [show 35=34+1 from rfl,<-List.drop_drop,z7f]
 unfold sgC
 rw [List.cons_append,List.drop_succ_cons,List.drop_zero,List.append_assoc,List.take_left' (by simp [z8])]
@[go_sem] theorem adC_set33 (key:Hash) (has b:Bool) (n:Int) (r:Hash) (i:Int) (s:List UInt8) (x fd:AV):(adC key has n r i s x fd).take 33++ .bool b::(adC key has n r i s x fd).drop 34=adC key b n r i s x fd:=by
 rw [zqp,z7f];simp [adC]
theorem zqq(key:Hash)(has:Bool)(n:Int)(r:Hash)(i:Int)(s:List UInt8)(x fd:AV):(adC key has n r i s x fd).take 34=.bool true::(hc key++ [.bool has]):=by
 rw [show adC key has n r i s x fd=(.bool true::(hc key++ [.bool has]))++(sgC n r i s x++ [fd])by simp [adC],List.take_left' (by simp [z8])]
@[go_sem] theorem adC_set34 (key:Hash) (has:Bool) (n m:Int) (r r2:Hash) (i j:Int) (s s2:List UInt8) (x x2 fd:AV):(adC key has n r i s x fd).take 34++(sgC m r2 j s2 x2++(adC key has n r i s x fd).drop 70)=adC key has m r2 j s2 x2 fd:=by
 rw [zqq,zig];simp [adC]
@[go_sem] theorem adC_set70 (key:Hash) (has:Bool) (n:Int) (r:Hash) (i:Int) (s:List UInt8) (x fd fd2:AV):(adC key has n r i s x fd).take 70++fd2::(adC key has n r i s x fd).drop 71=adC key has n r i s x fd2:=by
 rw [show adC key has n r i s x fd=(.bool true::(hc key++(.bool has::sgC n r i s x)))++ [fd]by simp [adC],List.take_left' (by simp [z8,zg]),List.drop_eq_nil_of_le (by simp [z8,zg])]
 simp [adC]
end
variable {fd:Option (Hdr × Hdr)}
section
def zHd:Hdr:=⟨0,zeroH,0,[],[]⟩
def adS(key:Hash)(now:Option Hdr)(fd:AV):List AV:=adC key now.isSome (now.getD zHd).n (now.getD zHd).r (now.getD zHd).i (now.getD zHd).s (zz 32 (hr (now.getD zHd).p)) fd
def evC(k:Int)(a b:Hdr):List AV:=.int .i64 k::(hdrC a++(hdrC b++(hc zeroH++ [.nilsl])))
def FdAt(O:Store)(fv:AV)(fd:Option (Hdr × Hdr))(own:List Nat):Prop:=(fd=none/\ fv=.nilp/\ own=[]) \/ ∃a b q,fd=some (a,b)/\ fv=.ptr q 0 0/\ own=[q]/\ O[q]? =some (some [evC 1 a b])
theorem FdAt.keep{fv:AV}{own:List Nat}(h:FdAt O fv fd own)(hk:∀j,j ∈ own->O'[j]? =O[j]?):FdAt O' fv fd own:=by
 rcases h with h| ⟨a,b,q,e1,e2,rfl,hg⟩
 ·exact .inl h
 ·exact .inr ⟨a,b,q,e1,e2,rfl,by rw [hk q (by simp)];exact hg⟩
theorem FdAt.lt{fv:AV}{own:List Nat}(h:FdAt O fv fd own){j:Nat}(hj:j ∈ own):j<O.length:=by
 rcases h with⟨_,_,rfl⟩| ⟨a,b,q,e1,e2,rfl,hg⟩
 ·cases hj
 ·simp only [List.mem_singleton]at hj;subst hj;exact slen hg
def AudIs(O:Store)(p:Nat)(key:Hash)(now:Option Hdr)(fd:Option (Hdr × Hdr))(own:List Nat):Prop:=
 ∃fv fo,own=p::fo/\ O[p]? =some (some [adS key now fv])/\ FdAt O fv fd fo
theorem AudIs.lt{key:Hash}{now:Option Hdr}{own:List Nat}(h:AudIs O p key now fd own){j:Nat}(hj:j ∈ own):j<O.length:=by
 obtain⟨fv,fo,rfl,hg,hf⟩:=h
 rcases List.mem_cons.1 hj with rfl|hj
 ·exact slen hg
 ·exact hf.lt hj
theorem AudIs.keep{key:Hash}{now:Option Hdr}{own:List Nat}(h:AudIs O p key now fd own)(hk:∀j,j ∈ own->O'[j]? =O[j]?):AudIs O' p key now fd own:=by
 obtain⟨fv,fo,rfl,hg,hf⟩:=h
 exact⟨fv,fo,rfl,by rw [hk p (by simp)];exact hg,hf.keep fun j hj=>hk j (by simp [hj])⟩
theorem AudIs.ext{key:Hash}{now:Option Hdr}{own:List Nat}(h:AudIs O p key now fd own)(he:Ext O O'):AudIs O' p key now fd own:=by
 obtain⟨y,rfl⟩:=he
 exact h.keep fun j hj=>gapp (h.lt hj)
def adE(key:Hash)(now:Option Hdr)(s:Hdr)(pf:List Hash):Int:=
 if z1s key s.n s.i s.r s.s s.p ≠ 0 then 0 else match now with
  |none=>1
  |some w=>if ordI s.n w.n s.r w.r=1 then 3 else if ordI s.n w.n s.r w.r=3 then 6
   else if ordI s.n w.n s.r w.r=0 then(if chkH s.n w.n s.r w.r pf=0 then 4 else 5)
   else(if chkH w.n s.n w.r s.r pf=0 then 2 else 5)
def adN(key:Hash)(now:Option Hdr)(s:Hdr)(pf:List Hash):Option Hdr:=if adE key now s pf=1 \/adE key now s pf=2 then some s else now
def adF(key:Hash)(now:Option Hdr)(fd:Option (Hdr × Hdr))(s:Hdr)(pf:List Hash):Option (Hdr × Hdr):=if adE key now s pf=6 then some (fd.getD (now.getD zHd,s))else fd
def AHeadP(O:Store)(p:Nat)(key:Hash)(now:Option Hdr)(fd:Option (Hdr × Hdr))(own:List Nat)(s:Hdr)(pf:List Hash)(a:AV)(O':Store):Prop:=
 a=.int .i64 (adE key now s pf)/\ ∃own',Fr O O' own own'/\ AudIs O' p key (adN key now s pf) (adF key now fd s pf) own'
theorem AHeadP.ext{key:Hash}{now:Option Hdr}{own:List Nat}{s:Hdr}{pf:List Hash}{e:Int}(hT:AudIs O p key now fd own)(he:adE key now s pf=e)(h:e ≠ 1/\ e ≠ 2/\ e ≠ 6)(hx:Ext O O'):AHeadP O p key now fd own s pf (.int .i64 e) O':=by
 subst he
 refine⟨rfl,own,.ext hx,?_⟩
 unfold adN adF
 rw [if_neg (by omega),if_neg h.2.2]
 exact hT.ext hx
theorem zqr(key:Hash)(now:Option Hdr)(fd:AV):(adS key now fd).length=71:=zqo _ _ _ _ _ _ _ _
theorem zss(k:Int)(a b:Hdr):(evC k a b).length=106:=by simp [evC,zi,z8]
theorem FdAt.ne{key:Hash}{now:Option Hdr}{fv fv':AV}{fo:List Nat}(h:FdAt O fv fd fo)(hg:O[p]? =some (some [adS key now fv'])):p ∉ fo:=by
 rcases h with⟨_,_,rfl⟩| ⟨a,b,q,e1,e2,rfl,hq⟩
 ·simp
 ·intro hm
  simp only [List.mem_singleton]at hm
  exact z9v hg hq (a:=adS key now fv') (b:=evC 1 a b) rfl rfl (by rw [zqr,zss];omega) hm
theorem AHeadP.now{key:Hash}{now:Option Hdr}{fv:AV}{fo:List Nat}{s:Hdr}{pf:List Hash}{e:Int}(hg:O[p]? =some (some [adS key now fv]))(hf:FdAt O fv fd fo)(he:adE key now s pf=e)(h:e=1 \/e=2)
  (hg':O'[p]? =some (some [adS key (some s) fv])) (hle:O.length<=O'.length) (hst:∀j,j<O.length->j ≠ p->O'[j]? =O[j]?):AHeadP O p key now fd (p::fo) s pf (.int .i64 e) O':=by
 subst he
 have hp:=hf.ne hg
 refine⟨rfl,p::fo,⟨fun j hj hn=>hst j hj (fun e=>hn (by simp [e])),fun j hj=> .inl hj,hle⟩,fv,fo,rfl,?_,?_⟩
 ·unfold adN;rw [if_pos h];exact hg'
 ·unfold adF;rw [if_neg (by omega)]
  exact hf.keep fun j hj=>hst j (hf.lt hj) fun e=>hp (by rw [<-e];exact hj)
theorem AHeadP.fork{q:Nat}{key:Hash}{w s:Hdr}{pf:List Hash}(hg:O[p]? =some (some [adS key (some w) .nilp]))(he:adE key (some w) s pf=6)
  (hg':O'[p]? =some (some [adS key (some w) (.ptr q 0 0)])) (hq:O'[q]? =some (some [evC 1 w s])) (hqn:O.length<=q) (hle:O.length<=O'.length) (hst:∀j,j<O.length->j ≠ p->O'[j]? =O[j]?):AHeadP O p key (some w) none [p] s pf (.int .i64 6) O':=by
 refine⟨by rw [he],[p,q],⟨fun j hj hn=>hst j hj (fun e=>hn (by simp [e])),fun j hj=> ?_,hle⟩,.ptr q 0 0,[q],rfl,?_,?_⟩
 ·simp only [List.mem_cons,List.not_mem_nil,or_false]at hj ⊢
  rcases hj with h|h
  ·exact .inl h
  ·exact .inr (by omega)
 ·unfold adN;rw [he,if_neg (by omega)];exact hg'
 ·unfold adF;rw [he,if_pos rfl]
  exact .inr ⟨w,s,q,rfl,rfl,rfl,hq⟩
theorem AHeadP.forked{key:Hash}{now:Option Hdr}{own:List Nat}{s:Hdr}{pf:List Hash}(hT:AudIs O p key now fd own)(hfd:fd ≠ none)(he:adE key now s pf=6)(hx:Ext O O'):AHeadP O p key now fd own s pf (.int .i64 6) O':=by
 refine⟨by rw [he],own,.ext hx,?_⟩
 unfold adN adF
 rw [he,if_neg (by omega),if_pos rfl]
 cases fd with
 |none=>exact absurd rfl hfd
 |some f=>exact hT.ext hx
theorem AHeadP.is{key:Hash}{now:Option Hdr}{own:List Nat}{s:Hdr}{pf:List Hash}(hT:AudIs O p key now fd own):∃a O',AHeadP O p key now fd own s pf a O':=by
 have hT':=hT
 obtain⟨fv,fo,rfl,hg,hf⟩:=hT
 have d:=slen hg
 by_cases h1:adE key now s pf=1 \/adE key now s pf=2
 ·exact⟨_,O.set p (some [adS key (some s) fv]),.now hg hf rfl h1 (z2a d) (by simp) fun j hj hjp=>z1h (fun e=>hjp e.symm)⟩
 ·by_cases h6:adE key now s pf=6
  ·rcases hf with⟨rfl,rfl,rfl⟩| ⟨a,b,q,rfl,_⟩
   ·cases now with
    |none=>unfold adE at h6;split at h6<;>simp at h6
    |some w=>
     refine⟨_,(O.set p (some [adS key (some w) (.ptr O.length 0 0)]))++ [some [evC 1 w s]],.fork (q:=O.length) hg h6 ?_ ?_ (Nat.le_refl _) (by simp) fun j hj hjp=> ?_⟩
     ·rw [gapp (by simpa using d),z2a d]
     ·rw [z18 (by simp)];simp
     ·rw [gapp (by simpa using hj),z1h (fun e=>hjp e.symm)]
   ·exact⟨_,O,.forked hT' (by simp) h6 (.refl _)⟩
  ·exact⟨_,O,.ext hT' rfl ⟨by omega,by omega,h6⟩ (.refl _)⟩
end
section
set_option maxRecDepth 4000
def kk1:List UInt8:=[246,124,21,201,114,238,122,72,151,97,168,75,248,54,30,210,144,197,28,19,116,202,79,99,156,200,199,7,2,183,130,33]
def kk2:List UInt8:=[91,185,75,39,248,41,207,225,71,206,180,178,219,1,126,29,220,160,6,36,31,178,102,18,197,7,22,64,206,111,255,182]
end
section
structure Ev where
 k:Int
 a:Hdr
 b:Hdr
 r:Hash
 p:List Hash
def evZ0:Ev:=⟨0,zHd,zHd,zeroH,[]⟩
def sgX(h:Hdr)(x:AV):List AV:=sgC h.n h.r h.i h.s x
theorem z36(h:Hdr)(x:AV):(sgX h x).length=36:=zg _ _ _ _ _
@[go_sem] theorem sgX_0 (h:Hdr) (x:AV):(sgX h x)[0]? =some (.int .i64 h.n):=rfl
@[go_sem] theorem sgX_35 (h:Hdr) (x:AV):(sgX h x)[35]? =some x:=zo3 _ _ _ _ _
@[go_sem] theorem sgX_all (h:Hdr) (x:AV):(sgX h x).take 36=sgX h x:=z10g _ _ _ _ _
@[go_sem] theorem zo6 (h:Hdr) (x:AV):((sgX h x).drop 1).take 32=hc h.r:=z10i _ _ _ _ _
@[go_sem] theorem zo5 (h:Hdr) (x:AV):(sgX h x).take 33=.int .i64 h.n::hc h.r:=z9y _ _ _ _ _
def evX(e:Ev)(x y z:AV):List AV:=.int .i64 e.k::(sgX e.a x++(sgX e.b y++(hc e.r++ [z])))
def evO:List AV:=evX evZ0 .nilsl .nilsl .nilsl
theorem z97(e:Ev)(x y z:AV):(evX e x y z).length=106:=by simp [evX,z36,z8]
theorem evO_len:evO.length=106:=z97 _ _ _ _
section
variable (e:Ev) (x y z:AV)
theorem zbb:(evX e x y z).drop 1=sgX e.a x++(sgX e.b y++(hc e.r++ [z])):=rfl
theorem evX_d2:(evX e x y z).drop 2=(sgX e.a x).drop 1++(sgX e.b y++(hc e.r++ [z])):=rfl
theorem z6l:(evX e x y z).drop 37=sgX e.b y++(hc e.r++ [z]):=by
 rw [show 37=1+36 from rfl,<-List.drop_drop,zbb,List.drop_left' (z36 e.a x)]
theorem zsw:(evX e x y z).drop 38=(sgX e.b y).drop 1++(hc e.r++ [z]):=by
 rw [show 38=37+1 from rfl,<-List.drop_drop,z6l];rfl
theorem ze3:(evX e x y z).drop 73=hc e.r++ [z]:=by
 rw [show 73=37+36 from rfl,<-List.drop_drop,z6l,List.drop_left' (z36 e.b y)]
theorem zjw:(evX e x y z).drop 105=[z]:=by
 rw [show 105=73+32 from rfl,<-List.drop_drop,ze3,z7p]
theorem zsv:(evX e x y z).drop 36=x::(sgX e.b y++(hc e.r++ [z])):=by
 rw [show 36=1+35 from rfl,<-List.drop_drop,zbb];unfold sgX sgC
 rw [List.cons_append,List.drop_succ_cons,List.append_assoc,show 34=32+2 from rfl,<-List.drop_drop,z7p];rfl
theorem zsx:(evX e x y z).drop 72=y::(hc e.r++ [z]):=by
 rw [show 72=37+35 from rfl,<-List.drop_drop,z6l];unfold sgX sgC
 rw [List.cons_append,List.drop_succ_cons,List.append_assoc,show 34=32+2 from rfl,<-List.drop_drop,z7p];rfl
@[go_sem] theorem evX_0:(evX e x y z)[0]? =some (.int .i64 e.k):=rfl
@[go_sem] theorem evX_1:(evX e x y z)[1]? =some (.int .i64 e.a.n):=rfl
@[go_sem] theorem evX_36:(evX e x y z)[36]? =some x:=z6f (zsv e x y z)
@[go_sem] theorem evX_37:(evX e x y z)[37]? =some (.int .i64 e.b.n):=z6f (z6l e x y z)
@[go_sem] theorem evX_72:(evX e x y z)[72]? =some y:=z6f (zsx e x y z)
@[go_sem] theorem evX_105:(evX e x y z)[105]? =some z:=z6f (zjw e x y z)
@[go_sem] theorem evX_all:(evX e x y z).take 106=evX e x y z:=List.take_of_length_le (by rw [z97];omega)
@[go_sem] theorem evX_old:((evX e x y z).drop 1).take 36=sgX e.a x:=by rw [zbb,List.take_left' (z36 e.a x)]
@[go_sem] theorem evX_new:((evX e x y z).drop 37).take 36=sgX e.b y:=by rw [z6l,List.take_left' (z36 e.b y)]
@[go_sem] theorem evX_oldh:((evX e x y z).drop 1).take 33=.int .i64 e.a.n::hc e.a.r:=by
 rw [zbb,List.take_append_of_le_length (by rw [z36];omega),zo5]
@[go_sem] theorem evX_newh:((evX e x y z).drop 37).take 33=.int .i64 e.b.n::hc e.b.r:=by
 rw [z6l,List.take_append_of_le_length (by rw [z36];omega),zo5]
@[go_sem] theorem evX_oldr:((evX e x y z).drop 2).take 32=hc e.a.r:=by
 rw [evX_d2,List.take_append_of_le_length (by rw [List.length_drop,z36];omega),zo6]
@[go_sem] theorem evX_newr:((evX e x y z).drop 38).take 32=hc e.b.r:=by
 rw [zsw,List.take_append_of_le_length (by rw [List.length_drop,z36];omega),zo6]
@[go_sem] theorem evX_root:((evX e x y z).drop 73).take 32=hc e.r:=by rw [ze3,z7q]
@[go_sem] theorem evX_pk (k:Int): .int .i64 k::(evX e x y z).drop 1=evX ⟨k,e.a,e.b,e.r,e.p⟩ x y z:=rfl
theorem zst:evX e x y z=(.int .i64 e.k::sgX e.a x)++(sgX e.b y++(hc e.r++ [z])):=rfl
theorem zsu:evX e x y z=(.int .i64 e.k::sgX e.a x++sgX e.b y)++(hc e.r++ [z]):=by simp [evX]
theorem zjv:evX e x y z=(.int .i64 e.k::sgX e.a x++sgX e.b y++hc e.r)++ [z]:=by simp [evX]
@[go_sem] theorem evX_sold (h:Hdr) (v:AV):(evX e x y z).take 1++(sgX h v++(evX e x y z).drop 37)=evX ⟨e.k,h,e.b,e.r,e.p⟩ v y z:=by
 rw [z6l];rfl
@[go_sem] theorem evX_snew (h:Hdr) (v:AV):(evX e x y z).take 37++(sgX h v++(evX e x y z).drop 73)=evX ⟨e.k,e.a,h,e.r,e.p⟩ x v z:=by
 rw [ze3,zst,List.take_left' (by simp [z36])];rfl
@[go_sem] theorem evX_sroot (r:Hash):(evX e x y z).take 73++(hc r++(evX e x y z).drop 105)=evX ⟨e.k,e.a,e.b,r,e.p⟩ x y z:=by
 rw [zjw,zsu,List.take_left' (by simp [z36])];simp [evX]
theorem zsy(v:AV):(evX e x y z).set 105 v=evX e x y v:=by
 rw [zjv,List.set_append_right _ _ (by simp [z36,z8]),zjv];simp [z36,z8]
theorem zo7(h:Hdr)(x v:AV):(sgX h x).set 35 v=sgX h v:=by
 unfold sgX sgC
 rw [List.set_cons_succ,List.set_append_right _ _ (by rw [z8];omega),z8];rfl
theorem zsz(v:AV):(evX e x y z).set 36 v=evX e v y z:=by
 unfold evX
 rw [List.set_cons_succ,List.set_append_left _ _ (by rw [z36];omega),zo7]
theorem zt0(v:AV):(evX e x y z).set 72 v=evX e x v z:=by
 unfold evX
 rw [List.set_cons_succ,List.set_append_right _ _ (by rw [z36];omega),z36,List.set_append_left _ _ (by rw [z36];omega),zo7]
theorem zgr{l:List AV}(h:k<l.length):l.take k++v::l.drop (k+1)=l.set k v:=by
 rw [List.set_eq_take_append_cons_drop,if_pos h]
@[go_sem] theorem evX_p36 (v:AV):(evX e x y z).take 36++v::(evX e x y z).drop 37=evX e v y z:=by rw [zgr (by rw [z97];omega),zsz]
@[go_sem] theorem evX_p72 (v:AV):(evX e x y z).take 72++v::(evX e x y z).drop 73=evX e x v z:=by rw [zgr (by rw [z97];omega),zt0]
@[go_sem] theorem evX_p105 (v:AV):(evX e x y z).take 105++v::(evX e x y z).drop 106=evX e x y v:=by rw [zgr (by rw [z97];omega),zsy]
theorem rls_evX(hx:RL n x)(hy:RL n y)(hz:RL n z):RLs n (evX e x y z):=by
 have app:∀(A B:List AV),RLs n A->RLs n B->RLs n (A++B):=by
  intro A B
  induction A with
  |nil=>intro _ h;exact h
  |cons a A ih=>intro h1 h2;simp only [List.cons_append,RLs]at h1 ⊢;exact⟨h1.1,ih h1.2 h2⟩
 unfold evX
 simp only [RLs]
 exact⟨by simp [RL],app _ _ (zgf hx) (app _ _ (zgf hy) (app _ _ (z65 _) ⟨hz,by simp [RLs]⟩))⟩
end
end
section
def zhb(h:Hd):Hdr:=⟨h.n,h.r,h.i,h.g,h.l⟩
def valH(h:Hdr):Bool:=z1w h.n h.i h.s h.p
def z2f(h:Hdr):List UInt8:=putH h.n.toNat h.r h.i.toNat h.s h.p
theorem zp5{h:Hdr}(hv:valH h=true):∃d:Hd,h=zhb d/\ z1w d.n d.i d.g d.l=true/\ z2f h=putH d.n d.r d.i d.g d.l:=by
 obtain⟨N,I,e1,e2,_⟩:=z8i hv
 refine⟨⟨N,h.r,I,h.s,h.p⟩,?_,?_,?_⟩
 ·cases h;simp only [zhb]at*;subst e1;subst e2;rfl
 ·unfold valH at hv;rw [<-e1,<-e2];exact hv
 ·unfold z2f;rw [e1,e2];rfl
theorem z9o{h:Hdr}(hv:valH h=true):(z2f h).length<1000000:=by
 obtain⟨N,I,e1,e2,b1,b2,b3,b4⟩:=z8i hv
 have h1:=z1u h.n.toNat
 have h2:=z1u h.i.toNat
 have h3:=z1u h.s.length
 have h4:=zbe (l:=h.p)
 have h5:=h.r.2
 unfold z2f putH z23
 simp only [List.length_append]
 omega
def rdD(s:List UInt8):Nat × List UInt8:=(z1r s).getD (0,[])
def cutD(s:List UInt8):List UInt8 × List UInt8:=(cutS s).getD ([],[])
def unD(s:List UInt8):Hash × List UInt8:=(unS s).getD (zeroH,[])
def z4o(s:List UInt8):Hdr:=((getH s).map zhb).getD zHd
end
section
def sgV(h:Hdr):AV:=.agg (sgX h (zz 32 (hr h.p)))
theorem zcj(s:List UInt8):rdV (z1r s)=.tup [.int .u64 ((rdD s).1:Nat),.str (rdD s).2,.bool (z1r s).isSome]:=by
 unfold rdD;cases z1r s<;>rfl
theorem stV_D(s:List UInt8):stV (cutS s)=.tup [.str (cutD s).1,.str (cutD s).2,.bool (cutS s).isSome]:=by
 unfold cutD;cases cutS s<;>rfl
theorem unV_D(s:List UInt8):unV (unS s)=.tup [.agg (hc (unD s).1),.str (unD s).2,.bool (unS s).isSome]:=by
 unfold unD;cases unS s<;>rfl
theorem getV_D(s:List UInt8):getV (getH s)=.tup [sgV (z4o s),.int .i64 (if (getH s).isSome=true then 0 else 10)]:=by
 unfold z4o;cases getH s<;>rfl
theorem zjf(s:List UInt8):(cutD s).1.length<=s.length/\ (cutD s).2.length<=s.length:=by
 unfold cutD
 cases h:cutS s with
 |none=>simp
 |some x=>
  have:=zjh (g:=x.1) (r:=x.2) h
  have:=congrArg List.length this
  unfold z23 at this
  simp only [List.length_append]at this
  simp only [Option.getD_some]
  omega
theorem zci(s:List UInt8):(rdD s).2.length<=s.length:=by
 unfold rdD
 cases h:z1r s with
 |none=>simp
 |some x=>
  have:=(z4h (n:=x.1) (r:=x.2) h).2
  simp only [Option.getD_some]
  omega
theorem zmv(s:List UInt8):(rdD s).1<18446744073709551616:=by
 unfold rdD
 cases h:z1r s with
 |none=>simp
 |some x=>exact(z4h (n:=x.1) (r:=x.2) h).1
theorem unD_le(s:List UInt8):(unD s).2.length<=s.length:=by
 unfold unD
 cases h:unS s with
 |none=>simp
 |some x=>
  have:=congrArg List.length (zp2 (h:=x.1) (r:=x.2) h)
  rw [List.length_append]at this
  simp only [Option.getD_some]
  omega
end
section
set_option maxRecDepth 10000
def q20c14:yX:=.seq (yq [yM 15 9,yM 16 10,yB 17 .lss 15 16] (.cond (.t 17) .skip (.exit 0))) (.block 1 (yq [yM 18 9,yM 19 10,yB 20 .add 18 19,yY 21 .u64 20,yJ 22 .shr 21 .u64 1,yY 23 .i64 22,yM 11 23] (yq [yM 24 2,yM 25 0,yM 26 11,yN 27 36 25 26,yR 28 true 36 27,yR 29 true 33 4,yI 30 (.call (.t 24) [(.t 28),(.t 29)]),yJ 31 .lss 30 .i64 0] (.cond (.t 31) (.reg [yM 32 11,yJ 33 .add 32 .i64 1,yM 9 33]) (.reg [yM 34 11,yM 10 34])))))
def q20c18:yX:=.seq (.block 0 (.loop q20c14)) (yq [yM 35 9,yM 36 9,yM 37 8,yB 38 .lss 36 37,yM 39 38,yV 40 39 true 2,yV 41 39 true 0,yV 42 39 true 9,yG 43 39 true (.iaSl 36 (.t 41) (.t 42)),⟨some 44,some (39,true),.rd,.load true 36 (.t 43)⟩,⟨some 45,some (39,true),.rd,.load true 33 (.t 4)⟩,yG 46 39 true (.call (.t 40) [(.t 44),(.t 45)]),yG 47 39 true (.bin .eql .none (.t 46) (.v (.int .i64 0))),yQ 48 39 47,yM 6 35,yM 7 48] .ret)
def q20c21:yX:=yq [yx 4 1,yK 6 .i64 0,yb 7 false] (yq [yM 12 0,yZ 13 12,yM 8 13] (yq [yM 14 8,yK 9 .i64 0,yM 10 14] q20c18))
theorem q20ok:cFn TC 48=some (49,[.t 6,.t 7],q20c21):=by kernel_rfl
def q21c22:yX:=yq [yM 32 0,yM 33 1,yI 34 (.slice (.sl 36) (.t 32) none (some (.t 33)) none),yM 35 8,yM 36 7,yB 37 .add 35 36,yM 38 1,yB 39 .sub 37 38,yI 40 (.appZ 36 zZ1 (.t 34) (.t 39)),yM 9 40] (yq [yM 41 9,yM 42 1,yI 43 (.slice (.sl 36) (.t 41) (some (.t 42)) none none),yM 44 2,yI 45 (.copy 36 (.t 43) (.t 44))] (yq [yM 46 9,yM 47 1,yM 48 7,yB 49 .add 47 48,yI 50 (.slice (.sl 36) (.t 46) (some (.t 49)) none none),yM 51 0,yM 52 1,yI 53 (.slice (.sl 36) (.t 51) (some (.t 52)) none none),yI 54 (.copy 36 (.t 50) (.t 53))] (yq [yM 55 9,yM 6 55] .ret)))
def q21c24:yX:=yq [yM 26 8,yM 27 7,yB 28 .add 26 27,yM 29 0,yI 30 (.capSl (.t 29)),yB 31 .gtr 28 30] (.cond (.t 31) q21c22 .skip)
def q21r25:yW:=[
 yM 56 0,
 yM 57 8,
 yM 58 7,
 yB 59 .add 57 58,
 yI 60 (.slice (.sl 36) (.t 56) none (some (.t 59)) none),
 yM 0 60]
def q21r29:yW:=[
 yM 83 0,
 yM 6 83]
def zfb:ACode:=.seq (.reg q21r29) .ret
def q21c34:yX:=yq [yM 61 2,yM 62 0,yM 63 1,yM 64 7,yB 65 .add 63 64,yI 66 (.slice (.sl 36) (.t 62) (some (.t 65)) none none),yD 67 103 61 66,yu 68 67] (.cond (.t 68) (yq [yM 69 0,yM 70 1,yM 71 7,yB 72 .add 70 71,yI 73 (.slice (.sl 36) (.t 69) (some (.t 72)) none none),yM 74 0,yM 75 1,yI 76 (.slice (.sl 36) (.t 74) (some (.t 75)) none none),yI 77 (.copy 36 (.t 73) (.t 76))] (yq [yM 78 0,yM 79 1,yI 80 (.slice (.sl 36) (.t 78) (some (.t 79)) none none),yM 81 2,yI 82 (.copy 36 (.t 80) (.t 81))] zfb)) .skip)
def q21c41:yX:=.seq q21c34 (yq [yM 84 0,yM 85 8,yI 86 (.slice (.sl 36) (.t 84) (some (.t 85)) none none),yM 87 2,yI 88 (.copy 36 (.t 86) (.t 87))] (yq [yM 89 0,yM 90 1,yI 91 (.slice (.sl 36) (.t 89) (some (.t 90)) none none),yM 92 7,yD 93 104 91 92] (yq [yM 94 0,yM 6 94] .ret)))
def zc3:ACode:=.seq (.reg q21r25) q21c41
def z9p:ACode:=.seq q21c24 zc3
def q21c49:yX:=yq [yI 6 (.mv (.v .nilsl))] (yq [yM 10 0,yM 11 1,yI 12 (.slice (.sl 36) (.t 10) (some (.t 11)) none none)] (yq [yM 13 2,yZ 14 13,yM 7 14] (.seq (yq [yM 15 7,yJ 16 .eql 15 .i64 0] (.cond (.t 16) (yq [yM 17 0,yM 6 17] .ret) .skip)) (yq [yM 18 0,yZ 19 18,yM 8 19] (.seq (yq [yM 20 1,yM 21 8,yB 22 .eql 20 21] (.cond (.t 22) (yq [yM 23 0,yM 24 2,yI 25 (.app 36 (.t 23) (.t 24)),yM 6 25] .ret) .skip)) z9p)))))
attribute [go_sem] q21r25 q21r29
theorem q21ok:cFn TC 50=some (95,[.t 6],q21c49):=by kernel_rfl
def q22c9:yX:=yq [yI 2 (.mv (.v .nilsl))] (.seq (yq [yM 3 0,yI 4 (.bin .eql .slc (.t 3) (.v .nilsl))] (.cond (.t 4) (yq [yI 2 (.mv (.v .nilsl))] .ret) .skip)) (yq [yI 5 (.lit 36 []),yM 6 0,yI 7 (.app 36 (.t 5) (.t 6)),yM 2 7] .ret))
theorem q22ok:cFn TC 51=some (8,[.t 2],q22c9):=by kernel_rfl
def q23c22:yX:=yq [yK 2 .i64 0] (yq [yK 3 .i64 0] (.seq (yq [yM 6 0,yZ 7 6,yK 8 .i64 0] (.block 0 (.loop (yq [yB 9 .lss 8 7] (.seq (.cond (.t 9) .skip (.exit 0)) (.seq (.block 1 (yq [yN 10 1 6 8,yL 11 false 1 10,yM 5 11] (yq [yM 12 5,yM 13 3,yB 14 .neq 12 13] (.cond (.t 14) (yq [yM 15 5,yM 2 15] .ret) .skip)))) (.reg [yJ 16 .add 8 .i64 1,yM 8 16]))))))) (yq [yM 17 3,yM 2 17] .ret)))
theorem q23ok:cFn TC 100=some (18,[.t 2],q23c22):=by kernel_rfl
def q24c34:yX:=.seq (yq [yM 11 5] (.cond (.t 11) (.seq (yq [yM 12 6] (.cond (.t 12) (yq [yK 4 .i64 0] .ret) .skip)) (yq [yI 4 (.mv (.v (.int .i64 (-1))))] .ret)) .skip)) (.seq (yq [yM 13 6] (.cond (.t 13) (yq [yK 4 .i64 1] .ret) .skip)) (.seq (yq [yM 14 0,yM 15 1,yB 16 .lss 14 15] (.cond (.t 16) (yq [yI 4 (.mv (.v (.int .i64 (-1))))] .ret) .skip)) (.seq (yq [yM 17 0,yM 18 1,yB 19 .gtr 17 18] (.cond (.t 19) (yq [yK 4 .i64 1] .ret) .skip)) (yq [yK 4 .i64 0] .ret))))
def q24c37:yX:=yq [yK 4 .i64 0] (yq [yM 7 0,yC 8 136 7,yM 5 8] (yq [yM 9 1,yC 10 136 9,yM 6 10] q24c34))
theorem q24ok:cFn TC 101=some (20,[.t 4],q24c37):=by kernel_rfl
def q25c3:yX:=yq [yK 4 .i64 0] (yq [yM 5 0,yM 6 1,yD 7 137 5 6,yM 4 7] .ret)
theorem q25ok:cFn TC 102=some (8,[.t 4],q25c3):=by kernel_rfl
def q26c3:yX:=yq [yb 2 false] (yq [yM 3 0,yM 4 0,yB 5 .neq 3 4,yM 2 5] .ret)
theorem q26ok:cFn TC 136=some (6,[.t 2],q26c3):=by kernel_rfl
end
section
set_option maxRecDepth 10000
def q27r1:yW:=[
 yL 3 true 32 1,
 yI 4 (.build [(.bool false),(.int .u8 0),(.int .u8 0),(.int .u8 0),(.int .u8 0),(.int .u8 0),(.int .u8 0),(.int .u8 0),(.int .u8 0),(.int .u8 0),(.int .u8 0),(.int .u8 0),(.int .u8 0),(.int .u8 0),(.int .u8 0),(.int .u8 0),(.int .u8 0),(.int .u8 0),(.int .u8 0),(.int .u8 0),(.int .u8 0),(.int .u8 0),(.int .u8 0),(.int .u8 0),(.int .u8 0),(.int .u8 0),(.int .u8 0),(.int .u8 0),(.int .u8 0),(.int .u8 0),(.int .u8 0),(.int .u8 0),(.int .u8 0),.nilsl] [(0,1,(.v (.bool true))),(1,32,(.t 3))]),
 yx 5 4,
 yM 2 5]
def q27c3:yX:=yq [yx 1 0,yI 2 (.mv (.v .nilp))] (yq q27r1 .ret)
attribute [go_sem] q27r1
theorem q27ok:cFn TC 10=some (6,[.t 2],q27c3):=by kernel_rfl
def q28r21:yW:=[
 yM 60 8,
 yJ 61 .geq 60 .i64 0,
 yM 62 61,
 yV 63 62 true 8,
 yV 64 62 true 0,
 yG 65 62 true (.nilc (.t 64)),
 yT 66 62 true 33 65,
 yU 67 62 true false 1 66,
 yG 68 62 true (.lenSl (.t 67)),
 yG 69 62 true (.bin .lss .none (.t 63) (.t 68)),
 yQ 70 62 69,
 yM 71 70,
 yV 72 71 true 0,
 yG 73 71 true (.nilc (.t 72)),
 yT 74 71 true 33 73,
 ⟨some 75,some (71,true),.rd,.load false 1 (.t 74)⟩,
 yV 76 71 true 8,
 yG 77 71 true (.iaSl 36 (.t 75) (.t 76)),
 yT 78 71 true 0 77,
 yT 79 71 true 0 78,
 ⟨some 80,some (71,true),.rd,.load false 1 (.t 79)⟩,
 yT 81 71 true 0 3,
 yT 82 71 true 0 81,
 ⟨some 83,some (71,true),.rd,.load false 1 (.t 82)⟩,
 yG 84 71 true (.bin .eql .none (.t 80) (.t 83)),
 yQ 85 71 84]
def q28c33:yX:=yq [yM 52 5,yJ 53 .sub 52 .i64 1,yM 54 5,yJ 55 .add 54 .i64 1,yI 56 (.build [(.int .i64 0),(.int .i64 0)] [(0,1,(.t 53)),(1,1,(.t 55))]),yK 57 .i64 0] (.block 1 (.loop (yq [yJ 58 .lss 57 .i64 2] (.seq (.cond (.t 58) .skip (.exit 1)) (.seq (.block 2 (yq [yI 59 (.ixArr 2 false 1 (.t 56) (.t 57)),yM 8 59] (yq q28r21 (.cond (.t 85) (yq [yK 4 .i64 3] .ret) .skip)))) (.reg [yJ 86 .add 57 .i64 1,yM 57 86]))))))
def q28c35:yX:=yq [yK 4 .i64 2] .ret
def zfc:ACode:=.seq q28c33 q28c35
def q28c38:yX:=.seq (.block 0 (yq [yM 31 6,yM 30 31] (.cond (.t 30) (yq [yK 4 .i64 1] .ret) (yq [yM 33 0,yO 34 33,yF 35 33 34,yL 36 false 1 35,yZ 37 36,yJ 38 .geq 37 .i64 16,yM 32 38] (.cond (.t 32) (yq [yK 4 .i64 4] .ret) .skip))))) (yq [yM 39 0,yM 40 0,yO 41 40,yF 42 33 41,yR 43 false 1 42,yf 44 51 43,yM 45 5,yR 46 true 36 3,yC 47 52 46,yI 48 (.lit 36 [(.t 47)]),yc 49 50 44 45 48,yO 50 39,yF 51 33 50,yS 1 51 49] zfc)
def q28c40:yX:=.seq (yq [yM 9 0,yC 10 45 9,yM 11 10,yV 12 11 false 0,yG 13 11 false (.nilc (.t 12)),yT 14 11 false 1 13,⟨some 15,some (11,false),.rd,.load true 32 (.t 14)⟩,⟨some 16,some (11,false),.rd,.load true 36 (.t 3)⟩,yG 17 11 false (.call (.v (.fn 47 [])) [(.t 15),(.t 16)]),yG 18 11 false (.bin .neq .none (.t 17) (.v (.int .i64 0))),yP 19 11 18] (.cond (.t 19) (yq [yK 4 .i64 0] .ret) .skip)) (yq [yM 21 0,yO 22 21,yF 23 33 22,yR 24 false 1 23,yF 25 0 3,yR 26 true 33 25,yI 27 (.call (.v (.fn 48 [])) [(.t 24),(.t 26),(.v (.fn 49 []))]),yM 20 27,yE 28 0 20,yE 29 1 20,yM 5 28,yM 6 29] q28c38)
def q28c41:yX:=yq [yx 3 1,yK 4 .i64 0] q28c40
attribute [go_sem] q28r21
theorem zfd:cFn TC 14=some (87,[.t 4],q28c41):=by kernel_rfl
def q29c21:yX:=.seq (yq [yM 8 0,yO 9 8,yF 10 33 9,yL 11 false 1 10,yZ 12 11,yK 13 .i64 0] (.block 0 (.loop (yq [yB 14 .lss 13 12] (.seq (.cond (.t 14) .skip (.exit 0)) (.seq (.block 1 (yq [yN 15 36 11 13,yL 16 true 36 15,yI 5 (.alloc zZ1),yS 36 5 16] (.reg [yM 17 3,yF 18 0 5,yL 19 true 33 18,yI 20 (.lit 33 [(.t 19)]),yI 21 (.app 33 (.t 17) (.t 20)),yM 3 21]))) (.reg [yJ 22 .add 13 .i64 1,yM 13 22]))))))) (yq [yM 23 3,yM 2 23] .ret)
def q29c24:yX:=yq [yI 2 (.mv (.v .nilsl))] (.seq (yq [yM 6 0,yC 7 45 6] (.cond (.t 7) (yq [yI 2 (.mv (.v .nilsl))] .ret) .skip)) (yq [yI 3 (.mv (.v .nilsl))] q29c21))
theorem q29ok:cFn TC 29=some (24,[.t 2],q29c24):=by kernel_rfl
@[go_sem] def z11z:List AIns:=[
 yM 17 2,
 yL 18 true 36 3,
 yD 19 14 17 18,
 yJ 20 .neq 19 .i64 2,
 yM 21 20,
 yV 22 21 false 2,
 yU 23 21 false true 36 5,
 yG 24 21 false (.call (.v (.fn 14 [])) [(.t 22),(.t 23)]),
 yG 25 21 false (.bin .neq .none (.t 24) (.v (.int .i64 2))),
 yP 26 21 25,
 yM 27 26,
 yV 28 27 false 2,
 yU 29 27 false true 36 3,
 yG 30 27 false (.call (.v (.fn 14 [])) [(.t 28),(.t 29)]),
 yG 31 27 false (.bin .neq .none (.t 30) (.v (.int .i64 1))),
 yP 32 27 31,
 yM 33 32,
 yV 34 33 false 2,
 yU 35 33 false true 36 4,
 yG 36 33 false (.call (.v (.fn 14 [])) [(.t 34),(.t 35)]),
 yG 37 33 false (.bin .neq .none (.t 36) (.v (.int .i64 3))),
 yP 38 33 37]
@[go_sem] def z120:List AIns:=[
 yb 0 false]
def z11v:ACode:=.seq (.reg z120) .ret
def z11w:ACode:=.cond (.t 38) z11v .skip
def z11x:ACode:=.seq (.reg z11z) z11w
@[go_sem] def z121:List AIns:=[
 yM 39 2,
 yC 40 29 39,
 yM 6 40]
@[go_sem] def z11y:List AIns:=[
 yM 41 6,
 yZ 42 41,
 yJ 43 .eql 42 .i64 3,
 yM 44 43,
 yV 45 44 true 6,
 yG 46 44 true (.iaSl 33 (.t 45) (.v (.int .i64 0))),
 ⟨some 47,some (44,true),.rd,.load true 33 (.t 46)⟩,
 yT 48 44 true 0 4,
 ⟨some 49,some (44,true),.rd,.load true 33 (.t 48)⟩,
 yG 50 44 true (.bin .eql (.agg ([(.i .i64)]++(List.replicate 32 (.i .u8)++ []))) (.t 47) (.t 49)),
 yQ 51 44 50,
 yM 52 51,
 yV 53 52 true 6,
 yG 54 52 true (.iaSl 33 (.t 53) (.v (.int .i64 1))),
 ⟨some 55,some (52,true),.rd,.load true 33 (.t 54)⟩,
 yT 56 52 true 0 3,
 ⟨some 57,some (52,true),.rd,.load true 33 (.t 56)⟩,
 yG 58 52 true (.bin .eql (.agg ([(.i .i64)]++(List.replicate 32 (.i .u8)++ []))) (.t 55) (.t 57)),
 yQ 59 52 58,
 yM 60 59,
 yV 61 60 true 6,
 yG 62 60 true (.iaSl 33 (.t 61) (.v (.int .i64 2))),
 ⟨some 63,some (60,true),.rd,.load true 33 (.t 62)⟩,
 yT 64 60 true 0 5,
 ⟨some 65,some (60,true),.rd,.load true 33 (.t 64)⟩,
 yG 66 60 true (.bin .eql (.agg ([(.i .i64)]++(List.replicate 32 (.i .u8)++ []))) (.t 63) (.t 65)),
 yQ 67 60 66,
 yM 68 67,
 yG 69 68 true (.build zZ0 []),
 ⟨some 70,some (68,true),.ef,.call (.v (.fn 10 [])) [(.t 69)]⟩,
 ⟨some 71,some (68,true),.rd,.load true 36 (.t 3)⟩,
 yG 72 68 true (.call (.v (.fn 14 [])) [(.t 70),(.t 71)]),
 yG 73 68 true (.bin .eql .none (.t 72) (.v (.int .i64 0))),
 yQ 74 68 73,
 yM 0 74]
def z11t:ACode:=.seq (.reg z11y) .ret
def zoj:ACode:=.seq (.reg z121) z11t
def z11u:ACode:=.seq z11x zoj
def q2ac10:yX:=yq [yF 30 3 2,yL 31 false 1 30,yJ 32 .rem 31 .u8 8,yJ 33 .eql 32 .u8 0,yM 34 33,yT 35 34 true 1 6,yU 36 34 true false 1 35,yG 37 34 true (.lenStr (.t 36)),yG 38 34 true (.bin .gtr .none (.t 37) (.v (.int .i64 0))),yQ 39 34 38] (.cond (.t 39) (yq [yF 40 1 6,yL 41 false 1 40,yI 42 (.conv .bytes (.t 41)),yM 8 42] (yq [yM 43 8,yF 44 2 2,yL 45 false 1 44,yY 46 .i64 45,yM 47 8,yZ 48 47,yB 49 .rem 46 48,yN 50 1 43 49,yL 51 false 1 50,yJ 52 .xor 51 .u8 1,yN 53 1 43 49,yS 1 53 52] (.reg [yM 54 8,yI 55 (.conv .str (.t 54)),yF 56 1 6,yS 1 56 55]))) .skip)
def q2ac14:yX:=yq [yM 20 1,yF 21 2 2,yR 22 false 1 21,yY 23 .i64 22,yJ 24 .rem 23 .i64 8,yR 25 true 33 5,⟨some 26,none,.pu,.call (.v (.fn 44 [])) [(.t 25)]⟩,⟨some 27,none,.pu,.call (.v (.fn 43 [])) [(.t 20),(.t 24),(.t 26)]⟩,yM 19 27,yE 28 0 19,yE 29 1 19,⟨some 6,none,.ef,.alloc [(.int .i64 0),(.str []),.nilsl]⟩,yS 3 6 28,yM 7 29] (.seq q2ac10 (yq [yL 57 true 33 5,yL 58 true 3 6,yI 59 (.build zZ1 [(0,33,(.t 57)),(33,3,(.t 58))]),yS 36 4 59] .ret))
def q2ac16:yX:=yq [yx 2 0,yI 4 (.alloc zZ1)] (yq [yF 9 0 2,yL 10 false 1 9,yY 11 .i64 10,yJ 12 .rem 11 .i64 6,yI 13 (.bin .add .none (.v (.int .i64 1)) (.t 12)),yF 14 1 2,yL 15 false 1 14,yJ 16 .rem 15 .u8 3,yI 17 (.build zZ0 [(0,1,(.t 16)),(1,1,(.v (.int .u8 7)))]),yI 18 (.build ((.int .i64 0)::zZ0) [(0,1,(.t 13)),(1,32,(.t 17))]),yI 5 (.alloc ((.int .i64 0)::zZ0)),yS 33 5 18] q2ac14)
theorem q2aok:cFn TC 12=some (60,[.c 4 true 36],q2ac16):=by kernel_rfl
def q2bc14:yX:=yq [yM 19 0,yO 20 19,yF 21 33 20,yR 22 false 1 21,yM 23 5,yJ 24 .sub 23 .i64 1,yN 25 36 22 24,yF 26 0 25,yF 27 0 26,yR 28 false 1 27,yM 29 0,yO 30 29,yF 31 33 30,yR 32 false 1 31,yM 33 5,yN 34 36 32 33,yF 35 0 34,yF 36 0 35,yR 37 false 1 36,yB 38 .eql 28 37] (.cond (.t 38) (yq [yM 39 0,yO 40 39,yF 41 33 40,yR 42 false 1 41,yM 43 5,yJ 44 .sub 43 .i64 1,yN 45 36 42 44,yR 46 true 36 45,yf 47 52 46,yM 48 0,yO 49 48,yF 50 33 49,yR 51 false 1 50,yM 52 5,yN 53 36 51 52,yR 54 true 36 53,yC 55 52 54,yS 36 2 47,yS 36 3 55,yb 4 true] .ret) .skip)
def q2bc24:yX:=.seq (yq [yM 6 0,yC 7 45 6] (.cond (.t 7) (yq [yR 8 true 36 2,⟨some 9,none,.rd2,.load true 36 (.t 3)⟩,⟨none,none,.ef2,.store 36 (.t 2) (.t 8)⟩,yS 36 3 9,yb 4 false] .ret) .skip)) (.seq (yq [yK 5 .i64 1] (.block 0 (.loop (.seq (yq [yM 10 5,yM 11 0,yO 12 11,yF 13 33 12,yL 14 false 1 13,yZ 15 14,yB 16 .lss 10 15] (.cond (.t 16) .skip (.exit 0))) (.seq (.block 1 q2bc14) (.reg [yM 17 5,yJ 18 .add 17 .i64 1,yM 5 18])))))) (yq [yR 56 true 36 2,⟨some 57,none,.rd2,.load true 36 (.t 3)⟩,⟨none,none,.ef2,.store 36 (.t 2) (.t 56)⟩,yS 36 3 57,yb 4 false] .ret))
def q2bc25:yX:=yq [yI 2 (.alloc zZ1),yI 3 (.alloc zZ1),yb 4 false] q2bc24
theorem q2bok:cFn TC 31=some (58,[.c 2 true 36,.c 3 true 36,.t 4],q2bc25):=by kernel_rfl
def q2cc11:yX:=yq [yx 3 1,yb 4 false] (.seq (yq [yM 7 0,yC 8 45 7] (.cond (.t 8) (yq [yb 4 false] .ret) .skip)) (yq [yM 10 0,yO 11 10,yF 12 33 11,yR 13 false 1 12,yR 14 true 33 3,yI 15 (.call (.v (.fn 48 [])) [(.t 13),(.t 14),(.v (.fn 49 []))]),yM 9 15,yE 16 0 9,yE 17 1 9,yM 5 16,yM 6 17] (yq [yM 18 6,yM 4 18] .ret)))
theorem q2cok:cFn TC 30=some (19,[.t 4],q2cc11):=by kernel_rfl
def q2dc21:yX:=.seq (yq [yM 8 0,yO 9 8,yF 10 33 9,yL 11 false 1 10,yZ 12 11,yK 13 .i64 0] (.block 0 (.loop (yq [yB 14 .lss 13 12] (.seq (.cond (.t 14) .skip (.exit 0)) (.seq (.block 1 (yq [yN 15 36 11 13,yL 16 true 36 15,yI 5 (.alloc zZ1),yS 36 5 16] (.reg [yM 17 3,yL 18 true 36 5,yC 19 52 18,yI 20 (.lit 36 [(.t 19)]),yI 21 (.app 36 (.t 17) (.t 20)),yM 3 21]))) (.reg [yJ 22 .add 13 .i64 1,yM 13 22]))))))) (yq [yM 23 3,yM 2 23] .ret)
def q2dc24:yX:=yq [yI 2 (.mv (.v .nilsl))] (.seq (yq [yM 6 0,yC 7 45 6] (.cond (.t 7) (yq [yI 2 (.mv (.v .nilsl))] .ret) .skip)) (yq [yI 3 (.mv (.v .nilsl))] q2dc21))
theorem q2dok:cFn TC 46=some (24,[.t 2],q2dc24):=by kernel_rfl
def q2er6:yW:=[
 yM 5 0,
 yO 6 5,
 yF 7 1 6,
 yR 8 true 32 7,
 yM 9 0,
 yf 10 46 9,
 yI 11 (.build [(.bool false),(.int .u8 0),(.int .u8 0),(.int .u8 0),(.int .u8 0),(.int .u8 0),(.int .u8 0),(.int .u8 0),(.int .u8 0),(.int .u8 0),(.int .u8 0),(.int .u8 0),(.int .u8 0),(.int .u8 0),(.int .u8 0),(.int .u8 0),(.int .u8 0),(.int .u8 0),(.int .u8 0),(.int .u8 0),(.int .u8 0),(.int .u8 0),(.int .u8 0),(.int .u8 0),(.int .u8 0),(.int .u8 0),(.int .u8 0),(.int .u8 0),(.int .u8 0),(.int .u8 0),(.int .u8 0),(.int .u8 0),(.int .u8 0),.nilsl] [(0,1,(.v (.bool true))),(1,32,(.t 8)),(33,1,(.t 10))]),
 yx 12 11,
 yM 2 12]
def q2ec9:yX:=yq [yI 2 (.mv (.v .nilp))] (.seq (yq [yM 3 0,yC 4 45 3] (.cond (.t 4) (yq [yI 2 (.mv (.v .nilp))] .ret) .skip)) (yq q2er6 .ret))
attribute [go_sem] q2er6
theorem q2eok:cFn TC 13=some (13,[.t 2],q2ec9):=by kernel_rfl
def q2fc3:yX:=yq [yb 2 false] (yq [yM 3 0,yI 4 (.bin .eql .ptr (.t 3) (.v .nilp)),yM 5 4,yV 6 5 false 0,yG 7 5 false (.nilc (.t 6)),yT 8 5 false 0 7,yU 9 5 false false 1 8,yG 10 5 false (.un .not (.t 9)),yP 11 5 10,yM 2 11] .ret)
theorem q2fok:cFn TC 45=some (12,[.t 2],q2fc3):=by kernel_rfl
def q2gc3:yX:=yq [yx 2 0,yx 3 1,yK 4 .i64 0] (yq [yF 5 0 2,yF 6 0 5,yR 7 false 1 6,yF 8 0 3,yR 9 false 1 8,yD 10 101 7 9,yF 11 0 2,yF 12 1 11,yI 13 (.slice (.arr 32 1) (.t 12) none none none),yF 14 1 3,yI 15 (.slice (.arr 32 1) (.t 14) none none none),yD 16 102 13 15,yI 17 (.lit 1 [(.t 10),(.t 16)]),yC 18 100 17,yM 4 18] .ret)
theorem q2gok:cFn TC 49=some (19,[.t 4],q2gc3):=by kernel_rfl
def q2hc5:yX:=yq [yx 1 0,yI 2 (.alloc zZ1)] (yq [yF 3 33 1,yF 4 2 3,yL 5 false 1 4,yC 6 105 5,yF 7 33 1,yF 8 2 7,yS 1 8 6] (yq [yL 9 true 36 1,yS 36 2 9] .ret))
theorem q2hok:cFn TC 52=some (10,[.c 2 true 36],q2hc5):=by kernel_rfl
end
section
section
variable {C:Ctx} {Z:Places} {O:Store} {w:World}
theorem znp:∀(s:List UInt8) (b o:Nat) (acc:ByteArray),Seg w b o (s.map fun x=>Value.int .u8 x.toNat)->(Extern.Bytes.loadBytes ⟨b,o,none⟩ s.length acc).run C.P w=.ok ⟨(acc.data.toList++s).toArray⟩ w
 | [],b,o,acc,_=>by
  show Result.ok acc w=_
  simp
 |x::s,b,o,acc,h=>by
  have hc:=h.cell (j:=0) (v:=Value.int .u8 x.toNat) (by simp)
  have hl:(load ⟨b,o,none⟩).run C.P w=.ok (Value.int .u8 x.toNat) w:=by
   rw [run_load C.P w,show o=o+0 from rfl,hc]
  have ht:Seg w b (o+1) (s.map fun x=>Value.int .u8 x.toNat):=by
   have:=h.sub 1 s.length (by simp)
   rw [List.take_of_length_le (by simp)]at this
   simpa using this
  have ih:=znp s b (o+1) (acc.push (Int.toNat (x.toNat:Int)).toUInt8) ht
  simp only [List.length_cons,Extern.Bytes.loadBytes,Sem.run_bind,hl,Result.andThen_ok]
  rw [show (⟨b,o,none⟩:Addr).add 1=⟨b,o+1,none⟩from rfl,ih]
  simp
theorem zhx:∀{a:List UInt8} {vals:List Value},VRs Z w (a.map B8) vals->vals=a.map fun x=>Value.int .u8 x.toNat
 | [],vals,h=>by simpa [VRs]using h
 |x::a,vals,h=>by
  simp only [List.map_cons,VRs]at h
  obtain⟨v,vs,rfl,⟨h1,_⟩,h2⟩:=h
  simp only [B8,VR]at h1
  rw [h1,zhx h2]
  rfl
theorem znn(hR:Rel C Z O w){x:AV}{v:Value}{a:List UInt8}(hx:VR Z w x v)(h:z26 O x=some (zy a)):(Extern.Bytes.bytesOf v).run C.P w=.ok ⟨a.toArray⟩ w:=by
 obtain⟨ad,cap,rfl,hm,_⟩:=z5d hR hx h
 have hl:(zy a).length=a.length:=by simp [zy]
 by_cases h0:a=[]
 ·subst h0
  cases ad with
  |none=>rfl
  |some ad=>rfl
 ·obtain⟨b,o,vals,rfl,hs,hv⟩:=hm (by rw [hl];simpa using h0)
  rw [zay]at hv
  have e:vals=a.map fun x=>Value.int .u8 x.toNat:=zhx hv
  subst e
  rw [hl]
  have:=znp (C:=C) a b o .empty hs
  show (Extern.Bytes.loadBytes ⟨b,o,none⟩ a.length .empty).run C.P w=_
  rw [this]
  simp
end
theorem zpi(O:Store)(x y:AV)(a b:List UInt8)(hx:z26 O x=some (zy a))(hy:z26 O y=some (zy b)):ACallsTo TC 137 [x,y] O (.int .i64 (Lib.compareBytes a b)) O:=by
 intro Z w cargs hR ha
 right
 simp only [VRt]at ha
 obtain⟨vx,_,rfl,h1,vy,_,rfl,h2,rfl⟩:=ha
 refine⟨.int .i64 (Lib.compareBytes a b),Z,w,?_,Step.refl _ _,hR,by simp [VR]⟩
 rw [run_callFunc_extern (P:=TC.P) Tryz.func137 (by kernel_rfl) (by kernel_rfl) (by kernel_rfl) (e:=Extern.BytealgCompare.compare) (by kernel_rfl)]
 have e1:=znn (C:=TC) hR h1 hx
 have e2:=znn (C:=TC) hR h2 hy
 have:(Extern.BytealgCompare.compare #[vx,vy]).run TC.P w=.ok (.int .i64 (Lib.compareBytes a b)) w:=by
  show (do pure (goInt (Extern.BytealgCompare.cmp (<-Extern.Bytes.bytesOf vx) (<-Extern.Bytes.bytesOf vy)):Value):Sem Value).run TC.P w=_
  simp only [Sem.run_bind,e1,e2,Result.andThen_ok,Sem.run_pure,Lib.cmp_eq]
  rfl
 rw [show [vx,vy].toArray= #[vx,vy]from rfl,this]
 rfl
attribute [local irreducible] ACallsTo ACallsP
theorem zri(O:Store)(x y:AV)(a b:List UInt8)(hx:∀τ,z26 (O++τ) x=some (zy a))(hy:∀τ,z26 (O++τ) y=some (zy b)):ACallsTo TC 102 [x,y] O (.int .i64 (Lib.compareBytes a b)) O:=by
 have hC:=fun τ=>zpi (O++τ) x y a b (hx τ) (hy τ)
 have hC0:=hC []
 rw [List.append_nil]at hC0
 refine ACallsTo.of_body q25ok (by simp) fun hw _=> ?_
 repeat' (first|apply zA rfl|(apply zd_ rfl<;>intro ht<;>try omega)|((first|apply zB rfl|(apply callW.mk_pu;(first|exact(fun _=>hC0)|exact(fun _=>hC _)))|(apply callW.za;(first|exact(hC0)|exact(hC _)))|(apply zG<;>intro ht))<;>try simp (disch:=first|omega|simp only [lz];try omega) only [go_sem]))
 exact DownV.same hw z2b
end
section
theorem z100{P:Program}(w:World)(tS tR e:TypeId)(ht:P.underlying tS=some (.slice e))(size:Nat)(hz:∀w,(Go.sizeOf e).run P w=.ok size w)
  (a b:Addr) (la ca lb cb:Nat) (hne:a.block ≠ b.block) (tA tB:TypeId) (kA kB:Nat)
  (hsa:w.shape? a.block=some (tA,kA)) (hsb:w.shape? b.block=some (tB,kB)) (hkA:kA ≠ 0)
  (hfb:w.frozen? b=false) (hfe:w.frozen? { block:=b.block,off:=kB }=false):
  (Extern.SlicesOverlaps.overlaps #[tS,tS] #[tR] #[.slice (some a) la ca,.slice (some b) lb cb]).run P w=.ok (.bool false) w:=by
 have hnb:(a.block !=b.block)=true:=by simpa using hne
 have hnb':(a.block==b.block)=false:=by simpa using hne
 change Sem.run P (α:=Value) (do
  let some t:=(#[tS,tS]:Array TypeId)[0]?|stuck "slices.overlaps: no parameter types"
  let .slice elem<-underlying t|stuck "slices.overlaps: slice type expected"
  let size<-sizeOf elem
  match (some a:Option Addr),(some b:Option Addr)with
  |some a,some b=>
   if la=0 \/lb=0 \/size=0 then pure (Value.bool false)
   else if a.block !=b.block && (<-frozen a) && (<-frozen b)then unsupported .addressObserved
   else do
    if a.block !=b.block then do
     noView a;noView b
     if<-mayBeOne a b then return Value.bool ((<-choose (.extern "sameAddr.stringBytes" 2))==1)
    pure (Value.bool (a.block==b.block && a.off<b.off+lb*size && b.off<a.off+la*size))
  | _,_=>pure (Value.bool false)) w=_
 by_cases h0:la=0 \/lb=0 \/size=0
 ·simp [run_underlying ht,hz,h0]
 ·cases kA with
  |zero=>exact absurd rfl hkA
  |succ kA=>
   cases hfa:w.frozen? a with
   |false=>
    cases hfa2:w.frozen? { block:=a.block,off:=kA+1 }<;>
     simp [run_underlying ht,hz,h0,hnb,hnb',frozen,noView,viewAt,mayBeOne,stringish,shape,Sem.run,hsa,hsb,hfb,hfe,hfa,hfa2]
   |true=>
    simp [run_underlying ht,hz,h0,hnb,hnb',frozen,noView,viewAt,mayBeOne,stringish,shape,Sem.run,hsa,hsb,hfb,hfe,hfa]
theorem zx2(O:Store)(es:List (List AV))(ex:Bool)(r off len:Nat)(lim:Option Nat)(o:AObj)(hr:O[r]? =some (some o))(he:es ≠ []):
  ACallsTo TC 103 [.vsl 36 es ex,.sl r off len lim 36] O (.bool false) O:=by
 intro Z w cargs hR ha
 right
 simp only [VRt,VR]at ha
 obtain⟨vx,_,rfl,h1,vy,_,rfl,⟨fl,pl,b2,o2,cap2,hpl,hez,rfl,hso⟩,rfl⟩:=ha
 rcases h1 with⟨h1,_⟩| ⟨b,oo,cap,vals,rfl,hcap,_,himm,hseg,hes,hvs⟩
 ·exact absurd h1 he
 obtain⟨pl',hpl',hok⟩:=hR.alive r o hr
 rw [hpl]at hpl'
 simp only [Option.some.injEq,Prod.mk.injEq]at hpl'
 obtain⟨rfl,rfl⟩:=hpl'
 obtain⟨c,ty,fz,pre,mid,post,q1,q2,q3,q4,q5,q6⟩:=hok.ex
 have hb2:=hso.blk
 subst hb2
 have hole:=hso.ole
 rw [hez]at q6
 have hfz:∀k,k<=c.size->w.frozen? ⟨pl.b,k,none⟩=false:=fun k hk=>by
  simp only [World.frozen?,q1]
  exact q6.1 k (by omega)
 have hne:b ≠ pl.b:=fun e=>himm.2 r pl hpl e.symm
 obtain⟨c2,ty2,fz2,pre2,post2,k1,k2,k3⟩:=hseg
 have hvl:0<vals.length:=by
  cases es with
  |nil=>exact absurd rfl he
  |cons e es=>
   simp only [VRss]at hvs
   obtain⟨v1,v2,rfl,hv1,_⟩:=hvs
   have:=hv1.length
   have h36:=hes e (by simp)
   rw [List.length_append]
   omega
 have hc2:c2.size ≠ 0:=by
  rw [<-Array.length_toList,k2]
  simp only [List.length_append]
  omega
 refine⟨.bool false,Z,w,?_,Step.refl _ _,hR,by simp [VR]⟩
 rw [run_callFunc_extern (P:=TC.P) Tryz.func103 (by kernel_rfl) (by kernel_rfl) (by kernel_rfl) (e:=Extern.SlicesOverlaps.overlaps #[39,39] #[4]) (by kernel_rfl)]
 rw [show [Value.slice (some ⟨b,oo,none⟩) es.length cap,Value.slice (some ⟨pl.b,o2,none⟩) len cap2].toArray= #[.slice (some ⟨b,oo,none⟩) es.length cap,.slice (some ⟨pl.b,o2,none⟩) len cap2]from rfl,
  z100 (P:=TC.P) w 39 4 31 Tryz.underlying39 36 Tryz.sizeOf31 ⟨b,oo,none⟩ ⟨pl.b,o2,none⟩ es.length cap len cap2 hne ty2 ty c2.size c.size (by simp [World.shape?,k1]) (by simp [World.shape?,q1]) hc2 (hfz o2 (by rw [q4];exact hole)) (hfz c.size (Nat.le_refl _))]
 rfl
end
section
def InsP(O:Store)(r:Nat)(es:List (List AV))(i:Nat)(e:List AV)(v:AV)(O':Store):Prop:=
 ∃q,v=.sl q 0 (es.length+1) none 36/\ O'[q]? =some (some (es.take i++e::es.drop i))/\ O.length<=q/\ ∀j,j<O.length->j ≠ r->O'[j]? =O[j]?
theorem zuv{z:List AV}(hi:i<es.length):
  List.take (i+1) (es++ [z])++(List.take (es.length+1-(i+1)) (List.drop i (es++ [z]))++List.drop (i+1+min (List.drop i (es++ [z])).length (es.length+1-(i+1))) (es++ [z]))=es.take (i+1)++es.drop i:=by
 have d:List.drop i (es++ [z])=es.drop i++ [z]:=List.drop_append_of_le_length (by omega)
 have l:(es.drop i).length=es.length-i:=List.length_drop
 have a1:List.take (i+1) (es++ [z])=es.take (i+1):=List.take_append_of_le_length (by omega)
 have a2:List.take (es.length+1-(i+1)) (es.drop i++ [z])=es.drop i:=by rw [List.take_append_of_le_length (by rw [l];omega)];exact List.take_of_length_le (by rw [l];omega)
 have a3:List.drop (i+1+min (es.drop i++ [z]).length (es.length+1-(i+1))) (es++ [z])=[]:=List.drop_of_length_le (by rw [List.length_append,List.length_append,l];simp only [List.length_cons,List.length_nil];omega)
 rw [d,a1,a2,a3,List.append_nil]
theorem zuw{e:List AV}(hi:i<es.length):
  List.take i (es.take (i+1)++es.drop i)++e::List.drop (i+min 1 (es.length+1-i)) (es.take (i+1)++es.drop i)=es.take i++e::es.drop i:=by
 have l:(es.take (i+1)).length=i+1:=by rw [List.length_take];omega
 have b1:List.take i (es.take (i+1)++es.drop i)=es.take i:=by rw [List.take_append_of_le_length (by omega),List.take_take,Nat.min_eq_left (by omega)]
 have b2:min 1 (es.length+1-i)=1:=Nat.min_eq_left (by omega)
 have b3:List.drop (i+1) (es.take (i+1)++es.drop i)=es.drop i:=List.drop_left' l
 rw [b1,b2,b3]
theorem zux{z e:List AV}(hi:i<es.length):
  List.take (i+1) (List.take i (List.take i es++List.replicate (es.length+1-i) z)++e::List.drop (i+min 1 (es.length+1-i)) (List.take i es++List.replicate (es.length+1-i) z))++
   (List.drop i es++List.drop (i+1+min (List.drop i es).length (i+(es.length+1-i)-(i+1))) (List.take i (List.take i es++List.replicate (es.length+1-i) z)++e::List.drop (i+min 1 (es.length+1-i)) (List.take i es++List.replicate (es.length+1-i) z)))=es.take i++e::es.drop i:=by
 have l:(es.take i).length=i:=by rw [List.length_take];omega
 have l2:(es.drop i).length=es.length-i:=List.length_drop
 have b2:min 1 (es.length+1-i)=1:=Nat.min_eq_left (by omega)
 have t1:List.take i (List.take i es++List.replicate (es.length+1-i) z)=es.take i:=List.take_left' l
 rw [b2,t1,l2]
 have xl:(List.drop (i+1) (List.take i es++List.replicate (es.length+1-i) z)).length=es.length-i:=by rw [List.length_drop,List.length_append,l,List.length_replicate];omega
 generalize List.drop (i+1) (List.take i es++List.replicate (es.length+1-i) z)=X at*
 have t2:List.take (i+1) (es.take i++e::X)=es.take i++ [e]:=by
  rw [show es.take i++e::X=(es.take i++ [e])++X by simp]
  exact List.take_left' (by rw [List.length_append,l];rfl)
 have t3:List.drop (i+1+min (es.length-i) (i+(es.length+1-i)-(i+1))) (es.take i++e::X)=[]:=List.drop_of_length_le (by rw [List.length_append,l,List.length_cons,xl];omega)
 rw [t2,t3,List.append_nil,List.append_assoc]
 rfl
attribute [local irreducible] ACallsTo ACallsP z9p zc3 zfb
theorem ins_b2(O:Store)(r q:Nat)(es:List (List AV))(i c:Nat)(e:List AV)(ex:Bool)(τ:Store)(he:e.length=36)(hi:i<es.length)(hl:es.length<1000000)(hc:es.length+1<=c)
  (hq:τ[q]? =some (some (es++ [List.replicate 36 .any]))) (hqs:O.length<=q) (hst:∀j,j<O.length->j ≠ r->τ[j]? =O[j]?)
  (J:Env) (q0:J 0=.sl q 0 es.length (some c) 36) (q1:J 1=.int .i64 i) (q2:J 2=.vsl 36 [e] ex) (q7:J 7=.int .i64 1) (q8:J 8=.int .i64 es.length):
  zW TC 95 O.length zc3 (z5t [.t 6] (InsP O r es i e)) J τ:=by
 have hd:=slen hq
 have hO:=fun lim off len=>zx2 τ [e] ex q off len lim (es++ [List.replicate 36 .any]) hq (by simp)
 unfold zc3
 have e1:((es.length:Int)+1).toNat=es.length+1:=by omega
 have e2:((i:Int)+1).toNat=i+1:=by omega
 have w1:=fun z=>zuv (z:=z) hi
 have w2:=zuw (e:=e) hi
 repeat' (first|apply zA rfl|(apply zd_ rfl<;>intro ht<;>try omega)|((first|apply zB rfl|(apply callW.mk_pu;exact(fun _=>hO _ _ _))|(apply callW.za;exact(hO _ _ _))|(apply zG<;>intro ht))<;>try simp (disch:=first|omega|simp only [lz,lQt,lQd,List.length_replicate];try omega) only [go_sem,q0,q1,q2,q7,q8,hq,e1,e2,w1,w2,Nat.sub_zero]))
 generalize hW:es.take i++e::es.drop i=W at*
 have hWl:W.length=es.length+1:=by rw [<-hW,List.length_append,List.length_cons,List.length_take,List.length_drop];omega
 refine zW.unlim (t:=0) (r:=q) (off:=0) (len:=es.length+1) (c:=c) (esz:=36) (o:=W) (by simp only [go_sem]) (by rw [z2a hd]) (by omega) ?_
 unfold zfb
 repeat' (first|apply zA rfl|(apply zd_ rfl<;>intro ht<;>try omega)|((first|apply zB rfl|(apply zG<;>intro ht))<;>try simp (disch:=first|omega|simp only [lz,lQt,lQd,List.length_replicate];try omega) only [go_sem]))
 refine⟨q,rfl,?_,hqs,fun j hj hjr=> ?_⟩
 ·rw [z2a hd,hW]
 ·rw [z1h (by omega)];exact hst j hj hjr
theorem ins_b1(O:Store)(r:Nat)(es:List (List AV))(i:Nat)(e:List AV)(ex:Bool)(he:e.length=36)(hi:i<es.length)(hl:es.length<1000000)(hr:O[r]? =some (some es))
  (J:Env) (q0:J 0=.sl r 0 es.length (some es.length) 36) (q1:J 1=.int .i64 i) (q2:J 2=.vsl 36 [e] ex) (q7:J 7=.int .i64 1) (q8:J 8=.int .i64 es.length):
  zW TC 95 O.length z9p (z5t [.t 6] (InsP O r es i e)) J O:=by
 have hd:=slen hr
 have e1:((es.length:Int)+1-i).toNat=es.length+1-i:=by omega
 have e2:((i:Int)+1).toNat=i+1:=by omega
 unfold z9p
 repeat' (first|apply zA rfl|(apply zd_ rfl<;>intro ht<;>try omega)|((first|apply zB rfl|(apply zG<;>intro ht))<;>try simp (disch:=first|omega|simp only [lz,lQt,lQd,List.length_replicate];try omega) only [go_sem,q0,q1,q2,q7,q8,hr,e1,e2,Nat.sub_zero]))
 refine⟨O.length,by rw [show i+(es.length+1-i)=es.length+1 by omega],?_,Nat.le_refl _,fun j hj _=>gapp hj⟩
 rw [z18 (Nat.le_refl _),Nat.sub_self,List.getElem?_cons_zero,zux hi]
theorem zps(O:Store)(r:Nat)(es:List (List AV))(i:Nat)(e:List AV)(ex:Bool)(he:e.length=36)(hi:i<=es.length)(hl:es.length<1000000)(hr:O[r]? =some (some es)):
  ACallsP TC 50 [.sl r 0 es.length none 36,.int .i64 i,.vsl 36 [e] ex] O (InsP O r es i e):=by
 refine ACallsP.of_keep q21ok (by simp) ?_
 by_cases hin:i=es.length
 ·subst hin
  repeat' (first|apply zA rfl|(apply zd_ rfl<;>intro ht<;>try omega)|((first|apply zB rfl|(apply zG<;>intro ht))<;>try simp (disch:=first|omega|simp only [lz,lQt,lQd,List.length_replicate];try omega) only [go_sem,hr,Nat.sub_self]))
  refine⟨O.length,rfl,?_,Nat.le_refl _,fun j hj hjr=> ?_⟩
  ·rw [z18 (by simp),List.length_set,Nat.sub_self];simp
  ·rw [gapp (by simpa using hj),z1h (by omega)]
 ·have hi':i<es.length:=by omega
  have hne:¬(i:Int)=es.length:=by omega
  repeat' (first|apply zA rfl|(apply zd_ rfl<;>intro ht<;>try omega)|((first|apply zB rfl|(apply zG<;>intro ht))<;>try simp (disch:=first|omega|simp only [lz,lQt,lQd,List.length_replicate];try omega) only [go_sem,hne]))
  refine zW.limit (t:=0) (r:=r) (off:=0) (len:=es.length) (esz:=36) (by simp only [go_sem]) fun c hc=> ?_
  by_cases hcn:c=es.length
  ·subst hcn
   exact ins_b1 O r es i e ex he hi' hl hr _ (by simp only [go_sem]) (by simp only [go_sem]) (by simp only [go_sem]) (by simp only [go_sem];try rfl) (by simp only [go_sem])
  ·refine zW.widen (t:=0) (r:=r) (len:=es.length) (c:=c) (esz:=36) (m:=1) (o:=es) (by simp only [go_sem]) hr rfl (by omega) ?_
   have hB:=fun J q0 q1 q2 q7 q8=>ins_b2 O r O.length es i c e ex (O.set r none++ [some (es++List.replicate 1 (List.replicate 36 .any))]) he hi' hl (by omega) (by rw [z18 (by simp),List.length_set,Nat.sub_self];rfl) (Nat.le_refl _) (fun j hj hjr=>by rw [gapp (by simpa using hj),z1h (by omega)]) J q0 q1 q2 q7 q8
   generalize (O.set r none++ [some (es++List.replicate 1 (List.replicate 36 .any))])=τ at*
   have hgt:¬(es.length:Int)+1>c:=by omega
   unfold z9p
   repeat' (first|apply zA rfl|(apply zd_ rfl<;>intro ht<;>try omega)|((first|apply zB rfl|(apply zG<;>intro ht))<;>try simp (disch:=first|omega|simp only [lz,lQt,lQd,List.length_replicate];try omega) only [go_sem]))
   exact hB _ (by simp only [go_sem]) (by simp only [go_sem]) (by simp only [go_sem]) (by simp only [go_sem];try rfl) (by simp only [go_sem])
theorem zpr(O:Store)(e:List AV)(ex:Bool)(he:e.length=36):
  ACallsP TC 50 [.nilsl,.int .i64 0,.vsl 36 [e] ex] O (fun v O'=>v=.sl O.length 0 1 none 36/\ O'=O++ [some [e]]):=by
 refine ACallsP.of_keep q21ok (by simp) ?_
 repeat' (first|apply zA rfl|(apply zd_ rfl<;>intro ht<;>try omega)|((first|apply zB rfl|(apply zG<;>intro ht))<;>try simp (disch:=first|omega|simp only [lz,lQt,lQd,List.length_replicate];try omega) only [go_sem]))
end
section
def cmpI(a b:Int):Int:=if a<b then-1 else if a>b then 1 else 0
def poI(n:Int)(r:Hash)(m:Int)(k:Hash):Int:=if cmpI n m ≠ 0 then cmpI n m else Lib.compareBytes r.1 k.1
theorem zja:∀(n:Nat) (a b:List AV),a.length=n->chunk 1 n (a++b)=chunk 1 n a
 | 0,a,b,_=>rfl
 |n+1,[],b,h=>by simp at h
 |n+1,c::a,b,h=>by
  show List.take 1 (c::(a++b))::chunk 1 n (a++b)=List.take 1 (c::a)::chunk 1 n a
  rw [zja n a b (by simpa using h)]
  rfl
attribute [local irreducible] ACallsTo ACallsP
theorem zs3(O:Store)(a b:Int):ACallsTo TC 101 [.int .i64 a,.int .i64 b] O (.int .i64 (cmpI a b)) O:=by
 have hN:∀O x,ACallsTo TC 136 [.int .i64 x] O (.bool false) O:=fun O x=>by
  refine ACallsTo.of_body q26ok (by simp) fun hw _=> ?_
  repeat' (first|apply zA rfl|(apply zd_ rfl<;>intro ht<;>try omega)|((first|apply zB rfl|(apply zG<;>intro ht))<;>try simp (disch:=first|omega|simp only [lz,z8,zg,lQt,lQd,List.length_replicate];try omega) only [go_sem]))
  exact DownV.same hw z1k
 unfold cmpI
 refine ACallsTo.of_body q24ok (by simp) fun hw _=> ?_
 by_cases h1:a<b
 ·rw [if_pos h1]
  repeat' (first|apply zA rfl|(apply zd_ rfl<;>intro ht<;>try omega)|((first|apply zB rfl|(apply callW.mk_pu;exact(fun _=>hN _ _))|(apply callW.za;exact(hN _ _))|(apply zG<;>intro ht))<;>try simp (disch:=first|omega|simp only [lz,z8,zg,lQt,lQd,List.length_replicate];try omega) only [go_sem,h1]))
  exact DownV.same hw z2b
 ·rw [if_neg h1]
  by_cases h2:a>b
  ·rw [if_pos h2]
   repeat' (first|apply zA rfl|(apply zd_ rfl<;>intro ht<;>try omega)|((first|apply zB rfl|(apply callW.mk_pu;exact(fun _=>hN _ _))|(apply callW.za;exact(hN _ _))|(apply zG<;>intro ht))<;>try simp (disch:=first|omega|simp only [lz,z8,zg,lQt,lQd,List.length_replicate];try omega) only [go_sem,h1,h2]))
   exact DownV.same hw z2b
  ·rw [if_neg h2]
   repeat' (first|apply zA rfl|(apply zd_ rfl<;>intro ht<;>try omega)|((first|apply zB rfl|(apply callW.mk_pu;exact(fun _=>hN _ _))|(apply callW.za;exact(hN _ _))|(apply zG<;>intro ht))<;>try simp (disch:=first|omega|simp only [lz,z8,zg,lQt,lQd,List.length_replicate];try omega) only [go_sem,h1,h2]))
   exact DownV.same hw z2b
theorem zs4(O:Store)(a b:Int)(ex:Bool):ACallsTo TC 100 [.vsl 1 [[.int .i64 a],[.int .i64 b]] ex] O (.int .i64 (if a ≠ 0 then a else b)) O:=by
 refine ACallsTo.of_body q23ok (by simp) fun hw _=> ?_
 repeat' (first|apply zA rfl|(apply zd_ rfl<;>intro ht<;>try omega)|((first|apply zB rfl|(apply zG<;>intro ht))<;>try simp (disch:=first|omega|simp only [lz,z8,zg,lQt,lQd,List.length_replicate];try omega) only [go_sem]))
 refine zW.loop (fun m J O'=>∃i:Nat,m+i=2/\ O'=O/\ (0<i->a=0)/\ (1<i->b=0)/\ J 3=.int .i64 0/\ J 6=.vsl 1 [[.int .i64 a],[.int .i64 b]] ex/\ J 7=.int .i64 2/\ J 8=.int .i64 i) 2 ?_ ?_
 ·exact⟨0,by omega,rfl,by omega,by omega,by simp only [go_sem],by simp only [go_sem],by simp only [go_sem];try rfl,by simp only [go_sem];try rfl⟩
 ·rintro m J O' ⟨i,hm,rfl,ha,hb,q3,q6,q7,q8⟩
  match i,hm with
  | 0,hm=>
   by_cases h0:a=0
   ·subst h0
    repeat' (first|apply zA rfl|(apply zd_ rfl<;>intro ht<;>try omega)|((first|apply zB rfl|(apply zG<;>intro ht))<;>try simp (disch:=first|omega|simp only [lz,z8,zg,lQt,lQd,List.length_replicate];try omega) only [go_sem,q3,q6,q7,q8]))
    exact⟨m-1,by omega,1,by refine⟨by omega,?_⟩;simp⟩
   ·have h0':(a==0)=false:=beq_eq_false_iff_ne.2 h0
    rw [if_pos h0]
    repeat' (first|apply zA rfl|(apply zd_ rfl<;>intro ht<;>try omega)|((first|apply zB rfl|(apply zG<;>intro ht))<;>try simp (disch:=first|omega|simp only [lz,z8,zg,lQt,lQd,List.length_replicate];try omega) only [go_sem,q3,q6,q7,q8]))
    exact DownV.same hw z2b
  | 1,hm=>
   obtain rfl:=ha (by omega)
   rw [if_neg (by simp)]
   by_cases h0:b=0
   ·subst h0
    repeat' (first|apply zA rfl|(apply zd_ rfl<;>intro ht<;>try omega)|((first|apply zB rfl|(apply zG<;>intro ht))<;>try simp (disch:=first|omega|simp only [lz,z8,zg,lQt,lQd,List.length_replicate];try omega) only [go_sem,q3,q6,q7,q8]))
    exact⟨m-1,by omega,2,by refine⟨by omega,?_⟩;simp⟩
   ·have h0':(b==0)=false:=beq_eq_false_iff_ne.2 h0
    repeat' (first|apply zA rfl|(apply zd_ rfl<;>intro ht<;>try omega)|((first|apply zB rfl|(apply zG<;>intro ht))<;>try simp (disch:=first|omega|simp only [lz,z8,zg,lQt,lQd,List.length_replicate];try omega) only [go_sem,q3,q6,q7,q8]))
    exact DownV.same hw z2b
  | 2,hm=>
   obtain rfl:=ha (by omega)
   obtain rfl:=hb (by omega)
   rw [if_neg (by simp)]
   repeat' (first|apply zA rfl|(apply zd_ rfl<;>intro ht<;>try omega)|((first|apply zB rfl|(apply zG<;>intro ht))<;>try simp (disch:=first|omega|simp only [lz,z8,zg,lQt,lQd,List.length_replicate];try omega) only [go_sem,q3,q7,q8]))
   exact DownV.same hw z2b
  |i+3,hm=>omega
theorem zlr(O:Store)(n i m:Int)(r k:Hash)(s:List UInt8)(x:AV):ACallsTo TC 49 [.agg (sgC n r i s x),.agg (.int .i64 m::hc k)] O (.int .i64 (poI n r m k)) O:=by
 have hC:=fun O=>zs3 O n m
 have hO:=fun O a b=>zs4 O a b true
 have sl:=zg n r i s x
 have kl:=z8 k
 have hB:ACallsTo TC 102 [.asl O.length 0 1 32 32 1,.asl (O.length+1) 0 1 32 32 1] (O++ [some [sgC n r i s x],some [.int .i64 m::hc k]]) (.int .i64 (Lib.compareBytes r.1 k.1)) (O++ [some [sgC n r i s x],some [.int .i64 m::hc k]]):=by
  refine zri _ _ _ r.1 k.1 (fun τ=> ?_) (fun τ=> ?_)
  ·have g:(O++ [some [sgC n r i s x],some [.int .i64 m::hc k]]++τ)[O.length]? =some (some [sgC n r i s x]):=by rw [List.append_assoc,z18 (Nat.le_refl _),Nat.sub_self];rfl
   have e:(sgC n r i s x).drop 1=hc r++ [.int .i64 i,.str s,x]:=rfl
   simp only [z26]
   rw [g]
   simp only [List.getElem?_cons_zero,Option.bind_some]
   rw [if_pos (by rw [sl];omega),e,zja 32 _ _ (z8 r),zbf]
  ·have g:(O++ [some [sgC n r i s x],some [.int .i64 m::hc k]]++τ)[O.length+1]? =some (some [.int .i64 m::hc k]):=by rw [List.append_assoc,z18 (by omega),Nat.add_sub_cancel_left];rfl
   have e:(AV.int .i64 m::hc k).drop 1=hc k:=rfl
   simp only [z26]
   rw [g]
   simp only [List.getElem?_cons_zero,Option.bind_some]
   rw [if_pos (by rw [List.length_cons,kl];omega),e,zbf]
 unfold poI
 refine ACallsTo.of_body q2gok (by simp) fun hw _=> ?_
 repeat' (first|apply zA rfl|(apply zd_ rfl<;>intro ht<;>try omega)|((first|apply zB rfl|(apply callW.mk_pu;(first|exact(fun _=>hC _)|exact(fun _=>hB)|exact(fun _=>hO _ _ _)))|(apply callW.za;(first|exact(hC _)|exact(hB)|exact(hO _ _ _)))|(apply zG<;>intro ht))<;>try simp (disch:=first|omega|simp only [lz,z8,zg,lQt,lQd,List.length_replicate];try omega) only [go_sem]))
 exact DownV.pure hw z2b
end
section
theorem z9f{P:List Hdr}(h:i<P.length):(hdrs P)[i]? =some (sgC P[i].n P[i].r P[i].i P[i].s (zz 32 (hr P[i].p))):=by
 simp [hdrs,hdrC,List.getElem?_eq_getElem h]
attribute [local irreducible] ACallsTo ACallsP
theorem zgo(O:Store)(m:Int)(k:Hash):ACallsTo TC 48 [.nilsl,.agg (.int .i64 m::hc k),.fn 49 []] O (.tup [.int .i64 0,.bool false]) O:=by
 refine ACallsTo.of_body q20ok (by simp) fun hw _=> ?_
 repeat' (first|apply zA rfl|(apply zd_ rfl<;>intro ht<;>try omega)|((first|apply zB rfl|(apply zG<;>intro ht))<;>try simp (disch:=first|omega|simp only [lz,z8,zg,zi,zh,lQt,lQd,List.length_replicate];try omega) only [go_sem]))
 refine zW.loop (fun t J O'=>O'=O++ [some [.int .i64 m::hc k]]/\ J 8=.int .i64 0/\ J 9=.int .i64 0/\ J 10=.int .i64 0) 0 ?_ ?_
 ·exact⟨rfl,by simp only [go_sem];try rfl,by simp only [go_sem];try rfl,by simp only [go_sem];try rfl⟩
 ·rintro t J O' ⟨rfl,q8,q9,q10⟩
  repeat' (first|apply zA rfl|(apply zd_ rfl<;>intro ht<;>try omega)|((first|apply zB rfl|(apply zG<;>intro ht))<;>try simp (disch:=first|omega|simp only [lz,z8,zg,zi,zh,lQt,lQd,List.length_replicate];try omega) only [go_sem,q8,q9,q10]))
  exact DownV.pure hw (by simp [RL,RLs])
theorem znu(O:Store)(q:Nat)(P:List Hdr)(m:Int)(k:Hash)(lb:Nat)(hq:O[q]? =some (some (hdrs P)))(hl:P.length<1000000)(hlb:lb<=P.length)(hs:∀j (h:j<P.length),poI P[j].n P[j].r m k<0 ↔ j<lb):
  ACallsTo TC 48 [.sl q 0 P.length none 36,.agg (.int .i64 m::hc k),.fn 49 []] O
   (.tup [.int .i64 lb,.bool (decide (∃h:lb<P.length,poI P[lb].n P[lb].r m k=0))]) O:=by
 have kl:=z8 k
 have hd:=slen hq
 have pl:=zh P
 refine ACallsTo.of_body q20ok (by simp) fun hw _=> ?_
 repeat' (first|apply zA rfl|(apply zd_ rfl<;>intro ht<;>try omega)|((first|apply zB rfl|(apply zG<;>intro ht))<;>try simp (disch:=first|omega|simp only [lz,z8,zg,zi,zh,lQt,lQd,List.length_replicate];try omega) only [go_sem]))
 refine zW.loop (fun t J O'=>∃lo hi:Nat,t=hi-lo/\ lo<=lb/\ lb<=hi/\ hi<=P.length/\ O'=O++ [some [.int .i64 m::hc k]]/\ J 0=.sl q 0 P.length none 36/\ J 2=.fn 49 []/\ J 4=.ptr O.length 0 0/\ J 8=.int .i64 P.length/\ J 9=.int .i64 lo/\ J 10=.int .i64 hi) P.length ?_ ?_
 ·exact⟨0,P.length,by omega,by omega,hlb,by omega,rfl,by simp only [go_sem],by simp only [go_sem],by simp only [go_sem],by simp only [go_sem],by simp only [go_sem];try rfl,by simp only [go_sem]⟩
 ·rintro t J O' ⟨lo,hi,ht,h1,h2,h3,rfl,q0,q2,q4,q8,q9,q10⟩
  have hq':(O++ [some [.int .i64 m::hc k]])[q]? =some (some (hdrs P)):=by rw [gapp hd];exact hq
  by_cases hlt:lo<hi
  ·obtain⟨h,hh⟩:∃h:Nat,h=(lo+hi)/2:=⟨_,rfl⟩
   have hhi:((lo:Int)+(hi:Int))/2=(h:Int):=by omega
   have hhl:h<P.length:=by omega
   have hg:=z9f hhl
   have hsp:=hs h hhl
   have hO:=fun O=>zlr O P[h].n P[h].i m P[h].r k P[h].s (zz 32 (hr P[h].p))
   have hsl:=zg P[h].n P[h].r P[h].i P[h].s (zz 32 (hr P[h].p))
   generalize poI P[h].n P[h].r m k=c at*
   generalize P[h]=p at*
   by_cases hc0:c<0
   ·have:=hsp.1 hc0
    repeat' (first|apply zA rfl|(apply zd_ rfl<;>intro ht<;>try omega)|((first|apply zB rfl|(apply callW.mk_pu;exact(fun _=>hO _))|(apply callW.za;exact(hO _))|(apply zG<;>intro ht))<;>try simp (disch:=first|omega|simp only [lz,z8,zg,zi,zh,lQt,lQd,List.length_replicate];try omega) only [go_sem,q0,q2,q4,q8,q9,q10,hq',kl,hhi,hg,hsl,hc0]))
    exact⟨hi-(h+1),by omega,h+1,hi,rfl,by omega,h2,h3,by simp⟩
   ·have:¬h<lb:=fun e=>hc0 (hsp.2 e)
    repeat' (first|apply zA rfl|(apply zd_ rfl<;>intro ht<;>try omega)|((first|apply zB rfl|(apply callW.mk_pu;exact(fun _=>hO _))|(apply callW.za;exact(hO _))|(apply zG<;>intro ht))<;>try simp (disch:=first|omega|simp only [lz,z8,zg,zi,zh,lQt,lQd,List.length_replicate];try omega) only [go_sem,q0,q2,q4,q8,q9,q10,hq',kl,hhi,hg,hsl,hc0]))
    exact⟨h-lo,by omega,lo,h,rfl,h1,by omega,by omega,by simp⟩
  ·obtain rfl:lo=lb:=by omega
   obtain rfl:hi=lo:=by omega
   by_cases hn:hi<P.length
   ·have hg:=z9f hn
    have hO:=fun O=>zlr O P[hi].n P[hi].i m P[hi].r k P[hi].s (zz 32 (hr P[hi].p))
    have hsl:=zg P[hi].n P[hi].r P[hi].i P[hi].s (zz 32 (hr P[hi].p))
    have hdc:decide (∃h:hi<P.length,poI P[hi].n P[hi].r m k=0)=decide (poI P[hi].n P[hi].r m k=0):=by simp [hn]
    rw [hdc]
    generalize poI P[hi].n P[hi].r m k=c at*
    generalize P[hi]=p at*
    repeat' (first|apply zA rfl|(apply zd_ rfl<;>intro ht<;>try omega)|((first|apply zB rfl|(apply callW.mk_pu;exact(fun _=>hO _))|(apply callW.za;exact(hO _))|(apply zG<;>intro ht))<;>try simp (disch:=first|omega|simp only [lz,z8,zg,zi,zh,lQt,lQd,List.length_replicate];try omega) only [go_sem,q0,q2,q4,q8,q9,q10,hq',kl,hg,hsl]))
    exact DownV.pure hw (by simp [RL,RLs])
   ·have hdc:decide (∃h:hi<P.length,poI P[hi].n P[hi].r m k=0)=false:=by simp [hn]
    rw [hdc]
    have hn':¬(hi:Int)<P.length:=by omega
    repeat' (first|apply zA rfl|(apply zd_ rfl<;>intro ht<;>try omega)|((first|apply zB rfl|(apply zG<;>intro ht))<;>try simp (disch:=first|omega|simp only [lz,z8,zg,zi,zh,lQt,lQd,List.length_replicate];try omega) only [go_sem,q8,q9,q10,hn']))
    exact DownV.pure hw (by simp [RL,RLs])
theorem z9l(O:Store)(n:Int)(r:Hash)(i:Int)(s:List UInt8)(l:List Hash)(x:AV)(hx:SlV 32 (hr l) x)(hl:l.length<1000000):
  ACallsTo TC 52 [.agg (sgC n r i s x)] O (.agg (sgC n r i s (knil (hr l) x))) O:=by
 have hC:=fun O=>zhn O l x (.of hx) hl
 have sl:=fun v=>zg n r i s v
 have hst:=fun x v=>zo4 n r i s x v
 have hrl:=fun k=>zzv (k:=k) l x
 have hkc:cellsOf (knil (hr l) x)=some [knil (hr l) x]:=by
  rcases hx with⟨rfl,h⟩| ⟨ex,rfl⟩<;>rfl
 have xc:cellsOf x=some [x]:=by
  rcases hx with⟨rfl,h⟩| ⟨ex,rfl⟩<;>rfl
 unfold cellsOf at hkc xc
 generalize knil (hr l) x=y at*
 refine ACallsTo.of_body q2hok (by simp) fun hw _=> ?_
 repeat' (first|apply zA rfl|(apply zd_ rfl<;>intro ht<;>try omega)|((first|apply zB rfl|(apply callW.mk_pu;exact(fun _=>hC _))|(apply callW.za;exact(hC _))|(apply zG<;>intro ht))<;>try simp (disch:=first|omega|simp only [lz,z8,zg,zi,zh,lQt,lQd,List.length_replicate];try omega) only [go_sem,hkc,hst,sl]))
 exact DownV.all hw (fz_sg n r i s y y (FrzD.same (hrl _)))
theorem zpg(O:Store)(q:Nat)(es:List (List AV))(hq:O[q]? =some (some es))(h0:es ≠ [])(hl:es.length<1000000):
  ACallsP TC 51 [.sl q 0 es.length none 36] O (fun v O'=>v=.sl O.length 0 es.length none 36/\ O'=O++ [some es]):=by
 have hn:es.length ≠ 0:=fun e=>h0 (List.length_eq_zero_iff.1 e)
 refine ACallsP.of_keep q22ok (by simp) ?_
 repeat' (first|apply zA rfl|(apply zd_ rfl<;>intro ht<;>try omega)|((first|apply zB rfl|(apply zG<;>intro ht))<;>try simp (disch:=first|omega|simp only [lz,z8,zg,zi,zh,lQt,lQd,List.length_replicate];try omega) only [go_sem,hq,hn]))
theorem zhm(O:Store):
  ACallsTo TC 51 [.nilsl] O .nilsl O:=by
 refine ACallsTo.of_body q22ok (by simp) fun hw _=> ?_
 repeat' (first|apply zA rfl|(apply zd_ rfl<;>intro ht<;>try omega)|((first|apply zB rfl|(apply zG<;>intro ht))<;>try simp (disch:=first|omega|simp only [lz,z8,zg,zi,zh,lQt,lQd,List.length_replicate];try omega) only [go_sem]))
 exact DownV.same hw (by simp [RL])
end
section
open Lib (compareBytes)
theorem cb_nn:compareBytes [] []=0:=rfl
theorem cb_nc(b:UInt8)(ys:List UInt8):compareBytes [] (b::ys)= -1:=rfl
theorem zdo(a:UInt8)(xs:List UInt8):compareBytes (a::xs) []=1:=rfl
theorem z7j(a b:UInt8)(xs ys:List UInt8):compareBytes (a::xs) (b::ys)=if a<b then-1 else if b<a then 1 else compareBytes xs ys:=rfl
theorem z8g(a b:UInt8):a<b \/b<a \/a=b:=by
 rcases Nat.lt_trichotomy a.toNat b.toNat with h|h|h
 ·exact .inl h
 ·exact .inr (.inr (UInt8.toNat_inj.1 h))
 ·exact .inr (.inl h)
theorem z6a{a b:UInt8}(h:a<b):¬b<a:=fun h2=>by
 have h1:a.toNat<b.toNat:=h
 have h3:b.toNat<a.toNat:=h2
 omega
theorem z4a(a:UInt8):¬a<a:=fun h=>by
 have h1:a.toNat<a.toNat:=h
 omega
theorem z132{a b c:UInt8}(h:a<b)(h2:b<c):a<c:=by
 have h1:a.toNat<b.toNat:=h
 have h3:b.toNat<c.toNat:=h2
 show a.toNat<c.toNat
 omega
theorem zdp:∀a b:List UInt8,compareBytes a b=0 ↔ a=b
 | [],[]=>by simp [cb_nn]
 | [],b::ys=>by simp [cb_nc]
 |a::xs,[]=>by simp [zdo]
 |a::xs,b::ys=>by
  rw [z7j]
  rcases z8g a b with h|h|rfl
  ·rw [if_pos h]
   exact⟨fun e=>by simp at e,fun e=>by injection e with e1 _;subst e1;exact absurd h (z4a a)⟩
  ·rw [if_neg (z6a h),if_pos h]
   exact⟨fun e=>by simp at e,fun e=>by injection e with e1 _;subst e1;exact absurd h (z4a a)⟩
  ·rw [if_neg (z4a a),if_neg (z4a a),zdp xs ys]
   simp
theorem zj5:∀a b:List UInt8,compareBytes b a= -compareBytes a b
 | [],[]=>rfl
 | [],b::ys=>rfl
 |a::xs,[]=>rfl
 |a::xs,b::ys=>by
  rw [z7j,z7j]
  rcases z8g a b with h|h|rfl
  ·rw [if_neg (z6a h),if_pos h,if_pos h];decide
  ·rw [if_pos h,if_neg (z6a h),if_pos h]
  ·rw [if_neg (z4a a),if_neg (z4a a),if_neg (z4a a),if_neg (z4a a),zj5 xs ys]
theorem zj6:∀a b c:List UInt8,compareBytes a b<0->compareBytes b c<0->compareBytes a c<0
 | [],[],c,h,_=>by simp [cb_nn]at h
 |a::xs,[],c,h,_=>by simp [zdo]at h
 | _,b::ys,[],_,h=>by simp [zdo]at h
 | [],b::ys,c::zs,_,_=>by rw [cb_nc];omega
 |a::xs,b::ys,c::zs,h,h2=>by
  rw [z7j]at h h2 ⊢
  rcases z8g a b with h3|h3|rfl
  ·rcases z8g b c with h4|h4|rfl
   ·rw [if_pos (z132 h3 h4)];omega
   ·rw [if_neg (z6a h4),if_pos h4]at h2;omega
   ·rw [if_pos h3];omega
  ·rw [if_neg (z6a h3),if_pos h3]at h;omega
  ·rcases z8g a c with h4|h4|rfl
   ·rw [if_pos h4];omega
   ·rw [if_neg (z6a h4),if_pos h4]at h2;omega
   ·rw [if_neg (z4a a),if_neg (z4a a)]at h h2 ⊢
    exact zj6 xs ys zs h h2
theorem zbw{n m:Int}(r k:Hash)(h:n<m):poI n r m k= -1:=by
 have e:cmpI n m= -1:=if_pos h
 unfold poI
 rw [e,if_pos (by decide)]
theorem zbv{n m:Int}(r k:Hash)(h:m<n):poI n r m k=1:=by
 have e:cmpI n m=1:=by unfold cmpI;rw [if_neg (by omega),if_pos h]
 unfold poI
 rw [e,if_pos (by decide)]
theorem z9k(n:Int)(r k:Hash):poI n r n k=compareBytes r.1 k.1:=by
 have e:cmpI n n=0:=by unfold cmpI;rw [if_neg (by omega),if_neg (by omega)]
 unfold poI
 rw [e,if_neg (by simp)]
theorem po_zero{n m:Int}{r k:Hash}:poI n r m k=0 ↔ n=m/\ r=k:=by
 rcases Int.lt_trichotomy n m with h|rfl|h
 ·rw [zbw r k h];exact⟨fun e=>by omega,fun e=>by omega⟩
 ·rw [z9k,zdp]
  exact⟨fun e=>⟨rfl,Subtype.ext e⟩,fun e=>by rw [e.2]⟩
 ·rw [zbv r k h];exact⟨fun e=>by omega,fun e=>by omega⟩
theorem po_neg{n m:Int}{r k:Hash}:poI n r m k<0 ↔ n<m \/(n=m/\ compareBytes r.1 k.1<0):=by
 rcases Int.lt_trichotomy n m with h|rfl|h
 ·rw [zbw r k h];exact⟨fun _=> .inl h,fun _=>by omega⟩
 ·rw [z9k];exact⟨fun e=> .inr ⟨rfl,e⟩,fun e=>by rcases e with e|e;omega;exact e.2⟩
 ·rw [zbv r k h];exact⟨fun e=>by omega,fun e=>by omega⟩
theorem zlz(n m:Int)(r k:Hash):poI m k n r= -poI n r m k:=by
 rcases Int.lt_trichotomy n m with h|rfl|h
 ·rw [zbw r k h,zbv k r h];rfl
 ·rw [z9k,z9k];exact zj5 r.1 k.1
 ·rw [zbv r k h,zbw k r h]
theorem zm0{n m l:Int}{r k q:Hash}(h:poI n r m k<0)(h2:poI m k l q<0):poI n r l q<0:=by
 rw [po_neg]at*
 rcases h with h| ⟨rfl,h⟩
 ·rcases h2 with h2| ⟨rfl,h2⟩
  ·exact .inl (by omega)
  ·exact .inl h
 ·rcases h2 with h2| ⟨rfl,h2⟩
  ·exact .inl h2
  ·exact .inr ⟨rfl,zj6 _ _ _ h h2⟩
def PSort(P:List Hdr):Prop:=∀i j (hi:i<P.length) (hj:j<P.length),i<j->poI P[i].n P[i].r P[j].n P[j].r<0
def lbP(P:List Hdr)(m:Int)(k:Hash):Nat:=(P.takeWhile fun q=>decide (poI q.n q.r m k<0)).length
theorem zky(q:Hdr)(P:List Hdr)(m:Int)(k:Hash):lbP (q::P) m k=if poI q.n q.r m k<0 then lbP P m k+1 else 0:=by
 unfold lbP
 rw [List.takeWhile_cons]
 by_cases h:poI q.n q.r m k<0
 ·rw [if_pos (by simpa using h),if_pos h];simp
 ·rw [if_neg (by simpa using h),if_neg h];rfl
theorem z6r(P:List Hdr)(m:Int)(k:Hash):lbP P m k<=P.length:=by
 induction P with
 |nil=>exact Nat.le_refl _
 |cons q P ih=>rw [zky];split<;>simp<;>omega
theorem PSort.tail{q:Hdr}{P:List Hdr}(h:PSort (q::P)):PSort P:=fun i j hi hj hij=>by
 have:=h (i+1) (j+1) (by simpa using hi) (by simpa using hj) (by omega)
 simpa using this
theorem z6s{P:List Hdr}(hP:PSort P)(m:Int)(k:Hash):∀j (h:j<P.length),poI P[j].n P[j].r m k<0 ↔ j<lbP P m k:=by
 induction P with
 |nil=>intro j h;simp at h
 |cons q P ih=>
  intro j h
  rw [zky]
  match j,h with
  | 0,h=>
   by_cases hq:poI q.n q.r m k<0
   ·rw [if_pos hq];simpa using hq
   ·rw [if_neg hq];simpa using hq
  |j+1,h=>
   have hj:j<P.length:=by simpa using h
   have i1:=ih hP.tail j hj
   have e:(q::P)[j+1]=P[j]:=rfl
   rw [e]
   by_cases hq:poI q.n q.r m k<0
   ·rw [if_pos hq,i1];omega
   ·rw [if_neg hq]
    have h0:=hP 0 (j+1) (by simp) h (by omega)
    rw [e]at h0
    exact⟨fun h1=>absurd (zm0 h0 h1) hq,fun h1=>by omega⟩
theorem PSort.insert{P:List Hdr}(hP:PSort P)(q:Hdr)(hq:∀h:lbP P q.n q.r<P.length,poI P[lbP P q.n q.r].n P[lbP P q.n q.r].r q.n q.r ≠ 0):PSort (P.take (lbP P q.n q.r)++q::P.drop (lbP P q.n q.r)):=by
 have hs:=z6s hP q.n q.r
 have hle:=z6r P q.n q.r
 generalize lbP P q.n q.r=b at*
 have hg:∀j (hj:j<(P.take b++q::P.drop b).length),(P.take b++q::P.drop b)[j]=if h:j<b then P[j]'(by omega)else if h2:j=b then q else P[j-1]'(by simp at hj;omega):=by
  intro j hj
  by_cases h:j<b
  ·rw [dif_pos h,List.getElem_append_left (by rw [List.length_take];omega),List.getElem_take]
  ·rw [dif_neg h,List.getElem_append_right (by rw [List.length_take];omega)]
   by_cases h2:j=b
   ·rw [dif_pos h2]
    have:j-(P.take b).length=0:=by rw [List.length_take];omega
    simp only [this,List.getElem_cons_zero]
   ·rw [dif_neg h2]
    have:j-(P.take b).length=(j-b-1)+1:=by rw [List.length_take];omega
    simp only [this,List.getElem_cons_succ,List.getElem_drop]
    congr 1
    omega
 have above:∀j (hj:j<P.length),b<=j->poI q.n q.r P[j].n P[j].r<0:=by
  intro j hj hb
  have hbl:b<P.length:=by omega
  have h1:=hq hbl
  have h2:¬poI P[b].n P[b].r q.n q.r<0:=fun e=>by have:=(hs b hbl).1 e;omega
  have h3:=zlz P[b].n q.n P[b].r q.r
  have h4:poI q.n q.r P[b].n P[b].r<0:=by omega
  rcases Nat.lt_or_ge b j with h5|h5
  ·exact zm0 h4 (hP b j hbl hj h5)
  ·obtain rfl:j=b:=by omega
   exact h4
 intro i j hi hj hij
 rw [hg i hi,hg j hj]
 have hjl:j<P.length+1:=by simp at hj;omega
 by_cases i1:i<b
 ·rw [dif_pos i1]
  by_cases j1:j<b
  ·rw [dif_pos j1];exact hP i j _ _ hij
  ·rw [dif_neg j1]
   by_cases j2:j=b
   ·rw [dif_pos j2];exact(hs i (by omega)).2 i1
   ·rw [dif_neg j2];exact hP i (j-1) _ _ (by omega)
 ·rw [dif_neg i1]
  by_cases i2:i=b
  ·rw [dif_pos i2,dif_neg (by omega),dif_neg (by omega)]
   exact above (j-1) (by omega) (by omega)
  ·rw [dif_neg i2,dif_neg (by omega),dif_neg (by omega)]
   exact hP (i-1) (j-1) _ _ (by omega)
end
section
def poC(key:Hash)(v:AV):List AV:=.bool true::(hc key++ [v])
theorem zx(key:Hash)(v:AV):(poC key v).length=34:=by simp [poC,z8]
theorem poC_0(key:Hash)(v:AV):(poC key v)[0]? =some (.bool true):=rfl
theorem z5y(key:Hash)(v:AV):(poC key v)[33]? =some v:=by
 show (hc key++ [v])[32]? =some v
 rw [List.getElem?_append_right (by rw [z8];omega),z8];rfl
theorem zbu(key:Hash)(v:AV):((poC key v).drop 1).take 32=hc key:=by
 show (hc key++ [v]).take 32=hc key
 exact List.take_left' (z8 key)
theorem zf8(key:Hash)(v x:AV):(poC key v).take 33++x::(poC key v).drop 34=poC key x:=by
 have h1:(poC key v).take 33=.bool true::hc key:=by
  show AV.bool true::(hc key++ [v]).take 32=_
  rw [List.take_left' (z8 key)]
 have h2:(poC key v).drop 34=[]:=List.drop_of_length_le (by rw [zx];omega)
 rw [h1,h2];rfl
attribute [local irreducible] ACallsTo ACallsP
theorem lY:(∀(h:Hash),(hc h).length=32)/\ (∀(n:Int) (r:Hash) (i:Int) (s:List UInt8) (x:AV),(sgC n r i s x).length=36)/\ (∀(h:Hdr),(hdrC h).length=36)/\ (∀(H:List Hdr),(hdrs H).length=H.length)/\ (∀(key:Hash)(v:AV),(poC key v).length=34)/\ (∀{α:Type}{i:Nat}{l:List α},(l.take i).length=min i l.length)/\ (∀{α:Type}{i:Nat}{l:List α},(l.drop i).length=l.length-i)/\ (∀{α:Type}{n:Nat}{a:α},(List.replicate n a).length=n):=⟨@z8,@zg,@zi,@zh,@zx,by simp,by simp,by simp⟩
theorem z5z(O:Store)(p:Nat)(key:Hash)(v:AV)(hp:O[p]? =some (some [poC key v])):ACallsTo TC 45 [.ptr p 0 0] O (.bool false) O:=by
 have g:=poC_0 key v
 refine ACallsTo.of_body q2fok (by simp) fun hw _=> ?_
 repeat' (first|apply zA rfl|(apply zd_ rfl<;>intro ht<;>try omega)|((first|apply zB rfl|(apply zG<;>intro ht))<;>try simp (disch:=first|omega|simp only [lz,lY];try omega) only [go_sem,hp,g]))
 exact DownV.same hw z1k
theorem zy2(O:Store)(key:Hash):ACallsP TC 10 [.agg (hc key)] O (fun v O'=>v=.ptr (O.length+1) 0 0/\ O'=O++ [some [hc key],some [poC key .nilsl]]):=by
 have l:=z8 key
 refine ACallsP.of_keep q27ok (by simp) ?_
 repeat' (first|apply zA rfl|(apply zd_ rfl<;>intro ht<;>try omega)|((first|apply zB rfl|(apply zG<;>intro ht))<;>try simp (disch:=first|omega|simp only [lz,lY];try omega) only [go_sem,l]))
 rfl
theorem zy4(O:Store)(p:Nat)(key:Hash)(v:AV)(sid:Option Nat)(P:List Hdr)(m:Int)(k:Hash)(hp:O[p]? =some (some [poC key v]))(hr:RowAt 36 O sid v (hdrs P))(hs:PSort P)(hl:P.length<1000000):
  ACallsTo TC 30 [.ptr p 0 0,.agg (.int .i64 m::hc k)] O (.bool (decide (∃h:lbP P m k<P.length,poI P[lbP P m k].n P[lbP P m k].r m k=0))) O:=by
 have d:=slen hp
 have l:=zx key v
 have g:=z5y key v
 have kl:=z8 k
 have hN:=fun y=>z5z (O++y) p key v (by rw [gapp d];exact hp)
 refine ACallsTo.of_body q2cok (by simp) fun hw _=> ?_
 rcases hr with⟨_,h0,rfl⟩| ⟨q,_,hne,rfl,hq⟩
 ·have hP:P=[]:=by have:=congrArg List.length h0;rw [zh]at this;exact List.eq_nil_of_length_eq_zero this
  subst hP
  have hS:=fun O=>zgo O m k
  repeat' (first|apply zA rfl|(apply zd_ rfl<;>intro ht<;>try omega)|((first|apply zB rfl|(apply callW.mk_pu;(first|exact(fun _=>hN _)|exact(fun _=>hS _)))|(apply callW.za;(first|exact(hN _)|exact(hS _)))|(apply zG<;>intro ht))<;>try simp (disch:=first|omega|simp only [lz,lY];try omega) only [go_sem,hp,g,kl]))
  exact DownV.pure hw z1k
 ·have hd:=slen hq
  have hS:=fun y=>znu (O++y) q P m k (lbP P m k) (by rw [gapp hd];exact hq) hl (z6r P m k) (z6s hs m k)
  rw [zh]at g
  generalize decide (∃h:lbP P m k<P.length,poI P[lbP P m k].n P[lbP P m k].r m k=0)=b at*
  rw [zh]at*
  repeat' (first|apply zA rfl|(apply zd_ rfl<;>intro ht<;>try omega)|((first|apply zB rfl|(apply callW.mk_pu;(first|exact(fun _=>hN _)|exact(fun _=>hS _)))|(apply callW.za;(first|exact(hN _)|exact(hS _)))|(apply zG<;>intro ht))<;>try simp (disch:=first|omega|simp only [lz,lY];try omega) only [go_sem,hp,g,kl]))
  exact DownV.pure hw z1k
end
section
def isP(P:List Hdr)(m:Int)(k:Hash):Bool:=decide (∃h:lbP P m k<P.length,poI P[lbP P m k].n P[lbP P m k].r m k=0)
theorem znt{P:List Hdr}(hr:RowAt 36 O sid v (hdrs P))(hs:PSort P)(hl:P.length<1000000)(m:Int)(k:Hash)(y:Store):
  ACallsTo TC 48 [v,.agg (.int .i64 m::hc k),.fn 49 []] (O++y) (.tup [.int .i64 (lbP P m k),.bool (isP P m k)]) (O++y):=by
 rcases hr with⟨_,h0,rfl⟩| ⟨q,_,hne,rfl,hq⟩
 ·have hP:P=[]:=by have:=congrArg List.length h0;rw [zh]at this;exact List.eq_nil_of_length_eq_zero this
  subst hP
  exact zgo (O++y) m k
 ·have hd:=slen hq
  rw [zh]
  exact znu (O++y) q P m k (lbP P m k) (by rw [gapp hd];exact hq) hl (z6r P m k) (z6s hs m k)
attribute [local irreducible] ACallsTo ACallsP
theorem zf6(O:Store)(p:Nat)(key:Hash)(v:AV)(sid:Option Nat)(P:List Hdr)(q:Hdr)(x:AV)(e:Int)(hp:O[p]? =some (some [poC key v]))(hw0:RowAt 36 O sid v (hdrs P))(hs:PSort P)(hl:P.length<1000000)(hx:SlV 32 (Am.hr q.p) x)
  (he:(z1s key q.n q.i q.r q.s q.p ≠ 0/\ e=0) \/(z1s key q.n q.i q.r q.s q.p=0/\ isP P q.n q.r=true/\ e=1) \/(z1s key q.n q.i q.r q.s q.p=0/\ isP P q.n q.r=false/\ 16<=P.length/\ e=4)):
  ACallsTo TC 14 [.ptr p 0 0,.agg (sgC q.n q.r q.i q.s x)] O (.int .i64 e) O:=by
 have d:=slen hp
 have l:=zx key v
 have g:=z5y key v
 have gk:=zbu key v
 have ql:=zg q.n q.r q.i q.s x
 have r1:=hw0.rd.len
 rw [zh]at r1
 unfold z1f at r1
 have c3:=hw0.cells
 unfold cellsOf at c3
 have hN:=fun y=>z5z (O++y) p key v (by rw [gapp d];exact hp)
 have hC:=fun O=>zd8 O key q.n q.i q.r q.s q.p x (.of hx)
 have hS:=znt hw0 hs hl q.n q.r
 refine ACallsTo.of_body zfd (by simp) fun hw _=> ?_
 rcases he with⟨h0,rfl⟩| ⟨h0,h1,rfl⟩| ⟨h0,h1,h2,rfl⟩
 ·generalize z1s key q.n q.i q.r q.s q.p=c at*
  repeat' (first|apply zA rfl|(apply zd_ rfl<;>intro ht<;>try omega)|((first|apply zB rfl|(apply callW.mk_pu;(first|exact(fun _=>hN _)|exact(fun _=>hC _)))|(apply callW.za;(first|exact(hN _)|exact(hC _)))|(apply zG<;>intro ht))<;>try simp (disch:=first|omega|simp only [lz,lY];try omega) only [go_sem,hp,l,gk,ql]))
  exact DownV.pure hw z2b
 ·rw [h0]at hC
  rw [h1]at hS
  repeat' (first|apply zA rfl|(apply zd_ rfl<;>intro ht<;>try omega)|((first|apply zB rfl|(apply callW.mk_pu;(first|exact(fun _=>hN _)|exact(fun _=>hC _)|exact(fun _=>hS _)))|(apply callW.za;(first|exact(hN _)|exact(hC _)|exact(hS _)))|(apply zG<;>intro ht))<;>try simp (disch:=first|omega|simp only [lz,lY];try omega) only [go_sem,hp,l,g,gk,ql]))
  exact DownV.pure hw z2b
 ·rw [h0]at hC
  rw [h1]at hS
  have h2':(P.length:Int)>=16:=by omega
  repeat' (first|apply zA rfl|(apply zd_ rfl<;>intro ht<;>try omega)|((first|apply zB rfl|(apply callW.mk_pu;(first|exact(fun _=>hN _)|exact(fun _=>hC _)|exact(fun _=>hS _)))|(apply callW.za;(first|exact(hN _)|exact(hC _)|exact(hS _)))|(apply zG<;>intro ht))<;>try simp (disch:=first|omega|simp only [lz,lY];try omega) only [go_sem,hp,l,g,gk,ql,r1,h2']))
  exact DownV.pure hw z2b
end
section
def z2p(P:List Hdr)(i:Nat)(n:Int):Prop:=(0<i/\ (P[i-1]?).map Hdr.n=some n) \/(P[i+1]?).map Hdr.n=some n
instance (P:List Hdr)(i:Nat)(n:Int):Decidable (z2p P i n):=by unfold z2p;exact inferInstance
attribute [local irreducible] ACallsTo ACallsP
theorem zlx(k:Nat)(O:Store)(p b q:Nat)(key:Hash)(P:List Hdr)(i:Nat)(s:Hdr)(x:AV)(Q:AV->Store->Prop)(hp:O[p]? =some (some [poC key (.sl q 0 P.length none 36)]))(hq:O[q]? =some (some (hdrs P)))(hb:O[b]? =some (some [sgC s.n s.r s.i s.s x]))(hi:i<P.length)(hl:P.length<1000000)
  (hQ:Q (.int .i64 (if z2p P i s.n then 3 else 2)) O) (J:Env) (q0:J 0=.ptr p 0 0) (q3:J 3=.ptr b 0 0) (q5:J 5=.int .i64 i):
  zW TC 87 k zfc (z5t [.t 4] Q) J O:=by
 have g:=z5y key (.sl q 0 P.length none 36)
 have pl:=zh P
 repeat' (first|apply zA rfl|(apply zd_ rfl<;>intro ht<;>try omega)|((first|apply zB rfl|(apply zG<;>intro ht))<;>try simp (disch:=first|omega|simp only [lz,lY];try omega) only [go_sem,q5]))
 refine zW.loop (fun t J O'=>∃j:Nat,t+j=2/\ O'=O/\ (0<j->¬(0<i/\ (P[i-1]?).map Hdr.n=some s.n))/\ (1<j->¬(P[i+1]?).map Hdr.n=some s.n)/\ J 0=.ptr p 0 0/\ J 3=.ptr b 0 0/\ J 5=.int .i64 i/\ J 56=.agg [.int .i64 ((i:Int)-1),.int .i64 ((i:Int)+1)]/\ J 57=.int .i64 j) 2 ?_ ?_
 ·exact⟨0,by omega,rfl,by omega,by omega,by simp only [go_sem,q0],by simp only [go_sem,q3],by simp only [go_sem,q5],by simp only [go_sem];try rfl,by simp only [go_sem];try rfl⟩
 ·rintro t J O' ⟨j,ht,rfl,c1,c2,q0,q3,q5,q56,q57⟩
  match j,ht with
  | 0,ht=>
   by_cases h0:0<i
   ·have hk:(i:Int)-1=((i-1:Nat):Int):=by omega
    have hlt:i-1<P.length:=by omega
    have hg:=z9f hlt
    have hsl:=zg P[i-1].n P[i-1].r P[i-1].i P[i-1].s (zz 32 (hr P[i-1].p))
    have he:(P[i-1]?).map Hdr.n=some P[i-1].n:=by rw [List.getElem?_eq_getElem hlt];rfl
    rw [he]at c1
    have hf:z2p P i s.n ↔ (P[i-1].n=s.n \/(P[i+1]?).map Hdr.n=some s.n):=by unfold z2p;rw [he];simp [h0]
    by_cases hn:P[i-1].n=s.n
    ·rw [if_pos (hf.2 (.inl hn))]at hQ
     generalize P[i-1]=w at*
     have hn':(w.n==s.n)=true:=beq_iff_eq.2 hn
     repeat' (first|apply zA rfl|(apply zd_ rfl<;>intro ht<;>try omega)|((first|apply zB rfl|(apply zG<;>intro ht))<;>try simp (disch:=first|omega|simp only [lz,lY];try omega) only [go_sem,q0,q3,q56,q57,hk,hp,hq,hb,g,hg,hn']))
     exact hQ
    ·generalize P[i-1]=w at*
     have hn':(w.n==s.n)=false:=beq_eq_false_iff_ne.2 hn
     repeat' (first|apply zA rfl|(apply zd_ rfl<;>intro ht<;>try omega)|((first|apply zB rfl|(apply zG<;>intro ht))<;>try simp (disch:=first|omega|simp only [lz,lY];try omega) only [go_sem,q0,q3,q5,q56,q57,hk,hp,hq,hb,g,hg,hn']))
     exact⟨t-1,by omega,1,by omega,fun _ e=>hn (Option.some.inj (he.symm.trans e.2)),by omega,by simp [hk]⟩
   ·obtain rfl:i=0:=by omega
    repeat' (first|apply zA rfl|(apply zd_ rfl<;>intro ht<;>try omega)|((first|apply zB rfl|(apply zG<;>intro ht))<;>try simp (disch:=first|omega|simp only [lz,lY];try omega) only [go_sem,q0,q3,q5,q56,q57]))
    exact⟨t-1,by omega,1,by omega,by omega,by omega,by simp⟩
  | 1,ht=>
   have hf:z2p P i s.n ↔ (P[i+1]?).map Hdr.n=some s.n:=by
    have:=c1 (by omega)
    unfold z2p
    exact⟨fun e=>by rcases e with e|e;exact absurd e this;exact e,.inr⟩
   by_cases hlt:i+1<P.length
   ·have hk:(i:Int)+1=((i+1:Nat):Int):=by omega
    have hg:=z9f hlt
    have hsl:=zg P[i+1].n P[i+1].r P[i+1].i P[i+1].s (zz 32 (hr P[i+1].p))
    have he:(P[i+1]?).map Hdr.n=some P[i+1].n:=by rw [List.getElem?_eq_getElem hlt];rfl
    rw [he]at hf c2
    by_cases hn:P[i+1].n=s.n
    ·rw [if_pos (hf.2 (by rw [hn]))]at hQ
     generalize P[i+1]=w at*
     have hn':(w.n==s.n)=true:=beq_iff_eq.2 hn
     repeat' (first|apply zA rfl|(apply zd_ rfl<;>intro ht<;>try omega)|((first|apply zB rfl|(apply zG<;>intro ht))<;>try simp (disch:=first|omega|simp only [lz,lY];try omega) only [go_sem,q0,q3,q56,q57,hk,hp,hq,hb,g,hg,hn']))
     exact hQ
    ·generalize P[i+1]=w at*
     have hn':(w.n==s.n)=false:=beq_eq_false_iff_ne.2 hn
     repeat' (first|apply zA rfl|(apply zd_ rfl<;>intro ht<;>try omega)|((first|apply zB rfl|(apply zG<;>intro ht))<;>try simp (disch:=first|omega|simp only [lz,lY];try omega) only [go_sem,q0,q3,q5,q56,q57,hk,hp,hq,hb,g,hg,hn']))
     exact⟨t-1,by omega,2,by omega,fun _=>c1 (by omega),fun _ e=>hn (Option.some.inj (he.symm.trans e)),by simp [hk]⟩
   ·have hk:¬(i:Int)+1<P.length:=by omega
    have hnone:P[i+1]? =none:=List.getElem?_eq_none (by omega)
    repeat' (first|apply zA rfl|(apply zd_ rfl<;>intro ht<;>try omega)|((first|apply zB rfl|(apply zG<;>intro ht))<;>try simp (disch:=first|omega|simp only [lz,lY];try omega) only [go_sem,q0,q3,q5,q56,q57,hk,hp,g]))
    exact⟨t-1,by omega,2,by omega,fun _=>c1 (by omega),fun _ e=>(by rw [hnone]at e;exact absurd e (by simp)),by simp⟩
  | 2,ht=>
   have hf:¬z2p P i s.n:=by
    have h1:=c1 (by omega)
    have h2:=c2 (by omega)
    unfold z2p
    exact fun e=>by rcases e with e|e;exact h1 e;exact h2 e
   rw [if_neg hf]at hQ
   repeat' (first|apply zA rfl|(apply zd_ rfl<;>intro ht<;>try omega)|((first|apply zB rfl|(apply zG<;>intro ht))<;>try simp (disch:=first|omega|simp only [lz,lY];try omega) only [go_sem,q57]))
   exact hQ
  |j+3,ht=>omega
end
section
theorem InsP.is(O:Store)(r:Nat)(es:List (List AV))(i:Nat)(e:List AV):∃v O',InsP O r es i e v O':=
 ⟨.sl O.length 0 (es.length+1) none 36,O++ [some (es.take i++e::es.drop i)],O.length,rfl,by rw [z18 (Nat.le_refl _),Nat.sub_self];rfl,Nat.le_refl _,fun j hj _=>gapp hj⟩
def PoIs(O:Store)(p:Nat)(key:Hash)(P:List Hdr)(own:List Nat):Prop:=
 ∃v sid,own=p::Option.toList sid/\ O[p]? =some (some [poC key v])/\ RowAt 36 O sid v (hdrs P)/\ sid ≠ some p
def insL(P:List Hdr)(q:Hdr):List Hdr:=P.take (lbP P q.n q.r)++q::P.drop (lbP P q.n q.r)
theorem zu7(P:List Hdr)(q:Hdr)(i:Nat):hdrs (P.take i++q::P.drop i)=(hdrs P).take i++hdrC q::(hdrs P).drop i:=by simp [hdrs,List.map_take,List.map_drop]
theorem zem{l:List Hash}(hx:SlV 32 (hr l) x)(h:l ≠ []):knil (hr l) x=zz 32 (hr l):=by
 have hne:hr l ≠ []:=fun e=>h (hr_nil_iff.1 e)
 unfold zz
 rw [if_neg hne]
 rcases hx with⟨_,e⟩| ⟨ex,rfl⟩
 ·exact absurd e hne
 ·rfl
attribute [local irreducible] ACallsTo ACallsP zfc
theorem zy0(O:Store)(p:Nat)(key:Hash)(r:Nat)(P:List Hdr)(q:Hdr)(x:AV)(hp:O[p]? =some (some [poC key (.sl r 0 P.length none 36)]))(hr0:O[r]? =some (some (hdrs P)))(hne:P ≠ [])(hpr:p ≠ r)(hs:PSort P)(hl:P.length<16)(hx:SlV 32 (hr q.p) x)(hx0:q.p ≠ [])(hxl:q.p.length<1000000)
  (h0:z1s key q.n q.i q.r q.s q.p=0) (h1:isP P q.n q.r=false):
  ACallsP TC 14 [.ptr p 0 0,.agg (sgC q.n q.r q.i q.s x)] O (fun a O'=>a=.int .i64 (if z2p (insL P q) (lbP P q.n q.r) q.n then 3 else 2)/\ ∃t,O.length<=t/\ O'[p]? =some (some [poC key (.sl t 0 (insL P q).length none 36)])/\ O'[t]? =some (some (hdrs (insL P q)))/\ ∀j,j<O.length->j ≠ p->O'[j]? =O[j]?):=by
 have d:=slen hp
 have dr:=slen hr0
 have l:=zx key (.sl r 0 P.length none 36)
 have g:=z5y key (.sl r 0 P.length none 36)
 have gk:=zbu key (.sl r 0 P.length none 36)
 have ql:=zg q.n q.r q.i q.s x
 have pl:=zh P
 have hN:=fun y=>z5z (O++y) p key _ (by rw [gapp d];exact hp)
 have hC:=fun O=>zd8 O key q.n q.i q.r q.s q.p x (.of hx)
 have hO:=fun O=>z9l O q.n q.r q.i q.s q.p x hx hxl
 rw [zem hx hx0]at hO
 have hS:=znt (v:=.sl r 0 P.length none 36) (sid:=some r) (.inr ⟨r,rfl,fun e=>hne (List.eq_nil_of_length_eq_zero (by rw [<-zh,e];rfl)),by rw [pl],hr0⟩) hs (by omega) q.n q.r
 rw [h0]at hC
 rw [h1]at hS
 have h2':¬(P.length:Int)>=16:=by omega
 have hb:=z6r P q.n q.r
 have hcl:=zi q
 have hput:=fun v=>zf8 key (.sl r 0 P.length none 36) v
 have hch:sgC q.n q.r q.i q.s (zz 32 (hr q.p))=hdrC q:=rfl
 unfold insL
 have hil:(P.take (lbP P q.n q.r)++q::P.drop (lbP P q.n q.r)).length=P.length+1:=by rw [List.length_append,List.length_cons,List.length_take,List.length_drop];omega
 have hih:=zu7 P q (lbP P q.n q.r)
 generalize lbP P q.n q.r=b at*
 generalize P.take b++q::P.drop b=P' at*
 refine ACallsP.of_keep zfd (by simp) ?_
 repeat' (first|apply zA rfl|(apply zd_ rfl<;>intro ht<;>try omega)|((first|apply zB rfl|(apply callW.mk_pu;(first|exact(fun _=>hN _)|exact(fun _=>hC _)|exact(fun _=>hS _)))|(apply callW.za;(first|exact(hN _)|exact(hC _)|exact(hS _)))|(apply zG<;>intro ht))<;>try simp (disch:=first|omega|simp only [lz,lY];try omega) only [go_sem,hp,l,g,gk,ql,h2']))
 have e1:=zpg (O++ [some [sgC q.n q.r q.i q.s x]]) r (hdrs P) (by rw [gapp dr];exact hr0) (fun e=>hne (List.eq_nil_of_length_eq_zero (by rw [<-zh,e];rfl))) (by omega)
 rw [pl]at e1
 refine callW.mkP_ef (caps:=[]) e1 ⟨_,_,rfl,rfl⟩ ?_
 rintro v O2 ⟨rfl,rfl⟩
 simp (disch:=first|omega|simp only [lz,lY];try omega) only [go_sem,hp,g,ql]
 repeat' (first|apply zA rfl|(apply zd_ rfl<;>intro ht<;>try omega)|((first|apply zB rfl|(apply callW.mk_pu;exact(fun _=>hO _))|(apply callW.za;exact(hO _))|(apply zG<;>intro ht))<;>try simp (disch:=first|omega|simp only [lz,lY];try omega) only [go_sem,hcl,hch]))
 have e2:=zps (O++ [some [sgC q.n q.r q.i q.s x],some (hdrs P)]) (O.length+1) (hdrs P) b (hdrC q) true hcl (by omega) (by omega) (by rw [z18 (by omega),Nat.add_sub_cancel_left];rfl)
 have e3:=InsP.is (O++ [some [sgC q.n q.r q.i q.s x],some (hdrs P)]) (O.length+1) (hdrs P) b (hdrC q)
 rw [pl]at e2
 refine callW.mkP (caps:=[]) e2 e3 ?_
 rintro v O3 ⟨t,rfl,ht,htl,hst⟩
 simp only [List.length_append,List.length_cons,List.length_nil]at htl hst
 rw [pl,<-hil]
 rw [<-hih]at ht
 have hp3:O3[p]? =some (some [poC key (.sl r 0 P.length none 36)]):=by rw [hst p (by omega) (by omega),gapp d];exact hp
 have hb3:O3[O.length]? =some (some [sgC q.n q.r q.i q.s x]):=by rw [hst _ (by omega) (by omega),z18 (Nat.le_refl _),Nat.sub_self];rfl
 have d3:=slen hp3
 simp (disch:=first|omega|simp only [lz,lY];try omega) only [go_sem,hp3,l,hput]
 repeat' (first|apply zA rfl|(apply zd_ rfl<;>intro ht<;>try omega)|((first|apply zB rfl|(apply zG<;>intro ht))<;>try simp (disch:=first|omega|simp only [lz,lY];try omega) only [go_sem,hp3,l,g,gk,kl,ql,hcl,hch,hput]))
 have hpt:p ≠ t:=by omega
 refine zlx _ _ p O.length t key P' b q x _ (z2a d3) (by rw [z1h hpt];exact ht) (by rw [z1h (by omega)];exact hb3) (by omega) (by omega) ⟨rfl,t,by omega,z2a d3,by rw [z1h hpt];exact ht,fun j hj hjp=>by rw [z1h (Ne.symm hjp),hst j (by omega) (by omega),gapp hj]⟩ _ (by simp only [go_sem]) (by simp only [go_sem]) (by simp only [go_sem])
theorem zxz(O:Store)(p:Nat)(key:Hash)(q:Hdr)(x:AV)(hp:O[p]? =some (some [poC key .nilsl]))(hx:SlV 32 (hr q.p) x)(hx0:q.p ≠ [])(hxl:q.p.length<1000000)
  (h0:z1s key q.n q.i q.r q.s q.p=0):
  ACallsP TC 14 [.ptr p 0 0,.agg (sgC q.n q.r q.i q.s x)] O (fun a O'=>a=.int .i64 2/\ ∃t,O.length<=t/\ O'[p]? =some (some [poC key (.sl t 0 1 none 36)])/\ O'[t]? =some (some (hdrs [q]))/\ ∀j,j<O.length->j ≠ p->O'[j]? =O[j]?):=by
 have d:=slen hp
 have l:=zx key .nilsl
 have g:=z5y key .nilsl
 have gk:=zbu key .nilsl
 have ql:=zg q.n q.r q.i q.s x
 have hN:=fun y=>z5z (O++y) p key _ (by rw [gapp d];exact hp)
 have hC:=fun O=>zd8 O key q.n q.i q.r q.s q.p x (.of hx)
 have hO:=fun O=>z9l O q.n q.r q.i q.s q.p x hx hxl
 rw [zem hx hx0]at hO
 have hS:=fun O=>zgo O q.n q.r
 rw [h0]at hC
 have hcl:=zi q
 have hput:=fun v=>zf8 key .nilsl v
 have hch:sgC q.n q.r q.i q.s (zz 32 (hr q.p))=hdrC q:=rfl
 refine ACallsP.of_keep zfd (by simp) ?_
 repeat' (first|apply zA rfl|(apply zd_ rfl<;>intro ht<;>try omega)|((first|apply zB rfl|(apply callW.mk_pu;(first|exact(fun _=>hN _)|exact(fun _=>hC _)|exact(fun _=>hS _)|exact(fun _=>zhm _)|exact(fun _=>hO _)))|(apply callW.za;(first|exact(hN _)|exact(hC _)|exact(hS _)|exact(zhm _)|exact(hO _)))|(apply zG<;>intro ht))<;>try simp (disch:=first|omega|simp only [lz,lY];try omega) only [go_sem,hp,l,g,gk,ql,hcl,hch]))
 refine callW.mkP (caps:=[]) (zpr (O++ [some [sgC q.n q.r q.i q.s x]]) (hdrC q) true hcl) ⟨_,_,rfl,rfl⟩ ?_
 rintro v O3 ⟨rfl,rfl⟩
 have hp3:(O++ [some [sgC q.n q.r q.i q.s x]]++ [some [hdrC q]])[p]? =some (some [poC key .nilsl]):=by rw [List.append_assoc,gapp d];exact hp
 have hb3:(O++ [some [sgC q.n q.r q.i q.s x]]++ [some [hdrC q]])[O.length]? =some (some [sgC q.n q.r q.i q.s x]):=by rw [List.append_assoc,z18 (Nat.le_refl _),Nat.sub_self];rfl
 have ht3:(O++ [some [sgC q.n q.r q.i q.s x]]++ [some [hdrC q]])[O.length+1]? =some (some (hdrs [q])):=by rw [List.append_assoc,z18 (by omega),Nat.add_sub_cancel_left];rfl
 have hst:∀j,j<O.length->(O++ [some [sgC q.n q.r q.i q.s x]]++ [some [hdrC q]])[j]? =O[j]?:=fun j hj=>by rw [List.append_assoc,gapp hj]
 have hln:(O++ [some [sgC q.n q.r q.i q.s x]]).length=O.length+1:=by simp
 rw [hln]
 generalize (O++ [some [sgC q.n q.r q.i q.s x]]++ [some [hdrC q]])=O3 at*
 have d3:=slen hp3
 simp (disch:=first|omega|simp only [lz,lY];try omega) only [go_sem,hp3,l,hput]
 repeat' (first|apply zA rfl|(apply zd_ rfl<;>intro ht<;>try omega)|((first|apply zB rfl|(apply zG<;>intro ht))<;>try simp (disch:=first|omega|simp only [lz,lY];try omega) only [go_sem,hp3,l,g,gk,kl,ql,hcl,hch,hput]))
 have hpt:p ≠ O.length+1:=by omega
 have hF:(if z2p [q] 0 q.n then(3:Int)else 2)=2:=if_neg (by simp [z2p])
 refine zlx _ _ p O.length (O.length+1) key [q] 0 q x _ (z2a d3) (by rw [z1h hpt];exact ht3) (by rw [z1h (by omega)];exact hb3) (by simp) (by simp) ⟨by rw [hF],O.length+1,by omega,z2a d3,by rw [z1h hpt];exact ht3,fun j hj hjp=>by rw [z1h (Ne.symm hjp),hst j hj]⟩ _ (by simp only [go_sem]) (by simp only [go_sem]) (by simp only [go_sem];try rfl)
end
section
def addC(key:Hash)(P:List Hdr)(q:Hdr):Int:=
 if z1s key q.n q.i q.r q.s q.p ≠ 0 then 0 else if isP P q.n q.r=true then 1 else if 16<=P.length then 4 else if z2p (insL P q) (lbP P q.n q.r) q.n then 3 else 2
def addL(key:Hash)(P:List Hdr)(q:Hdr):List Hdr:=if addC key P q=2 \/addC key P q=3 then insL P q else P
def PoAddP(O:Store)(p:Nat)(key:Hash)(P:List Hdr)(own:List Nat)(q:Hdr)(a:AV)(O':Store):Prop:=
 a=.int .i64 (addC key P q)/\ ∃own',Fr O O' own own'/\ PoIs O' p key (addL key P q) own'
theorem z6p(P:List Hdr)(q:Hdr):(insL P q).length=P.length+1:=by
 have:=z6r P q.n q.r
 unfold insL
 rw [List.length_append,List.length_cons,List.length_take,List.length_drop];omega
theorem zus{P:List Hdr}(hP:PSort P)(q:Hdr)(h:isP P q.n q.r=false):PSort (insL P q):=
 hP.insert q fun hl e=>by
  have:¬ ∃h:lbP P q.n q.r<P.length,poI P[lbP P q.n q.r].n P[lbP P q.n q.r].r q.n q.r=0:=of_decide_eq_false h
  exact this ⟨hl,e⟩
theorem zqv{key:Hash}{P:List Hdr}(hP:PSort P)(q:Hdr):PSort (addL key P q):=by
 unfold addL
 by_cases h:addC key P q=2 \/addC key P q=3
 ·rw [if_pos h]
  refine zus hP q ?_
  cases h1:isP P q.n q.r with
  |false=>rfl
  |true=>
   exfalso
   unfold addC at h
   by_cases h0:z1s key q.n q.i q.r q.s q.p ≠ 0
   ·rw [if_pos h0]at h;omega
   ·rw [if_neg h0,if_pos h1]at h;omega
 ·rw [if_neg h];exact hP
theorem PoIs.lt{key:Hash}{P:List Hdr}{own:List Nat}(h:PoIs O p key P own){j:Nat}(hj:j ∈ own):j<O.length:=by
 obtain⟨v,sid,rfl,hp,hr,_⟩:=h
 simp only [List.mem_cons,Option.mem_toList]at hj
 rcases hj with rfl|h
 ·exact slen hp
 ·exact hr.lt h
theorem PoIs.keep{key:Hash}{P:List Hdr}{own:List Nat}(h:PoIs O p key P own)(hk:∀j,j ∈ own->O'[j]? =O[j]?):PoIs O' p key P own:=by
 obtain⟨v,sid,rfl,hp,hr,hn⟩:=h
 exact⟨v,sid,rfl,by rw [hk p (by simp)];exact hp,hr.keep fun q e=>hk q (by simp [e]),hn⟩
theorem PoIs.ext{key:Hash}{P:List Hdr}{own:List Nat}(h:PoIs O p key P own)(he:Ext O O'):PoIs O' p key P own:=by
 obtain⟨y,rfl⟩:=he
 exact h.keep fun j hj=>gapp (h.lt hj)
theorem PoAddP.is{key:Hash}{P:List Hdr}{own:List Nat}{q:Hdr}(hT:PoIs O p key P own):∃a O',PoAddP O p key P own q a O':=by
 by_cases h:addC key P q=2 \/addC key P q=3
 ·obtain⟨v,sid,rfl,hp,hr,hn⟩:=hT
  have d:=slen hp
  refine⟨_,O.set p (some [poC key (.sl O.length 0 (insL P q).length none 36)])++ [some (hdrs (insL P q))],rfl,p::Option.toList (some O.length),⟨fun j hj hn=> ?_,fun j hj=> ?_,by simp⟩,?_⟩
  ·rw [gapp (by simpa using hj),z1h (fun e=>hn (by simp [e]))]
  ·simp only [List.mem_cons,Option.mem_toList,Option.some.injEq]at hj ⊢
   rcases hj with h|h
   ·exact .inl (.inl h)
   ·exact .inr (by omega)
  ·unfold addL
   rw [if_pos h]
   exact⟨_,some O.length,rfl,by rw [gapp (by simpa using d),z2a d],.inr ⟨O.length,rfl,fun e=>by have:=congrArg List.length e;rw [zh,z6p]at this;simp at this,by rw [zh],by rw [z18 (by simp)];simp⟩,fun e=>by injection e with e;omega⟩
 ·exact⟨_,O,rfl,own,.ext (.refl _),by unfold addL;rw [if_neg h];exact hT⟩
theorem PSort.nil:PSort []:=fun i j hi hj hij=>by simp at hi
theorem zf7(O:Store)(p:Nat)(key:Hash)(P:List Hdr)(own:List Nat)(q:Hdr)(x:AV)(hT:PoIs O p key P own)(hs:PSort P)(hl:P.length<=16)(hx:SlV 32 (hr q.p) x)(hxl:q.p.length<1000000)(hx0:z1s key q.n q.i q.r q.s q.p=0->q.p ≠ []):
  ACallsP TC 14 [.ptr p 0 0,.agg (sgC q.n q.r q.i q.s x)] O (PoAddP O p key P own q):=by
 have hT':=hT
 obtain⟨v,sid,rfl,hp,hr1,hn⟩:=hT'
 have no:∀e,addC key P q=e->e ≠ 2->e ≠ 3->PoAddP O p key P (p::Option.toList sid) q (.int .i64 e) O:=fun e he h2 h3=>
  ⟨by rw [he],_,.ext (.refl _),by unfold addL;rw [if_neg (by omega)];exact hT⟩
 by_cases h0:z1s key q.n q.i q.r q.s q.p ≠ 0
 ·exact(zf6 O p key v sid P q x 0 hp hr1 hs (by omega) hx (.inl ⟨h0,rfl⟩)).toP (no 0 (by unfold addC;rw [if_pos h0]) (by omega) (by omega))
 have h0':z1s key q.n q.i q.r q.s q.p=0:=by omega
 cases h1:isP P q.n q.r with
 |true=>exact(zf6 O p key v sid P q x 1 hp hr1 hs (by omega) hx (.inr (.inl ⟨h0',h1,rfl⟩))).toP (no 1 (by unfold addC;rw [if_neg h0,if_pos h1]) (by omega) (by omega))
 |false=>
 by_cases h2:16<=P.length
 ·exact(zf6 O p key v sid P q x 4 hp hr1 hs (by omega) hx (.inr (.inr ⟨h0',h1,h2,rfl⟩))).toP (no 4 (by unfold addC;rw [if_neg h0,if_neg (by rw [h1];simp),if_pos h2]) (by omega) (by omega))
 have hc:addC key P q=if z2p (insL P q) (lbP P q.n q.r) q.n then 3 else 2:=by unfold addC;rw [if_neg h0,if_neg (by rw [h1];simp),if_neg h2]
 have hL:addL key P q=insL P q:=by unfold addL;rw [hc];split<;>simp
 have fin:∀(O':Store) t,O.length<=t->O'[p]? =some (some [poC key (.sl t 0 (insL P q).length none 36)])->O'[t]? =some (some (hdrs (insL P q)))->(∀j,j<O.length->j ≠ p->O'[j]? =O[j]?)->
   ∃own',Fr O O' (p::Option.toList sid) own'/\ PoIs O' p key (addL key P q) own':=by
  intro O' t ht g1 g2 g3
  have dt:=slen g2
  have dp:=slen hp
  refine⟨p::Option.toList (some t),⟨fun j hj hn=>g3 j hj fun e=>hn (by simp [e]),fun j hj=> ?_,by omega⟩,?_⟩
  ·simp only [List.mem_cons,Option.mem_toList,Option.some.injEq]at hj ⊢
   rcases hj with h|h
   ·exact .inl (.inl h)
   ·exact .inr (by omega)
  ·rw [hL]
   exact⟨_,some t,rfl,g1,.inr ⟨t,rfl,fun e=>by have:=congrArg List.length e;rw [zh,z6p]at this;simp at this,by rw [zh],g2⟩,fun e=>by injection e with e;omega⟩
 rcases hr1 with⟨rfl,e0,rfl⟩| ⟨r,rfl,hne,rfl,hg⟩
 ·have hP:P=[]:=List.eq_nil_of_length_eq_zero (by rw [<-zh,e0];rfl)
  subst hP
  refine ACallsP.mono (zxz O p key q x hp hx (hx0 h0') hxl h0') fun a O' ⟨ha,t,ht,g1,g2,g3⟩=>⟨?_,fin O' t ht g1 g2 g3⟩
  rw [ha,hc,if_neg (by simp [z2p,insL,lbP])]
 ·have hP:P ≠ []:=fun e=>hne (by rw [e];rfl)
  rw [zh]at hp
  refine ACallsP.mono (zy0 O p key r P q x hp hg hP (fun e=>hn (by rw [e])) hs (by omega) hx (hx0 h0') hxl h0' h1) fun a O' ⟨ha,t,ht,g1,g2,g3⟩=>⟨?_,fin O' t ht g1 g2 g3⟩
  rw [ha,hc]
end
section
def kn(P:List Hdr):List (List AV):=P.map fun q=> .int .i64 q.n::hc q.r
theorem zj(P:List Hdr):(kn P).length=P.length:=by simp [kn]
theorem zni(P:List Hdr):RLss k (kn P):=by
 induction P with
 |nil=>simp [kn,RLss]
 |cons q P ih=>
  show RLss k ((.int .i64 q.n::hc q.r)::kn P)
  simp only [RLss]
  exact⟨by simp only [RLs,RL];exact⟨trivial,z65 q.r⟩,ih⟩
attribute [local irreducible] ACallsTo ACallsP
theorem zfa(O:Store)(p:Nat)(key:Hash)(P:List Hdr)(own:List Nat)(hT:PoIs O p key P own)(hl:P.length<1000000):ACallsTo TC 29 [.ptr p 0 0] O (zz 33 (kn P)) O:=by
 obtain⟨v,sid,rfl,hp,hr1,hn⟩:=hT
 have d:=slen hp
 have l:=zx key v
 have g:=z5y key v
 have r1:=hr1.rd.len
 rw [zh]at r1
 unfold z1f at r1
 have hN0:=z5z O p key v hp
 refine ACallsTo.of_body q29ok (by simp) fun hw _=> ?_
 repeat' (first|apply zA rfl|(apply zd_ rfl<;>intro ht<;>try omega)|((first|apply zB rfl|(apply callW.mk_pu;(first|exact(fun _=>hN0)|exact(fun _=>hN _)))|(apply callW.za;(first|exact(hN0)|exact(hN _)))|(apply zG<;>intro ht))<;>try simp (disch:=first|omega|simp only [lz,z8,zg,zi,zh,zx,zj,lQt,lQd,List.length_replicate];try omega) only [go_sem,hp,g,r1]))
 refine zW.loop (fun m J O'=>∃(i:Nat) (w:AV),m+i=P.length/\ OwnN 33 O O' w (kn (P.take i))/\ J 3=w/\ J 11=v/\ J 12=.int .i64 P.length/\ J 13=.int .i64 i) P.length ?_ ?_
 ·exact⟨0,.nilsl,by omega,⟨[],by simp,.inl ⟨rfl,rfl⟩⟩,by simp only [go_sem],by simp only [go_sem],by simp only [go_sem],by simp only [go_sem];try rfl⟩
 ·rintro m J O' ⟨i,w,hm,hO,q3,q11,q12,q13⟩
  by_cases hi:i<P.length
  ·rcases hr1 with⟨_,h0,_⟩| ⟨q,_,hne,rfl,hq⟩
   ·have:=congrArg List.length h0;rw [zh]at this;simp at this;rw [this]at hi;simp at hi
   rw [zh]at q11 l g
   have dq:=slen hq
   obtain⟨news,hnews⟩:=hO.ext
   have hq':O'[q]? =some (some (hdrs P)):=by rw [hnews,gapp dq];exact hq
   have hg:=z9f hi
   have hsl:=zg P[i].n P[i].r P[i].i P[i].s (zz 32 (hr P[i].p))
   obtain⟨w',O2,ha,hO2⟩:=(hO.more [some [sgC P[i].n P[i].r P[i].i P[i].s (zz 32 (hr P[i].p))]]).app (ys:=[.int .i64 P[i].n::hc P[i].r]) (by simp) (by rw [zj,List.length_take];simp;omega)
   have hcat:kn (P.take i)++ [.int .i64 P[i].n::hc P[i].r]=kn (P.take (i+1)):=by rw [List.take_succ_eq_append_getElem hi];unfold kn;rw [List.map_append];rfl
   rw [hcat]at hO2
   have pl:=zh P
   have rl:=z8 P[i].r
   generalize P[i]=u at*
   repeat' (first|apply zA rfl|(apply zd_ rfl<;>intro ht<;>try omega)|((first|apply zB rfl|(apply zG<;>intro ht))<;>try simp (disch:=first|omega|simp only [lz,z8,zg,zi,zh,zx,zj,lQt,lQd,List.length_replicate];try omega) only [go_sem,q3,q11,q12,q13,hq',hg,hsl,pl,rl,ha]))
   exact⟨m-1,by omega,i+1,w',by omega,hO2,by simp⟩
  ·obtain rfl:i=P.length:=by omega
   rw [List.take_of_length_le (Nat.le_refl _)]at hO
   repeat' (first|apply zA rfl|(apply zd_ rfl<;>intro ht<;>try omega)|((first|apply zB rfl|(apply zG<;>intro ht))<;>try simp (disch:=first|omega|simp only [lz,z8,zg,zi,zh,zx,zj,lQt,lQd,List.length_replicate];try omega) only [go_sem,q3,q12,q13]))
   exact hO.froze hw (zni P)
end
section
def rb(b:UInt8):Hash:=⟨b::List.replicate 31 0,rfl⟩
def z3k(seed:List UInt8)(i:Nat)(n:Int)(r:Hash):Hdr:=⟨n,r,i,ksgS seed i (digH n r).1,z24 (keyL seed) i⟩
theorem z10k(seed:List UInt8)(i:Nat)(n:Int)(r:Hash)(hi:i<8)(hn:0<=n/\ n<=4096):z1s (z1o (keyL seed)) (z3k seed i n r).n (z3k seed i n r).i (z3k seed i n r).r (z3k seed i n r).s (z3k seed i n r).p=0:=by
 have hv:z1w (z3k seed i n r).n (z3k seed i n r).i (z3k seed i n r).s (z3k seed i n r).p=true:=decide_eq_true ⟨hn.1,hn.2,by simp only [z3k];omega,by simp only [z3k];omega,zen _ _ _,zbt _ _⟩
 unfold z1s
 rw [hv,if_neg (by simp)]
 exact if_pos (z139 seed i hi _)
theorem zed{key:Hash}{n i:Int}{r:Hash}{p:List Hash}(h:z1s key n i r s p=0):p.length=3:=by
 unfold z1s at h
 cases hv:z1w n i s p with
 |true=>exact(of_decide_eq_true hv).2.2.2.2.2
 |false=>
  rw [hv,if_pos rfl]at h
  omega
end
section
theorem isP_at{P:List Hdr}{m:Int}{k:Hash}{b:Nat}(hb:lbP P m k=b):isP P m k=decide (∃h:b<P.length,poI P[b].n P[b].r m k=0):=by subst hb;rfl
theorem zqs{key:Hash}{P:List Hdr}{q:Hdr}{b:Nat}(h0:z1s key q.n q.i q.r q.s q.p=0)(hb:lbP P q.n q.r=b)(h1:¬ ∃h:b<P.length,poI P[b].n P[b].r q.n q.r=0)(h2:P.length<16):
  addC key P q=(if z2p (P.take b++q::P.drop b) b q.n then 3 else 2)/\ addL key P q=P.take b++q::P.drop b:=by
 have hi:insL P q=P.take b++q::P.drop b:=by unfold insL;rw [hb]
 have hc:addC key P q=if z2p (P.take b++q::P.drop b) b q.n then 3 else 2:=by
  unfold addC
  rw [if_neg (by omega),if_neg (by rw [isP_at hb,decide_eq_false h1];simp),if_neg (by omega),hi,hb]
 refine⟨hc,?_⟩
 unfold addL
 rw [hc,if_pos (by split<;>simp),hi]
end
section
theorem z30(h:Hdr):(hdrC h).take 36=hdrC h:=List.take_of_length_le (by rw [zi];omega)
attribute [local irreducible] ACallsTo ACallsP z11u
end
section
theorem z6n(h:Hdr):(hdrC h).take 33=.int .i64 h.n::hc h.r:=z9y _ _ _ _ _
end
section
theorem zbm(l:List Hash):knil (hr l) (zz 32 (hr l))=zz 32 (hr l):=by
 by_cases h:l=[]
 ·subst h;rfl
 ·exact zem (z1l _ _) h
theorem ACallsTo.wfd{args:List AV}(h:Wf O.length O->ACallsTo C f args O v O'):ACallsTo C f args O v O':=fun Z w cargs hR ha=>h hR.wf Z w cargs hR ha
attribute [local irreducible] ACallsTo ACallsP
theorem zly(O:Store)(p:Nat)(key:Hash)(P:List Hdr)(own:List Nat)(hT:PoIs O p key P own)(hl:P.length<1000000)(hp:∀h ∈ P,h.p.length<1000000)(V:AV)(σV:Store)
  (fin:∀O' v,OwnN 36 O O' v (hdrs P)->DownV O.length v O' V σV):
  ACallsTo TC 46 [.ptr p 0 0] O V σV:=by
 obtain⟨v,sid,rfl,hpp,hr1,hn⟩:=hT
 have d:=slen hpp
 have l:=zx key v
 have g:=z5y key v
 have r1:=hr1.rd.len
 rw [zh]at r1
 unfold z1f at r1
 have hN0:=z5z O p key v hpp
 refine ACallsTo.of_body q2dok (by simp) fun hw _=> ?_
 repeat' (first|apply zA rfl|(apply zd_ rfl<;>intro ht<;>try omega)|((first|apply zB rfl|(apply callW.mk_pu;(first|exact(fun _=>hN0)|exact(fun _=>hN _)))|(apply callW.za;(first|exact(hN0)|exact(hN _)))|(apply zG<;>intro ht))<;>try simp (disch:=first|omega|simp only [lz,z8,zg,zi,zh,zx,zj,lQt,lQd,List.length_replicate];try omega) only [go_sem,hpp,g,r1]))
 refine zW.loop (fun m J O'=>∃(i:Nat) (w:AV),m+i=P.length/\ OwnN 36 O O' w (hdrs (P.take i))/\ J 3=w/\ J 11=v/\ J 12=.int .i64 P.length/\ J 13=.int .i64 i) P.length ?_ ?_
 ·exact⟨0,.nilsl,by omega,⟨[],by simp,.inl ⟨rfl,rfl⟩⟩,by simp only [go_sem],by simp only [go_sem],by simp only [go_sem],by simp only [go_sem];try rfl⟩
 ·rintro m J O' ⟨i,w,hm,hO,q3,q11,q12,q13⟩
  by_cases hi:i<P.length
  ·rcases hr1 with⟨_,h0,_⟩| ⟨q,_,hne,rfl,hq⟩
   ·have:=congrArg List.length h0;rw [zh]at this;simp at this;rw [this]at hi;simp at hi
   rw [zh]at q11 l g
   have dq:=slen hq
   obtain⟨news,hnews⟩:=hO.ext
   have hq':O'[q]? =some (some (hdrs P)):=by rw [hnews,gapp dq];exact hq
   have hgi:=z2w hi
   have hst:=zkj hi
   have hph:=hp P[i] (List.getElem_mem hi)
   have hdl:=zh P
   generalize P[i]=u at*
   obtain⟨w',O2,ha,hO2⟩:=(hO.more [some [hdrC u]]).app (ys:=[hdrC u]) (by simp) (by rw [zh,List.length_take];simp;omega)
   rw [hst]at hO2
   have hC:=fun O=>z9l O u.n u.r u.i u.s u.p (zz 32 (hr u.p)) (z1l _ _) hph
   rw [zbm,show sgC u.n u.r u.i u.s (zz 32 (hr u.p))=hdrC u from rfl]at hC
   have hcl:=zi u
   repeat' (first|apply zA rfl|(apply zd_ rfl<;>intro ht<;>try omega)|((first|apply zB rfl|(apply callW.mk_pu;exact(fun _=>hC _))|(apply callW.za;exact(hC _))|(apply zG<;>intro ht))<;>try simp (disch:=first|omega|simp only [lz,z8,zg,zi,zh,zx,zj,lQt,lQd,List.length_replicate];try omega) only [go_sem,q3,q11,q12,q13,hq',hgi,hcl,hdl,ha]))
   exact⟨m-1,by omega,i+1,w',by omega,hO2,by simp⟩
  ·obtain rfl:i=P.length:=by omega
   rw [List.take_of_length_le (Nat.le_refl _)]at hO
   repeat' (first|apply zA rfl|(apply zd_ rfl<;>intro ht<;>try omega)|((first|apply zB rfl|(apply zG<;>intro ht))<;>try simp (disch:=first|omega|simp only [lz,z8,zg,zi,zh,zx,zj,lQt,lQd,List.length_replicate];try omega) only [go_sem,q3,q12,q13]))
   exact fin _ _ hO
theorem zf9(O:Store)(p:Nat)(key:Hash)(P:List Hdr)(own:List Nat)(hT:PoIs O p key P own)(hl:P.length<1000000)(hp:∀h ∈ P,h.p.length<1000000):ACallsTo TC 46 [.ptr p 0 0] O (zz 36 (hdrs P)) O:=by
 refine ACallsTo.wfd fun hw=> ?_
 exact zly O p key P own hT hl hp _ _ fun O' v hO=>hO.froze hw (z66 P)
theorem zy5(O:Store)(p:Nat)(key:Hash)(P:List Hdr)(own:List Nat)(hT:PoIs O p key P own)(hl:P.length<1000000)(hp:∀h ∈ P,h.p.length<1000000):ACallsTo TC 46 [.ptr p 0 0] O (ownV O 36 (hdrs P)) (ownS O (hdrs P)):=by
 refine ACallsTo.wfd fun hw=> ?_
 exact zly O p key P own hT hl hp _ _ fun O' v hO=>hO.own hw (z66 P)
end
section
def hdr0:Hdr:=⟨0,zeroH,0,[],[]⟩
theorem hdrC_0:hdrC hdr0=[.int .i64 0,.int .u8 0,.int .u8 0,.int .u8 0,.int .u8 0,.int .u8 0,.int .u8 0,.int .u8 0,.int .u8 0,.int .u8 0,.int .u8 0,.int .u8 0,.int .u8 0,.int .u8 0,.int .u8 0,.int .u8 0,.int .u8 0,.int .u8 0,.int .u8 0,.int .u8 0,.int .u8 0,.int .u8 0,.int .u8 0,.int .u8 0,.int .u8 0,.int .u8 0,.int .u8 0,.int .u8 0,.int .u8 0,.int .u8 0,.int .u8 0,.int .u8 0,.int .u8 0,.int .i64 0,.str [],.nilsl]:=rfl
def noF(P:List Hdr)(i:Nat):Prop:=∀k,k+1<i->(P[k]?).map Hdr.n ≠ (P[k+1]?).map Hdr.n
theorem zex{P:List Hdr}(h:noF P i)(hi:0<i)(hn:(P[i-1]?).map Hdr.n ≠ (P[i]?).map Hdr.n):noF P (i+1):=fun k hk=>by
 by_cases e:k+1<i
 ·exact h k e
 ·obtain rfl:k=i-1:=by omega
  rw [show i-1+1=i by omega];exact hn
def z99(P:List Hdr):Option Nat->AV
 |none=> .tup [.agg (hdrC hdr0),.agg (hdrC hdr0),.bool false]
 |some j=> .tup [.agg (hdrC (P.getD j hdr0)),.agg (hdrC (P.getD (j+1) hdr0)),.bool true]
def ForkIs(P:List Hdr):Option Nat->Prop
 |none=>noF P P.length
 |some j=>j+1<P.length/\ (P[j]?).map Hdr.n=(P[j+1]?).map Hdr.n/\ noF P (j+1)
theorem ForkIs.ex(P:List Hdr):∃o,ForkIs P o:=by
 have:∀i,i<=P.length->(∃j,ForkIs P (some j)) \/noF P i:=by
  intro i
  induction i with
  |zero=>exact fun _=> .inr fun k hk=>by omega
  |succ i ih=>
   intro hi
   rcases ih (by omega)with h|h
   ·exact .inl h
   ·rcases Nat.eq_zero_or_pos i with rfl|h0
    ·exact .inr fun k hk=>by omega
    ·by_cases he:(P[i-1]?).map Hdr.n=(P[i]?).map Hdr.n
     ·exact .inl ⟨i-1,by omega,by rw [show i-1+1=i by omega];exact he,by rw [show i-1+1=i by omega];exact h⟩
     ·exact .inr (zex h h0 he)
 rcases this P.length (Nat.le_refl _)with⟨j,h⟩|h
 ·exact⟨some j,h⟩
 ·exact⟨none,h⟩
attribute [local irreducible] ACallsTo ACallsP
theorem zy3(O:Store)(p:Nat)(key:Hash)(P:List Hdr)(own:List Nat)(o:Option Nat)(hT:PoIs O p key P own)(ho:ForkIs P o)(hl:P.length<1000000)(hp:∀h ∈ P,h.p.length<1000000):
  ACallsTo TC 31 [.ptr p 0 0] O (z99 P o) O:=by
 obtain⟨v,sid,rfl,hpp,hr1,hn⟩:=hT
 have d:=slen hpp
 have l:=zx key v
 have g:=z5y key v
 have r1:=hr1.rd.len
 rw [zh]at r1
 unfold z1f at r1
 have z:=hdrC_0
 have zl:=zi hdr0
 have zd:List.drop 36 (hdrC hdr0)=[]:=rfl
 have hN:=fun y=>z5z (O++y) p key v (by rw [gapp d];exact hpp)
 refine ACallsTo.of_body q2bok (by simp) fun hw _=> ?_
 repeat' (first|apply zA rfl|(apply zd_ rfl<;>intro ht<;>try omega)|((first|apply zB rfl|(apply callW.mk_pu;exact(fun _=>hN _))|(apply callW.za;exact(hN _))|(apply zG<;>intro ht))<;>try simp (disch:=first|omega|simp only [lz,z8,zg,zi,zh,zx,zj,lQt,lQd,List.length_replicate];try omega) only [go_sem]))
 simp only [<-z]
 refine zW.loop (fun m J O'=>∃i:Nat,m+i=P.length+1/\ 0<i/\ (i<=P.length \/P=[])/\ O'=O++ [some [hdrC hdr0],some [hdrC hdr0]]/\ noF P i/\ J 0=.ptr p 0 0/\ J 2=.ptr O.length 0 0/\ J 3=.ptr (O.length+1) 0 0/\ J 5=.int .i64 i) P.length ?_ ?_
 ·exact⟨1,by omega,by omega,by rcases P with _| ⟨a,P⟩;exact .inr rfl;exact .inl (by simp),rfl,fun k hk=>by omega,by simp only [go_sem],by simp only [go_sem],by simp only [go_sem];try rfl,by simp only [go_sem];try rfl⟩
 ·rintro m J O' ⟨i,hm,hi0,hi1,rfl,hF,q0,q2,q3,q5⟩
  by_cases hi:i<P.length
  ·rcases hr1 with⟨_,h0,_⟩| ⟨q,_,hne,rfl,hq⟩
   ·have:=congrArg List.length h0;rw [zh]at this;simp at this;rw [this]at hi;simp at hi
   rw [zh]at hpp l g
   have dq:=slen hq
   have hdl:=zh P
   have hga:=z2w (H:=P) (i:=i-1) (by omega)
   have hgb:=z2w hi
   have ea:P[i-1]? =some P[i-1]:=List.getElem?_eq_getElem (by omega)
   have eb:P[i]? =some P[i]:=List.getElem?_eq_getElem hi
   have hpa:=hp P[i-1] (List.getElem_mem _)
   have hpb:=hp P[i] (List.getElem_mem hi)
   have hk:(i:Int)-1=((i-1:Nat):Int):=by omega
   by_cases he:P[i-1].n=P[i].n
   ·have hj:o=some (i-1):=by
     cases o with
     |none=>
      exfalso
      have:=ho (i-1) (by omega)
      rw [show i-1+1=i by omega,ea,eb]at this
      exact this (by simp [he])
     |some j=>
      obtain⟨h1,h2,h3⟩:=ho
      by_cases h4:j<i-1
      ·exact absurd h2 (hF j (by omega))
      ·by_cases h5:i-1<j
       ·have:=h3 (i-1) (by omega)
        rw [show i-1+1=i by omega,ea,eb]at this
        exact absurd (by simp [he]) this
       ·congr 1;omega
    subst hj
    have hV:z99 P (some (i-1))=.tup [.agg (hdrC P[i-1]),.agg (hdrC P[i]),.bool true]:=by
     simp only [z99,show i-1+1=i by omega]
     rw [List.getD_eq_getElem?_getD,List.getD_eq_getElem?_getD,ea,eb];rfl
    rw [hV]
    generalize P[i-1]=a at*
    generalize P[i]=b at*
    have hCa:=fun O=>z9l O a.n a.r a.i a.s a.p (zz 32 (hr a.p)) (z1l _ _) hpa
    rw [zbm,show sgC a.n a.r a.i a.s (zz 32 (hr a.p))=hdrC a from rfl]at hCa
    have hCb:=fun O=>z9l O b.n b.r b.i b.s b.p (zz 32 (hr b.p)) (z1l _ _) hpb
    rw [zbm,show sgC b.n b.r b.i b.s (zz 32 (hr b.p))=hdrC b from rfl]at hCb
    have la:=zi a
    have lb:=zi b
    have na:(hdrC a)[0]? =some (.int .i64 a.n):=rfl
    have nb:(hdrC b)[0]? =some (.int .i64 b.n):=rfl
    have he':(a.n==b.n)=true:=beq_iff_eq.2 he
    have hrla:=z84 (k:=O.length) a
    have hrlb:=z84 (k:=O.length) b
    repeat' (first|apply zA rfl|(apply zd_ rfl<;>intro ht<;>try omega)|((first|apply zB rfl|(apply callW.mk_pu;(first|exact(fun _=>hCa _)|exact(fun _=>hCb _)))|(apply callW.za;(first|exact(hCa _)|exact(hCb _)))|(apply zG<;>intro ht))<;>try simp (disch:=first|omega|simp only [lz,z8,zg,zi,zh,zx,zj,lQt,lQd,List.length_replicate];try omega) only [go_sem,q0,q2,q3,q5,hpp,g,hq,hga,hgb,hk,la,lb,na,nb,zl,zd,List.append_nil,he']))
    refine DownV.pure hw ?_
    simp only [RL,RLs];exact⟨hrla,hrlb,trivial,trivial⟩
   ·have hF2:=zex hF hi0 (by rw [ea,eb];simpa using he)
    generalize P[i-1]=a at*
    generalize P[i]=b at*
    have na:(hdrC a)[0]? =some (.int .i64 a.n):=rfl
    have nb:(hdrC b)[0]? =some (.int .i64 b.n):=rfl
    have he':(a.n==b.n)=false:=beq_eq_false_iff_ne.2 he
    repeat' (first|apply zA rfl|(apply zd_ rfl<;>intro ht<;>try omega)|((first|apply zB rfl|(apply zG<;>intro ht))<;>try simp (disch:=first|omega|simp only [lz,z8,zg,zi,zh,zx,zj,lQt,lQd,List.length_replicate];try omega) only [go_sem,q0,q2,q3,q5,hpp,g,hq,hga,hgb,hk,na,nb,he']))
    exact⟨m-1,by omega,i+1,by omega,by omega,.inl (by omega),hF2,by simp⟩
  ·have hnF:noF P P.length:=by
    rcases hi1 with h|h
    ·obtain rfl:i=P.length:=by omega
     exact hF
    ·subst h;exact fun k hk=>by simp at hk
   have hj:o=none:=by
    cases o with
    |none=>rfl
    |some j=>
     obtain⟨h1,h2,h3⟩:=ho
     exact absurd h2 (hnF j h1)
   subst hj
   have hrlz:=z84 (k:=O.length) hdr0
   have hi':¬(i:Int)<P.length:=by omega
   repeat' (first|apply zA rfl|(apply zd_ rfl<;>intro ht<;>try omega)|((first|apply zB rfl|(apply zG<;>intro ht))<;>try simp (disch:=first|omega|simp only [lz,z8,zg,zi,zh,zx,zj,lQt,lQd,List.length_replicate];try omega) only [go_sem,q0,q2,q3,q5,hpp,g,r1,zl,hi']))
   refine DownV.pure hw ?_
   simp only [RL,RLs];exact⟨hrlz,hrlz,trivial,trivial⟩
end
section
def hns(P:List Hdr):List (Int × Hash):=P.map fun q=>(q.n,q.r)
theorem z7r(P:List Hdr):(hns P).length=P.length:=by simp [hns]
theorem kn_get{P:List Hdr}(h:i<P.length):(kn P)[i]? =some (.int .i64 P[i].n::hc P[i].r):=by
 simp [kn,List.getElem?_eq_getElem h]
attribute [local irreducible] ACallsTo ACallsP
def PoCopyP(O:Store)(key:Hash)(P:List Hdr)(v:AV)(O':Store):Prop:=
 ∃p own,v=.ptr p 0 0/\ Ext O O'/\ PoIs O' p key P own/\ ∀j ∈ own,O.length<=j
theorem PoCopyP.at(O:Store)(key:Hash)(P:List Hdr):PoCopyP O key P (.ptr (ownS O (hdrs P)).length 0 0) (ownS O (hdrs P)++ [some [poC key (ownV O 36 (hdrs P))]]):=by
 by_cases h:hdrs P=[]
 ·have e1:ownS O (hdrs P)=O:=by unfold ownS;rw [if_pos h]
  have e2:ownV O 36 (hdrs P)=.nilsl:=by unfold ownV;rw [if_pos h]
  rw [e1,e2]
  exact⟨_,[O.length],rfl,⟨_,rfl⟩,⟨.nilsl,none,rfl,by rw [z18 (Nat.le_refl _),Nat.sub_self];rfl,.inl ⟨rfl,h,rfl⟩,by simp⟩,by simp⟩
 ·have e1:ownS O (hdrs P)=O++ [some (hdrs P)]:=by unfold ownS;rw [if_neg h]
  have e2:ownV O 36 (hdrs P)=.sl O.length 0 (hdrs P).length none 36:=by unfold ownV;rw [if_neg h]
  rw [e1,e2]
  refine⟨O.length+1,[O.length+1,O.length],by simp,⟨[some (hdrs P),some [poC key (.sl O.length 0 (hdrs P).length none 36)]],by simp⟩,⟨_,some O.length,rfl,?_,.inr ⟨O.length,rfl,h,rfl,?_⟩,by simp⟩,by simp⟩
  ·rw [z18 (by simp)];simp
  ·rw [List.append_assoc,z18 (Nat.le_refl _),Nat.sub_self];rfl
theorem PoCopyP.is(O:Store)(key:Hash)(P:List Hdr):∃v O',PoCopyP O key P v O':=⟨_,_,.at O key P⟩
theorem zy1(O:Store)(p:Nat)(key:Hash)(P:List Hdr)(own:List Nat)(hT:PoIs O p key P own)(hl:P.length<1000000)(hp:∀h ∈ P,h.p.length<1000000):
  ACallsP TC 13 [.ptr p 0 0] O (PoCopyP O key P):=by
 have hH:=zy5 O p key P own hT hl hp
 have hat:=PoCopyP.at O key P
 have hcell:cellsOf (ownV O 36 (hdrs P))=some [ownV O 36 (hdrs P)]:=by unfold ownV;split<;>rfl
 unfold cellsOf at hcell
 obtain⟨v,sid,rfl,hpp,hr1,hn⟩:=hT
 have d:=slen hpp
 have l:=zx key v
 have gk:=zbu key v
 have kl:=z8 key
 have hN:=z5z O p key v hpp
 refine ACallsP.of_keep q2eok (by simp) ?_
 repeat' (first|apply zA rfl|(apply zd_ rfl<;>intro ht<;>try omega)|((first|apply zB rfl|(apply callW.mk_pu;exact(fun _=>hN))|(apply callW.za;exact(hN))|(apply zG<;>intro ht))<;>try simp (disch:=first|omega|simp only [lz,z8,zg,zi,zh,zx,zj,lQt,lQd,List.length_replicate];try omega) only [go_sem,hpp,l,gk]))
 refine callW.mkP_ef (caps:=[]) (hH.toP (P:=fun v O'=>v=ownV O 36 (hdrs P)/\ O'=ownS O (hdrs P)) ⟨rfl,rfl⟩) ⟨_,_,rfl,rfl⟩ ?_
 rintro w O2 ⟨rfl,rfl⟩
 have hp2:(ownS O (hdrs P))[p]? =some (some [poC key v]):=by
  unfold ownS
  split
  ·exact hpp
  ·rw [gapp d];exact hpp
 have fx:z1e (AV.bool true::(hc key++ [AV.nilsl])) [(33,1,ownV O 36 (hdrs P))]=some (poC key (ownV O 36 (hdrs P))):=by
  simp only [z1e,cellsOf,hcell,Option.bind_some]
  rw [if_pos ⟨rfl,by simp [z8]⟩]
  unfold z1i
  congr 1
  rw [List.append_assoc]
  exact zf8 key .nilsl (ownV O 36 (hdrs P))
 generalize ownV O 36 (hdrs P)=w at*
 generalize ownS O (hdrs P)=O2 at*
 refine⟨by simp (disch:=first|omega|simp only [lz,z8,zg,zi,zh,zx,zj,lQt,lQd,List.length_replicate];try omega) only [go_sem,hp2,l,gk],?_⟩
 simp (disch:=first|omega|simp only [lz,z8,zg,zi,zh,zx,zj,lQt,lQd,List.length_replicate];try omega) only [go_sem,kl,fx]
 repeat' (first|apply zA rfl|(apply zd_ rfl<;>intro ht<;>try omega)|((first|apply zB rfl|(apply zG<;>intro ht))<;>try simp (disch:=first|omega|simp only [lz,z8,zg,zi,zh,zx,zj,lQt,lQd,List.length_replicate];try omega) only [go_sem]))
 exact hat
end
section
def rt2(b:UInt8):Hash:=⟨b::7::List.replicate 30 0,rfl⟩
theorem zkg(b:UInt8):hc (rt2 b)=[.int .u8 b.toNat,.int .u8 7,.int .u8 0,.int .u8 0,.int .u8 0,.int .u8 0,.int .u8 0,.int .u8 0,.int .u8 0,.int .u8 0,.int .u8 0,.int .u8 0,.int .u8 0,.int .u8 0,.int .u8 0,.int .u8 0,.int .u8 0,.int .u8 0,.int .u8 0,.int .u8 0,.int .u8 0,.int .u8 0,.int .u8 0,.int .u8 0,.int .u8 0,.int .u8 0,.int .u8 0,.int .u8 0,.int .u8 0,.int .u8 0,.int .u8 0,.int .u8 0]:=rfl
def zbc(s:List UInt8)(k:Nat):List UInt8:=s.set k (s.getD k 0^^^1)
def z3j(a:Nat):Int:=1+((a%6:Nat):Int)
def z3f(r:Nat):Hash:=rt2 (UInt8.ofNat (r%3))
def z42(seed:List UInt8)(a r k b:Nat):Hdr:=
 let h:=z3k seed (k%8) (z3j a) (z3f r)
 if b%8=0 then { h with s:=zbc h.s k }else h
theorem zgp(seed:List UInt8)(a r k b:Nat)(hb:b%8 ≠ 0):z42 seed a r k b=z3k seed (k%8) (z3j a) (z3f r):=if_neg hb
theorem znv(seed:List UInt8)(a r k b:Nat)(hb:b%8=0):z42 seed a r k b=⟨z3j a,z3f r,(k%8:Nat),zbc (ksgS seed (k%8:Nat) (digH (z3j a) (z3f r)).1) k,z24 (keyL seed) (k%8)⟩:=if_pos hb
theorem z107(seed:List UInt8)(a r k b:Nat):(z42 seed a r k b).p.length=3:=by
 by_cases hb:b%8=0
 ·rw [znv seed a r k b hb];exact zbt _ _
 ·rw [zgp seed a r k b hb];exact zbt _ _
theorem xor_b1(a:UInt8):z1d .xor .u8 (a.toNat:Int) 1=some (.int .u8 ((a^^^1).toNat:Int)):=by
 rw [zks ⟨by omega,by have:=a.toNat_lt;omega⟩ ⟨by omega,by omega⟩];simp
theorem zre(s:List UInt8)(i:Nat)(x:UInt8):(zy s).set i [.int .u8 (x.toNat:Int)]=zy (s.set i x):=by
 rw [zir ⟨by omega,by have:=x.toNat_lt;omega⟩];simp
attribute [local irreducible] ACallsTo ACallsP
theorem znw(O:Store)(t:Nat)(seed:List UInt8)(a r k b:Nat)(ht:O[t]? =some (some [z1m true seed (keyL seed)]))(hs:seed.length<1000000)(ha:a<256)(hr0:r<256)(hk:k<256)(hb:b<256):
  ACallsTo TC 12 [.agg [.int .u8 a,.int .u8 r,.int .u8 k,.int .u8 b],.ptr t 0 0] O (.agg (hdrC (z42 seed a r k b))) O:=by
 have d:=slen ht
 have hn:z3j a=1+((a%6:Nat):Int):=rfl
 have hD:=fun O=>zn2 O (z3j a) (z3f r)
 have hS:=fun y=>z12x (O++y) t seed (keyL seed) (k%8) (digH (z3j a) (z3f r)) (by rw [gapp d];exact ht) (z3r seed) (by omega) hs
 unfold zgn at hS
 have hh:=zkg (UInt8.ofNat (r%3))
 rw [show rt2 (UInt8.ofNat (r%3))=z3f r from rfl]at hh
 have hu:(UInt8.ofNat (r%3)).toNat=r%3:=by rw [UInt8.toNat_ofNat'];omega
 rw [hu]at hh
 have e1:((a:Int))%6=((a%6:Nat):Int):=by omega
 have e2:((r:Int))%3=((r%3:Nat):Int):=by omega
 have e3:((k:Int))%8=((k%8:Nat):Int):=by omega
 have e4:((b:Int))%8=((b%8:Nat):Int):=by omega
 have hsl:=zen seed ((k%8:Nat):Int) (digH (z3j a) (z3f r)).1
 by_cases hb8:b%8=0
 ·rw [znv seed a r k b hb8]
  have hrl:RLs O.length (hdrC ⟨z3j a,z3f r,(k%8:Nat),zbc (ksgS seed (k%8:Nat) (digH (z3j a) (z3f r)).1) k,z24 (keyL seed) (k%8)⟩):=z84 _
  unfold hdrC sgC at hrl ⊢
  dsimp only at hrl ⊢
  unfold zbc at hrl ⊢
  generalize digH (z3j a) (z3f r)=dg at*
  generalize ksgS seed ((k%8:Nat):Int) dg.1=sig at*
  generalize zz 32 (hr (z24 (keyL seed) (k%8)))=PH at*
  generalize z3f r=R at*
  obtain⟨N,hN⟩:∃N:Int,1+((a%6:Nat):Int)=N:=⟨_,rfl⟩
  rw [hh,hn,hN]at hD hrl
  rw [hh,hn,hN]
  refine ACallsTo.of_body q2aok (by simp) fun hw _=> ?_
  repeat' (first|apply zA rfl|(apply zd_ rfl<;>intro ht<;>try omega)|((first|apply zB rfl|(apply callW.mk_pu;exact(fun _=>hD _))|(apply callW.za;exact(hD _))|(apply zG<;>intro ht))<;>try simp (disch:=first|omega|simp only [lz,z8,zg,zi,zh,zx,zj,lQt,lQd,List.length_replicate,zo];try omega) only [go_sem,e1,e2,e3,hN]))
  refine callW.mk_pu2 (caps:=[]) (hS _) (fun h hh=>hh.elim) ?_
  have h0:(0:Int)<sig.length:=by rw [hsl];omega
  have hkl:k<sig.length:=by rw [hsl];omega
  have e5:(k:Int)%(sig.length:Int)=k:=Int.emod_eq_of_lt (by omega) (by omega)
  have hbl:=zo sig
  have hxr:=xor_b1 (sig.getD k 0)
  have hst:=zre sig k (sig.getD k 0^^^1)
  clear hsl
  simp (disch:=first|omega|simp only [lz,z8,zg,zi,zh,zx,zj,lQt,lQd,List.length_replicate,zo];try omega) only [go_sem,hS,List.append_nil]
  repeat' (first|apply zA rfl|(apply zd_ rfl<;>intro ht<;>try omega)|((first|apply zB rfl|(apply zG<;>intro ht))<;>try simp (disch:=first|omega|simp only [lz,z8,zg,zi,zh,zx,zj,lQt,lQd,List.length_replicate,zo];try omega) only [go_sem,e4,hb8,h0,e5,hxr,hst]))
  refine DownV.pure hw ?_
  simp only [RL]
  exact hrl
 ·rw [zgp seed a r k b hb8]
  have hrl:RLs O.length (hdrC (z3k seed (k%8) (z3j a) (z3f r))):=z84 _
  unfold z3k hdrC sgC at hrl ⊢
  dsimp only at hrl ⊢
  generalize digH (z3j a) (z3f r)=dg at*
  generalize ksgS seed ((k%8:Nat):Int) dg.1=sig at*
  generalize zz 32 (hr (z24 (keyL seed) (k%8)))=PH at*
  generalize z3f r=R at*
  obtain⟨N,hN⟩:∃N:Int,1+((a%6:Nat):Int)=N:=⟨_,rfl⟩
  rw [hh,hn,hN]at hD hrl
  rw [hh,hn,hN]
  refine ACallsTo.of_body q2aok (by simp) fun hw _=> ?_
  repeat' (first|apply zA rfl|(apply zd_ rfl<;>intro ht<;>try omega)|((first|apply zB rfl|(apply callW.mk_pu;exact(fun _=>hD _))|(apply callW.za;exact(hD _))|(apply zG<;>intro ht))<;>try simp (disch:=first|omega|simp only [lz,z8,zg,zi,zh,zx,zj,lQt,lQd,List.length_replicate,zo];try omega) only [go_sem,e1,e2,e3,hN]))
  refine callW.mk_pu2 (caps:=[]) (hS _) (fun h hh=>hh.elim) ?_
  simp (disch:=first|omega|simp only [lz,z8,zg,zi,zh,zx,zj,lQt,lQd,List.length_replicate,zo];try omega) only [go_sem,hS,List.append_nil]
  repeat' (first|apply zA rfl|(apply zd_ rfl<;>intro ht<;>try omega)|((first|apply zB rfl|(apply zG<;>intro ht))<;>try simp (disch:=first|omega|simp only [lz,z8,zg,zi,zh,zx,zj,lQt,lQd,List.length_replicate,zo];try omega) only [go_sem,e4]))
  refine DownV.pure hw ?_
  simp only [RL]
  exact hrl
end
section
theorem z7s{P:List Hdr}(hP:PSort P)(m:Int)(k:Hash):isP P m k=true ↔ ∃q ∈ P,q.n=m/\ q.r=k:=by
 unfold isP
 rw [decide_eq_true_iff]
 constructor
 ·rintro⟨h,e⟩
  exact⟨P[lbP P m k],List.getElem_mem h,po_zero.1 e⟩
 ·rintro⟨q,hq,rfl,rfl⟩
  obtain⟨j,hj,rfl⟩:=List.getElem_of_mem hq
  have z:poI P[j].n P[j].r P[j].n P[j].r=0:=po_zero.2 ⟨rfl,rfl⟩
  have h1:¬j<lbP P P[j].n P[j].r:=fun h=>by have:=(z6s hP P[j].n P[j].r j hj).2 h;omega
  by_cases h2:lbP P P[j].n P[j].r=j
  ·refine⟨by omega,?_⟩
   simp only [h2];exact z
  ·exfalso
   have h3:lbP P P[j].n P[j].r<j:=by omega
   have:=hP _ j (by omega) hj h3
   have:=(z6s hP P[j].n P[j].r _ (by omega)).1 this
   omega
theorem Fr.nin{own own':List Nat}(h:Fr O O' own own'){j:Nat}(hj:j<O.length)(hn:j ∉ own):j ∉ own':=fun h2=>by
 rcases h.new j h2 with h3|h3
 ·exact hn h3
 ·omega
section
variable (seed:List UInt8)
end
end
section
set_option maxRecDepth 10000
@[go_sem] def z11r:List AIns:=[
 yK 8 .i64 0]
@[go_sem] def z11s:List AIns:=[
 yM 37 8,
 yM 38 0,
 yZ 39 38,
 yB 40 .lss 37 39]
def z111:ACode:=.cond (.t 40) .skip (.exit 0)
def z112:ACode:=.seq (.reg z11s) z111
@[go_sem] def z11i:List AIns:=[
 yM 43 0,
 yM 44 8,
 yN 45 4 43 44,
 yL 46 true 4 45,
 yM 47 5,
 yD 48 12 46 47,
 yI 9 (.alloc zZ1),
 yS 36 9 48]
@[go_sem] def z11j:List AIns:=[
 yM 49 6,
 yC 50 13 49,
 yM 10 50]
@[go_sem] def z11k:List AIns:=[
 yM 51 6,
 yR 52 true 36 9,
 yg 53 14 51 52,
 yM 54 7,
 yR 55 true 36 9,
 yD 56 15 54 55,
 yB 57 .neq 53 56,
 yM 58 57,
 yV 59 58 false 6,
 yV 60 58 false 7,
 yG 61 58 false (.call (.v (.fn 16 [])) [(.t 59),(.t 60)]),
 yG 62 58 false (.un .not (.t 61)),
 yP 63 58 62]
@[go_sem] def z11l:List AIns:=[
 yb 4 false]
def z113:ACode:=.seq (.reg z11l) .ret
def z114:ACode:=.cond (.t 63) z113 .skip
def z115:ACode:=.seq (.reg z11k) z114
@[go_sem] def z11m:List AIns:=[
 yM 64 10,
 yI 65 (.build [(.int .u8 0),(.int .u8 0),(.int .u8 0),(.int .u8 0)] [(0,1,(.v (.int .u8 9))),(1,1,(.v (.int .u8 2))),(2,1,(.v (.int .u8 1))),(3,1,(.v (.int .u8 1)))]),
 yM 66 5,
 yD 67 12 65 66,
 yD 68 14 64 67]
@[go_sem] def z11n:List AIns:=[
 yM 69 6,
 yR 70 true 36 3,
 yg 71 14 69 70,
 yM 72 7,
 yR 73 true 36 3,
 yD 74 15 72 73,
 yB 75 .neq 71 74,
 yM 76 75,
 yV 77 76 false 6,
 yV 78 76 false 7,
 yG 79 76 false (.call (.v (.fn 16 [])) [(.t 77),(.t 78)]),
 yG 80 76 false (.un .not (.t 79)),
 yP 81 76 80,
 yM 82 81,
 yV 83 82 false 6,
 yV 84 82 false 6,
 yG 85 82 false (.call (.v (.fn 13 [])) [(.t 84)]),
 yG 86 82 false (.call (.v (.fn 17 [])) [(.t 83),(.t 85)]),
 yG 87 82 false (.un .not (.t 86)),
 yP 88 82 87]
@[go_sem] def z11o:List AIns:=[
 yb 4 false]
def z116:ACode:=.seq (.reg z11o) .ret
def z117:ACode:=.cond (.t 88) z116 .skip
def z118:ACode:=.seq (.reg z11n) z117
def z119:ACode:=.seq (.reg z11m) z118
def z11a:ACode:=.seq z115 z119
def z11b:ACode:=.seq (.reg z11j) z11a
def zoh:ACode:=.seq (.reg z11i) z11b
@[go_sem] def z11p:List AIns:=[
 yM 41 8,
 yJ 42 .add 41 .i64 1,
 yM 8 42]
def z11c:ACode:=.seq (.block 1 zoh) (.reg z11p)
def z11d:ACode:=.seq z112 z11c
def z11e:ACode:=.loop z11d
def z11f:ACode:=.block 0 z11e
def zoi:ACode:=.seq (.reg z11r) z11f
@[go_sem] def z11q:List AIns:=[
 yI 89 (.call (.v (.fn 8 [])) []),
 yM 4 89]
def z11g:ACode:=.seq (.reg z11q) .ret
def z11h:ACode:=.seq zoi z11g
def q2ir27:yW:=[
 yM 48 7,
 yu 49 48,
 yM 50 49,
 yT 51 50 true 0 3,
 ⟨some 52,some (50,true),.rd,.load true 33 (.t 51)⟩,
 yV 53 50 true 0,
 yG 54 50 true (.nilc (.t 53)),
 yT 55 50 true 32 54,
 ⟨some 56,some (50,true),.rd,.load false 1 (.t 55)⟩,
 yV 57 50 true 8,
 yG 58 50 true (.iaSl 36 (.t 56) (.t 57)),
 yT 59 50 true 0 58,
 ⟨some 60,some (50,true),.rd,.load true 33 (.t 59)⟩,
 yG 61 50 true (.call (.v (.fn 55 [])) [(.t 52),(.t 60)]),
 yQ 62 50 61]
def q2ic33:yX:=.seq (yq [yM 35 0,yO 36 35,yF 37 32 36,yR 38 false 1 37,yM 39 8,yN 40 36 38 39,yF 41 0 40,yF 42 0 41,yR 43 false 1 42,yF 44 0 3,yF 45 0 44,yR 46 false 1 45,yB 47 .eql 43 46] (.cond (.t 47) (.reg [yK 5 .i64 3]) .skip)) (.seq (yq q2ir27 (.cond (.t 62) (.reg [yM 63 6,yL 64 true 36 3,yI 65 (.lit 36 [(.t 64)]),yI 66 (.app 36 (.t 63) (.t 65)),yM 6 66,yb 7 true]) .skip)) (.reg [yM 67 6,yM 68 0,yO 69 68,yF 70 32 69,yL 71 false 1 70,yM 72 8,yN 73 36 71 72,yL 74 true 36 73,yI 75 (.lit 36 [(.t 74)]),yI 76 (.app 36 (.t 67) (.t 75)),yM 6 76]))
def q2ic43:yX:=yq [yM 77 7,yu 78 77] (.cond (.t 78) (.reg [yM 79 6,yL 80 true 36 3,yI 81 (.lit 36 [(.t 80)]),yI 82 (.app 36 (.t 79) (.t 81)),yM 6 82]) .skip)
def q2ic47:yX:=yq [yM 83 0,yM 84 6,yO 85 83,yF 86 32 85,yS 1 86 84] (yq [yM 87 5,yM 4 87] .ret)
def zc4:ACode:=.seq q2ic43 q2ic47
def q2ic53:yX:=.seq (yq [yM 20 0,yO 21 20,yF 22 32 21,yL 23 false 1 22,yZ 24 23,yJ 25 .gtr 24 .i64 15] (.cond (.t 25) (yq [yK 4 .i64 4] .ret) .skip)) (yq [yK 5 .i64 2] (yq [yI 6 (.mv (.v .nilsl))] (yq [yb 7 false] (.seq (yq [yK 8 .i64 0] (.block 0 (.loop (.seq (yq [yM 26 8,yM 27 0,yO 28 27,yF 29 32 28,yL 30 false 1 29,yZ 31 30,yB 32 .lss 26 31] (.cond (.t 32) .skip (.exit 0))) (.seq (.block 1 q2ic33) (.reg [yM 33 8,yJ 34 .add 33 .i64 1,yM 8 34])))))) zc4))))
def q2ic56:yX:=yq [yx 3 1,yK 4 .i64 0] (.seq (yq [yM 9 0,yO 10 9,yF 11 0 10,yR 12 true 32 11,yR 13 true 36 3,yD 14 53 12 13,yJ 15 .neq 14 .i64 0] (.cond (.t 15) (yq [yK 4 .i64 0] .ret) .skip)) (.seq (yq [yM 16 0,yF 17 0 3,yL 18 true 33 17,yD 19 54 16 18] (.cond (.t 19) (yq [yK 4 .i64 1] .ret) .skip)) q2ic53))
attribute [go_sem] q2ir27
theorem q2iok:cFn TC 15=some (88,[.t 4],q2ic56):=by kernel_rfl
def q2jr3:yW:=[
 yM 19 0,
 yf 20 46 19,
 yM 21 1,
 yO 22 21,
 yF 23 32 22,
 yR 24 false 1 23,
 yD 25 57 20 24,
 yu 26 25,
 yM 27 26,
 yV 28 27 false 0,
 yG 29 27 false (.call (.v (.fn 29 [])) [(.t 28)]),
 yV 30 27 false 1,
 yG 31 27 false (.call (.v (.fn 59 [])) [(.t 30)]),
 yG 32 27 false (.call (.v (.fn 58 [])) [(.t 29),(.t 31)]),
 yG 33 27 false (.un .not (.t 32)),
 yP 34 27 33,
 yM 35 34,
 yV 36 35 false 8,
 yV 37 35 false 5,
 yG 38 35 false (.bin .geq .none (.t 37) (.v (.int .i64 0))),
 yG 39 35 false (.bin .neq .bool (.t 36) (.t 38)),
 yP 40 35 39]
def q2jr8:yW:=[
 yM 41 8,
 yM 42 41,
 ⟨some 43,some (42,true),.rd,.load true 36 (.t 6)⟩,
 yV 44 42 true 1,
 yG 45 42 true (.nilc (.t 44)),
 yT 46 42 true 32 45,
 ⟨some 47,some (42,true),.rd,.load false 1 (.t 46)⟩,
 yV 48 42 true 5,
 yG 49 42 true (.iaSl 36 (.t 47) (.t 48)),
 ⟨some 50,some (42,true),.rd,.load true 36 (.t 49)⟩,
 yG 51 42 true (.call (.v (.fn 60 [])) [(.t 43),(.t 50)]),
 yG 52 42 true (.un .not (.t 51)),
 yV 53 42 true 52,
 ⟨some 54,some (53,false),.rd,.load true 36 (.t 7)⟩,
 yV 55 53 false 1,
 yG 56 53 false (.nilc (.t 55)),
 yT 57 53 false 32 56,
 ⟨some 58,some (53,false),.rd,.load false 1 (.t 57)⟩,
 yV 59 53 false 5,
 yG 60 53 false (.bin .add .none (.t 59) (.v (.int .i64 1))),
 yG 61 53 false (.iaSl 36 (.t 58) (.t 60)),
 ⟨some 62,some (53,false),.rd,.load true 36 (.t 61)⟩,
 yG 63 53 false (.call (.v (.fn 60 [])) [(.t 54),(.t 62)]),
 yG 64 53 false (.un .not (.t 63)),
 yG 65 42 true (.pick (.t 53) (.v (.bool true)) (.t 64)),
 yQ 66 42 65]
def q2jc25:yX:=.seq (.block 1 (yq [yM 71 9,yM 72 9,yY 73 .u8 72,yJ 74 .rem 73 .u8 3,yI 75 (.build zZ0 [(0,1,(.t 74)),(1,1,(.v (.int .u8 7)))]),yI 76 (.build ((.int .i64 0)::zZ0) [(0,1,(.t 71)),(1,32,(.t 75))]),yI 10 (.alloc ((.int .i64 0)::zZ0)),yS 33 10 76] (yq [yM 77 0,yR 78 true 33 10,yg 79 30 77 78,yM 80 1,yR 81 true 33 10,yD 82 54 80 81,yI 83 (.bin .neq .bool (.t 79) (.t 82))] (.cond (.t 83) (yq [yb 4 false] .ret) .skip)))) (.reg [yM 69 9,yJ 70 .add 69 .i64 1,yM 9 70])
def q2jc29:yX:=yq [yK 9 .i64 0] (.block 0 (.loop (.seq (yq [yM 67 9,yJ 68 .lss 67 .i64 8] (.cond (.t 68) .skip (.exit 0))) q2jc25)))
def q2jc31:yX:=yq [yb 4 true] .ret
def zc5:ACode:=.seq q2jc29 q2jc31
def q2jc37:yX:=yq [yb 4 false] (yq [yM 11 1,yC 12 56 11,yM 5 12] (yq [yM 14 0,yC 15 31 14,yM 13 15,yE 16 0 13,yE 17 1 13,yE 18 2 13,yI 6 (.alloc zZ1),yI 7 (.alloc zZ1),yS 36 6 16,yS 36 7 17,yM 8 18] (.seq (yq q2jr3 (.cond (.t 40) (yq [yb 4 false] .ret) .skip)) (.seq (yq q2jr8 (.cond (.t 66) (yq [yb 4 false] .ret) .skip)) zc5))))
attribute [go_sem] q2jr3 q2jr8
theorem q2jok:cFn TC 16=some (84,[.t 4],q2jc37):=by kernel_rfl
def q2kc12:yX:=.seq (yq [yM 6 5,yM 7 0,yO 8 7,yF 9 32 8,yL 10 false 1 9,yZ 11 10,yB 12 .lss 6 11] (.cond (.t 12) .skip (.exit 0))) (.seq (.block 1 (yq [yM 15 0,yO 16 15,yF 17 32 16,yR 18 false 1 17,yM 19 5,yN 20 36 18 19,yF 21 0 20,yR 22 true 33 21,yR 23 true 33 3,yI 24 (.bin .eql (.agg ([(.i .i64)]++(List.replicate 32 (.i .u8)++ []))) (.t 22) (.t 23))] (.cond (.t 24) (yq [yb 4 true] .ret) .skip))) (.reg [yM 13 5,yJ 14 .add 13 .i64 1,yM 5 14]))
def q2kc19:yX:=yq [yx 3 1,yb 4 false] (.seq (yq [yK 5 .i64 0] (.block 0 (.loop q2kc12))) (yq [yb 4 false] .ret))
theorem q2kok:cFn TC 54=some (25,[.t 4],q2kc19):=by kernel_rfl
def q2lc16:yX:=.seq (.block 1 (yq [yM 20 5,yF 21 1 2,yI 22 (.iaArr 32 1 (.t 21) (.t 20)),yR 23 false 1 22,yM 24 5,yF 25 1 3,yI 26 (.iaArr 32 1 (.t 25) (.t 24)),yR 27 false 1 26,yB 28 .neq 23 27] (.cond (.t 28) (yq [yM 29 5,yF 30 1 2,yI 31 (.iaArr 32 1 (.t 30) (.t 29)),yR 32 false 1 31,yM 33 5,yF 34 1 3,yI 35 (.iaArr 32 1 (.t 34) (.t 33)),yR 36 false 1 35,yB 37 .lss 32 36,yM 4 37] .ret) .skip))) (.reg [yM 18 5,yJ 19 .add 18 .i64 1,yM 5 19])
def q2lc25:yX:=yq [yx 2 0,yx 3 1,yb 4 false] (.seq (yq [yF 6 0 2,yL 7 false 1 6,yF 8 0 3,yL 9 false 1 8,yB 10 .neq 7 9] (.cond (.t 10) (yq [yF 11 0 2,yL 12 false 1 11,yF 13 0 3,yL 14 false 1 13,yB 15 .lss 12 14,yM 4 15] .ret) .skip)) (.seq (yq [yK 5 .i64 0] (.block 0 (.loop (.seq (yq [yM 16 5,yJ 17 .lss 16 .i64 32] (.cond (.t 17) .skip (.exit 0))) q2lc16)))) (yq [yb 4 false] .ret)))
theorem q2lok:cFn TC 55=some (38,[.t 4],q2lc25):=by kernel_rfl
def q2mc12:yX:=.seq (yq [yM 4 3,yJ 5 .add 4 .i64 1,yM 6 0,yO 7 6,yF 8 32 7,yL 9 false 1 8,yZ 10 9,yB 11 .lss 5 10] (.cond (.t 11) .skip (.exit 0))) (.seq (.block 1 (yq [yM 14 0,yO 15 14,yF 16 32 15,yR 17 false 1 16,yM 18 3,yN 19 36 17 18,yF 20 0 19,yF 21 0 20,yR 22 false 1 21,yM 23 0,yO 24 23,yF 25 32 24,yR 26 false 1 25,yM 27 3,yJ 28 .add 27 .i64 1,yN 29 36 26 28,yF 30 0 29,yF 31 0 30,yR 32 false 1 31,yB 33 .eql 22 32] (.cond (.t 33) (yq [yM 34 3,yM 2 34] .ret) .skip))) (.reg [yM 12 3,yJ 13 .add 12 .i64 1,yM 3 13]))
def q2mc19:yX:=yq [yK 2 .i64 0] (.seq (yq [yK 3 .i64 0] (.block 0 (.loop q2mc12))) (yq [yI 2 (.mv (.v (.int .i64 (-1))))] .ret))
theorem q2mok:cFn TC 56=some (35,[.t 2],q2mc19):=by kernel_rfl
def q2nc24:yX:=.seq (yq [yM 6 0,yZ 7 6,yM 8 1,yZ 9 8,yB 10 .neq 7 9] (.cond (.t 10) (yq [yb 4 false] .ret) .skip)) (.seq (yq [yK 5 .i64 0] (.block 0 (.loop (.seq (yq [yM 11 5,yM 12 0,yZ 13 12,yB 14 .lss 11 13] (.cond (.t 14) .skip (.exit 0))) (.seq (.block 1 (yq [yM 17 0,yM 18 5,yN 19 36 17 18,yR 20 true 36 19,yM 21 1,yM 22 5,yN 23 36 21 22,yR 24 true 36 23,yD 25 60 20 24,yu 26 25] (.cond (.t 26) (yq [yb 4 false] .ret) .skip))) (.reg [yM 15 5,yJ 16 .add 15 .i64 1,yM 5 16])))))) (yq [yb 4 true] .ret))
def q2nc25:yX:=yq [yb 4 false] q2nc24
theorem q2nok:cFn TC 57=some (27,[.t 4],q2nc25):=by kernel_rfl
def q2oc19:yX:=.block 0 (.loop (.seq (yq [yM 11 5,yM 12 0,yZ 13 12,yB 14 .lss 11 13] (.cond (.t 14) .skip (.exit 0))) (.seq (.block 1 (yq [yM 17 0,yM 18 5,yN 19 33 17 18,yR 20 true 33 19,yM 21 1,yM 22 5,yN 23 33 21 22,yR 24 true 33 23,yI 25 (.bin .neq (.agg ([(.i .i64)]++(List.replicate 32 (.i .u8)++ []))) (.t 20) (.t 24))] (.cond (.t 25) (yq [yb 4 false] .ret) .skip))) (.reg [yM 15 5,yJ 16 .add 15 .i64 1,yM 5 16]))))
def q2oc25:yX:=yq [yb 4 false] (.seq (yq [yM 6 0,yZ 7 6,yM 8 1,yZ 9 8,yB 10 .neq 7 9] (.cond (.t 10) (yq [yb 4 false] .ret) .skip)) (.seq (yq [yK 5 .i64 0] q2oc19) (yq [yb 4 true] .ret)))
theorem q2ook:cFn TC 58=some (26,[.t 4],q2oc25):=by kernel_rfl
def q2pc15:yX:=.seq (yq [yK 4 .i64 0] (.block 0 (.loop (.seq (yq [yM 5 4,yM 6 0,yO 7 6,yF 8 32 7,yL 9 false 1 8,yZ 10 9,yB 11 .lss 5 10] (.cond (.t 11) .skip (.exit 0))) (.seq (.block 1 (.reg [yM 14 3,yM 15 0,yO 16 15,yF 17 32 16,yL 18 false 1 17,yM 19 4,yN 20 36 18 19,yF 21 0 20,yL 22 true 33 21,yI 23 (.lit 33 [(.t 22)]),yI 24 (.app 33 (.t 14) (.t 23)),yM 3 24])) (.reg [yM 12 4,yJ 13 .add 12 .i64 1,yM 4 13])))))) (yq [yM 25 3,yM 2 25] .ret)
def q2pc17:yX:=yq [yI 2 (.mv (.v .nilsl))] (yq [yI 3 (.mv (.v .nilsl))] q2pc15)
theorem q2pok:cFn TC 59=some (26,[.t 2],q2pc17):=by kernel_rfl
end
end Am
end Go.Proofs.YtcdcmgjnbjoajaaGreatDoor
