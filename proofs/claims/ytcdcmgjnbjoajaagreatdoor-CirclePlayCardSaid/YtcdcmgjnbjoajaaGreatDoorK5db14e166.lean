import Derived.Test.YtcdcmgjnbjoajaaGreatDoorK4e46b9ff4
import Derived.Test.YtcdcmgjnbjoajaaGreatDoorK2e6d30c09
import Derived.Test.YtcdcmgjnbjoajaaGreatDoorK36321eac3
set_option linter.unusedSimpArgs false
set_option linter.unusedVariables false
open Nat (reduceEqDiff reduceAdd reduceMul reduceSub reduceLeDiff)
open Int (reduceToNat reducePow)
open Nat renaming reduceEqDiff -> nQ1, reduceBEq -> nQ2, reduceAdd -> nQ3, reduceMul -> nQ4, reduceSub -> nQ5, reduceLeDiff -> nQ6
open Int renaming reduceToNat -> nQ7, reducePow -> nQ8
open List renaming length_reverse -> lQr, length_map -> lQm, length_take -> lQt, length_drop -> lQd, length_set -> lQs
set_option maxHeartbeats 16000000
attribute [local go_sem_proc] Nat.reduceEqDiff Nat.reduceBEq Nat.reduceAdd Nat.reduceMul Nat.reduceSub Nat.reduceLeDiff Int.reduceToNat Int.reducePow
namespace Go.Proofs.YtcdcmgjnbjoajaaGreatDoor
namespace Am
variable {vs:List Value}{w w':World}{Z Z':Places}{k n i off sz r p:Nat}{C:Ctx}{cs:List AV}{t e:TypeId}{x v:AV}{a b:Int}{es ys:List (List AV)}{s seed:List UInt8}{O O' τ:Store}{f:FuncId}{J:Env}{K:Env->Store->Prop}{d sid:Option Nat}{ops:Array Oper}{ac:ACode}{rest:List (Nat × Nat × AV)}{L:List (List UInt8)}{H:List Hdr}{fd:Option (Hdr × Hdr)}
section
theorem zj4:∀(i:Nat) (a b:List UInt8),a.take i=b.take i->Lib.compareBytes a b=Lib.compareBytes (a.drop i) (b.drop i)
 | 0,a,b,_=>rfl
 |i+1,[],[],_=>rfl
 |i+1,[],b::ys,h=>by simp at h
 |i+1,a::xs,[],h=>by simp at h
 |i+1,a::xs,b::ys,h=>by
  simp only [List.take_succ_cons,List.cons.injEq]at h
  obtain⟨rfl,h⟩:=h
  have:=zj4 i xs ys h
  rw [List.drop_succ_cons,List.drop_succ_cons,<-this]
  show Lib.compareBytes (a::xs) (a::ys)=_
  rw [z7j,if_neg (z4a a),if_neg (z4a a)]
theorem hcb31{h:Hash}{j:Nat}(hj:j<32):(hc h)[j]? =some (.int .u8 ((h.1.getD j 0).toNat:Int)):=zio (by rw [h.2];exact hj)
theorem hnb31{n:Int}{h:Hash}{j:Nat}(hj:j<32):(AV.int .i64 n::hc h)[1+j]? =some (.int .u8 ((h.1.getD j 0).toNat:Int)):=by
 rw [Nat.add_comm,List.getElem?_cons_succ];exact hcb31 hj
theorem take31{a b:List UInt8}(ha:i<a.length)(hb:i<b.length)(h:a.take i=b.take i)(he:a.getD i 0=b.getD i 0):a.take (i+1)=b.take (i+1):=by
 rw [List.take_succ_eq_append_getElem ha,List.take_succ_eq_append_getElem hb,h]
 simp only [List.getD_eq_getElem?_getD,List.getElem?_eq_getElem ha,List.getElem?_eq_getElem hb,Option.getD_some]at he
 rw [he]
theorem cb31{a b:List UInt8}(ha:i<a.length)(hb:i<b.length)(h:a.take i=b.take i)(he:a.getD i 0 ≠ b.getD i 0):Lib.compareBytes a b<0 ↔ (a.getD i 0).toNat<(b.getD i 0).toNat:=by
 rw [zj4 i a b h,List.drop_eq_getElem_cons ha,List.drop_eq_getElem_cons hb,z7j]
 simp only [List.getD_eq_getElem?_getD,List.getElem?_eq_getElem ha,List.getElem?_eq_getElem hb,Option.getD_some]at he ⊢
 rcases z8g a[i] b[i]with h1|h1|h1
 ·rw [if_pos h1]
  exact⟨fun _=>h1,fun _=>by omega⟩
 ·rw [if_neg (z6a h1),if_pos h1]
  exact⟨fun h=>by omega,fun h=>absurd h (z6a h1)⟩
 ·exact absurd h1 he
def zbn(n m:Int)(a b:Hash):Bool:=decide (poI n a m b<0)
def reC(key:Hash)(v:AV):List AV:=hc key++ [v]
theorem z12(key:Hash)(v:AV):(reC key v).length=33:=by simp [reC,z8]
theorem z60(key:Hash)(v:AV):(reC key v)[32]? =some v:=by
 show (hc key++ [v])[32]? =some v
 rw [List.getElem?_append_right (by rw [z8];omega),z8];rfl
theorem zfs(key:Hash)(v:AV):(reC key v).take 32=hc key:=List.take_left' (z8 key)
theorem zz7(key:Hash)(v x:AV):(reC key v).take 32++x::(reC key v).drop 33=reC key x:=by
 have h2:(reC key v).drop 33=[]:=List.drop_of_length_le (by rw [z12];omega)
 rw [zfs,h2];rfl
def PoR(O:Store)(p:Nat)(key:Hash)(P:List Hdr)(own:List Nat):Prop:=
 ∃v sid,own=p::Option.toList sid/\ O[p]? =some (some [reC key v])/\ RowAt 36 O sid v (hdrs P)/\ sid ≠ some p
theorem PoR.lt{key:Hash}{P:List Hdr}{own:List Nat}(h:PoR O p key P own){j:Nat}(hj:j ∈ own):j<O.length:=by
 obtain⟨v,sid,rfl,hp,hr,_⟩:=h
 simp only [List.mem_cons,Option.mem_toList]at hj
 rcases hj with rfl|h
 ·exact slen hp
 ·exact hr.lt h
theorem PoR.keep{key:Hash}{P:List Hdr}{own:List Nat}(h:PoR O p key P own)(hk:∀j,j ∈ own->O'[j]? =O[j]?):PoR O' p key P own:=by
 obtain⟨v,sid,rfl,hp,hr,hn⟩:=h
 exact⟨v,sid,rfl,by rw [hk p (by simp)];exact hp,hr.keep fun q e=>hk q (by simp [e]),hn⟩
theorem PoR.ext{key:Hash}{P:List Hdr}{own:List Nat}(h:PoR O p key P own)(he:Ext O O'):PoR O' p key P own:=by
 obtain⟨y,rfl⟩:=he
 exact h.keep fun j hj=>gapp (h.lt hj)
theorem isP_ex{P:List Hdr}(hP:PSort P)(m:Int)(k:Hash):isP P m k=decide (∃q ∈ P,q.n=m/\ q.r=k):=by
 cases h:isP P m k with
 |true=>exact(decide_eq_true ((z7s hP m k).1 h)).symm
 |false=>exact(decide_eq_false fun e=>by rw [(z7s hP m k).2 e]at h;cases h).symm
attribute [local irreducible] ACallsTo ACallsP
theorem lZ:(∀(h:Hash),(hc h).length=32)/\ (∀(n:Int) (r:Hash) (i:Int) (s:List UInt8) (x:AV),(sgC n r i s x).length=36)/\ (∀(h:Hdr),(hdrC h).length=36)/\ (∀(H:List Hdr),(hdrs H).length=H.length)/\ (∀(key:Hash)(v:AV),(poC key v).length=34)/\ (∀(P:List Hdr),(kn P).length=P.length)/\ (∀(key:Hash)(v:AV),(reC key v).length=33)/\ (∀{α:Type}{i:Nat}{l:List α},(l.take i).length=min i l.length)/\ (∀{α:Type}{i:Nat}{l:List α},(l.drop i).length=l.length-i)/\ (∀{α:Type}{n:Nat}{a:α},(List.replicate n a).length=n):=⟨@z8,@zg,@zi,@zh,@zx,@zj,@z12,by simp,by simp,by simp⟩
theorem zvc(O:Store)(n m:Int)(a b:Hash):ACallsTo TC 55 [.agg (.int .i64 n::hc a),.agg (.int .i64 m::hc b)] O (.bool (zbn n m a b)) O:=by
 unfold zbn
 refine ACallsTo.of_body q2lok (by simp) fun hw _=> ?_
 by_cases hn:n=m
 ·subst hn
  have hpo:decide (poI n a n b<0)=decide (Lib.compareBytes a.1 b.1<0):=by rw [z9k]
  rw [hpo]
  repeat' (first|apply zA rfl|(apply zd_ rfl<;>intro ht<;>try omega)|((first|apply zB rfl|(apply zG<;>intro ht))<;>try simp (disch:=first|omega|simp only [lz,lZ];try omega) only [go_sem]))
  refine zW.loop (fun t J O'=>∃i:Nat,t+i=32/\ O'=O++ [some [.int .i64 n::hc a],some [.int .i64 n::hc b]]/\ a.1.take i=b.1.take i/\ J 2=.ptr O.length 0 0/\ J 3=.ptr (O.length+1) 0 0/\ J 5=.int .i64 i) 32 ?_ ?_
  ·exact⟨0,by omega,rfl,rfl,by simp only [go_sem],by simp only [go_sem],by simp only [go_sem];try rfl⟩
  ·rintro t J O' ⟨i,ht,rfl,hE,q2,q3,q5⟩
   by_cases hi:i<32
   ·have ga:=hnb31 (n:=n) (h:=a) hi
    have gb:=hnb31 (n:=n) (h:=b) hi
    have ha:i<a.1.length:=by rw [a.2];exact hi
    have hb:i<b.1.length:=by rw [b.2];exact hi
    by_cases he:a.1.getD i 0=b.1.getD i 0
    ·have hE2:=take31 ha hb hE he
     rw [he]at ga
     generalize b.1.getD i 0=u at*
     repeat' (first|apply zA rfl|(apply zd_ rfl<;>intro ht<;>try omega)|((first|apply zB rfl|(apply zG<;>intro ht))<;>try simp (disch:=first|omega|simp only [lz,lZ];try omega) only [go_sem,q2,q3,q5,ga,gb]))
     exact⟨t-1,by omega,i+1,by omega,hE2,by simp⟩
    ·have hl:decide (Lib.compareBytes a.1 b.1<0)=decide ((a.1.getD i 0).toNat<(b.1.getD i 0).toNat):=decide_eq_decide.2 (cb31 ha hb hE he)
     rw [hl]
     have hne:¬(((a.1.getD i 0).toNat:Nat):Int)=(b.1.getD i 0).toNat:=fun e=>he (UInt8.toNat_inj.1 (by omega))
     have hlt:((((a.1.getD i 0).toNat:Nat):Int)<(b.1.getD i 0).toNat)=((a.1.getD i 0).toNat<(b.1.getD i 0).toNat):=by simp
     generalize a.1.getD i 0=u at*
     generalize b.1.getD i 0=v at*
     repeat' (first|apply zA rfl|(apply zd_ rfl<;>intro ht<;>try omega)|((first|apply zB rfl|(apply zG<;>intro ht))<;>try simp (disch:=first|omega|simp only [lz,lZ];try omega) only [go_sem,q2,q3,q5,ga,gb,hne,hlt]))
     exact DownV.pure hw z1k
   ·obtain rfl:i=32:=by omega
    have he:a.1=b.1:=by
     rw [List.take_of_length_le (by rw [a.2];omega),List.take_of_length_le (by rw [b.2];omega)]at hE
     exact hE
    have h0:Lib.compareBytes a.1 b.1=0:=(zdp _ _).2 he
    rw [h0,decide_eq_false (by omega)]
    repeat' (first|apply zA rfl|(apply zd_ rfl<;>intro ht<;>try omega)|((first|apply zB rfl|(apply zG<;>intro ht))<;>try simp (disch:=first|omega|simp only [lz,lZ];try omega) only [go_sem,q5]))
    exact DownV.pure hw z1k
 ·have hpo:decide (poI n a m b<0)=decide (n<m):=by
   rw [decide_eq_decide,po_neg]
   exact⟨fun h=>by rcases h with h|h;exact h;exact absurd h.1 hn,.inl⟩
  rw [hpo]
  repeat' (first|apply zA rfl|(apply zd_ rfl<;>intro ht<;>try omega)|((first|apply zB rfl|(apply zG<;>intro ht))<;>try simp (disch:=first|omega|simp only [lz,lZ];try omega) only [go_sem,hn]))
  exact DownV.pure hw z1k
theorem zft(O:Store)(p:Nat)(key:Hash)(P:List Hdr)(own:List Nat)(m:Int)(k:Hash)(hT:PoR O p key P own)(hs:PSort P)(hl:P.length<1000000):
  ACallsTo TC 54 [.ptr p 0 0,.agg (.int .i64 m::hc k)] O (.bool (isP P m k)) O:=by
 obtain⟨v,sid,rfl,hpp,hr1,hn⟩:=hT
 have d:=slen hpp
 have l:=z12 key v
 have g:=z60 key v
 have kl:=z8 k
 have r1:=hr1.rd.len
 rw [zh]at r1
 unfold z1f at r1
 refine ACallsTo.of_body q2kok (by simp) fun hw _=> ?_
 repeat' (first|apply zA rfl|(apply zd_ rfl<;>intro ht<;>try omega)|((first|apply zB rfl|(apply zG<;>intro ht))<;>try simp (disch:=first|omega|simp only [lz,lZ];try omega) only [go_sem]))
 refine zW.loop (fun t J O'=>∃i:Nat,t+i=P.length/\ O'=O++ [some [.int .i64 m::hc k]]/\ (∀q ∈ P.take i,¬(q.n=m/\ q.r=k))/\ J 0=.ptr p 0 0/\ J 3=.ptr O.length 0 0/\ J 5=.int .i64 i) P.length ?_ ?_
 ·exact⟨0,by omega,rfl,by simp,by simp only [go_sem],by simp only [go_sem],by simp only [go_sem];try rfl⟩
 ·rintro t J O' ⟨i,ht,rfl,hE,q0,q3,q5⟩
  by_cases hi:i<P.length
  ·rcases hr1 with⟨_,h0,_⟩| ⟨q,_,hne,rfl,hq⟩
   ·have:=congrArg List.length h0;rw [zh]at this;simp at this;rw [this]at hi;simp at hi
   rw [zh]at hpp l g
   have dq:=slen hq
   have hgi:=z2w hi
   have hst:P.take (i+1)=P.take i++ [P[i]]:=List.take_succ_eq_append_getElem hi
   have hmem:P[i] ∈ P:=List.getElem_mem hi
   have hdl:=zh P
   generalize P[i]=u at*
   have hu:=z6n u
   have hul:=zi u
   have he:=z88 u.n m u.r k
   by_cases hh:u.n=m/\ u.r=k
   ·rw [decide_eq_true hh]at he
    rw [(z7s hs m k).2 ⟨u,hmem,hh⟩]
    repeat' (first|apply zA rfl|(apply zd_ rfl<;>intro ht<;>try omega)|((first|apply zB rfl|(apply zG<;>intro ht))<;>try simp (disch:=first|omega|simp only [lz,lZ];try omega) only [go_sem,q0,q3,q5,hpp,g,hq,hgi,hu,hul,he,kl]))
    exact DownV.pure hw z1k
   ·rw [decide_eq_false hh]at he
    repeat' (first|apply zA rfl|(apply zd_ rfl<;>intro ht<;>try omega)|((first|apply zB rfl|(apply zG<;>intro ht))<;>try simp (disch:=first|omega|simp only [lz,lZ];try omega) only [go_sem,q0,q3,q5,hpp,g,hq,hgi,hu,hul,he,kl]))
    exact⟨t-1,by omega,i+1,by omega,by rw [hst];intro q hq;rcases List.mem_append.1 hq with h1|h1;exact hE q h1;rw [List.mem_singleton.1 h1];exact hh,by simp⟩
  ·obtain rfl:i=P.length:=by omega
   rw [List.take_of_length_le (Nat.le_refl _)]at hE
   rw [isP_ex hs,decide_eq_false (fun⟨q,h1,h2⟩=>hE q h1 h2)]
   repeat' (first|apply zA rfl|(apply zd_ rfl<;>intro ht<;>try omega)|((first|apply zB rfl|(apply zG<;>intro ht))<;>try simp (disch:=first|omega|simp only [lz,lZ];try omega) only [go_sem,q0,q5,hpp,g,r1]))
   exact DownV.pure hw z1k
theorem zfu(O:Store)(p:Nat)(key:Hash)(P:List Hdr)(own:List Nat)(hT:PoR O p key P own)(hl:P.length<1000000):ACallsTo TC 59 [.ptr p 0 0] O (zz 33 (kn P)) O:=by
 obtain⟨v,sid,rfl,hpp,hr1,hn⟩:=hT
 have d:=slen hpp
 have l:=z12 key v
 have g:=z60 key v
 have r1:=hr1.rd.len
 rw [zh]at r1
 unfold z1f at r1
 refine ACallsTo.of_body q2pok (by simp) fun hw _=> ?_
 repeat' (first|apply zA rfl|(apply zd_ rfl<;>intro ht<;>try omega)|((first|apply zB rfl|(apply zG<;>intro ht))<;>try simp (disch:=first|omega|simp only [lz,lZ];try omega) only [go_sem]))
 refine zW.loop (fun t J O'=>∃(i:Nat) (w:AV),t+i=P.length/\ OwnN 33 O O' w (kn (P.take i))/\ J 0=.ptr p 0 0/\ J 3=w/\ J 4=.int .i64 i) P.length ?_ ?_
 ·exact⟨0,.nilsl,by omega,⟨[],by simp,.inl ⟨rfl,rfl⟩⟩,by simp only [go_sem],by simp only [go_sem],by simp only [go_sem];try rfl⟩
 ·rintro t J O' ⟨i,w,ht,hO,q0,q3,q4⟩
  obtain⟨news,hnews⟩:=hO.ext
  have hpp':O'[p]? =some (some [reC key v]):=by rw [hnews,gapp d];exact hpp
  by_cases hi:i<P.length
  ·rcases hr1 with⟨_,h0,_⟩| ⟨q,_,hne,rfl,hq⟩
   ·have:=congrArg List.length h0;rw [zh]at this;simp at this;rw [this]at hi;simp at hi
   rw [zh]at hpp' l g
   have dq:=slen hq
   have hq':O'[q]? =some (some (hdrs P)):=by rw [hnews,gapp dq];exact hq
   have hgi:=z2w hi
   obtain⟨w',O2,ha,hO2⟩:=hO.app (ys:=[.int .i64 P[i].n::hc P[i].r]) (by simp) (by rw [zj,List.length_take];simp;omega)
   have hcat:kn (P.take i)++ [.int .i64 P[i].n::hc P[i].r]=kn (P.take (i+1)):=by rw [List.take_succ_eq_append_getElem hi];unfold kn;rw [List.map_append];rfl
   rw [hcat]at hO2
   have hdl:=zh P
   have rl:=z8 P[i].r
   generalize P[i]=u at*
   have hu:=z6n u
   have hul:=zi u
   repeat' (first|apply zA rfl|(apply zd_ rfl<;>intro ht<;>try omega)|((first|apply zB rfl|(apply zG<;>intro ht))<;>try simp (disch:=first|omega|simp only [lz,lZ];try omega) only [go_sem,q0,q3,q4,hpp',g,hq',hgi,hu,hul,rl,ha]))
   exact⟨t-1,by omega,i+1,w',by omega,hO2,by simp⟩
  ·obtain rfl:i=P.length:=by omega
   rw [List.take_of_length_le (Nat.le_refl _)]at hO
   repeat' (first|apply zA rfl|(apply zd_ rfl<;>intro ht<;>try omega)|((first|apply zB rfl|(apply zG<;>intro ht))<;>try simp (disch:=first|omega|simp only [lz,lZ];try omega) only [go_sem,q0,q3,q4,hpp',g,r1]))
   exact hO.froze hw (zni P)
def z9a:Option Nat->Int
 |none=> -1
 |some j=>j
theorem zz8(O:Store)(p:Nat)(key:Hash)(P:List Hdr)(own:List Nat)(o:Option Nat)(hT:PoR O p key P own)(ho:ForkIs P o)(hl:P.length<1000000):ACallsTo TC 56 [.ptr p 0 0] O (.int .i64 (z9a o)) O:=by
 obtain⟨v,sid,rfl,hpp,hr1,hn⟩:=hT
 have d:=slen hpp
 have l:=z12 key v
 have g:=z60 key v
 have r1:=hr1.rd.len
 rw [zh]at r1
 unfold z1f at r1
 refine ACallsTo.of_body q2mok (by simp) fun hw _=> ?_
 repeat' (first|apply zA rfl|(apply zd_ rfl<;>intro ht<;>try omega)|((first|apply zB rfl|(apply zG<;>intro ht))<;>try simp (disch:=first|omega|simp only [lz,lZ];try omega) only [go_sem]))
 refine zW.loop (fun t J O'=>∃i:Nat,t+i=P.length/\ (i+1<=P.length \/P=[])/\ O'=O/\ noF P (i+1)/\ J 0=.ptr p 0 0/\ J 3=.int .i64 i) P.length ?_ ?_
 ·exact⟨0,by omega,by rcases P with _| ⟨a,P⟩;exact .inr rfl;exact .inl (by simp),rfl,fun k hk=>by omega,by simp only [go_sem],by simp only [go_sem];try rfl⟩
 ·rintro t J O' ⟨i,ht,hi1,rfl,hF,q0,q3⟩
  by_cases hi:i+1<P.length
  ·rcases hr1 with⟨_,h0,_⟩| ⟨q,_,hne,rfl,hq⟩
   ·have:=congrArg List.length h0;rw [zh]at this;simp at this;rw [this]at hi;simp at hi
   rw [zh]at hpp l g
   have hdl:=zh P
   have hi0:i<P.length:=by omega
   have hga:=z2w hi0
   have hgb:=z2w hi
   have ea:P[i]? =some P[i]:=List.getElem?_eq_getElem hi0
   have eb:P[i+1]? =some P[i+1]:=List.getElem?_eq_getElem hi
   have hk:(i:Int)+1=((i+1:Nat):Int):=by omega
   by_cases he:P[i].n=P[i+1].n
   ·have hj:o=some i:=by
     cases o with
     |none=>
      exfalso
      have:=ho i (by omega)
      rw [ea,eb]at this
      exact this (by simp [he])
     |some j=>
      obtain⟨h1,h2,h3⟩:=ho
      by_cases h4:j<i
      ·exact absurd h2 (hF j (by omega))
      ·by_cases h5:i<j
       ·have:=h3 i (by omega)
        rw [ea,eb]at this
        exact absurd (by simp [he]) this
       ·congr 1;omega
    subst hj
    generalize P[i]=a at*
    generalize P[i+1]=b at*
    have na:(hdrC a)[0]? =some (.int .i64 a.n):=rfl
    have nb:(hdrC b)[0]? =some (.int .i64 b.n):=rfl
    have he':(a.n==b.n)=true:=beq_iff_eq.2 he
    unfold z9a
    repeat' (first|apply zA rfl|(apply zd_ rfl<;>intro ht<;>try omega)|((first|apply zB rfl|(apply zG<;>intro ht))<;>try simp (disch:=first|omega|simp only [lz,lZ];try omega) only [go_sem,q0,q3,hpp,g,hq,hga,hgb,hk,na,nb,he']))
    exact DownV.same hw z2b
   ·have hF2:noF P (i+1+1):=zex hF (by omega) (by rw [Nat.add_sub_cancel,ea,eb];simpa using he)
    generalize P[i]=a at*
    generalize P[i+1]=b at*
    have na:(hdrC a)[0]? =some (.int .i64 a.n):=rfl
    have nb:(hdrC b)[0]? =some (.int .i64 b.n):=rfl
    have he':(a.n==b.n)=false:=beq_eq_false_iff_ne.2 he
    repeat' (first|apply zA rfl|(apply zd_ rfl<;>intro ht<;>try omega)|((first|apply zB rfl|(apply zG<;>intro ht))<;>try simp (disch:=first|omega|simp only [lz,lZ];try omega) only [go_sem,q0,q3,hpp,g,hq,hga,hgb,hk,na,nb,he']))
    exact⟨t-1,by omega,i+1,by omega,.inl (by omega),hF2,by simp only [hk]⟩
  ·have hnF:noF P P.length:=by
    rcases hi1 with h|h
    ·rw [show i+1=P.length by omega]at hF
     exact hF
    ·subst h;exact fun k hk=>by simp at hk
   have hj:o=none:=by
    cases o with
    |none=>rfl
    |some j=>
     obtain⟨h1,h2,h3⟩:=ho
     exact absurd h2 (hnF j h1)
   subst hj
   unfold z9a
   have hi':¬(i:Int)+1<P.length:=by omega
   repeat' (first|apply zA rfl|(apply zd_ rfl<;>intro ht<;>try omega)|((first|apply zB rfl|(apply zG<;>intro ht))<;>try simp (disch:=first|omega|simp only [lz,lZ];try omega) only [go_sem,q0,q3,hpp,g,r1,hi']))
   exact DownV.same hw z2b
end
section
def insI(P:List Hdr)(q:Hdr)(c i:Nat):List Hdr:=if c<i then P.take c++q::(P.take i).drop c else P.take i
theorem zur{P:List Hdr}{q:Hdr}{c:Nat}(h:i<c)(hi:i<P.length):insI P q c i++ [P[i]]=insI P q c (i+1):=by
 unfold insI
 rw [if_neg (by omega),if_neg (by omega),List.take_succ_eq_append_getElem hi]
theorem zup{P:List Hdr}{q:Hdr}(hi:i<P.length):(insI P q i i++ [q])++ [P[i]]=insI P q i (i+1):=by
 unfold insI
 rw [if_neg (by omega),if_pos (by omega),List.take_succ_eq_append_getElem hi,List.drop_append,List.length_take,Nat.min_eq_left (by omega),Nat.sub_self,List.drop_take,Nat.sub_self]
 simp
theorem zuq{P:List Hdr}{q:Hdr}{c:Nat}(h:c<i)(hi:i<P.length):insI P q c i++ [P[i]]=insI P q c (i+1):=by
 unfold insI
 rw [if_pos h,if_pos (by omega),List.take_succ_eq_append_getElem hi,List.drop_append,List.length_take]
 have:c-min i P.length=0:=by omega
 rw [this]
 simp
theorem zkt(P:List Hdr)(q:Hdr)(c i:Nat):(insI P q c i).length<=P.length+1:=by
 unfold insI
 split<;>simp<;>omega
theorem z9e(A B:List Hdr):hdrs (A++B)=hdrs A++hdrs B:=by simp [hdrs]
theorem PSort.le{P:List Hdr}(h:PSort P){i j:Nat}(hj:j<P.length)(hij:i<=j):(P[i]'(by omega)).n<=P[j].n:=by
 rcases Nat.lt_or_ge i j with h1|h1
 ·have:=po_neg.1 (h i j (by omega) hj h1)
  omega
 ·obtain rfl:i=j:=by omega
  exact Int.le_refl _
theorem zk5{P:List Hdr}(hP:PSort P)(q:Hdr)(hq:isP P q.n q.r=false):z2p (insL P q) (lbP P q.n q.r) q.n ↔ ∃w ∈ P,w.n=q.n:=by
 have hb:=z6r P q.n q.r
 have hs:=z6s hP q.n q.r
 have e1:∀j,j<lbP P q.n q.r->(insL P q)[j]? =P[j]?:=fun j hj=>by
  unfold insL
  rw [List.getElem?_append_left (by rw [List.length_take];omega),List.getElem?_take,if_pos hj]
 have e2:(insL P q)[lbP P q.n q.r+1]? =P[lbP P q.n q.r]?:=by
  unfold insL
  rw [List.getElem?_append_right (by rw [List.length_take];omega),List.length_take,Nat.min_eq_left hb,Nat.add_sub_cancel_left,List.getElem?_cons_succ,List.getElem?_drop,Nat.add_zero]
 unfold z2p
 rw [e2]
 generalize lbP P q.n q.r=b at*
 constructor
 ·rintro(⟨h0,h1⟩|h1)
  ·rw [e1 _ (by omega),List.getElem?_eq_getElem (by omega)]at h1
   exact⟨P[b-1],List.getElem_mem _,Option.some.inj h1⟩
  ·by_cases h2:b<P.length
   ·rw [List.getElem?_eq_getElem h2]at h1
    exact⟨P[b],List.getElem_mem _,Option.some.inj h1⟩
   ·rw [List.getElem?_eq_none (by omega)]at h1;cases h1
 ·rintro⟨w,hw,hn⟩
  obtain⟨j,hj,rfl⟩:=List.getElem_of_mem hw
  by_cases h1:j<b
  ·left
   refine⟨by omega,?_⟩
   rw [e1 _ (by omega),List.getElem?_eq_getElem (by omega)]
   have h2:=hP.le (i:=j) (j:=b-1) (by omega) (by omega)
   have h3:=po_neg.1 ((hs (b-1) (by omega)).2 (by omega))
   simp only [Option.map_some]
   congr 1
   omega
  ·right
   have h4:b<P.length:=by omega
   rw [List.getElem?_eq_getElem h4]
   have h2:=hP.le (i:=b) (j:=j) hj (by omega)
   have h3:¬poI P[b].n P[b].r q.n q.r<0:=fun h=>by have:=(hs b h4).1 h;omega
   have h5:¬P[b].n<q.n:=fun h=>h3 (po_neg.2 (.inl h))
   simp only [Option.map_some]
   congr 1
   omega
def whC(P:List Hdr)(n:Int):Int:=if (P.any fun u=>decide (u.n=n))=true then 3 else 2
theorem z13a(n:Int):whC [] n=2:=rfl
theorem z13b(A:List Hdr)(u:Hdr)(n:Int):whC (A++ [u]) n=if u.n=n then 3 else whC A n:=by
 unfold whC
 rw [List.any_append]
 by_cases h:u.n=n
 ·rw [if_pos h,if_pos (by simp [h])]
 ·rw [if_neg h];simp [h]
theorem whC_is(P:List Hdr)(n:Int):(∃w ∈ P,w.n=n)->whC P n=3:=fun⟨w,h1,h2⟩=>by
 unfold whC
 exact if_pos (List.any_eq_true.2 ⟨w,h1,decide_eq_true h2⟩)
theorem whC_no(P:List Hdr)(n:Int)(h:¬ ∃w ∈ P,w.n=n):whC P n=2:=by
 unfold whC
 refine if_neg fun e=>h ?_
 obtain⟨w,h1,h2⟩:=List.any_eq_true.1 e
 exact⟨w,h1,of_decide_eq_true h2⟩
theorem zvd{P:List Hdr}(hP:PSort P)(q:Hdr)(hq:isP P q.n q.r=false){i:Nat}(hi:i<P.length):zbn q.n P[i].n q.r P[i].r=decide (lbP P q.n q.r<=i):=by
 unfold zbn
 have hs:=z6s hP q.n q.r i hi
 have hz:poI P[i].n P[i].r q.n q.r ≠ 0:=fun e=>by
  have:=(z7s hP q.n q.r).2 ⟨P[i],List.getElem_mem hi,(po_zero.1 e).1,(po_zero.1 e).2⟩
  rw [this]at hq;cases hq
 rw [zlz]
 by_cases h:lbP P q.n q.r<=i
 ·rw [decide_eq_true h,decide_eq_true]
  have:¬poI P[i].n P[i].r q.n q.r<0:=fun e=>by have:=hs.1 e;omega
  omega
 ·rw [decide_eq_false h,decide_eq_false]
  have:=hs.2 (by omega)
  omega
def PoRAddP(O:Store)(p:Nat)(key:Hash)(P:List Hdr)(own:List Nat)(q:Hdr)(a:AV)(O':Store):Prop:=
 a=.int .i64 (addC key P q)/\ ∃own',Fr O O' own own'/\ PoR O' p key (addL key P q) own'
theorem PoRAddP.is{key:Hash}{P:List Hdr}{own:List Nat}{q:Hdr}(hT:PoR O p key P own):∃a O',PoRAddP O p key P own q a O':=by
 by_cases h:addC key P q=2 \/addC key P q=3
 ·obtain⟨v,sid,rfl,hp,hr,hn⟩:=hT
  have d:=slen hp
  refine⟨_,O.set p (some [reC key (.sl O.length 0 (insL P q).length none 36)])++ [some (hdrs (insL P q))],rfl,p::Option.toList (some O.length),⟨fun j hj hn=> ?_,fun j hj=> ?_,by simp⟩,?_⟩
  ·rw [gapp (by simpa using hj),z1h (fun e=>hn (by simp [e]))]
  ·simp only [List.mem_cons,Option.mem_toList,Option.some.injEq]at hj ⊢
   rcases hj with h|h
   ·exact .inl (.inl h)
   ·exact .inr (by omega)
  ·unfold addL
   rw [if_pos h]
   exact⟨_,some O.length,rfl,by rw [gapp (by simpa using d),z2a d],.inr ⟨O.length,rfl,fun e=>by have:=congrArg List.length e;rw [zh,z6p]at this;simp at this,by rw [zh],by rw [z18 (by simp)];simp⟩,fun e=>by injection e with e;omega⟩
 ·exact⟨_,O,rfl,own,.ext (.refl _),by unfold addL;rw [if_neg h];exact hT⟩
attribute [local irreducible] ACallsTo ACallsP
theorem zz6(O:Store)(p:Nat)(key:Hash)(P:List Hdr)(own:List Nat)(q:Hdr)(x:AV)(e:Int)(hT:PoR O p key P own)(hs:PSort P)(hl:P.length<=16)(hx:SlV 32 (hr q.p) x)(he:addC key P q=e)(h2:e ≠ 2)(h3:e ≠ 3):
  ACallsTo TC 15 [.ptr p 0 0,.agg (sgC q.n q.r q.i q.s x)] O (.int .i64 e) O:=by
 have hH:=fun y=>zft (O++y) p key P own q.n q.r (hT.ext ⟨y,rfl⟩) hs (by omega)
 obtain⟨v,sid,rfl,hpp,hr1,hn⟩:=hT
 have d:=slen hpp
 have l:=z12 key v
 have g:=z60 key v
 have gk:=zfs key v
 have kl:=z8 key
 have ql:=zg q.n q.r q.i q.s x
 have qh:=z9y q.n q.r q.i q.s x
 have r1:=hr1.rd.len
 rw [zh]at r1
 unfold z1f at r1
 have c3:=hr1.cells
 unfold cellsOf at c3
 have hC:=fun O=>zn3 O key q.n q.i q.r q.s q.p x (.of hx)
 unfold addC at he
 refine ACallsTo.of_body q2iok (by simp) fun hw _=> ?_
 by_cases h0:z1s key q.n q.i q.r q.s q.p ≠ 0
 ·rw [if_pos h0]at he
  subst he
  generalize z1s key q.n q.i q.r q.s q.p=c at*
  repeat' (first|apply zA rfl|(apply zd_ rfl<;>intro ht<;>try omega)|((first|apply zB rfl|(apply callW.mk_pu;exact(fun _=>hC _))|(apply callW.za;exact(hC _))|(apply zG<;>intro ht))<;>try simp (disch:=first|omega|simp only [lz,lZ];try omega) only [go_sem,hpp,l,gk,ql]))
  exact DownV.pure hw z2b
 ·have h0':z1s key q.n q.i q.r q.s q.p=0:=by omega
  rw [if_neg h0]at he
  rw [h0']at hC
  cases h1:isP P q.n q.r with
  |true=>
   rw [h1,if_pos rfl]at he
   subst he
   rw [h1]at hH
   repeat' (first|apply zA rfl|(apply zd_ rfl<;>intro ht<;>try omega)|((first|apply zB rfl|(apply callW.mk_pu;(first|exact(fun _=>hC _)|exact(fun _=>hH _)))|(apply callW.za;(first|exact(hC _)|exact(hH _)))|(apply zG<;>intro ht))<;>try simp (disch:=first|omega|simp only [lz,lZ];try omega) only [go_sem,hpp,l,gk,ql,qh]))
   exact DownV.pure hw z2b
  |false=>
   rw [h1,if_neg (by simp)]at he
   rw [h1]at hH
   by_cases h4:16<=P.length
   ·rw [if_pos h4]at he
    subst he
    have h4':(P.length:Int)>15:=by omega
    repeat' (first|apply zA rfl|(apply zd_ rfl<;>intro ht<;>try omega)|((first|apply zB rfl|(apply callW.mk_pu;(first|exact(fun _=>hC _)|exact(fun _=>hH _)))|(apply callW.za;(first|exact(hC _)|exact(hH _)))|(apply zG<;>intro ht))<;>try simp (disch:=first|omega|simp only [lz,lZ];try omega) only [go_sem,hpp,l,g,gk,ql,qh,r1,h4']))
    exact DownV.pure hw z2b
   ·rw [if_neg h4]at he
    exfalso
    split at he<;>omega
attribute [local irreducible] zc4
theorem zz5(O:Store)(p:Nat)(key:Hash)(P:List Hdr)(own:List Nat)(q:Hdr)(x:AV)(hT:PoR O p key P own)(hs:PSort P)(hl:P.length<16)(hx:SlV 32 (hr q.p) x)(hx1:x=zz 32 (hr q.p))(h0:z1s key q.n q.i q.r q.s q.p=0)(h1:isP P q.n q.r=false):
  ACallsP TC 15 [.ptr p 0 0,.agg (sgC q.n q.r q.i q.s x)] O (PoRAddP O p key P own q):=by
 subst hx1
 have hH:=fun y=>zft (O++y) p key P own q.n q.r (hT.ext ⟨y,rfl⟩) hs (by omega)
 have hbl:=z6r P q.n q.r
 have hc:addC key P q=if z2p (insL P q) (lbP P q.n q.r) q.n then 3 else 2:=by unfold addC;rw [if_neg (by omega),if_neg (by rw [h1];simp),if_neg (by omega)]
 have hcf:addC key P q=whC P q.n:=by
  rw [hc]
  by_cases h:z2p (insL P q) (lbP P q.n q.r) q.n
  ·rw [if_pos h,whC_is P q.n ((zk5 hs q h1).1 h)]
  ·rw [if_neg h,whC_no P q.n fun e=>h ((zk5 hs q h1).2 e)]
 have hL:addL key P q=insL P q:=by unfold addL;rw [hc];split<;>simp
 have hla:=fun i hi=>zvd hs q h1 (i:=i) hi
 obtain⟨v,sid,rfl,hpp,hr1,hn⟩:=hT
 have d:=slen hpp
 have l:=z12 key v
 have g:=z60 key v
 have gk:=zfs key v
 have kl:=z8 key
 have hdq:sgC q.n q.r q.i q.s (zz 32 (hr q.p))=hdrC q:=rfl
 rw [hdq]
 have ql:=zi q
 have qh:=z6n q
 have qa:(hdrC q).take 36=hdrC q:=z30 q
 have qn:(hdrC q)[0]? =some (.int .i64 q.n):=rfl
 have r1:=hr1.rd.len
 rw [zh]at r1
 unfold z1f at r1
 have c3:=hr1.cells
 unfold cellsOf at c3
 have hC:=fun O=>zn3 O key q.n q.i q.r q.s q.p (zz 32 (hr q.p)) (.of hx)
 rw [h0,hdq]at hC
 rw [h1]at hH
 have h4':¬(P.length:Int)>15:=by omega
 have hput:=fun y=>zz7 key v y
 have fin:∀(O1:Store) (w:AV),OwnN 36 (O++ [some [hdrC q]]) O1 w (hdrs (insL P q))->PoRAddP O p key P (p::Option.toList sid) q (.int .i64 (addC key P q)) (O1.set p (some [reC key w])):=by
  intro O1 w hO
  obtain⟨news,hnews⟩:=hO.ext
  have hne:hdrs (insL P q) ≠ []:=fun e=>by have:=congrArg List.length e;rw [zh,z6p]at this;simp at this
  obtain⟨t,rfl,ht,htl⟩:=hO.sl hne
  simp only [List.length_append,List.length_cons,List.length_nil]at htl
  have dp:p<O1.length:=by rw [hnews];simp<;>omega
  refine⟨rfl,p::Option.toList (some t),⟨fun j hj hn=> ?_,fun j hj=> ?_,by rw [hnews];simp<;>omega⟩,?_⟩
  ·rw [z1h (fun e=>hn (by simp [e])),hnews,List.append_assoc,gapp hj]
  ·simp only [List.mem_cons,Option.mem_toList,Option.some.injEq]at hj ⊢
   rcases hj with h|h
   ·exact .inl (.inl h)
   ·exact .inr (by omega)
  ·rw [hL]
   exact⟨_,some t,rfl,z2a dp,.inr ⟨t,rfl,hne,rfl,by rw [z1h (by omega)];exact ht⟩,fun e=>by injection e with e;omega⟩
 have tail:∀(O1:Store) (w:AV) (J:Env),OwnN 36 (O++ [some [hdrC q]]) O1 w (hdrs (insI P q (lbP P q.n q.r) P.length))->J 0=.ptr p 0 0->J 3=.ptr O.length 0 0->J 5=.int .i64 (whC P q.n)->J 6=w->J 7=.bool (decide (lbP P q.n q.r<P.length))->
   zW TC 88 O.length zc4 (z5t [.t 4] (PoRAddP O p key P (p::Option.toList sid) q)) J O1:=by
  intro O1 w J hO q0 q3 q5 q6 q7
  rw [<-hcf]at q5
  obtain⟨news,hnews⟩:=hO.ext
  have hp1:O1[p]? =some (some [reC key v]):=by rw [hnews,List.append_assoc,gapp d];exact hpp
  have hb1:O1[O.length]? =some (some [hdrC q]):=by rw [hnews,List.append_assoc,z18 (Nat.le_refl _),Nat.sub_self];rfl
  have dp1:=slen hp1
  have hwc:∀(es:List (List AV)) (O1:Store) (w:AV),es ≠ []->OwnN 36 (O++ [some [hdrC q]]) O1 w es->cellsOf w=some [w]:=by
   intro es O1 w hne hO
   obtain⟨t,rfl,_,_⟩:=hO.sl hne
   rfl
  have hne:hdrs (insL P q) ≠ []:=fun e=>by have:=congrArg List.length e;rw [zh,z6p]at this;simp at this
  unfold zc4
  by_cases hd:lbP P q.n q.r<P.length
  ·rw [decide_eq_true hd]at q7
   have hi:insI P q (lbP P q.n q.r) P.length=insL P q:=by
    unfold insI insL;rw [if_pos hd,List.take_of_length_le (Nat.le_refl _)]
   rw [hi]at hO
   have wc:=hwc _ _ _ hne hO
   unfold cellsOf at wc
   have f:=fin _ _ hO
   generalize addC key P q=C at*
   repeat' (first|apply zA rfl|(apply zd_ rfl<;>intro ht<;>try omega)|((first|apply zB rfl|(apply zG<;>intro ht))<;>try simp (disch:=first|omega|simp only [lz,lZ];try omega) only [go_sem,q0,q5,q6,q7,hp1,l,wc,hput]))
   exact f
  ·rw [decide_eq_false hd]at q7
   have hlb:lbP P q.n q.r=P.length:=by omega
   have hi:insI P q (lbP P q.n q.r) P.length++ [q]=insL P q:=by
    unfold insI insL;rw [if_neg hd,hlb,List.take_of_length_le (Nat.le_refl _),List.drop_of_length_le (Nat.le_refl _)]
   obtain⟨w',O2,ha,hO2⟩:=hO.app (ys:=[hdrC q]) (by simp) (by have:=zkt P q (lbP P q.n q.r) P.length;rw [zh];simp;omega)
   have hh:hdrs (insI P q (lbP P q.n q.r) P.length)++ [hdrC q]=hdrs (insL P q):=by rw [<-hi,z9e];rfl
   rw [hh]at hO2
   have wc:=hwc _ _ _ hne hO2
   unfold cellsOf at wc
   have f:=fin _ _ hO2
   obtain⟨news2,hnews2⟩:=hO2.ext
   have hp2:O2[p]? =some (some [reC key v]):=by rw [hnews2,List.append_assoc,gapp d];exact hpp
   generalize addC key P q=C at*
   repeat' (first|apply zA rfl|(apply zd_ rfl<;>intro ht<;>try omega)|((first|apply zB rfl|(apply zG<;>intro ht))<;>try simp (disch:=first|omega|simp only [lz,lZ];try omega) only [go_sem,q0,q3,q5,q6,q7,hp2,hb1,l,ql,qa,wc,hput,ha]))
   exact f
 refine ACallsP.of_keep q2iok (by simp) ?_
 repeat' (first|apply zA rfl|(apply zd_ rfl<;>intro ht<;>try omega)|((first|apply zB rfl|(apply callW.mk_pu;(first|exact(fun _=>hC _)|exact(fun _=>hH _)))|(apply callW.za;(first|exact(hC _)|exact(hH _)))|(apply zG<;>intro ht))<;>try simp (disch:=first|omega|simp only [lz,lZ];try omega) only [go_sem,hpp,l,g,gk,ql,qh,qa,r1,h4']))
 refine zW.loop (fun t J O'=>∃(i:Nat) (w:AV),t+i=P.length/\ OwnN 36 (O++ [some [hdrC q]]) O' w (hdrs (insI P q (lbP P q.n q.r) i))/\ J 0=.ptr p 0 0/\ J 3=.ptr O.length 0 0/\ J 5=.int .i64 (whC (P.take i) q.n)/\ J 6=w/\ J 7=.bool (decide (lbP P q.n q.r<i))/\ J 8=.int .i64 i) P.length ?_ ?_
 ·exact⟨0,.nilsl,by omega,⟨[],by simp,.inl ⟨by simp [insI,hdrs],rfl⟩⟩,by simp only [go_sem],by simp only [go_sem],by rw [List.take_zero,z13a];simp (disch:=first|omega|simp only [lz,lZ];try omega) only [go_sem],by simp only [go_sem],by rw [decide_eq_false (by omega)];simp (disch:=first|omega|simp only [lz,lZ];try omega) only [go_sem],by simp only [go_sem];try rfl⟩
 ·rintro t J O' ⟨i,w,ht,hO,q0,q3,q5,q6,q7,q8⟩
  obtain⟨news,hnews⟩:=hO.ext
  have hp1:O'[p]? =some (some [reC key v]):=by rw [hnews,List.append_assoc,gapp d];exact hpp
  have hb1:O'[O.length]? =some (some [hdrC q]):=by rw [hnews,List.append_assoc,z18 (Nat.le_refl _),Nat.sub_self];rfl
  by_cases hi:i<P.length
  ·rcases hr1 with⟨_,h0,_⟩| ⟨r,_,hne,rfl,hq⟩
   ·have:=congrArg List.length h0;rw [zh]at this;simp at this;rw [this]at hi;simp at hi
   have dq:=slen hq
   have hq':O'[r]? =some (some (hdrs P)):=by rw [hnews,List.append_assoc,gapp dq];exact hq
   rw [zh]at hp1 l g
   have hdl:=zh P
   have hgi:=z2w hi
   have hl1:=hla i hi
   have new5:whC (P.take (i+1)) q.n=if P[i].n=q.n then 3 else whC (P.take i) q.n:=by
    rw [List.take_succ_eq_append_getElem hi,z13b]
   have i1:=zkt P q (lbP P q.n q.r) i
   have i2:=fun h=>zur (P:=P) (q:=q) (c:=lbP P q.n q.r) (i:=i) h hi
   have i3:=zup (P:=P) (q:=q) hi
   have i4:=fun h=>zuq (P:=P) (q:=q) (c:=lbP P q.n q.r) (i:=i) h hi
   have hLs:=fun O=>zvc O q.n P[i].n q.r P[i].r
   rw [hl1]at hLs
   have hls:∀A:List Hdr,(hdrs A).length=A.length:=zh
   have hone:∀(A:List Hdr) (u:Hdr),hdrs A++ [hdrC u]=hdrs (A++ [u]):=fun A u=>by rw [z9e];rfl
   generalize whC (P.take i) q.n=C5 at*
   obtain⟨C6,hC6⟩:∃C,C=whC (P.take (i+1)) q.n:=⟨_,rfl⟩
   rw [<-hC6]at new5
   generalize P[i]=u at*
   have hu:=z6n u
   have hul:=zi u
   have ua:(hdrC u).take 36=hdrC u:=z30 u
   have un:(hdrC u)[0]? =some (.int .i64 u.n):=rfl
   rcases Nat.lt_trichotomy i (lbP P q.n q.r)with h|h|h
   ·rw [decide_eq_false (by omega)]at q7 hLs
    obtain⟨w',O2,ha,hO2⟩:=hO.app (ys:=[hdrC u]) (by simp) (by rw [zh];simp;omega)
    rw [hone,i2 h]at hO2
    by_cases he:u.n=q.n
    ·have he':(u.n==q.n)=true:=beq_iff_eq.2 he
     rw [if_pos he]at new5
     subst new5
     repeat' (first|apply zA rfl|(apply zd_ rfl<;>intro ht<;>try omega)|((first|apply zB rfl|(apply callW.mk_pu;exact(fun _=>hLs _))|(apply callW.za;exact(hLs _))|(apply zG<;>intro ht))<;>try simp (disch:=first|omega|simp only [lz,lZ];try omega) only [go_sem,q0,q3,q5,q6,q7,q8,hp1,hb1,g,hq',hgi,hu,hul,ua,un,ql,qh,qn,he',ha]))
     exact⟨t-1,by omega,i+1,w',by omega,hO2,by simp;exact⟨hC6,by omega⟩⟩
    ·have he':(u.n==q.n)=false:=beq_eq_false_iff_ne.2 he
     rw [if_neg he]at new5
     subst new5
     repeat' (first|apply zA rfl|(apply zd_ rfl<;>intro ht<;>try omega)|((first|apply zB rfl|(apply callW.mk_pu;exact(fun _=>hLs _))|(apply callW.za;exact(hLs _))|(apply zG<;>intro ht))<;>try simp (disch:=first|omega|simp only [lz,lZ];try omega) only [go_sem,q0,q3,q5,q6,q7,q8,hp1,hb1,g,hq',hgi,hu,hul,ua,un,ql,qh,qn,he',ha]))
     exact⟨t-1,by omega,i+1,w',by omega,hO2,by simp;exact⟨hC6,by omega⟩⟩
   ·rw [<-h]at hO i1
    rw [decide_eq_false (by omega)]at q7
    rw [decide_eq_true (by omega)]at hLs
    obtain⟨w',O2,ha,hO2⟩:=hO.app (ys:=[hdrC q]) (by simp) (by rw [zh];simp;omega)
    rw [hone]at hO2
    obtain⟨w3,O3,ha2,hO3⟩:=hO2.app (ys:=[hdrC u]) (by simp) (by rw [zh];simp;omega)
    rw [hone,i3]at hO3
    have hO4:OwnN 36 (O++ [some [hdrC q]]) O3 w3 (hdrs (insI P q (lbP P q.n q.r) (i+1))):=by rw [<-h];exact hO3
    obtain⟨news2,hnews2⟩:=hO2.ext
    have hp2:O2[p]? =some (some [reC key (.sl r 0 P.length none 36)]):=by rw [hnews2,List.append_assoc,gapp d];rw [zh]at hpp;exact hpp
    have hb2:O2[O.length]? =some (some [hdrC q]):=by rw [hnews2,List.append_assoc,z18 (Nat.le_refl _),Nat.sub_self];rfl
    have hq2:O2[r]? =some (some (hdrs P)):=by rw [hnews2,List.append_assoc,gapp dq];exact hq
    by_cases he:u.n=q.n
    ·have he':(u.n==q.n)=true:=beq_iff_eq.2 he
     rw [if_pos he]at new5
     subst new5
     repeat' (first|apply zA rfl|(apply zd_ rfl<;>intro ht<;>try omega)|((first|apply zB rfl|(apply callW.mk_pu;exact(fun _=>hLs _))|(apply callW.za;exact(hLs _))|(apply zG<;>intro ht))<;>try simp (disch:=first|omega|simp only [lz,lZ];try omega) only [go_sem,q0,q3,q5,q6,q7,q8,hp1,hb1,g,hq',hgi,hu,hul,ua,un,ql,qh,qa,qn,he',ha,ha2,hp2,hq2]))
     exact⟨t-1,by omega,i+1,w3,by omega,hO4,by simp;exact⟨hC6,by omega⟩⟩
    ·have he':(u.n==q.n)=false:=beq_eq_false_iff_ne.2 he
     rw [if_neg he]at new5
     subst new5
     repeat' (first|apply zA rfl|(apply zd_ rfl<;>intro ht<;>try omega)|((first|apply zB rfl|(apply callW.mk_pu;exact(fun _=>hLs _))|(apply callW.za;exact(hLs _))|(apply zG<;>intro ht))<;>try simp (disch:=first|omega|simp only [lz,lZ];try omega) only [go_sem,q0,q3,q5,q6,q7,q8,hp1,hb1,g,hq',hgi,hu,hul,ua,un,ql,qh,qa,qn,he',ha,ha2,hp2,hq2]))
     exact⟨t-1,by omega,i+1,w3,by omega,hO4,by simp;exact⟨hC6,by omega⟩⟩
   ·rw [decide_eq_true h]at q7
    obtain⟨w',O2,ha,hO2⟩:=hO.app (ys:=[hdrC u]) (by simp) (by rw [zh];simp;omega)
    rw [hone,i4 h]at hO2
    by_cases he:u.n=q.n
    ·have he':(u.n==q.n)=true:=beq_iff_eq.2 he
     rw [if_pos he]at new5
     subst new5
     repeat' (first|apply zA rfl|(apply zd_ rfl<;>intro ht<;>try omega)|((first|apply zB rfl|(apply callW.mk_pu;exact(fun _=>hLs _))|(apply callW.za;exact(hLs _))|(apply zG<;>intro ht))<;>try simp (disch:=first|omega|simp only [lz,lZ];try omega) only [go_sem,q0,q3,q5,q6,q7,q8,hp1,hb1,g,hq',hgi,hul,ua,un,qn,he',ha]))
     exact⟨t-1,by omega,i+1,w',by omega,hO2,by simp;exact⟨hC6,by omega⟩⟩
    ·have he':(u.n==q.n)=false:=beq_eq_false_iff_ne.2 he
     rw [if_neg he]at new5
     subst new5
     repeat' (first|apply zA rfl|(apply zd_ rfl<;>intro ht<;>try omega)|((first|apply zB rfl|(apply callW.mk_pu;exact(fun _=>hLs _))|(apply callW.za;exact(hLs _))|(apply zG<;>intro ht))<;>try simp (disch:=first|omega|simp only [lz,lZ];try omega) only [go_sem,q0,q3,q5,q6,q7,q8,hp1,hb1,g,hq',hgi,hul,ua,un,qn,he',ha]))
     exact⟨t-1,by omega,i+1,w',by omega,hO2,by simp;exact⟨hC6,by omega⟩⟩
  ·obtain rfl:i=P.length:=by omega
   rw [List.take_of_length_le (Nat.le_refl _)]at q5
   repeat' (first|apply zA rfl|(apply zd_ rfl<;>intro ht<;>try omega)|((first|apply zB rfl|(apply zG<;>intro ht))<;>try simp (disch:=first|omega|simp only [lz,lZ];try omega) only [go_sem,q0,q8,hp1,g,r1]))
   exact tail _ _ _ hO (by simp only [go_sem,q0]) (by simp only [go_sem,q3]) (by simp only [go_sem,q5]) (by simp only [go_sem,q6]) (by simp only [go_sem,q7])
end
section
theorem zdc{key:Hash}{P:List Hdr}{q:Hdr}(h:addC key P q=2 \/addC key P q=3):z1s key q.n q.i q.r q.s q.p=0/\ isP P q.n q.r=false/\ P.length<16:=by
 unfold addC at h
 by_cases h0:z1s key q.n q.i q.r q.s q.p ≠ 0
 ·rw [if_pos h0]at h;omega
 rw [if_neg h0]at h
 cases h1:isP P q.n q.r with
 |true=>rw [h1,if_pos rfl]at h;omega
 |false=>
  rw [h1,if_neg (by simp)]at h
  by_cases h2:16<=P.length
  ·rw [if_pos h2]at h;omega
  ·exact⟨by omega,rfl,by omega⟩
theorem zqt{key:Hash}{P:List Hdr}(q:Hdr)(h:P.length<=16):(addL key P q).length<=16:=by
 unfold addL
 by_cases h1:addC key P q=2 \/addC key P q=3
 ·rw [if_pos h1,z6p];have:=(zdc h1).2.2;omega
 ·rw [if_neg h1];exact h
theorem insL_mem{P:List Hdr}{q w:Hdr}:w ∈ insL P q ↔ w=q \/w ∈ P:=by
 unfold insL
 rw [List.mem_append,List.mem_cons]
 constructor
 ·rintro(h|h|h)
  ·exact .inr (List.mem_of_mem_take h)
  ·exact .inl h
  ·exact .inr (List.mem_of_mem_drop h)
 ·rintro(h|h)
  ·exact .inr (.inl h)
  ·rw [<-List.take_append_drop (lbP P q.n q.r) P]at h
   rcases List.mem_append.1 h with h1|h1
   ·exact .inl h1
   ·exact .inr (.inr h1)
theorem zqu{key:Hash}{P:List Hdr}{q w:Hdr}(h:w ∈ addL key P q):w ∈ P \/(w=q/\ z1s key q.n q.i q.r q.s q.p=0):=by
 unfold addL at h
 by_cases h1:addC key P q=2 \/addC key P q=3
 ·rw [if_pos h1]at h
  rcases insL_mem.1 h with h2|h2
  ·exact .inr ⟨h2,(zdc h1).1⟩
  ·exact .inl h2
 ·rw [if_neg h1]at h;exact .inl h
structure POk(key:Hash)(P:List Hdr):Prop where
 sort:PSort P
 len:P.length<=16
 chk:∀q ∈ P,z1s key q.n q.i q.r q.s q.p=0
theorem POk.nil(key:Hash):POk key []:=⟨PSort.nil,by simp,by simp⟩
theorem POk.add{key:Hash}{P:List Hdr}(h:POk key P)(q:Hdr):POk key (addL key P q):=
 ⟨zqv h.sort q,zqt q h.len,fun w hw=>by rcases zqu hw with h1| ⟨rfl,h1⟩;exact h.chk w h1;exact h1⟩
theorem POk.path{key:Hash}{P:List Hdr}(h:POk key P):∀q ∈ P,q.p.length<1000000:=fun q hq=>by have:=zed (h.chk q hq);omega
theorem zb8{key:Hash}{q:Hdr}(h:z1s key q.n q.i q.r q.s q.p=0):q.p ≠ []:=fun e=>by have:=zed h;rw [e]at this;simp at this
theorem zfr(O:Store)(p:Nat)(key:Hash)(P:List Hdr)(own:List Nat)(q:Hdr)(x:AV)(hT:PoR O p key P own)(hs:PSort P)(hl:P.length<=16)(hx:SlV 32 (hr q.p) x)(hx1:z1s key q.n q.i q.r q.s q.p=0->x=zz 32 (hr q.p)):
  ACallsP TC 15 [.ptr p 0 0,.agg (sgC q.n q.r q.i q.s x)] O (PoRAddP O p key P own q):=by
 by_cases h:addC key P q=2 \/addC key P q=3
 ·obtain⟨h0,h1,h2⟩:=zdc h
  exact zz5 O p key P own q x hT hs h2 hx (hx1 h0) h0 h1
 ·exact(zz6 O p key P own q x _ hT hs hl hx rfl (fun e=>h (.inl e)) (fun e=>h (.inr e))).toP ⟨rfl,_,.ext (.refl _),by unfold addL;rw [if_neg h];exact hT⟩
theorem PoIs.has{key:Hash}{P:List Hdr}{own:List Nat}(h:PoIs O p key P own)(hs:PSort P)(hl:P.length<1000000)(m:Int)(k:Hash):ACallsTo TC 30 [.ptr p 0 0,.agg (.int .i64 m::hc k)] O (.bool (isP P m k)) O:=by
 obtain⟨v,sid,rfl,hp,hr1,hn⟩:=h
 exact zy4 O p key v sid P m k hp hr1 hs hl
theorem zek(h:Hdr):zej h.n h.n h.i h.i h.r h.r h.s h.s h.p h.p=true:=decide_eq_true ⟨rfl,rfl,rfl,rfl,rfl⟩
attribute [local irreducible] ACallsTo ACallsP
theorem zq2(O:Store)(P:List Hdr)(sid:Option Nat)(x y:AV)(hx:SlV 36 (hdrs P) x)(hy:RowAt 36 O sid y (hdrs P))(hl:P.length<1000000)(hp:∀q ∈ P,q.p.length<1000000):
  ACallsTo TC 57 [x,y] O (.bool true) O:=by
 have r1:=hx.len
 have r2:=hy.rd.len
 rw [zh]at r1 r2
 unfold z1f at r1 r2
 refine ACallsTo.of_body q2nok (by simp) fun hw _=> ?_
 repeat' (first|apply zA rfl|(apply zd_ rfl<;>intro ht<;>try omega)|((first|apply zB rfl|(apply zG<;>intro ht))<;>try simp (disch:=first|omega|simp only [lz,lZ];try omega) only [go_sem,r1,r2]))
 refine zW.loop (fun t J O'=>∃i:Nat,t+i=P.length/\ O'=O/\ J 0=x/\ J 1=y/\ J 5=.int .i64 i) P.length ?_ ?_
 ·exact⟨0,by omega,rfl,by simp only [go_sem],by simp only [go_sem],by simp only [go_sem];try rfl⟩
 ·rintro t J O' ⟨i,ht,rfl,q0,q1,q5⟩
  by_cases hi:i<P.length
  ·obtain⟨ex,rfl⟩:=hx.vsl (by rw [zh];omega)
   rcases hy with⟨_,h0,_⟩| ⟨q,_,hne,rfl,hq⟩
   ·have:=congrArg List.length h0;rw [zh]at this;simp at this;rw [this]at hi;simp at hi
   rw [zh]at q1
   have hgi:=z2w hi
   have hdl:=zh P
   have hpp:=hp P[i] (List.getElem_mem hi)
   generalize P[i]=u at*
   have hul:=zi u
   have ua:(hdrC u).take 36=hdrC u:=z30 u
   have hS:=fun O=>zfz O u.n u.n u.i u.i u.r u.r u.s u.s u.p u.p _ _ (z1l 32 (hr u.p)) (z1l 32 (hr u.p)) hpp hpp
   rw [zek,show sgC u.n u.r u.i u.s (zz 32 (hr u.p))=hdrC u from rfl]at hS
   repeat' (first|apply zA rfl|(apply zd_ rfl<;>intro ht<;>try omega)|((first|apply zB rfl|(apply callW.mk_pu;exact(fun _=>hS _))|(apply callW.za;exact(hS _))|(apply zG<;>intro ht))<;>try simp (disch:=first|omega|simp only [lz,lZ];try omega) only [go_sem,q0,q1,q5,hq,hgi,hdl,hul,ua]))
   exact⟨t-1,by omega,i+1,by omega,by simp⟩
  ·obtain rfl:i=P.length:=by omega
   repeat' (first|apply zA rfl|(apply zd_ rfl<;>intro ht<;>try omega)|((first|apply zB rfl|(apply zG<;>intro ht))<;>try simp (disch:=first|omega|simp only [lz,lZ];try omega) only [go_sem,q0,q5,r1]))
   exact DownV.same hw z1k
theorem zpp(O:Store)(P:List Hdr)(x y:AV)(hx:SlV 33 (kn P) x)(hy:SlV 33 (kn P) y)(hl:P.length<1000000):
  ACallsTo TC 58 [x,y] O (.bool true) O:=by
 have r1:=hx.len
 have r2:=hy.len
 rw [zj]at r1 r2
 unfold z1f at r1 r2
 refine ACallsTo.of_body q2ook (by simp) fun hw _=> ?_
 repeat' (first|apply zA rfl|(apply zd_ rfl<;>intro ht<;>try omega)|((first|apply zB rfl|(apply zG<;>intro ht))<;>try simp (disch:=first|omega|simp only [lz,lZ];try omega) only [go_sem,r1,r2]))
 refine zW.loop (fun t J O'=>∃i:Nat,t+i=P.length/\ O'=O/\ J 0=x/\ J 1=y/\ J 5=.int .i64 i) P.length ?_ ?_
 ·exact⟨0,by omega,rfl,by simp only [go_sem],by simp only [go_sem],by simp only [go_sem];try rfl⟩
 ·rintro t J O' ⟨i,ht,rfl,q0,q1,q5⟩
  by_cases hi:i<P.length
  ·obtain⟨ex,rfl⟩:=hx.vsl (by rw [zj];omega)
   obtain⟨ey,rfl⟩:=hy.vsl (by rw [zj];omega)
   have ga:=kn_get hi
   have la:=zj P
   generalize P[i]=u at*
   have ul:=z8 u.r
   have he:=z88 u.n u.n u.r u.r
   rw [decide_eq_true ⟨rfl,rfl⟩]at he
   repeat' (first|apply zA rfl|(apply zd_ rfl<;>intro ht<;>try omega)|((first|apply zB rfl|(apply zG<;>intro ht))<;>try simp (disch:=first|omega|simp only [lz,lZ];try omega) only [go_sem,q0,q1,q5,ga,la,ul,he,z1p,eq_self,and_self,if_true]))
   exact⟨t-1,by omega,i+1,by omega,by simp⟩
  ·obtain rfl:i=P.length:=by omega
   repeat' (first|apply zA rfl|(apply zd_ rfl<;>intro ht<;>try omega)|((first|apply zB rfl|(apply zG<;>intro ht))<;>try simp (disch:=first|omega|simp only [lz,lZ];try omega) only [go_sem,q0,q5,r1]))
   exact DownV.same hw z1k
attribute [local irreducible] zc5
theorem zqx(hw:Wf τ.length τ)(O:Store)(p r:Nat)(key key':Hash)(P:List Hdr)(own own':List Nat)(J:Env)(hP:PoIs O p key P own)(hR:PoR O r key' P own')(hs:PSort P)(hl:P.length<=16)(hx:Ext τ O)(q0:J 0=.ptr p 0 0)(q1:J 1=.ptr r 0 0):
  zW TC 84 τ.length zc5 (endQ τ.length [.t 4] (.bool true) τ) J O:=by
 unfold zc5
 repeat' (first|apply zA rfl|(apply zd_ rfl<;>intro ht<;>try omega)|((first|apply zB rfl|(apply zG<;>intro ht))<;>try simp (disch:=first|omega|simp only [lz,lZ];try omega) only [go_sem]))
 refine zW.loop (fun t J O'=>∃i:Nat,t+i=8/\ Ext O O'/\ J 0=.ptr p 0 0/\ J 1=.ptr r 0 0/\ J 9=.int .i64 i) 8 ?_ ?_
 ·exact⟨0,by omega,.refl _,by simp only [go_sem,q0],by simp only [go_sem,q1],by simp only [go_sem];try rfl⟩
 ·rintro t J O' ⟨i,ht,hE,q0,q1,q9⟩
  by_cases hi:i<8
  ·have hP':=hP.ext hE
   have hR':=hR.ext hE
   have e3:((i:Int))%3=((i%3:Nat):Int):=by omega
   have hh:=zkg (UInt8.ofNat (i%3))
   have hu:(UInt8.ofNat (i%3)).toNat=i%3:=by rw [UInt8.toNat_ofNat'];omega
   rw [hu]at hh
   have hA:=fun y=>(hP'.ext (O':=O'++y) ⟨y,rfl⟩).has hs (by omega) (i:Int) (rt2 (UInt8.ofNat (i%3)))
   have hB:=fun y=>zft (O'++y) r key' P own' (i:Int) (rt2 (UInt8.ofNat (i%3))) (hR'.ext ⟨y,rfl⟩) hs (by omega)
   rw [hh]at hA hB
   generalize isP P (i:Int) (rt2 (UInt8.ofNat (i%3)))=b at*
   repeat' (first|apply zA rfl|(apply zd_ rfl<;>intro ht<;>try omega)|((first|apply zB rfl|(apply callW.mk_pu;(first|exact(fun _=>hA _)|exact(fun _=>hB _)))|(apply callW.za;(first|exact(hA _)|exact(hB _)))|(apply zG<;>intro ht))<;>try simp (disch:=first|omega|simp only [lz,lZ];try omega) only [go_sem,q0,q1,q9,e3]))
   exact⟨t-1,by omega,i+1,by omega,hE.app,by simp⟩
  ·obtain rfl:i=8:=by omega
   repeat' (first|apply zA rfl|(apply zd_ rfl<;>intro ht<;>try omega)|((first|apply zB rfl|(apply zG<;>intro ht))<;>try simp (disch:=first|omega|simp only [lz,lZ];try omega) only [go_sem,q9]))
   exact Ext.pure hw (hx.trans hE) z1k
theorem zqw(O:Store)(p r:Nat)(key key':Hash)(P:List Hdr)(own own':List Nat)(hP:PoIs O p key P own)(hR:PoR O r key' P own')(ho:POk key P):
  ACallsTo TC 16 [.ptr p 0 0,.ptr r 0 0] O (.bool true) O:=by
 obtain⟨o,hF⟩:=ForkIs.ex P
 have hl:=ho.len
 have hpth:=ho.path
 have hF1:=zz8 O r key' P own' o hR hF (by omega)
 have hF2:=zy3 O p key P own o hP hF (by omega) hpth
 have hH:=fun y=>zf9 (O++y) p key P own (hP.ext ⟨y,rfl⟩) (by omega) hpth
 have hK1:=fun y=>zfa (O++y) p key P own (hP.ext ⟨y,rfl⟩) (by omega)
 have hK2:=fun y=>zfu (O++y) r key' P own' (hR.ext ⟨y,rfl⟩) (by omega)
 have hHd:=fun O=>zpp O P _ _ (z1l 33 (kn P)) (z1l 33 (kn P)) (by omega)
 have hLoop:=fun(hw:Wf O.length O) y J h1 h2=>zqx hw (O++y) p r key key' P own own' J (hP.ext ⟨y,rfl⟩) (hR.ext ⟨y,rfl⟩) ho.sort hl ⟨y,rfl⟩ h1 h2
 obtain⟨v,sid,rfl,hrr,hr1,hn⟩:=hR
 have d:=slen hrr
 have l:=z12 key' v
 have g:=z60 key' v
 have hSm:=fun y=>zq2 (O++y) P sid _ v (z1l 36 (hdrs P)) (hr1.keep fun q e=>gapp (hr1.lt e)) (by omega) hpth
 cases o with
 |none=>
  unfold z9a at hF1
  unfold z99 at hF2
  have zl:=zi hdr0
  refine ACallsTo.of_body q2jok (by simp) fun hw _=> ?_
  repeat' (first|apply zA rfl|(apply zd_ rfl<;>intro ht<;>try omega)|((first|apply zB rfl|(apply callW.mk_pu;(first|exact(fun _=>hF1)|exact(fun _=>hF2)|exact(fun _=>hH _)|exact(fun _=>hSm _)|exact(fun _=>hK1 _)|exact(fun _=>hK2 _)|exact(fun _=>hHd _)))|(apply callW.za;(first|exact(hF1)|exact(hF2)|exact(hH _)|exact(hSm _)|exact(hK1 _)|exact(hK2 _)|exact(hHd _)))|(apply zG<;>intro ht))<;>try simp (disch:=first|omega|simp only [lz,lZ];try omega) only [go_sem,hrr,g,zl,List.append_nil]))
  exact hLoop hw _ _ (by simp only [go_sem]) (by simp only [go_sem])
 |some j=>
  obtain⟨h1,h2,h3⟩:=hF
  have ea:P.getD j hdr0=P[j]:=by rw [List.getD_eq_getElem?_getD,List.getElem?_eq_getElem (by omega)];rfl
  have eb:P.getD (j+1) hdr0=P[j+1]:=by rw [List.getD_eq_getElem?_getD,List.getElem?_eq_getElem h1];rfl
  unfold z9a at hF1
  have hV:z99 P (some j)=.tup [.agg (hdrC P[j]),.agg (hdrC P[j+1]),.bool true]:=by
   show AV.tup [.agg (hdrC (P.getD j hdr0)),.agg (hdrC (P.getD (j+1) hdr0)),.bool true]=_
   rw [ea,eb]
  rw [hV]at hF2
  rcases hr1 with⟨_,h0,_⟩| ⟨q,_,hne,rfl,hq⟩
  ·have:=congrArg List.length h0;rw [zh]at this;simp at this;rw [this]at h1;simp at h1
  rw [zh]at hrr l g hSm
  have dq:=slen hq
  have hdl:=zh P
  have hga:=z2w (H:=P) (i:=j) (by omega)
  have hgb:=z2w h1
  have hpa:=hpth P[j] (List.getElem_mem _)
  have hpb:=hpth P[j+1] (List.getElem_mem _)
  have hk:(j:Int)+1=((j+1:Nat):Int):=by omega
  generalize P[j]=a at*
  generalize P[j+1]=b at*
  have la:=zi a
  have lb:=zi b
  have ta:(hdrC a).take 36=hdrC a:=z30 a
  have tb:(hdrC b).take 36=hdrC b:=z30 b
  have hSa:=fun O=>zfz O a.n a.n a.i a.i a.r a.r a.s a.s a.p a.p _ _ (z1l 32 (hr a.p)) (z1l 32 (hr a.p)) hpa hpa
  rw [zek,show sgC a.n a.r a.i a.s (zz 32 (hr a.p))=hdrC a from rfl]at hSa
  have hSb:=fun O=>zfz O b.n b.n b.i b.i b.r b.r b.s b.s b.p b.p _ _ (z1l 32 (hr b.p)) (z1l 32 (hr b.p)) hpb hpb
  rw [zek,show sgC b.n b.r b.i b.s (zz 32 (hr b.p))=hdrC b from rfl]at hSb
  refine ACallsTo.of_body q2jok (by simp) fun hw _=> ?_
  repeat' (first|apply zA rfl|(apply zd_ rfl<;>intro ht<;>try omega)|((first|apply zB rfl|(apply callW.mk_pu;(first|exact(fun _=>hF1)|exact(fun _=>hF2)|exact(fun _=>hH _)|exact(fun _=>hSm _)|exact(fun _=>hK1 _)|exact(fun _=>hK2 _)|exact(fun _=>hHd _)|exact(fun _=>hSa _)|exact(fun _=>hSb _)))|(apply callW.za;(first|exact(hF1)|exact(hF2)|exact(hH _)|exact(hSm _)|exact(hK1 _)|exact(hK2 _)|exact(hHd _)|exact(hSa _)|exact(hSb _)))|(apply zG<;>intro ht))<;>try simp (disch:=first|omega|simp only [lz,lZ];try omega) only [go_sem,hrr,g,hq,hga,hgb,hk,la,lb,ta,tb,List.append_nil]))
  exact hLoop hw _ _ (by simp only [go_sem]) (by simp only [go_sem])
end
section
theorem Fr.dj{o1 o1' o2:List Nat}(h:Fr O O' o1 o1')(hl:∀j,j ∈ o2->j<O.length)(hd:∀j,j ∈ o1->j ∉ o2):∀j,j ∈ o1'->j ∉ o2:=fun j hj h2=>by
 rcases h.new j hj with h3|h3
 ·exact hd j h3 h2
 ·have:=hl j h2;omega
theorem PoIs.fr{key:Hash}{P:List Hdr}{o ox ox':List Nat}(h:PoIs O p key P o)(hf:Fr O O' ox ox')(hd:∀j,j ∈ ox->j ∉ o):PoIs O' p key P o:=
 h.keep fun j hj=>hf.st j (h.lt hj) fun e=>hd j e hj
theorem PoR.fr{key:Hash}{P:List Hdr}{o ox ox':List Nat}(h:PoR O p key P o)(hf:Fr O O' ox ox')(hd:∀j,j ∈ ox->j ∉ o):PoR O' p key P o:=
 h.keep fun j hj=>hf.st j (h.lt hj) fun e=>hd j e hj
structure PlS(O:Store)(key:Hash)(P:List Hdr)(raw tr:List AV)(pp rp:Nat)(o1 o2:List Nat):Prop where
 p:PoIs O pp key P o1
 r:PoR O rp key P o2
 d:∀j,j ∈ o1->j ∉ o2
 n0:0 ∉ o1/\ 0 ∉ o2
 n1:1 ∉ o1/\ 1 ∉ o2
 g0:O[0]? =some (some [raw])
 g1:O[1]? =some (some [tr])
 ok:POk key P
theorem PlS.ext{key:Hash}{P:List Hdr}{raw tr:List AV}{pp rp:Nat}{o1 o2:List Nat}(h:PlS O key P raw tr pp rp o1 o2)(he:Ext O O'):PlS O' key P raw tr pp rp o1 o2:=by
 have g0:=h.g0
 have g1:=h.g1
 refine⟨h.p.ext he,h.r.ext he,h.d,h.n0,h.n1,?_,?_,h.ok⟩
 ·obtain⟨y,rfl⟩:=he;rw [gapp (slen g0)];exact g0
 ·obtain⟨y,rfl⟩:=he;rw [gapp (slen g1)];exact g1
theorem PlS.other{key:Hash}{P:List Hdr}{raw tr:List AV}{pp rp:Nat}{o1 o2 ox ox':List Nat}(h:PlS O key P raw tr pp rp o1 o2)(hf:Fr O O' ox ox')(h1:∀j,j ∈ ox->j ∉ o1)(h2:∀j,j ∈ ox->j ∉ o2)(h3:0 ∉ ox)(h4:1 ∉ ox):PlS O' key P raw tr pp rp o1 o2:=
 ⟨h.p.fr hf h1,h.r.fr hf h2,h.d,h.n0,h.n1,hf.get h.g0 h3,hf.get h.g1 h4,h.ok⟩
theorem PlS.add{O2 O3:Store}{key:Hash}{P:List Hdr}{raw tr:List AV}{pp rp:Nat}{o1 o2 o1' o2':List Nat}{q:Hdr}(h:PlS O key P raw tr pp rp o1 o2)(f1:Fr O O2 o1 o1')(P1:PoIs O2 pp key (addL key P q) o1')(f2:Fr O2 O3 o2 o2')(R1:PoR O3 rp key (addL key P q) o2'):
  PlS O3 key (addL key P q) raw tr pp rp o1' o2'/\ (∀j o,O[j]? =some o->j ∉ o1->j ∉ o2->O3[j]? =some o/\ j ∉ o1'/\ j ∉ o2'):=by
 have d1:∀j,j ∈ o1'->j ∉ o2:=f1.dj (fun j hj=>h.r.lt hj) h.d
 have d2:∀j,j ∈ o2'->j ∉ o1':=f2.dj (fun j hj=>P1.lt hj) fun j hj hn=>d1 j hn hj
 have oth:∀j o,O[j]? =some o->j ∉ o1->j ∉ o2->O3[j]? =some o/\ j ∉ o1'/\ j ∉ o2':=fun j o hj h1 h2=>by
  have k1:=f1.nin (slen hj) h1
  have e1:=f1.get hj h1
  exact⟨f2.get e1 h2,k1,f2.nin (slen e1) h2⟩
 obtain⟨a0,b0,c0⟩:=oth 0 _ h.g0 h.n0.1 h.n0.2
 obtain⟨a1,b1,c1⟩:=oth 1 _ h.g1 h.n1.1 h.n1.2
 exact⟨⟨P1.fr f2 fun j hj hn=>d1 j hn hj,R1,fun j hj hn=>d2 j hn hj,⟨b0,c0⟩,⟨b1,c1⟩,a0,a1,h.ok.add q⟩,oth⟩
abbrev Sn:=Nat × Nat × Nat × Nat
def snC(s:Sn):List AV:=[.int .u8 s.1,.int .u8 s.2.1,.int .u8 s.2.2.1,.int .u8 s.2.2.2]
def sns(L:List Sn):List (List AV):=L.map snC
theorem sns_len(L:List Sn):(sns L).length=L.length:=by simp [sns]
def SnOk(s:Sn):Prop:=s.1<256/\ s.2.1<256/\ s.2.2.1<256/\ s.2.2.2<256
end
section
def z9x:Ty:=.row [.row [.int .i64,z6m],.row [.int .i64,.str,.sl 32 z6m]]
theorem z10f{a:AV}(h:Sh z9x a):∃(q:Hdr) (x:AV),a=.agg (sgC q.n q.r q.i q.s x)/\ SlV 32 (hr q.p) x/\ (q.p ≠ []->x=zz 32 (hr q.p))/\ q.p.length<=maxLen/\ q.s.length<=maxLen:=by
 simp only [z9x,Sh]at h
 obtain⟨cs,rfl,h⟩:=h
 simp only [z3m,ShC]at h
 obtain⟨A,B,rfl,hA,C,D,rfl,hC,rfl⟩:=h
 obtain⟨A1,A2,rfl,⟨n,rfl,n1,n2⟩,A3,A4,rfl,hA3,rfl⟩:=hA
 obtain⟨C1,C2,rfl,⟨i,rfl,i1,i2⟩,C3,C4,rfl,⟨s,rfl,hs⟩,C5,C6,rfl,hM,rfl⟩:=hC
 obtain⟨r,rfl⟩:=zu0 hA3
 obtain⟨l,x,rfl,h3,h4⟩:=hslC_h (by simpa only [ShC]using hM)
 refine⟨⟨n,r,i,s,l⟩,x,by simp [sgC],h3,fun hne=> ?_,h4,hs⟩
 have hne':hr l ≠ []:=fun e=>hne (hr_nil_iff.1 e)
 unfold zz
 rw [if_neg hne']
 rcases h3 with⟨_,e⟩| ⟨ex,rfl⟩
 ·exact absurd e hne'
 ·rcases hM with hM| ⟨es,hM,_⟩
  ·cases hM
  ·cases hM;rfl
def zh0:Ty:=.row [.int .u8,.int .u8,.int .u8,.int .u8]
theorem z110(h:ShC zh0 cs):∃s:Sn,cs=snC s/\ SnOk s:=by
 simp only [zh0,ShC,z3m]at h
 obtain⟨A1,B1,rfl,⟨a,rfl,a0,a1⟩,A2,B2,rfl,⟨b,rfl,b0,b1⟩,A3,B3,rfl,⟨c,rfl,c0,c1⟩,A4,B4,rfl,⟨d,rfl,d0,d1⟩,rfl⟩:=h
 simp only [IntKind.min,IntKind.max,IntKind.signed,IntKind.bits]at a0 a1 b0 b1 c0 c1 d0 d1
 simp at a0 a1 b0 b1 c0 c1 d0 d1
 obtain⟨a,rfl⟩:∃k:Nat,a=k:=⟨a.toNat,by omega⟩
 obtain⟨b,rfl⟩:∃k:Nat,b=k:=⟨b.toNat,by omega⟩
 obtain⟨c,rfl⟩:∃k:Nat,c=k:=⟨c.toNat,by omega⟩
 obtain⟨d,rfl⟩:∃k:Nat,d=k:=⟨d.toNat,by omega⟩
 exact⟨(a,b,c,d),rfl,⟨by show a<256;omega,by show b<256;omega,by show c<256;omega,by show d<256;omega⟩⟩
attribute [local irreducible] ACallsTo ACallsP zoh zoi
end
section
set_option maxRecDepth 10000
def q2qc10:yX:=yq [yM 26 0,yM 27 0,yO 28 27,yF 29 1 28,yR 30 false 1 29,yM 31 1,yI 32 (.slice (.sl 3) (.t 30) none (some (.t 31)) none),⟨some 33,none,.ef,.app 3 (.v .nilsl) (.t 32)⟩,yM 34 0,yO 35 34,yF 36 1 35,yR 37 false 1 36,yM 38 1,yJ 39 .add 38 .i64 1,yI 40 (.slice (.sl 3) (.t 37) (some (.t 39)) none none),yI 41 (.app 3 (.t 33) (.t 40)),yO 42 26,yF 43 1 42,yS 1 43 41] (yq [yL 44 true 3 6,yS 3 4 44,yK 5 .i64 0] .ret)
def q2qc12:yX:=.seq (yq [yM 7 1,yJ 8 .lss 7 .i64 0,yM 9 8,yV 10 9 false 1,yV 11 9 false 0,yG 12 9 false (.nilc (.t 11)),yT 13 9 false 1 12,yU 14 9 false false 1 13,yG 15 9 false (.lenSl (.t 14)),yG 16 9 false (.bin .geq .none (.t 10) (.t 15)),yP 17 9 16] (.cond (.t 17) (yq [yI 18 (.build [(.int .i64 0),(.int .i64 0),(.str [])] []),yS 3 4 18,yK 5 .i64 4] .ret) .skip)) (yq [yM 19 0,yO 20 19,yF 21 1 20,yL 22 false 1 21,yM 23 1,yN 24 3 22 23,yL 25 true 3 24,yI 6 (.alloc [(.int .i64 0),(.int .i64 0),(.str [])]),yS 3 6 25] q2qc10)
def q2qc13:yX:=yq [yI 4 (.alloc [(.int .i64 0),(.int .i64 0),(.str [])]),yK 5 .i64 0] q2qc12
theorem q2qok:cFn TC 35=some (45,[.c 4 true 3,.t 5],q2qc13):=by kernel_rfl
def q2rc8:yX:=.seq (yq [yM 5 1,yJ 6 .lss 5 .i64 0,yM 7 6,yV 8 7 false 1,yV 9 7 false 0,yG 10 7 false (.nilc (.t 9)),yT 11 7 false 1 10,yU 12 7 false false 1 11,yG 13 7 false (.lenSl (.t 12)),yG 14 7 false (.bin .geq .none (.t 8) (.t 13)),yP 15 7 14] (.cond (.t 15) (yq [yK 4 .i64 4] .ret) .skip)) (yq [yM 16 0,yM 17 0,yO 18 17,yF 19 1 18,yL 20 false 1 19,yM 21 1,yN 22 3 20 21,yL 23 true 3 22,yD 24 76 16 23,yM 4 24] .ret)
def q2rc9:yX:=yq [yK 4 .i64 0] q2rc8
theorem q2rok:cFn TC 36=some (25,[.t 4],q2rc9):=by kernel_rfl
def q2sr4:yW:=[
 yF 9 0 3,
 yL 10 false 1 9,
 yJ 11 .lss 10 .i64 0,
 yM 12 11,
 yT 13 12 false 0 3,
 ⟨some 14,some (12,false),.rd,.load false 1 (.t 13)⟩,
 yV 15 12 false 0,
 yG 16 12 false (.nilc (.t 15)),
 yT 17 12 false 0 16,
 ⟨some 18,some (12,false),.rd,.load false 1 (.t 17)⟩,
 yG 19 12 false (.bin .geq .none (.t 14) (.t 18)),
 yP 20 12 19,
 yM 21 20,
 yT 22 21 false 1 3,
 yU 23 21 false false 1 22,
 yG 24 21 false (.bin .lss .none (.t 23) (.v (.int .i64 0))),
 yP 25 21 24,
 yM 26 25,
 yT 27 26 false 1 3,
 ⟨some 28,some (26,false),.rd,.load false 1 (.t 27)⟩,
 yV 29 26 false 0,
 yG 30 26 false (.nilc (.t 29)),
 yT 31 26 false 0 30,
 ⟨some 32,some (26,false),.rd,.load false 1 (.t 31)⟩,
 yG 33 26 false (.bin .geq .none (.t 28) (.t 32)),
 yP 34 26 33,
 yM 35 34,
 yT 36 35 false 0 3,
 ⟨some 37,some (35,false),.rd,.load false 1 (.t 36)⟩,
 yT 38 35 false 1 3,
 ⟨some 39,some (35,false),.rd,.load false 1 (.t 38)⟩,
 yG 40 35 false (.bin .eql .none (.t 37) (.t 39)),
 yP 41 35 40,
 yM 8 41]
def q2sc25:yX:=.seq (.block 0 (yq [yM 6 0,yC 7 111 6,yM 5 7] (.cond (.t 5) (yq [yK 4 .i64 1] .ret) (yq q2sr4 (.cond (.t 8) (yq [yK 4 .i64 2] .ret) (yq [yF 43 2 3,yL 44 false 1 43,yI 45 (.lenStr (.t 44)),yJ 46 .gtr 45 .i64 65536,yM 42 46] (.cond (.t 42) (yq [yK 4 .i64 3] .ret) (yq [yM 48 0,yO 49 48,yF 50 1 49,yL 51 false 1 50,yZ 52 51,yJ 53 .geq 52 .i64 200,yM 47 53] (.cond (.t 47) (yq [yK 4 .i64 60] .ret) .skip))))))))) (yq [yM 54 0,yM 55 0,yO 56 55,yF 57 1 56,yR 58 false 1 57,yR 59 true 3 3,yI 60 (.lit 3 [(.t 59)]),yI 61 (.app 3 (.t 58) (.t 60)),yO 62 54,yF 63 1 62,yS 1 63 61] (yq [yK 4 .i64 0] .ret))
def q2sc26:yX:=yq [yx 3 1,yK 4 .i64 0] q2sc25
attribute [go_sem] q2sr4
theorem q2sok:cFn TC 66=some (64,[.t 4],q2sc26):=by kernel_rfl
def q2tc14:yX:=.seq (yq [yM 8 0,yM 9 1,yD 10 112 8 9,yM 6 10] (yq [yM 11 6,yJ 12 .neq 11 .i64 0] (.cond (.t 12) (yq [yI 13 (.build [(.int .i64 0),(.int .i64 0),(.str [])] []),yM 14 6,yS 3 4 13,yM 5 14] .ret) .skip))) (yq [yM 15 0,yO 16 15,yF 17 1 16,yL 18 false 1 17,yM 19 1,yN 20 3 18 19,yL 21 true 3 20,yI 7 (.alloc [(.int .i64 0),(.int .i64 0),(.str [])]),yS 3 7 21] (yq [yM 22 0,yM 23 0,yO 24 23,yF 25 1 24,yL 26 false 1 25,yM 27 1,yM 28 1,yJ 29 .add 28 .i64 1,yc 30 113 26 27 29,yO 31 22,yF 32 1 31,yS 1 32 30] (yq [yL 33 true 3 7,yS 3 4 33,yK 5 .i64 0] .ret)))
def q2tc15:yX:=yq [yI 4 (.alloc [(.int .i64 0),(.int .i64 0),(.str [])]),yK 5 .i64 0] q2tc14
theorem q2tok:cFn TC 67=some (34,[.c 4 true 3,.t 5],q2tc15):=by kernel_rfl
def q2uc5:yX:=yq [yK 4 .i64 0] (yq [yM 8 0,yM 9 1,yD 10 67 8 9,yM 7 10,yE 11 0 7,yE 12 1 7,yI 5 (.alloc [(.int .i64 0),(.int .i64 0),(.str [])]),yS 3 5 11,yM 6 12] (yq [yM 13 6,yM 4 13] .ret))
theorem q2uok:cFn TC 69=some (14,[.t 4],q2uc5):=by kernel_rfl
def q2vc11:yX:=yq [yK 4 .i64 0] (.seq (yq [yM 6 0,yM 7 1,yD 8 112 6 7,yM 5 8] (yq [yM 9 5,yJ 10 .neq 9 .i64 0] (.cond (.t 10) (yq [yM 11 5,yM 4 11] .ret) .skip))) (yq [yM 12 0,yM 13 0,yO 14 13,yF 15 1 14,yL 16 false 1 15,yM 17 1,yN 18 3 16 17,yL 19 true 3 18,yD 20 66 12 19,yM 4 20] .ret))
theorem q2vok:cFn TC 70=some (21,[.t 4],q2vc11):=by kernel_rfl
def q2wc9:yX:=yq [yI 2 (.mv (.v .nilsl))] (.seq (yq [yM 3 0,yC 4 111 3] (.cond (.t 4) (yq [yI 2 (.mv (.v .nilsl))] .ret) .skip)) (yq [yM 5 0,yO 6 5,yF 7 1 6,yL 8 false 1 7,yI 9 (.app 3 (.v .nilsl) (.t 8)),yM 2 9] .ret))
theorem q2wok:cFn TC 71=some (10,[.t 2],q2wc9):=by kernel_rfl
def q2xc9:yX:=yq [yI 2 (.mv (.v .nilp)),yK 3 .i64 0] (.seq (yq [yM 4 0,yJ 5 .lss 4 .i64 1,yM 6 5,yV 7 6 false 0,yG 8 6 false (.bin .gtr .none (.t 7) (.v (.int .i64 32))),yP 9 6 8] (.cond (.t 9) (yq [yI 2 (.mv (.v .nilp)),yK 3 .i64 2] .ret) .skip)) (yq [yM 10 0,yI 11 (.build [(.int .i64 0),.nilsl] [(0,1,(.t 10))]),yx 12 11,yM 2 12,yK 3 .i64 0] .ret))
theorem q2xok:cFn TC 72=some (13,[.t 2,.t 3],q2xc9):=by kernel_rfl
def q2yc9:yX:=yq [yI 2 (.mv (.v .nilp)),yK 3 .i64 0] (.seq (yq [yM 4 0,yJ 5 .lss 4 .i64 1,yM 6 5,yV 7 6 false 0,yG 8 6 false (.bin .gtr .none (.t 7) (.v (.int .i64 32))),yP 9 6 8] (.cond (.t 9) (yq [yI 2 (.mv (.v .nilp)),yK 3 .i64 2] .ret) .skip)) (yq [yM 10 0,yI 11 (.build [(.int .i64 0),.nilsl] [(0,1,(.t 10))]),yx 12 11,yM 2 12,yK 3 .i64 0] .ret))
theorem q2yok:cFn TC 73=some (13,[.t 2,.t 3],q2yc9):=by kernel_rfl
def q2zc5:yX:=yq [yM 5 0,yF 6 0 3,yL 7 false 1 6,yD 8 118 5 7,yu 9 8,yM 10 9,yV 11 10 false 0,yT 12 10 false 1 3,yU 13 10 false false 1 12,yG 14 10 false (.call (.v (.fn 118 [])) [(.t 11),(.t 13)]),yG 15 10 false (.un .not (.t 14)),yP 16 10 15,yM 17 16,yT 18 17 false 0 3,yU 19 17 false false 1 18,yT 20 17 false 1 3,yU 21 17 false false 1 20,yG 22 17 false (.bin .eql .none (.t 19) (.t 21)),yP 23 17 22] (.cond (.t 23) (yq [yK 4 .i64 2] .ret) .skip)
def q2zc21:yX:=.seq (yq [yF 24 2 3,yL 25 false 1 24,yI 26 (.lenStr (.t 25)),yJ 27 .gtr 26 .i64 65536] (.cond (.t 27) (yq [yK 4 .i64 3] .ret) .skip)) (.seq (yq [yM 28 0,yO 29 28,yF 30 1 29,yL 31 false 1 30,yZ 32 31,yJ 33 .geq 32 .i64 200] (.cond (.t 33) (yq [yK 4 .i64 60] .ret) .skip)) (yq [yM 34 0,yM 35 0,yO 36 35,yF 37 1 36,yR 38 false 1 37,⟨some 39,none,.ef,.app 3 (.v .nilsl) (.t 38)⟩,yR 40 true 3 3,yI 41 (.lit 3 [(.t 40)]),yI 42 (.app 3 (.t 39) (.t 41)),yO 43 34,yF 44 1 43,yS 1 44 42] (yq [yK 4 .i64 0] .ret)))
def q2zc23:yX:=yq [yx 3 1,yK 4 .i64 0] (.seq q2zc5 q2zc21)
theorem q2zok:cFn TC 76=some (45,[.t 4],q2zc23):=by kernel_rfl
def q30c3:yX:=yq [yb 2 false] (yq [yM 3 0,yI 4 (.bin .eql .ptr (.t 3) (.v .nilp)),yM 5 4,yV 6 5 false 0,yG 7 5 false (.nilc (.t 6)),yT 8 5 false 0 7,yU 9 5 false false 1 8,yG 10 5 false (.bin .eql .none (.t 9) (.v (.int .i64 0))),yP 11 5 10,yM 2 11] .ret)
theorem q30ok:cFn TC 111=some (12,[.t 2],q30c3):=by kernel_rfl
def q31c13:yX:=.seq (.block 0 (yq [yM 6 0,yC 7 111 6,yM 5 7] (.cond (.t 5) (yq [yK 4 .i64 1] .ret) (yq [yM 9 1,yJ 10 .lss 9 .i64 0,yM 11 10,yV 12 11 false 1,yV 13 11 false 0,yG 14 11 false (.nilc (.t 13)),yT 15 11 false 1 14,yU 16 11 false false 1 15,yG 17 11 false (.lenSl (.t 16)),yG 18 11 false (.bin .geq .none (.t 12) (.t 17)),yP 19 11 18,yM 8 19] (.cond (.t 8) (yq [yK 4 .i64 4] .ret) .skip))))) (yq [yK 4 .i64 0] .ret)
def q31c14:yX:=yq [yK 4 .i64 0] q31c13
theorem q31ok:cFn TC 112=some (20,[.t 4],q31c14):=by kernel_rfl
def q32r10:yW:=[
 yM 32 0,
 yM 6 32]
def zc6:ACode:=.seq (.reg q32r10) .ret
def q32c15:yX:=.seq (yq [yM 14 1,yM 15 2,yB 16 .eql 14 15] (.cond (.t 16) (yq [yM 17 0,yM 6 17] .ret) .skip)) (yq [yM 18 0,yZ 19 18,yM 7 19] (yq [yM 20 0,yM 21 1,yI 22 (.slice (.sl 3) (.t 20) none (some (.t 21)) none),yM 23 0,yM 24 2,yI 25 (.slice (.sl 3) (.t 23) (some (.t 24)) none none),yI 26 (.app 3 (.t 22) (.t 25)),yM 0 26] (yq [yM 27 0,yM 28 0,yZ 29 28,yM 30 7,yI 31 (.slice (.sl 3) (.t 27) (some (.t 29)) (some (.t 30)) none),⟨none,none,.no,.clear [(.int .i64 0),(.int .i64 0),(.str [])] (.t 31)⟩] zc6)))
def q32c17:yX:=yq [yI 6 (.mv (.v .nilsl))] (yq [yM 8 0,yM 9 1,yM 10 2,yM 11 0,yZ 12 11,yI 13 (.slice (.sl 3) (.t 8) (some (.t 9)) (some (.t 10)) (some (.t 12)))] q32c15)
attribute [go_sem] q32r10
theorem q32ok:cFn TC 113=some (33,[.t 6],q32c17):=by kernel_rfl
def q33c3:yX:=yq [yb 4 false] (yq [yM 5 1,yJ 6 .geq 5 .i64 0,yM 7 6,yV 8 7 true 1,yV 9 7 true 0,yG 10 7 true (.nilc (.t 9)),yT 11 7 true 0 10,yU 12 7 true false 1 11,yG 13 7 true (.bin .lss .none (.t 8) (.t 12)),yQ 14 7 13,yM 4 14] .ret)
theorem q33ok:cFn TC 118=some (15,[.t 4],q33c3):=by kernel_rfl
end
section
theorem zW.limitR{Q:AExit->Env->Store->Prop}{t len esz:Nat}{o:AObj}(ht:J t=.sl r off len none esz)(hr:O[r]? =some (some o))(h:∀c,len<=c->o.length<=off+c->zW C n k ac Q (upd J t (.sl r off len (some c) esz)) O):zW C n k ac Q J O:=by
 intro code hc Z0 w0 hgl hk Z a w hst hR hE hn
 have hv:=hE t
 rw [ht]at hv
 simp only [VR]at hv
 obtain⟨fl,pl,b,p,cap,hpl,he,hval,hso⟩:=hv
 obtain⟨pl',hpl',hok⟩:=hR.alive r o hr
 rw [hpl]at hpl';cases hpl'
 refine h cap hso.le (by rw [hok.len];exact hso.room rfl) code hc Z0 w0 hgl hk Z a w hst hR (hE.upd_ ?_) hn
 rw [hval]
 simp only [VR]
 exact⟨_,pl,b,p,cap,hpl,he,rfl,hso.le,by simp,by simp,hso.inside,hso.at_,hso.blk,hso.ole⟩
end
section
theorem rl_i{i:IntKind}{n:Int}:RL k (.int i n):=z15 _ rfl
theorem rl_b{b:Bool}:RL k (.bool b):=z15 _ rfl
theorem zns{i:IntKind}(hw:Wf O.length O)(hk:k=O.length)(h:a=b):DownV k (.int i a) O (.int i b) O:=by subst h;subst hk;exact DownV.same hw rl_i
structure ML where
 f:Int
 t:Int
 x:List UInt8
 deriving DecidableEq
def mailC(m:ML):List AV:=[.int .i64 m.f,.int .i64 m.t,.str m.x]
def slOf(sid:Option Nat)(n esz:Nat):AV:=match sid with
 |none=> .nilsl
 |some s=> .sl s 0 n none esz
def SlIs(O:Store)(sid:Option Nat)(rows:List (List AV)):Prop:=match sid with
 |none=>rows=[]
 |some s=>∃junk,O[s]? =some (some (rows++junk))
structure LkIs(O:Store)(r:Nat)(nodes:Int)(sid:Option Nat)(L:List ML):Prop where
 obj:O[r]? =some (some [[.int .i64 nodes,slOf sid L.length 3]])
 rows:SlIs O sid (L.map mailC)
 apart:sid ≠ some r
structure FrL(O O':Store)(r:Nat)(sid sid':Option Nat):Prop where
 len:O.length<=O'.length
 keep:∀q,q<O.length->q ≠ r->sid ≠ some q->O'[q]? =O[q]?
 new:∀s,sid'=some s->sid=some s \/O.length<=s
theorem LkIs.lt{nodes:Int}{L:List ML}(h:LkIs O r nodes sid L):r<O.length/\ ∀s,sid=some s->s<O.length:=by
 refine⟨(List.getElem?_eq_some_iff.1 h.obj).1,fun s hs=> ?_⟩
 have:=h.rows
 subst hs
 obtain⟨junk,hj⟩:=this
 exact(List.getElem?_eq_some_iff.1 hj).1
theorem z3a(O:Store)(r:Nat)(nodes:Int)(sl:AV)(h:O[r]? =some (some [[.int .i64 nodes,sl]])):ACallsTo TC 111 [.ptr r 0 0] O (.bool (decide (nodes=0))) O:=by
 refine ACallsTo.of_body q30ok (by simp) fun hw _=> ?_
 repeat' (first|apply zA rfl|(apply zd_ rfl<;>intro ht<;>try omega)|((first|apply zB rfl|(apply zG<;>intro ht))<;>try simp (disch:=first|omega|simp only [lz];try omega) only [go_sem,h]))
 exact DownV.same hw rl_b
def atS(nodes:Int)(n:Nat)(i:Int):Int:=if nodes=0 then 1 else if i<0 \/(n:Int)<=i then 4 else 0
theorem z6t(O:Store)(r:Nat)(nodes i:Int)(sid:Option Nat)(n:Nat)(h:O[r]? =some (some [[.int .i64 nodes,slOf sid n 3]]))(hn:sid=none->n=0):
  ACallsTo TC 112 [.ptr r 0 0,.int .i64 i] O (.int .i64 (atS nodes n i)) O:=by
 refine ACallsTo.of_body q31ok (by simp) fun hw _=> ?_
 unfold atS
 cases sid with
 |none=>
  have hn:=hn rfl
  repeat' (first|apply zA rfl|(apply zd_ rfl<;>intro ht<;>try omega)|((first|apply zB rfl|(apply callW.mk_pu;exact(fun _=>z3a _ _ _ _ h))|(apply callW.za;exact(z3a _ _ _ _ h))|(apply zG<;>intro ht))<;>try simp (disch:=first|omega|simp only [lz];try omega) only [go_sem,h,slOf]))
  all_goals exact zns hw rfl (by first|rfl|omega|(repeat' split<;>omega))
 |some s=>
  repeat' (first|apply zA rfl|(apply zd_ rfl<;>intro ht<;>try omega)|((first|apply zB rfl|(apply callW.mk_pu;exact(fun _=>z3a _ _ _ _ h))|(apply callW.za;exact(z3a _ _ _ _ h))|(apply zG<;>intro ht))<;>try simp (disch:=first|omega|simp only [lz];try omega) only [go_sem,h,slOf]))
  all_goals exact zns hw rfl (by first|rfl|omega|(repeat' split<;>omega))
def z1t(nodes:Int)(n:Nat)(m:ML):Int:=
 if nodes=0 then 1 else if m.f<0 \/nodes<=m.f \/m.t<0 \/nodes<=m.t \/m.f=m.t then 2 else if 65536<(m.x.length:Int)then 3 else if 200<=(n:Int)then 60 else 0
theorem LkIs.app{y:Store}{nodes:Int}{L:List ML}(h:LkIs O r nodes sid L):LkIs (O++y) r nodes sid L:=by
 obtain⟨hrl,hsl⟩:=h.lt
 obtain⟨h,hs,hd⟩:=h
 refine⟨by rw [gapp hrl];exact h,?_,hd⟩
 cases sid with
 |none=>exact hs
 |some s=>obtain⟨junk,hj⟩:=hs;exact⟨junk,by rw [gapp (hsl s rfl)];exact hj⟩
theorem FrL.app{y:Store}:FrL O (O++y) r sid sid:=⟨by simp,fun q hq _ _=>gapp hq,fun s hs=> .inl hs⟩
theorem FrL.refl:FrL O O r sid sid:=⟨Nat.le_refl _,fun q hq _ _=>rfl,fun s hs=> .inl hs⟩
theorem zvm(O:Store)(r:Nat)(nodes:Int)(m:ML)(h:LkIs O r nodes none []):ACallsP TC 66 [.ptr r 0 0,.agg (mailC m)] O
  (fun v O'=>v=.int .i64 (z1t nodes 0 m)/\ ∃sid',LkIs O' r nodes sid' (if z1t nodes 0 m=0 then [m]else [])/\ FrL O O' r none sid'):=by
 have h0:=h
 obtain⟨hrl,hsl⟩:=h.lt
 obtain⟨h,hs,hd⟩:=h
 refine ACallsP.of_keep q2sok (by simp) ?_
 unfold z1t
 repeat' (first|apply zA rfl|(apply zd_ rfl<;>intro ht<;>try omega)|((first|apply zB rfl|(apply callW.mk_pu;exact(fun _=>z3a _ _ nodes .nilsl (by simp only [gapp,hrl,h,slOf])))|(apply callW.za;exact(z3a _ _ nodes .nilsl (by simp only [gapp,hrl,h,slOf])))|(apply zG<;>intro ht))<;>try simp (disch:=first|omega|simp only [lz];try omega) only [go_sem,h,mailC,slOf]))
 all_goals try exact⟨none,h0.app,FrL.app⟩
 refine⟨some (O.length+1),⟨?_,⟨[],?_⟩,?_⟩,⟨?_,?_,?_⟩⟩
 ·simp (disch:=first|omega|simp only [lz];try omega) only [go_sem,slOf]
 ·simp (disch:=first|omega|simp only [lz];try omega) only [go_sem,mailC,z18]
 ·simp;omega
 ·simp
 ·intro q hq hr _
  have hr':r ≠ q:=fun e=>hr e.symm
  simp (disch:=first|omega|simp only [lz];try omega) only [go_sem]
 ·intro s hs
  simp at hs;omega
theorem zvn(O:Store)(r s:Nat)(nodes:Int)(L:List ML)(m:ML)(h:LkIs O r nodes (some s) L):ACallsP TC 66 [.ptr r 0 0,.agg (mailC m)] O
  (fun v O'=>v=.int .i64 (z1t nodes L.length m)/\ ∃sid',LkIs O' r nodes sid' (if z1t nodes L.length m=0 then L++ [m]else L)/\ FrL O O' r (some s) sid'):=by
 have h0:=h
 obtain⟨hrl,hsl⟩:=h.lt
 obtain⟨h,hs,hd⟩:=h
 have hsl:=hsl s rfl
 obtain⟨junk,hj⟩:=hs
 have hne:s ≠ r:=fun e=>hd (by rw [e])
 have hne2:r ≠ s:=fun e=>hne e.symm
 refine ACallsP.of_keep q2sok (by simp) ?_
 unfold z1t
 have hlen:(L.map mailC++junk).length=L.length+junk.length:=by simp
 have htake:(L.map mailC++junk).take L.length=L.map mailC:=by
  rw [List.take_append_of_le_length (by simp),List.take_of_length_le (by simp)]
 have hdrop:(L.map mailC++junk).drop (L.length+1)=junk.drop 1:=by
  rw [List.drop_append,List.drop_of_length_le (by simp)];simp
 by_cases hjk:junk=[]
 ·subst hjk
  rw [List.append_nil]at hj hlen htake
  repeat' (first|apply zA rfl|(apply zd_ rfl<;>intro ht<;>try omega)|((first|apply zB rfl|(apply callW.mk_pu;exact(fun _=>z3a _ _ nodes _ (by simp only [gapp,hrl,h,slOf];rfl)))|(apply callW.za;exact(z3a _ _ nodes _ (by simp only [gapp,hrl,h,slOf];rfl)))|(apply zG<;>intro ht))<;>try simp (disch:=first|omega|simp only [lz];try omega) only [go_sem,h,hj,hlen,htake,mailC,slOf]))
  all_goals try exact⟨some s,h0.app,FrL.app⟩
  refine⟨some (O.length+1),⟨?_,⟨[],?_⟩,?_⟩,⟨?_,?_,?_⟩⟩
  ·simp (disch:=first|omega|simp only [lz];try omega) only [go_sem,slOf,List.length_append]
  ·have e:O.length+1=(List.set (O++ [some [mailC m]]) s none).length:=by simp
   simp (disch:=first|omega|simp only [lz];try omega) only [go_sem,mailC,List.map_append,List.append_assoc,z18,lQs]
  ·simp;omega
  ·simp
  ·intro q hq hr hs
   have hr':r ≠ q:=fun e=>hr e.symm
   have hs':s ≠ q:=fun e=>hs (by rw [e])
   simp (disch:=first|omega|simp only [lz];try omega) only [go_sem]
  ·intro s' hs
   simp at hs;omega
 ·have hjl:1<=junk.length:=by cases junk<;>simp_all
  repeat' (first|apply zA rfl|(apply zd_ rfl<;>intro ht<;>try omega)|((first|apply zB rfl|(apply callW.mk_pu;exact(fun _=>z3a _ _ nodes _ (by simp only [gapp,hrl,h,slOf];rfl)))|(apply callW.za;exact(z3a _ _ nodes _ (by simp only [gapp,hrl,h,slOf];rfl)))|(apply zG<;>intro ht))<;>try simp (disch:=first|omega|simp only [lz];try omega) only [go_sem,h,hj,hlen,htake,hdrop,mailC,slOf]))
  all_goals try exact⟨some s,h0.app,FrL.app⟩
  refine⟨some s,⟨?_,⟨junk.drop 1,?_⟩,?_⟩,⟨?_,?_,?_⟩⟩
  ·simp (disch:=first|omega|simp only [lz];try omega) only [go_sem,slOf,List.length_append]
  ·simp (disch:=first|omega|simp only [lz];try omega) only [go_sem,mailC,List.map_append,List.append_assoc]
  ·exact hd
  ·simp
  ·intro q hq hr hs
   have hr':r ≠ q:=fun e=>hr e.symm
   have hs':s ≠ q:=fun e=>hs (by rw [e])
   simp (disch:=first|omega|simp only [lz];try omega) only [go_sem]
  ·intro s' hs
   exact .inl hs
theorem zeo(O:Store)(r:Nat)(nodes:Int)(sid:Option Nat)(L:List ML)(m:ML)(h:LkIs O r nodes sid L):ACallsP TC 66 [.ptr r 0 0,.agg (mailC m)] O
  (fun v O'=>v=.int .i64 (z1t nodes L.length m)/\ ∃sid',LkIs O' r nodes sid' (if z1t nodes L.length m=0 then L++ [m]else L)/\ FrL O O' r sid sid'):=by
 cases sid with
 |none=>
  have hn:L=[]:=by simpa [SlIs]using h.rows
  subst hn
  exact zvm O r nodes m h
 |some s=>exact zvn O r s nodes L m h
end
section
def z3z:List AV:=[.int .i64 0,.int .i64 0,.str []]
attribute [local irreducible] zc6
theorem z10y (O : Store) (s : Nat) (A B junk : List (List AV)) (x : List AV) (h : O[s]? = some (some (A ++ x :: (B ++ junk)))) (hn : A.length + 1 + B.length < 1000000) :
    ACallsTo TC 113 [.sl s 0 (A.length+1+B.length) none 3,.int .i64 A.length,.int .i64 (A.length+1:Nat)] O (.sl s 0 (A.length+B.length) none 3) (O.set s (some (A++(B++z3z::junk)))):=by
  have hs:=(List.getElem?_eq_some_iff.1 h).1
  have hol:(A++x::(B++junk)).length=A.length+1+B.length+junk.length:=by simp;omega
  have n1:A.length+1+B.length-(A.length+1)=B.length:=by omega
  have t1:(A++x::(B++junk)).drop (A.length+1)=B++junk:=by rw [List.drop_append,List.drop_of_length_le (by omega)];simp
  have t2:(B++junk).take B.length=B:=by rw [List.take_append_of_le_length (Nat.le_refl _),List.take_length]
  have t3:(A++x::(B++junk)).take A.length=A:=by rw [List.take_append_of_le_length (Nat.le_refl _),List.take_length]
  obtain⟨y,hy⟩:∃y,(A++x::(B++junk)).drop (A.length+B.length)=y::junk:=by
    have e1:(A++x::(B++junk)).drop (A.length+B.length)=(x::(B++junk)).drop B.length:=by
      rw [List.drop_append,List.drop_of_length_le (by omega)];simp
    rw [e1]
    cases hB:B.reverse with
    | nil => have : B = [] := by simpa using hB
             subst this;exact⟨x,rfl⟩
    |cons b l=>
      have:B=l.reverse++ [b]:=by rw [<-List.reverse_reverse B,hB];simp
      rw [this]
      refine⟨b,?_⟩
      rw [show (l.reverse++ [b]).length=l.reverse.length+1 by simp,List.drop_succ_cons,List.append_assoc,List.drop_left]
      rfl
  have t5:(A++(B++y::junk)).take (A.length+B.length)=A++B:=by rw [<-List.append_assoc,List.take_append_of_le_length (by simp),List.take_of_length_le (by simp)]
  have t6:(A++(B++y::junk)).drop (A.length+B.length+1)=junk:=by
    rw [<-List.append_assoc,List.drop_append,List.drop_of_length_le (by simp)]
    simp
  have l5:(A++(B++y::junk)).length=A.length+B.length+1+junk.length:=by simp;omega
  have fin:∀(c:Nat) (J:Env),A.length+1+B.length+junk.length<=c->J 0=.sl s 0 (A.length+B.length) (some c) 3->zW TC 33 O.length zc6 (z5u [.t 6] (.sl s 0 (A.length+B.length) none 3) (O.set s (some (A++(B++z3z::junk))))) J (O.set s (some (A++(B++z3z::junk)))):=by
    intro c J hc q0
    refine zW.unlim (t:=0) (r:=s) (off:=0) (len:=A.length+B.length) (c:=c) (esz:=3) (o:=A++(B++z3z::junk)) q0 (z2a hs) (by simp;omega) ?_
    unfold zc6
    repeat' (first|apply zA rfl|(apply zd_ rfl<;>intro ht<;>try omega)|((first|apply zB rfl|(apply zG<;>intro ht))<;>try simp (disch:=first|omega|simp only [lz];try omega) only [go_sem]))
  refine ACallsTo.of_body_keep q32ok (by simp) ?_
  refine zW.limitR (t:=0) (r:=s) (off:=0) (len:=A.length+1+B.length) (esz:=3) (by simp only [go_sem]) h fun c hc hc2=> ?_
  rw [hol,Nat.zero_add]at hc2
  by_cases hB:B=[]
  · subst hB
    simp only [List.length_nil,Nat.add_zero,List.nil_append]at*
    have n2:A.length+1-A.length=1:=by omega
    repeat' (first|apply zA rfl|(apply zd_ rfl<;>intro ht<;>try omega)|((first|apply zB rfl|(apply zG<;>intro ht))<;>try simp (disch:=first|omega|simp only [lz];try omega) only [go_sem,h,hol,n1,n2,t1,t2,t3,Nat.sub_zero,z3z,List.replicate_one,List.append_assoc]))
    exact fin c _ (by omega) (by simp only [go_sem])
  · have hBl:1<=B.length:=by cases B<;>simp_all
    have n3:A.length+1+B.length-(A.length+B.length)=1:=by omega
    repeat' (first|apply zA rfl|(apply zd_ rfl<;>intro ht<;>try omega)|((first|apply zB rfl|(apply zG<;>intro ht))<;>try simp (disch:=first|omega|simp only [lz];try omega) only [go_sem,h,hol,n1,n3,t1,t2,t3,hy,t5,t6,l5,Nat.sub_zero,List.set_set,List.append_assoc,z3z,List.replicate_one]))
    exact fin c _ (by omega) (by simp only [go_sem])
end
section
theorem zl2{y:Store}{s:Nat}{nodes:Int}{L:List ML}{rows junk:List (List AV)}(hrl:r<O.length)(hsl:s<O.length)(hne:s ≠ r)(hid:sid=some s)(hr:rows=L.map mailC++junk)(hn:n=L.length):
  LkIs ((O.set s (some rows)).set r (some [[.int .i64 nodes,.sl s 0 n none 3]])++y) r nodes (some s) L/\ FrL O ((O.set s (some rows)).set r (some [[.int .i64 nodes,.sl s 0 n none 3]])++y) r sid (some s):=by
 subst hr;subst hn;subst hid
 refine⟨⟨?_,⟨junk,?_⟩,fun e=>hne (Option.some.inj e)⟩,⟨by simp,fun q hq h1 h2=> ?_,fun q hq=> .inl hq⟩⟩
 ·rw [gapp (by simpa using hrl),z2a (by simpa using hrl)];rfl
 ·rw [gapp (by simpa using hsl),z1h (fun e=>hne e.symm),z2a hsl]
 ·rw [gapp (by simpa using hq),z1h (fun e=>h1 e.symm),z1h (fun e=>h2 (by rw [e]))]
theorem zep{nodes:Int}{L:List ML}(h:LkIs O r nodes sid L)(L':List ML)(h0:sid=none->L'=[]):∃O',LkIs O' r nodes sid L'/\ FrL O O' r sid sid:=by
 obtain⟨hrl,hsl⟩:=h.lt
 cases sid with
 |none=>
  have e:L=[]:=by simpa [SlIs]using h.rows
  subst e
  rw [h0 rfl]
  exact⟨O,h,FrL.refl⟩
 |some s=>exact⟨_,zl2 (y:=[]) (junk:=[]) (L:=L') hrl (hsl s rfl) (fun e=>h.apart (by rw [e])) rfl rfl rfl⟩
theorem zik{nodes:Int}{i:Int}(h:atS nodes n i ≠ 0):nodes=0 \/i<0 \/(n:Int)<=i:=by
 unfold atS at h
 split at h
 ·exact .inl (by assumption)
 ·split at h
  ·exact .inr (by assumption)
  ·exact absurd rfl h
theorem zr4{nodes:Int}{i:Int}(h0:nodes ≠ 0)(h1:0<=i)(h2:i<n):atS nodes n i=0:=by
 unfold atS
 rw [if_neg h0,if_neg (by omega)]
theorem zl3{nodes:Int}{L:List ML}(h:LkIs O r nodes sid L):sid=none->L.length=0:=by
 intro e;subst e
 have:=h.rows
 simp [SlIs]at this
 simp [this]
theorem zve(O:Store)(r:Nat)(nodes i:Int)(sid:Option Nat)(L:List ML)(h:LkIs O r nodes sid L)(hb:atS nodes L.length i ≠ 0):
  ACallsP TC 67 [.ptr r 0 0,.int .i64 i] O (fun v O'=>v=.tup [.agg z3z,.int .i64 (atS nodes L.length i)]/\ LkIs O' r nodes sid L/\ FrL O O' r sid sid):=by
 obtain⟨hrl,hsl⟩:=h.lt
 have hn:sid=none->L.length=0:=by
  intro e;subst e
  have:=h.rows
  simp [SlIs]at this
  simp [this]
 have ho:=h.obj
 generalize hc:atS nodes L.length i=c at*
 refine ACallsP.of_keep q2tok (by simp) ?_
 repeat' (first|apply zA rfl|(apply zd_ rfl<;>intro ht<;>try omega)|((first|apply zB rfl|(apply callW.mk_pu;(first|exact(fun _=>(hc ▸ z6t (O++_) r nodes i sid L.length (by rw [gapp hrl];exact ho) hn))))|(apply callW.za;(first|exact((hc ▸ z6t (O++_) r nodes i sid L.length (by rw [gapp hrl];exact ho) hn))))|(apply zG<;>intro ht))<;>try simp (disch:=first|omega|simp only [lz];try omega) only [go_sem,z3z]))
 exact⟨h.app,FrL.app⟩
theorem zvf(O:Store)(r s:Nat)(nodes:Int)(A B:List ML)(m:ML)(h:LkIs O r nodes (some s) (A++m::B))(hn:nodes ≠ 0)(hl:A.length+1+B.length<1000000):
  ACallsP TC 67 [.ptr r 0 0,.int .i64 A.length] O (fun v O'=>v=.tup [.agg (mailC m),.int .i64 0]/\ LkIs O' r nodes (some s) (A++B)/\ FrL O O' r (some s) (some s)):=by
 obtain⟨hrl,hsl⟩:=h.lt
 have hsl:=hsl s rfl
 obtain⟨ho,⟨junk,hj⟩,hd⟩:=h
 have hne:s ≠ r:=fun e=>hd (by rw [e])
 have hne2:r ≠ s:=fun e=>hne e.symm
 have hlen:(A++m::B).length=A.length+1+B.length:=by simp;omega
 rw [hlen]at ho
 have hc:atS nodes (A.length+1+B.length) (A.length:Int)=0:=zr4 hn (by omega) (by omega)
 have hrow:(A++m::B).map mailC++junk=A.map mailC++mailC m::(B.map mailC++junk):=by simp
 rw [hrow]at hj
 have hget:(A.map mailC++mailC m::(B.map mailC++junk))[A.length]? =some (mailC m):=by
  rw [List.getElem?_append_right (by simp)];simp
 have e1:(A.length:Int)+1=((A.length+1:Nat):Int):=by omega
 have hj0:=hj
 simp only [mailC]at hj hget
 have hD:∀y:Store,ACallsTo TC 113 [.sl s 0 (A.length+1+B.length) none 3,.int .i64 A.length,.int .i64 (A.length+1:Nat)] (O++y) (.sl s 0 (A.length+B.length) none 3)
   ((O++y).set s (some (A.map mailC++(B.map mailC++z3z::junk)))):=by
  intro y
  have:=z10y (O++y) s (A.map mailC) (B.map mailC) junk (mailC m) (by rw [gapp hsl];exact hj0) (by simp;omega)
  simpa only [List.length_map]using this
 refine ACallsP.of_keep q2tok (by simp) ?_
 repeat' (first|apply zA rfl|(apply zd_ rfl<;>intro ht<;>try omega)|((first|apply zB rfl|(apply callW.mk_pu;(first|exact(fun _=>(hc ▸ z6t (O++_) r nodes A.length (some s) (A.length+1+B.length) (by rw [gapp hrl];exact ho) (by simp)))|exact(fun _=>hD _)))|(apply callW.za;(first|exact((hc ▸ z6t (O++_) r nodes A.length (some s) (A.length+1+B.length) (by rw [gapp hrl];exact ho) (by simp)))|exact(hD _)))|(apply zG<;>intro ht))<;>try simp (disch:=first|omega|simp only [lz];try omega) only [go_sem,ho,hj,hget,mailC,slOf,e1]))
 exact zl2 (junk:=z3z::junk) hrl hsl hne rfl (by simp) (by simp)
def delM(nodes:Int)(L:List ML)(i:Int):ML:=if atS nodes L.length i=0 then L.getD i.toNat ⟨0,0,[]⟩else⟨0,0,[]⟩
def delV(nodes:Int)(L:List ML)(i:Int):AV:=.tup [.agg (mailC (delM nodes L i)),.int .i64 (atS nodes L.length i)]
def delL(nodes:Int)(L:List ML)(i:Int):List ML:=if atS nodes L.length i=0 then L.eraseIdx i.toNat else L
theorem z4m{nodes:Int}{i:Int}(h:atS nodes n i=0):nodes ≠ 0/\ 0<=i/\ i<n:=by
 unfold atS at h
 split at h
 ·cases h
 ·split at h
  ·cases h
  ·refine⟨by assumption,?_,?_⟩<;>omega
theorem zcx(L:List ML)(i:Nat)(h:i<L.length):∃A m B,L=A++m::B/\ A.length=i:=by
 refine⟨L.take i,L[i],L.drop (i+1),?_,by simp;omega⟩
 rw [<-List.drop_eq_getElem_cons h,List.take_append_drop]
theorem zl1(O:Store)(r:Nat)(nodes i:Int)(sid:Option Nat)(L:List ML)(h:LkIs O r nodes sid L)(hl:L.length<1000000):
  ACallsP TC 67 [.ptr r 0 0,.int .i64 i] O (fun v O'=>v=delV nodes L i/\ LkIs O' r nodes sid (delL nodes L i)/\ FrL O O' r sid sid):=by
 by_cases hb:atS nodes L.length i=0
 ·obtain⟨h0,h1,h2⟩:=z4m hb
  obtain⟨A,m,B,rfl,hA⟩:=zcx L i.toNat (by omega)
  cases sid with
  |none=>have:=h.rows;simp [SlIs]at this
  |some s=>
   have hi:i=A.length:=by omega
   subst hi
   refine(zvf O r s nodes A B m h h0 (by simp at hl;omega)).mono ?_
   rintro v O' ⟨rfl,k1,k2⟩
   refine⟨?_,?_,k2⟩
   ·rw [delV,hb,delM,if_pos hb,Int.toNat_natCast]
    congr 3
    simp
   ·rw [delL,if_pos hb,Int.toNat_natCast]
    have:(A++m::B).eraseIdx A.length=A++B:=by rw [List.eraseIdx_append_of_length_le (Nat.le_refl _)];simp
    rw [this];exact k1
 ·refine(zve O r nodes i sid L h hb).mono ?_
  rintro v O' ⟨rfl,k1,k2⟩
  exact⟨by rw [delV,delM,if_neg hb];rfl,by rw [delL,if_neg hb];exact k1,k2⟩
theorem zjj{nodes i:Int}{L:List ML}(h:LkIs O r nodes none L):delL nodes L i=[]:=by
 have e:L=[]:=by simpa [SlIs]using h.rows
 subst e
 unfold delL
 split<;>rfl
theorem zl0{nodes i:Int}{L:List ML}(h:LkIs O r nodes sid L):∃v O',v=delV nodes L i/\ LkIs O' r nodes sid (delL nodes L i)/\ FrL O O' r sid sid:=by
 obtain⟨O',h1⟩:=zep h (delL nodes L i) (fun e=>by subst e;exact zjj h)
 exact⟨_,O',rfl,h1⟩
theorem zvh(O:Store)(r:Nat)(nodes i:Int)(sid:Option Nat)(L:List ML)(h:LkIs O r nodes sid L)(hl:L.length<1000000):
  ACallsP TC 69 [.ptr r 0 0,.int .i64 i] O (fun v O'=>v=.int .i64 (atS nodes L.length i)/\ LkIs O' r nodes sid (delL nodes L i)/\ FrL O O' r sid sid):=by
 refine ACallsP.of_keep q2uok (by simp) ?_
 repeat' (first|apply zA rfl|(apply zd_ rfl<;>intro ht<;>try omega)|((first|apply zB rfl|(apply zG<;>intro ht))<;>try simp (disch:=first|omega|simp only [lz];try omega) only [go_sem]))
 refine callW.mkP (zl1 O r nodes i sid L h hl) (zl0 h) ?_
 rintro v O' ⟨rfl,k1,k2⟩
 simp (disch:=first|omega|simp only [lz];try omega) only [go_sem,delV,mailC]
 repeat' (first|apply zA rfl|(apply zd_ rfl<;>intro ht<;>try omega)|((first|apply zB rfl|(apply zG<;>intro ht))<;>try simp (disch:=first|omega|simp only [lz];try omega) only [go_sem]))
 exact⟨k1.app,⟨by have:=k2.len;simp;omega,fun q hq h1 h2=>by rw [gapp (by have:=k2.len;omega)];exact k2.keep q hq h1 h2,k2.new⟩⟩
def dblS(nodes:Int)(L:List ML)(i:Int):Int:=if atS nodes L.length i=0 then z1t nodes L.length (L.getD i.toNat ⟨0,0,[]⟩)else atS nodes L.length i
theorem z7t{nodes:Int}{L:List ML}{m:ML}(h:LkIs O r nodes sid L):∃v O',v=AV.int .i64 (z1t nodes L.length m)/\ ∃sid',LkIs O' r nodes sid' (if z1t nodes L.length m=0 then L++ [m]else L)/\ FrL O O' r sid sid':=by
 obtain⟨hrl,hsl⟩:=h.lt
 cases sid with
 |some s=>
  obtain⟨O',h1,h2⟩:=zep h (if z1t nodes L.length m=0 then L++ [m]else L) (by simp)
  exact⟨_,O',rfl,_,h1,h2⟩
 |none=>
  have e:L=[]:=by simpa [SlIs]using h.rows
  subst e
  by_cases hc:z1t nodes ([]:List ML).length m=0
  ·refine⟨_,O.set r (some [[.int .i64 nodes,.sl O.length 0 1 none 3]])++ [some [mailC m]],rfl,some O.length,⟨?_,⟨[],?_⟩,?_⟩,⟨by simp,fun q hq h1 _=> ?_,fun s hs=> ?_⟩⟩
   ·rw [if_pos hc,gapp (by simpa using hrl),z2a hrl];rfl
   ·rw [if_pos hc,z18 (by simp)];simp
   ·simp;omega
   ·rw [gapp (by simpa using hq),z1h (fun e=>h1 e.symm)]
   ·right;simp at hs;omega
  ·exact⟨_,O,rfl,none,by rw [if_neg hc];exact h,FrL.refl⟩
theorem zvg(O:Store)(r:Nat)(nodes i:Int)(sid:Option Nat)(L:List ML)(h:LkIs O r nodes sid L)(hl:L.length<1000000):
  ACallsP TC 70 [.ptr r 0 0,.int .i64 i] O (fun v O'=>v=.int .i64 (dblS nodes L i)/\ ∃sid',LkIs O' r nodes sid' (if dblS nodes L i=0 then L++ [L.getD i.toNat ⟨0,0,[]⟩]else L)/\ FrL O O' r sid sid'):=by
 obtain⟨hrl,hsl⟩:=h.lt
 have ho:=h.obj
 have hn:sid=none->L.length=0:=by
  intro e;subst e
  have:=h.rows
  simp [SlIs]at this
  simp [this]
 by_cases hb:atS nodes L.length i=0
 ·obtain⟨h0,h1,h2⟩:=z4m hb
  obtain⟨A,m,B,rfl,hA⟩:=zcx L i.toNat (by omega)
  cases sid with
  |none=>have:=h.rows;simp [SlIs]at this
  |some s=>
   have hi:i=A.length:=by omega
   subst hi
   obtain⟨junk,hj⟩:=h.rows
   have hlen:(A++m::B).length=A.length+1+B.length:=by simp;omega
   have hm:(A++m::B).getD (A.length:Int).toNat ⟨0,0,[]⟩=m:=by simp
   have hget:((A++m::B).map mailC++junk)[A.length]? =some [.int .i64 m.f,.int .i64 m.t,.str m.x]:=by
    rw [List.getElem?_append_left (by simp),List.getElem?_map,List.getElem?_append_right (Nat.le_refl _)];simp [mailC]
   have hS:=zeo O r nodes (some s) (A++m::B) m h
   have hE:=z7t (m:=m) h
   unfold dblS
   rw [if_pos hb,hm]
   have hA:=z6t O r nodes A.length (some s) (A++m::B).length ho hn
   rw [hb]at hA
   simp only [mailC]at hS
   refine ACallsP.of_keep q2vok (by simp) ?_
   repeat' (first|apply zA rfl|(apply zd_ rfl<;>intro ht<;>try omega)|((first|apply zB rfl|(apply callW.mk_pu;exact(fun _=>hA))|(apply callW.za;exact(hA))|(apply zG<;>intro ht))<;>try simp (disch:=first|omega|simp only [lz];try omega) only [go_sem,ho,hj,hget,slOf,hlen]))
   refine callW.mkP (caps:=[]) hS hE ?_
   rintro v O' ⟨rfl,k⟩
   simp (disch:=first|omega|simp only [lz];try omega) only [go_sem]
   repeat' (first|apply zA rfl|(apply zd_ rfl<;>intro ht<;>try omega)|((first|apply zB rfl|(apply zG<;>intro ht))<;>try simp (disch:=first|omega|simp only [lz];try omega) only [go_sem]))
   have e:A.length+(B.length+1)=A.length+1+B.length:=by omega
   rw [e]
   rw [hlen,List.append_assoc]at k
   exact⟨rfl,k⟩
 ·unfold dblS
  rw [if_neg hb]
  have hb':=hb
  generalize hc:atS nodes L.length i=c at*
  refine ACallsP.of_keep q2vok (by simp) ?_
  repeat' (first|apply zA rfl|(apply zd_ rfl<;>intro ht<;>try omega)|((first|apply zB rfl|(apply callW.mk_pu;exact(fun _=>(hc ▸ z6t O r nodes i sid L.length ho hn)))|(apply callW.za;exact((hc ▸ z6t O r nodes i sid L.length ho hn)))|(apply zG<;>intro ht))<;>try simp (disch:=first|omega|simp only [lz];try omega) only [go_sem]))
  exact⟨sid,h,FrL.refl⟩
end
section
theorem zvl(O:Store)(n:Int)(h:1<=n/\ n<=32):
  ACallsTo TC 72 [.int .i64 n] O (.tup [.ptr O.length 0 0,.int .i64 0]) (O++ [some [[.int .i64 n,.nilsl]]]):=by
 refine ACallsTo.of_body_keep q2xok (by simp) ?_
 repeat' (first|apply zA rfl|(apply zd_ rfl<;>intro ht<;>try omega)|((first|apply zB rfl|(apply zG<;>intro ht))<;>try simp (disch:=first|omega|simp only [lz];try omega) only [go_sem]))
structure Fresh(O O':Store)(sid:Option Nat)(L:List ML):Prop where
 ext:∃y,O'=O++y
 rows:SlIs O' sid (L.map mailC)
 new:∀s,sid=some s->O.length<=s
theorem zvi(O:Store)(r:Nat)(nodes:Int)(h:LkIs O r nodes none []):
  ACallsTo TC 71 [.ptr r 0 0] O .nilsl O:=by
 have ho:=h.obj
 refine ACallsTo.of_body q2wok (by simp) fun hw _=> ?_
 repeat' (first|apply zA rfl|(apply zd_ rfl<;>intro ht<;>try omega)|((first|apply zB rfl|(apply callW.mk_pu;exact(fun _=>z3a _ _ nodes .nilsl ho))|(apply callW.za;exact(z3a _ _ nodes .nilsl ho))|(apply zG<;>intro ht))<;>try simp (disch:=first|omega|simp only [lz];try omega) only [go_sem,ho,slOf]))
 all_goals exact DownV.same hw (z15 _ rfl)
theorem zvj(O:Store)(r s:Nat)(nodes:Int)(L:List ML)(h:LkIs O r nodes (some s) L)(h0:nodes ≠ 0)(hl:L.length<1000000):
  ACallsTo TC 71 [.ptr r 0 0] O (if L=[]then .nilsl else .sl O.length 0 L.length none 3) (if L=[]then O else O++ [some (L.map mailC)]):=by
 have ho:=h.obj
 obtain⟨junk,hj⟩:=h.rows
 have htake:(L.map mailC++junk).take L.length=L.map mailC:=by
  rw [List.take_append_of_le_length (by simp),List.take_of_length_le (by simp)]
 refine ACallsTo.of_body_keep q2wok (by simp) ?_
 by_cases hL:L=[]
 ·subst hL
  simp only [List.length_nil,List.map_nil,List.nil_append]at ho hj htake
  rw [if_pos rfl,if_pos rfl]
  repeat' (first|apply zA rfl|(apply zd_ rfl<;>intro ht<;>try omega)|((first|apply zB rfl|(apply callW.mk_pu;exact(fun _=>z3a _ _ nodes _ ho))|(apply callW.za;exact(z3a _ _ nodes _ ho))|(apply zG<;>intro ht))<;>try simp (disch:=first|omega|simp only [lz];try omega) only [go_sem,ho,hj,slOf,htake,List.length_nil]))
 ·have hlen:0<L.length:=List.length_pos_iff.2 hL
  rw [if_neg hL,if_neg hL]
  repeat' (first|apply zA rfl|(apply zd_ rfl<;>intro ht<;>try omega)|((first|apply zB rfl|(apply callW.mk_pu;exact(fun _=>z3a _ _ nodes _ ho))|(apply callW.za;exact(z3a _ _ nodes _ ho))|(apply zG<;>intro ht))<;>try simp (disch:=first|omega|simp only [lz];try omega) only [go_sem,ho,hj,slOf,htake,lQm]))
def z6v(O:Store)(L:List ML):Option Nat:=if L=[]then none else some O.length
def zbo(L:List ML):Store:=if L=[]then []else [some (L.map mailC)]
theorem zvk(O:Store)(r:Nat)(nodes:Int)(sid:Option Nat)(L:List ML)(h:LkIs O r nodes sid L)(h0:nodes ≠ 0)(hl:L.length<1000000):
  ACallsTo TC 71 [.ptr r 0 0] O (slOf (z6v O L) L.length 3) (O++zbo L):=by
 cases sid with
 |none=>
  have e:L=[]:=by simpa [SlIs]using h.rows
  subst e
  simpa [z6v,zbo,slOf]using zvi O r nodes h
 |some s=>
  have:=zvj O r s nodes L h h0 hl
  by_cases hL:L=[]
  ·simpa [z6v,zbo,slOf,hL]using this
  ·simpa [z6v,zbo,slOf,hL]using this
end
section
theorem zzf(O:Store)(n:Int)(h:1<=n/\ n<=32):
  ACallsTo TC 73 [.int .i64 n] O (.tup [.ptr O.length 0 0,.int .i64 0]) (O++ [some [[.int .i64 n,.nilsl]]]):=by
 refine ACallsTo.of_body_keep q2yok (by simp) ?_
 repeat' (first|apply zA rfl|(apply zd_ rfl<;>intro ht<;>try omega)|((first|apply zB rfl|(apply zG<;>intro ht))<;>try simp (disch:=first|omega|simp only [lz];try omega) only [go_sem]))
theorem z80(O:Store)(r:Nat)(nodes i:Int)(sl:AV)(h:O[r]? =some (some [[.int .i64 nodes,sl]])):ACallsTo TC 118 [.ptr r 0 0,.int .i64 i] O (.bool (decide (0<=i/\ i<nodes))) O:=by
 refine ACallsTo.of_body q33ok (by simp) fun hw _=> ?_
 repeat' (first|apply zA rfl|(apply zd_ rfl<;>intro ht<;>try omega)|((first|apply zB rfl|(apply zG<;>intro ht))<;>try simp (disch:=first|omega|simp only [lz];try omega) only [go_sem,h]))
 ·rename_i ht
  rw [show decide (0<=i/\ i<nodes)=decide (i<nodes)from decide_eq_decide.2 ⟨fun e=>e.2,fun e=>⟨ht,e⟩⟩]
  exact DownV.same hw rl_b
 ·rename_i ht
  exact DownV.same hw rl_b
theorem z6u{y:Store}{q:Nat}{nodes:Int}{L':List ML}{rows junk:List (List AV)}(hrl:r<O.length)(hq:O.length<=q)(hy:y[q-O.length]? =some (some rows))(hr:rows=L'.map mailC++junk)(hn:n=L'.length):
  LkIs (O.set r (some [[.int .i64 nodes,.sl q 0 n none 3]])++y) r nodes (some q) L'/\ FrL O (O.set r (some [[.int .i64 nodes,.sl q 0 n none 3]])++y) r sid (some q):=by
 subst hr;subst hn
 refine⟨⟨?_,⟨junk,?_⟩,fun e=>by have:=Option.some.inj e;omega⟩,⟨by simp,fun p hp h1 h2=> ?_,fun s hs=> ?_⟩⟩
 ·rw [gapp (by simpa using hrl),z2a hrl];rfl
 ·rw [z18 (by simpa using hq),List.length_set];exact hy
 ·rw [gapp (by simpa using hp),z1h (fun e=>h1 e.symm)]
 ·right;have:=Option.some.inj hs;omega
theorem zfy(O:Store)(r:Nat)(nodes:Int)(sid:Option Nat)(L:List ML)(m:ML)(h:LkIs O r nodes sid L)(h0:nodes ≠ 0)(hl:L.length<1000000):
  ACallsP TC 76 [.ptr r 0 0,.agg (mailC m)] O
   (fun v O'=>v=.int .i64 (z1t nodes L.length m)/\ ∃sid',LkIs O' r nodes sid' (if z1t nodes L.length m=0 then L++ [m]else L)/\ FrL O O' r sid sid'):=by
 obtain⟨hrl,hsl⟩:=h.lt
 have ho:=h.obj
 refine ACallsP.of_keep q2zok (by simp) ?_
 unfold z1t
 rw [if_neg h0]
 have hr:=h.rows
 cases sid with
 |none=>
  have e:L=[]:=by simpa [SlIs]using h.rows
  subst e
  repeat' (first|apply zA rfl|(apply zd_ rfl<;>intro ht<;>try omega)|((first|apply zB rfl|(apply callW.mk_pu;exact(fun _=>z80 _ _ nodes _ .nilsl (by simp only [gapp,hrl,ho,slOf])))|(apply callW.za;exact(z80 _ _ nodes _ .nilsl (by simp only [gapp,hrl,ho,slOf])))|(apply zG<;>intro ht))<;>try simp (disch:=first|omega|simp only [lz];try omega) only [go_sem,ho,mailC,slOf]))
  all_goals try exact⟨none,h.app,FrL.app⟩
  exact⟨_,z6u (L':=[m]) (junk:=[]) hrl (by omega) (by rw [Nat.add_sub_cancel_left];rfl) (by simp [mailC]) rfl⟩
 |some s=>
  have hsl:=hsl s rfl
  obtain⟨junk,hj⟩:=hr
  have htake:(L.map mailC++junk).take L.length=L.map mailC:=by
   rw [List.take_append_of_le_length (by simp),List.take_of_length_le (by simp)]
  by_cases hL:L=[]
  ·subst hL
   simp only [List.length_nil,List.map_nil,List.nil_append]at ho hj htake
   repeat' (first|apply zA rfl|(apply zd_ rfl<;>intro ht<;>try omega)|((first|apply zB rfl|(apply callW.mk_pu;exact(fun _=>z80 _ _ nodes _ _ (by simp only [gapp,hrl,ho,slOf];rfl)))|(apply callW.za;exact(z80 _ _ nodes _ _ (by simp only [gapp,hrl,ho,slOf];rfl)))|(apply zG<;>intro ht))<;>try simp (disch:=first|omega|simp only [lz];try omega) only [go_sem,ho,hj,htake,List.take_zero,List.length_nil,mailC,slOf]))
   all_goals try exact⟨_,h.app,FrL.app⟩
   exact⟨_,z6u (L':=[m]) (junk:=[]) hrl (by omega) (by rw [Nat.add_sub_cancel_left];rfl) (by simp [mailC]) rfl⟩
  ·have hlen:0<L.length:=List.length_pos_iff.2 hL
   repeat' (first|apply zA rfl|(apply zd_ rfl<;>intro ht<;>try omega)|((first|apply zB rfl|(apply callW.mk_pu;exact(fun _=>z80 _ _ nodes _ _ (by simp only [gapp,hrl,ho,slOf];rfl)))|(apply callW.za;exact(z80 _ _ nodes _ _ (by simp only [gapp,hrl,ho,slOf];rfl)))|(apply zG<;>intro ht))<;>try simp (disch:=first|omega|simp only [lz];try omega) only [go_sem,ho,hj,htake,lQm,mailC,slOf]))
   all_goals try exact⟨_,h.app,FrL.app⟩
   exact⟨_,z6u (L':=L++ [m]) (junk:=[]) hrl (by omega) (by rw [Nat.add_sub_cancel_left];rfl) (by simp [mailC]) (by simp)⟩
end
section
theorem zzc(O:Store)(r:Nat)(nodes i:Int)(sid:Option Nat)(L:List ML)(h:LkIs O r nodes sid L)(h0:nodes ≠ 0)(hb:atS nodes L.length i ≠ 0):
  ACallsP TC 35 [.ptr r 0 0,.int .i64 i] O (fun v O'=>v=.tup [.agg z3z,.int .i64 (atS nodes L.length i)]/\ LkIs O' r nodes sid L/\ FrL O O' r sid sid):=by
 obtain⟨hrl,hsl⟩:=h.lt
 have hn:=zl3 h
 have ho:=h.obj
 have hb':i<0 \/(L.length:Int)<=i:=(zik hb).resolve_left h0
 have hc:atS nodes L.length i=4:=by unfold atS;rw [if_neg h0,if_pos hb']
 rw [hc]
 refine ACallsP.of_keep q2qok (by simp) ?_
 cases sid with
 |none=>
  repeat' (first|apply zA rfl|(apply zd_ rfl<;>intro ht<;>try omega)|((first|apply zB rfl|(apply zG<;>intro ht))<;>try simp (disch:=first|omega|simp only [lz];try omega) only [go_sem,z3z,ho,slOf]))
  all_goals exact⟨h.app,FrL.app⟩
 |some s=>
  repeat' (first|apply zA rfl|(apply zd_ rfl<;>intro ht<;>try omega)|((first|apply zB rfl|(apply zG<;>intro ht))<;>try simp (disch:=first|omega|simp only [lz];try omega) only [go_sem,z3z,ho,slOf]))
  all_goals exact⟨h.app,FrL.app⟩
theorem lk_nil{y:Store}{nodes:Int}(hrl:r<O.length):
  LkIs (O.set r (some [[.int .i64 nodes,.nilsl]])++y) r nodes none []/\ FrL O (O.set r (some [[.int .i64 nodes,.nilsl]])++y) r sid none:=by
 refine⟨⟨?_,rfl,by simp⟩,⟨by simp,fun p hp h1 h2=> ?_,fun s hs=>by cases hs⟩⟩
 ·rw [gapp (by simpa using hrl),z2a hrl];rfl
 ·rw [gapp (by simpa using hp),z1h (fun e=>h1 e.symm)]
theorem zsp{A B junk:List (List AV)}{x:List AV}:((A++x::(B++junk)).drop (A.length+1)).take B.length=B:=by
 rw [List.drop_append,List.drop_of_length_le (by omega),Nat.add_sub_cancel_left]
 simp
theorem zzd(O:Store)(r s:Nat)(nodes:Int)(A B:List ML)(m:ML)(h:LkIs O r nodes (some s) (A++m::B))(hl:A.length+1+B.length<1000000):
  ACallsP TC 35 [.ptr r 0 0,.int .i64 A.length] O (fun v O'=>v=.tup [.agg (mailC m),.int .i64 0]/\ ∃sid',LkIs O' r nodes sid' (A++B)/\ FrL O O' r (some s) sid'):=by
 obtain⟨hrl,hsl⟩:=h.lt
 have hsl:=hsl s rfl
 obtain⟨ho,⟨junk,hj⟩,hd⟩:=h
 have hne:s ≠ r:=fun e=>hd (by rw [e])
 have hne2:r ≠ s:=fun e=>hne e.symm
 have hlen:(A++m::B).length=A.length+1+B.length:=by simp;omega
 rw [hlen]at ho
 have hrow:(A++m::B).map mailC++junk=A.map mailC++mailC m::(B.map mailC++junk):=by simp
 rw [hrow]at hj
 have hget:(A.map mailC++mailC m::(B.map mailC++junk))[A.length]? =some (mailC m):=by
  rw [List.getElem?_append_right (by simp)];simp
 have htake:(A.map mailC++mailC m::(B.map mailC++junk)).take A.length=A.map mailC:=by
  rw [List.take_append_of_le_length (by simp),List.take_of_length_le (by simp)]
 have hdrop:((A.map mailC++mailC m::(B.map mailC++junk)).drop (A.length+1)).take B.length=B.map mailC:=by
  have:=zsp (A:=A.map mailC) (B:=B.map mailC) (junk:=junk) (x:=mailC m)
  simpa only [List.length_map]using this
 have hrl':(A.map mailC++mailC m::(B.map mailC++junk)).length=A.length+1+(B.length+junk.length):=by simp;omega
 have e1:(A.length:Int)+1=((A.length+1:Nat):Int):=by omega
 have e2:A.length+1+B.length-(A.length+1)=B.length:=by omega
 simp only [mailC]at hj hget htake hdrop hrl'
 refine ACallsP.of_keep q2qok (by simp) ?_
 by_cases hA:A=[]
 ·subst hA
  simp only [List.length_nil,List.map_nil,List.nil_append,Nat.zero_add,List.take_zero,List.drop_succ_cons,List.drop_zero,List.length_cons]at ho hj hget htake hdrop hrl' e2 ⊢
  have e3:((0:Nat):Int)=0:=rfl
  have e4:((0:Int)+1).toNat=1:=rfl
  have e5:1-1=0:=rfl
  have e6:1+B.length-1=B.length:=by omega
  by_cases hB:B=[]
  ·subst hB
   simp only [List.length_nil,List.map_nil,List.nil_append,Nat.add_zero,List.take_zero]at ho hj hget htake hdrop hrl' e2 ⊢
   repeat' (first|apply zA rfl|(apply zd_ rfl<;>intro ht<;>try omega)|((first|apply zB rfl|(apply zG<;>intro ht))<;>try simp (disch:=first|omega|simp only [lz];try omega) only [go_sem,ho,hj,hget,hrl',e3,e4,e5,mailC,slOf,Nat.sub_zero,List.take_zero,List.drop_succ_cons,List.drop_zero,List.length_nil,true_or,or_true,if_true]))
   exact⟨_,lk_nil hrl⟩
  ·have hBl:0<B.length:=List.length_pos_iff.2 hB
   repeat' (first|apply zA rfl|(apply zd_ rfl<;>intro ht<;>try omega)|((first|apply zB rfl|(apply zG<;>intro ht))<;>try simp (disch:=first|omega|simp only [lz];try omega) only [go_sem,ho,hj,hget,hdrop,e2,e3,e4,mailC,slOf,lQm,Nat.sub_zero,List.take_zero,List.drop_succ_cons,List.drop_zero]))
   exact⟨_,z6u (L':=B) (junk:=[]) hrl (by omega) (by rw [Nat.add_sub_cancel_left];rfl) (by simp) rfl⟩
 ·have hAl:0<A.length:=List.length_pos_iff.2 hA
  by_cases hB:B=[]
  ·subst hB
   simp only [List.length_nil,List.map_nil,List.nil_append,Nat.add_zero,List.take_zero]at ho hj hget htake hdrop hrl' e2 ⊢
   repeat' (first|apply zA rfl|(apply zd_ rfl<;>intro ht<;>try omega)|((first|apply zB rfl|(apply zG<;>intro ht))<;>try simp (disch:=first|omega|simp only [lz];try omega) only [go_sem,ho,hj,hget,htake,hrl',e1,e2,mailC,slOf,lQm,Nat.sub_zero,List.take_zero,List.append_nil,List.length_nil]))
   exact⟨_,by simpa using z6u (sid:=some s) (L':=A) (junk:=[]) (rows:=A.map mailC) (y:=[_,_,some (A.map mailC)]) hrl (by omega) (by rw [Nat.add_sub_cancel_left];rfl) (by simp) rfl⟩
  ·have hBl:0<B.length:=List.length_pos_iff.2 hB
   repeat' (first|apply zA rfl|(apply zd_ rfl<;>intro ht<;>try omega)|((first|apply zB rfl|(apply zG<;>intro ht))<;>try simp (disch:=first|omega|simp only [lz];try omega) only [go_sem,ho,hj,hget,htake,hdrop,hrl',e1,e2,mailC,slOf,lQm,Nat.sub_zero]))
   exact⟨_,z6u (L':=A++B) (junk:=[]) hrl (by omega) (by rw [Nat.add_sub_cancel_left];rfl) (by simp) (by simp)⟩
end
section
theorem zfx(O:Store)(r:Nat)(nodes i:Int)(sid:Option Nat)(L:List ML)(h:LkIs O r nodes sid L)(h0:nodes ≠ 0)(hl:L.length<1000000):
  ACallsP TC 35 [.ptr r 0 0,.int .i64 i] O (fun v O'=>v=delV nodes L i/\ ∃sid',LkIs O' r nodes sid' (delL nodes L i)/\ FrL O O' r sid sid'):=by
 by_cases hb:atS nodes L.length i=0
 ·obtain⟨h0,h1,h2⟩:=z4m hb
  obtain⟨A,m,B,rfl,hA⟩:=zcx L i.toNat (by omega)
  cases sid with
  |none=>have:=h.rows;simp [SlIs]at this
  |some s=>
   have hi:i=A.length:=by omega
   subst hi
   refine(zzd O r s nodes A B m h (by simp at hl;omega)).mono ?_
   rintro v O' ⟨rfl,sid',k1,k2⟩
   refine⟨?_,sid',?_,k2⟩
   ·rw [delV,hb,delM,if_pos hb,Int.toNat_natCast]
    congr 3
    simp
   ·rw [delL,if_pos hb,Int.toNat_natCast]
    have:(A++m::B).eraseIdx A.length=A++B:=by rw [List.eraseIdx_append_of_length_le (Nat.le_refl _)];simp
    rw [this];exact k1
 ·refine(zzc O r nodes i sid L h h0 hb).mono ?_
  rintro v O' ⟨rfl,k1,k2⟩
  exact⟨by rw [delV,delM,if_neg hb];rfl,sid,by rw [delL,if_neg hb];exact k1,k2⟩
theorem z7v{nodes:Int}{L:List ML}(h:LkIs O r nodes sid L)(L':List ML):∃O' sid',LkIs O' r nodes sid' L'/\ FrL O O' r sid sid':=by
 obtain⟨hrl,_⟩:=h.lt
 exact⟨_,_,z6u (y:=[some (L'.map mailC)]) (q:=O.length) (L':=L') (rows:=L'.map mailC) (junk:=[]) hrl (Nat.le_refl _) (by simp) (by simp) rfl⟩
theorem zze(O:Store)(r:Nat)(nodes i:Int)(sid:Option Nat)(L:List ML)(h:LkIs O r nodes sid L)(h0:nodes ≠ 0)(hl:L.length<1000000):
  ACallsP TC 36 [.ptr r 0 0,.int .i64 i] O (fun v O'=>v=.int .i64 (dblS nodes L i)/\ ∃sid',LkIs O' r nodes sid' (if dblS nodes L i=0 then L++ [L.getD i.toNat ⟨0,0,[]⟩]else L)/\ FrL O O' r sid sid'):=by
 obtain⟨hrl,hsl⟩:=h.lt
 have ho:=h.obj
 have hn:=zl3 h
 by_cases hb:atS nodes L.length i=0
 ·obtain⟨h0,h1,h2⟩:=z4m hb
  obtain⟨A,m,B,rfl,hA⟩:=zcx L i.toNat (by omega)
  cases sid with
  |none=>have:=h.rows;simp [SlIs]at this
  |some s=>
   have hi:i=A.length:=by omega
   subst hi
   obtain⟨junk,hj⟩:=h.rows
   have hlen:(A++m::B).length=A.length+1+B.length:=by simp;omega
   have hm:(A++m::B).getD (A.length:Int).toNat ⟨0,0,[]⟩=m:=by simp
   have hget:((A++m::B).map mailC++junk)[A.length]? =some [.int .i64 m.f,.int .i64 m.t,.str m.x]:=by
    rw [List.getElem?_append_left (by simp),List.getElem?_map,List.getElem?_append_right (Nat.le_refl _)];simp [mailC]
   have hS:=zfy O r nodes (some s) (A++m::B) m h h0 hl
   have hE:=z7t (m:=m) h
   unfold dblS
   rw [if_pos hb,hm]
   simp only [mailC]at hS
   refine ACallsP.of_keep q2rok (by simp) ?_
   repeat' (first|apply zA rfl|(apply zd_ rfl<;>intro ht<;>try omega)|((first|apply zB rfl|(apply zG<;>intro ht))<;>try simp (disch:=first|omega|simp only [lz];try omega) only [go_sem,ho,hj,hget,slOf,hlen]))
   refine callW.mkP (caps:=[]) hS hE ?_
   rintro v O' ⟨rfl,k⟩
   simp (disch:=first|omega|simp only [lz];try omega) only [go_sem]
   repeat' (first|apply zA rfl|(apply zd_ rfl<;>intro ht<;>try omega)|((first|apply zB rfl|(apply zG<;>intro ht))<;>try simp (disch:=first|omega|simp only [lz];try omega) only [go_sem]))
   have e:A.length+(B.length+1)=A.length+1+B.length:=by omega
   rw [e]
   rw [hlen,List.append_assoc]at k
   exact⟨rfl,k⟩
 ·have hb':i<0 \/(L.length:Int)<=i:=(zik hb).resolve_left h0
  have hc:atS nodes L.length i=4:=by unfold atS;rw [if_neg h0,if_pos hb']
  unfold dblS
  rw [if_neg hb,hc]
  refine ACallsP.of_keep q2rok (by simp) ?_
  cases sid with
  |none=>
   repeat' (first|apply zA rfl|(apply zd_ rfl<;>intro ht<;>try omega)|((first|apply zB rfl|(apply zG<;>intro ht))<;>try simp (disch:=first|omega|simp only [lz];try omega) only [go_sem,ho,slOf]))
   all_goals exact⟨_,h,FrL.refl⟩
  |some s=>
   repeat' (first|apply zA rfl|(apply zd_ rfl<;>intro ht<;>try omega)|((first|apply zB rfl|(apply zG<;>intro ht))<;>try simp (disch:=first|omega|simp only [lz];try omega) only [go_sem,ho,slOf]))
   all_goals exact⟨_,h,FrL.refl⟩
end
section
set_option maxRecDepth 10000
def q34c21:yX:=.seq (.cond (.t 19) .skip (.exit 0)) (.seq (.block 1 (yq [yN 20 33 16 18,yL 21 true 33 20,yI 6 (.alloc ((.int .i64 0)::zZ0)),yS 33 6 21] (.seq (yq [yL 22 true 33 6,yC 23 110 22,yu 24 23] (.cond (.t 24) (yq [ye 2,yK 3 .i64 2] .ret) .skip)) (.reg [yF 25 0 6,yR 26 false 1 25,yY 27 .u64 26,yf 28 109 27,yF 29 1 6,yR 30 true 32 29,yC 31 84 30,yB 32 .add 28 31,yD 33 83 4 32])))) (.reg [yJ 34 .add 18 .i64 1,yM 18 34]))
def q34c32:yX:=yq [ye 2,yK 3 .i64 0] (.seq (yq [yM 7 0,yZ 8 7,yJ 9 .gtr 8 .i64 64] (.cond (.t 9) (yq [ye 2,yK 3 .i64 2] .ret) .skip)) (yq [yI 4 (.allB)] (yq [yM 10 0,yZ 11 10,yY 12 .u64 11,yC 13 109 12,yI 14 (.bin .add .none (.v (.str [68])) (.t 13)),yD 15 83 4 14] (.seq (yq [yM 16 0,yZ 17 16,yK 18 .i64 0] (.block 0 (.loop (yq [yB 19 .lss 18 17] q34c21)))) (yq [yC 35 86 4,yM 2 35,yK 3 .i64 0] .ret)))))
theorem q34ok:cFn TC 65=some (36,[.t 2,.t 3],q34c32):=by kernel_rfl
def q35c17:yX:=.seq (yq [yM 20 0,yM 21 5,yN 22 33 20 21,yF 23 0 22,yL 24 false 1 23,yJ 25 .lss 24 .i64 0,yM 26 25,yV 27 26 false 0,yV 28 26 false 5,yG 29 26 false (.iaSl 33 (.t 27) (.t 28)),yT 30 26 false 0 29,yU 31 26 false false 1 30,yG 32 26 false (.bin .gtr .none (.t 31) (.v (.int .i64 4096))),yP 33 26 32] (.cond (.t 33) (yq [ye 2,yK 3 .i64 2] .ret) .skip)) (.reg [yM 34 4,yM 35 0,yM 36 5,yN 37 33 35 36,yF 38 0 37,yR 39 false 1 38,yY 40 .u64 39,yf 41 117 40,yB 42 .add 34 41,yM 43 0,yM 44 5,yN 45 33 43 44,yF 46 1 45,yR 47 true 32 46,yC 48 96 47,yB 49 .add 42 48,yM 4 49])
def q35c28:yX:=.seq (yq [yM 6 0,yZ 7 6,yJ 8 .gtr 7 .i64 64] (.cond (.t 8) (yq [ye 2,yK 3 .i64 2] .ret) .skip)) (yq [yM 9 0,yZ 10 9,yY 11 .u64 10,yC 12 117 11,yI 13 (.bin .add .none (.v (.str [68])) (.t 12)),yM 4 13] (.seq (yq [yK 5 .i64 0] (.block 0 (.loop (.seq (yq [yM 14 5,yM 15 0,yZ 16 15,yB 17 .lss 14 16] (.cond (.t 17) .skip (.exit 0))) (.seq (.block 1 q35c17) (.reg [yM 18 5,yJ 19 .add 18 .i64 1,yM 5 19])))))) (yq [yM 50 4,yM 2 50,yK 3 .i64 0] .ret)))
def q35c29:yX:=yq [ye 2,yK 3 .i64 0] q35c28
theorem q35ok:cFn TC 75=some (51,[.t 2,.t 3],q35c29):=by kernel_rfl
def q36c19:yX:=.seq (yq [yM 26 8,yJ 27 .lss 26 .i64 3,yM 28 27,yV 29 28 true 8,yG 30 28 true (.conv (.int .u64) (.t 29)),yV 31 28 true 4,yG 32 28 true (.bin .lss .none (.t 30) (.t 31)),yQ 33 28 32] (.cond (.t 33) .skip (.exit 0))) (.seq (.block 1 (yq [yM 37 5,yC 38 120 37,yM 36 38,yE 39 0 36,yE 40 1 36,yE 41 2 36,yM 9 39,yM 10 40,yM 11 41] (yq [yM 43 9,yC 44 121 43,yM 42 44,yE 45 0 42,yE 46 1 42,yI 12 (.alloc zZ1),yS 36 12 45,yM 13 46] (.reg [yM 47 7,yL 48 true 36 12,yI 49 (.lit 36 [(.t 48)]),yI 50 (.app 36 (.t 47) (.t 49)),yM 51 10,yM 7 50,yM 5 51])))) (.reg [yM 34 8,yJ 35 .add 34 .i64 1,yM 8 35]))
def q36c34:yX:=yq [yI 7 (.mv (.v .nilsl))] (.seq (yq [yK 8 .i64 0] (.block 0 (.loop q36c19))) (yq [yM 53 7,yC 54 79 53,yM 52 54,yE 55 0 52,yE 56 1 52,yM 14 55,yM 15 56] (.seq (yq [yM 57 15,yJ 58 .neq 57 .i64 0,yM 59 58,yV 60 59 false 14,yV 61 59 false 0,yG 62 59 false (.bin .neq .none (.t 60) (.t 61)),yP 63 59 62] (.cond (.t 63) (yq [yI 2 (.mv (.v .nilsl)),yK 3 .i64 10] .ret) .skip)) (yq [yM 64 7,yM 2 64,yK 3 .i64 0] .ret))))
def q36c37:yX:=yq [yI 2 (.mv (.v .nilsl)),yK 3 .i64 0] (.seq (yq [yM 16 0,yI 17 (.lenStr (.t 16)),yJ 18 .eql 17 .i64 0] (.cond (.t 18) (yq [yI 2 (.mv (.v .nilsl)),yK 3 .i64 10] .ret) .skip)) (yq [yM 20 0,yI 21 (.slice .str (.t 20) (some (.v (.int .i64 1))) none none),yC 22 119 21,yM 19 22,yE 23 0 19,yE 24 1 19,yE 25 2 19,yM 4 23,yM 5 24,yM 6 25] q36c34))
theorem q36ok:cFn TC 77=some (65,[.t 2,.t 3],q36c37):=by kernel_rfl
def q37c16:yX:=yq [yM 37 5,yC 38 119 37,yM 36 38,yE 39 0 36,yE 40 1 36,yE 41 2 36,yM 9 39,yM 10 40,yM 11 41] (yq [yM 43 10,yC 44 122 43,yM 42 44,yE 45 0 42,yE 46 1 42,yE 47 2 42,yI 12 (.alloc zZ0),yS 32 12 45,yM 10 46,yM 13 47] (.reg [yM 48 7,yM 49 9,yJ 50 .rem 49 .u64 65536,yY 51 .i64 50,yL 52 true 32 12,yI 53 (.build ((.int .i64 0)::zZ0) [(0,1,(.t 51)),(1,32,(.t 52))]),yI 54 (.lit 33 [(.t 53)]),yI 55 (.app 33 (.t 48) (.t 54)),yM 56 10,yM 7 55,yM 5 56]))
def q37c33:yX:=.seq (yq [yK 8 .i64 0] (.block 0 (.loop (.seq (yq [yM 26 8,yJ 27 .lss 26 .i64 64,yM 28 27,yV 29 28 true 8,yG 30 28 true (.conv (.int .u64) (.t 29)),yV 31 28 true 4,yG 32 28 true (.bin .lss .none (.t 30) (.t 31)),yQ 33 28 32] (.cond (.t 33) .skip (.exit 0))) (.seq (.block 1 q37c16) (.reg [yM 34 8,yJ 35 .add 34 .i64 1,yM 8 35])))))) (yq [yM 58 7,yC 59 75 58,yM 57 59,yE 60 0 57,yE 61 1 57,yM 14 60,yM 15 61] (.seq (yq [yM 62 15,yJ 63 .neq 62 .i64 0,yM 64 63,yV 65 64 false 14,yV 66 64 false 0,yG 67 64 false (.bin .neq .none (.t 65) (.t 66)),yP 68 64 67] (.cond (.t 68) (yq [yI 2 (.mv (.v .nilsl)),yK 3 .i64 10] .ret) .skip)) (yq [yM 69 7,yM 2 69,yK 3 .i64 0] .ret)))
def q37c37:yX:=yq [yI 2 (.mv (.v .nilsl)),yK 3 .i64 0] (.seq (yq [yM 16 0,yI 17 (.lenStr (.t 16)),yJ 18 .eql 17 .i64 0] (.cond (.t 18) (yq [yI 2 (.mv (.v .nilsl)),yK 3 .i64 10] .ret) .skip)) (yq [yM 20 0,yI 21 (.slice .str (.t 20) (some (.v (.int .i64 1))) none none),yC 22 119 21,yM 19 22,yE 23 0 19,yE 24 1 19,yE 25 2 19,yM 4 23,yM 5 24,yM 6 25] (yq [yI 7 (.mv (.v .nilsl))] q37c33)))
theorem q37ok:cFn TC 78=some (70,[.t 2,.t 3],q37c37):=by kernel_rfl
def q38c22:yX:=.seq (yq [yM 21 5,yM 22 0,yZ 23 22,yB 24 .lss 21 23] (.cond (.t 24) .skip (.exit 0))) (.seq (.block 1 (yq [yM 28 0,yM 29 5,yN 30 36 28 29,yL 31 true 36 30,yC 32 123 31,yM 27 32,yE 33 0 27,yE 34 1 27,yM 6 33,yM 7 34] (.seq (yq [yM 35 7,yJ 36 .neq 35 .i64 0] (.cond (.t 36) (yq [ye 2,yK 3 .i64 2] .ret) .skip)) (.reg [yM 37 4,yM 38 6,yC 39 124 38,yB 40 .add 37 39,yM 4 40])))) (.reg [yM 25 5,yJ 26 .add 25 .i64 1,yM 5 26]))
def q38c30:yX:=.seq (yq [yM 8 0,yZ 9 8,yJ 10 .lss 9 .i64 1,yM 11 10,yV 12 11 false 0,yG 13 11 false (.lenSl (.t 12)),yG 14 11 false (.bin .gtr .none (.t 13) (.v (.int .i64 3))),yP 15 11 14] (.cond (.t 15) (yq [ye 2,yK 3 .i64 2] .ret) .skip)) (yq [yM 16 0,yZ 17 16,yY 18 .u64 17,yC 19 117 18,yI 20 (.bin .add .none (.v (.str [71])) (.t 19)),yM 4 20] (.seq (yq [yK 5 .i64 0] (.block 0 (.loop q38c22))) (yq [yM 41 4,yM 2 41,yK 3 .i64 0] .ret)))
def q38c31:yX:=yq [ye 2,yK 3 .i64 0] q38c30
theorem q38ok:cFn TC 79=some (42,[.t 2,.t 3],q38c31):=by kernel_rfl
def q39r11:yW:=[
 yM 31 7,
 yM 32 31,
 yV 33 32 true 1,
 yV 34 32 true 8,
 yG 35 32 true (.iaSl 33 (.t 33) (.t 34)),
 ⟨some 36,some (32,true),.rd,.load true 33 (.t 35)⟩,
 yV 37 32 true 0,
 yV 38 32 true 6,
 yG 39 32 true (.iaSl 36 (.t 37) (.t 38)),
 yT 40 32 true 0 39,
 ⟨some 41,some (32,true),.rd,.load true 33 (.t 40)⟩,
 yG 42 32 true (.bin .neq (.agg ([(.i .i64)]++(List.replicate 32 (.i .u8)++ []))) (.t 36) (.t 41)),
 yQ 43 32 42,
 yM 7 43]
def q39c23:yX:=yq [yM 20 0,yM 21 6,yN 22 36 20 21,yL 23 true 36 22,yC 24 106 23,yM 7 24] (.seq (yq [yK 8 .i64 0] (.block 2 (.loop (.seq (yq [yM 25 8,yM 26 1,yZ 27 26,yB 28 .lss 25 27] (.cond (.t 28) .skip (.exit 2))) (.seq (.block 3 (.reg q39r11)) (.reg [yM 29 8,yJ 30 .add 29 .i64 1,yM 8 30])))))) (yq [yM 44 7] (.cond (.t 44) (.reg [yM 45 5,yM 46 0,yM 47 6,yN 48 36 46 47,yL 49 true 36 48,yI 50 (.lit 36 [(.t 49)]),yI 51 (.app 36 (.t 45) (.t 50)),yM 5 51]) .skip)))
def q39c34:yX:=yq [yI 4 (.mv (.v .nilsl))] (yq [yI 5 (.mv (.v .nilsl))] (.seq (yq [yK 6 .i64 0] (.block 0 (.loop (.seq (yq [yM 9 6,yM 10 0,yZ 11 10,yB 12 .lss 9 11,yM 13 12,yV 14 13 true 5,yG 15 13 true (.lenSl (.t 14)),yG 16 13 true (.bin .lss .none (.t 15) (.v (.int .i64 3))),yQ 17 13 16] (.cond (.t 17) .skip (.exit 0))) (.seq (.block 1 q39c23) (.reg [yM 18 6,yJ 19 .add 18 .i64 1,yM 6 19])))))) (yq [yM 52 5,yM 4 52] .ret)))
attribute [go_sem] q39r11
theorem q39ok:cFn TC 80=some (53,[.t 4],q39c34):=by kernel_rfl
def q3ac10:yX:=yq [yM 14 5,yZ 15 14,yJ 16 .lss 15 .i64 3,yM 17 16,yU 18 17 true true 36 7,yG 19 17 true (.call (.v (.fn 97 [])) [(.t 18)]),yQ 20 17 19,yM 21 20,yV 22 21 true 1,yT 23 21 true 0 7,yU 24 21 true true 33 23,yG 25 21 true (.call (.v (.fn 141 [])) [(.t 22),(.t 24)]),yG 26 21 true (.un .not (.t 25)),yQ 27 21 26] (.cond (.t 27) (yq [yF 28 33 7,yF 29 2 28,yL 30 false 1 29,yC 31 105 30,yF 32 33 7,yF 33 2 32,yS 1 33 31] (.reg [yM 34 5,yL 35 true 36 7,yI 36 (.lit 36 [(.t 35)]),yI 37 (.app 36 (.t 34) (.t 36)),yM 5 37])) .skip)
def q3ac23:yX:=yq [yI 4 (.mv (.v .nilsl))] (yq [yI 5 (.mv (.v .nilsl))] (.seq (yq [yM 8 0,yZ 9 8,yK 10 .i64 0] (.block 0 (.loop (yq [yB 11 .lss 10 9] (.seq (.cond (.t 11) .skip (.exit 0)) (.seq (.block 1 (yq [yN 12 36 8 10,yL 13 true 36 12,yI 7 (.alloc zZ1),yS 36 7 13] q3ac10)) (.reg [yJ 38 .add 10 .i64 1,yM 10 38]))))))) (yq [yM 39 5,yM 4 39] .ret)))
theorem q3aok:cFn TC 108=some (40,[.t 4],q3ac23):=by kernel_rfl
def q3bc3:yX:=yq [yx 1 0,yb 2 false] (yq [yF 3 0 1,yL 4 false 1 3,yJ 5 .geq 4 .i64 0,yM 6 5,yT 7 6 true 0 1,yU 8 6 true false 1 7,yG 9 6 true (.bin .leq .none (.t 8) (.v (.int .i64 4096))),yQ 10 6 9,yM 2 10] .ret)
theorem q3bok:cFn TC 110=some (11,[.t 2],q3bc3):=by kernel_rfl
def q3cc19:yX:=yq [yM 39 8,yC 40 144 39,yM 38 40,yE 41 0 38,yE 42 1 38,yI 11 (.alloc zZ1),yS 36 11 41,yM 12 42] (.seq (yq [yM 43 10,yu 44 43,yM 45 44,yV 46 45 false 12,yG 47 45 false (.bin .neq .none (.t 46) (.v (.int .i64 0))),yP 48 45 47] (.cond (.t 48) (yq [yI 2 (.mv (.v .nilsl)),yK 3 .i64 10] .ret) .skip)) (.reg [yM 49 7,yL 50 true 36 11,yI 51 (.lit 36 [(.t 50)]),yI 52 (.app 36 (.t 49) (.t 51)),yM 53 9,yM 7 52,yM 5 53]))
def q3cc36:yX:=.seq (yq [yM 29 4,yK 30 .u64 0] (.block 0 (.loop (yq [yB 31 .lss 30 29] (.seq (.cond (.t 31) .skip (.exit 0)) (.seq (.block 1 (yq [yM 33 5,yC 34 143 33,yM 32 34,yE 35 0 32,yE 36 1 32,yE 37 2 32,yM 8 35,yM 9 36,yM 10 37] q3cc19)) (.reg [yJ 54 .add 30 .u64 1,yM 30 54]))))))) (.seq (yq [yM 55 5,yI 56 (.bin .neq .none (.t 55) (.v (.str [])))] (.cond (.t 56) (yq [yI 2 (.mv (.v .nilsl)),yK 3 .i64 10] .ret) .skip)) (yq [yM 57 7,yM 2 57,yK 3 .i64 0] .ret))
def q3cc39:yX:=yq [yM 14 0,yI 15 (.call (.v (.fn 142 [])) [(.t 14),(.v (.str [71]))]),yM 13 15,yE 16 0 13,yE 17 1 13,yE 18 2 13,yM 4 16,yM 5 17,yM 6 18] (.seq (yq [yM 19 6,yu 20 19,yM 21 20,yV 22 21 false 4,yG 23 21 false (.bin .lss .none (.t 22) (.v (.int .u64 1))),yP 24 21 23,yM 25 24,yV 26 25 false 4,yG 27 25 false (.bin .gtr .none (.t 26) (.v (.int .u64 3))),yP 28 25 27] (.cond (.t 28) (yq [yI 2 (.mv (.v .nilsl)),yK 3 .i64 10] .ret) .skip)) (yq [yI 7 (.mv (.v .nilsl))] q3cc36))
def q3cc40:yX:=yq [yI 2 (.mv (.v .nilsl)),yK 3 .i64 0] q3cc39
theorem q3cok:cFn TC 114=some (58,[.t 2,.t 3],q3cc40):=by kernel_rfl
def q3dc18:yX:=.seq (yq [yM 40 10,yu 41 40,yM 42 41,yV 43 42 false 12,yG 44 42 false (.un .not (.t 43)),yP 45 42 44,yM 46 45,yV 47 46 false 8,yG 48 46 false (.bin .gtr .none (.t 47) (.v (.int .u64 4096))),yP 49 46 48] (.cond (.t 49) (yq [yI 2 (.mv (.v .nilsl)),yK 3 .i64 10] .ret) .skip)) (.reg [yM 50 7,yM 51 8,yY 52 .i64 51,yL 53 true 32 11,yI 54 (.build ((.int .i64 0)::zZ0) [(0,1,(.t 52)),(1,32,(.t 53))]),yI 55 (.lit 33 [(.t 54)]),yI 56 (.app 33 (.t 50) (.t 55)),yM 57 9,yM 7 56,yM 5 57])
def q3dc36:yX:=.seq (yq [yM 25 4,yK 26 .u64 0] (.block 0 (.loop (yq [yB 27 .lss 26 25] (.seq (.cond (.t 27) .skip (.exit 0)) (.seq (.block 1 (yq [yM 29 5,yC 30 145 29,yM 28 30,yE 31 0 28,yE 32 1 28,yE 33 2 28,yM 8 31,yM 9 32,yM 10 33] (yq [yM 35 9,yC 36 146 35,yM 34 36,yE 37 0 34,yE 38 1 34,yE 39 2 34,yI 11 (.alloc zZ0),yS 32 11 37,yM 9 38,yM 12 39] q3dc18))) (.reg [yJ 58 .add 26 .u64 1,yM 26 58]))))))) (.seq (yq [yM 59 5,yI 60 (.bin .neq .none (.t 59) (.v (.str [])))] (.cond (.t 60) (yq [yI 2 (.mv (.v .nilsl)),yK 3 .i64 10] .ret) .skip)) (yq [yM 61 7,yM 2 61,yK 3 .i64 0] .ret))
def q3dc40:yX:=yq [yI 2 (.mv (.v .nilsl)),yK 3 .i64 0] (yq [yM 14 0,yI 15 (.call (.v (.fn 142 [])) [(.t 14),(.v (.str [68]))]),yM 13 15,yE 16 0 13,yE 17 1 13,yE 18 2 13,yM 4 16,yM 5 17,yM 6 18] (.seq (yq [yM 19 6,yu 20 19,yM 21 20,yV 22 21 false 4,yG 23 21 false (.bin .gtr .none (.t 22) (.v (.int .u64 64))),yP 24 21 23] (.cond (.t 24) (yq [yI 2 (.mv (.v .nilsl)),yK 3 .i64 10] .ret) .skip)) (yq [yI 7 (.mv (.v .nilsl))] q3dc36)))
theorem q3dok:cFn TC 115=some (62,[.t 2,.t 3],q3dc40):=by kernel_rfl
def q3ec24:yX:=yq [yB 26 .lss 25 24] (.seq (.cond (.t 26) .skip (.exit 0)) (.seq (.block 1 (yq [yN 27 36 23 25,yL 28 true 36 27,yI 6 (.alloc zZ1),yS 36 6 28] (yq [yL 30 true 36 6,yC 31 147 30,yM 29 31,yE 32 0 29,yE 33 1 29,yM 7 32,yM 8 33] (.seq (yq [yM 34 8,yJ 35 .neq 34 .i64 0] (.cond (.t 35) (yq [ye 2,yK 3 .i64 2] .ret) .skip)) (.reg [yM 36 7,yC 37 129 36,yD 38 83 4 37]))))) (.reg [yJ 39 .add 25 .i64 1,yM 25 39])))
def q3ec33:yX:=.seq (yq [yM 9 0,yZ 10 9,yJ 11 .eql 10 .i64 0,yM 12 11,yV 13 12 false 0,yG 14 12 false (.lenSl (.t 13)),yG 15 12 false (.bin .gtr .none (.t 14) (.v (.int .i64 3))),yP 16 12 15] (.cond (.t 16) (yq [ye 2,yK 3 .i64 2] .ret) .skip)) (yq [yI 4 (.allB)] (yq [yM 17 0,yZ 18 17,yY 19 .u64 18,yC 20 109 19,yI 21 (.bin .add .none (.v (.str [71])) (.t 20)),yD 22 83 4 21] (.seq (yq [yM 23 0,yZ 24 23,yK 25 .i64 0] (.block 0 (.loop q3ec24))) (yq [yC 40 86 4,yM 2 40,yK 3 .i64 0] .ret))))
def q3ec34:yX:=yq [ye 2,yK 3 .i64 0] q3ec33
theorem q3eok:cFn TC 116=some (41,[.t 2,.t 3],q3ec34):=by kernel_rfl
def q3fc3:yX:=yq [yx 3 1,yb 4 false] (yq [yM 5 0,yL 6 true 33 3,yD 7 159 5 6,yJ 8 .geq 7 .i64 0,yM 4 8] .ret)
theorem q3fok:cFn TC 141=some (9,[.t 4],q3fc3):=by kernel_rfl
def q3gc11:yX:=yq [yK 4 .u64 0,ye 5,yb 6 false] (yq [yM 8 0,yM 9 1,yD 10 160 8 9,yM 7 10,yE 11 0 7,yE 12 1 7,yM 5 11,yM 6 12] (.seq (yq [yM 13 6,yu 14 13] (.cond (.t 14) (yq [yK 4 .u64 0,ye 5,yb 6 false] .ret) .skip)) (yq [yM 15 5,yC 16 145 15,yE 17 0 16,yE 18 1 16,yE 19 2 16,yM 4 17,yM 5 18,yM 6 19] .ret)))
theorem q3gok:cFn TC 142=some (20,[.t 4,.t 5,.t 6],q3gc11):=by kernel_rfl
def q3hc19:yX:=.seq (yq [yM 6 0,yZ 7 6,yK 8 .i64 0] (.block 0 (.loop (yq [yB 9 .lss 8 7] (.seq (.cond (.t 9) .skip (.exit 0)) (.seq (.block 1 (yq [yM 10 8,yM 5 10] (yq [yR 11 true 33 3,yM 12 0,yM 13 5,yN 14 33 12 13,yR 15 true 33 14,yI 16 (.bin .eql (.agg ([(.i .i64)]++(List.replicate 32 (.i .u8)++ []))) (.t 11) (.t 15))] (.cond (.t 16) (yq [yM 17 5,yM 4 17] .ret) .skip)))) (.reg [yJ 18 .add 8 .i64 1,yM 8 18]))))))) (yq [yI 4 (.mv (.v (.int .i64 (-1))))] .ret)
def q3hc20:yX:=yq [yx 3 1,yK 4 .i64 0] q3hc19
theorem q3hok:cFn TC 159=some (19,[.t 4],q3hc20):=by kernel_rfl
def q3ic3:yX:=yq [ye 4,yb 5 false] (yq [yM 6 0,yM 7 1,yD 8 173 6 7,yE 9 0 8,yE 10 1 8,yM 4 9,yM 5 10] .ret)
theorem q3iok:cFn TC 160=some (11,[.t 4,.t 5],q3ic3):=by kernel_rfl
def q3jc9:yX:=yq [ye 4,yb 5 false] (.seq (yq [yM 6 0,yM 7 1,yD 8 176 6 7,yu 9 8] (.cond (.t 9) (yq [yM 10 0,yM 4 10,yb 5 false] .ret) .skip)) (yq [yM 11 0,yM 12 1,yI 13 (.lenStr (.t 12)),yI 14 (.slice .str (.t 11) (some (.t 13)) none none),yM 4 14,yb 5 true] .ret))
theorem q3jok:cFn TC 173=some (15,[.t 4,.t 5],q3jc9):=by kernel_rfl
end
section
set_option maxRecDepth 10000
def q3kr0:yW:=[
 yb 4 false]
def q3kc5:yX:=yq [yM 27 1,yI 28 (.call (.v (.fn 18 [])) [(.t 27),(.v (.int .i64 25))])] (.cond (.t 28) (yq [yI 29 (.call (.v (.fn 19 [])) []),yM 4 29] .ret) .skip)
def q3kr6:yW:=[
 yI 30 (.call (.v (.fn 9 [])) [(.v (.str [108,111,103]))]),
 yM 5 30]
def q3kr7:yW:=[
 yM 32 5,
 yC 33 11 32,
 yM 34 0,
 yD 35 28 33 34,
 yM 31 35,
 yE 36 0 31,
 yE 37 1 31,
 yM 6 36,
 yM 7 37]
def q3kr8:yW:=[
 yM 39 5,
 yC 40 11 39,
 yM 41 0,
 yD 42 32 40 41,
 yM 38 42,
 yE 43 0 38,
 yE 44 1 38,
 yM 8 43,
 yM 9 44]
def q3kc13:yX:=yq [yM 45 7,yM 46 9,yB 47 .neq 45 46,yM 48 47,yV 49 48 false 9,yG 50 48 false (.bin .neq .none (.t 49) (.v (.int .i64 0))),yP 51 48 50] (.cond (.t 51) (yq [yM 52 7,yM 53 9,yB 54 .eql 52 53,yM 55 54,yV 56 55 true 6,yG 57 55 true (.bin .eql .ptr (.t 56) (.v .nilp)),yQ 58 55 57,yM 59 58,yG 60 59 true (.call (.v (.fn 19 [])) []),yQ 61 59 60,yM 4 61] .ret) .skip)
def q3kr14:yW:=[
 yK 10 .i64 0]
def q3kc17:yX:=yq [yM 62 10,yM 63 1,yZ 64 63,yB 65 .lss 62 64] (.cond (.t 65) .skip (.exit 0))
def q3kr18:yW:=[
 yM 68 1,
 yM 69 10,
 yN 70 45 68 69,
 yL 71 true 45 70,
 yI 11 (.alloc [(.int .u8 0),(.int .u8 0),(.int .u8 0),(.int .u8 0),(.int .u8 0),(.int .u8 0),(.int .u8 0),(.int .i64 0),(.int .u8 0),(.int .u8 0),(.int .u8 0),(.int .u8 0),(.int .u8 0),(.int .u8 0),(.int .u8 0),(.int .u8 0),(.int .u8 0),(.int .u8 0),(.int .u8 0),(.int .u8 0),(.int .u8 0),(.int .u8 0),(.int .u8 0),(.int .u8 0),(.int .u8 0),(.int .u8 0),(.int .u8 0),(.int .u8 0),(.int .u8 0),(.int .u8 0),(.int .u8 0),(.int .u8 0),(.int .u8 0),(.int .u8 0),(.int .u8 0),(.int .u8 0),(.int .u8 0),(.int .u8 0),(.int .u8 0),(.int .u8 0),(.int .i64 0),(.str []),.nilsl,(.int .i64 0),(.int .i64 0)]),
 yS 45 11 71]
def q3kr21:yW:=[
 yF 84 0 11,
 yL 85 false 1 84,
 yJ 86 .rem 85 .u8 14]
def q3kc25:yX:=yq [yJ 101 .eql 86 .u8 4,yM 100 101] (.cond (.t 100) .skip (.reg [yJ 102 .eql 86 .u8 5,yM 100 102]))
@[go_sem] def zfe:List AIns:=[
 yM 103 6,
 yM 104 12,
 yM 105 13,
 yc 106 22 103 104 105,
 yM 107 8,
 yM 108 12,
 yM 109 13,
 yc 110 33 107 108 109,
 yB 111 .eql 106 110,
 yM 14 111]
def q3kc33:yX:=yq [yJ 113 .eql 86 .u8 6,yM 112 113] (.cond (.t 112) .skip (yq [yJ 114 .eql 86 .u8 7,yM 112 114] (.cond (.t 112) .skip (.reg [yJ 115 .eql 86 .u8 8,yM 112 115]))))
@[go_sem] def zff:List AIns:=[
 yM 116 6,
 yF 117 1 11,
 yR 118 false 1 117,
 yY 119 .i64 118,
 yJ 120 .rem 119 .i64 4,
 yg 121 23 116 120,
 yM 122 8,
 yF 123 1 11,
 yR 124 false 1 123,
 yY 125 .i64 124,
 yJ 126 .rem 125 .i64 4,
 yD 127 34 122 126,
 yB 128 .eql 121 127,
 yM 14 128]
def q3kr35:yW:=[
 yJ 130 .eql 86 .u8 9,
 yM 129 130]
def q3kr36:yW:=[
 yM 132 8,
 yO 133 132,
 yF 134 1 133,
 yR 135 false 1 134,
 yF 136 1 11,
 yR 137 false 1 136,
 yY 138 .i64 137,
 yJ 139 .rem 138 .i64 4,
 yg 140 35 135 139,
 yM 131 140,
 yE 141 0 131,
 yE 142 1 131,
 ⟨some 15,none,.ef,.alloc [(.int .i64 0),(.int .i64 0),(.str [])]⟩,
 yS 3 15 141,
 yM 16 142]
def q3kr37:yW:=[
 yM 132 8,
 yO 133 132,
 yF 134 1 133,
 yR 135 false 1 134,
 yF 136 1 11,
 yR 137 false 1 136,
 yY 138 .i64 137,
 yJ 139 .rem 138 .i64 4,
 ⟨some 15,none,.ef,.alloc [(.int .i64 0),(.int .i64 0),(.str [])]⟩,
 yg 140 35 135 139,
 yM 131 140,
 yE 141 0 131,
 yE 142 1 131,
 yS 3 15 141,
 yM 16 142]
@[go_sem] def zmk:List AIns:=[
 yM 143 6,
 yF 144 1 11,
 yL 145 false 1 144,
 yY 146 .i64 145,
 yJ 147 .rem 146 .i64 4,
 yD 148 24 143 147,
 yM 149 16,
 yB 150 .eql 148 149,
 yM 14 150]
def zc8:ACode:=.seq (.reg2 q3kr36 q3kr37) (.reg zmk)
def q3kr40:yW:=[
 yJ 152 .eql 86 .u8 10,
 yM 151 152]
@[go_sem] def zfg:List AIns:=[
 yM 153 6,
 yF 154 1 11,
 yR 155 false 1 154,
 yY 156 .i64 155,
 yJ 157 .rem 156 .i64 4,
 yg 158 25 153 157,
 yM 159 8,
 yO 160 159,
 yF 161 1 160,
 yR 162 false 1 161,
 yF 163 1 11,
 yR 164 false 1 163,
 yY 165 .i64 164,
 yJ 166 .rem 165 .i64 4,
 yD 167 36 162 166,
 yB 168 .eql 158 167,
 yM 14 168]
def q3kr42:yW:=[
 yJ 170 .eql 86 .u8 11,
 yM 169 170]
def q3kr43:yW:=[
 yM 172 6,
 yM 173 12,
 yM 174 13,
 yc 175 20 172 173 174,
 yM 171 175,
 yE 176 0 171,
 yE 177 1 171,
 yM 17 176,
 yM 18 177]
def q3kc46:yX:=yq [yM 179 8,yM 180 12,yM 181 13,yc 182 37 179 180 181,yM 178 182,yE 183 0 178,yE 184 1 178,yM 19 183,yM 20 184] (.reg [yM 185 17,yM 186 19,yB 187 .eql 185 186,yM 188 187,yV 189 188 true 18,yV 190 188 true 20,yG 191 188 true (.bin .eql .none (.t 189) (.t 190)),yQ 192 188 191,yM 14 192])
def zc9:ACode:=.seq (.reg q3kr43) q3kc46
def q3kr48:yW:=[
 yJ 194 .eql 86 .u8 12,
 yM 193 194]
@[go_sem] def zfh:List AIns:=[
 yM 195 6,
 yM 196 12,
 yF 197 7 11,
 yR 198 true 36 197,
 ⟨some 199,none,.ef,.call (.v (.fn 21 [])) [(.t 195),(.t 196),(.t 198)]⟩,
 yM 200 8,
 yM 201 12,
 yF 202 7 11,
 yR 203 true 36 202,
 yc 204 38 200 201 203,
 yB 205 .eql 199 204,
 yM 14 205]
def q3kr50:yW:=[
 yJ 207 .eql 86 .u8 13,
 yM 206 207]
def q3kr51:yW:=[
 yM 209 6,
 yF 210 43 11,
 yA 211 2 1 210 0,
 yL 212 false 1 211,
 yF 213 43 11,
 yA 214 2 1 213 1,
 yL 215 false 1 214,
 yc 216 20 209 212 215,
 yM 208 216,
 yE 217 0 208,
 yE 218 1 208,
 yM 21 217,
 yM 22 218]
def q3kr52:yW:=[
 yM 220 8,
 yF 221 43 11,
 yA 222 2 1 221 0,
 yL 223 false 1 222,
 yF 224 43 11,
 yA 225 2 1 224 1,
 yL 226 false 1 225,
 yc 227 37 220 223 226,
 yM 219 227,
 yE 228 0 219,
 yE 229 1 219,
 yM 23 228,
 yM 24 229]
@[go_sem] def zfi:List AIns:=[
 yM 230 21,
 yM 231 23,
 yB 232 .eql 230 231,
 yM 233 232,
 yV 234 233 true 22,
 yV 235 233 true 24,
 yG 236 233 true (.bin .eql .none (.t 234) (.t 235)),
 yQ 237 233 236,
 yM 238 237,
 yV 239 238 true 6,
 yT 240 238 true 43 11,
 yG 241 238 true (.iaArr 2 1 (.t 240) (.v (.int .i64 0))),
 ⟨some 242,some (238,true),.rd,.load false 1 (.t 241)⟩,
 yT 243 238 true 43 11,
 yG 244 238 true (.iaArr 2 1 (.t 243) (.v (.int .i64 1))),
 ⟨some 245,some (238,true),.rd,.load false 1 (.t 244)⟩,
 ⟨some 246,some (238,true),.ef,.call (.v (.fn 22 [])) [(.t 239),(.t 242),(.t 245)]⟩,
 yV 247 238 true 8,
 yT 248 238 true 43 11,
 yG 249 238 true (.iaArr 2 1 (.t 248) (.v (.int .i64 0))),
 ⟨some 250,some (238,true),.rd,.load false 1 (.t 249)⟩,
 yT 251 238 true 43 11,
 yG 252 238 true (.iaArr 2 1 (.t 251) (.v (.int .i64 1))),
 ⟨some 253,some (238,true),.rd,.load false 1 (.t 252)⟩,
 yG 254 238 true (.call (.v (.fn 33 [])) [(.t 247),(.t 250),(.t 253)]),
 yG 255 238 true (.bin .eql .none (.t 246) (.t 254)),
 yQ 256 238 255,
 yM 257 256,
 yV 258 257 true 6,
 yT 259 257 true 43 11,
 yG 260 257 true (.iaArr 2 1 (.t 259) (.v (.int .i64 0))),
 ⟨some 261,some (257,true),.rd,.load false 1 (.t 260)⟩,
 ⟨some 262,some (257,true),.ef,.call (.v (.fn 23 [])) [(.t 258),(.t 261)]⟩,
 yV 263 257 true 8,
 yT 264 257 true 43 11,
 yG 265 257 true (.iaArr 2 1 (.t 264) (.v (.int .i64 0))),
 ⟨some 266,some (257,true),.rd,.load false 1 (.t 265)⟩,
 yG 267 257 true (.call (.v (.fn 34 [])) [(.t 263),(.t 266)]),
 yG 268 257 true (.bin .eql .none (.t 262) (.t 267)),
 yQ 269 257 268,
 yM 270 269,
 yV 271 270 true 6,
 yT 272 270 true 43 11,
 yG 273 270 true (.iaArr 2 1 (.t 272) (.v (.int .i64 0))),
 ⟨some 274,some (270,true),.rd,.load false 1 (.t 273)⟩,
 yT 275 270 true 7 11,
 ⟨some 276,some (270,true),.rd,.load true 36 (.t 275)⟩,
 ⟨some 277,some (270,true),.ef,.call (.v (.fn 21 [])) [(.t 271),(.t 274),(.t 276)]⟩,
 yV 278 270 true 8,
 yT 279 270 true 43 11,
 yG 280 270 true (.iaArr 2 1 (.t 279) (.v (.int .i64 0))),
 ⟨some 281,some (270,true),.rd,.load false 1 (.t 280)⟩,
 yT 282 270 true 7 11,
 ⟨some 283,some (270,true),.rd,.load true 36 (.t 282)⟩,
 yG 284 270 true (.call (.v (.fn 38 [])) [(.t 278),(.t 281),(.t 283)]),
 yG 285 270 true (.bin .eql .none (.t 277) (.t 284)),
 yQ 286 270 285,
 yM 14 286]
def zm4:ACode:=.seq (.reg q3kr52) (.reg zfi)
def zca:ACode:=.seq (.reg q3kr51) zm4
def q3kr56:yW:=[
 yF 87 3 11,
 yL 88 true 4 87,
 yM 89 5,
 yD 90 12 88 89,
 yI 25 (.alloc zZ1),
 yS 36 25 90]
def q3kr57:yW:=[
 yM 91 6,
 yM 92 12,
 yR 93 true 36 25,
 ⟨some 94,none,.ef,.call (.v (.fn 21 [])) [(.t 91),(.t 92),(.t 93)]⟩,
 yM 95 8,
 yM 96 12,
 yR 97 true 36 25,
 yc 98 38 95 96 97,
 yB 99 .eql 94 98,
 yM 14 99]
def zcb:ACode:=.seq (.reg q3kr56) (.reg q3kr57)
def zm5:ACode:=.cond (.t 206) zca zcb
def zm6:ACode:=.seq (.reg q3kr50) zm5
def zm7:ACode:=.cond (.t 193) (.reg zfh) zm6
def zm8:ACode:=.seq (.reg q3kr48) zm7
def zm9:ACode:=.cond (.t 169) zc9 zm8
def zma:ACode:=.seq (.reg q3kr42) zm9
def zmb:ACode:=.cond (.t 151) (.reg zfg) zma
def zmc:ACode:=.seq (.reg q3kr40) zmb
def zmd:ACode:=.cond (.t 129) zc8 zmc
def zme:ACode:=.seq (.reg q3kr35) zmd
def zmf:ACode:=.cond (.t 112) (.reg zff) zme
def zmg:ACode:=.seq q3kc33 zmf
def zmh:ACode:=.cond (.t 100) (.reg zfe) zmg
def zmi:ACode:=.seq q3kc25 zmh
def zmj:ACode:=.block 2 zmi
def zcc:ACode:=.seq (.reg q3kr21) zmj
def q3kr75:yW:=[
 yM 287 14,
 yu 288 287,
 yM 289 288,
 yV 290 289 false 6,
 ⟨some 291,some (289,false),.ef,.call (.v (.fn 26 [])) [(.t 290)]⟩,
 yV 292 289 false 8,
 yG 293 289 false (.nilc (.t 292)),
 yT 294 289 false 1 293,
 ⟨some 295,some (289,false),.rd,.load false 1 (.t 294)⟩,
 yG 296 289 false (.nilc (.t 295)),
 yT 297 289 false 1 296,
 ⟨some 298,some (289,false),.rd,.load false 1 (.t 297)⟩,
 yG 299 289 false (.lenSl (.t 298)),
 yG 300 289 false (.bin .neq .none (.t 291) (.t 299)),
 yP 301 289 300]
def q3kc79:yX:=yq q3kr75 (.cond (.t 301) (yq [yb 4 false] .ret) .skip)
def q3kc94:yX:=yq [yK 26 .i64 0] (.block 3 (.loop (.seq (yq [yM 302 26,yM 303 0,yB 304 .lss 302 303] (.cond (.t 304) .skip (.exit 3))) (.seq (.block 4 (yq [yM 307 6,yM 308 26,yg 309 27 307 308,yM 310 8,yO 311 310,yF 312 0 311,yR 313 false 1 312,yM 314 26,yN 315 1 313 314,yR 316 false 1 315,yD 317 16 309 316,yu 318 317] (.cond (.t 318) (yq [yb 4 false] .ret) .skip))) (.reg [yM 305 26,yJ 306 .add 305 .i64 1,yM 26 306])))))
def zcd:ACode:=.seq q3kc79 q3kc94
def q3kc98:yX:=yq [yF 72 1 11,yR 73 false 1 72,yY 74 .i64 73,yM 75 0,yJ 76 .add 75 .i64 1,yB 77 .rem 74 76,yF 78 2 11,yR 79 false 1 78,yY 80 .i64 79,yM 81 0,yJ 82 .add 81 .i64 1,yB 83 .rem 80 82,yM 12 77,yM 13 83] (yq [yb 14 true] (.seq zcc zcd))
def zce:ACode:=.seq (.reg q3kr18) q3kc98
@[go_sem] def zyu:List AIns:=[
 yM 66 10,
 yJ 67 .add 66 .i64 1,
 yM 10 67]
def zyi:ACode:=.seq (.block 1 zce) (.reg zyu)
def zyj:ACode:=.seq q3kc17 zyi
def zyk:ACode:=.loop zyj
def zyl:ACode:=.block 0 zyk
def zym:ACode:=.seq (.reg q3kr14) zyl
@[go_sem] def zyv:List AIns:=[
 yM 319 6,
 yI 320 (.call (.v (.fn 27 [])) [(.t 319),(.v (.int .i64 (-1)))]),
 yI 321 (.bin .eql .ptr (.t 320) (.v .nilp)),
 yM 322 321,
 yV 323 322 true 6,
 yV 324 322 true 0,
 yG 325 322 true (.call (.v (.fn 27 [])) [(.t 323),(.t 324)]),
 yG 326 322 true (.bin .eql .ptr (.t 325) (.v .nilp)),
 yQ 327 322 326,
 yM 328 327,
 yG 329 328 true (.call (.v (.fn 19 [])) []),
 yQ 330 328 329,
 yM 4 330]
def zyn:ACode:=.seq (.reg zyv) .ret
def zc7:ACode:=.seq zym zyn
def zyo:ACode:=.seq q3kc13 zc7
def zyp:ACode:=.seq (.reg q3kr8) zyo
def zyq:ACode:=.seq (.reg q3kr7) zyp
def zyr:ACode:=.seq (.reg q3kr6) zyq
def zys:ACode:=.seq q3kc5 zyr
def zyt:ACode:=.seq (.reg q3kr0) zys
attribute [go_sem] q3kr0 q3kr6 q3kr7 q3kr8 q3kr14 q3kr18 q3kr21 q3kr35 q3kr36 q3kr37 q3kr40 q3kr42 q3kr43 q3kr48 q3kr50 q3kr51 q3kr52 q3kr56 q3kr57 q3kr75
theorem q3kok:cFn TC 7=some (331,[.t 4],zyt):=by kernel_rfl
def q3lr5:yW:=[
 yM 12 0,
 yM 13 5,
 yN 14 45 12 13,
 yF 15 7 14,
 yF 16 33 15,
 yF 17 1 16,
 yL 18 false 1 17,
 yI 19 (.lenStr (.t 18)),
 yJ 20 .gtr 19 .i64 17000,
 yM 21 20,
 yV 22 21 false 0,
 yV 23 21 false 5,
 yG 24 21 false (.iaSl 45 (.t 22) (.t 23)),
 yT 25 21 false 7 24,
 yT 26 21 false 33 25,
 yT 27 21 false 2 26,
 yU 28 21 false false 1 27,
 yG 29 21 false (.lenSl (.t 28)),
 yG 30 21 false (.bin .gtr .none (.t 29) (.v (.int .i64 10))),
 yP 31 21 30]
def q3lc19:yX:=yq [yb 4 false] (.seq (yq [yK 5 .i64 0] (.block 0 (.loop (.seq (yq [yM 6 5,yM 7 0,yZ 8 7,yB 9 .lss 6 8] (.cond (.t 9) .skip (.exit 0))) (.seq (.block 1 (yq q3lr5 (.cond (.t 31) (yq [yb 4 true] .ret) .skip))) (.reg [yM 10 5,yJ 11 .add 10 .i64 1,yM 5 11])))))) (yq [yM 32 0,yZ 33 32,yM 34 1,yB 35 .gtr 33 34,yM 4 35] .ret))
attribute [go_sem] q3lr5
theorem q3lok:cFn TC 18=some (36,[.t 4],q3lc19):=by kernel_rfl
def q3mr4:yW:=[
 yM 19 3,
 yJ 20 .neq 19 .i64 0,
 yM 21 20,
 yV 22 21 false 2,
 yU 23 21 false true 36 4,
 yG 24 21 false (.call (.v (.fn 21 [])) [(.t 22),(.v (.int .i64 0)),(.t 23)]),
 yG 25 21 false (.bin .neq .none (.t 24) (.v (.int .i64 2))),
 yP 26 21 25,
 yM 27 26,
 yV 28 27 false 2,
 yG 29 27 false (.call (.v (.fn 22 [])) [(.t 28),(.v (.int .i64 1)),(.v (.int .i64 0))]),
 yG 30 27 false (.bin .neq .none (.t 29) (.v (.int .i64 0))),
 yP 31 27 30,
 yM 32 31,
 yV 33 32 false 2,
 yG 34 32 false (.call (.v (.fn 23 [])) [(.t 33),(.v (.int .i64 0))]),
 yG 35 32 false (.bin .neq .none (.t 34) (.v (.int .i64 0))),
 yP 36 32 35,
 yM 37 36,
 yV 38 37 false 2,
 yG 39 37 false (.call (.v (.fn 23 [])) [(.t 38),(.v (.int .i64 0))]),
 yG 40 37 false (.bin .neq .none (.t 39) (.v (.int .i64 0))),
 yP 41 37 40,
 yM 42 41,
 yV 43 42 false 2,
 ⟨some 44,some (42,false),.ef,.call (.v (.fn 27 [])) [(.t 43),(.v (.int .i64 1))]⟩,
 yT 45 42 false 0 4,
 ⟨some 46,some (42,false),.rd,.load true 33 (.t 45)⟩,
 yG 47 42 false (.call (.v (.fn 30 [])) [(.t 44),(.t 46)]),
 yG 48 42 false (.un .not (.t 47)),
 yP 49 42 48,
 yM 50 49,
 yV 51 50 false 2,
 yG 52 50 false (.call (.v (.fn 26 [])) [(.t 51)]),
 yG 53 50 false (.bin .neq .none (.t 52) (.v (.int .i64 0))),
 yP 54 50 53]
def q3mr11:yW:=[
 yM 65 5,
 yJ 66 .eql 65 .i64 4,
 yM 67 66,
 yV 68 67 true 6,
 yG 69 67 true (.bin .eql .none (.t 68) (.v (.int .i64 0))),
 yQ 70 67 69,
 yM 71 70,
 yV 72 71 true 7,
 yG 73 71 true (.bin .eql .none (.t 72) (.v (.int .i64 2))),
 yQ 74 71 73,
 yM 75 74,
 yV 76 75 true 8,
 yG 77 75 true (.bin .eql .none (.t 76) (.v (.int .i64 0))),
 yQ 78 75 77,
 yM 79 78,
 yV 80 79 true 2,
 ⟨some 81,some (79,true),.ef,.call (.v (.fn 27 [])) [(.t 80),(.v (.int .i64 2))]⟩,
 yT 82 79 true 0 4,
 ⟨some 83,some (79,true),.rd,.load true 33 (.t 82)⟩,
 yG 84 79 true (.call (.v (.fn 30 [])) [(.t 81),(.t 83)]),
 yQ 85 79 84,
 yM 0 85]
def q3mc16:yX:=yq [yI 16 (.build [(.int .u8 0),(.int .u8 0),(.int .u8 0),(.int .u8 0)] [(3,1,(.v (.int .u8 1)))]),yM 17 1,yD 18 12 16 17,yI 4 (.alloc zZ1),yS 36 4 18] (.seq (yq q3mr4 (.cond (.t 54) (yq [yb 0 false] .ret) .skip)) (yq [yM 56 2,yI 57 (.call (.v (.fn 20 [])) [(.t 56),(.v (.int .i64 1)),(.v (.int .i64 2))]),yM 55 57,yE 58 0 55,yE 59 1 55,yM 5 58,yM 6 59] (yq [yM 61 2,yI 62 (.call (.v (.fn 20 [])) [(.t 61),(.v (.int .i64 1)),(.v (.int .i64 2))]),yM 60 62,yE 63 0 60,yE 64 1 60,yM 7 63,yM 8 64] (yq q3mr11 .ret))))
def q3mc19:yX:=yq [yb 0 false] (yq [yI 9 (.call (.v (.fn 9 [])) [(.v (.str [107]))]),yM 1 9] (yq [yM 11 1,yC 12 11 11,yI 13 (.call (.v (.fn 28 [])) [(.t 12),(.v (.int .i64 3))]),yM 10 13,yE 14 0 10,yE 15 1 10,yM 2 14,yM 3 15] q3mc16))
attribute [go_sem] q3mr4 q3mr11
theorem q3mok:cFn TC 19=some (86,[.t 0],q3mc19):=by kernel_rfl
def q3nc9:yX:=.cond (.t 8) (yq [yK 6 .i64 0,yK 7 .i64 1] .ret) (yq [yM 12 0,yM 13 1,yD 14 63 12 13,yu 15 14,yM 16 15,yV 17 16 false 0,yV 18 16 false 2,yG 19 16 false (.call (.v (.fn 63 [])) [(.t 17),(.t 18)]),yG 20 16 false (.un .not (.t 19)),yP 21 16 20,yM 22 21,yV 23 22 false 1,yV 24 22 false 2,yG 25 22 false (.bin .eql .none (.t 23) (.t 24)),yP 26 22 25,yM 11 26] (.cond (.t 11) (yq [yK 6 .i64 0,yK 7 .i64 2] .ret) .skip))
def q3nc14:yX:=yq [yK 6 .i64 0,yK 7 .i64 0] (.seq (.block 0 (yq [yM 9 0,yC 10 62 9,yM 8 10] q3nc9)) (yq [yM 27 0,yM 28 1,yM 29 2,yc 30 64 27 28 29,yM 31 0,yM 32 2,yM 33 1,yc 34 64 31 32 33,yB 35 .add 30 34,yM 6 35,yK 7 .i64 0] .ret))
theorem q3nok:cFn TC 20=some (36,[.t 6,.t 7],q3nc14):=by kernel_rfl
def q3oc9:yX:=yq [yx 5 2,yK 6 .i64 0] (.seq (yq [yM 7 0,yM 8 1,yD 9 63 7 8,yu 10 9] (.cond (.t 10) (yq [yK 6 .i64 0] .ret) .skip)) (yq [yM 11 0,yO 12 11,yF 13 0 12,yR 14 false 1 13,yM 15 1,yN 16 1 14 15,yR 17 false 1 16,yR 18 true 36 5,yD 19 14 17 18,yM 6 19] .ret))
theorem q3ook:cFn TC 21=some (20,[.t 6],q3oc9):=by kernel_rfl
def q3pc10:yX:=yq [yM 10 0,yC 11 62 10,yM 9 11] (.cond (.t 9) (yq [yK 6 .i64 1] .ret) (yq [yM 13 0,yM 14 1,yD 15 63 13 14,yu 16 15,yM 17 16,yV 18 17 false 0,yV 19 17 false 2,yG 20 17 false (.call (.v (.fn 63 [])) [(.t 18),(.t 19)]),yG 21 17 false (.un .not (.t 20)),yP 22 17 21,yM 23 22,yV 24 23 false 1,yV 25 23 false 2,yG 26 23 false (.bin .eql .none (.t 24) (.t 25)),yP 27 23 26,yM 12 27] (.cond (.t 12) (yq [yK 6 .i64 2] .ret) .skip)))
def q3pc20:yX:=yq [yM 29 0,yO 30 29,yF 31 0 30,yL 32 false 1 31,yM 33 1,yN 34 1 32 33,yL 35 false 1 34,yC 36 29 35,yC 37 65 36,yM 28 37,yE 38 0 28,yE 39 1 28,yM 7 38,yM 8 39] (.seq (yq [yM 40 8,yJ 41 .neq 40 .i64 0] (.cond (.t 41) (yq [yM 42 8,yM 6 42] .ret) .skip)) (yq [yM 43 0,yO 44 43,yF 45 1 44,yL 46 false 1 45,yM 47 1,yM 48 2,yM 49 7,yI 50 (.build [(.int .i64 0),(.int .i64 0),(.str [])] [(0,1,(.t 47)),(1,1,(.t 48)),(2,1,(.t 49))]),yD 51 66 46 50,yM 6 51] .ret))
def q3pc22:yX:=yq [yK 6 .i64 0] (.seq (.block 0 q3pc10) q3pc20)
theorem q3pok:cFn TC 22=some (52,[.t 6],q3pc22):=by kernel_rfl
def q3qc16:yX:=yq [yK 4 .i64 0] (.seq (yq [yM 7 0,yC 8 62 7] (.cond (.t 8) (yq [yK 4 .i64 1] .ret) .skip)) (yq [yM 10 0,yO 11 10,yF 12 1 11,yL 13 false 1 12,yM 14 1,yD 15 67 13 14,yM 9 15,yE 16 0 9,yE 17 1 9,yI 5 (.alloc [(.int .i64 0),(.int .i64 0),(.str [])]),yS 3 5 16,yM 6 17] (.seq (yq [yM 18 6,yJ 19 .eql 18 .i64 0] (.cond (.t 19) (.reg [yM 20 0,yL 21 true 3 5,yD 22 68 20 21]) .skip)) (yq [yM 23 6,yM 4 23] .ret))))
theorem q3qok:cFn TC 23=some (24,[.t 4],q3qc16):=by kernel_rfl
def q3rc9:yX:=yq [yK 4 .i64 0] (.seq (yq [yM 5 0,yC 6 62 5] (.cond (.t 6) (yq [yK 4 .i64 1] .ret) .skip)) (yq [yM 7 0,yO 8 7,yF 9 1 8,yL 10 false 1 9,yM 11 1,yD 12 69 10 11,yM 4 12] .ret))
theorem q3rok:cFn TC 24=some (13,[.t 4],q3rc9):=by kernel_rfl
def q3sc9:yX:=yq [yK 4 .i64 0] (.seq (yq [yM 5 0,yC 6 62 5] (.cond (.t 6) (yq [yK 4 .i64 1] .ret) .skip)) (yq [yM 7 0,yO 8 7,yF 9 1 8,yL 10 false 1 9,yM 11 1,yD 12 70 10 11,yM 4 12] .ret))
theorem q3sok:cFn TC 25=some (13,[.t 4],q3sc9):=by kernel_rfl
def q3tc9:yX:=yq [yK 2 .i64 0] (.seq (yq [yM 3 0,yC 4 62 3] (.cond (.t 4) (yq [yK 2 .i64 0] .ret) .skip)) (yq [yM 5 0,yO 6 5,yF 7 1 6,yL 8 false 1 7,yC 9 71 8,yZ 10 9,yM 2 10] .ret))
theorem q3tok:cFn TC 26=some (11,[.t 2],q3tc9):=by kernel_rfl
def q3uc9:yX:=yq [yI 4 (.mv (.v .nilp))] (.seq (yq [yM 5 0,yM 6 1,yD 7 63 5 6,yu 8 7] (.cond (.t 8) (yq [yI 4 (.mv (.v .nilp))] .ret) .skip)) (yq [yM 9 0,yO 10 9,yF 11 0 10,yL 12 false 1 11,yM 13 1,yN 14 1 12 13,yL 15 false 1 14,yC 16 13 15,yM 4 16] .ret))
theorem q3uok:cFn TC 27=some (17,[.t 4],q3uc9):=by kernel_rfl
def q3vc26:yX:=yq [yM 23 6,yI 24 (.build [.nilsl,.nilp] [(1,1,(.t 23))]),yx 25 24,yM 8 25] (.seq (yq [yM 26 1,yK 27 .i64 0] (.block 0 (.loop (yq [yB 28 .lss 27 26] (.seq (.cond (.t 28) .skip (.exit 0)) (.seq (.block 1 (.reg [yM 29 8,yM 30 8,yO 31 30,yF 32 0 31,yR 33 false 1 32,yR 34 true 32 2,yf 35 10 34,yI 36 (.lit 1 [(.t 35)]),yI 37 (.app 1 (.t 33) (.t 36)),yO 38 29,yF 39 0 38,yS 1 39 37])) (.reg [yJ 40 .add 27 .i64 1,yM 27 40]))))))) (yq [yM 41 8,yM 4 41,yK 5 .i64 0] .ret))
def q3vc30:yX:=yq [yx 2 0,yI 4 (.mv (.v .nilp)),yK 5 .i64 0] (.seq (yq [yM 9 1,yJ 10 .lss 9 .i64 2,yM 11 10,yV 12 11 false 1,yG 13 11 false (.bin .gtr .none (.t 12) (.v (.int .i64 8))),yP 14 11 13] (.cond (.t 14) (yq [yI 4 (.mv (.v .nilp)),yK 5 .i64 2] .ret) .skip)) (yq [yM 16 1,yC 17 72 16,yM 15 17,yE 18 0 15,yE 19 1 15,yM 6 18,yM 7 19] (.seq (yq [yM 20 7,yJ 21 .neq 20 .i64 0] (.cond (.t 21) (yq [yM 22 7,yI 4 (.mv (.v .nilp)),yM 5 22] .ret) .skip)) q3vc26)))
theorem q3vok:cFn TC 28=some (42,[.t 4,.t 5],q3vc30):=by kernel_rfl
def q3wr17:yW:=[
 yM 32 8,
 yM 33 8,
 yO 34 33,
 yF 35 0 34,
 yR 36 false 1 35,
 yR 37 true 32 2,
 yI 38 (.build [(.int .u8 0),(.int .u8 0),(.int .u8 0),(.int .u8 0),(.int .u8 0),(.int .u8 0),(.int .u8 0),(.int .u8 0),(.int .u8 0),(.int .u8 0),(.int .u8 0),(.int .u8 0),(.int .u8 0),(.int .u8 0),(.int .u8 0),(.int .u8 0),(.int .u8 0),(.int .u8 0),(.int .u8 0),(.int .u8 0),(.int .u8 0),(.int .u8 0),(.int .u8 0),(.int .u8 0),(.int .u8 0),(.int .u8 0),(.int .u8 0),(.int .u8 0),(.int .u8 0),(.int .u8 0),(.int .u8 0),(.int .u8 0),.nilsl] [(0,32,(.t 37))]),
 ⟨some 39,none,.ef,.box (.t 38)⟩,
 yI 40 (.lit 1 [(.t 39)]),
 yI 41 (.app 1 (.t 36) (.t 40)),
 yO 42 32,
 yF 43 0 42,
 yS 1 43 41]
def q3wc28:yX:=.seq (yq [yM 21 7,yJ 22 .neq 21 .i64 0] (.cond (.t 22) (yq [yM 23 7,yI 4 (.mv (.v .nilp)),yM 5 23] .ret) .skip)) (yq [yM 24 6,yI 25 (.build [.nilsl,.nilp] [(1,1,(.t 24))]),yx 26 25,yM 8 26] (.seq (yq [yK 9 .i64 0] (.block 0 (.loop (.seq (yq [yM 27 9,yM 28 1,yB 29 .lss 27 28] (.cond (.t 29) .skip (.exit 0))) (.seq (.block 1 (.reg q3wr17)) (.reg [yM 30 9,yJ 31 .add 30 .i64 1,yM 9 31])))))) (yq [yM 44 8,yM 4 44,yK 5 .i64 0] .ret)))
def q3wc31:yX:=yq [yx 2 0,yI 4 (.mv (.v .nilp)),yK 5 .i64 0] (.seq (yq [yM 10 1,yJ 11 .lss 10 .i64 2,yM 12 11,yV 13 12 false 1,yG 14 12 false (.bin .gtr .none (.t 13) (.v (.int .i64 8))),yP 15 12 14] (.cond (.t 15) (yq [yI 4 (.mv (.v .nilp)),yK 5 .i64 2] .ret) .skip)) (yq [yM 17 1,yC 18 73 17,yM 16 18,yE 19 0 16,yE 20 1 16,yM 6 19,yM 7 20] q3wc28))
attribute [go_sem] q3wr17
theorem q3wok:cFn TC 32=some (45,[.t 4,.t 5],q3wc31):=by kernel_rfl
def q3xc10:yX:=.seq (yq [yM 9 0,yM 10 1,yM 11 2,yc 12 74 9 10 11,yu 13 12] (.cond (.t 13) (yq [yK 6 .i64 2] .ret) .skip)) (yq [yM 15 0,yO 16 15,yF 17 0 16,yL 18 false 1 17,yM 19 1,yN 20 1 18 19,yL 21 false 1 20,yC 22 59 21,yC 23 75 22,yM 14 23,yE 24 0 14,yE 25 1 14,yM 7 24,yM 8 25] (yq [yM 26 0,yO 27 26,yF 28 1 27,yL 29 false 1 28,yM 30 1,yM 31 2,yM 32 7,yI 33 (.build [(.int .i64 0),(.int .i64 0),(.str [])] [(0,1,(.t 30)),(1,1,(.t 31)),(2,1,(.t 32))]),yD 34 76 29 33,yM 6 34] .ret))
def q3xc11:yX:=yq [yK 6 .i64 0] q3xc10
theorem q3xok:cFn TC 33=some (35,[.t 6],q3xc11):=by kernel_rfl
def q3yc15:yX:=.seq (yq [yM 32 9,yM 33 7,yZ 34 33,yB 35 .lss 32 34,yM 36 35,yV 37 36 true 8,yG 38 36 true (.bin .eql .none (.t 37) (.v (.int .i64 0))),yQ 39 36 38] (.cond (.t 39) .skip (.exit 0))) (.seq (.block 1 (.reg [yM 42 0,yO 43 42,yF 44 0 43,yR 45 false 1 44,yF 46 1 5,yR 47 false 1 46,yN 48 1 45 47,yR 49 false 1 48,yM 50 7,yM 51 9,yN 52 36 50 51,yR 53 true 36 52,yD 54 15 49 53])) (.reg [yM 40 9,yJ 41 .add 40 .i64 1,yM 9 41]))
def q3yc26:yX:=yq [yM 64 0,yO 65 64,yF 66 0 65,yR 67 false 1 66,yF 68 1 5,yR 69 false 1 68,yN 70 1 67 69,yL 71 false 1 70,yO 72 71,yF 73 32 72,yL 74 false 1 73,yM 75 10,yD 76 80 74 75,yC 77 79 76,yM 63 77,yE 78 0 63,yE 79 1 63,yM 12 78,yM 13 79] (yq [yM 80 13,yJ 81 .eql 80 .i64 0] (.cond (.t 81) (.reg [yM 82 0,yO 83 82,yF 84 1 83,yR 85 false 1 84,yF 86 1 5,yR 87 false 1 86,yF 88 0 5,yR 89 false 1 88,yM 90 12,yI 91 (.build [(.int .i64 0),(.int .i64 0),(.str [])] [(0,1,(.t 87)),(1,1,(.t 89)),(2,1,(.t 90))]),yD 92 76 85 91]) .skip))
def q3yc35:yX:=.seq (yq [yM 23 6,yJ 24 .neq 23 .i64 0] (.cond (.t 24) (yq [yM 25 6,yM 4 25] .ret) .skip)) (yq [yF 27 2 5,yL 28 false 1 27,yC 29 77 28,yM 26 29,yE 30 0 26,yE 31 1 26,yM 7 30,yM 8 31] (.seq (yq [yK 9 .i64 0] (.block 0 (.loop q3yc15))) (yq [yF 56 2 5,yL 57 false 1 56,yC 58 78 57,yM 55 58,yE 59 0 55,yE 60 1 55,yM 10 59,yM 11 60] (.seq (yq [yM 61 11,yJ 62 .eql 61 .i64 0] (.cond (.t 62) q3yc26 .skip)) (yq [yK 4 .i64 0] .ret)))))
def q3yc37:yX:=yq [yK 4 .i64 0] (yq [yM 15 0,yO 16 15,yF 17 1 16,yL 18 false 1 17,yM 19 1,yD 20 35 18 19,yM 14 20,yE 21 0 14,yE 22 1 14,yI 5 (.alloc [(.int .i64 0),(.int .i64 0),(.str [])]),yS 3 5 21,yM 6 22] q3yc35)
theorem q3yok:cFn TC 34=some (93,[.t 4],q3yc37):=by kernel_rfl
def q3zc11:yX:=yq [yK 6 .i64 0,yK 7 .i64 0] (.seq (yq [yM 9 0,yM 10 1,yM 11 2,yc 12 74 9 10 11,yu 13 12] (.cond (.t 13) (yq [yK 6 .i64 0,yK 7 .i64 2] .ret) .skip)) (yq [yM 14 0,yM 15 1,yM 16 2,yc 17 81 14 15 16,yM 8 17] (yq [yM 18 8,yM 19 0,yM 20 2,yM 21 1,yc 22 81 19 20 21,yB 23 .add 18 22,yM 6 23,yK 7 .i64 0] .ret)))
theorem q3zok:cFn TC 37=some (24,[.t 6,.t 7],q3zc11):=by kernel_rfl
def q40c8:yX:=.seq (yq [yM 7 1,yJ 8 .lss 7 .i64 0,yM 9 8,yV 10 9 false 1,yV 11 9 false 0,yG 12 9 false (.nilc (.t 11)),yT 13 9 false 0 12,yU 14 9 false false 1 13,yG 15 9 false (.lenSl (.t 14)),yG 16 9 false (.bin .geq .none (.t 10) (.t 15)),yP 17 9 16] (.cond (.t 17) (yq [yK 6 .i64 0] .ret) .skip)) (yq [yM 18 0,yO 19 18,yF 20 0 19,yR 21 false 1 20,yM 22 1,yN 23 1 21 22,yR 24 false 1 23,yR 25 true 36 5,yD 26 15 24 25,yM 6 26] .ret)
def q40c9:yX:=yq [yx 5 2,yK 6 .i64 0] q40c8
theorem q40ok:cFn TC 38=some (27,[.t 6],q40c9):=by kernel_rfl
def q41c3:yX:=yq [yb 2 false] (yq [yM 3 0,yI 4 (.bin .eql .ptr (.t 3) (.v .nilp)),yM 5 4,yV 6 5 false 0,yG 7 5 false (.nilc (.t 6)),yT 8 5 false 0 7,yU 9 5 false false 1 8,yG 10 5 false (.lenSl (.t 9)),yG 11 5 false (.bin .eql .none (.t 10) (.v (.int .i64 0))),yP 12 5 11,yM 2 12] .ret)
theorem q41ok:cFn TC 62=some (13,[.t 2],q41c3):=by kernel_rfl
def q42c3:yX:=yq [yb 4 false] (yq [yM 5 0,yI 6 (.bin .neq .ptr (.t 5) (.v .nilp)),yM 7 6,yV 8 7 true 1,yG 9 7 true (.bin .geq .none (.t 8) (.v (.int .i64 0))),yQ 10 7 9,yM 11 10,yV 12 11 true 1,yV 13 11 true 0,yG 14 11 true (.nilc (.t 13)),yT 15 11 true 0 14,yU 16 11 true false 1 15,yG 17 11 true (.lenSl (.t 16)),yG 18 11 true (.bin .lss .none (.t 12) (.t 17)),yQ 19 11 18,yM 4 19] .ret)
theorem q42ok:cFn TC 63=some (20,[.t 4],q42c3):=by kernel_rfl
def q43c10:yX:=yq [yN 36 36 32 34,yL 37 true 36 36,yI 11 (.alloc zZ1),yS 36 11 37] (yq [yM 38 0,yO 39 38,yF 40 0 39,yR 41 false 1 40,yM 42 1,yN 43 1 41 42,yR 44 false 1 43,yR 45 true 36 11,yD 46 14 44 45,yM 12 46] (.reg [yM 47 9,yM 48 47,yV 49 48 false 12,yG 50 48 false (.bin .eql .none (.t 49) (.v (.int .i64 2))),yP 51 48 50,yM 52 51,yV 53 52 false 12,yG 54 52 false (.bin .eql .none (.t 53) (.v (.int .i64 3))),yP 55 52 54,yM 9 55]))
def q43c30:yX:=yq [yb 9 false] (.seq (yq [yM 32 8,yZ 33 32,yK 34 .i64 0] (.block 2 (.loop (yq [yB 35 .lss 34 33] (.seq (.cond (.t 35) .skip (.exit 2)) (.seq (.block 3 q43c10) (.reg [yJ 56 .add 34 .i64 1,yM 34 56]))))))) (.seq (yq [yM 57 8,yZ 58 57,yJ 59 .eql 58 .i64 0] (.cond (.t 59) (yq [yM 60 7,yM 6 60] .ret) .skip)) (yq [yM 61 9,yu 62 61] (.cond (.t 62) (yq [yM 63 7,yJ 64 .add 63 .i64 1,yM 6 64] .ret) .skip))))
def q43c37:yX:=yq [yK 6 .i64 0] (yq [yK 7 .i64 1] (.block 0 (.loop (.seq (.block 1 (yq [yM 15 0,yO 16 15,yF 17 0 16,yR 18 false 1 17,yM 19 2,yN 20 1 18 19,yR 21 false 1 20,yf 22 46 21,yM 23 0,yO 24 23,yF 25 0 24,yR 26 false 1 25,yM 27 1,yN 28 1 26 27,yR 29 false 1 28,yC 30 29 29,yD 31 108 22 30,yM 8 31] q43c30)) (.reg [yM 13 7,yJ 14 .add 13 .i64 2,yM 7 14])))))
theorem q43ok:cFn TC 64=some (65,[.t 6],q43c37):=by kernel_rfl
def q44c16:yX:=.cond (.t 19) (.seq (yq [yM 20 4,yZ 21 20,yK 22 .i64 0] (.block 0 (.loop (yq [yB 23 .lss 22 21] (.seq (.cond (.t 23) .skip (.exit 0)) (.seq (.block 1 (yq [yN 24 36 20 22,yL 25 true 36 24,yI 7 (.alloc zZ1),yS 36 7 25] (.reg [yM 26 0,yO 27 26,yF 28 0 27,yR 29 false 1 28,yF 30 1 3,yR 31 false 1 30,yN 32 1 29 31,yR 33 false 1 32,yR 34 true 36 7,yD 35 14 33 34]))) (.reg [yJ 36 .add 22 .i64 1,yM 22 36]))))))) .ret) .skip
def q44c28:yX:=yq [yM 46 0,yO 47 46,yF 48 0 47,yR 49 false 1 48,yF 50 1 3,yR 51 false 1 50,yN 52 1 49 51,yL 53 false 1 52,yC 54 46 53,yM 55 8,yD 56 108 54 55,yC 57 116 56,yM 45 57,yE 58 0 45,yE 59 1 45,yM 10 58,yM 11 59] (yq [yM 60 11,yJ 61 .eql 60 .i64 0] (.cond (.t 61) (.reg [yM 62 0,yO 63 62,yF 64 1 63,yR 65 false 1 64,yF 66 1 3,yR 67 false 1 66,yF 68 0 3,yR 69 false 1 68,yM 70 10,yI 71 (.build [(.int .i64 0),(.int .i64 0),(.str [])] [(0,1,(.t 67)),(1,1,(.t 69)),(2,1,(.t 70))]),yD 72 66 65 71]) .skip))
def q44c32:yX:=yq [yx 3 1] (.seq (yq [yF 13 2 3,yL 14 false 1 13,yC 15 114 14,yM 12 15,yE 16 0 12,yE 17 1 12,yM 4 16,yM 5 17] (yq [yM 18 5,yJ 19 .eql 18 .i64 0] q44c16)) (yq [yF 38 2 3,yL 39 false 1 38,yC 40 115 39,yM 37 40,yE 41 0 37,yE 42 1 37,yM 8 41,yM 9 42] (.seq (yq [yM 43 9,yJ 44 .neq 43 .i64 0] (.cond (.t 44) .ret .skip)) q44c28)))
theorem zfj:cFn TC 68=some (73,[],q44c32):=by kernel_rfl
def q45r1:yW:=[
 yM 7 1,
 yJ 8 .geq 7 .i64 0,
 yM 9 8,
 yV 10 9 true 1,
 yV 11 9 true 0,
 yG 12 9 true (.nilc (.t 11)),
 yT 13 9 true 0 12,
 yU 14 9 true false 1 13,
 yG 15 9 true (.lenSl (.t 14)),
 yG 16 9 true (.bin .lss .none (.t 10) (.t 15)),
 yQ 17 9 16,
 yM 18 17,
 yV 19 18 true 2,
 yG 20 18 true (.bin .geq .none (.t 19) (.v (.int .i64 0))),
 yQ 21 18 20,
 yM 22 21,
 yV 23 22 true 2,
 yV 24 22 true 0,
 yG 25 22 true (.nilc (.t 24)),
 yT 26 22 true 0 25,
 yU 27 22 true false 1 26,
 yG 28 22 true (.lenSl (.t 27)),
 yG 29 22 true (.bin .lss .none (.t 23) (.t 28)),
 yQ 30 22 29,
 yM 31 30,
 yV 32 31 true 1,
 yV 33 31 true 2,
 yG 34 31 true (.bin .neq .none (.t 32) (.t 33)),
 yQ 35 31 34,
 yM 6 35]
def q45c3:yX:=yq [yb 6 false] (yq q45r1 .ret)
attribute [go_sem] q45r1
theorem q45ok:cFn TC 74=some (36,[.t 6],q45c3):=by kernel_rfl
def q46c19:yX:=.seq (.block 3 (yq [yM 45 0,yO 46 45,yF 47 0 46,yR 48 false 1 47,yM 49 1,yN 50 1 48 49,yR 51 false 1 50,yM 52 8,yM 53 10,yN 54 36 52 53,yR 55 true 36 54,yD 56 15 51 55,yM 11 56] (.reg [yM 57 9,yM 58 57,yV 59 58 false 11,yG 60 58 false (.bin .eql .none (.t 59) (.v (.int .i64 2))),yP 61 58 60,yM 62 61,yV 63 62 false 11,yG 64 62 false (.bin .eql .none (.t 63) (.v (.int .i64 3))),yP 65 62 64,yM 9 65]))) (.reg [yM 43 10,yJ 44 .add 43 .i64 1,yM 10 44])
def q46c33:yX:=yq [yM 14 0,yO 15 14,yF 16 0 15,yR 17 false 1 16,yM 18 2,yN 19 1 17 18,yR 20 false 1 19,yO 21 20,yF 22 32 21,yR 23 false 1 22,yM 24 0,yO 25 24,yF 26 0 25,yR 27 false 1 26,yM 28 1,yN 29 1 27 28,yR 30 false 1 29,yf 31 59 30,yD 32 80 23 31,yM 8 32] (.seq (yq [yM 33 8,yZ 34 33,yJ 35 .eql 34 .i64 0] (.cond (.t 35) (yq [yM 36 7,yM 6 36] .ret) .skip)) (yq [yM 37 7,yJ 38 .add 37 .i64 1,yM 7 38] (yq [yb 9 false] (.seq (yq [yK 10 .i64 0] (.block 2 (.loop (.seq (yq [yM 39 10,yM 40 8,yZ 41 40,yB 42 .lss 39 41] (.cond (.t 42) .skip (.exit 2))) q46c19)))) (yq [yM 66 9,yu 67 66] (.cond (.t 67) (yq [yM 68 7,yM 6 68] .ret) .skip))))))
def q46c39:yX:=yq [yK 6 .i64 0] (yq [yK 7 .i64 0] (.block 0 (.loop (.block 1 (yq [yM 12 7,yJ 13 .add 12 .i64 1,yM 7 13] q46c33)))))
theorem q46ok:cFn TC 81=some (69,[.t 6],q46c39):=by kernel_rfl
end
section
abbrev NH:=Int × Hash
def knP(l:List NH):List (List AV):=l.map fun p=> .int .i64 p.1::hc p.2
theorem zm(l:List NH):(knP l).length=l.length:=by simp [knP]
theorem zbk{l:List NH}(h:i<l.length):(knP l)[i]? =some (.int .i64 l[i].1::hc l[i].2):=by simp [knP,List.getElem?_eq_getElem h]
theorem zbl(P:List Hdr):kn P=knP (hns P):=by simp [kn,knP,hns]
def nhS(p:NH):List UInt8:=numS p.1.toNat++p.2.1
def z1y(l:List NH):List UInt8:=(l.map nhS).flatten
def knS(l:List NH):List UInt8:=68::(numS l.length++z1y l)
def nhOk(p:NH):Bool:=decide (0<=p.1/\ p.1<=4096)
theorem zlc{l:List NH}(h:i<l.length):z1y (l.take (i+1))=z1y (l.take i)++nhS l[i]:=by
 unfold z1y;rw [List.take_succ_eq_append_getElem h,List.map_append,List.flatten_append];simp
theorem zld(p:NH):(nhS p).length<=43:=by
 unfold nhS;have:=z1u p.1.toNat;have:=p.2.2;rw [List.length_append];omega
theorem nhS_ne(p:NH):nhS p ≠ []:=fun e=>by
 have h1:(nhS p).length=0:=by rw [e];rfl
 have h2:=p.2.2
 unfold nhS at h1
 rw [List.length_append]at h1
 omega
theorem z4r:∀l:List NH,(z1y l).length<=43*l.length
 | []=>by simp [z1y]
 |p::l=>by
  have:=z4r l
  have h:=zld p
  unfold z1y at this ⊢
  simp only [List.map_cons,List.flatten_cons,List.length_append,List.length_cons]
  omega
def z4g(l:List NH):AV:=if l.length<=64/\ l.all nhOk=true then .tup [.str (knS l),.int .i64 0]else .tup [.str [],.int .i64 2]
attribute [local irreducible] ACallsTo ACallsP
theorem lW:(∀(h:Hash),(hc h).length=32)/\ (∀(n:Int) (r:Hash) (i:Int) (s:List UInt8) (x:AV),(sgC n r i s x).length=36)/\ (∀(h:Hdr),(hdrC h).length=36)/\ (∀(H:List Hdr),(hdrs H).length=H.length)/\ (∀(P:List Hdr),(kn P).length=P.length)/\ (∀(l:List NH),(knP l).length=l.length)/\ (∀{α:Type}{i:Nat}{l:List α},(l.take i).length=min i l.length)/\ (∀{α:Type}{i:Nat}{l:List α},(l.drop i).length=l.length-i)/\ (∀{α:Type}{n:Nat}{a:α},(List.replicate n a).length=n):=⟨@z8,@zg,@zi,@zh,@zj,@zm,by simp,by simp,by simp⟩
theorem ztv(O:Store)(p:NH):ACallsTo TC 110 [.agg (.int .i64 p.1::hc p.2)] O (.bool (nhOk p)) O:=by
 unfold nhOk
 refine ACallsTo.of_body q3bok (by simp) fun hw _=> ?_
 by_cases h1:0<=p.1
 ·rw [show decide (0<=p.1/\ p.1<=4096)=decide (p.1<=4096)from decide_eq_decide.2 ⟨fun h=>h.2,fun h=>⟨h1,h⟩⟩]
  have h1':p.1>=0:=h1
  repeat' (first|apply zA rfl|(apply zd_ rfl<;>intro ht<;>try omega)|((first|apply zB rfl|(apply zG<;>intro ht))<;>try simp (disch:=first|omega|simp only [lz,lW];try omega) only [go_sem,h1']))
  exact DownV.pure hw z1k
 ·rw [decide_eq_false fun h=>h1 h.1]
  have h1':¬p.1>=0:=h1
  repeat' (first|apply zA rfl|(apply zd_ rfl<;>intro ht<;>try omega)|((first|apply zB rfl|(apply zG<;>intro ht))<;>try simp (disch:=first|omega|simp only [lz,lW];try omega) only [go_sem,h1']))
  exact DownV.pure hw z1k
theorem zpv(O:Store)(l:List NH)(x:AV)(hx:SlV 33 (knP l) x)(hl:l.length<=64)(hok:∀p ∈ l,nhOk p=true):ACallsTo TC 65 [x] O (.tup [.str (knS l),.int .i64 0]) O:=by
 have r1:=hx.len
 rw [zm]at r1
 unfold z1f at r1
 have hN:=fun O=>z6h O l.length (by omega)
 have hNl:=z1u l.length
 have h64:¬(l.length:Int)>64:=by omega
 unfold knS
 generalize numS l.length=N at*
 refine ACallsTo.of_body q34ok (by simp) fun hw _=> ?_
 have b0:BldN O (O++ [some [[.bld O.length,.bnil]]]) O.length []:=BldN.new (Nat.le_refl _) (by simp)
 obtain⟨O1,w1,b1⟩:=b0.write (t:=68::N) (by simp) (by simp;omega)
 rw [List.nil_append]at b1
 repeat' (first|apply zA rfl|(apply zd_ rfl<;>intro ht<;>try omega)|((first|apply zB rfl|(apply callW.mk_pu;(first|exact(fun _=>hN _)|exact(fun _=>w1)))|(apply callW.za;(first|exact(hN _)|exact(w1)))|(apply zG<;>intro ht))<;>try simp (disch:=first|omega|simp only [lz,lW];try omega) only [go_sem,r1,h64,List.cons_append,List.nil_append]))
 refine zW.loop (fun m J O'=>∃i:Nat,m+i=l.length/\ BldN O O' O.length (68::N++z1y (l.take i))/\ J 4=.ptr O.length 0 0/\ J 16=x/\ J 17=.int .i64 l.length/\ J 18=.int .i64 i) l.length ?_ ?_
 ·exact⟨0,by omega,by simpa [z1y]using b1,by simp only [go_sem],by simp only [go_sem],by simp only [go_sem],by simp only [go_sem];try rfl⟩
 ·clear w1 b1 b0
  rintro m J O' ⟨i,hm,hB,q4,q16,q17,q18⟩
  have hcl:=z4r (l.take i)
  rw [List.length_take]at hcl
  by_cases hi:i<l.length
  ·obtain⟨e1,rfl⟩:=hx.vsl (by rw [zm];omega)
   have gi:=zbk hi
   have sl:=zm l
   have hst:=zlc hi
   have hk:=hok l[i] (List.getElem_mem hi)
   have hM:=fun O=>ztv O l[i]
   rw [hk]at hM
   have hne:=nhS_ne l[i]
   have hnl:=zld l[i]
   generalize l[i]=p at*
   obtain⟨n,r⟩:=p
   obtain⟨k1,k2⟩:=of_decide_eq_true hk
   dsimp only at k1 k2 gi hM
   obtain⟨K,rfl⟩:∃K:Nat,n=K:=⟨n.toNat,by omega⟩
   have hK:=fun O=>z6h O K (by omega)
   have kl:=z1u K
   have r32:=r.2
   have hH:=fun O=>z55 O r
   have hs:nhS ((K:Int),r)=numS K++r.1:=rfl
   rw [hs]at hst hne hnl
   have rl:=z8 r
   obtain⟨O2,w2,b2⟩:=(hB.more [some [.int .i64 K::hc r]]).write (t:=numS K++r.1) hne (by simp only [List.length_append,List.length_cons]at hnl ⊢;omega)
   repeat' (first|apply zA rfl|(apply zd_ rfl<;>intro ht<;>try omega)|((first|apply zB rfl|(apply callW.mk_pu;(first|exact(fun _=>hM _)|exact(fun _=>hK _)|exact(fun _=>hH _)|exact(fun _=>w2)))|(apply callW.za;(first|exact(hM _)|exact(hK _)|exact(hH _)|exact(w2)))|(apply zG<;>intro ht))<;>try simp (disch:=first|omega|simp only [lz,lW];try omega) only [go_sem,q4,q16,q17,q18,gi,rl]))
   refine⟨m-1,by omega,i+1,by omega,?_,by simp⟩
   rw [hst,<-List.append_assoc];exact b2
  ·have e:l.take i=l:=List.take_of_length_le (by omega)
   rw [e]at hB
   have hcl2:=z4r l
   obtain⟨news,w3⟩:=hB.string (by simp) (by simp only [List.length_append,List.length_cons];omega)
   have hi':¬(i:Int)<l.length:=by omega
   repeat' (first|apply zA rfl|(apply zd_ rfl<;>intro ht<;>try omega)|((first|apply zB rfl|(apply callW.mk_pu;exact(fun _=>w3))|(apply callW.za;exact(w3))|(apply zG<;>intro ht))<;>try simp (disch:=first|omega|simp only [lz,lW];try omega) only [go_sem,q4,q17,q18,hi']))
   exact DownV.pure hw (by simp [RL,RLs])
theorem zmo(O:Store)(l:List NH)(x:AV)(hx:SlV 33 (knP l) x)(hl:l.length<1000000):ACallsTo TC 75 [x] O (z4g l) O:=by
 have r1:=hx.len
 rw [zm]at r1
 unfold z1f at r1
 unfold z4g
 refine ACallsTo.of_body q35ok (by simp) fun hw _=> ?_
 by_cases h64:l.length<=64
 ·have h64':¬(l.length:Int)>64:=by omega
  have hN:=fun O=>z62 O l.length (by omega)
  have hNl:=z1u l.length
  unfold knS
  generalize numS l.length=N at*
  repeat' (first|apply zA rfl|(apply zd_ rfl<;>intro ht<;>try omega)|((first|apply zB rfl|(apply callW.mk_pu;exact(fun _=>hN _))|(apply callW.za;exact(hN _))|(apply zG<;>intro ht))<;>try simp (disch:=first|omega|simp only [lz,lW];try omega) only [go_sem,r1,h64',List.cons_append,List.nil_append]))
  refine zW.loop (fun m J O'=>∃i:Nat,m+i=l.length/\ O'=O/\ (l.take i).all nhOk=true/\ J 0=x/\ J 4=.str (68::N++z1y (l.take i))/\ J 5=.int .i64 i) l.length ?_ ?_
  ·exact⟨0,by omega,rfl,by simp,by simp only [go_sem],by rw [show z1y (l.take 0)=[]from rfl,List.append_nil];simp (disch:=first|omega|simp only [lz,lW];try omega) only [go_sem],by simp only [go_sem];try rfl⟩
  ·rintro m J O' ⟨i,hm,rfl,hA,q0,q4,q5⟩
   have hcl:=z4r (l.take i)
   rw [List.length_take]at hcl
   by_cases hi:i<l.length
   ·obtain⟨e1,rfl⟩:=hx.vsl (by rw [zm];omega)
    have gi:=zbk hi
    have sl:=zm l
    have hst:=zlc hi
    have htk:l.take (i+1)=l.take i++ [l[i]]:=List.take_succ_eq_append_getElem hi
    by_cases hk:nhOk l[i]=true
    ·have hA2:(l.take (i+1)).all nhOk=true:=by rw [htk,List.all_append,hA];simp [hk]
     generalize l[i]=p at*
     obtain⟨n,r⟩:=p
     obtain⟨k1,k2⟩:=of_decide_eq_true hk
     dsimp only at k1 k2 gi
     obtain⟨K,rfl⟩:∃K:Nat,n=K:=⟨n.toNat,by omega⟩
     have hK:=fun O=>z62 O K (by omega)
     have kl:=z1u K
     have r32:=r.2
     have hH:=fun O=>zn6 O r
     have hs:nhS ((K:Int),r)=numS K++r.1:=rfl
     rw [hs,<-List.append_assoc]at hst
     have rl:=z8 r
     have k3:¬(K:Int)<0:=by omega
     have k4:¬(K:Int)>4096:=by omega
     repeat' (first|apply zA rfl|(apply zd_ rfl<;>intro ht<;>try omega)|((first|apply zB rfl|(apply callW.mk_pu;(first|exact(fun _=>hK _)|exact(fun _=>hH _)))|(apply callW.za;(first|exact(hK _)|exact(hH _)))|(apply zG<;>intro ht))<;>try simp (disch:=first|omega|simp only [lz,lW];try omega) only [go_sem,q0,q4,q5,gi,sl,rl,k3,k4]))
     exact⟨m-1,by omega,i+1,by omega,hA2,by rw [hst];simp⟩
    ·have hall:¬(l.length<=64/\ l.all nhOk=true):=fun h=>hk (List.all_eq_true.1 h.2 _ (List.getElem_mem hi))
     rw [if_neg hall]
     have hk2:l[i].1<0 \/l[i].1>4096:=by
      have:¬(0<=l[i].1/\ l[i].1<=4096):=fun h=>hk (decide_eq_true h)
      omega
     generalize l[i]=p at*
     obtain⟨n,r⟩:=p
     dsimp only at hk2 gi
     by_cases h1:n<0
     ·repeat' (first|apply zA rfl|(apply zd_ rfl<;>intro ht<;>try omega)|((first|apply zB rfl|(apply zG<;>intro ht))<;>try simp (disch:=first|omega|simp only [lz,lW];try omega) only [go_sem,q0,q5,gi,sl,h1]))
      refine DownV.same hw ?_
      simp [RL,RLs]
     ·have h2:n>4096:=by omega
      repeat' (first|apply zA rfl|(apply zd_ rfl<;>intro ht<;>try omega)|((first|apply zB rfl|(apply zG<;>intro ht))<;>try simp (disch:=first|omega|simp only [lz,lW];try omega) only [go_sem,q0,q5,gi,sl,h1,h2]))
      refine DownV.same hw ?_
      simp [RL,RLs]
   ·have e:l.take i=l:=List.take_of_length_le (by omega)
    rw [e]at q4 hA
    rw [if_pos ⟨h64,hA⟩]
    have hi':¬(i:Int)<l.length:=by omega
    repeat' (first|apply zA rfl|(apply zd_ rfl<;>intro ht<;>try omega)|((first|apply zB rfl|(apply zG<;>intro ht))<;>try simp (disch:=first|omega|simp only [lz,lW];try omega) only [go_sem,q0,q4,q5,r1,hi']))
    exact DownV.same hw (by simp [RL,RLs])
 ·rw [if_neg fun h=>h64 h.1]
  have h64':(l.length:Int)>64:=by omega
  repeat' (first|apply zA rfl|(apply zd_ rfl<;>intro ht<;>try omega)|((first|apply zB rfl|(apply zG<;>intro ht))<;>try simp (disch:=first|omega|simp only [lz,lW];try omega) only [go_sem,r1,h64']))
  exact DownV.same hw (by simp [RL,RLs])
end
section
def idxK(K:List NH)(p:NH):Int:=if p ∈ K then K.idxOf p else-1
theorem zuk{K:List NH}{p:NH}(hi:i<K.length)(h:K[i]=p)(hn:p ∉ K.take i):idxK K p=i:=by
 have hm:p ∈ K:=h ▸ List.getElem_mem hi
 have e:K=K.take i++p::K.drop (i+1):=by
  conv=>lhs;rw [<-List.take_append_drop i K,List.drop_eq_getElem_cons hi,h]
 have:K.idxOf p=i:=by
  rw [e,List.idxOf_append,if_neg hn,List.idxOf_cons_self,List.length_take];omega
 unfold idxK
 rw [if_pos hm,this]
theorem zul{K:List NH}{p:NH}(h:p ∉ K):idxK K p= -1:=if_neg h
theorem zum(K:List NH)(p:NH):decide (idxK K p>=0)=decide (p ∈ K):=by
 unfold idxK
 by_cases h:p ∈ K
 ·rw [if_pos h,decide_eq_true h];exact decide_eq_true (by omega)
 ·rw [if_neg h,decide_eq_false h];exact decide_eq_false (by omega)
theorem zop{K:List NH}{p:NH}(hi:i<K.length):p ∈ K.take (i+1) ↔ p ∈ K.take i \/K[i]=p:=by
 rw [List.take_succ_eq_append_getElem hi,List.mem_append,List.mem_singleton]
 exact or_congr_right eq_comm
def z3y(K:List NH)(q:Hdr):Bool:=valH q && !decide ((q.n,q.r) ∈ K)
def z1a(P:List Hdr)(K:List NH):List Hdr:=(P.filter (z3y K)).take 3
theorem z6w(P:List Hdr)(K:List NH):(z1a P K).length<=3:=by unfold z1a;rw [List.length_take];omega
theorem zl8{P:List Hdr}{K:List NH}(hi:i<P.length)(h:z3y K P[i]=false \/ ¬(z1a (P.take i) K).length<3):z1a (P.take (i+1)) K=z1a (P.take i) K:=by
 unfold z1a at h ⊢
 rw [List.take_succ_eq_append_getElem hi,List.filter_append]
 rcases h with h|h
 ·simp [List.filter,h]
 ·rw [List.length_take]at h
  rw [List.take_append_of_le_length (by omega)]
theorem zl9{P:List Hdr}{K:List NH}(hi:i<P.length)(h:z3y K P[i]=true)(h2:(z1a (P.take i) K).length<3):z1a (P.take (i+1)) K=z1a (P.take i) K++ [P[i]]:=by
 unfold z1a at h2 ⊢
 rw [List.take_succ_eq_append_getElem hi,List.filter_append]
 rw [List.length_take]at h2
 have h3:((P.take i).filter (z3y K)).length<3:=by omega
 have e:[P[i]].filter (z3y K)=[P[i]]:=by simp [List.filter,h]
 rw [e]
 generalize (P.take i).filter (z3y K)=A at*
 rw [List.take_of_length_le (l:=A) (by omega)]
 exact List.take_of_length_le (by rw [List.length_append,List.length_singleton];omega)
theorem z7w{P:List Hdr}{K:List NH}{q:Hdr}(h:q ∈ z1a P K):q ∈ P/\ valH q=true/\ (q.n,q.r) ∉ K:=by
 have h1:=List.mem_filter.1 (List.mem_of_mem_take h)
 refine⟨h1.1,?_⟩
 have:=h1.2
 unfold z3y at this
 simpa using this
theorem zee(u:Hdr):hdrs [u]=[hdrC u]:=rfl
attribute [local irreducible] ACallsTo ACallsP
theorem zpq(O:Store)(K:List NH)(p:NH)(x:AV)(hx:SlV 33 (knP K) x)(hl:K.length<1000000):
  ACallsTo TC 159 [x,.agg (.int .i64 p.1::hc p.2)] O (.int .i64 (idxK K p)) O:=by
 have r1:=hx.len
 rw [zm]at r1
 unfold z1f at r1
 have lp:=z8 p.2
 refine ACallsTo.of_body q3hok (by simp) fun hw _=> ?_
 repeat' (first|apply zA rfl|(apply zd_ rfl<;>intro ht<;>try omega)|((first|apply zB rfl|(apply zG<;>intro ht))<;>try simp (disch:=first|omega|simp only [lz,lW];try omega) only [go_sem,r1]))
 refine zW.loop (fun m J O'=>∃i:Nat,m+i=K.length/\ O'=O++ [some [.int .i64 p.1::hc p.2]]/\ p ∉ K.take i/\ J 0=x/\ J 3=.ptr O.length 0 0/\ J 7=.int .i64 K.length/\ J 8=.int .i64 i) K.length ?_ ?_
 ·exact⟨0,by omega,by simp only [go_sem],by simp,by simp only [go_sem],by simp only [go_sem],by simp only [go_sem],by simp only [go_sem];try rfl⟩
 ·rintro m J O' ⟨i,hm,rfl,hN,q0,q3,q7,q8⟩
  by_cases hi:i<K.length
  ·obtain⟨ex,rfl⟩:=hx.vsl (by rw [zm];omega)
   have ga:=zbk hi
   have la:=zm K
   have he:=z88 p.1 K[i].1 p.2 K[i].2
   have hka:=z8 K[i].2
   by_cases hh:K[i]=p
   ·rw [zuk hi hh hN]
    rw [decide_eq_true ⟨by rw [hh],by rw [hh]⟩]at he
    generalize K[i]=a at*
    repeat' (first|apply zA rfl|(apply zd_ rfl<;>intro ht<;>try omega)|((first|apply zB rfl|(apply zG<;>intro ht))<;>try simp (disch:=first|omega|simp only [lz,lW];try omega) only [go_sem,q0,q3,q7,q8,ga,he,hka,lp]))
    exact DownV.pure hw rl_i
   ·rw [decide_eq_false fun h=>hh (Prod.ext h.1.symm h.2.symm)]at he
    have hN2:p ∉ K.take (i+1):=fun h=>((zop hi).1 h).elim hN hh
    generalize K[i]=a at*
    repeat' (first|apply zA rfl|(apply zd_ rfl<;>intro ht<;>try omega)|((first|apply zB rfl|(apply zG<;>intro ht))<;>try simp (disch:=first|omega|simp only [lz,lW];try omega) only [go_sem,q0,q3,q7,q8,ga,he,hka,lp]))
    exact⟨m-1,by omega,i+1,by omega,hN2,by simp⟩
  ·rw [List.take_of_length_le (by omega)]at hN
   rw [zul hN]
   have hi':¬(i:Int)<K.length:=by omega
   repeat' (first|apply zA rfl|(apply zd_ rfl<;>intro ht<;>try omega)|((first|apply zB rfl|(apply zG<;>intro ht))<;>try simp (disch:=first|omega|simp only [lz,lW];try omega) only [go_sem,q7,q8,hi']))
   exact DownV.pure hw rl_i
theorem zpj(O:Store)(K:List NH)(p:NH)(x:AV)(hx:SlV 33 (knP K) x)(hl:K.length<1000000):
  ACallsTo TC 141 [x,.agg (.int .i64 p.1::hc p.2)] O (.bool (decide (p ∈ K))) O:=by
 have hI:=fun O=>zpq O K p x hx hl
 have lp:=z8 p.2
 have e:=zum K p
 refine ACallsTo.of_body q3fok (by simp) fun hw _=> ?_
 by_cases h:p ∈ K
 ·rw [decide_eq_true h]at e ⊢
  have e':=of_decide_eq_true e
  repeat' (first|apply zA rfl|(apply zd_ rfl<;>intro ht<;>try omega)|((first|apply zB rfl|(apply callW.mk_pu;exact(fun _=>hI _))|(apply callW.za;exact(hI _))|(apply zG<;>intro ht))<;>try simp (disch:=first|omega|simp only [lz,lW];try omega) only [go_sem,lp,e']))
  exact DownV.pure hw rl_b
 ·rw [decide_eq_false h]at e ⊢
  have e':=of_decide_eq_false e
  repeat' (first|apply zA rfl|(apply zd_ rfl<;>intro ht<;>try omega)|((first|apply zB rfl|(apply callW.mk_pu;exact(fun _=>hI _))|(apply callW.za;exact(hI _))|(apply zG<;>intro ht))<;>try simp (disch:=first|omega|simp only [lz,lW];try omega) only [go_sem,lp,e']))
  exact DownV.pure hw rl_b
theorem zhp(O:Store)(P:List Hdr)(K:List NH)(x y:AV)(hx:SlV 36 (hdrs P) x)(hy:SlV 33 (knP K) y)(hl:P.length<1000000)(hK:K.length<1000000)(hp:∀q ∈ P,q.p.length<1000000):
  ACallsTo TC 108 [x,y] O (zz 36 (hdrs (z1a P K))) O:=by
 have r1:=hx.len
 rw [zh]at r1
 unfold z1f at r1
 refine ACallsTo.of_body q3aok (by simp) fun hw _=> ?_
 repeat' (first|apply zA rfl|(apply zd_ rfl<;>intro ht<;>try omega)|((first|apply zB rfl|(apply zG<;>intro ht))<;>try simp (disch:=first|omega|simp only [lz,lW];try omega) only [go_sem,r1]))
 refine zW.loop (fun m J O'=>∃(i:Nat) (w:AV),m+i=P.length/\ OwnN 36 O O' w (hdrs (z1a (P.take i) K))/\ J 1=y/\ J 5=w/\ J 8=x/\ J 9=.int .i64 P.length/\ J 10=.int .i64 i) P.length ?_ ?_
 ·exact⟨0,.nilsl,by omega,⟨[],by simp,.inl ⟨rfl,rfl⟩⟩,by simp only [go_sem],by simp only [go_sem],by simp only [go_sem],by simp only [go_sem],by simp only [go_sem];try rfl⟩
 ·rintro m J O' ⟨i,w,hm,hO,q1,q5,q8,q9,q10⟩
  have hOl:=hO.len
  rw [zh]at hOl
  unfold z1f at hOl
  by_cases hi:i<P.length
  ·obtain⟨ex,rfl⟩:=hx.vsl (by rw [zh];omega)
   have hgi:=z2w hi
   have hdl:=zh P
   have hph:=hp P[i] (List.getElem_mem hi)
   have hno:=zl8 (K:=K) hi
   have hyes:=zl9 (K:=K) hi
   have hml:=z6w (P.take i) K
   have hV:=fun O=>z8m O P[i].n P[i].i P[i].r P[i].s P[i].p _ (.of (z1l 32 (hr P[i].p)))
   rw [show sgC P[i].n P[i].r P[i].i P[i].s (zz 32 (hr P[i].p))=hdrC P[i]from rfl,show z1w P[i].n P[i].i P[i].s P[i].p=valH P[i]from rfl]at hV
   have hC:=fun O=>zpj O K (P[i].n,P[i].r) y hy hK
   have hlk:z3y K P[i]=(valH P[i] && !decide ((P[i].n,P[i].r) ∈ K)):=rfl
   generalize P[i]=u at*
   have hcl:=zi u
   have hhd:=z6n u
   have ua:(hdrC u).take 36=hdrC u:=z30 u
   by_cases h3:(z1a (P.take i) K).length<3
   ·have h3':((z1a (P.take i) K).length:Int)<3:=by omega
    cases hv:valH u
    ·rw [hv]at hV hlk
     have e:=hno (.inl (by rw [hlk];rfl))
     repeat' (first|apply zA rfl|(apply zd_ rfl<;>intro ht<;>try omega)|((first|apply zB rfl|(apply callW.mk_pu;(first|exact(fun _=>hV _)|exact(fun _=>hC _)))|(apply callW.za;(first|exact(hV _)|exact(hC _)))|(apply zG<;>intro ht))<;>try simp (disch:=first|omega|simp only [lz,lW];try omega) only [go_sem,q1,q5,q8,q9,q10,hgi,hcl,ua,hOl,h3']))
     exact⟨m-1,by omega,i+1,w,by omega,by rw [e];exact hO.more _,by simp⟩
    ·rw [hv]at hV hlk
     by_cases hc:(u.n,u.r) ∈ K
     ·rw [decide_eq_true hc]at hC hlk
      have e:=hno (.inl (by rw [hlk];rfl))
      repeat' (first|apply zA rfl|(apply zd_ rfl<;>intro ht<;>try omega)|((first|apply zB rfl|(apply callW.mk_pu;(first|exact(fun _=>hV _)|exact(fun _=>hC _)))|(apply callW.za;(first|exact(hV _)|exact(hC _)))|(apply zG<;>intro ht))<;>try simp (disch:=first|omega|simp only [lz,lW];try omega) only [go_sem,q1,q5,q8,q9,q10,hgi,hcl,hhd,ua,hOl,h3']))
      exact⟨m-1,by omega,i+1,w,by omega,by rw [e];exact hO.more _,by simp⟩
     ·rw [decide_eq_false hc]at hC hlk
      have e:=hyes (by rw [hlk];rfl) h3
      have hCl:=fun O=>zhn O u.p (zz 32 (hr u.p)) (.of (z1l 32 (hr u.p))) hph
      rw [zbm]at hCl
      obtain⟨w',O2,ha,hO2⟩:=(hO.more [some [hdrC u]]).app (ys:=[hdrC u]) (by simp) (by rw [zh];simp;omega)
      rw [<-zee u,<-z9e,<-e]at hO2
      have hst:=fun x v=>zo4 u.n u.r u.i u.s x v
      have sl:=fun v=>zg u.n u.r u.i u.s v
      have xc:=(z1l 32 (hr u.p)).cells
      unfold cellsOf at xc
      rw [show hdrC u=sgC u.n u.r u.i u.s (zz 32 (hr u.p))from rfl]at hgi ha hV ua hhd
      generalize zz 32 (hr u.p)=xp at*
      repeat' (first|apply zA rfl|(apply zd_ rfl<;>intro ht<;>try omega)|((first|apply zB rfl|(apply callW.mk_pu;(first|exact(fun _=>hV _)|exact(fun _=>hC _)|exact(fun _=>hCl _)))|(apply callW.za;(first|exact(hV _)|exact(hC _)|exact(hCl _)))|(apply zG<;>intro ht))<;>try simp (disch:=first|omega|simp only [lz,lW];try omega) only [go_sem,q1,q5,q8,q9,q10,hgi,hhd,ua,hOl,h3',sl,hst,xc,ha]))
      exact⟨m-1,by omega,i+1,w',by omega,hO2,by simp⟩
   ·have h3':¬((z1a (P.take i) K).length:Int)<3:=by omega
    have e:=hno (.inr h3)
    repeat' (first|apply zA rfl|(apply zd_ rfl<;>intro ht<;>try omega)|((first|apply zB rfl|(apply zG<;>intro ht))<;>try simp (disch:=first|omega|simp only [lz,lW];try omega) only [go_sem,q1,q5,q8,q9,q10,hgi,hcl,ua,hOl,h3']))
    exact⟨m-1,by omega,i+1,w,by omega,by rw [e];exact hO.more _,by simp⟩
  ·obtain rfl:i=P.length:=by omega
   rw [List.take_of_length_le (Nat.le_refl _)]at hO
   repeat' (first|apply zA rfl|(apply zd_ rfl<;>intro ht<;>try omega)|((first|apply zB rfl|(apply zG<;>intro ht))<;>try simp (disch:=first|omega|simp only [lz,lW];try omega) only [go_sem,q5,q9,q10]))
   exact hO.froze hw (z66 _)
end
section
def inB(v:Bool)(p:NH)(A:List NH):Bool:=v && !decide (p ∈ A)
attribute [local irreducible] ACallsTo ACallsP
theorem zmn(O:Store)(P:List Hdr)(K:List NH)(sid:Option Nat)(x y:AV)(hx:RowAt 36 O sid x (hdrs P))(hy:SlV 33 (knP K) y)(hl:P.length<1000000)(hK:K.length<1000000):
  ACallsTo TC 80 [x,y] O (zz 36 (hdrs (z1a P K))) O:=by
 have r1:=hx.rd.len
 rw [zh]at r1
 unfold z1f at r1
 have r2:=hy.len
 rw [zm]at r2
 unfold z1f at r2
 refine ACallsTo.of_body q39ok (by simp) fun hw _=> ?_
 repeat' (first|apply zA rfl|(apply zd_ rfl<;>intro ht<;>try omega)|((first|apply zB rfl|(apply zG<;>intro ht))<;>try simp (disch:=first|omega|simp only [lz,lW];try omega) only [go_sem]))
 refine zW.loop (fun m J O'=>∃(i:Nat) (w:AV),m+i=P.length/\ OwnN 36 O O' w (hdrs (z1a (P.take i) K))/\ J 0=x/\ J 1=y/\ J 5=w/\ J 6=.int .i64 i) P.length ?_ ?_
 ·exact⟨0,.nilsl,by omega,⟨[],by simp,.inl ⟨rfl,rfl⟩⟩,by simp only [go_sem],by simp only [go_sem],by simp only [go_sem],by simp only [go_sem];try rfl⟩
 ·rintro m J O' ⟨i,w,hm,hO,q0,q1,q5,q6⟩
  have hOl:=hO.len
  rw [zh]at hOl
  unfold z1f at hOl
  have hml:=z6w (P.take i) K
  have hfin:∀(O':Store) (w:AV),OwnN 36 O O' w (hdrs (z1a P K))->DownV O.length w O' (zz 36 (hdrs (z1a P K))) O:=fun O' w h=>h.froze hw (z66 _)
  by_cases h3:(z1a (P.take i) K).length<3
  ·by_cases hi:i<P.length
   ·rcases hx with⟨_,h0,_⟩| ⟨q,_,hne,rfl,hq⟩
    ·have:=congrArg List.length h0;rw [zh]at this;simp at this;rw [this]at hi;simp at hi
    rw [zh]at q0 r1
    have dq:=slen hq
    have hgi:=z2w hi
    have hdl:=zh P
    have h3':((z1a (P.take i) K).length:Int)<3:=by omega
    obtain⟨news,hnews⟩:=hO.ext
    have hq':O'[q]? =some (some (hdrs P)):=by rw [hnews,gapp dq];exact hq
    have hno:=zl8 (K:=K) hi
    have hyes:=zl9 (K:=K) hi
    have hV:=fun O=>zg8 O P[i].n P[i].i P[i].r P[i].s P[i].p _ (.of (z1l 32 (hr P[i].p)))
    rw [show sgC P[i].n P[i].r P[i].i P[i].s (zz 32 (hr P[i].p))=hdrC P[i]from rfl,show z1w P[i].n P[i].i P[i].s P[i].p=valH P[i]from rfl]at hV
    have hlk:z3y K P[i]=(valH P[i] && !decide ((P[i].n,P[i].r) ∈ K)):=rfl
    generalize P[i]=u at*
    have hcl:=zi u
    have hhd:=z6n u
    have ua:(hdrC u).take 36=hdrC u:=z30 u
    have hi':(i:Int)<P.length:=by omega
    repeat' (first|apply zA rfl|(apply zd_ rfl<;>intro ht<;>try omega)|((first|apply zB rfl|(apply callW.mk_pu;exact(fun _=>hV _))|(apply callW.za;exact(hV _))|(apply zG<;>intro ht))<;>try simp (disch:=first|omega|simp only [lz,lW];try omega) only [go_sem,q0,q5,q6,hq',hgi,hdl,hcl,ua,hOl,h3',hi']))
    refine zW.loop (fun m J O2=>∃k:Nat,m+k=K.length/\ O2=O'/\ J 0=.sl q 0 P.length none 36/\ J 1=y/\ J 5=w/\ J 6=.int .i64 i/\ J 7=.bool (inB (valH u) (u.n,u.r) (K.take k))/\ J 8=.int .i64 k) K.length ?_ ?_
    ·exact⟨0,by omega,rfl,by simp only [go_sem,q0],by simp only [go_sem,q1],by simp only [go_sem,q5],by simp only [go_sem,q6],by rw [show inB (valH u) (u.n,u.r) (K.take 0)=valH u by simp [inB]];simp (disch:=first|omega|simp only [lz,lW];try omega) only [go_sem],by simp only [go_sem];try rfl⟩
    ·clear q0 q1 q5 q6
     rintro m2 J O2 ⟨k,hm2,rfl,q0,q1,q5,q6,q7,q8⟩
     by_cases hk:k<K.length
     ·obtain⟨ey,rfl⟩:=hy.vsl (by rw [zm];omega)
      have ga:=zbk hk
      have la:=zm K
      have he:=z88 K[k].1 u.n K[k].2 u.r
      have hka:=z8 K[k].2
      have htk:=zop (p:=(u.n,u.r)) hk
      cases hb:inB (valH u) (u.n,u.r) (K.take k)
      ·rw [hb]at q7
       have hb2:inB (valH u) (u.n,u.r) (K.take (k+1))=false:=by
        unfold inB at hb ⊢
        rcases Bool.and_eq_false_iff.1 hb with h|h
        ·rw [h];rfl
        ·have:(u.n,u.r) ∈ K.take k:=by simpa using h
         rw [decide_eq_true (htk.2 (.inl this))];simp
       repeat' (first|apply zA rfl|(apply zd_ rfl<;>intro ht<;>try omega)|((first|apply zB rfl|(apply zG<;>intro ht))<;>try simp (disch:=first|omega|simp only [lz,lW];try omega) only [go_sem,q0,q1,q5,q6,q7,q8,r2]))
       refine⟨m2-1,by omega,k+1,by omega,?_⟩
       rw [hb2];simp
      ·rw [hb]at q7
       unfold inB at hb
       obtain⟨hb1,hb3⟩:=Bool.and_eq_true_iff.1 hb
       have hb4:(u.n,u.r) ∉ K.take k:=by simpa using hb3
       by_cases hh:K[k]=(u.n,u.r)
       ·have e2:inB (valH u) (u.n,u.r) (K.take (k+1))=false:=by unfold inB;rw [decide_eq_true (htk.2 (.inr hh))];simp
        rw [decide_eq_true ⟨by rw [hh],by rw [hh]⟩]at he
        generalize K[k]=a at*
        repeat' (first|apply zA rfl|(apply zd_ rfl<;>intro ht<;>try omega)|((first|apply zB rfl|(apply zG<;>intro ht))<;>try simp (disch:=first|omega|simp only [lz,lW];try omega) only [go_sem,q0,q1,q5,q6,q7,q8,ga,la,he,hka,hq',hgi,hcl,hhd]))
        refine⟨m2-1,by omega,k+1,by omega,?_⟩
        rw [e2];simp
       ·have e2:inB (valH u) (u.n,u.r) (K.take (k+1))=true:=by
         unfold inB;rw [decide_eq_false fun h=>(htk.1 h).elim hb4 hh,hb1];rfl
        rw [decide_eq_false fun h=>hh (Prod.ext h.1 h.2)]at he
        generalize K[k]=a at*
        repeat' (first|apply zA rfl|(apply zd_ rfl<;>intro ht<;>try omega)|((first|apply zB rfl|(apply zG<;>intro ht))<;>try simp (disch:=first|omega|simp only [lz,lW];try omega) only [go_sem,q0,q1,q5,q6,q7,q8,ga,la,he,hka,hq',hgi,hcl,hhd]))
        refine⟨m2-1,by omega,k+1,by omega,?_⟩
        rw [e2];simp
     ·rw [List.take_of_length_le (by omega),show inB (valH u) (u.n,u.r) K=z3y K u from rfl]at q7
      have hk':¬(k:Int)<K.length:=by omega
      cases hb:z3y K u
      ·have e:=hno (.inl hb)
       rw [hb]at q7
       repeat' (first|apply zA rfl|(apply zd_ rfl<;>intro ht<;>try omega)|((first|apply zB rfl|(apply zG<;>intro ht))<;>try simp (disch:=first|omega|simp only [lz,lW];try omega) only [go_sem,q0,q1,q5,q6,q7,q8,r2,hk']))
       exact⟨m-1,by omega,i+1,w,by omega,by rw [e];exact hO,by simp⟩
      ·have e:=hyes hb h3
       rw [hb]at q7
       obtain⟨w',O2,ha,hO2⟩:=hO.app (ys:=[hdrC u]) (by simp) (by rw [zh];simp;omega)
       rw [<-zee u,<-z9e,<-e]at hO2
       repeat' (first|apply zA rfl|(apply zd_ rfl<;>intro ht<;>try omega)|((first|apply zB rfl|(apply zG<;>intro ht))<;>try simp (disch:=first|omega|simp only [lz,lW];try omega) only [go_sem,q0,q1,q5,q6,q7,q8,r2,hk',hq',hgi,hcl,ua,ha]))
       exact⟨m-1,by omega,i+1,w',by omega,hO2,by simp⟩
   ·obtain rfl:i=P.length:=by omega
    rw [List.take_of_length_le (Nat.le_refl _)]at hO
    repeat' (first|apply zA rfl|(apply zd_ rfl<;>intro ht<;>try omega)|((first|apply zB rfl|(apply zG<;>intro ht))<;>try simp (disch:=first|omega|simp only [lz,lW];try omega) only [go_sem,q0,q5,q6,r1]))
    exact hfin _ _ hO
  ·have h3':¬((z1a (P.take i) K).length:Int)<3:=by omega
   have hall:z1a P K=z1a (P.take i) K:=by
    unfold z1a at h3 ⊢
    rw [List.length_take]at h3
    conv=>lhs;rw [<-List.take_append_drop i P,List.filter_append]
    rw [List.take_append_of_le_length (by omega)]
   rw [<-hall]at hO
   by_cases hi:i<P.length
   ·have hi':(i:Int)<P.length:=by omega
    repeat' (first|apply zA rfl|(apply zd_ rfl<;>intro ht<;>try omega)|((first|apply zB rfl|(apply zG<;>intro ht))<;>try simp (disch:=first|omega|simp only [lz,lW];try omega) only [go_sem,q0,q5,q6,r1,hOl,h3',hi']))
    exact hfin _ _ hO
   ·have hi':¬(i:Int)<P.length:=by omega
    repeat' (first|apply zA rfl|(apply zd_ rfl<;>intro ht<;>try omega)|((first|apply zB rfl|(apply zG<;>intro ht))<;>try simp (disch:=first|omega|simp only [lz,lW];try omega) only [go_sem,q0,q5,q6,r1,hi']))
    exact hfin _ _ hO
end
section
theorem zbd{h:Hdr}(hv:valH h=true):(z23 (z2f h)).length<2000000:=by
 have h1:=z9o hv
 have h2:=z1u (z2f h).length
 unfold z23
 rw [List.length_append];omega
theorem zk9{h:Hdr}(hv:valH h=true):putV h.n h.i h.r h.s h.p=.tup [.str (z2f h),.int .i64 0]:=by
 unfold putV
 rw [if_pos (show z1w h.n h.i h.s h.p=true from hv)]
 rfl
def z21(P:List Hdr):List UInt8:=(P.map fun q=>z23 (z2f q)).flatten
def gtS(P:List Hdr):List UInt8:=71::(numS P.length++z21 P)
theorem zkd{P:List Hdr}(h:i<P.length):z21 (P.take (i+1))=z21 (P.take i)++z23 (z2f P[i]):=by
 unfold z21;rw [List.take_succ_eq_append_getElem h,List.map_append,List.flatten_append];simp
theorem z5s:∀{P:List Hdr},(∀q ∈ P,valH q=true)->(z21 P).length<=2000000*P.length
 | [],_=>by simp [z21]
 |q::P,h=>by
  have h1:=z5s (P:=P) fun q hq=>h q (List.mem_cons_of_mem _ hq)
  have h2:=zbd (h q (by simp))
  unfold z21 at h1 ⊢
  simp only [List.map_cons,List.flatten_cons,List.length_append,List.length_cons]
  omega
theorem z12s(s:List UInt8):z23 s ≠ []:=by unfold z23;simp [zlf]
def z3t(P:List Hdr):AV:=if P=[] \/P.all valH=false then .tup [.str [],.int .i64 2]else .tup [.str (gtS P),.int .i64 0]
theorem zc0:z3t []=.tup [.str [],.int .i64 2]:=if_pos (.inl rfl)
theorem zye{P:List Hdr}{q:Hdr}(h:q ∈ P)(hq:valH q=false):z3t P=.tup [.str [],.int .i64 2]:=if_pos (.inr (by
 cases e:P.all valH
 ·rfl
 ·rw [List.all_eq_true.1 e q h]at hq;cases hq))
theorem zc1{P:List Hdr}(h0:P ≠ [])(hv:∀q ∈ P,valH q=true):z3t P=.tup [.str (gtS P),.int .i64 0]:=if_neg fun h=>h.elim h0 fun h=>by
 rw [List.all_eq_true.2 hv]at h;cases h
attribute [local irreducible] ACallsTo ACallsP
theorem ztq(O:Store)(P:List Hdr)(x:AV)(hx:SlV 36 (hdrs P) x)(hl:P.length<=3)(hv:∀q ∈ P,valH q=true):ACallsTo TC 116 [x] O (z3t P) O:=by
 have r1:=hx.len
 rw [zh]at r1
 unfold z1f at r1
 refine ACallsTo.of_body q3eok (by simp) fun hw _=> ?_
 by_cases h0:P=[]
 ·rw [h0,zc0]
  have h0':P.length=0:=by rw [h0];rfl
  rw [h0']at r1
  repeat' (first|apply zA rfl|(apply zd_ rfl<;>intro ht<;>try omega)|((first|apply zB rfl|(apply zG<;>intro ht))<;>try simp (disch:=first|omega|simp only [lz,lW];try omega) only [go_sem,r1]))
  exact DownV.same hw (by simp [RL,RLs])
 ·rw [zc1 h0 hv]
  have hP0:0<P.length:=List.length_pos_iff.2 h0
  have hN:=fun O=>z6h O P.length (by omega)
  have hNl:=z1u P.length
  have h3:¬(P.length:Int)>3:=by omega
  have h1:((P.length:Int)==0)=false:=beq_eq_false_iff_ne.2 (by omega)
  unfold gtS
  generalize numS P.length=N at*
  have b0:BldN O (O++ [some [[.bld O.length,.bnil]]]) O.length []:=BldN.new (Nat.le_refl _) (by simp)
  obtain⟨O1,w1,b1⟩:=b0.write (t:=71::N) (by simp) (by simp;omega)
  rw [List.nil_append]at b1
  repeat' (first|apply zA rfl|(apply zd_ rfl<;>intro ht<;>try omega)|((first|apply zB rfl|(apply callW.mk_pu;(first|exact(fun _=>hN _)|exact(fun _=>w1)))|(apply callW.za;(first|exact(hN _)|exact(w1)))|(apply zG<;>intro ht))<;>try simp (disch:=first|omega|simp only [lz,lW];try omega) only [go_sem,r1,h3,h1,List.cons_append,List.nil_append]))
  refine zW.loop (fun m J O'=>∃i:Nat,m+i=P.length/\ BldN O O' O.length (71::N++z21 (P.take i))/\ J 4=.ptr O.length 0 0/\ J 23=x/\ J 24=.int .i64 P.length/\ J 25=.int .i64 i) P.length ?_ ?_
  ·exact⟨0,by omega,by simpa [z21]using b1,by simp only [go_sem],by simp only [go_sem],by simp only [go_sem],by simp only [go_sem];try rfl⟩
  ·clear w1 b1 b0
   rintro m J O' ⟨i,hm,hB,q4,q23,q24,q25⟩
   have hcl:=z5s (P:=P.take i) fun q hq=>hv q (List.mem_of_mem_take hq)
   rw [List.length_take]at hcl
   by_cases hi:i<P.length
   ·obtain⟨e1,rfl⟩:=hx.vsl (by rw [zh];omega)
    have gi:=z2w hi
    have sl:=zh P
    have hst:=zkd hi
    have hk:=hv P[i] (List.getElem_mem hi)
    have hM:=fun O=>Put_to O P[i].n P[i].i P[i].r P[i].s P[i].p _ (.of (z1l 32 (hr P[i].p)))
    rw [show sgC P[i].n P[i].r P[i].i P[i].s (zz 32 (hr P[i].p))=hdrC P[i]from rfl,zk9 hk]at hM
    generalize P[i]=u at*
    have hpl:=z9o hk
    have htl:=zbd hk
    have hT:=fun O=>zdu O (z2f u) (by omega)
    have hne:=z12s (z2f u)
    have hul:=zi u
    have ua:(hdrC u).take 36=hdrC u:=z30 u
    generalize z23 (z2f u)=T at*
    obtain⟨O2,w2,b2⟩:=(hB.more [some [hdrC u]]).write (t:=T) hne (by simp only [List.length_append,List.length_cons];omega)
    repeat' (first|apply zA rfl|(apply zd_ rfl<;>intro ht<;>try omega)|((first|apply zB rfl|(apply callW.mk_pu;(first|exact(fun _=>hM _)|exact(fun _=>hT _)|exact(fun _=>w2)))|(apply callW.za;(first|exact(hM _)|exact(hT _)|exact(w2)))|(apply zG<;>intro ht))<;>try simp (disch:=first|omega|simp only [lz,lW];try omega) only [go_sem,q4,q23,q24,q25,gi,hul,ua]))
    refine⟨m-1,by omega,i+1,by omega,?_,by simp⟩
    rw [hst,<-List.append_assoc];exact b2
   ·have e:P.take i=P:=List.take_of_length_le (by omega)
    rw [e]at hB
    have hcl2:=z5s hv
    obtain⟨news,w3⟩:=hB.string (by simp) (by simp only [List.length_append,List.length_cons];omega)
    have hi':¬(i:Int)<P.length:=by omega
    repeat' (first|apply zA rfl|(apply zd_ rfl<;>intro ht<;>try omega)|((first|apply zB rfl|(apply callW.mk_pu;exact(fun _=>w3))|(apply callW.za;exact(w3))|(apply zG<;>intro ht))<;>try simp (disch:=first|omega|simp only [lz,lW];try omega) only [go_sem,q4,q24,q25,hi']))
    exact DownV.pure hw (by simp [RL,RLs])
theorem zmp(O:Store)(P:List Hdr)(x:AV)(hx:SlV 36 (hdrs P) x)(hl:P.length<=3):ACallsTo TC 79 [x] O (z3t P) O:=by
 have r1:=hx.len
 rw [zh]at r1
 unfold z1f at r1
 refine ACallsTo.of_body q38ok (by simp) fun hw _=> ?_
 by_cases h0:P=[]
 ·rw [h0,zc0]
  have h0':P.length=0:=by rw [h0];rfl
  rw [h0']at r1
  repeat' (first|apply zA rfl|(apply zd_ rfl<;>intro ht<;>try omega)|((first|apply zB rfl|(apply zG<;>intro ht))<;>try simp (disch:=first|omega|simp only [lz,lW];try omega) only [go_sem,r1]))
  exact DownV.same hw (by simp [RL,RLs])
 ·have hP0:0<P.length:=List.length_pos_iff.2 h0
  have hN:=fun O=>z62 O P.length (by omega)
  have hNl:=z1u P.length
  have h3:¬(P.length:Int)>3:=by omega
  have h1:¬(P.length:Int)<1:=by omega
  have hfin:(∀q ∈ P,valH q=true)->z3t P=.tup [.str (71::numS P.length++z21 P),.int .i64 0]:=fun hv=>zc1 h0 hv
  generalize numS P.length=N at*
  repeat' (first|apply zA rfl|(apply zd_ rfl<;>intro ht<;>try omega)|((first|apply zB rfl|(apply callW.mk_pu;exact(fun _=>hN _))|(apply callW.za;exact(hN _))|(apply zG<;>intro ht))<;>try simp (disch:=first|omega|simp only [lz,lW];try omega) only [go_sem,r1,h3,h1,List.cons_append,List.nil_append]))
  refine zW.loop (fun m J O'=>∃i:Nat,m+i=P.length/\ O'=O/\ (∀q ∈ P.take i,valH q=true)/\ J 0=x/\ J 4=.str (71::N++z21 (P.take i))/\ J 5=.int .i64 i) P.length ?_ ?_
  ·exact⟨0,by omega,rfl,by simp,by simp only [go_sem],by rw [show z21 (P.take 0)=[]from rfl,List.append_nil];simp (disch:=first|omega|simp only [lz,lW];try omega) only [go_sem],by simp only [go_sem];try rfl⟩
  ·rintro m J O' ⟨i,hm,rfl,hA,q0,q4,q5⟩
   have hcl:=z5s hA
   rw [List.length_take]at hcl
   by_cases hi:i<P.length
   ·obtain⟨e1,rfl⟩:=hx.vsl (by rw [zh];omega)
    have gi:=z2w hi
    have sl:=zh P
    have hst:=zkd hi
    have hM:=fun O=>zn4 O P[i].n P[i].i P[i].r P[i].s P[i].p _ (.of (z1l 32 (hr P[i].p)))
    rw [show sgC P[i].n P[i].r P[i].i P[i].s (zz 32 (hr P[i].p))=hdrC P[i]from rfl]at hM
    have hi':(i:Int)<P.length:=by omega
    cases hk:valH P[i]
    ·rw [zye (List.getElem_mem hi) hk]
     rw [show putV P[i].n P[i].i P[i].r P[i].s P[i].p=.tup [.str [],.int .i64 2]from if_neg (fun h=>by rw [show z1w P[i].n P[i].i P[i].s P[i].p=false from hk]at h;cases h)]at hM
     generalize P[i]=u at*
     have hul:=zi u
     have ua:(hdrC u).take 36=hdrC u:=z30 u
     repeat' (first|apply zA rfl|(apply zd_ rfl<;>intro ht<;>try omega)|((first|apply zB rfl|(apply callW.mk_pu;exact(fun _=>hM _))|(apply callW.za;exact(hM _))|(apply zG<;>intro ht))<;>try simp (disch:=first|omega|simp only [lz,lW];try omega) only [go_sem,q0,q5,gi,sl,hul,ua,hi']))
     exact DownV.same hw (by simp [RL,RLs])
    have hA2:∀q ∈ P.take (i+1),valH q=true:=by
     rw [List.take_succ_eq_append_getElem hi]
     intro q hq
     rcases List.mem_append.1 hq with h|h
     ·exact hA q h
     ·rw [List.mem_singleton.1 h];exact hk
    rw [zk9 hk]at hM
    generalize P[i]=u at*
    have hpl:=z9o hk
    have htl:=zbd hk
    have hT:=fun O=>zn9 O (z2f u) (by omega)
    have hul:=zi u
    have ua:(hdrC u).take 36=hdrC u:=z30 u
    generalize z23 (z2f u)=T at*
    repeat' (first|apply zA rfl|(apply zd_ rfl<;>intro ht<;>try omega)|((first|apply zB rfl|(apply callW.mk_pu;(first|exact(fun _=>hM _)|exact(fun _=>hT _)))|(apply callW.za;(first|exact(hM _)|exact(hT _)))|(apply zG<;>intro ht))<;>try simp (disch:=first|omega|simp only [lz,lW];try omega) only [go_sem,q0,q4,q5,gi,sl,hul,ua,hi']))
    exact⟨m-1,by omega,i+1,by omega,hA2,by rw [hst];simp⟩
   ·have e:P.take i=P:=List.take_of_length_le (by omega)
    rw [e]at q4 hA
    rw [hfin hA]
    have hi':¬(i:Int)<P.length:=by omega
    repeat' (first|apply zA rfl|(apply zd_ rfl<;>intro ht<;>try omega)|((first|apply zB rfl|(apply zG<;>intro ht))<;>try simp (disch:=first|omega|simp only [lz,lW];try omega) only [go_sem,q0,q4,q5,r1,hi']))
    exact DownV.same hw (by simp [RL,RLs])
end
section
theorem zkb{P:List Hdr}(h:i<P.length):z21 (P.drop i)=z23 (z2f P[i])++z21 (P.drop (i+1)):=by
 rw [List.drop_eq_getElem_cons h];rfl
theorem zlb{l:List NH}(h:i<l.length):z1y (l.drop i)=nhS l[i]++z1y (l.drop (i+1)):=by
 rw [List.drop_eq_getElem_cons h];rfl
theorem zts{h:Hdr}(hv:valH h=true):getV (getH (z2f h))=.tup [.agg (hdrC h),.int .i64 0]:=by
 obtain⟨d,e1,e2,e3⟩:=zp5 hv
 have:=zk6 e2 []
 rw [List.append_nil,if_pos rfl,<-e3]at this
 rw [this,e1];rfl
theorem zv8{l:List NH}(h:i<l.length):knP (l.take i)++ [.int .i64 l[i].1::hc l[i].2]=knP (l.take (i+1)):=by
 unfold knP;rw [List.take_succ_eq_append_getElem h,List.map_append];rfl
theorem zgh(l:List NH):RLss k (knP l):=by
 induction l with
 |nil=>simp [knP,RLss]
 |cons q l ih=>
  show RLss k ((.int .i64 q.1::hc q.2)::knP l)
  simp only [RLss]
  exact⟨by simp only [RLs,RL];exact⟨trivial,z65 q.2⟩,ih⟩
attribute [local irreducible] ACallsTo ACallsP
theorem zpo(O:Store)(a b:UInt8)(t:List UInt8):ACallsTo TC 176 [.str (a::t),.str [b]] O (.bool (decide (a=b))) O:=by
 refine ACallsTo.of_body q13ok (by simp) fun hw _=> ?_
 have h1:((t.length+1:Nat):Int)>=1:=by omega
 by_cases h:a=b
 ·subst h
  rw [decide_eq_true rfl]
  have e:([a]==[a])=true:=by simp
  repeat' (first|apply zA rfl|(apply zd_ rfl<;>intro ht<;>try omega)|((first|apply zB rfl|(apply zG<;>intro ht))<;>try simp (disch:=first|omega|simp only [lz,lW];try omega) only [go_sem,e,List.length_cons,List.length_nil,List.take_succ_cons,List.take_zero]))
  exact DownV.same hw rl_b
 ·rw [decide_eq_false h]
  have e:([a]==[b])=false:=by simp [h]
  repeat' (first|apply zA rfl|(apply zd_ rfl<;>intro ht<;>try omega)|((first|apply zB rfl|(apply zG<;>intro ht))<;>try simp (disch:=first|omega|simp only [lz,lW];try omega) only [go_sem,e,List.length_cons,List.length_nil,List.take_succ_cons,List.take_zero]))
  exact DownV.same hw rl_b
theorem zpk(O:Store)(a b:UInt8)(t:List UInt8):ACallsTo TC 173 [.str (a::t),.str [b]] O (if a=b then .tup [.str t,.bool true]else .tup [.str (a::t),.bool false]) O:=by
 have hH:=fun O=>zpo O a b t
 refine ACallsTo.of_body q3jok (by simp) fun hw _=> ?_
 by_cases h:a=b
 ·rw [if_pos h]
  rw [decide_eq_true h]at hH
  repeat' (first|apply zA rfl|(apply zd_ rfl<;>intro ht<;>try omega)|((first|apply zB rfl|(apply callW.mk_pu;exact(fun _=>hH _))|(apply callW.za;exact(hH _))|(apply zG<;>intro ht))<;>try simp (disch:=first|omega|simp only [lz,lW];try omega) only [go_sem,List.length_cons,List.length_nil,List.drop_succ_cons,List.drop_zero]))
  exact DownV.same hw (by simp [RL,RLs])
 ·rw [if_neg h]
  rw [decide_eq_false h]at hH
  repeat' (first|apply zA rfl|(apply zd_ rfl<;>intro ht<;>try omega)|((first|apply zB rfl|(apply callW.mk_pu;exact(fun _=>hH _))|(apply callW.za;exact(hH _))|(apply zG<;>intro ht))<;>try simp (disch:=first|omega|simp only [lz,lW];try omega) only [go_sem]))
  exact DownV.same hw (by simp [RL,RLs])
theorem zpl(O:Store)(a b:UInt8)(t:List UInt8):ACallsTo TC 160 [.str (a::t),.str [b]] O (if a=b then .tup [.str t,.bool true]else .tup [.str (a::t),.bool false]) O:=by
 have hH:=fun O=>zpk O a b t
 refine ACallsTo.of_body q3iok (by simp) fun hw _=> ?_
 by_cases h:a=b
 ·rw [if_pos h]at hH ⊢
  repeat' (first|apply zA rfl|(apply zd_ rfl<;>intro ht<;>try omega)|((first|apply zB rfl|(apply callW.mk_pu;exact(fun _=>hH _))|(apply callW.za;exact(hH _))|(apply zG<;>intro ht))<;>try simp (disch:=first|omega|simp only [lz,lW];try omega) only [go_sem]))
  exact DownV.same hw (by simp [RL,RLs])
 ·rw [if_neg h]at hH ⊢
  repeat' (first|apply zA rfl|(apply zd_ rfl<;>intro ht<;>try omega)|((first|apply zB rfl|(apply callW.mk_pu;exact(fun _=>hH _))|(apply callW.za;exact(hH _))|(apply zG<;>intro ht))<;>try simp (disch:=first|omega|simp only [lz,lW];try omega) only [go_sem]))
  exact DownV.same hw (by simp [RL,RLs])
theorem ze8(O:Store)(a b:UInt8)(t:List UInt8)(ht:t.length<1000000000):ACallsTo TC 142 [.str (a::t),.str [b]] O (if a=b then rdV (z1r t)else .tup [.int .u64 0,.str [],.bool false]) O:=by
 have hH:=fun O=>zpl O a b t
 have hR:=fun O=>z6i O t ht
 refine ACallsTo.of_body q3gok (by simp) fun hw _=> ?_
 by_cases h:a=b
 ·rw [if_pos h]at hH ⊢
  rw [zcj]at hR ⊢
  repeat' (first|apply zA rfl|(apply zd_ rfl<;>intro ht<;>try omega)|((first|apply zB rfl|(apply callW.mk_pu;(first|exact(fun _=>hH _)|exact(fun _=>hR _)))|(apply callW.za;(first|exact(hH _)|exact(hR _)))|(apply zG<;>intro ht))<;>try simp (disch:=first|omega|simp only [lz,lW];try omega) only [go_sem]))
  exact DownV.same hw (by simp [RL,RLs])
 ·rw [if_neg h]at hH ⊢
  repeat' (first|apply zA rfl|(apply zd_ rfl<;>intro ht<;>try omega)|((first|apply zB rfl|(apply callW.mk_pu;exact(fun _=>hH _))|(apply callW.za;exact(hH _))|(apply zG<;>intro ht))<;>try simp (disch:=first|omega|simp only [lz,lW];try omega) only [go_sem]))
  exact DownV.same hw (by simp [RL,RLs])
theorem zto(O:Store)(t:List UInt8)(ht:t.length<1000000000):ACallsTo TC 114 [.str (68::t)] O (.tup [.nilsl,.int .i64 10]) O:=by
 have hC:=fun O=>ze8 O 68 71 t ht
 rw [if_neg (by decide)]at hC
 refine ACallsTo.of_body q3cok (by simp) fun hw _=> ?_
 repeat' (first|apply zA rfl|(apply zd_ rfl<;>intro ht<;>try omega)|((first|apply zB rfl|(apply callW.mk_pu;exact(fun _=>hC _))|(apply callW.za;exact(hC _))|(apply zG<;>intro ht))<;>try simp (disch:=first|omega|simp only [lz,lW];try omega) only [go_sem]))
 exact DownV.same hw (by simp [RL,RLs])
theorem ztp(O:Store)(P:List Hdr)(h0:P ≠ [])(hl:P.length<=3)(hv:∀q ∈ P,valH q=true):ACallsTo TC 114 [.str (gtS P)] O (.tup [zz 36 (hdrs P),.int .i64 0]) O:=by
 have hP0:0<P.length:=List.length_pos_iff.2 h0
 have hcl:=z5s hv
 have hnl:=z1u P.length
 have hC:=fun O=>ze8 O 71 71 (numS P.length++z21 P) (by rw [List.length_append];omega)
 rw [if_pos rfl,z5a (by omega)]at hC
 rw [show rdV (some (P.length,z21 P))=.tup [.int .u64 P.length,.str (z21 P),.bool true]from rfl]at hC
 unfold gtS
 have h1:¬(P.length:Int)<1:=by omega
 have h3:¬(P.length:Int)>3:=by omega
 refine ACallsTo.of_body q3cok (by simp) fun hw _=> ?_
 repeat' (first|apply zA rfl|(apply zd_ rfl<;>intro ht<;>try omega)|((first|apply zB rfl|(apply callW.mk_pu;exact(fun _=>hC _))|(apply callW.za;exact(hC _))|(apply zG<;>intro ht))<;>try simp (disch:=first|omega|simp only [lz,lW];try omega) only [go_sem,h1,h3]))
 refine zW.loop (fun m J O'=>∃(i:Nat) (w:AV),m+i=P.length/\ OwnN 36 O O' w (hdrs (P.take i))/\ J 5=.str (z21 (P.drop i))/\ J 7=w/\ J 29=.int .u64 P.length/\ J 30=.int .u64 i) P.length ?_ ?_
 ·exact⟨0,.nilsl,by omega,⟨[],by simp,.inl ⟨rfl,rfl⟩⟩,by rw [List.drop_zero];simp (disch:=first|omega|simp only [lz,lW];try omega) only [go_sem],by simp only [go_sem],by simp only [go_sem],by simp only [go_sem];try rfl⟩
 ·rintro m J O' ⟨i,w,hm,hO,q5,q7,q29,q30⟩
  by_cases hi:i<P.length
  ·have hst:=zkj hi
   have hdr:=zkb hi
   have hcl2:=z5s (P:=P.drop (i+1)) fun q hq=>hv q (List.mem_of_mem_drop hq)
   rw [List.length_drop]at hcl2
   have hk:=hv P[i] (List.getElem_mem hi)
   generalize P[i]=u at*
   have hpl:=z9o hk
   have htl:=zbd hk
   have hCt:=fun O=>zdt O (z23 (z2f u)++z21 (P.drop (i+1))) (by rw [List.length_append];omega)
   rw [zdw (by omega)]at hCt
   rw [show stV (some (z2f u,z21 (P.drop (i+1))))=.tup [.str (z2f u),.str (z21 (P.drop (i+1))),.bool true]from rfl]at hCt
   have hG:=fun O=>Get_to O (z2f u) (by omega)
   rw [zts hk]at hG
   rw [hdr]at q5
   have hul:=zi u
   have ua:(hdrC u).take 36=hdrC u:=z30 u
   obtain⟨w',O2,ha,hO2⟩:=(hO.more [some [hdrC u]]).app (ys:=[hdrC u]) (by simp) (by rw [zh,List.length_take];simp;omega)
   rw [hst]at hO2
   have hi':(i:Int)<P.length:=by omega
   repeat' (first|apply zA rfl|(apply zd_ rfl<;>intro ht<;>try omega)|((first|apply zB rfl|(apply callW.mk_pu;(first|exact(fun _=>hCt _)|exact(fun _=>hG _)))|(apply callW.za;(first|exact(hCt _)|exact(hG _)))|(apply zG<;>intro ht))<;>try simp (disch:=first|omega|simp only [lz,lW];try omega) only [go_sem,q5,q7,q29,q30,hul,ua,ha,hi']))
   exact⟨m-1,by omega,i+1,w',by omega,hO2,by simp⟩
  ·obtain rfl:i=P.length:=by omega
   rw [List.take_of_length_le (Nat.le_refl _)]at hO
   rw [List.drop_of_length_le (Nat.le_refl _),show z21 []=[]from rfl]at q5
   repeat' (first|apply zA rfl|(apply zd_ rfl<;>intro ht<;>try omega)|((first|apply zB rfl|(apply zG<;>intro ht))<;>try simp (disch:=first|omega|simp only [lz,lW];try omega) only [go_sem,q5,q7,q29,q30]))
   exact(hO.froze hw (z66 _)).tup2
theorem ztn(O:Store)(l:List NH)(hl:l.length<=64)(hok:∀p ∈ l,nhOk p=true):ACallsTo TC 115 [.str (knS l)] O (.tup [zz 33 (knP l),.int .i64 0]) O:=by
 have hcl:=z4r l
 have hnl:=z1u l.length
 have hC:=fun O=>ze8 O 68 68 (numS l.length++z1y l) (by rw [List.length_append];omega)
 rw [if_pos rfl,z5a (by omega)]at hC
 rw [show rdV (some (l.length,z1y l))=.tup [.int .u64 l.length,.str (z1y l),.bool true]from rfl]at hC
 unfold knS
 have h3:¬(l.length:Int)>64:=by omega
 refine ACallsTo.of_body q3dok (by simp) fun hw _=> ?_
 repeat' (first|apply zA rfl|(apply zd_ rfl<;>intro ht<;>try omega)|((first|apply zB rfl|(apply callW.mk_pu;exact(fun _=>hC _))|(apply callW.za;exact(hC _))|(apply zG<;>intro ht))<;>try simp (disch:=first|omega|simp only [lz,lW];try omega) only [go_sem,h3]))
 refine zW.loop (fun m J O'=>∃(i:Nat) (w:AV),m+i=l.length/\ OwnN 33 O O' w (knP (l.take i))/\ J 5=.str (z1y (l.drop i))/\ J 7=w/\ J 25=.int .u64 l.length/\ J 26=.int .u64 i) l.length ?_ ?_
 ·exact⟨0,.nilsl,by omega,⟨[],by simp,.inl ⟨rfl,rfl⟩⟩,by rw [List.drop_zero];simp (disch:=first|omega|simp only [lz,lW];try omega) only [go_sem],by simp only [go_sem],by simp only [go_sem],by simp only [go_sem];try rfl⟩
 ·rintro m J O' ⟨i,w,hm,hO,q5,q7,q25,q26⟩
  by_cases hi:i<l.length
  ·have hst:=zv8 hi
   have hdr:=zlb hi
   have hcl2:=z4r (l.drop (i+1))
   rw [List.length_drop]at hcl2
   have hk:=hok l[i] (List.getElem_mem hi)
   generalize l[i]=p at*
   obtain⟨n,r⟩:=p
   obtain⟨k1,k2⟩:=of_decide_eq_true hk
   dsimp only at k1 k2 hst
   obtain⟨K,rfl⟩:∃K:Nat,n=K:=⟨n.toNat,by omega⟩
   have kl:=z1u K
   have r32:=r.2
   rw [show nhS ((K:Int),r)=numS K++r.1 from rfl,List.append_assoc]at hdr
   have hRd:=fun O=>z6i O (numS K++(r.1++z1y (l.drop (i+1)))) (by simp only [List.length_append];omega)
   rw [z5a (by omega)]at hRd
   rw [show rdV (some (K,r.1++z1y (l.drop (i+1))))=.tup [.int .u64 K,.str (r.1++z1y (l.drop (i+1))),.bool true]from rfl]at hRd
   have hU:=fun O=>z7m O (r.1++z1y (l.drop (i+1))) (by simp only [List.length_append];omega)
   rw [zhk]at hU
   rw [show unV (some (r,z1y (l.drop (i+1))))=.tup [.agg (hc r),.str (z1y (l.drop (i+1))),.bool true]from rfl]at hU
   rw [hdr]at q5
   have rl:=z8 r
   have ra:(hc r).take 32=hc r:=List.take_of_length_le (by omega)
   have k4:¬(K:Int)>4096:=by omega
   obtain⟨w',O2,ha,hO2⟩:=(hO.more [some [hc r]]).app (ys:=[.int .i64 (K:Int)::hc r]) (by simp) (by rw [zm,List.length_take];simp;omega)
   rw [hst]at hO2
   have hi':(i:Int)<l.length:=by omega
   repeat' (first|apply zA rfl|(apply zd_ rfl<;>intro ht<;>try omega)|((first|apply zB rfl|(apply callW.mk_pu;(first|exact(fun _=>hRd _)|exact(fun _=>hU _)))|(apply callW.za;(first|exact(hRd _)|exact(hU _)))|(apply zG<;>intro ht))<;>try simp (disch:=first|omega|simp only [lz,lW];try omega) only [go_sem,q5,q7,q25,q26,rl,ra,ha,hi',k4]))
   exact⟨m-1,by omega,i+1,w',by omega,hO2,by simp⟩
  ·obtain rfl:i=l.length:=by omega
   rw [List.take_of_length_le (Nat.le_refl _)]at hO
   rw [List.drop_of_length_le (Nat.le_refl _),show z1y []=[]from rfl]at q5
   repeat' (first|apply zA rfl|(apply zd_ rfl<;>intro ht<;>try omega)|((first|apply zB rfl|(apply zG<;>intro ht))<;>try simp (disch:=first|omega|simp only [lz,lW];try omega) only [go_sem,q5,q7,q25,q26]))
   exact(hO.froze hw (zgh _)).tup2
end
section
def rgR:Nat->List UInt8->List UInt8| 0,s=>s|i+1,s=>(cutD (rgR i s)).2
def rgL:Nat->List UInt8->List Hdr| 0,_=>[]|i+1,s=>rgL i s++ [z4o (cutD (rgR i s)).1]
theorem zgb:∀(i:Nat) (s:List UInt8),(rgL i s).length=i| 0,_=>rfl|i+1,s=>by simp [rgL,zgb i s]
theorem znd:∀(i:Nat) (s:List UInt8),(rgR i s).length<=s.length| 0,_=>Nat.le_refl _|i+1,s=>Nat.le_trans (zjf _).2 (znd i s)
def rkR:Nat->List UInt8->List UInt8| 0,s=>s|i+1,s=>(unD (rdD (rkR i s)).2).2
def rkL:Nat->List UInt8->List NH| 0,_=>[]|i+1,s=>rkL i s++ [((((rdD (rkR i s)).1%65536:Nat):Int),(unD (rdD (rkR i s)).2).1)]
theorem zgc:∀(i:Nat) (s:List UInt8),(rkL i s).length=i| 0,_=>rfl|i+1,s=>by simp [rkL,zgc i s]
theorem znf:∀(i:Nat) (s:List UInt8),(rkR i s).length<=s.length| 0,_=>Nat.le_refl _|i+1,s=>Nat.le_trans (Nat.le_trans (unD_le _) (zci _)) (znf i s)
def zch(s:List UInt8)(t:List UInt8):AV:=
 let P:=rgL (min 3 (rdD t).1) (rdD t).2
 if (P=[] \/P.all valH=false) \/gtS P ≠ s then .tup [.nilsl,.int .i64 10]else .tup [zz 36 (hdrs P),.int .i64 0]
def zcg(s:List UInt8)(t:List UInt8):AV:=
 let l:=rkL (min 64 (rdD t).1) (rdD t).2
 if ¬(l.length<=64/\ l.all nhOk=true) \/knS l ≠ s then .tup [.nilsl,.int .i64 10]else .tup [zz 33 (knP l),.int .i64 0]
theorem zyf(P:List Hdr):z3t P=.tup [.str [],.int .i64 2] \/z3t P=.tup [.str (gtS P),.int .i64 0]:=by
 unfold z3t;split
 ·exact .inl rfl
 ·exact .inr rfl
theorem zyh(l:List NH):z4g l=.tup [.str [],.int .i64 2] \/z4g l=.tup [.str (knS l),.int .i64 0]:=by
 unfold z4g;split
 ·exact .inr rfl
 ·exact .inl rfl
attribute [local irreducible] ACallsTo ACallsP
theorem zz1(O:Store)(P:List Hdr)(x:AV)(hx:RdSl O 36 (hdrs P) x)(hl:P.length<=3):ACallsTo TC 79 [x] O (z3t P) O:=by
 obtain⟨x0,h0,hd⟩:=hx.lend (z66 P)
 have:=ACallsTo.lend glok (zmp [] P x0 h0 hl) (drs1 hd)
 rwa [show sh O.length (z3t P)=z3t P by rcases zyf P with e|e<;>rw [e]<;>rfl,z5b,List.append_nil]at this
theorem zz0(O:Store)(l:List NH)(x:AV)(hx:RdSl O 33 (knP l) x)(hl:l.length<1000000):ACallsTo TC 75 [x] O (z4g l) O:=by
 obtain⟨x0,h0,hd⟩:=hx.lend (zgh l)
 have:=ACallsTo.lend glok (zmo [] l x0 h0 hl) (drs1 hd)
 rwa [show sh O.length (z4g l)=z4g l by rcases zyh l with e|e<;>rw [e]<;>rfl,z5b,List.append_nil]at this
theorem zmm(O:Store)(a:UInt8)(t:List UInt8)(ht:t.length<900000000):ACallsTo TC 77 [.str (a::t)] O (zch (a::t) t) O:=by
 have hR:=fun O=>z63 O t (by omega)
 rw [zcj]at hR
 have hrl:=zci t
 have hrn:=zmv t
 have h1:(((t.length+1:Nat):Int)==0)=false:=beq_eq_false_iff_ne.2 (by omega)
 unfold zch
 generalize (rdD t).1=n at*
 generalize (rdD t).2=s at*
 generalize (z1r t).isSome=b at*
 refine ACallsTo.of_body q36ok (by simp) fun hw _=> ?_
 repeat' (first|apply zA rfl|(apply zd_ rfl<;>intro ht<;>try omega)|((first|apply zB rfl|(apply callW.mk_pu;exact(fun _=>hR _))|(apply callW.za;exact(hR _))|(apply zG<;>intro ht))<;>try simp (disch:=first|omega|simp only [lz,lW];try omega) only [go_sem,h1,List.length_cons,List.drop_succ_cons,List.drop_zero]))
 refine zW.loop (fun m J O'=>∃(i:Nat) (w:AV),m+i=3/\ i<=n/\ OwnN 36 O O' w (hdrs (rgL i s))/\ J 0=.str (a::t)/\ J 4=.int .u64 n/\ J 5=.str (rgR i s)/\ J 7=w/\ J 8=.int .i64 i) 3 ?_ ?_
 ·exact⟨0,.nilsl,by omega,by omega,⟨[],by simp,.inl ⟨rfl,rfl⟩⟩,by simp only [go_sem],by simp only [go_sem],by rw [show rgR 0 s=s from rfl];simp (disch:=first|omega|simp only [lz,lW];try omega) only [go_sem],by simp only [go_sem],by simp only [go_sem];try rfl⟩
 ·rintro m J O' ⟨i,w,hm,hin,hO,q0,q4,q5,q7,q8⟩
  by_cases hi:i<3/\ i<n
  ·obtain⟨hi1,hi2⟩:=hi
   have h3':(i:Int)<3:=by omega
   have hn':(i:Int)<n:=by omega
   have hll:=zgb i s
   have hle:=znd i s
   have hcl:=zjf (rgR i s)
   have hC:=fun O=>zg9 O (rgR i s) (by omega)
   rw [stV_D]at hC
   have hG:=fun O=>zzi O (cutD (rgR i s)).1 (by omega)
   rw [ztt,getV_D]at hG
   rw [show sgV (z4o (cutD (rgR i s)).1)=.agg (hdrC (z4o (cutD (rgR i s)).1))from rfl]at hG
   have hst:rgL (i+1) s=rgL i s++ [z4o (cutD (rgR i s)).1]:=rfl
   have hst2:rgR (i+1) s=(cutD (rgR i s)).2:=rfl
   generalize z4o (cutD (rgR i s)).1=u at*
   have hul:=zi u
   have ua:(hdrC u).take 36=hdrC u:=z30 u
   obtain⟨w',O2,ha,hO2⟩:=(hO.more [some [hdrC u]]).app (ys:=[hdrC u]) (by simp) (by rw [zh];simp;omega)
   rw [<-zee u,<-z9e,<-hst]at hO2
   repeat' (first|apply zA rfl|(apply zd_ rfl<;>intro ht<;>try omega)|((first|apply zB rfl|(apply callW.mk_pu;(first|exact(fun _=>hC _)|exact(fun _=>hG _)))|(apply callW.za;(first|exact(hC _)|exact(hG _)))|(apply zG<;>intro ht))<;>try simp (disch:=first|omega|simp only [lz,lW];try omega) only [go_sem,q0,q4,q5,q7,q8,hul,ua,ha,h3',hn']))
   exact⟨m-1,by omega,i+1,w',by omega,by omega,hO2,by rw [hst2];simp⟩
  ·obtain rfl:i=min 3 n:=by omega
   have hll:=zgb (min 3 n) s
   have hcond:¬((min 3 n:Nat):Int)<3 \/((((min 3 n:Nat):Int)<3)/\ ¬((min 3 n:Nat):Int)<n):=by omega
   generalize rgL (min 3 n) s=P at*
   generalize min 3 n=i at*
   have hP0:=zz1 O' P w hO.rd (by omega)
   have hfz:=(hO.froze hw (z66 _)).tup2 (i:=.i64) (e:=0)
   obtain⟨news,hnews⟩:=hO.ext
   have hbad:DownV O.length (.tup [.nilsl,.int .i64 10]) O' (.tup [.nilsl,.int .i64 10]) O:=by rw [hnews];exact DownV.pure hw (by simp [RL,RLs])
   by_cases c:P=[] \/P.all valH=false
   ·rw [show z3t P=_ from if_pos c]at hP0
    rw [if_pos (.inl c)]
    rcases hcond with h3'| ⟨h3',hn'⟩
    ·repeat' (first|apply zA rfl|(apply zd_ rfl<;>intro ht<;>try omega)|((first|apply zB rfl|(apply callW.mk_pu;exact(fun _=>hP0))|(apply callW.za;exact(hP0))|(apply zG<;>intro ht))<;>try simp (disch:=first|omega|simp only [lz,lW];try omega) only [go_sem,q7,q8,h3']))
     exact hbad
    ·repeat' (first|apply zA rfl|(apply zd_ rfl<;>intro ht<;>try omega)|((first|apply zB rfl|(apply callW.mk_pu;exact(fun _=>hP0))|(apply callW.za;exact(hP0))|(apply zG<;>intro ht))<;>try simp (disch:=first|omega|simp only [lz,lW];try omega) only [go_sem,q4,q7,q8,h3',hn']))
     exact hbad
   ·rw [show z3t P=_ from if_neg c]at hP0
    by_cases hs:gtS P=a::t
    ·rw [if_neg (fun h=>h.elim c fun h=>h hs)]
     rw [hs]at hP0
     rcases hcond with h3'| ⟨h3',hn'⟩
     ·repeat' (first|apply zA rfl|(apply zd_ rfl<;>intro ht<;>try omega)|((first|apply zB rfl|(apply callW.mk_pu;exact(fun _=>hP0))|(apply callW.za;exact(hP0))|(apply zG<;>intro ht))<;>try simp (disch:=first|omega|simp only [lz,lW];try omega) only [go_sem,q0,q7,q8,h3']))
      exact hfz
     ·repeat' (first|apply zA rfl|(apply zd_ rfl<;>intro ht<;>try omega)|((first|apply zB rfl|(apply callW.mk_pu;exact(fun _=>hP0))|(apply callW.za;exact(hP0))|(apply zG<;>intro ht))<;>try simp (disch:=first|omega|simp only [lz,lW];try omega) only [go_sem,q0,q4,q7,q8,h3',hn']))
      exact hfz
    ·rw [if_pos (.inr hs)]
     have hs2:(gtS P==(a::t))=false:=by simp [hs]
     generalize gtS P=g at*
     rcases hcond with h3'| ⟨h3',hn'⟩
     ·repeat' (first|apply zA rfl|(apply zd_ rfl<;>intro ht<;>try omega)|((first|apply zB rfl|(apply callW.mk_pu;exact(fun _=>hP0))|(apply callW.za;exact(hP0))|(apply zG<;>intro ht))<;>try simp (disch:=first|omega|simp only [lz,lW];try omega) only [go_sem,q0,q7,q8,h3',hs2]))
      exact hbad
     ·repeat' (first|apply zA rfl|(apply zd_ rfl<;>intro ht<;>try omega)|((first|apply zB rfl|(apply callW.mk_pu;exact(fun _=>hP0))|(apply callW.za;exact(hP0))|(apply zG<;>intro ht))<;>try simp (disch:=first|omega|simp only [lz,lW];try omega) only [go_sem,q0,q4,q7,q8,h3',hn',hs2]))
      exact hbad
theorem zml(O:Store)(a:UInt8)(t:List UInt8)(ht:t.length<900000000):ACallsTo TC 78 [.str (a::t)] O (zcg (a::t) t) O:=by
 have hR:=fun O=>z63 O t (by omega)
 rw [zcj]at hR
 have hrl:=zci t
 have hrn:=zmv t
 have h1:(((t.length+1:Nat):Int)==0)=false:=beq_eq_false_iff_ne.2 (by omega)
 unfold zcg
 generalize (rdD t).1=n at*
 generalize (rdD t).2=s at*
 generalize (z1r t).isSome=b at*
 refine ACallsTo.of_body q37ok (by simp) fun hw _=> ?_
 repeat' (first|apply zA rfl|(apply zd_ rfl<;>intro ht<;>try omega)|((first|apply zB rfl|(apply callW.mk_pu;exact(fun _=>hR _))|(apply callW.za;exact(hR _))|(apply zG<;>intro ht))<;>try simp (disch:=first|omega|simp only [lz,lW];try omega) only [go_sem,h1,List.length_cons,List.drop_succ_cons,List.drop_zero]))
 refine zW.loop (fun m J O'=>∃(i:Nat) (w:AV),m+i=64/\ i<=n/\ OwnN 33 O O' w (knP (rkL i s))/\ J 0=.str (a::t)/\ J 4=.int .u64 n/\ J 5=.str (rkR i s)/\ J 7=w/\ J 8=.int .i64 i) 64 ?_ ?_
 ·exact⟨0,.nilsl,by omega,by omega,⟨[],by simp,.inl ⟨rfl,rfl⟩⟩,by simp only [go_sem],by simp only [go_sem],by rw [show rkR 0 s=s from rfl];simp (disch:=first|omega|simp only [lz,lW];try omega) only [go_sem],by simp only [go_sem],by simp only [go_sem];try rfl⟩
 ·rintro m J O' ⟨i,w,hm,hin,hO,q0,q4,q5,q7,q8⟩
  by_cases hi:i<64/\ i<n
  ·obtain⟨hi1,hi2⟩:=hi
   have h3':(i:Int)<64:=by omega
   have hn':(i:Int)<n:=by omega
   have hll:=zgc i s
   have hle:=znf i s
   have hrl2:=zci (rkR i s)
   have hC:=fun O=>z63 O (rkR i s) (by omega)
   rw [zcj]at hC
   have hG:=fun O=>z9t O (rdD (rkR i s)).2 (by omega)
   rw [unV_D]at hG
   have hst:rkL (i+1) s=rkL i s++ [((((rdD (rkR i s)).1%65536:Nat):Int),(unD (rdD (rkR i s)).2).1)]:=rfl
   have hst2:rkR (i+1) s=(unD (rdD (rkR i s)).2).2:=rfl
   generalize (unD (rdD (rkR i s)).2).1=r at*
   generalize (unD (rdD (rkR i s)).2).2=s2 at*
   generalize (unS (rdD (rkR i s)).2).isSome=b2 at*
   generalize (z1r (rkR i s)).isSome=b3 at*
   generalize (rdD (rkR i s)).1=N at*
   generalize (rdD (rkR i s)).2=s3 at*
   have rl:=z8 r
   have ra:(hc r).take 32=hc r:=List.take_of_length_le (by omega)
   have hmod:(N:Int).tmod 65536=((N%65536:Nat):Int):=by rw [Int.tmod_eq_emod_of_nonneg (by omega)];omega
   obtain⟨w',O2,ha,hO2⟩:=(hO.more [some [hc r]]).app (ys:=[.int .i64 ((N%65536:Nat):Int)::hc r]) (by simp) (by rw [zm];simp;omega)
   rw [show knP (rkL i s)++ [.int .i64 ((N%65536:Nat):Int)::hc r]=knP (rkL (i+1) s)by rw [hst];unfold knP;rw [List.map_append];rfl]at hO2
   have hsm:N%65536<65536:=Nat.mod_lt _ (by omega)
   generalize N%65536=M at*
   repeat' (first|apply zA rfl|(apply zd_ rfl<;>intro ht<;>try omega)|((first|apply zB rfl|(apply callW.mk_pu;(first|exact(fun _=>hC _)|exact(fun _=>hG _)))|(apply callW.za;(first|exact(hC _)|exact(hG _)))|(apply zG<;>intro ht))<;>try simp (disch:=first|omega|simp only [lz,lW];try omega) only [go_sem,q0,q4,q5,q7,q8,rl,ra,ha,h3',hn',hmod]))
   exact⟨m-1,by omega,i+1,w',by omega,by omega,hO2,by rw [hst2];simp⟩
  ·obtain rfl:i=min 64 n:=by omega
   have hll:=zgc (min 64 n) s
   have hcond:¬((min 64 n:Nat):Int)<64 \/((((min 64 n:Nat):Int)<64)/\ ¬((min 64 n:Nat):Int)<n):=by omega
   generalize rkL (min 64 n) s=P at*
   generalize min 64 n=i at*
   have hP0:=zz0 O' P w hO.rd (by omega)
   have hfz:=(hO.froze hw (zgh _)).tup2 (i:=.i64) (e:=0)
   obtain⟨news,hnews⟩:=hO.ext
   have hbad:DownV O.length (.tup [.nilsl,.int .i64 10]) O' (.tup [.nilsl,.int .i64 10]) O:=by rw [hnews];exact DownV.pure hw (by simp [RL,RLs])
   by_cases c:P.length<=64/\ P.all nhOk=true
   ·rw [show z4g P=_ from if_pos c]at hP0
    by_cases hs:knS P=a::t
    ·rw [if_neg (fun h=>h.elim (fun h=>h c) fun h=>h hs)]
     rw [hs]at hP0
     rcases hcond with h3'| ⟨h3',hn'⟩
     ·repeat' (first|apply zA rfl|(apply zd_ rfl<;>intro ht<;>try omega)|((first|apply zB rfl|(apply callW.mk_pu;exact(fun _=>hP0))|(apply callW.za;exact(hP0))|(apply zG<;>intro ht))<;>try simp (disch:=first|omega|simp only [lz,lW];try omega) only [go_sem,q0,q7,q8,h3']))
      exact hfz
     ·repeat' (first|apply zA rfl|(apply zd_ rfl<;>intro ht<;>try omega)|((first|apply zB rfl|(apply callW.mk_pu;exact(fun _=>hP0))|(apply callW.za;exact(hP0))|(apply zG<;>intro ht))<;>try simp (disch:=first|omega|simp only [lz,lW];try omega) only [go_sem,q0,q4,q7,q8,h3',hn']))
      exact hfz
    ·rw [if_pos (.inr hs)]
     have hs2:(knS P==(a::t))=false:=by simp [hs]
     generalize knS P=g at*
     rcases hcond with h3'| ⟨h3',hn'⟩
     ·repeat' (first|apply zA rfl|(apply zd_ rfl<;>intro ht<;>try omega)|((first|apply zB rfl|(apply callW.mk_pu;exact(fun _=>hP0))|(apply callW.za;exact(hP0))|(apply zG<;>intro ht))<;>try simp (disch:=first|omega|simp only [lz,lW];try omega) only [go_sem,q0,q7,q8,h3',hs2]))
      exact hbad
     ·repeat' (first|apply zA rfl|(apply zd_ rfl<;>intro ht<;>try omega)|((first|apply zB rfl|(apply callW.mk_pu;exact(fun _=>hP0))|(apply callW.za;exact(hP0))|(apply zG<;>intro ht))<;>try simp (disch:=first|omega|simp only [lz,lW];try omega) only [go_sem,q0,q4,q7,q8,h3',hn',hs2]))
      exact hbad
   ·rw [show z4g P=_ from if_neg c]at hP0
    rw [if_pos (.inl c)]
    rcases hcond with h3'| ⟨h3',hn'⟩
    ·repeat' (first|apply zA rfl|(apply zd_ rfl<;>intro ht<;>try omega)|((first|apply zB rfl|(apply callW.mk_pu;exact(fun _=>hP0))|(apply callW.za;exact(hP0))|(apply zG<;>intro ht))<;>try simp (disch:=first|omega|simp only [lz,lW];try omega) only [go_sem,q7,q8,h3']))
     exact hbad
    ·repeat' (first|apply zA rfl|(apply zd_ rfl<;>intro ht<;>try omega)|((first|apply zB rfl|(apply callW.mk_pu;exact(fun _=>hP0))|(apply callW.za;exact(hP0))|(apply zG<;>intro ht))<;>try simp (disch:=first|omega|simp only [lz,lW];try omega) only [go_sem,q4,q7,q8,h3',hn']))
     exact hbad
end
section
theorem ztr{h:Hdr}(hv:valH h=true):z4o (z2f h)=h:=by
 obtain⟨d,e1,e2,e3⟩:=zp5 hv
 have:=zk6 e2 []
 rw [List.append_nil,if_pos rfl,<-e3]at this
 unfold z4o
 rw [this,e1];rfl
theorem zfq(h:n<18446744073709551616)(t:List UInt8):rdD (numS n++t)=(n,t):=by
 unfold rdD;rw [z5a h];rfl
theorem zp0(h:Hash)(t:List UInt8):unD (h.1++t)=(h,t):=by
 unfold unD;rw [zhk];rfl
theorem zne{P:List Hdr}(hv:∀q ∈ P,valH q=true):∀i,i<=P.length->rgL i (z21 P)=P.take i/\ rgR i (z21 P)=z21 (P.drop i)
 | 0,_=>⟨rfl,rfl⟩
 |i+1,h=>by
  obtain⟨h1,h2⟩:=zne hv i (by omega)
  have hi:i<P.length:=by omega
  have hk:=hv P[i] (List.getElem_mem hi)
  have hpl:=z9o hk
  have e:cutD (z21 (P.drop i))=(z2f P[i],z21 (P.drop (i+1))):=by
   rw [zkb hi];unfold cutD;rw [zdw (by omega)];rfl
  refine⟨?_,?_⟩
  ·show rgL i _++ [z4o (cutD (rgR i _)).1]=_
   rw [h1,h2,e,ztr hk,List.take_succ_eq_append_getElem hi]
  ·show (cutD (rgR i _)).2=_
   rw [h2,e]
theorem zng{l:List NH}(hv:∀q ∈ l,nhOk q=true):∀i,i<=l.length->rkL i (z1y l)=l.take i/\ rkR i (z1y l)=z1y (l.drop i)
 | 0,_=>⟨rfl,rfl⟩
 |i+1,h=>by
  obtain⟨h1,h2⟩:=zng hv i (by omega)
  have hi:i<l.length:=by omega
  have hk:=hv l[i] (List.getElem_mem hi)
  have htk:=List.take_succ_eq_append_getElem hi
  have hdr:=zlb hi
  generalize l[i]=p at*
  obtain⟨n,r⟩:=p
  obtain⟨k1,k2⟩:=of_decide_eq_true hk
  dsimp only at k1 k2
  obtain⟨K,rfl⟩:∃K:Nat,n=K:=⟨n.toNat,by omega⟩
  rw [show nhS ((K:Int),r)=numS K++r.1 from rfl,List.append_assoc]at hdr
  have e:rdD (z1y (l.drop i))=(K,r.1++z1y (l.drop (i+1))):=by rw [hdr,zfq (by omega)]
  refine⟨?_,?_⟩
  ·show rkL i _++ [((((rdD (rkR i _)).1%65536:Nat):Int),(unD (rdD (rkR i _)).2).1)]=_
   rw [h1,h2,e,zp0,htk,Nat.mod_eq_of_lt (by omega)]
  ·show (unD (rdD (rkR i _)).2).2=_
   rw [h2,e,zp0]
attribute [local irreducible] ACallsTo ACallsP
theorem zyy(O:Store)(P:List Hdr)(h0:P ≠ [])(hl:P.length<=3)(hv:∀q ∈ P,valH q=true):ACallsTo TC 77 [.str (gtS P)] O (.tup [zz 36 (hdrs P),.int .i64 0]) O:=by
 have hcl:=z5s hv
 have hnl:=z1u P.length
 have h:=zmm O 71 (numS P.length++z21 P) (by rw [List.length_append];omega)
 unfold zch at h
 rw [zfq (by omega)]at h
 dsimp only at h
 rw [Nat.min_eq_right hl,(zne hv P.length (Nat.le_refl _)).1,List.take_length]at h
 rwa [if_neg (fun h=>h.elim (fun h=>h.elim h0 fun h=>by rw [List.all_eq_true.2 hv]at h;cases h) fun h=>h rfl)]at h
theorem zyw(O:Store)(P:List Hdr)(hl:P.length<=3)(hv:∀q ∈ P,valH q=true):ACallsTo TC 78 [.str (gtS P)] O (.tup [.nilsl,.int .i64 10]) O:=by
 have hcl:=z5s hv
 have hnl:=z1u P.length
 have h:=zml O 71 (numS P.length++z21 P) (by rw [List.length_append];omega)
 unfold zcg at h
 dsimp only at h
 rwa [if_pos (.inr fun e=>by unfold knS at e;injection e with e _;revert e;decide)]at h
theorem zyz(O:Store)(l:List NH)(hl:l.length<=64):ACallsTo TC 77 [.str (knS l)] O (.tup [.nilsl,.int .i64 10]) O:=by
 have hcl:=z4r l
 have hnl:=z1u l.length
 have h:=zmm O 68 (numS l.length++z1y l) (by rw [List.length_append];omega)
 unfold zch at h
 dsimp only at h
 rwa [if_pos (.inr fun e=>by unfold gtS at e;injection e with e _;revert e;decide)]at h
theorem zyx(O:Store)(l:List NH)(hl:l.length<=64)(hok:∀p ∈ l,nhOk p=true):ACallsTo TC 78 [.str (knS l)] O (.tup [zz 33 (knP l),.int .i64 0]) O:=by
 have hcl:=z4r l
 have hnl:=z1u l.length
 have h:=zml O 68 (numS l.length++z1y l) (by rw [List.length_append];omega)
 unfold zcg at h
 rw [zfq (by omega)]at h
 dsimp only at h
 rw [Nat.min_eq_right hl,(zng hok l.length (Nat.le_refl _)).1,List.take_length]at h
 rwa [if_neg (fun h=>h.elim (fun h=>h ⟨hl,List.all_eq_true.2 hok⟩) fun h=>h rfl)]at h
end
section
inductive MT where
 |gt (P:List Hdr)
 |kn (l:List NH)
structure MM where
 f:Nat
 t:Nat
 k:MT
def MT.txt:MT->List UInt8| .gt P=>gtS P| .kn l=>knS l
def MM.ml(m:MM):ML:=⟨m.f,m.t,m.k.txt⟩
def MT.Ok:MT->Prop
 | .gt P=>P ≠ []/\ P.length<=3/\ ∀q ∈ P,valH q=true
 | .kn l=>l.length<=64/\ ∀p ∈ l,nhOk p=true
structure MM.Ok(n:Nat)(m:MM):Prop where
 f:m.f<n
 t:m.t<n
 ne:m.f ≠ m.t
 k:m.k.Ok
theorem FrL.fr{sid':Option Nat}(h:FrL O O' r sid sid'):Fr O O' (r::sid.toList) (r::sid'.toList) where
 st j hj hn:=h.keep j hj (fun e=>hn (e ▸ List.mem_cons_self ..)) fun e=>hn (by rw [e];simp)
 new j hj:=by
  rcases List.mem_cons.1 hj with rfl|h2
  ·exact .inl (List.mem_cons_self ..)
  ·have:sid'=some j:=by cases sid'<;>simp_all
   rcases h.new j this with h3|h3
   ·exact .inl (by rw [h3];simp)
   ·exact .inr h3
 le:=h.len
theorem LkIs.lt2{nodes:Int}{L:List ML}(h:LkIs O r nodes sid L):∀x ∈ r::sid.toList,x<O.length:=by
 intro x hx
 obtain⟨h1,h2⟩:=h.lt
 rcases List.mem_cons.1 hx with rfl|h3
 ·exact h1
 ·exact h2 x (by cases sid<;>simp_all)
theorem LkIs.keep{nodes:Int}{L:List ML}(h:LkIs O r nodes sid L)(hk:∀x ∈ r::sid.toList,O'[x]? =O[x]?):LkIs O' r nodes sid L:=by
 refine⟨by rw [hk r (List.mem_cons_self ..)];exact h.obj,?_,h.apart⟩
 have:=h.rows
 cases sid with
 |none=>exact this
 |some s=>obtain⟨junk,hj⟩:=this;exact⟨junk,by rw [hk s (by simp)];exact hj⟩
def zaa(N:Nat)(ow:Nat->List Nat):Prop:=∀i j,i<N->j<N->i ≠ j->∀x ∈ ow i,x ∉ ow j
def z1v(N:Nat)(ow:Nat->List Nat):List Nat:=(List.range N).flatMap ow
theorem mem_allOw{N:Nat}{ow:Nat->List Nat}{x:Nat}:x ∈ z1v N ow ↔ ∃i,i<N/\ x ∈ ow i:=by simp [z1v,List.mem_flatMap]
def updO(ow:Nat->List Nat)(m:Nat)(o:List Nat):Nat->List Nat:=fun j=>if j=m then o else ow j
theorem za7{ow:Nat->List Nat}{m:Nat}{o:List Nat}:updO ow m o m=o:=if_pos rfl
theorem z5h{ow:Nat->List Nat}{m j:Nat}{o:List Nat}(h:j ≠ m):updO ow m o j=ow j:=if_neg h
theorem zlt{N m:Nat}{ow:Nat->List Nat}{o:List Nat}(hm:m<N)(hlt:∀i,i<N->∀x ∈ ow i,x<O.length)(hd:zaa N ow)(hf:Fr O O' (ow m) o):
  zaa N (updO ow m o)/\ Fr O O' (z1v N ow) (z1v N (updO ow m o))/\ ∀j,j<N->j ≠ m->∀x ∈ ow j,O'[x]? =O[x]?:=by
 have hk:∀j,j<N->j ≠ m->∀x ∈ o,x ∉ ow j:=fun j hj hne x hx h2=>by
  rcases hf.new x hx with h3|h3
  ·exact hd m j hm hj (fun e=>hne e.symm) x h3 h2
  ·have:=hlt j hj x h2;omega
 refine⟨fun i j hi hj hne x hx h2=> ?_,⟨fun j hj hn=>hf.st j hj fun h=>hn (mem_allOw.2 ⟨m,hm,h⟩),fun x hx=> ?_,hf.le⟩,fun j hj hne x hx=>hf.st x (hlt j hj x hx) fun h=>hd j m hj hm hne x hx h⟩
 ·by_cases h1:i=m
  ·subst h1
   rw [za7]at hx
   rw [z5h (fun e=>hne e.symm)]at h2
   exact hk j hj (fun e=>hne e.symm) x hx h2
  ·rw [z5h h1]at hx
   by_cases h3:j=m
   ·subst h3;rw [za7]at h2;exact hk i hi h1 x h2 hx
   ·rw [z5h h3]at h2;exact hd i j hi hj hne x hx h2
 ·obtain⟨i,hi,h2⟩:=mem_allOw.1 hx
  by_cases h1:i=m
  ·subst h1;rw [za7]at h2
   exact(hf.new x h2).imp_left fun h=>mem_allOw.2 ⟨i,hm,h⟩
  ·rw [z5h h1]at h2;exact .inl (mem_allOw.2 ⟨i,hi,h2⟩)
abbrev PI:=Store->Nat->Hash->List Hdr->List Nat->Prop
structure PLoc(I:PI):Prop where
 lt:∀{O p key P own},I O p key P own->∀j ∈ own,j<O.length
 keep:∀{O O' p key P own},I O p key P own->(∀j,j ∈ own->O'[j]? =O[j]?)->I O' p key P own
theorem ploc_is:PLoc PoIs:=⟨fun h _ hj=>h.lt hj,fun h hk=>h.keep hk⟩
theorem ploc_r:PLoc PoR:=⟨fun h _ hj=>h.lt hj,fun h hk=>h.keep hk⟩
structure CirO(I:PI)(O:Store)(c q l:Nat)(sid:Option Nat)(pp:List Nat)(ow:Nat->List Nat)(key:Hash)(PS:List (List Hdr))(M:List MM):Prop where
 o0:ow 0=[c,q]
 o1:ow 1=l::sid.toList
 len:pp.length=PS.length
 obj:O[c]? =some (some [[.sl q 0 PS.length none 1,.ptr l 0 0]])
 row:O[q]? =some (some (pp.map fun p=>[.ptr p 0 0]))
 lk:LkIs O l PS.length sid (M.map MM.ml)
 pool:∀i,i<PS.length->I O (pp.getD i 0) key (PS.getD i []) (ow (i+2))
 apart:zaa (PS.length+2) ow
def CirS(I:PI)(O:Store)(c:Nat)(key:Hash)(PS:List (List Hdr))(M:List MM)(own:List Nat):Prop:=
 ∃q l sid pp ow,own=z1v (PS.length+2) ow/\ CirO I O c q l sid pp ow key PS M
section
variable {I:PI} (hI:PLoc I) {O O':Store} {c q l:Nat} {sid:Option Nat} {pp:List Nat} {ow:Nat->List Nat} {key:Hash} {PS:List (List Hdr)} {M:List MM} {own:List Nat}
include hI
theorem CirO.lt(h:CirO I O c q l sid pp ow key PS M):∀i,i<PS.length+2->∀x ∈ ow i,x<O.length:=by
 intro i hi x hx
 match i,hi,hx with
 | 0,_,hx=>
  rw [h.o0]at hx
  rcases List.mem_cons.1 hx with rfl|h2
  ·exact slen h.obj
  ·rw [List.mem_singleton.1 h2];exact slen h.row
 | 1,_,hx=>rw [h.o1]at hx;exact h.lk.lt2 x hx
 |i+2,hi,hx=>exact hI.lt (h.pool i (by omega)) x hx
theorem CirO.keep(h:CirO I O c q l sid pp ow key PS M)(hk:∀i,i<PS.length+2->∀x ∈ ow i,O'[x]? =O[x]?):CirO I O' c q l sid pp ow key PS M where
 o0:=h.o0
 o1:=h.o1
 len:=h.len
 obj:=by rw [hk 0 (by omega) c (by rw [h.o0];simp)];exact h.obj
 row:=by rw [hk 0 (by omega) q (by rw [h.o0];simp)];exact h.row
 lk:=h.lk.keep fun x hx=>hk 1 (by omega) x (by rw [h.o1];exact hx)
 pool i hi:=hI.keep (h.pool i hi) fun j hj=>hk (i+2) (by omega) j hj
 apart:=h.apart
theorem CirS.lt(h:CirS I O c key PS M own):∀x ∈ own,x<O.length:=by
 obtain⟨q,l,sid,pp,ow,rfl,h⟩:=h
 intro x hx
 obtain⟨i,hi,h2⟩:=mem_allOw.1 hx
 exact h.lt hI i hi x h2
theorem CirS.keep(h:CirS I O c key PS M own)(hk:∀x ∈ own,O'[x]? =O[x]?):CirS I O' c key PS M own:=by
 obtain⟨q,l,sid,pp,ow,rfl,h⟩:=h
 exact⟨q,l,sid,pp,ow,rfl,h.keep hI fun i hi x hx=>hk x (mem_allOw.2 ⟨i,hi,hx⟩)⟩
theorem CirS.ext(h:CirS I O c key PS M own)(he:Ext O O'):CirS I O' c key PS M own:=h.keep hI fun x hx=>by
 have:=h.lt hI x hx
 obtain⟨y,rfl⟩:=he
 exact gapp this
theorem CirS.fr{o o':List Nat}(h:CirS I O c key PS M own)(hf:Fr O O' o o')(hd:∀x ∈ o,x ∉ own):CirS I O' c key PS M own:=
 h.keep hI fun x hx=>hf.st x (h.lt hI x hx) fun h2=>hd x h2 hx
theorem CirO.pool'(h:CirO I O c q l sid pp ow key PS M){i:Nat}(hi:i<PS.length){P:List Hdr}{o:List Nat}(hf:Fr O O' (ow (i+2)) o)(hp:I O' (pp.getD i 0) key P o):
  CirO I O' c q l sid pp (updO ow (i+2) o) key (PS.set i P) M/\ Fr O O' (z1v (PS.length+2) ow) (z1v (PS.length+2) (updO ow (i+2) o)):=by
 obtain⟨h1,h2,h3⟩:=zlt (by omega) (h.lt hI) h.apart hf
 refine⟨?_,h2⟩
 have k0:=h3 0 (by omega) (by omega)
 have k1:=h3 1 (by omega) (by omega)
 exact {
  o0:=by rw [z5h (by omega)];exact h.o0
  o1:=by rw [z5h (by omega)];exact h.o1
  len:=by rw [List.length_set];exact h.len
  obj:=by rw [List.length_set,k0 c (by rw [h.o0];simp)];exact h.obj
  row:=by rw [k0 q (by rw [h.o0];simp)];exact h.row
  lk:=by rw [List.length_set];exact h.lk.keep fun x hx=>k1 x (by rw [h.o1];exact hx)
  pool:=fun j hj=>by
   rw [List.length_set]at hj
   by_cases e:j=i
   ·subst e
    rw [za7,show (PS.set j P).getD j []=P by simp [List.getD,hj]]
    exact hp
   ·rw [z5h (by omega),show (PS.set i P).getD j []=PS.getD j []by simp [List.getD,List.getElem?_set_ne (fun e2=>e e2.symm)]]
    exact hI.keep (h.pool j hj) (h3 (j+2) (by omega) (by omega))
  apart:=by rw [List.length_set];exact h1 }
theorem CirO.links'(h:CirO I O c q l sid pp ow key PS M){sid':Option Nat}{M':List MM}(hf:FrL O O' l sid sid')(hl:LkIs O' l PS.length sid' (M'.map MM.ml)):
  CirO I O' c q l sid' pp (updO ow 1 (l::sid'.toList)) key PS M'/\ Fr O O' (z1v (PS.length+2) ow) (z1v (PS.length+2) (updO ow 1 (l::sid'.toList))):=by
 obtain⟨h1,h2,h3⟩:=zlt (m:=1) (o:=l::sid'.toList) (by omega) (h.lt hI) h.apart (by rw [h.o1];exact hf.fr)
 refine⟨?_,h2⟩
 have k0:=h3 0 (by omega) (by omega)
 exact {
  o0:=by rw [z5h (by omega)];exact h.o0
  o1:=za7
  len:=h.len
  obj:=by rw [k0 c (by rw [h.o0];simp)];exact h.obj
  row:=by rw [k0 q (by rw [h.o0];simp)];exact h.row
  lk:=hl
  pool:=fun j hj=>by
   rw [z5h (by omega)]
   exact hI.keep (h.pool j hj) (h3 (j+2) (by omega) (by omega))
  apart:=h1 }
end
end
section
theorem zm1{mk:AV->List AV}(P:List Hdr)(hp:O[p]? =some (some [mk v])):
  ∃O' v' sid',O'[p]? =some (some [mk v'])/\ RowAt 36 O' sid' v' (hdrs P)/\ sid' ≠ some p/\ Fr O O' (p::sid.toList) (p::sid'.toList):=by
 have hl:=slen hp
 by_cases h0:P=[]
 ·refine⟨O.set p (some [mk .nilsl]),.nilsl,none,z2a hl,.inl ⟨rfl,by rw [h0];rfl,rfl⟩,by simp,⟨fun j hj hn=>z1h fun e=>hn (by rw [e];simp),fun j hj=> ?_,by simp⟩⟩
  simp at hj;subst hj;exact .inl (List.mem_cons_self ..)
 ·refine⟨O.set p (some [mk (.sl O.length 0 (hdrs P).length none 36)])++ [some (hdrs P)],_,some O.length,?_,.inr ⟨O.length,rfl,?_,rfl,?_⟩,?_,⟨fun j hj hn=> ?_,fun j hj=> ?_,by simp⟩⟩
  ·rw [gapp (by simpa using hl),z2a hl]
  ·intro e;have:=congrArg List.length e;rw [zh]at this;exact h0 (List.length_eq_zero_iff.1 this)
  ·rw [z18 (by simp)];simp
  ·intro e;injection e with e;omega
  ·rw [gapp (by simpa using hj)];exact z1h fun e=>hn (by rw [e];simp)
  ·simp at hj
   rcases hj with rfl|rfl
   ·exact .inl (List.mem_cons_self ..)
   ·exact .inr (Nat.le_refl _)
def PAny(I:PI):Prop:=∀{O p key P own},I O p key P own->∀P',∃O' own',I O' p key P' own'/\ Fr O O' own own'
theorem z2u:PAny PoIs:=fun {O p key P own} h P'=>by
 obtain⟨v,sid,rfl,hp,hr,hn⟩:=h
 obtain⟨O',v',sid',h1,h2,h3,h4⟩:=zm1 (mk:=poC key) (sid:=sid) P' hp
 exact⟨O',_,⟨v',sid',rfl,h1,h2,h3⟩,h4⟩
theorem z4e:PAny PoR:=fun {O p key P own} h P'=>by
 obtain⟨v,sid,rfl,hp,hr,hn⟩:=h
 obtain⟨O',v',sid',h1,h2,h3,h4⟩:=zm1 (mk:=reC key) (sid:=sid) P' hp
 exact⟨O',_,⟨v',sid',rfl,h1,h2,h3⟩,h4⟩
theorem Fr.trans{O2 O3:Store}{a b c:List Nat}(h:Fr O O2 a b)(h2:Fr O2 O3 b c):Fr O O3 a c:=by
 refine⟨fun j hj hn=> ?_,fun j hj=> ?_,Nat.le_trans h.le h2.le⟩
 ·rw [h2.st j (by have:=h.le;omega) fun h3=> ?_,h.st j hj hn]
  rcases h.new j h3 with h4|h4
  ·exact hn h4
  ·omega
 ·rcases h2.new j hj with h3|h3
  ·exact h.new j h3
  ·exact .inr (by have:=h.le;omega)
section
variable {I:PI} (hI:PLoc I) (hA:PAny I) {O:Store} {c:Nat} {key:Hash} {PS:List (List Hdr)} {M:List MM} {own:List Nat}
include hI hA
theorem CirS.pools(h:CirS I O c key PS M own)(PS':List (List Hdr))(hl:PS'.length=PS.length):∀n,n<=PS.length->∃O' own',CirS I O' c key (PS'.take n++PS.drop n) M own'/\ Fr O O' own own'
 | 0,_=>⟨O,own,by simpa using h,⟨fun _ _ _=>rfl,fun _ h=> .inl h,Nat.le_refl _⟩⟩
 |n+1,hn=>by
  obtain⟨O1,own1,⟨q,l,sid,pp,ow,rfl,h1⟩,f1⟩:=CirS.pools h PS' hl n (by omega)
  have hlen:(PS'.take n++PS.drop n).length=PS.length:=by simp;omega
  obtain⟨O2,o,h2,f2⟩:=hA (h1.pool n (by omega)) (PS'.getD n [])
  obtain⟨h3,f3⟩:=h1.pool' hI (i:=n) (by omega) f2 h2
  have e:(PS'.take n++PS.drop n).set n (PS'.getD n [])=PS'.take (n+1)++PS.drop (n+1):=by
   rw [List.set_append_right _ _ (by simp;omega),List.length_take,show n-min n PS'.length=0 by omega,List.drop_eq_getElem_cons (by omega),List.set_cons_zero,List.take_succ_eq_append_getElem (show n<PS'.length by omega),List.append_assoc,show PS'.getD n []=PS'[n]'(by omega)by simp [List.getD,List.getElem?_eq_getElem (show n<PS'.length by omega)]]
   rfl
  rw [e]at h3
  exact⟨O2,_,⟨q,l,sid,pp,_,by rw [show (PS'.take (n+1)++PS.drop (n+1)).length=(PS'.take n++PS.drop n).length by simp;omega],h3⟩,f1.trans f3⟩
theorem CirS.any(h:CirS I O c key PS M own)(PS':List (List Hdr))(M':List MM)(hl:PS'.length=PS.length):∃O' own',CirS I O' c key PS' M' own'/\ Fr O O' own own':=by
 obtain⟨O1,own1,h1,f1⟩:=CirS.pools hI hA h PS' hl PS.length (Nat.le_refl _)
 rw [List.drop_length,List.append_nil,<-hl,List.take_length]at h1
 obtain⟨q,l,sid,pp,ow,rfl,h1⟩:=h1
 obtain⟨O2,sid',h2,f2⟩:=z7v h1.lk (M'.map MM.ml)
 obtain⟨h3,f3⟩:=h1.links' hI f2 h2
 exact⟨O2,_,⟨q,l,sid',pp,_,rfl,h3⟩,f1.trans f3⟩
end
def CirP(I:PI)(O:Store)(c:Nat)(key:Hash)(own:List Nat)(v:AV)(PS:List (List Hdr))(M:List MM)(a:AV)(O':Store):Prop:=a=v/\ ∃own',CirS I O' c key PS M own'/\ Fr O O' own own'
theorem CirP.is{I:PI}(hI:PLoc I)(hA:PAny I){O:Store}{c:Nat}{key:Hash}{PS PS':List (List Hdr)}{M M':List MM}{own:List Nat}(h:CirS I O c key PS M own)(v:AV)(hl:PS'.length=PS.length):∃a O',CirP I O c key own v PS' M' a O':=by
 obtain⟨O',own',h1,h2⟩:=h.any hI hA PS' M' hl
 exact⟨v,O',rfl,own',h1,h2⟩
def isN(n:Nat)(i:Int):Bool:=decide (0<=i/\ i<n)
attribute [local irreducible] ACallsTo ACallsP
theorem lU:(∀(h:Hash),(hc h).length=32)/\ (∀(n:Int) (r:Hash) (i:Int) (s:List UInt8) (x:AV),(sgC n r i s x).length=36)/\ (∀(h:Hdr),(hdrC h).length=36)/\ (∀(H:List Hdr),(hdrs H).length=H.length)/\ (∀(P:List Hdr),(kn P).length=P.length)/\ (∀(l:List NH),(knP l).length=l.length)/\ (∀{α:Type}{i:Nat}{l:List α},(l.take i).length=min i l.length)/\ (∀{α:Type}{i:Nat}{l:List α},(l.drop i).length=l.length-i)/\ (∀{α:Type}{n:Nat}{a:α},(List.replicate n a).length=n)/\ (∀{α β:Type}{f:α->β}{l:List α},(l.map f).length=l.length):=⟨@z8,@zg,@zi,@zh,@zj,@zm,by simp,by simp,by simp,by simp⟩
theorem z5o(O:Store)(c q l n:Nat)(i:Int)(h:O[c]? =some (some [[.sl q 0 n none 1,.ptr l 0 0]])):ACallsTo TC 63 [.ptr c 0 0,.int .i64 i] O (.bool (isN n i)) O:=by
 refine ACallsTo.of_body q42ok (by simp) fun hw _=> ?_
 unfold isN
 by_cases h1:0<=i
 ·have h1':i>=0:=h1
  by_cases h2:i<n
  ·rw [decide_eq_true ⟨h1,h2⟩]
   repeat' (first|apply zA rfl|(apply zd_ rfl<;>intro ht<;>try omega)|((first|apply zB rfl|(apply zG<;>intro ht))<;>try simp (disch:=first|omega|simp only [lz,lU];try omega) only [go_sem,h,h1',h2]))
   exact DownV.same hw rl_b
  ·rw [decide_eq_false fun h=>h2 h.2]
   repeat' (first|apply zA rfl|(apply zd_ rfl<;>intro ht<;>try omega)|((first|apply zB rfl|(apply zG<;>intro ht))<;>try simp (disch:=first|omega|simp only [lz,lU];try omega) only [go_sem,h,h1',h2]))
   exact DownV.same hw rl_b
 ·have h1':¬i>=0:=h1
  rw [decide_eq_false fun h=>h1 h.1]
  repeat' (first|apply zA rfl|(apply zd_ rfl<;>intro ht<;>try omega)|((first|apply zB rfl|(apply zG<;>intro ht))<;>try simp (disch:=first|omega|simp only [lz,lU];try omega) only [go_sem,h1']))
  exact DownV.same hw rl_b
theorem z7k(O:Store)(c q l n:Nat)(h:O[c]? =some (some [[.sl q 0 n none 1,.ptr l 0 0]]))(hn:0<n):ACallsTo TC 62 [.ptr c 0 0] O (.bool false) O:=by
 have h1:((n:Int)==0)=false:=beq_eq_false_iff_ne.2 (by omega)
 refine ACallsTo.of_body q41ok (by simp) fun hw _=> ?_
 repeat' (first|apply zA rfl|(apply zd_ rfl<;>intro ht<;>try omega)|((first|apply zB rfl|(apply zG<;>intro ht))<;>try simp (disch:=first|omega|simp only [lz,lU];try omega) only [go_sem,h,h1]))
 exact DownV.same hw rl_b
section
variable {O:Store} {c:Nat} {key:Hash} {PS:List (List Hdr)} {M:List MM} {own:List Nat}
theorem ziy(h:CirS PoIs O c key PS M own)(hn:0<PS.length)(hl:M.length<1000000):ACallsTo TC 26 [.ptr c 0 0] O (.int .i64 M.length) O:=by
 obtain⟨q,l,sid,pp,ow,rfl,h⟩:=h
 have hN:=z7k O c q l _ h.obj hn
 have hM:=zvk O l PS.length sid (M.map MM.ml) h.lk (by omega) (by simpa using hl)
 have ho:=h.obj
 have hln:(M.map MM.ml).length=M.length:=List.length_map ..
 have hsl:z1f (slOf (z6v O (M.map MM.ml)) (M.map MM.ml).length 3)=some (.int .i64 M.length):=by
  unfold z6v
  split
  ·rename_i h0
   have:M.length=0:=by rw [<-hln,h0];rfl
   rw [this];rfl
  ·rw [hln];rfl
 unfold z1f at hsl
 generalize slOf (z6v O (M.map MM.ml)) (M.map MM.ml).length 3=x at*
 refine ACallsTo.of_body q3tok (by simp) fun hw _=> ?_
 repeat' (first|apply zA rfl|(apply zd_ rfl<;>intro ht<;>try omega)|((first|apply zB rfl|(apply callW.mk_pu;(first|exact(fun _=>hN)|exact(fun _=>hM)))|(apply callW.za;(first|exact(hN)|exact(hM)))|(apply zG<;>intro ht))<;>try simp (disch:=first|omega|simp only [lz,lU];try omega) only [go_sem,ho,hsl]))
 exact DownV.pure hw rl_i
def z34(n:Nat)(M:List MM)(i:Int):List MM:=if atS n M.length i=0 then M.eraseIdx i.toNat else M
theorem z95(n:Nat)(M:List MM)(i:Int):(z34 n M i).map MM.ml=delL n (M.map MM.ml) i:=by
 unfold z34 delL
 rw [List.length_map]
 split
 ·rw [List.eraseIdx_eq_take_drop_succ,List.eraseIdx_eq_take_drop_succ,List.map_append,List.map_take,List.map_drop]
 ·rfl
theorem zrr(h:CirS PoIs O c key PS M own)(hn:0<PS.length)(hl:M.length<1000000)(i:Int):ACallsP TC 24 [.ptr c 0 0,.int .i64 i] O (CirP PoIs O c key own (.int .i64 (atS PS.length M.length i)) PS (z34 PS.length M i)):=by
 obtain⟨q,l,sid,pp,ow,rfl,h⟩:=h
 have hN:=z7k O c q l _ h.obj hn
 have hM:=zvh O l PS.length i sid (M.map MM.ml) h.lk (by simpa using hl)
 have ho:=h.obj
 refine ACallsP.of_keep q3rok (by simp) ?_
 repeat' (first|apply zA rfl|(apply zd_ rfl<;>intro ht<;>try omega)|((first|apply zB rfl|(apply callW.mk_pu;exact(fun _=>hN))|(apply callW.za;exact(hN))|(apply zG<;>intro ht))<;>try simp (disch:=first|omega|simp only [lz,lU];try omega) only [go_sem,ho]))
 refine callW.mkP (caps:=[]) hM ?_ ?_
 ·obtain⟨O',k⟩:=zep h.lk (delL PS.length (M.map MM.ml) i) (fun e=>by subst e;exact zjj h.lk)
  exact⟨_,O',rfl,k⟩
 rintro v O' ⟨rfl,k1,k2⟩
 rw [<-z95]at k1
 obtain⟨h1,h2⟩:=h.links' ploc_is k2 k1
 rw [List.length_map]
 simp (disch:=first|omega|simp only [lz,lU];try omega) only [go_sem]
 repeat' (first|apply zA rfl|(apply zd_ rfl<;>intro ht<;>try omega)|((first|apply zB rfl|(apply zG<;>intro ht))<;>try simp (disch:=first|omega|simp only [lz,lU];try omega) only [go_sem]))
 exact⟨rfl,_,⟨q,l,sid,pp,_,rfl,h1⟩,h2⟩
theorem ze9(M:List MM)(i:Nat)(h:i<M.length):(M.map MM.ml).getD i ⟨0,0,[]⟩=(M.getD i ⟨0,0,.kn []⟩).ml:=by
 simp [List.getD,h]
def dblI(n:Nat)(M:List MM)(i:Int):Int:=dblS n (M.map MM.ml) i
def z5q(n:Nat)(M:List MM)(i:Int):List MM:=if dblI n M i=0 then M++ [M.getD i.toNat ⟨0,0,.kn []⟩]else M
theorem zdx{M:List MM}{i:Int}(h:dblI n M i=0):atS n M.length i=0:=by
 unfold dblI dblS at h
 rw [List.length_map]at h
 by_cases h2:atS n M.length i=0
 ·exact h2
 ·rw [if_neg h2]at h;exact h
theorem zji(n:Nat)(M:List MM)(i:Int):(z5q n M i).map MM.ml=if dblS n (M.map MM.ml) i=0 then M.map MM.ml++ [(M.map MM.ml).getD i.toNat ⟨0,0,[]⟩]else M.map MM.ml:=by
 unfold z5q
 by_cases h:dblI n M i=0
 ·obtain⟨_,h1,h2⟩:=z4m (zdx h)
  rw [if_pos h,if_pos (show dblS n (M.map MM.ml) i=0 from h),List.map_append,ze9 M _ (by omega)];rfl
 ·rw [if_neg h,if_neg (show ¬dblS n (M.map MM.ml) i=0 from h)]
theorem zrq(h:CirS PoIs O c key PS M own)(hn:0<PS.length)(hl:M.length<1000000)(i:Int):ACallsP TC 25 [.ptr c 0 0,.int .i64 i] O (CirP PoIs O c key own (.int .i64 (dblI PS.length M i)) PS (z5q PS.length M i)):=by
 obtain⟨q,l,sid,pp,ow,rfl,h⟩:=h
 have hN:=z7k O c q l _ h.obj hn
 have hM:=zvg O l PS.length i sid (M.map MM.ml) h.lk (by simpa using hl)
 have ho:=h.obj
 refine ACallsP.of_keep q3sok (by simp) ?_
 repeat' (first|apply zA rfl|(apply zd_ rfl<;>intro ht<;>try omega)|((first|apply zB rfl|(apply callW.mk_pu;exact(fun _=>hN))|(apply callW.za;exact(hN))|(apply zG<;>intro ht))<;>try simp (disch:=first|omega|simp only [lz,lU];try omega) only [go_sem,ho]))
 refine callW.mkP (caps:=[]) hM ?_ ?_
 ·obtain⟨O',sid',k⟩:=z7v h.lk (if dblS PS.length (M.map MM.ml) i=0 then M.map MM.ml++ [(M.map MM.ml).getD i.toNat ⟨0,0,[]⟩]else M.map MM.ml)
  exact⟨_,O',rfl,sid',k⟩
 rintro v O' ⟨rfl,sid',k1,k2⟩
 rw [<-zji]at k1
 obtain⟨h1,h2⟩:=h.links' ploc_is k2 k1
 rw [show dblS PS.length (M.map MM.ml) i=dblI PS.length M i from rfl]
 simp (disch:=first|omega|simp only [lz,lU];try omega) only [go_sem]
 repeat' (first|apply zA rfl|(apply zd_ rfl<;>intro ht<;>try omega)|((first|apply zB rfl|(apply zG<;>intro ht))<;>try simp (disch:=first|omega|simp only [lz,lU];try omega) only [go_sem]))
 exact⟨rfl,_,⟨q,l,sid',pp,_,rfl,h1⟩,h2⟩
end
end
variable {PS:List (List Hdr)}
section
theorem POk.val{key:Hash}{P:List Hdr}(h:POk key P):∀q ∈ P,valH q=true:=fun q hq=>by
 have:=h.chk q hq
 unfold z1s at this
 cases e:z1w q.n q.i q.s q.p
 ·rw [if_pos e]at this;cases this
 ·exact e
theorem val_nh{q:Hdr}(h:valH q=true):nhOk (q.n,q.r)=true:=by
 obtain⟨h1,h2,_⟩:=of_decide_eq_true h
 exact decide_eq_true ⟨h1,h2⟩
theorem POk.nh{key:Hash}{P:List Hdr}(h:POk key P):∀p ∈ hns P,nhOk p=true:=fun p hp=>by
 obtain⟨q,hq,rfl⟩:=List.mem_map.1 hp
 exact val_nh (h.val q hq)
def POks(key:Hash)(PS:List (List Hdr)):Prop:=∀i,i<PS.length->POk key (PS.getD i [])
theorem POks.set{key:Hash}(h:POks key PS)(i:Nat){P:List Hdr}(hP:POk key P):POks key (PS.set i P):=fun j hj=>by
 rw [List.length_set]at hj
 by_cases e:i=j
 ·subst e;rw [show (PS.set i P).getD i []=P by simp [List.getD,hj]];exact hP
 ·rw [show (PS.set i P).getD j []=PS.getD j []by simp [List.getD,List.getElem?_set_ne e]];exact h j hj
def lrnC(key:Hash)(PS:List (List Hdr))(i:Int)(q:Hdr):Int:=if isN PS.length i=true then addC key (PS.getD i.toNat []) q else 0
def lrnS(key:Hash)(PS:List (List Hdr))(i:Int)(q:Hdr):List (List Hdr):=if isN PS.length i=true then PS.set i.toNat (addL key (PS.getD i.toNat []) q)else PS
theorem z48(key:Hash)(PS:List (List Hdr))(i:Int)(q:Hdr):(lrnS key PS i q).length=PS.length:=by unfold lrnS;split<;>simp
theorem zeq{key:Hash}(h:POks key PS)(i:Int)(q:Hdr):POks key (lrnS key PS i q):=by
 unfold lrnS
 split
 ·rename_i hn
  obtain⟨h1,h2⟩:=of_decide_eq_true hn
  exact h.set _ ((h i.toNat (by omega)).add q)
 ·exact h
theorem z3x{i:Int}(h:isN n i=true):∃k:Nat,i=k/\ k<n:=by
 obtain⟨h1,h2⟩:=of_decide_eq_true h
 exact⟨i.toNat,by omega,by omega⟩
theorem z3c{pp:List Nat}(h:i<pp.length):(pp.map fun p=>[AV.ptr p 0 0])[i]? =some [.ptr (pp.getD i 0) 0 0]:=by
 simp [h,List.getD]
def twoN(n:Nat)(i k:Int):Bool:=isN n i && isN n k && !decide (i=k)
def tlkM(PS:List (List Hdr))(i k:Int):MM:=⟨i.toNat,k.toNat,.kn (hns (PS.getD i.toNat []))⟩
def tlkI(PS:List (List Hdr))(M:List MM)(i k:Int):Int:=if twoN PS.length i k=true then z1t PS.length M.length (tlkM PS i k).ml else 2
def z4y(PS:List (List Hdr))(M:List MM)(i k:Int):List MM:=if tlkI PS M i k=0 then M++ [tlkM PS i k]else M
attribute [local irreducible] ACallsTo ACallsP
section
variable {O:Store} {c:Nat} {key:Hash} {PS:List (List Hdr)} {M:List MM} {own:List Nat}
theorem zb3(h:CirS PoIs O c key PS M own)(hok:POks key PS)(i:Int)(q:Hdr)(x:AV)(hx:SlV 32 (hr q.p) x)(hxl:q.p.length<1000000):ACallsP TC 21 [.ptr c 0 0,.int .i64 i,.agg (sgC q.n q.r q.i q.s x)] O (CirP PoIs O c key own (.int .i64 (lrnC key PS i q)) (lrnS key PS i q) M):=by
 have hfin:=h
 obtain⟨Q,l,sid,pp,ow,rfl,h⟩:=h
 have hb:=fun y=>z5o (O++y) c Q l PS.length i (by rw [gapp (slen h.obj)];exact h.obj)
 have hb0:=z5o O c Q l PS.length i h.obj
 have ho:=h.obj
 have lq:=zg q.n q.r q.i q.s x
 have hco:=slen h.obj
 refine ACallsP.of_keep q3ook (by simp) ?_
 unfold lrnC lrnS
 by_cases hi:isN PS.length i=true
 ·rw [if_pos hi,if_pos hi]
  obtain⟨k,rfl,hk⟩:=z3x hi
  rw [hi]at hb hb0
  have hr:=h.row
  have hrl:=slen hr
  have hpp:=z3c (pp:=pp) (i:=k) (by rw [h.len];exact hk)
  have hpl:(pp.map fun p=>[AV.ptr p 0 0]).length=PS.length:=by rw [List.length_map,h.len]
  have E:Ext O (O++ [some [sgC q.n q.r q.i q.s x]]):=⟨_,rfl⟩
  have tq:(sgC q.n q.r q.i q.s x).take 36=sgC q.n q.r q.i q.s x:=List.take_of_length_le (by omega)
  have hk':(k:Int)<PS.length:=by omega
  repeat' (first|apply zA rfl|(apply zd_ rfl<;>intro ht<;>try omega)|((first|apply zB rfl|(apply callW.mk_pu;exact(fun _=>hb _))|(apply callW.za;exact(hb _))|(apply zG<;>intro ht))<;>try simp (disch:=first|omega|simp only [lz,lU];try omega) only [go_sem,ho,hr,hpp,lq,tq,hk']))
  have hP:=ploc_is.keep (h.pool k hk) (O':=O++ [some [sgC q.n q.r q.i q.s x]]) fun j hj=>gapp (ploc_is.lt (h.pool k hk) j hj)
  refine callW.mkP (caps:=[]) (zf7 _ (pp.getD k 0) key _ _ q x hP (hok k hk).sort (hok k hk).len hx hxl (fun e=>zb8 e)) (PoAddP.is hP) ?_
  rintro v O' ⟨rfl,o,f1,P1⟩
  have f2:Fr O O' (ow (k+2)) o:=(Fr.ext E).trans f1
  obtain⟨h1,h2⟩:=h.pool' ploc_is hk f2 P1
  simp (disch:=first|omega|simp only [lz,lU];try omega) only [go_sem]
  repeat' (first|apply zA rfl|(apply zd_ rfl<;>intro ht<;>try omega)|((first|apply zB rfl|(apply zG<;>intro ht))<;>try simp (disch:=first|omega|simp only [lz,lU];try omega) only [go_sem]))
  exact⟨rfl,_,⟨Q,l,sid,pp,_,by rw [List.length_set],h1⟩,h2⟩
 ·rw [if_neg hi,if_neg hi]
  rw [Bool.eq_false_iff.2 hi]at hb hb0
  repeat' (first|apply zA rfl|(apply zd_ rfl<;>intro ht<;>try omega)|((first|apply zB rfl|(apply callW.mk_pu;exact(fun _=>hb _))|(apply callW.za;exact(hb _))|(apply zG<;>intro ht))<;>try simp (disch:=first|omega|simp only [lz,lU];try omega) only [go_sem]))
  exact⟨rfl,_,hfin.ext ploc_is ⟨_,rfl⟩,Fr.ext ⟨_,rfl⟩⟩
theorem zj0(h:CirS PoIs O c key PS M own)(i:Int)(hi:isN PS.length i=false):ACallsTo TC 27 [.ptr c 0 0,.int .i64 i] O .nilp O:=by
 obtain⟨Q,l,sid,pp,ow,rfl,h⟩:=h
 have hb:=z5o O c Q l PS.length i h.obj
 rw [hi]at hb
 refine ACallsTo.of_body q3uok (by simp) fun hw _=> ?_
 repeat' (first|apply zA rfl|(apply zd_ rfl<;>intro ht<;>try omega)|((first|apply zB rfl|(apply callW.mk_pu;exact(fun _=>hb))|(apply callW.za;exact(hb))|(apply zG<;>intro ht))<;>try simp (disch:=first|omega|simp only [lz,lU];try omega) only [go_sem]))
 exact DownV.same hw (by simp [RL])
theorem zdk(h:CirS PoIs O c key PS M own)(hok:POks key PS)(k:Nat)(hk:k<PS.length):ACallsP TC 27 [.ptr c 0 0,.int .i64 k] O (PoCopyP O key (PS.getD k [])):=by
 obtain⟨Q,l,sid,pp,ow,rfl,h⟩:=h
 have hb:=z5o O c Q l PS.length k h.obj
 rw [show isN PS.length k=true from decide_eq_true ⟨by omega,by omega⟩]at hb
 have ho:=h.obj
 have hr:=h.row
 have hpp:=z3c (pp:=pp) (i:=k) (by rw [h.len];exact hk)
 have hpl:(pp.map fun p=>[AV.ptr p 0 0]).length=PS.length:=by rw [List.length_map,h.len]
 have hk':(k:Int)<PS.length:=by omega
 have hl:=(hok k hk).len
 refine ACallsP.of_keep q3uok (by simp) ?_
 repeat' (first|apply zA rfl|(apply zd_ rfl<;>intro ht<;>try omega)|((first|apply zB rfl|(apply callW.mk_pu;exact(fun _=>hb))|(apply callW.za;exact(hb))|(apply zG<;>intro ht))<;>try simp (disch:=first|omega|simp only [lz,lU];try omega) only [go_sem,ho,hr,hpp,hk']))
 refine callW.mkP (caps:=[]) (zy1 O (pp.getD k 0) key _ _ (h.pool k hk) (by omega) (hok k hk).path) (PoCopyP.is _ _ _) ?_
 rintro v O' ⟨p,o,rfl,hE,hP,ho⟩
 simp (disch:=first|omega|simp only [lz,lU];try omega) only [go_sem]
 repeat' (first|apply zA rfl|(apply zd_ rfl<;>intro ht<;>try omega)|((first|apply zB rfl|(apply zG<;>intro ht))<;>try simp (disch:=first|omega|simp only [lz,lU];try omega) only [go_sem]))
 exact⟨p,o,rfl,hE,hP,ho⟩
theorem zdm(h:CirS PoIs O c key PS M own)(hok:POks key PS)(hn:0<PS.length)(hl:M.length<1000000)(i k:Int):ACallsP TC 22 [.ptr c 0 0,.int .i64 i,.int .i64 k] O (CirP PoIs O c key own (.int .i64 (tlkI PS M i k)) PS (z4y PS M i k)):=by
 have hfin:=h
 obtain⟨Q,l,sid,pp,ow,rfl,h⟩:=h
 have hN:=z7k O c Q l _ h.obj hn
 have hbi:=z5o O c Q l PS.length i h.obj
 have hbk:=z5o O c Q l PS.length k h.obj
 have ho:=h.obj
 refine ACallsP.of_keep q3pok (by simp) ?_
 unfold z4y
 unfold tlkI
 by_cases ht:twoN PS.length i k=true
 ·rw [if_pos ht]
  unfold twoN at ht
  simp only [Bool.and_eq_true,Bool.not_eq_true',decide_eq_false_iff_not]at ht
  obtain⟨⟨hi,hk⟩,hne⟩:=ht
  rw [hi]at hbi
  rw [hk]at hbk
  obtain⟨a,rfl,ha⟩:=z3x hi
  obtain⟨b,rfl,hb⟩:=z3x hk
  have hne':((a:Int)==b)=false:=beq_eq_false_iff_ne.2 hne
  have hr:=h.row
  have hpp:=z3c (pp:=pp) (i:=a) (by rw [h.len];exact ha)
  have hpl:(pp.map fun p=>[AV.ptr p 0 0]).length=PS.length:=by rw [List.length_map,h.len]
  have ha':(a:Int)<PS.length:=by omega
  have hpo:=hok a ha
  have hpol:=hpo.len
  have hK:=zfa O (pp.getD a 0) key _ _ (h.pool a ha) (by omega)
  have hPK:=zpv O (hns (PS.getD a [])) (zz 33 (kn (PS.getD a []))) (by rw [<-zbl];exact z1l _ _) (by rw [z7r];omega) hpo.nh
  have hS:=zeo O l PS.length sid (M.map MM.ml) (tlkM PS a b).ml h.lk
  have hE:=z7t (m:=(tlkM PS a b).ml) h.lk
  rw [List.length_map]at hS hE
  have hml:(tlkM PS a b).ml=⟨(a:Int),(b:Int),knS (hns (PS.getD a []))⟩:=rfl
  have hargs:mailC (tlkM PS a b).ml=[.int .i64 (a:Int),.int .i64 (b:Int),.str (knS (hns (PS.getD a [])))]:=by rw [hml];rfl
  rw [hargs]at hS
  have hmm:(if z1t PS.length M.length (tlkM PS a b).ml=0 then M.map MM.ml++ [(tlkM PS a b).ml]else M.map MM.ml)=(if z1t PS.length M.length (tlkM PS a b).ml=0 then M++ [tlkM PS a b]else M).map MM.ml:=by
   split
   ·rw [List.map_append];rfl
   ·rfl
  generalize z1t PS.length M.length (tlkM PS a b).ml=e at*
  generalize tlkM PS a b=m at*
  generalize knS (hns (PS.getD a []))=txt at*
  repeat' (first|apply zA rfl|(apply zd_ rfl<;>intro ht<;>try omega)|((first|apply zB rfl|(apply callW.mk_pu;(first|exact(fun _=>hN)|exact(fun _=>hbi)|exact(fun _=>hbk)|exact(fun _=>hK)|exact(fun _=>hPK)))|(apply callW.za;(first|exact(hN)|exact(hbi)|exact(hbk)|exact(hK)|exact(hPK)))|(apply zG<;>intro ht))<;>try simp (disch:=first|omega|simp only [lz,lU];try omega) only [go_sem,ho,hr,hpp,ha',hne']))
  refine callW.mkP (caps:=[]) hS hE ?_
  rintro v O' ⟨rfl,sid',k1,k2⟩
  rw [hmm]at k1
  obtain⟨h1,h2⟩:=h.links' ploc_is k2 k1
  simp (disch:=first|omega|simp only [lz,lU];try omega) only [go_sem]
  repeat' (first|apply zA rfl|(apply zd_ rfl<;>intro ht<;>try omega)|((first|apply zB rfl|(apply zG<;>intro ht))<;>try simp (disch:=first|omega|simp only [lz,lU];try omega) only [go_sem]))
  exact⟨rfl,_,⟨Q,l,sid',pp,_,rfl,h1⟩,h2⟩
 ·rw [if_neg ht]
  rw [if_neg (by decide)]
  have hres:CirP PoIs O c key (z1v (PS.length+2) ow) (.int .i64 2) PS M (.int .i64 2) O:=⟨rfl,_,hfin,⟨fun _ _ _=>rfl,fun _ h=> .inl h,Nat.le_refl _⟩⟩
  cases hi:isN PS.length i
  ·rw [hi]at hbi
   repeat' (first|apply zA rfl|(apply zd_ rfl<;>intro ht<;>try omega)|((first|apply zB rfl|(apply callW.mk_pu;(first|exact(fun _=>hN)|exact(fun _=>hbi)))|(apply callW.za;(first|exact(hN)|exact(hbi)))|(apply zG<;>intro ht))<;>try simp (disch:=first|omega|simp only [lz,lU];try omega) only [go_sem]))
   exact hres
  ·rw [hi]at hbi
   cases hk:isN PS.length k
   ·rw [hk]at hbk
    repeat' (first|apply zA rfl|(apply zd_ rfl<;>intro ht<;>try omega)|((first|apply zB rfl|(apply callW.mk_pu;(first|exact(fun _=>hN)|exact(fun _=>hbi)|exact(fun _=>hbk)))|(apply callW.za;(first|exact(hN)|exact(hbi)|exact(hbk)))|(apply zG<;>intro ht))<;>try simp (disch:=first|omega|simp only [lz,lU];try omega) only [go_sem]))
    exact hres
   ·rw [hk]at hbk
    have hik:i=k:=by
     unfold twoN at ht
     rw [hi,hk]at ht
     simpa using ht
    subst hik
    have hee:((i:Int)==i)=true:=by simp
    repeat' (first|apply zA rfl|(apply zd_ rfl<;>intro ht<;>try omega)|((first|apply zB rfl|(apply callW.mk_pu;(first|exact(fun _=>hN)|exact(fun _=>hbi)))|(apply callW.za;(first|exact(hN)|exact(hbi)))|(apply zG<;>intro ht))<;>try simp (disch:=first|omega|simp only [lz,lU];try omega) only [go_sem,hee]))
    exact hres
end
end
section
def z19(key:Hash)(P:List Hdr)(l:List Hdr):List Hdr:=l.foldl (addL key) P
theorem z50{key:Hash}{P:List Hdr}(h:POk key P):∀l,POk key (z19 key P l):=fun l=>by
 induction l generalizing P with
 |nil=>exact h
 |cons q l ih=>exact ih (h.add q)
theorem zar{key:Hash}{P l:List Hdr}(h:i<l.length):z19 key P (l.take (i+1))=addL key (z19 key P (l.take i)) l[i]:=by
 unfold z19;rw [List.take_succ_eq_append_getElem h,List.foldl_append];rfl
def z8c(key:Hash)(PS:List (List Hdr))(m:MM):List (List Hdr):=match m.k with| .gt l=>PS.set m.t (z19 key (PS.getD m.t []) l)| .kn _=>PS
def repM(PS:List (List Hdr))(m:MM)(l:List NH):MM:=⟨m.t,m.f,.gt (z1a (PS.getD m.t []) l)⟩
def z4w(PS:List (List Hdr))(M:List MM)(m:MM):List MM:=match m.k with
 | .gt _=>M
 | .kn l=>if z1a (PS.getD m.t []) l ≠ []/\ z1t PS.length M.length (repM PS m l).ml=0 then M++ [repM PS m l]else M
theorem zoo(key:Hash)(PS:List (List Hdr))(m:MM):(z8c key PS m).length=PS.length:=by unfold z8c;split<;>simp
theorem z12p{key:Hash}(h:POks key PS)(m:MM)(ht:m.t<PS.length):POks key (z8c key PS m):=by
 unfold z8c
 split
 ·exact h.set _ (z50 (h _ ht) _)
 ·exact h
theorem z7o(h:i<PS.length)(P:List Hdr):(PS.set i P).getD i []=P:=by simp [List.getD,h]
theorem zp6{q:Hdr}(h:valH q=true):q.p.length=3:=(of_decide_eq_true h).2.2.2.2.2
attribute [local irreducible] ACallsTo ACallsP
section
variable {O:Store} {c:Nat} {key:Hash} {PS:List (List Hdr)} {M:List MM} {own:List Nat}
theorem zsf(h:CirS PoIs O c key PS M own)(hok:POks key PS)(f t:Nat)(l:List Hdr)(ht:t<PS.length)(hk:(MT.gt l).Ok):
  ACallsP TC 68 [.ptr c 0 0,.agg [.int .i64 f,.int .i64 t,.str (gtS l)]] O (CirP PoIs O c key own (.tup []) (PS.set t (z19 key (PS.getD t []) l)) M):=by
 obtain⟨k0,k3,kv⟩:=hk
 have hG:=fun O=>ztp O l k0 k3 kv
 have hsv:=z1l 36 (hdrs l)
 have r1:=hsv.len
 rw [zh]at r1
 unfold z1f at r1
 generalize zz 36 (hdrs l)=X at*
 generalize gtS l=txt at*
 have hcl:=h.lt ploc_is
 refine ACallsP.of_keep zfj (by simp) ?_
 repeat' (first|apply zA rfl|(apply zd_ rfl<;>intro ht<;>try omega)|((first|apply zB rfl|(apply callW.mk_pu;exact(fun _=>hG _))|(apply callW.za;exact(hG _))|(apply zG<;>intro ht))<;>try simp (disch:=first|omega|simp only [lz,lU];try omega) only [go_sem,r1]))
 refine zW.loop (fun m J O'=>∃(i:Nat) (own':List Nat),m+i=l.length/\ CirS PoIs O' c key (PS.set t (z19 key (PS.getD t []) (l.take i))) M own'/\ Fr O O' own own'/\ O'[O.length]? =some (some [[.int .i64 (f:Int),.int .i64 (t:Int),.str txt]])/\ O.length ∉ own'/\ J 0=.ptr c 0 0/\ J 3=.ptr O.length 0 0/\ J 20=X/\ J 21=.int .i64 l.length/\ J 22=.int .i64 i) l.length ?_ ?_
 ·refine⟨0,own,by omega,?_,Fr.ext ⟨_,rfl⟩,by rw [z18 (Nat.le_refl _),Nat.sub_self];rfl,fun e=>by have:=hcl _ e;omega,by simp only [go_sem],by simp only [go_sem],by simp only [go_sem],by simp only [go_sem],by simp only [go_sem];try rfl⟩
  rw [show PS.set t (z19 key (PS.getD t []) (l.take 0))=PS by
   rw [show z19 key (PS.getD t []) (l.take 0)=PS.getD t []from rfl]
   apply List.ext_getElem?
   intro j
   by_cases e:t=j
   ·subst e;simp [List.getD,ht]
   ·rw [List.getElem?_set_ne e]]
  exact h.ext ploc_is ⟨_,rfl⟩
 ·rintro m J O' ⟨i,own',hm,hS,hF,hB,hnB,q0,q3,q20,q21,q22⟩
  by_cases hi:i<l.length
  ·obtain⟨ex,rfl⟩:=hsv.vsl (by rw [zh];omega)
   have hgi:=z2w hi
   have hst:=zar (key:=key) (P:=PS.getD t []) hi
   have hvu:=kv l[i] (List.getElem_mem hi)
   have hdl:=zh l
   generalize l[i]=u at*
   have hup:=zp6 hvu
   have hul:=zi u
   have ua:(hdrC u).take 36=hdrC u:=z30 u
   have hi':(i:Int)<l.length:=by omega
   obtain⟨Q,lk,sid,pp,ow,rfl,hC⟩:=hS
   have hlen:(PS.set t (z19 key (PS.getD t []) (l.take i))).length=PS.length:=List.length_set ..
   have htt:t<(PS.set t (z19 key (PS.getD t []) (l.take i))).length:=by omega
   have hpoolI:=hC.pool t htt
   rw [z7o ht]at hpoolI
   have hpok:=z50 (hok t ht) (l.take i)
   have ho:=hC.obj
   have hrw:=hC.row
   rw [hlen]at ho
   have hppl:pp.length=PS.length:=by rw [hC.len,hlen]
   have hpp:=z3c (pp:=pp) (i:=t) (by omega)
   have hpl:(pp.map fun p=>[AV.ptr p 0 0]).length=PS.length:=by rw [List.length_map,hppl]
   have ht':(t:Int)<PS.length:=by omega
   have dB:=slen hB
   have dc:=slen ho
   have dq:=slen hrw
   have E:Ext O' (O'++ [some [hdrC u]]):=⟨_,rfl⟩
   repeat' (first|apply zA rfl|(apply zd_ rfl<;>intro ht<;>try omega)|((first|apply zB rfl|(apply zG<;>intro ht))<;>try simp (disch:=first|omega|simp only [lz,lU];try omega) only [go_sem,q0,q3,q20,q21,q22,hgi,hul,ua,hi',ho,hrw,hpp,ht',hB]))
   have hP:=ploc_is.keep hpoolI (O':=O'++ [some [hdrC u]]) fun j hj=>gapp (ploc_is.lt hpoolI j hj)
   have hAdd:=zf7 _ (pp.getD t 0) key _ _ u _ hP hpok.sort hpok.len (z1l _ _) (by omega) (fun e=>zb8 e)
   rw [show sgC u.n u.r u.i u.s (zz 32 (hr u.p))=hdrC u from rfl]at hAdd
   refine callW.mkP (caps:=[]) hAdd (PoAddP.is hP) ?_
   rintro v O2 ⟨rfl,o,f1,P1⟩
   have f2:Fr O' O2 (ow (t+2)) o:=(Fr.ext E).trans f1
   obtain⟨h1,h2⟩:=hC.pool' ploc_is htt f2 P1
   rw [List.set_set,<-hst]at h1
   have hnB2:=h2.nin dB hnB
   have hB2:=h2.get hB hnB
   have hF2:=hF.trans h2
   have hS2:CirS PoIs O2 c key (PS.set t (z19 key (PS.getD t []) (l.take (i+1)))) M (z1v ((PS.set t (z19 key (PS.getD t []) (l.take i))).length+2) (updO ow (t+2) o)):=⟨Q,lk,sid,pp,_,by rw [List.length_set,List.length_set],h1⟩
   generalize z1v ((PS.set t (z19 key (PS.getD t []) (l.take i))).length+2) (updO ow (t+2) o)=own2 at*
   simp (disch:=first|omega|simp only [lz,lU];try omega) only [go_sem]
   repeat' (first|apply zA rfl|(apply zd_ rfl<;>intro ht<;>try omega)|((first|apply zB rfl|(apply zG<;>intro ht))<;>try simp (disch:=first|omega|simp only [lz,lU];try omega) only [go_sem,q0,q3,q20,q21,q22]))
   exact⟨m-1,by omega,i+1,own2,by omega,hS2,hF2,hB2,hnB2,by simp⟩
  ·rw [List.take_of_length_le (by omega)]at hS
   have hi':¬(i:Int)<l.length:=by omega
   repeat' (first|apply zA rfl|(apply zd_ rfl<;>intro ht<;>try omega)|((first|apply zB rfl|(apply zG<;>intro ht))<;>try simp (disch:=first|omega|simp only [lz,lU];try omega) only [go_sem,q21,q22,hi']))
   exact⟨rfl,own',hS,hF⟩
theorem zvs{P:List Hdr}(l:List NH)(h:z1a P l ≠ []):(MT.gt (z1a P l)).Ok:=⟨h,z6w P l,fun q hq=>(z7w hq).2.1⟩
theorem zsg(h:CirS PoIs O c key PS M own)(hok:POks key PS)(f t:Nat)(l:List NH)(ht:t<PS.length)(hk:(MT.kn l).Ok):
  ACallsP TC 68 [.ptr c 0 0,.agg [.int .i64 f,.int .i64 t,.str (knS l)]] O (CirP PoIs O c key own (.tup []) PS (z4w PS M ⟨f,t,.kn l⟩)):=by
 have hfin:=h
 obtain⟨Q,lk,sid,pp,ow,rfl,hC⟩:=h
 obtain⟨k1,k2⟩:=hk
 have hG:=fun O=>zto O (numS l.length++z1y l) (by have:=z1u l.length;have:=z4r l;rw [List.length_append];omega)
 rw [show 68::(numS l.length++z1y l)=knS l from rfl]at hG
 have hGK:=fun O=>ztn O l k1 k2
 have hcl:=hC.lt ploc_is
 have ho:=hC.obj
 have hrw:=hC.row
 have dc:=slen ho
 have dq:=slen hrw
 have hpo:=hok t ht
 have hpol:=hpo.len
 have hpp:=z3c (pp:=pp) (i:=t) (by rw [hC.len];exact ht)
 have hpl:(pp.map fun p=>[AV.ptr p 0 0]).length=PS.length:=by rw [List.length_map,hC.len]
 have ht':(t:Int)<PS.length:=by omega
 have E:Ext O (O++ [some [[.int .i64 (f:Int),.int .i64 (t:Int),.str (knS l)]]]):=⟨_,rfl⟩
 have hB:(O++ [some [[.int .i64 (f:Int),.int .i64 (t:Int),.str (knS l)]]])[O.length]? =some (some [[.int .i64 (f:Int),.int .i64 (t:Int),.str (knS l)]]):=by rw [z18 (Nat.le_refl _),Nat.sub_self];rfl
 have hP:=ploc_is.keep (hC.pool t ht) (O':=O++ [some [[.int .i64 (f:Int),.int .i64 (t:Int),.str (knS l)]]]) fun j hj=>gapp (ploc_is.lt (hC.pool t ht) j hj)
 have hH:=zf9 _ (pp.getD t 0) key _ _ hP (by omega) hpo.path
 have hM:=fun O=>zhp O (PS.getD t []) l (zz 36 (hdrs (PS.getD t []))) (zz 33 (knP l)) (z1l _ _) (z1l _ _) (by omega) (by omega) hpo.path
 have hPt:=fun O=>ztq O (z1a (PS.getD t []) l) _ (z1l _ _) (z6w _ _) fun q hq=>(z7w hq).2.1
 unfold z4w
 dsimp only
 have hrm:(repM PS ⟨f,t,.kn l⟩ l).ml=⟨(t:Int),(f:Int),gtS (z1a (PS.getD t []) l)⟩:=rfl
 by_cases h0:z1a (PS.getD t []) l=[]
 ·rw [if_neg fun h=>h.1 h0]
  rw [h0,zc0]at hPt
  rw [h0]at hM
  refine ACallsP.of_keep zfj (by simp) ?_
  repeat' (first|apply zA rfl|(apply zd_ rfl<;>intro ht<;>try omega)|((first|apply zB rfl|(apply callW.mk_pu;(first|exact(fun _=>hG _)|exact(fun _=>hGK _)|exact(fun _=>hH)|exact(fun _=>hM _)|exact(fun _=>hPt _)))|(apply callW.za;(first|exact(hG _)|exact(hGK _)|exact(hH)|exact(hM _)|exact(hPt _)))|(apply zG<;>intro ht))<;>try simp (disch:=first|omega|simp only [lz,lU];try omega) only [go_sem,ho,hrw,hpp,ht',hB]))
  exact⟨rfl,_,hfin.ext ploc_is E,Fr.ext E⟩
 ·rw [zc1 h0 fun q hq=>(z7w hq).2.1]at hPt
  have hlk:=hC.lk.keep (O':=O++ [some [[.int .i64 (f:Int),.int .i64 (t:Int),.str (knS l)]]]) fun x hx=>gapp (hC.lk.lt2 x hx)
  have hS:=zeo _ lk PS.length sid (M.map MM.ml) (repM PS ⟨f,t,.kn l⟩ l).ml hlk
  have hE:=z7t (m:=(repM PS ⟨f,t,.kn l⟩ l).ml) hlk
  rw [List.length_map]at hS hE
  have hargs:mailC (repM PS ⟨f,t,.kn l⟩ l).ml=[.int .i64 (t:Int),.int .i64 (f:Int),.str (gtS (z1a (PS.getD t []) l))]:=by rw [hrm];rfl
  rw [hargs]at hS
  have hmm:(if z1t PS.length M.length (repM PS ⟨f,t,.kn l⟩ l).ml=0 then M.map MM.ml++ [(repM PS ⟨f,t,.kn l⟩ l).ml]else M.map MM.ml)=(if z1a (PS.getD t []) l ≠ []/\ z1t PS.length M.length (repM PS ⟨f,t,.kn l⟩ l).ml=0 then M++ [repM PS ⟨f,t,.kn l⟩ l]else M).map MM.ml:=by
   by_cases e:z1t PS.length M.length (repM PS ⟨f,t,.kn l⟩ l).ml=0
   ·rw [if_pos e,if_pos ⟨h0,e⟩,List.map_append];rfl
   ·rw [if_neg e,if_neg fun h=>e h.2]
  generalize z1t PS.length M.length (repM PS ⟨f,t,.kn l⟩ l).ml=e at*
  generalize repM PS ⟨f,t,.kn l⟩ l=m at*
  generalize gtS (z1a (PS.getD t []) l)=txt at*
  generalize knS l=txt2 at*
  refine ACallsP.of_keep zfj (by simp) ?_
  repeat' (first|apply zA rfl|(apply zd_ rfl<;>intro ht<;>try omega)|((first|apply zB rfl|(apply callW.mk_pu;(first|exact(fun _=>hG _)|exact(fun _=>hGK _)|exact(fun _=>hH)|exact(fun _=>hM _)|exact(fun _=>hPt _)))|(apply callW.za;(first|exact(hG _)|exact(hGK _)|exact(hH)|exact(hM _)|exact(hPt _)))|(apply zG<;>intro ht))<;>try simp (disch:=first|omega|simp only [lz,lU];try omega) only [go_sem,ho,hrw,hpp,ht',hB]))
  refine callW.mkP (caps:=[]) hS hE ?_
  rintro v O' ⟨rfl,sid',k1,k2⟩
  rw [hmm]at k1
  obtain⟨h1,h2⟩:=(hC.keep ploc_is (O':=O++ [some [[.int .i64 (f:Int),.int .i64 (t:Int),.str txt2]]]) fun i hi x hx=>gapp (hcl i hi x hx)).links' ploc_is k2 k1
  simp (disch:=first|omega|simp only [lz,lU];try omega) only [go_sem]
  repeat' (first|apply zA rfl|(apply zd_ rfl<;>intro ht<;>try omega)|((first|apply zB rfl|(apply zG<;>intro ht))<;>try simp (disch:=first|omega|simp only [lz,lU];try omega) only [go_sem]))
  exact⟨rfl,_,⟨Q,lk,sid',pp,_,rfl,h1⟩,(Fr.ext E).trans h2⟩
theorem zsh(h:CirS PoIs O c key PS M own)(hok:POks key PS)(m:MM)(hm:m.Ok PS.length):
  ACallsP TC 68 [.ptr c 0 0,.agg (mailC m.ml)] O (CirP PoIs O c key own (.tup []) (z8c key PS m) (z4w PS M m)):=by
 obtain⟨f,t,k⟩:=m
 cases k with
 |gt l=>exact zsf h hok f t l hm.t hm.k
 |kn l=>exact zsg h hok f t l hm.t hm.k
end
end
section
def mm0:MM:=⟨0,0,.kn []⟩
def MOks(n:Nat)(M:List MM):Prop:=∀m ∈ M,m.Ok n
def z4c(key:Hash)(PS:List (List Hdr))(M:List MM)(i:Int):List (List Hdr):=if atS PS.length M.length i=0 then z8c key PS (M.getD i.toNat mm0)else PS
def z4b(PS:List (List Hdr))(M:List MM)(i:Int):List MM:=if atS PS.length M.length i=0 then z4w PS (M.eraseIdx i.toNat) (M.getD i.toNat mm0)else M
theorem z5r(key:Hash)(PS:List (List Hdr))(M:List MM)(i:Int):(z4c key PS M i).length=PS.length:=by unfold z4c;split<;>simp [zoo]
theorem z9b{M:List MM}(h:i<M.length):M.getD i mm0 ∈ M:=by
 rw [show M.getD i mm0=M[i]by simp [List.getD,h]];exact List.getElem_mem h
theorem MOks.erase{M:List MM}(h:MOks n M)(i:Nat):MOks n (M.eraseIdx i):=fun m hm=>h m (List.mem_of_mem_eraseIdx hm)
theorem MOks.snoc{M:List MM}(h:MOks n M){m:MM}(hm:m.Ok n):MOks n (M++ [m]):=fun x hx=>(List.mem_append.1 hx).elim (h x) fun h2=>by rw [List.mem_singleton.1 h2];exact hm
theorem z12o{M:List MM}(h:MOks n M){m:MM}(hm:m.Ok n):MOks n (z4w PS M m):=by
 unfold z4w
 split
 ·exact h
 ·split
  ·rename_i l hk h2
   exact h.snoc ⟨hm.t,hm.f,fun e=>hm.ne e.symm,zvs l h2.1⟩
  ·exact h
theorem zjm{M:List MM}(h:MOks n M)(i:Int):MOks n (z4b PS M i):=by
 unfold z4b
 split
 ·rename_i h2
  obtain⟨_,h3,h4⟩:=z4m h2
  exact z12o (h.erase _) (h _ (z9b (by omega)))
 ·exact h
theorem zjn{key:Hash}{M:List MM}(h:POks key PS)(hM:MOks PS.length M)(i:Int):POks key (z4c key PS M i):=by
 unfold z4c
 split
 ·rename_i h2
  obtain⟨_,h3,h4⟩:=z4m h2
  exact z12p h _ (hM _ (z9b (by omega))).t
 ·exact h
attribute [local irreducible] ACallsTo ACallsP
section
variable {O:Store} {c:Nat} {key:Hash} {PS:List (List Hdr)} {M:List MM} {own:List Nat}
theorem zb0(h:CirS PoIs O c key PS M own)(hok:POks key PS)(hM:MOks PS.length M)(hn:0<PS.length)(hl:M.length<1000000)(i:Int):
  ACallsP TC 23 [.ptr c 0 0,.int .i64 i] O (CirP PoIs O c key own (.int .i64 (atS PS.length M.length i)) (z4c key PS M i) (z4b PS M i)):=by
 have hfin:=h
 obtain⟨Q,lk,sid,pp,ow,rfl,hC⟩:=h
 have hN:=z7k O c Q lk _ hC.obj hn
 have ho:=hC.obj
 have hD:=zl1 O lk PS.length i sid (M.map MM.ml) hC.lk (by simpa using hl)
 have hE:=zl0 (i:=i) hC.lk
 unfold z4c z4b
 refine ACallsP.of_keep q3qok (by simp) ?_
 repeat' (first|apply zA rfl|(apply zd_ rfl<;>intro ht<;>try omega)|((first|apply zB rfl|(apply callW.mk_pu;exact(fun _=>hN))|(apply callW.za;exact(hN))|(apply zG<;>intro ht))<;>try simp (disch:=first|omega|simp only [lz,lU];try omega) only [go_sem,ho]))
 refine callW.mkP (caps:=[]) hD hE ?_
 rintro v O' ⟨rfl,k1,k2⟩
 rw [<-z95]at k1
 obtain⟨h1,h2⟩:=hC.links' ploc_is k2 k1
 have S1:CirS PoIs O' c key PS (z34 PS.length M i) (z1v (PS.length+2) (updO ow 1 (lk::sid.toList))):=⟨Q,lk,sid,pp,_,rfl,h1⟩
 generalize z1v (PS.length+2) (updO ow 1 (lk::sid.toList))=own1 at*
 unfold delV delM
 rw [List.length_map]
 by_cases ha:atS PS.length M.length i=0
 ·obtain⟨_,h3,h4⟩:=z4m ha
  rw [if_pos ha,if_pos ha,if_pos ha,ha]
  unfold z34 at S1
  rw [if_pos ha]at S1
  rw [ze9 M _ (by omega)]
  rw [show M.getD i.toNat ⟨0,0,.kn []⟩=M.getD i.toNat mm0 from rfl]
  have hm:=hM _ (z9b (M:=M) (i:=i.toNat) (by omega))
  generalize M.getD i.toNat mm0=m at*
  have hml:(mailC m.ml).length=3:=rfl
  have hmt:(mailC m.ml).take 3=mailC m.ml:=rfl
  have E:Ext O' (O'++ [some [mailC m.ml]]):=⟨_,rfl⟩
  have S2:=S1.ext ploc_is E
  generalize hmc:mailC m.ml=mc at*
  simp (disch:=first|omega|simp only [lz,lU];try omega) only [go_sem,hml]
  repeat' (first|apply zA rfl|(apply zd_ rfl<;>intro ht<;>try omega)|((first|apply zB rfl|(apply zG<;>intro ht))<;>try simp (disch:=first|omega|simp only [lz,lU];try omega) only [go_sem,hml,hmt]))
  have hT:=zsh S2 hok m hm
  rw [hmc]at hT
  refine callW.mkP (caps:=[]) hT (CirP.is ploc_is z2u S2 _ (zoo ..)) ?_
  rintro v O3 ⟨rfl,own3,S3,f3⟩
  simp (disch:=first|omega|simp only [lz,lU];try omega) only [go_sem]
  repeat' (first|apply zA rfl|(apply zd_ rfl<;>intro ht<;>try omega)|((first|apply zB rfl|(apply zG<;>intro ht))<;>try simp (disch:=first|omega|simp only [lz,lU];try omega) only [go_sem]))
  exact⟨rfl,own3,S3,(h2.trans (Fr.ext E)).trans f3⟩
 ·rw [if_neg ha,if_neg ha,if_neg ha]
  unfold z34 at S1
  rw [if_neg ha]at S1
  have ha':(atS PS.length M.length i==0)=false:=beq_eq_false_iff_ne.2 ha
  generalize atS PS.length M.length i=e at*
  simp (disch:=first|omega|simp only [lz,lU];try omega) only [go_sem,mailC]
  repeat' (first|apply zA rfl|(apply zd_ rfl<;>intro ht<;>try omega)|((first|apply zB rfl|(apply zG<;>intro ht))<;>try simp (disch:=first|omega|simp only [lz,lU];try omega) only [go_sem,ha']))
  exact⟨rfl,own1,S1.ext ploc_is ⟨_,rfl⟩,h2.trans (Fr.ext ⟨_,rfl⟩)⟩
end
end
end Am
end Go.Proofs.YtcdcmgjnbjoajaaGreatDoor
