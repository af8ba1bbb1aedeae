import Derived.Test.YtcdcmgjnbjoajaaDoorK4529a96c4
import Derived.Test.YtcdcmgjnbjoajaaDoorK324d00369
import Derived.Test.YtcdcmgjnbjoajaaDoorK2d363987d
import Derived.Test.YtcdcmgjnbjoajaaDoorRows
import Derived.Test.YtcdcmgjnbjoajaaDoorCards
import Derived.Test.YtcdcmgjnbjoajaaDoorTie
import Derived.ProofKit
import Derived.LaidMore
import Derived.OpenShut
import Derived.Stop.Joined
import Derived.SevenTiedAt
import Derived.MakeChecks
set_option linter.unusedSimpArgs false
set_option linter.unusedVariables false
open Nat (reduceEqDiff reduceAdd reduceMul reduceSub reduceLeDiff)
open Int (reduceToNat reducePow)
open Nat renaming reduceEqDiff -> nQ1, reduceBEq -> nQ2, reduceAdd -> nQ3, reduceMul -> nQ4, reduceSub -> nQ5, reduceLeDiff -> nQ6
open Int renaming reduceToNat -> nQ7, reducePow -> nQ8
open List renaming length_reverse -> lQr, length_map -> lQm, length_take -> lQt, length_drop -> lQd, length_set -> lQs
set_option maxHeartbeats 16000000
attribute [local go_sem_proc] Nat.reduceEqDiff Nat.reduceBEq Nat.reduceAdd Nat.reduceMul Nat.reduceSub Nat.reduceLeDiff Int.reduceToNat Int.reducePow
namespace Go.Proofs.YtcdcmgjnbjoajaaDoor
namespace Am
section
theorem InsP.is(O:Store)(r:Nat)(es:List (List AV))(i:Nat)(e:List AV):∃v O',InsP O r es i e v O':=
 ⟨.sl O.length 0 (es.length+1) none 36,O++ [some (es.take i++e::es.drop i)],O.length,rfl,by rw [z1p (Nat.le_refl _),Nat.sub_self];rfl,Nat.le_refl _,fun j hj _=>gapp hj⟩
def PoIs(O:Store)(p:Nat)(key:Hash)(P:List Hdr)(own:List Nat):Prop:=
 ∃v sid,own=p::Option.toList sid/\ O[p]? =some (some [poC key v])/\ RowAt 36 O sid v (hdrs P)/\ sid ≠ some p
def insL(P:List Hdr)(q:Hdr):List Hdr:=P.take (lbP P q.n q.r)++q::P.drop (lbP P q.n q.r)
theorem zpr(P:List Hdr)(q:Hdr)(i:Nat):hdrs (P.take i++q::P.drop i)=(hdrs P).take i++hdrC q::(hdrs P).drop i:=by simp [hdrs,List.map_take,List.map_drop]
theorem zdo{l:List Hash}{x:AV}(hx:SlV 32 (hr l) x)(h:l ≠ []):knil (hr l) x=z17 32 (hr l):=by
 have hne:hr l ≠ []:=fun e=>h (hr_nil_iff.1 e)
 unfold z17
 rw [if_neg hne]
 rcases hx with⟨_,e⟩| ⟨ex,rfl⟩
 ·exact absurd e hne
 ·rfl
attribute [local irreducible] ACallsTo ACallsP zeb
theorem zst(O:Store)(p:Nat)(key:Hash)(r:Nat)(P:List Hdr)(q:Hdr)(x:AV)(hp:O[p]? =some (some [poC key (.sl r 0 P.length none 36)]))(hr0:O[r]? =some (some (hdrs P)))(hne:P ≠ [])(hpr:p ≠ r)(hs:PSort P)(hl:P.length<16)(hx:SlV 32 (hr q.p) x)(hx0:q.p ≠ [])(hxl:q.p.length<1000000)
  (h0:z1f key q.n q.i q.r q.s q.p=0) (h1:isP P q.n q.r=false):
  ACallsP TC 10 [.ptr p 0 0,.agg (sgC q.n q.r q.i q.s x)] O (fun a O'=>a=.int .i64 (if z2e (insL P q) (lbP P q.n q.r) q.n then 3 else 2)/\ ∃t,O.length<=t/\ O'[p]? =some (some [poC key (.sl t 0 (insL P q).length none 36)])/\ O'[t]? =some (some (hdrs (insL P q)))/\ ∀j,j<O.length->j ≠ p->O'[j]? =O[j]?):=by
 have d:=slen hp
 have dr:=slen hr0
 have l:=zm key (.sl r 0 P.length none 36)
 have g:=z6z key (.sl r 0 P.length none 36)
 have gk:=ze8 key (.sl r 0 P.length none 36)
 have kl:=z8 key
 have ql:=zg q.n q.r q.i q.s x
 have pl:=zi P
 have hN:=fun y=>z5n (O++y) p key _ (by rw [gapp d];exact hp)
 have hC:=fun O=>zcg O key q.n q.i q.r q.s q.p x (.of hx)
 have hO:=fun O=>zb7 O q.n q.r q.i q.s q.p x hx hxl
 rw [zdo hx hx0]at hO
 have hS:=zkb (v:=.sl r 0 P.length none 36) (sid:=some r) (.inr ⟨r,rfl,fun e=>hne (List.eq_nil_of_length_eq_zero (by rw [<-zi,e];rfl)),by rw [pl],hr0⟩) hs (by omega) q.n q.r
 rw [h0]at hC
 rw [h1]at hS
 have h2':¬(P.length:Int)>=16:=by omega
 have hb:=z93 P q.n q.r
 have hcl:=zj q
 have hput:=fun v=>zjh key (.sl r 0 P.length none 36) v
 have hch:sgC q.n q.r q.i q.s (z17 32 (hr q.p))=hdrC q:=rfl
 unfold insL
 have hil:(P.take (lbP P q.n q.r)++q::P.drop (lbP P q.n q.r)).length=P.length+1:=by rw [List.length_append,List.length_cons,List.length_take,List.length_drop];omega
 have hih:=zpr P q (lbP P q.n q.r)
 generalize lbP P q.n q.r=b at*
 generalize P.take b++q::P.drop b=P' at*
 refine ACallsP.of_keep zec (by simp) ?_
 repeat' (first|apply zs_|apply zb_|apply zc_|apply zt_ rfl|apply zf_ rfl|(apply zd_ rfl<;>intro ht<;>try omega)|((first|apply zr_|apply zk_|apply ze_|apply zq_|(apply callW.mk_pu;(first|exact(fun _=>hN _)|exact(fun _=>hC _)|exact(fun _=>hS _)))|(apply callW.za;(first|exact(hN _)|exact(hC _)|exact(hS _)))|(apply zG<;>intro ht));all_goals try simp (disch:=first|omega|(simp only [lens,z8,zg,zj,zi,zm,lQt,lQd,List.length_replicate];first|done|omega)) only [go_sem,hp,l,g,gk,kl,ql,h2']))
 have e1:=zlq (O++ [some [sgC q.n q.r q.i q.s x]]) r (hdrs P) (by rw [gapp dr];exact hr0) (fun e=>hne (List.eq_nil_of_length_eq_zero (by rw [<-zi,e];rfl))) (by omega)
 rw [pl]at e1
 refine callW.mkP_ef (caps:=[]) e1 ⟨_,_,rfl,rfl⟩ ?_
 rintro v O2 ⟨rfl,rfl⟩
 simp (disch:=first|omega|(simp only [lens,z8,zg,zj,zi,zm,lQt,lQd,List.length_replicate];first|done|omega)) only [go_sem,hp,l,g,gk,kl,ql,hcl,hch]
 repeat' (first|apply zs_|apply zb_|apply zc_|apply zt_ rfl|apply zf_ rfl|(apply zd_ rfl<;>intro ht<;>try omega)|((first|apply zr_|apply zk_|apply ze_|apply zq_|(apply callW.mk_pu;(first|exact(fun _=>hO _)))|(apply callW.za;(first|exact(hO _)))|(apply zG<;>intro ht));all_goals try simp (disch:=first|omega|(simp only [lens,z8,zg,zj,zi,zm,lQt,lQd,List.length_replicate];first|done|omega)) only [go_sem,hp,l,g,gk,kl,ql,hcl,hch]))
 have e2:=zlx (O++ [some [sgC q.n q.r q.i q.s x],some (hdrs P)]) (O.length+1) (hdrs P) b (hdrC q) true hcl (by omega) (by omega) (by rw [z1p (by omega),Nat.add_sub_cancel_left];rfl)
 have e3:=InsP.is (O++ [some [sgC q.n q.r q.i q.s x],some (hdrs P)]) (O.length+1) (hdrs P) b (hdrC q)
 rw [pl]at e2
 refine callW.mkP (caps:=[]) e2 e3 ?_
 rintro v O3 ⟨t,rfl,ht,htl,hst⟩
 simp only [List.length_append,List.length_cons,List.length_nil]at htl hst
 rw [pl,<-hil]
 rw [<-hih]at ht
 have hp3:O3[p]? =some (some [poC key (.sl r 0 P.length none 36)]):=by rw [hst p (by omega) (by omega),gapp d];exact hp
 have hb3:O3[O.length]? =some (some [sgC q.n q.r q.i q.s x]):=by rw [hst _ (by omega) (by omega),z1p (Nat.le_refl _),Nat.sub_self];rfl
 have d3:=slen hp3
 simp (disch:=first|omega|(simp only [lens,z8,zg,zj,zi,zm,lQt,lQd,List.length_replicate];first|done|omega)) only [go_sem,hp3,l,g,gk,kl,ql,hcl,hch,hput]
 repeat' (first|apply zs_|apply zb_|apply zc_|apply zt_ rfl|apply zf_ rfl|(apply zd_ rfl<;>intro ht<;>try omega)|((first|apply zr_|apply zk_|apply ze_|apply zq_|(apply zG<;>intro ht));all_goals try simp (disch:=first|omega|(simp only [lens,z8,zg,zj,zi,zm,lQt,lQd,List.length_replicate];first|done|omega)) only [go_sem,hp3,l,g,gk,kl,ql,hcl,hch,hput]))
 have hpt:p ≠ t:=by omega
 refine zjg _ _ p O.length t key P' b q x _ (z2n d3) (by rw [z1u hpt];exact ht) (by rw [z1u (by omega)];exact hb3) (by omega) (by omega) ⟨rfl,t,by omega,z2n d3,by rw [z1u hpt];exact ht,fun j hj hjp=>by rw [z1u (Ne.symm hjp),hst j (by omega) (by omega),gapp hj]⟩ _ (by simp (disch:=first|omega|(simp only [lens,z8,zg,zj,zi,zm,lQt,lQd,List.length_replicate];first|done|omega)) only [go_sem]) (by simp (disch:=first|omega|(simp only [lens,z8,zg,zj,zi,zm,lQt,lQd,List.length_replicate];first|done|omega)) only [go_sem]) (by simp (disch:=first|omega|(simp only [lens,z8,zg,zj,zi,zm,lQt,lQd,List.length_replicate];first|done|omega)) only [go_sem])
theorem zss(O:Store)(p:Nat)(key:Hash)(q:Hdr)(x:AV)(hp:O[p]? =some (some [poC key .nilsl]))(hx:SlV 32 (hr q.p) x)(hx0:q.p ≠ [])(hxl:q.p.length<1000000)
  (h0:z1f key q.n q.i q.r q.s q.p=0):
  ACallsP TC 10 [.ptr p 0 0,.agg (sgC q.n q.r q.i q.s x)] O (fun a O'=>a=.int .i64 2/\ ∃t,O.length<=t/\ O'[p]? =some (some [poC key (.sl t 0 1 none 36)])/\ O'[t]? =some (some (hdrs [q]))/\ ∀j,j<O.length->j ≠ p->O'[j]? =O[j]?):=by
 have d:=slen hp
 have l:=zm key .nilsl
 have g:=z6z key .nilsl
 have gk:=ze8 key .nilsl
 have kl:=z8 key
 have ql:=zg q.n q.r q.i q.s x
 have hN:=fun y=>z5n (O++y) p key _ (by rw [gapp d];exact hp)
 have hC:=fun O=>zcg O key q.n q.i q.r q.s q.p x (.of hx)
 have hO:=fun O=>zb7 O q.n q.r q.i q.s q.p x hx hxl
 rw [zdo hx hx0]at hO
 have hS:=fun O=>zeo O q.n q.r
 rw [h0]at hC
 have hcl:=zj q
 have hput:=fun v=>zjh key .nilsl v
 have hch:sgC q.n q.r q.i q.s (z17 32 (hr q.p))=hdrC q:=rfl
 refine ACallsP.of_keep zec (by simp) ?_
 repeat' (first|apply zs_|apply zb_|apply zc_|apply zt_ rfl|apply zf_ rfl|(apply zd_ rfl<;>intro ht<;>try omega)|((first|apply zr_|apply zk_|apply ze_|apply zq_|(apply callW.mk_pu;(first|exact(fun _=>hN _)|exact(fun _=>hC _)|exact(fun _=>hS _)|exact(fun _=>zfh _)|exact(fun _=>hO _)))|(apply callW.za;(first|exact(hN _)|exact(hC _)|exact(hS _)|exact(zfh _)|exact(hO _)))|(apply zG<;>intro ht));all_goals try simp (disch:=first|omega|(simp only [lens,z8,zg,zj,zi,zm,lQt,lQd,List.length_replicate];first|done|omega)) only [go_sem,hp,l,g,gk,kl,ql,hcl,hch]))
 refine callW.mkP (caps:=[]) (zlw (O++ [some [sgC q.n q.r q.i q.s x]]) (hdrC q) true hcl) ⟨_,_,rfl,rfl⟩ ?_
 rintro v O3 ⟨rfl,rfl⟩
 have hp3:(O++ [some [sgC q.n q.r q.i q.s x]]++ [some [hdrC q]])[p]? =some (some [poC key .nilsl]):=by rw [List.append_assoc,gapp d];exact hp
 have hb3:(O++ [some [sgC q.n q.r q.i q.s x]]++ [some [hdrC q]])[O.length]? =some (some [sgC q.n q.r q.i q.s x]):=by rw [List.append_assoc,z1p (Nat.le_refl _),Nat.sub_self];rfl
 have ht3:(O++ [some [sgC q.n q.r q.i q.s x]]++ [some [hdrC q]])[O.length+1]? =some (some (hdrs [q])):=by rw [List.append_assoc,z1p (by omega),Nat.add_sub_cancel_left];rfl
 have hst:∀j,j<O.length->(O++ [some [sgC q.n q.r q.i q.s x]]++ [some [hdrC q]])[j]? =O[j]?:=fun j hj=>by rw [List.append_assoc,gapp hj]
 have hln:(O++ [some [sgC q.n q.r q.i q.s x]]).length=O.length+1:=by simp
 rw [hln]
 generalize (O++ [some [sgC q.n q.r q.i q.s x]]++ [some [hdrC q]])=O3 at*
 have d3:=slen hp3
 simp (disch:=first|omega|(simp only [lens,z8,zg,zj,zi,zm,lQt,lQd,List.length_replicate];first|done|omega)) only [go_sem,hp3,l,g,gk,kl,ql,hcl,hch,hput]
 repeat' (first|apply zs_|apply zb_|apply zc_|apply zt_ rfl|apply zf_ rfl|(apply zd_ rfl<;>intro ht<;>try omega)|((first|apply zr_|apply zk_|apply ze_|apply zq_|(apply zG<;>intro ht));all_goals try simp (disch:=first|omega|(simp only [lens,z8,zg,zj,zi,zm,lQt,lQd,List.length_replicate];first|done|omega)) only [go_sem,hp3,l,g,gk,kl,ql,hcl,hch,hput]))
 have hpt:p ≠ O.length+1:=by omega
 have hF:(if z2e [q] 0 q.n then(3:Int)else 2)=2:=if_neg (by simp [z2e])
 refine zjg _ _ p O.length (O.length+1) key [q] 0 q x _ (z2n d3) (by rw [z1u hpt];exact ht3) (by rw [z1u (by omega)];exact hb3) (by simp) (by simp) ⟨by rw [hF],O.length+1,by omega,z2n d3,by rw [z1u hpt];exact ht3,fun j hj hjp=>by rw [z1u (Ne.symm hjp),hst j hj]⟩ _ (by simp (disch:=first|omega|(simp only [lens,z8,zg,zj,zi,zm,lQt,lQd,List.length_replicate];first|done|omega)) only [go_sem]) (by simp (disch:=first|omega|(simp only [lens,z8,zg,zj,zi,zm,lQt,lQd,List.length_replicate];first|done|omega)) only [go_sem]) (by simp (disch:=first|omega|(simp only [lens,z8,zg,zj,zi,zm,lQt,lQd,List.length_replicate];first|done|omega)) only [go_sem];try rfl)
end
section
def addC(key:Hash)(P:List Hdr)(q:Hdr):Int:=
 if z1f key q.n q.i q.r q.s q.p ≠ 0 then 0 else if isP P q.n q.r=true then 1 else if 16<=P.length then 4 else if z2e (insL P q) (lbP P q.n q.r) q.n then 3 else 2
def addL(key:Hash)(P:List Hdr)(q:Hdr):List Hdr:=if addC key P q=2 \/addC key P q=3 then insL P q else P
def PoAddP(O:Store)(p:Nat)(key:Hash)(P:List Hdr)(own:List Nat)(q:Hdr)(a:AV)(O':Store):Prop:=
 a=.int .i64 (addC key P q)/\ ∃own',Fr O O' own own'/\ PoIs O' p key (addL key P q) own'
theorem z91(P:List Hdr)(q:Hdr):(insL P q).length=P.length+1:=by
 have:=z93 P q.n q.r
 unfold insL
 rw [List.length_append,List.length_cons,List.length_take,List.length_drop];omega
theorem zq6{P:List Hdr}(hP:PSort P)(q:Hdr)(h:isP P q.n q.r=false):PSort (insL P q):=
 hP.insert q fun hl e=>by
  have:¬ ∃h:lbP P q.n q.r<P.length,poI P[lbP P q.n q.r].n P[lbP P q.n q.r].r q.n q.r=0:=of_decide_eq_false h
  exact this ⟨hl,e⟩
theorem zcl{key:Hash}{P:List Hdr}(hP:PSort P)(q:Hdr):PSort (addL key P q):=by
 unfold addL
 by_cases h:addC key P q=2 \/addC key P q=3
 ·rw [if_pos h]
  refine zq6 hP q ?_
  cases h1:isP P q.n q.r with
  |false=>rfl
  |true=>
   exfalso
   unfold addC at h
   by_cases h0:z1f key q.n q.i q.r q.s q.p ≠ 0
   ·rw [if_pos h0]at h;omega
   ·rw [if_neg h0,if_pos h1]at h;omega
 ·rw [if_neg h];exact hP
theorem PoIs.lt{O:Store}{p:Nat}{key:Hash}{P:List Hdr}{own:List Nat}(h:PoIs O p key P own){j:Nat}(hj:j ∈ own):j<O.length:=by
 obtain⟨v,sid,rfl,hp,hr,_⟩:=h
 simp only [List.mem_cons,Option.mem_toList]at hj
 rcases hj with rfl|h
 ·exact slen hp
 ·exact hr.lt h
theorem PoIs.keep{O O':Store}{p:Nat}{key:Hash}{P:List Hdr}{own:List Nat}(h:PoIs O p key P own)(hk:∀j,j ∈ own->O'[j]? =O[j]?):PoIs O' p key P own:=by
 obtain⟨v,sid,rfl,hp,hr,hn⟩:=h
 exact⟨v,sid,rfl,by rw [hk p (by simp)];exact hp,hr.keep fun q e=>hk q (by simp [e]),hn⟩
theorem PoIs.ext{O O':Store}{p:Nat}{key:Hash}{P:List Hdr}{own:List Nat}(h:PoIs O p key P own)(he:Ext O O'):PoIs O' p key P own:=by
 obtain⟨y,rfl⟩:=he
 exact h.keep fun j hj=>gapp (h.lt hj)
theorem PoAddP.is{O:Store}{p:Nat}{key:Hash}{P:List Hdr}{own:List Nat}{q:Hdr}(hT:PoIs O p key P own):∃a O',PoAddP O p key P own q a O':=by
 by_cases h:addC key P q=2 \/addC key P q=3
 ·obtain⟨v,sid,rfl,hp,hr,hn⟩:=hT
  have d:=slen hp
  refine⟨_,O.set p (some [poC key (.sl O.length 0 (insL P q).length none 36)])++ [some (hdrs (insL P q))],rfl,p::Option.toList (some O.length),⟨fun j hj hn=> ?_,fun j hj=> ?_,by simp⟩,?_⟩
  ·rw [gapp (by simpa using hj),z1u (fun e=>hn (by simp [e]))]
  ·simp only [List.mem_cons,Option.mem_toList,Option.some.injEq]at hj ⊢
   rcases hj with h|h
   ·exact .inl (.inl h)
   ·exact .inr (by omega)
  ·unfold addL
   rw [if_pos h]
   exact⟨_,some O.length,rfl,by rw [gapp (by simpa using d),z2n d],.inr ⟨O.length,rfl,fun e=>by have:=congrArg List.length e;rw [zi,z91]at this;simp at this,by rw [zi],by rw [z1p (by simp)];simp⟩,fun e=>by injection e with e;omega⟩
 ·exact⟨_,O,rfl,own,.ext (.refl _),by unfold addL;rw [if_neg h];exact hT⟩
theorem PSort.nil:PSort []:=fun i j hi hj hij=>by simp at hi
theorem z6y(O:Store)(p:Nat)(key:Hash)(P:List Hdr)(own:List Nat)(q:Hdr)(x:AV)(hT:PoIs O p key P own)(hs:PSort P)(hl:P.length<=16)(hx:SlV 32 (hr q.p) x)(hxl:q.p.length<1000000)(hx0:z1f key q.n q.i q.r q.s q.p=0->q.p ≠ []):
  ACallsP TC 10 [.ptr p 0 0,.agg (sgC q.n q.r q.i q.s x)] O (PoAddP O p key P own q):=by
 have hT':=hT
 obtain⟨v,sid,rfl,hp,hr1,hn⟩:=hT'
 have no:∀e,addC key P q=e->e ≠ 2->e ≠ 3->PoAddP O p key P (p::Option.toList sid) q (.int .i64 e) O:=fun e he h2 h3=>
  ⟨by rw [he],_,.ext (.refl _),by unfold addL;rw [if_neg (by omega)];exact hT⟩
 by_cases h0:z1f key q.n q.i q.r q.s q.p ≠ 0
 ·exact(zb4 O p key v sid P q x 0 hp hr1 hs (by omega) hx (.inl ⟨h0,rfl⟩)).toP (no 0 (by unfold addC;rw [if_pos h0]) (by omega) (by omega))
 have h0':z1f key q.n q.i q.r q.s q.p=0:=by omega
 cases h1:isP P q.n q.r with
 |true=>exact(zb4 O p key v sid P q x 1 hp hr1 hs (by omega) hx (.inr (.inl ⟨h0',h1,rfl⟩))).toP (no 1 (by unfold addC;rw [if_neg h0,if_pos h1]) (by omega) (by omega))
 |false=>
 by_cases h2:16<=P.length
 ·exact(zb4 O p key v sid P q x 4 hp hr1 hs (by omega) hx (.inr (.inr ⟨h0',h1,h2,rfl⟩))).toP (no 4 (by unfold addC;rw [if_neg h0,if_neg (by rw [h1];simp),if_pos h2]) (by omega) (by omega))
 have hc:addC key P q=if z2e (insL P q) (lbP P q.n q.r) q.n then 3 else 2:=by unfold addC;rw [if_neg h0,if_neg (by rw [h1];simp),if_neg h2]
 have hL:addL key P q=insL P q:=by unfold addL;rw [hc];split<;>simp
 have fin:∀(O':Store) t,O.length<=t->O'[p]? =some (some [poC key (.sl t 0 (insL P q).length none 36)])->O'[t]? =some (some (hdrs (insL P q)))->(∀j,j<O.length->j ≠ p->O'[j]? =O[j]?)->
   ∃own',Fr O O' (p::Option.toList sid) own'/\ PoIs O' p key (addL key P q) own':=by
  intro O' t ht g1 g2 g3
  have dt:=slen g2
  have dp:=slen hp
  refine⟨p::Option.toList (some t),⟨fun j hj hn=>g3 j hj fun e=>hn (by simp [e]),fun j hj=> ?_,by omega⟩,?_⟩
  ·simp only [List.mem_cons,Option.mem_toList,Option.some.injEq]at hj ⊢
   rcases hj with h|h
   ·exact .inl (.inl h)
   ·exact .inr (by omega)
  ·rw [hL]
   exact⟨_,some t,rfl,g1,.inr ⟨t,rfl,fun e=>by have:=congrArg List.length e;rw [zi,z91]at this;simp at this,by rw [zi],g2⟩,fun e=>by injection e with e;omega⟩
 rcases hr1 with⟨rfl,e0,rfl⟩| ⟨r,rfl,hne,rfl,hg⟩
 ·have hP:P=[]:=List.eq_nil_of_length_eq_zero (by rw [<-zi,e0];rfl)
  subst hP
  refine ACallsP.mono (zss O p key q x hp hx (hx0 h0') hxl h0') fun a O' ⟨ha,t,ht,g1,g2,g3⟩=>⟨?_,fin O' t ht g1 g2 g3⟩
  rw [ha,hc,if_neg (by simp [z2e,insL,lbP])]
 ·have hP:P ≠ []:=fun e=>hne (by rw [e];rfl)
  rw [zi]at hp
  refine ACallsP.mono (zst O p key r P q x hp hg hP (fun e=>hn (by rw [e])) hs (by omega) hx (hx0 h0') hxl h0' h1) fun a O' ⟨ha,t,ht,g1,g2,g3⟩=>⟨?_,fin O' t ht g1 g2 g3⟩
  rw [ha,hc]
end
section
def kn(P:List Hdr):List (List AV):=P.map fun q=> .int .i64 q.n::hc q.r
theorem zn(P:List Hdr):(kn P).length=P.length:=by simp [kn]
theorem ztk{k:Nat}(P:List Hdr):RLss k (kn P):=by
 induction P with
 |nil=>simp [kn,RLss]
 |cons q P ih=>
  show RLss k ((.int .i64 q.n::hc q.r)::kn P)
  simp only [RLss]
  exact⟨by simp only [RLs,RL];exact⟨trivial,z7w q.r⟩,ih⟩
attribute [local irreducible] ACallsTo ACallsP
theorem zb5(O:Store)(p:Nat)(key:Hash)(P:List Hdr)(own:List Nat)(hT:PoIs O p key P own)(hl:P.length<1000000):ACallsTo TC 12 [.ptr p 0 0] O (z17 33 (kn P)) O:=by
 obtain⟨v,sid,rfl,hp,hr1,hn⟩:=hT
 have d:=slen hp
 have l:=zm key v
 have g:=z6z key v
 have r1:=hr1.rd.len
 rw [zi]at r1
 unfold z1w at r1
 have hN:=fun y=>z5n (O++y) p key v (by rw [gapp d];exact hp)
 have hN0:=z5n O p key v hp
 refine ACallsTo.of_body q1kok (by simp) fun hw _=> ?_
 repeat' (first|apply zs_|apply zb_|apply zc_|apply zt_ rfl|apply zf_ rfl|(apply zd_ rfl<;>intro ht<;>try omega)|((first|apply zr_|apply zk_|apply ze_|apply zq_|(apply callW.mk_pu;(first|exact(fun _=>hN0)|exact(fun _=>hN _)))|(apply callW.za;(first|exact(hN0)|exact(hN _)))|(apply zG<;>intro ht));all_goals try simp (disch:=first|omega|(simp only [lens,z8,zg,zj,zi,zm,zn,lQt,lQd,List.length_replicate];first|done|omega)) only [go_sem,hp,l,g,r1]))
 refine zW.loop (fun m J O'=>∃(i:Nat) (w:AV),m+i=P.length/\ OwnN 33 O O' w (kn (P.take i))/\ J 3=w/\ J 11=v/\ J 12=.int .i64 P.length/\ J 13=.int .i64 i) P.length ?_ ?_
 ·exact⟨0,.nilsl,by omega,⟨[],by simp,.inl ⟨rfl,rfl⟩⟩,by simp (disch:=first|omega|(simp only [lens,z8,zg,zj,zi,zm,zn,lQt,lQd,List.length_replicate];first|done|omega)) only [go_sem],by simp (disch:=first|omega|(simp only [lens,z8,zg,zj,zi,zm,zn,lQt,lQd,List.length_replicate];first|done|omega)) only [go_sem],by simp (disch:=first|omega|(simp only [lens,z8,zg,zj,zi,zm,zn,lQt,lQd,List.length_replicate];first|done|omega)) only [go_sem],by simp (disch:=first|omega|(simp only [lens,z8,zg,zj,zi,zm,zn,lQt,lQd,List.length_replicate];first|done|omega)) only [go_sem];try rfl⟩
 ·rintro m J O' ⟨i,w,hm,hO,q3,q11,q12,q13⟩
  by_cases hi:i<P.length
  ·rcases hr1 with⟨_,h0,_⟩| ⟨q,_,hne,rfl,hq⟩
   ·have:=congrArg List.length h0;rw [zi]at this;simp at this;rw [this]at hi;simp at hi
   rw [zi]at q11 l g
   have dq:=slen hq
   obtain⟨news,hnews⟩:=hO.ext
   have hq':O'[q]? =some (some (hdrs P)):=by rw [hnews,gapp dq];exact hq
   have hg:=z8z hi
   have hsl:=zg P[i].n P[i].r P[i].i P[i].s (z17 32 (hr P[i].p))
   obtain⟨w',O2,ha,hO2⟩:=(hO.more [some [sgC P[i].n P[i].r P[i].i P[i].s (z17 32 (hr P[i].p))]]).app (ys:=[.int .i64 P[i].n::hc P[i].r]) (by simp) (by rw [zn,List.length_take];simp;omega)
   have hcat:kn (P.take i)++ [.int .i64 P[i].n::hc P[i].r]=kn (P.take (i+1)):=by rw [List.take_succ_eq_append_getElem hi];unfold kn;rw [List.map_append];rfl
   rw [hcat]at hO2
   have pl:=zi P
   have rl:=z8 P[i].r
   generalize P[i]=u at*
   repeat' (first|apply zs_|apply zb_|apply zc_|apply zt_ rfl|apply zf_ rfl|(apply zd_ rfl<;>intro ht<;>try omega)|((first|apply zr_|apply zk_|apply ze_|apply zq_|(apply zG<;>intro ht));all_goals try simp (disch:=first|omega|(simp only [lens,z8,zg,zj,zi,zm,zn,lQt,lQd,List.length_replicate];first|done|omega)) only [go_sem,q3,q11,q12,q13,hq',hg,hsl,pl,rl,ha]))
   exact⟨m-1,by omega,i+1,w',by omega,hO2,by simp⟩
  ·obtain rfl:i=P.length:=by omega
   rw [List.take_of_length_le (Nat.le_refl _)]at hO
   repeat' (first|apply zs_|apply zb_|apply zc_|apply zt_ rfl|apply zf_ rfl|(apply zd_ rfl<;>intro ht<;>try omega)|((first|apply zr_|apply zk_|apply ze_|apply zq_|(apply zG<;>intro ht));all_goals try simp (disch:=first|omega|(simp only [lens,z8,zg,zj,zi,zm,zn,lQt,lQd,List.length_replicate];first|done|omega)) only [go_sem,q3,q11,q12,q13]))
   exact hO.froze hw (ztk P)
end
section
def rb(b:UInt8):Hash:=⟨b::List.replicate 31 0,rfl⟩
theorem hc_rb(b:UInt8):hc (rb b)=[.int .u8 b.toNat,.int .u8 0,.int .u8 0,.int .u8 0,.int .u8 0,.int .u8 0,.int .u8 0,.int .u8 0,.int .u8 0,.int .u8 0,.int .u8 0,.int .u8 0,.int .u8 0,.int .u8 0,.int .u8 0,.int .u8 0,.int .u8 0,.int .u8 0,.int .u8 0,.int .u8 0,.int .u8 0,.int .u8 0,.int .u8 0,.int .u8 0,.int .u8 0,.int .u8 0,.int .u8 0,.int .u8 0,.int .u8 0,.int .u8 0,.int .u8 0,.int .u8 0]:=rfl
def z1e(seed:List UInt8)(i:Nat)(n:Int)(r:Hash):Hdr:=⟨n,r,i,ksgS seed i (digH n r).1,z1h (keyL seed) i⟩
theorem zbu(seed:List UInt8)(i:Nat)(n:Int)(r:Hash)(hi:i<8)(hn:0<=n/\ n<=4096):z1f (z14 (keyL seed)) (z1e seed i n r).n (z1e seed i n r).i (z1e seed i n r).r (z1e seed i n r).s (z1e seed i n r).p=0:=by
 have hv:z4b (z1e seed i n r).n (z1e seed i n r).i (z1e seed i n r).s (z1e seed i n r).p=true:=decide_eq_true ⟨hn.1,hn.2,by simp only [z1e];omega,by simp only [z1e];omega,z66 _ _ _,z7u _ _⟩
 unfold z1f
 rw [hv,if_neg (by simp)]
 exact if_pos (zwi seed i hi _)
theorem z7n{key:Hash}{n i:Int}{r:Hash}{s:List UInt8}{p:List Hash}(h:z1f key n i r s p=0):p.length=3:=by
 unfold z1f at h
 cases hv:z4b n i s p with
 |true=>exact(of_decide_eq_true hv).2.2.2.2.2
 |false=>
  rw [hv,if_pos rfl]at h
  omega
attribute [local irreducible] ACallsTo ACallsP
theorem zuo(O:Store)(t:Nat)(seed:List UInt8)(n:Int)(b:UInt8)(ht:O[t]? =some (some [z1g true seed (keyL seed)]))(hs:seed.length<1000000):
  ACallsTo TC 11 [.ptr t 0 0,.int .i64 n,.int .u8 b.toNat] O (.agg (hdrC (z1e seed 0 n (rb b)))) O:=by
 have d:=slen ht
 have hD:=fun O=>zjt O n (rb b)
 have hS:=fun y=>zl8 (O++y) t seed (keyL seed) 0 (digH n (rb b)) (by rw [gapp d];exact ht) (z2o seed) (by omega) hs
 have hm:hdrC (z1e seed 0 n (rb b))=sgC n (rb b) 0 (ksgS seed 0 (digH n (rb b)).1) (z17 32 (hr (z1h (keyL seed) 0))):=rfl
 rw [hm]
 have hrl:RLs O.length (sgC n (rb b) 0 (ksgS seed 0 (digH n (rb b)).1) (z17 32 (hr (z1h (keyL seed) 0)))):=zbk (zjx (z43 _))
 unfold zbq at hS
 have hh:=hc_rb b
 generalize ksgS seed 0 (digH n (rb b)).1=sig at*
 generalize z1h (keyL seed) 0=PH at*
 generalize digH n (rb b)=dg at*
 generalize rb b=R at*
 rw [hh]at hD
 refine ACallsTo.of_body q1jok (by simp) fun hw _=> ?_
 repeat' (first|apply zs_|apply zb_|apply zc_|apply zt_ rfl|apply zf_ rfl|(apply zd_ rfl<;>intro ht<;>try omega)|((first|apply zr_|apply zk_|apply ze_|apply zq_|(apply callW.mk_pu;(first|exact(fun _=>hD _)|exact(fun _=>hS _)))|(apply callW.za;(first|exact(hD _)|exact(hS _)))|(apply zG<;>intro ht));all_goals try simp (disch:=first|omega|(simp only [lens,z8,zg,zj,zi,zm,zn,lQt,lQd,List.length_replicate];first|done|omega)) only [go_sem]))
 unfold sgC at hrl ⊢
 rw [hh]at hrl ⊢
 exact DownV.pure hw (by simp only [RL];exact hrl)
end
section
theorem lb_lt{q:Hdr}{P:List Hdr}{m:Int}{k:Hash}(h:poI q.n q.r m k<0):lbP (q::P) m k=lbP P m k+1:=by rw [zaw,if_pos h]
theorem lb_ge{q:Hdr}{P:List Hdr}{m:Int}{k:Hash}(h:¬poI q.n q.r m k<0):lbP (q::P) m k=0:=by rw [zaw,if_neg h]
theorem zia{P:List Hdr}{m:Int}{k:Hash}{b:Nat}(hb:lbP P m k=b):isP P m k=decide (∃h:b<P.length,poI P[b].n P[b].r m k=0):=by subst hb;rfl
theorem zck{key:Hash}{P:List Hdr}{q:Hdr}{b:Nat}(h0:z1f key q.n q.i q.r q.s q.p=0)(hb:lbP P q.n q.r=b)(h1:¬ ∃h:b<P.length,poI P[b].n P[b].r q.n q.r=0)(h2:P.length<16):
  addC key P q=(if z2e (P.take b++q::P.drop b) b q.n then 3 else 2)/\ addL key P q=P.take b++q::P.drop b:=by
 have hi:insL P q=P.take b++q::P.drop b:=by unfold insL;rw [hb]
 have hc:addC key P q=if z2e (P.take b++q::P.drop b) b q.n then 3 else 2:=by
  unfold addC
  rw [if_neg (by omega),if_neg (by rw [zia hb,decide_eq_false h1];simp),if_neg (by omega),hi,hb]
 refine⟨hc,?_⟩
 unfold addL
 rw [hc,if_pos (by split<;>simp),hi]
theorem zmg{key:Hash}{P:List Hdr}{q:Hdr}{b:Nat}(h0:z1f key q.n q.i q.r q.s q.p=0)(hb:lbP P q.n q.r=b)(h1:∃h:b<P.length,poI P[b].n P[b].r q.n q.r=0):
  addC key P q=1/\ addL key P q=P:=by
 have hc:addC key P q=1:=by
  unfold addC
  rw [if_neg (by omega),if_pos (by rw [zia hb,decide_eq_true h1])]
 refine⟨hc,?_⟩
 unfold addL
 rw [hc,if_neg (by omega)]
theorem zmh{key:Hash}{P:List Hdr}{q:Hdr}(h0:z1f key q.n q.i q.r q.s q.p ≠ 0):addC key P q=0/\ addL key P q=P:=by
 have hc:addC key P q=0:=by unfold addC;rw [if_pos h0]
 refine⟨hc,?_⟩
 unfold addL
 rw [hc,if_neg (by omega)]
theorem zsy(key:Hash)(A B C:Hdr)(hA:z1f key A.n A.i A.r A.s A.p=0)(hB:z1f key B.n B.i B.r B.s B.p=0)(hC:z1f key C.n C.i C.r C.s C.p=0)
  (a1:A.n=1) (a2:A.r=rb 9) (b1:B.n=1) (b2:B.r=rb 2) (c1:C.n=2) (c2:C.r=rb 1):
  (addC key [] A=2/\ addL key [] A=[A])/\ (addC key [A] C=2/\ addL key [A] C=[A,C])/\ (addC key [A,C] A=1/\ addL key [A,C] A=[A,C])/\ (addC key [A,C] B=3/\ addL key [A,C] B=[B,A,C]):=by
 have pAC:poI A.n A.r C.n C.r= -1:=z99 _ _ (by omega)
 have pAA:poI A.n A.r A.n A.r=0:=po_zero.2 ⟨rfl,rfl⟩
 have pAB:poI A.n A.r B.n B.r=1:=by
  rw [a1,b1,z9a,a2,b2];rfl
 have l0:lbP [] A.n A.r=0:=rfl
 have l1:lbP [A] C.n C.r=1:=by rw [lb_lt (by omega)];rfl
 have l2:lbP [A,C] A.n A.r=0:=lb_ge (by omega)
 have l3:lbP [A,C] B.n B.r=0:=lb_ge (by omega)
 obtain⟨r1,s1⟩:=zck (P:=[]) hA l0 (by simp) (by simp)
 obtain⟨r2,s2⟩:=zck (P:=[A]) hC l1 (by simp) (by simp)
 obtain⟨r4,s4⟩:=zck (P:=[A,C]) hB l3 (by rintro⟨_,e⟩;have:poI A.n A.r B.n B.r=0:=e;omega) (by simp)
 refine⟨⟨by rw [r1,if_neg (by simp [z2e])],s1⟩,⟨by rw [r2,if_neg (by simp [z2e,a1,c1])],s2⟩,zmg hA l2 ⟨by simp,pAA⟩,⟨by rw [r4,if_pos (by simp [z2e,a1,b1])],s4⟩⟩
end
section
theorem z8y(h:Hdr):(hdrC h).take 36=hdrC h:=List.take_of_length_le (by rw [zj];omega)
attribute [local irreducible] ACallsTo ACallsP z9d
theorem zt1 (hT : ∀ (O : Store) (q : Nat) (key : Hash) (A B C : Hdr) (n : Nat) (own : List Nat) (J : Env), PoIs O q key [] own -> (∀ j ∈ own, j < n) -> O[n]? = some (some [hdrC A]) -> O[n + 1]? = some (some [hdrC B]) -> O[n + 2]? = some (some [hdrC C]) -> J 2 = .ptr q 0 0 -> J 3 = .ptr n 0 0 -> J 4 = .ptr (n + 1) 0 0 -> J 5 = .ptr (n + 2) 0 0 ->
   key=z14 (keyL [107])->A=z1e [107] 0 1 (rb 9)->B=z1e [107] 0 1 (rb 2)->C=z1e [107] 0 2 (rb 1)->zW TC 75 0 z9d (endQ 0 [.t 0] (.bool true) []) J O):
  ACallsTo TC 13 [] [] (.bool true) []:=by
 have hNew:=fun O=>zdn O [107] (by simp)
 refine ACallsTo.of_body q1lok (by simp) fun hw _=> ?_
 repeat' (first|apply zs_|apply zb_|apply zc_|apply zt_ rfl|apply zf_ rfl|(apply zd_ rfl<;>intro ht<;>try omega)|((first|apply zr_|apply zk_|apply ze_|apply zq_|(apply callW.mk_pu;(first|exact(fun _=>hNew _)))|(apply callW.za;(first|exact(hNew _)))|(apply zG<;>intro ht));all_goals try simp (disch:=first|omega|(simp only [lens,z8,zg,zj,zi,zm,zn,lQt,lQd,List.length_replicate];first|done|omega)) only [go_sem]))
 try simp only [List.nil_append,List.length_nil]
 have hsl:([107]:List UInt8).length<1000000:=by simp
 have hT:=fun O q A B C n own J h1 h2 h3 h4 h5 h6 h7 h8 h9=>hT O q (z14 (keyL [107])) A B C n own J h1 h2 h3 h4 h5 h6 h7 h8 h9 rfl
 generalize ([107]:List UInt8)=seed at*
 have hRt:=zc4 [some [z1g true seed (keyL seed)]] 0 seed (keyL seed) rfl (z2o seed)
 have hE:=z98 [some [z1g true seed (keyL seed)]] (z14 (keyL seed))
 have hS:∀n b,ACallsTo TC 11 [.ptr 0 0 0,.int .i64 n,.int .u8 (b:UInt8).toNat] ([some [z1g true seed (keyL seed)],some [hc (z14 (keyL seed))],some [poC (z14 (keyL seed)) .nilsl]]) (.agg (hdrC (z1e seed 0 n (rb b)))) ([some [z1g true seed (keyL seed)],some [hc (z14 (keyL seed))],some [poC (z14 (keyL seed)) .nilsl]]):=fun n b=>zuo _ 0 seed n b rfl hsl
 repeat' (first|apply zs_|apply zb_|apply zc_|apply zt_ rfl|apply zf_ rfl|(apply zd_ rfl<;>intro ht<;>try omega)|((first|apply zr_|apply zk_|apply ze_|apply zq_|(apply callW.mk_pu;(first|exact(fun _=>hRt)))|(apply callW.za;(first|exact(hRt)))|(apply zG<;>intro ht));all_goals try simp (disch:=first|omega|(simp only [lens,z8,zg,zj,zi,zm,zn,lQt,lQd,List.length_replicate];first|done|omega)) only [go_sem]))
 refine callW.mkP (caps:=[]) hE ⟨_,_,rfl,rfl⟩ ?_
 rintro v O2 ⟨rfl,rfl⟩
 simp (disch:=first|omega|(simp only [lens,z8,zg,zj,zi,zm,zn,lQt,lQd,List.length_replicate];first|done|omega)) only [go_sem]
 have s9:=hS 1 9
 have s2:=hS 1 2
 have s1:=hS 2 1
 rw [show (((9:UInt8).toNat:Nat):Int)=9 from rfl]at s9
 rw [show (((2:UInt8).toNat:Nat):Int)=2 from rfl]at s2
 rw [show (((1:UInt8).toNat:Nat):Int)=1 from rfl]at s1
 have lA:=zj (z1e seed 0 1 (rb 9))
 have lB:=zj (z1e seed 0 1 (rb 2))
 have lC:=zj (z1e seed 0 2 (rb 1))
 have hT:=fun O q n own J h1 h2 h3 h4 h5 h6 h7 h8 h9=>hT O q _ _ _ n own J h1 h2 h3 h4 h5 h6 h7 h8 h9 rfl rfl rfl
 generalize z1e seed 0 1 (rb 9)=A at*
 generalize z1e seed 0 1 (rb 2)=B at*
 generalize z1e seed 0 2 (rb 1)=C at*
 repeat' (first|apply zs_|apply zb_|apply zc_|apply zt_ rfl|apply zf_ rfl|(apply zd_ rfl<;>intro ht<;>try omega)|((first|apply zr_|apply zk_|apply ze_|apply zq_|(apply callW.mk_pu;(first|exact(fun _=>s9)|exact(fun _=>s2)|exact(fun _=>s1)))|(apply callW.za;(first|exact(s9)|exact(s2)|exact(s1)))|(apply zG<;>intro ht));all_goals try simp (disch:=first|omega|(simp only [lens,z8,zg,zj,zi,zm,zn,lQt,lQd,List.length_replicate];first|done|omega)) only [go_sem,lA,lB,lC]))
 exact hT _ 2 3 [2] _ ⟨.nilsl,none,rfl,rfl,.inl ⟨rfl,rfl,rfl⟩,by simp⟩ (by simp) rfl rfl rfl (by simp (disch:=first|omega|(simp only [lens,z8,zg,zj,zi,zm,zn,lQt,lQd,List.length_replicate];first|done|omega)) only [go_sem]) (by simp (disch:=first|omega|(simp only [lens,z8,zg,zj,zi,zm,zn,lQt,lQd,List.length_replicate];first|done|omega)) only [go_sem]) (by simp (disch:=first|omega|(simp only [lens,z8,zg,zj,zi,zm,zn,lQt,lQd,List.length_replicate];first|done|omega)) only [go_sem];try rfl) (by simp (disch:=first|omega|(simp only [lens,z8,zg,zj,zi,zm,zn,lQt,lQd,List.length_replicate];first|done|omega)) only [go_sem];try rfl)
attribute [local irreducible] zbg
theorem zsz(hw:Wf ([]:Store).length [])(O:Store)(q:Nat)(key:Hash)(A B C:Hdr)(n:Nat)(own:List Nat)(J:Env)(hP:PoIs O q key [] own)(ho:∀j ∈ own,j<n)(g1:O[n]? =some (some [hdrC A]))(g2:O[n+1]? =some (some [hdrC B]))(g3:O[n+2]? =some (some [hdrC C]))(q2:J 2=.ptr q 0 0)(q3:J 3=.ptr n 0 0)(q4:J 4=.ptr (n+1) 0 0)(q5:J 5=.ptr (n+2) 0 0)
  (hA:z1f key A.n A.i A.r A.s A.p=0) (hB:z1f key B.n B.i B.r B.s B.p=0) (hC:z1f key C.n C.i C.r C.s C.p=0) (a1:A.n=1) (a2:A.r=rb 9) (b1:B.n=1) (b2:B.r=rb 2) (c1:C.n=2) (c2:C.r=rb 1)
  (hK:∀(O:Store) (own:List Nat) (J:Env),PoIs O q key [B,A,C] own->O[n]? =some (some [hdrC A])->O[n+1]? =some (some [hdrC B])->O[n+2]? =some (some [hdrC C])->J 2=.ptr q 0 0->J 3=.ptr n 0 0->J 4=.ptr (n+1) 0 0->J 5=.ptr (n+2) 0 0->zW TC 75 0 zbg (endQ 0 [.t 0] (.bool true) []) J O):
  zW TC 75 0 z9d (endQ 0 [.t 0] (.bool true) []) J O:=by
 obtain⟨⟨e1,f1⟩,⟨e2,f2⟩,⟨e3,f3⟩,⟨e4,f4⟩⟩:=zsy key A B C hA hB hC a1 a2 b1 b2 c1 c2
 have lA:=zj A
 have lB:=zj B
 have lC:=zj C
 have tA:=z8y A
 have tB:=z8y B
 have tC:=z8y C
 have pA:=z7n hA
 have pB:=z7n hB
 have pC:=z7n hC
 have nA:A.p ≠ []:=fun e=>by rw [e]at pA;simp at pA
 have nB:B.p ≠ []:=fun e=>by rw [e]at pB;simp at pB
 have nC:C.p ≠ []:=fun e=>by rw [e]at pC;simp at pC
 have no:∀{own:List Nat},(∀j ∈ own,j<n)->∀k,n<=k->k ∉ own:=fun h k hk hm=>by have:=h k hm;omega
 unfold z9d
 have hS0:=PSort.nil
 have hS1:=zcl (key:=key) hS0 A
 rw [f1]at hS1
 have hS2:=zcl (key:=key) hS1 C
 rw [f2]at hS2
 have d3:=slen g3
 have nx:∀{O' O2:Store} {o o':List Nat},Fr O' O2 o o'->n+2<O'.length->(∀k,n<=k->k<=n+2->k ∉ o)->∀k,n<=k->k<=n+2->k ∉ o':=fun fr hl h k h1 h2 hm=>by
  rcases fr.new k hm with h3|h3
  ·exact h k h1 h2 h3
  ·omega
 have n0:∀k,n<=k->k<=n+2->k ∉ own:=fun k h1 _=>no ho k h1
 repeat' (first|apply zs_|apply zb_|apply zc_|apply zt_ rfl|apply zf_ rfl|(apply zd_ rfl<;>intro ht<;>try omega)|((first|apply zr_|apply zk_|apply ze_|apply zq_|(apply zG<;>intro ht));all_goals try simp (disch:=first|omega|(simp only [lens,z8,zg,zj,zi,zm,zn,lQt,lQd,List.length_replicate];first|done|omega)) only [go_sem,q2,q3,q4,q5,g1,g2,g3,lA,lB,lC,tA,tB,tC]))
 refine callW.mkP (caps:=[]) (z6y O q key [] own A _ hP hS0 (by simp) (z2r _ _) (by omega) (fun _=>nA)) (PoAddP.is hP) ?_
 rintro v O2 ⟨rfl,own2,fr2,P2⟩
 rw [f1]at P2
 rw [e1]
 have n2:=nx fr2 d3 n0
 have g1:=fr2.get g1 (n0 _ (by omega) (by omega))
 have g2:=fr2.get g2 (n0 _ (by omega) (by omega))
 have g3:=fr2.get g3 (n0 _ (by omega) (by omega))
 have d3:=slen g3
 simp (disch:=first|omega|(simp only [lens,z8,zg,zj,zi,zm,zn,lQt,lQd,List.length_replicate];first|done|omega)) only [go_sem,q2,q3,q4,q5,g1,g2,g3,lA,lB,lC,tA,tB,tC]
 repeat' (first|apply zs_|apply zb_|apply zc_|apply zt_ rfl|apply zf_ rfl|(apply zd_ rfl<;>intro ht<;>try omega)|((first|apply zr_|apply zk_|apply ze_|apply zq_|(apply zG<;>intro ht));all_goals try simp (disch:=first|omega|(simp only [lens,z8,zg,zj,zi,zm,zn,lQt,lQd,List.length_replicate];first|done|omega)) only [go_sem,q2,q3,q4,q5,g1,g2,g3,lA,lB,lC,tA,tB,tC]))
 refine callW.mkP (caps:=[]) (z6y O2 q key [A] own2 C _ P2 hS1 (by simp) (z2r _ _) (by omega) (fun _=>nC)) (PoAddP.is P2) ?_
 rintro v O3 ⟨rfl,own3,fr3,P3⟩
 rw [f2]at P3
 rw [e2]
 have n3:=nx fr3 d3 n2
 have g1:=fr3.get g1 (n2 _ (by omega) (by omega))
 have g2:=fr3.get g2 (n2 _ (by omega) (by omega))
 have g3:=fr3.get g3 (n2 _ (by omega) (by omega))
 have d3:=slen g3
 simp (disch:=first|omega|(simp only [lens,z8,zg,zj,zi,zm,zn,lQt,lQd,List.length_replicate];first|done|omega)) only [go_sem,q2,q3,q4,q5,g1,g2,g3,lA,lB,lC,tA,tB,tC]
 repeat' (first|apply zs_|apply zb_|apply zc_|apply zt_ rfl|apply zf_ rfl|(apply zd_ rfl<;>intro ht<;>try omega)|((first|apply zr_|apply zk_|apply ze_|apply zq_|(apply zG<;>intro ht));all_goals try simp (disch:=first|omega|(simp only [lens,z8,zg,zj,zi,zm,zn,lQt,lQd,List.length_replicate];first|done|omega)) only [go_sem,q2,q3,q4,q5,g1,g2,g3,lA,lB,lC,tA,tB,tC]))
 refine callW.mkP (caps:=[]) (z6y O3 q key [A,C] own3 A _ P3 hS2 (by simp) (z2r _ _) (by omega) (fun _=>nA)) (PoAddP.is P3) ?_
 rintro v O4 ⟨rfl,own4,fr4,P4⟩
 rw [f3]at P4
 rw [e3]
 have n4:=nx fr4 d3 n3
 have g1:=fr4.get g1 (n3 _ (by omega) (by omega))
 have g2:=fr4.get g2 (n3 _ (by omega) (by omega))
 have g3:=fr4.get g3 (n3 _ (by omega) (by omega))
 have d3:=slen g3
 simp (disch:=first|omega|(simp only [lens,z8,zg,zj,zi,zm,zn,lQt,lQd,List.length_replicate];first|done|omega)) only [go_sem,q2,q3,q4,q5,g1,g2,g3,lA,lB,lC,tA,tB,tC]
 repeat' (first|apply zs_|apply zb_|apply zc_|apply zt_ rfl|apply zf_ rfl|(apply zd_ rfl<;>intro ht<;>try omega)|((first|apply zr_|apply zk_|apply ze_|apply zq_|(apply zG<;>intro ht));all_goals try simp (disch:=first|omega|(simp only [lens,z8,zg,zj,zi,zm,zn,lQt,lQd,List.length_replicate];first|done|omega)) only [go_sem,q2,q3,q4,q5,g1,g2,g3,lA,lB,lC,tA,tB,tC]))
 refine callW.mkP (caps:=[]) (z6y O4 q key [A,C] own4 B _ P4 hS2 (by simp) (z2r _ _) (by omega) (fun _=>nB)) (PoAddP.is P4) ?_
 rintro v O5 ⟨rfl,own5,fr5,P5⟩
 rw [f4]at P5
 rw [e4]
 have g1:=fr5.get g1 (n4 _ (by omega) (by omega))
 have g2:=fr5.get g2 (n4 _ (by omega) (by omega))
 have g3:=fr5.get g3 (n4 _ (by omega) (by omega))
 simp (disch:=first|omega|(simp only [lens,z8,zg,zj,zi,zm,zn,lQt,lQd,List.length_replicate];first|done|omega)) only [go_sem,q2,q3,q4,q5,g1,g2,g3,lA,lB,lC,tA,tB,tC]
 repeat' (first|apply zs_|apply zb_|apply zc_|apply zt_ rfl|apply zf_ rfl|(apply zd_ rfl<;>intro ht<;>try omega)|((first|apply zr_|apply zk_|apply ze_|apply zq_|(apply zG<;>intro ht));all_goals try simp (disch:=first|omega|(simp only [lens,z8,zg,zj,zi,zm,zn,lQt,lQd,List.length_replicate];first|done|omega)) only [go_sem,q2,q3,q4,q5,g1,g2,g3,lA,lB,lC,tA,tB,tC]))
 exact hK O5 own5 _ P5 g1 g2 g3 (by simp (disch:=first|omega|(simp only [lens,z8,zg,zj,zi,zm,zn,lQt,lQd,List.length_replicate];first|done|omega)) only [go_sem,q2]) (by simp (disch:=first|omega|(simp only [lens,z8,zg,zj,zi,zm,zn,lQt,lQd,List.length_replicate];first|done|omega)) only [go_sem,q3]) (by simp (disch:=first|omega|(simp only [lens,z8,zg,zj,zi,zm,zn,lQt,lQd,List.length_replicate];first|done|omega)) only [go_sem,q4]) (by simp (disch:=first|omega|(simp only [lens,z8,zg,zj,zi,zm,zn,lQt,lQd,List.length_replicate];first|done|omega)) only [go_sem,q5])
end
section
theorem hcZ31:hc zeroH=[.int .u8 0,.int .u8 0,.int .u8 0,.int .u8 0,.int .u8 0,.int .u8 0,.int .u8 0,.int .u8 0,.int .u8 0,.int .u8 0,.int .u8 0,.int .u8 0,.int .u8 0,.int .u8 0,.int .u8 0,.int .u8 0,.int .u8 0,.int .u8 0,.int .u8 0,.int .u8 0,.int .u8 0,.int .u8 0,.int .u8 0,.int .u8 0,.int .u8 0,.int .u8 0,.int .u8 0,.int .u8 0,.int .u8 0,.int .u8 0,.int .u8 0,.int .u8 0]:=rfl
theorem z7o(h:Hdr):(hdrC h).take 33=.int .i64 h.n::hc h.r:=zbt _ _ _ _ _
attribute [local irreducible] ACallsTo ACallsP
theorem zt0(hw:Wf ([]:Store).length [])(O:Store)(q:Nat)(key:Hash)(A B C:Hdr)(n:Nat)(own:List Nat)(J:Env)(hP:PoIs O q key [B,A,C] own)(g1:O[n]? =some (some [hdrC A]))(g2:O[n+1]? =some (some [hdrC B]))(g3:O[n+2]? =some (some [hdrC C]))(q2:J 2=.ptr q 0 0)(q3:J 3=.ptr n 0 0)(q4:J 4=.ptr (n+1) 0 0)(q5:J 5=.ptr (n+2) 0 0)
  (hz:z1f zeroH A.n A.i A.r A.s A.p ≠ 0) (hAp:A.p.length<1000000):
  zW TC 75 0 zbg (endQ 0 [.t 0] (.bool true) []) J O:=by
 have hKn:=zb5 O q key [B,A,C] own hP (by simp)
 rw [show z17 33 (kn [B,A,C])=.vsl 33 [.int .i64 B.n::hc B.r,.int .i64 A.n::hc A.r,.int .i64 C.n::hc C.r] false from rfl]at hKn
 have lA:=zj A
 have lB:=zj B
 have lC:=zj C
 have tA:=z8y A
 have uA:=z7o A
 have uB:=z7o B
 have uC:=z7o C
 have kA:=z8 A.r
 have kB:=z8 B.r
 have kC:=z8 C.r
 have eA:=z9j A.n A.n A.r A.r
 have eB:=z9j B.n B.n B.r B.r
 have eC:=z9j C.n C.n C.r C.r
 rw [decide_eq_true ⟨rfl,rfl⟩]at eA eB eC
 have d1:=slen g1
 have hE:=z98 O zeroH
 rw [hcZ31]at hE
 repeat' (first|apply zs_|apply zb_|apply zc_|apply zt_ rfl|apply zf_ rfl|(apply zd_ rfl<;>intro ht<;>try omega)|((first|apply zr_|apply zk_|apply ze_|apply zq_|(apply callW.mk_pu;(first|exact(fun _=>hKn)))|(apply callW.za;(first|exact(hKn)))|(apply zG<;>intro ht));all_goals try simp (disch:=first|omega|(simp only [lens,z8,zg,zj,zi,zm,zn,lQt,lQd,List.length_replicate];first|done|omega)) only [go_sem,q2,q3,q4,q5,g1,g2,g3,lA,lB,lC,tA,uA,uB,uC,kA,kB,kC,eA,eB,eC,z1q,eq_self,and_self,if_true]))
 have d3:=slen g3
 refine callW.mkP_ef (caps:=[]) hE ⟨_,_,rfl,rfl⟩ ?_
 rintro v O2 ⟨rfl,rfl⟩
 rw [<-hcZ31]
 have hAd:ACallsTo TC 10 [.ptr (O.length+1) 0 0,.agg (hdrC A)] (O++ [some [hc zeroH],some [poC zeroH .nilsl]]) (.int .i64 0) (O++ [some [hc zeroH],some [poC zeroH .nilsl]]):=
  zb4 _ (O.length+1) zeroH .nilsl none [] A (z17 32 (hr A.p)) 0 (by rw [z1p (by omega),Nat.add_sub_cancel_left];rfl) (.inl ⟨rfl,rfl,rfl⟩) PSort.nil (by simp) (z2r _ _) (.inl ⟨hz,rfl⟩)
 have x1:(O++ [some [hc zeroH],some [poC zeroH .nilsl]])[n]? =some (some [hdrC A]):=by rw [gapp (by omega)];exact g1
 have x2:(O++ [some [hc zeroH],some [poC zeroH .nilsl]])[n+1]? =some (some [hdrC B]):=by rw [gapp (by omega)];exact g2
 have x3:(O++ [some [hc zeroH],some [poC zeroH .nilsl]])[n+2]? =some (some [hdrC C]):=by rw [gapp (by omega)];exact g3
 have hx:Ext ([]:Store) (O++ [some [hc zeroH],some [poC zeroH .nilsl]]):=⟨_,(List.nil_append _).symm⟩
 generalize (O++ [some [hc zeroH],some [poC zeroH .nilsl]])=O2 at*
 refine⟨by simp (disch:=first|omega|(simp only [lens,z8,zg,zj,zi,zm,zn,lQt,lQd,List.length_replicate];first|done|omega)) only [go_sem,x1,x2,x3,lA,lB,lC,tA,uA,uB,uC,kA,kB,kC],?_⟩
 simp (disch:=first|omega|(simp only [lens,z8,zg,zj,zi,zm,zn,lQt,lQd,List.length_replicate];first|done|omega)) only [go_sem,x1,x2,x3,g1,g2,g3,lA,lB,lC,tA,uA,uB,uC,kA,kB,kC,q2,q3,q4,q5]
 repeat' (first|apply zs_|apply zb_|apply zc_|apply zt_ rfl|apply zf_ rfl|(apply zd_ rfl<;>intro ht<;>try omega)|((first|apply zr_|apply zk_|apply ze_|apply zq_|(apply callW.mk_pu;(first|exact(fun _=>hAd)))|(apply callW.za;(first|exact(hAd)))|(apply zG<;>intro ht));all_goals try simp (disch:=first|omega|(simp only [lens,z8,zg,zj,zi,zm,zn,lQt,lQd,List.length_replicate];first|done|omega)) only [go_sem,x1,x2,x3,g1,g2,g3,lA,lB,lC,tA,uA,uB,uC,kA,kB,kC,q2,q3,q4,q5]))
 exact DownV.pure (τ:=[]) (news:=O2) hw z29
end
section
theorem zwh(seed:List UInt8)(dg x:Hash)(hx:z14 (keyL seed) ≠ x):verI x dg (0:Nat) (ksgS seed (0:Nat) dg.1) (z1h (keyL seed) 0) ≠ 0:=by
 have hc:chkP (hd (keyL seed) 0) (0:Nat) 8 (z1h (keyL seed) 0) x ≠ 0:=by
  obtain⟨a,b,c,d,e,f,g,h,hK⟩:=len8 (z2o seed)
  rw [hK]at hx ⊢
  rw [zbn]at hx
  obtain⟨p0,_⟩:=ze7 a b c d e f g h
  rw [p0,z3y 0 (by omega),if_neg]
  ·decide
  ·exact fun e=>hx (by rw [<-e];simp [z2d,hd])
 unfold verI
 rw [if_neg (by omega),if_pos (z66 _ _ _),zeg,<-zic seed 0 (by omega),if_neg hc]
 decide
theorem zuc(seed:List UInt8)(x:Hash)(n:Int)(r:Hash)(hn:0<=n/\ n<=4096)(hx:z14 (keyL seed) ≠ x):z1f x (z1e seed 0 n r).n (z1e seed 0 n r).i (z1e seed 0 n r).r (z1e seed 0 n r).s (z1e seed 0 n r).p ≠ 0:=by
 have hv:z4b (z1e seed 0 n r).n (z1e seed 0 n r).i (z1e seed 0 n r).s (z1e seed 0 n r).p=true:=decide_eq_true ⟨hn.1,hn.2,by simp only [z1e];omega,by simp only [z1e];omega,z66 _ _ _,z7u _ _⟩
 unfold z1f
 have e:(if verI x (digH (z1e seed 0 n r).n (z1e seed 0 n r).r) (z1e seed 0 n r).i (z1e seed 0 n r).s (z1e seed 0 n r).p=0 then(0:Int)else 81)=81:=if_neg (zwh seed _ x hx)
 rw [hv,if_neg (by simp),e]
 decide
attribute [local irreducible] ACallsTo ACallsP
theorem zsx:ACallsTo TC 13 [] [] (.bool true) []:=by
 refine zt1 fun O q key A B C n own J h1 h2 h3 h4 h5 h6 h7 h8 h9 hk hA hB hC=> ?_
 have cA:=zbu [107] 0 1 (rb 9) (by omega) (by omega)
 have cB:=zbu [107] 0 1 (rb 2) (by omega) (by omega)
 have cC:=zbu [107] 0 2 (rb 1) (by omega) (by omega)
 have hz:=zuc [107] zeroH 1 (rb 9) (by omega) (root_k zeroH rfl)
 have hp:=z7n cA
 have hw:Wf ([]:Store).length []:=fun r o h=>by simp at h
 rw [<-hk,<-hA]at cA
 rw [<-hk,<-hB]at cB
 rw [<-hk,<-hC]at cC
 rw [<-hA]at hz hp
 exact zsz hw O q key A B C n own J h1 h2 h3 h4 h5 h6 h7 h8 h9 cA cB cC (by rw [hA];rfl) (by rw [hA];rfl) (by rw [hB];rfl) (by rw [hB];rfl) (by rw [hC];rfl) (by rw [hC];rfl)
  fun O own J g1 g2 g3 g4 g5 g6 g7 g8=>zt0 hw O q key A B C n own J g1 g2 g3 g4 g5 g6 g7 g8 hz (by omega)
theorem z3g(O:Store):ACallsTo TC 13 [] O (.bool true) O:=ACallsTo.frame glok zsx (by simp [RLs]) O
end
section
theorem zif(l:List Hash):knil (hr l) (z17 32 (hr l))=z17 32 (hr l):=by
 by_cases h:l=[]
 ·subst h;rfl
 ·exact zdo (z2r _ _) h
attribute [local irreducible] ACallsTo ACallsP
end
section
def hdr0:Hdr:=⟨0,zeroH,0,[],[]⟩
theorem hdrC_0:hdrC hdr0=[.int .i64 0,.int .u8 0,.int .u8 0,.int .u8 0,.int .u8 0,.int .u8 0,.int .u8 0,.int .u8 0,.int .u8 0,.int .u8 0,.int .u8 0,.int .u8 0,.int .u8 0,.int .u8 0,.int .u8 0,.int .u8 0,.int .u8 0,.int .u8 0,.int .u8 0,.int .u8 0,.int .u8 0,.int .u8 0,.int .u8 0,.int .u8 0,.int .u8 0,.int .u8 0,.int .u8 0,.int .u8 0,.int .u8 0,.int .u8 0,.int .u8 0,.int .u8 0,.int .u8 0,.int .i64 0,.str [],.nilsl]:=rfl
def noF(P:List Hdr)(i:Nat):Prop:=∀k,k+1<i->(P[k]?).map Hdr.n ≠ (P[k+1]?).map Hdr.n
theorem ziw{P:List Hdr}{i:Nat}(h:noF P i)(hi:0<i)(hn:(P[i-1]?).map Hdr.n ≠ (P[i]?).map Hdr.n):noF P (i+1):=fun k hk=>by
 by_cases e:k+1<i
 ·exact h k e
 ·obtain rfl:k=i-1:=by omega
  rw [show i-1+1=i by omega];exact hn
def z8u(P:List Hdr):Option Nat->AV
 |none=> .tup [.agg (hdrC hdr0),.agg (hdrC hdr0),.bool false]
 |some j=> .tup [.agg (hdrC (P.getD j hdr0)),.agg (hdrC (P.getD (j+1) hdr0)),.bool true]
def ForkIs(P:List Hdr):Option Nat->Prop
 |none=>noF P P.length
 |some j=>j+1<P.length/\ (P[j]?).map Hdr.n=(P[j+1]?).map Hdr.n/\ noF P (j+1)
theorem ForkIs.ex(P:List Hdr):∃o,ForkIs P o:=by
 have:∀i,i<=P.length->(∃j,ForkIs P (some j)) \/noF P i:=by
  intro i
  induction i with
  |zero=>exact fun _=> .inr fun k hk=>by omega
  |succ i ih=>
   intro hi
   rcases ih (by omega)with h|h
   ·exact .inl h
   ·rcases Nat.eq_zero_or_pos i with rfl|h0
    ·exact .inr fun k hk=>by omega
    ·by_cases he:(P[i-1]?).map Hdr.n=(P[i]?).map Hdr.n
     ·exact .inl ⟨i-1,by omega,by rw [show i-1+1=i by omega];exact he,by rw [show i-1+1=i by omega];exact h⟩
     ·exact .inr (ziw h h0 he)
 rcases this P.length (Nat.le_refl _)with⟨j,h⟩|h
 ·exact⟨some j,h⟩
 ·exact⟨none,h⟩
attribute [local irreducible] ACallsTo ACallsP
theorem zsu(O:Store)(p:Nat)(key:Hash)(P:List Hdr)(own:List Nat)(o:Option Nat)(hT:PoIs O p key P own)(ho:ForkIs P o)(hl:P.length<1000000)(hp:∀h ∈ P,h.p.length<1000000):
  ACallsTo TC 15 [.ptr p 0 0] O (z8u P o) O:=by
 obtain⟨v,sid,rfl,hpp,hr1,hn⟩:=hT
 have d:=slen hpp
 have l:=zm key v
 have g:=z6z key v
 have r1:=hr1.rd.len
 rw [zi]at r1
 unfold z1w at r1
 have z:=hdrC_0
 have zl:=zj hdr0
 have zd:List.drop 36 (hdrC hdr0)=[]:=rfl
 have hN:=fun y=>z5n (O++y) p key v (by rw [gapp d];exact hpp)
 refine ACallsTo.of_body q1nok (by simp) fun hw _=> ?_
 repeat' (first|apply zs_|apply zb_|apply zc_|apply zt_ rfl|apply zf_ rfl|(apply zd_ rfl<;>intro ht<;>try omega)|((first|apply zr_|apply zk_|apply ze_|apply zq_|(apply callW.mk_pu;(first|exact(fun _=>hN _)))|(apply callW.za;(first|exact(hN _)))|(apply zG<;>intro ht));all_goals try simp (disch:=first|omega|(simp only [lens,z8,zg,zj,zi,zm,zn,lQt,lQd,List.length_replicate];first|done|omega)) only [go_sem,hpp,l,g,r1]))
 simp only [<-z]
 refine zW.loop (fun m J O'=>∃i:Nat,m+i=P.length+1/\ 0<i/\ (i<=P.length \/P=[])/\ O'=O++ [some [hdrC hdr0],some [hdrC hdr0]]/\ noF P i/\ J 0=.ptr p 0 0/\ J 2=.ptr O.length 0 0/\ J 3=.ptr (O.length+1) 0 0/\ J 5=.int .i64 i) P.length ?_ ?_
 ·exact⟨1,by omega,by omega,by rcases P with _| ⟨a,P⟩;exact .inr rfl;exact .inl (by simp),rfl,fun k hk=>by omega,by simp (disch:=first|omega|(simp only [lens,z8,zg,zj,zi,zm,zn,lQt,lQd,List.length_replicate];first|done|omega)) only [go_sem],by simp (disch:=first|omega|(simp only [lens,z8,zg,zj,zi,zm,zn,lQt,lQd,List.length_replicate];first|done|omega)) only [go_sem],by simp (disch:=first|omega|(simp only [lens,z8,zg,zj,zi,zm,zn,lQt,lQd,List.length_replicate];first|done|omega)) only [go_sem];try rfl,by simp (disch:=first|omega|(simp only [lens,z8,zg,zj,zi,zm,zn,lQt,lQd,List.length_replicate];first|done|omega)) only [go_sem];try rfl⟩
 ·rintro m J O' ⟨i,hm,hi0,hi1,rfl,hF,q0,q2,q3,q5⟩
  by_cases hi:i<P.length
  ·rcases hr1 with⟨_,h0,_⟩| ⟨q,_,hne,rfl,hq⟩
   ·have:=congrArg List.length h0;rw [zi]at this;simp at this;rw [this]at hi;simp at hi
   rw [zi]at hpp l g
   have dq:=slen hq
   have hdl:=zi P
   have hga:=zhq (H:=P) (i:=i-1) (by omega)
   have hgb:=zhq hi
   have ea:P[i-1]? =some P[i-1]:=List.getElem?_eq_getElem (by omega)
   have eb:P[i]? =some P[i]:=List.getElem?_eq_getElem hi
   have hpa:=hp P[i-1] (List.getElem_mem _)
   have hpb:=hp P[i] (List.getElem_mem hi)
   have hk:(i:Int)-1=((i-1:Nat):Int):=by omega
   by_cases he:P[i-1].n=P[i].n
   ·have hj:o=some (i-1):=by
     cases o with
     |none=>
      exfalso
      have:=ho (i-1) (by omega)
      rw [show i-1+1=i by omega,ea,eb]at this
      exact this (by simp [he])
     |some j=>
      obtain⟨h1,h2,h3⟩:=ho
      by_cases h4:j<i-1
      ·exact absurd h2 (hF j (by omega))
      ·by_cases h5:i-1<j
       ·have:=h3 (i-1) (by omega)
        rw [show i-1+1=i by omega,ea,eb]at this
        exact absurd (by simp [he]) this
       ·congr 1;omega
    subst hj
    have hV:z8u P (some (i-1))=.tup [.agg (hdrC P[i-1]),.agg (hdrC P[i]),.bool true]:=by
     simp only [z8u,show i-1+1=i by omega]
     rw [List.getD_eq_getElem?_getD,List.getD_eq_getElem?_getD,ea,eb];rfl
    rw [hV]
    generalize P[i-1]=a at*
    generalize P[i]=b at*
    have hCa:=fun O=>zb7 O a.n a.r a.i a.s a.p (z17 32 (hr a.p)) (z2r _ _) hpa
    rw [zif,show sgC a.n a.r a.i a.s (z17 32 (hr a.p))=hdrC a from rfl]at hCa
    have hCb:=fun O=>zb7 O b.n b.r b.i b.s b.p (z17 32 (hr b.p)) (z2r _ _) hpb
    rw [zif,show sgC b.n b.r b.i b.s (z17 32 (hr b.p))=hdrC b from rfl]at hCb
    have la:=zj a
    have lb:=zj b
    have na:(hdrC a)[0]? =some (.int .i64 a.n):=rfl
    have nb:(hdrC b)[0]? =some (.int .i64 b.n):=rfl
    have he':(a.n==b.n)=true:=beq_iff_eq.2 he
    have hrla:=z9f (k:=O.length) a
    have hrlb:=z9f (k:=O.length) b
    repeat' (first|apply zs_|apply zb_|apply zc_|apply zt_ rfl|apply zf_ rfl|(apply zd_ rfl<;>intro ht<;>try omega)|((first|apply zr_|apply zk_|apply ze_|apply zq_|(apply callW.mk_pu;(first|exact(fun _=>hCa _)|exact(fun _=>hCb _)))|(apply callW.za;(first|exact(hCa _)|exact(hCb _)))|(apply zG<;>intro ht));all_goals try simp (disch:=first|omega|(simp only [lens,z8,zg,zj,zi,zm,zn,lQt,lQd,List.length_replicate];first|done|omega)) only [go_sem,q0,q2,q3,q5,hpp,l,g,hq,hdl,hga,hgb,hk,la,lb,na,nb,zl,zd,List.append_nil,he']))
    refine DownV.pure hw ?_
    simp only [RL,RLs];exact⟨hrla,hrlb,trivial,trivial⟩
   ·have hF2:=ziw hF hi0 (by rw [ea,eb];simpa using he)
    generalize P[i-1]=a at*
    generalize P[i]=b at*
    have la:=zj a
    have lb:=zj b
    have na:(hdrC a)[0]? =some (.int .i64 a.n):=rfl
    have nb:(hdrC b)[0]? =some (.int .i64 b.n):=rfl
    have he':(a.n==b.n)=false:=beq_eq_false_iff_ne.2 he
    repeat' (first|apply zs_|apply zb_|apply zc_|apply zt_ rfl|apply zf_ rfl|(apply zd_ rfl<;>intro ht<;>try omega)|((first|apply zr_|apply zk_|apply ze_|apply zq_|(apply zG<;>intro ht));all_goals try simp (disch:=first|omega|(simp only [lens,z8,zg,zj,zi,zm,zn,lQt,lQd,List.length_replicate];first|done|omega)) only [go_sem,q0,q2,q3,q5,hpp,l,g,hq,hdl,hga,hgb,hk,la,lb,na,nb,he']))
    exact⟨m-1,by omega,i+1,by omega,by omega,.inl (by omega),hF2,by simp⟩
  ·have hnF:noF P P.length:=by
    rcases hi1 with h|h
    ·obtain rfl:i=P.length:=by omega
     exact hF
    ·subst h;exact fun k hk=>by simp at hk
   have hj:o=none:=by
    cases o with
    |none=>rfl
    |some j=>
     obtain⟨h1,h2,h3⟩:=ho
     exact absurd h2 (hnF j h1)
   subst hj
   have hrlz:=z9f (k:=O.length) hdr0
   have hi':¬(i:Int)<P.length:=by omega
   repeat' (first|apply zs_|apply zb_|apply zc_|apply zt_ rfl|apply zf_ rfl|(apply zd_ rfl<;>intro ht<;>try omega)|((first|apply zr_|apply zk_|apply ze_|apply zq_|(apply zG<;>intro ht));all_goals try simp (disch:=first|omega|(simp only [lens,z8,zg,zj,zi,zm,zn,lQt,lQd,List.length_replicate];first|done|omega)) only [go_sem,q0,q2,q3,q5,hpp,l,g,r1,zl,hi']))
   refine DownV.pure hw ?_
   simp only [RL,RLs];exact⟨hrlz,hrlz,trivial,trivial⟩
end
section
def hns(P:List Hdr):List (Int × Hash):=P.map fun q=>(q.n,q.r)
theorem zhs(P:List Hdr):(hns P).length=P.length:=by simp [hns]
theorem zat{P:List Hdr}{i:Nat}(h:i<P.length):(kn P)[i]? =some (.int .i64 P[i].n::hc P[i].r):=by
 simp [kn,List.getElem?_eq_getElem h]
theorem zht{P:List Hdr}{i:Nat}(h:i<P.length):hns (P.take (i+1))=hns (P.take i)++ [(P[i].n,P[i].r)]:=by
 unfold hns;rw [List.take_succ_eq_append_getElem h,List.map_append];rfl
attribute [local irreducible] ACallsTo ACallsP
theorem zlv(O:Store)(P Q:List Hdr)(x y:AV)(hx:SlV 33 (kn P) x)(hy:SlV 33 (kn Q) y)(hlp:P.length<1000000)(hlq:Q.length<1000000):
  ACallsTo TC 32 [x,y] O (.bool (decide (hns P=hns Q))) O:=by
 have r1:=hx.len
 have r2:=hy.len
 rw [zn]at r1 r2
 unfold z1w at r1 r2
 refine ACallsTo.of_body q1aok (by simp) fun hw _=> ?_
 by_cases hlen:P.length=Q.length
 ·rw [hlen]at r1
  repeat' (first|apply zs_|apply zb_|apply zc_|apply zt_ rfl|apply zf_ rfl|(apply zd_ rfl<;>intro ht<;>try omega)|((first|apply zr_|apply zk_|apply ze_|apply zq_|(apply zG<;>intro ht));all_goals try simp (disch:=first|omega|(simp only [lens,z8,zg,zj,zi,zm,zn,lQt,lQd,List.length_replicate];first|done|omega)) only [go_sem,r1,r2]))
  refine zW.loop (fun m J O'=>∃i:Nat,m+i=Q.length/\ O'=O/\ hns (P.take i)=hns (Q.take i)/\ J 0=x/\ J 1=y/\ J 12=.int .i64 Q.length/\ J 13=.int .i64 i) Q.length ?_ ?_
  ·exact⟨0,by omega,rfl,by simp [hns],by simp (disch:=first|omega|(simp only [lens,z8,zg,zj,zi,zm,zn,lQt,lQd,List.length_replicate];first|done|omega)) only [go_sem],by simp (disch:=first|omega|(simp only [lens,z8,zg,zj,zi,zm,zn,lQt,lQd,List.length_replicate];first|done|omega)) only [go_sem],by simp (disch:=first|omega|(simp only [lens,z8,zg,zj,zi,zm,zn,lQt,lQd,List.length_replicate];first|done|omega)) only [go_sem],by simp (disch:=first|omega|(simp only [lens,z8,zg,zj,zi,zm,zn,lQt,lQd,List.length_replicate];first|done|omega)) only [go_sem];try rfl⟩
  ·rintro m J O' ⟨i,hm,rfl,hE,q0,q1,q12,q13⟩
   by_cases hi:i<Q.length
   ·have hip:i<P.length:=by omega
    obtain⟨ex,rfl⟩:=hx.vsl (by rw [zn];omega)
    obtain⟨ey,rfl⟩:=hy.vsl (by rw [zn];omega)
    have ga:=zat hip
    have gb:=zat hi
    have la:=zn P
    have lb:=zn Q
    have sa:=zht hip
    have sb:=zht hi
    have he:=z9j P[i].n Q[i].n P[i].r Q[i].r
    have hka:=z8 P[i].r
    have hkb:=z8 Q[i].r
    by_cases hh:P[i].n=Q[i].n/\ P[i].r=Q[i].r
    ·rw [decide_eq_true hh]at he
     have hE2:hns (P.take (i+1))=hns (Q.take (i+1)):=by rw [sa,sb,hE,hh.1,hh.2]
     generalize P[i]=a at*
     generalize Q[i]=b at*
     repeat' (first|apply zs_|apply zb_|apply zc_|apply zt_ rfl|apply zf_ rfl|(apply zd_ rfl<;>intro ht<;>try omega)|((first|apply zr_|apply zk_|apply ze_|apply zq_|(apply zG<;>intro ht));all_goals try simp (disch:=first|omega|(simp only [lens,z8,zg,zj,zi,zm,zn,lQt,lQd,List.length_replicate];first|done|omega)) only [go_sem,q0,q1,q12,q13,ga,gb,la,lb,he,hka,hkb]))
     exact⟨m-1,by omega,i+1,by omega,hE2,by simp⟩
    ·rw [decide_eq_false hh]at he
     have hne:hns P ≠ hns Q:=by
      intro e
      have h1:(hns P)[i]? =(hns Q)[i]?:=by rw [e]
      simp only [hns,List.getElem?_map,List.getElem?_eq_getElem hip,List.getElem?_eq_getElem hi,Option.map_some,Option.some.injEq,Prod.mk.injEq]at h1
      exact hh h1
     rw [decide_eq_false hne]
     generalize P[i]=a at*
     generalize Q[i]=b at*
     repeat' (first|apply zs_|apply zb_|apply zc_|apply zt_ rfl|apply zf_ rfl|(apply zd_ rfl<;>intro ht<;>try omega)|((first|apply zr_|apply zk_|apply ze_|apply zq_|(apply zG<;>intro ht));all_goals try simp (disch:=first|omega|(simp only [lens,z8,zg,zj,zi,zm,zn,lQt,lQd,List.length_replicate];first|done|omega)) only [go_sem,q0,q1,q12,q13,ga,gb,la,lb,he,hka,hkb]))
     exact DownV.same hw z29
   ·obtain rfl:i=Q.length:=by omega
    rw [List.take_of_length_le (Nat.le_refl _),List.take_of_length_le (by omega)]at hE
    rw [decide_eq_true hE]
    repeat' (first|apply zs_|apply zb_|apply zc_|apply zt_ rfl|apply zf_ rfl|(apply zd_ rfl<;>intro ht<;>try omega)|((first|apply zr_|apply zk_|apply ze_|apply zq_|(apply zG<;>intro ht));all_goals try simp (disch:=first|omega|(simp only [lens,z8,zg,zj,zi,zm,zn,lQt,lQd,List.length_replicate];first|done|omega)) only [go_sem,q0,q1,q12,q13]))
    exact DownV.same hw z29
 ·have hne:hns P ≠ hns Q:=fun e=>hlen (by have:=congrArg List.length e;rwa [zhs,zhs]at this)
  rw [decide_eq_false hne]
  have h3:((P.length:Int)==Q.length)=false:=beq_eq_false_iff_ne.2 (by omega)
  repeat' (first|apply zs_|apply zb_|apply zc_|apply zt_ rfl|apply zf_ rfl|(apply zd_ rfl<;>intro ht<;>try omega)|((first|apply zr_|apply zk_|apply ze_|apply zq_|(apply zG<;>intro ht));all_goals try simp (disch:=first|omega|(simp only [lens,z8,zg,zj,zi,zm,zn,lQt,lQd,List.length_replicate];first|done|omega)) only [go_sem,r1,r2,h3]))
  exact DownV.same hw z29
theorem zsw(O:Store)(p q:Nat)(key key':Hash)(P Q:List Hdr)(own own':List Nat)(hP:PoIs O p key P own)(hQ:PoIs O q key' Q own')(hlp:P.length<1000000)(hlq:Q.length<1000000):
  ACallsTo TC 17 [.ptr p 0 0,.ptr q 0 0] O (.bool (decide (hns P=hns Q))) O:=by
 have k1:=zb5 O p key P own hP hlp
 have k2:=zb5 O q key' Q own' hQ hlq
 have hE:=fun O=>zlv O P Q _ _ (z2r _ _) (z2r _ _) hlp hlq
 obtain⟨v,sid,rfl,hpp,hr1,hn⟩:=hP
 obtain⟨v',sid',rfl,hqp,hr2,hn'⟩:=hQ
 have n1:=z5n O p key v hpp
 have n2:=z5n O q key' v' hqp
 refine ACallsTo.of_body q1pok (by simp) fun hw _=> ?_
 repeat' (first|apply zs_|apply zb_|apply zc_|apply zt_ rfl|apply zf_ rfl|(apply zd_ rfl<;>intro ht<;>try omega)|((first|apply zr_|apply zk_|apply ze_|apply zq_|(apply callW.mk_pu;(first|exact(fun _=>n1)|exact(fun _=>n2)|exact(fun _=>k1)|exact(fun _=>k2)|exact(fun _=>hE _)))|(apply callW.za;(first|exact(n1)|exact(n2)|exact(k1)|exact(k2)|exact(hE _)))|(apply zG<;>intro ht));all_goals try simp (disch:=first|omega|(simp only [lens,z8,zg,zj,zi,zm,zn,lQt,lQd,List.length_replicate];first|done|omega)) only [go_sem]))
 exact DownV.same hw z29
def PoCopyP(O:Store)(key:Hash)(P:List Hdr)(v:AV)(O':Store):Prop:=
 ∃p own,v=.ptr p 0 0/\ Ext O O'/\ PoIs O' p key P own/\ ∀j ∈ own,O.length<=j
theorem PoCopyP.at(O:Store)(key:Hash)(P:List Hdr):PoCopyP O key P (.ptr (ownS O (hdrs P)).length 0 0) (ownS O (hdrs P)++ [some [poC key (ownV O 36 (hdrs P))]]):=by
 by_cases h:hdrs P=[]
 ·have e1:ownS O (hdrs P)=O:=by unfold ownS;rw [if_pos h]
  have e2:ownV O 36 (hdrs P)=.nilsl:=by unfold ownV;rw [if_pos h]
  rw [e1,e2]
  exact⟨_,[O.length],rfl,⟨_,rfl⟩,⟨.nilsl,none,rfl,by rw [z1p (Nat.le_refl _),Nat.sub_self];rfl,.inl ⟨rfl,h,rfl⟩,by simp⟩,by simp⟩
 ·have e1:ownS O (hdrs P)=O++ [some (hdrs P)]:=by unfold ownS;rw [if_neg h]
  have e2:ownV O 36 (hdrs P)=.sl O.length 0 (hdrs P).length none 36:=by unfold ownV;rw [if_neg h]
  rw [e1,e2]
  refine⟨O.length+1,[O.length+1,O.length],by simp,⟨[some (hdrs P),some [poC key (.sl O.length 0 (hdrs P).length none 36)]],by simp⟩,⟨_,some O.length,rfl,?_,.inr ⟨O.length,rfl,h,rfl,?_⟩,by simp⟩,by simp⟩
  ·rw [z1p (by simp)];simp
  ·rw [List.append_assoc,z1p (Nat.le_refl _),Nat.sub_self];rfl
theorem PoCopyP.is(O:Store)(key:Hash)(P:List Hdr):∃v O',PoCopyP O key P v O':=⟨_,_,.at O key P⟩
end
section
def rt2(b:UInt8):Hash:=⟨b::7::List.replicate 30 0,rfl⟩
theorem hc_rt2(b:UInt8):hc (rt2 b)=[.int .u8 b.toNat,.int .u8 7,.int .u8 0,.int .u8 0,.int .u8 0,.int .u8 0,.int .u8 0,.int .u8 0,.int .u8 0,.int .u8 0,.int .u8 0,.int .u8 0,.int .u8 0,.int .u8 0,.int .u8 0,.int .u8 0,.int .u8 0,.int .u8 0,.int .u8 0,.int .u8 0,.int .u8 0,.int .u8 0,.int .u8 0,.int .u8 0,.int .u8 0,.int .u8 0,.int .u8 0,.int .u8 0,.int .u8 0,.int .u8 0,.int .u8 0,.int .u8 0]:=rfl
def z1m(s:List UInt8)(k:Nat):List UInt8:=s.set k (s.getD k 0^^^1)
theorem zhh(s:List UInt8)(k:Nat):(z1m s k).length=s.length:=by simp [z1m]
def z21(a:Nat):Int:=1+((a%6:Nat):Int)
def z24(r:Nat):Hash:=rt2 (UInt8.ofNat (r%3))
def z2h(seed:List UInt8)(a r k b:Nat):Hdr:=
 let h:=z1e seed (k%8) (z21 a) (z24 r)
 if b%8=0 then { h with s:=z1m h.s k }else h
theorem zbs(seed:List UInt8)(a r k b:Nat)(hb:b%8 ≠ 0):z2h seed a r k b=z1e seed (k%8) (z21 a) (z24 r):=if_neg hb
theorem zbr(seed:List UInt8)(a r k b:Nat)(hb:b%8=0):z2h seed a r k b=⟨z21 a,z24 r,(k%8:Nat),z1m (ksgS seed (k%8:Nat) (digH (z21 a) (z24 r)).1) k,z1h (keyL seed) (k%8)⟩:=if_pos hb
theorem zu0(seed:List UInt8)(a r k b:Nat):(z2h seed a r k b).n=z21 a/\ (z2h seed a r k b).r=z24 r:=by
 by_cases hb:b%8=0
 ·rw [zbr seed a r k b hb];exact⟨rfl,rfl⟩
 ·rw [zbs seed a r k b hb];exact⟨rfl,rfl⟩
theorem zep(seed:List UInt8)(a r k b:Nat):(z2h seed a r k b).p.length=3:=by
 by_cases hb:b%8=0
 ·rw [zbr seed a r k b hb];exact z7u _ _
 ·rw [zbs seed a r k b hb];exact z7u _ _
theorem xor_b1(a:UInt8):z16 .xor .u8 (a.toNat:Int) 1=some (.int .u8 ((a^^^1).toNat:Int)):=by
 rw [zi9 ⟨by omega,by have:=a.toNat_lt;omega⟩ ⟨by omega,by omega⟩];simp
theorem zn8(s:List UInt8)(i:Nat)(x:UInt8):(zx s).set i [.int .u8 (x.toNat:Int)]=zx (s.set i x):=by
 rw [zgk ⟨by omega,by have:=x.toNat_lt;omega⟩];simp
attribute [local irreducible] ACallsTo ACallsP
theorem zeq(O:Store)(t:Nat)(seed:List UInt8)(a r k b:Nat)(ht:O[t]? =some (some [z1g true seed (keyL seed)]))(hs:seed.length<1000000)(ha:a<256)(hr0:r<256)(hk:k<256)(hb:b<256):
  ACallsTo TC 14 [.agg [.int .u8 a,.int .u8 r,.int .u8 k,.int .u8 b],.ptr t 0 0] O (.agg (hdrC (z2h seed a r k b))) O:=by
 have d:=slen ht
 have hn:z21 a=1+((a%6:Nat):Int):=rfl
 have hD:=fun O=>zjt O (z21 a) (z24 r)
 have hS:=fun y=>zl8 (O++y) t seed (keyL seed) (k%8) (digH (z21 a) (z24 r)) (by rw [gapp d];exact ht) (z2o seed) (by omega) hs
 unfold zbq at hS
 have hh:=hc_rt2 (UInt8.ofNat (r%3))
 rw [show rt2 (UInt8.ofNat (r%3))=z24 r from rfl]at hh
 have hu:(UInt8.ofNat (r%3)).toNat=r%3:=by rw [UInt8.toNat_ofNat'];omega
 rw [hu]at hh
 have e1:((a:Int))%6=((a%6:Nat):Int):=by omega
 have e2:((r:Int))%3=((r%3:Nat):Int):=by omega
 have e3:((k:Int))%8=((k%8:Nat):Int):=by omega
 have e4:((b:Int))%8=((b%8:Nat):Int):=by omega
 have hsl:=z66 seed ((k%8:Nat):Int) (digH (z21 a) (z24 r)).1
 by_cases hb8:b%8=0
 ·rw [zbr seed a r k b hb8]
  have hrl:RLs O.length (hdrC ⟨z21 a,z24 r,(k%8:Nat),z1m (ksgS seed (k%8:Nat) (digH (z21 a) (z24 r)).1) k,z1h (keyL seed) (k%8)⟩):=z9f _
  unfold hdrC sgC at hrl ⊢
  dsimp only at hrl ⊢
  unfold z1m at hrl ⊢
  generalize digH (z21 a) (z24 r)=dg at*
  generalize ksgS seed ((k%8:Nat):Int) dg.1=sig at*
  generalize z17 32 (hr (z1h (keyL seed) (k%8)))=PH at*
  generalize z24 r=R at*
  obtain⟨N,hN⟩:∃N:Int,1+((a%6:Nat):Int)=N:=⟨_,rfl⟩
  rw [hh,hn,hN]at hD hrl
  rw [hh,hn,hN]
  refine ACallsTo.of_body q1mok (by simp) fun hw _=> ?_
  repeat' (first|apply zs_|apply zb_|apply zc_|apply zt_ rfl|apply zf_ rfl|(apply zd_ rfl<;>intro ht<;>try omega)|((first|apply zr_|apply zk_|apply ze_|apply zq_|(apply callW.mk_pu;(first|exact(fun _=>hD _)))|(apply callW.za;(first|exact(hD _)))|(apply zG<;>intro ht));all_goals try simp (disch:=first|omega|(simp only [lens,z8,zg,zj,zi,zm,zn,lQt,lQd,List.length_replicate,z15];first|done|omega)) only [go_sem,e1,e2,e3,e4,hb8,hsl,hN]))
  refine callW.mk_pu2 (caps:=[]) (hS _) (fun h hh=>hh.elim) ?_
  have h0:(0:Int)<sig.length:=by rw [hsl];omega
  have hkl:k<sig.length:=by rw [hsl];omega
  have e5:(k:Int)%(sig.length:Int)=k:=Int.emod_eq_of_lt (by omega) (by omega)
  have hbl:=z15 sig
  have hxr:=xor_b1 (sig.getD k 0)
  have hst:=zn8 sig k (sig.getD k 0^^^1)
  clear hsl
  simp (disch:=first|omega|(simp only [lens,z8,zg,zj,zi,zm,zn,lQt,lQd,List.length_replicate,z15];first|done|omega)) only [go_sem,hS,List.append_nil,e1,e2,e3,e4,hb8,hN,h0]
  repeat' (first|apply zs_|apply zb_|apply zc_|apply zt_ rfl|apply zf_ rfl|(apply zd_ rfl<;>intro ht<;>try omega)|((first|apply zr_|apply zk_|apply ze_|apply zq_|(apply zG<;>intro ht));all_goals try simp (disch:=first|omega|(simp only [lens,z8,zg,zj,zi,zm,zn,lQt,lQd,List.length_replicate,z15];first|done|omega)) only [go_sem,e1,e2,e3,e4,hb8,hN,h0,e5,hkl,hbl,hxr,hst]))
  refine DownV.pure hw ?_
  simp only [RL]
  exact hrl
 ·rw [zbs seed a r k b hb8]
  have hrl:RLs O.length (hdrC (z1e seed (k%8) (z21 a) (z24 r))):=z9f _
  unfold z1e hdrC sgC at hrl ⊢
  dsimp only at hrl ⊢
  generalize digH (z21 a) (z24 r)=dg at*
  generalize ksgS seed ((k%8:Nat):Int) dg.1=sig at*
  generalize z17 32 (hr (z1h (keyL seed) (k%8)))=PH at*
  generalize z24 r=R at*
  obtain⟨N,hN⟩:∃N:Int,1+((a%6:Nat):Int)=N:=⟨_,rfl⟩
  rw [hh,hn,hN]at hD hrl
  rw [hh,hn,hN]
  refine ACallsTo.of_body q1mok (by simp) fun hw _=> ?_
  repeat' (first|apply zs_|apply zb_|apply zc_|apply zt_ rfl|apply zf_ rfl|(apply zd_ rfl<;>intro ht<;>try omega)|((first|apply zr_|apply zk_|apply ze_|apply zq_|(apply callW.mk_pu;(first|exact(fun _=>hD _)))|(apply callW.za;(first|exact(hD _)))|(apply zG<;>intro ht));all_goals try simp (disch:=first|omega|(simp only [lens,z8,zg,zj,zi,zm,zn,lQt,lQd,List.length_replicate,z15];first|done|omega)) only [go_sem,e1,e2,e3,e4,hb8,hsl,hN]))
  refine callW.mk_pu2 (caps:=[]) (hS _) (fun h hh=>hh.elim) ?_
  simp (disch:=first|omega|(simp only [lens,z8,zg,zj,zi,zm,zn,lQt,lQd,List.length_replicate,z15];first|done|omega)) only [go_sem,hS,List.append_nil,e1,e2,e3,e4,hb8,hsl,hN]
  repeat' (first|apply zs_|apply zb_|apply zc_|apply zt_ rfl|apply zf_ rfl|(apply zd_ rfl<;>intro ht<;>try omega)|((first|apply zr_|apply zk_|apply ze_|apply zq_|(apply zG<;>intro ht));all_goals try simp (disch:=first|omega|(simp only [lens,z8,zg,zj,zi,zm,zn,lQt,lQd,List.length_replicate,z15];first|done|omega)) only [go_sem,e1,e2,e3,e4,hb8,hsl,hN]))
  refine DownV.pure hw ?_
  simp only [RL]
  exact hrl
end
section
theorem zar{P:List Hdr}(hP:PSort P)(m:Int)(k:Hash):isP P m k=true ↔ ∃q ∈ P,q.n=m/\ q.r=k:=by
 unfold isP
 rw [decide_eq_true_iff]
 constructor
 ·rintro⟨h,e⟩
  exact⟨P[lbP P m k],List.getElem_mem h,po_zero.1 e⟩
 ·rintro⟨q,hq,rfl,rfl⟩
  obtain⟨j,hj,rfl⟩:=List.getElem_of_mem hq
  have z:poI P[j].n P[j].r P[j].n P[j].r=0:=po_zero.2 ⟨rfl,rfl⟩
  have h1:¬j<lbP P P[j].n P[j].r:=fun h=>by have:=(z94 hP P[j].n P[j].r j hj).2 h;omega
  by_cases h2:lbP P P[j].n P[j].r=j
  ·refine⟨by omega,?_⟩
   simp only [h2];exact z
  ·exfalso
   have h3:lbP P P[j].n P[j].r<j:=by omega
   have:=hP _ j (by omega) hj h3
   have:=(z94 hP P[j].n P[j].r _ (by omega)).1 this
   omega
theorem Fr.nin{O O':Store}{own own':List Nat}(h:Fr O O' own own'){j:Nat}(hj:j<O.length)(hn:j ∉ own):j ∉ own':=fun h2=>by
 rcases h.new j h2 with h3|h3
 ·exact hn h3
 ·omega
section
variable (seed:List UInt8)
end
end
section
attribute [local irreducible] ACallsTo ACallsP zkz zl0
attribute [local irreducible] zv3
end
section
set_option maxRecDepth 4000
open Pk (P Q M one pkN)
noncomputable def z7j(m o:Nat)(wf:Nat->Nat->Nat)(bs:List Nat):Nat->Nat->Nat->Nat->Nat->Nat->Nat->Nat->S8:=
 List.rec (motive:=fun _=>Nat->Nat->Nat->Nat->Nat->Nat->Nat->Nat->S8) S8.mk
  (fun j _ ih a b c d e f g h=>
   frc (wf j 0) fun w0=>frc (wf j 1) fun w1=>frc (wf j 2) fun w2=>frc (wf j 3) fun w3=>frc (wf j 4) fun w4=>frc (wf j 5) fun w5=>frc (wf j 6) fun w6=>frc (wf j 7) fun w7=>
   frc (wf j 8) fun w8=>frc (wf j 9) fun w9=>frc (wf j 10) fun w10=>frc (wf j 11) fun w11=>frc (wf j 12) fun w12=>frc (wf j 13) fun w13=>frc (wf j 14) fun w14=>frc (wf j 15) fun w15=>
   finN m a b c d e f g h ih (goN m o k64 a b c d e f g h w0 w1 w2 w3 w4 w5 w6 w7 w8 w9 w10 w11 w12 w13 w14 w15)) bs
theorem znr(m o:Nat)(wf:Nat->Nat->Nat)(j:Nat)(bs:List Nat)(a b c d e f g h:Nat):z7j m o wf (j::bs) a b c d e f g h=
  finN m a b c d e f g h (z7j m o wf bs) (goN m o k64 a b c d e f g h (wf j 0) (wf j 1) (wf j 2) (wf j 3) (wf j 4) (wf j 5) (wf j 6) (wf j 7) (wf j 8) (wf j 9) (wf j 10) (wf j 11) (wf j 12) (wf j 13) (wf j 14) (wf j 15)):=by
 unfold z7j
 dsimp only
 rw [zu,zu,zu,zu,zu,zu,zu,zu,zu,zu,zu,zu,zu,zu,zu,zu]
section
variable {ι:Type} (L:List ι)
def s8L(f:ι->V8):S8:=⟨Q L fun i=>(f i).a,Q L fun i=>(f i).b,Q L fun i=>(f i).c,Q L fun i=>(f i).d,Q L fun i=>(f i).e,Q L fun i=>(f i).f,Q L fun i=>(f i).g,Q L fun i=>(f i).h⟩
theorem zd1 (wf : Nat -> Nat -> Nat) (s : ι -> List UInt8) (nb : Nat) (hw : ∀ j t, j < nb -> t < 16 -> wf j t = Q L fun i => zw ((s i).drop (64 * j)) t) : ∀ (n b : Nat) (v : ι -> V8), b + n = nb ->
    z7j (M L) (one L) wf (List.range' b n) (Q L fun i=>(v i).a) (Q L fun i=>(v i).b) (Q L fun i=>(v i).c) (Q L fun i=>(v i).d) (Q L fun i=>(v i).e) (Q L fun i=>(v i).f) (Q L fun i=>(v i).g) (Q L fun i=>(v i).h)=
    s8L L fun i=>blocks n (v i) ((s i).drop (64*b))
  | 0,b,v,h=>rfl
  |n+1,b,v,h=>by
    have ih:=zd1 wf s nb hw n (b+1) (fun i=>mixS (v i) ((s i).drop (64*b))) (by omega)
    rw [List.range'_succ,znr]
    refine(z8p L (fun i=>(s i).drop (64*b)) v _ _ _ _ _ _ _ _ _ _ _ _ _ _ _ _ _ (hw b 0 (by omega) (by omega)) (hw b 1 (by omega) (by omega)) (hw b 2 (by omega) (by omega)) (hw b 3 (by omega) (by omega)) (hw b 4 (by omega) (by omega)) (hw b 5 (by omega) (by omega)) (hw b 6 (by omega) (by omega)) (hw b 7 (by omega) (by omega)) (hw b 8 (by omega) (by omega)) (hw b 9 (by omega) (by omega)) (hw b 10 (by omega) (by omega)) (hw b 11 (by omega) (by omega)) (hw b 12 (by omega) (by omega)) (hw b 13 (by omega) (by omega)) (hw b 14 (by omega) (by omega)) (hw b 15 (by omega) (by omega))).trans ?_
    refine ih.trans ?_
    have e:∀i,blocks (n+1) (v i) ((s i).drop (64*b))=blocks n (mixS (v i) ((s i).drop (64*b))) ((s i).drop (64*(b+1))):=fun i=>by
      rw [blocks,zds,List.drop_drop,show 64*b+64=64*(b+1)by omega]
    simp only [e]
end
structure PadT(y:W)(n nb:Nat)(T:List W):Prop where
 len:n+T.length=16*nb
 take:∀l:List W,l.length=n->padS (lb y::enc l)=(lb y::enc (l++T)).take (64*nb)
 full:∀l:List W,l.length=n->(padS (lb y::enc l)).length=64*nb
theorem PadT.of(y:W)(n nb z:Nat)(T:List W)(h:n+T.length=16*nb)(hz:(119-(n*4+1)%64)%64=z)(hT:(enc T).take (4*T.length-1)=128::(List.replicate z 0++be 8 ((n*4+1)*8)))(hTl:0<T.length):PadT y n nb T:=by
 have e0:∀l:List W,l.length=n->padS (lb y::enc l)=lb y::(enc l++128::(List.replicate z 0++be 8 ((n*4+1)*8))):=fun l hl=>by
  have:=ze6 y l (n*4+1) (by rw [hl])
  rw [hz]at this
  exact this
 have hl2:=congrArg List.length hT
 rw [List.length_take,z3z]at hl2
 refine⟨h,fun l hl=> ?_,fun l hl=> ?_⟩
 ·rw [e0 l hl,<-hT,z8s,show 64*nb=(64*nb-1)+1 by omega,List.take_succ_cons,show 64*nb-1=(enc l).length+(4*T.length-1)by rw [z3z,hl];omega,List.take_length_add_append]
 ·rw [e0 l hl,<-hT,List.length_cons,List.length_append,z3z,List.length_take,z3z,hl]
  omega
theorem PadT.word{y:W}{n nb:Nat}{T:List W}(h:PadT y n nb T)(l:List W)(hl:l.length=n)(i:Nat)(hi:i<16*nb):zw (padS (lb y::enc l)) i=shW ((y::(l++T)).getD i 0) ((y::(l++T)).getD (i+1) 0):=by
 rw [h.take l hl,zca _ (by omega)]
 have h2:=h.len
 have:=zal i y (l++T) [] (by rw [List.length_append,hl];omega)
 rwa [List.append_nil]at this
noncomputable def wfX(m:Nat)(Y:Nat->Nat)(j t:Nat):Nat:=shN m (Y (Nat.add (Nat.mul 16 j) t)) (Y (Nat.add (Nat.add (Nat.mul 16 j) t) 1))
def hv(s:List UInt8):V8:=blocks ((padS s).length/64) v0 (padS s)
noncomputable def z8w(m o:Nat)(Y:Nat->Nat)(nb:Nat):S8:=
 frc (Nat.mul o 1779033703) fun na=>frc (Nat.mul o 3144134277) fun nb'=>frc (Nat.mul o 1013904242) fun nc=>frc (Nat.mul o 2773480762) fun nd=>
 frc (Nat.mul o 1359893119) fun ne=>frc (Nat.mul o 2600822924) fun nf=>frc (Nat.mul o 528734635) fun ng=>frc (Nat.mul o 1541459225) fun nh=>
 z7j m o (wfX m Y) (List.range' 0 nb) na nb' nc nd ne nf ng nh
theorem zdh (N : Nat) (Y : Nat -> Nat) {y : W} {n nb : Nat} {T : List W} (h : PadT y n nb T) (X : Nat -> List W) (hX : ∀ l, l < N -> (X l).length = n) (hY : ∀ i, i < 16 * nb + 1 -> Y i = Q (List.range N) fun l => (y :: (X l ++ T)).getD i 0) :
    z8w (M (List.range N)) (one (List.range N)) Y nb=s8L (List.range N) fun l=>hv (lb y::enc (X l)):=by
  unfold z8w
  rw [zu,zu,zu,zu,zu,zu,zu,zu]
  have hc:∀(c:W) (k:Nat),c.toNat=k->Nat.mul (one (List.range N)) k=Q (List.range N) fun _=>c:=z3k N
  have na:Nat.mul (one (List.range N)) 1779033703=Q (List.range N) fun _=>v0.a:=hc 1779033703#32 _ rfl
  have nb':Nat.mul (one (List.range N)) 3144134277=Q (List.range N) fun _=>v0.b:=hc 3144134277#32 _ rfl
  have nc:Nat.mul (one (List.range N)) 1013904242=Q (List.range N) fun _=>v0.c:=hc 1013904242#32 _ rfl
  have nd:Nat.mul (one (List.range N)) 2773480762=Q (List.range N) fun _=>v0.d:=hc 2773480762#32 _ rfl
  have ne:Nat.mul (one (List.range N)) 1359893119=Q (List.range N) fun _=>v0.e:=hc 1359893119#32 _ rfl
  have nf:Nat.mul (one (List.range N)) 2600822924=Q (List.range N) fun _=>v0.f:=hc 2600822924#32 _ rfl
  have ng:Nat.mul (one (List.range N)) 528734635=Q (List.range N) fun _=>v0.g:=hc 528734635#32 _ rfl
  have nh:Nat.mul (one (List.range N)) 1541459225=Q (List.range N) fun _=>v0.h:=hc 1541459225#32 _ rfl
  rw [na,nb',nc,nd,ne,nf,ng,nh]
  have hw:∀j t,j<nb->t<16->wfX (M (List.range N)) Y j t=Q (List.range N) fun l=>zw ((padS (lb y::enc (X l))).drop (64*j)) t:=by
    intro j t hj ht
    show shN _ (Y (16*j+t)) (Y (16*j+t+1))=_
    rw [hY _ (by omega),hY _ (by omega),z3c]
    refine z3j fun l hl=> ?_
    rw [show 64*j=4*(16*j)by omega,z9u,h.word (X l) (hX l hl) _ (by omega)]
  refine(zd1 (List.range N) (wfX (M (List.range N)) Y) (fun l=>padS (lb y::enc (X l))) nb hw nb 0 (fun _=>v0) (by omega)).trans ?_
  have e:∀l,l<N->blocks nb v0 ((padS (lb y::enc (X l))).drop (64*0))=hv (lb y::enc (X l)):=fun l hl=>by
    unfold hv
    rw [h.full (X l) (hX l hl),Nat.mul_div_cancel_left _ (by omega)]
    rfl
  unfold s8L
  congr 1<;>exact z3j fun l hl=>by dsimp only;rw [e l hl]
noncomputable def sumB(f:Nat->Nat)(n acc:Nat):Nat:=
 Nat.rec (motive:=fun _=>Nat->Nat) (fun acc=>acc) (fun k ih acc=>frc (Nat.add (Nat.mul acc p512) (f k)) ih) n acc
theorem zc2(f:Nat->Nat)(n acc:Nat):sumB f (n+1) acc=sumB f n (Nat.add (Nat.mul acc p512) (f n)):=by
 show frc _ _=_
 rw [zu]
 rfl
theorem Q_app(f:Nat->W)(a b:Nat):Q (List.range (a+b)) f=Q (List.range a) f+2^(64*a)*Q (List.range b) (fun i=>f (a+i)):=by
 unfold Q P
 rw [List.range_add,List.map_append,zb1,List.length_map,List.length_range,List.map_map]
 rfl
theorem zjk(n:Nat):2^(64*(8*n+8))=2^(64*(8*n))*p512:=by
 obtain⟨k,hk,e⟩:∃k,k=512/\ p512=2^k:=⟨512,rfl,zja⟩
 rw [show 64*(8*n+8)=64*(8*n)+k by omega,e,Nat.pow_add]
theorem zl6(f:Nat->Nat)(g:Nat->W):∀(n acc:Nat),(∀v,v<n->f v=Q (List.range 8) fun i=>g (8*v+i))->sumB f n acc=Q (List.range (8*n)) g+2^(64*(8*n))*acc
 | 0,acc,_=>by show acc=_;simp [Q,P,pkN]
 |n+1,acc,h=>by
  rw [zc2,zl6 f g n _ fun v hv=>h v (by omega),show 8*(n+1)=8*n+8 by omega,Q_app,h n (by omega)]
  have e:Nat.add (Nat.mul acc p512) (Q (List.range 8) fun i=>g (8*n+i))=acc*p512+Q (List.range 8) fun i=>g (8*n+i):=rfl
  have e2:=zjk n
  generalize 2^(64*(8*n+8))=E2 at e2 ⊢
  rw [e,e2,Nat.mul_add,Nat.mul_assoc,Nat.mul_comm acc]
  omega
theorem zvy(f:Nat->Nat)(g:Nat->W)(n:Nat)(h:∀v,v<n->f v=Q (List.range 8) fun i=>g (8*v+i)):sumB f n 0=Q (List.range (8*n)) g:=by
 have h2:=zl6 f g n 0 h
 generalize 2^(64*(8*n))=E at h2
 rw [h2,Nat.mul_zero,Nat.add_zero]
noncomputable def selN(c x y:Nat):Nat:=Nat.xor y (Nat.land (Nat.xor x y) c)
theorem zkg{ι:Type}(L:List ι)(c:ι->Bool)(f g:ι->W):selN (Q L fun i=>if c i then 4294967295#32 else 0#32) (Q L f) (Q L g)=Q L fun i=>if c i then f i else g i:=by
 unfold selN
 have a1:∀f g:ι->W,Nat.land (Q L f) (Q L g)=Q L (fun i=>f i &&& g i):=Pk.Q_and L
 have a2:∀f g:ι->W,Nat.xor (Q L f) (Q L g)=Q L (fun i=>f i^^^g i):=Pk.Q_xor L
 rw [a2,a1,a2]
 congr 1
 funext i
 cases c i
 ·simp
 ·simp only [if_true]
  generalize f i=x
  generalize g i=y
  have:(x^^^y) &&& 4294967295#32=x^^^y:=by
   have e:(4294967295#32:BitVec 32)=BitVec.allOnes 32:=by decide
   rw [e,BitVec.and_allOnes]
  rw [this,BitVec.xor_comm x y,<-BitVec.xor_assoc,BitVec.xor_self,BitVec.zero_xor]
theorem zb3(f:Nat->W)(n:Nat)(g:Nat->Nat)(h:∀l,l<n->g l=(f l).toNat):pkR g n 0=Q (List.range n) f:=by
 rw [zb2,Nat.mul_zero,Nat.add_zero]
 unfold Q P
 congr 1
 apply List.map_congr_left
 intro i hi
 exact h i (List.mem_range.1 hi)
end
section
set_option maxRecDepth 4000
open Pk (P Q M one pkN)
def nodeT:List W:=[2147483648#32,0#32,0#32,0#32,0#32,0#32,0#32,0#32,0#32,0#32,0#32,0#32,0#32,0#32,0#32,133120#32]
theorem pad8:PadT 3#32 8 1 padT:=PadT.of _ 8 1 22 padT rfl rfl (by decide+kernel) (by decide)
theorem pad16:PadT 1#32 16 2 nodeT:=PadT.of _ 16 2 54 nodeT rfl rfl (by decide+kernel) (by decide)
theorem zsm:PadT 4#32 4096 257 longT:=PadT.of _ 4096 257 54 longT rfl rfl (by decide+kernel) (by decide)
theorem yL_ok{ι:Type}(L:List ι)(ws:List (ι->W))(i:Nat)(hi:i<ws.length):(ws.map fun f=>Q L f).getD i 0=Q L fun l=>(ws.map fun f=>f l).getD i 0#32:=by
 simp only [List.getD_eq_getElem?_getD,List.getElem?_map,List.getElem?_eq_getElem hi,Option.map_some,Option.getD_some]
noncomputable def z6k{α:Type}(x:S8)(k:Nat->Nat->Nat->Nat->Nat->Nat->Nat->Nat->α):α:=S8.rec (motive:=fun _=>α) k x
theorem z79{α ι:Type}(L:List ι)(f:ι->V8)(k:Nat->Nat->Nat->Nat->Nat->Nat->Nat->Nat->α):z6k (s8L L f) k=k (Q L fun i=>(f i).a) (Q L fun i=>(f i).b) (Q L fun i=>(f i).c) (Q L fun i=>(f i).d) (Q L fun i=>(f i).e) (Q L fun i=>(f i).f) (Q L fun i=>(f i).g) (Q L fun i=>(f i).h):=rfl
noncomputable def shwX(m o x0 x1 x2 x3 x4 x5 x6 x7:Nat):S8:=
 z8w m o (fun i=>[Nat.mul o 3,x0,x1,x2,x3,x4,x5,x6,x7,Nat.mul o 2147483648,Nat.mul o 0,Nat.mul o 0,Nat.mul o 0,Nat.mul o 0,Nat.mul o 0,Nat.mul o 0,Nat.mul o 67584].getD i 0) 1
theorem zkw(N:Nat)(v:Nat->V8):shwX (M (List.range N)) (one (List.range N)) (Q (List.range N) fun l=>(v l).a) (Q (List.range N) fun l=>(v l).b) (Q (List.range N) fun l=>(v l).c) (Q (List.range N) fun l=>(v l).d) (Q (List.range N) fun l=>(v l).e) (Q (List.range N) fun l=>(v l).f) (Q (List.range N) fun l=>(v l).g) (Q (List.range N) fun l=>(v l).h)=s8L (List.range N) fun l=>hv (3::outV (v l)):=by
 unfold shwX
 have hc:∀(c:W) (k:Nat),c.toNat=k->Nat.mul (one (List.range N)) k=Q (List.range N) fun _=>c:=z3k N
 have c3:Nat.mul (one (List.range N)) 3=Q (List.range N) fun _=>3#32:=hc 3#32 _ rfl
 have c8:Nat.mul (one (List.range N)) 2147483648=Q (List.range N) fun _=>2147483648#32:=hc 2147483648#32 _ rfl
 have c0:Nat.mul (one (List.range N)) 0=Q (List.range N) fun _=>0#32:=hc 0#32 _ rfl
 have cF:Nat.mul (one (List.range N)) 67584=Q (List.range N) fun _=>67584#32:=hc 67584#32 _ rfl
 rw [c3,c8,c0,cF]
 exact zdh N _ pad8 (fun l=>(v l).l) (fun l _=>rfl) fun i hi=>
  yL_ok (List.range N) [fun _=>3#32,fun l=>(v l).a,fun l=>(v l).b,fun l=>(v l).c,fun l=>(v l).d,fun l=>(v l).e,fun l=>(v l).f,fun l=>(v l).g,fun l=>(v l).h,fun _=>2147483648#32,fun _=>0#32,fun _=>0#32,fun _=>0#32,fun _=>0#32,fun _=>0#32,fun _=>0#32,fun _=>67584#32] i hi
def eL(v:Nat):Nat:=2*(v/8)+v%2
def pL(l:Nat):Nat:=8*(l/8/2%4)+l%8
theorem zf8(f:Nat->Nat):∀n acc,sumB f n acc=sumB f n 0+2^(64*(8*n))*acc
 | 0,acc=>by show acc=0+_;simp
 |n+1,acc=>by
  have e:∀a,Nat.add (Nat.mul a p512) (f n)=a*p512+f n:=fun a=>rfl
  have e2:=zjk n
  rw [show 8*n+8=8*(n+1)by omega]at e2
  generalize 2^(64*(8*(n+1)))=E2 at e2 ⊢
  rw [zc2,zc2,zf8 f n (Nat.add (Nat.mul acc p512) (f n)),zf8 f n (Nat.add (Nat.mul 0 p512) (f n)),e,e,e2,Nat.mul_add,Nat.mul_add,Nat.mul_assoc,Nat.mul_comm acc,Nat.zero_mul,Nat.mul_zero]
  omega
theorem zvz(f:Nat->Nat)(n:Nat):sumB f (n+1) 0=sumB f n 0+2^(64*(8*n))*f n:=by
 have z:∀a b,Nat.add (Nat.mul 0 a) b=b:=fun a b=>by show 0*a+b=b;omega
 have e:=z p512 (f n)
 rw [zc2,e,zf8]
theorem zjv(g:Nat->W):∀n,Nat.mul (Q (List.range 8) g) (sumB (fun _=>1) n 0)=Q (List.range (8*n)) fun l=>g (l%8)
 | 0=>by show Q (List.range 8) g*0=_;rw [Nat.mul_zero];rfl
 |n+1=>by
  have ih:=zjv g n
  have e:∀a b,Nat.mul a b=a*b:=fun _ _=>rfl
  rw [e]at ih ⊢
  rw [zvz,show 8*(n+1)=8*n+8 by omega,Q_app,<-ih,Nat.mul_add,Nat.mul_one]
  congr 1
  rw [Nat.mul_comm]
  congr 1
  refine z3j fun i hi=> ?_
  rw [show (8*n+i)%8=i by omega]
theorem zje(f:Nat->W)(e:Nat)(he:e<512):Nat.land (Nat.shiftRight (Q (List.range 4096) f) (Nat.mul 512 e)) m512=Q (List.range 8) fun i=>f (8*e+i):=by
 have h:=z7c f (N:=4096) (a:=8*e) (c:=8) (by omega)
 rw [<-zax,show 64*(8*e)=Nat.mul 512 e by show _=512*e;omega]at h
 exact h
noncomputable def zxN(b x:Nat)(fu:Nat->Nat):Nat:=Nat.xor (sumB (fun v=>Nat.land (Nat.shiftRight x (Nat.mul 512 (eL (b/8+v)))) m512) 16 0) (pkR fu 128 0)
theorem zx_ok(b:Nat)(hb:b%8=0)(hb2:b<=384)(f:Nat->W)(fu:Nat->Nat)(g:Nat->W)(h:∀l,l<128->fu l=(g l).toNat):zxN b (Q (List.range 4096) f) fu=Q (List.range 128) fun l=>f (8*eL ((b+l)/8)+l%8)^^^g l:=by
 unfold zxN
 rw [zb3 g 128 fu h,zvy _ (fun l=>f (8*eL ((b+l)/8)+l%8)) 16 fun v hv=> ?_]
 ·exact Pk.Q_xor (List.range 128) _ _
 ·rw [zje f _ (by unfold eL;omega)]
  refine z3j fun i hi=> ?_
  rw [show (b+(8*v+i))/8=b/8+v by omega,show (8*v+i)%8=i by omega]
section
variable (y z:Nat->V8)
def strX(b l:Nat):List W:=(List.range 512).flatMap fun k=>(if k=eL ((b+l)/8)then z l else y (8*k+l%8)).l
theorem zc0(b l:Nat):(strX y z b l).length=4096:=by
 unfold strX
 have hl:∀(f:Nat->V8) n,((List.range n).flatMap fun k=>(f k).l).length=8*n:=by
  intro f n
  induction n with
  |zero=>rfl
  |succ n ih=>rw [List.range_succ,List.flatMap_append,List.length_append,ih];simp [V8.l];omega
 exact hl (fun k=>if k=eL ((b+l)/8)then z l else y (8*k+l%8)) 512
theorem zvt(b l k t:Nat)(hk:k<512)(ht:t<8):(strX y z b l)[8*k+t]? =(if k=eL ((b+l)/8)then z l else y (8*k+l%8)).l[t]?:=zdd (fun k=>if k=eL ((b+l)/8)then z l else y (8*k+l%8)) 512 k t hk ht
def zdq(b e l:Nat):Nat:=cond (Nat.beq (eL ((b+l)/8)) e) 4294967295 0
noncomputable def zce(o b r y0 y1 y2 y3 y4 y5 y6 y7 z0 z1 z2 z3 z4 z5 z6 z7 n:Nat):Nat:=
 cond (Nat.beq n 0) (Nat.mul o 4) (cond (Nat.ble n 4096)
  (frc (Nat.mul (Nat.land (Nat.shiftRight ([y0,y1,y2,y3,y4,y5,y6,y7].getD ((n-1)%8) 0) (Nat.mul 512 ((n-1)/8))) m512) r) fun w=>
   cond (Nat.ble 16 ((n-1)/8)) w (selN (pkR (zdq b ((n-1)/8)) 128 0) ([z0,z1,z2,z3,z4,z5,z6,z7].getD ((n-1)%8) 0) w))
  (Nat.mul o ([2147483648,0,0,0,0,0,0,0,0,0,0,0,0,0,0,33556480].getD (n-4097) 0)))
theorem get8(f:Nat->V8)(N u:Nat)(hu:u<8):[Q (List.range N) fun l=>(f l).a,Q (List.range N) fun l=>(f l).b,Q (List.range N) fun l=>(f l).c,Q (List.range N) fun l=>(f l).d,Q (List.range N) fun l=>(f l).e,Q (List.range N) fun l=>(f l).f,Q (List.range N) fun l=>(f l).g,Q (List.range N) fun l=>(f l).h].getD u 0=Q (List.range N) fun l=>v8w (f l) u:=by
 match u,hu with
 | 0,_=>rfl
 | 1,_=>rfl
 | 2,_=>rfl
 | 3,_=>rfl
 | 4,_=>rfl
 | 5,_=>rfl
 | 6,_=>rfl
 | 7,_=>rfl
theorem zqt:∀n:Fin 16,([2147483648,0,0,0,0,0,0,0,0,0,0,0,0,0,0,33556480]:List Nat).getD n.val 0=(longT.getD n.val 0).toNat:=by decide+kernel
theorem zwq(b:Nat)(hb2:b<=384)(n:Nat)(hn:n<16*257+1):zce (one (List.range 128)) b (sumB (fun _=>1) 16 0) (Q (List.range 4096) fun l=>(y l).a) (Q (List.range 4096) fun l=>(y l).b) (Q (List.range 4096) fun l=>(y l).c) (Q (List.range 4096) fun l=>(y l).d) (Q (List.range 4096) fun l=>(y l).e) (Q (List.range 4096) fun l=>(y l).f) (Q (List.range 4096) fun l=>(y l).g) (Q (List.range 4096) fun l=>(y l).h) (Q (List.range 128) fun l=>(z l).a) (Q (List.range 128) fun l=>(z l).b) (Q (List.range 128) fun l=>(z l).c) (Q (List.range 128) fun l=>(z l).d) (Q (List.range 128) fun l=>(z l).e) (Q (List.range 128) fun l=>(z l).f) (Q (List.range 128) fun l=>(z l).g) (Q (List.range 128) fun l=>(z l).h) n=Q (List.range 128) fun l=>(4#32::(strX y z b l++longT)).getD n 0:=by
 unfold zce
 have hc:∀(c:W) (k:Nat),c.toNat=k->Nat.mul (one (List.range 128)) k=Q (List.range 128) fun _=>c:=z3k 128
 by_cases h00:n=0
 ·subst h00
  rw [show Nat.beq 0 0=true from rfl,cond_true,hc 4#32 4 rfl]
  exact z3j fun l hl=>rfl
 ·obtain⟨n,rfl⟩:∃k,n=k+1:=⟨n-1,by omega⟩
  have b0:Nat.beq (n+1) 0=false:=rfl
  rw [b0,cond_false]
  by_cases h:n<4096
  ·have b1:Nat.ble (n+1) 4096=true:=by rw [Nat.ble_eq];omega
   rw [b1,cond_true,zu,Nat.add_sub_cancel,get8 y 4096 _ (by omega),get8 z 128 _ (by omega),zje _ _ (by omega),zjv _ 16,show 8*16=128 from rfl]
   have ht:n%8<8:=by omega
   have hat:∀l,(4#32::(strX y z b l++longT)).getD (n+1) 0=v8w (if n/8=eL ((b+l)/8)then z l else y (8*(n/8)+l%8)) (n%8):=by
    intro l
    rw [List.getD_eq_getElem?_getD,List.getElem?_cons_succ,List.getElem?_append_left (by rw [zc0];omega)]
    have:=zvt y z b l (n/8) (n%8) (by omega) ht
    rw [show 8*(n/8)+n%8=n by omega]at this
    rw [this,<-List.getD_eq_getElem?_getD]
    rfl
   simp only [hat]
   cases hb:Nat.ble 16 (n/8)with
   |true=>
    have h16:16<=n/8:=by rwa [Nat.ble_eq]at hb
    rw [cond_true]
    refine z3j fun l hl=> ?_
    rw [if_neg]
    unfold eL;omega
   |false=>
    rw [cond_false]
    have hm:pkR (zdq b (n/8)) 128 0=Q (List.range 128) fun l=>if (decide (n/8=eL ((b+l)/8)))then 4294967295#32 else 0#32:=by
     refine zb3 _ 128 _ fun l hl=> ?_
     unfold zdq
     by_cases he:eL ((b+l)/8)=n/8
     ·have hb9:Nat.beq (eL ((b+l)/8)) (n/8)=true:=by rw [he];exact Nat.beq_refl _
      rw [hb9,decide_eq_true he.symm];rfl
     ·have hb9:Nat.beq (eL ((b+l)/8)) (n/8)=false:=by
       cases hbb:Nat.beq (eL ((b+l)/8)) (n/8)with
       |false=>rfl
       |true=>exact absurd (Nat.eq_of_beq_eq_true hbb) he
      rw [hb9,decide_eq_false (fun e=>he e.symm)];rfl
    rw [hm]
    have:=zkg (List.range 128) (fun l=>decide (n/8=eL ((b+l)/8))) (fun l=>v8w (z l) (n%8)) (fun l=>v8w (y (8*(n/8)+l%8)) (n%8))
    refine this.trans ?_
    refine z3j fun l hl=> ?_
    by_cases he:n/8=eL ((b+l)/8)
    ·rw [decide_eq_true he,if_pos rfl,if_pos he]
    ·rw [decide_eq_false he,if_neg (by simp),if_neg he]
  ·have b1:Nat.ble (n+1) 4096=false:=by
    cases hb:Nat.ble (n+1) 4096 with
    |false=>rfl
    |true=>rw [Nat.ble_eq]at hb;omega
   rw [b1,cond_false]
   have e:=zqt ⟨n-4096,by omega⟩
   rw [show n+1-4097=n-4096 by omega]
   refine(hc (longT.getD (n-4096) 0) _ e.symm).trans ?_
   refine z3j fun l hl=> ?_
   rw [List.getD_eq_getElem?_getD,List.getD_eq_getElem?_getD,List.getElem?_cons_succ,List.getElem?_append_right (by rw [zc0];omega),zc0]
end
noncomputable def nodX(m o:Nat)(mk:Nat->Nat)(pt:Nat->Nat->Nat)(x0 x1 x2 x3 x4 x5 x6 x7:Nat):S8:=
 frc (pkR mk 128 0) fun c=>frc (pkR (pt 0) 128 0) fun p0=>frc (pkR (pt 1) 128 0) fun p1=>frc (pkR (pt 2) 128 0) fun p2=>frc (pkR (pt 3) 128 0) fun p3=>frc (pkR (pt 4) 128 0) fun p4=>frc (pkR (pt 5) 128 0) fun p5=>frc (pkR (pt 6) 128 0) fun p6=>frc (pkR (pt 7) 128 0) fun p7=>
 z8w m o (fun i=>[Nat.mul o 1,selN c p0 x0,selN c p1 x1,selN c p2 x2,selN c p3 x3,selN c p4 x4,selN c p5 x5,selN c p6 x6,selN c p7 x7,selN c x0 p0,selN c x1 p1,selN c x2 p2,selN c x3 p3,selN c x4 p4,selN c x5 p5,selN c x6 p6,selN c x7 p7,Nat.mul o 2147483648,Nat.mul o 0,Nat.mul o 0,Nat.mul o 0,Nat.mul o 0,Nat.mul o 0,Nat.mul o 0,Nat.mul o 0,Nat.mul o 0,Nat.mul o 0,Nat.mul o 0,Nat.mul o 0,Nat.mul o 0,Nat.mul o 0,Nat.mul o 0,Nat.mul o 133120].getD i 0) 2
theorem zdx(mk:Nat->Nat)(pt:Nat->Nat->Nat)(v p:Nat->V8)(c:Nat->Bool)(hm:∀l,l<128->mk l=if c l then 4294967295 else 0)(hp:∀t l,t<8->l<128->pt t l=(v8w (p l) t).toNat):
  nodX (M (List.range 128)) (one (List.range 128)) mk pt (Q (List.range 128) fun l=>(v l).a) (Q (List.range 128) fun l=>(v l).b) (Q (List.range 128) fun l=>(v l).c) (Q (List.range 128) fun l=>(v l).d) (Q (List.range 128) fun l=>(v l).e) (Q (List.range 128) fun l=>(v l).f) (Q (List.range 128) fun l=>(v l).g) (Q (List.range 128) fun l=>(v l).h)=s8L (List.range 128) fun l=>hv (1::(outV (if c l then p l else v l)++outV (if c l then v l else p l))):=by
 unfold nodX
 rw [zu,zu,zu,zu,zu,zu,zu,zu,zu]
 have hc:∀(c:W) (k:Nat),c.toNat=k->Nat.mul (one (List.range 128)) k=Q (List.range 128) fun _=>c:=z3k 128
 have c1:Nat.mul (one (List.range 128)) 1=Q (List.range 128) fun _=>1#32:=hc 1#32 _ rfl
 have c8:Nat.mul (one (List.range 128)) 2147483648=Q (List.range 128) fun _=>2147483648#32:=hc 2147483648#32 _ rfl
 have c0:Nat.mul (one (List.range 128)) 0=Q (List.range 128) fun _=>0#32:=hc 0#32 _ rfl
 have cF:Nat.mul (one (List.range 128)) 133120=Q (List.range 128) fun _=>133120#32:=hc 133120#32 _ rfl
 have hmk:pkR mk 128 0=Q (List.range 128) fun l=>if c l then 4294967295#32 else 0#32:=zb3 _ 128 _ fun l hl=>by rw [hm l hl];cases c l<;>rfl
 have hpt:∀t,t<8->pkR (pt t) 128 0=Q (List.range 128) fun l=>v8w (p l) t:=fun t ht=>zb3 _ 128 _ fun l hl=>hp t l ht hl
 have a0:pkR (pt 0) 128 0=Q (List.range 128) fun l=>(p l).a:=hpt 0 (by omega)
 have a1:pkR (pt 1) 128 0=Q (List.range 128) fun l=>(p l).b:=hpt 1 (by omega)
 have a2:pkR (pt 2) 128 0=Q (List.range 128) fun l=>(p l).c:=hpt 2 (by omega)
 have a3:pkR (pt 3) 128 0=Q (List.range 128) fun l=>(p l).d:=hpt 3 (by omega)
 have a4:pkR (pt 4) 128 0=Q (List.range 128) fun l=>(p l).e:=hpt 4 (by omega)
 have a5:pkR (pt 5) 128 0=Q (List.range 128) fun l=>(p l).f:=hpt 5 (by omega)
 have a6:pkR (pt 6) 128 0=Q (List.range 128) fun l=>(p l).g:=hpt 6 (by omega)
 have a7:pkR (pt 7) 128 0=Q (List.range 128) fun l=>(p l).h:=hpt 7 (by omega)
 have hs:∀f g:Nat->W,selN (Q (List.range 128) fun l=>if c l then 4294967295#32 else 0#32) (Q (List.range 128) f) (Q (List.range 128) g)=Q (List.range 128) fun l=>if c l then f l else g l:=zkg (List.range 128) c
 rw [c1,c8,c0,cF,hmk,a0,a1,a2,a3,a4,a5,a6,a7]
 simp only [hs]
 refine(zdh 128 _ pad16 (fun l=>(if c l then p l else v l).l++(if c l then v l else p l).l) (fun l _=>rfl) fun i hi=> ?_).trans ?_
 ·refine(yL_ok (List.range 128) [fun _=>1#32,fun l=>if c l then(p l).a else(v l).a,fun l=>if c l then(p l).b else(v l).b,fun l=>if c l then(p l).c else(v l).c,fun l=>if c l then(p l).d else(v l).d,fun l=>if c l then(p l).e else(v l).e,fun l=>if c l then(p l).f else(v l).f,fun l=>if c l then(p l).g else(v l).g,fun l=>if c l then(p l).h else(v l).h,fun l=>if c l then(v l).a else(p l).a,fun l=>if c l then(v l).b else(p l).b,fun l=>if c l then(v l).c else(p l).c,fun l=>if c l then(v l).d else(p l).d,fun l=>if c l then(v l).e else(p l).e,fun l=>if c l then(v l).f else(p l).f,fun l=>if c l then(v l).g else(p l).g,fun l=>if c l then(v l).h else(p l).h,fun _=>2147483648#32,fun _=>0#32,fun _=>0#32,fun _=>0#32,fun _=>0#32,fun _=>0#32,fun _=>0#32,fun _=>0#32,fun _=>0#32,fun _=>0#32,fun _=>0#32,fun _=>0#32,fun _=>0#32,fun _=>0#32,fun _=>0#32,fun _=>133120#32] i hi).trans ?_
  congr 1
  funext l
  simp only [List.map_cons,List.map_nil]
  cases c l<;>rfl
 ·unfold s8L
  simp only [z8s]
  rfl
noncomputable def zaa(A c n:Nat):Bool:=Nat.rec (motive:=fun _=>Bool) true (fun k ih=>cond (Nat.beq (Nat.land (Nat.shiftRight A (Nat.mul 64 k)) 18446744073709551615) c) false ih) n
theorem zgc(f:Nat->W)(N c:Nat):∀n,n<=N->zaa (Q (List.range N) f) c n=true->∀l,l<n->(f l).toNat ≠ c
 |n+1,hn,h,l,hl=>by
  have e:zaa (Q (List.range N) f) c (n+1)=cond (Nat.beq (Nat.land (Nat.shiftRight (Q (List.range N) f) (Nat.mul 64 n)) 18446744073709551615) c) false (zaa (Q (List.range N) f) c n):=rfl
  have hq:=z4c f (N:=N) (a:=n) (by omega)
  have hq2:Nat.land (Nat.shiftRight (Q (List.range N) f) (Nat.mul 64 n)) 18446744073709551615=(f n).toNat:=hq
  rw [e,hq2]at h
  cases hb:Nat.beq (f n).toNat c with
  |true=>rw [hb]at h;cases h
  |false=>
   rw [hb,cond_false]at h
   by_cases h1:l=n
   ·subst h1
    intro h2
    rw [h2,Nat.beq_refl]at hb
    cases hb
   ·exact zgc f N c n (by omega) h l (by omega)
def flW(u l:Nat):W:=if pL l/4=u then BitVec.ofNat 32 (2^(8*(3-pL l%4)))else 0#32
def flN(u l:Nat):Nat:=cond (Nat.beq (pL l/4) u) (2^(8*(3-pL l%4))) 0
theorem flN_ok(u l:Nat):flN u l=(flW u l).toNat:=by
 unfold flN flW
 by_cases h:pL l/4=u
 ·have b:Nat.beq (pL l/4) u=true:=by rw [h];exact Nat.beq_refl _
  rw [b,if_pos h,cond_true,BitVec.toNat_ofNat]
  have:∀r:Fin 4,2^(8*(3-r.val))=2^(8*(3-r.val))%2^32:=by decide
  exact this ⟨pL l%4,by omega⟩
 ·have b:Nat.beq (pL l/4) u=false:=by
   cases hbb:Nat.beq (pL l/4) u with
   |false=>rfl
   |true=>exact absurd (Nat.eq_of_beq_eq_true hbb) h
  rw [b,if_neg h];rfl
def z3d(x:Nat->V8)(b l:Nat):V8:=let v:=x (8*eL ((b+l)/8)+l%8);⟨v.a^^^flW 0 (b+l),v.b^^^flW 1 (b+l),v.c^^^flW 2 (b+l),v.d^^^flW 3 (b+l),v.e^^^flW 4 (b+l),v.f^^^flW 5 (b+l),v.g^^^flW 6 (b+l),v.h^^^flW 7 (b+l)⟩
def nodV(c:Bool)(p v:V8):V8:=hv (1::(outV (if c then p else v)++outV (if c then v else p)))
def bitL(j l:Nat):Bool:=decide (l/2^j%2=1)
def bitN(j l:Nat):Nat:=cond (Nat.beq (l/2^j%2) 1) 4294967295 0
theorem zco(j l:Nat):bitN j l=if bitL j l then 4294967295 else 0:=by
 unfold bitN bitL
 by_cases h:l/2^j%2=1
 ·rw [h];rfl
 ·have b:Nat.beq (l/2^j%2) 1=false:=by
   cases hbb:Nat.beq (l/2^j%2) 1 with
   |false=>rfl
   |true=>exact absurd (Nat.eq_of_beq_eq_true hbb) h
  rw [b,decide_eq_false h];rfl
noncomputable def badT(m o:Nat)(pt:Nat->Nat->Nat->Nat)(c a0 a1 a2 a3 a4 a5 a6 a7:Nat):Bool:=
 z6k (nodX m o (bitN 0) (pt 0) a0 a1 a2 a3 a4 a5 a6 a7) fun b0 b1 b2 b3 b4 b5 b6 b7=>
 z6k (nodX m o (bitN 1) (pt 1) b0 b1 b2 b3 b4 b5 b6 b7) fun c0 c1 c2 c3 c4 c5 c6 c7=>
 z6k (nodX m o (bitN 2) (pt 2) c0 c1 c2 c3 c4 c5 c6 c7) fun d0 d1 d2 d3 d4 d5 d6 d7=>
 zaa d0 c 128
noncomputable def badZ(m o b r:Nat)(pt:Nat->Nat->Nat->Nat)(c y0 y1 y2 y3 y4 y5 y6 y7 z0 z1 z2 z3 z4 z5 z6 z7:Nat):Bool:=
 z6k (z8w m o (zce o b r y0 y1 y2 y3 y4 y5 y6 y7 z0 z1 z2 z3 z4 z5 z6 z7) 257) (badT m o pt c)
noncomputable def badY(m o b r:Nat)(pt:Nat->Nat->Nat->Nat)(c x0 x1 x2 x3 x4 x5 x6 x7 y0 y1 y2 y3 y4 y5 y6 y7:Nat):Bool:=
 frc (zxN b x0 (fun l=>flN 0 (b+l))) fun f0=>frc (zxN b x1 (fun l=>flN 1 (b+l))) fun f1=>frc (zxN b x2 (fun l=>flN 2 (b+l))) fun f2=>frc (zxN b x3 (fun l=>flN 3 (b+l))) fun f3=>frc (zxN b x4 (fun l=>flN 4 (b+l))) fun f4=>frc (zxN b x5 (fun l=>flN 5 (b+l))) fun f5=>frc (zxN b x6 (fun l=>flN 6 (b+l))) fun f6=>frc (zxN b x7 (fun l=>flN 7 (b+l))) fun f7=>
 z6k (shwX m o f0 f1 f2 f3 f4 f5 f6 f7) (badZ m o b r pt c y0 y1 y2 y3 y4 y5 y6 y7)
noncomputable def badX(m o m5 o5 b r:Nat)(pt:Nat->Nat->Nat->Nat)(c x0 x1 x2 x3 x4 x5 x6 x7:Nat):Bool:=
 z6k (shwX m o x0 x1 x2 x3 x4 x5 x6 x7) (badY m5 o5 b r pt c x0 x1 x2 x3 x4 x5 x6 x7)
noncomputable def badN(b:Nat)(wf:Nat->Nat->Nat)(pt:Nat->Nat->Nat->Nat)(c:Nat):Bool:=
 frc (ones 4096) fun o=>frc (Nat.mul o 4294967295) fun m=>frc (ones 128) fun o5=>frc (Nat.mul o5 4294967295) fun m5=>frc (sumB (fun _=>1) 16 0) fun r=>
 z6k (z7j m o (fun _ t=>Nat.land (pkR (wf t) 4096 0) m) (List.range' 0 1) (Nat.mul o 1779033703) (Nat.mul o 3144134277) (Nat.mul o 1013904242) (Nat.mul o 2773480762) (Nat.mul o 1359893119) (Nat.mul o 2600822924) (Nat.mul o 528734635) (Nat.mul o 1541459225)) (badX m o m5 o5 b r pt c)
section
variable (pt:Nat->Nat->Nat->Nat) (c:Nat) (p:Nat->Nat->V8) (hp:∀j t l,t<8->l<128->pt j t l=(v8w (p j l) t).toNat)
include hp
theorem zmr(v:Nat->V8)(h:badT (M (List.range 128)) (one (List.range 128)) pt c (Q (List.range 128) fun l=>(v l).a) (Q (List.range 128) fun l=>(v l).b) (Q (List.range 128) fun l=>(v l).c) (Q (List.range 128) fun l=>(v l).d) (Q (List.range 128) fun l=>(v l).e) (Q (List.range 128) fun l=>(v l).f) (Q (List.range 128) fun l=>(v l).g) (Q (List.range 128) fun l=>(v l).h)=true)(l:Nat)(hl:l<128):(nodV (bitL 2 l) (p 2 l) (nodV (bitL 1 l) (p 1 l) (nodV (bitL 0 l) (p 0 l) (v l)))).a.toNat ≠ c:=by
 unfold badT at h
 rw [zdx (bitN 0) (pt 0) v (p 0) (bitL 0) (fun l _=>zco 0 l) (fun t l ht hl=>hp 0 t l ht hl),z79]at h
 have n1:=zdx (bitN 1) (pt 1) (fun l=>nodV (bitL 0 l) (p 0 l) (v l)) (p 1) (bitL 1) (fun l _=>zco 1 l) (fun t l ht hl=>hp 1 t l ht hl)
 unfold nodV at n1
 rw [n1,z79]at h
 have n2:=zdx (bitN 2) (pt 2) (fun l=>nodV (bitL 1 l) (p 1 l) (nodV (bitL 0 l) (p 0 l) (v l))) (p 2) (bitL 2) (fun l _=>zco 2 l) (fun t l ht hl=>hp 2 t l ht hl)
 unfold nodV at n2
 rw [n2,z79]at h
 exact zgc _ 128 c 128 (Nat.le_refl _) h l hl
end
end
section
set_option maxRecDepth 4000
open Pk (P Q M one pkN)
section
variable (pt:Nat->Nat->Nat->Nat) (c:Nat) (p:Nat->Nat->V8) (hp:∀j t l,t<8->l<128->pt j t l=(v8w (p j l) t).toNat)
variable (b:Nat) (hb8:b%8=0) (hb2:b<=384)
include hp hb2
theorem zmu(y z:Nat->V8)(h:badZ (M (List.range 128)) (one (List.range 128)) b (sumB (fun _=>1) 16 0) pt c (Q (List.range 4096) fun l=>(y l).a) (Q (List.range 4096) fun l=>(y l).b) (Q (List.range 4096) fun l=>(y l).c) (Q (List.range 4096) fun l=>(y l).d) (Q (List.range 4096) fun l=>(y l).e) (Q (List.range 4096) fun l=>(y l).f) (Q (List.range 4096) fun l=>(y l).g) (Q (List.range 4096) fun l=>(y l).h) (Q (List.range 128) fun l=>(z l).a) (Q (List.range 128) fun l=>(z l).b) (Q (List.range 128) fun l=>(z l).c) (Q (List.range 128) fun l=>(z l).d) (Q (List.range 128) fun l=>(z l).e) (Q (List.range 128) fun l=>(z l).f) (Q (List.range 128) fun l=>(z l).g) (Q (List.range 128) fun l=>(z l).h)=true)(l:Nat)(hl:l<128):(nodV (bitL 2 l) (p 2 l) (nodV (bitL 1 l) (p 1 l) (nodV (bitL 0 l) (p 0 l) (hv (4::enc (strX y z b l)))))).a.toNat ≠ c:=by
 unfold badZ at h
 have e4:lb 4#32=4:=by decide
 have e1:=zdh 128 (zce (one (List.range 128)) b (sumB (fun _=>1) 16 0) (Q (List.range 4096) fun l=>(y l).a) (Q (List.range 4096) fun l=>(y l).b) (Q (List.range 4096) fun l=>(y l).c) (Q (List.range 4096) fun l=>(y l).d) (Q (List.range 4096) fun l=>(y l).e) (Q (List.range 4096) fun l=>(y l).f) (Q (List.range 4096) fun l=>(y l).g) (Q (List.range 4096) fun l=>(y l).h) (Q (List.range 128) fun l=>(z l).a) (Q (List.range 128) fun l=>(z l).b) (Q (List.range 128) fun l=>(z l).c) (Q (List.range 128) fun l=>(z l).d) (Q (List.range 128) fun l=>(z l).e) (Q (List.range 128) fun l=>(z l).f) (Q (List.range 128) fun l=>(z l).g) (Q (List.range 128) fun l=>(z l).h)) zsm (strX y z b) (fun l _=>zc0 y z b l) (fun i hi=>zwq y z b hb2 i hi)
 rw [e4]at e1
 obtain⟨v,hvv⟩:∃v:Nat->V8,∀l,hv (4::enc (strX y z b l))=v l:=⟨_,fun _=>rfl⟩
 simp only [hvv]at e1 ⊢
 rw [e1,z79]at h
 exact zmr pt c p hp v h l hl
include hb8
theorem zmt(x y:Nat->V8)(h:badY (M (List.range 128)) (one (List.range 128)) b (sumB (fun _=>1) 16 0) pt c (Q (List.range 4096) fun l=>(x l).a) (Q (List.range 4096) fun l=>(x l).b) (Q (List.range 4096) fun l=>(x l).c) (Q (List.range 4096) fun l=>(x l).d) (Q (List.range 4096) fun l=>(x l).e) (Q (List.range 4096) fun l=>(x l).f) (Q (List.range 4096) fun l=>(x l).g) (Q (List.range 4096) fun l=>(x l).h) (Q (List.range 4096) fun l=>(y l).a) (Q (List.range 4096) fun l=>(y l).b) (Q (List.range 4096) fun l=>(y l).c) (Q (List.range 4096) fun l=>(y l).d) (Q (List.range 4096) fun l=>(y l).e) (Q (List.range 4096) fun l=>(y l).f) (Q (List.range 4096) fun l=>(y l).g) (Q (List.range 4096) fun l=>(y l).h)=true)(l:Nat)(hl:l<128):(nodV (bitL 2 l) (p 2 l) (nodV (bitL 1 l) (p 1 l) (nodV (bitL 0 l) (p 0 l) (hv (4::enc (strX y (fun l=>hv (3::outV (z3d x b l))) b l)))))).a.toNat ≠ c:=by
 unfold badY at h
 rw [zu,zu,zu,zu,zu,zu,zu,zu]at h
 have z:∀(f:Nat->W) u,zxN b (Q (List.range 4096) f) (fun l=>flN u (b+l))=Q (List.range 128) fun l=>f (8*eL ((b+l)/8)+l%8)^^^flW u (b+l):=fun f u=>zx_ok b hb8 hb2 f (fun l=>flN u (b+l)) (fun l=>flW u (b+l)) fun l _=>flN_ok u (b+l)
 rw [z,z,z,z,z,z,z,z]at h
 have s2:shwX (M (List.range 128)) (one (List.range 128)) (Q (List.range 128) fun l=>(x (8*eL ((b+l)/8)+l%8)).a^^^flW 0 (b+l)) (Q (List.range 128) fun l=>(x (8*eL ((b+l)/8)+l%8)).b^^^flW 1 (b+l)) (Q (List.range 128) fun l=>(x (8*eL ((b+l)/8)+l%8)).c^^^flW 2 (b+l)) (Q (List.range 128) fun l=>(x (8*eL ((b+l)/8)+l%8)).d^^^flW 3 (b+l)) (Q (List.range 128) fun l=>(x (8*eL ((b+l)/8)+l%8)).e^^^flW 4 (b+l)) (Q (List.range 128) fun l=>(x (8*eL ((b+l)/8)+l%8)).f^^^flW 5 (b+l)) (Q (List.range 128) fun l=>(x (8*eL ((b+l)/8)+l%8)).g^^^flW 6 (b+l)) (Q (List.range 128) fun l=>(x (8*eL ((b+l)/8)+l%8)).h^^^flW 7 (b+l))=s8L (List.range 128) fun l=>hv (3::outV (z3d x b l)):=zkw 128 (z3d x b)
 obtain⟨w,hvv⟩:∃w:Nat->V8,∀l,hv (3::outV (z3d x b l))=w l:=⟨_,fun _=>rfl⟩
 simp only [hvv]at s2 ⊢
 rw [s2,z79]at h
 exact zmu pt c p hp b hb2 y w h l hl
theorem zms(x:Nat->V8)(h:badX (M (List.range 4096)) (one (List.range 4096)) (M (List.range 128)) (one (List.range 128)) b (sumB (fun _=>1) 16 0) pt c (Q (List.range 4096) fun l=>(x l).a) (Q (List.range 4096) fun l=>(x l).b) (Q (List.range 4096) fun l=>(x l).c) (Q (List.range 4096) fun l=>(x l).d) (Q (List.range 4096) fun l=>(x l).e) (Q (List.range 4096) fun l=>(x l).f) (Q (List.range 4096) fun l=>(x l).g) (Q (List.range 4096) fun l=>(x l).h)=true)(l:Nat)(hl:l<128):(nodV (bitL 2 l) (p 2 l) (nodV (bitL 1 l) (p 1 l) (nodV (bitL 0 l) (p 0 l) (hv (4::enc (strX (fun l=>hv (3::outV (x l))) (fun l=>hv (3::outV (z3d x b l))) b l)))))).a.toNat ≠ c:=by
 unfold badX at h
 have e1:=zkw 4096 x
 obtain⟨w,hvv⟩:∃w:Nat->V8,∀l,hv (3::outV (x l))=w l:=⟨_,fun _=>rfl⟩
 simp only [hvv]at e1 ⊢
 rw [e1,z79]at h
 exact zmt pt c p hp b hb8 hb2 x w h l hl
set_option exponentiation.threshold 300000 in
theorem zmq(wf:Nat->Nat->Nat)(msg:Nat->List UInt8)(hm:∀l j,j<16->zw (padS (msg l)) j=BitVec.ofNat 32 (wf j l))(hb:∀j l,wf j l<2^64)(h:badN b wf pt c=true)(l:Nat)(hl:l<128):
  (nodV (bitL 2 l) (p 2 l) (nodV (bitL 1 l) (p 1 l) (nodV (bitL 0 l) (p 0 l) (hv (4::enc (strX (fun l=>hv (3::outV (mixS v0 (padS (msg l))))) (fun l=>hv (3::outV (z3d (fun l=>mixS v0 (padS (msg l))) b l))) b l)))))).a.toNat ≠ c:=by
 unfold badN at h
 rw [zu,zu,zu,zu,zu,M_is,M_is,z6b,z6b]at h
 have hc:∀(c:W) (k:Nat),c.toNat=k->Nat.mul (one (List.range 4096)) k=Q (List.range 4096) fun _=>c:=z3k 4096
 have na:Nat.mul (one (List.range 4096)) 1779033703=Q (List.range 4096) fun _=>v0.a:=hc 1779033703#32 _ rfl
 have nb:Nat.mul (one (List.range 4096)) 3144134277=Q (List.range 4096) fun _=>v0.b:=hc 3144134277#32 _ rfl
 have nc:Nat.mul (one (List.range 4096)) 1013904242=Q (List.range 4096) fun _=>v0.c:=hc 1013904242#32 _ rfl
 have nd:Nat.mul (one (List.range 4096)) 2773480762=Q (List.range 4096) fun _=>v0.d:=hc 2773480762#32 _ rfl
 have ne:Nat.mul (one (List.range 4096)) 1359893119=Q (List.range 4096) fun _=>v0.e:=hc 1359893119#32 _ rfl
 have nf:Nat.mul (one (List.range 4096)) 2600822924=Q (List.range 4096) fun _=>v0.f:=hc 2600822924#32 _ rfl
 have ng:Nat.mul (one (List.range 4096)) 528734635=Q (List.range 4096) fun _=>v0.g:=hc 528734635#32 _ rfl
 have nh:Nat.mul (one (List.range 4096)) 1541459225=Q (List.range 4096) fun _=>v0.h:=hc 1541459225#32 _ rfl
 rw [na,nb,nc,nd,ne,nf,ng,nh]at h
 have hx:=zd1 (List.range 4096) (fun _ t=>Nat.land (pkR (wf t) 4096 0) (M (List.range 4096))) (fun l=>padS (msg l)) 1 (fun j t hj ht=>by
  obtain rfl:j=0:=by omega
  show Nat.land (pkR (wf t) 4096 0) (M (List.range 4096))=_
  rw [zb2,Nat.mul_zero,Nat.add_zero]
  exact z6x _ _ (hb t) fun i=>(hm i t ht).symm) 1 0 (fun _=>v0) rfl
 have e1:∀l,blocks 1 v0 ((padS (msg l)).drop (64*0))=mixS v0 (padS (msg l)):=fun l=>zcp _ _
 simp only [e1]at hx
 obtain⟨w,hvv⟩:∃w:Nat->V8,∀l,mixS v0 (padS (msg l))=w l:=⟨_,fun _=>rfl⟩
 simp only [hvv]at hx ⊢
 rw [hx,z79]at h
 exact zms pt c p hp b hb8 hb2 w h l hl
end
end
section
set_option maxRecDepth 4000
open Pk (P Q M one pkN)
def tabG:List (List (List Nat)):=[[[2271589469,1330737869,2004957299,4285185969,4057831346,2856173679,3957543786,2992959059],[1895131105,2097202194,3099798215,602882261,1404838346,2292682527,3830223844,221305602],[1739889687,832938449,3740354654,544431497,2074474604,3620981976,1623745866,3521421794],[174500858,911536316,443579240,3944238507,2841333501,2478084632,2362522118,3308574779],[2328103538,2344075,597695324,825900703,1153176726,3215564355,1258861355,4277316303],[799419269,3562623366,3506581631,3150994892,1988383881,3301265622,4020228506,1426472025],[1817233184,2770623084,1052058922,3880547669,5900744,2108384245,3352774104,3045931446],[1085955055,803762749,1125895814,3145150283,3617126875,915230785,775236462,3836030702]],
 [[466376905,2980916243,2126191650,3163571490,4123870198,3821239072,1529151572,1508860099],[466376905,2980916243,2126191650,3163571490,4123870198,3821239072,1529151572,1508860099],[2814708168,2266143420,88174953,1792348200,2064727508,2533491674,1080689465,2842631107],[2814708168,2266143420,88174953,1792348200,2064727508,2533491674,1080689465,2842631107],[2176052382,3231948756,4147398571,182480486,4247194440,688607079,2397047162,2859118835],[2176052382,3231948756,4147398571,182480486,4247194440,688607079,2397047162,2859118835],[2585581257,2602424934,331995056,2493271245,3109337040,1381806471,110502674,1338346663],[2585581257,2602424934,331995056,2493271245,3109337040,1381806471,110502674,1338346663]],
 [[818266219,2466454312,2263506204,3482203475,663303781,3630622415,2484914800,3872078328],[818266219,2466454312,2263506204,3482203475,663303781,3630622415,2484914800,3872078328],[818266219,2466454312,2263506204,3482203475,663303781,3630622415,2484914800,3872078328],[818266219,2466454312,2263506204,3482203475,663303781,3630622415,2484914800,3872078328],[716615704,3314315424,1753829780,3711402016,775984734,4121248068,817342394,49108952],[716615704,3314315424,1753829780,3711402016,775984734,4121248068,817342394,49108952],[716615704,3314315424,1753829780,3711402016,775984734,4121248068,817342394,49108952],[716615704,3314315424,1753829780,3711402016,775984734,4121248068,817342394,49108952]]]
def wdG(j l t:Nat):Nat:=((tabG.getD j []).getD (l%8) []).getD t 0
def ptG(j t l:Nat):Nat:=wdG j l t%4294967296
def pG(j l:Nat):V8:=⟨BitVec.ofNat 32 (wdG j l 0),BitVec.ofNat 32 (wdG j l 1),BitVec.ofNat 32 (wdG j l 2),BitVec.ofNat 32 (wdG j l 3),BitVec.ofNat 32 (wdG j l 4),BitVec.ofNat 32 (wdG j l 5),BitVec.ofNat 32 (wdG j l 6),BitVec.ofNat 32 (wdG j l 7)⟩
theorem ptG_ok(j t l:Nat)(ht:t<8):ptG j t l=(v8w (pG j l) t).toNat:=by
 have e:v8w (pG j l) t=BitVec.ofNat 32 (wdG j l t):=by
  match t,ht with
  | 0,_=>rfl
  | 1,_=>rfl
  | 2,_=>rfl
  | 3,_=>rfl
  | 4,_=>rfl
  | 5,_=>rfl
  | 6,_=>rfl
  | 7,_=>rfl
 rw [e,BitVec.toNat_ofNat]
 rfl
def cG:Nat:=4112520931
def ng01:List UInt8:=[167,197,9,200,135,18,154,188,5,65,113,105,106,213,16,40,123,17,61,212,151,2,3,218,64,106,3,57,169,111,27,195]
def ng23:List UInt8:=[27,204,88,201,177,173,44,19,126,187,28,34,188,144,69,34,245,205,67,246,227,195,123,32,91,37,0,84,89,239,96,195]
def ng45:List UInt8:=[154,28,214,201,155,29,218,102,19,201,215,176,148,156,76,205,185,84,183,208,82,92,177,135,6,150,35,18,79,197,140,167]
def ng67:List UInt8:=[129,179,236,158,192,163,159,212,247,52,71,171,10,224,110,102,253,39,11,72,41,11,79,103,142,224,9,122,170,106,176,243]
def ng03:List UInt8:=[42,182,176,24,197,140,112,160,104,137,81,148,221,55,128,32,46,64,150,94,245,165,65,68,48,183,167,186,2,237,87,216]
def ng47:List UInt8:=[48,197,192,107,147,3,27,40,134,234,93,28,207,142,53,83,39,137,54,101,216,102,230,207,148,28,202,112,230,203,57,248]
def ngR:List UInt8:=[245,32,22,227,188,34,70,163,36,123,32,28,103,79,26,168,42,124,191,157,164,212,141,42,81,233,12,152,244,225,206,209]
theorem zip:z1k kg0 kg1=ng01:=by decide+kernel
theorem zir:z1k kg2 kg3=ng23:=by decide+kernel
theorem zis:z1k kg4 kg5=ng45:=by decide+kernel
theorem ziu:z1k kg6 kg7=ng67:=by decide+kernel
theorem ziq:z1k ng01 ng23=ng03:=by decide+kernel
theorem zit:z1k ng45 ng67=ng47:=by decide+kernel
theorem nR_is:z1k ng03 ng47=ngR:=by decide+kernel
theorem pG0:∀k:Fin 8,outV (pG 0 k.val)=[kg1,kg0,kg3,kg2,kg5,kg4,kg7,kg6].getD k.val []:=by decide+kernel
theorem pG1:∀k:Fin 8,outV (pG 1 k.val)=[ng23,ng23,ng01,ng01,ng67,ng67,ng45,ng45].getD k.val []:=by decide+kernel
theorem pG2:∀k:Fin 8,outV (pG 2 k.val)=[ng47,ng47,ng47,ng47,ng03,ng03,ng03,ng03].getD k.val []:=by decide+kernel
def rG:V8:=⟨4112520931#32,3156362915#32,612048924#32,1733237416#32,712818589#32,2765393194#32,1374227608#32,4108439249#32⟩
theorem rG_is:outV rG=ngR/\ rG.a.toNat=cG:=by decide+kernel
set_option maxRecDepth 100000 in
theorem zoh:badN 0 z3t ptG cG=true:=by decide+kernel
set_option maxRecDepth 100000 in
theorem zoi:badN 128 z3t ptG cG=true:=by decide+kernel
set_option maxRecDepth 100000 in
theorem zoj:badN 256 z3t ptG cG=true:=by decide+kernel
set_option maxRecDepth 100000 in
theorem zok:badN 384 z3t ptG cG=true:=by decide+kernel
end
section
set_option maxRecDepth 10000

end
section
def reC(key:Hash)(v:AV):List AV:=hc key++ [v]
theorem reC_len(key:Hash)(v:AV):(reC key v).length=33:=by simp [reC,z8]
def PoR(O:Store)(p:Nat)(key:Hash)(P:List Hdr)(own:List Nat):Prop:=
 ∃v sid,own=p::Option.toList sid/\ O[p]? =some (some [reC key v])/\ RowAt 36 O sid v (hdrs P)/\ sid ≠ some p
theorem PoR.lt{O:Store}{p:Nat}{key:Hash}{P:List Hdr}{own:List Nat}(h:PoR O p key P own){j:Nat}(hj:j ∈ own):j<O.length:=by
 obtain⟨v,sid,rfl,hp,hr,_⟩:=h
 simp only [List.mem_cons,Option.mem_toList]at hj
 rcases hj with rfl|h
 ·exact slen hp
 ·exact hr.lt h
theorem PoR.keep{O O':Store}{p:Nat}{key:Hash}{P:List Hdr}{own:List Nat}(h:PoR O p key P own)(hk:∀j,j ∈ own->O'[j]? =O[j]?):PoR O' p key P own:=by
 obtain⟨v,sid,rfl,hp,hr,hn⟩:=h
 exact⟨v,sid,rfl,by rw [hk p (by simp)];exact hp,hr.keep fun q e=>hk q (by simp [e]),hn⟩
theorem PoR.ext{O O':Store}{p:Nat}{key:Hash}{P:List Hdr}{own:List Nat}(h:PoR O p key P own)(he:Ext O O'):PoR O' p key P own:=by
 obtain⟨y,rfl⟩:=he
 exact h.keep fun j hj=>gapp (h.lt hj)
attribute [local irreducible] ACallsTo ACallsP
end
section
theorem PSort.le{P:List Hdr}(h:PSort P){i j:Nat}(hj:j<P.length)(hij:i<=j):(P[i]'(by omega)).n<=P[j].n:=by
 rcases Nat.lt_or_ge i j with h1|h1
 ·have:=po_neg.1 (h i j (by omega) hj h1)
  omega
 ·obtain rfl:i=j:=by omega
  exact Int.le_refl _
def PoRAddP(O:Store)(p:Nat)(key:Hash)(P:List Hdr)(own:List Nat)(q:Hdr)(a:AV)(O':Store):Prop:=
 a=.int .i64 (addC key P q)/\ ∃own',Fr O O' own own'/\ PoR O' p key (addL key P q) own'
theorem PoRAddP.is{O:Store}{p:Nat}{key:Hash}{P:List Hdr}{own:List Nat}{q:Hdr}(hT:PoR O p key P own):∃a O',PoRAddP O p key P own q a O':=by
 by_cases h:addC key P q=2 \/addC key P q=3
 ·obtain⟨v,sid,rfl,hp,hr,hn⟩:=hT
  have d:=slen hp
  refine⟨_,O.set p (some [reC key (.sl O.length 0 (insL P q).length none 36)])++ [some (hdrs (insL P q))],rfl,p::Option.toList (some O.length),⟨fun j hj hn=> ?_,fun j hj=> ?_,by simp⟩,?_⟩
  ·rw [gapp (by simpa using hj),z1u (fun e=>hn (by simp [e]))]
  ·simp only [List.mem_cons,Option.mem_toList,Option.some.injEq]at hj ⊢
   rcases hj with h|h
   ·exact .inl (.inl h)
   ·exact .inr (by omega)
  ·unfold addL
   rw [if_pos h]
   exact⟨_,some O.length,rfl,by rw [gapp (by simpa using d),z2n d],.inr ⟨O.length,rfl,fun e=>by have:=congrArg List.length e;rw [zi,z91]at this;simp at this,by rw [zi],by rw [z1p (by simp)];simp⟩,fun e=>by injection e with e;omega⟩
 ·exact⟨_,O,rfl,own,.ext (.refl _),by unfold addL;rw [if_neg h];exact hT⟩
attribute [local irreducible] ACallsTo ACallsP
end
section
theorem zg8{key:Hash}{P:List Hdr}{q:Hdr}(h:addC key P q=2 \/addC key P q=3):z1f key q.n q.i q.r q.s q.p=0/\ isP P q.n q.r=false/\ P.length<16:=by
 unfold addC at h
 by_cases h0:z1f key q.n q.i q.r q.s q.p ≠ 0
 ·rw [if_pos h0]at h;omega
 rw [if_neg h0]at h
 cases h1:isP P q.n q.r with
 |true=>rw [h1,if_pos rfl]at h;omega
 |false=>
  rw [h1,if_neg (by simp)]at h
  by_cases h2:16<=P.length
  ·rw [if_pos h2]at h;omega
  ·exact⟨by omega,rfl,by omega⟩
theorem zmi{key:Hash}{P:List Hdr}(q:Hdr)(h:P.length<=16):(addL key P q).length<=16:=by
 unfold addL
 by_cases h1:addC key P q=2 \/addC key P q=3
 ·rw [if_pos h1,z91];have:=(zg8 h1).2.2;omega
 ·rw [if_neg h1];exact h
theorem insL_mem{P:List Hdr}{q w:Hdr}:w ∈ insL P q ↔ w=q \/w ∈ P:=by
 unfold insL
 rw [List.mem_append,List.mem_cons]
 constructor
 ·rintro(h|h|h)
  ·exact .inr (List.mem_of_mem_take h)
  ·exact .inl h
  ·exact .inr (List.mem_of_mem_drop h)
 ·rintro(h|h)
  ·exact .inr (.inl h)
  ·rw [<-List.take_append_drop (lbP P q.n q.r) P]at h
   rcases List.mem_append.1 h with h1|h1
   ·exact .inl h1
   ·exact .inr (.inr h1)
theorem zmj{key:Hash}{P:List Hdr}{q w:Hdr}(h:w ∈ addL key P q):w ∈ P \/(w=q/\ z1f key q.n q.i q.r q.s q.p=0):=by
 unfold addL at h
 by_cases h1:addC key P q=2 \/addC key P q=3
 ·rw [if_pos h1]at h
  rcases insL_mem.1 h with h2|h2
  ·exact .inr ⟨h2,(zg8 h1).1⟩
  ·exact .inl h2
 ·rw [if_neg h1]at h;exact .inl h
structure POk(key:Hash)(P:List Hdr):Prop where
 sort:PSort P
 len:P.length<=16
 chk:∀q ∈ P,z1f key q.n q.i q.r q.s q.p=0
theorem POk.nil(key:Hash):POk key []:=⟨PSort.nil,by simp,by simp⟩
theorem POk.add{key:Hash}{P:List Hdr}(h:POk key P)(q:Hdr):POk key (addL key P q):=
 ⟨zcl h.sort q,zmi q h.len,fun w hw=>by rcases zmj hw with h1| ⟨rfl,h1⟩;exact h.chk w h1;exact h1⟩
theorem POk.path{key:Hash}{P:List Hdr}(h:POk key P):∀q ∈ P,q.p.length<1000000:=fun q hq=>by have:=z7n (h.chk q hq);omega
theorem zd2{key:Hash}{q:Hdr}(h:z1f key q.n q.i q.r q.s q.p=0):q.p ≠ []:=fun e=>by have:=z7n h;rw [e]at this;simp at this
theorem PoIs.has{O:Store}{p:Nat}{key:Hash}{P:List Hdr}{own:List Nat}(h:PoIs O p key P own)(hs:PSort P)(hl:P.length<1000000)(m:Int)(k:Hash):ACallsTo TC 16 [.ptr p 0 0,.agg (.int .i64 m::hc k)] O (.bool (isP P m k)) O:=by
 obtain⟨v,sid,rfl,hp,hr1,hn⟩:=h
 exact zsv O p key v sid P m k hp hr1 hs hl
attribute [local irreducible] ACallsTo ACallsP
end
section
theorem Fr.dj{O O':Store}{o1 o1' o2:List Nat}(h:Fr O O' o1 o1')(hl:∀j,j ∈ o2->j<O.length)(hd:∀j,j ∈ o1->j ∉ o2):∀j,j ∈ o1'->j ∉ o2:=fun j hj h2=>by
 rcases h.new j hj with h3|h3
 ·exact hd j h3 h2
 ·have:=hl j h2;omega
theorem PoIs.fr{O O':Store}{p:Nat}{key:Hash}{P:List Hdr}{o ox ox':List Nat}(h:PoIs O p key P o)(hf:Fr O O' ox ox')(hd:∀j,j ∈ ox->j ∉ o):PoIs O' p key P o:=
 h.keep fun j hj=>hf.st j (h.lt hj) fun e=>hd j e hj
theorem PoR.fr{O O':Store}{p:Nat}{key:Hash}{P:List Hdr}{o ox ox':List Nat}(h:PoR O p key P o)(hf:Fr O O' ox ox')(hd:∀j,j ∈ ox->j ∉ o):PoR O' p key P o:=
 h.keep fun j hj=>hf.st j (h.lt hj) fun e=>hd j e hj
structure PlS(O:Store)(key:Hash)(P:List Hdr)(raw tr:List AV)(pp rp:Nat)(o1 o2:List Nat):Prop where
 p:PoIs O pp key P o1
 r:PoR O rp key P o2
 d:∀j,j ∈ o1->j ∉ o2
 n0:0 ∉ o1/\ 0 ∉ o2
 n1:1 ∉ o1/\ 1 ∉ o2
 g0:O[0]? =some (some [raw])
 g1:O[1]? =some (some [tr])
 ok:POk key P
theorem PlS.ext{O O':Store}{key:Hash}{P:List Hdr}{raw tr:List AV}{pp rp:Nat}{o1 o2:List Nat}(h:PlS O key P raw tr pp rp o1 o2)(he:Ext O O'):PlS O' key P raw tr pp rp o1 o2:=by
 have g0:=h.g0
 have g1:=h.g1
 refine⟨h.p.ext he,h.r.ext he,h.d,h.n0,h.n1,?_,?_,h.ok⟩
 ·obtain⟨y,rfl⟩:=he;rw [gapp (slen g0)];exact g0
 ·obtain⟨y,rfl⟩:=he;rw [gapp (slen g1)];exact g1
theorem PlS.other{O O':Store}{key:Hash}{P:List Hdr}{raw tr:List AV}{pp rp:Nat}{o1 o2 ox ox':List Nat}(h:PlS O key P raw tr pp rp o1 o2)(hf:Fr O O' ox ox')(h1:∀j,j ∈ ox->j ∉ o1)(h2:∀j,j ∈ ox->j ∉ o2)(h3:0 ∉ ox)(h4:1 ∉ ox):PlS O' key P raw tr pp rp o1 o2:=
 ⟨h.p.fr hf h1,h.r.fr hf h2,h.d,h.n0,h.n1,hf.get h.g0 h3,hf.get h.g1 h4,h.ok⟩
theorem PlS.add{O O2 O3:Store}{key:Hash}{P:List Hdr}{raw tr:List AV}{pp rp:Nat}{o1 o2 o1' o2':List Nat}{q:Hdr}(h:PlS O key P raw tr pp rp o1 o2)(f1:Fr O O2 o1 o1')(P1:PoIs O2 pp key (addL key P q) o1')(f2:Fr O2 O3 o2 o2')(R1:PoR O3 rp key (addL key P q) o2'):
  PlS O3 key (addL key P q) raw tr pp rp o1' o2'/\ (∀j o,O[j]? =some o->j ∉ o1->j ∉ o2->O3[j]? =some o/\ j ∉ o1'/\ j ∉ o2'):=by
 have d1:∀j,j ∈ o1'->j ∉ o2:=f1.dj (fun j hj=>h.r.lt hj) h.d
 have d2:∀j,j ∈ o2'->j ∉ o1':=f2.dj (fun j hj=>P1.lt hj) fun j hj hn=>d1 j hn hj
 have oth:∀j o,O[j]? =some o->j ∉ o1->j ∉ o2->O3[j]? =some o/\ j ∉ o1'/\ j ∉ o2':=fun j o hj h1 h2=>by
  have k1:=f1.nin (slen hj) h1
  have e1:=f1.get hj h1
  exact⟨f2.get e1 h2,k1,f2.nin (slen e1) h2⟩
 obtain⟨a0,b0,c0⟩:=oth 0 _ h.g0 h.n0.1 h.n0.2
 obtain⟨a1,b1,c1⟩:=oth 1 _ h.g1 h.n1.1 h.n1.2
 exact⟨⟨P1.fr f2 fun j hj hn=>d1 j hn hj,R1,fun j hj hn=>d2 j hn hj,⟨b0,c0⟩,⟨b1,c1⟩,a0,a1,h.ok.add q⟩,oth⟩
abbrev Sn:=Nat × Nat × Nat × Nat
def snC(s:Sn):List AV:=[.int .u8 s.1,.int .u8 s.2.1,.int .u8 s.2.2.1,.int .u8 s.2.2.2]
def sns(L:List Sn):List (List AV):=L.map snC
theorem zo(L:List Sn):(sns L).length=L.length:=by simp [sns]
theorem z9k{L:List Sn}{i:Nat}(h:i<L.length):(sns L)[i]? =some (snC L[i]):=by simp [sns,List.getElem?_eq_getElem h]
def SnOk(s:Sn):Prop:=s.1<256/\ s.2.1<256/\ s.2.2.1<256/\ s.2.2.2<256
def snH(seed:List UInt8)(s:Sn):Hdr:=z2h seed s.1 s.2.1 s.2.2.1 s.2.2.2
attribute [local irreducible] ACallsTo ACallsP
end
section
def z82:Ty:=.row [.int .u8,.int .u8,.int .u8,.int .u8]
theorem zur{cs:List AV}(h:ShC z82 cs):∃s:Sn,cs=snC s/\ SnOk s:=by
 simp only [z82,ShC,z61]at h
 obtain⟨A1,B1,rfl,⟨a,rfl,a0,a1⟩,A2,B2,rfl,⟨b,rfl,b0,b1⟩,A3,B3,rfl,⟨c,rfl,c0,c1⟩,A4,B4,rfl,⟨d,rfl,d0,d1⟩,rfl⟩:=h
 simp only [IntKind.min,IntKind.max,IntKind.signed,IntKind.bits]at a0 a1 b0 b1 c0 c1 d0 d1
 simp at a0 a1 b0 b1 c0 c1 d0 d1
 obtain⟨a,rfl⟩:∃k:Nat,a=k:=⟨a.toNat,by omega⟩
 obtain⟨b,rfl⟩:∃k:Nat,b=k:=⟨b.toNat,by omega⟩
 obtain⟨c,rfl⟩:∃k:Nat,c=k:=⟨c.toNat,by omega⟩
 obtain⟨d,rfl⟩:∃k:Nat,d=k:=⟨d.toNat,by omega⟩
 exact⟨(a,b,c,d),rfl,⟨by show a<256;omega,by show b<256;omega,by show c<256;omega,by show d<256;omega⟩⟩
theorem zky{x:AV}(h:ShC (.sl 4 z82) [x]):∃L:List Sn,SlV 4 (sns L) x/\ L.length<=maxLen/\ ∀s ∈ L,SnOk s:=by
 simp only [ShC]at h
 rcases h with h| ⟨es,h,hl,_,h2⟩
 ·cases h
  exact⟨[],.inl ⟨rfl,rfl⟩,Nat.zero_le _,by simp⟩
 ·cases h
  have:∀es:List (List AV),(∀x ∈ es,ShC z82 x)->∃L:List Sn,es=sns L/\ ∀s ∈ L,SnOk s:=by
   intro es
   induction es with
   |nil=>intro _;exact⟨[],rfl,by simp⟩
   |cons e es ih=>
    intro h
    obtain⟨s,rfl,hs⟩:=zur (h e (by simp))
    obtain⟨L,rfl,hL⟩:=ih fun x hx=>h x (by simp [hx])
    exact⟨s::L,rfl,fun z hz=>by rcases List.mem_cons.1 hz with rfl|h;exact hs;exact hL z h⟩
  obtain⟨L,rfl,hL⟩:=this es h2
  exact⟨L,.inr ⟨false,rfl⟩,by rwa [zo]at hl,hL⟩
attribute [local irreducible] ACallsTo ACallsP
end
section
open Pk (P Q M one pkN)
theorem zcd(a m k:Nat)(hm:m%8=0)(hk:k%8=0):UInt8.ofNat ((a^^^2^m)/2^k)=if m=k then UInt8.ofNat (a/2^k)^^^1 else UInt8.ofNat (a/2^k):=by
 apply UInt8.toNat_inj.1
 have e:(if m=k then UInt8.ofNat (a/2^k)^^^1 else UInt8.ofNat (a/2^k)).toNat=if m=k then(a/2^k%2^8)^^^1 else a/2^k%2^8:=by
  split
  ·rw [UInt8.toNat_xor,UInt8.toNat_ofNat'];rfl
  ·rw [UInt8.toNat_ofNat']
 rw [e,UInt8.toNat_ofNat']
 apply Nat.eq_of_testBit_eq
 intro i
 rw [Nat.testBit_mod_two_pow,Nat.testBit_div_two_pow,Nat.testBit_xor,Nat.testBit_two_pow]
 by_cases hi:i<8
 ·by_cases hmk:m=k
  ·subst hmk
   rw [if_pos rfl,Nat.testBit_xor,Nat.testBit_mod_two_pow,Nat.testBit_div_two_pow]
   have e1:(1:Nat).testBit i=decide (m=m+i):=by
    rw [show (1:Nat)=2^0 from rfl,Nat.testBit_two_pow]
    congr 1
    exact propext ⟨fun h=>by omega,fun h=>by omega⟩
   rw [e1,Nat.add_comm i m]
   simp [hi]
  ·rw [if_neg hmk,Nat.testBit_mod_two_pow,Nat.testBit_div_two_pow,decide_eq_false (show ¬m=i+k by omega)]
   simp
 ·by_cases hmk:m=k
  ·rw [if_pos hmk,Nat.testBit_xor,Nat.testBit_mod_two_pow]
   have e1:(1:Nat).testBit i=false:=by
    rw [show (1:Nat)=2^0 from rfl,Nat.testBit_two_pow]
    exact decide_eq_false (by omega)
   rw [e1]
   simp [hi]
  ·rw [if_neg hmk,Nat.testBit_mod_two_pow];simp [hi]
theorem zmz(x:W)(r:Nat)(hr0:r<4):be 4 (x^^^BitVec.ofNat 32 (2^(8*(3-r)))).toNat=z1m (be 4 x.toNat) r:=by
 have hb:∀r:Fin 4,2^(8*(3-r.val))%2^32=2^(8*(3-r.val)):=by decide
 rw [BitVec.toNat_xor,BitVec.toNat_ofNat,hb ⟨r,hr0⟩]
 show be 4 (x.toNat^^^2^(8*(3-r)))=_
 rw [be4,be4]
 have b24:=fun m hm=>zcd x.toNat m 24 hm (by omega)
 have b16:=fun m hm=>zcd x.toNat m 16 hm (by omega)
 have b8:=fun m hm=>zcd x.toNat m 8 hm (by omega)
 have b0:=fun m hm=>zcd x.toNat m 0 hm (by omega)
 simp only [show (2:Nat)^24=16777216 from rfl,show (2:Nat)^16=65536 from rfl,show (2:Nat)^8=256 from rfl,Nat.pow_zero,Nat.div_one]at b24 b16 b8 b0
 match r,hr0 with
 | 0,_=>rw [b24 24 (by omega),b16 24 (by omega),b8 24 (by omega),b0 24 (by omega)];simp [z1m]
 | 1,_=>rw [b24 16 (by omega),b16 16 (by omega),b8 16 (by omega),b0 16 (by omega)];simp [z1m]
 | 2,_=>rw [b24 8 (by omega),b16 8 (by omega),b8 8 (by omega),b0 8 (by omega)];simp [z1m]
 | 3,_=>rw [b24 0 (by omega),b16 0 (by omega),b8 0 (by omega),b0 0 (by omega)];simp [z1m]
theorem zp9(A B:List UInt8)(k:Nat)(h:k<A.length):z1m (A++B) k=z1m A k++B:=by
 unfold z1m
 rw [List.set_append_left _ _ h,List.getD_eq_getElem?_getD,List.getElem?_append_left h,<-List.getD_eq_getElem?_getD]
theorem zpa(A B:List UInt8)(k:Nat):z1m (A++B) (A.length+k)=A++z1m B k:=by
 unfold z1m
 rw [List.set_append_right _ _ (by omega),Nat.add_sub_cancel_left,List.getD_eq_getElem?_getD,List.getElem?_append_right (by omega),Nat.add_sub_cancel_left,<-List.getD_eq_getElem?_getD]
theorem zh2:∀(l:List W) (u r:Nat),u<l.length->r<4->enc (l.set u (l.getD u 0^^^BitVec.ofNat 32 (2^(8*(3-r)))))=z1m (enc l) (4*u+r)
 |x::l,0,r,_,hr0=>by
  have e:∀(y:W) (l:List W),enc (y::l)=be 4 y.toNat++enc l:=fun y l=>by simp [enc]
  rw [List.set_cons_zero,e,e,show 4*0+r=r by omega,zp9 _ _ _ (by rw [z34];exact hr0),<-zmz x r hr0]
  rfl
 |x::l,u+1,r,h,hr0=>by
  have e:∀(y:W) (l:List W),enc (y::l)=be 4 y.toNat++enc l:=fun y l=>by simp [enc]
  have ih:=zh2 l u r (by simpa using h) hr0
  rw [List.set_cons_succ,e,e,show 4*(u+1)+r=(be 4 x.toNat).length+(4*u+r)by rw [z34];omega,zpa,<-ih]
  rfl
theorem zwb(x:Nat->V8)(b l:Nat):outV (z3d x b l)=z1m (outV (x (8*eL ((b+l)/8)+l%8))) (pL (b+l)):=by
 have hp:pL (b+l)<32:=by unfold pL;omega
 have h:=zh2 (x (8*eL ((b+l)/8)+l%8)).l (pL (b+l)/4) (pL (b+l)%4) (by simp [V8.l];omega) (by omega)
 rw [show 4*(pL (b+l)/4)+pL (b+l)%4=pL (b+l)by omega,<-zfp]at h
 rw [<-h]
 show enc (z3d x b l).l=_
 congr 1
 unfold z3d flW
 generalize x (8*eL ((b+l)/8)+l%8)=v
 generalize BitVec.ofNat 32 (2^(8*(3-pL (b+l)%4)))=m
 have hu:pL (b+l)/4<8:=by omega
 generalize pL (b+l)/4=u at*
 match u,hu with
 | 0,_=>simp [V8.l]
 | 1,_=>simp [V8.l]
 | 2,_=>simp [V8.l]
 | 3,_=>simp [V8.l]
 | 4,_=>simp [V8.l]
 | 5,_=>simp [V8.l]
 | 6,_=>simp [V8.l]
 | 7,_=>simp [V8.l]
theorem zjr(sig d:List UInt8)(hs:sig.length=16384)(kk:Nat)(hk:kk<8192):∀n,n<=256->recF (z1m sig kk) d n=
  if n<=kk/32 then recF sig d n else(recF sig d n).set (2*(kk/32)+bitS d ((kk/32:Nat):Int)) (z48 (z1m ((sig.take (32*(kk/32)+32)).drop (32*(kk/32))) (kk%32)))
 | 0,_=>by rw [if_pos (by omega)];rfl
 |n+1,h=>by
  have ih:=zjr sig d hs kk hk n (by omega)
  have t2:((z1m sig kk).drop (8192+32*n)).take 32=(sig.drop (8192+32*n)).take 32:=by
   unfold z1m
   rw [List.drop_set,if_pos (by omega)]
  rw [recF,recF,recS,recS,t2,ih]
  rcases Nat.lt_trichotomy n (kk/32)with h1|h1|h1
  ·rw [if_pos (by omega),if_pos (by omega)]
   have t1:((z1m sig kk).take (32*n+32)).drop (32*n)=(sig.take (32*n+32)).drop (32*n):=by
    unfold z1m
    rw [List.take_set,List.set_eq_of_length_le (by rw [List.length_take];omega)]
   rw [t1]
  ·rw [if_pos (by omega),if_neg (by omega),<-h1]
   have t1:((z1m sig kk).take (32*n+32)).drop (32*n)=z1m ((sig.take (32*n+32)).drop (32*n)) (kk%32):=by
    unfold z1m
    rw [List.take_set,List.drop_set,if_neg (by omega),show kk-32*n=kk%32 by omega]
    congr 2
    simp only [List.getD_eq_getElem?_getD,List.getElem?_drop,List.getElem?_take]
    rw [if_pos (by omega),show 32*n+kk%32=kk by omega]
   rw [t1]
   have hb:=z4d d n
   generalize bitS d (n:Int)=c at*
   rcases(show c=0 \/c=1 by omega)with rfl|rfl
   ·rw [Nat.add_zero,Nat.sub_zero,List.set_comm _ _ (show 2*n+1 ≠ 2*n by omega),List.set_set]
   ·rw [Nat.add_sub_cancel,List.set_comm _ _ (show 2*n ≠ 2*n+1 by omega),List.set_set]
  ·rw [if_neg (by omega),if_neg (by omega)]
   have t1:((z1m sig kk).take (32*n+32)).drop (32*n)=(sig.take (32*n+32)).drop (32*n):=by
    unfold z1m
    rw [List.take_set,List.drop_set,if_pos (by omega)]
   rw [t1]
   have hb:=z4d d n
   have hb2:=z4d d ((kk/32:Nat):Int)
   rw [List.set_comm _ _ (show 2*(kk/32)+bitS d ((kk/32:Nat):Int) ≠ 2*n+bitS d (n:Int)by omega),List.set_comm _ _ (show 2*(kk/32)+bitS d ((kk/32:Nat):Int) ≠ 2*n+1-bitS d (n:Int)by omega)]
theorem map_set{α:Type}(f:Nat->α)(n e:Nat)(y:α):((List.range n).map f).set e y=(List.range n).map fun k=>if k=e then y else f k:=by
 apply List.ext_getElem
 ·simp
 ·intro i h1 h2
  simp only [List.length_set,List.length_map,List.length_range]at h1
  rw [List.getElem_set]
  simp only [List.getElem_map,List.getElem_range]
  by_cases h:e=i
  ·rw [if_pos h,if_pos h.symm]
  ·rw [if_neg h,if_neg fun e=>h e.symm]
end
section
open Pk (P Q M one pkN)
def logS:List UInt8:=[108,111,103]
def xG(l:Nat):V8:=mixS v0 (padS (secM logS ((l%8:Nat):Int) ((id (l/8):Nat):Int)))
theorem sec_G(i k:Nat)(hi:i<8):(secH logS (i:Nat) (k:Nat)).1=outV (xG (8*k+i)):=zkf logS id z4n i k hi
theorem shw_G(i k:Nat)(hi:i<8):(shwH logS (i:Nat) (k:Nat)).1=outV (hv (3::outV (xG (8*k+i)))):=by
 show shaS (3::(secH logS (i:Nat) (k:Nat)).1)=_
 rw [sec_G i k hi];rfl
theorem ze5(j l:Nat):pG j l=pG j (l%8):=by
 have e:∀t,wdG j (l%8) t=wdG j l t:=fun t=>by unfold wdG;rw [Nat.mod_mod]
 unfold pG
 simp only [e]
theorem zix{a b:Hash}{va vb:V8}(ha:a.1=outV va)(hb:b.1=outV vb):(zz a b).1=outV (hv (1::(outV va++outV vb))):=by
 show shaS (1::(a.1++b.1))=_
 rw [ha,hb];rfl
theorem znu(l:Nat){x p q r:Hash}{vx vp vq vr:V8}(hx:x.1=outV vx)(hp:p.1=outV vp)(hq:q.1=outV vq)(hr0:r.1=outV vr):(z2d (l%8) x p q r).1=outV (nodV (bitL 2 l) vr (nodV (bitL 1 l) vq (nodV (bitL 0 l) vp vx))):=by
 have step:∀(c:Bool) {a b:Hash} {va vb:V8},a.1=outV va->b.1=outV vb->(if c then zz b a else zz a b).1=outV (nodV c vb va):=by
  intro c a b va vb h1 h2
  cases c
  ·exact zix h1 h2
  ·exact zix h2 h1
 have e0:(if l%8%2=1 then zz p x else zz x p)=if bitL 0 l then zz p x else zz x p:=by
  unfold bitL
  by_cases h:l%8%2=1
  ·rw [if_pos h,if_pos (decide_eq_true (by rw [Nat.pow_zero,Nat.div_one];omega))]
  ·rw [if_neg h,if_neg]
   intro e
   have:=of_decide_eq_true e
   rw [Nat.pow_zero,Nat.div_one]at this;omega
 have e1:∀y:Hash,(if l%8/2%2=1 then zz q y else zz y q)=if bitL 1 l then zz q y else zz y q:=by
  intro y
  unfold bitL
  by_cases h:l%8/2%2=1
  ·rw [if_pos h,if_pos (decide_eq_true (by rw [Nat.pow_one];omega))]
  ·rw [if_neg h,if_neg]
   intro e
   have:=of_decide_eq_true e
   rw [Nat.pow_one]at this;omega
 have e2:∀y:Hash,(if l%8/4%2=1 then zz r y else zz y r)=if bitL 2 l then zz r y else zz y r:=by
  intro y
  unfold bitL
  by_cases h:l%8/4%2=1
  ·rw [if_pos h,if_pos (decide_eq_true (by show l/4%2=1;omega))]
  ·rw [if_neg h,if_neg]
   intro e
   have:l/4%2=1:=of_decide_eq_true e
   omega
 unfold z2d
 dsimp only
 rw [e0,e1,e2]
 exact step _ (step _ (step _ hx hp) hq) hr0
theorem path_G(i:Nat)(hi:i<8):∃p q r,z1h (keyL logS) i=[p,q,r]/\ p.1=outV (pG 0 i)/\ q.1=outV (pG 1 i)/\ r.1=outV (pG 2 i):=by
 obtain⟨a,b,c,d,e,f,g,h,hK,k0,k1,k2,k3,k4,k5,k6,k7⟩:∃a b c d e f g h:Hash,keyL logS=[a,b,c,d,e,f,g,h]/\ a.1=kg0/\ b.1=kg1/\ c.1=kg2/\ d.1=kg3/\ e.1=kg4/\ f.1=kg5/\ g.1=kg6/\ h.1=kg7:=
  ⟨_,_,_,_,_,_,_,_,rfl,lg0,lg1,lg2,lg3,lg4,lg5,lg6,lg7⟩
 have n01:(zz a b).1=ng01:=by show z1k a.1 b.1=_;rw [k0,k1,zip]
 have n23:(zz c d).1=ng23:=by show z1k c.1 d.1=_;rw [k2,k3,zir]
 have n45:(zz e f).1=ng45:=by show z1k e.1 f.1=_;rw [k4,k5,zis]
 have n67:(zz g h).1=ng67:=by show z1k g.1 h.1=_;rw [k6,k7,ziu]
 have n03:(zz (zz a b) (zz c d)).1=ng03:=by show z1k (zz a b).1 (zz c d).1=_;rw [n01,n23,ziq]
 have n47:(zz (zz e f) (zz g h)).1=ng47:=by show z1k (zz e f).1 (zz g h).1=_;rw [n45,n67,zit]
 have o0:=pG0 ⟨i,hi⟩
 have o1:=pG1 ⟨i,hi⟩
 have o2:=pG2 ⟨i,hi⟩
 dsimp only at o0 o1 o2
 rw [hK,o0,o1,o2]
 obtain⟨p0,p1,p2,p3,p4,p5,p6,p7⟩:=ze7 a b c d e f g h
 match i,hi with
 | 0,_=>exact⟨_,_,_,p0,k1,n23,n47⟩
 | 1,_=>exact⟨_,_,_,p1,k0,n23,n47⟩
 | 2,_=>exact⟨_,_,_,p2,k3,n01,n47⟩
 | 3,_=>exact⟨_,_,_,p3,k2,n01,n47⟩
 | 4,_=>exact⟨_,_,_,p4,k5,n67,n03⟩
 | 5,_=>exact⟨_,_,_,p5,k4,n67,n03⟩
 | 6,_=>exact⟨_,_,_,p6,k7,n45,n03⟩
 | 7,_=>exact⟨_,_,_,p7,k6,n45,n03⟩
theorem root_G:(z14 (keyL logS)).1=outV rG:=by
 obtain⟨a,b,c,d,e,f,g,h,hK,k0,k1,k2,k3,k4,k5,k6,k7⟩:∃a b c d e f g h:Hash,keyL logS=[a,b,c,d,e,f,g,h]/\ a.1=kg0/\ b.1=kg1/\ c.1=kg2/\ d.1=kg3/\ e.1=kg4/\ f.1=kg5/\ g.1=kg6/\ h.1=kg7:=
  ⟨_,_,_,_,_,_,_,_,rfl,lg0,lg1,lg2,lg3,lg4,lg5,lg6,lg7⟩
 rw [hK,zbn,rG_is.1]
 show z1k (z1k (z1k a.1 b.1) (z1k c.1 d.1)) (z1k (z1k e.1 f.1) (z1k g.1 h.1))=_
 rw [k0,k1,k2,k3,k4,k5,k6,k7,zip,zir,zis,ziu,ziq,zit,nR_is]
theorem outV_a{v w:V8}(h:outV v=outV w):v.a.toNat=w.a.toNat:=by
 have e:∀v:V8,outV v=UInt8.ofNat (v.a.toNat/16777216)::UInt8.ofNat (v.a.toNat/65536)::UInt8.ofNat (v.a.toNat/256)::lb v.a::enc [v.b,v.c,v.d,v.e,v.f,v.g,v.h]:=fun v=>by rw [zfp];exact zak _ _
 rw [e,e]at h
 simp only [List.cons.injEq,lb]at h
 obtain⟨h1,h2,h3,h4,_⟩:=h
 have t:∀{a b:Nat},UInt8.ofNat a=UInt8.ofNat b->a%256=b%256:=fun {a b} e=>by
  have:=congrArg UInt8.toNat e
  simpa [UInt8.toNat_ofNat']using this
 have:=t h1;have:=t h2;have:=t h3;have:=t h4
 have:=v.a.isLt;have:=w.a.isLt
 omega
theorem zmv(g:Nat)(hg:g<512):(nodV (bitL 2 (g%128)) (pG 2 (g%128)) (nodV (bitL 1 (g%128)) (pG 1 (g%128)) (nodV (bitL 0 (g%128)) (pG 0 (g%128)) (hv (4::enc (strX (fun l=>hv (3::outV (xG l))) (fun l=>hv (3::outV (z3d xG (128*(g/128)) l))) (128*(g/128)) (g%128))))))).a.toNat ≠ cG:=by
 have key:∀b,b%8=0->b<=384->badN b z3t ptG cG=true->∀l,l<128->(nodV (bitL 2 l) (pG 2 l) (nodV (bitL 1 l) (pG 1 l) (nodV (bitL 0 l) (pG 0 l) (hv (4::enc (strX (fun l=>hv (3::outV (xG l))) (fun l=>hv (3::outV (z3d xG b l))) b l)))))).a.toNat ≠ cG:=
  fun b h8 h3 he l hl=>zmq ptG cG pG (fun j t l ht _=>ptG_ok j t l ht) b h8 h3 z3t (fun l=>secM logS ((l%8:Nat):Int) ((id (l/8):Nat):Int)) z5r z5z he l hl
 have hl:g%128<128:=Nat.mod_lt _ (by omega)
 rcases(show g/128=0 \/g/128=1 \/g/128=2 \/g/128=3 by omega)with h|h|h|h
 ·rw [h];exact key 0 (by omega) (by omega) zoh _ hl
 ·rw [h];exact key 128 (by omega) (by omega) zoi _ hl
 ·rw [h];exact key 256 (by omega) (by omega) zoj _ hl
 ·rw [h];exact key 384 (by omega) (by omega) zok _ hl
theorem zqr(dg:List UInt8)(k:Nat)(hk:k<256):
  (z1j (recF (z1m (ksgS logS ((k%8:Nat):Int) dg) k) dg 256)).1=outV (hv (4::enc (strX (fun l=>hv (3::outV (xG l))) (fun l=>hv (3::outV (z3d xG (128*((64*(k/32)+16*(k%32/8)+8*bitS dg ((k/32:Nat):Int)+k%8)/128)) l))) (128*((64*(k/32)+16*(k%32/8)+8*bitS dg ((k/32:Nat):Int)+k%8)/128)) ((64*(k/32)+16*(k%32/8)+8*bitS dg ((k/32:Nat):Int)+k%8)%128)))):=by
 have hb:=z4d dg ((k/32:Nat):Int)
 have hki:k%8<8:=Nat.mod_lt _ (by omega)
 have h:=zjr (ksgS logS ((k%8:Nat):Int) dg) dg (z66 _ _ _) k (by omega) 256 (Nat.le_refl _)
 rw [if_neg (by omega),zeg,zkx logS _ dg (k/32) (by omega)]at h
 rw [h]
 generalize bitS dg ((k/32:Nat):Int)=s at*
 have hidx:(2*((k/32:Nat):Int)+(s:Int))=((2*(k/32)+s:Nat):Int):=by omega
 rw [hidx,show pubH logS ((k%8:Nat):Int)=(List.range 512).map (fun j:Nat=>shwH logS ((k%8:Nat):Int) (j:Nat))from rfl,map_set]
 generalize hg:64*(k/32)+16*(k%32/8)+8*s+k%8=g
 have hgb:128*(g/128)+g%128=g:=Nat.div_add_mod g 128
 have he:eL (g/8)=2*(k/32)+s:=by unfold eL;omega
 have hp:pL g=k%32:=by unfold pL;omega
 have hm:g%128%8=k%8:=by omega
 have hlen:∀L:List Hash,L.length=512->(z1j L).1=outV (hv (4::catS L)):=fun L hL=>by unfold z1j;rw [if_pos hL];rfl
 rw [hlen _ (by rw [List.length_map,List.length_range])]
 have hcat:=zcx (fun j:Nat=>if j=2*(k/32)+s then z48 (z1m (secH logS ((k%8:Nat):Int) ((2*(k/32)+s:Nat):Int)).1 (k%32))else shwH logS ((k%8:Nat):Int) (j:Nat))
  (fun j=>if j=eL ((128*(g/128)+g%128)/8)then hv (3::outV (z3d xG (128*(g/128)) (g%128)))else hv (3::outV (xG (8*j+g%128%8)))) (fun j=>by
   rw [hgb,he]
   by_cases hj:j=2*(k/32)+s
   ·rw [if_pos hj,if_pos hj,zwb,hgb,he,hp,hm,<-sec_G _ _ hki]
    rfl
   ·rw [if_neg hj,if_neg hj,hm]
    exact shw_G _ _ hki) (List.range 512)
 rw [hcat]
 unfold strX
 congr 5
theorem zmw(dg:Hash)(k:Nat)(hk:k<256):verI (z14 (keyL logS)) dg ((k%8:Nat):Int) (z1m (ksgS logS ((k%8:Nat):Int) dg.1) k) (z1h (keyL logS) (k%8)) ≠ 0:=by
 have hb:=z4d dg.1 ((k/32:Nat):Int)
 have hki:k%8<8:=Nat.mod_lt _ (by omega)
 unfold verI
 rw [if_neg (by omega),if_pos (by rw [zhh];exact z66 _ _ _)]
 have hl:=zqr dg.1 k hk
 have hbad:=zmv (64*(k/32)+16*(k%32/8)+8*bitS dg.1 ((k/32:Nat):Int)+k%8) (by omega)
 generalize bitS dg.1 ((k/32:Nat):Int)=s at*
 generalize hg:64*(k/32)+16*(k%32/8)+8*s+k%8=g at*
 obtain⟨p,q,r,hP,h0,h1,h2⟩:=path_G (k%8) hki
 have hm:g%128%8=k%8:=by omega
 have e0:pG 0 (g%128)=pG 0 (k%8):=by rw [ze5,hm]
 have e1:pG 1 (g%128)=pG 1 (k%8):=by rw [ze5,hm]
 have e2:pG 2 (g%128)=pG 2 (k%8):=by rw [ze5,hm]
 rw [e0,e1,e2]at hbad
 have hc:=znu (g%128) hl h0 h1 h2
 rw [hm]at hc
 rw [hP,z3y _ hki]
 have hne:z2d (k%8) (z1j (recF (z1m (ksgS logS ((k%8:Nat):Int) dg.1) k) dg.1 256)) p q r ≠ z14 (keyL logS):=by
  intro e
  have e3:=congrArg Subtype.val e
  rw [hc,root_G]at e3
  have:=outV_a e3
  rw [rG_is.2]at this
  exact hbad this
 rw [if_neg hne]
 decide
theorem zpq{key:Hash}{n i:Int}{r:Hash}{s:List UInt8}{p:List Hash}(h:verI key (digH n r) i s p ≠ 0)(hv0:z4b n i s p=true):z1f key n i r s p ≠ 0:=by
 have h1:¬(z4b n i s p=false):=by rw [hv0];simp
 have e:z1f key n i r s p=81:=(if_neg h1).trans (if_neg h)
 rw [e]
 omega
theorem zu1(a r k b:Nat)(hk:k<256)(hb:b%8=0):z1f (z14 (keyL logS)) (z2h logS a r k b).n (z2h logS a r k b).i (z2h logS a r k b).r (z2h logS a r k b).s (z2h logS a r k b).p ≠ 0:=by
 rw [zbr logS a r k b hb]
 dsimp only
 have hv:=zmw (digH (z21 a) (z24 r)) k hk
 have hv0:z4b (z21 a) ((k%8:Nat):Int) (z1m (ksgS logS ((k%8:Nat):Int) (digH (z21 a) (z24 r)).1) k) (z1h (keyL logS) (k%8))=true:=decide_eq_true ⟨by unfold z21;omega,by unfold z21;omega,by omega,by omega,by rw [zhh];exact z66 _ _ _,z7u _ _⟩
 generalize z1m (ksgS logS ((k%8:Nat):Int) (digH (z21 a) (z24 r)).1) k=sig at*
 generalize z1h (keyL logS) (k%8)=path at*
 exact zpq hv hv0
theorem zu2(seed:List UInt8)(a r k b:Nat)(hb:b%8 ≠ 0):z1f (z14 (keyL seed)) (z2h seed a r k b).n (z2h seed a r k b).i (z2h seed a r k b).r (z2h seed a r k b).s (z2h seed a r k b).p=0:=by
 rw [zbs seed a r k b hb]
 exact zbu seed (k%8) _ _ (by omega) (by unfold z21;omega)
end
section
def z7a(P:List Hdr)(n:Int)(r:Hash):Prop:=∃w ∈ P,w.n=n/\ w.r=r
theorem zmk{key:Hash}{P:List Hdr}(q:Hdr)(hP:POk key P)(hq:z1f key q.n q.i q.r q.s q.p=0)(hl:P.length<16):
  addC key P q ≠ 0/\ (addL key P q).length<=P.length+1/\ ∀n r,z7a (addL key P q) n r ↔ z7a P n r \/(q.n=n/\ q.r=r):=by
 cases h1:isP P q.n q.r with
 |true=>
  have hc:addC key P q=1:=by unfold addC;rw [if_neg (by omega),if_pos h1]
  have hL:addL key P q=P:=by unfold addL;rw [hc,if_neg (by omega)]
  rw [hc,hL]
  refine⟨by omega,by omega,fun n r=>⟨.inl,fun h=> ?_⟩⟩
  rcases h with h| ⟨rfl,rfl⟩
  ·exact h
  ·exact(zar hP.sort _ _).1 h1
 |false=>
  have hc:addC key P q=if z2e (insL P q) (lbP P q.n q.r) q.n then 3 else 2:=by unfold addC;rw [if_neg (by omega),if_neg (by rw [h1];simp),if_neg (by omega)]
  have hL:addL key P q=insL P q:=by unfold addL;rw [hc];split<;>simp
  rw [hL]
  refine⟨by rw [hc];split<;>omega,by rw [z91];omega,fun n r=>⟨fun⟨w,hw,h2⟩=> ?_,fun h=> ?_⟩⟩
  ·rcases insL_mem.1 hw with rfl|h3
   ·exact .inr h2
   ·exact .inl ⟨w,h3,h2⟩
  ·rcases h with⟨w,hw,h2⟩|h2
   ·exact⟨w,insL_mem.2 (.inr hw),h2⟩
   ·exact⟨q,insL_mem.2 (.inl rfl),h2⟩
def goodB(s:Sn):Bool:=decide (s.2.2.2%8 ≠ 0)
def z2m(A:List Sn):Nat:=(A.filter goodB).length
theorem zhl(A:List Sn):z2m A<=A.length:=List.length_filter_le _ _
theorem zdg(A:List Sn)(s:Sn):z2m (A++ [s])=z2m A+if s.2.2.2%8 ≠ 0 then 1 else 0:=by
 unfold z2m goodB
 rw [List.filter_append,List.length_append]
 congr 1
 by_cases h:s.2.2.2%8=0
 ·simp [h]
 ·simp [h]
structure PA(A:List Sn)(P:List Hdr):Prop where
 ok:POk (z14 (keyL logS)) P
 mem:∀n r,z7a P n r ↔ ∃s ∈ A,s.2.2.2%8 ≠ 0/\ z21 s.1=n/\ z24 s.2.1=r
 len:P.length<=z2m A
theorem PA.nil:PA [] []:=⟨POk.nil _,fun n r=>by simp [z7a],by simp⟩
theorem snH_n(seed:List UInt8)(s:Sn):(snH seed s).n=z21 s.1/\ (snH seed s).r=z24 s.2.1:=zu0 _ _ _ _ _
theorem PA.step{A:List Sn}{P:List Hdr}(h:PA A P)(s:Sn)(hs:SnOk s)(hA:A.length<16):
  PA (A++ [s]) (addL (z14 (keyL logS)) P (snH logS s))/\ (addC (z14 (keyL logS)) P (snH logS s)=0 ↔ s.2.2.2%8=0):=by
 have hg:=zhl A
 have hln:=h.len
 by_cases hb:s.2.2.2%8=0
 ·have h0:z1f (z14 (keyL logS)) (snH logS s).n (snH logS s).i (snH logS s).r (snH logS s).s (snH logS s).p ≠ 0:=zu1 s.1 s.2.1 s.2.2.1 s.2.2.2 hs.2.2.1 hb
  obtain⟨c,hL⟩:=zmh (P:=P) h0
  rw [c,hL]
  refine⟨⟨h.ok,fun n r=> ?_,by rw [zdg];omega⟩,by simp [hb]⟩
  rw [h.mem]
  constructor
  ·rintro⟨t,h1,h2⟩;exact⟨t,by simp [h1],h2⟩
  ·rintro⟨t,h1,h2⟩
   rcases List.mem_append.1 h1 with h3|h3
   ·exact⟨t,h3,h2⟩
   ·rw [List.mem_singleton.1 h3]at h2;exact absurd hb h2.1
 ·have h0:z1f (z14 (keyL logS)) (snH logS s).n (snH logS s).i (snH logS s).r (snH logS s).s (snH logS s).p=0:=zu2 logS s.1 s.2.1 s.2.2.1 s.2.2.2 hb
  obtain⟨c,hl2,hm⟩:=zmk (snH logS s) h.ok h0 (by omega)
  obtain⟨e1,e2⟩:=snH_n logS s
  refine⟨⟨h.ok.add _,fun n r=> ?_,by rw [zdg,if_pos hb];omega⟩,⟨fun e=>absurd e c,fun e=>absurd e hb⟩⟩
  rw [hm,h.mem,e1,e2]
  constructor
  ·rintro(⟨t,h1,h2⟩|h2)
   ·exact⟨t,by simp [h1],h2⟩
   ·exact⟨s,by simp,hb,h2⟩
  ·rintro⟨t,h1,h2⟩
   rcases List.mem_append.1 h1 with h3|h3
   ·exact .inl ⟨t,h3,h2⟩
   ·rw [List.mem_singleton.1 h3]at h2;exact .inr h2.2
theorem PSort.head{q:Hdr}{P:List Hdr}(h:PSort (q::P)){w:Hdr}(hw:w ∈ P):poI q.n q.r w.n w.r<0:=by
 obtain⟨j,hj,rfl⟩:=List.getElem_of_mem hw
 exact h 0 (j+1) (by simp) (by simp;omega) (by omega)
theorem zhr:∀{P Q:List Hdr},PSort P->PSort Q->(∀n r,z7a P n r ↔ z7a Q n r)->hns P=hns Q
 | [],[],_,_,_=>rfl
 | [],q::Q,_,_,h=>by
  have:=(h q.n q.r).2 ⟨q,by simp,rfl,rfl⟩
  obtain⟨w,hw,_⟩:=this
  simp at hw
 |p::P,[],_,_,h=>by
  have:=(h p.n p.r).1 ⟨p,by simp,rfl,rfl⟩
  obtain⟨w,hw,_⟩:=this
  simp at hw
 |p::P,q::Q,hP,hQ,h=>by
  have e:p.n=q.n/\ p.r=q.r:=by
   obtain⟨w,hw,w1,w2⟩:=(h p.n p.r).1 ⟨p,by simp,rfl,rfl⟩
   obtain⟨u,hu,u1,u2⟩:=(h q.n q.r).2 ⟨q,by simp,rfl,rfl⟩
   rcases List.mem_cons.1 hw with rfl|hw
   ·exact⟨w1.symm,w2.symm⟩
   ·rcases List.mem_cons.1 hu with rfl|hu
    ·exact⟨u1,u2⟩
    ·have a:=hQ.head hw
     have b:=hP.head hu
     rw [w1,w2]at a
     rw [u1,u2,zji]at b
     omega
  have ih:=zhr hP.tail hQ.tail fun n r=>by
   constructor
   ·rintro⟨w,hw,w1,w2⟩
    obtain⟨u,hu,u1,u2⟩:=(h n r).1 ⟨w,by simp [hw],w1,w2⟩
    rcases List.mem_cons.1 hu with rfl|hu
    ·have a:=hP.head hw
     rw [w1,w2,<-u1,<-u2,e.1,e.2]at a
     have:poI u.n u.r u.n u.r=0:=po_zero.2 ⟨rfl,rfl⟩
     omega
    ·exact⟨u,hu,u1,u2⟩
   ·rintro⟨w,hw,w1,w2⟩
    obtain⟨u,hu,u1,u2⟩:=(h n r).2 ⟨w,by simp [hw],w1,w2⟩
    rcases List.mem_cons.1 hu with rfl|hu
    ·have a:=hQ.head hw
     rw [w1,w2,<-u1,<-u2,<-e.1,<-e.2]at a
     have:poI u.n u.r u.n u.r=0:=po_zero.2 ⟨rfl,rfl⟩
     omega
    ·exact⟨u,hu,u1,u2⟩
  unfold hns at ih ⊢
  rw [List.map_cons,List.map_cons,ih,e.1,e.2]
theorem zpb{P:List Hdr}{o:Option Nat}(hP:PSort P)(ho:ForkIs P o):o.isSome=true ↔ ∃x ∈ P,∃y ∈ P,x.n=y.n/\ x.r ≠ y.r:=by
 cases o with
 |some j=>
  obtain⟨h1,h2,h3⟩:=ho
  refine⟨fun _=>⟨P[j],List.getElem_mem _,P[j+1],List.getElem_mem _,?_,fun e=> ?_⟩,fun _=>rfl⟩
  ·rw [List.getElem?_eq_getElem (by omega),List.getElem?_eq_getElem h1]at h2
   exact Option.some.inj h2
  ·rw [List.getElem?_eq_getElem (by omega),List.getElem?_eq_getElem h1]at h2
   have h4:P[j].n=P[j+1].n:=Option.some.inj h2
   have:=hP j (j+1) (by omega) h1 (by omega)
   have:=po_zero.2 ⟨h4,e⟩
   omega
 |none=>
  refine⟨fun h=>by simp at h,?_⟩
  rintro⟨x,hx,y,hy,h1,h2⟩
  exfalso
  obtain⟨a,ha,rfl⟩:=List.getElem_of_mem hx
  obtain⟨b,hb,rfl⟩:=List.getElem_of_mem hy
  have key:∀a b (ha:a<P.length) (hb:b<P.length),a<b->P[a].n=P[b].n->False:=by
   intro a b ha hb hab he
   have l1:=hP.le (i:=a) (j:=a+1) (by omega) (by omega)
   have l2:=hP.le (i:=a+1) (j:=b) hb (by omega)
   refine ho a (by omega) ?_
   rw [List.getElem?_eq_getElem ha,List.getElem?_eq_getElem (by omega)]
   simp only [Option.map_some]
   congr 1
   omega
  rcases Nat.lt_trichotomy a b with h|h|h
  ·exact key a b ha hb h h1
  ·subst h;exact h2 rfl
  ·exact key b a hb ha h h1.symm
theorem seenR_eq{a b:Nat}:z24 a=z24 b ↔ a%3=b%3:=by
 refine⟨fun h=> ?_,fun h=>by unfold z24;rw [h]⟩
 have e:=congrArg (fun x:Hash=>x.1.headD 0) h
 have e2:UInt8.ofNat (a%3)=UInt8.ofNat (b%3):=by simpa [z24,rt2]using e
 have e3:=congrArg UInt8.toNat e2
 rw [UInt8.toNat_ofNat',UInt8.toNat_ofNat']at e3
 omega
theorem seenN_eq{a b:Nat}:z21 a=z21 b ↔ a%6=b%6:=by
 unfold z21
 omega
def pairB(s t:Sn):Bool:=decide (s.2.2.2%8 ≠ 0/\ t.2.2.2%8 ≠ 0/\ s.1%6=t.1%6/\ s.2.1%3 ≠ t.2.1%3)
def sn0:Sn:=(0,0,0,0)
def wK(L:List Sn)(i k:Nat):Bool:=(List.range k).any fun j=>pairB (L.getD i sn0) (L.getD j sn0)
def wB(L:List Sn)(i:Nat):Bool:=(List.range i).any fun a=>wK L a a
theorem zwk(L:List Sn)(i k:Nat):wK L i (k+1)=(wK L i k ||pairB (L.getD i sn0) (L.getD k sn0)):=by
 unfold wK;rw [List.range_succ,List.any_append];simp
theorem zwj(L:List Sn)(i:Nat):wB L (i+1)=(wB L i ||wK L i i):=by
 unfold wB;rw [List.range_succ,List.any_append];simp
theorem zwl(L:List Sn):wB L L.length=true ↔ ∃s ∈ L,∃t ∈ L,pairB s t=true:=by
 have sym:∀s t,pairB s t=true->pairB t s=true:=fun s t h=>by
  have:=of_decide_eq_true h
  exact decide_eq_true ⟨this.2.1,this.1,this.2.2.1.symm,fun e=>this.2.2.2 e.symm⟩
 have gd:∀i (h:i<L.length),L.getD i sn0=L[i]:=fun i h=>by rw [List.getD_eq_getElem?_getD,List.getElem?_eq_getElem h];rfl
 unfold wB wK
 constructor
 ·intro h
  obtain⟨a,ha,h2⟩:=List.any_eq_true.1 h
  obtain⟨b,hb,h3⟩:=List.any_eq_true.1 h2
  have ha':=List.mem_range.1 ha
  have hb':=List.mem_range.1 hb
  rw [gd a ha',gd b (by omega)]at h3
  exact⟨L[a],List.getElem_mem _,L[b],List.getElem_mem _,h3⟩
 ·rintro⟨s,hs,t,ht,h⟩
  obtain⟨a,ha,rfl⟩:=List.getElem_of_mem hs
  obtain⟨b,hb,rfl⟩:=List.getElem_of_mem ht
  rcases Nat.lt_trichotomy a b with h1|h1|h1
  ·refine List.any_eq_true.2 ⟨b,List.mem_range.2 hb,List.any_eq_true.2 ⟨a,List.mem_range.2 h1,?_⟩⟩
   rw [gd a ha,gd b hb];exact sym _ _ h
  ·subst h1
   have:=(of_decide_eq_true h).2.2.2
   exact absurd rfl this
  ·refine List.any_eq_true.2 ⟨a,List.mem_range.2 ha,List.any_eq_true.2 ⟨b,List.mem_range.2 h1,?_⟩⟩
   rw [gd a ha,gd b hb];exact h
theorem PA.fork{L:List Sn}{P:List Hdr}{o:Option Nat}(h:PA L P)(ho:ForkIs P o):o.isSome=wB L L.length:=by
 have e:o.isSome=true ↔ wB L L.length=true:=by
  rw [zpb h.ok.sort ho,zwl]
  constructor
  ·rintro⟨x,hx,y,hy,h1,h2⟩
   obtain⟨s,hs,s1,s2,s3⟩:=(h.mem x.n x.r).1 ⟨x,hx,rfl,rfl⟩
   obtain⟨t,ht,t1,t2,t3⟩:=(h.mem y.n y.r).1 ⟨y,hy,rfl,rfl⟩
   exact⟨s,hs,t,ht,decide_eq_true ⟨s1,t1,seenN_eq.1 (by rw [s2,t2,h1]),fun e=>h2 (by rw [<-s3,<-t3,seenR_eq.2 e])⟩⟩
  ·rintro⟨s,hs,t,ht,hp⟩
   obtain⟨p1,p2,p3,p4⟩:=of_decide_eq_true hp
   obtain⟨x,hx,x1,x2⟩:=(h.mem _ _).2 ⟨s,hs,p1,rfl,rfl⟩
   obtain⟨y,hy,y1,y2⟩:=(h.mem _ _).2 ⟨t,ht,p2,rfl,rfl⟩
   exact⟨x,hx,y,hy,by rw [x1,y1,seenN_eq.2 p3],fun e=>p4 (seenR_eq.1 (by rw [<-x2,<-y2,e]))⟩
 cases h1:o.isSome<;>cases h2:wB L L.length<;>simp_all
end
section
theorem z6u{L:List Sn}{i:Nat}(h:i<L.length):L.getD i sn0=L[i]:=by rw [List.getD_eq_getElem?_getD,List.getElem?_eq_getElem h];rfl
attribute [local irreducible] ACallsTo ACallsP
theorem zsn(L:List Sn)(ex:Bool)(i k:Nat)(hi:i<L.length)(hk:k<L.length)(O:Store)(J:Env)(w:Bool)(q0:J 0=.vsl 4 (sns L) ex)(q5:J 5=.bool w)(q6:J 6=.int .i64 i)(q7:J 7=.int .i64 k)(Q:AExit->Env->Store->Prop)
  (hsi:SnOk L[i]) (hsk:SnOk L[k])
  (hQ:∀J',J' 0=.vsl 4 (sns L) ex->J' 3=J 3->J' 4=J 4->J' 5=.bool (w ||pairB (L.getD i sn0) (L.getD k sn0))->J' 6=.int .i64 i->J' 7=.int .i64 k->Q .normal J' O):
  zW TC 131 0 (.reg zjn) Q J O:=by
 have gi:=z9k hi
 have gk:=z9k hk
 have sl:=zo L
 rw [z6u hi,z6u hk]at hQ
 generalize L[i]=s at*
 generalize L[k]=t at*
 obtain⟨a,r,c,b⟩:=s
 obtain⟨a',r',c',b'⟩:=t
 obtain⟨s1,s2,s3,s4⟩:=hsi
 obtain⟨t1,t2,t3,t4⟩:=hsk
 dsimp only at s1 s2 s3 s4 t1 t2 t3 t4
 have e1:((b:Int))%8=((b%8:Nat):Int):=by omega
 have e2:((b':Int))%8=((b'%8:Nat):Int):=by omega
 have e3:((a:Int))%6=((a%6:Nat):Int):=by omega
 have e4:((a':Int))%6=((a'%6:Nat):Int):=by omega
 have e5:((r:Int))%3=((r%3:Nat):Int):=by omega
 have e6:((r':Int))%3=((r'%3:Nat):Int):=by omega
 have hp:pairB (a,r,c,b) (a',r',c',b')=decide (b%8 ≠ 0/\ b'%8 ≠ 0/\ a%6=a'%6/\ r%3 ≠ r'%3):=rfl
 rw [hp]at hQ
 cases w with
 |true=>
  repeat' (first|apply zs_|apply zb_|apply zc_|apply zt_ rfl|apply zf_ rfl|(apply zd_ rfl<;>intro ht<;>try omega)|((first|apply zr_|apply zk_|apply ze_|apply zq_|(apply zG<;>intro ht));all_goals try simp (disch:=first|omega|(simp only [lens,z8,zh,zg,zj,zi,zm,zn,zo,lQt,lQd,List.length_replicate];first|done|omega)) only [go_sem,q0,q5,q6,q7,gi,gk,sl,snC]))
  exact hQ _ (by simp (disch:=first|omega|(simp only [lens,z8,zh,zg,zj,zi,zm,zn,zo,lQt,lQd,List.length_replicate];first|done|omega)) only [go_sem,q0]) (by simp (disch:=first|omega|(simp only [lens,z8,zh,zg,zj,zi,zm,zn,zo,lQt,lQd,List.length_replicate];first|done|omega)) only [go_sem]) (by simp (disch:=first|omega|(simp only [lens,z8,zh,zg,zj,zi,zm,zn,zo,lQt,lQd,List.length_replicate];first|done|omega)) only [go_sem]) (by simp (disch:=first|omega|(simp only [lens,z8,zh,zg,zj,zi,zm,zn,zo,lQt,lQd,List.length_replicate];first|done|omega)) only [go_sem];try rfl) (by simp (disch:=first|omega|(simp only [lens,z8,zh,zg,zj,zi,zm,zn,zo,lQt,lQd,List.length_replicate];first|done|omega)) only [go_sem,q6]) (by simp (disch:=first|omega|(simp only [lens,z8,zh,zg,zj,zi,zm,zn,zo,lQt,lQd,List.length_replicate];first|done|omega)) only [go_sem,q7])
 |false=>
  rw [Bool.false_or]at hQ
  by_cases h1:b%8=0
  ·rw [decide_eq_false (by omega)]at hQ
   repeat' (first|apply zs_|apply zb_|apply zc_|apply zt_ rfl|apply zf_ rfl|(apply zd_ rfl<;>intro ht<;>try omega)|((first|apply zr_|apply zk_|apply ze_|apply zq_|(apply zG<;>intro ht));all_goals try simp (disch:=first|omega|(simp only [lens,z8,zh,zg,zj,zi,zm,zn,zo,lQt,lQd,List.length_replicate];first|done|omega)) only [go_sem,q0,q5,q6,q7,gi,gk,sl,snC,e1,e2,e3,e4,e5,e6,h1]))
   exact hQ _ (by simp (disch:=first|omega|(simp only [lens,z8,zh,zg,zj,zi,zm,zn,zo,lQt,lQd,List.length_replicate];first|done|omega)) only [go_sem,q0]) (by simp (disch:=first|omega|(simp only [lens,z8,zh,zg,zj,zi,zm,zn,zo,lQt,lQd,List.length_replicate];first|done|omega)) only [go_sem]) (by simp (disch:=first|omega|(simp only [lens,z8,zh,zg,zj,zi,zm,zn,zo,lQt,lQd,List.length_replicate];first|done|omega)) only [go_sem]) (by simp (disch:=first|omega|(simp only [lens,z8,zh,zg,zj,zi,zm,zn,zo,lQt,lQd,List.length_replicate];first|done|omega)) only [go_sem];try rfl) (by simp (disch:=first|omega|(simp only [lens,z8,zh,zg,zj,zi,zm,zn,zo,lQt,lQd,List.length_replicate];first|done|omega)) only [go_sem,q6]) (by simp (disch:=first|omega|(simp only [lens,z8,zh,zg,zj,zi,zm,zn,zo,lQt,lQd,List.length_replicate];first|done|omega)) only [go_sem,q7])
  by_cases h2:b'%8=0
  ·rw [decide_eq_false (by omega)]at hQ
   repeat' (first|apply zs_|apply zb_|apply zc_|apply zt_ rfl|apply zf_ rfl|(apply zd_ rfl<;>intro ht<;>try omega)|((first|apply zr_|apply zk_|apply ze_|apply zq_|(apply zG<;>intro ht));all_goals try simp (disch:=first|omega|(simp only [lens,z8,zh,zg,zj,zi,zm,zn,zo,lQt,lQd,List.length_replicate];first|done|omega)) only [go_sem,q0,q5,q6,q7,gi,gk,sl,snC,e1,e2,e3,e4,e5,e6,h1,h2]))
   exact hQ _ (by simp (disch:=first|omega|(simp only [lens,z8,zh,zg,zj,zi,zm,zn,zo,lQt,lQd,List.length_replicate];first|done|omega)) only [go_sem,q0]) (by simp (disch:=first|omega|(simp only [lens,z8,zh,zg,zj,zi,zm,zn,zo,lQt,lQd,List.length_replicate];first|done|omega)) only [go_sem]) (by simp (disch:=first|omega|(simp only [lens,z8,zh,zg,zj,zi,zm,zn,zo,lQt,lQd,List.length_replicate];first|done|omega)) only [go_sem]) (by simp (disch:=first|omega|(simp only [lens,z8,zh,zg,zj,zi,zm,zn,zo,lQt,lQd,List.length_replicate];first|done|omega)) only [go_sem];try rfl) (by simp (disch:=first|omega|(simp only [lens,z8,zh,zg,zj,zi,zm,zn,zo,lQt,lQd,List.length_replicate];first|done|omega)) only [go_sem,q6]) (by simp (disch:=first|omega|(simp only [lens,z8,zh,zg,zj,zi,zm,zn,zo,lQt,lQd,List.length_replicate];first|done|omega)) only [go_sem,q7])
  by_cases h3:a%6=a'%6
  ·by_cases h4:r%3=r'%3
   ·rw [decide_eq_false (by omega)]at hQ
    repeat' (first|apply zs_|apply zb_|apply zc_|apply zt_ rfl|apply zf_ rfl|(apply zd_ rfl<;>intro ht<;>try omega)|((first|apply zr_|apply zk_|apply ze_|apply zq_|(apply zG<;>intro ht));all_goals try simp (disch:=first|omega|(simp only [lens,z8,zh,zg,zj,zi,zm,zn,zo,lQt,lQd,List.length_replicate];first|done|omega)) only [go_sem,q0,q5,q6,q7,gi,gk,sl,snC,e1,e2,e3,e4,e5,e6,h1,h2,h3,h4]))
    exact hQ _ (by simp (disch:=first|omega|(simp only [lens,z8,zh,zg,zj,zi,zm,zn,zo,lQt,lQd,List.length_replicate];first|done|omega)) only [go_sem,q0]) (by simp (disch:=first|omega|(simp only [lens,z8,zh,zg,zj,zi,zm,zn,zo,lQt,lQd,List.length_replicate];first|done|omega)) only [go_sem]) (by simp (disch:=first|omega|(simp only [lens,z8,zh,zg,zj,zi,zm,zn,zo,lQt,lQd,List.length_replicate];first|done|omega)) only [go_sem]) (by simp (disch:=first|omega|(simp only [lens,z8,zh,zg,zj,zi,zm,zn,zo,lQt,lQd,List.length_replicate];first|done|omega)) only [go_sem];try rfl) (by simp (disch:=first|omega|(simp only [lens,z8,zh,zg,zj,zi,zm,zn,zo,lQt,lQd,List.length_replicate];first|done|omega)) only [go_sem,q6]) (by simp (disch:=first|omega|(simp only [lens,z8,zh,zg,zj,zi,zm,zn,zo,lQt,lQd,List.length_replicate];first|done|omega)) only [go_sem,q7])
   ·rw [decide_eq_true (by omega)]at hQ
    repeat' (first|apply zs_|apply zb_|apply zc_|apply zt_ rfl|apply zf_ rfl|(apply zd_ rfl<;>intro ht<;>try omega)|((first|apply zr_|apply zk_|apply ze_|apply zq_|(apply zG<;>intro ht));all_goals try simp (disch:=first|omega|(simp only [lens,z8,zh,zg,zj,zi,zm,zn,zo,lQt,lQd,List.length_replicate];first|done|omega)) only [go_sem,q0,q5,q6,q7,gi,gk,sl,snC,e1,e2,e3,e4,e5,e6,h1,h2,h3,h4]))
    exact hQ _ (by simp (disch:=first|omega|(simp only [lens,z8,zh,zg,zj,zi,zm,zn,zo,lQt,lQd,List.length_replicate];first|done|omega)) only [go_sem,q0]) (by simp (disch:=first|omega|(simp only [lens,z8,zh,zg,zj,zi,zm,zn,zo,lQt,lQd,List.length_replicate];first|done|omega)) only [go_sem]) (by simp (disch:=first|omega|(simp only [lens,z8,zh,zg,zj,zi,zm,zn,zo,lQt,lQd,List.length_replicate];first|done|omega)) only [go_sem]) (by simp (disch:=first|omega|(simp only [lens,z8,zh,zg,zj,zi,zm,zn,zo,lQt,lQd,List.length_replicate];first|done|omega)) only [go_sem];try rfl) (by simp (disch:=first|omega|(simp only [lens,z8,zh,zg,zj,zi,zm,zn,zo,lQt,lQd,List.length_replicate];first|done|omega)) only [go_sem,q6]) (by simp (disch:=first|omega|(simp only [lens,z8,zh,zg,zj,zi,zm,zn,zo,lQt,lQd,List.length_replicate];first|done|omega)) only [go_sem,q7])
  ·rw [decide_eq_false (by omega)]at hQ
   repeat' (first|apply zs_|apply zb_|apply zc_|apply zt_ rfl|apply zf_ rfl|(apply zd_ rfl<;>intro ht<;>try omega)|((first|apply zr_|apply zk_|apply ze_|apply zq_|(apply zG<;>intro ht));all_goals try simp (disch:=first|omega|(simp only [lens,z8,zh,zg,zj,zi,zm,zn,zo,lQt,lQd,List.length_replicate];first|done|omega)) only [go_sem,q0,q5,q6,q7,gi,gk,sl,snC,e1,e2,e3,e4,e5,e6,h1,h2,h3]))
   exact hQ _ (by simp (disch:=first|omega|(simp only [lens,z8,zh,zg,zj,zi,zm,zn,zo,lQt,lQd,List.length_replicate];first|done|omega)) only [go_sem,q0]) (by simp (disch:=first|omega|(simp only [lens,z8,zh,zg,zj,zi,zm,zn,zo,lQt,lQd,List.length_replicate];first|done|omega)) only [go_sem]) (by simp (disch:=first|omega|(simp only [lens,z8,zh,zg,zj,zi,zm,zn,zo,lQt,lQd,List.length_replicate];first|done|omega)) only [go_sem]) (by simp (disch:=first|omega|(simp only [lens,z8,zh,zg,zj,zi,zm,zn,zo,lQt,lQd,List.length_replicate];first|done|omega)) only [go_sem];try rfl) (by simp (disch:=first|omega|(simp only [lens,z8,zh,zg,zj,zi,zm,zn,zo,lQt,lQd,List.length_replicate];first|done|omega)) only [go_sem,q6]) (by simp (disch:=first|omega|(simp only [lens,z8,zh,zg,zj,zi,zm,zn,zo,lQt,lQd,List.length_replicate];first|done|omega)) only [go_sem,q7])
end
section
theorem zho(h:Hdr):((hdrC h).drop 1).take 32=hc h.r:=by
 show (hc h.r++_).take 32=_
 exact List.take_left' (z8 h.r)
attribute [local irreducible] ACallsTo ACallsP
theorem zso(hw:Wf ([]:Store).length [])(L:List Sn)(P:List Hdr)(own:List Nat)(O:Store)(J:Env)(hP:PoIs O 2 (z14 (keyL logS)) P own)(hA:PA L P)(q4:J 4=.ptr 2 0 0)(q5:J 5=.bool (wB L L.length)):
  zW TC 131 0 z9c (endQ 0 [.t 2] (.bool true) []) J O:=by
 obtain⟨o,hF⟩:=ForkIs.ex P
 have hl:=hA.ok.len
 have hFk:=zsu O 2 _ P own o hP hF (by omega) hA.ok.path
 have hwant:=hA.fork hF
 rw [<-hwant]at q5
 cases o with
 |none=>
  unfold z8u at hFk
  have zl:=zj hdr0
  have q5:J 5=.bool false:=q5
  unfold z9c
  repeat' (first|apply zs_|apply zb_|apply zc_|apply zt_ rfl|apply zf_ rfl|(apply zd_ rfl<;>intro ht<;>try omega)|((first|apply zr_|apply zk_|apply ze_|apply zq_|(apply callW.mk_pu;(first|exact(fun _=>hFk)|exact(fun _=>z3g _)))|(apply callW.za;(first|exact(hFk)|exact(z3g _)))|(apply zG<;>intro ht));all_goals try simp (disch:=first|omega|(simp only [lens,z8,zh,zg,zj,zi,zm,zn,zo,lQt,lQd,List.length_replicate];first|done|omega)) only [go_sem,q4,q5,zl]))
  exact DownV.pure (τ:=[]) (news:=_) hw z29
 |some j=>
  have q5:J 5=.bool true:=q5
  obtain⟨h1,h2,h3⟩:=hF
  have ea:P.getD j hdr0=P[j]:=by rw [List.getD_eq_getElem?_getD,List.getElem?_eq_getElem (by omega)];rfl
  have eb:P.getD (j+1) hdr0=P[j+1]:=by rw [List.getD_eq_getElem?_getD,List.getElem?_eq_getElem h1];rfl
  have hV:z8u P (some j)=.tup [.agg (hdrC P[j]),.agg (hdrC P[j+1]),.bool true]:=by
   show AV.tup [.agg (hdrC (P.getD j hdr0)),.agg (hdrC (P.getD (j+1) hdr0)),.bool true]=_
   rw [ea,eb]
  rw [hV]at hFk
  rw [List.getElem?_eq_getElem (by omega),List.getElem?_eq_getElem h1]at h2
  have hn:P[j].n=P[j+1].n:=Option.some.inj h2
  have hr:P[j].r ≠ P[j+1].r:=fun e=>by
   have:=hA.ok.sort j (j+1) (by omega) h1 (by omega)
   have:=po_zero.2 ⟨hn,e⟩
   omega
  have hHa:=fun y=>(hP.ext (O':=O++y) ⟨y,rfl⟩).has hA.ok.sort (by omega) P[j].n P[j].r
  rw [(zar hA.ok.sort _ _).2 ⟨P[j],List.getElem_mem _,rfl,rfl⟩]at hHa
  have hHb:=fun y=>(hP.ext (O':=O++y) ⟨y,rfl⟩).has hA.ok.sort (by omega) P[j+1].n P[j+1].r
  rw [(zar hA.ok.sort _ _).2 ⟨P[j+1],List.getElem_mem _,rfl,rfl⟩]at hHb
  generalize P[j]=a at*
  generalize P[j+1]=b at*
  have la:=zj a
  have lb:=zj b
  have ta:=z7o a
  have tb:=z7o b
  have ra:=zho a
  have rb':=zho b
  have na:(hdrC a)[0]? =some (.int .i64 a.n):=rfl
  have nb:(hdrC b)[0]? =some (.int .i64 b.n):=rfl
  have za:List.drop 36 (hdrC a)=[]:=List.drop_of_length_le (by omega)
  have zb:List.drop 36 (hdrC b)=[]:=List.drop_of_length_le (by omega)
  have hla:=z8 a.r
  have hlb:=z8 b.r
  have he:=hc_eq a.r b.r
  rw [decide_eq_false hr]at he
  have hn':(a.n==b.n)=true:=beq_iff_eq.2 hn
  unfold z9c
  repeat' (first|apply zs_|apply zb_|apply zc_|apply zt_ rfl|apply zf_ rfl|(apply zd_ rfl<;>intro ht<;>try omega)|((first|apply zr_|apply zk_|apply ze_|apply zq_|(apply callW.mk_pu;(first|exact(fun _=>hFk)|exact(fun _=>hHa _)|exact(fun _=>hHb _)|exact(fun _=>z3g _)))|(apply callW.za;(first|exact(hFk)|exact(hHa _)|exact(hHb _)|exact(z3g _)))|(apply zG<;>intro ht));all_goals try simp (disch:=first|omega|(simp only [lens,z8,zh,zg,zj,zi,zm,zn,zo,lQt,lQd,List.length_replicate];first|done|omega)) only [go_sem,q4,q5,la,lb,ta,tb,ra,rb',na,nb,za,zb,List.append_nil,hla,hlb,he,hn']))
  exact DownV.pure (τ:=[]) (news:=_) hw z29
attribute [local irreducible] z9c zea
theorem zsp(hw:Wf ([]:Store).length [])(L:List Sn)(hL:∀s ∈ L,SnOk s)(hLl:L.length<=16)(x:AV)(hxs:SlV 4 (sns L) x)(O:Store)(own:List Nat)(J:Env)(hP:PoIs O 2 (z14 (keyL logS)) [] own)(h0o:0 ∉ own)(ht:O[0]? =some (some [z1g true logS (keyL logS)]))(q0:J 0=x)(q3:J 3=.ptr 0 0 0)(q4:J 4=.ptr 2 0 0)(q5:J 5=.bool false):
  zW TC 131 0 zbc (endQ 0 [.t 2] (.bool true) []) J O:=by
 have r1:=hxs.len
 rw [zo]at r1
 unfold z1w at r1
 have hsd:logS.length<1000000:=by decide
 unfold zbc
 repeat' (first|apply zs_|apply zb_|apply zc_|apply zt_ rfl|apply zf_ rfl|(apply zd_ rfl<;>intro ht<;>try omega)|((first|apply zr_|apply zk_|apply ze_|apply zq_|(apply zG<;>intro ht));all_goals try simp (disch:=first|omega|(simp only [lens,z8,zh,zg,zj,zi,zm,zn,zo,lQt,lQd,List.length_replicate];first|done|omega)) only [go_sem,q0,q3,q4,q5]))
 refine zW.loop (fun t J O'=>∃(i:Nat) (P:List Hdr) (own:List Nat),t+i=L.length/\ PoIs O' 2 (z14 (keyL logS)) P own/\ 0 ∉ own/\ O'[0]? =some (some [z1g true logS (keyL logS)])/\ PA (L.take i) P/\ J 0=x/\ J 3=.ptr 0 0 0/\ J 4=.ptr 2 0 0/\ J 5=.bool (wB L i)/\ J 6=.int .i64 i) L.length ?_ ?_
 ·exact⟨0,[],own,by omega,hP,h0o,ht,PA.nil,by simp (disch:=first|omega|(simp only [lens,z8,zh,zg,zj,zi,zm,zn,zo,lQt,lQd,List.length_replicate];first|done|omega)) only [go_sem,q0],by simp (disch:=first|omega|(simp only [lens,z8,zh,zg,zj,zi,zm,zn,zo,lQt,lQd,List.length_replicate];first|done|omega)) only [go_sem,q3],by simp (disch:=first|omega|(simp only [lens,z8,zh,zg,zj,zi,zm,zn,zo,lQt,lQd,List.length_replicate];first|done|omega)) only [go_sem,q4],by simp (disch:=first|omega|(simp only [lens,z8,zh,zg,zj,zi,zm,zn,zo,lQt,lQd,List.length_replicate];first|done|omega)) only [go_sem,q5];try rfl,by simp (disch:=first|omega|(simp only [lens,z8,zh,zg,zj,zi,zm,zn,zo,lQt,lQd,List.length_replicate];first|done|omega)) only [go_sem];try rfl⟩
 ·rintro t J O' ⟨i,P,own,ht16,hP,h0o,ht,hA,q0,q3,q4,q5,q6⟩
  by_cases hi:i<L.length
  ·obtain⟨ex,rfl⟩:=hxs.vsl (by rw [zo];omega)
   have gi:=z9k hi
   have sl:=zo L
   have hsi:=hL L[i] (List.getElem_mem hi)
   have hOf:=zeq O' 0 logS L[i].1 L[i].2.1 L[i].2.2.1 L[i].2.2.2 ht hsd hsi.1 hsi.2.1 hsi.2.2.1 hsi.2.2.2
   rw [show z2h logS L[i].1 L[i].2.1 L[i].2.2.1 L[i].2.2.2=snH logS L[i]from rfl]at hOf
   have hsp:(snH logS L[i]).p.length=3:=zep _ _ _ _ _
   obtain⟨hA2,_⟩:=hA.step L[i] hsi (by rw [List.length_take];omega)
   rw [<-List.take_succ_eq_append_getElem hi]at hA2
   have hAd:=z6y O' 2 _ P own (snH logS L[i]) _ hP hA.ok.sort hA.ok.len (z2r _ _) (by omega) (fun e=>zd2 e)
   rw [show sgC (snH logS L[i]).n (snH logS L[i]).r (snH logS L[i]).i (snH logS L[i]).s (z17 32 (hr (snH logS L[i]).p))=hdrC (snH logS L[i])from rfl]at hAd
   have hAe:=PoAddP.is (q:=snH logS L[i]) hP
   have hpair:=fun k (hk:k<L.length) O J w q0 q5 q6 q7 Q hQ=>zsn L ex i k hi hk O J w q0 q5 q6 q7 Q hsi (hL L[k] (List.getElem_mem hk)) hQ
   have hwi:=zwj L i
   generalize snH logS L[i]=h at*
   generalize L[i]=s at*
   repeat' (first|apply zs_|apply zb_|apply zc_|apply zt_ rfl|apply zf_ rfl|(apply zd_ rfl<;>intro ht<;>try omega)|((first|apply zr_|apply zk_|apply ze_|apply zq_|(apply callW.mk_pu;(first|exact(fun _=>hOf)))|(apply callW.za;(first|exact(hOf)))|(apply zG<;>intro ht));all_goals try simp (disch:=first|omega|(simp only [lens,z8,zh,zg,zj,zi,zm,zn,zo,lQt,lQd,List.length_replicate];first|done|omega)) only [go_sem,q0,q3,q4,q5,q6,gi,sl,snC]))
   refine callW.mkP (caps:=[]) hAd hAe ?_
   rintro v O2 ⟨rfl,own2,fr,P2⟩
   have h02:=fr.nin (slen ht) h0o
   have tr2:=fr.get ht h0o
   simp (disch:=first|omega|(simp only [lens,z8,zh,zg,zj,zi,zm,zn,zo,lQt,lQd,List.length_replicate];first|done|omega)) only [go_sem,q0,q3,q4,q5,q6]
   repeat' (first|apply zs_|apply zb_|apply zc_|apply zt_ rfl|apply zf_ rfl|(apply zd_ rfl<;>intro ht<;>try omega)|((first|apply zr_|apply zk_|apply ze_|apply zq_|(apply zG<;>intro ht));all_goals try simp (disch:=first|omega|(simp only [lens,z8,zh,zg,zj,zi,zm,zn,zo,lQt,lQd,List.length_replicate];first|done|omega)) only [go_sem,q0,q3,q4,q5,q6]))
   refine zW.loop (fun t2 J O'=>∃k:Nat,t2+k=i/\ O'=O2/\ J 0=.vsl 4 (sns L) ex/\ J 3=.ptr 0 0 0/\ J 4=.ptr 2 0 0/\ J 5=.bool (wB L i ||wK L i k)/\ J 6=.int .i64 i/\ J 7=.int .i64 k) i ?_ ?_
   ·exact⟨0,by omega,rfl,by simp (disch:=first|omega|(simp only [lens,z8,zh,zg,zj,zi,zm,zn,zo,lQt,lQd,List.length_replicate];first|done|omega)) only [go_sem,q0],by simp (disch:=first|omega|(simp only [lens,z8,zh,zg,zj,zi,zm,zn,zo,lQt,lQd,List.length_replicate];first|done|omega)) only [go_sem,q3],by simp (disch:=first|omega|(simp only [lens,z8,zh,zg,zj,zi,zm,zn,zo,lQt,lQd,List.length_replicate];first|done|omega)) only [go_sem,q4],by rw [show wK L i 0=false from rfl,Bool.or_false];simp (disch:=first|omega|(simp only [lens,z8,zh,zg,zj,zi,zm,zn,zo,lQt,lQd,List.length_replicate];first|done|omega)) only [go_sem,q5],by simp (disch:=first|omega|(simp only [lens,z8,zh,zg,zj,zi,zm,zn,zo,lQt,lQd,List.length_replicate];first|done|omega)) only [go_sem,q6],by simp (disch:=first|omega|(simp only [lens,z8,zh,zg,zj,zi,zm,zn,zo,lQt,lQd,List.length_replicate];first|done|omega)) only [go_sem];try rfl⟩
   ·rintro t2 J O' ⟨k,htk,rfl,q0,q3,q4,q5,q6,q7⟩
    by_cases hk:k<i
    ·have hkL:k<L.length:=by omega
     have hs:=zwk L i k
     generalize hw0:(wB L i ||wK L i k)=w0 at*
     repeat' (first|apply zs_|apply zb_|apply zc_|apply zt_ rfl|apply zf_ rfl|(apply zd_ rfl<;>intro ht<;>try omega)|((first|apply zr_|apply zk_|apply ze_|apply zq_|(apply zG<;>intro ht));all_goals try simp (disch:=first|omega|(simp only [lens,z8,zh,zg,zj,zi,zm,zn,zo,lQt,lQd,List.length_replicate];first|done|omega)) only [go_sem,q0,q3,q4,q5,q6,q7]))
     unfold zea
     refine zs_ (zb_ ?_)
     refine hpair k hkL _ _ w0 ?_ ?_ ?_ ?_ _ ?_
     ·simp (disch:=first|omega|(simp only [lens,z8,zh,zg,zj,zi,zm,zn,zo,lQt,lQd,List.length_replicate];first|done|omega)) only [go_sem,q0]
     ·simp (disch:=first|omega|(simp only [lens,z8,zh,zg,zj,zi,zm,zn,zo,lQt,lQd,List.length_replicate];first|done|omega)) only [go_sem,q5]
     ·simp (disch:=first|omega|(simp only [lens,z8,zh,zg,zj,zi,zm,zn,zo,lQt,lQd,List.length_replicate];first|done|omega)) only [go_sem,q6]
     ·simp (disch:=first|omega|(simp only [lens,z8,zh,zg,zj,zi,zm,zn,zo,lQt,lQd,List.length_replicate];first|done|omega)) only [go_sem,q7]
     intro J2 k0 k3 k4 k5 k6 k7
     rw [<-hw0,Bool.or_assoc,<-hs]at k5
     have k3:J2 3=.ptr 0 0 0:=k3.trans (by simp (disch:=first|omega|(simp only [lens,z8,zh,zg,zj,zi,zm,zn,zo,lQt,lQd,List.length_replicate];first|done|omega)) only [go_sem,q3])
     have k4:J2 4=.ptr 2 0 0:=k4.trans (by simp (disch:=first|omega|(simp only [lens,z8,zh,zg,zj,zi,zm,zn,zo,lQt,lQd,List.length_replicate];first|done|omega)) only [go_sem,q4])
     show zW TC 131 0 _ _ _ _
     repeat' (first|apply zs_|apply zb_|apply zc_|apply zt_ rfl|apply zf_ rfl|(apply zd_ rfl<;>intro ht<;>try omega)|((first|apply zr_|apply zk_|apply ze_|apply zq_|(apply zG<;>intro ht));all_goals try simp (disch:=first|omega|(simp only [lens,z8,zh,zg,zj,zi,zm,zn,zo,lQt,lQd,List.length_replicate];first|done|omega)) only [go_sem,k0,k3,k4,k5,k6,k7]))
     exact⟨t2-1,by omega,k+1,by omega,by simp⟩
    ·obtain rfl:k=i:=by omega
     rw [<-hwi]at q5
     repeat' (first|apply zs_|apply zb_|apply zc_|apply zt_ rfl|apply zf_ rfl|(apply zd_ rfl<;>intro ht<;>try omega)|((first|apply zr_|apply zk_|apply ze_|apply zq_|(apply zG<;>intro ht));all_goals try simp (disch:=first|omega|(simp only [lens,z8,zh,zg,zj,zi,zm,zn,zo,lQt,lQd,List.length_replicate];first|done|omega)) only [go_sem,q0,q3,q4,q5,q6,q7]))
     exact⟨t-1,by omega,k+1,_,own2,by omega,P2,h02,tr2,hA2,by simp⟩
  ·obtain rfl:i=L.length:=by omega
   rw [List.take_of_length_le (Nat.le_refl _)]at hA
   repeat' (first|apply zs_|apply zb_|apply zc_|apply zt_ rfl|apply zf_ rfl|(apply zd_ rfl<;>intro ht<;>try omega)|((first|apply zr_|apply zk_|apply ze_|apply zq_|(apply zG<;>intro ht));all_goals try simp (disch:=first|omega|(simp only [lens,z8,zh,zg,zj,zi,zm,zn,zo,lQt,lQd,List.length_replicate];first|done|omega)) only [go_sem,q0,q3,q4,q5,q6,r1]))
   exact zso hw L P own O' _ hP hA (by simp (disch:=first|omega|(simp only [lens,z8,zh,zg,zj,zi,zm,zn,zo,lQt,lQd,List.length_replicate];first|done|omega)) only [go_sem,q4]) (by simp (disch:=first|omega|(simp only [lens,z8,zh,zg,zj,zi,zm,zn,zo,lQt,lQd,List.length_replicate];first|done|omega)) only [go_sem,q5])
attribute [local irreducible] zbc
theorem zm0(L:List Sn)(hL:∀s ∈ L,SnOk s)(hLl:L.length<=maxLen)(x:AV)(hxs:SlV 4 (sns L) x):ACallsTo TC 4 [x] [] (.bool true) []:=by
 have hm:maxLen<9223372036854775808:=by decide
 have r1:=hxs.len
 rw [zo]at r1
 unfold z1w at r1
 have hNew:=fun O=>zdn O [108,111,103] (by simp)
 rw [show ([108,111,103]:List UInt8)=logS from rfl]at hNew
 refine ACallsTo.of_body q1fok (by simp) fun hw _=> ?_
 by_cases c1:16<L.length
 ·have c1':(L.length:Int)>16:=by omega
  repeat' (first|apply zs_|apply zb_|apply zc_|apply zt_ rfl|apply zf_ rfl|(apply zd_ rfl<;>intro ht<;>try omega)|((first|apply zr_|apply zk_|apply ze_|apply zq_|(apply callW.mk_pu;(first|exact(fun _=>z3g _)))|(apply callW.za;(first|exact(z3g _)))|(apply zG<;>intro ht));all_goals try simp (disch:=first|omega|(simp only [lens,z8,zh,zg,zj,zi,zm,zn,zo,lQt,lQd,List.length_replicate];first|done|omega)) only [go_sem,r1,c1']))
  exact DownV.pure (τ:=[]) hw z29
 have c1':¬(L.length:Int)>16:=by omega
 have hlog:([108,111,103]:List UInt8)=logS:=rfl
 repeat' (first|apply zs_|apply zb_|apply zc_|apply zt_ rfl|apply zf_ rfl|(apply zd_ rfl<;>intro ht<;>try omega)|((first|apply zr_|apply zk_|apply ze_|apply zq_|(apply callW.mk_pu;(first|exact(fun _=>hNew _)))|(apply callW.za;(first|exact(hNew _)))|(apply zG<;>intro ht));all_goals try simp (disch:=first|omega|(simp only [lens,z8,zh,zg,zj,zi,zm,zn,zo,lQt,lQd,List.length_replicate];first|done|omega)) only [go_sem,r1,c1',hlog]))
 try simp only [List.nil_append,List.length_nil]
 have hRt:=zc4 [some [z1g true logS (keyL logS)]] 0 logS (keyL logS) rfl (z2o logS)
 have hE:=z98 [some [z1g true logS (keyL logS)]] (z14 (keyL logS))
 repeat' (first|apply zs_|apply zb_|apply zc_|apply zt_ rfl|apply zf_ rfl|(apply zd_ rfl<;>intro ht<;>try omega)|((first|apply zr_|apply zk_|apply ze_|apply zq_|(apply callW.mk_pu;(first|exact(fun _=>hRt)))|(apply callW.za;(first|exact(hRt)))|(apply zG<;>intro ht));all_goals try simp (disch:=first|omega|(simp only [lens,z8,zh,zg,zj,zi,zm,zn,zo,lQt,lQd,List.length_replicate];first|done|omega)) only [go_sem]))
 refine callW.mkP (caps:=[]) hE ⟨_,_,rfl,rfl⟩ ?_
 rintro v O2 ⟨rfl,rfl⟩
 simp (disch:=first|omega|(simp only [lens,z8,zh,zg,zj,zi,zm,zn,zo,lQt,lQd,List.length_replicate];first|done|omega)) only [go_sem]
 repeat' (first|apply zs_|apply zb_|apply zc_|apply zt_ rfl|apply zf_ rfl|(apply zd_ rfl<;>intro ht<;>try omega)|((first|apply zr_|apply zk_|apply ze_|apply zq_|(apply zG<;>intro ht));all_goals try simp (disch:=first|omega|(simp only [lens,z8,zh,zg,zj,zi,zm,zn,zo,lQt,lQd,List.length_replicate];first|done|omega)) only [go_sem]))
 refine zsp hw L hL (by omega) x hxs _ [2] _ ⟨.nilsl,none,rfl,rfl,.inl ⟨rfl,rfl,rfl⟩,by simp⟩ (by simp) rfl ?_ ?_ ?_ ?_
 all_goals first|rfl|(simp (disch:=first|omega|(simp only [lens,z8,zh,zg,zj,zi,zm,zn,zo,lQt,lQd,List.length_replicate];first|done|omega)) only [go_sem];done)|(simp (disch:=first|omega|(simp only [lens,z8,zh,zg,zj,zi,zm,zn,zo,lQt,lQd,List.length_replicate];first|done|omega)) only [go_sem];rfl)
theorem PoolForks_law(avs:List AV)(h:z6m [.sl 4 z82] avs):ACallsTo TC 4 avs [] (.bool true) []:=by
 simp only [z6m]at h
 obtain⟨x,_,rfl,h0,rfl⟩:=h
 obtain⟨L,hxs,hLl,hL⟩:=zky (by simpa only [Sh]using h0)
 exact zm0 L hL hLl x hxs
end
section
def rotS(L:List Sn)(by_ i:Nat):List Sn:=(List.range i).map fun j=>L.getD ((j+by_)%L.length) sn0
theorem ztn(L:List Sn)(b i:Nat):rotS L b (i+1)=rotS L b i++ [L.getD ((i+b)%L.length) sn0]:=by
 unfold rotS;rw [List.range_succ,List.map_append];rfl
theorem ztm(L:List Sn)(b i:Nat):(rotS L b i).length=i:=by simp [rotS]
theorem zk5(L:List Sn)(b:Nat)(s:Sn):s ∈ rotS L b L.length ↔ s ∈ L:=by
 unfold rotS
 rw [List.mem_map]
 constructor
 ·rintro⟨j,hj,rfl⟩
  have hn:0<L.length:=by have:=List.mem_range.1 hj;omega
  have:=Nat.mod_lt (j+b) hn
  rw [z6u this]
  exact List.getElem_mem _
 ·intro hs
  obtain⟨i,hi,rfl⟩:=List.getElem_of_mem hs
  have hn:0<L.length:=by omega
  have hbm:=Nat.mod_lt b hn
  have hb:=Nat.div_add_mod b L.length
  by_cases h:b%L.length<=i
  ·refine⟨i-b%L.length,List.mem_range.2 (by omega),?_⟩
   have e:(i-b%L.length+b)%L.length=i:=by
    rw [show i-b%L.length+b=i+L.length*(b/L.length)by omega,Nat.add_mul_mod_self_left,Nat.mod_eq_of_lt hi]
   rw [e,z6u hi]
  ·refine⟨i+L.length-b%L.length,List.mem_range.2 (by omega),?_⟩
   have e:(i+L.length-b%L.length+b)%L.length=i:=by
    rw [show i+L.length-b%L.length+b=i+L.length*(b/L.length+1)by rw [Nat.mul_add,Nat.mul_one];omega,Nat.add_mul_mod_self_left,Nat.mod_eq_of_lt hi]
   rw [e,z6u hi]
theorem zs8{L:List Sn}{b:Nat}{P Q:List Hdr}(hP:PA L P)(hQ:PA (rotS L b L.length) Q):hns P=hns Q:=
 zhr hP.ok.sort hQ.ok.sort fun n r=>by
  rw [hP.mem,hQ.mem]
  constructor
  ·rintro⟨s,h1,h2⟩;exact⟨s,(zk5 L b s).2 h1,h2⟩
  ·rintro⟨s,h1,h2⟩;exact⟨s,(zk5 L b s).1 h1,h2⟩
theorem zpg{L:List Sn}{P:List Hdr}(hP:PA L P):z2m L=0 ↔ P.length=0:=by
 constructor
 ·intro h;have:=hP.len;omega
 ·intro h
  have hn:P=[]:=List.eq_nil_of_length_eq_zero h
  by_cases h0:z2m L=0
  ·exact h0
  ·exfalso
   unfold z2m at h0
   obtain⟨s,hs⟩:=List.exists_mem_of_length_pos (Nat.pos_of_ne_zero h0)
   rw [List.mem_filter]at hs
   have hg:s.2.2.2%8 ≠ 0:=of_decide_eq_true hs.2
   obtain⟨w,hw,_⟩:=(hP.mem _ _).2 ⟨s,hs.1,hg,rfl,rfl⟩
   rw [hn]at hw
   simp at hw
attribute [local irreducible] ACallsTo ACallsP
theorem zs6(hw:Wf ([]:Store).length [])(L:List Sn)(b:Nat)(P Q:List Hdr)(oa ob:List Nat)(O:Store)(J:Env)(hP:PoIs O 2 (z14 (keyL logS)) P oa)(hQ:PoIs O 4 (z14 (keyL logS)) Q ob)(hA:PA L P)(hB:PA (rotS L b L.length) Q)(q6:J 6=.ptr 2 0 0)(q7:J 7=.ptr 4 0 0)(q8:J 8=.int .i64 (z2m L)):
  zW TC 137 0 zbe (endQ 0 [.t 4] (.bool true) []) J O:=by
 have hl:=hA.ok.len
 have hl2:=hB.ok.len
 have hK:=zb5 O 2 _ P oa hP (by omega)
 have hS:=zsw O 2 4 _ _ P Q oa ob hP hQ (by omega) (by omega)
 rw [decide_eq_true (zs8 hA hB)]at hS
 have hgl:=hA.len
 have hgz:=zpg hA
 have hv:=z2r 33 (kn P)
 generalize z17 33 (kn P)=v at*
 have r1:=hv.len
 rw [zn]at r1
 unfold z1w at r1
 unfold zbe
 repeat' (first|apply zs_|apply zb_|apply zc_|apply zt_ rfl|apply zf_ rfl|(apply zd_ rfl<;>intro ht<;>try omega)|((first|apply zr_|apply zk_|apply ze_|apply zq_|(apply callW.mk_pu;(first|exact(fun _=>hK)))|(apply callW.za;(first|exact(hK)))|(apply zG<;>intro ht));all_goals try simp (disch:=first|omega|(simp only [lens,z8,zh,zg,zj,zi,zm,zn,zo,lQt,lQd,List.length_replicate];first|done|omega)) only [go_sem,q6,q7,q8]))
 refine zW.loop (fun t J O'=>∃i:Nat,t+i=P.length+1/\ 0<i/\ (i<=P.length \/P=[])/\ O'=O/\ J 6=.ptr 2 0 0/\ J 7=.ptr 4 0 0/\ J 8=.int .i64 (z2m L)/\ J 11=v/\ J 12=.int .i64 i) P.length ?_ ?_
 ·exact⟨1,by omega,by omega,by rcases P with _| ⟨a,P⟩;exact .inr rfl;exact .inl (by simp),rfl,by simp (disch:=first|omega|(simp only [lens,z8,zh,zg,zj,zi,zm,zn,zo,lQt,lQd,List.length_replicate];first|done|omega)) only [go_sem,q6],by simp (disch:=first|omega|(simp only [lens,z8,zh,zg,zj,zi,zm,zn,zo,lQt,lQd,List.length_replicate];first|done|omega)) only [go_sem,q7],by simp (disch:=first|omega|(simp only [lens,z8,zh,zg,zj,zi,zm,zn,zo,lQt,lQd,List.length_replicate];first|done|omega)) only [go_sem,q8],by simp (disch:=first|omega|(simp only [lens,z8,zh,zg,zj,zi,zm,zn,zo,lQt,lQd,List.length_replicate];first|done|omega)) only [go_sem],by simp (disch:=first|omega|(simp only [lens,z8,zh,zg,zj,zi,zm,zn,zo,lQt,lQd,List.length_replicate];first|done|omega)) only [go_sem];try rfl⟩
 ·rintro t J O' ⟨i,ht,hi0,hi1,rfl,q6,q7,q8,q11,q12⟩
  by_cases hi:i<P.length
  ·obtain⟨ex,rfl⟩:=hv.vsl (by rw [zn];omega)
   have ga:=zat (P:=P) (i:=i-1) (by omega)
   have gb:=zat hi
   have sl:=zn P
   have hk:(i:Int)-1=((i-1:Nat):Int):=by omega
   have hso:=hA.ok.sort (i-1) i (by omega) hi (by omega)
   have hle:=hA.ok.sort.le (i:=i-1) (j:=i) hi (by omega)
   have he:=z9j P[i-1].n P[i].n P[i-1].r P[i].r
   rw [decide_eq_false fun e=>by have:=po_zero.2 e;omega]at he
   generalize P[i-1]=a at*
   generalize P[i]=c at*
   have la:=z8 a.r
   have lc:=z8 c.r
   have hng:¬a.n>c.n:=by omega
   repeat' (first|apply zs_|apply zb_|apply zc_|apply zt_ rfl|apply zf_ rfl|(apply zd_ rfl<;>intro ht<;>try omega)|((first|apply zr_|apply zk_|apply ze_|apply zq_|(apply zG<;>intro ht));all_goals try simp (disch:=first|omega|(simp only [lens,z8,zh,zg,zj,zi,zm,zn,zo,lQt,lQd,List.length_replicate];first|done|omega)) only [go_sem,q6,q7,q8,q11,q12,ga,gb,sl,hk,la,lc,hng,he]))
   exact⟨t-1,by omega,i+1,by omega,by omega,.inl (by omega),by simp⟩
  ·have hi':¬(i:Int)<P.length:=by omega
   have hle:(P.length:Int)<=z2m L:=by omega
   by_cases h0:P.length=0
   ·have hg0:=hgz.2 h0
    rw [hg0]at q8 hle
    rw [h0]at r1
    have hi':¬(i:Int)<0:=by omega
    repeat' (first|apply zs_|apply zb_|apply zc_|apply zt_ rfl|apply zf_ rfl|(apply zd_ rfl<;>intro ht<;>try omega)|((first|apply zr_|apply zk_|apply ze_|apply zq_|(apply callW.mk_pu;(first|exact(fun _=>hS)|exact(fun _=>z3g _)))|(apply callW.za;(first|exact(hS)|exact(z3g _)))|(apply zG<;>intro ht));all_goals try simp (disch:=first|omega|(simp only [lens,z8,zh,zg,zj,zi,zm,zn,zo,lQt,lQd,List.length_replicate];first|done|omega)) only [go_sem,q6,q7,q8,q11,q12,r1,hi']))
    exact DownV.pure (τ:=[]) (news:=_) hw z29
   ·have hg0:¬z2m L=0:=fun e=>h0 (hgz.1 e)
    have hg1:¬((z2m L:Nat):Int)=0:=by omega
    have hg2:¬((P.length:Nat):Int)=0:=by omega
    repeat' (first|apply zs_|apply zb_|apply zc_|apply zt_ rfl|apply zf_ rfl|(apply zd_ rfl<;>intro ht<;>try omega)|((first|apply zr_|apply zk_|apply ze_|apply zq_|(apply callW.mk_pu;(first|exact(fun _=>hS)|exact(fun _=>z3g _)))|(apply callW.za;(first|exact(hS)|exact(z3g _)))|(apply zG<;>intro ht));all_goals try simp (disch:=first|omega|(simp only [lens,z8,zh,zg,zj,zi,zm,zn,zo,lQt,lQd,List.length_replicate];first|done|omega)) only [go_sem,q6,q7,q8,q11,q12,r1,hi',hle,hg0,h0]))
    exact DownV.pure (τ:=[]) (news:=_) hw z29
end
section
structure OrS(O:Store)(P Q:List Hdr)(oa ob:List Nat):Prop where
 a:PoIs O 2 (z14 (keyL logS)) P oa
 b:PoIs O 4 (z14 (keyL logS)) Q ob
 d:∀j,j ∈ oa->j ∉ ob
 n:0 ∉ oa/\ 0 ∉ ob
 t:O[0]? =some (some [z1g true logS (keyL logS)])
theorem OrS.ext{O O':Store}{P Q:List Hdr}{oa ob:List Nat}(h:OrS O P Q oa ob)(he:Ext O O'):OrS O' P Q oa ob:=by
 have t:=h.t
 refine⟨h.a.ext he,h.b.ext he,h.d,h.n,?_⟩
 obtain⟨y,rfl⟩:=he;rw [gapp (slen t)];exact t
theorem OrS.adda{O O':Store}{P P' Q:List Hdr}{oa ob oa':List Nat}(h:OrS O P Q oa ob)(f:Fr O O' oa oa')(hP:PoIs O' 2 (z14 (keyL logS)) P' oa'):OrS O' P' Q oa' ob:=
 ⟨hP,h.b.fr f h.d,f.dj (fun j hj=>h.b.lt hj) h.d,⟨f.nin (slen h.t) h.n.1,h.n.2⟩,f.get h.t h.n.1⟩
theorem OrS.addb{O O':Store}{P Q Q':List Hdr}{oa ob ob':List Nat}(h:OrS O P Q oa ob)(f:Fr O O' ob ob')(hQ:PoIs O' 4 (z14 (keyL logS)) Q' ob'):OrS O' P Q' oa ob':=
 ⟨h.a.fr f fun j hj hn=>h.d j hn hj,hQ,fun j hj hn=>f.dj (fun j hj=>h.a.lt hj) (fun j hj hn=>h.d j hn hj) j hn hj,⟨h.n.1,f.nin (slen h.t) h.n.2⟩,f.get h.t h.n.2⟩
attribute [local irreducible] ACallsTo ACallsP
theorem zs5(L:List Sn)(hL:∀s ∈ L,SnOk s)(hLl:L.length<=16)(ex:Bool)(bb:Nat)(hbb:bb<256)(O:Store)(P R:List Hdr)(oa ob:List Nat)(i:Nat)(hi:i<L.length)(J:Env)
  (hS:OrS O P R oa ob) (hA:PA (L.take i) P) (hB:PA (rotS L bb i) R)
  (q0:J 0=.vsl 4 (sns L) ex) (q1:J 1=.int .u8 bb) (q5:J 5=.ptr 0 0 0) (q6:J 6=.ptr 2 0 0) (q7:J 7=.ptr 4 0 0) (q8:J 8=.int .i64 (z2m (L.take i))) (q9:J 9=.int .i64 i) (Q:AExit->Env->Store->Prop)
  (hQ:∀(J':Env) (O':Store) (P' R':List Hdr) (oa' ob':List Nat),OrS O' P' R' oa' ob'->PA (L.take (i+1)) P'->PA (rotS L bb (i+1)) R'->J' 0=.vsl 4 (sns L) ex->J' 1=.int .u8 bb->J' 5=.ptr 0 0 0->J' 6=.ptr 2 0 0->J' 7=.ptr 4 0 0->J' 8=.int .i64 (z2m (L.take (i+1)))->J' 9=.int .i64 i->Q .normal J' O'):
  zW TC 137 0 zbd Q J O:=by
 have hsd:logS.length<1000000:=by decide
 have gi:=z9k hi
 have sl:=zo L
 have hsi:=hL L[i] (List.getElem_mem hi)
 have hml:(i+bb)%L.length<L.length:=Nat.mod_lt _ (by omega)
 have gm:=z9k hml
 have hsm:=hL L[(i+bb)%L.length] (List.getElem_mem hml)
 obtain⟨hA2,hc⟩:=hA.step L[i] hsi (by rw [List.length_take];omega)
 rw [<-List.take_succ_eq_append_getElem hi]at hA2
 obtain⟨hB2,_⟩:=hB.step L[(i+bb)%L.length] hsm (by rw [ztm];omega)
 rw [<-z6u hml,<-ztn,z6u hml]at hB2
 have hg:=zdg (L.take i) L[i]
 rw [<-List.take_succ_eq_append_getElem hi]at hg
 have hOf:=zeq O 0 logS L[i].1 L[i].2.1 L[i].2.2.1 L[i].2.2.2 hS.t hsd hsi.1 hsi.2.1 hsi.2.2.1 hsi.2.2.2
 rw [show z2h logS L[i].1 L[i].2.1 L[i].2.2.1 L[i].2.2.2=snH logS L[i]from rfl]at hOf
 have hOm:=fun(O:Store) h=>zeq O 0 logS L[(i+bb)%L.length].1 L[(i+bb)%L.length].2.1 L[(i+bb)%L.length].2.2.1 L[(i+bb)%L.length].2.2.2 h hsd hsm.1 hsm.2.1 hsm.2.2.1 hsm.2.2.2
 rw [show z2h logS L[(i+bb)%L.length].1 L[(i+bb)%L.length].2.1 L[(i+bb)%L.length].2.2.1 L[(i+bb)%L.length].2.2.2=snH logS L[(i+bb)%L.length]from rfl]at hOm
 have hsp:(snH logS L[i]).p.length=3:=zep _ _ _ _ _
 have hmp:(snH logS L[(i+bb)%L.length]).p.length=3:=zep _ _ _ _ _
 obtain⟨hn1,hn2⟩:=snH_n logS L[i]
 have hmem:L[i].2.2.2%8 ≠ 0->isP (addL (z14 (keyL logS)) P (snH logS L[i])) (snH logS L[i]).n (snH logS L[i]).r=true:=fun hb=>
  (zar hA2.ok.sort _ _).2 ((hA2.mem _ _).2 ⟨L[i],(List.take_succ_eq_append_getElem hi).symm ▸ List.mem_append.2 (.inr (List.mem_singleton.2 rfl)),hb,hn1.symm,hn2.symm⟩)
 have hgb:z2m (L.take i)<=16:=by have:=zhl (L.take i);rw [List.length_take]at this;omega
 have e8:((L[i].2.2.2:Nat):Int)%8=((L[i].2.2.2%8:Nat):Int):=by omega
 have em:((i:Int)+(bb:Int))%(L.length:Int)=(((i+bb)%L.length:Nat):Int):=by rw [Int.natCast_emod,Int.natCast_add]
 generalize snH logS L[i]=h at*
 generalize snH logS L[(i+bb)%L.length]=h2 at*
 generalize L[i]=s at*
 generalize L[(i+bb)%L.length]=s2 at*
 generalize (i+bb)%L.length=m at*
 have lh:=zj h
 have th:(hdrC h).take 36=hdrC h:=z8y h
 have uh:=z7o h
 obtain⟨a1,a2,a3,a4⟩:=s
 obtain⟨b1,b2,b3,b4⟩:=s2
 dsimp only at hc hg hmem e8
 unfold zbd
 repeat' (first|apply zs_|apply zb_|apply zc_|apply zt_ rfl|apply zf_ rfl|(apply zd_ rfl<;>intro ht<;>try omega)|((first|apply zr_|apply zk_|apply ze_|apply zq_|(apply callW.mk_pu;(first|exact(fun _=>hOf)))|(apply callW.za;(first|exact(hOf)))|(apply zG<;>intro ht));all_goals try simp (disch:=first|omega|(simp only [lens,z8,zh,zg,zj,zi,zm,zn,zo,lQt,lQd,List.length_replicate];first|done|omega)) only [go_sem,q0,q1,q5,q6,q7,q8,q9,gi,sl,lh,snC]))
 have S1:=hS.ext (O':=O++ [some [hdrC h]]) ⟨_,rfl⟩
 have g9:(O++ [some [hdrC h]])[O.length]? =some (some [hdrC h]):=by rw [z1p (Nat.le_refl _),Nat.sub_self];rfl
 have n9:O.length ∉ oa:=fun e=>by have:=hS.a.lt e;omega
 have hAd:=z6y (O++ [some [hdrC h]]) 2 _ P oa h _ S1.a hA.ok.sort hA.ok.len (z2r _ _) (by omega) (fun e=>zd2 e)
 rw [show sgC h.n h.r h.i h.s (z17 32 (hr h.p))=hdrC h from rfl]at hAd
 have hAe:=PoAddP.is (q:=h) S1.a
 generalize O++ [some [hdrC h]]=O1 at*
 generalize O.length=n1 at*
 refine callW.mkP_ef (caps:=[]) hAd hAe ?_
 rintro v O2 ⟨rfl,oa2,f1,P1⟩
 have S2:=S1.adda f1 P1
 have g9b:=f1.get g9 n9
 generalize addL (z14 (keyL logS)) P h=P2 at*
 generalize addC (z14 (keyL logS)) P h=A at*
 refine⟨by simp (disch:=first|omega|(simp only [lens,z8,zh,zg,zj,zi,zm,zn,zo,lQt,lQd,List.length_replicate];first|done|omega)) only [go_sem,g9b,lh,th],?_⟩
 have hHas:=S2.a.has hA2.ok.sort (by have:=hA2.ok.len;omega) h.n h.r
 have hOm2:=hOm O2 S2.t
 have hBd:=z6y O2 4 _ R ob h2 _ S2.b hB.ok.sort hB.ok.len (z2r _ _) (by omega) (fun e=>zd2 e)
 rw [show sgC h2.n h2.r h2.i h2.s (z17 32 (hr h2.p))=hdrC h2 from rfl]at hBd
 have hBe:=PoAddP.is (q:=h2) S2.b
 by_cases hb:a4%8=0
 ·have hA0:A=0:=hc.2 hb
  subst hA0
  rw [if_neg (by omega),Nat.add_zero]at hg
  generalize isP P2 h.n h.r=w at*
  cases w
  all_goals
   simp (disch:=first|omega|(simp only [lens,z8,zh,zg,zj,zi,zm,zn,zo,lQt,lQd,List.length_replicate];first|done|omega)) only [go_sem,q0,q1,q5,q6,q7,q8,q9,gi,gm,sl,snC,e8,em,hb,g9,g9b,lh,th,uh]
   repeat' (first|apply zs_|apply zb_|apply zc_|apply zt_ rfl|apply zf_ rfl|(apply zd_ rfl<;>intro ht<;>try omega)|((first|apply zr_|apply zk_|apply ze_|apply zq_|(apply callW.mk_pu;(first|exact(fun _=>hHas)|exact(fun _=>hOm2)))|(apply callW.za;(first|exact(hHas)|exact(hOm2)))|(apply zG<;>intro ht));all_goals try simp (disch:=first|omega|(simp only [lens,z8,zh,zg,zj,zi,zm,zn,zo,lQt,lQd,List.length_replicate];first|done|omega)) only [go_sem,q0,q1,q5,q6,q7,q8,q9,gi,gm,sl,snC,e8,em,hb,g9,g9b,lh,th,uh]))
   refine callW.mkP (caps:=[]) hBd hBe ?_
   rintro v O3 ⟨rfl,ob2,f2,R1⟩
   have S3:=S2.addb f2 R1
   simp (disch:=first|omega|(simp only [lens,z8,zh,zg,zj,zi,zm,zn,zo,lQt,lQd,List.length_replicate];first|done|omega)) only [go_sem,q0,q1,q5,q6,q7,q8,q9]
   repeat' (first|apply zs_|apply zb_|apply zc_|apply zt_ rfl|apply zf_ rfl|(apply zd_ rfl<;>intro ht<;>try omega)|((first|apply zr_|apply zk_|apply ze_|apply zq_|(apply zG<;>intro ht));all_goals try simp (disch:=first|omega|(simp only [lens,z8,zh,zg,zj,zi,zm,zn,zo,lQt,lQd,List.length_replicate];first|done|omega)) only [go_sem,q0,q1,q5,q6,q7,q8,q9]))
   refine hQ _ O3 P2 _ oa2 ob2 S3 hA2 hB2 ?_ ?_ ?_ ?_ ?_ ?_ ?_
   ·simp (disch:=first|omega|(simp only [lens,z8,zh,zg,zj,zi,zm,zn,zo,lQt,lQd,List.length_replicate];first|done|omega)) only [go_sem,q0]
   ·simp (disch:=first|omega|(simp only [lens,z8,zh,zg,zj,zi,zm,zn,zo,lQt,lQd,List.length_replicate];first|done|omega)) only [go_sem,q1]
   ·simp (disch:=first|omega|(simp only [lens,z8,zh,zg,zj,zi,zm,zn,zo,lQt,lQd,List.length_replicate];first|done|omega)) only [go_sem,q5]
   ·simp (disch:=first|omega|(simp only [lens,z8,zh,zg,zj,zi,zm,zn,zo,lQt,lQd,List.length_replicate];first|done|omega)) only [go_sem,q6]
   ·simp (disch:=first|omega|(simp only [lens,z8,zh,zg,zj,zi,zm,zn,zo,lQt,lQd,List.length_replicate];first|done|omega)) only [go_sem,q7]
   ·rw [hg];simp (disch:=first|omega|(simp only [lens,z8,zh,zg,zj,zi,zm,zn,zo,lQt,lQd,List.length_replicate];first|done|omega)) only [go_sem,q8]
   ·simp (disch:=first|omega|(simp only [lens,z8,zh,zg,zj,zi,zm,zn,zo,lQt,lQd,List.length_replicate];first|done|omega)) only [go_sem,q9]
 ·have hA0:¬A=0:=fun e=>hb (hc.1 e)
  have hA1:(A==0)=false:=beq_eq_false_iff_ne.2 hA0
  rw [if_pos hb]at hg
  rw [hmem hb]at hHas
  simp (disch:=first|omega|(simp only [lens,z8,zh,zg,zj,zi,zm,zn,zo,lQt,lQd,List.length_replicate];first|done|omega)) only [go_sem,q0,q1,q5,q6,q7,q8,q9,gi,gm,sl,snC,e8,em,hb,g9,g9b,lh,th,uh,hA1,hA0]
  repeat' (first|apply zs_|apply zb_|apply zc_|apply zt_ rfl|apply zf_ rfl|(apply zd_ rfl<;>intro ht<;>try omega)|((first|apply zr_|apply zk_|apply ze_|apply zq_|(apply callW.mk_pu;(first|exact(fun _=>hHas)|exact(fun _=>hOm2)))|(apply callW.za;(first|exact(hHas)|exact(hOm2)))|(apply zG<;>intro ht));all_goals try simp (disch:=first|omega|(simp only [lens,z8,zh,zg,zj,zi,zm,zn,zo,lQt,lQd,List.length_replicate];first|done|omega)) only [go_sem,q0,q1,q5,q6,q7,q8,q9,gi,gm,sl,snC,e8,em,hb,g9,g9b,lh,th,uh,hA1,hA0]))
  refine callW.mkP (caps:=[]) hBd hBe ?_
  rintro v O3 ⟨rfl,ob2,f2,R1⟩
  have S3:=S2.addb f2 R1
  simp (disch:=first|omega|(simp only [lens,z8,zh,zg,zj,zi,zm,zn,zo,lQt,lQd,List.length_replicate];first|done|omega)) only [go_sem,q0,q1,q5,q6,q7,q8,q9]
  repeat' (first|apply zs_|apply zb_|apply zc_|apply zt_ rfl|apply zf_ rfl|(apply zd_ rfl<;>intro ht<;>try omega)|((first|apply zr_|apply zk_|apply ze_|apply zq_|(apply zG<;>intro ht));all_goals try simp (disch:=first|omega|(simp only [lens,z8,zh,zg,zj,zi,zm,zn,zo,lQt,lQd,List.length_replicate];first|done|omega)) only [go_sem,q0,q1,q5,q6,q7,q8,q9]))
  refine hQ _ O3 P2 _ oa2 ob2 S3 hA2 hB2 ?_ ?_ ?_ ?_ ?_ ?_ ?_
  ·simp (disch:=first|omega|(simp only [lens,z8,zh,zg,zj,zi,zm,zn,zo,lQt,lQd,List.length_replicate];first|done|omega)) only [go_sem,q0]
  ·simp (disch:=first|omega|(simp only [lens,z8,zh,zg,zj,zi,zm,zn,zo,lQt,lQd,List.length_replicate];first|done|omega)) only [go_sem,q1]
  ·simp (disch:=first|omega|(simp only [lens,z8,zh,zg,zj,zi,zm,zn,zo,lQt,lQd,List.length_replicate];first|done|omega)) only [go_sem,q5]
  ·simp (disch:=first|omega|(simp only [lens,z8,zh,zg,zj,zi,zm,zn,zo,lQt,lQd,List.length_replicate];first|done|omega)) only [go_sem,q6]
  ·simp (disch:=first|omega|(simp only [lens,z8,zh,zg,zj,zi,zm,zn,zo,lQt,lQd,List.length_replicate];first|done|omega)) only [go_sem,q7]
  ·rw [hg];simp (disch:=first|omega|(simp only [lens,z8,zh,zg,zj,zi,zm,zn,zo,lQt,lQd,List.length_replicate];first|done|omega)) only [go_sem,q8];try rfl
  ·simp (disch:=first|omega|(simp only [lens,z8,zh,zg,zj,zi,zm,zn,zo,lQt,lQd,List.length_replicate];first|done|omega)) only [go_sem,q9]
attribute [local irreducible] zbe zbd
theorem zs7(hw:Wf ([]:Store).length [])(L:List Sn)(hL:∀s ∈ L,SnOk s)(hLl:L.length<=16)(x:AV)(hxs:SlV 4 (sns L) x)(bb:Nat)(hbb:bb<256)(O:Store)(oa ob:List Nat)(J:Env)(hS:OrS O [] [] oa ob)(q0:J 0=x)(q1:J 1=.int .u8 bb)(q5:J 5=.ptr 0 0 0)(q6:J 6=.ptr 2 0 0)(q7:J 7=.ptr 4 0 0):
  zW TC 137 0 zbf (endQ 0 [.t 4] (.bool true) []) J O:=by
 have r1:=hxs.len
 rw [zo]at r1
 unfold z1w at r1
 unfold zbf
 repeat' (first|apply zs_|apply zb_|apply zc_|apply zt_ rfl|apply zf_ rfl|(apply zd_ rfl<;>intro ht<;>try omega)|((first|apply zr_|apply zk_|apply ze_|apply zq_|(apply zG<;>intro ht));all_goals try simp (disch:=first|omega|(simp only [lens,z8,zh,zg,zj,zi,zm,zn,zo,lQt,lQd,List.length_replicate];first|done|omega)) only [go_sem,q0,q1,q5,q6,q7]))
 refine zW.loop (fun t J O'=>∃(i:Nat) (P R:List Hdr) (oa ob:List Nat),t+i=L.length/\ OrS O' P R oa ob/\ PA (L.take i) P/\ PA (rotS L bb i) R/\ J 0=x/\ J 1=.int .u8 bb/\ J 5=.ptr 0 0 0/\ J 6=.ptr 2 0 0/\ J 7=.ptr 4 0 0/\ J 8=.int .i64 (z2m (L.take i))/\ J 9=.int .i64 i) L.length ?_ ?_
 ·exact⟨0,[],[],oa,ob,by omega,hS,PA.nil,PA.nil,by simp (disch:=first|omega|(simp only [lens,z8,zh,zg,zj,zi,zm,zn,zo,lQt,lQd,List.length_replicate];first|done|omega)) only [go_sem,q0],by simp (disch:=first|omega|(simp only [lens,z8,zh,zg,zj,zi,zm,zn,zo,lQt,lQd,List.length_replicate];first|done|omega)) only [go_sem,q1],by simp (disch:=first|omega|(simp only [lens,z8,zh,zg,zj,zi,zm,zn,zo,lQt,lQd,List.length_replicate];first|done|omega)) only [go_sem,q5],by simp (disch:=first|omega|(simp only [lens,z8,zh,zg,zj,zi,zm,zn,zo,lQt,lQd,List.length_replicate];first|done|omega)) only [go_sem,q6],by simp (disch:=first|omega|(simp only [lens,z8,zh,zg,zj,zi,zm,zn,zo,lQt,lQd,List.length_replicate];first|done|omega)) only [go_sem,q7],by simp (disch:=first|omega|(simp only [lens,z8,zh,zg,zj,zi,zm,zn,zo,lQt,lQd,List.length_replicate];first|done|omega)) only [go_sem];try rfl,by simp (disch:=first|omega|(simp only [lens,z8,zh,zg,zj,zi,zm,zn,zo,lQt,lQd,List.length_replicate];first|done|omega)) only [go_sem];try rfl⟩
 ·rintro t J O' ⟨i,P,R,oa,ob,ht,hS,hA,hB,q0,q1,q5,q6,q7,q8,q9⟩
  by_cases hi:i<L.length
  ·obtain⟨ex,rfl⟩:=hxs.vsl (by rw [zo];omega)
   have hb:=fun J' Q q0 q1 q5 q6 q7 q8 q9 hQ=>zs5 L hL hLl ex bb hbb O' P R oa ob i hi J' hS hA hB q0 q1 q5 q6 q7 q8 q9 Q hQ
   repeat' (first|apply zs_|apply zb_|apply zc_|apply zt_ rfl|apply zf_ rfl|(apply zd_ rfl<;>intro ht<;>try omega)|((first|apply zr_|apply zk_|apply ze_|apply zq_|(apply zG<;>intro ht));all_goals try simp (disch:=first|omega|(simp only [lens,z8,zh,zg,zj,zi,zm,zn,zo,lQt,lQd,List.length_replicate];first|done|omega)) only [go_sem,q0,q1,q5,q6,q7,q8,q9,r1]))
   refine hb _ _ ?_ ?_ ?_ ?_ ?_ ?_ ?_ ?_
   ·simp (disch:=first|omega|(simp only [lens,z8,zh,zg,zj,zi,zm,zn,zo,lQt,lQd,List.length_replicate];first|done|omega)) only [go_sem,q0]
   ·simp (disch:=first|omega|(simp only [lens,z8,zh,zg,zj,zi,zm,zn,zo,lQt,lQd,List.length_replicate];first|done|omega)) only [go_sem,q1]
   ·simp (disch:=first|omega|(simp only [lens,z8,zh,zg,zj,zi,zm,zn,zo,lQt,lQd,List.length_replicate];first|done|omega)) only [go_sem,q5]
   ·simp (disch:=first|omega|(simp only [lens,z8,zh,zg,zj,zi,zm,zn,zo,lQt,lQd,List.length_replicate];first|done|omega)) only [go_sem,q6]
   ·simp (disch:=first|omega|(simp only [lens,z8,zh,zg,zj,zi,zm,zn,zo,lQt,lQd,List.length_replicate];first|done|omega)) only [go_sem,q7]
   ·simp (disch:=first|omega|(simp only [lens,z8,zh,zg,zj,zi,zm,zn,zo,lQt,lQd,List.length_replicate];first|done|omega)) only [go_sem,q8]
   ·simp (disch:=first|omega|(simp only [lens,z8,zh,zg,zj,zi,zm,zn,zo,lQt,lQd,List.length_replicate];first|done|omega)) only [go_sem,q9]
   intro J2 O2 P2 R2 oa2 ob2 S2 A2 B2 q0 q1 q5 q6 q7 q8 q9
   show zW TC 137 0 _ _ _ _
   repeat' (first|apply zs_|apply zb_|apply zc_|apply zt_ rfl|apply zf_ rfl|(apply zd_ rfl<;>intro ht<;>try omega)|((first|apply zr_|apply zk_|apply ze_|apply zq_|(apply zG<;>intro ht));all_goals try simp (disch:=first|omega|(simp only [lens,z8,zh,zg,zj,zi,zm,zn,zo,lQt,lQd,List.length_replicate];first|done|omega)) only [go_sem,q0,q1,q5,q6,q7,q8,q9]))
   exact⟨t-1,by omega,i+1,P2,R2,oa2,ob2,by omega,S2,A2,B2,by simp⟩
  ·obtain rfl:i=L.length:=by omega
   rw [List.take_of_length_le (Nat.le_refl _)]at hA q8
   repeat' (first|apply zs_|apply zb_|apply zc_|apply zt_ rfl|apply zf_ rfl|(apply zd_ rfl<;>intro ht<;>try omega)|((first|apply zr_|apply zk_|apply ze_|apply zq_|(apply zG<;>intro ht));all_goals try simp (disch:=first|omega|(simp only [lens,z8,zh,zg,zj,zi,zm,zn,zo,lQt,lQd,List.length_replicate];first|done|omega)) only [go_sem,q0,q1,q5,q6,q7,q8,q9,r1]))
   refine zs6 hw L bb P R oa ob O' _ hS.a hS.b hA hB ?_ ?_ ?_
   ·simp (disch:=first|omega|(simp only [lens,z8,zh,zg,zj,zi,zm,zn,zo,lQt,lQd,List.length_replicate];first|done|omega)) only [go_sem,q6]
   ·simp (disch:=first|omega|(simp only [lens,z8,zh,zg,zj,zi,zm,zn,zo,lQt,lQd,List.length_replicate];first|done|omega)) only [go_sem,q7]
   ·simp (disch:=first|omega|(simp only [lens,z8,zh,zg,zj,zi,zm,zn,zo,lQt,lQd,List.length_replicate];first|done|omega)) only [go_sem,q8]
attribute [local irreducible] zbf
theorem zm1(L:List Sn)(hL:∀s ∈ L,SnOk s)(hLl:L.length<=maxLen)(x:AV)(hxs:SlV 4 (sns L) x)(bb:Nat)(hbb:bb<256):ACallsTo TC 5 [x,.int .u8 bb] [] (.bool true) []:=by
 have hm:maxLen<9223372036854775808:=by decide
 have r1:=hxs.len
 rw [zo]at r1
 unfold z1w at r1
 have hNew:=fun O=>zdn O [108,111,103] (by simp)
 rw [show ([108,111,103]:List UInt8)=logS from rfl]at hNew
 refine ACallsTo.of_body q1gok (by simp) fun hw _=> ?_
 by_cases c1:16<L.length
 ·have c1':(L.length:Int)>16:=by omega
  repeat' (first|apply zs_|apply zb_|apply zc_|apply zt_ rfl|apply zf_ rfl|(apply zd_ rfl<;>intro ht<;>try omega)|((first|apply zr_|apply zk_|apply ze_|apply zq_|(apply callW.mk_pu;(first|exact(fun _=>z3g _)))|(apply callW.za;(first|exact(z3g _)))|(apply zG<;>intro ht));all_goals try simp (disch:=first|omega|(simp only [lens,z8,zh,zg,zj,zi,zm,zn,zo,lQt,lQd,List.length_replicate];first|done|omega)) only [go_sem,r1,c1']))
  exact DownV.pure (τ:=[]) hw z29
 have c1':¬(L.length:Int)>16:=by omega
 have hlog:([108,111,103]:List UInt8)=logS:=rfl
 repeat' (first|apply zs_|apply zb_|apply zc_|apply zt_ rfl|apply zf_ rfl|(apply zd_ rfl<;>intro ht<;>try omega)|((first|apply zr_|apply zk_|apply ze_|apply zq_|(apply callW.mk_pu;(first|exact(fun _=>hNew _)))|(apply callW.za;(first|exact(hNew _)))|(apply zG<;>intro ht));all_goals try simp (disch:=first|omega|(simp only [lens,z8,zh,zg,zj,zi,zm,zn,zo,lQt,lQd,List.length_replicate];first|done|omega)) only [go_sem,r1,c1',hlog]))
 try simp only [List.nil_append,List.length_nil]
 have hRt:=zc4 [some [z1g true logS (keyL logS)]] 0 logS (keyL logS) rfl (z2o logS)
 have hE:=z98 [some [z1g true logS (keyL logS)]] (z14 (keyL logS))
 have hRt1:=zc4 [some [z1g true logS (keyL logS)],some [hc (z14 (keyL logS))],some [poC (z14 (keyL logS)) .nilsl]] 0 logS (keyL logS) rfl (z2o logS)
 have hE1:=z98 [some [z1g true logS (keyL logS)],some [hc (z14 (keyL logS))],some [poC (z14 (keyL logS)) .nilsl]] (z14 (keyL logS))
 repeat' (first|apply zs_|apply zb_|apply zc_|apply zt_ rfl|apply zf_ rfl|(apply zd_ rfl<;>intro ht<;>try omega)|((first|apply zr_|apply zk_|apply ze_|apply zq_|(apply callW.mk_pu;(first|exact(fun _=>hRt)))|(apply callW.za;(first|exact(hRt)))|(apply zG<;>intro ht));all_goals try simp (disch:=first|omega|(simp only [lens,z8,zh,zg,zj,zi,zm,zn,zo,lQt,lQd,List.length_replicate];first|done|omega)) only [go_sem]))
 refine callW.mkP (caps:=[]) hE ⟨_,_,rfl,rfl⟩ ?_
 rintro v O2 ⟨rfl,rfl⟩
 simp (disch:=first|omega|(simp only [lens,z8,zh,zg,zj,zi,zm,zn,zo,lQt,lQd,List.length_replicate];first|done|omega)) only [go_sem]
 repeat' (first|apply zs_|apply zb_|apply zc_|apply zt_ rfl|apply zf_ rfl|(apply zd_ rfl<;>intro ht<;>try omega)|((first|apply zr_|apply zk_|apply ze_|apply zq_|(apply callW.mk_pu;(first|exact(fun _=>hRt1)))|(apply callW.za;(first|exact(hRt1)))|(apply zG<;>intro ht));all_goals try simp (disch:=first|omega|(simp only [lens,z8,zh,zg,zj,zi,zm,zn,zo,lQt,lQd,List.length_replicate];first|done|omega)) only [go_sem]))
 refine callW.mkP (caps:=[]) hE1 ⟨_,_,rfl,rfl⟩ ?_
 rintro v O2 ⟨rfl,rfl⟩
 simp (disch:=first|omega|(simp only [lens,z8,zh,zg,zj,zi,zm,zn,zo,lQt,lQd,List.length_replicate];first|done|omega)) only [go_sem]
 repeat' (first|apply zs_|apply zb_|apply zc_|apply zt_ rfl|apply zf_ rfl|(apply zd_ rfl<;>intro ht<;>try omega)|((first|apply zr_|apply zk_|apply ze_|apply zq_|(apply zG<;>intro ht));all_goals try simp (disch:=first|omega|(simp only [lens,z8,zh,zg,zj,zi,zm,zn,zo,lQt,lQd,List.length_replicate];first|done|omega)) only [go_sem]))
 refine zs7 hw L hL (by omega) x hxs bb hbb _ [2] [4] _ ⟨⟨.nilsl,none,rfl,rfl,.inl ⟨rfl,rfl,rfl⟩,by simp⟩,⟨.nilsl,none,rfl,rfl,.inl ⟨rfl,rfl,rfl⟩,by simp⟩,by simp,by simp,rfl⟩ ?_ ?_ ?_ ?_ ?_
 all_goals first|rfl|(simp (disch:=first|omega|(simp only [lens,z8,zh,zg,zj,zi,zm,zn,zo,lQt,lQd,List.length_replicate];first|done|omega)) only [go_sem];done)|(simp (disch:=first|omega|(simp only [lens,z8,zh,zg,zj,zi,zm,zn,zo,lQt,lQd,List.length_replicate];first|done|omega)) only [go_sem];rfl)
theorem PoolOrder_law(avs:List AV)(h:z6m [.sl 4 z82,.int .u8] avs):ACallsTo TC 5 avs [] (.bool true) []:=by
 simp only [z6m]at h
 obtain⟨x,_,rfl,h0,_,_,rfl,h2,rfl⟩:=h
 obtain⟨L,hxs,hLl,hL⟩:=zky (by simpa only [Sh]using h0)
 simp only [Sh,ShC]at h2
 obtain⟨c,e,c0,c1⟩:=h2
 cases e
 simp only [IntKind.min,IntKind.max,IntKind.signed,IntKind.bits]at c0 c1
 simp at c0 c1
 obtain⟨c,rfl⟩:∃k:Nat,c=k:=⟨c.toNat,by omega⟩
 exact zm1 L hL hLl x hxs c (by omega)
end
end Am
end Go.Proofs.YtcdcmgjnbjoajaaDoor
section
/- What a law with the laid tables of sha begins with. -/
namespace Go.Proofs.YtcdcmgjnbjoajaaDoor.LawDoor
open Go.ChangeShapes Go.WideShapes Go.ChangeAt Go.RowKit
theorem own:ownKnob Tryd.prog.godebug=none:=by kernel_rfl
theorem zig:laidOutB Tryd.prog=true:=by kernel_rfl
def z67:List (String × DataW Unit):=[("speculum/sha.first",Rows.laid_speculum_sha_first),("speculum/sha.rounds",Rows.laid_speculum_sha_rounds)]
set_option maxRecDepth 100000
theorem zh0(os:Os)(args:Array Value):laidMetH Tryd.prog z67 ((World.doorLaid Tryd.prog 400 os).forCall (fun _ _=>0) ⟨#[],args,[]⟩).memory:=
 laidMetH_of_parts3 (fuel:=8) (laidMet_of_run' 8 (by kernel_rfl) (by kernel_rfl)) (by kernel_rfl) (by kernel_rfl)
theorem zju{W:World}(h:laidMetH Tryd.prog z67 W):Am.Rel Am.TC [] [] W:=by
 rw [MakeChecks.laidMetH_plain _ _ _ (by kernel_rfl)]at h
 obtain⟨ps,⟨g0,t0,cs0,f0,p0,q0,hg0,ht0,hv0,hd0,⟨g1,t1,cs1,f1,p1,q1,hg1,ht1,hv1,hd1,_,_⟩,_⟩,_,_⟩:=h
 have v0:=Am.vp_of_var (P:=Tryd.prog) (n:= "speculum/sha.first") (g:=0) (t:=107) (e:=106) (m:=8) (k:=.u32) Am.shaFirst (by kernel_rfl) (by kernel_rfl) (by kernel_rfl) (by kernel_rfl) (by kernel_rfl) (by kernel_rfl) hg0 ht0 hv0 hd0
 have v1:=Am.vp_of_var (P:=Tryd.prog) (n:= "speculum/sha.rounds") (g:=1) (t:=118) (e:=106) (m:=64) (k:=.u32) Am.shaRounds (by kernel_rfl) (by kernel_rfl) (by kernel_rfl) (by kernel_rfl) (by kernel_rfl) (by kernel_rfl) hg1 ht1 hv1 hd1
 refine⟨rfl,fun r o h=>by simp at h,fun r h=>by simp at h,fun r r' pl pl' h=>by simp at h,fun g cs h=> ?_⟩
 simp only [Am.TC]at h
 split at h
 ·rename_i hg;subst hg;cases h;exact v0
 ·split at h
  ·rename_i hg;subst hg;cases h;exact v1
  ·cases h
end Go.Proofs.YtcdcmgjnbjoajaaDoor.LawDoor
end
