import Derived.Test.YtkiimfgjimoffaaGreatDoorK4de81d855
import Derived.Test.YtkiimfgjimoffaaGreatDoorK2df7945c6
import Derived.Test.YtkiimfgjimoffaaGreatDoorK38ca39db4
import Derived.Test.YtkiimfgjimoffaaGreatDoorRows
import Derived.Test.YtkiimfgjimoffaaGreatDoorCards
import Derived.Test.YtkiimfgjimoffaaGreatDoorTie
import Derived.ProofKit
import Derived.LaidMore
import Derived.OpenShut
import Derived.Stop.Joined
import Derived.SevenTiedAt
import Derived.MakeChecks
set_option linter.unusedSimpArgs false
set_option linter.unusedVariables false
open Nat (reduceEqDiff reduceAdd reduceMul reduceSub reduceLeDiff)
open Int (reduceToNat reducePow)
open Nat renaming reduceEqDiff -> nQ1, reduceBEq -> nQ2, reduceAdd -> nQ3, reduceMul -> nQ4, reduceSub -> nQ5, reduceLeDiff -> nQ6
open Int renaming reduceToNat -> nQ7, reducePow -> nQ8
open List renaming length_reverse -> lQr, length_map -> lQm, length_take -> lQt, length_drop -> lQd, length_set -> lQs
set_option maxHeartbeats 16000000
attribute [local go_sem_proc] Nat.reduceEqDiff Nat.reduceBEq Nat.reduceAdd Nat.reduceMul Nat.reduceSub Nat.reduceLeDiff Int.reduceToNat Int.reducePow
namespace Go.Proofs.YtkiimfgjimoffaaGreatDoor
namespace Am
section
attribute [local irreducible] ACallsTo ACallsP
theorem zqe(O:Store)(r t:Nat)(lv rg:AV)(n:Int)(hg:O[r]? =some (some [pbC (.ptr t 0 0) .nilsl lv n rg .nilsl])):
  ACallsTo TC 12 [.ptr r 0 0] O (.tup [.agg sgZ,.int .i64 83]) O:=by
 have d:=slen hg
 have hg':∀y,(O++y)[r]? =some (some [pbC (.ptr t 0 0) .nilsl lv n rg .nilsl]):=fun y=>by rw [gapp d];exact hg
 have hN:=fun y=>z63 (O++y) r t .nilsl lv rg .nilsl n (hg' y)
 have hH:=fun y=>z8z (O++y) r t [] .nilsl .nilsl lv rg n (hg' y) (.inl ⟨rfl,rfl⟩) (by simp) (by simp)
 rw [show z18 36 (hdrs [])=.nilsl from rfl]at hH
 unfold pbC at hg
 refine ACallsTo.of_body zax (by simp) fun hw _=> ?_
 repeat' (first|apply zs_|apply zb_|apply zc_|apply zt_ rfl|apply zf_ rfl|(apply zd_ rfl<;>intro ht<;>try omega)|((first|apply zr_|apply zk_|apply ze_|apply zq_|(apply callW.mk_pu;(first|exact(fun _=>hN _)|exact(fun _=>hH _)))|(apply callW.za;(first|exact(hN _)|exact(hH _)))|(apply zG<;>intro ht));all_goals try simp (disch:=first|omega|(simp only [lens,z7,z6,lQr,lQm,lQt,lQd,zg];first|done|omega)) only [go_sem,hg]))
 exact Ext.pure hw (Ext.refl O).app (z13 _ rfl)
theorem zqf(O:Store)(r t q:Nat)(lg lv rg:AV)(n:Int)(H:List Hdr)(k:Nat)(hg:O[r]? =some (some [pbC (.ptr t 0 0) lg lv n rg (.sl q 0 H.length none 36)]))(hq:O[q]? =some (some (hdrs H)))(h0:H ≠ [])(h8:H.length<8)(hp:∀h ∈ H,h.p.length<1000000)
  (hlg:z1c lg=some (.int .i64 k)) (hk:∀h,H[H.length-1]? =some h->h.n=k):
  ACallsTo TC 12 [.ptr r 0 0] O (.tup [.agg sgZ,.int .i64 83]) O:=by
 have d:=slen hg
 have dq:=slen hq
 have hg':∀y,(O++y)[r]? =some (some [pbC (.ptr t 0 0) lg lv n rg (.sl q 0 H.length none 36)]):=fun y=>by rw [gapp d];exact hg
 have hN:=fun y=>z63 (O++y) r t lg lv rg _ n (hg' y)
 have hH:=fun y=>z8z (O++y) r t H _ lg lv rg n (hg' y) (.inr ⟨q,h0,rfl,by rw [gapp dq];exact hq⟩) (by omega) hp
 have hl0:H.length ≠ 0:=fun e=>h0 (List.eq_nil_of_length_eq_zero e)
 have hne:hdrs H ≠ []:=fun e=>by have:=congrArg List.length e;rw [z1f]at this;simp at this;exact h0 this
 have hdl:=z1f H
 have hgi:=zct (H:=H) (i:=H.length-1) (by omega)
 have hk':=hk _ (List.getElem?_eq_getElem (by omega))
 generalize H[H.length-1]=h at*
 have hc0:(hdrC h)[0]? =some (.int .i64 k):=by rw [<-hk'];rfl
 have hcl:=z10 h
 rw [show z18 36 (hdrs H)=.vsl 36 (hdrs H) false by unfold z18;rw [if_neg hne]]at hH
 have e1:((H.length:Int)-1).toNat=H.length-1:=by omega
 have e8:¬(H.length:Int)>=8:=by omega
 have e0:(H.length:Int)>0:=by omega
 unfold z1c at hlg
 unfold pbC at hg
 refine ACallsTo.of_body zax (by simp) fun hw _=> ?_
 repeat' (first|apply zs_|apply zb_|apply zc_|apply zt_ rfl|apply zf_ rfl|(apply zd_ rfl<;>intro ht<;>try omega)|((first|apply zr_|apply zk_|apply ze_|apply zq_|(apply callW.mk_pu;(first|exact(fun _=>hN _)|exact(fun _=>hH _)))|(apply callW.za;(first|exact(hN _)|exact(hH _)))|(apply zG<;>intro ht));all_goals try simp (disch:=first|omega|(simp only [lens,z7,z6,lQr,lQm,lQt,lQd,zg];first|done|omega)) only [go_sem,hg,hq,hdl,hgi,hc0,hcl,e1,e8,e0,hlg]))
 exact Ext.pure hw (Ext.refl O).app (z13 _ rfl)
theorem zqd(O:Store)(r t q:Nat)(lg lv rg:AV)(n:Int)(H:List Hdr)(hg:O[r]? =some (some [pbC (.ptr t 0 0) lg lv n rg (.sl q 0 H.length none 36)]))(hq:O[q]? =some (some (hdrs H)))(h8:H.length=8)(hp:∀h ∈ H,h.p.length<1000000):
  ACallsTo TC 12 [.ptr r 0 0] O (.tup [.agg sgZ,.int .i64 85]) O:=by
 have d:=slen hg
 have dq:=slen hq
 have h0:H ≠ []:=fun e=>by rw [e]at h8;simp at h8
 have hg':∀y,(O++y)[r]? =some (some [pbC (.ptr t 0 0) lg lv n rg (.sl q 0 H.length none 36)]):=fun y=>by rw [gapp d];exact hg
 have hN:=fun y=>z63 (O++y) r t lg lv rg _ n (hg' y)
 have hH:=fun y=>z8z (O++y) r t H _ lg lv rg n (hg' y) (.inr ⟨q,h0,rfl,by rw [gapp dq];exact hq⟩) (by omega) hp
 have hne:hdrs H ≠ []:=fun e=>by have:=congrArg List.length e;rw [z1f]at this;simp at this;exact h0 this
 have hdl:=z1f H
 rw [show z18 36 (hdrs H)=.vsl 36 (hdrs H) false by unfold z18;rw [if_neg hne]]at hH
 have e8:(H.length:Int)>=8:=by omega
 refine ACallsTo.of_body zax (by simp) fun hw _=> ?_
 repeat' (first|apply zs_|apply zb_|apply zc_|apply zt_ rfl|apply zf_ rfl|(apply zd_ rfl<;>intro ht<;>try omega)|((first|apply zr_|apply zk_|apply ze_|apply zq_|(apply callW.mk_pu;(first|exact(fun _=>hN _)|exact(fun _=>hH _)))|(apply callW.za;(first|exact(hN _)|exact(hH _)))|(apply zG<;>intro ht));all_goals try simp (disch:=first|omega|(simp only [lens,z7,z6,lQr,lQm,lQt,lQd,zg];first|done|omega)) only [go_sem,hdl,e8]))
 exact Ext.pure hw (Ext.refl O).app (z13 _ rfl)
theorem zq7(O:Store)(r t:Nat)(lg lv rg hs:AV)(n:Int)(s:List UInt8)(hg:O[r]? =some (some [pbC (.ptr t 0 0) lg lv n rg hs]))(hl:200<s.length):
  ACallsTo TC 11 [.ptr r 0 0,.str s] O (.int .i64 3) O:=by
 have hN:=z63 O r t lg lv rg hs n hg
 have hl':(s.length:Int)>200:=by omega
 refine ACallsTo.of_body q1vok (by simp) fun hw _=> ?_
 repeat' (first|apply zs_|apply zb_|apply zc_|apply zt_ rfl|apply zf_ rfl|(apply zd_ rfl<;>intro ht<;>try omega)|((first|apply zr_|apply zk_|apply ze_|apply zq_|(apply callW.mk_pu;(first|exact(fun _=>hN)))|(apply callW.za;(first|exact(hN)))|(apply zG<;>intro ht));all_goals try simp (disch:=first|omega|(simp only [lens,z7,z6,lQr,lQm,lQt,lQd,zg];first|done|omega)) only [go_sem,hl']))
 exact Ext.pure hw (.refl O) (z13 _ rfl)
end
section
theorem z3p{O:Store}{q q':Nat}{a b:List AV}{es es':List (List AV)}(h:O[q]? =some (some es))(h':O[q']? =some (some es'))(e:es[0]? =some a)(e':es'[0]? =some b)(hl:a.length ≠ b.length):q ≠ q':=by
 rintro rfl
 rw [h]at h'
 simp only [Option.some.injEq]at h'
 subst h'
 rw [e]at e'
 simp only [Option.some.injEq]at e'
 exact hl (by rw [e'])
theorem zja{L:List (List UInt8)}(h:L ≠ []):∃a:List AV,(strs L)[0]? =some a/\ a.length=1:=by
 cases L with
 |nil=>exact absurd rfl h
 |cons s L=>exact⟨[.str s],rfl,rfl⟩
theorem zgm{l:List Hash}(h:l ≠ []):∃a:List AV,(hr l)[0]? =some a/\ a.length=32:=by
 cases l with
 |nil=>exact absurd rfl h
 |cons s l=>exact⟨hc s,rfl,z7 s⟩
theorem zcs{H:List Hdr}(h:H ≠ []):∃a:List AV,(hdrs H)[0]? =some a/\ a.length=36:=by
 cases H with
 |nil=>exact absurd rfl h
 |cons s H=>exact⟨hdrC s,rfl,z10 s⟩
theorem RowAt.ne{sz n q:Nat}{O:Store}{sid:Option Nat}{v:AV}{es es':List (List AV)}{b:List AV}(h:RowAt sz O sid v es)(hw:es ≠ []->∃a:List AV,es[0]? =some a/\ a.length=n)(h':O[q]? =some (some es'))(e':es'[0]? =some b)(hb:b.length ≠ n):∀j,sid=some j->j ≠ q:=by
 intro j e
 rcases h with⟨e2,_⟩| ⟨j',e2,hn,_,hg⟩
 ·rw [e2]at e;cases e
 ·rw [e2]at e;cases e
  obtain⟨a,ha,hl⟩:=hw hn
  exact z3p hg h' ha e' (by omega)
theorem RowAt.ne2{sz n sz' n':Nat}{O:Store}{sid sid':Option Nat}{v v':AV}{es es':List (List AV)}(h:RowAt sz O sid v es)(hw:es ≠ []->∃a:List AV,es[0]? =some a/\ a.length=n)(h':RowAt sz' O sid' v' es')(hw':es' ≠ []->∃a:List AV,es'[0]? =some a/\ a.length=n')(hnn:n ≠ n'):∀j,sid=some j->sid' ≠ some j:=by
 intro j e e'
 rcases h' with⟨e2,_⟩| ⟨j',e2,hn,_,hg⟩
 ·rw [e2]at e';cases e'
 ·rw [e2]at e';cases e'
  obtain⟨a,ha,hl⟩:=hw' hn
  exact h.ne hw hg ha (by omega) j e rfl
theorem zed{L:List (List UInt8)}(h:strs L ≠ []):∃a:List AV,(strs L)[0]? =some a/\ a.length=1:=zja fun e=>h (by rw [e];rfl)
theorem hr_w{l:List Hash}(h:hr l ≠ []):∃a:List AV,(hr l)[0]? =some a/\ a.length=32:=zgm fun e=>h (by rw [e];rfl)
theorem z5y{H:List Hdr}(h:hdrs H ≠ []):∃a:List AV,(hdrs H)[0]? =some a/\ a.length=36:=zcs fun e=>h (by rw [e];rfl)
structure Fr(O O':Store)(own own':List Nat):Prop where
 st:∀j,j<O.length->j ∉ own->O'[j]? =O[j]?
 new:∀j,j ∈ own'->j ∈ own \/O.length<=j
 le:O.length<=O'.length
theorem Fr.ext{O O':Store}{own:List Nat}(h:Ext O O'):Fr O O' own own:=by
 refine⟨fun j hj _=> ?_,fun j hj=> .inl hj,h.le⟩
 obtain⟨y,rfl⟩:=h
 exact gapp hj
theorem Fr.get{O O':Store}{own own':List Nat}(h:Fr O O' own own'){j:Nat}{o:Option AObj}(hg:O[j]? =some o)(hj:j ∉ own):O'[j]? =some o:=by
 rw [h.st j (slen hg) hj];exact hg
def PubIs(O:Store)(r:Nat)(seed:List UInt8)(L:List (List UInt8))(H:List Hdr)(own:List Nat):Prop:=
 ∃t lg lv z hs sl sv sh,own=r::t::(Option.toList sl++(Option.toList sv++Option.toList sh))/\ O[r]? =some (some [pbC (.ptr t 0 0) lg lv L.length z hs]) ∧
  O[t]? =some (some [z1h true seed (keyL seed)])/\ RowAt 1 O sl lg (strs L)/\ RowAt 32 O sv lv (hr (lvs L))/\ SlV 32 (hr (ofR (lvs L)).reverse) z/\ RowAt 36 O sh hs (hdrs H)
theorem PubIs.lt{O:Store}{r:Nat}{seed:List UInt8}{L:List (List UInt8)}{H:List Hdr}{own:List Nat}(h:PubIs O r seed L H own){j:Nat}(hj:j ∈ own):j<O.length:=by
 obtain⟨t,lg,lv,z,hs,sl,sv,sh,rfl,hg,ht,h1,h2,hz,h3⟩:=h
 simp only [List.mem_cons,List.mem_append,Option.mem_toList]at hj
 rcases hj with rfl|rfl|h|h|h
 ·exact slen hg
 ·exact slen ht
 ·exact h1.lt h
 ·exact h2.lt h
 ·exact h3.lt h
theorem PubIs.keep{O O':Store}{r:Nat}{seed:List UInt8}{L:List (List UInt8)}{H:List Hdr}{own:List Nat}(h:PubIs O r seed L H own)(hk:∀j,j ∈ own->O'[j]? =O[j]?):PubIs O' r seed L H own:=by
 obtain⟨t,lg,lv,z,hs,sl,sv,sh,rfl,hg,ht,h1,h2,hz,h3⟩:=h
 refine⟨t,lg,lv,z,hs,sl,sv,sh,rfl,?_,?_,h1.keep fun q e=>hk q ?_,h2.keep fun q e=>hk q ?_,hz,h3.keep fun q e=>hk q ?_⟩
 ·rw [hk r (by simp)];exact hg
 ·rw [hk t (by simp)];exact ht
 all_goals simp [e]
theorem PubIs.ext{O O':Store}{r:Nat}{seed:List UInt8}{L:List (List UInt8)}{H:List Hdr}{own:List Nat}(h:PubIs O r seed L H own)(he:Ext O O'):PubIs O' r seed L H own:=by
 obtain⟨y,rfl⟩:=he
 exact h.keep fun j hj=>gapp (h.lt hj)
def apE(s:List UInt8):Int:=if 200<s.length then 3 else 0
def apL(L:List (List UInt8))(s:List UInt8):List (List UInt8):=if 200<s.length then L else L++ [s]
def AppendP(O:Store)(r:Nat)(seed:List UInt8)(L:List (List UInt8))(H:List Hdr)(own:List Nat)(s:List UInt8)(a:AV)(O':Store):Prop:=
 a=.int .i64 (apE s)/\ ∃own',Fr O O' own own'/\ PubIs O' r seed (apL L s) H own'
theorem zob(A B:List (List UInt8)):lvs (A++B)=lvs A++lvs B:=by simp [lvs]
theorem zec{L:List (List UInt8)}(h:L ≠ []):strs L ≠ []:=fun e=>h (by cases L with|nil=>rfl|cons a l=>simp [strs]at e)
theorem zgl{H:List Hdr}(h:H ≠ []):hdrs H ≠ []:=fun e=>h (by cases H with|nil=>rfl|cons a l=>simp [hdrs]at e)
theorem zh4{L:List (List UInt8)}(h:L ≠ []):hr (lvs L) ≠ []:=fun e=>h (by cases L with|nil=>rfl|cons a l=>simp [lvs,hr]at e)
theorem AppendP.ok{O O':Store}{r t q1 q2:Nat}{seed:List UInt8}{L:List (List UInt8)}{H:List Hdr}{s:List UInt8}{z2 hs:AV}{sl sv sh:Option Nat}(h200:¬200<s.length)
  (hg:O'[r]? =some (some [pbC (.ptr t 0 0) (.sl q1 0 (L.length+1) none 1) (.sl q2 0 (L.length+1) none 32) ((L.length+1:Nat):Int) z2 hs])) (ht:O'[t]? =some (some [z1h true seed (keyL seed)]))
  (h1:O'[q1]? =some (some (strs (L++ [s])))) (h2:O'[q2]? =some (some (hr (lvs (L++ [s]))))) (hz:SlV 32 (hr (ofR (lvs (L++ [s]))).reverse) z2) (h3:RowAt 36 O' sh hs (hdrs H))
  (hq1:O.length<=q1) (hq2:O.length<=q2) (hle:O.length<=O'.length) (hst:∀j,j<O.length->j ≠ r->sl ≠ some j->sv ≠ some j->O'[j]? =O[j]?):
  AppendP O r seed L H (r::t::(Option.toList sl++(Option.toList sv++Option.toList sh))) s (.int .i64 0) O':=by
 refine⟨by unfold apE;rw [if_neg h200],r::t::(Option.toList (some q1)++(Option.toList (some q2)++Option.toList sh)),⟨fun j hj hn=> ?_,fun j hj=> ?_,hle⟩,?_⟩
 ·simp only [List.mem_cons,List.mem_append,Option.mem_toList,not_or]at hn
  exact hst j hj hn.1 (fun e=>hn.2.2.1 e) (fun e=>hn.2.2.2.1 e)
 ·simp only [List.mem_cons,List.mem_append,Option.mem_toList,Option.some.injEq]at hj ⊢
  rcases hj with h|h|h|h|h
  ·exact .inl (.inl h)
  ·exact .inl (.inr (.inl h))
  ·exact .inr (by omega)
  ·exact .inr (by omega)
  ·exact .inl (.inr (.inr (.inr (.inr h))))
 ·unfold apL
  rw [if_neg h200]
  have hne:L++ [s] ≠ []:=by simp
  refine⟨t,_,_,z2,hs,some q1,some q2,sh,rfl,by rw [List.length_append];exact hg,ht,.inr ⟨q1,rfl,zec hne,?_,h1⟩,.inr ⟨q2,rfl,zh4 hne,?_,h2⟩,hz,h3⟩
  ·rw [zi,List.length_append];rfl
  ·rw [z6,zo,List.length_append];rfl
theorem AppendP.is{O:Store}{r:Nat}{seed:List UInt8}{L:List (List UInt8)}{H:List Hdr}{own:List Nat}{s:List UInt8}(hT:PubIs O r seed L H own):∃a O',AppendP O r seed L H own s a O':=by
 by_cases h:200<s.length
 ·exact⟨_,O,rfl,own,.ext (.refl _),by unfold apL;rw [if_pos h];exact hT⟩
 ·obtain⟨t,lg,lv,z,hs,sl,sv,sh,rfl,hg,ht,h1,h2,hz,h3⟩:=hT
  have d:=slen hg
  have d2:=slen ht
  have hrt:t ≠ r:=z3p ht hg (a:=z1h true seed (keyL seed)) (b:=pbC (.ptr t 0 0) lg lv L.length z hs) rfl rfl (by rw [z6v,z2i];simp [pbC])
  refine⟨_,(O.set r (some [pbC (.ptr t 0 0) (.sl O.length 0 (L.length+1) none 1) (.sl (O.length+1) 0 (L.length+1) none 32) ((L.length+1:Nat):Int) (z18 32 (hr (ofR (lvs (L++ [s]))).reverse)) hs]))++ [some (strs (L++ [s])),some (hr (lvs (L++ [s])))],
   .ok (O:=O) (q1:=O.length) (q2:=O.length+1) (hs:=hs) h ?_ ?_ ?_ ?_ (z69 _ _) ?_ (Nat.le_refl _) (by omega) (by simp) fun j hj hjr _ _=> ?_⟩
  ·rw [gapp (by simpa using d),z38 d]
  ·rw [gapp (by simpa using d2),z1r (fun e=>hrt e.symm)];exact ht
  ·rw [z1i (by simp)];simp
  ·rw [z1i (by simp)];simp
  ·refine h3.keep fun q e=> ?_
   have hq:=h3.lt e
   have hqr:q ≠ r:=by
    rcases h3 with⟨e2,_⟩| ⟨q',e2,hn,rfl,hgq⟩
    ·rw [e2]at e;cases e
    ·rw [e2]at e;cases e
     obtain⟨a,ha,hal⟩:=zcs (H:=H) (fun e=>hn (by rw [e];rfl))
     exact z3p hgq hg ha (b:=pbC (.ptr t 0 0) lg lv L.length z _) rfl (by rw [hal];simp [pbC])
   rw [gapp (by simpa using hq),z1r (fun e=>hqr e.symm)]
  ·rw [gapp (by simpa using hj),z1r (fun e=>hjr e.symm)]
attribute [local irreducible] ACallsTo ACallsP
theorem zq8(O:Store)(r:Nat)(seed:List UInt8)(L:List (List UInt8))(H:List Hdr)(own:List Nat)(s:List UInt8)(hT:PubIs O r seed L H own)(hL:L.length<4096)(hs:s.length<1000000):
  ACallsP TC 11 [.ptr r 0 0,.str s] O (AppendP O r seed L H own s):=by
 have hT':=hT
 obtain⟨t,lg,lv,z,hs',sl,sv,sh,rfl,hg,ht,h1,h2,hz,h3⟩:=hT'
 by_cases h200:200<s.length
 ·exact(zq7 O r t lg lv z hs' L.length s hg h200).toP ⟨by unfold apE;rw [if_pos h200],_,.ext (.refl _),by unfold apL;rw [if_pos h200];exact hT⟩
 have h200':¬(s.length:Int)>200:=by omega
 have d:=slen hg
 have d2:=slen ht
 have hgC:=hg
 have r1:=h1.rd.len
 rw [zi]at r1
 unfold z1c at r1
 have c1:=h1.cells
 have c2:=h2.cells
 have c3:=h3.cells
 unfold cellsOf at c1 c2 c3
 have hfull:¬(L.length:Int)>=4096:=by omega
 have hN:=z63 O r t lg lv z hs' L.length hg
 have hLf:=fun O=>zjc O s (by omega)
 have hA:=fun O'=>zju O' (L.length:Int) (ofR (lvs L)).reverse z (lfH s) (.of hz) (by omega) (by rw [List.length_reverse,zao _ (by rw [zo];omega)];have:=zde 13 (lvs L).length;omega)
 obtain⟨z2,e1,hz2⟩:=ext_ok (O:=O) (n:=L.length) (l:=[lfH s]) (.of hz) (by rw [List.length_reverse,zao _ (by rw [zo];omega),zo]) (by simp;omega)
 rw [e1]at hA
 have hz3:SlV 32 (hr (ofR (lvs (L++ [s]))).reverse) z2:=by
  rw [List.reverse_reverse]at hz2
  have:=z8m 0 [] (lvs L) [lfH s]
  rw [Nat.zero_add,zo]at this
  rw [zob]
  unfold ofR at hz2 ⊢
  rw [show lvs [s]=[lfH s]from rfl,this]
  exact hz2
 have zc:=z96 hz
 have zc2:=z96 hz2
 unfold cellsOf at zc zc2
 have hlr:hr (lvs L)++ [hc (lfH s)]=hr (lvs (L++ [s])):=by simp [lvs,hr]
 have hsr:strs L++ [[.str s]]=strs (L++ [s]):=by simp [strs]
 have hrt:t ≠ r:=z3p ht hg (a:=z1h true seed (keyL seed)) (b:=pbC (.ptr t 0 0) lg lv L.length z hs') rfl rfl (by rw [z6v,z2i];simp [pbC])
 have hshr:∀q,sh=some q->q ≠ r:=fun q e=>by
  rcases h3 with⟨e2,_⟩| ⟨q',e2,hn,rfl,hgq⟩
  ·rw [e2]at e;cases e
  ·rw [e2]at e;cases e
   obtain⟨a,ha,hal⟩:=zcs (H:=H) (fun e=>hn (by rw [e];rfl))
   exact z3p hgq hg ha (b:=pbC (.ptr t 0 0) lg lv L.length z _) rfl (by rw [hal];simp [pbC])
 unfold pbC at hg
 refine ACallsP.of_keepW q1vok (by simp) fun hw=> ?_
 have hk3:∀(τ:Store),(∀j,j<O.length->j ≠ r->sl ≠ some j->sv ≠ some j->τ[j]? =O[j]?)->RowAt 36 τ sh hs' (hdrs H):=fun τ hk=>h3.keep fun j e=>hk j (h3.lt e) (hshr j e) (h3.ne2 z5y h1 zed (by omega) j e) (h3.ne2 z5y h2 hr_w (by omega) j e)
 by_cases hL0:L=[]
 ·subst hL0
  rcases h1 with⟨rfl,_,rfl⟩| ⟨q,_,hn,_⟩
  ·rcases h2 with⟨rfl,_,rfl⟩| ⟨q,_,hn,_⟩
   ·have fin:AppendP O r seed [] H (r::t::(Option.toList none++(Option.toList none++Option.toList sh))) s (.int .i64 0) ((O.set r (some [[AV.ptr t 0 0,AV.sl (O.length+2) 0 1 none 1,AV.sl (O.length+3) 0 1 none 32,AV.int .i64 (1:Nat),z2,hs']]))++
      [some [hc (lfH s)],some [[AV.int .i64 (1:Nat),z2]],some [[AV.str s]],some [hc (lfH s)]]):=by
     have hst:∀j,j<O.length->j ≠ r->(none:Option Nat) ≠ some j->(none:Option Nat) ≠ some j->((O.set r (some [[AV.ptr t 0 0,AV.sl (O.length+2) 0 1 none 1,AV.sl (O.length+3) 0 1 none 32,AV.int .i64 (1:Nat),z2,hs']]))++
      [some [hc (lfH s)],some [[AV.int .i64 (1:Nat),z2]],some [[AV.str s]],some [hc (lfH s)]])[j]? =O[j]?:=fun j hj hjr _ _=>by rw [gapp (by simpa using hj),z1r (fun e=>hjr e.symm)]
     refine .ok (q1:=O.length+2) (q2:=O.length+3) (z2:=z2) (hs:=hs') h200 ?_ ?_ ?_ ?_ hz3 (hk3 _ hst) (by omega) (by omega) (by simp) hst
     ·rw [gapp (by simpa using d),z38 d];rfl
     ·rw [gapp (by simpa using d2),z1r (fun e=>hrt e.symm)];exact ht
     ·rw [z1i (by simp)];simp [strs]
     ·rw [z1i (by simp)];simp [lvs,hr]
    repeat' (first|apply zs_|apply zb_|apply zc_|apply zt_ rfl|apply zf_ rfl|(apply zd_ rfl<;>intro ht<;>try omega)|((first|apply zr_|apply zk_|apply ze_|apply zq_|(apply callW.mk_pu;(first|exact(fun _=>hN)|exact(fun _=>hLf _)))|(apply callW.za;(first|exact(hN)|exact(hLf _)))|(apply zG<;>intro ht));all_goals try simp (disch:=first|omega|(simp only [lens,z7,z6,lQr,lQm,lQt,lQd,zg,zi,zo];first|done|omega)) only [go_sem,hg,r1,hfull,h200',c3,zc,zc2]))
    refine zW.reg2 ?_ ?_
    ·simp (disch:=first|omega|(simp only [lens,z7,z6,lQr,lQm,lQt,lQd,zg,zi,zo];first|done|omega)) only [go_sem,hg,zc,zc2,c3]
     repeat' (first|apply zs_|apply zb_|apply zc_|apply zt_ rfl|apply zf_ rfl|(apply zd_ rfl<;>intro ht<;>try omega)|((first|apply zr_|apply zk_|apply ze_|apply zq_|(apply callW.mk_pu;(first|exact(fun _=>hA _)))|(apply callW.za;(first|exact(hA _)))|(apply zG<;>intro ht));all_goals try simp (disch:=first|omega|(simp only [lens,z7,z6,lQr,lQm,lQt,lQd,zg,zi,zo];first|done|omega)) only [go_sem,hg,zc,zc2,c3]))
     exact fin
    ·simp (disch:=first|omega|(simp only [lens,z7,z6,lQr,lQm,lQt,lQd,zg,zi,zo];first|done|omega)) only [go_sem,hg,zc,zc2,c3]
     repeat' (first|apply zs_|apply zb_|apply zc_|apply zt_ rfl|apply zf_ rfl|(apply zd_ rfl<;>intro ht<;>try omega)|((first|apply zr_|apply zk_|apply ze_|apply zq_|(apply callW.mk_pu;(first|exact(fun _=>hA _)))|(apply callW.za;(first|exact(hA _)))|(apply zG<;>intro ht));all_goals try simp (disch:=first|omega|(simp only [lens,z7,z6,lQr,lQm,lQt,lQd,zg,zi,zo];first|done|omega)) only [go_sem,hg,zc,zc2,c3]))
     exact fin
   ·exact absurd rfl hn
  ·exact absurd rfl hn
 ·have hrl:=zh4 hL0
  have hsl:=zec hL0
  rcases h1 with⟨_,h0,_⟩| ⟨q1,rfl,_,rfl,hq1⟩
  ·exact absurd h0 hsl
  rcases h2 with⟨_,h0,_⟩| ⟨q2,rfl,_,rfl,hq2⟩
  ·exact absurd h0 hrl
  have e1:=slen hq1
  have e2:=slen hq2
  obtain⟨a1,ha1,la1⟩:=zja hL0
  obtain⟨a2,ha2,la2⟩:=zgm (l:=lvs L) (fun e=>hrl (by rw [e];rfl))
  have n1:q1 ≠ r:=z3p hq1 hgC ha1 (b:=pbC (.ptr t 0 0) _ _ L.length z hs') rfl (by simp [pbC];omega)
  have n2:q2 ≠ r:=z3p hq2 hgC ha2 (b:=pbC (.ptr t 0 0) _ _ L.length z hs') rfl (by simp [pbC];omega)
  have n3:q1 ≠ q2:=z3p hq1 hq2 ha1 ha2 (by omega)
  have n4:q1 ≠ t:=z3p hq1 ht ha1 (b:=z1h true seed (keyL seed)) rfl (by rw [z6v,z2i];omega)
  have n5:q2 ≠ t:=z3p hq2 ht ha2 (b:=z1h true seed (keyL seed)) rfl (by rw [z6v,z2i];omega)
  have n1':=n1.symm
  have n2':=n2.symm
  have n3':=n3.symm
  have l1:=zi L
  have l2:(hr (lvs L)).length=L.length:=by rw [z6,zo]
  have hLn:¬L.length=0:=fun e=>hL0 (List.eq_nil_of_length_eq_zero e)
  have fin:∀τ,τ=(((List.set O q1 none).set q2 none).set r (some [[AV.ptr t 0 0,AV.sl (O.length+2) 0 (L.length+1) none 1,AV.sl (O.length+3) 0 (L.length+1) none 32,AV.int .i64 ((L.length+1:Nat):Int),z2,hs']])++
    [some [hc (lfH s)],some [[AV.int .i64 ((L.length+1:Nat):Int),z2]],some (strs L++ [[AV.str s]]),some (hr (lvs L)++ [hc (lfH s)])])->
    AppendP O r seed L H (r::t::(Option.toList (some q1)++(Option.toList (some q2)++Option.toList sh))) s (.int .i64 0) τ:=by
   rintro τ rfl
   have hst:∀j,j<O.length->j ≠ r->(some q1:Option Nat) ≠ some j->(some q2:Option Nat) ≠ some j->(((List.set O q1 none).set q2 none).set r (some [[AV.ptr t 0 0,AV.sl (O.length+2) 0 (L.length+1) none 1,AV.sl (O.length+3) 0 (L.length+1) none 32,AV.int .i64 ((L.length+1:Nat):Int),z2,hs']])++
     [some [hc (lfH s)],some [[AV.int .i64 ((L.length+1:Nat):Int),z2]],some (strs L++ [[AV.str s]]),some (hr (lvs L)++ [hc (lfH s)])])[j]? =O[j]?:=fun j hj hjr h1 h2=>by
    rw [gapp (by simpa using hj),z1r (fun e=>hjr e.symm),z1r (fun e=>h2 (by rw [e])),z1r (fun e=>h1 (by rw [e]))]
   refine .ok (q1:=O.length+2) (q2:=O.length+3) (z2:=z2) (hs:=hs') h200 ?_ ?_ ?_ ?_ hz3 (hk3 _ hst) (by omega) (by omega) (by simp) hst
   ·rw [gapp (by simpa using d),z38 (by simpa using d)];rfl
   ·rw [hst t d2 hrt (fun e=>n4 (by simpa using e)) (fun e=>n5 (by simpa using e))];exact ht
   ·rw [z1i (by simp)];simp [strs]
   ·rw [z1i (by simp)];simp [lvs,hr]
  repeat' (first|apply zs_|apply zb_|apply zc_|apply zt_ rfl|apply zf_ rfl|(apply zd_ rfl<;>intro ht<;>try omega)|((first|apply zr_|apply zk_|apply ze_|apply zq_|(apply callW.mk_pu;(first|exact(fun _=>hN)|exact(fun _=>hLf _)))|(apply callW.za;(first|exact(hN)|exact(hLf _)))|(apply zG<;>intro ht));all_goals try simp (disch:=first|omega|(simp only [lens,z7,z6,lQr,lQm,lQt,lQd,zg,zi,zo];first|done|omega)) only [go_sem,hg,r1,hfull,h200',c3,zc,zc2]))
  refine zW.reg2 ?_ ?_
  ·simp (disch:=first|omega|(simp only [lens,z7,z6,lQr,lQm,lQt,lQd,zg,zi,zo];first|done|omega)) only [go_sem,hg,zc,zc2,c3]
   repeat' (first|apply zs_|apply zb_|apply zc_|apply zt_ rfl|apply zf_ rfl|(apply zd_ rfl<;>intro ht<;>try omega)|((first|apply zr_|apply zk_|apply ze_|apply zq_|(apply callW.mk_pu;(first|exact(fun _=>hA _)))|(apply callW.za;(first|exact(hA _)))|(apply zG<;>intro ht));all_goals try simp (disch:=first|omega|(simp only [lens,z7,z6,lQr,lQm,lQt,lQd,zg,zi,zo];first|done|omega)) only [go_sem,hg,zc,zc2,c3,hq1,hq2,n1,n2,n3,n1',n2',n3',l1,l2]))
   exact fin _ rfl
  ·simp (disch:=first|omega|(simp only [lens,z7,z6,lQr,lQm,lQt,lQd,zg,zi,zo];first|done|omega)) only [go_sem,hg,zc,zc2,c3]
   repeat' (first|apply zs_|apply zb_|apply zc_|apply zt_ rfl|apply zf_ rfl|(apply zd_ rfl<;>intro ht<;>try omega)|((first|apply zr_|apply zk_|apply ze_|apply zq_|(apply callW.mk_pu;(first|exact(fun _=>hA _)))|(apply callW.za;(first|exact(hA _)))|(apply zG<;>intro ht));all_goals try simp (disch:=first|omega|(simp only [lens,z7,z6,lQr,lQm,lQt,lQd,zg,zi,zo];first|done|omega)) only [go_sem,hg,zc,zc2,c3,hq1,hq2,n1,n2,n3,n1',n2',n3',l1,l2]))
   exact fin _ rfl
end
section
def mkH(seed:List UInt8)(i:Nat)(M:List (List UInt8)):Hdr:=⟨M.length,zz (lvs M),i,ksgS seed i (digH M.length (zz (lvs M))).1,z1n (keyL seed) i⟩
theorem zas(seed:List UInt8)(i:Nat):(z1n (keyL seed) i).length=3:=by unfold z1n;rw [List.length_reverse,zhp _ i (z2i seed)]
theorem zog(seed:List UInt8)(i:Nat)(M:List (List UInt8))(hi:i<8)(hM:M.length<=4096):z3e (zz (keyL seed)) (mkH seed i M).n (mkH seed i M).i (mkH seed i M).r (mkH seed i M).s (mkH seed i M).p=0:=by
 have hv:z5t (mkH seed i M).n (mkH seed i M).i (mkH seed i M).s (mkH seed i M).p=true:=decide_eq_true ⟨by simp only [mkH];omega,by simp only [mkH];omega,by simp only [mkH];omega,by simp only [mkH];omega,zak _ _ _,zas _ _⟩
 unfold z3e
 rw [hv,if_neg (by simp)]
 exact if_pos (ztk seed i hi _)
def pubN(H:List Hdr):Int:=((H[H.length-1]?).map Hdr.n).getD 0
structure PubOk(seed:List UInt8)(L:List (List UInt8))(H:List Hdr):Prop where
 len:H.length<=8
 at':∀i h,H[i]? =some h->∃n,h=mkH seed i (L.take n)/\ 0<n/\ n<=L.length
 up:∀i h h',H[i]? =some h->H[i+1]? =some h'->h.n<h'.n
theorem PubOk.nil(seed:List UInt8):PubOk seed [] []:=⟨by simp,by simp,by simp⟩
theorem PubOk.app{seed:List UInt8}{L:List (List UInt8)}{H:List Hdr}(h:PubOk seed L H)(M:List (List UInt8)):PubOk seed (L++M) H:=by
 refine⟨h.len,fun i x hx=> ?_,h.up⟩
 obtain⟨n,e,h0,hn⟩:=h.at' i x hx
 exact⟨n,by rw [List.take_append_of_le_length hn];exact e,h0,by rw [List.length_append];omega⟩
theorem PubOk.path{seed:List UInt8}{L:List (List UInt8)}{H:List Hdr}(h:PubOk seed L H):∀x ∈ H,x.p.length<1000000:=by
 intro x hx
 obtain⟨i,hi⟩:=List.mem_iff_getElem?.1 hx
 obtain⟨n,rfl,_,_⟩:=h.at' i x hi
 show (z1n (keyL seed) i).length<1000000
 rw [zas];omega
def puE(L:List (List UInt8))(H:List Hdr):Int:=if 8<=H.length then 85 else if (L.length:Int)=pubN H then 83 else 0
def puV(seed:List UInt8)(L:List (List UInt8))(H:List Hdr):AV:=.tup [.agg (if puE L H=0 then hdrC (mkH seed H.length L)else sgZ),.int .i64 (puE L H)]
def puH(seed:List UInt8)(L:List (List UInt8))(H:List Hdr):List Hdr:=if puE L H=0 then H++ [mkH seed H.length L]else H
def PublishP(O:Store)(r:Nat)(seed:List UInt8)(L:List (List UInt8))(H:List Hdr)(own:List Nat)(a:AV)(O':Store):Prop:=
 a=puV seed L H/\ ∃own',Fr O O' own own'/\ PubIs O' r seed L (puH seed L H) own'
theorem zn8(A B:List Hdr):hdrs (A++B)=hdrs A++hdrs B:=by simp [hdrs]
theorem PublishP.ok{O O':Store}{r t q:Nat}{seed:List UInt8}{L:List (List UInt8)}{H:List Hdr}{lg lv z hs:AV}{sl sv sh:Option Nat}(he:puE L H=0)
  (hg0:O[r]? =some (some [pbC (.ptr t 0 0) lg lv L.length z hs])) (ht0:O[t]? =some (some [z1h true seed (keyL seed)])) (h1:RowAt 1 O sl lg (strs L)) (h2:RowAt 32 O sv lv (hr (lvs L))) (h3:RowAt 36 O sh hs (hdrs H))
  (hg:O'[r]? =some (some [pbC (.ptr t 0 0) lg lv L.length z (.sl q 0 (H.length+1) none 36)])) (hz:SlV 32 (hr (ofR (lvs L)).reverse) z)
  (hq:O'[q]? =some (some (hdrs (H++ [mkH seed H.length L])))) (hqn:O.length<=q) (hle:O.length<=O'.length) (hst:∀j,j<O.length->j ≠ r->sh ≠ some j->O'[j]? =O[j]?):
  PublishP O r seed L H (r::t::(Option.toList sl++(Option.toList sv++Option.toList sh))) (.tup [.agg (hdrC (mkH seed H.length L)),.int .i64 0]) O':=by
 refine⟨by unfold puV;rw [he,if_pos rfl],r::t::(Option.toList sl++(Option.toList sv++Option.toList (some q))),⟨fun j hj hn=> ?_,fun j hj=> ?_,hle⟩,?_⟩
 ·simp only [List.mem_cons,List.mem_append,Option.mem_toList,not_or]at hn
  exact hst j hj hn.1 (fun e=>hn.2.2.2.2 e)
 ·simp only [List.mem_cons,List.mem_append,Option.mem_toList,Option.some.injEq]at hj ⊢
  rcases hj with h|h|h|h|h
  ·exact .inl (.inl h)
  ·exact .inl (.inr (.inl h))
  ·exact .inl (.inr (.inr (.inl h)))
  ·exact .inl (.inr (.inr (.inr (.inl h))))
  ·exact .inr (by omega)
 ·unfold puH
  rw [if_pos he]
  have hne:H++ [mkH seed H.length L] ≠ []:=by simp
  have hpl:(pbC (.ptr t 0 0) lg lv L.length z hs).length=6:=rfl
  have htl:(z1h true seed (keyL seed)).length=258:=by rw [z6v,z2i]
  have hrt:t ≠ r:=z3p ht0 hg0 (a:=z1h true seed (keyL seed)) (b:=pbC (.ptr t 0 0) lg lv L.length z hs) rfl rfl (by omega)
  refine⟨t,lg,lv,z,_,sl,sv,some q,rfl,hg,by rw [hst t (slen ht0) hrt fun e=>h3.ne z5y ht0 (b:=z1h true seed (keyL seed)) rfl (by omega) t e rfl];exact ht0,h1.keep fun j e=>hst j (h1.lt e) ?_ ?_,h2.keep fun j e=>hst j (h2.lt e) ?_ ?_,hz,.inr ⟨q,rfl,zgl hne,?_,hq⟩⟩
  ·exact h1.ne zed hg0 (b:=pbC (.ptr t 0 0) lg lv L.length z hs) rfl (by omega) j e
  ·exact h1.ne2 zed h3 z5y (by omega) j e
  ·exact h2.ne hr_w hg0 (b:=pbC (.ptr t 0 0) lg lv L.length z hs) rfl (by omega) j e
  ·exact h2.ne2 hr_w h3 z5y (by omega) j e
  ·rw [z1f,List.length_append];rfl
theorem PublishP.no{O:Store}{r:Nat}{seed:List UInt8}{L:List (List UInt8)}{H:List Hdr}{own:List Nat}{e:Int}(hT:PubIs O r seed L H own)(he:puE L H=e)(h0:e ≠ 0):PublishP O r seed L H own (.tup [.agg sgZ,.int .i64 e]) O:=by
 subst he
 exact⟨by unfold puV;rw [if_neg h0],own,.ext (.refl _),by unfold puH;rw [if_neg h0];exact hT⟩
theorem PublishP.is{O:Store}{r:Nat}{seed:List UInt8}{L:List (List UInt8)}{H:List Hdr}{own:List Nat}(hT:PubIs O r seed L H own):∃a O',PublishP O r seed L H own a O':=by
 by_cases he:puE L H=0
 ·obtain⟨t,lg,lv,z,hs,sl,sv,sh,rfl,hg,ht,h1,h2,hz,h3⟩:=hT
  have d:=slen hg
  refine⟨_,(O.set r (some [pbC (.ptr t 0 0) lg lv L.length z (.sl O.length 0 (H.length+1) none 36)]))++ [some (hdrs (H++ [mkH seed H.length L]))],.ok (q:=O.length) he hg ht h1 h2 h3 ?_ hz ?_ (Nat.le_refl _) (by simp) fun j hj hjr _=> ?_⟩
  ·rw [gapp (by simpa using d),z38 d]
  ·rw [z1i (by simp)];simp
  ·rw [gapp (by simpa using hj),z1r (fun e=>hjr e.symm)]
 ·exact⟨_,O,.no hT rfl he⟩
@[go_sem] theorem sgC_set33 (n:Int) (r:Hash) (i j:Int) (s u:List UInt8) (x v:AV):(sgC n r i s x).take 33++ .int .i64 j:: .str u::v::(sgC n r i s x).drop 36=sgC n r j u v:=by
 rw [zrx,zdz];rfl
theorem ziv(n:Int)(r:Hash)(i:Int)(s:List UInt8)(x:AV):AV.int .i64 n::(hc r++ [AV.int .i64 i,.str s,x])=sgC n r i s x:=rfl
attribute [local irreducible] ACallsTo ACallsP
theorem zqg(O:Store)(r:Nat)(seed:List UInt8)(L:List (List UInt8))(H:List Hdr)(own:List Nat)(hT:PubIs O r seed L H own)(hok:PubOk seed L H)(hL:L.length<=4096)(hs:seed.length<1000000):
  ACallsP TC 12 [.ptr r 0 0] O (PublishP O r seed L H own):=by
 have hT':=hT
 obtain⟨t,lg,lv,z,hs',sl,sv,sh,rfl,hg,ht,h1,h2,hz,h3⟩:=hT'
 have hp:=hok.path
 have hlen:=hok.len
 have r1:=h1.rd.len
 rw [zi]at r1
 by_cases h8:H.length=8
 ·rcases h3 with⟨_,h0,rfl⟩| ⟨q,rfl,hn,rfl,hgq⟩
  ·have:=congrArg List.length h0
   rw [z1f]at this;simp at this;rw [this]at h8;simp at h8
  ·rw [z1f]at hg
   exact(zqd O r t q lg lv z L.length H hg hgq h8 hp).toP (.no hT (by unfold puE;rw [if_pos (by omega)]) (by omega))
 by_cases hold:(L.length:Int)=pubN H
 ·have he:puE L H=83:=by unfold puE;rw [if_neg (by omega),if_pos hold]
  rcases h3 with⟨_,h0,rfl⟩| ⟨q,rfl,hn,rfl,hgq⟩
  ·have hH:H=[]:=by have:=congrArg List.length h0;rw [z1f]at this;exact List.eq_nil_of_length_eq_zero this
   subst hH
   have hL0:L=[]:=List.eq_nil_of_length_eq_zero (by simp [pubN]at hold;rw [hold];rfl)
   subst hL0
   rcases h1 with⟨_,_,rfl⟩| ⟨_,_,hn,_⟩
   ·exact(zqe O r t lv z _ hg).toP (.no hT he (by omega))
   ·exact absurd rfl hn
  ·have hn0:H ≠ []:=fun e=>hn (by rw [e];rfl)
   rw [z1f]at hg
   refine(zqf O r t q lg lv z L.length H L.length hg hgq hn0 (by omega) hp r1 fun x hx=> ?_).toP (.no hT he (by omega))
   rw [hold];unfold pubN;rw [hx];rfl
 have he:puE L H=0:=by unfold puE;rw [if_neg (by omega),if_neg hold]
 have d:=slen hg
 have d2:=slen ht
 have hg0:=hg
 have hN:=fun y=>z63 (O++y) r t lg lv z hs' L.length (by rw [gapp d];exact hg)
 have c3:=h3.cells
 have zc:=z96 hz
 have hRt:=fun O'=>Root_h O' (L.length:Int) (ofR (lvs L)).reverse z (.of hz) (by rw [List.length_reverse,zao _ (by rw [zo];omega)];have:=zde 13 (lvs L).length;omega) (by omega)
 have hval:z3u (L.length:Int) (ofR (lvs L)).reverse.length=true:=decide_eq_true ⟨by omega,by omega,by rw [Int.toNat_natCast,pc13 (by omega),List.length_reverse,zao _ (by rw [zo];omega),zo]⟩
 unfold z6p at hRt
 rw [if_neg (by rw [hval];simp),List.reverse_reverse,zhb ((lvs L).length+1) (lvs L) (by omega)]at hRt
 have hD:=fun O=>zek O (L.length:Int) (zz (lvs L))
 have hS:=fun y=>zt7 (O++y) t seed (keyL seed) H.length (digH L.length (zz (lvs L))) (by rw [gapp d2];exact ht) (z2i seed) (by omega) hs
 have hC:=fun O=>zfq O L.length (zz (lvs L)) H.length (ksgS seed H.length (digH L.length (zz (lvs L))).1) (z1n (keyL seed) H.length) _ (.of (z69 _ _)) (by rw [zas];omega)
 have hmk:sgC L.length (zz (lvs L)) H.length (ksgS seed H.length (digH L.length (zz (lvs L))).1) (z18 32 (hr (z1n (keyL seed) H.length)))=hdrC (mkH seed H.length L):=rfl
 have h3':=h3
 have hHn:=fun y=>z8z (O++y) r t H hs' lg lv z L.length (by rw [gapp d];exact hg)
 unfold zdx at hS
 unfold z1c at r1
 unfold cellsOf at c3 zc
 refine ACallsP.of_keepW zax (by simp) fun hw=> ?_
 rcases h3 with⟨rfl,h0,rfl⟩| ⟨q,rfl,hn,rfl,hgq⟩
 ·have hH:H=[]:=by have:=congrArg List.length h0;rw [z1f]at this;exact List.eq_nil_of_length_eq_zero this
  subst hH
  have hL0:¬(L.length:Int)=0:=by simpa [pubN]using hold
  have hH:=fun y=>hHn y (.inl ⟨rfl,rfl⟩) (by simp) hp
  rw [show z18 36 (hdrs [])=.nilsl from rfl]at hH
  unfold pbC at hg
  repeat' (first|apply zs_|apply zb_|apply zc_|apply zt_ rfl|apply zf_ rfl|(apply zd_ rfl<;>intro ht<;>try omega)|((first|apply zr_|apply zk_|apply ze_|apply zq_|(apply callW.mk_pu;(first|exact(fun _=>hN _)|exact(fun _=>hH _)|exact(fun _=>hRt _)|exact(fun _=>hD _)|exact(fun _=>hS _)|exact(fun _=>hC _)))|(apply callW.za;(first|exact(hN _)|exact(hH _)|exact(hRt _)|exact(hD _)|exact(hS _)|exact(hC _)))|(apply zG<;>intro ht));all_goals try simp (disch:=first|omega|(simp only [lens,z7,z6,lQr,lQm,lQt,lQd,zg,zi,zo,z1f,z10];first|done|omega)) only [go_sem,hg,r1,hL0,zc,c3,ziv,zdz]))
  refine PublishP.ok (q:=O.length+3) he hg0 ht h1 h2 h3' ?_ hz ?_ (by omega) (by simp) fun j hj hjr hjs=> ?_
  ·rw [gapp (by simpa using d),z38 d];rfl
  ·rw [z1i (by simp)]
   simp only [List.length_set,Nat.add_sub_cancel_left];rfl
  ·rw [gapp (by simpa using hj),z1r (fun e=>hjr e.symm)]
 ·have h0:H ≠ []:=fun e=>hn (by rw [e];rfl)
  have dq:=slen hgq
  have hl0:H.length ≠ 0:=fun e=>h0 (List.eq_nil_of_length_eq_zero e)
  have hne:hdrs H ≠ []:=zgl h0
  have hdl:=z1f H
  have hgi:=zct (H:=H) (i:=H.length-1) (by omega)
  have hk':pubN H=(H[H.length-1]'(by omega)).n:=by
   unfold pubN
   rw [List.getElem?_eq_getElem (by omega)];rfl
  rw [hk']at hold
  generalize H[H.length-1]'(by omega)=h at*
  have hc0:(hdrC h)[0]? =some (.int .i64 h.n):=rfl
  have hcl:=z10 h
  have hH:=fun y=>hHn y (.inr ⟨q,h0,by rw [hdl],by rw [gapp dq];exact hgq⟩) (by omega) hp
  rw [show z18 36 (hdrs H)=.vsl 36 (hdrs H) false by unfold z18;rw [if_neg hne]]at hH
  have e1:((H.length:Int)-1).toNat=H.length-1:=by omega
  have e8:¬(H.length:Int)>=8:=by omega
  have e0:(H.length:Int)>0:=by omega
  have hqr:q ≠ r:=h3'.ne z5y hg0 (b:=pbC (.ptr t 0 0) lg lv L.length z _) rfl (by simp [pbC]) q rfl
  have hqt:q ≠ t:=h3'.ne z5y ht (b:=z1h true seed (keyL seed)) rfl (by rw [z6v,z2i];omega) q rfl
  have hqr':=hqr.symm
  unfold pbC at hg
  rw [hdl]at hg
  repeat' (first|apply zs_|apply zb_|apply zc_|apply zt_ rfl|apply zf_ rfl|(apply zd_ rfl<;>intro ht<;>try omega)|((first|apply zr_|apply zk_|apply ze_|apply zq_|(apply callW.mk_pu;(first|exact(fun _=>hN _)|exact(fun _=>hH _)|exact(fun _=>hRt _)|exact(fun _=>hD _)|exact(fun _=>hS _)|exact(fun _=>hC _)))|(apply callW.za;(first|exact(hN _)|exact(hH _)|exact(hRt _)|exact(hD _)|exact(hS _)|exact(hC _)))|(apply zG<;>intro ht));all_goals try simp (disch:=first|omega|(simp only [lens,z7,z6,lQr,lQm,lQt,lQd,zg,zi,zo,z1f,z10];first|done|omega)) only [go_sem,hg,hgq,hdl,hgi,hc0,hcl,e1,e8,e0,r1,hold,zc,c3,hqr,hqr',ziv,zdz]))
  refine PublishP.ok (q:=O.length+3) he hg0 ht h1 h2 h3' ?_ hz ?_ (by omega) (by simp) fun j hj hjr hjs=> ?_
  ·rw [gapp (by simpa using d),z38 (by simpa using d)];rfl
  ·rw [z1i (by simp),zn8]
   simp only [List.length_set,Nat.add_sub_cancel_left];rfl
  ·rw [gapp (by simpa using hj),z1r (fun e=>hjr e.symm),z1r (fun e=>hjs (by rw [e]))]
end
section
attribute [local irreducible] ACallsTo ACallsP
theorem zqb(O:Store)(seed:List UInt8):PubIs (O++ [some [z1h true seed (keyL seed)],some [pbC (.ptr O.length 0 0) .nilsl .nilsl 0 .nilsl .nilsl]]) (O.length+1) seed [] [] [O.length+1,O.length]:=by
 refine⟨O.length,.nilsl,.nilsl,.nilsl,.nilsl,none,none,none,rfl,?_,?_,.inl ⟨rfl,rfl,rfl⟩,.inl ⟨rfl,rfl,rfl⟩,.inl ⟨rfl,rfl⟩,.inl ⟨rfl,rfl,rfl⟩⟩
 ·rw [z1i (by omega),Nat.add_sub_cancel_left];rfl
 ·rw [z1i (by omega),Nat.sub_self];rfl
theorem PubIs.key{O:Store}{r:Nat}{seed:List UInt8}{L:List (List UInt8)}{H:List Hdr}{own:List Nat}(h:PubIs O r seed L H own):ACallsTo TC 13 [.ptr r 0 0] O (.agg (hc (zz (keyL seed)))) O:=by
 obtain⟨t,lg,lv,z,hs,sl,sv,sh,rfl,hg,ht,h1,h2,hz,h3⟩:=h
 exact zqa O r t seed (keyL seed) lg lv z hs L.length hg ht (z2i seed)
theorem PubIs.heads{O:Store}{r:Nat}{seed:List UInt8}{L:List (List UInt8)}{H:List Hdr}{own:List Nat}(h:PubIs O r seed L H own)(hok:PubOk seed L H):ACallsTo TC 14 [.ptr r 0 0] O (z18 36 (hdrs H)) O:=by
 obtain⟨t,lg,lv,z,hs,sl,sv,sh,rfl,hg,ht,h1,h2,hz,h3⟩:=h
 refine z8z O r t H hs lg lv z L.length hg ?_ (by have:=hok.len;omega) hok.path
 rcases h3 with⟨_,e,rfl⟩| ⟨q,_,hn,rfl,hq⟩
 ·refine .inl ⟨?_,rfl⟩
  have:=congrArg List.length e
  rw [z1f]at this
  exact List.eq_nil_of_length_eq_zero this
 ·exact .inr ⟨q,fun e=>hn (by rw [e];rfl),by rw [z1f],hq⟩
end
section
theorem puV_1(seed:List UInt8)(s:List UInt8):puV seed [s] []=.tup [.agg (hdrC (mkH seed 0 [s])),.int .i64 0]/\ puH seed [s] []=[mkH seed 0 [s]]:=by
 have e:puE [s] []=0:=by simp [puE,pubN]
 exact⟨by unfold puV;rw [e,if_pos rfl];rfl,by unfold puH;rw [e,if_pos rfl];rfl⟩
theorem PubOk.one(seed:List UInt8)(s:List UInt8)(M:List (List UInt8)):PubOk seed (s::M) [mkH seed 0 [s]]:=by
 refine⟨by simp,fun i h hi=> ?_,fun i h h' hi hi'=>by simp at hi'⟩
 match i,hi with
 | 0,hi=>
  simp only [List.getElem?_cons_zero,Option.some.injEq]at hi
  exact⟨1,by rw [<-hi];simp,by omega,by simp⟩
 |i+1,hi=>simp at hi
theorem PubOk.none1(seed:List UInt8)(L:List (List UInt8)):PubOk seed L []:=⟨by simp,by simp,by simp⟩
attribute [local irreducible] ACallsTo ACallsP
theorem apE_s{s:List UInt8}(h:s.length<=200):apE s=0:=by unfold apE;rw [if_neg (by omega)]
theorem apL_s{L:List (List UInt8)}{s:List UInt8}(h:s.length<=200):apL L s=L++ [s]:=by unfold apL;rw [if_neg (by omega)]
theorem zn7(h:Hdr):(hdrC h).take 36=hdrC h:=List.take_of_length_le (by rw [z10];omega)
end
section
structure Act22 where
 k:Int
 s:List UInt8
attribute [local irreducible] ACallsTo ACallsP
end
section
attribute [local irreducible] ACallsTo ACallsP
end
section
set_option maxRecDepth 10000

end
section
set_option maxRecDepth 4000
set_option maxRecDepth 100000 in
theorem ev_f:S8.beq (z7a (z6d (102:UInt8).toNat id)) 2192381208150611667427594473366587083052807699354075379043186281341353410927146264730117065591845831692207096806204082163393591730537547710840789 1012187897875713552373248488156890070796477650526504925261970495651979887082645506175929327435100669850817943549956200666992761721241976864112771 1131244515564891089870557259894103610830489205208646919208236544064987527249776979157323544586712374191653298359274863443676535019539043190750092 2706951762891530667580668560970033040293367466901838774145642398406674474412842928430326041731370156625049712991240958478501060050106631887386416 2829227562373710485168842368709694913587081047466582171996034936505616703208266939210631676853736616795783214550420846603013364418667453752014861 1399247737502587415217454973469115184852354804386481290034750632912623513593033831736472516423379328846839337194919154766154030085092508095215241 2521021453635066210198279970639744019072512851320451106472560609505678913635142423840041376623661231624349820581471803714948999745582086751304975 3060345039719366806192694826747512122725155945380505512947414644198849391251683684422388826645195467749445823625721107227382789656480772830403614=true:=by decide+kernel
def kf0:List UInt8:=[120,223,191,213,18,90,0,131,228,30,187,140,19,25,247,48,247,55,248,13,6,7,246,137,73,112,189,15,247,98,28,30]
def kf1:List UInt8:=[156,251,131,183,30,222,0,142,144,242,163,166,238,90,101,188,23,195,21,175,197,65,218,12,35,254,115,55,213,208,154,228]
def kf2:List UInt8:=[92,126,78,44,104,7,133,239,251,177,176,104,126,89,22,72,124,168,186,69,229,78,201,29,231,92,165,12,23,104,96,145]
def kf3:List UInt8:=[251,20,21,165,101,12,18,194,222,0,191,0,233,156,203,178,36,79,171,212,79,72,17,250,78,197,253,115,42,95,233,176]
def kf4:List UInt8:=[251,9,140,57,73,248,101,28,166,182,234,121,94,144,42,145,210,85,66,187,115,70,50,73,50,160,228,249,95,255,39,165]
def kf5:List UInt8:=[135,21,204,99,78,34,72,129,102,130,224,53,94,109,251,74,150,95,171,82,172,97,182,222,100,232,248,199,100,125,177,151]
def kf6:List UInt8:=[186,78,111,48,146,13,46,134,225,85,10,213,174,99,179,227,29,84,69,56,61,231,34,37,52,189,222,50,251,15,130,36]
def kf7:List UInt8:=[179,201,116,69,83,1,58,81,92,196,160,103,221,252,5,66,232,3,0,50,114,190,234,91,206,188,183,213,250,246,239,15]
theorem lf0:(z1l (pubH [102] ((0:Nat):Int))).1=kf0:=by rw [z42 [102] 102 0 rfl,z3z 102 id (by decide) ev_f 0 (by omega)];decide+kernel
theorem lf1:(z1l (pubH [102] ((1:Nat):Int))).1=kf1:=by rw [z42 [102] 102 1 rfl,z3z 102 id (by decide) ev_f 1 (by omega)];decide+kernel
theorem lf2:(z1l (pubH [102] ((2:Nat):Int))).1=kf2:=by rw [z42 [102] 102 2 rfl,z3z 102 id (by decide) ev_f 2 (by omega)];decide+kernel
theorem lf3:(z1l (pubH [102] ((3:Nat):Int))).1=kf3:=by rw [z42 [102] 102 3 rfl,z3z 102 id (by decide) ev_f 3 (by omega)];decide+kernel
theorem lf4:(z1l (pubH [102] ((4:Nat):Int))).1=kf4:=by rw [z42 [102] 102 4 rfl,z3z 102 id (by decide) ev_f 4 (by omega)];decide+kernel
theorem lf5:(z1l (pubH [102] ((5:Nat):Int))).1=kf5:=by rw [z42 [102] 102 5 rfl,z3z 102 id (by decide) ev_f 5 (by omega)];decide+kernel
theorem lf6:(z1l (pubH [102] ((6:Nat):Int))).1=kf6:=by rw [z42 [102] 102 6 rfl,z3z 102 id (by decide) ev_f 6 (by omega)];decide+kernel
theorem lf7:(z1l (pubH [102] ((7:Nat):Int))).1=kf7:=by rw [z42 [102] 102 7 rfl,z3z 102 id (by decide) ev_f 7 (by omega)];decide+kernel
theorem rt_f:z1x (z1x (z1x kf0 kf1) (z1x kf2 kf3)) (z1x (z1x kf4 kf5) (z1x kf6 kf7)) ≠ List.replicate 32 0:=by decide+kernel
theorem root_f(x:Hash)(hx:x.1=List.replicate 32 0):zz (keyL [102]) ≠ x:=by
 obtain⟨a,b,c,d,e,f,g,h,hK,k0,k1,k2,k3,k4,k5,k6,k7⟩:∃a b c d e f g h:Hash,keyL [102]=[a,b,c,d,e,f,g,h]/\ a.1=kf0/\ b.1=kf1/\ c.1=kf2/\ d.1=kf3/\ e.1=kf4/\ f.1=kf5/\ g.1=kf6/\ h.1=kf7:=
  ⟨_,_,_,_,_,_,_,_,rfl,lf0,lf1,lf2,lf3,lf4,lf5,lf6,lf7⟩
 intro hh
 rw [hK,zds]at hh
 have h3:=congrArg Subtype.val hh
 simp only [zy]at h3
 rw [k0,k1,k2,k3,k4,k5,k6,k7,hx]at h3
 exact rt_f h3
end
section
def z15(L:List (List UInt8)):List UInt8:=if L.length<2 then 0::stD L 0 else 1::((zz (lvs (L.take (zm L.length)))).1++(zz (lvs (L.drop (zm L.length)))).1)
theorem zod(L:List (List UInt8))(n:Nat):(lvs L).take n=lvs (L.take n):=by simp [lvs,List.map_take]
theorem zoc(L:List (List UInt8))(n:Nat):(lvs L).drop n=lvs (L.drop n):=by simp [lvs,List.map_drop]
theorem zbf{L:List (List UInt8)}(h:L.length=1):z15 L=0::stD L 0:=if_pos (by omega)
theorem zbg{L:List (List UInt8)}(h:2<=L.length):z15 L=1::((zz (lvs (L.take (zm L.length)))).1++(zz (lvs (L.drop (zm L.length)))).1):=if_neg (by omega)
theorem ziy{L:List (List UInt8)}(h:0<L.length):shaH (z15 L)=zz (lvs L):=by
 by_cases h1:L.length=1
 ·rw [zbf h1]
  match L,h1 with
  | [s],_=>rfl
 ·have e:=z7l (l:=lvs L) (by rw [zo];omega)
  rw [zo,zod,zoc]at e
  rw [zbg (by omega),e]
  rfl
def z3i:Nat->List (List UInt8)->List (List UInt8)->Option (List UInt8 × List UInt8)
 | 0,_,_=>none
 |f+1,a,b=>
  if a.length ≠ b.length \/4096<a.length \/a=b then none
  else if shaH (z15 a) ≠ shaH (z15 b)then none
  else if z15 a ≠ z15 b then some (z15 a,z15 b)
  else if a.take (zm a.length)=b.take (zm a.length)then z3i f (a.drop (zm a.length)) (b.drop (zm a.length))
  else z3i f (a.take (zm a.length)) (b.take (zm a.length))
def z36(a b:List (List UInt8)):Option (List UInt8 × List UInt8):=z3i (a.length+1) a b
theorem zt1{a b:List (List UInt8)}(h1:a.length=1)(h2:b.length=1)(hn:a ≠ b):z15 a ≠ z15 b:=by
 rw [zbf h1,zbf h2]
 match a,b,h1,h2 with
 | [s],[t],_,_=>
  intro h
  simp only [stD,List.getD_cons_zero,List.cons.injEq,true_and]at h
  exact hn (by rw [h])
theorem zab(f:Nat)(a b:List (List UInt8)):z3i (f+1) a b=
  if a.length ≠ b.length \/4096<a.length \/a=b then none
  else if shaH (z15 a) ≠ shaH (z15 b)then none
  else if z15 a ≠ z15 b then some (z15 a,z15 b)
  else if a.take (zm a.length)=b.take (zm a.length)then z3i f (a.drop (zm a.length)) (b.drop (zm a.length))
  else z3i f (a.take (zm a.length)) (b.take (zm a.length)):=rfl
theorem zac{a b:List (List UInt8)}(hl:a.length=b.length)(hn:a ≠ b)(ht:z15 a=z15 b):2<=a.length:=by
 rcases Nat.lt_or_ge a.length 2 with h|h
 ·exfalso
  by_cases h1:a.length=1
  ·exact zt1 h1 (by omega) hn ht
  ·have e1:a=[]:=List.eq_nil_of_length_eq_zero (by omega)
   have e2:b=[]:=List.eq_nil_of_length_eq_zero (by omega)
   exact hn (by rw [e1,e2])
 ·exact h
theorem zc9:∀(f:Nat) (a b:List (List UInt8)),a.length<f->z3i (f+1) a b=z3i f a b
 | 0,a,b,h=>by omega
 |f+1,a,b,h=>by
  rw [zab (f+1) a b,zab f a b]
  by_cases h0:a.length ≠ b.length \/4096<a.length \/a=b
  ·simp only [if_pos h0]
  by_cases h1:shaH (z15 a) ≠ shaH (z15 b)
  ·simp only [if_neg h0,if_pos h1]
  by_cases h2:z15 a ≠ z15 b
  ·simp only [if_neg h0,if_neg h1,if_pos h2]
  simp only [if_neg h0,if_neg h1,if_neg h2]
  simp only [not_or,Decidable.not_not]at h0 h2
  obtain⟨s1,s2,s3⟩:=z49 (zac h0.1 h0.2.2 h2)
  rw [zc9 f _ _ (by rw [List.length_drop];omega),zc9 f _ _ (by rw [List.length_take];omega)]
theorem zfn{f:Nat}{a b:List (List UInt8)}(h:a.length<f):z3i f a b=z36 a b:=by
 unfold z36
 obtain⟨d,rfl⟩:∃d,f=a.length+1+d:=⟨f-(a.length+1),by omega⟩
 clear h
 induction d with
 |zero=>rfl
 |succ d ih=>rw [<-ih,<-Nat.add_assoc];exact zc9 _ _ _ (by omega)
theorem zcb(a b:List (List UInt8)):z36 a b=
  if a.length ≠ b.length \/4096<a.length \/a=b then none
  else if shaH (z15 a) ≠ shaH (z15 b)then none
  else if z15 a ≠ z15 b then some (z15 a,z15 b)
  else if a.take (zm a.length)=b.take (zm a.length)then z36 (a.drop (zm a.length)) (b.drop (zm a.length))
  else z36 (a.take (zm a.length)) (b.take (zm a.length)):=by
 have e:z36 a b=z3i (a.length+1) a b:=rfl
 rw [e,zab]
 by_cases h0:a.length ≠ b.length \/4096<a.length \/a=b
 ·simp only [if_pos h0]
 by_cases h1:shaH (z15 a) ≠ shaH (z15 b)
 ·simp only [if_neg h0,if_pos h1]
 by_cases h2:z15 a ≠ z15 b
 ·simp only [if_neg h0,if_neg h1,if_pos h2]
 simp only [if_neg h0,if_neg h1,if_neg h2]
 simp only [not_or,Decidable.not_not]at h0 h2
 obtain⟨s1,s2,s3⟩:=z49 (zac h0.1 h0.2.2 h2)
 rw [zfn (by rw [List.length_drop];omega),zfn (by rw [List.length_take];omega)]
theorem zca:∀(f:Nat) (a b:List (List UInt8)),a.length<f->a.length=b.length->a.length<=4096->((z3i f a b).isSome=true ↔ (a ≠ b/\ zz (lvs a)=zz (lvs b)))
 | 0,a,b,h,_,_=>by omega
 |f+1,a,b,h,hl,hm=>by
  rw [zab]
  by_cases he:a=b
  ·rw [if_pos (.inr (.inr he))]
   simp [he]
  rw [if_neg (by simp only [not_or,Decidable.not_not];exact⟨hl,by omega,he⟩)]
  have hp:0<a.length:=by
   rcases Nat.eq_zero_or_pos a.length with h0|h0
   ·exact absurd (by rw [List.eq_nil_of_length_eq_zero h0,List.eq_nil_of_length_eq_zero (l:=b) (by omega)]) he
   ·exact h0
  rw [ziy hp,ziy (L:=b) (by omega)]
  by_cases hr:zz (lvs a)=zz (lvs b)
  ·rw [if_neg (by simpa using hr)]
   by_cases ht:z15 a=z15 b
   ·rw [if_neg (by simpa using ht)]
    have h2:=zac hl he ht
    obtain⟨s1,s2,s3⟩:=z49 h2
    rw [zbg h2,zbg (by omega),<-hl]at ht
    simp only [List.cons.injEq,true_and]at ht
    have ht2:=List.append_inj ht (by rw [(zz _).2,(zz _).2])
    have e1:zz (lvs (a.take (zm a.length)))=zz (lvs (b.take (zm a.length))):=Subtype.ext ht2.1
    have e2:zz (lvs (a.drop (zm a.length)))=zz (lvs (b.drop (zm a.length))):=Subtype.ext ht2.2
    split
    ·rename_i hk
     rw [zca f _ _ (by rw [List.length_drop];omega) (by rw [List.length_drop,List.length_drop,hl]) (by rw [List.length_drop];omega)]
     constructor
     ·exact fun _=>⟨he,hr⟩
     ·intro _
      refine⟨fun hd=>he ?_,e2⟩
      rw [<-List.take_append_drop (zm a.length) a,<-List.take_append_drop (zm a.length) b,hk,hd]
    ·rename_i hk
     rw [zca f _ _ (by rw [List.length_take];omega) (by rw [List.length_take,List.length_take,hl]) (by rw [List.length_take];omega)]
     constructor
     ·exact fun _=>⟨he,hr⟩
     ·exact fun _=>⟨hk,e1⟩
   ·rw [if_pos ht]
    simp [he,hr]
  ·rw [if_pos hr]
   simp [hr]
end
section
attribute [local irreducible] ACallsTo ACallsP
end
section
def rfC(seed:List UInt8)(lg hv:AV):List AV:=[.str seed,.vsl 32 (hr (keyL seed)) false,lg,hv]
def RfIs(O:Store)(r:Nat)(seed:List UInt8)(L:List (List UInt8))(H:List Hdr)(own:List Nat):Prop:=
 ∃lg hv sl sh,own=r::(Option.toList sl++Option.toList sh)/\ O[r]? =some (some [rfC seed lg hv])/\ RowAt 1 O sl lg (strs L)/\ RowAt 36 O sh hv (hdrs H)
theorem RfIs.lt{O:Store}{r:Nat}{seed:List UInt8}{L:List (List UInt8)}{H:List Hdr}{own:List Nat}(h:RfIs O r seed L H own){j:Nat}(hj:j ∈ own):j<O.length:=by
 obtain⟨lg,hv,sl,sh,rfl,hg,h1,h2⟩:=h
 simp only [List.mem_cons,List.mem_append,Option.mem_toList]at hj
 rcases hj with rfl|h|h
 ·exact slen hg
 ·exact h1.lt h
 ·exact h2.lt h
theorem RfIs.keep{O O':Store}{r:Nat}{seed:List UInt8}{L:List (List UInt8)}{H:List Hdr}{own:List Nat}(h:RfIs O r seed L H own)(hk:∀j,j ∈ own->O'[j]? =O[j]?):RfIs O' r seed L H own:=by
 obtain⟨lg,hv,sl,sh,rfl,hg,h1,h2⟩:=h
 refine⟨lg,hv,sl,sh,rfl,?_,h1.keep fun q e=>hk q ?_,h2.keep fun q e=>hk q ?_⟩
 ·rw [hk r (by simp)];exact hg
 all_goals simp [e]
theorem RfIs.ext{O O':Store}{r:Nat}{seed:List UInt8}{L:List (List UInt8)}{H:List Hdr}{own:List Nat}(h:RfIs O r seed L H own)(he:Ext O O'):RfIs O' r seed L H own:=by
 obtain⟨y,rfl⟩:=he
 exact h.keep fun j hj=>gapp (h.lt hj)
def RAppendP(O:Store)(r:Nat)(seed:List UInt8)(L:List (List UInt8))(H:List Hdr)(own:List Nat)(s:List UInt8)(a:AV)(O':Store):Prop:=
 a=.int .i64 (apE s)/\ ∃own',Fr O O' own own'/\ RfIs O' r seed (apL L s) H own'
theorem RAppendP.ok{O O':Store}{r q:Nat}{seed:List UInt8}{L:List (List UInt8)}{H:List Hdr}{s:List UInt8}{hv:AV}{sl sh:Option Nat}(h200:¬200<s.length)
  (hg:O'[r]? =some (some [rfC seed (.sl q 0 (L.length+1) none 1) hv])) (h1:O'[q]? =some (some (strs (L++ [s])))) (h2:RowAt 36 O' sh hv (hdrs H)) (hq:O.length<=q) (hle:O.length<=O'.length) (hst:∀j,j<O.length->j ≠ r->O'[j]? =O[j]?):
  RAppendP O r seed L H (r::(Option.toList sl++Option.toList sh)) s (.int .i64 0) O':=by
 refine⟨by unfold apE;rw [if_neg h200],r::(Option.toList (some q)++Option.toList sh),⟨fun j hj hn=> ?_,fun j hj=> ?_,hle⟩,?_⟩
 ·simp only [List.mem_cons,List.mem_append,Option.mem_toList,not_or]at hn
  exact hst j hj hn.1
 ·simp only [List.mem_cons,List.mem_append,Option.mem_toList,Option.some.injEq]at hj ⊢
  rcases hj with h|h|h
  ·exact .inl (.inl h)
  ·exact .inr (by omega)
  ·exact .inl (.inr (.inr h))
 ·unfold apL
  rw [if_neg h200]
  exact⟨_,hv,some q,sh,rfl,hg,.inr ⟨q,rfl,zec (by simp),by rw [zi,List.length_append];rfl,h1⟩,h2⟩
theorem zr9(seed:List UInt8)(lg hv:AV):(rfC seed lg hv).length=4:=rfl
theorem RAppendP.is{O:Store}{r:Nat}{seed:List UInt8}{L:List (List UInt8)}{H:List Hdr}{own:List Nat}{s:List UInt8}(hT:RfIs O r seed L H own):∃a O',RAppendP O r seed L H own s a O':=by
 by_cases h:200<s.length
 ·exact⟨_,O,rfl,own,.ext (.refl _),by unfold apL;rw [if_pos h];exact hT⟩
 ·obtain⟨lg,hv,sl,sh,rfl,hg,h1,h2⟩:=hT
  have d:=slen hg
  have hst:∀j,j<O.length->j ≠ r->((O.set r (some [rfC seed (.sl O.length 0 (L.length+1) none 1) hv]))++ [some (strs (L++ [s]))])[j]? =O[j]?:=fun j hj hjr=>by
   rw [gapp (by simpa using hj),z1r (fun e=>hjr e.symm)]
  refine⟨_,(O.set r (some [rfC seed (.sl O.length 0 (L.length+1) none 1) hv]))++ [some (strs (L++ [s]))],.ok (q:=O.length) h ?_ ?_ (h2.keep fun j e=>hst j (h2.lt e) (h2.ne z5y hg (b:=rfC seed lg hv) rfl (by rw [zr9];omega) j e)) (Nat.le_refl _) (by simp) hst⟩
  ·rw [gapp (by simpa using d),z38 d]
  ·rw [z1i (by simp)];simp
attribute [local irreducible] ACallsTo ACallsP
end
section
set_option maxRecDepth 10000
def q20r0:yW:=[
 yI 0 (.mv (.v (.bool false)))]
def q20r1:yW:=[
 yI 15 (.lit 1 [(.v (.str [97])),(.v (.str [98]))]),
 yI 16 (.lit 1 [(.v (.str [97])),(.v (.str [98]))]),
 yD 17 9 15 16,
 yM 14 17,
 yE 18 0 14,
 yE 19 1 14,
 yE 20 2 14,
 yM 1 18,
 yM 2 19,
 yM 3 20]
def q20r2:yW:=[
 yI 22 (.lit 1 [(.v (.str [97])),(.v (.str [98]))]),
 yI 23 (.lit 1 [(.v (.str [97])),(.v (.str [99]))]),
 yD 24 9 22 23,
 yM 21 24,
 yE 25 0 21,
 yE 26 1 21,
 yE 27 2 21,
 yM 4 25,
 yM 5 26,
 yM 6 27]
def q20r3:yW:=[
 yI 29 (.lit 1 [(.v (.str [97]))]),
 yI 30 (.call (.v (.fn 9 [])) [(.v .nilsl),(.t 29)]),
 yM 28 30,
 yE 31 0 28,
 yE 32 1 28,
 yE 33 2 28,
 yM 7 31,
 yM 8 32,
 yM 9 33]
def q20r4:yW:=[
 yI 34 (.call (.v (.fn 10 [])) [(.v (.str [102]))]),
 yM 10 34]
def q20r5:yW:=[
 yM 35 10,
 yI 36 (.call (.v (.fn 11 [])) [(.t 35),(.v (.str [97]))]),
 yM 11 36]
def q20r6:yW:=[
 yM 38 10,
 yC 39 12 38,
 yM 37 39,
 yE 40 0 37,
 yE 41 1 37,
 yI 12 (.alloc [(.int .i64 0),(.int .u8 0),(.int .u8 0),(.int .u8 0),(.int .u8 0),(.int .u8 0),(.int .u8 0),(.int .u8 0),(.int .u8 0),(.int .u8 0),(.int .u8 0),(.int .u8 0),(.int .u8 0),(.int .u8 0),(.int .u8 0),(.int .u8 0),(.int .u8 0),(.int .u8 0),(.int .u8 0),(.int .u8 0),(.int .u8 0),(.int .u8 0),(.int .u8 0),(.int .u8 0),(.int .u8 0),(.int .u8 0),(.int .u8 0),(.int .u8 0),(.int .u8 0),(.int .u8 0),(.int .u8 0),(.int .u8 0),(.int .u8 0),(.int .i64 0),(.str []),.nilsl]),
 yS 36 12 40,
 yM 13 41]
def q20r7:yW:=[
 yM 42 3,
 yI 43 (.un .not (.t 42)),
 yM 44 43,
 yV 45 44 true 6,
 yG 46 44 true (.un .not (.t 45)),
 yQ 47 44 46,
 yM 48 47,
 yV 49 48 true 9,
 yG 50 48 true (.un .not (.t 49)),
 yQ 51 48 50,
 yM 52 51,
 yV 53 52 true 11,
 yG 54 52 true (.bin .eql .none (.t 53) (.v (.int .i64 0))),
 yQ 55 52 54,
 yM 56 55,
 yV 57 56 true 13,
 yG 58 56 true (.bin .eql .none (.t 57) (.v (.int .i64 0))),
 yQ 59 56 58,
 yM 60 59,
 yV 61 60 true 10,
 ⟨some 62,some (60,true),.ef,.call (.v (.fn 13 [])) [(.t 61)]⟩,
 ⟨some 63,some (60,true),.rd,.load true 36 (.t 12)⟩,
 yV 64 60 true 10,
 ⟨some 65,some (60,true),.ef,.call (.v (.fn 14 [])) [(.t 64)]⟩,
 yG 66 60 true (.call (.v (.fn 8 [])) [(.t 62),(.t 63),(.t 65)]),
 yG 67 60 true (.un .not (.t 66)),
 yQ 68 60 67,
 yM 69 68,
 yV 70 69 true 10,
 ⟨some 71,some (69,true),.ef,.call (.v (.fn 13 [])) [(.t 70)]⟩,
 ⟨some 72,some (69,true),.rd,.load true 36 (.t 12)⟩,
 yG 73 69 true (.call (.v (.fn 8 [])) [(.t 71),(.t 72),(.v .nilsl)]),
 yQ 74 69 73,
 yM 75 74,
 yG 76 75 true (.build zZ0 []),
 yU 77 75 true true 36 12,
 yG 78 75 true (.call (.v (.fn 8 [])) [(.t 76),(.t 77),(.v .nilsl)]),
 yG 79 75 true (.un .not (.t 78)),
 yQ 80 75 79,
 yM 0 80]
def q20c8:yX:=yq q20r7 .ret
def q20c9:yX:=yq q20r6 q20c8
def q20c10:yX:=yq q20r5 q20c9
def q20c11:yX:=yq q20r4 q20c10
def q20c12:yX:=yq q20r3 q20c11
def q20c13:yX:=yq q20r2 q20c12
def q20c14:yX:=yq q20r1 q20c13
def q20c15:yX:=yq q20r0 q20c14
attribute [go_sem] q20r0 q20r1 q20r2 q20r3 q20r4 q20r5 q20r6 q20r7
theorem q20ok:cFn TC 5=some (81,[.t 0],q20c15):=by kernel_rfl
def q21r0:yW:=[
 yI 4 (.mv (.v (.str []))),
 yI 5 (.mv (.v (.str []))),
 yI 6 (.mv (.v (.bool false)))]
def q21r1:yW:=[
 yM 13 0,
 yI 14 (.lenSl (.t 13)),
 yJ 15 .gtr 14 .i64 0,
 yM 16 15,
 yV 17 16 true 0,
 yG 18 16 true (.lenSl (.t 17)),
 yV 19 16 true 1,
 yG 20 16 true (.lenSl (.t 19)),
 yG 21 16 true (.bin .eql .none (.t 18) (.t 20)),
 yQ 22 16 21,
 yM 23 22,
 yV 24 23 true 0,
 yG 25 23 true (.lenSl (.t 24)),
 yG 26 23 true (.bin .leq .none (.t 25) (.v (.int .i64 4096))),
 yQ 27 23 26,
 yM 28 27,
 yV 29 28 true 0,
 yV 30 28 true 1,
 yG 31 28 true (.call (.v (.fn 19 [])) [(.t 29),(.t 30)]),
 yG 32 28 true (.un .not (.t 31)),
 yQ 33 28 32]
def q21c2:yX:=.cond (.t 33) .skip (.exit 0)
def q21c3:yX:=yq q21r1 q21c2
def q21r4:yW:=[
 yM 35 0,
 yC 36 20 35,
 yM 34 36,
 yE 37 0 34,
 yE 38 1 34,
 yE 39 2 34,
 yM 7 37,
 yM 8 38,
 yM 9 39]
def q21r5:yW:=[
 yM 41 1,
 yC 42 20 41,
 yM 40 42,
 yE 43 0 40,
 yE 44 1 40,
 yE 45 2 40,
 yM 10 43,
 yM 11 44,
 yM 12 45]
def q21r6:yW:=[
 yM 49 7,
 yC 50 21 49,
 yM 51 10,
 yC 52 21 51,
 yI 53 (.bin .neq (.agg (List.replicate 32 (.i .u8)++ [])) (.t 50) (.t 52)),
 yM 48 53]
def q21r7:yW:=[
 yI 4 (.mv (.v (.str []))),
 yI 5 (.mv (.v (.str []))),
 yI 6 (.mv (.v (.bool false)))]
def q21c8:yX:=yq q21r7 .ret
def q21r9:yW:=[
 yM 55 7,
 yM 56 10,
 yB 57 .neq 55 56,
 yM 54 57]
def q21r10:yW:=[
 yM 58 7,
 yM 59 10,
 yM 4 58,
 yM 5 59,
 yI 6 (.mv (.v (.bool true)))]
def q21c11:yX:=yq q21r10 .ret
def q21r12:yW:=[
 yM 61 8,
 yM 62 11,
 yD 63 19 61 62,
 yM 60 63]
def q21r13:yW:=[
 yM 64 9,
 yM 65 12,
 yM 0 64,
 yM 1 65]
def q21r14:yW:=[
 yM 46 8,
 yM 47 11,
 yM 0 46,
 yM 1 47]
def q21c15:yX:=.cond (.t 60) (.reg q21r13) (.reg q21r14)
def q21c16:yX:=yq q21r12 q21c15
def q21c17:yX:=.cond (.t 54) q21c11 q21c16
def q21c18:yX:=yq q21r9 q21c17
def q21c19:yX:=.cond (.t 48) q21c8 q21c18
def q21c20:yX:=yq q21r6 q21c19
def q21c21:yX:=.block 2 q21c20
def q21c22:yX:=yq q21r5 q21c21
def q21c23:yX:=yq q21r4 q21c22
def q21c24:yX:=.block 1 q21c23
def q21c25:yX:=.seq q21c3 q21c24
def q21c26:yX:=.loop q21c25
def q21r27:yW:=[
 yI 4 (.mv (.v (.str []))),
 yI 5 (.mv (.v (.str []))),
 yI 6 (.mv (.v (.bool false)))]
def q21c28:yX:=yq q21r27 .ret
def q21c29:yX:=.seq (.block 0 q21c26) q21c28
def q21c30:yX:=yq q21r0 q21c29
attribute [go_sem] q21r0 q21r1 q21r4 q21r5 q21r6 q21r7 q21r9 q21r10 q21r12 q21r13 q21r14 q21r27
theorem q21ok:cFn TC 9=some (66,[.t 4,.t 5,.t 6],q21c30):=by kernel_rfl
def q22r0:yW:=[
 yI 5 (.box (.t 0)),
 yI 9 (.box (.t 4)),
 yI 10 (.alloc [(.str []),(.str []),(.bool false)]),
 yI 11 (.mv (.v (.bool false)))]
def q22r1:yW:=[
 yL 15 true 32 5,
 yL 16 true 36 9,
 yM 17 2,
 yI 18 (.call (.v (.fn 8 [])) [(.t 15),(.t 16),(.t 17)])]
def q22r2:yW:=[
 yI 19 (.build [(.str []),(.str []),(.bool false)] [(2,1,(.v (.bool true)))]),
 yS 3 10 19,
 yI 11 (.mv (.v (.bool true)))]
def q22c3:yX:=yq q22r2 .ret
def q22c4:yX:=.cond (.t 18) q22c3 .skip
def q22c5:yX:=yq q22r1 q22c4
def q22r6:yW:=[
 yM 20 3,
 yI 21 (.lenSl (.t 20)),
 yM 22 1,
 yI 23 (.lenSl (.t 22)),
 yB 24 .gtr 21 23]
def q22r7:yW:=[
 yI 25 (.build [(.str []),(.str []),(.bool false)] []),
 yS 3 10 25,
 yI 11 (.mv (.v (.bool false)))]
def q22c8:yX:=yq q22r7 .ret
def q22c9:yX:=.cond (.t 24) q22c8 .skip
def q22c10:yX:=yq q22r6 q22c9
def q22r11:yW:=[
 yM 27 1,
 yM 28 3,
 yI 29 (.lenSl (.t 28)),
 yI 30 (.slice (.sl 1) (.t 27) none (some (.t 29)) none),
 yM 31 3,
 yD 32 9 30 31,
 yM 26 32,
 yE 33 0 26,
 yE 34 1 26,
 yE 35 2 26,
 yM 12 33,
 yM 13 34,
 yM 14 35]
def q22r12:yW:=[
 yM 36 14,
 yI 37 (.un .not (.t 36))]
def q22r13:yW:=[
 yI 38 (.build [(.str []),(.str []),(.bool false)] []),
 yS 3 10 38,
 yI 11 (.mv (.v (.bool false)))]
def q22c14:yX:=yq q22r13 .ret
def q22c15:yX:=.cond (.t 37) q22c14 .skip
def q22c16:yX:=yq q22r12 q22c15
def q22r17:yW:=[
 yM 39 12,
 yM 40 13,
 yI 41 (.build [(.str []),(.str []),(.bool false)] [(0,1,(.t 39)),(1,1,(.t 40))]),
 yS 3 10 41,
 yI 11 (.mv (.v (.bool true)))]
def q22c18:yX:=yq q22r17 .ret
def q22c19:yX:=.seq q22c16 q22c18
def q22c20:yX:=yq q22r11 q22c19
def q22c21:yX:=.seq q22c10 q22c20
def q22c22:yX:=.seq q22c5 q22c21
def q22c23:yX:=yq q22r0 q22c22
attribute [go_sem] q22r0 q22r1 q22r2 q22r6 q22r7 q22r11 q22r12 q22r13 q22r17
theorem q22ok:cFn TC 7=some (42,[.c 10 true 3,.t 11],q22c23):=by kernel_rfl
def q23r0:yW:=[
 yI 3 (.box (.t 0)),
 yI 4 (.box (.t 1)),
 yI 6 (.mv (.v (.bool false)))]
def q23r1:yW:=[
 yL 7 true 32 3,
 yL 8 true 36 4,
 yD 9 16 7 8,
 yJ 10 .eql 9 .i64 0,
 yM 11 10,
 yV 12 11 true 2,
 yG 13 11 true (.mkfn 18 [(.t 4)]),
 yG 14 11 true (.call (.v (.fn 17 [])) [(.t 12),(.t 13)]),
 yG 15 11 true (.un .not (.t 14)),
 yQ 16 11 15,
 yM 6 16]
def q23c2:yX:=yq q23r1 .ret
def q23c3:yX:=yq q23r0 q23c2
attribute [go_sem] q23r0 q23r1
theorem q23ok:cFn TC 8=some (17,[.t 6],q23c3):=by kernel_rfl
def q24r0:yW:=[
 yI 4 (.mv (.v (.bool false)))]
def q24r1:yW:=[
 yM 6 0,
 yI 7 (.lenSl (.t 6)),
 yM 8 1,
 yI 9 (.lenSl (.t 8)),
 yB 10 .neq 7 9]
def q24r2:yW:=[
 yI 4 (.mv (.v (.bool false)))]
def q24c3:yX:=yq q24r2 .ret
def q24c4:yX:=.cond (.t 10) q24c3 .skip
def q24c5:yX:=yq q24r1 q24c4
def q24r6:yW:=[
 yM 11 0,
 yI 12 (.lenSl (.t 11)),
 yK 13 .i64 0]
def q24r7:yW:=[
 yB 14 .lss 13 12]
def q24r8:yW:=[
 yM 15 13,
 yM 5 15]
def q24r9:yW:=[
 yM 16 0,
 yM 17 5,
 yI 18 (.iaSl 1 (.t 16) (.t 17)),
 ⟨some 19,none,.rd,.load false 1 (.t 18)⟩,
 yM 20 1,
 yM 21 5,
 yI 22 (.iaSl 1 (.t 20) (.t 21)),
 ⟨some 23,none,.rd,.load false 1 (.t 22)⟩,
 yB 24 .neq 19 23]
def q24r10:yW:=[
 yI 4 (.mv (.v (.bool false)))]
def q24c11:yX:=yq q24r10 .ret
def q24c12:yX:=.cond (.t 24) q24c11 .skip
def q24c13:yX:=yq q24r9 q24c12
def q24c14:yX:=yq q24r8 q24c13
def q24r15:yW:=[
 yJ 25 .add 13 .i64 1,
 yM 13 25]
def q24c16:yX:=.seq (.block 1 q24c14) (.reg q24r15)
def q24c17:yX:=.seq (.cond (.t 14) .skip (.exit 0)) q24c16
def q24c18:yX:=yq q24r7 q24c17
def q24c19:yX:=.loop q24c18
def q24c20:yX:=.block 0 q24c19
def q24c21:yX:=yq q24r6 q24c20
def q24r22:yW:=[
 yI 4 (.mv (.v (.bool true)))]
def q24c23:yX:=yq q24r22 .ret
def q24c24:yX:=.seq q24c21 q24c23
def q24c25:yX:=.seq q24c5 q24c24
def q24c26:yX:=yq q24r0 q24c25
attribute [go_sem] q24r0 q24r1 q24r2 q24r6 q24r7 q24r8 q24r9 q24r10 q24r15 q24r22
theorem q24ok:cFn TC 19=some (26,[.t 4],q24c26):=by kernel_rfl
def q25r0:yW:=[
 yI 2 (.mv (.v (.str []))),
 yI 3 (.mv (.v .nilsl)),
 yI 4 (.mv (.v .nilsl))]
def q25r1:yW:=[
 yM 8 0,
 yI 9 (.lenSl (.t 8)),
 yJ 10 .lss 9 .i64 2]
def q25r2:yW:=[
 yM 11 0,
 yI 12 (.iaSl 1 (.t 11) (.v (.int .i64 0))),
 yL 13 false 1 12,
 yI 14 (.bin .add .none (.v (.str [0])) (.t 13)),
 yM 2 14,
 yI 3 (.mv (.v .nilsl)),
 yI 4 (.mv (.v .nilsl))]
def q25c3:yX:=yq q25r2 .ret
def q25c4:yX:=.cond (.t 10) q25c3 .skip
def q25c5:yX:=yq q25r1 q25c4
def q25r6:yW:=[
 yM 15 0,
 yI 16 (.lenSl (.t 15)),
 yC 17 37 16,
 yM 5 17]
def q25r7:yW:=[
 yM 18 0,
 yM 19 5,
 yI 20 (.slice (.sl 1) (.t 18) none (some (.t 19)) none),
 yM 21 0,
 yM 22 5,
 yI 23 (.slice (.sl 1) (.t 21) (some (.t 22)) none none),
 yM 3 20,
 yM 4 23]
def q25r8:yW:=[
 yM 24 3,
 yC 25 38 24,
 yM 26 4,
 yC 27 38 26,
 yI 6 (.alloc zZ0),
 yI 7 (.alloc zZ0),
 yS 32 6 25,
 yS 32 7 27]
def q25r9:yW:=[
 yI 28 (.slice (.arr 32 1) (.t 6) none none none),
 ⟨some 29,none,.same,.conv .str (.t 28)⟩,
 yI 30 (.bin .add .none (.v (.str [1])) (.t 29)),
 yI 31 (.slice (.arr 32 1) (.t 7) none none none),
 ⟨some 32,none,.same,.conv .str (.t 31)⟩,
 yB 33 .add 30 32,
 yM 34 3,
 yM 35 4,
 yM 2 33,
 yM 3 34,
 yM 4 35]
def q25c10:yX:=yq q25r9 .ret
def q25c11:yX:=yq q25r8 q25c10
def q25c12:yX:=yq q25r7 q25c11
def q25c13:yX:=yq q25r6 q25c12
def q25c14:yX:=.seq q25c5 q25c13
def q25c15:yX:=yq q25r0 q25c14
attribute [go_sem] q25r0 q25r1 q25r2 q25r6 q25r7 q25r8 q25r9
theorem q25ok:cFn TC 20=some (36,[.t 2,.t 3,.t 4],q25c15):=by kernel_rfl
def q26r0:yW:=[
 yI 4 (.mv (.v (.bool false)))]
def q26r1:yW:=[
 yM 5 0,
 yM 6 1,
 yD 7 36 5 6,
 yJ 8 .geq 7 .i64 0,
 yM 4 8]
def q26c2:yX:=yq q26r1 .ret
def q26c3:yX:=yq q26r0 q26c2
attribute [go_sem] q26r0 q26r1
theorem q26ok:cFn TC 17=some (9,[.t 4],q26c3):=by kernel_rfl
def q27r0:yW:=[
 yI 2 (.box (.t 0)),
 yI 3 (.mv (.v (.bool false)))]
def q27r1:yW:=[
 yF 4 0 2,
 yL 5 true 33 4,
 yF 6 0 1,
 yL 7 true 33 6,
 yI 8 (.bin .eql (.agg ([(.i .i64)]++(List.replicate 32 (.i .u8)++ []))) (.t 5) (.t 7)),
 yM 3 8]
def q27c2:yX:=yq q27r1 .ret
def q27c3:yX:=yq q27r0 q27c2
attribute [go_sem] q27r0 q27r1
theorem q27ok:cFn TC 18=some (9,[.t 3],q27c3):=by kernel_rfl
def q28r0:yW:=[
 yI 2 (.alloc zZ0)]
def q28r1:yW:=[
 yI 3 (.mv (.v .nilsl))]
def q28r2:yW:=[
 yM 6 0,
 yI 7 (.lenSl (.t 6)),
 yK 8 .i64 0]
def q28r3:yW:=[
 yB 9 .lss 8 7]
def q28r4:yW:=[
 yI 10 (.iaSl 1 (.t 6) (.t 8)),
 yL 11 false 1 10,
 yM 5 11]
def q28r5:yW:=[
 yM 12 3,
 yM 13 5,
 yC 14 24 13,
 yI 15 (.lit 32 [(.t 14)]),
 yI 16 (.app 32 (.t 12) (.t 15)),
 yM 3 16]
def q28c6:yX:=yq q28r4 (.reg q28r5)
def q28r7:yW:=[
 yJ 17 .add 8 .i64 1,
 yM 8 17]
def q28c8:yX:=.seq (.block 1 q28c6) (.reg q28r7)
def q28c9:yX:=.seq (.cond (.t 9) .skip (.exit 0)) q28c8
def q28c10:yX:=yq q28r3 q28c9
def q28c11:yX:=.loop q28c10
def q28c12:yX:=.block 0 q28c11
def q28c13:yX:=yq q28r2 q28c12
def q28r14:yW:=[
 yM 18 3,
 yC 19 46 18,
 yS 32 2 19]
def q28c15:yX:=yq q28r14 .ret
def q28c16:yX:=.seq q28c13 q28c15
def q28c17:yX:=yq q28r1 q28c16
def q28c18:yX:=yq q28r0 q28c17
attribute [go_sem] q28r0 q28r1 q28r2 q28r3 q28r4 q28r5 q28r7 q28r14
theorem q28ok:cFn TC 38=some (20,[.c 2 true 32],q28c18):=by kernel_rfl
def q29r0:yW:=[
 yK 4 .i64 0]
def q29r1:yW:=[
 yM 6 0,
 yI 7 (.lenSl (.t 6)),
 yK 8 .i64 0]
def q29r2:yW:=[
 yB 9 .lss 8 7]
def q29r3:yW:=[
 yM 10 8,
 yM 5 10]
def q29r4:yW:=[
 yM 11 1,
 yM 12 0,
 yM 13 5,
 yI 14 (.iaSl 36 (.t 12) (.t 13)),
 yL 15 true 36 14,
 yI 16 (.call (.t 11) [(.t 15)])]
def q29r5:yW:=[
 yM 17 5,
 yM 4 17]
def q29c6:yX:=yq q29r5 .ret
def q29c7:yX:=.cond (.t 16) q29c6 .skip
def q29c8:yX:=yq q29r4 q29c7
def q29c9:yX:=yq q29r3 q29c8
def q29r10:yW:=[
 yJ 18 .add 8 .i64 1,
 yM 8 18]
def q29c11:yX:=.seq (.block 1 q29c9) (.reg q29r10)
def q29c12:yX:=.seq (.cond (.t 9) .skip (.exit 0)) q29c11
def q29c13:yX:=yq q29r2 q29c12
def q29c14:yX:=.loop q29c13
def q29c15:yX:=.block 0 q29c14
def q29c16:yX:=yq q29r1 q29c15
def q29r17:yW:=[
 yI 4 (.mv (.v (.int .i64 (-1))))]
def q29c18:yX:=yq q29r17 .ret
def q29c19:yX:=.seq q29c16 q29c18
def q29c20:yX:=yq q29r0 q29c19
attribute [go_sem] q29r0 q29r1 q29r2 q29r3 q29r4 q29r5 q29r10 q29r17
theorem q29ok:cFn TC 36=some (19,[.t 4],q29c20):=by kernel_rfl
end
section
set_option maxRecDepth 10000
def q2ar0:yW:=[
 yI 3 (.box (.t 0)),
 yI 6 (.mv (.v (.bool false)))]
def q2ar1:yW:=[
 yM 11 1,
 yI 12 (.lenSl (.t 11)),
 yJ 13 .gtr 12 .i64 8,
 yM 14 13,
 yV 15 14 false 2,
 yG 16 14 false (.call (.v (.fn 4 [])) [(.t 15)]),
 yP 17 14 16,
 yM 18 17,
 yT 19 18 false 33 3,
 yT 20 18 false 1 19,
 yU 21 18 false false 1 20,
 yG 22 18 false (.lenStr (.t 21)),
 yG 23 18 false (.bin .gtr .none (.t 22) (.v (.int .i64 17000))),
 yP 24 18 23,
 yM 25 24,
 yT 26 25 false 33 3,
 yT 27 25 false 2 26,
 yU 28 25 false false 1 27,
 yG 29 25 false (.lenSl (.t 28)),
 yG 30 25 false (.bin .gtr .none (.t 29) (.v (.int .i64 10))),
 yP 31 25 30]
def q2ar2:yW:=[
 yI 32 (.call (.v (.fn 5 [])) []),
 yM 6 32]
def q2ac3:yX:=yq q2ar2 .ret
def q2ac4:yX:=.cond (.t 31) q2ac3 .skip
def q2ac5:yX:=yq q2ar1 q2ac4
def q2ar6:yW:=[
 yF 33 0 3,
 yF 34 1 33,
 yL 35 true 32 34,
 yI 7 (.alloc zZ0),
 yS 32 7 35]
def q2ar7:yW:=[
 yL 36 true 32 7,
 yL 37 true 36 3,
 yM 38 1,
 yI 39 (.call (.v (.fn 6 [])) [(.t 36),(.t 37),(.t 38)]),
 yM 8 39]
def q2ar8:yW:=[
 yL 41 true 32 7,
 yM 42 2,
 yM 43 1,
 yM 44 2,
 yL 45 true 36 3,
 yI 46 (.call (.v (.fn 7 [])) [(.t 41),(.t 42),(.t 43),(.t 44),(.t 45)]),
 yM 40 46,
 yE 47 0 40,
 yE 48 1 40,
 yI 9 (.alloc [(.str []),(.str []),(.bool false)]),
 yS 3 9 47,
 yM 10 48]
def q2ar9:yW:=[
 yL 49 true 32 7,
 yL 50 true 36 3,
 yM 51 1,
 yI 52 (.call (.v (.fn 8 [])) [(.t 49),(.t 50),(.t 51)]),
 yM 53 8,
 yI 54 (.bin .eql .bool (.t 52) (.t 53)),
 yM 55 54,
 yV 56 55 true 10,
 yV 57 55 true 8,
 yG 58 55 true (.bin .eql .bool (.t 56) (.t 57)),
 yQ 59 55 58,
 yM 60 59,
 yU 61 60 true true 3 9,
 yV 62 60 true 8,
 yG 63 60 true (.build [(.str []),(.str []),(.bool false)] [(2,1,(.t 62))]),
 yG 64 60 true (.bin .eql (.agg ([.s,.s,.b]++ [])) (.t 61) (.t 63)),
 yQ 65 60 64,
 yM 66 65,
 yG 67 66 true (.call (.v (.fn 5 [])) []),
 yQ 68 66 67,
 yM 6 68]
def q2ac10:yX:=yq q2ar9 .ret
def q2ac11:yX:=yq q2ar8 q2ac10
def q2ac12:yX:=yq q2ar7 q2ac11
def q2ac13:yX:=yq q2ar6 q2ac12
def q2ac14:yX:=.seq q2ac5 q2ac13
def q2ac15:yX:=yq q2ar0 q2ac14
attribute [go_sem] q2ar0 q2ar1 q2ar2 q2ar6 q2ar7 q2ar8 q2ar9
theorem q2aok:cFn TC 3=some (69,[.t 6],q2ac15):=by kernel_rfl
def q2br0:yW:=[
 yI 3 (.box (.t 0)),
 yI 4 (.box (.t 1)),
 yI 6 (.mv (.v (.bool false)))]
def q2br1:yW:=[
 yK 7 .i64 0]
def q2br2:yW:=[
 yM 8 7,
 yM 9 2,
 yI 10 (.lenSl (.t 9)),
 yB 11 .lss 8 10]
def q2bc3:yX:=.cond (.t 11) .skip (.exit 0)
def q2bc4:yX:=yq q2br2 q2bc3
def q2br5:yW:=[
 yM 14 2,
 yM 15 7,
 yI 16 (.iaSl 36 (.t 14) (.t 15)),
 yF 17 0 16,
 ⟨some 18,none,.rd,.load true 33 (.t 17)⟩,
 yF 19 0 4,
 ⟨some 20,none,.rd,.load true 33 (.t 19)⟩,
 yI 21 (.bin .eql (.agg ([(.i .i64)]++(List.replicate 32 (.i .u8)++ []))) (.t 18) (.t 20))]
def q2br6:yW:=[
 yI 6 (.mv (.v (.bool false)))]
def q2bc7:yX:=yq q2br6 .ret
def q2bc8:yX:=.cond (.t 21) q2bc7 .skip
def q2bc9:yX:=yq q2br5 q2bc8
def q2br10:yW:=[
 yM 12 7,
 yJ 13 .add 12 .i64 1,
 yM 7 13]
def q2bc11:yX:=.seq (.block 1 q2bc9) (.reg q2br10)
def q2bc12:yX:=.seq q2bc4 q2bc11
def q2bc13:yX:=.loop q2bc12
def q2bc14:yX:=.block 0 q2bc13
def q2bc15:yX:=yq q2br1 q2bc14
def q2br16:yW:=[
 yL 22 true 32 3,
 yL 23 true 36 4,
 yD 24 15 22 23,
 yJ 25 .eql 24 .i64 0,
 yM 6 25]
def q2bc17:yX:=yq q2br16 .ret
def q2bc18:yX:=.seq q2bc15 q2bc17
def q2bc19:yX:=yq q2br0 q2bc18
attribute [go_sem] q2br0 q2br1 q2br2 q2br5 q2br6 q2br10 q2br16
theorem q2bok:cFn TC 6=some (26,[.t 6],q2bc19):=by kernel_rfl
end
section
theorem zsx{A B:List (List UInt8)}{i:Nat}(hi:i<A.length)(hl:A.length=B.length)(h:stD A i ≠ stD B i):A ≠ B:=fun e=>h (by rw [e])
theorem zsw{A B:List (List UInt8)}{i:Nat}(hi:i<A.length)(hl:A.length=B.length)(ht:A.take i=B.take i)(h:stD A i=stD B i):A.take (i+1)=B.take (i+1):=by
 rw [zbe hi,zbe (by omega),ht,h]
attribute [local irreducible] ACallsTo ACallsP
theorem zel(O:Store)(A B:List (List UInt8))(x y:AV)(hx:SlV 1 (strs A) x)(hy:SlV 1 (strs B) y)(hl:A.length<1000000)(hl2:B.length<1000000):ACallsTo TC 19 [x,y] O (.bool (decide (A=B))) O:=by
 have r1:=hx.len
 have r2:=hy.len
 rw [zi]at r1 r2
 unfold z1c at r1 r2
 refine ACallsTo.of_body q24ok (by simp) fun hw _=> ?_
 by_cases h0:(A.length:Int)=B.length
 ·repeat' (first|apply zs_|apply zb_|apply zc_|apply zt_ rfl|apply zf_ rfl|(apply zd_ rfl<;>intro ht<;>try omega)|((first|apply zr_|apply zk_|apply ze_|apply zq_|(apply zG<;>intro ht));all_goals try simp (disch:=first|omega|(simp only [lens,z7,z6,lQr,lQm,lQt,lQd,zg,zi,zo,z10];first|done|omega)) only [go_sem,r1,r2,h0]))
  refine zW.loop (fun m Z O'=>∃i:Nat,m+i=A.length/\ O'=O/\ A.take i=B.take i/\ Z 0=x/\ Z 1=y/\ Z 12=.int .i64 A.length/\ Z 13=.int .i64 i) A.length ?_ ?_
  ·exact⟨0,by omega,rfl,by simp,by simp (disch:=first|omega|(simp only [lens,z7,z6,lQr,lQm,lQt,lQd,zg,zi,zo,z10];first|done|omega)) only [go_sem],by simp (disch:=first|omega|(simp only [lens,z7,z6,lQr,lQm,lQt,lQd,zg,zi,zo,z10];first|done|omega)) only [go_sem],by simp (disch:=first|omega|(simp only [lens,z7,z6,lQr,lQm,lQt,lQd,zg,zi,zo,z10];first|done|omega)) only [go_sem,h0],by simp (disch:=first|omega|(simp only [lens,z7,z6,lQr,lQm,lQt,lQd,zg,zi,zo,z10];first|done|omega)) only [go_sem];rfl⟩
  ·rintro m Z O' ⟨i,hm,rfl,ht,q0,q1,q12,q13⟩
   by_cases hi:i<A.length
   ·obtain⟨e1,rfl⟩:=hx.vsl (by rw [zi];omega)
    obtain⟨e2,rfl⟩:=hy.vsl (by rw [zi];omega)
    have hg:=z98 hi
    have hg2:=z98 (L:=B) (i:=i) (by omega)
    have hne:=zsx (A:=A) (B:=B) hi (by omega)
    have hte:=zsw (A:=A) (B:=B) hi (by omega) ht
    rw [show A.getD i []=stD A i from rfl]at hg
    rw [show B.getD i []=stD B i from rfl]at hg2
    have l1:=zi A
    have l2:=zi B
    generalize stD A i=s at*
    generalize stD B i=t at*
    by_cases he:s=t
    ·subst he
     repeat' (first|apply zs_|apply zb_|apply zc_|apply zt_ rfl|apply zf_ rfl|(apply zd_ rfl<;>intro ht<;>try omega)|((first|apply zr_|apply zk_|apply ze_|apply zq_|(apply zG<;>intro ht));all_goals try simp (disch:=first|omega|(simp only [lens,z7,z6,lQr,lQm,lQt,lQd,zg,zi,zo,z10];first|done|omega)) only [go_sem,q0,q1,q12,q13,hg,hg2,l1,l2,bne_self_eq_false,beq_self_eq_true]))
     exact⟨m-1,by omega,i+1,by omega,hte rfl,by simp⟩
    ·have hn:decide (A=B)=false:=decide_eq_false (hne he)
     have hb1:(s==t)=false:=by simpa using he
     have hb2:(s !=t)=true:=by simpa using he
     rw [hn]
     repeat' (first|apply zs_|apply zb_|apply zc_|apply zt_ rfl|apply zf_ rfl|(apply zd_ rfl<;>intro ht<;>try omega)|((first|apply zr_|apply zk_|apply ze_|apply zq_|(apply zG<;>intro ht));all_goals try simp (disch:=first|omega|(simp only [lens,z7,z6,lQr,lQm,lQt,lQd,zg,zi,zo,z10];first|done|omega)) only [go_sem,q0,q1,q12,q13,hg,hg2,l1,l2,hb1,hb2]))
     exact DownV.same hw (z13 _ rfl)
   ·obtain rfl:i=A.length:=by omega
    have he:A=B:=by
     rw [List.take_of_length_le (Nat.le_refl _),List.take_of_length_le (by omega)]at ht
     exact ht
    rw [decide_eq_true he]
    repeat' (first|apply zs_|apply zb_|apply zc_|apply zt_ rfl|apply zf_ rfl|(apply zd_ rfl<;>intro ht<;>try omega)|((first|apply zr_|apply zk_|apply ze_|apply zq_|(apply zG<;>intro ht));all_goals try simp (disch:=first|omega|(simp only [lens,z7,z6,lQr,lQm,lQt,lQd,zg,zi,zo,z10];first|done|omega)) only [go_sem,q0,q1,q12,q13]))
    exact DownV.same hw (z13 _ rfl)
 ·have hn:decide (A=B)=false:=decide_eq_false fun e=>h0 (by rw [e])
  rw [hn]
  repeat' (first|apply zs_|apply zb_|apply zc_|apply zt_ rfl|apply zf_ rfl|(apply zd_ rfl<;>intro ht<;>try omega)|((first|apply zr_|apply zk_|apply ze_|apply zq_|(apply zG<;>intro ht));all_goals try simp (disch:=first|omega|(simp only [lens,z7,z6,lQr,lQm,lQt,lQd,zg,zi,zo,z10];first|done|omega)) only [go_sem,r1,r2,h0]))
  exact DownV.same hw (z13 _ rfl)
theorem zii(O:Store)(L:List (List UInt8))(y:AV)(hy:SlV 1 (strs L) y)(hL:∀s ∈ L,s.length<1000000)(hl:L.length<1000000):ACallsTo TC 38 [y] O (.agg (hc (zz (lvs L)))) O:=by
 have r1:=hy.len
 rw [zi]at r1
 unfold z1c at r1
 refine ACallsTo.of_body q28ok (by simp) fun hw _=> ?_
 repeat' (first|apply zs_|apply zb_|apply zc_|apply zt_ rfl|apply zf_ rfl|(apply zd_ rfl<;>intro ht<;>try omega)|((first|apply zr_|apply zk_|apply ze_|apply zq_|(apply zG<;>intro ht));all_goals try simp (disch:=first|omega|(simp only [lens,z7,z6,lQr,lQm,lQt,lQd,zg,zi,zo,z10];first|done|omega)) only [go_sem,r1,<-z8r]))
 refine zW.loop (fun m Z O'=>∃(i:Nat) (v:AV),m+i=L.length/\ OwnR 32 (O.length+1) O' v (hr (lvs (L.take i)))/\ Ext O O'/\ O.length+1<=O'.length/\ (∃z,O'[O.length]? =some (some [hc z]))/\ Z 2=.ptr O.length 0 0/\ Z 3=v/\ Z 6=y/\ Z 7=.int .i64 L.length/\ Z 8=.int .i64 i) L.length ?_ ?_
 ·exact⟨0,.nilsl,by omega,by simp only [List.take_zero,lvs,List.map_nil,hr];exact OwnR.nil,⟨_,rfl⟩,by simp,⟨zeroH,by simp⟩,by simp (disch:=first|omega|(simp only [lens,z7,z6,lQr,lQm,lQt,lQd,zg,zi,zo,z10];first|done|omega)) only [go_sem],by simp (disch:=first|omega|(simp only [lens,z7,z6,lQr,lQm,lQt,lQd,zg,zi,zo,z10];first|done|omega)) only [go_sem],by simp (disch:=first|omega|(simp only [lens,z7,z6,lQr,lQm,lQt,lQd,zg,zi,zo,z10];first|done|omega)) only [go_sem],by simp (disch:=first|omega|(simp only [lens,z7,z6,lQr,lQm,lQt,lQd,zg,zi,zo,z10];first|done|omega)) only [go_sem],by simp (disch:=first|omega|(simp only [lens,z7,z6,lQr,lQm,lQt,lQd,zg,zi,zo,z10];first|done|omega)) only [go_sem];rfl⟩
 ·rintro m Z O' ⟨i,v,hm,hO,hE,hk,⟨z,he⟩,q2,q3,q6,q7,q8⟩
  by_cases hi:i<L.length
  ·obtain⟨ex,rfl⟩:=hy.vsl (by rw [zi];omega)
   have hg:=z98 hi
   have hLf:=fun O=>zjc O (stD L i) (by have:=hL _ (ze7 hi);omega)
   obtain⟨v',O2,ha,hO2,h5,h6,h7⟩:=hO.app (ys:=[hc (lfH (stD L i))]) hk (by simp) (by rw [z6,zo,List.length_take];simp;omega)
   have hcat:hr (lvs (L.take i))++ [hc (lfH (stD L i))]=hr (lvs (L.take (i+1))):=by rw [zbe hi];simp [lvs,hr]
   rw [hcat]at hO2
   rw [show L.getD i []=stD L i from rfl]at hg
   have l1:=zi L
   have he2:=h5 O.length (by omega)
   rw [he]at he2
   have hE2:=h6 O (by omega) hE
   generalize stD L i=s at*
   repeat' (first|apply zs_|apply zb_|apply zc_|apply zt_ rfl|apply zf_ rfl|(apply zd_ rfl<;>intro ht<;>try omega)|((first|apply zr_|apply zk_|apply ze_|apply zq_|(apply callW.mk_pu;(first|exact(fun _=>hLf _)))|(apply callW.za;(first|exact(hLf _)))|(apply zG<;>intro ht));all_goals try simp (disch:=first|omega|(simp only [lens,z7,z6,lQr,lQm,lQt,lQd,zg,zi,zo,z10];first|done|omega)) only [go_sem,q2,q3,q6,q7,q8,hg,l1,ha]))
   exact⟨m-1,by omega,i+1,v',by omega,hO2,hE2,h7,⟨z,he2⟩,by simp⟩
  ·obtain rfl:i=L.length:=by omega
   rw [List.take_of_length_le (Nat.le_refl _)]at hO
   have hRt:=z9a O' (lvs L) v hO.rd (by rw [zo];omega)
   have hd:=slen he
   have hzl:=z7 z
   have hzd:=zai z
   obtain⟨news,rfl⟩:=hE
   obtain⟨y,rfl⟩:∃y,news=some [hc z]::y:=by
    rw [z1i (by omega),Nat.sub_self]at he
    cases news with
    |nil=>simp at he
    |cons a y=>simp at he;exact⟨y,by rw [he]⟩
   generalize zz (lvs L)=R at*
   have hRl:=z7 R
   repeat' (first|apply zs_|apply zb_|apply zc_|apply zt_ rfl|apply zf_ rfl|(apply zd_ rfl<;>intro ht<;>try omega)|((first|apply zr_|apply zk_|apply ze_|apply zq_|(apply callW.mk_pu;(first|exact(fun _=>hRt)))|(apply callW.za;(first|exact(hRt)))|(apply zG<;>intro ht));all_goals try simp (disch:=first|omega|(simp only [lens,z7,z6,lQr,lQm,lQt,lQd,zg,zi,zo,z10];first|done|omega)) only [go_sem,q2,q3,q6,q7,q8,hzl,hzd,hRl,List.append_nil]))
   exact DownV.pure hw (by simp only [RL];exact z65 _)
end
section
def ptL(L:List (List UInt8)):List (List UInt8):=if L.length<2 then []else L.take (zm L.length)
def ptR(L:List (List UInt8)):List (List UInt8):=if L.length<2 then []else L.drop (zm L.length)
def TxtOk(L:List (List UInt8)):Prop:=(∀s ∈ L,s.length<1000000)/\ L.length<1000000
theorem TxtOk.take{L:List (List UInt8)}(h:TxtOk L)(k:Nat):TxtOk (L.take k):=⟨fun s hs=>h.1 s (List.mem_of_mem_take hs),by have:=h.2;rw [List.length_take];omega⟩
theorem TxtOk.drop{L:List (List UInt8)}(h:TxtOk L)(k:Nat):TxtOk (L.drop k):=⟨fun s hs=>h.1 s (List.mem_of_mem_drop hs),by have:=h.2;rw [List.length_drop];omega⟩
theorem zje{L:List (List UInt8)}(h:TxtOk L):(z15 L).length<2000000:=by
 unfold z15
 split
 ·rw [List.length_cons]
  have:(stD L 0).length<1000000:=by
   cases L with
   |nil=>simp [stD]
   |cons s L=>exact h.1 s (by simp)
  omega
 ·rw [List.length_cons,List.length_append,(zz _).2,(zz _).2]
  omega
def colV:Option (List UInt8 × List UInt8)->AV
 |none=> .tup [.str [],.str [],.bool false]
 |some p=> .tup [.str p.1,.str p.2,.bool true]
attribute [local irreducible] ACallsTo ACallsP
theorem zho(L:List (List UInt8))(y:AV)(hy:SlV 1 (strs L) y)(hL:TxtOk L)(h0:0<L.length):
  ∃l r,SlV 1 (strs (ptL L)) l/\ SlV 1 (strs (ptR L)) r/\ ∀O,ACallsTo TC 20 [y] O (.tup [.str (z15 L),l,r]) O:=by
 have r1:=hy.len
 rw [zi]at r1
 unfold z1c at r1
 obtain⟨ex,rfl⟩:=hy.vsl (by rw [zi];omega)
 have l1:=zi L
 by_cases h1:L.length<2
 ·refine⟨.nilsl,.nilsl,.inl ⟨rfl,by unfold ptL;rw [if_pos h1];rfl⟩,.inl ⟨rfl,by unfold ptR;rw [if_pos h1];rfl⟩,fun O=> ?_⟩
  rw [zbf (by omega)]
  have hg:=z98 h0
  rw [show L.getD 0 []=stD L 0 from rfl]at hg
  have h1':(L.length:Int)<2:=by omega
  have h0':(0:Int)<L.length:=by omega
  have hs0:=hL.1 _ (ze7 h0)
  generalize stD L 0=s at*
  refine ACallsTo.of_body q25ok (by simp) fun hw _=> ?_
  repeat' (first|apply zs_|apply zb_|apply zc_|apply zt_ rfl|apply zf_ rfl|(apply zd_ rfl<;>intro ht<;>try omega)|((first|apply zr_|apply zk_|apply ze_|apply zq_|(apply zG<;>intro ht));all_goals try simp (disch:=first|omega|(simp only [lens,z7,z6,lQr,lQm,lQt,lQd,zg,zi,zo,z10,z8];first|done|omega)) only [go_sem,l1,h1',h0',hg]))
  exact DownV.same hw (by simp [RL,RLs])
 ·have h1':¬(L.length:Int)<2:=by omega
  obtain⟨s1,s2,s3⟩:=z49 (n:=L.length) (by omega)
  have hsp:=fun O=>zbi O L.length (by have:=hL.2;omega)
  rw [zbg (by omega)]
  unfold ptL ptR
  rw [if_neg h1,if_neg h1]
  generalize hk:zm L.length=k at*
  have tk:=zjb L k
  have dk:=zst L k
  refine⟨.vsl 1 (strs (L.take k)) (ex && (k==L.length)),.vsl 1 (strs (L.drop k)) ex,.inr ⟨_,rfl⟩,.inr ⟨_,rfl⟩,fun O=> ?_⟩
  have ha:=fun O b=>zii O (L.take k) (.vsl 1 (strs (L.take k)) b) (.inr ⟨b,rfl⟩) (hL.take k).1 (hL.take k).2
  have hb:=fun O b=>zii O (L.drop k) (.vsl 1 (strs (L.drop k)) b) (.inr ⟨b,rfl⟩) (hL.drop k).1 (hL.drop k).2
  have rta:(strs L).take (strs L).length=strs L:=List.take_of_length_le (Nat.le_refl _)
  rw [l1]at rta
  generalize zz (lvs (L.take k))=A at*
  generalize zz (lvs (L.drop k))=B at*
  have hrs:∀n,RLss n (strs (L.take k)):=fun n=>zdp _
  have hrs2:∀n,RLss n (strs (L.drop k)):=fun n=>zdp _
  have hA:=z7 A
  have hB:=z7 B
  have hAd:=zai A
  have hBd:=zai B
  refine ACallsTo.of_body q25ok (by simp) fun hw _=> ?_
  repeat' (first|apply zs_|apply zb_|apply zc_|apply zt_ rfl|apply zf_ rfl|(apply zd_ rfl<;>intro ht<;>try omega)|((first|apply zr_|apply zk_|apply ze_|apply zq_|(apply callW.mk_pu;(first|exact(fun _=>hsp _)|exact(fun _=>ha _ _)|exact(fun _=>hb _ _)))|(apply callW.za;(first|exact(hsp _)|exact(ha _ _)|exact(hb _ _)))|(apply zG<;>intro ht));all_goals try simp (disch:=first|omega|(simp only [lens,z7,z6,lQr,lQm,lQt,lQd,zg,zi,zo,z10,z8];first|done|omega)) only [go_sem,l1,h1',tk,dk,rta,hA,hB,hAd,hBd,zcq,List.append_nil]))
  exact DownV.pure hw (by simp only [RL,RLs];exact⟨trivial,hrs _,hrs2 _,trivial⟩)
end
section
theorem z7j{k:Nat}(o:Option (List UInt8 × List UInt8)):RL k (colV o):=by
 cases o<;>simp [colV,RL,RLs]
attribute [local irreducible] ACallsTo ACallsP
theorem z9k(O:Store)(A B:List (List UInt8))(x y:AV)(hx:SlV 1 (strs A) x)(hy:SlV 1 (strs B) y)(hA:TxtOk A)(hB:TxtOk B):ACallsTo TC 9 [x,y] O (colV (z36 A B)) O:=by
 refine ACallsTo.of_body q21ok (by simp) fun hw _=> ?_
 repeat' (first|apply zs_|apply zb_|apply zc_|apply zt_ rfl|apply zf_ rfl|(apply zd_ rfl<;>intro ht<;>try omega)|((first|apply zr_|apply zk_|apply ze_|apply zq_|(apply zG<;>intro ht));all_goals try simp (disch:=first|omega|(simp only [lens,z7,z6,lQr,lQm,lQt,lQd,zg,zi,zo,z10,z8];first|done|omega)) only [go_sem]))
 refine zW.loop (fun m Z O'=>∃(a b:List (List UInt8)) (x y:AV),m=a.length/\ z36 A B=z36 a b/\ SlV 1 (strs a) x/\ SlV 1 (strs b) y/\ TxtOk a/\ TxtOk b/\ O'=O/\ Z 0=x/\ Z 1=y) A.length ?_ ?_
 ·exact⟨A,B,x,y,rfl,rfl,hx,hy,hA,hB,rfl,by simp (disch:=first|omega|(simp only [lens,z7,z6,lQr,lQm,lQt,lQd,zg,zi,zo,z10,z8];first|done|omega)) only [go_sem],by simp (disch:=first|omega|(simp only [lens,z7,z6,lQr,lQm,lQt,lQd,zg,zi,zo,z10,z8];first|done|omega)) only [go_sem]⟩
 ·clear hx hy
  rintro m Z O' ⟨a,b,x,y,rfl,hF,hx,hy,ha,hb,rfl,q0,q1⟩
  have r1:=hx.len
  have r2:=hy.len
  rw [zi]at r1 r2
  unfold z1c at r1 r2
  rw [zcb a b]at hF
  rw [hF]
  by_cases c0:(a.length:Int)>0
  ·by_cases c1:(a.length:Int)=b.length
   ·by_cases c2:(a.length:Int)<=4096
    ·have hEq:=fun O=>zel O a b x y hx hy ha.2 hb.2
     by_cases c3:a=b
     ·rw [if_pos (.inr (.inr c3))]
      rw [decide_eq_true c3]at hEq
      repeat' (first|apply zs_|apply zb_|apply zc_|apply zt_ rfl|apply zf_ rfl|(apply zd_ rfl<;>intro ht<;>try omega)|((first|apply zr_|apply zk_|apply ze_|apply zq_|(apply callW.mk_pu;(first|exact(fun _=>hEq _)))|(apply callW.za;(first|exact(hEq _)))|(apply zG<;>intro ht));all_goals try simp (disch:=first|omega|(simp only [lens,z7,z6,lQr,lQm,lQt,lQd,zg,zi,zo,z10,z8];first|done|omega)) only [go_sem,q0,q1,r1,r2,c0,c1,c2]))
      exact DownV.same hw (z7j none)
     ·rw [decide_eq_false c3]at hEq
      rw [if_neg (by simp only [not_or,Decidable.not_not];exact⟨by omega,by omega,c3⟩)]
      obtain⟨la,ra,hla,hra,hpa⟩:=zho a x hx ha (by omega)
      obtain⟨lb,rb,hlb,hrb,hpb⟩:=zho b y hy hb (by omega)
      have hSa:=fun O=>z6s O (z15 a) (by have:=zje ha;omega)
      have hSb:=fun O=>z6s O (z15 b) (by have:=zje hb;omega)
      by_cases c4:shaH (z15 a)=shaH (z15 b)
      ·rw [if_neg (by simpa using c4)]
       by_cases c5:z15 a=z15 b
       ·rw [if_neg (by simpa using c5)]
        have h2:=zac (by omega) c3 c5
        have ela:ptL a=a.take (zm a.length):=if_neg (by omega)
        have era:ptR a=a.drop (zm a.length):=if_neg (by omega)
        have elb:ptL b=b.take (zm a.length):=by unfold ptL;rw [if_neg (by omega)];congr 2;omega
        have erb:ptR b=b.drop (zm a.length):=by unfold ptR;rw [if_neg (by omega)];congr 2;omega
        rw [ela]at hla;rw [era]at hra;rw [elb]at hlb;rw [erb]at hrb
        obtain⟨s1,s2,s3⟩:=z49 h2
        have hEq2:=fun O=>zel O _ _ la lb hla hlb (ha.take _).2 (hb.take _).2
        rw [c5]at hpa hSa
        generalize zm a.length=k at*
        generalize shaH (z15 b)=S at*
        generalize z15 b=T at*
        by_cases c6:a.take k=b.take k
        ·rw [if_pos c6]
         rw [decide_eq_true c6]at hEq2
         repeat' (first|apply zs_|apply zb_|apply zc_|apply zt_ rfl|apply zf_ rfl|(apply zd_ rfl<;>intro ht<;>try omega)|((first|apply zr_|apply zk_|apply ze_|apply zq_|(apply callW.mk_pu;(first|exact(fun _=>hEq _)|exact(fun _=>hpa _)|exact(fun _=>hpb _)|exact(fun _=>hSa _)|exact(fun _=>hSb _)|exact(fun _=>hEq2 _)))|(apply callW.za;(first|exact(hEq _)|exact(hpa _)|exact(hpb _)|exact(hSa _)|exact(hSb _)|exact(hEq2 _)))|(apply zG<;>intro ht));all_goals try simp (disch:=first|omega|(simp only [lens,z7,z6,lQr,lQm,lQt,lQd,zg,zi,zo,z10,z8];first|done|omega)) only [go_sem,q0,q1,r1,r2,c0,c1,c2,decide_true,Bool.not_true,bne_self_eq_false]))
         exact⟨_,by rw [List.length_drop];omega,a.drop k,b.drop k,ra,rb,rfl,rfl,hra,hrb,ha.drop k,hb.drop k,by simp⟩
        ·rw [if_neg c6]
         rw [decide_eq_false c6]at hEq2
         repeat' (first|apply zs_|apply zb_|apply zc_|apply zt_ rfl|apply zf_ rfl|(apply zd_ rfl<;>intro ht<;>try omega)|((first|apply zr_|apply zk_|apply ze_|apply zq_|(apply callW.mk_pu;(first|exact(fun _=>hEq _)|exact(fun _=>hpa _)|exact(fun _=>hpb _)|exact(fun _=>hSa _)|exact(fun _=>hSb _)|exact(fun _=>hEq2 _)))|(apply callW.za;(first|exact(hEq _)|exact(hpa _)|exact(hpb _)|exact(hSa _)|exact(hSb _)|exact(hEq2 _)))|(apply zG<;>intro ht));all_goals try simp (disch:=first|omega|(simp only [lens,z7,z6,lQr,lQm,lQt,lQd,zg,zi,zo,z10,z8];first|done|omega)) only [go_sem,q0,q1,r1,r2,c0,c1,c2,decide_true,Bool.not_true,bne_self_eq_false]))
         exact⟨_,by rw [List.length_take];omega,a.take k,b.take k,la,lb,rfl,rfl,hla,hlb,ha.take k,hb.take k,by simp⟩
       ·rw [if_pos c5]
        rw [c4]at hSa
        have hb1:(z15 a==z15 b)=false:=by simpa using c5
        have hb2:(z15 a !=z15 b)=true:=by simpa using c5
        generalize shaH (z15 b)=S at*
        generalize z15 a=Ta at*
        generalize z15 b=T at*
        repeat' (first|apply zs_|apply zb_|apply zc_|apply zt_ rfl|apply zf_ rfl|(apply zd_ rfl<;>intro ht<;>try omega)|((first|apply zr_|apply zk_|apply ze_|apply zq_|(apply callW.mk_pu;(first|exact(fun _=>hEq _)|exact(fun _=>hpa _)|exact(fun _=>hpb _)|exact(fun _=>hSa _)|exact(fun _=>hSb _)))|(apply callW.za;(first|exact(hEq _)|exact(hpa _)|exact(hpb _)|exact(hSa _)|exact(hSb _)))|(apply zG<;>intro ht));all_goals try simp (disch:=first|omega|(simp only [lens,z7,z6,lQr,lQm,lQt,lQd,zg,zi,zo,z10,z8];first|done|omega)) only [go_sem,q0,q1,r1,r2,c0,c1,c2,decide_true,Bool.not_true,hb1,hb2]))
        exact DownV.same hw (z7j (some (Ta,T)))
      ·rw [if_pos c4]
       have hd:=decide_eq_false c4
       generalize shaH (z15 a)=Sa at*
       generalize shaH (z15 b)=S at*
       repeat' (first|apply zs_|apply zb_|apply zc_|apply zt_ rfl|apply zf_ rfl|(apply zd_ rfl<;>intro ht<;>try omega)|((first|apply zr_|apply zk_|apply ze_|apply zq_|(apply callW.mk_pu;(first|exact(fun _=>hEq _)|exact(fun _=>hpa _)|exact(fun _=>hpb _)|exact(fun _=>hSa _)|exact(fun _=>hSb _)))|(apply callW.za;(first|exact(hEq _)|exact(hpa _)|exact(hpb _)|exact(hSa _)|exact(hSb _)))|(apply zG<;>intro ht));all_goals try simp (disch:=first|omega|(simp only [lens,z7,z6,lQr,lQm,lQt,lQd,zg,zi,zo,z10,z8];first|done|omega)) only [go_sem,q0,q1,r1,r2,c0,c1,c2,hd,Bool.not_false]))
       exact DownV.same hw (z7j none)
    ·rw [if_pos (.inr (.inl (by omega)))]
     repeat' (first|apply zs_|apply zb_|apply zc_|apply zt_ rfl|apply zf_ rfl|(apply zd_ rfl<;>intro ht<;>try omega)|((first|apply zr_|apply zk_|apply ze_|apply zq_|(apply zG<;>intro ht));all_goals try simp (disch:=first|omega|(simp only [lens,z7,z6,lQr,lQm,lQt,lQd,zg,zi,zo,z10,z8];first|done|omega)) only [go_sem,q0,q1,r1,r2,c0,c1,c2]))
     exact DownV.same hw (z7j none)
   ·rw [if_pos (.inl (by omega))]
    repeat' (first|apply zs_|apply zb_|apply zc_|apply zt_ rfl|apply zf_ rfl|(apply zd_ rfl<;>intro ht<;>try omega)|((first|apply zr_|apply zk_|apply ze_|apply zq_|(apply zG<;>intro ht));all_goals try simp (disch:=first|omega|(simp only [lens,z7,z6,lQr,lQm,lQt,lQd,zg,zi,zo,z10,z8];first|done|omega)) only [go_sem,q0,q1,r1,r2,c0,c1]))
    exact DownV.same hw (z7j none)
  ·have hn:a.length ≠ b.length \/4096<a.length \/a=b:=by
    by_cases h:a.length=b.length
    ·exact .inr (.inr (by rw [List.eq_nil_of_length_eq_zero (l:=a) (by omega),List.eq_nil_of_length_eq_zero (l:=b) (by omega)]))
    ·exact .inl h
   rw [if_pos hn]
   repeat' (first|apply zs_|apply zb_|apply zc_|apply zt_ rfl|apply zf_ rfl|(apply zd_ rfl<;>intro ht<;>try omega)|((first|apply zr_|apply zk_|apply ze_|apply zq_|(apply zG<;>intro ht));all_goals try simp (disch:=first|omega|(simp only [lens,z7,z6,lQr,lQm,lQt,lQd,zg,zi,zo,z10,z8];first|done|omega)) only [go_sem,q0,q1,r1,r2,c0]))
   exact DownV.same hw (z7j none)
end
section
attribute [local irreducible] ACallsTo ACallsP
end
section
abbrev HV2:=Hdr × AV
def hw2(P:List HV2):List (List AV):=P.map fun p=>sgC p.1.n p.1.r p.1.i p.1.s p.2
theorem z1b(P:List HV2):(hw2 P).length=P.length:=by simp [hw2]
theorem zgp{P:List HV2}{i:Nat}(h:i<P.length):(hw2 P)[i]? =some (sgC P[i].1.n P[i].1.r P[i].1.i P[i].1.s P[i].2):=by
 simp [hw2,List.getElem?_eq_getElem h]
def z34(s:Hdr)(q:HV2):Bool:=decide (q.1.n=s.n/\ q.1.r=s.r)
def idxH(P:List HV2)(s:Hdr):Int:=match P.findIdx? (z34 s)with|some i=>(i:Int)|none=> -1
theorem znm(P:List HV2)(s:Hdr):decide (idxH P s>=0)=P.any (z34 s):=by
 unfold idxH
 cases h:P.findIdx? (z34 s)with
 |none=>
  rw [List.findIdx?_eq_none_iff]at h
  have:P.any (z34 s)=false:=by
   rw [List.any_eq_false]
   intro x hx
   simp [h x hx]
  rw [this];rfl
 |some i=>
  rw [List.findIdx?_eq_some_iff_getElem]at h
  obtain⟨hi,h1,_⟩:=h
  have:P.any (z34 s)=true:=List.any_eq_true.2 ⟨_,List.getElem_mem hi,h1⟩
  rw [this]
  show decide ((i:Int)>=0)=true
  exact decide_eq_true (by omega)
theorem znn{P:List HV2}{f:HV2->Bool}{i:Nat}(hi:i<P.length):(P.drop i).findIdx? f=if f P[i]=true then some 0 else((P.drop (i+1)).findIdx? f).map (· +1):=by
 rw [List.drop_eq_getElem_cons hi,List.findIdx?_cons]
theorem ztj(seed:List UInt8)(dg x:Hash)(hx:zz (keyL seed) ≠ x):verI x dg (0:Nat) (ksgS seed (0:Nat) dg.1) (z1n (keyL seed) 0) ≠ 0:=by
 have hc:chkP (hd (keyL seed) 0) (0:Nat) 8 (z1n (keyL seed) 0) x ≠ 0:=by
  obtain⟨a,b,c,d,e,f,g,h,hK⟩:=len8 (z2i seed)
  rw [hK]at hx ⊢
  rw [zds]at hx
  obtain⟨p0,_⟩:=zhq a b c d e f g h
  rw [p0,z4h 0 (by omega),if_neg]
  ·decide
  ·exact fun e=>hx (by rw [<-e];simp [z2e,hd])
 unfold verI
 rw [if_neg (by omega),if_pos (zak _ _ _),zia,<-zgv seed 0 (by omega),if_neg hc]
 decide
theorem zoh(seed:List UInt8)(x:Hash)(M:List (List UInt8))(hM:M.length<=4096)(hx:zz (keyL seed) ≠ x):z3e x (mkH seed 0 M).n (mkH seed 0 M).i (mkH seed 0 M).r (mkH seed 0 M).s (mkH seed 0 M).p ≠ 0:=by
 have hv:z5t (mkH seed 0 M).n (mkH seed 0 M).i (mkH seed 0 M).s (mkH seed 0 M).p=true:=decide_eq_true ⟨by simp only [mkH];omega,by simp only [mkH];omega,by simp only [mkH];omega,by simp only [mkH];omega,zak _ _ _,zas _ _⟩
 unfold z3e
 have e:(if verI x (digH (mkH seed 0 M).n (mkH seed 0 M).r) (mkH seed 0 M).i (mkH seed 0 M).s (mkH seed 0 M).p=0 then(0:Int)else 81)=81:=if_neg (ztj seed _ x hx)
 rw [hv,if_neg (by simp),e]
 decide
def z2u(key:Hash)(h:Hdr)(P:List HV2):Bool:=decide (z3e key h.n h.i h.r h.s h.p=0) && !P.any (z34 h)
attribute [local irreducible] ACallsTo ACallsP
theorem zk2(O:Store)(q s:Hdr)(x y:AV)(p:Nat)(hp:O[p]? =some (some [sgC s.n s.r s.i s.s y])):
  ACallsTo TC 18 [.agg (sgC q.n q.r q.i q.s x),.ptr p 0 0] O (.bool (decide (q.n=s.n/\ q.r=s.r))) O:=by
 have d:=slen hp
 have he:=sg_eq q.n s.n q.r s.r
 refine ACallsTo.of_body q27ok (by simp) fun hw _=> ?_
 repeat' (first|apply zs_|apply zb_|apply zc_|apply zt_ rfl|apply zf_ rfl|(apply zd_ rfl<;>intro ht<;>try omega)|((first|apply zr_|apply zk_|apply ze_|apply zq_|(apply zG<;>intro ht));all_goals try simp (disch:=first|omega|(simp only [lens,z7,z6,lQr,lQm,lQt,lQd,zg,zi,zo,z10,z8,z1b];first|done|omega)) only [go_sem,hp,he]))
 exact DownV.pure hw (z13 _ rfl)
theorem zk4(O:Store)(P:List HV2)(v:AV)(s:Hdr)(y:AV)(p:Nat)(hv:SlV 36 (hw2 P) v)(hp:O[p]? =some (some [sgC s.n s.r s.i s.s y]))(hl:P.length<1000000):
  ACallsTo TC 36 [v,.fn 18 [.ptr p 0 0]] O (.int .i64 (idxH P s)) O:=by
 have r1:=hv.len
 rw [z1b]at r1
 unfold z1c at r1
 have d:=slen hp
 refine ACallsTo.of_body q29ok (by simp) fun hw _=> ?_
 repeat' (first|apply zs_|apply zb_|apply zc_|apply zt_ rfl|apply zf_ rfl|(apply zd_ rfl<;>intro ht<;>try omega)|((first|apply zr_|apply zk_|apply ze_|apply zq_|(apply zG<;>intro ht));all_goals try simp (disch:=first|omega|(simp only [lens,z7,z6,lQr,lQm,lQt,lQd,zg,zi,zo,z10,z8,z1b];first|done|omega)) only [go_sem,r1]))
 refine zW.loop (fun m Z O'=>∃i:Nat,m+i=P.length/\ O'=O/\ P.findIdx? (z34 s)=((P.drop i).findIdx? (z34 s)).map (· +i)/\ Z 0=v/\ Z 1=.fn 18 [.ptr p 0 0]/\ Z 7=.int .i64 P.length/\ Z 8=.int .i64 i) P.length ?_ ?_
 ·exact⟨0,by omega,rfl,by simp,by simp (disch:=first|omega|(simp only [lens,z7,z6,lQr,lQm,lQt,lQd,zg,zi,zo,z10,z8,z1b];first|done|omega)) only [go_sem],by simp (disch:=first|omega|(simp only [lens,z7,z6,lQr,lQm,lQt,lQd,zg,zi,zo,z10,z8,z1b];first|done|omega)) only [go_sem],by simp (disch:=first|omega|(simp only [lens,z7,z6,lQr,lQm,lQt,lQd,zg,zi,zo,z10,z8,z1b];first|done|omega)) only [go_sem],by simp (disch:=first|omega|(simp only [lens,z7,z6,lQr,lQm,lQt,lQd,zg,zi,zo,z10,z8,z1b];first|done|omega)) only [go_sem];rfl⟩
 ·rintro m Z O' ⟨i,hm,rfl,hF,q0,q1,q7,q8⟩
  by_cases hi:i<P.length
  ·obtain⟨ex,rfl⟩:=hv.vsl (by rw [z1b];omega)
   have hg:=zgp hi
   have l1:=z1b P
   rw [znn hi]at hF
   have hc:=zk2 O' P[i].1 s P[i].2 y p hp
   have hx:z34 s P[i]=decide (P[i].1.n=s.n/\ P[i].1.r=s.r):=rfl
   rw [hx]at hF
   generalize P[i]=q at*
   have hsl:=zg q.1.n q.1.r q.1.i q.1.s q.2
   by_cases hs:q.1.n=s.n/\ q.1.r=s.r
   ·rw [decide_eq_true hs,if_pos rfl]at hF
    rw [decide_eq_true hs]at hc
    have hr:idxH P s=(i:Int):=by unfold idxH;rw [hF];simp
    rw [hr]
    repeat' (first|apply zs_|apply zb_|apply zc_|apply zt_ rfl|apply zf_ rfl|(apply zd_ rfl<;>intro ht<;>try omega)|((first|apply zr_|apply zk_|apply ze_|apply zq_|(apply callW.mk_pu;(first|exact(fun _=>hc)))|(apply callW.za;(first|exact(hc)))|(apply zG<;>intro ht));all_goals try simp (disch:=first|omega|(simp only [lens,z7,z6,lQr,lQm,lQt,lQd,zg,zi,zo,z10,z8,z1b];first|done|omega)) only [go_sem,q0,q1,q7,q8,hg,l1,hsl]))
    exact DownV.same hw z31
   ·rw [decide_eq_false hs,if_neg (by simp),Option.map_map]at hF
    rw [decide_eq_false hs]at hc
    repeat' (first|apply zs_|apply zb_|apply zc_|apply zt_ rfl|apply zf_ rfl|(apply zd_ rfl<;>intro ht<;>try omega)|((first|apply zr_|apply zk_|apply ze_|apply zq_|(apply callW.mk_pu;(first|exact(fun _=>hc)))|(apply callW.za;(first|exact(hc)))|(apply zG<;>intro ht));all_goals try simp (disch:=first|omega|(simp only [lens,z7,z6,lQr,lQm,lQt,lQd,zg,zi,zo,z10,z8,z1b];first|done|omega)) only [go_sem,q0,q1,q7,q8,hg,l1,hsl]))
    exact⟨m-1,by omega,i+1,by omega,by rw [hF];congr 1;funext k;simp only [Function.comp];omega,by simp⟩
  ·obtain rfl:i=P.length:=by omega
   have hr:idxH P s= -1:=by unfold idxH;rw [hF,List.drop_length];rfl
   rw [hr]
   repeat' (first|apply zs_|apply zb_|apply zc_|apply zt_ rfl|apply zf_ rfl|(apply zd_ rfl<;>intro ht<;>try omega)|((first|apply zr_|apply zk_|apply ze_|apply zq_|(apply zG<;>intro ht));all_goals try simp (disch:=first|omega|(simp only [lens,z7,z6,lQr,lQm,lQt,lQd,zg,zi,zo,z10,z8,z1b];first|done|omega)) only [go_sem,q0,q1,q7,q8]))
   exact DownV.same hw z31
theorem z7y(O:Store)(key:Hash)(h:Hdr)(x:AV)(P:List HV2)(v:AV)(hx:SlV 32 (hr h.p) x)(hv:SlV 36 (hw2 P) v)(hl:P.length<1000000):
  ACallsTo TC 8 [.agg (hc key),.agg (sgC h.n h.r h.i h.s x),v] O (.bool (z2u key h P)) O:=by
 have hC:=fun O=>zk3 O key h.n h.i h.r h.s h.p x (.of hx)
 have hkl:=z7 key
 have hsl:=zg h.n h.r h.i h.s x
 have hI:∀τ,ACallsTo TC 17 [v,.fn 18 [.ptr (O.length+1) 0 0]] (O++some [hc key]::some [sgC h.n h.r h.i h.s x]::τ) (.bool (P.any (z34 h))) (O++some [hc key]::some [sgC h.n h.r h.i h.s x]::τ):=by
  intro τ
  have hp:(O++some [hc key]::some [sgC h.n h.r h.i h.s x]::τ)[O.length+1]? =some (some [sgC h.n h.r h.i h.s x]):=by rw [z1i (by omega),Nat.add_sub_cancel_left];rfl
  have hi:=zk4 _ P v h x (O.length+1) hv hp hl
  have hge:=znm P h
  generalize idxH P h=k at*
  generalize (O++some [hc key]::some [sgC h.n h.r h.i h.s x]::τ)=O1 at*
  refine ACallsTo.of_body q26ok (by simp) fun hw _=> ?_
  repeat' (first|apply zs_|apply zb_|apply zc_|apply zt_ rfl|apply zf_ rfl|(apply zd_ rfl<;>intro ht<;>try omega)|((first|apply zr_|apply zk_|apply ze_|apply zq_|(apply callW.mk_pu;(first|exact(fun _=>hi)))|(apply callW.za;(first|exact(hi)))|(apply zG<;>intro ht));all_goals try simp (disch:=first|omega|(simp only [lens,z7,z6,lQr,lQm,lQt,lQd,zg,zi,zo,z10,z8,z1b];first|done|omega)) only [go_sem,hge]))
  exact DownV.same hw z1z
 unfold z2u
 refine ACallsTo.of_body q23ok (by simp) fun hw _=> ?_
 by_cases hc0:z3e key h.n h.i h.r h.s h.p=0
 ·rw [decide_eq_true hc0]
  rw [hc0]at hC
  repeat' (first|apply zs_|apply zb_|apply zc_|apply zt_ rfl|apply zf_ rfl|(apply zd_ rfl<;>intro ht<;>try omega)|((first|apply zr_|apply zk_|apply ze_|apply zq_|(apply callW.mk_pu;(first|exact(fun _=>hC _)|exact(fun _=>hI [])))|(apply callW.za;(first|exact(hC _)|exact(hI [])))|(apply zG<;>intro ht));all_goals try simp (disch:=first|omega|(simp only [lens,z7,z6,lQr,lQm,lQt,lQd,zg,zi,zo,z10,z8,z1b];first|done|omega)) only [go_sem,hkl,hsl]))
  exact DownV.pure hw z1z
 ·rw [decide_eq_false hc0]
  generalize z3e key h.n h.i h.r h.s h.p=c at*
  repeat' (first|apply zs_|apply zb_|apply zc_|apply zt_ rfl|apply zf_ rfl|(apply zd_ rfl<;>intro ht<;>try omega)|((first|apply zr_|apply zk_|apply ze_|apply zq_|(apply callW.mk_pu;(first|exact(fun _=>hC _)))|(apply callW.za;(first|exact(hC _)))|(apply zG<;>intro ht));all_goals try simp (disch:=first|omega|(simp only [lens,z7,z6,lQr,lQm,lQt,lQd,zg,zi,zo,z10,z8,z1b];first|done|omega)) only [go_sem,hkl,hsl,hc0]))
  exact DownV.pure hw z1z
theorem zfo(A:List (List UInt8)):z36 A A=none:=by rw [zcb,if_pos (.inr (.inr rfl))]
def witC(f:Bool):List AV:=[.str [],.str [],.bool f]
theorem zkh(O:Store)(key:Hash)(h:Hdr)(x:AV)(P:List HV2)(v:AV)(L M:List (List UInt8))(y z:AV)(hx:SlV 32 (hr h.p) x)(hv:SlV 36 (hw2 P) v)(hl:P.length<1000000)(hy:SlV 1 (strs L) y)(hz:SlV 1 (strs M) z)(hL:TxtOk L)(hM:M.length<=L.length)(hp:L.take M.length=M):
  ACallsTo TC 7 [.agg (hc key),y,v,z,.agg (sgC h.n h.r h.i h.s x)] O (.tup [.agg (witC (z2u key h P)),.bool (z2u key h P)]) O:=by
 have hF:=fun O=>z7y O key h x P v hx hv hl
 have hkl:=z7 key
 have hsl:=zg h.n h.r h.i h.s x
 have r1:=hy.len
 have r2:=hz.len
 rw [zi]at r1 r2
 unfold z1c at r1 r2
 have hMo:TxtOk M:=by rw [<-hp];exact hL.take _
 have hle:¬(M.length:Int)>L.length:=by omega
 unfold witC
 cases hb:z2u key h P with
 |true=>
  rw [hb]at hF
  refine ACallsTo.of_body q22ok (by simp) fun hw _=> ?_
  repeat' (first|apply zs_|apply zb_|apply zc_|apply zt_ rfl|apply zf_ rfl|(apply zd_ rfl<;>intro ht<;>try omega)|((first|apply zr_|apply zk_|apply ze_|apply zq_|(apply callW.mk_pu;(first|exact(fun _=>hF _)))|(apply callW.za;(first|exact(hF _)))|(apply zG<;>intro ht));all_goals try simp (disch:=first|omega|(simp only [lens,z7,z6,lQr,lQm,lQt,lQd,zg,zi,zo,z10,z8,z1b];first|done|omega)) only [go_sem,hkl,hsl,r1,r2]))
  exact DownV.pure hw (by simp [RL,RLs])
 |false=>
  rw [hb]at hF
  have hC:∀O u,SlV 1 (strs M) u->ACallsTo TC 9 [u,z] O (.tup [.str [],.str [],.bool false]) O:=fun O u hu=>by
   have:=z9k O M M u z hu hz hMo hMo
   rw [zfo]at this
   exact this
  have l1:=zi L
  have tk:=zjb L M.length
  rw [hp]at tk
  refine ACallsTo.of_body q22ok (by simp) fun hw _=> ?_
  rcases hy with⟨rfl,h0⟩| ⟨ex,rfl⟩
  ·have hL0:L.length=0:=by rw [<-zi,h0];rfl
   have hM0:M=[]:=List.eq_nil_of_length_eq_zero (by omega)
   have hC0:=fun O=>hC O .nilsl (.inl ⟨rfl,by rw [hM0];rfl⟩)
   have hMl:M.length=0:=by rw [hM0];rfl
   rw [hMl]at r2
   repeat' (first|apply zs_|apply zb_|apply zc_|apply zt_ rfl|apply zf_ rfl|(apply zd_ rfl<;>intro ht<;>try omega)|((first|apply zr_|apply zk_|apply ze_|apply zq_|(apply callW.mk_pu;(first|exact(fun _=>hF _)|exact(fun _=>hC0 _)))|(apply callW.za;(first|exact(hF _)|exact(hC0 _)))|(apply zG<;>intro ht));all_goals try simp (disch:=first|omega|(simp only [lens,z7,z6,lQr,lQm,lQt,lQd,zg,zi,zo,z10,z8,z1b];first|done|omega)) only [go_sem,hkl,hsl,r2]))
   exact DownV.pure hw (by simp [RL,RLs])
  ·have hC0:=fun O u=>hC O (.vsl 1 (strs M) u) (.inr ⟨u,rfl⟩)
   repeat' (first|apply zs_|apply zb_|apply zc_|apply zt_ rfl|apply zf_ rfl|(apply zd_ rfl<;>intro ht<;>try omega)|((first|apply zr_|apply zk_|apply ze_|apply zq_|(apply callW.mk_pu;(first|exact(fun _=>hF _)|exact(fun _=>hC0 _ _)))|(apply callW.za;(first|exact(hF _)|exact(hC0 _ _)))|(apply zG<;>intro ht));all_goals try simp (disch:=first|omega|(simp only [lens,z7,z6,lQr,lQm,lQt,lQd,zg,zi,zo,z10,z8,z1b];first|done|omega)) only [go_sem,hkl,hsl,r2,l1,hle,tk]))
   exact DownV.pure hw (by simp [RL,RLs])
end
section
theorem zkj:z1x (shaS [0,97]) (shaS [0,98]) ≠ z1x (shaS [0,97]) (shaS [0,99]):=by decide+kernel
theorem zlp:z36 [[97],[98]] [[97],[99]]=none:=by
 have h:=zca ([[97],[98]]:List (List UInt8)).length.succ [[97],[98]] [[97],[99]] (by simp) rfl (by simp)
 have hn:¬(([[97],[98]]:List (List UInt8)) ≠ [[97],[99]]/\ zz (lvs [[97],[98]])=zz (lvs [[97],[99]])):=by
  rintro⟨_,e⟩
  have e1:zz [lfH [97],lfH [98]]=zz [lfH [97],lfH [99]]:=e
  rw [zb6,zb6]at e1
  have e2:=congrArg Subtype.val e1
  simp only [zy,lfH,shaH]at e2
  exact zkj e2
 have h2:¬(z36 [[97],[98]] [[97],[99]]).isSome=true:=fun e=>hn (h.1 e)
 simpa using h2
theorem zlq{A B:List (List UInt8)}(h:A.length ≠ B.length):z36 A B=none:=by rw [zcb,if_pos (.inl h)]
theorem zmr(seed:List UInt8)(M:List (List UInt8))(x:AV):z2u (zz (keyL seed)) (mkH seed 0 M) [(mkH seed 0 M,x)]=false:=by
 simp [z2u,z34]
theorem zmq(seed:List UInt8)(M:List (List UInt8))(hM:M.length<=4096):z2u (zz (keyL seed)) (mkH seed 0 M) []=true:=by
 unfold z2u
 rw [zog seed 0 M (by omega) hM]
 rfl
theorem zms(M:List (List UInt8))(hM:M.length<=4096):z2u zeroH (mkH [102] 0 M) []=false:=by
 unfold z2u
 rw [decide_eq_false (zoh [102] zeroH M hM (root_f zeroH rfl))]
 rfl
attribute [local irreducible] ACallsTo ACallsP
theorem hcZ:hc zeroH=[.int .u8 0,.int .u8 0,.int .u8 0,.int .u8 0,.int .u8 0,.int .u8 0,.int .u8 0,.int .u8 0,.int .u8 0,.int .u8 0,.int .u8 0,.int .u8 0,.int .u8 0,.int .u8 0,.int .u8 0,.int .u8 0,.int .u8 0,.int .u8 0,.int .u8 0,.int .u8 0,.int .u8 0,.int .u8 0,.int .u8 0,.int .u8 0,.int .u8 0,.int .u8 0,.int .u8 0,.int .u8 0,.int .u8 0,.int .u8 0,.int .u8 0,.int .u8 0]:=rfl
theorem zmt:ACallsTo TC 5 [] [] (.bool true) []:=by
 have ok1:TxtOk [[97],[98]]:=⟨by simp,by simp⟩
 have ok2:TxtOk [[97],[99]]:=⟨by simp,by simp⟩
 have ok3:TxtOk [[97]]:=⟨by simp,by simp⟩
 have ok0:TxtOk []:=⟨by simp,by simp⟩
 have hC1:∀O,ACallsTo TC 9 [.vsl 1 [[.str [97]],[.str [98]]] true,.vsl 1 [[.str [97]],[.str [98]]] true] O (.tup [.str [],.str [],.bool false]) O:=fun O=>by
  have h:=z9k O [[97],[98]] [[97],[98]] (.vsl 1 [[.str [97]],[.str [98]]] true) (.vsl 1 [[.str [97]],[.str [98]]] true) (.inr ⟨true,rfl⟩) (.inr ⟨true,rfl⟩) ok1 ok1
  rw [zfo]at h
  exact h
 have hC2:∀O,ACallsTo TC 9 [.vsl 1 [[.str [97]],[.str [98]]] true,.vsl 1 [[.str [97]],[.str [99]]] true] O (.tup [.str [],.str [],.bool false]) O:=fun O=>by
  have h:=z9k O [[97],[98]] [[97],[99]] (.vsl 1 [[.str [97]],[.str [98]]] true) (.vsl 1 [[.str [97]],[.str [99]]] true) (.inr ⟨true,rfl⟩) (.inr ⟨true,rfl⟩) ok1 ok2
  rw [zlp]at h
  exact h
 have hC3:∀O,ACallsTo TC 9 [.nilsl,.vsl 1 [[.str [97]]] true] O (.tup [.str [],.str [],.bool false]) O:=fun O=>by
  have h:=z9k O [] [[97]] .nilsl (.vsl 1 [[.str [97]]] true) (.inl ⟨rfl,rfl⟩) (.inr ⟨true,rfl⟩) ok0 ok3
  rw [zlq (by simp)]at h
  exact h
 have hNew:=fun O=>zqc O [102] (by simp)
 have P0:=zqb [] [102]
 refine ACallsTo.of_body q20ok (by simp) fun hw _=> ?_
 repeat' (first|apply zs_|apply zb_|apply zc_|apply zt_ rfl|apply zf_ rfl|(apply zd_ rfl<;>intro ht<;>try omega)|((first|apply zr_|apply zk_|apply ze_|apply zq_|(apply callW.mk_pu;(first|exact(fun _=>hC1 _)|exact(fun _=>hC2 _)|exact(fun _=>hC3 _)|exact(fun _=>hNew _)))|(apply callW.za;(first|exact(hC1 _)|exact(hC2 _)|exact(hC3 _)|exact(hNew _)))|(apply zG<;>intro ht));all_goals try simp (disch:=first|omega|(simp only [lens,z7,z6,lQr,lQm,lQt,lQd,zg,zi,zo,z1f,z10,z1b];first|done|omega)) only [go_sem]))
 simp only [List.nil_append,List.length_nil,Nat.zero_add]at P0 ⊢
 have hsl:([102]:List UInt8).length<1000000:=by simp
 have hz0:=fun M hM=>zms M hM
 generalize ([102]:List UInt8)=seed at*
 generalize [some [z1h true seed (keyL seed)],some [pbC (.ptr 0 0 0) .nilsl .nilsl 0 .nilsl .nilsl]]=O1 at*
 refine callW.mkP (caps:=[]) (zq8 _ 1 seed [] [] _ [97] P0 (by simp) (by simp)) (AppendP.is P0) ?_
 rintro v O3 ⟨rfl,own3,fr3,P3⟩
 rw [apL_s (by simp),List.nil_append]at P3
 rw [apE_s (by simp)]
 simp (disch:=first|omega|(simp only [lens,z7,z6,lQr,lQm,lQt,lQd,zg,zi,zo,z1f,z10,z1b];first|done|omega)) only [go_sem]
 repeat' (first|apply zs_|apply zb_|apply zc_|apply zt_ rfl|apply zf_ rfl|(apply zd_ rfl<;>intro ht<;>try omega)|((first|apply zr_|apply zk_|apply ze_|apply zq_|(apply zG<;>intro ht));all_goals try simp (disch:=first|omega|(simp only [lens,z7,z6,lQr,lQm,lQt,lQd,zg,zi,zo,z1f,z10,z1b];first|done|omega)) only [go_sem]))
 refine callW.mkP (caps:=[]) (zqg O3 1 seed [[97]] [] own3 P3 (.none1 _ _) (by simp) hsl) (PublishP.is P3) ?_
 rintro v O4 ⟨rfl,own4,fr4,P4⟩
 rw [(puV_1 seed [97]).2]at P4
 rw [(puV_1 seed [97]).1]
 have hma:=zn7 (mkH seed 0 [[97]])
 have hml:=z10 (mkH seed 0 [[97]])
 have ok4:PubOk seed [[97]] [mkH seed 0 [[97]]]:=.one seed [97] []
 have f1:=zmr seed [[97]] (z18 32 (hr (mkH seed 0 [[97]]).p))
 have f2:=zmq seed [[97]] (by simp)
 have f3:=hz0 [[97]] (by simp)
 generalize mkH seed 0 [[97]]=m at*
 have hF1:∀O,ACallsTo TC 8 [.agg (hc (zz (keyL seed))),.agg (hdrC m),.vsl 36 [hdrC m] false] O (.bool false) O:=fun O=>by
  have h:=z7y O (zz (keyL seed)) m (z18 32 (hr m.p)) [(m,z18 32 (hr m.p))] (.vsl 36 [hdrC m] false) (z69 _ _) (.inr ⟨false,rfl⟩) (by simp)
  rw [f1]at h
  exact h
 have hF2:∀O,ACallsTo TC 8 [.agg (hc (zz (keyL seed))),.agg (hdrC m),.nilsl] O (.bool true) O:=fun O=>by
  have h:=z7y O (zz (keyL seed)) m (z18 32 (hr m.p)) [] .nilsl (z69 _ _) (.inl ⟨rfl,rfl⟩) (by simp)
  rw [f2]at h
  exact h
 have hF3:∀O,ACallsTo TC 8 [.agg [.int .u8 0,.int .u8 0,.int .u8 0,.int .u8 0,.int .u8 0,.int .u8 0,.int .u8 0,.int .u8 0,.int .u8 0,.int .u8 0,.int .u8 0,.int .u8 0,.int .u8 0,.int .u8 0,.int .u8 0,.int .u8 0,.int .u8 0,.int .u8 0,.int .u8 0,.int .u8 0,.int .u8 0,.int .u8 0,.int .u8 0,.int .u8 0,.int .u8 0,.int .u8 0,.int .u8 0,.int .u8 0,.int .u8 0,.int .u8 0,.int .u8 0,.int .u8 0],.agg (hdrC m),.nilsl] O (.bool false) O:=fun O=>by
  have h:=z7y O zeroH m (z18 32 (hr m.p)) [] .nilsl (z69 _ _) (.inl ⟨rfl,rfl⟩) (by simp)
  rw [f3,hcZ]at h
  exact h
 have hKey:=fun y=>(P4.ext (O':=O4++y) ⟨_,rfl⟩).key
 have hHd:=fun y=>(P4.ext (O':=O4++y) ⟨_,rfl⟩).heads ok4
 rw [show z18 36 (hdrs [m])=.vsl 36 [hdrC m] false from rfl]at hHd
 simp (disch:=first|omega|(simp only [lens,z7,z6,lQr,lQm,lQt,lQd,zg,zi,zo,z1f,z10,z1b];first|done|omega)) only [go_sem,hml]
 repeat' (first|apply zs_|apply zb_|apply zc_|apply zt_ rfl|apply zf_ rfl|(apply zd_ rfl<;>intro ht<;>try omega)|((first|apply zr_|apply zk_|apply ze_|apply zq_|(apply callW.mk_pu;(first|exact(fun _=>hKey _)|exact(fun _=>hHd _)|exact(fun _=>hF1 _)|exact(fun _=>hF2 _)|exact(fun _=>hF3 _)))|(apply callW.za;(first|exact(hKey _)|exact(hHd _)|exact(hF1 _)|exact(hF2 _)|exact(hF3 _)))|(apply zG<;>intro ht));all_goals try simp (disch:=first|omega|(simp only [lens,z7,z6,lQr,lQm,lQt,lQd,zg,zi,zo,z1f,z10,z1b];first|done|omega)) only [go_sem,hml,hma]))
 exact DownV.pure (τ:=[]) (news:=_) hw (z13 _ rfl)
theorem z3d(O:Store):ACallsTo TC 5 [] O (.bool true) O:=ACallsTo.frame glok zmt (by simp [RLs]) O
theorem zss{x:AV}(h:ShC (.sl 1 .str) [x]):∃(L:List (List UInt8)),SlV 1 (strs L) x/\ L.length<=maxLen:=by
 simp only [ShC]at h
 rcases h with h| ⟨es,h,hl,_,h2⟩
 ·cases h
  exact⟨[],.inl ⟨rfl,rfl⟩,Nat.zero_le _⟩
 ·cases h
  have:∀es:List (List AV),(∀x ∈ es,∃s:List UInt8,x=[.str s]/\ s.length<=maxLen)->∃L,es=strs L:=by
   intro es
   induction es with
   |nil=>intro _;exact⟨[],rfl⟩
   |cons e es ih=>
    intro h
    obtain⟨s,rfl,hs⟩:=h e (by simp)
    obtain⟨L,rfl⟩:=ih fun x hx=>h x (by simp [hx])
    exact⟨s::L,rfl⟩
  obtain⟨L,rfl⟩:=this es h2
  exact⟨L,.inr ⟨false,rfl⟩,by rwa [zi]at hl⟩
theorem ztd{L:List (List UInt8)}(h:z6m L=false):TxtOk L/\ L.length<=60:=by
 unfold z6m at h
 simp only [Bool.or_eq_false_iff,decide_eq_false_iff_not,List.any_eq_false,decide_eq_true_eq]at h
 exact⟨⟨fun s hs=>by have:=h.1 s hs;omega,by omega⟩,by omega⟩
end
section
def z5n:Ty:=.row [.row [.int .i64,z6k],.row [.int .i64,.str,.sl 32 z6k]]
theorem zis{cs:List AV}(h:ShC z5n cs):∃(q:Hdr) (x:AV),cs=sgC q.n q.r q.i q.s x/\ SlV 32 (hr q.p) x/\ q.p.length<=maxLen/\ q.s.length<=maxLen:=by
 simp only [z5n,ShC,z3h]at h
 obtain⟨A,B,rfl,hA,C,D,rfl,hC,rfl⟩:=h
 obtain⟨A1,A2,rfl,⟨n,rfl,n1,n2⟩,A3,A4,rfl,hA3,rfl⟩:=hA
 obtain⟨C1,C2,rfl,⟨i,rfl,i1,i2⟩,C3,C4,rfl,⟨s,rfl,hs⟩,C5,C6,rfl,hM,rfl⟩:=hC
 obtain⟨r,rfl⟩:=zn1 hA3
 obtain⟨l,x,rfl,h3,h4⟩:=hslC_h (by simpa only [ShC]using hM)
 exact⟨⟨n,r,i,s,l⟩,x,by simp [sgC],h3,h4,hs⟩
theorem sg27_h{a:AV}(h:Sh z5n a):∃(q:Hdr) (x:AV),a=.agg (sgC q.n q.r q.i q.s x)/\ SlV 32 (hr q.p) x/\ q.p.length<=maxLen/\ q.s.length<=maxLen:=by
 simp only [z5n,Sh]at h
 obtain⟨cs,rfl,h⟩:=h
 obtain⟨q,x,rfl,h2⟩:=zis (by simpa only [z5n,ShC]using h)
 exact⟨q,x,rfl,h2⟩
theorem zs0{x:AV}(h:ShC (.sl 36 z5n) [x]):∃P:List HV2,SlV 36 (hw2 P) x/\ P.length<=maxLen:=by
 simp only [ShC]at h
 rcases h with h| ⟨es,h,hl,_,h2⟩
 ·cases h
  exact⟨[],.inl ⟨rfl,rfl⟩,Nat.zero_le _⟩
 ·cases h
  have:∀es:List (List AV),(∀x ∈ es,ShC z5n x)->∃P:List HV2,es=hw2 P:=by
   intro es
   induction es with
   |nil=>intro _;exact⟨[],rfl⟩
   |cons e es ih=>
    intro h
    obtain⟨q,y,rfl,_⟩:=zis (h e (by simp))
    obtain⟨P,rfl⟩:=ih fun x hx=>h x (by simp [hx])
    exact⟨(q,y)::P,rfl⟩
  obtain⟨P,rfl⟩:=this es h2
  exact⟨P,.inr ⟨false,rfl⟩,by rwa [z1b]at hl⟩
theorem zkl{P:List HV2}{f:HV2->Bool}{i:Nat}(hi:i<P.length):(P.drop i).any f=(f P[i] ||(P.drop (i+1)).any f):=by
 rw [List.drop_eq_getElem_cons hi,List.any_cons]
attribute [local irreducible] ACallsTo ACallsP
theorem zqu(O:Store)(key:Hash)(h:Hdr)(x:AV)(P:List HV2)(v:AV)(hx:SlV 32 (hr h.p) x)(hv:SlV 36 (hw2 P) v)(hl:P.length<1000000):
  ACallsTo TC 6 [.agg (hc key),.agg (sgC h.n h.r h.i h.s x),v] O (.bool (z2u key h P)) O:=by
 have hC:=fun O=>zqv O key h.n h.i h.r h.s h.p x (.of hx)
 have hkl:=z7 key
 have hsl:=zg h.n h.r h.i h.s x
 have r1:=hv.len
 rw [z1b]at r1
 unfold z1c at r1
 refine ACallsTo.of_body q2bok (by simp) fun hw _=> ?_
 repeat' (first|apply zs_|apply zb_|apply zc_|apply zt_ rfl|apply zf_ rfl|(apply zd_ rfl<;>intro ht<;>try omega)|((first|apply zr_|apply zk_|apply ze_|apply zq_|(apply zG<;>intro ht));all_goals try simp (disch:=first|omega|(simp only [lens,z7,z6,lQr,lQm,lQt,lQd,zg,zi,zo,z1f,z10,z1b];first|done|omega)) only [go_sem,hkl,hsl]))
 refine zW.loop (fun m Z O'=>∃i:Nat,m+i=P.length/\ O'=O++ [some [hc key],some [sgC h.n h.r h.i h.s x]]/\ P.any (z34 h)=(P.drop i).any (z34 h)/\ Z 2=v/\ Z 3=.ptr O.length 0 0/\ Z 4=.ptr (O.length+1) 0 0/\ Z 7=.int .i64 i) P.length ?_ ?_
 ·exact⟨0,by omega,rfl,by simp,by simp (disch:=first|omega|(simp only [lens,z7,z6,lQr,lQm,lQt,lQd,zg,zi,zo,z1f,z10,z1b];first|done|omega)) only [go_sem],by simp (disch:=first|omega|(simp only [lens,z7,z6,lQr,lQm,lQt,lQd,zg,zi,zo,z1f,z10,z1b];first|done|omega)) only [go_sem],by simp (disch:=first|omega|(simp only [lens,z7,z6,lQr,lQm,lQt,lQd,zg,zi,zo,z1f,z10,z1b];first|done|omega)) only [go_sem],by simp (disch:=first|omega|(simp only [lens,z7,z6,lQr,lQm,lQt,lQd,zg,zi,zo,z1f,z10,z1b];first|done|omega)) only [go_sem];try rfl⟩
 ·rintro m Z O' ⟨i,hm,rfl,hF,q2,q3,q4,q7⟩
  by_cases hi:i<P.length
  ·obtain⟨ex,rfl⟩:=hv.vsl (by rw [z1b];omega)
   have hg:=zgp hi
   have l1:=z1b P
   rw [zkl hi]at hF
   have hxx:z34 h P[i]=decide (P[i].1.n=h.n/\ P[i].1.r=h.r):=rfl
   rw [hxx]at hF
   generalize P[i]=q at*
   have hql:=zg q.1.n q.1.r q.1.i q.1.s q.2
   have he:=sg_eq q.1.n h.n q.1.r h.r
   by_cases hs:q.1.n=h.n/\ q.1.r=h.r
   ·rw [decide_eq_true hs,Bool.true_or]at hF
    rw [decide_eq_true hs]at he
    unfold z2u
    rw [hF]
    simp only [Bool.not_true,Bool.and_false]
    repeat' (first|apply zs_|apply zb_|apply zc_|apply zt_ rfl|apply zf_ rfl|(apply zd_ rfl<;>intro ht<;>try omega)|((first|apply zr_|apply zk_|apply ze_|apply zq_|(apply zG<;>intro ht));all_goals try simp (disch:=first|omega|(simp only [lens,z7,z6,lQr,lQm,lQt,lQd,zg,zi,zo,z1f,z10,z1b];first|done|omega)) only [go_sem,q2,q3,q4,q7,hg,l1,hql,hsl,he]))
    exact DownV.pure hw z1z
   ·rw [decide_eq_false hs,Bool.false_or]at hF
    rw [decide_eq_false hs]at he
    repeat' (first|apply zs_|apply zb_|apply zc_|apply zt_ rfl|apply zf_ rfl|(apply zd_ rfl<;>intro ht<;>try omega)|((first|apply zr_|apply zk_|apply ze_|apply zq_|(apply zG<;>intro ht));all_goals try simp (disch:=first|omega|(simp only [lens,z7,z6,lQr,lQm,lQt,lQd,zg,zi,zo,z1f,z10,z1b];first|done|omega)) only [go_sem,q2,q3,q4,q7,hg,l1,hql,hsl,he]))
    exact⟨m-1,by omega,i+1,by omega,hF,by simp⟩
  ·obtain rfl:i=P.length:=by omega
   rw [List.drop_length]at hF
   unfold z2u
   rw [hF]
   simp only [List.any_nil,Bool.not_false,Bool.and_true]
   generalize z3e key h.n h.i h.r h.s h.p=c at*
   repeat' (first|apply zs_|apply zb_|apply zc_|apply zt_ rfl|apply zf_ rfl|(apply zd_ rfl<;>intro ht<;>try omega)|((first|apply zr_|apply zk_|apply ze_|apply zq_|(apply callW.mk_pu;(first|exact(fun _=>hC _)))|(apply callW.za;(first|exact(hC _)))|(apply zG<;>intro ht));all_goals try simp (disch:=first|omega|(simp only [lens,z7,z6,lQr,lQm,lQt,lQd,zg,zi,zo,z1f,z10,z1b];first|done|omega)) only [go_sem,q2,q3,q4,q7,r1,hkl,hsl]))
   exact DownV.pure hw z1z
theorem zk1(q:Hdr)(x:AV)(P:List HV2)(v:AV)(L:List (List UInt8))(y:AV)(hx:SlV 32 (hr q.p) x)(hv:SlV 36 (hw2 P) v)(hy:SlV 1 (strs L) y)(hxl:q.p.length<=maxLen)(hsl:q.s.length<=maxLen)(hPl:P.length<=maxLen)(hLl:L.length<=maxLen):
  ACallsTo TC 3 [.agg (sgC q.n q.r q.i q.s x),v,y] [] (.bool true) []:=by
 have hm:maxLen<9223372036854775808:=by decide
 have r1:=hv.len
 rw [z1b]at r1
 have r2:=hx.len
 rw [z6]at r2
 unfold z1c at r1 r2
 have hLg:=fun O=>zk5 O L y hy (by omega)
 have hq36:=zg q.n q.r q.i q.s x
 have hkl:=z7 q.r
 refine ACallsTo.of_body q2aok (by simp) fun hw _=> ?_
 by_cases c1:8<P.length
 ·have c1':(P.length:Int)>8:=by omega
  repeat' (first|apply zs_|apply zb_|apply zc_|apply zt_ rfl|apply zf_ rfl|(apply zd_ rfl<;>intro ht<;>try omega)|((first|apply zr_|apply zk_|apply ze_|apply zq_|(apply callW.mk_pu;(first|exact(fun _=>z3d _)))|(apply callW.za;(first|exact(z3d _)))|(apply zG<;>intro ht));all_goals try simp (disch:=first|omega|(simp only [lens,z7,z6,lQr,lQm,lQt,lQd,zg,zi,zo,z1f,z10,z1b];first|done|omega)) only [go_sem,r1,r2,hq36,c1']))
  exact DownV.pure (τ:=[]) hw (z13 _ rfl)
 have c1':¬(P.length:Int)>8:=by omega
 cases c2:z6m L with
 |true=>
  rw [c2]at hLg
  repeat' (first|apply zs_|apply zb_|apply zc_|apply zt_ rfl|apply zf_ rfl|(apply zd_ rfl<;>intro ht<;>try omega)|((first|apply zr_|apply zk_|apply ze_|apply zq_|(apply callW.mk_pu;(first|exact(fun _=>hLg _)|exact(fun _=>z3d _)))|(apply callW.za;(first|exact(hLg _)|exact(z3d _)))|(apply zG<;>intro ht));all_goals try simp (disch:=first|omega|(simp only [lens,z7,z6,lQr,lQm,lQt,lQd,zg,zi,zo,z1f,z10,z1b];first|done|omega)) only [go_sem,r1,r2,hq36,c1']))
  exact DownV.pure (τ:=[]) hw (z13 _ rfl)
 |false=>
 rw [c2]at hLg
 by_cases c3:17000<q.s.length
 ·have c3':(q.s.length:Int)>17000:=by omega
  repeat' (first|apply zs_|apply zb_|apply zc_|apply zt_ rfl|apply zf_ rfl|(apply zd_ rfl<;>intro ht<;>try omega)|((first|apply zr_|apply zk_|apply ze_|apply zq_|(apply callW.mk_pu;(first|exact(fun _=>hLg _)|exact(fun _=>z3d _)))|(apply callW.za;(first|exact(hLg _)|exact(z3d _)))|(apply zG<;>intro ht));all_goals try simp (disch:=first|omega|(simp only [lens,z7,z6,lQr,lQm,lQt,lQd,zg,zi,zo,z1f,z10,z1b];first|done|omega)) only [go_sem,r1,r2,hq36,c1',c3']))
  exact DownV.pure (τ:=[]) hw (z13 _ rfl)
 have c3':¬(q.s.length:Int)>17000:=by omega
 by_cases c4:10<q.p.length
 ·have c4':(q.p.length:Int)>10:=by omega
  repeat' (first|apply zs_|apply zb_|apply zc_|apply zt_ rfl|apply zf_ rfl|(apply zd_ rfl<;>intro ht<;>try omega)|((first|apply zr_|apply zk_|apply ze_|apply zq_|(apply callW.mk_pu;(first|exact(fun _=>hLg _)|exact(fun _=>z3d _)))|(apply callW.za;(first|exact(hLg _)|exact(z3d _)))|(apply zG<;>intro ht));all_goals try simp (disch:=first|omega|(simp only [lens,z7,z6,lQr,lQm,lQt,lQd,zg,zi,zo,z1f,z10,z1b];first|done|omega)) only [go_sem,r1,r2,hq36,c1',c3',c4']))
  exact DownV.pure (τ:=[]) hw (z13 _ rfl)
 have c4':¬(q.p.length:Int)>10:=by omega
 have tL:=(ztd c2).1
 have hR:=fun O=>zqu O q.r q x P v hx hv (by omega)
 have hF:=fun O=>z7y O q.r q x P v hx hv (by omega)
 have hW:=fun O=>zkh O q.r q x P v L L y y hx hv (by omega) hy hy tL (Nat.le_refl _) (List.take_of_length_le (Nat.le_refl _))
 unfold witC at hW
 generalize z2u q.r q P=f at*
 cases f with
 |true=>
  repeat' (first|apply zs_|apply zb_|apply zc_|apply zt_ rfl|apply zf_ rfl|(apply zd_ rfl<;>intro ht<;>try omega)|((first|apply zr_|apply zk_|apply ze_|apply zq_|(apply callW.mk_pu;(first|exact(fun _=>hLg _)|exact(fun _=>hR _)|exact(fun _=>hF _)|exact(fun _=>hW _)|exact(fun _=>z3d _)))|(apply callW.za;(first|exact(hLg _)|exact(hR _)|exact(hF _)|exact(hW _)|exact(z3d _)))|(apply zG<;>intro ht));all_goals try simp (disch:=first|omega|(simp only [lens,z7,z6,lQr,lQm,lQt,lQd,zg,zi,zo,z1f,z10,z1b];first|done|omega)) only [go_sem,r1,r2,hq36,hkl,c1',c3',c4']))
  exact DownV.pure (τ:=[]) hw (z13 _ rfl)
 |false=>
  repeat' (first|apply zs_|apply zb_|apply zc_|apply zt_ rfl|apply zf_ rfl|(apply zd_ rfl<;>intro ht<;>try omega)|((first|apply zr_|apply zk_|apply ze_|apply zq_|(apply callW.mk_pu;(first|exact(fun _=>hLg _)|exact(fun _=>hR _)|exact(fun _=>hF _)|exact(fun _=>hW _)|exact(fun _=>z3d _)))|(apply callW.za;(first|exact(hLg _)|exact(hR _)|exact(hF _)|exact(hW _)|exact(z3d _)))|(apply zG<;>intro ht));all_goals try simp (disch:=first|omega|(simp only [lens,z7,z6,lQr,lQm,lQt,lQd,zg,zi,zo,z1f,z10,z1b];first|done|omega)) only [go_sem,r1,r2,hq36,hkl,c1',c3',c4']))
  exact DownV.pure (τ:=[]) hw (z13 _ rfl)
theorem ExtractForged_law(avs:List AV)(h:z82 [z5n,.sl 36 z5n,.sl 1 .str] avs):ACallsTo TC 3 avs [] (.bool true) []:=by
 simp only [z82]at h
 obtain⟨_,_,rfl,h0,v,_,rfl,h1,y,_,rfl,h2,rfl⟩:=h
 obtain⟨q,x,rfl,hx,hxl,hsl⟩:=sg27_h h0
 obtain⟨P,hv,hP⟩:=zs0 (by simpa only [Sh]using h1)
 obtain⟨L,hL,hl⟩:=zss (by simpa only [Sh]using h2)
 exact zk1 q x P v L y hx hv hL hxl hsl hP hl
end
end Am
end Go.Proofs.YtkiimfgjimoffaaGreatDoor
section
/- What a law with the laid tables of sha begins with. -/
namespace Go.Proofs.YtkiimfgjimoffaaGreatDoor.LawDoor
open Go.ChangeShapes Go.WideShapes Go.ChangeAt Go.RowKit
theorem own:ownKnob Tryz.prog.godebug=none:=by kernel_rfl
theorem zo2:laidOutB Tryz.prog=true:=by kernel_rfl
def z8u:List (String × DataW Unit):=[("speculum/sha.first",Rows.laid_speculum_sha_first),("speculum/sha.rounds",Rows.laid_speculum_sha_rounds)]
set_option maxRecDepth 100000
theorem zlx(os:Os)(args:Array Value):laidMetH Tryz.prog z8u ((World.doorLaid Tryz.prog 400 os).forCall (fun _ _=>0) ⟨#[],args,[]⟩).memory:=
 laidMetH_of_parts3 (fuel:=8) (laidMet_of_run' 8 (by kernel_rfl) (by kernel_rfl)) (by kernel_rfl) (by kernel_rfl)
theorem rel_of{W:World}(h:laidMetH Tryz.prog z8u W):Am.Rel Am.TC [] [] W:=by
 rw [MakeChecks.laidMetH_plain _ _ _ (by kernel_rfl)]at h
 obtain⟨ps,⟨g0,t0,cs0,f0,p0,q0,hg0,ht0,hv0,hd0,⟨g1,t1,cs1,f1,p1,q1,hg1,ht1,hv1,hd1,_,_⟩,_⟩,_,_⟩:=h
 have v0:=Am.vp_of_var (P:=Tryz.prog) (n:= "speculum/sha.first") (g:=0) (t:=78) (e:=77) (m:=8) (k:=.u32) Am.shaFirst (by kernel_rfl) (by kernel_rfl) (by kernel_rfl) (by kernel_rfl) (by kernel_rfl) (by kernel_rfl) hg0 ht0 hv0 hd0
 have v1:=Am.vp_of_var (P:=Tryz.prog) (n:= "speculum/sha.rounds") (g:=1) (t:=101) (e:=77) (m:=64) (k:=.u32) Am.shaRounds (by kernel_rfl) (by kernel_rfl) (by kernel_rfl) (by kernel_rfl) (by kernel_rfl) (by kernel_rfl) hg1 ht1 hv1 hd1
 refine⟨rfl,fun r o h=>by simp at h,fun r h=>by simp at h,fun r r' pl pl' h=>by simp at h,fun g cs h=> ?_⟩
 simp only [Am.TC]at h
 split at h
 ·rename_i hg;subst hg;cases h;exact v0
 ·split at h
  ·rename_i hg;subst hg;cases h;exact v1
  ·cases h
end Go.Proofs.YtkiimfgjimoffaaGreatDoor.LawDoor
end
