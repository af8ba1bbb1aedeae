import Derived.Test.YtlfpiblipmiobaaDoorK40a224839
import Derived.Test.YtlfpiblipmiobaaDoorK22c926d39
import Derived.Test.YtlfpiblipmiobaaDoorRows
import Derived.Test.YtlfpiblipmiobaaDoorCards
import Derived.Test.YtlfpiblipmiobaaDoorTie
import Derived.ProofKit
import Derived.LaidMore
import Derived.OpenShut
import Derived.Stop.Joined
import Derived.SevenTiedAt
import Derived.MakeChecks
set_option linter.unusedSimpArgs false
set_option linter.unusedVariables false
open Nat (reduceEqDiff reduceAdd reduceMul reduceSub reduceLeDiff)
open Int (reduceToNat reducePow)
open Nat renaming reduceEqDiff -> nQ1, reduceBEq -> nQ2, reduceAdd -> nQ3, reduceMul -> nQ4, reduceSub -> nQ5, reduceLeDiff -> nQ6
open Int renaming reduceToNat -> nQ7, reducePow -> nQ8
open List renaming length_reverse -> lQr, length_map -> lQm, length_take -> lQt, length_drop -> lQd, length_set -> lQs
set_option maxHeartbeats 16000000
attribute [local go_sem_proc] Nat.reduceEqDiff Nat.reduceBEq Nat.reduceAdd Nat.reduceMul Nat.reduceSub Nat.reduceLeDiff Int.reduceToNat Int.reducePow
namespace Go.Proofs.YtlfpiblipmiobaaDoor
namespace Am
section
attribute [local irreducible] ACallsTo ACallsP pubH
end
section
attribute [local irreducible] ACallsTo ACallsP pubH
def pbC(t:AV)(log lv:AV)(n:Int)(rg hs:AV):List AV:=[t,log,lv,.int .i64 n,rg,hs]
end
section
attribute [local irreducible] ACallsTo ACallsP
end
section
attribute [local irreducible] ACallsTo ACallsP
end
section
structure Hdr where
 n:Int
 r:Hash
 i:Int
 s:List UInt8
 p:List Hash
def hdrC(h:Hdr):List AV:=sgC h.n h.r h.i h.s (z10 32 (hr h.p))
def hdrs(H:List Hdr):List (List AV):=H.map hdrC
theorem zpj(H:List Hdr):(hdrs H).length=H.length:=by simp [hdrs]
theorem zo(h:Hdr):(hdrC h).length=36:=z8 _ _ _ _ _
attribute [local irreducible] ACallsTo ACallsP
end
section
attribute [local irreducible] ACallsTo ACallsP
end
section
theorem z9t{O:Store}{q q':Nat}{a b:List AV}{es es':List (List AV)}(h:O[q]? =some (some es))(h':O[q']? =some (some es'))(e:es[0]? =some a)(e':es'[0]? =some b)(hl:a.length ≠ b.length):q ≠ q':=by
 rintro rfl
 rw [h]at h'
 simp only [Option.some.injEq]at h'
 subst h'
 rw [e]at e'
 simp only [Option.some.injEq]at e'
 exact hl (by rw [e'])
theorem zul{L:List (List UInt8)}(h:L ≠ []):∃a:List AV,(strs L)[0]? =some a/\ a.length=1:=by
 cases L with
 |nil=>exact absurd rfl h
 |cons s L=>exact⟨[.str s],rfl,rfl⟩
theorem hr_at0{l:List Hash}(h:l ≠ []):∃a:List AV,(hr l)[0]? =some a/\ a.length=32:=by
 cases l with
 |nil=>exact absurd rfl h
 |cons s l=>exact⟨hc s,rfl,z6 s⟩
theorem zhw{H:List Hdr}(h:H ≠ []):∃a:List AV,(hdrs H)[0]? =some a/\ a.length=36:=by
 cases H with
 |nil=>exact absurd rfl h
 |cons s H=>exact⟨hdrC s,rfl,zo s⟩
theorem RowAt.ne{sz n q:Nat}{O:Store}{sid:Option Nat}{v:AV}{es es':List (List AV)}{b:List AV}(h:RowAt sz O sid v es)(hw:es ≠ []->∃a:List AV,es[0]? =some a/\ a.length=n)(h':O[q]? =some (some es'))(e':es'[0]? =some b)(hb:b.length ≠ n):∀j,sid=some j->j ≠ q:=by
 intro j e
 rcases h with⟨e2,_⟩| ⟨j',e2,hn,_,hg⟩
 ·rw [e2]at e;cases e
 ·rw [e2]at e;cases e
  obtain⟨a,ha,hl⟩:=hw hn
  exact z9t hg h' ha e' (by omega)
theorem RowAt.ne2{sz n sz' n':Nat}{O:Store}{sid sid':Option Nat}{v v':AV}{es es':List (List AV)}(h:RowAt sz O sid v es)(hw:es ≠ []->∃a:List AV,es[0]? =some a/\ a.length=n)(h':RowAt sz' O sid' v' es')(hw':es' ≠ []->∃a:List AV,es'[0]? =some a/\ a.length=n')(hnn:n ≠ n'):∀j,sid=some j->sid' ≠ some j:=by
 intro j e e'
 rcases h' with⟨e2,_⟩| ⟨j',e2,hn,_,hg⟩
 ·rw [e2]at e';cases e'
 ·rw [e2]at e';cases e'
  obtain⟨a,ha,hl⟩:=hw' hn
  exact h.ne hw hg ha (by omega) j e rfl
theorem zky{L:List (List UInt8)}(h:strs L ≠ []):∃a:List AV,(strs L)[0]? =some a/\ a.length=1:=zul fun e=>h (by rw [e];rfl)
theorem hr_w{l:List Hash}(h:hr l ≠ []):∃a:List AV,(hr l)[0]? =some a/\ a.length=32:=hr_at0 fun e=>h (by rw [e];rfl)
theorem zdh{H:List Hdr}(h:hdrs H ≠ []):∃a:List AV,(hdrs H)[0]? =some a/\ a.length=36:=zhw fun e=>h (by rw [e];rfl)
structure Fr(O O':Store)(own own':List Nat):Prop where
 st:∀j,j<O.length->j ∉ own->O'[j]? =O[j]?
 new:∀j,j ∈ own'->j ∈ own \/O.length<=j
 le:O.length<=O'.length
theorem Fr.ext{O O':Store}{own:List Nat}(h:Ext O O'):Fr O O' own own:=by
 refine⟨fun j hj _=> ?_,fun j hj=> .inl hj,h.le⟩
 obtain⟨y,rfl⟩:=h
 exact gapp hj
theorem Fr.get{O O':Store}{own own':List Nat}(h:Fr O O' own own'){j:Nat}{o:Option AObj}(hg:O[j]? =some o)(hj:j ∉ own):O'[j]? =some o:=by
 rw [h.st j (slen hg) hj];exact hg
def PubIs(O:Store)(r:Nat)(seed:List UInt8)(L:List (List UInt8))(H:List Hdr)(own:List Nat):Prop:=
 ∃t lg lv z hs sl sv sh,own=r::t::(Option.toList sl++(Option.toList sv++Option.toList sh))/\ O[r]? =some (some [pbC (.ptr t 0 0) lg lv L.length z hs]) ∧
  O[t]? =some (some [z1k true seed (keyL seed)])/\ RowAt 1 O sl lg (strs L)/\ RowAt 32 O sv lv (hr (lvs L))/\ SlV 32 (hr (ofR (lvs L)).reverse) z/\ RowAt 36 O sh hs (hdrs H)
theorem PubIs.lt{O:Store}{r:Nat}{seed:List UInt8}{L:List (List UInt8)}{H:List Hdr}{own:List Nat}(h:PubIs O r seed L H own){j:Nat}(hj:j ∈ own):j<O.length:=by
 obtain⟨t,lg,lv,z,hs,sl,sv,sh,rfl,hg,ht,h1,h2,hz,h3⟩:=h
 simp only [List.mem_cons,List.mem_append,Option.mem_toList]at hj
 rcases hj with rfl|rfl|h|h|h
 ·exact slen hg
 ·exact slen ht
 ·exact h1.lt h
 ·exact h2.lt h
 ·exact h3.lt h
theorem PubIs.keep{O O':Store}{r:Nat}{seed:List UInt8}{L:List (List UInt8)}{H:List Hdr}{own:List Nat}(h:PubIs O r seed L H own)(hk:∀j,j ∈ own->O'[j]? =O[j]?):PubIs O' r seed L H own:=by
 obtain⟨t,lg,lv,z,hs,sl,sv,sh,rfl,hg,ht,h1,h2,hz,h3⟩:=h
 refine⟨t,lg,lv,z,hs,sl,sv,sh,rfl,?_,?_,h1.keep fun q e=>hk q ?_,h2.keep fun q e=>hk q ?_,hz,h3.keep fun q e=>hk q ?_⟩
 ·rw [hk r (by simp)];exact hg
 ·rw [hk t (by simp)];exact ht
 all_goals simp [e]
theorem PubIs.ext{O O':Store}{r:Nat}{seed:List UInt8}{L:List (List UInt8)}{H:List Hdr}{own:List Nat}(h:PubIs O r seed L H own)(he:Ext O O'):PubIs O' r seed L H own:=by
 obtain⟨y,rfl⟩:=he
 exact h.keep fun j hj=>gapp (h.lt hj)
def apE(s:List UInt8):Int:=if 200<s.length then 3 else 0
def apL(L:List (List UInt8))(s:List UInt8):List (List UInt8):=if 200<s.length then L else L++ [s]
def AppendP(O:Store)(r:Nat)(seed:List UInt8)(L:List (List UInt8))(H:List Hdr)(own:List Nat)(s:List UInt8)(a:AV)(O':Store):Prop:=
 a=.int .i64 (apE s)/\ ∃own',Fr O O' own own'/\ PubIs O' r seed (apL L s) H own'
theorem zum{L:List (List UInt8)}(h:L ≠ []):strs L ≠ []:=fun e=>h (by cases L with|nil=>rfl|cons a l=>simp [strs]at e)
theorem zpk{H:List Hdr}(h:H ≠ []):hdrs H ≠ []:=fun e=>h (by cases H with|nil=>rfl|cons a l=>simp [hdrs]at e)
theorem lvs_ne{L:List (List UInt8)}(h:L ≠ []):hr (lvs L) ≠ []:=fun e=>h (by cases L with|nil=>rfl|cons a l=>simp [lvs,hr]at e)
theorem AppendP.ok{O O':Store}{r t q1 q2:Nat}{seed:List UInt8}{L:List (List UInt8)}{H:List Hdr}{s:List UInt8}{z2 hs:AV}{sl sv sh:Option Nat}(h200:¬200<s.length)
  (hg:O'[r]? =some (some [pbC (.ptr t 0 0) (.sl q1 0 (L.length+1) none 1) (.sl q2 0 (L.length+1) none 32) ((L.length+1:Nat):Int) z2 hs])) (ht:O'[t]? =some (some [z1k true seed (keyL seed)]))
  (h1:O'[q1]? =some (some (strs (L++ [s])))) (h2:O'[q2]? =some (some (hr (lvs (L++ [s]))))) (hz:SlV 32 (hr (ofR (lvs (L++ [s]))).reverse) z2) (h3:RowAt 36 O' sh hs (hdrs H))
  (hq1:O.length<=q1) (hq2:O.length<=q2) (hle:O.length<=O'.length) (hst:∀j,j<O.length->j ≠ r->sl ≠ some j->sv ≠ some j->O'[j]? =O[j]?):
  AppendP O r seed L H (r::t::(Option.toList sl++(Option.toList sv++Option.toList sh))) s (.int .i64 0) O':=by
 refine⟨by unfold apE;rw [if_neg h200],r::t::(Option.toList (some q1)++(Option.toList (some q2)++Option.toList sh)),⟨fun j hj hn=> ?_,fun j hj=> ?_,hle⟩,?_⟩
 ·simp only [List.mem_cons,List.mem_append,Option.mem_toList,not_or]at hn
  exact hst j hj hn.1 (fun e=>hn.2.2.1 e) (fun e=>hn.2.2.2.1 e)
 ·simp only [List.mem_cons,List.mem_append,Option.mem_toList,Option.some.injEq]at hj ⊢
  rcases hj with h|h|h|h|h
  ·exact .inl (.inl h)
  ·exact .inl (.inr (.inl h))
  ·exact .inr (by omega)
  ·exact .inr (by omega)
  ·exact .inl (.inr (.inr (.inr (.inr h))))
 ·unfold apL
  rw [if_neg h200]
  have hne:L++ [s] ≠ []:=by simp
  refine⟨t,_,_,z2,hs,some q1,some q2,sh,rfl,by rw [List.length_append];exact hg,ht,.inr ⟨q1,rfl,zum hne,?_,h1⟩,.inr ⟨q2,rfl,lvs_ne hne,?_,h2⟩,hz,h3⟩
  ·rw [zm,List.length_append];rfl
  ·rw [z7,zn,List.length_append];rfl
theorem AppendP.is{O:Store}{r:Nat}{seed:List UInt8}{L:List (List UInt8)}{H:List Hdr}{own:List Nat}{s:List UInt8}(hT:PubIs O r seed L H own):∃a O',AppendP O r seed L H own s a O':=by
 by_cases h:200<s.length
 ·exact⟨_,O,rfl,own,.ext (.refl _),by unfold apL;rw [if_pos h];exact hT⟩
 ·obtain⟨t,lg,lv,z,hs,sl,sv,sh,rfl,hg,ht,h1,h2,hz,h3⟩:=hT
  have d:=slen hg
  have d2:=slen ht
  have hrt:t ≠ r:=z9t ht hg (a:=z1k true seed (keyL seed)) (b:=pbC (.ptr t 0 0) lg lv L.length z hs) rfl rfl (by rw [zfd,z34];simp [pbC])
  refine⟨_,(O.set r (some [pbC (.ptr t 0 0) (.sl O.length 0 (L.length+1) none 1) (.sl (O.length+1) 0 (L.length+1) none 32) ((L.length+1:Nat):Int) (z10 32 (hr (ofR (lvs (L++ [s]))).reverse)) hs]))++ [some (strs (L++ [s])),some (hr (lvs (L++ [s])))],
   .ok (O:=O) (q1:=O.length) (q2:=O.length+1) (hs:=hs) h ?_ ?_ ?_ ?_ (z3l _ _) ?_ (Nat.le_refl _) (by omega) (by simp) fun j hj hjr _ _=> ?_⟩
  ·rw [gapp (by simpa using d),z31 d]
  ·rw [gapp (by simpa using d2),z1g (fun e=>hrt e.symm)];exact ht
  ·rw [z22 (by simp)];simp
  ·rw [z22 (by simp)];simp
  ·refine h3.keep fun q e=> ?_
   have hq:=h3.lt e
   have hqr:q ≠ r:=by
    rcases h3 with⟨e2,_⟩| ⟨q',e2,hn,rfl,hgq⟩
    ·rw [e2]at e;cases e
    ·rw [e2]at e;cases e
     obtain⟨a,ha,hal⟩:=zhw (H:=H) (fun e=>hn (by rw [e];rfl))
     exact z9t hgq hg ha (b:=pbC (.ptr t 0 0) lg lv L.length z _) rfl (by rw [hal];simp [pbC])
   rw [gapp (by simpa using hq),z1g (fun e=>hqr e.symm)]
  ·rw [gapp (by simpa using hj),z1g (fun e=>hjr e.symm)]
attribute [local irreducible] ACallsTo ACallsP
end
section
def mkH(seed:List UInt8)(i:Nat)(M:List (List UInt8)):Hdr:=⟨M.length,z1b (lvs M),i,ksgS seed i (digH M.length (z1b (lvs M))).1,z1o (keyL seed) i⟩
theorem z9o(seed:List UInt8)(i:Nat):(z1o (keyL seed) i).length=3:=by unfold z1o;rw [List.length_reverse,zja _ i (z34 seed)]
theorem zir(seed:List UInt8)(i:Nat)(M:List (List UInt8))(hi:i<8)(hM:M.length<=4096):z3b (z1b (keyL seed)) (mkH seed i M).n (mkH seed i M).i (mkH seed i M).r (mkH seed i M).s (mkH seed i M).p=0:=by
 have hv:z23 (mkH seed i M).n (mkH seed i M).i (mkH seed i M).s (mkH seed i M).p=true:=decide_eq_true ⟨by simp only [mkH];omega,by simp only [mkH];omega,by simp only [mkH];omega,by simp only [mkH];omega,z82 _ _ _,z9o _ _⟩
 unfold z3b
 rw [hv,if_neg (by simp)]
 exact if_pos (zv8 seed i hi _)
def pubN(H:List Hdr):Int:=((H[H.length-1]?).map Hdr.n).getD 0
structure PubOk(seed:List UInt8)(L:List (List UInt8))(H:List Hdr):Prop where
 len:H.length<=8
 at':∀i h,H[i]? =some h->∃n,h=mkH seed i (L.take n)/\ 0<n/\ n<=L.length
 up:∀i h h',H[i]? =some h->H[i+1]? =some h'->h.n<h'.n
theorem PubOk.nil(seed:List UInt8):PubOk seed [] []:=⟨by simp,by simp,by simp⟩
theorem PubOk.app{seed:List UInt8}{L:List (List UInt8)}{H:List Hdr}(h:PubOk seed L H)(M:List (List UInt8)):PubOk seed (L++M) H:=by
 refine⟨h.len,fun i x hx=> ?_,h.up⟩
 obtain⟨n,e,h0,hn⟩:=h.at' i x hx
 exact⟨n,by rw [List.take_append_of_le_length hn];exact e,h0,by rw [List.length_append];omega⟩
theorem PubOk.path{seed:List UInt8}{L:List (List UInt8)}{H:List Hdr}(h:PubOk seed L H):∀x ∈ H,x.p.length<1000000:=by
 intro x hx
 obtain⟨i,hi⟩:=List.mem_iff_getElem?.1 hx
 obtain⟨n,rfl,_,_⟩:=h.at' i x hi
 show (z1o (keyL seed) i).length<1000000
 rw [z9o];omega
def puE(L:List (List UInt8))(H:List Hdr):Int:=if 8<=H.length then 85 else if (L.length:Int)=pubN H then 83 else 0
def puV(seed:List UInt8)(L:List (List UInt8))(H:List Hdr):AV:=.tup [.agg (if puE L H=0 then hdrC (mkH seed H.length L)else sgZ),.int .i64 (puE L H)]
def puH(seed:List UInt8)(L:List (List UInt8))(H:List Hdr):List Hdr:=if puE L H=0 then H++ [mkH seed H.length L]else H
def PublishP(O:Store)(r:Nat)(seed:List UInt8)(L:List (List UInt8))(H:List Hdr)(own:List Nat)(a:AV)(O':Store):Prop:=
 a=puV seed L H/\ ∃own',Fr O O' own own'/\ PubIs O' r seed L (puH seed L H) own'
theorem PublishP.ok{O O':Store}{r t q:Nat}{seed:List UInt8}{L:List (List UInt8)}{H:List Hdr}{lg lv z hs:AV}{sl sv sh:Option Nat}(he:puE L H=0)
  (hg0:O[r]? =some (some [pbC (.ptr t 0 0) lg lv L.length z hs])) (ht0:O[t]? =some (some [z1k true seed (keyL seed)])) (h1:RowAt 1 O sl lg (strs L)) (h2:RowAt 32 O sv lv (hr (lvs L))) (h3:RowAt 36 O sh hs (hdrs H))
  (hg:O'[r]? =some (some [pbC (.ptr t 0 0) lg lv L.length z (.sl q 0 (H.length+1) none 36)])) (hz:SlV 32 (hr (ofR (lvs L)).reverse) z)
  (hq:O'[q]? =some (some (hdrs (H++ [mkH seed H.length L])))) (hqn:O.length<=q) (hle:O.length<=O'.length) (hst:∀j,j<O.length->j ≠ r->sh ≠ some j->O'[j]? =O[j]?):
  PublishP O r seed L H (r::t::(Option.toList sl++(Option.toList sv++Option.toList sh))) (.tup [.agg (hdrC (mkH seed H.length L)),.int .i64 0]) O':=by
 refine⟨by unfold puV;rw [he,if_pos rfl],r::t::(Option.toList sl++(Option.toList sv++Option.toList (some q))),⟨fun j hj hn=> ?_,fun j hj=> ?_,hle⟩,?_⟩
 ·simp only [List.mem_cons,List.mem_append,Option.mem_toList,not_or]at hn
  exact hst j hj hn.1 (fun e=>hn.2.2.2.2 e)
 ·simp only [List.mem_cons,List.mem_append,Option.mem_toList,Option.some.injEq]at hj ⊢
  rcases hj with h|h|h|h|h
  ·exact .inl (.inl h)
  ·exact .inl (.inr (.inl h))
  ·exact .inl (.inr (.inr (.inl h)))
  ·exact .inl (.inr (.inr (.inr (.inl h))))
  ·exact .inr (by omega)
 ·unfold puH
  rw [if_pos he]
  have hne:H++ [mkH seed H.length L] ≠ []:=by simp
  have hpl:(pbC (.ptr t 0 0) lg lv L.length z hs).length=6:=rfl
  have htl:(z1k true seed (keyL seed)).length=258:=by rw [zfd,z34]
  have hrt:t ≠ r:=z9t ht0 hg0 (a:=z1k true seed (keyL seed)) (b:=pbC (.ptr t 0 0) lg lv L.length z hs) rfl rfl (by omega)
  refine⟨t,lg,lv,z,_,sl,sv,some q,rfl,hg,by rw [hst t (slen ht0) hrt fun e=>h3.ne zdh ht0 (b:=z1k true seed (keyL seed)) rfl (by omega) t e rfl];exact ht0,h1.keep fun j e=>hst j (h1.lt e) ?_ ?_,h2.keep fun j e=>hst j (h2.lt e) ?_ ?_,hz,.inr ⟨q,rfl,zpk hne,?_,hq⟩⟩
  ·exact h1.ne zky hg0 (b:=pbC (.ptr t 0 0) lg lv L.length z hs) rfl (by omega) j e
  ·exact h1.ne2 zky h3 zdh (by omega) j e
  ·exact h2.ne hr_w hg0 (b:=pbC (.ptr t 0 0) lg lv L.length z hs) rfl (by omega) j e
  ·exact h2.ne2 hr_w h3 zdh (by omega) j e
  ·rw [zpj,List.length_append];rfl
theorem PublishP.no{O:Store}{r:Nat}{seed:List UInt8}{L:List (List UInt8)}{H:List Hdr}{own:List Nat}{e:Int}(hT:PubIs O r seed L H own)(he:puE L H=e)(h0:e ≠ 0):PublishP O r seed L H own (.tup [.agg sgZ,.int .i64 e]) O:=by
 subst he
 exact⟨by unfold puV;rw [if_neg h0],own,.ext (.refl _),by unfold puH;rw [if_neg h0];exact hT⟩
theorem PublishP.is{O:Store}{r:Nat}{seed:List UInt8}{L:List (List UInt8)}{H:List Hdr}{own:List Nat}(hT:PubIs O r seed L H own):∃a O',PublishP O r seed L H own a O':=by
 by_cases he:puE L H=0
 ·obtain⟨t,lg,lv,z,hs,sl,sv,sh,rfl,hg,ht,h1,h2,hz,h3⟩:=hT
  have d:=slen hg
  refine⟨_,(O.set r (some [pbC (.ptr t 0 0) lg lv L.length z (.sl O.length 0 (H.length+1) none 36)]))++ [some (hdrs (H++ [mkH seed H.length L]))],.ok (q:=O.length) he hg ht h1 h2 h3 ?_ hz ?_ (Nat.le_refl _) (by simp) fun j hj hjr _=> ?_⟩
  ·rw [gapp (by simpa using d),z31 d]
  ·rw [z22 (by simp)];simp
  ·rw [gapp (by simpa using hj),z1g (fun e=>hjr e.symm)]
 ·exact⟨_,O,.no hT rfl he⟩
@[go_sem] theorem sgC_set33 (n:Int) (r:Hash) (i j:Int) (s u:List UInt8) (x v:AV):(sgC n r i s x).take 33++ .int .i64 j:: .str u::v::(sgC n r i s x).drop 36=sgC n r j u v:=by
 rw [zew,zev];rfl
theorem z8h(n:Int)(r:Hash)(i:Int)(s:List UInt8)(x:AV):AV.int .i64 n::(hc r++ [AV.int .i64 i,.str s,x])=sgC n r i s x:=rfl
attribute [local irreducible] ACallsTo ACallsP
end
section
attribute [local irreducible] ACallsTo ACallsP
end
section
theorem PubOk.one(seed:List UInt8)(s:List UInt8)(M:List (List UInt8)):PubOk seed (s::M) [mkH seed 0 [s]]:=by
 refine⟨by simp,fun i h hi=> ?_,fun i h h' hi hi'=>by simp at hi'⟩
 match i,hi with
 | 0,hi=>
  simp only [List.getElem?_cons_zero,Option.some.injEq]at hi
  exact⟨1,by rw [<-hi];simp,by omega,by simp⟩
 |i+1,hi=>simp at hi
attribute [local irreducible] ACallsTo ACallsP
end
section
structure Act22 where
 k:Int
 s:List UInt8
attribute [local irreducible] ACallsTo ACallsP
end
section
attribute [local irreducible] ACallsTo ACallsP
end
section
def adC(key:Hash)(has:Bool)(n:Int)(r:Hash)(i:Int)(s:List UInt8)(x fd:AV):List AV:=.bool true::(hc key++(.bool has::(sgC n r i s x++ [fd])))
@[go_sem] theorem zmc (key:Hash) (has:Bool) (n:Int) (r:Hash) (i:Int) (s:List UInt8) (x fd:AV):(adC key has n r i s x fd).length=71:=by simp [adC,z6,z8]
@[go_sem] theorem adC_0 (key:Hash) (has:Bool) (n:Int) (r:Hash) (i:Int) (s:List UInt8) (x fd:AV):(adC key has n r i s x fd)[0]? =some (.bool true):=rfl
theorem zge(key:Hash)(has:Bool)(n:Int)(r:Hash)(i:Int)(s:List UInt8)(x fd:AV):adC key has n r i s x fd=(.bool true::hc key)++(.bool has::(sgC n r i s x++ [fd])):=by simp [adC]
theorem zgc(key:Hash)(has:Bool)(n:Int)(r:Hash)(i:Int)(s:List UInt8)(x fd:AV):(adC key has n r i s x fd).drop 33=.bool has::(sgC n r i s x++ [fd]):=by
 rw [zge,List.drop_left' (by simp [z6])]
theorem zmd(key:Hash)(has:Bool)(n:Int)(r:Hash)(i:Int)(s:List UInt8)(x fd:AV):(adC key has n r i s x fd).take 33=.bool true::hc key:=by
 rw [zge,List.take_left' (by simp [z6])]
theorem z7t(key:Hash)(has:Bool)(n:Int)(r:Hash)(i:Int)(s:List UInt8)(x fd:AV):(adC key has n r i s x fd).drop 34=sgC n r i s x++ [fd]:=by
 rw [show 34=33+1 from rfl,<-List.drop_drop,zgc];rfl
theorem zgd(key:Hash)(has:Bool)(n:Int)(r:Hash)(i:Int)(s:List UInt8)(x fd:AV):(adC key has n r i s x fd).drop 70=[fd]:=by
 rw [show 70=34+36 from rfl,<-List.drop_drop,z7t,List.drop_left' (by simp [z8])]
@[go_sem] theorem adC_key (key:Hash) (has:Bool) (n:Int) (r:Hash) (i:Int) (s:List UInt8) (x fd:AV):((adC key has n r i s x fd).drop 1).take 32=hc key:=by
 unfold adC;rw [List.drop_succ_cons,List.drop_zero,List.take_left' (by simp [z6])]
theorem z3w{l:List AV}{k:Nat}{a:AV}{m:List AV}(h:l.drop k=a::m):l[k]? =some a:=by
 have:(l.drop k)[0]? =some a:=by rw [h];rfl
 rwa [List.getElem?_drop,Nat.add_zero]at this
@[go_sem] theorem adC_33 (key:Hash) (has:Bool) (n:Int) (r:Hash) (i:Int) (s:List UInt8) (x fd:AV):(adC key has n r i s x fd)[33]? =some (.bool has):=z3w (zgc key has n r i s x fd)
@[go_sem] theorem adC_34 (key:Hash) (has:Bool) (n:Int) (r:Hash) (i:Int) (s:List UInt8) (x fd:AV):(adC key has n r i s x fd)[34]? =some (.int .i64 n):=z3w (z7t key has n r i s x fd)
@[go_sem] theorem adC_70 (key:Hash) (has:Bool) (n:Int) (r:Hash) (i:Int) (s:List UInt8) (x fd:AV):(adC key has n r i s x fd)[70]? =some fd:=z3w (zgd key has n r i s x fd)
@[go_sem] theorem adC_now (key:Hash) (has:Bool) (n:Int) (r:Hash) (i:Int) (s:List UInt8) (x fd:AV):((adC key has n r i s x fd).drop 34).take 36=sgC n r i s x:=by
 rw [z7t,List.take_left' (by simp [z8])]
@[go_sem] theorem adC_head (key:Hash) (has:Bool) (n:Int) (r:Hash) (i:Int) (s:List UInt8) (x fd:AV):((adC key has n r i s x fd).drop 34).take 33=.int .i64 n::hc r:=by
 rw [z7t,List.take_append_of_le_length (by rw [z8];omega),zew]
@[go_sem] theorem adC_root (key:Hash) (has:Bool) (n:Int) (r:Hash) (i:Int) (s:List UInt8) (x fd:AV):((adC key has n r i s x fd).drop 35).take 32=hc r:=by
 rw [show 35=34+1 from rfl,<-List.drop_drop,z7t]
 unfold sgC
 rw [List.cons_append,List.drop_succ_cons,List.drop_zero,List.append_assoc,List.take_left' (by simp [z6])]
@[go_sem] theorem adC_set33 (key:Hash) (has b:Bool) (n:Int) (r:Hash) (i:Int) (s:List UInt8) (x fd:AV):(adC key has n r i s x fd).take 33++ .bool b::(adC key has n r i s x fd).drop 34=adC key b n r i s x fd:=by
 rw [zmd,z7t];simp [adC]
theorem zme(key:Hash)(has:Bool)(n:Int)(r:Hash)(i:Int)(s:List UInt8)(x fd:AV):(adC key has n r i s x fd).take 34=.bool true::(hc key++ [.bool has]):=by
 rw [show adC key has n r i s x fd=(.bool true::(hc key++ [.bool has]))++(sgC n r i s x++ [fd])by simp [adC],List.take_left' (by simp [z6])]
@[go_sem] theorem adC_set34 (key:Hash) (has:Bool) (n m:Int) (r r2:Hash) (i j:Int) (s s2:List UInt8) (x x2 fd:AV):(adC key has n r i s x fd).take 34++(sgC m r2 j s2 x2++(adC key has n r i s x fd).drop 70)=adC key has m r2 j s2 x2 fd:=by
 rw [zme,zgd];simp [adC]
@[go_sem] theorem adC_set70 (key:Hash) (has:Bool) (n:Int) (r:Hash) (i:Int) (s:List UInt8) (x fd fd2:AV):(adC key has n r i s x fd).take 70++fd2::(adC key has n r i s x fd).drop 71=adC key has n r i s x fd2:=by
 rw [show adC key has n r i s x fd=(.bool true::(hc key++(.bool has::sgC n r i s x)))++ [fd]by simp [adC],List.take_left' (by simp [z6,z8]),List.drop_eq_nil_of_le (by simp [z6,z8])]
 simp [adC]
attribute [local irreducible] ACallsTo ACallsP
end
section
def zHd:Hdr:=⟨0,zeroH,0,[],[]⟩
def adS(key:Hash)(now:Option Hdr)(fd:AV):List AV:=adC key now.isSome (now.getD zHd).n (now.getD zHd).r (now.getD zHd).i (now.getD zHd).s (z10 32 (hr (now.getD zHd).p)) fd
def evC(k:Int)(a b:Hdr):List AV:=.int .i64 k::(hdrC a++(hdrC b++(hc zeroH++ [.nilsl])))
def FdAt(O:Store)(fv:AV)(fd:Option (Hdr × Hdr))(own:List Nat):Prop:=(fd=none/\ fv=.nilp/\ own=[]) \/ ∃a b q,fd=some (a,b)/\ fv=.ptr q 0 0/\ own=[q]/\ O[q]? =some (some [evC 1 a b])
theorem FdAt.keep{O O':Store}{fv:AV}{fd:Option (Hdr × Hdr)}{own:List Nat}(h:FdAt O fv fd own)(hk:∀j,j ∈ own->O'[j]? =O[j]?):FdAt O' fv fd own:=by
 rcases h with h| ⟨a,b,q,e1,e2,rfl,hg⟩
 ·exact .inl h
 ·exact .inr ⟨a,b,q,e1,e2,rfl,by rw [hk q (by simp)];exact hg⟩
theorem FdAt.lt{O:Store}{fv:AV}{fd:Option (Hdr × Hdr)}{own:List Nat}(h:FdAt O fv fd own){j:Nat}(hj:j ∈ own):j<O.length:=by
 rcases h with⟨_,_,rfl⟩| ⟨a,b,q,e1,e2,rfl,hg⟩
 ·cases hj
 ·simp only [List.mem_singleton]at hj;subst hj;exact slen hg
def AudIs(O:Store)(p:Nat)(key:Hash)(now:Option Hdr)(fd:Option (Hdr × Hdr))(own:List Nat):Prop:=
 ∃fv fo,own=p::fo/\ O[p]? =some (some [adS key now fv])/\ FdAt O fv fd fo
theorem AudIs.lt{O:Store}{p:Nat}{key:Hash}{now:Option Hdr}{fd:Option (Hdr × Hdr)}{own:List Nat}(h:AudIs O p key now fd own){j:Nat}(hj:j ∈ own):j<O.length:=by
 obtain⟨fv,fo,rfl,hg,hf⟩:=h
 rcases List.mem_cons.1 hj with rfl|hj
 ·exact slen hg
 ·exact hf.lt hj
theorem AudIs.keep{O O':Store}{p:Nat}{key:Hash}{now:Option Hdr}{fd:Option (Hdr × Hdr)}{own:List Nat}(h:AudIs O p key now fd own)(hk:∀j,j ∈ own->O'[j]? =O[j]?):AudIs O' p key now fd own:=by
 obtain⟨fv,fo,rfl,hg,hf⟩:=h
 exact⟨fv,fo,rfl,by rw [hk p (by simp)];exact hg,hf.keep fun j hj=>hk j (by simp [hj])⟩
theorem AudIs.ext{O O':Store}{p:Nat}{key:Hash}{now:Option Hdr}{fd:Option (Hdr × Hdr)}{own:List Nat}(h:AudIs O p key now fd own)(he:Ext O O'):AudIs O' p key now fd own:=by
 obtain⟨y,rfl⟩:=he
 exact h.keep fun j hj=>gapp (h.lt hj)
def adE(key:Hash)(now:Option Hdr)(s:Hdr)(pf:List Hash):Int:=
 if z3b key s.n s.i s.r s.s s.p ≠ 0 then 0 else match now with
  |none=>1
  |some w=>if ordI s.n w.n s.r w.r=1 then 3 else if ordI s.n w.n s.r w.r=3 then 6
   else if ordI s.n w.n s.r w.r=0 then(if chkH s.n w.n s.r w.r pf=0 then 4 else 5)
   else(if chkH w.n s.n w.r s.r pf=0 then 2 else 5)
def adN(key:Hash)(now:Option Hdr)(s:Hdr)(pf:List Hash):Option Hdr:=if adE key now s pf=1 \/adE key now s pf=2 then some s else now
def adF(key:Hash)(now:Option Hdr)(fd:Option (Hdr × Hdr))(s:Hdr)(pf:List Hash):Option (Hdr × Hdr):=if adE key now s pf=6 then some (fd.getD (now.getD zHd,s))else fd
def AHeadP(O:Store)(p:Nat)(key:Hash)(now:Option Hdr)(fd:Option (Hdr × Hdr))(own:List Nat)(s:Hdr)(pf:List Hash)(a:AV)(O':Store):Prop:=
 a=.int .i64 (adE key now s pf)/\ ∃own',Fr O O' own own'/\ AudIs O' p key (adN key now s pf) (adF key now fd s pf) own'
theorem AHeadP.ext{O O':Store}{p:Nat}{key:Hash}{now:Option Hdr}{fd:Option (Hdr × Hdr)}{own:List Nat}{s:Hdr}{pf:List Hash}{e:Int}(hT:AudIs O p key now fd own)(he:adE key now s pf=e)(h:e ≠ 1/\ e ≠ 2/\ e ≠ 6)(hx:Ext O O'):AHeadP O p key now fd own s pf (.int .i64 e) O':=by
 subst he
 refine⟨rfl,own,.ext hx,?_⟩
 unfold adN adF
 rw [if_neg (by omega),if_neg h.2.2]
 exact hT.ext hx
theorem zmf(key:Hash)(now:Option Hdr)(fd:AV):(adS key now fd).length=71:=zmc _ _ _ _ _ _ _ _
theorem zhd(k:Int)(a b:Hdr):(evC k a b).length=106:=by simp [evC,zo,z6]
theorem FdAt.ne{O:Store}{p:Nat}{key:Hash}{now:Option Hdr}{fv fv':AV}{fd:Option (Hdr × Hdr)}{fo:List Nat}(h:FdAt O fv fd fo)(hg:O[p]? =some (some [adS key now fv'])):p ∉ fo:=by
 rcases h with⟨_,_,rfl⟩| ⟨a,b,q,e1,e2,rfl,hq⟩
 ·simp
 ·intro hm
  simp only [List.mem_singleton]at hm
  exact z9t hg hq (a:=adS key now fv') (b:=evC 1 a b) rfl rfl (by rw [zmf,zhd];omega) hm
theorem AHeadP.now{O O':Store}{p:Nat}{key:Hash}{now:Option Hdr}{fd:Option (Hdr × Hdr)}{fv:AV}{fo:List Nat}{s:Hdr}{pf:List Hash}{e:Int}(hg:O[p]? =some (some [adS key now fv]))(hf:FdAt O fv fd fo)(he:adE key now s pf=e)(h:e=1 \/e=2)
  (hg':O'[p]? =some (some [adS key (some s) fv])) (hle:O.length<=O'.length) (hst:∀j,j<O.length->j ≠ p->O'[j]? =O[j]?):AHeadP O p key now fd (p::fo) s pf (.int .i64 e) O':=by
 subst he
 have hp:=hf.ne hg
 refine⟨rfl,p::fo,⟨fun j hj hn=>hst j hj (fun e=>hn (by simp [e])),fun j hj=> .inl hj,hle⟩,fv,fo,rfl,?_,?_⟩
 ·unfold adN;rw [if_pos h];exact hg'
 ·unfold adF;rw [if_neg (by omega)]
  exact hf.keep fun j hj=>hst j (hf.lt hj) fun e=>hp (by rw [<-e];exact hj)
theorem AHeadP.fork{O O':Store}{p q:Nat}{key:Hash}{w s:Hdr}{pf:List Hash}(hg:O[p]? =some (some [adS key (some w) .nilp]))(he:adE key (some w) s pf=6)
  (hg':O'[p]? =some (some [adS key (some w) (.ptr q 0 0)])) (hq:O'[q]? =some (some [evC 1 w s])) (hqn:O.length<=q) (hle:O.length<=O'.length) (hst:∀j,j<O.length->j ≠ p->O'[j]? =O[j]?):AHeadP O p key (some w) none [p] s pf (.int .i64 6) O':=by
 refine⟨by rw [he],[p,q],⟨fun j hj hn=>hst j hj (fun e=>hn (by simp [e])),fun j hj=> ?_,hle⟩,.ptr q 0 0,[q],rfl,?_,?_⟩
 ·simp only [List.mem_cons,List.not_mem_nil,or_false]at hj ⊢
  rcases hj with h|h
  ·exact .inl h
  ·exact .inr (by omega)
 ·unfold adN;rw [he,if_neg (by omega)];exact hg'
 ·unfold adF;rw [he,if_pos rfl]
  exact .inr ⟨w,s,q,rfl,rfl,rfl,hq⟩
theorem AHeadP.forked{O O':Store}{p:Nat}{key:Hash}{now:Option Hdr}{fd:Option (Hdr × Hdr)}{own:List Nat}{s:Hdr}{pf:List Hash}(hT:AudIs O p key now fd own)(hfd:fd ≠ none)(he:adE key now s pf=6)(hx:Ext O O'):AHeadP O p key now fd own s pf (.int .i64 6) O':=by
 refine⟨by rw [he],own,.ext hx,?_⟩
 unfold adN adF
 rw [he,if_neg (by omega),if_pos rfl]
 cases fd with
 |none=>exact absurd rfl hfd
 |some f=>exact hT.ext hx
theorem AHeadP.is{O:Store}{p:Nat}{key:Hash}{now:Option Hdr}{fd:Option (Hdr × Hdr)}{own:List Nat}{s:Hdr}{pf:List Hash}(hT:AudIs O p key now fd own):∃a O',AHeadP O p key now fd own s pf a O':=by
 have hT':=hT
 obtain⟨fv,fo,rfl,hg,hf⟩:=hT
 have d:=slen hg
 by_cases h1:adE key now s pf=1 \/adE key now s pf=2
 ·exact⟨_,O.set p (some [adS key (some s) fv]),.now hg hf rfl h1 (z31 d) (by simp) fun j hj hjp=>z1g (fun e=>hjp e.symm)⟩
 ·by_cases h6:adE key now s pf=6
  ·rcases hf with⟨rfl,rfl,rfl⟩| ⟨a,b,q,rfl,_⟩
   ·cases now with
    |none=>unfold adE at h6;split at h6<;>simp at h6
    |some w=>
     refine⟨_,(O.set p (some [adS key (some w) (.ptr O.length 0 0)]))++ [some [evC 1 w s]],.fork (q:=O.length) hg h6 ?_ ?_ (Nat.le_refl _) (by simp) fun j hj hjp=> ?_⟩
     ·rw [gapp (by simpa using d),z31 d]
     ·rw [z22 (by simp)];simp
     ·rw [gapp (by simpa using hj),z1g (fun e=>hjp e.symm)]
   ·exact⟨_,O,.forked hT' (by simp) h6 (.refl _)⟩
  ·exact⟨_,O,.ext hT' rfl ⟨by omega,by omega,h6⟩ (.refl _)⟩
end
section
attribute [local irreducible] ACallsTo ACallsP
end
section
def logS:List UInt8:=[108,111,103]
attribute [local irreducible] ACallsTo ACallsP
theorem zfs(O:Store)(L:List (List (List UInt8)))(es:List (List AV))(ex:Bool):ACallsTo TC 12 [.vsl 1 es ex] O (.agg [.ptr (O.length+1) 0 0,.vsl 1 es ex]) (O++ [some [[.ptr (O.length+1) 0 0,.vsl 1 es ex]],some [z1k true logS (keyL logS)]]):=by
 have hN:=fun O=>zq8 O logS (by simp [logS])
 rw [show logS=[108,111,103]from rfl]at*
 refine ACallsTo.of_body_keep q1uok (by simp) ?_
 repeat' (first|apply zs_|apply zb_|apply zc_|apply zt_ rfl|apply zf_ rfl|(apply zd_ rfl<;>intro ht<;>try omega)|((first|apply zr_|apply zk_|apply ze_|apply zq_|(apply callW.mk_pu;(first|exact(fun _=>hN _)))|(apply callW.za;(first|exact(hN _)))|(apply zG<;>intro ht));all_goals try simp (disch:=first|omega|(simp only [lens,z6,z7,lQr,lQm,lQt,lQd,z8,zm,zn,zo];first|done|omega)) only [go_sem,z6j]))
theorem zfr(O:Store)(L:List (List UInt8))(y:AV)(hy:SlV 1 (strs L) y)(hL:∀s ∈ L,s.length<1000000)(hl:L.length<1000000):ACallsTo TC 13 [y] O (z10 32 (hr (lvs L))) O:=by
 have r1:=hy.len
 rw [zm]at r1
 unfold z1i at r1
 refine ACallsTo.of_body q1wok (by simp) fun hw _=> ?_
 repeat' (first|apply zs_|apply zb_|apply zc_|apply zt_ rfl|apply zf_ rfl|(apply zd_ rfl<;>intro ht<;>try omega)|((first|apply zr_|apply zk_|apply ze_|apply zq_|(apply zG<;>intro ht));all_goals try simp (disch:=first|omega|(simp only [lens,z6,z7,lQr,lQm,lQt,lQd,z8,zm,zn,zo];first|done|omega)) only [go_sem,r1]))
 refine zW.loop (fun m J O'=>∃(i:Nat) (v:AV),m+i=L.length/\ OwnN 32 O O' v (hr (lvs (L.take i)))/\ J 0=y/\ J 3=v/\ J 4=.int .i64 i) L.length ?_ ?_
 ·refine⟨0,.nilsl,by omega,?_,by simp (disch:=first|omega|(simp only [lens,z6,z7,lQr,lQm,lQt,lQd,z8,zm,zn,zo];first|done|omega)) only [go_sem],by simp (disch:=first|omega|(simp only [lens,z6,z7,lQr,lQm,lQt,lQd,z8,zm,zn,zo];first|done|omega)) only [go_sem],by simp (disch:=first|omega|(simp only [lens,z6,z7,lQr,lQm,lQt,lQd,z8,zm,zn,zo];first|done|omega)) only [go_sem];rfl⟩
  exact⟨[],by simp,.inl ⟨by simp [lvs,hr],rfl⟩⟩
 ·rintro m J O' ⟨i,v,hm,hO,q0,q3,q4⟩
  by_cases hi:i<L.length
  ·obtain⟨ex,rfl⟩:=hy.vsl (by rw [zm];omega)
   have hg:=zc0 hi
   have hLf:=fun O=>zjo O (stD L i) (by have:=hL _ (zby hi);omega)
   obtain⟨v',O2,ha,hO2⟩:=hO.app (ys:=[hc (lfH (stD L i))]) (by simp) (by rw [z7,zn,List.length_take];simp;omega)
   have hcat:hr (lvs (L.take i))++ [hc (lfH (stD L i))]=hr (lvs (L.take (i+1))):=by rw [zfc hi];simp [lvs,hr]
   rw [hcat]at hO2
   rw [show L.getD i []=stD L i from rfl]at hg
   generalize stD L i=s at*
   repeat' (first|apply zs_|apply zb_|apply zc_|apply zt_ rfl|apply zf_ rfl|(apply zd_ rfl<;>intro ht<;>try omega)|((first|apply zr_|apply zk_|apply ze_|apply zq_|(apply callW.mk_pu;(first|exact(fun _=>hLf _)))|(apply callW.za;(first|exact(hLf _)))|(apply zG<;>intro ht));all_goals try simp (disch:=first|omega|(simp only [lens,z6,z7,lQr,lQm,lQt,lQd,z8,zm,zn,zo];first|done|omega)) only [go_sem,q0,q3,q4,hg,r1,ha]))
   exact⟨m-1,by omega,i+1,v',by omega,hO2,by simp⟩
  ·obtain rfl:i=L.length:=by omega
   rw [List.take_of_length_le (Nat.le_refl _)]at hO
   repeat' (first|apply zs_|apply zb_|apply zc_|apply zt_ rfl|apply zf_ rfl|(apply zd_ rfl<;>intro ht<;>try omega)|((first|apply zr_|apply zk_|apply ze_|apply zq_|(apply zG<;>intro ht));all_goals try simp (disch:=first|omega|(simp only [lens,z6,z7,lQr,lQm,lQt,lQd,z8,zm,zn,zo];first|done|omega)) only [go_sem,q0,q3,q4,r1]))
   exact hO.froze hw (z2n _)
theorem zch(O:Store)(t:Nat)(seed:List UInt8)(L:List (List UInt8))(ex:Bool)(n k:Nat)(a:Int)(hk:z1a .and .i64 a 7=some (.int .i64 (k:Nat)))(hk8:k<8)(hn:n<=L.length)(ht:O[t]? =some (some [z1k true seed (keyL seed)]))(hs:seed.length<1000000)(hL:∀s ∈ L,s.length<1000000)(hl:L.length<1000000):
  ACallsTo TC 15 [.agg [.ptr t 0 0,.vsl 1 (strs L) ex],.int .i64 n,.int .i64 a] O (.agg (hdrC (mkH seed k (L.take n)))) O:=by
 have d:=slen ht
 have hLv:=fun O b=>zfr O (L.take n) (.vsl 1 (strs (L.take n)) b) (.inr ⟨b,rfl⟩) (fun s hs=>hL s (List.mem_of_mem_take hs)) (by rw [List.length_take];omega)
 have hRt:=fun O=>zej O (lvs (L.take n)) (z10 32 (hr (lvs (L.take n)))) (.of (z3l _ _)) (by rw [zn,List.length_take];omega)
 have hD:=fun O=>zeg O (n:Int) (z1b (lvs (L.take n)))
 have hS:=fun y=>zl3 (O++y) t seed (keyL seed) k (digH n (z1b (lvs (L.take n)))) (by rw [gapp d];exact ht) (z34 seed) hk8 hs
 have hm:hdrC (mkH seed k (L.take n))=sgC n (z1b (lvs (L.take n))) k (ksgS seed k (digH n (z1b (lvs (L.take n)))).1) (z10 32 (hr (z1o (keyL seed) k))):=by
  unfold mkH hdrC
  simp only [List.length_take,Nat.min_eq_left hn]
 rw [hm]
 have hrl:RLs O.length (sgC n (z1b (lvs (L.take n))) k (ksgS seed k (digH n (z1b (lvs (L.take n)))).1) (z10 32 (hr (z1o (keyL seed) k)))):=z8d (zek (z2n _))
 unfold zbs at hS
 generalize z1b (lvs (L.take n))=R at*
 generalize hsig:ksgS seed k (digH n R).1=sig at*
 generalize z1o (keyL seed) k=PH at*
 generalize digH n R=dg at*
 refine ACallsTo.of_body q1vok (by simp) fun hw _=> ?_
 repeat' (first|apply zs_|apply zb_|apply zc_|apply zt_ rfl|apply zf_ rfl|(apply zd_ rfl<;>intro ht<;>try omega)|((first|apply zr_|apply zk_|apply ze_|apply zq_|(apply callW.mk_pu;(first|exact(fun _=>hLv _ _)|exact(fun _=>hRt _)|exact(fun _=>hD _)))|(apply callW.za;(first|exact(hLv _ _)|exact(hRt _)|exact(hD _)))|(apply zG<;>intro ht));all_goals try simp (disch:=first|omega|(simp only [lens,z6,z7,lQr,lQm,lQt,lQd,z8,zm,zn,zo];first|done|omega)) only [go_sem,hk,Int.toNat_natCast,zuo,z8h]))
 refine callW.mk_pu2 (caps:=[]) (hS _) (fun h hh=>hh.elim) ?_
 simp (disch:=first|omega|(simp only [lens,z6,z7,lQr,lQm,lQt,lQd,z8,zm,zn,zo];first|done|omega)) only [go_sem,hS,List.append_nil,z8h]
 repeat' (first|apply zs_|apply zb_|apply zc_|apply zt_ rfl|apply zf_ rfl|(apply zd_ rfl<;>intro ht<;>try omega)|((first|apply zr_|apply zk_|apply ze_|apply zq_|(apply zG<;>intro ht));all_goals try simp (disch:=first|omega|(simp only [lens,z6,z7,lQr,lQm,lQt,lQd,z8,zm,zn,zo];first|done|omega)) only [go_sem,z8h]))
 have e:∀(Z:List AV),Z.length=36->sgC n R k sig (z10 32 (hr PH))++(List.drop 36 (sgC n R 0 [] AV.nilsl)++List.drop (36+(List.drop 36 (sgC n R 0 [] AV.nilsl)).length) Z)=sgC n R k sig (z10 32 (hr PH)):=by
  intro Z hZ
  rw [zev,List.nil_append,List.drop_eq_nil_of_le (by simp [hZ]),List.append_nil]
 rw [e _ rfl]
 exact Ext.pure hw ⟨_,rfl⟩ (by simp only [RL];exact hrl)
end
section
def lgA:List (List UInt8):=[[97],[98]]
def hdA:Hdr:=mkH logS 0 [[97]]
def hdB:Hdr:=mkH logS 1 [[97],[98]]
def kyA:Hash:=z1b (keyL logS)
end
section
theorem zii:logS.length<1000000:=by simp [logS]
attribute [local irreducible] ACallsTo ACallsP kyA hdA hdB logS
end
section
set_option maxRecDepth 10000

end
section
set_option maxRecDepth 10000
def q1xr0:yW:=[
 yI 4 (.mv (.v (.bool false)))]
def q1xr1:yW:=[
 yK 5 .i64 0]
def q1xr2:yW:=[
 yM 7 5,
 yM 8 1,
 yI 9 (.lenSl (.t 8)),
 yB 10 .lss 7 9]
def q1xc3:yX:=.cond (.t 10) .skip (.exit 0)
def q1xc4:yX:=yq q1xr2 q1xc3
def q1xr5:yW:=[
 yM 13 1,
 yM 14 5,
 yI 15 (.iaSl 4 (.t 13) (.t 14)),
 yF 16 3 15,
 yL 17 false 1 16,
 yI 18 (.lenStr (.t 17)),
 yJ 19 .gtr 18 .i64 300]
def q1xr6:yW:=[
 yI 4 (.mv (.v (.bool true)))]
def q1xc7:yX:=yq q1xr6 .ret
def q1xc8:yX:=.cond (.t 19) q1xc7 .skip
def q1xc9:yX:=yq q1xr5 q1xc8
def q1xr10:yW:=[
 yM 11 5,
 yJ 12 .add 11 .i64 1,
 yM 5 12]
def q1xc11:yX:=.seq (.block 1 q1xc9) (.reg q1xr10)
def q1xc12:yX:=.seq q1xc4 q1xc11
def q1xc13:yX:=.loop q1xc12
def q1xc14:yX:=.block 0 q1xc13
def q1xc15:yX:=yq q1xr1 q1xc14
def q1xr16:yW:=[
 yK 6 .i64 0]
def q1xr17:yW:=[
 yM 20 6,
 yM 21 0,
 yI 22 (.lenSl (.t 21)),
 yB 23 .lss 20 22]
def q1xc18:yX:=.cond (.t 23) .skip (.exit 2)
def q1xc19:yX:=yq q1xr17 q1xc18
def q1xr20:yW:=[
 yM 26 0,
 yM 27 6,
 yI 28 (.iaSl 1 (.t 26) (.t 27)),
 yL 29 false 1 28,
 yI 30 (.lenStr (.t 29)),
 yJ 31 .gtr 30 .i64 200]
def q1xr21:yW:=[
 yI 4 (.mv (.v (.bool true)))]
def q1xc22:yX:=yq q1xr21 .ret
def q1xc23:yX:=.cond (.t 31) q1xc22 .skip
def q1xc24:yX:=yq q1xr20 q1xc23
def q1xr25:yW:=[
 yM 24 6,
 yJ 25 .add 24 .i64 1,
 yM 6 25]
def q1xc26:yX:=.seq (.block 3 q1xc24) (.reg q1xr25)
def q1xc27:yX:=.seq q1xc19 q1xc26
def q1xc28:yX:=.loop q1xc27
def q1xc29:yX:=.block 2 q1xc28
def q1xc30:yX:=yq q1xr16 q1xc29
def q1xr31:yW:=[
 yM 32 1,
 yI 33 (.lenSl (.t 32)),
 yJ 34 .gtr 33 .i64 10,
 yM 35 34,
 yV 36 35 false 0,
 yG 37 35 false (.lenSl (.t 36)),
 yG 38 35 false (.bin .gtr .none (.t 37) (.v (.int .i64 30))),
 yP 39 35 38,
 yM 4 39]
def q1xc32:yX:=yq q1xr31 .ret
def q1xc33:yX:=.seq q1xc30 q1xc32
def q1xc34:yX:=.seq q1xc15 q1xc33
def q1xc35:yX:=yq q1xr0 q1xc34
attribute [go_sem] q1xr0 q1xr1 q1xr2 q1xr5 q1xr6 q1xr10 q1xr16 q1xr17 q1xr20 q1xr21 q1xr25 q1xr31
theorem q1xok:cFn TC 10=some (40,[.t 4],q1xc35):=by kernel_rfl
end
section
set_option maxRecDepth 4000
def za7:Nat->Nat->Nat
 | 0,_=>33778799
 | 1,_=>1728053248
 | 2,l=>l%8*16777216+l/8/256%256*65536+l/8%256*256+128
 | 15,_=>88
 | _,_=>0
theorem z74:∀j l,za7 j l<2^64:=by
 intro j l
 unfold za7
 split<;>omega
def secG(i k:Nat):List UInt8:=[2,3,108,111,103,0,0,0,UInt8.ofNat i,UInt8.ofNat (k/256),UInt8.ofNat k,128,0,0,0,0,0,0,0,0,0,0,0,0,0,0,0,0,0,0,0,0,0,0,0,0,0,0,0,0,0,0,0,0,0,0,0,0,0,0,0,0,0,0,0,0,0,0,0,0,0,0,0,88]
theorem zk7(i k:Nat)(hi:i<8):padS (secM [108,111,103] i k)=secG i k:=by
 have e0:secM [108,111,103] i k=[2,3,108,111,103,0,0,0,UInt8.ofNat i,UInt8.ofNat (k/256),UInt8.ofNat k]:=by
  unfold secM putS z7p
  rw [if_pos (by omega),if_pos (by omega),show (4:Int).toNat=4 from rfl,show (2:Int).toNat=2 from rfl,Int.toNat_natCast,Int.toNat_natCast,be4]
  have e1:i/16777216=0:=by omega
  have e2:i/65536=0:=by omega
  have e3:i/256=0:=by omega
  rw [e1,e2,e3]
  have e4:be 2 k=[UInt8.ofNat (k/256),UInt8.ofNat k]:=by simp [be]
  have e5:numS ([108,111,103]:List UInt8).length=[3]:=rfl
  rw [e4,e5]
  rfl
 rw [e0]
 unfold padS
 have e:[2,3,108,111,103,0,0,0,UInt8.ofNat i,UInt8.ofNat (k/256),UInt8.ofNat k].length=11:=rfl
 rw [e,show (119-11%64)%64=44 from rfl,show 11*8=88 from rfl,show List.replicate 44 (0:UInt8)++be 8 88=[0,0,0,0,0,0,0,0,0,0,0,0,0,0,0,0,0,0,0,0,0,0,0,0,0,0,0,0,0,0,0,0,0,0,0,0,0,0,0,0,0,0,0,0,0,0,0,0,0,0,0,88]from by decide+kernel]
 rfl
theorem z6t(l j:Nat)(hj:j<16):z12 (padS (secM [108,111,103] ((l%8:Nat):Int) ((id (l/8):Nat):Int))) j=BitVec.ofNat 32 (za7 j l):=by
  rw [zk7 (l%8) (id (l/8)) (Nat.mod_lt _ (by omega))]
  change z12 (secG (l%8) (l/8)) j=_
  match j,hj with
  | 2, _ => exact z2y _ 2 rfl (by
      have z128:(128:UInt8).toNat=128:=rfl
      have h1:(UInt8.ofNat (l%8)).toNat=l%8%2^8:=UInt8.toNat_ofNat'
      have h2:(UInt8.ofNat (l/8/256)).toNat=l/8/256%2^8:=UInt8.toNat_ofNat'
      have h3:(UInt8.ofNat (l/8)).toNat=l/8%2^8:=UInt8.toNat_ofNat'
      have h4:za7 2 l=l%8*16777216+l/8/256%256*65536+l/8%256*256+128:=rfl
      omega)
  | 0,_=>exact z2y _ 0 rfl rfl
  | 1,_=>exact z2y _ 1 rfl rfl
  | 3,_=>exact z2y _ 3 rfl rfl
  | 4,_=>exact z2y _ 4 rfl rfl
  | 5,_=>exact z2y _ 5 rfl rfl
  | 6,_=>exact z2y _ 6 rfl rfl
  | 7,_=>exact z2y _ 7 rfl rfl
  | 8,_=>exact z2y _ 8 rfl rfl
  | 9,_=>exact z2y _ 9 rfl rfl
  | 10,_=>exact z2y _ 10 rfl rfl
  | 11,_=>exact z2y _ 11 rfl rfl
  | 12,_=>exact z2y _ 12 rfl rfl
  | 13,_=>exact z2y _ 13 rfl rfl
  | 14,_=>exact z2y _ 14 rfl rfl
  | 15,_=>exact z2y _ 15 rfl rfl
  |j+16,h=>omega
set_option maxRecDepth 100000 in
theorem z6g:S8.beq (zb7 za7) 1320835449206203866968076020261438702849544712518655694594726786435725497492055048555651861447073614291391284224593337609353361163864314234628065 2013796147878520090777087847541815710076959536117237416500479438883090368637474608574000615118968184963559477138501976632380654710688406745170962 764677164750291394651456146995311753182295554811497401143325479492167841979218991961787130411770669366995379369167074185438647288952392840850119 2820532317304250986185441863165357658723354557117661337876442221713392596583902174695393914508297141563107553324167067054064426302871453685465301 4288889241354956728289634705347294290886559619521404258259498530673754312111797092585911532674921074801148668119997317565658285810729428459978 1532455314960756290783695641016176468105767434538854070937505973105784005677135635410655906952828073783636638650614393447809143328208428770758431 2436926052602706423628281069676967468239015793754056925121058134370771685922224871690994533947280866332420918801877964605410961094719201329583076 2213900926502513227729612905972299321349082970510711465694822006630624413376917535197471595075019592482578544502151732206519080708072907146844930=true:=by decide+kernel
theorem z6n:z7q [108,111,103]:=fun i k hi=>by rw [zk7 i k hi];rfl
theorem z6p(i:Nat):pubH [108,111,103] i=pubS [108,111,103] id i:=rfl
def kg0:List UInt8:=[112,245,103,225,125,0,196,18,184,195,42,199,35,239,64,213,83,188,33,202,136,167,143,31,228,76,147,228,13,48,219,2]
def kg1:List UInt8:=[135,101,180,93,79,81,114,205,119,129,56,115,255,106,191,177,241,221,151,178,170,61,192,111,235,227,83,106,178,100,238,83]
def kg2:List UInt8:=[10,102,171,250,54,84,240,188,26,112,123,104,235,24,77,171,169,91,78,253,147,180,146,24,140,209,58,6,197,52,216,59]
def kg3:List UInt8:=[103,180,156,23,49,165,161,209,222,241,72,94,32,115,93,137,123,165,248,108,215,211,204,216,96,200,101,74,209,228,161,226]
def kg4:List UInt8:=[47,166,43,133,212,89,81,134,209,2,48,127,187,208,93,204,118,132,84,137,196,197,80,214,239,159,209,154,85,6,60,89]
def kg5:List UInt8:=[138,196,10,114,0,35,196,139,35,160,27,92,49,58,62,159,68,188,20,150,191,169,158,67,75,8,179,43,254,242,170,207]
def kg6:List UInt8:=[64,186,91,239,47,232,114,61,67,27,206,134,187,119,47,75,215,152,249,219,54,141,80,65,46,53,43,110,228,165,46,238]
def kg7:List UInt8:=[108,80,199,32,165,36,90,108,62,181,37,42,231,76,117,85,0,90,9,200,125,171,99,245,199,215,69,216,181,141,57,182]
theorem lg0:(z1s (pubH [108,111,103] ((0:Nat):Int))).1=kg0:=by rw [z6p,z6k [108,111,103] id z6n z6t z74 z6g 0 (by omega)];decide+kernel
theorem lg1:(z1s (pubH [108,111,103] ((1:Nat):Int))).1=kg1:=by rw [z6p,z6k [108,111,103] id z6n z6t z74 z6g 1 (by omega)];decide+kernel
theorem lg2:(z1s (pubH [108,111,103] ((2:Nat):Int))).1=kg2:=by rw [z6p,z6k [108,111,103] id z6n z6t z74 z6g 2 (by omega)];decide+kernel
theorem lg3:(z1s (pubH [108,111,103] ((3:Nat):Int))).1=kg3:=by rw [z6p,z6k [108,111,103] id z6n z6t z74 z6g 3 (by omega)];decide+kernel
theorem lg4:(z1s (pubH [108,111,103] ((4:Nat):Int))).1=kg4:=by rw [z6p,z6k [108,111,103] id z6n z6t z74 z6g 4 (by omega)];decide+kernel
theorem lg5:(z1s (pubH [108,111,103] ((5:Nat):Int))).1=kg5:=by rw [z6p,z6k [108,111,103] id z6n z6t z74 z6g 5 (by omega)];decide+kernel
theorem lg6:(z1s (pubH [108,111,103] ((6:Nat):Int))).1=kg6:=by rw [z6p,z6k [108,111,103] id z6n z6t z74 z6g 6 (by omega)];decide+kernel
theorem lg7:(z1s (pubH [108,111,103] ((7:Nat):Int))).1=kg7:=by rw [z6p,z6k [108,111,103] id z6n z6t z74 z6g 7 (by omega)];decide+kernel
theorem rt_g:z1h (z1h (z1h kg0 kg1) (z1h kg2 kg3)) (z1h (z1h kg4 kg5) (z1h kg6 kg7)) ≠ 1::List.replicate 31 0:=by decide+kernel
theorem root_g(x:Hash)(hx:x.1=1::List.replicate 31 0):z1b (keyL [108,111,103]) ≠ x:=by
 obtain⟨a,b,c,d,e,f,g,h,hK,k0,k1,k2,k3,k4,k5,k6,k7⟩:∃a b c d e f g h:Hash,keyL [108,111,103]=[a,b,c,d,e,f,g,h]/\ a.1=kg0/\ b.1=kg1/\ c.1=kg2/\ d.1=kg3/\ e.1=kg4/\ f.1=kg5/\ g.1=kg6/\ h.1=kg7:=
  ⟨_,_,_,_,_,_,_,_,rfl,lg0,lg1,lg2,lg3,lg4,lg5,lg6,lg7⟩
 intro hh
 rw [hK,zen]at hh
 have h3:=congrArg Subtype.val hh
 simp only [z17]at h3
 rw [k0,k1,k2,k3,k4,k5,k6,k7,hx]at h3
 exact rt_g h3
end
section
structure Ev where
 k:Int
 a:Hdr
 b:Hdr
 r:Hash
 p:List Hash
def evZ0:Ev:=⟨0,zHd,zHd,zeroH,[]⟩
def sgX(h:Hdr)(x:AV):List AV:=sgC h.n h.r h.i h.s x
theorem zg(h:Hdr)(x:AV):(sgX h x).length=36:=z8 _ _ _ _ _
@[go_sem] theorem sgX_0 (h:Hdr) (x:AV):(sgX h x)[0]? =some (.int .i64 h.n):=rfl
@[go_sem] theorem sgX_35 (h:Hdr) (x:AV):(sgX h x)[35]? =some x:=sgC_35 _ _ _ _ _
@[go_sem] theorem sgX_all (h:Hdr) (x:AV):(sgX h x).take 36=sgX h x:=ztm _ _ _ _ _
@[go_sem] theorem zkc (h:Hdr) (x:AV):((sgX h x).drop 1).take 32=hc h.r:=ztn _ _ _ _ _
@[go_sem] theorem zkb (h:Hdr) (x:AV):(sgX h x).take 33=.int .i64 h.n::hc h.r:=zew _ _ _ _ _
theorem zbt(h:Hdr)(x:AV):(sgX h x).drop 36=[]:=List.drop_eq_nil_of_le (by rw [zg];omega)
def evX(e:Ev)(x y z:AV):List AV:=.int .i64 e.k::(sgX e.a x++(sgX e.b y++(hc e.r++ [z])))
def evO:List AV:=evX evZ0 .nilsl .nilsl .nilsl
theorem zh(e:Ev)(x y z:AV):(evX e x y z).length=106:=by simp [evX,zg,z6]
theorem zi:evO.length=106:=zh _ _ _ _
section
variable (e:Ev) (x y z:AV)
theorem z9b:(evX e x y z).drop 1=sgX e.a x++(sgX e.b y++(hc e.r++ [z])):=rfl
theorem evX_d2:(evX e x y z).drop 2=(sgX e.a x).drop 1++(sgX e.b y++(hc e.r++ [z])):=rfl
theorem z7e:(evX e x y z).drop 37=sgX e.b y++(hc e.r++ [z]):=by
 rw [show 37=1+36 from rfl,<-List.drop_drop,z9b,List.drop_left' (zg e.a x)]
theorem zo2:(evX e x y z).drop 38=(sgX e.b y).drop 1++(hc e.r++ [z]):=by
 rw [show 38=37+1 from rfl,<-List.drop_drop,z7e];rfl
theorem zd6:(evX e x y z).drop 73=hc e.r++ [z]:=by
 rw [show 73=37+36 from rfl,<-List.drop_drop,z7e,List.drop_left' (zg e.b y)]
theorem zhg:(evX e x y z).drop 105=[z]:=by
 rw [show 105=73+32 from rfl,<-List.drop_drop,zd6,z4z]
theorem zo1:(evX e x y z).drop 36=x::(sgX e.b y++(hc e.r++ [z])):=by
 rw [show 36=1+35 from rfl,<-List.drop_drop,z9b];unfold sgX sgC
 rw [List.cons_append,List.drop_succ_cons,List.append_assoc,show 34=32+2 from rfl,<-List.drop_drop,z4z];rfl
theorem zo3:(evX e x y z).drop 72=y::(hc e.r++ [z]):=by
 rw [show 72=37+35 from rfl,<-List.drop_drop,z7e];unfold sgX sgC
 rw [List.cons_append,List.drop_succ_cons,List.append_assoc,show 34=32+2 from rfl,<-List.drop_drop,z4z];rfl
@[go_sem] theorem evX_0:(evX e x y z)[0]? =some (.int .i64 e.k):=rfl
@[go_sem] theorem evX_1:(evX e x y z)[1]? =some (.int .i64 e.a.n):=rfl
@[go_sem] theorem evX_36:(evX e x y z)[36]? =some x:=z3w (zo1 e x y z)
@[go_sem] theorem evX_37:(evX e x y z)[37]? =some (.int .i64 e.b.n):=z3w (z7e e x y z)
@[go_sem] theorem evX_72:(evX e x y z)[72]? =some y:=z3w (zo3 e x y z)
@[go_sem] theorem evX_105:(evX e x y z)[105]? =some z:=z3w (zhg e x y z)
@[go_sem] theorem evX_all:(evX e x y z).take 106=evX e x y z:=List.take_of_length_le (by rw [zh];omega)
theorem z3g:(evX e x y z).drop 106=[]:=List.drop_eq_nil_of_le (by rw [zh];omega)
@[go_sem] theorem evX_old:((evX e x y z).drop 1).take 36=sgX e.a x:=by rw [z9b,List.take_left' (zg e.a x)]
@[go_sem] theorem evX_new:((evX e x y z).drop 37).take 36=sgX e.b y:=by rw [z7e,List.take_left' (zg e.b y)]
@[go_sem] theorem evX_oldh:((evX e x y z).drop 1).take 33=.int .i64 e.a.n::hc e.a.r:=by
 rw [z9b,List.take_append_of_le_length (by rw [zg];omega),zkb]
@[go_sem] theorem evX_newh:((evX e x y z).drop 37).take 33=.int .i64 e.b.n::hc e.b.r:=by
 rw [z7e,List.take_append_of_le_length (by rw [zg];omega),zkb]
@[go_sem] theorem evX_oldr:((evX e x y z).drop 2).take 32=hc e.a.r:=by
 rw [evX_d2,List.take_append_of_le_length (by rw [List.length_drop,zg];omega),zkc]
@[go_sem] theorem evX_newr:((evX e x y z).drop 38).take 32=hc e.b.r:=by
 rw [zo2,List.take_append_of_le_length (by rw [List.length_drop,zg];omega),zkc]
@[go_sem] theorem evX_root:((evX e x y z).drop 73).take 32=hc e.r:=by rw [zd6,z50]
@[go_sem] theorem evX_pk (k:Int): .int .i64 k::(evX e x y z).drop 1=evX ⟨k,e.a,e.b,e.r,e.p⟩ x y z:=rfl
theorem zo0:evX e x y z=(.int .i64 e.k::sgX e.a x)++(sgX e.b y++(hc e.r++ [z])):=rfl
theorem zb0:evX e x y z=(.int .i64 e.k::sgX e.a x++sgX e.b y)++(hc e.r++ [z]):=by simp [evX]
theorem zhf:evX e x y z=(.int .i64 e.k::sgX e.a x++sgX e.b y++hc e.r)++ [z]:=by simp [evX]
@[go_sem] theorem evX_sold (h:Hdr) (v:AV):(evX e x y z).take 1++(sgX h v++(evX e x y z).drop 37)=evX ⟨e.k,h,e.b,e.r,e.p⟩ v y z:=by
 rw [z7e];rfl
@[go_sem] theorem evX_snew (h:Hdr) (v:AV):(evX e x y z).take 37++(sgX h v++(evX e x y z).drop 73)=evX ⟨e.k,e.a,h,e.r,e.p⟩ x v z:=by
 rw [zd6,zo0,List.take_left' (by simp [zg])];rfl
@[go_sem] theorem evX_sroot (r:Hash):(evX e x y z).take 73++(hc r++(evX e x y z).drop 105)=evX ⟨e.k,e.a,e.b,r,e.p⟩ x y z:=by
 rw [zhg,zb0,List.take_left' (by simp [zg])];simp [evX]
theorem zo6(v:AV):(evX e x y z).set 105 v=evX e x y v:=by
 rw [zhf,List.set_append_right _ _ (by simp [zg,z6]),zhf];simp [zg,z6]
theorem zkd(h:Hdr)(x v:AV):(sgX h x).set 35 v=sgX h v:=by
 unfold sgX sgC
 rw [List.set_cons_succ,List.set_append_right _ _ (by rw [z6];omega),z6];rfl
theorem zo7(v:AV):(evX e x y z).set 36 v=evX e v y z:=by
 unfold evX
 rw [List.set_cons_succ,List.set_append_left _ _ (by rw [zg];omega),zkd]
theorem zo8(v:AV):(evX e x y z).set 72 v=evX e x v z:=by
 unfold evX
 rw [List.set_cons_succ,List.set_append_right _ _ (by rw [zg];omega),zg,List.set_append_left _ _ (by rw [zg];omega),zkd]
theorem z8f{l:List AV}{k:Nat}{v:AV}(h:k<l.length):l.take k++v::l.drop (k+1)=l.set k v:=by
 rw [List.set_eq_take_append_cons_drop,if_pos h]
@[go_sem] theorem evX_p36 (v:AV):(evX e x y z).take 36++v::(evX e x y z).drop 37=evX e v y z:=by rw [z8f (by rw [zh];omega),zo7]
@[go_sem] theorem evX_p72 (v:AV):(evX e x y z).take 72++v::(evX e x y z).drop 73=evX e x v z:=by rw [z8f (by rw [zh];omega),zo8]
@[go_sem] theorem zd7 (v:AV):(evX e x y z).take 105++v::(evX e x y z).drop 106=evX e x y v:=by rw [z8f (by rw [zh];omega),zo6]
theorem zjs{n:Nat}(hx:RL n x)(hy:RL n y)(hz:RL n z):RLs n (evX e x y z):=by
 have app:∀(A B:List AV),RLs n A->RLs n B->RLs n (A++B):=by
  intro A B
  induction A with
  |nil=>intro _ h;exact h
  |cons a A ih=>intro h1 h2;simp only [List.cons_append,RLs]at h1 ⊢;exact⟨h1.1,ih h1.2 h2⟩
 unfold evX
 simp only [RLs]
 exact⟨by simp [RL],app _ _ (z8d hx) (app _ _ (z8d hy) (app _ _ (z6r _) ⟨hz,by simp [RLs]⟩))⟩
end
def evL(e:Ev):List AV:=evX e (z10 32 (hr e.a.p)) (z10 32 (hr e.b.p)) (z10 32 (hr e.p))
end
section
def valH(h:Hdr):Bool:=z23 h.n h.i h.s h.p
def z81(e:Ev):Bool:=if e.k=1 then decide (e.a.n=e.b.n/\ e.a.r ≠ e.b.r/\ e.r=zeroH/\ e.p=[])else decide (e.k=2/\ e.a.n<e.b.n/\ e.r ≠ e.a.r)
def mayB(e:Ev):Bool:=valH e.a && valH e.b && decide (e.p.length<=64) && z81 e
end
section
set_option maxRecDepth 10000
def q1yr0:yW:=[
 yI 0 (.mv (.v (.bool false)))]
def q1yr1:yW:=[
 yI 8 (.call (.v (.fn 22 [])) [(.v .nilsl),(.v .nilsl)]),
 yM 7 8,
 yE 9 0 7,
 yE 10 1 7,
 yI 1 (.alloc evO),
 yS 106 1 9,
 yM 2 10]
def q1yr2:yW:=[
 yI 11 (.lit 1 [(.v (.str [97])),(.v (.str [98]))]),
 yC 12 12 11,
 yI 3 (.alloc [.nilp,.nilsl]),
 yS 2 3 12]
def q1yr3:yW:=[
 yF 13 0 3,
 yL 14 false 1 13,
 yI 15 (.lit 1 [(.v (.str [97])),(.v (.str [99]))]),
 yI 16 (.build [.nilp,.nilsl] [(0,1,(.t 14)),(1,1,(.t 15))]),
 yI 4 (.alloc [.nilp,.nilsl]),
 yS 2 4 16]
def q1yr4:yW:=[
 ⟨some 18,none,.rd,.load true 2 (.t 3)⟩,
 ⟨some 19,none,.pu,.call (.v (.fn 15 [])) [(.t 18),(.v (.int .i64 2)),(.v (.int .i64 0))]⟩,
 ⟨some 20,none,.rd,.load true 2 (.t 4)⟩,
 ⟨some 21,none,.pu,.call (.v (.fn 15 [])) [(.t 20),(.v (.int .i64 2)),(.v (.int .i64 0))]⟩,
 yI 22 (.lit 36 [(.t 19),(.t 21)]),
 ⟨some 23,none,.pu,.call (.v (.fn 22 [])) [(.t 22),(.v .nilsl)]⟩,
 yM 17 23,
 yE 24 0 17,
 yE 25 1 17,
 ⟨some 5,none,.ef,.alloc evO⟩,
 yS 106 5 24,
 yM 6 25]
def q1yr5:yW:=[
 yM 26 2,
 yI 27 (.un .not (.t 26)),
 yM 28 27,
 yV 29 28 true 6,
 yQ 30 28 29,
 yM 31 30,
 yT 32 31 true 0 5,
 yU 33 31 true false 1 32,
 yG 34 31 true (.bin .eql .none (.t 33) (.v (.int .i64 1))),
 yQ 35 31 34,
 yM 36 35,
 yT 37 36 true 0 3,
 ⟨some 38,some (36,true),.rd,.load false 1 (.t 37)⟩,
 ⟨some 39,some (36,true),.ef,.call (.v (.fn 18 [])) [(.t 38)]⟩,
 ⟨some 40,some (36,true),.rd,.load true 106 (.t 5)⟩,
 yG 41 36 true (.call (.v (.fn 17 [])) [(.t 39),(.t 40)]),
 yG 42 36 true (.bin .eql .none (.t 41) (.v (.int .i64 0))),
 yQ 43 36 42,
 yM 44 43,
 yG 45 44 true (.build zZ0 [(0,1,(.v (.int .u8 1)))]),
 yU 46 44 true true 106 5,
 yG 47 44 true (.call (.v (.fn 17 [])) [(.t 45),(.t 46)]),
 yG 48 44 true (.bin .eql .none (.t 47) (.v (.int .i64 81))),
 yQ 49 44 48,
 yM 50 49,
 yT 51 50 true 0 3,
 yU 52 50 true false 1 51,
 yG 53 50 true (.call (.v (.fn 18 [])) [(.t 52)]),
 yG 54 50 true (.build evO []),
 yG 55 50 true (.call (.v (.fn 17 [])) [(.t 53),(.t 54)]),
 yG 56 50 true (.bin .eql .none (.t 55) (.v (.int .i64 2))),
 yQ 57 50 56,
 yM 0 57]
def q1yc6:yX:=yq q1yr5 .ret
def ze6:ACode:=.seq (.reg q1yr4) q1yc6
def q1yc8:yX:=yq q1yr3 ze6
def q1yc9:yX:=yq q1yr2 q1yc8
def q1yc10:yX:=yq q1yr1 q1yc9
def q1yc11:yX:=yq q1yr0 q1yc10
attribute [go_sem] q1yr0 q1yr1 q1yr2 q1yr3 q1yr4 q1yr5
theorem q1yok:cFn TC 11=some (58,[.t 0],q1yc11):=by kernel_rfl
def q1zr0:yW:=[
 yI 2 (.box (.t 0)),
 yI 3 (.box (.t 1)),
 yK 4 .i64 0]
def q1zr1:yW:=[
 yF 7 1 3,
 yF 8 0 7,
 ⟨some 9,none,.rd,.load true 33 (.t 8)⟩,
 yF 10 37 3,
 yF 11 0 10,
 ⟨some 12,none,.rd,.load true 33 (.t 11)⟩,
 ⟨some 5,none,.ef,.alloc ((.int .i64 0)::zZ0)⟩,
 ⟨some 6,none,.ef,.alloc ((.int .i64 0)::zZ0)⟩,
 ⟨none,none,.ef,.store 33 (.t 5) (.t 9)⟩,
 yS 33 6 12]
def q1zr2:yW:=[
 yF 7 1 3,
 yF 8 0 7,
 ⟨some 9,none,.rd,.load true 33 (.t 8)⟩,
 yF 10 37 3,
 yF 11 0 10,
 ⟨some 12,none,.rd,.load true 33 (.t 11)⟩,
 ⟨some 6,none,.ef,.alloc ((.int .i64 0)::zZ0)⟩,
 ⟨some 5,none,.ef,.alloc ((.int .i64 0)::zZ0)⟩,
 ⟨none,none,.ef,.store 33 (.t 5) (.t 9)⟩,
 yS 33 6 12]
def q1zr3:yW:=[
 yL 14 true 106 3,
 yC 15 49 14,
 yI 16 (.un .not (.t 15)),
 yM 13 16]
def q1zr4:yW:=[
 yK 4 .i64 2]
def q1zc5:yX:=yq q1zr4 .ret
def q1zr6:yW:=[
 yL 18 true 32 2,
 yF 19 1 3,
 yL 20 true 36 19,
 yD 21 50 18 20,
 yJ 22 .neq 21 .i64 0,
 yM 17 22]
def q1zr7:yW:=[
 yL 23 true 32 2,
 yF 24 37 3,
 yL 25 true 36 24,
 yD 26 50 23 25,
 yJ 27 .neq 26 .i64 0,
 yM 17 27]
def q1zc8:yX:=.cond (.t 17) .skip (.reg q1zr7)
def q1zc9:yX:=yq q1zr6 q1zc8
def q1zr10:yW:=[
 yK 4 .i64 81]
def q1zc11:yX:=yq q1zr10 .ret
def q1zr12:yW:=[
 yF 29 0 3,
 yL 30 false 1 29,
 yJ 31 .eql 30 .i64 2,
 yM 32 31,
 yT 33 32 true 0 5,
 yU 34 32 true false 1 33,
 yT 35 32 true 0 6,
 yU 36 32 true false 1 35,
 yT 37 32 true 73 3,
 yU 38 32 true true 32 37,
 yT 39 32 true 1 6,
 yU 40 32 true true 32 39,
 yT 41 32 true 105 3,
 yU 42 32 true false 1 41,
 yG 43 32 true (.call (.v (.fn 51 [])) [(.t 34),(.t 36),(.t 38),(.t 40),(.t 42)]),
 yG 44 32 true (.bin .neq .none (.t 43) (.v (.int .i64 0))),
 yQ 45 32 44,
 yM 28 45]
def q1zr13:yW:=[
 yK 4 .i64 80]
def q1zc14:yX:=yq q1zr13 .ret
def q1zc15:yX:=.cond (.t 28) q1zc14 .skip
def q1zc16:yX:=yq q1zr12 q1zc15
def q1zc17:yX:=.cond (.t 17) q1zc11 q1zc16
def q1zc18:yX:=.seq q1zc9 q1zc17
def q1zc19:yX:=.cond (.t 13) q1zc5 q1zc18
def q1zc20:yX:=yq q1zr3 q1zc19
def q1zr21:yW:=[
 yK 4 .i64 0]
def q1zc22:yX:=yq q1zr21 .ret
def q1zc23:yX:=.seq (.block 0 q1zc20) q1zc22
def q1zc24:yX:=.seq (.reg2 q1zr1 q1zr2) q1zc23
def q1zc25:yX:=yq q1zr0 q1zc24
attribute [go_sem] q1zr0 q1zr1 q1zr2 q1zr3 q1zr4 q1zr6 q1zr7 q1zr10 q1zr12 q1zr13 q1zr21
theorem q1zok:cFn TC 17=some (46,[.t 4],q1zc25):=by kernel_rfl
def q20r0:yW:=[
 yI 2 (.box (.t 0)),
 yI 3 (.box (.t 1)),
 yK 4 .i64 0]
def q20r1:yW:=[
 yL 5 true 106 3,
 yC 6 53 5,
 yI 7 (.un .not (.t 6))]
def q20r2:yW:=[
 yK 4 .i64 2]
def q20c3:yX:=yq q20r2 .ret
def q20c4:yX:=.cond (.t 7) q20c3 .skip
def q20c5:yX:=yq q20r1 q20c4
def q20r6:yW:=[
 yL 8 true 32 2,
 yF 9 1 3,
 yL 10 true 36 9,
 yD 11 54 8 10,
 yJ 12 .neq 11 .i64 0,
 yM 13 12,
 yU 14 13 false true 32 2,
 yT 15 13 false 37 3,
 yU 16 13 false true 36 15,
 yG 17 13 false (.call (.v (.fn 54 [])) [(.t 14),(.t 16)]),
 yG 18 13 false (.bin .neq .none (.t 17) (.v (.int .i64 0))),
 yP 19 13 18]
def q20r7:yW:=[
 yK 4 .i64 81]
def q20c8:yX:=yq q20r7 .ret
def q20c9:yX:=.cond (.t 19) q20c8 .skip
def q20c10:yX:=yq q20r6 q20c9
def q20r11:yW:=[
 yF 20 0 3,
 yL 21 false 1 20,
 yJ 22 .eql 21 .i64 2,
 yM 23 22,
 yT 24 23 true 1 3,
 yT 25 23 true 0 24,
 yT 26 23 true 0 25,
 yU 27 23 true false 1 26,
 yT 28 23 true 37 3,
 yT 29 23 true 0 28,
 yT 30 23 true 0 29,
 yU 31 23 true false 1 30,
 yT 32 23 true 73 3,
 yU 33 23 true true 32 32,
 yT 34 23 true 37 3,
 yT 35 23 true 0 34,
 yT 36 23 true 1 35,
 yU 37 23 true true 32 36,
 yT 38 23 true 105 3,
 yU 39 23 true false 1 38,
 yG 40 23 true (.call (.v (.fn 55 [])) [(.t 27),(.t 31),(.t 33),(.t 37),(.t 39)]),
 yG 41 23 true (.bin .neq .none (.t 40) (.v (.int .i64 0))),
 yQ 42 23 41]
def q20r12:yW:=[
 yK 4 .i64 80]
def q20c13:yX:=yq q20r12 .ret
def q20c14:yX:=.cond (.t 42) q20c13 .skip
def q20c15:yX:=yq q20r11 q20c14
def q20r16:yW:=[
 yK 4 .i64 0]
def q20c17:yX:=yq q20r16 .ret
def q20c18:yX:=.seq q20c15 q20c17
def q20c19:yX:=.seq q20c10 q20c18
def q20c20:yX:=.seq q20c5 q20c19
def q20c21:yX:=yq q20r0 q20c20
attribute [go_sem] q20r0 q20r1 q20r2 q20r6 q20r7 q20r11 q20r12 q20r16
theorem q20ok:cFn TC 19=some (43,[.t 4],q20c21):=by kernel_rfl
def q21r0:yW:=[
 yI 4 (.alloc evO),
 yI 5 (.mv (.v (.bool false)))]
def q21r1:yW:=[
 yM 16 0,
 yC 17 56 16,
 yM 15 17,
 yE 18 0 15,
 yE 19 1 15,
 yI 6 (.alloc evO),
 yS 106 6 18,
 yM 7 19]
def q21r2:yW:=[
 yM 20 7]
def q21r3:yW:=[
 yL 21 true 106 6,
 yC 22 57 21,
 yS 106 4 22,
 yI 5 (.mv (.v (.bool true)))]
def q21c4:yX:=yq q21r3 .ret
def q21c5:yX:=.cond (.t 20) q21c4 .skip
def q21c6:yX:=yq q21r2 q21c5
def q21c7:yX:=yq q21r1 q21c6
def q21r8:yW:=[
 yM 24 0,
 yM 25 1,
 yD 26 58 24 25,
 yM 23 26,
 yE 27 0 23,
 yE 28 1 23,
 yI 8 (.alloc sgZ),
 yS 36 8 27,
 yM 9 28]
def q21r9:yW:=[
 yM 29 9,
 yI 30 (.un .not (.t 29))]
def q21r10:yW:=[
 yI 31 (.build evO []),
 yS 106 4 31,
 yI 5 (.mv (.v (.bool false)))]
def q21c11:yX:=yq q21r10 .ret
def q21c12:yX:=.cond (.t 30) q21c11 .skip
def q21c13:yX:=yq q21r9 q21c12
def q21r14:yW:=[
 yM 32 0,
 yI 33 (.lenSl (.t 32)),
 yK 34 .i64 0]
def q21r15:yW:=[
 yB 35 .lss 34 33]
def q21r16:yW:=[
 yI 36 (.iaSl 36 (.t 32) (.t 34)),
 yL 37 true 36 36,
 yI 11 (.alloc sgZ),
 yS 36 11 37]
def q21r17:yW:=[
 yL 38 true 36 11,
 yC 39 59 38,
 yI 40 (.un .not (.t 39)),
 yM 41 40,
 yT 42 41 false 0 11,
 yT 43 41 false 0 42,
 yU 44 41 false false 1 43,
 yT 45 41 false 0 8,
 yT 46 41 false 0 45,
 yU 47 41 false false 1 46,
 yG 48 41 false (.bin .geq .none (.t 44) (.t 47)),
 yP 49 41 48]
def q21c18:yX:=.cond (.t 49) (.exit 1) .skip
def q21c19:yX:=yq q21r17 q21c18
def q21r20:yW:=[
 yM 50 1,
 yF 51 0 11,
 yF 52 0 51,
 yL 53 false 1 52,
 yI 54 (.slice (.sl 32) (.t 50) none (some (.t 53)) none),
 yC 55 52 54,
 yI 12 (.alloc zZ0),
 yS 32 12 55]
def q21r21:yW:=[
 yL 56 true 32 12,
 yF 57 0 11,
 yF 58 1 57,
 yL 59 true 32 58,
 yI 60 (.bin .neq (.agg (List.replicate 32 (.i .u8)++ [])) (.t 56) (.t 59))]
def q21r22:yW:=[
 yM 62 1,
 yF 63 0 8,
 yF 64 0 63,
 ⟨some 65,none,.rd,.load false 1 (.t 64)⟩,
 yI 66 (.slice (.sl 32) (.t 62) none (some (.t 65)) none),
 yF 67 0 11,
 yF 68 0 67,
 ⟨some 69,none,.rd,.load false 1 (.t 68)⟩,
 yD 70 60 66 69,
 yM 61 70,
 yE 71 0 61,
 yE 72 1 61,
 yM 13 71,
 yM 14 72]
def q21r23:yW:=[
 yL 73 true 36 11,
 yL 74 true 36 8,
 yL 75 true 32 12,
 yM 76 13,
 yI 77 (.build evO [(0,1,(.v (.int .i64 2))),(1,36,(.t 73)),(37,36,(.t 74)),(73,32,(.t 75)),(105,1,(.t 76))]),
 yC 78 57 77,
 yS 106 4 78,
 yI 5 (.mv (.v (.bool true)))]
def q21c24:yX:=yq q21r23 .ret
def q21c25:yX:=yq q21r22 q21c24
def q21c26:yX:=.cond (.t 60) q21c25 .skip
def q21c27:yX:=yq q21r21 q21c26
def q21c28:yX:=yq q21r20 q21c27
def q21c29:yX:=.seq q21c19 q21c28
def q21c30:yX:=yq q21r16 q21c29
def q21r31:yW:=[
 yJ 79 .add 34 .i64 1,
 yM 34 79]
def q21c32:yX:=.seq (.block 1 q21c30) (.reg q21r31)
def q21c33:yX:=.seq (.cond (.t 35) .skip (.exit 0)) q21c32
def q21c34:yX:=yq q21r15 q21c33
def q21c35:yX:=.loop q21c34
def q21c36:yX:=.block 0 q21c35
def q21c37:yX:=yq q21r14 q21c36
def q21r38:yW:=[
 yI 80 (.build evO []),
 yS 106 4 80,
 yI 5 (.mv (.v (.bool false)))]
def q21c39:yX:=yq q21r38 .ret
def q21c40:yX:=.seq q21c37 q21c39
def q21c41:yX:=.seq q21c13 q21c40
def q21c42:yX:=yq q21r8 q21c41
def q21c43:yX:=.seq q21c7 q21c42
def q21c44:yX:=yq q21r0 q21c43
attribute [go_sem] q21r0 q21r1 q21r2 q21r3 q21r8 q21r9 q21r10 q21r14 q21r15 q21r16 q21r17 q21r20 q21r21 q21r22 q21r23 q21r31 q21r38
theorem q21ok:cFn TC 22=some (81,[.c 4 true 106,.t 5],q21c44):=by kernel_rfl
def q22r0:yW:=[
 yI 1 (.box (.t 0)),
 yI 2 (.mv (.v (.bool false)))]
def q22r1:yW:=[
 yF 4 1 1,
 yL 5 true 36 4,
 yC 6 59 5,
 yI 7 (.un .not (.t 6)),
 yM 8 7,
 yT 9 8 false 37 1,
 yU 10 8 false true 36 9,
 yG 11 8 false (.call (.v (.fn 59 [])) [(.t 10)]),
 yG 12 8 false (.un .not (.t 11)),
 yP 13 8 12,
 yM 14 13,
 yT 15 14 false 105 1,
 yU 16 14 false false 1 15,
 yG 17 14 false (.lenSl (.t 16)),
 yG 18 14 false (.bin .gtr .none (.t 17) (.v (.int .i64 64))),
 yP 19 14 18]
def q22r2:yW:=[
 yI 2 (.mv (.v (.bool false)))]
def q22c3:yX:=yq q22r2 .ret
def q22c4:yX:=.cond (.t 19) q22c3 .skip
def q22c5:yX:=yq q22r1 q22c4
def q22r6:yW:=[
 yF 20 1 1,
 yF 21 0 20,
 yL 22 true 33 21,
 yF 23 37 1,
 yF 24 0 23,
 yL 25 true 33 24,
 yD 26 90 22 25,
 yM 3 26]
def q22r7:yW:=[
 yF 27 0 1,
 yL 28 false 1 27]
def q22r8:yW:=[
 yJ 30 .eql 28 .i64 1,
 yM 29 30]
def q22r9:yW:=[
 yM 31 3,
 yJ 32 .eql 31 .i64 3,
 yM 33 32,
 yT 34 33 true 73 1,
 yU 35 33 true true 32 34,
 yG 36 33 true (.build zZ0 []),
 yG 37 33 true (.bin .eql (.agg (List.replicate 32 (.i .u8)++ [])) (.t 35) (.t 36)),
 yQ 38 33 37,
 yM 39 38,
 yT 40 39 true 105 1,
 yU 41 39 true false 1 40,
 yG 42 39 true (.lenSl (.t 41)),
 yG 43 39 true (.bin .eql .none (.t 42) (.v (.int .i64 0))),
 yQ 44 39 43,
 yM 2 44]
def q22c10:yX:=yq q22r9 .ret
def q22r11:yW:=[
 yJ 46 .eql 28 .i64 2,
 yM 45 46]
def q22r12:yW:=[
 yM 47 3,
 yJ 48 .eql 47 .i64 0,
 yM 49 48,
 yT 50 49 true 73 1,
 yU 51 49 true true 32 50,
 yT 52 49 true 1 1,
 yT 53 49 true 0 52,
 yT 54 49 true 1 53,
 yU 55 49 true true 32 54,
 yG 56 49 true (.bin .neq (.agg (List.replicate 32 (.i .u8)++ [])) (.t 51) (.t 55)),
 yQ 57 49 56,
 yM 2 57]
def q22c13:yX:=yq q22r12 .ret
def q22c14:yX:=.cond (.t 45) q22c13 .skip
def q22c15:yX:=yq q22r11 q22c14
def q22c16:yX:=.cond (.t 29) q22c10 q22c15
def q22c17:yX:=yq q22r8 q22c16
def q22c18:yX:=.block 0 q22c17
def q22c19:yX:=yq q22r7 q22c18
def q22r20:yW:=[
 yI 2 (.mv (.v (.bool false)))]
def q22c21:yX:=yq q22r20 .ret
def q22c22:yX:=.seq q22c19 q22c21
def q22c23:yX:=yq q22r6 q22c22
def q22c24:yX:=.seq q22c5 q22c23
def q22c25:yX:=yq q22r0 q22c24
attribute [go_sem] q22r0 q22r1 q22r2 q22r6 q22r7 q22r8 q22r9 q22r11 q22r12 q22r20
theorem q22ok:cFn TC 49=some (58,[.t 2],q22c25):=by kernel_rfl
def q23r0:yW:=[
 yI 1 (.box (.t 0)),
 yI 2 (.mv (.v (.bool false)))]
def q23r1:yW:=[
 yF 5 1 1,
 yL 6 true 36 5,
 yC 7 61 6,
 yI 8 (.un .not (.t 7)),
 yM 9 8,
 yT 10 9 false 37 1,
 yU 11 9 false true 36 10,
 yG 12 9 false (.call (.v (.fn 61 [])) [(.t 11)]),
 yG 13 9 false (.un .not (.t 12)),
 yP 14 9 13]
def q23r2:yW:=[
 yI 2 (.mv (.v (.bool false)))]
def q23c3:yX:=yq q23r2 .ret
def q23c4:yX:=.cond (.t 14) q23c3 .skip
def q23c5:yX:=yq q23r1 q23c4
def q23r6:yW:=[
 yF 15 1 1,
 yF 16 0 15,
 ⟨some 17,none,.rd,.load true 33 (.t 16)⟩,
 yF 18 37 1,
 yF 19 0 18,
 ⟨some 20,none,.rd,.load true 33 (.t 19)⟩,
 ⟨some 3,none,.ef,.alloc ((.int .i64 0)::zZ0)⟩,
 ⟨some 4,none,.ef,.alloc ((.int .i64 0)::zZ0)⟩,
 ⟨none,none,.ef,.store 33 (.t 3) (.t 17)⟩,
 yS 33 4 20]
def q23r7:yW:=[
 yF 15 1 1,
 yF 16 0 15,
 ⟨some 17,none,.rd,.load true 33 (.t 16)⟩,
 yF 18 37 1,
 yF 19 0 18,
 ⟨some 20,none,.rd,.load true 33 (.t 19)⟩,
 ⟨some 4,none,.ef,.alloc ((.int .i64 0)::zZ0)⟩,
 ⟨some 3,none,.ef,.alloc ((.int .i64 0)::zZ0)⟩,
 ⟨none,none,.ef,.store 33 (.t 3) (.t 17)⟩,
 yS 33 4 20]
def q23r8:yW:=[
 yF 21 0 1,
 yL 22 false 1 21,
 yJ 23 .eql 22 .i64 1]
def q23r9:yW:=[
 yF 24 0 3,
 yL 25 false 1 24,
 yF 26 0 4,
 yL 27 false 1 26,
 yB 28 .eql 25 27,
 yM 29 28,
 yT 30 29 true 1 3,
 yU 31 29 true true 32 30,
 yT 32 29 true 1 4,
 yU 33 29 true true 32 32,
 yG 34 29 true (.bin .neq (.agg (List.replicate 32 (.i .u8)++ [])) (.t 31) (.t 33)),
 yQ 35 29 34,
 yM 36 35,
 yT 37 36 true 73 1,
 yU 38 36 true true 32 37,
 yG 39 36 true (.build zZ0 []),
 yG 40 36 true (.bin .eql (.agg (List.replicate 32 (.i .u8)++ [])) (.t 38) (.t 39)),
 yQ 41 36 40,
 yM 42 41,
 yT 43 42 true 105 1,
 yU 44 42 true false 1 43,
 yG 45 42 true (.lenSl (.t 44)),
 yG 46 42 true (.bin .eql .none (.t 45) (.v (.int .i64 0))),
 yQ 47 42 46,
 yM 2 47]
def q23c10:yX:=yq q23r9 .ret
def q23c11:yX:=.cond (.t 23) q23c10 .skip
def q23c12:yX:=yq q23r8 q23c11
def q23r13:yW:=[
 yF 48 0 1,
 yL 49 false 1 48,
 yJ 50 .eql 49 .i64 2,
 yM 51 50,
 yT 52 51 true 0 3,
 yU 53 51 true false 1 52,
 yT 54 51 true 0 4,
 yU 55 51 true false 1 54,
 yG 56 51 true (.bin .lss .none (.t 53) (.t 55)),
 yQ 57 51 56,
 yM 58 57,
 yT 59 58 true 73 1,
 yU 60 58 true true 32 59,
 yT 61 58 true 1 3,
 yU 62 58 true true 32 61,
 yG 63 58 true (.bin .neq (.agg (List.replicate 32 (.i .u8)++ [])) (.t 60) (.t 62)),
 yQ 64 58 63,
 yM 65 64,
 yT 66 65 true 105 1,
 yU 67 65 true false 1 66,
 yG 68 65 true (.lenSl (.t 67)),
 yG 69 65 true (.bin .leq .none (.t 68) (.v (.int .i64 64))),
 yQ 70 65 69,
 yM 2 70]
def q23c14:yX:=yq q23r13 .ret
def q23c15:yX:=.seq q23c12 q23c14
def q23c16:yX:=.seq (.reg2 q23r6 q23r7) q23c15
def q23c17:yX:=.seq q23c5 q23c16
def q23c18:yX:=yq q23r0 q23c17
attribute [go_sem] q23r0 q23r1 q23r2 q23r6 q23r7 q23r8 q23r9 q23r13
theorem q23ok:cFn TC 53=some (71,[.t 2],q23c18):=by kernel_rfl
def q24r0:yW:=[
 yI 2 (.alloc evO),
 yI 3 (.mv (.v (.bool false)))]
def q24r1:yW:=[
 yM 8 0,
 yI 9 (.lenSl (.t 8)),
 yK 10 .i64 0]
def q24r2:yW:=[
 yB 11 .lss 10 9]
def q24r3:yW:=[
 yM 12 10,
 yI 13 (.iaSl 36 (.t 8) (.t 10)),
 yL 14 true 36 13,
 yI 5 (.alloc sgZ),
 yM 4 12,
 yS 36 5 14]
def q24r4:yW:=[
 yM 15 0,
 yM 16 4,
 yJ 17 .add 16 .i64 1,
 yI 18 (.slice (.sl 36) (.t 15) (some (.t 17)) none none),
 yI 19 (.lenSl (.t 18)),
 yK 20 .i64 0]
def q24r5:yW:=[
 yB 21 .lss 20 19]
def q24r6:yW:=[
 yI 22 (.iaSl 36 (.t 18) (.t 20)),
 yL 23 true 36 22,
 yI 7 (.alloc sgZ),
 yS 36 7 23]
def q24r7:yW:=[
 yL 24 true 36 5,
 yC 25 59 24,
 yM 26 25,
 yU 27 26 true true 36 7,
 yG 28 26 true (.call (.v (.fn 59 [])) [(.t 27)]),
 yQ 29 26 28,
 yM 30 29,
 yT 31 30 true 0 5,
 yU 32 30 true true 33 31,
 yT 33 30 true 0 7,
 yU 34 30 true true 33 33,
 yG 35 30 true (.call (.v (.fn 90 [])) [(.t 32),(.t 34)]),
 yG 36 30 true (.bin .eql .none (.t 35) (.v (.int .i64 3))),
 yQ 37 30 36]
def q24r8:yW:=[
 yL 38 true 36 5,
 yL 39 true 36 7,
 yI 40 (.build evO [(0,1,(.v (.int .i64 1))),(1,36,(.t 38)),(37,36,(.t 39))]),
 yS 106 2 40,
 yI 3 (.mv (.v (.bool true)))]
def q24c9:yX:=yq q24r8 .ret
def q24c10:yX:=.cond (.t 37) q24c9 .skip
def q24c11:yX:=yq q24r7 q24c10
def q24c12:yX:=yq q24r6 q24c11
def q24r13:yW:=[
 yJ 41 .add 20 .i64 1,
 yM 20 41]
def q24c14:yX:=.seq (.block 3 q24c12) (.reg q24r13)
def q24c15:yX:=.seq (.cond (.t 21) .skip (.exit 2)) q24c14
def q24c16:yX:=yq q24r5 q24c15
def q24c17:yX:=.loop q24c16
def q24c18:yX:=.block 2 q24c17
def q24c19:yX:=yq q24r4 q24c18
def q24c20:yX:=yq q24r3 q24c19
def q24r21:yW:=[
 yJ 42 .add 10 .i64 1,
 yM 10 42]
def q24c22:yX:=.seq (.block 1 q24c20) (.reg q24r21)
def q24c23:yX:=.seq (.cond (.t 11) .skip (.exit 0)) q24c22
def q24c24:yX:=yq q24r2 q24c23
def q24c25:yX:=.loop q24c24
def q24c26:yX:=.block 0 q24c25
def q24c27:yX:=yq q24r1 q24c26
def q24r28:yW:=[
 yI 43 (.build evO []),
 yS 106 2 43,
 yI 3 (.mv (.v (.bool false)))]
def q24c29:yX:=yq q24r28 .ret
def q24c30:yX:=.seq q24c27 q24c29
def q24c31:yX:=yq q24r0 q24c30
attribute [go_sem] q24r0 q24r1 q24r2 q24r3 q24r4 q24r5 q24r6 q24r7 q24r8 q24r13 q24r21 q24r28
theorem q24ok:cFn TC 56=some (44,[.c 2 true 106,.t 3],q24c31):=by kernel_rfl
def q25r0:yW:=[
 yI 1 (.box (.t 0)),
 yI 2 (.alloc evO)]
def q25r1:yW:=[
 yF 3 1 1,
 yF 4 33 3,
 yF 5 2 4,
 yL 6 false 1 5,
 yC 7 101 6,
 yF 8 1 1,
 yF 9 33 8,
 yF 10 2 9,
 yS 1 10 7]
def q25r2:yW:=[
 yF 11 37 1,
 yF 12 33 11,
 yF 13 2 12,
 yL 14 false 1 13,
 yC 15 101 14,
 yF 16 37 1,
 yF 17 33 16,
 yF 18 2 17,
 yS 1 18 15]
def q25r3:yW:=[
 yL 19 true 106 1,
 yS 106 2 19]
def q25c4:yX:=yq q25r3 .ret
def q25c5:yX:=yq q25r2 q25c4
def q25c6:yX:=yq q25r1 q25c5
def q25c7:yX:=yq q25r0 q25c6
attribute [go_sem] q25r0 q25r1 q25r2 q25r3
theorem q25ok:cFn TC 57=some (20,[.c 2 true 106],q25c7):=by kernel_rfl
def q26r0:yW:=[
 yI 4 (.alloc sgZ),
 yI 5 (.mv (.v (.bool false)))]
def q26r1:yW:=[
 yI 6 (.alloc sgZ)]
def q26r2:yW:=[
 yI 7 (.mv (.v (.bool false)))]
def q26r3:yW:=[
 yM 11 0,
 yI 12 (.lenSl (.t 11)),
 yK 13 .i64 0]
def q26r4:yW:=[
 yB 14 .lss 13 12]
def q26r5:yW:=[
 yI 15 (.iaSl 36 (.t 11) (.t 13)),
 yL 16 true 36 15,
 yI 9 (.alloc sgZ),
 yS 36 9 16]
def q26r6:yW:=[
 yF 17 0 9,
 yF 18 0 17,
 yL 19 false 1 18,
 yM 10 19]
def q26r7:yW:=[
 yL 20 true 36 9,
 yC 21 59 20,
 yM 22 21,
 yV 23 22 true 10,
 yV 24 22 true 1,
 yG 25 22 true (.lenSl (.t 24)),
 yG 26 22 true (.bin .leq .none (.t 23) (.t 25)),
 yQ 27 22 26,
 yM 28 27,
 yV 29 28 true 7,
 yG 30 28 true (.un .not (.t 29)),
 yV 31 28 true 30,
 yV 32 31 false 10,
 yT 33 31 false 0 6,
 yT 34 31 false 0 33,
 yU 35 31 false false 1 34,
 yG 36 31 false (.bin .gtr .none (.t 32) (.t 35)),
 yG 37 28 true (.pick (.t 31) (.v (.bool true)) (.t 36)),
 yQ 38 28 37,
 yM 39 38,
 yV 40 39 true 1,
 yV 41 39 true 10,
 yG 42 39 true (.slice (.sl 32) (.t 40) none (some (.t 41)) none),
 ⟨some 43,some (39,true),.ef,.call (.v (.fn 52 [])) [(.t 42)]⟩,
 yT 44 39 true 0 9,
 yT 45 39 true 1 44,
 ⟨some 46,some (39,true),.rd,.load true 32 (.t 45)⟩,
 yG 47 39 true (.bin .eql (.agg (List.replicate 32 (.i .u8)++ [])) (.t 43) (.t 46)),
 yQ 48 39 47]
def q26r8:yW:=[
 yL 49 true 36 9,
 yS 36 6 49,
 yI 7 (.mv (.v (.bool true)))]
def q26c9:yX:=.cond (.t 48) (.reg q26r8) .skip
def q26c10:yX:=yq q26r7 q26c9
def q26c11:yX:=yq q26r6 q26c10
def q26c12:yX:=yq q26r5 q26c11
def q26r13:yW:=[
 yJ 50 .add 13 .i64 1,
 yM 13 50]
def q26c14:yX:=.seq (.block 1 q26c12) (.reg q26r13)
def q26c15:yX:=.seq (.cond (.t 14) .skip (.exit 0)) q26c14
def q26c16:yX:=yq q26r4 q26c15
def q26c17:yX:=.loop q26c16
def q26c18:yX:=.block 0 q26c17
def q26c19:yX:=yq q26r3 q26c18
def q26r20:yW:=[
 yL 51 true 36 6,
 yM 52 7,
 yS 36 4 51,
 yM 5 52]
def q26c21:yX:=yq q26r20 .ret
def q26c22:yX:=.seq q26c19 q26c21
def q26c23:yX:=yq q26r2 q26c22
def q26c24:yX:=yq q26r1 q26c23
def q26c25:yX:=yq q26r0 q26c24
attribute [go_sem] q26r0 q26r1 q26r2 q26r3 q26r4 q26r5 q26r6 q26r7 q26r8 q26r13 q26r20
theorem q26ok:cFn TC 58=some (53,[.c 4 true 36,.t 5],q26c25):=by kernel_rfl
end
section
theorem ord3(n m:Int)(a b:Hash):ordI n m a b=3 ↔ (n=m/\ a ≠ b):=by
 unfold ordI
 by_cases h:n=m
 ·subst h
  by_cases h2:a=b
  ·simp [h2]
  ·simp [h2]
 ·rw [if_pos h]
  constructor
  ·intro e;split at e<;>omega
  ·exact fun e=>absurd e.1 h
theorem ord0(n m:Int)(a b:Hash):ordI n m a b=0 ↔ n<m:=by
 unfold ordI
 by_cases h:n=m
 ·subst h
  by_cases h2:a=b
  ·simp [h2]
  ·simp [h2]
 ·rw [if_pos h]
  constructor
  ·intro e;split at e<;>omega
  ·intro e;rw [if_pos e]
theorem ziw{l:List Hash}(h:(l.length:Int)=0):l=[]:=List.eq_nil_of_length_eq_zero (by omega)
attribute [local irreducible] ACallsTo ACallsP
theorem ztp(O:Store)(e:Ev)(x y z:AV)(hx:RdSl O 32 (hr e.a.p) x)(hy:RdSl O 32 (hr e.b.p) y)(hz:RdSl O 32 (hr e.p) z):
  ACallsTo TC 49 [.agg (evX e x y z)] O (.bool (mayB e)) O:=by
 have hVa:=fun t=>z78 (O++t) e.a.n e.a.i e.a.r e.a.s e.a.p x hx.app
 have hVb:=fun t=>z78 (O++t) e.b.n e.b.i e.b.r e.b.s e.b.p y hy.app
 have hO:=fun O=>zfp O e.a.n e.b.n e.a.r e.b.r
 have o3:=ord3 e.a.n e.b.n e.a.r e.b.r
 have o0:=ord0 e.a.n e.b.n e.a.r e.b.r
 have z1:=hz.len
 rw [z7]at z1
 unfold z1i at z1
 have hm:mayB e=(z23 e.a.n e.a.i e.a.s e.a.p && z23 e.b.n e.b.i e.b.s e.b.p && decide (e.p.length<=64) && z81 e):=rfl
 rw [hm]
 generalize z23 e.a.n e.a.i e.a.s e.a.p=va at*
 generalize z23 e.b.n e.b.i e.b.s e.b.p=vb at*
 generalize ordI e.a.n e.b.n e.a.r e.b.r=o at*
 refine ACallsTo.of_body q22ok (by simp) fun hw _=> ?_
 cases va with
 |false=>
  repeat' (first|apply zs_|apply zb_|apply zc_|apply zt_ rfl|apply zf_ rfl|(apply zd_ rfl<;>intro ht<;>try omega)|((first|apply zr_|apply zk_|apply ze_|apply zq_|(apply callW.mk_pu;(first|exact(fun _=>hVa _)))|(apply callW.za;(first|exact(hVa _)))|(apply zG<;>intro ht));all_goals try simp (disch:=first|omega|(simp only [lens,z6,z7,lQr,lQm,lQt,lQd,z8,zg,zh,zi];first|done|omega)) only [go_sem,z1]))
  exact DownV.pure hw z1j
 |true=>
 cases vb with
 |false=>
  repeat' (first|apply zs_|apply zb_|apply zc_|apply zt_ rfl|apply zf_ rfl|(apply zd_ rfl<;>intro ht<;>try omega)|((first|apply zr_|apply zk_|apply ze_|apply zq_|(apply callW.mk_pu;(first|exact(fun _=>hVa _)|exact(fun _=>hVb _)))|(apply callW.za;(first|exact(hVa _)|exact(hVb _)))|(apply zG<;>intro ht));all_goals try simp (disch:=first|omega|(simp only [lens,z6,z7,lQr,lQm,lQt,lQd,z8,zg,zh,zi];first|done|omega)) only [go_sem,z1]))
  exact DownV.pure hw z1j
 |true=>
 by_cases h64:e.p.length<=64
 ·have h64':¬(e.p.length:Int)>64:=by omega
  rw [decide_eq_true h64]
  unfold z81
  by_cases k1:e.k=1
  ·rw [if_pos k1]
   by_cases c1:o=3
   ·by_cases c2:e.r=zeroH
    ·by_cases c3:(e.p.length:Int)=0
     ·rw [decide_eq_true ⟨(o3.1 c1).1,(o3.1 c1).2,c2,ziw c3⟩]
      repeat' (first|apply zs_|apply zb_|apply zc_|apply zt_ rfl|apply zf_ rfl|(apply zd_ rfl<;>intro ht<;>try omega)|((first|apply zr_|apply zk_|apply ze_|apply zq_|(apply callW.mk_pu;(first|exact(fun _=>hVa _)|exact(fun _=>hVb _)|exact(fun _=>hO _)))|(apply callW.za;(first|exact(hVa _)|exact(hVb _)|exact(hO _)))|(apply zG<;>intro ht));all_goals try simp (disch:=first|omega|(simp only [lens,z6,z7,lQr,lQm,lQt,lQd,z8,zg,zh,zi];first|done|omega)) only [go_sem,z1,h64',k1,c1,c2,c3,<-z3s]))
      exact DownV.pure hw z1j
     ·rw [decide_eq_false (fun h=>c3 (by rw [h.2.2.2];rfl))]
      repeat' (first|apply zs_|apply zb_|apply zc_|apply zt_ rfl|apply zf_ rfl|(apply zd_ rfl<;>intro ht<;>try omega)|((first|apply zr_|apply zk_|apply ze_|apply zq_|(apply callW.mk_pu;(first|exact(fun _=>hVa _)|exact(fun _=>hVb _)|exact(fun _=>hO _)))|(apply callW.za;(first|exact(hVa _)|exact(hVb _)|exact(hO _)))|(apply zG<;>intro ht));all_goals try simp (disch:=first|omega|(simp only [lens,z6,z7,lQr,lQm,lQt,lQd,z8,zg,zh,zi];first|done|omega)) only [go_sem,z1,h64',k1,c1,c2,c3,<-z3s]))
      exact DownV.pure hw z1j
    ·rw [decide_eq_false (fun h=>c2 h.2.2.1)]
     repeat' (first|apply zs_|apply zb_|apply zc_|apply zt_ rfl|apply zf_ rfl|(apply zd_ rfl<;>intro ht<;>try omega)|((first|apply zr_|apply zk_|apply ze_|apply zq_|(apply callW.mk_pu;(first|exact(fun _=>hVa _)|exact(fun _=>hVb _)|exact(fun _=>hO _)))|(apply callW.za;(first|exact(hVa _)|exact(hVb _)|exact(hO _)))|(apply zG<;>intro ht));all_goals try simp (disch:=first|omega|(simp only [lens,z6,z7,lQr,lQm,lQt,lQd,z8,zg,zh,zi];first|done|omega)) only [go_sem,z1,h64',k1,c1,c2,<-z3s]))
     exact DownV.pure hw z1j
   ·rw [decide_eq_false (fun h=>c1 (o3.2 ⟨h.1,h.2.1⟩))]
    repeat' (first|apply zs_|apply zb_|apply zc_|apply zt_ rfl|apply zf_ rfl|(apply zd_ rfl<;>intro ht<;>try omega)|((first|apply zr_|apply zk_|apply ze_|apply zq_|(apply callW.mk_pu;(first|exact(fun _=>hVa _)|exact(fun _=>hVb _)|exact(fun _=>hO _)))|(apply callW.za;(first|exact(hVa _)|exact(hVb _)|exact(hO _)))|(apply zG<;>intro ht));all_goals try simp (disch:=first|omega|(simp only [lens,z6,z7,lQr,lQm,lQt,lQd,z8,zg,zh,zi];first|done|omega)) only [go_sem,z1,h64',k1,c1]))
    exact DownV.pure hw z1j
  ·rw [if_neg k1]
   by_cases k2:e.k=2
   ·by_cases c1:o=0
    ·by_cases c2:e.r=e.a.r
     ·rw [decide_eq_false (fun h=>h.2.2 c2)]
      repeat' (first|apply zs_|apply zb_|apply zc_|apply zt_ rfl|apply zf_ rfl|(apply zd_ rfl<;>intro ht<;>try omega)|((first|apply zr_|apply zk_|apply ze_|apply zq_|(apply callW.mk_pu;(first|exact(fun _=>hVa _)|exact(fun _=>hVb _)|exact(fun _=>hO _)))|(apply callW.za;(first|exact(hVa _)|exact(hVb _)|exact(hO _)))|(apply zG<;>intro ht));all_goals try simp (disch:=first|omega|(simp only [lens,z6,z7,lQr,lQm,lQt,lQd,z8,zg,zh,zi];first|done|omega)) only [go_sem,z1,h64',k1,k2,c1,c2]))
      exact DownV.pure hw z1j
     ·rw [decide_eq_true ⟨k2,o0.1 c1,c2⟩]
      repeat' (first|apply zs_|apply zb_|apply zc_|apply zt_ rfl|apply zf_ rfl|(apply zd_ rfl<;>intro ht<;>try omega)|((first|apply zr_|apply zk_|apply ze_|apply zq_|(apply callW.mk_pu;(first|exact(fun _=>hVa _)|exact(fun _=>hVb _)|exact(fun _=>hO _)))|(apply callW.za;(first|exact(hVa _)|exact(hVb _)|exact(hO _)))|(apply zG<;>intro ht));all_goals try simp (disch:=first|omega|(simp only [lens,z6,z7,lQr,lQm,lQt,lQd,z8,zg,zh,zi];first|done|omega)) only [go_sem,z1,h64',k1,k2,c1,c2]))
      exact DownV.pure hw z1j
    ·rw [decide_eq_false (fun h=>c1 (o0.2 h.2.1))]
     repeat' (first|apply zs_|apply zb_|apply zc_|apply zt_ rfl|apply zf_ rfl|(apply zd_ rfl<;>intro ht<;>try omega)|((first|apply zr_|apply zk_|apply ze_|apply zq_|(apply callW.mk_pu;(first|exact(fun _=>hVa _)|exact(fun _=>hVb _)|exact(fun _=>hO _)))|(apply callW.za;(first|exact(hVa _)|exact(hVb _)|exact(hO _)))|(apply zG<;>intro ht));all_goals try simp (disch:=first|omega|(simp only [lens,z6,z7,lQr,lQm,lQt,lQd,z8,zg,zh,zi];first|done|omega)) only [go_sem,z1,h64',k1,k2,c1]))
     exact DownV.pure hw z1j
   ·rw [decide_eq_false (fun h=>k2 h.1)]
    repeat' (first|apply zs_|apply zb_|apply zc_|apply zt_ rfl|apply zf_ rfl|(apply zd_ rfl<;>intro ht<;>try omega)|((first|apply zr_|apply zk_|apply ze_|apply zq_|(apply callW.mk_pu;(first|exact(fun _=>hVa _)|exact(fun _=>hVb _)|exact(fun _=>hO _)))|(apply callW.za;(first|exact(hVa _)|exact(hVb _)|exact(hO _)))|(apply zG<;>intro ht));all_goals try simp (disch:=first|omega|(simp only [lens,z6,z7,lQr,lQm,lQt,lQd,z8,zg,zh,zi];first|done|omega)) only [go_sem,z1,h64',k1,k2]))
    exact DownV.pure hw z1j
 ·have h64':(e.p.length:Int)>64:=by omega
  rw [decide_eq_false h64]
  repeat' (first|apply zs_|apply zb_|apply zc_|apply zt_ rfl|apply zf_ rfl|(apply zd_ rfl<;>intro ht<;>try omega)|((first|apply zr_|apply zk_|apply ze_|apply zq_|(apply callW.mk_pu;(first|exact(fun _=>hVa _)|exact(fun _=>hVb _)))|(apply callW.za;(first|exact(hVa _)|exact(hVb _)))|(apply zG<;>intro ht));all_goals try simp (disch:=first|omega|(simp only [lens,z6,z7,lQr,lQm,lQt,lQd,z8,zg,zh,zi];first|done|omega)) only [go_sem,z1,h64']))
  exact DownV.pure hw z1j
theorem May_to(O:Store)(e:Ev)(x y z:AV)(hx:RdSl O 32 (hr e.a.p) x)(hy:RdSl O 32 (hr e.b.p) y)(hz:RdSl O 32 (hr e.p) z):
  ACallsTo TC 53 [.agg (evX e x y z)] O (.bool (mayB e)) O:=by
 have hVa:=fun t=>zeh (O++t) e.a.n e.a.i e.a.r e.a.s e.a.p x hx.app
 have hVb:=fun t=>zeh (O++t) e.b.n e.b.i e.b.r e.b.s e.b.p y hy.app
 have z1:=hz.len
 rw [z7]at z1
 unfold z1i at z1
 have hm:mayB e=(z23 e.a.n e.a.i e.a.s e.a.p && z23 e.b.n e.b.i e.b.s e.b.p && decide (e.p.length<=64) && z81 e):=rfl
 rw [hm]
 generalize z23 e.a.n e.a.i e.a.s e.a.p=va at*
 generalize z23 e.b.n e.b.i e.b.s e.b.p=vb at*
 refine ACallsTo.of_body q23ok (by simp) fun hw _=> ?_
 cases va with
 |false=>
  repeat' (first|apply zs_|apply zb_|apply zc_|apply zt_ rfl|apply zf_ rfl|(apply zd_ rfl<;>intro ht<;>try omega)|((first|apply zr_|apply zk_|apply ze_|apply zq_|(apply callW.mk_pu;(first|exact(fun _=>hVa _)))|(apply callW.za;(first|exact(hVa _)))|(apply zG<;>intro ht));all_goals try simp (disch:=first|omega|(simp only [lens,z6,z7,lQr,lQm,lQt,lQd,z8,zg,zh,zi];first|done|omega)) only [go_sem,z1]))
  exact DownV.pure hw z1j
 |true=>
 cases vb with
 |false=>
  repeat' (first|apply zs_|apply zb_|apply zc_|apply zt_ rfl|apply zf_ rfl|(apply zd_ rfl<;>intro ht<;>try omega)|((first|apply zr_|apply zk_|apply ze_|apply zq_|(apply callW.mk_pu;(first|exact(fun _=>hVa _)|exact(fun _=>hVb _)))|(apply callW.za;(first|exact(hVa _)|exact(hVb _)))|(apply zG<;>intro ht));all_goals try simp (disch:=first|omega|(simp only [lens,z6,z7,lQr,lQm,lQt,lQd,z8,zg,zh,zi];first|done|omega)) only [go_sem,z1]))
  exact DownV.pure hw z1j
 |true=>
 rw [Bool.true_and,Bool.true_and]
 unfold z81
 by_cases k1:e.k=1
 ·rw [if_pos k1]
  by_cases c0:e.a.n=e.b.n/\ e.a.r ≠ e.b.r/\ e.r=zeroH
  ·obtain⟨c1,c2,c3⟩:=c0
   by_cases c4:(e.p.length:Int)=0
   ·rw [decide_eq_true (p:=_/\ _) ⟨c1,c2,c3,ziw c4⟩,decide_eq_true (show e.p.length<=64 by omega),Bool.true_and]
    repeat' (first|apply zs_|apply zb_|apply zc_|apply zt_ rfl|apply zf_ rfl|(apply zd_ rfl<;>intro ht<;>try omega)|((first|apply zr_|apply zk_|apply ze_|apply zq_|(apply callW.mk_pu;(first|exact(fun _=>hVa _)|exact(fun _=>hVb _)))|(apply callW.za;(first|exact(hVa _)|exact(hVb _)))|(apply zG<;>intro ht));all_goals try simp (disch:=first|omega|(simp only [lens,z6,z7,lQr,lQm,lQt,lQd,z8,zg,zh,zi];first|done|omega)) only [go_sem]))
    refine zW.reg2 ?_ ?_
    all_goals
     simp (disch:=first|omega|(simp only [lens,z6,z7,lQr,lQm,lQt,lQd,z8,zg,zh,zi];first|done|omega)) only [go_sem,z1]
     repeat' (first|apply zs_|apply zb_|apply zc_|apply zt_ rfl|apply zf_ rfl|(apply zd_ rfl<;>intro ht<;>try omega)|((first|apply zr_|apply zk_|apply ze_|apply zq_|(apply zG<;>intro ht));all_goals try simp (disch:=first|omega|(simp only [lens,z6,z7,lQr,lQm,lQt,lQd,z8,zg,zh,zi];first|done|omega)) only [go_sem,z1,k1,c1,c2,c3,c4,<-z3s]))
     exact DownV.pure hw z1j
   ·rw [decide_eq_false (p:=_/\ _) (fun h=>c4 (by rw [h.2.2.2];rfl)),Bool.and_false]
    repeat' (first|apply zs_|apply zb_|apply zc_|apply zt_ rfl|apply zf_ rfl|(apply zd_ rfl<;>intro ht<;>try omega)|((first|apply zr_|apply zk_|apply ze_|apply zq_|(apply callW.mk_pu;(first|exact(fun _=>hVa _)|exact(fun _=>hVb _)))|(apply callW.za;(first|exact(hVa _)|exact(hVb _)))|(apply zG<;>intro ht));all_goals try simp (disch:=first|omega|(simp only [lens,z6,z7,lQr,lQm,lQt,lQd,z8,zg,zh,zi];first|done|omega)) only [go_sem]))
    refine zW.reg2 ?_ ?_
    all_goals
     simp (disch:=first|omega|(simp only [lens,z6,z7,lQr,lQm,lQt,lQd,z8,zg,zh,zi];first|done|omega)) only [go_sem,z1]
     repeat' (first|apply zs_|apply zb_|apply zc_|apply zt_ rfl|apply zf_ rfl|(apply zd_ rfl<;>intro ht<;>try omega)|((first|apply zr_|apply zk_|apply ze_|apply zq_|(apply zG<;>intro ht));all_goals try simp (disch:=first|omega|(simp only [lens,z6,z7,lQr,lQm,lQt,lQd,z8,zg,zh,zi];first|done|omega)) only [go_sem,z1,k1,c1,c2,c3,c4,<-z3s]))
     exact DownV.pure hw z1j
  ·rw [decide_eq_false (p:=_/\ _) (fun h=>c0 ⟨h.1,h.2.1,h.2.2.1⟩),Bool.and_false]
   repeat' (first|apply zs_|apply zb_|apply zc_|apply zt_ rfl|apply zf_ rfl|(apply zd_ rfl<;>intro ht<;>try omega)|((first|apply zr_|apply zk_|apply ze_|apply zq_|(apply callW.mk_pu;(first|exact(fun _=>hVa _)|exact(fun _=>hVb _)))|(apply callW.za;(first|exact(hVa _)|exact(hVb _)))|(apply zG<;>intro ht));all_goals try simp (disch:=first|omega|(simp only [lens,z6,z7,lQr,lQm,lQt,lQd,z8,zg,zh,zi];first|done|omega)) only [go_sem]))
   refine zW.reg2 ?_ ?_
   all_goals
    simp (disch:=first|omega|(simp only [lens,z6,z7,lQr,lQm,lQt,lQd,z8,zg,zh,zi];first|done|omega)) only [go_sem,z1]
    by_cases c1:e.a.n=e.b.n
    ·by_cases c2:e.a.r=e.b.r
     ·repeat' (first|apply zs_|apply zb_|apply zc_|apply zt_ rfl|apply zf_ rfl|(apply zd_ rfl<;>intro ht<;>try omega)|((first|apply zr_|apply zk_|apply ze_|apply zq_|(apply zG<;>intro ht));all_goals try simp (disch:=first|omega|(simp only [lens,z6,z7,lQr,lQm,lQt,lQd,z8,zg,zh,zi];first|done|omega)) only [go_sem,z1,k1,c1,c2,<-z3s]))
      exact DownV.pure hw z1j
     ·have c3:¬e.r=zeroH:=fun h=>c0 ⟨c1,c2,h⟩
      repeat' (first|apply zs_|apply zb_|apply zc_|apply zt_ rfl|apply zf_ rfl|(apply zd_ rfl<;>intro ht<;>try omega)|((first|apply zr_|apply zk_|apply ze_|apply zq_|(apply zG<;>intro ht));all_goals try simp (disch:=first|omega|(simp only [lens,z6,z7,lQr,lQm,lQt,lQd,z8,zg,zh,zi];first|done|omega)) only [go_sem,z1,k1,c1,c2,c3,<-z3s]))
      exact DownV.pure hw z1j
    ·repeat' (first|apply zs_|apply zb_|apply zc_|apply zt_ rfl|apply zf_ rfl|(apply zd_ rfl<;>intro ht<;>try omega)|((first|apply zr_|apply zk_|apply ze_|apply zq_|(apply zG<;>intro ht));all_goals try simp (disch:=first|omega|(simp only [lens,z6,z7,lQr,lQm,lQt,lQd,z8,zg,zh,zi];first|done|omega)) only [go_sem,z1,k1,c1,<-z3s]))
     exact DownV.pure hw z1j
 ·rw [if_neg k1]
  by_cases k2:e.k=2
  ·by_cases c1:e.a.n<e.b.n
   ·by_cases c2:e.r=e.a.r
    ·rw [decide_eq_false (p:=_/\ _) (fun h=>h.2.2 c2),Bool.and_false]
     repeat' (first|apply zs_|apply zb_|apply zc_|apply zt_ rfl|apply zf_ rfl|(apply zd_ rfl<;>intro ht<;>try omega)|((first|apply zr_|apply zk_|apply ze_|apply zq_|(apply callW.mk_pu;(first|exact(fun _=>hVa _)|exact(fun _=>hVb _)))|(apply callW.za;(first|exact(hVa _)|exact(hVb _)))|(apply zG<;>intro ht));all_goals try simp (disch:=first|omega|(simp only [lens,z6,z7,lQr,lQm,lQt,lQd,z8,zg,zh,zi];first|done|omega)) only [go_sem]))
     refine zW.reg2 ?_ ?_
     all_goals
      simp (disch:=first|omega|(simp only [lens,z6,z7,lQr,lQm,lQt,lQd,z8,zg,zh,zi];first|done|omega)) only [go_sem,z1]
      repeat' (first|apply zs_|apply zb_|apply zc_|apply zt_ rfl|apply zf_ rfl|(apply zd_ rfl<;>intro ht<;>try omega)|((first|apply zr_|apply zk_|apply ze_|apply zq_|(apply zG<;>intro ht));all_goals try simp (disch:=first|omega|(simp only [lens,z6,z7,lQr,lQm,lQt,lQd,z8,zg,zh,zi];first|done|omega)) only [go_sem,z1,k1,k2,c1,c2]))
      exact DownV.pure hw z1j
    ·rw [decide_eq_true (p:=_/\ _) ⟨k2,c1,c2⟩,Bool.and_true]
     by_cases h64:e.p.length<=64
     ·have h64':(e.p.length:Int)<=64:=by omega
      rw [decide_eq_true h64]
      repeat' (first|apply zs_|apply zb_|apply zc_|apply zt_ rfl|apply zf_ rfl|(apply zd_ rfl<;>intro ht<;>try omega)|((first|apply zr_|apply zk_|apply ze_|apply zq_|(apply callW.mk_pu;(first|exact(fun _=>hVa _)|exact(fun _=>hVb _)))|(apply callW.za;(first|exact(hVa _)|exact(hVb _)))|(apply zG<;>intro ht));all_goals try simp (disch:=first|omega|(simp only [lens,z6,z7,lQr,lQm,lQt,lQd,z8,zg,zh,zi];first|done|omega)) only [go_sem]))
      refine zW.reg2 ?_ ?_
      all_goals
       simp (disch:=first|omega|(simp only [lens,z6,z7,lQr,lQm,lQt,lQd,z8,zg,zh,zi];first|done|omega)) only [go_sem,z1]
       repeat' (first|apply zs_|apply zb_|apply zc_|apply zt_ rfl|apply zf_ rfl|(apply zd_ rfl<;>intro ht<;>try omega)|((first|apply zr_|apply zk_|apply ze_|apply zq_|(apply zG<;>intro ht));all_goals try simp (disch:=first|omega|(simp only [lens,z6,z7,lQr,lQm,lQt,lQd,z8,zg,zh,zi];first|done|omega)) only [go_sem,z1,k1,k2,c1,c2,h64']))
       exact DownV.pure hw z1j
     ·have h64':¬(e.p.length:Int)<=64:=by omega
      rw [decide_eq_false h64]
      repeat' (first|apply zs_|apply zb_|apply zc_|apply zt_ rfl|apply zf_ rfl|(apply zd_ rfl<;>intro ht<;>try omega)|((first|apply zr_|apply zk_|apply ze_|apply zq_|(apply callW.mk_pu;(first|exact(fun _=>hVa _)|exact(fun _=>hVb _)))|(apply callW.za;(first|exact(hVa _)|exact(hVb _)))|(apply zG<;>intro ht));all_goals try simp (disch:=first|omega|(simp only [lens,z6,z7,lQr,lQm,lQt,lQd,z8,zg,zh,zi];first|done|omega)) only [go_sem]))
      refine zW.reg2 ?_ ?_
      all_goals
       simp (disch:=first|omega|(simp only [lens,z6,z7,lQr,lQm,lQt,lQd,z8,zg,zh,zi];first|done|omega)) only [go_sem,z1]
       repeat' (first|apply zs_|apply zb_|apply zc_|apply zt_ rfl|apply zf_ rfl|(apply zd_ rfl<;>intro ht<;>try omega)|((first|apply zr_|apply zk_|apply ze_|apply zq_|(apply zG<;>intro ht));all_goals try simp (disch:=first|omega|(simp only [lens,z6,z7,lQr,lQm,lQt,lQd,z8,zg,zh,zi];first|done|omega)) only [go_sem,z1,k1,k2,c1,c2,h64']))
       exact DownV.pure hw z1j
   ·rw [decide_eq_false (p:=_/\ _) (fun h=>c1 h.2.1),Bool.and_false]
    repeat' (first|apply zs_|apply zb_|apply zc_|apply zt_ rfl|apply zf_ rfl|(apply zd_ rfl<;>intro ht<;>try omega)|((first|apply zr_|apply zk_|apply ze_|apply zq_|(apply callW.mk_pu;(first|exact(fun _=>hVa _)|exact(fun _=>hVb _)))|(apply callW.za;(first|exact(hVa _)|exact(hVb _)))|(apply zG<;>intro ht));all_goals try simp (disch:=first|omega|(simp only [lens,z6,z7,lQr,lQm,lQt,lQd,z8,zg,zh,zi];first|done|omega)) only [go_sem]))
    refine zW.reg2 ?_ ?_
    all_goals
     simp (disch:=first|omega|(simp only [lens,z6,z7,lQr,lQm,lQt,lQd,z8,zg,zh,zi];first|done|omega)) only [go_sem,z1]
     repeat' (first|apply zs_|apply zb_|apply zc_|apply zt_ rfl|apply zf_ rfl|(apply zd_ rfl<;>intro ht<;>try omega)|((first|apply zr_|apply zk_|apply ze_|apply zq_|(apply zG<;>intro ht));all_goals try simp (disch:=first|omega|(simp only [lens,z6,z7,lQr,lQm,lQt,lQd,z8,zg,zh,zi];first|done|omega)) only [go_sem,z1,k1,k2,c1]))
     exact DownV.pure hw z1j
  ·rw [decide_eq_false (p:=_/\ _) (fun h=>k2 h.1),Bool.and_false]
   repeat' (first|apply zs_|apply zb_|apply zc_|apply zt_ rfl|apply zf_ rfl|(apply zd_ rfl<;>intro ht<;>try omega)|((first|apply zr_|apply zk_|apply ze_|apply zq_|(apply callW.mk_pu;(first|exact(fun _=>hVa _)|exact(fun _=>hVb _)))|(apply callW.za;(first|exact(hVa _)|exact(hVb _)))|(apply zG<;>intro ht));all_goals try simp (disch:=first|omega|(simp only [lens,z6,z7,lQr,lQm,lQt,lQd,z8,zg,zh,zi];first|done|omega)) only [go_sem]))
   refine zW.reg2 ?_ ?_
   all_goals
    simp (disch:=first|omega|(simp only [lens,z6,z7,lQr,lQm,lQt,lQd,z8,zg,zh,zi];first|done|omega)) only [go_sem,z1]
    repeat' (first|apply zs_|apply zb_|apply zc_|apply zt_ rfl|apply zf_ rfl|(apply zd_ rfl<;>intro ht<;>try omega)|((first|apply zr_|apply zk_|apply ze_|apply zq_|(apply zG<;>intro ht));all_goals try simp (disch:=first|omega|(simp only [lens,z6,z7,lQr,lQm,lQt,lQd,z8,zg,zh,zi];first|done|omega)) only [go_sem,z1,k1,k2]))
    exact DownV.pure hw z1j
end
section
def z3r(key:Hash)(e:Ev):Int:=
 if mayB e=false then 2 else if z3b key e.a.n e.a.i e.a.r e.a.s e.a.p ≠ 0 \/z3b key e.b.n e.b.i e.b.r e.b.s e.b.p ≠ 0 then 81 else if e.k=2/\ chkH e.a.n e.b.n e.r e.b.r e.p ≠ 0 then 80 else 0
def EvOk(e:Ev):Prop:=e.a.p.length<1000000/\ e.b.p.length<1000000/\ e.p.length<1000000
attribute [local irreducible] ACallsTo ACallsP
theorem zcg(O:Store)(key:Hash)(e:Ev)(x y z:AV)(hx:RdSl O 32 (hr e.a.p) x)(hy:RdSl O 32 (hr e.b.p) y)(hz:RdSl O 32 (hr e.p) z)(hl:EvOk e):
  ACallsTo TC 17 [.agg (hc key),.agg (evX e x y z)] O (.int .i64 (z3r key e)) O:=by
 have hS:=fun t=>ztp (O++t) e x y z hx.app hy.app hz.app
 have hA:=fun t=>zfo (O++t) key e.a.n e.a.i e.a.r e.a.s e.a.p x hx.app
 have hB:=fun t=>zfo (O++t) key e.b.n e.b.i e.b.r e.b.s e.b.p y hy.app
 have hP:=fun t=>zs4 (O++t) e.a.n e.b.n e.r e.b.r z e.p hz.app hl.2.2
 unfold z3r
 generalize z3b key e.a.n e.a.i e.a.r e.a.s e.a.p=ca at*
 generalize z3b key e.b.n e.b.i e.b.r e.b.s e.b.p=cb at*
 generalize chkH e.a.n e.b.n e.r e.b.r e.p=cp at*
 generalize mayB e=mb at*
 refine ACallsTo.of_body q1zok (by simp) fun hw _=> ?_
 repeat' (first|apply zs_|apply zb_|apply zc_|apply zt_ rfl|apply zf_ rfl|(apply zd_ rfl<;>intro ht<;>try omega)|((first|apply zr_|apply zk_|apply ze_|apply zq_|(apply zG<;>intro ht));all_goals try simp (disch:=first|omega|(simp only [lens,z6,z7,lQr,lQm,lQt,lQd,z8,zg,zh,zi];first|done|omega)) only [go_sem]))
 refine zW.reg2 ?_ ?_
 all_goals
  simp (disch:=first|omega|(simp only [lens,z6,z7,lQr,lQm,lQt,lQd,z8,zg,zh,zi];first|done|omega)) only [go_sem]
  cases mb with
  |false=>
   repeat' (first|apply zs_|apply zb_|apply zc_|apply zt_ rfl|apply zf_ rfl|(apply zd_ rfl<;>intro ht<;>try omega)|((first|apply zr_|apply zk_|apply ze_|apply zq_|(apply callW.mk_pu;(first|exact(fun _=>hS _)))|(apply callW.za;(first|exact(hS _)))|(apply zG<;>intro ht));all_goals try simp (disch:=first|omega|(simp only [lens,z6,z7,lQr,lQm,lQt,lQd,z8,zg,zh,zi];first|done|omega)) only [go_sem]))
   exact DownV.pure hw z2h
  |true=>
   rw [if_neg (by simp)]
   by_cases h1:ca=0
   ·by_cases h2:cb=0
    ·rw [if_neg (by omega)]
     by_cases k2:e.k=2
     ·by_cases h3:cp=0
      ·rw [if_neg (by omega)]
       repeat' (first|apply zs_|apply zb_|apply zc_|apply zt_ rfl|apply zf_ rfl|(apply zd_ rfl<;>intro ht<;>try omega)|((first|apply zr_|apply zk_|apply ze_|apply zq_|(apply callW.mk_pu;(first|exact(fun _=>hS _)|exact(fun _=>hA _)|exact(fun _=>hB _)|exact(fun _=>hP _)))|(apply callW.za;(first|exact(hS _)|exact(hA _)|exact(hB _)|exact(hP _)))|(apply zG<;>intro ht));all_goals try simp (disch:=first|omega|(simp only [lens,z6,z7,lQr,lQm,lQt,lQd,z8,zg,zh,zi];first|done|omega)) only [go_sem,h1,h2,k2,h3]))
       exact DownV.pure hw z2h
      ·rw [if_pos ⟨k2,h3⟩]
       repeat' (first|apply zs_|apply zb_|apply zc_|apply zt_ rfl|apply zf_ rfl|(apply zd_ rfl<;>intro ht<;>try omega)|((first|apply zr_|apply zk_|apply ze_|apply zq_|(apply callW.mk_pu;(first|exact(fun _=>hS _)|exact(fun _=>hA _)|exact(fun _=>hB _)|exact(fun _=>hP _)))|(apply callW.za;(first|exact(hS _)|exact(hA _)|exact(hB _)|exact(hP _)))|(apply zG<;>intro ht));all_goals try simp (disch:=first|omega|(simp only [lens,z6,z7,lQr,lQm,lQt,lQd,z8,zg,zh,zi];first|done|omega)) only [go_sem,h1,h2,k2,h3]))
       exact DownV.pure hw z2h
     ·rw [if_neg (by omega)]
      repeat' (first|apply zs_|apply zb_|apply zc_|apply zt_ rfl|apply zf_ rfl|(apply zd_ rfl<;>intro ht<;>try omega)|((first|apply zr_|apply zk_|apply ze_|apply zq_|(apply callW.mk_pu;(first|exact(fun _=>hS _)|exact(fun _=>hA _)|exact(fun _=>hB _)|exact(fun _=>hP _)))|(apply callW.za;(first|exact(hS _)|exact(hA _)|exact(hB _)|exact(hP _)))|(apply zG<;>intro ht));all_goals try simp (disch:=first|omega|(simp only [lens,z6,z7,lQr,lQm,lQt,lQd,z8,zg,zh,zi];first|done|omega)) only [go_sem,h1,h2,k2]))
      exact DownV.pure hw z2h
    ·rw [if_pos (.inr h2)]
     repeat' (first|apply zs_|apply zb_|apply zc_|apply zt_ rfl|apply zf_ rfl|(apply zd_ rfl<;>intro ht<;>try omega)|((first|apply zr_|apply zk_|apply ze_|apply zq_|(apply callW.mk_pu;(first|exact(fun _=>hS _)|exact(fun _=>hA _)|exact(fun _=>hB _)))|(apply callW.za;(first|exact(hS _)|exact(hA _)|exact(hB _)))|(apply zG<;>intro ht));all_goals try simp (disch:=first|omega|(simp only [lens,z6,z7,lQr,lQm,lQt,lQd,z8,zg,zh,zi];first|done|omega)) only [go_sem,h1,h2]))
     exact DownV.pure hw z2h
   ·rw [if_pos (.inl h1)]
    repeat' (first|apply zs_|apply zb_|apply zc_|apply zt_ rfl|apply zf_ rfl|(apply zd_ rfl<;>intro ht<;>try omega)|((first|apply zr_|apply zk_|apply ze_|apply zq_|(apply callW.mk_pu;(first|exact(fun _=>hS _)|exact(fun _=>hA _)))|(apply callW.za;(first|exact(hS _)|exact(hA _)))|(apply zG<;>intro ht));all_goals try simp (disch:=first|omega|(simp only [lens,z6,z7,lQr,lQm,lQt,lQd,z8,zg,zh,zi];first|done|omega)) only [go_sem,h1]))
    exact DownV.pure hw z2h
theorem zsn(O:Store)(key:Hash)(e:Ev)(x y z:AV)(hx:RdSl O 32 (hr e.a.p) x)(hy:RdSl O 32 (hr e.b.p) y)(hz:RdSl O 32 (hr e.p) z)(hl:EvOk e):
  ACallsTo TC 19 [.agg (hc key),.agg (evX e x y z)] O (.int .i64 (z3r key e)) O:=by
 have hS:=fun t=>May_to (O++t) e x y z hx.app hy.app hz.app
 have hA:=fun t=>zjn (O++t) key e.a.n e.a.i e.a.r e.a.s e.a.p x hx.app
 have hB:=fun t=>zjn (O++t) key e.b.n e.b.i e.b.r e.b.s e.b.p y hy.app
 have hP:=fun t=>zs8 (O++t) e.a.n e.b.n e.r e.b.r z e.p hz.app hl.2.2
 unfold z3r
 generalize z3b key e.a.n e.a.i e.a.r e.a.s e.a.p=ca at*
 generalize z3b key e.b.n e.b.i e.b.r e.b.s e.b.p=cb at*
 generalize chkH e.a.n e.b.n e.r e.b.r e.p=cp at*
 generalize mayB e=mb at*
 refine ACallsTo.of_body q20ok (by simp) fun hw _=> ?_
 cases mb with
 |false=>
  repeat' (first|apply zs_|apply zb_|apply zc_|apply zt_ rfl|apply zf_ rfl|(apply zd_ rfl<;>intro ht<;>try omega)|((first|apply zr_|apply zk_|apply ze_|apply zq_|(apply callW.mk_pu;(first|exact(fun _=>hS _)))|(apply callW.za;(first|exact(hS _)))|(apply zG<;>intro ht));all_goals try simp (disch:=first|omega|(simp only [lens,z6,z7,lQr,lQm,lQt,lQd,z8,zg,zh,zi];first|done|omega)) only [go_sem]))
  exact DownV.pure hw z2h
 |true=>
  rw [if_neg (by simp)]
  by_cases h1:ca=0
  ·by_cases h2:cb=0
   ·rw [if_neg (by omega)]
    by_cases k2:e.k=2
    ·by_cases h3:cp=0
     ·rw [if_neg (by omega)]
      repeat' (first|apply zs_|apply zb_|apply zc_|apply zt_ rfl|apply zf_ rfl|(apply zd_ rfl<;>intro ht<;>try omega)|((first|apply zr_|apply zk_|apply ze_|apply zq_|(apply callW.mk_pu;(first|exact(fun _=>hS _)|exact(fun _=>hA _)|exact(fun _=>hB _)|exact(fun _=>hP _)))|(apply callW.za;(first|exact(hS _)|exact(hA _)|exact(hB _)|exact(hP _)))|(apply zG<;>intro ht));all_goals try simp (disch:=first|omega|(simp only [lens,z6,z7,lQr,lQm,lQt,lQd,z8,zg,zh,zi];first|done|omega)) only [go_sem,h1,h2,k2,h3]))
      exact DownV.pure hw z2h
     ·rw [if_pos ⟨k2,h3⟩]
      repeat' (first|apply zs_|apply zb_|apply zc_|apply zt_ rfl|apply zf_ rfl|(apply zd_ rfl<;>intro ht<;>try omega)|((first|apply zr_|apply zk_|apply ze_|apply zq_|(apply callW.mk_pu;(first|exact(fun _=>hS _)|exact(fun _=>hA _)|exact(fun _=>hB _)|exact(fun _=>hP _)))|(apply callW.za;(first|exact(hS _)|exact(hA _)|exact(hB _)|exact(hP _)))|(apply zG<;>intro ht));all_goals try simp (disch:=first|omega|(simp only [lens,z6,z7,lQr,lQm,lQt,lQd,z8,zg,zh,zi];first|done|omega)) only [go_sem,h1,h2,k2,h3]))
      exact DownV.pure hw z2h
    ·rw [if_neg (by omega)]
     repeat' (first|apply zs_|apply zb_|apply zc_|apply zt_ rfl|apply zf_ rfl|(apply zd_ rfl<;>intro ht<;>try omega)|((first|apply zr_|apply zk_|apply ze_|apply zq_|(apply callW.mk_pu;(first|exact(fun _=>hS _)|exact(fun _=>hA _)|exact(fun _=>hB _)|exact(fun _=>hP _)))|(apply callW.za;(first|exact(hS _)|exact(hA _)|exact(hB _)|exact(hP _)))|(apply zG<;>intro ht));all_goals try simp (disch:=first|omega|(simp only [lens,z6,z7,lQr,lQm,lQt,lQd,z8,zg,zh,zi];first|done|omega)) only [go_sem,h1,h2,k2]))
     exact DownV.pure hw z2h
   ·rw [if_pos (.inr h2)]
    repeat' (first|apply zs_|apply zb_|apply zc_|apply zt_ rfl|apply zf_ rfl|(apply zd_ rfl<;>intro ht<;>try omega)|((first|apply zr_|apply zk_|apply ze_|apply zq_|(apply callW.mk_pu;(first|exact(fun _=>hS _)|exact(fun _=>hA _)|exact(fun _=>hB _)))|(apply callW.za;(first|exact(hS _)|exact(hA _)|exact(hB _)))|(apply zG<;>intro ht));all_goals try simp (disch:=first|omega|(simp only [lens,z6,z7,lQr,lQm,lQt,lQd,z8,zg,zh,zi];first|done|omega)) only [go_sem,h1,h2]))
    exact DownV.pure hw z2h
  ·rw [if_pos (.inl h1)]
   repeat' (first|apply zs_|apply zb_|apply zc_|apply zt_ rfl|apply zf_ rfl|(apply zd_ rfl<;>intro ht<;>try omega)|((first|apply zr_|apply zk_|apply ze_|apply zq_|(apply callW.mk_pu;(first|exact(fun _=>hS _)|exact(fun _=>hA _)))|(apply callW.za;(first|exact(hS _)|exact(hA _)))|(apply zG<;>intro ht));all_goals try simp (disch:=first|omega|(simp only [lens,z6,z7,lQr,lQm,lQt,lQd,z8,zg,zh,zi];first|done|omega)) only [go_sem,h1]))
   exact DownV.pure hw z2h
end
section
attribute [local irreducible] ACallsTo ACallsP
end
section
attribute [local irreducible] ACallsTo ACallsP
end
section
abbrev HV:=Hdr × AV
def hrw(P:List HV):List (List AV):=P.map fun p=>sgX p.1 p.2
theorem z15(P:List HV):(hrw P).length=P.length:=by simp [hrw]
theorem zb3{P:List HV}{i:Nat}(h:i<P.length):(hrw P)[i]? =some (sgX P[i].1 P[i].2):=by
 simp [hrw,List.getElem?_eq_getElem h]
theorem zpm(P:List HV)(i:Nat):(hrw P).drop i=hrw (P.drop i):=by simp [hrw,List.map_drop]
theorem zpn(P:List HV):(hrw P).take P.length=hrw P:=List.take_of_length_le (by rw [z15];exact Nat.le_refl _)
def HOk(P:List HV):Prop:=∀p ∈ P,SlV 32 (hr p.1.p) p.2
theorem HOk.drop{P:List HV}(h:HOk P)(i:Nat):HOk (P.drop i):=fun p hp=>h p (List.mem_of_mem_drop hp)
theorem HOk.at{P:List HV}(h:HOk P){i:Nat}(hi:i<P.length):SlV 32 (hr P[i].1.p) P[i].2:=h _ (List.getElem_mem hi)
def z3h(a b:HV):Bool:=valH a.1 && valH b.1 && decide (ordI a.1.n b.1.n a.1.r b.1.r=3)
def z2u:List HV->Option (HV × HV)
 | []=>none
 |p::P=>match P.find? (z3h p)with
  |some q=>some (p,q)
  |none=>z2u P
theorem zow{P:List HV}{i:Nat}(hi:i<P.length):z2u (P.drop i)=match (P.drop (i+1)).find? (z3h P[i])with|some q=>some (P[i],q)|none=>z2u (P.drop (i+1)):=by
 rw [List.drop_eq_getElem_cons hi];rfl
theorem zox{P:List HV}:z2u (P.drop P.length)=none:=by rw [List.drop_length];rfl
theorem zhk{P:List HV}{f:HV->Bool}{j:Nat}(hj:j<P.length):(P.drop j).find? f=if f P[j]=true then some P[j]else(P.drop (j+1)).find? f:=by
 rw [List.drop_eq_getElem_cons hj,List.find?_cons]
 cases f P[j]<;>rfl
def zde:Option (HV × HV)->AV
 |none=> .tup [.agg evO,.bool false]
 |some (p,q)=> .tup [.agg (evX ⟨1,p.1,q.1,zeroH,[]⟩ p.2 q.2 .nilsl),.bool true]
theorem rlE'{n:Nat}(e:Ev){x y z w:AV}(hx:RL n x)(hy:RL n y)(hz:RL n z)(hw:RL n w):RL n (.tup [.agg (evX e x y z),w]):=by
 simp only [RL,RLs]
 exact⟨zjs e x y z hx hy hz,hw,trivial⟩
attribute [local irreducible] ACallsTo ACallsP
theorem zj6(O:Store)(e:Ev)(x y z:AV)(hx:SlV 32 (hr e.a.p) x)(hy:SlV 32 (hr e.b.p) y)(hz:RL O.length z)(ha:e.a.p ≠ [])(hb:e.b.p ≠ [])(hla:e.a.p.length<1000000)(hlb:e.b.p.length<1000000):
  ACallsTo TC 57 [.agg (evX e x y z)] O (.agg (evX e (z10 32 (hr e.a.p)) (z10 32 (hr e.b.p)) z)) O:=by
 have h1:=fun O=>zfl O e.a.p x (.of hx) hla
 have h2:=fun O=>zfl O e.b.p y (.of hy) hlb
 have ne:∀(l:List Hash) (v:AV),l ≠ []->SlV 32 (hr l) v->v ≠ .nilsl:=by
  rintro l v h0 (⟨_,h⟩| ⟨ex,rfl⟩)
  ·exact absurd (hr_nil_iff.1 h) h0
  ·exact nofun
 have e0:∀l:List Hash,l ≠ []->z10 32 (hr l)=.vsl 32 (hr l) false:=fun l h0=>by unfold z10;rw [if_neg fun e=>h0 (hr_nil_iff.1 e)]
 rw [zdm (ne _ _ ha hx)]at h1
 rw [zdm (ne _ _ hb hy)]at h2
 rw [e0 _ ha,e0 _ hb]
 have hel:=zh e (.vsl 32 (hr e.a.p) false) (.vsl 32 (hr e.b.p) false) z
 have hO6:evO.drop 106=[]:=z3g _ _ _ _
 refine ACallsTo.of_body q25ok (by simp) fun hw _=> ?_
 repeat' (first|apply zs_|apply zb_|apply zc_|apply zt_ rfl|apply zf_ rfl|(apply zd_ rfl<;>intro ht<;>try omega)|((first|apply zr_|apply zk_|apply ze_|apply zq_|(apply callW.mk_pu;(first|exact(fun _=>h1 _)|exact(fun _=>h2 _)))|(apply callW.za;(first|exact(h1 _)|exact(h2 _)))|(apply zG<;>intro ht));all_goals try simp (disch:=first|omega|(simp only [lens,z6,z7,lQr,lQm,lQt,lQd,z8,zg,zh,zi,z15];first|done|omega)) only [go_sem,hel,hO6,List.append_nil]))
 have rv:∀(l:List Hash) (b:Bool),RL O.length (.vsl 32 (hr l) b):=fun l b=>by simp only [RL];exact z2n l
 have hev:RL O.length (.agg (evX e (.vsl 32 (hr e.a.p) false) (.vsl 32 (hr e.b.p) false) z)):=by
  simp only [RL]
  exact zjs e _ _ _ (rv _ _) (rv _ _) hz
 exact DownV.pure hw hev
theorem zoy(O:Store)(P:List HV)(v:AV)(hv:SlV 36 (hrw P) v)(hP:HOk P)(hl:P.length<1000000):ACallsTo TC 56 [v] O (zde (z2u P)) O:=by
 have r1:=hv.len
 rw [z15]at r1
 unfold z1i at r1
 refine ACallsTo.of_body q24ok (by simp) fun hw _=> ?_
 repeat' (first|apply zs_|apply zb_|apply zc_|apply zt_ rfl|apply zf_ rfl|(apply zd_ rfl<;>intro ht<;>try omega)|((first|apply zr_|apply zk_|apply ze_|apply zq_|(apply zG<;>intro ht));all_goals try simp (disch:=first|omega|(simp only [lens,z6,z7,lQr,lQm,lQt,lQd,z8,zg,zh,zi,z15];first|done|omega)) only [go_sem,r1]))
 refine zW.loop (fun m J O'=>∃(i:Nat) (y:Store),m+i=P.length/\ O'=O++(some [evO]::y)/\ z2u P=z2u (P.drop i)/\ J 0=v/\ J 2=.ptr O.length 0 0/\ J 8=v/\ J 9=.int .i64 P.length/\ J 10=.int .i64 i) P.length ?_ ?_
 ·exact⟨0,[],by omega,rfl,rfl,by simp (disch:=first|omega|(simp only [lens,z6,z7,lQr,lQm,lQt,lQd,z8,zg,zh,zi,z15];first|done|omega)) only [go_sem],by simp (disch:=first|omega|(simp only [lens,z6,z7,lQr,lQm,lQt,lQd,z8,zg,zh,zi,z15];first|done|omega)) only [go_sem],by simp (disch:=first|omega|(simp only [lens,z6,z7,lQr,lQm,lQt,lQd,z8,zg,zh,zi,z15];first|done|omega)) only [go_sem],by simp (disch:=first|omega|(simp only [lens,z6,z7,lQr,lQm,lQt,lQd,z8,zg,zh,zi,z15];first|done|omega)) only [go_sem],by simp (disch:=first|omega|(simp only [lens,z6,z7,lQr,lQm,lQt,lQd,z8,zg,zh,zi,z15];first|done|omega)) only [go_sem];rfl⟩
 ·rintro m J O' ⟨i,y,hm,rfl,hF,q0,q2,q8,q9,q10⟩
  by_cases hi:i<P.length
  ·have hi':(i:Int)<P.length:=by omega
   obtain⟨ex,rfl⟩:=hv.vsl (by rw [z15];omega)
   have hgi:=zb3 hi
   have hp:=hP.at hi
   have hst:=zow hi
   have hdr:=zpm P (i+1)
   have htk:=zpn P
   have hpl:=z15 P
   have hPD:=hP.drop (i+1)
   have hDl:(P.drop (i+1)).length=P.length-(i+1):=List.length_drop
   have hDe:z2u (P.drop (i+1))=z2u (P.drop (i+1)):=rfl
   generalize hDD:P.drop (i+1)=D at hdr hPD hDl hst
   rw [hst]at hF
   generalize P[i]=p at*
   have hi1:((i:Int)+1).toNat=i+1:=by omega
   have hsl:=zg p.1 p.2
   have hzl:sgZ.length=36:=zg zHd .nilsl
   have hzd:sgZ.drop 36=[]:=zbt zHd .nilsl
   have hdl:=z15 D
   have hVa:=fun O=>z78 O p.1.n p.1.i p.1.r p.1.s p.1.p p.2 (.of hp)
   repeat' (first|apply zs_|apply zb_|apply zc_|apply zt_ rfl|apply zf_ rfl|(apply zd_ rfl<;>intro ht<;>try omega)|((first|apply zr_|apply zk_|apply ze_|apply zq_|(apply zG<;>intro ht));all_goals try simp (disch:=first|omega|(simp only [lens,z6,z7,lQr,lQm,lQt,lQd,z8,zg,zh,zi,z15];first|done|omega)) only [go_sem,q0,q2,q8,q9,q10,hi',hgi,htk,hdr,hpl,hi1,hsl,hzl,hzd,hdl]))
   have hO:evO=evX ⟨0,zHd,zHd,zeroH,[]⟩ .nilsl .nilsl .nilsl:=rfl
   have hel:=fun e x y z=>zh e x y z
   have hO6:=fun e x y z=>z3g e x y z
   refine zW.loop (fun m J O'=>∃(j:Nat) (y':Store),m+j=D.length/\ O'=O++(some [evO]::(y++(some [sgX p.1 p.2]::y')))/\ D.find? (z3h p)=(D.drop j).find? (z3h p)/\ J 0=.vsl 36 (hrw P) ex/\ J 2=.ptr O.length 0 0/\ J 5=.ptr (O.length+(y.length+1)) 0 0/\ J 8=.vsl 36 (hrw P) ex/\ J 9=.int .i64 P.length/\ J 10=.int .i64 i/\ J 18=.vsl 36 (hrw D) ex/\ J 19=.int .i64 D.length/\ J 20=.int .i64 j) D.length ?_ ?_
   ·exact⟨0,[],by omega,rfl,rfl,by simp (disch:=first|omega|(simp only [lens,z6,z7,lQr,lQm,lQt,lQd,z8,zg,zh,zi,z15];first|done|omega)) only [go_sem,q0],by simp (disch:=first|omega|(simp only [lens,z6,z7,lQr,lQm,lQt,lQd,z8,zg,zh,zi,z15];first|done|omega)) only [go_sem,q2],by simp (disch:=first|omega|(simp only [lens,z6,z7,lQr,lQm,lQt,lQd,z8,zg,zh,zi,z15];first|done|omega)) only [go_sem],by simp (disch:=first|omega|(simp only [lens,z6,z7,lQr,lQm,lQt,lQd,z8,zg,zh,zi,z15];first|done|omega)) only [go_sem,q8],by simp (disch:=first|omega|(simp only [lens,z6,z7,lQr,lQm,lQt,lQd,z8,zg,zh,zi,z15];first|done|omega)) only [go_sem,q9],by simp (disch:=first|omega|(simp only [lens,z6,z7,lQr,lQm,lQt,lQd,z8,zg,zh,zi,z15];first|done|omega)) only [go_sem,q10],by simp (disch:=first|omega|(simp only [lens,z6,z7,lQr,lQm,lQt,lQd,z8,zg,zh,zi,z15];first|done|omega)) only [go_sem],by simp (disch:=first|omega|(simp only [lens,z6,z7,lQr,lQm,lQt,lQd,z8,zg,zh,zi,z15];first|done|omega)) only [go_sem],by simp (disch:=first|omega|(simp only [lens,z6,z7,lQr,lQm,lQt,lQd,z8,zg,zh,zi,z15];first|done|omega)) only [go_sem];rfl⟩
   ·rintro m2 J2 O2 ⟨j,y2,hm2,rfl,hF2,s0,s2,s5,s8,s9,s10,s18,s19,s20⟩
    by_cases hj:j<D.length
    ·have hj':(j:Int)<D.length:=by omega
     have hgj:=zb3 hj
     have hq:=hPD.at hj
     have hfd:=zhk (f:=z3h p) hj
     rw [hfd]at hF2
     generalize D[j]=q at*
     have hsq:=zg q.1 q.2
     have hVb:=fun O=>z78 O q.1.n q.1.i q.1.r q.1.s q.1.p q.2 (.of hq)
     have hOr:=fun O=>zfp O p.1.n q.1.n p.1.r q.1.r
     by_cases hb:z3h p q=true
     ·rw [if_pos hb]at hF2
      rw [hF2]at hF
      simp only at hF
      rw [hF]
      unfold z3h valH at hb
      simp only [Bool.and_eq_true,decide_eq_true_eq]at hb
      obtain⟨⟨b1,b2⟩,b3⟩:=hb
      rw [b1]at hVa
      rw [b2]at hVb
      rw [b3]at hOr
      repeat' (first|apply zs_|apply zb_|apply zc_|apply zt_ rfl|apply zf_ rfl|(apply zd_ rfl<;>intro ht<;>try omega)|((first|apply zr_|apply zk_|apply ze_|apply zq_|(apply callW.mk_pu;(first|exact(fun _=>hVa _)|exact(fun _=>hVb _)|exact(fun _=>hOr _)))|(apply callW.za;(first|exact(hVa _)|exact(hVb _)|exact(hOr _)))|(apply zG<;>intro ht));all_goals try simp (disch:=first|omega|(simp only [lens,z6,z7,lQr,lQm,lQt,lQd,z8,zg,zh,zi,z15];first|done|omega)) only [go_sem,s0,s2,s5,s8,s9,s10,s18,s19,s20,hj',hgj,hsl,hsq,hzl,hzd,hdl,hpl,hO,hel,hO6,List.append_nil]))
      exact DownV.pure hw (rlE' _ (zf3 hp) (zf3 hq) (by simp [RL]) (by simp [RL]))
     ·rw [if_neg hb]at hF2
      have hbf:(valH p.1 && valH q.1 && decide (ordI p.1.n q.1.n p.1.r q.1.r=3))=false:=by
       unfold z3h at hb
       simpa using hb
      unfold valH at hbf
      generalize z23 p.1.n p.1.i p.1.s p.1.p=va at*
      generalize z23 q.1.n q.1.i q.1.s q.1.p=vb at*
      generalize ordI p.1.n q.1.n p.1.r q.1.r=o at*
      cases va with
      |false=>
       repeat' (first|apply zs_|apply zb_|apply zc_|apply zt_ rfl|apply zf_ rfl|(apply zd_ rfl<;>intro ht<;>try omega)|((first|apply zr_|apply zk_|apply ze_|apply zq_|(apply callW.mk_pu;(first|exact(fun _=>hVa _)))|(apply callW.za;(first|exact(hVa _)))|(apply zG<;>intro ht));all_goals try simp (disch:=first|omega|(simp only [lens,z6,z7,lQr,lQm,lQt,lQd,z8,zg,zh,zi,z15];first|done|omega)) only [go_sem,s0,s2,s5,s8,s9,s10,s18,s19,s20,hj',hgj,hsl,hsq,hzl,hzd,hdl,hpl,List.append_nil]))
       exact⟨m2-1,by omega,j+1,_,by omega,rfl,hF2,by simp⟩
      |true=>
      cases vb with
      |false=>
       repeat' (first|apply zs_|apply zb_|apply zc_|apply zt_ rfl|apply zf_ rfl|(apply zd_ rfl<;>intro ht<;>try omega)|((first|apply zr_|apply zk_|apply ze_|apply zq_|(apply callW.mk_pu;(first|exact(fun _=>hVa _)|exact(fun _=>hVb _)))|(apply callW.za;(first|exact(hVa _)|exact(hVb _)))|(apply zG<;>intro ht));all_goals try simp (disch:=first|omega|(simp only [lens,z6,z7,lQr,lQm,lQt,lQd,z8,zg,zh,zi,z15];first|done|omega)) only [go_sem,s0,s2,s5,s8,s9,s10,s18,s19,s20,hj',hgj,hsl,hsq,hzl,hzd,hdl,hpl,List.append_nil]))
       exact⟨m2-1,by omega,j+1,_,by omega,rfl,hF2,by simp⟩
      |true=>
       have h3:¬o=3:=by simpa using hbf
       repeat' (first|apply zs_|apply zb_|apply zc_|apply zt_ rfl|apply zf_ rfl|(apply zd_ rfl<;>intro ht<;>try omega)|((first|apply zr_|apply zk_|apply ze_|apply zq_|(apply callW.mk_pu;(first|exact(fun _=>hVa _)|exact(fun _=>hVb _)|exact(fun _=>hOr _)))|(apply callW.za;(first|exact(hVa _)|exact(hVb _)|exact(hOr _)))|(apply zG<;>intro ht));all_goals try simp (disch:=first|omega|(simp only [lens,z6,z7,lQr,lQm,lQt,lQd,z8,zg,zh,zi,z15];first|done|omega)) only [go_sem,s0,s2,s5,s8,s9,s10,s18,s19,s20,hj',hgj,hsl,hsq,hzl,hzd,hdl,hpl,h3,List.append_nil]))
       exact⟨m2-1,by omega,j+1,_,by omega,rfl,hF2,by simp⟩
    ·obtain rfl:j=D.length:=by omega
     rw [List.drop_length]at hF2
     rw [hF2]at hF
     have hF':z2u P=z2u D:=hF
     repeat' (first|apply zs_|apply zb_|apply zc_|apply zt_ rfl|apply zf_ rfl|(apply zd_ rfl<;>intro ht<;>try omega)|((first|apply zr_|apply zk_|apply ze_|apply zq_|(apply zG<;>intro ht));all_goals try simp (disch:=first|omega|(simp only [lens,z6,z7,lQr,lQm,lQt,lQd,z8,zg,zh,zi,z15];first|done|omega)) only [go_sem,s0,s2,s5,s8,s9,s10,s18,s19,s20,hdl,hpl]))
     exact⟨m-1,by omega,i+1,_,by omega,rfl,by rw [hDD];exact hF',by simp⟩
  ·obtain rfl:i=P.length:=by omega
   rw [zox]at hF
   rw [hF]
   have hO6:evO.drop 106=[]:=z3g _ _ _ _
   repeat' (first|apply zs_|apply zb_|apply zc_|apply zt_ rfl|apply zf_ rfl|(apply zd_ rfl<;>intro ht<;>try omega)|((first|apply zr_|apply zk_|apply ze_|apply zq_|(apply zG<;>intro ht));all_goals try simp (disch:=first|omega|(simp only [lens,z6,z7,lQr,lQm,lQt,lQd,z8,zg,zh,zi,z15];first|done|omega)) only [go_sem,q0,q2,q8,q9,q10,zi,hO6,List.append_nil]))
   exact DownV.pure hw (rlE' evZ0 (by simp [RL]) (by simp [RL]) (by simp [RL]) (by simp [RL]))
end
section
def z8y(L:List Hash)(o:Option HV)(p:HV):Bool:=valH p.1 && decide (p.1.n<=L.length) && (match o with|none=>true|some w=>decide (w.1.n<p.1.n)) && decide (z1b (L.take p.1.n.toNat)=p.1.r)
def z3p(L:List Hash)(o:Option HV)(p:HV):Option HV:=if z8y L o p=true then some p else o
def zan(L:List Hash)(P:List HV):Option HV:=P.foldl (z3p L) none
theorem zmh{L:List Hash}{P:List HV}{i:Nat}(hi:i<P.length):(P.take (i+1)).foldl (z3p L) none=z3p L ((P.take i).foldl (z3p L) none) P[i]:=by
 rw [List.take_succ_eq_append_getElem hi,List.foldl_append];rfl
def oC:Option HV->List AV
 |none=>sgZ
 |some p=>sgX p.1 p.2
theorem zb8(o:Option HV):(oC o).length=36:=by cases o<;>exact z8 _ _ _ _ _
def zao(o:Option HV):AV:=.tup [.agg (oC o),.bool o.isSome]
theorem zca{h:Hdr}(hv:valH h=true):0<=h.n/\ h.n<=4096/\ h.p.length=3:=by
 obtain⟨N,I,e1,e2,b1,b2,b3,b4⟩:=zv6 hv
 omega
def splB(L:List Hash)(w p:HV):Bool:=valH p.1 && decide (p.1.n<w.1.n) && decide (z1b (L.take p.1.n.toNat) ≠ p.1.r)
def z9c(L:List Hash)(P:List HV):Option (Ev × AV × AV):=
 match z2u P with
 |some (p,q)=>some (⟨1,p.1,q.1,zeroH,[]⟩,p.2,q.2)
 |none=>match zan L P with
  |none=>none
  |some w=>match P.find? (splB L w)with
   |none=>none
   |some p=>some (⟨2,p.1,w.1,z1b (L.take p.1.n.toNat),z3c (L.take w.1.n.toNat) p.1.n⟩,p.2,w.2)
def z9d:Option (Ev × AV × AV)->AV
 |none=> .tup [.agg evO,.bool false]
 |some x=> .tup [.agg (evL x.1),.bool true]
attribute [local irreducible] ACallsTo ACallsP
theorem zdc(L:List Hash)(n:Nat):(hr L).take n=hr (L.take n):=by simp [hr,List.map_take]
theorem zmi (O : Store) (P : List HV) (v w : AV) (L : List Hash) (hv : SlV 36 (hrw P) v) (hP : HOk P) (hl : P.length < 1000000) (hw' : SlV 32 (hr L) w) (hL : L.length < 1000000) :
    ACallsTo TC 58 [v,w] O (zao (zan L P)) O:=by
  have r1:=hv.len
  rw [z15]at r1
  unfold z1i at r1
  have r2:=hw'.len
  rw [z7]at r2
  unfold z1i at r2
  have hoz:oC none=sgZ:=rfl
  refine ACallsTo.of_body q26ok (by simp) fun hw _=> ?_
  repeat' (first|apply zs_|apply zb_|apply zc_|apply zt_ rfl|apply zf_ rfl|(apply zd_ rfl<;>intro ht<;>try omega)|((first|apply zr_|apply zk_|apply ze_|apply zq_|(apply zG<;>intro ht));all_goals try simp (disch:=first|omega|(simp only [lens,z6,z7,lQr,lQm,lQt,lQd,z8,zg,zh,zi,z15];first|done|omega)) only [go_sem,r1,r2]))
  refine zW.loop (fun m J O'=>∃(i:Nat) (y:Store) (o:Option HV),m+i=P.length/\ O'=O++(some [sgZ]::some [oC o]::y)/\ o=(P.take i).foldl (z3p L) none/\ (∀k,RLs k (oC o))/\ J 1=w/\ J 4=.ptr O.length 0 0/\ J 6=.ptr (O.length+1) 0 0/\ J 7=.bool o.isSome/\ J 11=v/\ J 12=.int .i64 P.length/\ J 13=.int .i64 i) P.length ?_ ?_
  · exact⟨0,[],none,by omega,rfl,rfl,fun k=>z8d (by simp [RL]),by simp (disch:=first|omega|(simp only [lens,z6,z7,lQr,lQm,lQt,lQd,z8,zg,zh,zi,z15];first|done|omega)) only [go_sem],by simp (disch:=first|omega|(simp only [lens,z6,z7,lQr,lQm,lQt,lQd,z8,zg,zh,zi,z15];first|done|omega)) only [go_sem],by simp (disch:=first|omega|(simp only [lens,z6,z7,lQr,lQm,lQt,lQd,z8,zg,zh,zi,z15];first|done|omega)) only [go_sem],by simp (disch:=first|omega|(simp only [lens,z6,z7,lQr,lQm,lQt,lQd,z8,zg,zh,zi,z15];first|done|omega)) only [go_sem];rfl,by simp (disch:=first|omega|(simp only [lens,z6,z7,lQr,lQm,lQt,lQd,z8,zg,zh,zi,z15];first|done|omega)) only [go_sem],by simp (disch:=first|omega|(simp only [lens,z6,z7,lQr,lQm,lQt,lQd,z8,zg,zh,zi,z15];first|done|omega)) only [go_sem],by simp (disch:=first|omega|(simp only [lens,z6,z7,lQr,lQm,lQt,lQd,z8,zg,zh,zi,z15];first|done|omega)) only [go_sem];rfl⟩
  · rintro m J O' ⟨i,y,o,hm,rfl,hF,hRo,q1,q4,q6,q7,q11,q12,q13⟩
    have hol:=zb8 o
    by_cases hi:i<P.length
    · have hi':(i:Int)<P.length:=by omega
      obtain⟨ex,rfl⟩:=hv.vsl (by rw [z15];omega)
      have hgi:=zb3 hi
      have hp:=hP.at hi
      have hst:=zmh (L:=L) hi
      rw [<-hF]at hst
      have hpl:=z15 P
      generalize P[i]=p at*
      have hsl:=zg p.1 p.2
      have hzl:sgZ.length=36:=zg zHd .nilsl
      have hzd:sgZ.drop 36=[]:=zbt zHd .nilsl
      have hV:=fun O=>z78 O p.1.n p.1.i p.1.r p.1.s p.1.p p.2 (.of hp)
      have hval:valH p.1=z23 p.1.n p.1.i p.1.s p.1.p:=rfl
      have hvn:= @zca p.1
      rw [hval]at hvn
      have keep:z8y L o p=false->(P.take (i+1)).foldl (z3p L) none=o:=fun h=>by rw [hst];unfold z3p;rw [h];rfl
      have new:z8y L o p=true->(P.take (i+1)).foldl (z3p L) none=some p:=fun h=>by rw [hst];unfold z3p;rw [h];rfl
      have hrp:∀k,RLs k (oC (some p)):=fun k=>z8d (zf3 hp)
      have hoc:oC (some p)=sgX p.1 p.2:=rfl
      unfold z8y at keep new
      rw [hval]at keep new
      generalize z23 p.1.n p.1.i p.1.s p.1.p=vb at*
      cases vb with
      |false=>
        repeat' (first|apply zs_|apply zb_|apply zc_|apply zt_ rfl|apply zf_ rfl|(apply zd_ rfl<;>intro ht<;>try omega)|((first|apply zr_|apply zk_|apply ze_|apply zq_|(apply callW.mk_pu;(first|exact(fun _=>hV _)))|(apply callW.za;(first|exact(hV _)))|(apply zG<;>intro ht));all_goals try simp (disch:=first|omega|(simp only [lens,z6,z7,lQr,lQm,lQt,lQd,z8,zg,zh,zi,z15];first|done|omega)) only [go_sem,q1,q4,q6,q7,q11,q12,q13,hi',hgi,hpl,hsl,hzl,hzd,List.append_nil,r2,hol]))
        exact⟨m-1,by omega,i+1,_,o,by omega,rfl,(keep (by simp)).symm,hRo,by simp⟩
      |true=>
        obtain⟨n0,n1,_⟩:=hvn rfl
        by_cases c2:p.1.n<=L.length
        · rw [decide_eq_true c2]at keep new
          have hln:(L.take p.1.n.toNat).length<1000000:=by rw [List.length_take];omega
          have hR:=fun O x (hx:SlV 32 (hr (L.take p.1.n.toNat)) x)=>z9y O (L.take p.1.n.toNat) x (.of hx) (by omega)
          have fk:=zdc L p.1.n.toNat
          have hcase:((o=none/\ p.1.n> -1) \/ ∃q,o=some q/\ p.1.n>q.1.n) \/ ∃q,o=some q/\ ¬q.1.n<p.1.n:=by
            cases o with
            |none=>exact .inl (.inl ⟨rfl,by omega⟩)
            | some q => by_cases h : q.1.n < p.1.n
                        · exact .inl (.inr ⟨q,rfl,h⟩)
                        · exact .inr ⟨q,rfl,h⟩
          have nlL:(hr L).length=L.length:=z7 L
          rcases hcase with hc| ⟨q,rfl,h3⟩
          · have kb:∀b,(true && true && (match o with|none=>true|some w=>decide (w.1.n<p.1.n)) && b)=b:=by
              intro b
              rcases hc with⟨rfl,_⟩| ⟨q,rfl,h⟩
              · rfl
              · simp;intro h';omega
            rw [kb]at keep new
            clear kb
            generalize z1b (L.take p.1.n.toNat)=R at*
            have hsl2:∃x,SlV 32 (hr (L.take p.1.n.toNat)) x/\ ((w=.nilsl/\ x=.nilsl/\ p.1.n=0/\ L=[]) \/ ∃b b2,w=.vsl 32 (hr L) b/\ x=.vsl 32 (hr (L.take p.1.n.toNat)) b2/\ b2=(b && (p.1.n.toNat==L.length))):=by
              rcases hw' with⟨rfl,h0⟩| ⟨b,rfl⟩
              · have hLn:L=[]:=hr_nil_iff.1 h0
                subst hLn
                exact⟨.nilsl,.inl ⟨rfl,by simp [hr]⟩,.inl ⟨rfl,rfl,by simp at c2;omega,rfl⟩⟩
              · exact⟨_,.inr ⟨_,rfl⟩,.inr ⟨b,_,rfl,rfl,rfl⟩⟩
            obtain⟨x,hx,hcx⟩:=hsl2
            have hR':=fun O=>hR O x hx
            have hq0:∀q:HV,(oC (some q))[0]? =some (.int .i64 q.1.n):=fun q=>rfl
            have hod:∀o,(oC o).drop 36=[]:=fun o=>List.drop_eq_nil_of_le (by rw [zb8];omega)
            by_cases h4:R=p.1.r
            · have n2:=new (decide_eq_true h4)
              rcases hc with⟨rfl,h3⟩| ⟨q,rfl,h3⟩<;>rcases hcx with⟨rfl,rfl,e0,hL0⟩| ⟨b,b2,rfl,rfl,e0⟩
              all_goals
                repeat' (first|apply zs_|apply zb_|apply zc_|apply zt_ rfl|apply zf_ rfl|(apply zd_ rfl<;>intro ht<;>try omega)|((first|apply zr_|apply zk_|apply ze_|apply zq_|(apply callW.mk_pu;(first|exact(fun _=>hV _)|exact(fun _=>hR _ _ (.inr ⟨_,rfl⟩))|exact(fun _=>hR' _)))|(apply callW.za;(first|exact(hV _)|exact(hR _ _ (.inr ⟨_,rfl⟩))|exact(hR' _)))|(apply zG<;>intro ht));all_goals try simp (disch:=first|omega|(simp only [lens,z6,z7,lQr,lQm,lQt,lQd,z8,zg,zh,zi,z15];first|done|omega)) only [go_sem,q1,q4,q6,q7,q11,q12,q13,hi',hgi,hpl,hsl,hzl,hzd,List.append_nil,r2,hol,c2,h3,hq0,h4,fk,Option.isSome_some,Option.isSome_none,nlL,hoc,hod,zb8]))
                exact⟨m-1,by omega,i+1,_,some p,by omega,rfl,n2.symm,hrp,by simp⟩
            · have k2:=keep (decide_eq_false h4)
              rcases hc with⟨rfl,h3⟩| ⟨q,rfl,h3⟩<;>rcases hcx with⟨rfl,rfl,e0,hL0⟩| ⟨b,b2,rfl,rfl,e0⟩
              all_goals
                repeat' (first|apply zs_|apply zb_|apply zc_|apply zt_ rfl|apply zf_ rfl|(apply zd_ rfl<;>intro ht<;>try omega)|((first|apply zr_|apply zk_|apply ze_|apply zq_|(apply callW.mk_pu;(first|exact(fun _=>hV _)|exact(fun _=>hR _ _ (.inr ⟨_,rfl⟩))|exact(fun _=>hR' _)))|(apply callW.za;(first|exact(hV _)|exact(hR _ _ (.inr ⟨_,rfl⟩))|exact(hR' _)))|(apply zG<;>intro ht));all_goals try simp (disch:=first|omega|(simp only [lens,z6,z7,lQr,lQm,lQt,lQd,z8,zg,zh,zi,z15];first|done|omega)) only [go_sem,q1,q4,q6,q7,q11,q12,q13,hi',hgi,hpl,hsl,hzl,hzd,List.append_nil,r2,hol,c2,h3,hq0,h4,fk,Option.isSome_some,Option.isSome_none,nlL,hoc,hod,zb8]))
                exact⟨m-1,by omega,i+1,_,_,by omega,rfl,k2.symm,hRo,by simp⟩
          · have k2:=keep (by simp [h3])
            have h3':¬p.1.n>q.1.n:=h3
            have hq0:(oC (some q))[0]? =some (.int .i64 q.1.n):=rfl
            repeat' (first|apply zs_|apply zb_|apply zc_|apply zt_ rfl|apply zf_ rfl|(apply zd_ rfl<;>intro ht<;>try omega)|((first|apply zr_|apply zk_|apply ze_|apply zq_|(apply callW.mk_pu;(first|exact(fun _=>hV _)))|(apply callW.za;(first|exact(hV _)))|(apply zG<;>intro ht));all_goals try simp (disch:=first|omega|(simp only [lens,z6,z7,lQr,lQm,lQt,lQd,z8,zg,zh,zi,z15];first|done|omega)) only [go_sem,q1,q4,q6,q7,q11,q12,q13,hi',hgi,hpl,hsl,hzl,hzd,List.append_nil,r2,hol,c2,h3',hq0,Option.isSome_some]))
            exact⟨m-1,by omega,i+1,_,some q,by omega,rfl,k2.symm,hRo,by simp⟩
        · repeat' (first|apply zs_|apply zb_|apply zc_|apply zt_ rfl|apply zf_ rfl|(apply zd_ rfl<;>intro ht<;>try omega)|((first|apply zr_|apply zk_|apply ze_|apply zq_|(apply callW.mk_pu;(first|exact(fun _=>hV _)))|(apply callW.za;(first|exact(hV _)))|(apply zG<;>intro ht));all_goals try simp (disch:=first|omega|(simp only [lens,z6,z7,lQr,lQm,lQt,lQd,z8,zg,zh,zi,z15];first|done|omega)) only [go_sem,q1,q4,q6,q7,q11,q12,q13,hi',hgi,hpl,hsl,hzl,hzd,List.append_nil,r2,hol,c2]))
          exact⟨m-1,by omega,i+1,_,o,by omega,rfl,(keep (by simp [c2])).symm,hRo,by simp⟩
    · obtain rfl:i=P.length:=by omega
      rw [List.take_of_length_le (Nat.le_refl _)]at hF
      have hzl:sgZ.length=36:=zg zHd .nilsl
      have hzd:sgZ.drop 36=[]:=zbt zHd .nilsl
      repeat' (first|apply zs_|apply zb_|apply zc_|apply zt_ rfl|apply zf_ rfl|(apply zd_ rfl<;>intro ht<;>try omega)|((first|apply zr_|apply zk_|apply ze_|apply zq_|(apply zG<;>intro ht));all_goals try simp (disch:=first|omega|(simp only [lens,z6,z7,lQr,lQm,lQt,lQd,z8,zg,zh,zi,z15];first|done|omega)) only [go_sem,q1,q4,q6,q7,q11,q12,q13,r2,hol,hzd,List.append_nil]))
      unfold zao zan
      rw [<-hF]
      exact DownV.pure hw (by simp only [RL,RLs];exact⟨hRo _,trivial,trivial⟩)
end
section
structure Rgh where
 n:Int
 r:Hash
 i:Int
 s:List UInt8
 m:Int
 p:List Hash
structure Rev where
 k:Int
 a:Rgh
 b:Rgh
 r:Hash
 p:List Hash
def rgX(h:Rgh)(x:AV):List AV:=rgC h.n h.r h.i h.s h.m x
theorem z9s(h:Rgh)(x:AV):(rgX h x).length=37:=zt2 _ _ _ _ _ _
def rvX(e:Rev)(x y z:AV):List AV:=.int .i64 e.k::(rgX e.a x++(rgX e.b y++(hc e.r++ [z])))
section
variable (e:Rev) (x y z:AV)
theorem ztb:(rvX e x y z).length=108:=by simp [rvX,z9s,z6]
theorem zk4:(rvX e x y z).drop 1=rgX e.a x++(rgX e.b y++(hc e.r++ [z])):=rfl
theorem zk5:(rvX e x y z).drop 38=rgX e.b y++(hc e.r++ [z]):=by
 rw [show 38=1+37 from rfl,<-List.drop_drop,zk4,List.drop_left' (z9s e.a x)]
theorem zk6:(rvX e x y z).drop 75=hc e.r++ [z]:=by
 rw [show 75=38+37 from rfl,<-List.drop_drop,zk5,List.drop_left' (z9s e.b y)]
theorem zta:(rvX e x y z).drop 107=[z]:=by
 rw [show 107=75+32 from rfl,<-List.drop_drop,zk6,z4z]
@[go_sem] theorem rvX_0:(rvX e x y z)[0]? =some (.int .i64 e.k):=rfl
@[go_sem] theorem rvX_107:(rvX e x y z)[107]? =some z:=z3w (zta e x y z)
@[go_sem] theorem rvX_a:((rvX e x y z).drop 1).take 37=rgX e.a x:=by rw [zk4,List.take_left' (z9s e.a x)]
@[go_sem] theorem rvX_b:((rvX e x y z).drop 38).take 37=rgX e.b y:=by rw [zk5,List.take_left' (z9s e.b y)]
@[go_sem] theorem rvX_r:((rvX e x y z).drop 75).take 32=hc e.r:=by rw [zk6,z50]
@[go_sem] theorem rvX_all:(rvX e x y z).take 108=rvX e x y z:=List.take_of_length_le (by rw [ztb];omega)
end
attribute [local irreducible] ACallsTo ACallsP
end
section
theorem zgi{L:List Hash}{w:HV}:∀(P:List HV) (o:Option HV),P.foldl (z3p L) o=some w->o=some w \/(w ∈ P/\ valH w.1=true/\ w.1.n<=L.length)
 | [],o,h=> .inl h
 |p::P,o,h=>by
  rcases zgi P (z3p L o p) h with h1| ⟨h1,h2⟩
  ·unfold z3p at h1
   split at h1
   ·rename_i hb
    simp only [Option.some.injEq]at h1
    subst h1
    unfold z8y at hb
    simp only [Bool.and_eq_true,decide_eq_true_eq]at hb
    exact .inr ⟨List.mem_cons_self,hb.1.1.1,hb.1.1.2⟩
   ·exact .inl h1
  ·exact .inr ⟨List.mem_cons_of_mem _ h1,h2⟩
theorem zhp{a b:HV}:∀(P:List HV),z2u P=some (a,b)->a ∈ P/\ b ∈ P/\ valH a.1=true/\ valH b.1=true
 |p::P,h=>by
  unfold z2u at h
  cases hf:P.find? (z3h p)with
  |some q=>
   rw [hf]at h
   simp only [Option.some.injEq,Prod.mk.injEq]at h
   obtain⟨rfl,rfl⟩:=h
   have h1:=List.find?_some hf
   have h2:=List.mem_of_find?_eq_some hf
   unfold z3h at h1
   simp only [Bool.and_eq_true,decide_eq_true_eq]at h1
   exact⟨List.mem_cons_self,List.mem_cons_of_mem _ h2,h1.1⟩
  |none=>
   rw [hf]at h
   obtain⟨h1,h2,h3⟩:=zhp P h
   exact⟨List.mem_cons_of_mem _ h1,List.mem_cons_of_mem _ h2,h3⟩
attribute [local irreducible] ACallsTo ACallsP
theorem z48{h:Hdr}(hv:valH h=true):h.p ≠ []/\ h.p.length<1000000:=by
 have:=(zca hv).2.2
 exact⟨fun e=>by rw [e]at this;simp at this,by omega⟩
theorem zfn(O:Store)(P:List HV)(v w:AV)(L:List Hash)(hv:SlV 36 (hrw P) v)(hP:HOk P)(hl:P.length<1000000)(hw':SlV 32 (hr L) w)(hL:L.length<1000000):
  ACallsTo TC 22 [v,w] O (z9d (z9c L P)) O:=by
 have hFk:=fun O=>zoy O P v hv hP hl
 have hAn:=fun O=>zmi O P v w L hv hP hl hw' hL
 have hzl:sgZ.length=36:=zg zHd .nilsl
 have hzd:sgZ.drop 36=[]:=zbt zHd .nilsl
 have hO6:evO.drop 106=[]:=z3g _ _ _ _
 have hel:=fun e x y z=>zh e x y z
 have hed:=fun e x y z=>z3g e x y z
 have hrv:∀(k:Nat) (l:List Hash),RL k (z10 32 (hr l)):=fun k l=>zek (z2n _)
 refine ACallsTo.of_body q21ok (by simp) fun hw _=> ?_
 unfold z9c
 cases hf:z2u P with
 |some pq=>
  obtain⟨p,q⟩:=pq
  rw [hf]at hFk
  unfold zde at hFk
  obtain⟨mp,mq,vp,vq⟩:=zhp P hf
  have hOw:=fun O=>zj6 O ⟨1,p.1,q.1,zeroH,[]⟩ p.2 q.2 .nilsl (hP p mp) (hP q mq) (by simp [RL]) (z48 vp).1 (z48 vq).1 (z48 vp).2 (z48 vq).2
  have e:z9d (some (⟨1,p.1,q.1,zeroH,[]⟩,p.2,q.2))=.tup [.agg (evX ⟨1,p.1,q.1,zeroH,[]⟩ (z10 32 (hr p.1.p)) (z10 32 (hr q.1.p)) .nilsl),.bool true]:=rfl
  simp only
  rw [e]
  repeat' (first|apply zs_|apply zb_|apply zc_|apply zt_ rfl|apply zf_ rfl|(apply zd_ rfl<;>intro ht<;>try omega)|((first|apply zr_|apply zk_|apply ze_|apply zq_|(apply callW.mk_pu;(first|exact(fun _=>hFk _)|exact(fun _=>hOw _)))|(apply callW.za;(first|exact(hFk _)|exact(hOw _)))|(apply zG<;>intro ht));all_goals try simp (disch:=first|omega|(simp only [lens,z6,z7,lQr,lQm,lQt,lQd,z8,zg,zh,zi,z15];first|done|omega)) only [go_sem,zi,hO6,hel,hed,List.append_nil]))
  exact DownV.pure hw (rlE' _ (hrv _ _) (hrv _ _) (by simp [RL]) (by simp [RL]))
 |none=>
  rw [hf]at hFk
  unfold zde at hFk
  simp only
  have ev0:z9d none=.tup [.agg evO,.bool false]:=rfl
  have rO:∀k,RL k (.tup [.agg evO,.bool false]):=fun k=>rlE' evZ0 (by simp [RL]) (by simp [RL]) (by simp [RL]) (by simp [RL])
  cases ha:zan L P with
  |none=>
   rw [ha]at hAn
   have e1:zao none=.tup [.agg sgZ,.bool false]:=rfl
   rw [e1]at hAn
   simp only
   rw [ev0]
   repeat' (first|apply zs_|apply zb_|apply zc_|apply zt_ rfl|apply zf_ rfl|(apply zd_ rfl<;>intro ht<;>try omega)|((first|apply zr_|apply zk_|apply ze_|apply zq_|(apply callW.mk_pu;(first|exact(fun _=>hFk _)|exact(fun _=>hAn _)))|(apply callW.za;(first|exact(hFk _)|exact(hAn _)))|(apply zG<;>intro ht));all_goals try simp (disch:=first|omega|(simp only [lens,z6,z7,lQr,lQm,lQt,lQd,z8,zg,zh,zi,z15];first|done|omega)) only [go_sem,zi,hO6,hzl,hzd,List.append_nil]))
   exact DownV.pure hw (rO _)
  |some g=>
   rw [ha]at hAn
   have e1:zao (some g)=.tup [.agg (sgX g.1 g.2),.bool true]:=rfl
   rw [e1]at hAn
   simp only
   obtain⟨mg,vg,ng⟩:g ∈ P/\ valH g.1=true/\ g.1.n<=L.length:=by
    rcases zgi P none ha with h|h
    ·cases h
    ·exact h
   have hg:=hP g mg
   have r1:=hv.len
   rw [z15]at r1
   unfold z1i at r1
   have hgl:=zg g.1 g.2
   repeat' (first|apply zs_|apply zb_|apply zc_|apply zt_ rfl|apply zf_ rfl|(apply zd_ rfl<;>intro ht<;>try omega)|((first|apply zr_|apply zk_|apply ze_|apply zq_|(apply callW.mk_pu;(first|exact(fun _=>hFk _)|exact(fun _=>hAn _)))|(apply callW.za;(first|exact(hFk _)|exact(hAn _)))|(apply zG<;>intro ht));all_goals try simp (disch:=first|omega|(simp only [lens,z6,z7,lQr,lQm,lQt,lQd,z8,zg,zh,zi,z15];first|done|omega)) only [go_sem,zi,hO6,hzl,hzd,hgl,r1,List.append_nil]))
   refine zW.loop (fun m J O'=>∃(i:Nat) (y:Store),m+i=P.length/\ O'=O++(some [evO]::some [evO]::some [sgX g.1 g.2]::y)/\ P.find? (splB L g)=(P.drop i).find? (splB L g)/\ J 1=w/\ J 4=.ptr O.length 0 0/\ J 8=.ptr (O.length+2) 0 0/\ J 32=v/\ J 33=.int .i64 P.length/\ J 34=.int .i64 i) P.length ?_ ?_
   ·exact⟨0,[],by omega,rfl,rfl,by simp (disch:=first|omega|(simp only [lens,z6,z7,lQr,lQm,lQt,lQd,z8,zg,zh,zi,z15];first|done|omega)) only [go_sem],by simp (disch:=first|omega|(simp only [lens,z6,z7,lQr,lQm,lQt,lQd,z8,zg,zh,zi,z15];first|done|omega)) only [go_sem],by simp (disch:=first|omega|(simp only [lens,z6,z7,lQr,lQm,lQt,lQd,z8,zg,zh,zi,z15];first|done|omega)) only [go_sem],by simp (disch:=first|omega|(simp only [lens,z6,z7,lQr,lQm,lQt,lQd,z8,zg,zh,zi,z15];first|done|omega)) only [go_sem],by simp (disch:=first|omega|(simp only [lens,z6,z7,lQr,lQm,lQt,lQd,z8,zg,zh,zi,z15];first|done|omega)) only [go_sem],by simp (disch:=first|omega|(simp only [lens,z6,z7,lQr,lQm,lQt,lQd,z8,zg,zh,zi,z15];first|done|omega)) only [go_sem];rfl⟩
   ·rintro m J O' ⟨i,y,hm,rfl,hF,q1,q4,q8,q32,q33,q34⟩
    by_cases hi:i<P.length
    ·have hi':(i:Int)<P.length:=by omega
     obtain⟨ex,rfl⟩:=hv.vsl (by rw [z15];omega)
     have hgi:=zb3 hi
     have hp:=hP.at hi
     have hfd:=zhk (f:=splB L g) hi
     rw [hfd]at hF
     have hpl:=z15 P
     generalize P[i]=p at*
     have hsl:=zg p.1 p.2
     have hV:=fun O=>z78 O p.1.n p.1.i p.1.r p.1.s p.1.p p.2 (.of hp)
     have hval:valH p.1=z23 p.1.n p.1.i p.1.s p.1.p:=rfl
     have hvn:= @zca p.1
     have hvp:= @z48 p.1
     rw [show splB L g p=(valH p.1 && decide (p.1.n<g.1.n) && decide (z1b (L.take p.1.n.toNat) ≠ p.1.r))from rfl,hval]at hF
     rw [hval]at hvn hvp
     generalize z23 p.1.n p.1.i p.1.s p.1.p=vb at*
     cases vb with
     |false=>
      rw [if_neg (by simp)]at hF
      repeat' (first|apply zs_|apply zb_|apply zc_|apply zt_ rfl|apply zf_ rfl|(apply zd_ rfl<;>intro ht<;>try omega)|((first|apply zr_|apply zk_|apply ze_|apply zq_|(apply callW.mk_pu;(first|exact(fun _=>hV _)))|(apply callW.za;(first|exact(hV _)))|(apply zG<;>intro ht));all_goals try simp (disch:=first|omega|(simp only [lens,z6,z7,lQr,lQm,lQt,lQd,z8,zg,zh,zi,z15];first|done|omega)) only [go_sem,q1,q4,q8,q32,q33,q34,hi',hgi,hpl,hsl,hgl,hzl,hzd,List.append_nil]))
      exact⟨m-1,by omega,i+1,_,by omega,rfl,hF,by simp⟩
     |true=>
     by_cases c2:p.1.n<g.1.n
     ·have c2':¬p.1.n>=g.1.n:=by omega
      obtain⟨n0,n1,_⟩:=hvn rfl
      obtain⟨g0,g1,_⟩:=zca vg
      have hLn:(hr L).length=L.length:=z7 L
      obtain⟨b,rfl⟩:=hw'.vsl (by rw [z7];omega)
      have fk:=zdc L p.1.n.toNat
      have fk2:=zdc L g.1.n.toNat
      have hR:=fun O b=>z9y O (L.take p.1.n.toNat) (.vsl 32 (hr (L.take p.1.n.toNat)) b) (.of (.inr ⟨b,rfl⟩)) (by rw [List.length_take];omega)
      have hPr:=fun O b=>zm2 O (L.take g.1.n.toNat) (.vsl 32 (hr (L.take g.1.n.toNat)) b) p.1.n (.inr ⟨b,rfl⟩) (by rw [List.length_take];omega)
      generalize hRR:z1b (L.take p.1.n.toNat)=R at*
      by_cases c3:R=p.1.r
      ·have hb:(true && decide (p.1.n<g.1.n) && decide (R ≠ p.1.r))=false:=by simp [c3]
       rw [hb,if_neg (by simp)]at hF
       repeat' (first|apply zs_|apply zb_|apply zc_|apply zt_ rfl|apply zf_ rfl|(apply zd_ rfl<;>intro ht<;>try omega)|((first|apply zr_|apply zk_|apply ze_|apply zq_|(apply callW.mk_pu;(first|exact(fun _=>hV _)|exact(fun _=>hR _ _)))|(apply callW.za;(first|exact(hV _)|exact(hR _ _)))|(apply zG<;>intro ht));all_goals try simp (disch:=first|omega|(simp only [lens,z6,z7,lQr,lQm,lQt,lQd,z8,zg,zh,zi,z15];first|done|omega)) only [go_sem,q1,q4,q8,q32,q33,q34,hi',hgi,hpl,hsl,hgl,hzl,hzd,List.append_nil,c2',c3,hLn,fk]))
       exact⟨m-1,by omega,i+1,_,by omega,rfl,hF,by simp⟩
      ·have hb:(true && decide (p.1.n<g.1.n) && decide (R ≠ p.1.r))=true:=by simp [c2,c3]
       rw [hb,if_pos rfl]at hF
       rw [hF]
       simp only [hRR]
       have e:z9d (some (⟨2,p.1,g.1,R,z3c (L.take g.1.n.toNat) p.1.n⟩,p.2,g.2))=.tup [.agg (evX ⟨2,p.1,g.1,R,z3c (L.take g.1.n.toNat) p.1.n⟩ (z10 32 (hr p.1.p)) (z10 32 (hr g.1.p)) (z10 32 (hr (z3c (L.take g.1.n.toNat) p.1.n)))),.bool true]:=rfl
       rw [e]
       generalize z3c (L.take g.1.n.toNat) p.1.n=pf at*
       have hOw:=fun O=>zj6 O ⟨2,p.1,g.1,R,pf⟩ p.2 g.2 (z10 32 (hr pf)) hp hg (hrv _ _) (hvp rfl).1 (z48 vg).1 (hvp rfl).2 (z48 vg).2
       have hfz:∀(e:Ev) (x y v:AV),z1c (evX e x y v) [(105,1,z10 32 (hr pf))]=some (evX e x y (z10 32 (hr pf))):=by
        intro e x y v
        have h1:=zkp (sz:=32) (es:=hr pf)
        have h2:=zd7 e x y v (z10 32 (hr pf))
        rw [z3g]at h2
        simp only [z1c,h1,Option.bind_some,zh,z1e,List.length_cons,List.length_nil]
        rw [if_pos ⟨trivial,by omega⟩,z3g,List.append_nil,h2]
       have hrz:=hrv O.length pf
       have hO:evO=evX ⟨0,zHd,zHd,zeroH,[]⟩ .nilsl .nilsl .nilsl:=rfl
       generalize z10 32 (hr pf)=Z at*
       repeat' (first|apply zs_|apply zb_|apply zc_|apply zt_ rfl|apply zf_ rfl|(apply zd_ rfl<;>intro ht<;>try omega)|((first|apply zr_|apply zk_|apply ze_|apply zq_|(apply callW.mk_pu;(first|exact(fun _=>hV _)|exact(fun _=>hR _ _)|exact(fun _=>hPr _ _)|exact(fun _=>hOw _)))|(apply callW.za;(first|exact(hV _)|exact(hR _ _)|exact(hPr _ _)|exact(hOw _)))|(apply zG<;>intro ht));all_goals try simp (disch:=first|omega|(simp only [lens,z6,z7,lQr,lQm,lQt,lQd,z8,zg,zh,zi,z15];first|done|omega)) only [go_sem,q1,q4,q8,q32,q33,q34,hi',hgi,hpl,hsl,hgl,hzl,hzd,List.append_nil,c2',c3,hLn,fk,fk2,hfz,hO,hel,hed]))
       exact DownV.pure hw (rlE' _ (hrv _ _) (hrv _ _) hrz (by simp [RL]))
     ·have c2':p.1.n>=g.1.n:=by omega
      have hb:(true && decide (p.1.n<g.1.n) && decide (z1b (L.take p.1.n.toNat) ≠ p.1.r))=false:=by simp [c2]
      rw [hb,if_neg (by simp)]at hF
      repeat' (first|apply zs_|apply zb_|apply zc_|apply zt_ rfl|apply zf_ rfl|(apply zd_ rfl<;>intro ht<;>try omega)|((first|apply zr_|apply zk_|apply ze_|apply zq_|(apply callW.mk_pu;(first|exact(fun _=>hV _)))|(apply callW.za;(first|exact(hV _)))|(apply zG<;>intro ht));all_goals try simp (disch:=first|omega|(simp only [lens,z6,z7,lQr,lQm,lQt,lQd,z8,zg,zh,zi,z15];first|done|omega)) only [go_sem,q1,q4,q8,q32,q33,q34,hi',hgi,hpl,hsl,hgl,hzl,hzd,List.append_nil,c2']))
      exact⟨m-1,by omega,i+1,_,by omega,rfl,hF,by simp⟩
    ·obtain rfl:i=P.length:=by omega
     rw [List.drop_length]at hF
     rw [hF]
     simp only [List.find?_nil]
     rw [ev0]
     have hO:evO=evX ⟨0,zHd,zHd,zeroH,[]⟩ .nilsl .nilsl .nilsl:=rfl
     repeat' (first|apply zs_|apply zb_|apply zc_|apply zt_ rfl|apply zf_ rfl|(apply zd_ rfl<;>intro ht<;>try omega)|((first|apply zr_|apply zk_|apply ze_|apply zq_|(apply zG<;>intro ht));all_goals try simp (disch:=first|omega|(simp only [lens,z6,z7,lQr,lQm,lQt,lQd,z8,zg,zh,zi,z15];first|done|omega)) only [go_sem,q1,q4,q8,q32,q33,q34,zi,hO6,List.append_nil]))
     exact DownV.pure hw (rO _)
end
section
theorem ac_ne:z1h (shaS [0,97]) (shaS [0,98]) ≠ z1h (shaS [0,97]) (shaS [0,99]):=by decide+kernel
def lgC:List (List UInt8):=[[97],[99]]
def hdP:Hdr:=mkH logS 0 lgA
def hdQ:Hdr:=mkH logS 0 lgC
theorem zij:logS.length<1000000:=by simp [logS]
theorem zis(seed:List UInt8)(i:Nat)(M:List (List UInt8))(hi:i<8)(hM:M.length<=4096):valH (mkH seed i M)=true:=
 decide_eq_true ⟨by simp only [mkH];omega,by simp only [mkH];omega,by simp only [mkH];omega,by simp only [mkH];omega,z82 _ _ _,z9o _ _⟩
theorem z9h:valH hdP=true:=zis logS 0 lgA (by omega) (by simp [lgA])
theorem zb2:valH hdQ=true:=zis logS 0 lgC (by omega) (by simp [lgC])
theorem hdPQ:hdP.r ≠ hdQ.r:=by
 show z1b [lfH [97],lfH [98]] ≠ z1b [lfH [97],lfH [99]]
 rw [zbp,zbp]
 intro h
 have h2:=congrArg Subtype.val h
 simp only [z17,lfH,shaH]at h2
 exact ac_ne h2
theorem zpg:z3h (hdP,z10 32 (hr hdP.p)) (hdQ,z10 32 (hr hdQ.p))=true:=by
 unfold z3h
 rw [z9h,zb2]
 simp only [Bool.true_and,decide_eq_true_eq]
 exact(ord3 _ _ _ _).2 ⟨rfl,hdPQ⟩
def evPQ:Ev:=⟨1,hdP,hdQ,zeroH,[]⟩
theorem zhe:mayB evPQ=true:=by
 unfold mayB z81
 rw [show valH evPQ.a=true from z9h,show valH evPQ.b=true from zb2,if_pos (show evPQ.k=1 from rfl),decide_eq_true (show evPQ.a.n=evPQ.b.n/\ evPQ.a.r ≠ evPQ.b.r/\ evPQ.r=zeroH/\ evPQ.p=[]from⟨rfl,hdPQ,rfl,rfl⟩)]
 rfl
theorem zv7(seed:List UInt8)(dg x:Hash)(hx:z1b (keyL seed) ≠ x):verI x dg (0:Nat) (ksgS seed (0:Nat) dg.1) (z1o (keyL seed) 0) ≠ 0:=by
 have hc:chkP (hd (keyL seed) 0) (0:Nat) 8 (z1o (keyL seed) 0) x ≠ 0:=by
  obtain⟨a,b,c,d,e,f,g,h,hK⟩:=len8 (z34 seed)
  rw [hK]at hx ⊢
  rw [zen]at hx
  obtain⟨p0,_⟩:=zjb a b c d e f g h
  rw [p0,z4t 0 (by omega),if_neg]
  ·decide
  ·exact fun e=>hx (by rw [<-e];simp [z2p,hd])
 unfold verI
 rw [if_neg (by omega),if_pos (z82 _ _ _),zjl,<-zic seed 0 (by omega),if_neg hc]
 decide
theorem znh:z3r (z1b (keyL logS)) evPQ=0:=by
 unfold z3r
 rw [zhe,if_neg (by simp),if_neg,if_neg]
 ·exact fun h=>absurd h.1 (by decide)
 ·rintro(h|h)
  ·exact h (zir logS 0 lgA (by omega) (by simp [lgA]))
  ·exact h (zir logS 0 lgC (by omega) (by simp [lgC]))
theorem zng:z3r oneH evPQ=81:=by
 unfold z3r
 rw [zhe,if_neg (by simp),if_pos]
 refine .inl fun h=> ?_
 unfold z3b at h
 rw [show z23 evPQ.a.n evPQ.a.i evPQ.a.s evPQ.a.p=true from z9h,if_neg (by simp),if_neg]at h
 ·exact absurd h (by decide)
 ·exact zv7 logS _ oneH (root_g oneH rfl)
theorem chkO(k:Hash):z3r k evZ0=2:=by
 unfold z3r
 rw [show mayB evZ0=false from rfl,if_pos rfl]
theorem zie:z1b (keyL logS)=kyA:=rfl
theorem zph:mkH logS 0 (lgA.take 2)=hdP:=rfl
theorem zpi:mkH logS 0 (lgC.take 2)=hdQ:=rfl
attribute [local irreducible] ACallsTo ACallsP kyA hdP hdQ logS
theorem zpc:hc oneH=[.int .u8 1,.int .u8 0,.int .u8 0,.int .u8 0,.int .u8 0,.int .u8 0,.int .u8 0,.int .u8 0,.int .u8 0,.int .u8 0,.int .u8 0,.int .u8 0,.int .u8 0,.int .u8 0,.int .u8 0,.int .u8 0,.int .u8 0,.int .u8 0,.int .u8 0,.int .u8 0,.int .u8 0,.int .u8 0,.int .u8 0,.int .u8 0,.int .u8 0,.int .u8 0,.int .u8 0,.int .u8 0,.int .u8 0,.int .u8 0,.int .u8 0,.int .u8 0]:=rfl
theorem ztv(hw:Wf ([]:Store).length [])(τ:Store)(A B:Hdr)(ky:Hash)(e:Ev)(x y:AV)(J:Env)(q2:J 2=.bool false)(q3:J 3=.ptr 3 0 0)(q4:J 4=.ptr 4 0 0)(dτ:τ.length=5)(hk:e.k=1)
  (h3:τ[3]? =some (some [[AV.ptr 2 0 0,AV.vsl 1 [[AV.str [97]],[AV.str [98]]] true]])) (h4:τ[4]? =some (some [[AV.ptr 2 0 0,AV.vsl 1 [[AV.str [97]],[AV.str [99]]] true]]))
  (hH1:∀y,ACallsTo TC 15 [.agg [.ptr 2 0 0,.vsl 1 [[.str [97]],[.str [98]]] true],.int .i64 2,.int .i64 0] (τ++y) (.agg (hdrC A)) (τ++y))
  (hH2:∀y,ACallsTo TC 15 [.agg [.ptr 2 0 0,.vsl 1 [[.str [97]],[.str [99]]] true],.int .i64 2,.int .i64 0] (τ++y) (.agg (hdrC B)) (τ++y))
  (hRt:∀y,ACallsTo TC 18 [.ptr 2 0 0] (τ++y) (.agg (hc ky)) (τ++y))
  (hF:∀O b,ACallsTo TC 22 [.vsl 36 [hdrC A,hdrC B] b,.nilsl] O (.tup [.agg (evX e x y .nilsl),.bool true]) O)
  (hC1:∀O,ACallsTo TC 17 [.agg (hc ky),.agg (evX e x y .nilsl)] O (.int .i64 0) O)
  (hC2:∀O,ACallsTo TC 17 [.agg (hc oneH),.agg (evX e x y .nilsl)] O (.int .i64 81) O)
  (hC3:∀O,ACallsTo TC 17 [.agg (hc ky),.agg evO] O (.int .i64 2) O):
  zW TC 58 0 ze6 (endQ 0 [.t 0] (.bool true) []) J τ:=by
 have hH1':=hH1 []
 have hH2':=hH2 []
 rw [List.append_nil]at hH1' hH2'
 have la:=zo A
 have lb:=zo B
 have hel:=zh e x y .nilsl
 have hO6:evO.drop 106=[]:=z3g _ _ _ _
 have hRt0:=hRt []
 rw [List.append_nil]at hRt0
 repeat' (first|apply zs_|apply zb_|apply zc_|apply zt_ rfl|apply zf_ rfl|(apply zd_ rfl<;>intro ht<;>try omega)|((first|apply zr_|apply zk_|apply ze_|apply zq_|(apply zG<;>intro ht));all_goals try simp (disch:=first|omega|(simp only [lens,z6,z7,lQr,lQm,lQt,lQd,z8,zg,zh,zi,z15,zm];first|done|omega)) only [go_sem,h3,h4,q2,q3,q4]))
 refine callW.mk_pu2 (caps:=[]) hH1' (fun h hh=>hh.elim) ?_
 simp (disch:=first|omega|(simp only [lens,z6,z7,lQr,lQm,lQt,lQd,z8,zg,zh,zi,z15,zm];first|done|omega)) only [go_sem,h4,q4]
 refine callW.mk_pu2 (caps:=[]) hH2' (fun h hh=>hh.elim) ?_
 simp (disch:=first|omega|(simp only [lens,z6,z7,lQr,lQm,lQt,lQd,z8,zg,zh,zi,z15,zm];first|done|omega)) only [go_sem,h3,h4,q3,q4,hH1,hH2,la,lb]
 refine callW.mk_pu (caps:=[]) (fun O=>hF O _) ?_
 simp (disch:=first|omega|(simp only [lens,z6,z7,lQr,lQm,lQt,lQd,z8,zg,zh,zi,z15,zm];first|done|omega)) only [go_sem,h3,h4,q2,q3,q4,hH1,hH2,la,lb,hel,hO6,zi,List.append_nil]
 repeat' (first|apply zs_|apply zb_|apply zc_|apply zt_ rfl|apply zf_ rfl|(apply zd_ rfl<;>intro ht<;>try omega)|((first|apply zr_|apply zk_|apply ze_|apply zq_|(apply callW.mk_pu;(first|exact(fun _=>hRt _)|exact(fun _=>hC1 _)|exact(fun _=>hC2 _)|exact(fun _=>hC3 _)))|(apply callW.za;(first|exact(hRt _)|exact(hC1 _)|exact(hC2 _)|exact(hC3 _)))|(apply zG<;>intro ht));all_goals try simp (disch:=first|omega|(simp only [lens,z6,z7,lQr,lQm,lQt,lQd,z8,zg,zh,zi,z15,zm];first|done|omega)) only [go_sem,h3,h4,q2,q3,q4,hel,hk,zi,hO6,List.append_nil,<-zpc]))
 exact DownV.pure (τ:=[]) hw z1j
theorem P_head(τ:Store)(ht:τ[2]? =some (some [z1k true logS (keyL logS)]))(dτ:τ.length=5):∀y,ACallsTo TC 15 [.agg [.ptr 2 0 0,.vsl 1 [[.str [97]],[.str [98]]] true],.int .i64 2,.int .i64 0] (τ++y) (.agg (hdrC hdP)) (τ++y):=fun y=>by
 have hLs:∀s ∈ lgA,s.length<1000000:=by intro s hs;simp [lgA]at hs;rcases hs with rfl|rfl<;>simp
 have h:=zch (τ++y) 2 logS lgA true 2 0 0 rfl (by omega) (by simp [lgA]) (by rw [gapp (by omega)];exact ht) zij hLs (by simp [lgA])
 rw [zph]at h
 exact h
theorem Q_head(τ:Store)(ht:τ[2]? =some (some [z1k true logS (keyL logS)]))(dτ:τ.length=5):∀y,ACallsTo TC 15 [.agg [.ptr 2 0 0,.vsl 1 [[.str [97]],[.str [99]]] true],.int .i64 2,.int .i64 0] (τ++y) (.agg (hdrC hdQ)) (τ++y):=fun y=>by
 have hLc:∀s ∈ lgC,s.length<1000000:=by intro s hs;simp [lgC]at hs;rcases hs with rfl|rfl<;>simp
 have h:=zch (τ++y) 2 logS lgC true 2 0 0 rfl (by omega) (by simp [lgC]) (by rw [gapp (by omega)];exact ht) zij hLc (by simp [lgC])
 rw [zpi]at h
 exact h
theorem zly(A B:Hdr)(hf:z3h (A,z10 32 (hr A.p)) (B,z10 32 (hr B.p))=true)(O:Store)(b:Bool):
  ACallsTo TC 22 [.vsl 36 [hdrC A,hdrC B] b,.nilsl] O (.tup [.agg (evX ⟨1,A,B,zeroH,[]⟩ (z10 32 (hr A.p)) (z10 32 (hr B.p)) .nilsl),.bool true]) O:=by
 have hOk:HOk [(A,z10 32 (hr A.p)),(B,z10 32 (hr B.p))]:=by
  intro p hp
  simp only [List.mem_cons,List.not_mem_nil,or_false]at hp
  rcases hp with rfl|rfl
  ·exact z3l _ _
  ·exact z3l _ _
 have hF2:=zfn O [(A,z10 32 (hr A.p)),(B,z10 32 (hr B.p))] (.vsl 36 [hdrC A,hdrC B] b) .nilsl [] (.inr ⟨b,rfl⟩) hOk (by simp) (.inl ⟨rfl,rfl⟩) (by simp)
 have hfp:z9c [] [(A,z10 32 (hr A.p)),(B,z10 32 (hr B.p))]=some (⟨1,A,B,zeroH,[]⟩,z10 32 (hr A.p),z10 32 (hr B.p)):=by
  unfold z9c z2u
  rw [List.find?_cons,hf]
 rw [hfp]at hF2
 exact hF2
theorem zfm(A B:Hdr)(key:Hash)(i:Int)(hi:z3r key ⟨1,A,B,zeroH,[]⟩=i)(ha:A.p.length<1000000)(hb:B.p.length<1000000)(O:Store):
  ACallsTo TC 17 [.agg (hc key),.agg (evX ⟨1,A,B,zeroH,[]⟩ (z10 32 (hr A.p)) (z10 32 (hr B.p)) .nilsl)] O (.int .i64 i) O:=by
 rw [<-hi]
 exact zcg O key ⟨1,A,B,zeroH,[]⟩ (z10 32 (hr A.p)) (z10 32 (hr B.p)) .nilsl zkq zkq (.of (.inl ⟨rfl,rfl⟩)) ⟨ha,hb,Nat.zero_lt_succ _⟩
theorem zlw(key:Hash)(O:Store):ACallsTo TC 17 [.agg (hc key),.agg evO] O (.int .i64 2) O:=by
 have h:=zcg O key evZ0 .nilsl .nilsl .nilsl (.of (.inl ⟨rfl,rfl⟩)) (.of (.inl ⟨rfl,rfl⟩)) (.of (.inl ⟨rfl,rfl⟩)) ⟨Nat.zero_lt_succ _,Nat.zero_lt_succ _,Nat.zero_lt_succ _⟩
 rw [chkO]at h
 exact h
theorem E_own(O:Store):ACallsTo TC 17 [.agg (hc kyA),.agg (evX ⟨1,hdP,hdQ,zeroH,[]⟩ (z10 32 (hr hdP.p)) (z10 32 (hr hdQ.p)) .nilsl)] O (.int .i64 0) O:=
 zfm hdP hdQ kyA 0 (by rw [<-zie];exact znh) (z48 z9h).2 (z48 zb2).2 O
theorem E_one(O:Store):ACallsTo TC 17 [.agg (hc oneH),.agg (evX ⟨1,hdP,hdQ,zeroH,[]⟩ (z10 32 (hr hdP.p)) (z10 32 (hr hdQ.p)) .nilsl)] O (.int .i64 81) O:=
 zfm hdP hdQ oneH 81 zng (z48 z9h).2 (z48 zb2).2 O
attribute [local irreducible] ze6
theorem ztt:ACallsTo TC 11 [] [] (.bool true) []:=by
 have hMd:=fun O=>zfs O [] (strs lgA) true
 rw [show strs lgA=[[.str [97]],[.str [98]]]from rfl]at hMd
 have hF0:=fun O=>zfn O [] .nilsl .nilsl [] (.inl ⟨rfl,rfl⟩) (fun _ h=>by cases h) (by simp) (.inl ⟨rfl,rfl⟩) (by simp)
 rw [show z9d (z9c [] [])=.tup [.agg evO,.bool false]from rfl]at hF0
 have hO6:evO.drop 106=[]:=z3g _ _ _ _
 refine ACallsTo.of_body q1yok (by simp) fun hw _=> ?_
 repeat' (first|apply zs_|apply zb_|apply zc_|apply zt_ rfl|apply zf_ rfl|(apply zd_ rfl<;>intro ht<;>try omega)|((first|apply zr_|apply zk_|apply ze_|apply zq_|(apply callW.mk_pu;(first|exact(fun _=>hMd _)|exact(fun _=>hF0 _)))|(apply callW.za;(first|exact(hMd _)|exact(hF0 _)))|(apply zG<;>intro ht));all_goals try simp (disch:=first|omega|(simp only [lens,z6,z7,lQr,lQm,lQt,lQd,z8,zg,zh,zi,z15,zm];first|done|omega)) only [go_sem,zi,hO6,List.append_nil]))
 generalize hτ:([some [evO],some [[AV.ptr 2 0 0,_]],some [z1k true logS (keyL logS)],some [_],some [_]]:Store)=τ
 have ht:τ[2]? =some (some [z1k true logS (keyL logS)]):=by rw [<-hτ];rfl
 have h3:τ[3]? =some (some [[AV.ptr 2 0 0,AV.vsl 1 [[AV.str [97]],[AV.str [98]]] true]]):=by rw [<-hτ];rfl
 have h4:τ[4]? =some (some [[AV.ptr 2 0 0,AV.vsl 1 [[AV.str [97]],[AV.str [99]]] true]]):=by rw [<-hτ];rfl
 have dτ:τ.length=5:=by rw [<-hτ];rfl
 clear hτ
 have hRt:=fun y=>zl2 (τ++y) 2 logS (keyL logS) (by rw [gapp (by omega)];exact ht) (z34 _)
 rw [zie]at hRt
 exact ztv hw τ hdP hdQ kyA ⟨1,hdP,hdQ,zeroH,[]⟩ _ _ _ (by simp (disch:=first|omega|(simp only [lens,z6,z7,lQr,lQm,lQt,lQd,z8,zg,zh,zi,z15,zm];first|done|omega)) only [go_sem]) (by simp (disch:=first|omega|(simp only [lens,z6,z7,lQr,lQm,lQt,lQd,z8,zg,zh,zi,z15,zm];first|done|omega)) only [go_sem]) (by simp (disch:=first|omega|(simp only [lens,z6,z7,lQr,lQm,lQt,lQd,z8,zg,zh,zi,z15,zm];first|done|omega)) only [go_sem]) dτ rfl h3 h4 (P_head τ ht dτ) (Q_head τ ht dτ) hRt (zly hdP hdQ zpg) E_own E_one (zlw kyA)
theorem z6f(O:Store):ACallsTo TC 11 [] O (.bool true) O:=ACallsTo.frame glok ztt (by simp [RLs]) O
end
section
attribute [local irreducible] ACallsTo ACallsP
end
section
set_option maxRecDepth 10000
def q27r0:yW:=[
 yI 5 (.box (.t 2)),
 yI 6 (.mv (.v (.bool false)))]
def q27r1:yW:=[
 yM 16 0,
 yI 17 (.lenSl (.t 16)),
 yJ 18 .lss 17 .i64 2,
 yM 19 18,
 yV 20 19 false 0,
 yG 21 19 false (.lenSl (.t 20)),
 yG 22 19 false (.bin .gtr .none (.t 21) (.v (.int .i64 12))),
 yP 23 19 22,
 yM 24 23,
 yV 25 24 false 0,
 yG 26 24 false (.call (.v (.fn 10 [])) [(.t 25),(.v .nilsl)]),
 yP 27 24 26]
def q27r2:yW:=[
 yI 28 (.call (.v (.fn 11 [])) []),
 yM 6 28]
def q27c3:yX:=yq q27r2 .ret
def q27c4:yX:=.cond (.t 27) q27c3 .skip
def q27c5:yX:=yq q27r1 q27c4
def q27r6:yW:=[
 yM 29 0,
 yC 30 12 29,
 yI 7 (.alloc [.nilp,.nilsl]),
 yS 2 7 30]
def q27r7:yW:=[
 yM 31 1,
 yI 32 (.conv (.int .i64) (.t 31)),
 yM 33 0,
 yI 34 (.lenSl (.t 33)),
 yJ 35 .sub 34 .i64 1,
 yB 36 .rem 32 35,
 yI 37 (.bin .add .none (.v (.int .i64 1)) (.t 36)),
 yM 8 37]
def q27r8:yW:=[
 yM 38 0,
 yI 39 (.app 1 (.v .nilsl) (.t 38)),
 yM 9 39]
def q27r9:yW:=[
 yM 40 9,
 yM 41 1,
 yI 42 (.conv (.int .i64) (.t 41)),
 yM 43 8,
 yB 44 .rem 42 43,
 yM 45 9,
 yM 46 1,
 yI 47 (.conv (.int .i64) (.t 46)),
 yM 48 8,
 yB 49 .rem 47 48,
 yI 50 (.iaSl 1 (.t 45) (.t 49)),
 ⟨some 51,none,.rd,.load false 1 (.t 50)⟩,
 yM 52 9,
 yM 53 1,
 yI 54 (.conv (.int .i64) (.t 53)),
 yM 55 8,
 yB 56 .rem 54 55,
 yI 57 (.iaSl 1 (.t 52) (.t 56)),
 ⟨some 58,none,.rd,.load false 1 (.t 57)⟩,
 yI 59 (.lenStr (.t 58)),
 yI 60 (.minmax false (.t 59) (.v (.int .i64 100))),
 yI 61 (.slice .str (.t 51) none (some (.t 60)) none),
 yI 62 (.bin .add .none (.t 61) (.v (.str [63]))),
 yI 63 (.iaSl 1 (.t 40) (.t 44)),
 yS 1 63 62]
def q27r10:yW:=[
 yF 64 0 7,
 yL 65 false 1 64,
 yM 66 9,
 yI 67 (.build [.nilp,.nilsl] [(0,1,(.t 65)),(1,1,(.t 66))]),
 yI 10 (.alloc [.nilp,.nilsl]),
 yS 2 10 67]
def q27r11:yW:=[
 yM 68 0,
 yC 69 13 68,
 yM 11 69]
def q27r12:yW:=[
 yM 71 11,
 yM 72 8,
 yD 73 14 71 72,
 yM 70 73,
 yE 74 0 70,
 yE 75 1 70,
 yM 12 74,
 yM 13 75]
def q27r13:yW:=[
 ⟨some 76,none,.rd,.load true 2 (.t 10)⟩,
 yM 77 8,
 ⟨some 78,none,.pu,.call (.v (.fn 15 [])) [(.t 76),(.t 77),(.v (.int .i64 0))]⟩,
 ⟨some 79,none,.rd,.load true 2 (.t 7)⟩,
 yM 80 0,
 yI 81 (.lenSl (.t 80)),
 ⟨some 82,none,.pu,.call (.v (.fn 15 [])) [(.t 79),(.t 81),(.v (.int .i64 1))]⟩,
 yM 83 11,
 yM 84 8,
 yI 85 (.slice (.sl 32) (.t 83) none (some (.t 84)) none),
 ⟨some 86,none,.pu,.call (.v (.fn 16 [])) [(.t 85)]⟩,
 yM 87 12,
 yI 88 (.build evO [(0,1,(.v (.int .i64 2))),(1,36,(.t 78)),(37,36,(.t 82)),(73,32,(.t 86)),(105,1,(.t 87))]),
 ⟨some 14,none,.ef,.alloc evO⟩,
 yS 106 14 88]
def q27r14:yW:=[
 yF 89 0 5,
 yL 90 false 1 89,
 yJ 91 .rem 90 .u8 7]
def q27r15:yW:=[
 yJ 93 .eql 91 .u8 1,
 yM 92 93]
def q27r16:yW:=[
 yM 95 11,
 yF 96 1 5,
 yL 97 false 1 96,
 yI 98 (.conv (.int .i64) (.t 97)),
 yM 99 0,
 yI 100 (.lenSl (.t 99)),
 yB 101 .rem 98 100,
 yI 102 (.bin .add .none (.v (.int .i64 1)) (.t 101)),
 yD 103 14 95 102,
 yM 94 103,
 yE 104 0 94,
 yE 105 1 94,
 yF 106 105 14,
 yS 1 106 104]
def q27r17:yW:=[
 yJ 108 .eql 91 .u8 2,
 yM 107 108]
def q27r18:yW:=[
 yF 109 1 5,
 ⟨some 110,none,.rd,.load false 1 (.t 109)⟩,
 yJ 111 .rem 110 .u8 32,
 yF 112 73 14,
 yI 113 (.iaArr 32 1 (.t 112) (.t 111)),
 ⟨some 114,none,.rd,.load false 1 (.t 113)⟩,
 yF 115 2 5,
 ⟨some 116,none,.rd,.load false 1 (.t 115)⟩,
 yB 117 .xor 114 116,
 yF 118 73 14,
 yI 119 (.iaArr 32 1 (.t 118) (.t 111)),
 yS 1 119 117]
def q27r19:yW:=[
 yJ 121 .eql 91 .u8 3,
 yM 120 121]
def q27r20:yW:=[
 yF 122 105 14,
 yL 123 false 1 122,
 yI 124 (.lenSl (.t 123)),
 yJ 125 .gtr 124 .i64 0]
def q27r21:yW:=[
 yF 126 105 14,
 ⟨some 127,none,.rd,.load false 1 (.t 126)⟩,
 yF 128 1 5,
 ⟨some 129,none,.rd,.load false 1 (.t 128)⟩,
 yI 130 (.conv (.int .i64) (.t 129)),
 yF 131 105 14,
 ⟨some 132,none,.rd,.load false 1 (.t 131)⟩,
 yI 133 (.lenSl (.t 132)),
 yB 134 .rem 130 133,
 yF 135 1 5,
 ⟨some 136,none,.rd,.load false 1 (.t 135)⟩,
 yJ 137 .rem 136 .u8 32,
 yI 138 (.iaSl 32 (.t 127) (.t 134)),
 yI 139 (.iaArr 32 1 (.t 138) (.t 137)),
 ⟨some 140,none,.rd,.load false 1 (.t 139)⟩,
 yF 141 2 5,
 ⟨some 142,none,.rd,.load false 1 (.t 141)⟩,
 yB 143 .xor 140 142,
 yI 144 (.iaSl 32 (.t 127) (.t 134)),
 yI 145 (.iaArr 32 1 (.t 144) (.t 137)),
 yS 1 145 143]
def q27c22:yX:=.cond (.t 125) (.reg q27r21) .skip
def q27c23:yX:=yq q27r20 q27c22
def q27r24:yW:=[
 yJ 147 .eql 91 .u8 4,
 yM 146 147]
def q27r25:yW:=[
 yF 148 37 14,
 yL 149 true 36 148,
 yF 150 1 14,
 yL 151 true 36 150,
 yF 152 1 14,
 yS 36 152 149,
 yF 153 37 14,
 yS 36 153 151]
def q27r26:yW:=[
 yJ 155 .eql 91 .u8 5,
 yM 154 155]
def q27r27:yW:=[
 yF 156 2 5,
 yL 157 false 1 156,
 yI 158 (.conv (.int .i64) (.t 157)),
 yJ 159 .rem 158 .i64 4,
 yF 160 0 14,
 yS 1 160 159]
def q27r28:yW:=[
 yJ 162 .eql 91 .u8 6,
 yM 161 162]
def q27r29:yW:=[
 yF 163 1 14,
 yF 164 33 163,
 yF 165 1 164,
 yL 166 false 1 165,
 yI 167 (.conv .bytes (.t 166)),
 yM 15 167]
def q27r30:yW:=[
 yM 168 15,
 yI 169 (.lenSl (.t 168)),
 yJ 170 .gtr 169 .i64 0]
def q27r31:yW:=[
 yM 171 15,
 yF 172 1 5,
 ⟨some 173,none,.rd,.load false 1 (.t 172)⟩,
 yI 174 (.conv (.int .i64) (.t 173)),
 yM 175 15,
 yI 176 (.lenSl (.t 175)),
 yB 177 .rem 174 176,
 yI 178 (.iaSl 1 (.t 171) (.t 177)),
 ⟨some 179,none,.rd,.load false 1 (.t 178)⟩,
 yF 180 2 5,
 ⟨some 181,none,.rd,.load false 1 (.t 180)⟩,
 yB 182 .xor 179 181,
 yI 183 (.iaSl 1 (.t 171) (.t 177)),
 yS 1 183 182]
def q27c32:yX:=.cond (.t 170) (.reg q27r31) .skip
def q27c33:yX:=yq q27r30 q27c32
def q27r34:yW:=[
 yM 184 15,
 yI 185 (.conv .str (.t 184)),
 yF 186 1 14,
 yF 187 33 186,
 yF 188 1 187,
 yS 1 188 185]
def q27c35:yX:=.seq q27c33 (.reg q27r34)
def q27c36:yX:=yq q27r29 q27c35
def q27c37:yX:=.cond (.t 161) q27c36 .skip
def q27c38:yX:=yq q27r28 q27c37
def q27c39:yX:=.cond (.t 154) (.reg q27r27) q27c38
def q27c40:yX:=yq q27r26 q27c39
def q27c41:yX:=.cond (.t 146) (.reg q27r25) q27c40
def q27c42:yX:=yq q27r24 q27c41
def q27c43:yX:=.cond (.t 120) q27c23 q27c42
def q27c44:yX:=yq q27r19 q27c43
def q27c45:yX:=.cond (.t 107) (.reg q27r18) q27c44
def q27c46:yX:=yq q27r17 q27c45
def q27c47:yX:=.cond (.t 92) (.reg q27r16) q27c46
def q27c48:yX:=yq q27r15 q27c47
def q27c49:yX:=.block 0 q27c48
def q27c50:yX:=yq q27r14 q27c49
def q27r51:yW:=[
 yF 189 0 7,
 ⟨some 190,none,.rd,.load false 1 (.t 189)⟩,
 ⟨some 191,none,.ef,.call (.v (.fn 18 [])) [(.t 190)]⟩,
 ⟨some 192,none,.rd,.load true 106 (.t 14)⟩,
 ⟨some 193,none,.ef,.call (.v (.fn 17 [])) [(.t 191),(.t 192)]⟩,
 yF 194 0 7,
 ⟨some 195,none,.rd,.load false 1 (.t 194)⟩,
 ⟨some 196,none,.ef,.call (.v (.fn 18 [])) [(.t 195)]⟩,
 ⟨some 197,none,.rd,.load true 106 (.t 14)⟩,
 yD 198 19 196 197,
 yB 199 .eql 193 198,
 yM 200 199,
 yG 201 200 true (.call (.v (.fn 11 [])) []),
 yQ 202 200 201,
 yM 6 202]
def ze7:ACode:=.seq (.reg q27r51) .ret
def ze8:ACode:=.seq q27c50 ze7
def ze9:ACode:=.seq (.reg q27r13) ze8
def q27c55:yX:=yq q27r12 ze9
def q27c56:yX:=yq q27r11 q27c55
def q27c57:yX:=yq q27r10 q27c56
def q27c58:yX:=yq q27r9 q27c57
def q27c59:yX:=yq q27r8 q27c58
def q27c60:yX:=yq q27r7 q27c59
def q27c61:yX:=yq q27r6 q27c60
def q27c62:yX:=.seq q27c5 q27c61
def q27c63:yX:=yq q27r0 q27c62
attribute [go_sem] q27r0 q27r1 q27r2 q27r6 q27r7 q27r8 q27r9 q27r10 q27r11 q27r12 q27r13 q27r14 q27r15 q27r16 q27r17 q27r18 q27r19 q27r20 q27r21 q27r24 q27r25 q27r26 q27r27 q27r28 q27r29 q27r30 q27r31 q27r34 q27r51
theorem q27ok:cFn TC 3=some (203,[.t 6],q27c63):=by kernel_rfl
end
section
attribute [local irreducible] ACallsTo ACallsP
end
section
def nwV:Option Hdr->AV
 |none=> .nilsl
 |some h=> .vsl 36 [hdrC h] true
def fdV:Option (Hdr × Hdr)->AV
 |none=> .nilsl
 |some f=> .vsl 106 [evC 1 f.1 f.2] true
def raC(key:Hash)(nw fv:AV):List AV:=hc key++ [nw,fv]
@[go_sem] theorem raC_len (key:Hash) (nw fv:AV):(raC key nw fv).length=34:=by simp [raC,z6]
theorem zed(key:Hash)(nw fv:AV):(raC key nw fv).drop 32=[nw,fv]:=z4z key _
@[go_sem] theorem zsi (key:Hash) (nw fv:AV):(raC key nw fv).take 32=hc key:=z50 key _
@[go_sem] theorem raC_32 (key:Hash) (nw fv:AV):(raC key nw fv)[32]? =some nw:=z3w (zed key nw fv)
@[go_sem] theorem raC_33 (key:Hash) (nw fv:AV):(raC key nw fv)[33]? =some fv:=by
 have h:(raC key nw fv).drop 33=[fv]:=by rw [show 33=32+1 from rfl,<-List.drop_drop,zed];rfl
 exact z3w h
@[go_sem] theorem raC_set32 (key:Hash) (nw fv b:AV):(raC key nw fv).take 32++b::(raC key nw fv).drop 33=raC key b fv:=by
 rw [zsi,show 33=32+1 from rfl,<-List.drop_drop,zed];rfl
@[go_sem] theorem raC_set33 (key:Hash) (nw fv b:AV):(raC key nw fv).take 33++b::(raC key nw fv).drop 34=raC key nw b:=by
 have e:raC key nw fv=(hc key++ [nw])++ [fv]:=by simp [raC]
 rw [e,List.take_left' (by simp [z6]),List.drop_eq_nil_of_le (by simp [z6])];simp [raC]
def RaIs(O:Store)(r:Nat)(key:Hash)(now:Option Hdr)(fd:Option (Hdr × Hdr)):Prop:=O[r]? =some (some [raC key (nwV now) (fdV fd)])
def RHeadP(O:Store)(r:Nat)(key:Hash)(now:Option Hdr)(fd:Option (Hdr × Hdr))(s:Hdr)(pf:List Hash)(a:AV)(O':Store):Prop:=
 a=.int .i64 (adE key now s pf)/\ Fr O O' [r] [r]/\ RaIs O' r key (adN key now s pf) (adF key now fd s pf)
theorem RHeadP.ok{O O':Store}{r:Nat}{key:Hash}{now now':Option Hdr}{fd fd':Option (Hdr × Hdr)}{s:Hdr}{pf:List Hash}{e:Int}(he:adE key now s pf=e)(hn:adN key now s pf=now')(hf:adF key now fd s pf=fd')
  (hg:O'[r]? =some (some [raC key (nwV now') (fdV fd')])) (hle:O.length<=O'.length) (hst:∀j,j<O.length->j ≠ r->O'[j]? =O[j]?):RHeadP O r key now fd s pf (.int .i64 e) O':=by
 refine⟨by rw [he],⟨fun j hj hn=>hst j hj fun e=>hn (by simp [e]),fun j hj=> .inl hj,hle⟩,?_⟩
 unfold RaIs
 rw [hn,hf];exact hg
theorem RHeadP.ext{O O':Store}{r:Nat}{key:Hash}{now:Option Hdr}{fd:Option (Hdr × Hdr)}{s:Hdr}{pf:List Hash}{e:Int}(hT:RaIs O r key now fd)(he:adE key now s pf=e)(h:e ≠ 1/\ e ≠ 2/\ e ≠ 6)(hx:Ext O O'):RHeadP O r key now fd s pf (.int .i64 e) O':=by
 have d:=slen hT
 have hn:adN key now s pf=now:=by unfold adN;rw [he,if_neg (by omega)]
 have hf:adF key now fd s pf=fd:=by unfold adF;rw [he,if_neg h.2.2]
 refine .ok he hn hf ?_ hx.le fun j hj _=> ?_
 ·obtain⟨y,rfl⟩:=hx
  rw [gapp d];exact hT
 ·obtain⟨y,rfl⟩:=hx
  exact gapp hj
theorem RHeadP.is{O:Store}{r:Nat}{key:Hash}{now:Option Hdr}{fd:Option (Hdr × Hdr)}{s:Hdr}{pf:List Hash}(hT:RaIs O r key now fd):∃a O',RHeadP O r key now fd s pf a O':=
 ⟨_,O.set r (some [raC key (nwV (adN key now s pf)) (fdV (adF key now fd s pf))]),.ok rfl rfl rfl (z31 (slen hT)) (by simp) fun j hj hjr=>z1g fun e=>hjr e.symm⟩
attribute [local irreducible] ACallsTo ACallsP
end
section

end
section
theorem zhc(k:Int)(a b:Hdr):(evC k a b).drop 1=hdrC a++(hdrC b++(hc zeroH++ [.nilsl])):=rfl
theorem zd4(k:Int)(a b:Hdr):(evC k a b).drop 37=hdrC b++(hc zeroH++ [.nilsl]):=by
 rw [show 37=1+36 from rfl,<-List.drop_drop,zhc,List.drop_left' (zo a)]
theorem zd5(k:Int)(a b:Hdr):(evC k a b).drop 73=hc zeroH++ [.nilsl]:=by
 rw [show 73=37+36 from rfl,<-List.drop_drop,zd4,List.drop_left' (zo b)]
theorem znz(k:Int)(a b:Hdr):(evC k a b).drop 105=[.nilsl]:=by
 rw [show 105=73+32 from rfl,<-List.drop_drop,zd5,z4z]
@[go_sem] theorem evC_0 (k:Int) (a b:Hdr):(evC k a b)[0]? =some (.int .i64 k):=rfl
@[go_sem] theorem evC_105 (k:Int) (a b:Hdr):(evC k a b)[105]? =some .nilsl:=z3w (znz k a b)
@[go_sem] theorem evC_old (k:Int) (a b:Hdr):((evC k a b).drop 1).take 36=hdrC a:=by rw [zhc,List.take_left' (zo a)]
@[go_sem] theorem evC_new (k:Int) (a b:Hdr):((evC k a b).drop 37).take 36=hdrC b:=by rw [zd4,List.take_left' (zo b)]
@[go_sem] theorem evC_root (k:Int) (a b:Hdr):((evC k a b).drop 73).take 32=hc zeroH:=by rw [zd5,z50]
@[go_sem] theorem evC_all (k:Int) (a b:Hdr):(evC k a b).take 106=evC k a b:=List.take_of_length_le (by rw [zhd];omega)
@[go_sem] theorem evC_set1 (k:Int) (a b c:Hdr):(evC k a b).take 1++(hdrC c++(evC k a b).drop 37)=evC k c b:=by rw [zd4];rfl
@[go_sem] theorem evC_set37 (k:Int) (a b c:Hdr):(evC k a b).take 37++(hdrC c++(evC k a b).drop 73)=evC k a c:=by
 rw [zd5]
 have e:evC k a b=(.int .i64 k::hdrC a)++(hdrC b++(hc zeroH++ [.nilsl])):=by simp [evC]
 rw [e,List.take_left' (by simp [zo])];simp [evC]
attribute [local irreducible] ACallsTo ACallsP
end
section
def z7f(L:List (List UInt8)):Bool:=L.any (fun s=>decide (200<s.length)) ||decide (30<L.length)
def TxIs(O:Store)(L:List (List UInt8))(y:AV):Prop:=(∃ex,y=.vsl 1 (strs L) ex) \/ ∃q,y=.sl q 0 L.length none 1/\ O[q]? =some (some (strs L))
theorem TxIs.app{O:Store}{L:List (List UInt8)}{y:AV}(h:TxIs O L y)(z:Store):TxIs (O++z) L y:=by
 rcases h with h| ⟨q,h,hg⟩
 ·exact .inl h
 ·exact .inr ⟨q,h,by rw [gapp (slen hg)];exact hg⟩
theorem TxIs.cells{O:Store}{L:List (List UInt8)}{y:AV}(h:TxIs O L y):cellsOf y=some [y]:=by
 rcases h with⟨ex,rfl⟩| ⟨q,rfl,_⟩<;>rfl
theorem TxIs.len{O:Store}{L:List (List UInt8)}{y:AV}(h:TxIs O L y):z1i y=some (.int .i64 L.length):=by
 rcases h with⟨ex,rfl⟩| ⟨q,rfl,_⟩
 ·show some (AV.int .i64 ((strs L).length:Nat))=_
  rw [zm]
 ·rfl
attribute [local irreducible] ACallsTo ACallsP
theorem zlt(O:Store)(L:List (List UInt8))(y:AV)(hy:SlV 1 (strs L) y)(hl:L.length<9223372036854775808):ACallsTo TC 10 [y,.nilsl] O (.bool (z7f L)) O:=by
 have r1:=hy.len
 rw [zm]at r1
 unfold z1i at r1
 refine ACallsTo.of_body q1xok (by simp) fun hw _=> ?_
 repeat' (first|apply zs_|apply zb_|apply zc_|apply zt_ rfl|apply zf_ rfl|(apply zd_ rfl<;>intro ht<;>try omega)|((first|apply zr_|apply zk_|apply ze_|apply zq_|(apply zG<;>intro ht));all_goals try simp (disch:=first|omega|(simp only [lens,z6,z7,lQr,lQm,lQt,lQd,z8,zm,zn,zo];first|done|omega)) only [go_sem,r1]))
 refine zW.loop (fun m J O'=>O'=O/\ J 0=y/\ J 1=.nilsl/\ J 5=.int .i64 0) 0 ?_ ?_
 ·exact⟨rfl,by simp (disch:=first|omega|(simp only [lens,z6,z7,lQr,lQm,lQt,lQd,z8,zm,zn,zo];first|done|omega)) only [go_sem],by simp (disch:=first|omega|(simp only [lens,z6,z7,lQr,lQm,lQt,lQd,z8,zm,zn,zo];first|done|omega)) only [go_sem],by simp (disch:=first|omega|(simp only [lens,z6,z7,lQr,lQm,lQt,lQd,z8,zm,zn,zo];first|done|omega)) only [go_sem]⟩
 rintro m J O' ⟨rfl,q0,q1,q5⟩
 repeat' (first|apply zs_|apply zb_|apply zc_|apply zt_ rfl|apply zf_ rfl|(apply zd_ rfl<;>intro ht<;>try omega)|((first|apply zr_|apply zk_|apply ze_|apply zq_|(apply zG<;>intro ht));all_goals try simp (disch:=first|omega|(simp only [lens,z6,z7,lQr,lQm,lQt,lQd,z8,zm,zn,zo];first|done|omega)) only [go_sem,q0,q1,q5,r1]))
 refine zW.loop (fun m J O2=>∃i:Nat,m+i=L.length/\ O2=O'/\ (L.take i).any (fun s=>decide (200<s.length))=false/\ J 0=y/\ J 1=.nilsl/\ J 6=.int .i64 i) L.length ?_ ?_
 ·exact⟨0,by omega,rfl,by simp,by simp (disch:=first|omega|(simp only [lens,z6,z7,lQr,lQm,lQt,lQd,z8,zm,zn,zo];first|done|omega)) only [go_sem,q0],by simp (disch:=first|omega|(simp only [lens,z6,z7,lQr,lQm,lQt,lQd,z8,zm,zn,zo];first|done|omega)) only [go_sem,q1],by simp (disch:=first|omega|(simp only [lens,z6,z7,lQr,lQm,lQt,lQd,z8,zm,zn,zo];first|done|omega)) only [go_sem];rfl⟩
 ·rintro m J O2 ⟨i,hm,rfl,ht,q0,q1,q6⟩
  by_cases hi:i<L.length
  ·obtain⟨ex,rfl⟩:=hy.vsl (by rw [zm];omega)
   have hg:=zc0 hi
   rw [show L.getD i []=stD L i from rfl]at hg
   by_cases h2:200<(stD L i).length
   ·have hb:z7f L=true:=by
     unfold z7f
     rw [List.any_eq_true.2 ⟨stD L i,zby hi,decide_eq_true h2⟩];rfl
    rw [hb]
    have h2':((stD L i).length:Int)>200:=by omega
    repeat' (first|apply zs_|apply zb_|apply zc_|apply zt_ rfl|apply zf_ rfl|(apply zd_ rfl<;>intro ht<;>try omega)|((first|apply zr_|apply zk_|apply ze_|apply zq_|(apply zG<;>intro ht));all_goals try simp (disch:=first|omega|(simp only [lens,z6,z7,lQr,lQm,lQt,lQd,z8,zm,zn,zo];first|done|omega)) only [go_sem,q0,q1,q6,hg,r1,h2']))
    exact DownV.same hw z1j
   ·have h2':¬((stD L i).length:Int)>200:=by omega
    have ht2:(L.take (i+1)).any (fun s=>decide (200<s.length))=false:=by
     rw [zfc hi,List.any_append,ht]
     simp [h2]
     try omega
    repeat' (first|apply zs_|apply zb_|apply zc_|apply zt_ rfl|apply zf_ rfl|(apply zd_ rfl<;>intro ht<;>try omega)|((first|apply zr_|apply zk_|apply ze_|apply zq_|(apply zG<;>intro ht));all_goals try simp (disch:=first|omega|(simp only [lens,z6,z7,lQr,lQm,lQt,lQd,z8,zm,zn,zo];first|done|omega)) only [go_sem,q0,q1,q6,hg,r1,h2']))
    exact⟨m-1,by omega,i+1,by omega,ht2,by simp⟩
  ·obtain rfl:i=L.length:=by omega
   rw [List.take_of_length_le (Nat.le_refl _)]at ht
   unfold z7f
   rw [ht,Bool.false_or]
   by_cases h6:30<L.length
   ·rw [decide_eq_true h6]
    have h6':(L.length:Int)>30:=by omega
    repeat' (first|apply zs_|apply zb_|apply zc_|apply zt_ rfl|apply zf_ rfl|(apply zd_ rfl<;>intro ht<;>try omega)|((first|apply zr_|apply zk_|apply ze_|apply zq_|(apply zG<;>intro ht));all_goals try simp (disch:=first|omega|(simp only [lens,z6,z7,lQr,lQm,lQt,lQd,z8,zm,zn,zo];first|done|omega)) only [go_sem,q0,q1,q6,r1,h6']))
    exact DownV.same hw z1j
   ·rw [decide_eq_false h6]
    have h6':¬(L.length:Int)>30:=by omega
    repeat' (first|apply zs_|apply zb_|apply zc_|apply zt_ rfl|apply zf_ rfl|(apply zd_ rfl<;>intro ht<;>try omega)|((first|apply zr_|apply zk_|apply ze_|apply zq_|(apply zG<;>intro ht));all_goals try simp (disch:=first|omega|(simp only [lens,z6,z7,lQr,lQm,lQt,lQd,z8,zm,zn,zo];first|done|omega)) only [go_sem,q0,q1,q6,r1,h6']))
    exact DownV.same hw z1j
theorem zlu(O:Store)(L:List (List UInt8))(q n:Nat)(lim:Option Nat)(hq:O[q]? =some (some (strs L)))(hn:n<=L.length)(hL:∀s ∈ L,s.length<1000000)(hl:L.length<1000000):ACallsTo TC 13 [.sl q 0 n lim 1] O (z10 32 (hr (lvs (L.take n)))) O:=by
 have dq:=slen hq
 have l1:=zm L
 refine ACallsTo.of_body q1wok (by simp) fun hw _=> ?_
 repeat' (first|apply zs_|apply zb_|apply zc_|apply zt_ rfl|apply zf_ rfl|(apply zd_ rfl<;>intro ht<;>try omega)|((first|apply zr_|apply zk_|apply ze_|apply zq_|(apply zG<;>intro ht));all_goals try simp (disch:=first|omega|(simp only [lens,z6,z7,lQr,lQm,lQt,lQd,z8,zm,zn,zo];first|done|omega)) only [go_sem]))
 refine zW.loop (fun m J O'=>∃(i:Nat) (v:AV),m+i=n/\ OwnN 32 O O' v (hr (lvs (L.take i)))/\ J 0=.sl q 0 n lim 1/\ J 3=v/\ J 4=.int .i64 i) n ?_ ?_
 ·refine⟨0,.nilsl,by omega,?_,by simp (disch:=first|omega|(simp only [lens,z6,z7,lQr,lQm,lQt,lQd,z8,zm,zn,zo];first|done|omega)) only [go_sem],by simp (disch:=first|omega|(simp only [lens,z6,z7,lQr,lQm,lQt,lQd,z8,zm,zn,zo];first|done|omega)) only [go_sem],by simp (disch:=first|omega|(simp only [lens,z6,z7,lQr,lQm,lQt,lQd,z8,zm,zn,zo];first|done|omega)) only [go_sem];rfl⟩
  exact⟨[],by simp,.inl ⟨by simp [lvs,hr],rfl⟩⟩
 ·rintro m J O' ⟨i,v,hm,hO,q0,q3,q4⟩
  by_cases hi:i<n
  ·have hg:=zc0 (show i<L.length by omega)
   have hq':O'[q]? =some (some (strs L)):=by
    obtain⟨y,rfl⟩:=hO.ext
    rw [gapp dq];exact hq
   have hLf:=fun O=>zjo O (stD L i) (by have:=hL _ (zby (L:=L) (i:=i) (by omega));omega)
   obtain⟨v',O2,ha,hO2⟩:=hO.app (ys:=[hc (lfH (stD L i))]) (by simp) (by rw [z7,zn,List.length_take];simp;omega)
   have hcat:hr (lvs (L.take i))++ [hc (lfH (stD L i))]=hr (lvs (L.take (i+1))):=by rw [zfc (by omega)];simp [lvs,hr]
   rw [hcat]at hO2
   rw [show L.getD i []=stD L i from rfl]at hg
   generalize stD L i=s at*
   repeat' (first|apply zs_|apply zb_|apply zc_|apply zt_ rfl|apply zf_ rfl|(apply zd_ rfl<;>intro ht<;>try omega)|((first|apply zr_|apply zk_|apply ze_|apply zq_|(apply callW.mk_pu;(first|exact(fun _=>hLf _)))|(apply callW.za;(first|exact(hLf _)))|(apply zG<;>intro ht));all_goals try simp (disch:=first|omega|(simp only [lens,z6,z7,lQr,lQm,lQt,lQd,z8,zm,zn,zo];first|done|omega)) only [go_sem,q0,q3,q4,hg,hq',l1,ha]))
   exact⟨m-1,by omega,i+1,v',by omega,hO2,by simp⟩
  ·obtain rfl:i=n:=by omega
   repeat' (first|apply zs_|apply zb_|apply zc_|apply zt_ rfl|apply zf_ rfl|(apply zd_ rfl<;>intro ht<;>try omega)|((first|apply zr_|apply zk_|apply ze_|apply zq_|(apply zG<;>intro ht));all_goals try simp (disch:=first|omega|(simp only [lens,z6,z7,lQr,lQm,lQt,lQd,z8,zm,zn,zo];first|done|omega)) only [go_sem,q0,q3,q4]))
   exact hO.froze hw (z2n _)
theorem zlv(O:Store)(t q:Nat)(seed:List UInt8)(L:List (List UInt8))(n k:Nat)(a:Int)(hk:z1a .and .i64 a 7=some (.int .i64 (k:Nat)))(hk8:k<8)(hn:n<=L.length)(ht:O[t]? =some (some [z1k true seed (keyL seed)]))(hq:O[q]? =some (some (strs L)))(hs:seed.length<1000000)(hL:∀s ∈ L,s.length<1000000)(hl:L.length<1000000):
  ACallsTo TC 15 [.agg [.ptr t 0 0,.sl q 0 L.length none 1],.int .i64 n,.int .i64 a] O (.agg (hdrC (mkH seed k (L.take n)))) O:=by
 have d:=slen ht
 have dq:=slen hq
 have hLv:=fun y lim=>zlu (O++y) L q n lim (by rw [gapp dq];exact hq) hn hL hl
 have hRt:=fun O=>zej O (lvs (L.take n)) (z10 32 (hr (lvs (L.take n)))) (.of (z3l _ _)) (by rw [zn,List.length_take];omega)
 have hD:=fun O=>zeg O (n:Int) (z1b (lvs (L.take n)))
 have hS:=fun y=>zl3 (O++y) t seed (keyL seed) k (digH n (z1b (lvs (L.take n)))) (by rw [gapp d];exact ht) (z34 seed) hk8 hs
 have hm:hdrC (mkH seed k (L.take n))=sgC n (z1b (lvs (L.take n))) k (ksgS seed k (digH n (z1b (lvs (L.take n)))).1) (z10 32 (hr (z1o (keyL seed) k))):=by
  unfold mkH hdrC
  simp only [List.length_take,Nat.min_eq_left hn]
 rw [hm]
 have hrl:RLs O.length (sgC n (z1b (lvs (L.take n))) k (ksgS seed k (digH n (z1b (lvs (L.take n)))).1) (z10 32 (hr (z1o (keyL seed) k)))):=z8d (zek (z2n _))
 unfold zbs at hS
 generalize z1b (lvs (L.take n))=R at*
 generalize hsig:ksgS seed k (digH n R).1=sig at*
 generalize z1o (keyL seed) k=PH at*
 generalize digH n R=dg at*
 refine ACallsTo.of_body q1vok (by simp) fun hw _=> ?_
 repeat' (first|apply zs_|apply zb_|apply zc_|apply zt_ rfl|apply zf_ rfl|(apply zd_ rfl<;>intro ht<;>try omega)|((first|apply zr_|apply zk_|apply ze_|apply zq_|(apply callW.mk_pu;(first|exact(fun _=>hLv _ _)|exact(fun _=>hRt _)|exact(fun _=>hD _)))|(apply callW.za;(first|exact(hLv _ _)|exact(hRt _)|exact(hD _)))|(apply zG<;>intro ht));all_goals try simp (disch:=first|omega|(simp only [lens,z6,z7,lQr,lQm,lQt,lQd,z8,zm,zn,zo];first|done|omega)) only [go_sem,hk,Int.toNat_natCast,z8h]))
 refine callW.mk_pu2 (caps:=[]) (hS _) (fun h hh=>hh.elim) ?_
 simp (disch:=first|omega|(simp only [lens,z6,z7,lQr,lQm,lQt,lQd,z8,zm,zn,zo];first|done|omega)) only [go_sem,hS,List.append_nil,z8h]
 repeat' (first|apply zs_|apply zb_|apply zc_|apply zt_ rfl|apply zf_ rfl|(apply zd_ rfl<;>intro ht<;>try omega)|((first|apply zr_|apply zk_|apply ze_|apply zq_|(apply zG<;>intro ht));all_goals try simp (disch:=first|omega|(simp only [lens,z6,z7,lQr,lQm,lQt,lQd,z8,zm,zn,zo];first|done|omega)) only [go_sem,z8h]))
 have e:∀(Z:List AV),Z.length=36->sgC n R k sig (z10 32 (hr PH))++(List.drop 36 (sgC n R 0 [] AV.nilsl)++List.drop (36+(List.drop 36 (sgC n R 0 [] AV.nilsl)).length) Z)=sgC n R k sig (z10 32 (hr PH)):=by
  intro Z hZ
  rw [zev,List.nil_append,List.drop_eq_nil_of_le (by simp [hZ]),List.append_nil]
 rw [e _ rfl]
 exact Ext.pure hw ⟨_,rfl⟩ (by simp only [RL];exact hrl)
end
section
def othL(L:List (List UInt8))(k:Nat):List (List UInt8):=L.set k ((stD L k).take (min (stD L k).length 100)++ [63])
theorem z28(L:List (List UInt8))(k:Nat):(othL L k).length=L.length:=by simp [othL]
def LogsP(O:Store)(L:List (List UInt8))(y:AV)(k:Nat)(v:AV)(O':Store):Prop:=
 ∃t q,v=.tup [.agg [.ptr t 0 0,y],.agg [.ptr t 0 0,.sl q 0 L.length none 1],.bool true]/\ Ext O O'/\ O.length<=t/\ O.length<=q/\ O'[t]? =some (some [z1k true logS (keyL logS)])/\ O'[q]? =some (some (strs (othL L k)))
theorem LogsP.is(O:Store)(L:List (List UInt8))(y:AV)(k:Nat):∃v O',LogsP O L y k v O':=
 ⟨_,O++ [some [z1k true logS (keyL logS)],some (strs (othL L k))],O.length,O.length+1,rfl,⟨_,rfl⟩,Nat.le_refl _,by omega,by rw [z22 (by omega),Nat.sub_self];rfl,by rw [z22 (by omega),Nat.add_sub_cancel_left];rfl⟩
theorem zun{L:List (List UInt8)}{k:Nat}{s:List UInt8}:(strs L).set k [.str s]=strs (L.set k s):=by simp [strs,List.map_set]
attribute [local irreducible] ACallsTo ACallsP
end
section
theorem zmx(s:List UInt8)(i:Nat)(b:UInt8):(zw s).set i [.int .u8 (b.toNat:Int)]=zw (s.set i b):=by
 simp [zw,B8,List.map_set]
theorem zto(n:Int)(r:Hash)(i:Int)(s u:List UInt8)(x:AV):(sgC n r i s x).set 34 (.str u)=sgC n r i u x:=by
 unfold sgC
 rw [List.set_cons_succ,List.set_append_right _ _ (by rw [z6];omega),z6];rfl
attribute [local irreducible] ACallsTo ACallsP
end
section
def setB(h:Hash)(j:Nat)(b:UInt8):Hash:=⟨h.1.set j b,by rw [List.length_set];exact h.2⟩
def atB(h:Hash)(j:Nat):UInt8:=h.1.getD j 0
theorem hc_at{h:Hash}{j:Nat}(hj:j<32):(hc h)[j]? =some (.int .u8 ((atB h j).toNat:Int)):=zgo (by rw [h.2];exact hj)
theorem zhu(h:Hash)(j:Nat)(b:UInt8):(hc h).set j (.int .u8 (b.toNat:Int))=hc (setB h j b):=by
 simp [hc,zj,setB,List.map_set]
theorem zo4{e:Ev}{x y z:AV}{j:Nat}(hj:j<32):(evX e x y z)[73+j]? =some (.int .u8 ((atB e.r j).toNat:Int)):=by
 rw [zb0,List.getElem?_append_right (by simp [zg]),show 73+j-(AV.int .i64 e.k::sgX e.a x++sgX e.b y).length=j by simp [zg],List.getElem?_append_left (by rw [z6];exact hj),hc_at hj]
theorem zhh(e:Ev)(x y z:AV){j:Nat}(b:UInt8)(hj:j<32):(evX e x y z).set (73+j) (.int .u8 (b.toNat:Int))=evX ⟨e.k,e.a,e.b,setB e.r j b,e.p⟩ x y z:=by
 rw [zb0,List.set_append_right _ _ (by simp [zg]),show 73+j-(AV.int .i64 e.k::sgX e.a x++sgX e.b y).length=j by simp [zg],List.set_append_left _ _ (by rw [z6];exact hj),zhu,zb0]
theorem zo5(e:Ev)(x y z:AV){j:Nat}(b:UInt8)(hj:j<32):(evX e x y z).take (73+j)++ .int .u8 (b.toNat:Int)::(evX e x y z).drop (73+j+1)=evX ⟨e.k,e.a,e.b,setB e.r j b,e.p⟩ x y z:=by
 rw [z8f (by rw [zh];omega),zhh _ _ _ _ _ hj]
theorem zfi(a b:UInt8):z1a .xor .u8 (a.toNat:Int) (b.toNat:Int)=some (.int .u8 ((a^^^b).toNat:Int)):=by
 rw [zia ⟨by omega,by have:=a.toNat_lt;omega⟩ ⟨by omega,by have:=b.toNat_lt;omega⟩];simp
theorem z9n{k re:Nat}{O:Store}{z:AV}{es:List (List AV)}{u:Option AObj}(h:OwnR 32 k O z es)(hne:∀r off len lim sz,z=.sl r off len lim sz->r ≠ re):RdSl (O.set re u) 32 es z:=by
 rcases h with⟨h,rfl⟩| ⟨r,_,_,rfl,hg⟩
 ·exact .inl (.inl ⟨rfl,h⟩)
 ·exact .inr ⟨r,0,none,es,rfl,by rw [z1g (hne _ _ _ _ _ rfl).symm];exact hg,by omega,by simp⟩
attribute [local irreducible] ACallsTo ACallsP
theorem z4x(hw:Wf ([]:Store).length [])(O:Store)(ra re t:Nat)(yl:AV)(e:Ev)(x y z:AV)(h3:O[ra]? =some (some [[.ptr t 0 0,yl]]))(h2:O[t]? =some (some [z1k true logS (keyL logS)]))(hev:O[re]? =some (some [evX e x y z]))
  (hx:SlV 32 (hr e.a.p) x) (hy:SlV 32 (hr e.b.p) y) (hz:RdSl O 32 (hr e.p) z) (he:EvOk e) (J:Env) (q7:J 7=.ptr ra 0 0) (q14:J 14=.ptr re 0 0):
  zW TC 203 0 ze7 (endQ 0 [.t 6] (.bool true) []) J O:=by
 have hR:=zl2 O t logS (keyL logS) h2 (z34 logS)
 have hC:=zcg O (z1b (keyL logS)) e x y z (.of hx) (.of hy) hz he
 have hC2:=zsn O (z1b (keyL logS)) e x y z (.of hx) (.of hy) hz he
 generalize z3r (z1b (keyL logS)) e=c at*
 generalize z1b (keyL logS)=R at*
 generalize z1k true logS (keyL logS)=tc at*
 have d1:=slen h3
 have d2:=slen h2
 have d3:=slen hev
 repeat' (first|apply zs_|apply zb_|apply zc_|apply zt_ rfl|apply zf_ rfl|(apply zd_ rfl<;>intro ht<;>try omega)|((first|apply zr_|apply zk_|apply ze_|apply zq_|(apply callW.mk_pu;(first|exact(fun _=>hR)|exact(fun _=>hC)|exact(fun _=>hC2)|exact(fun _=>z6f _)))|(apply callW.za;(first|exact(hR)|exact(hC)|exact(hC2)|exact(z6f _)))|(apply zG<;>intro ht));all_goals try simp (disch:=first|omega|(simp only [lens,z6,z7,lQr,lQm,lQt,lQd,z8,zg,zh,zi,zm,zn,zo,lQs,zl];first|done|omega)) only [go_sem,q7,q14,h3,hev,beq_self_eq_true]))
 all_goals exact DownV.pure (τ:=[]) hw (z14 _ rfl)
attribute [local irreducible] ze7
theorem ec_sw(hw:Wf ([]:Store).length [])(O:Store)(L:List (List UInt8))(ex:Bool)(how at_:Nat)(b:UInt8)(re:Nat)(e:Ev)(x y z:AV)(hre:6<=re)
  (h0:O[0]? =some (some [[.int .u8 how,.int .u8 at_,.int .u8 (b.toNat:Int)]])) (h3:O[3]? =some (some [[.ptr 2 0 0,.vsl 1 (strs L) ex]])) (h2:O[2]? =some (some [z1k true logS (keyL logS)])) (hev:O[re]? =some (some [evX e x y z]))
  (hx:SlV 32 (hr e.a.p) x) (hy:SlV 32 (hr e.b.p) y) (hz:OwnR 32 6 O z (hr e.p)) (he:EvOk e) (hne:∀r off len lim sz,z=.sl r off len lim sz->r ≠ re) (hL:2<=L.length) (hLl:L.length<=12) (hs:e.a.s.length<1000000) (hhow:how<=255) (hat:at_<=255)
  (J:Env) (q0:J 0=.vsl 1 (strs L) ex) (q5:J 5=.ptr 0 0 0) (q7:J 7=.ptr 3 0 0) (q11:J 11=z10 32 (hr (lvs L))) (q14:J 14=.ptr re 0 0):
  zW TC 203 0 ze8 (endQ 0 [.t 6] (.bool true) []) J O:=by
 have d0:=slen h0
 have d3:=slen h3
 have d2:=slen h2
 have de:=slen hev
 have hel:=zh e x y z
 have hed:=z3g e x y z
 have l1:=zm L
 have hh:(how:Int)%7=((how%7:Nat):Int):=by omega
 have hzr:=hz.rd
 have hzc:=hz.cells
 have hat':(at_:Int)%32=((at_%32:Nat):Int):=by omega
 have hj:at_%32<32:=by omega
 by_cases k1:how%7=1
 ·rw [k1]at hh
  have hm:(at_:Int)%L.length=((at_%L.length:Nat):Int):=by omega
  have hL0:¬(L.length:Int)=0:=by omega
  have hLn:¬L.length=0:=by omega
  obtain⟨m,hm1,hm12⟩:∃m:Nat,(1:Int)+((at_%L.length:Nat):Int)=m/\ m<=12:=⟨1+at_%L.length,by omega,by have:=Nat.mod_lt at_ (y:=L.length) (by omega);omega⟩
  have hPf:=fun O=>zsq O (lvs L) (z10 32 (hr (lvs L))) (m:Nat) (z3l _ _) (by rw [zn];omega)
  have pl:=zjf (lvs L) (m:Nat)
  rw [zn]at pl
  have hzc2:=zkp (sz:=32) (es:=hr (z3c (lvs L) (m:Nat)))
  unfold cellsOf at hzc2
  have hzi:=z3l 32 (hr (z3c (lvs L) (m:Nat)))
  have hp:=zd7 e x y z (z10 32 (hr (z3c (lvs L) (m:Nat))))
  rw [hed]at hp
  generalize z10 32 (hr (lvs L))=lv at*
  generalize z3c (lvs L) (m:Nat)=PF at*
  generalize z10 32 (hr PF)=Z at*
  repeat' (first|apply zs_|apply zb_|apply zc_|apply zt_ rfl|apply zf_ rfl|(apply zd_ rfl<;>intro ht<;>try omega)|((first|apply zr_|apply zk_|apply ze_|apply zq_|(apply callW.mk_pu;(first|exact(fun _=>hPf _)))|(apply callW.za;(first|exact(hPf _)))|(apply zG<;>intro ht));all_goals try simp (disch:=first|omega|(simp only [lens,z6,z7,lQr,lQm,lQt,lQd,z8,zg,zh,zi,zm,zn,zo,lQs,zl];first|done|omega)) only [go_sem,q0,q5,q7,q11,q14,h0,h3,hev,hh,l1,hm,hL0,hLn,hm1,hzc2,hel,hed]))
  exact z4x hw _ 3 re 2 (.vsl 1 (strs L) ex) ⟨e.k,e.a,e.b,e.r,PF⟩ x y Z (by simp (disch:=first|omega|(simp only [lens,z6,z7,lQr,lQm,lQt,lQd,z8,zg,zh,zi,zm,zn,zo,lQs,zl];first|done|omega)) only [go_sem,h3]) (by simp (disch:=first|omega|(simp only [lens,z6,z7,lQr,lQm,lQt,lQd,z8,zg,zh,zi,zm,zn,zo,lQs,zl];first|done|omega)) only [go_sem,h2]) (by simp (disch:=first|omega|(simp only [lens,z6,z7,lQr,lQm,lQt,lQd,z8,zg,zh,zi,zm,zn,zo,lQs,zl];first|done|omega)) only [go_sem,hp];rfl) hx hy (.of hzi) ⟨he.1,he.2.1,by simp only;omega⟩ _ (by simp (disch:=first|omega|(simp only [lens,z6,z7,lQr,lQm,lQt,lQd,z8,zg,zh,zi,zm,zn,zo,lQs,zl];first|done|omega)) only [go_sem,q7]) (by simp (disch:=first|omega|(simp only [lens,z6,z7,lQr,lQm,lQt,lQd,z8,zg,zh,zi,zm,zn,zo,lQs,zl];first|done|omega)) only [go_sem,q14])
 by_cases k2:how%7=2
 ·rw [k2]at hh
  generalize at_%32=j at*
  have hg:=zo4 (e:=e) (x:=x) (y:=y) (z:=z) hj
  have hxr:=zfi (atB e.r j) b
  have hst:=zhh e x y z (atB e.r j^^^b) hj
  have hst2:=zo5 e x y z (atB e.r j^^^b) hj
  generalize atB e.r j^^^b=v at*
  have hj3:((j:Int)).toNat=j:=Int.toNat_natCast j
  repeat' (first|apply zs_|apply zb_|apply zc_|apply zt_ rfl|apply zf_ rfl|(apply zd_ rfl<;>intro ht<;>try omega)|((first|apply zr_|apply zk_|apply ze_|apply zq_|(apply zG<;>intro ht));all_goals try simp (disch:=first|omega|(simp only [lens,z6,z7,lQr,lQm,lQt,lQd,z8,zg,zh,zi,zm,zn,zo,lQs,zl];first|done|omega)) only [go_sem,q0,q5,q7,q11,q14,h0,h3,hev,hh,hat',hj3,hg,hxr,hst,hst2,hel,hed]))
  exact z4x hw _ 3 re 2 (.vsl 1 (strs L) ex) ⟨e.k,e.a,e.b,setB e.r j v,e.p⟩ x y z (by simp (disch:=first|omega|(simp only [lens,z6,z7,lQr,lQm,lQt,lQd,z8,zg,zh,zi,zm,zn,zo,lQs,zl];first|done|omega)) only [go_sem,h3]) (by simp (disch:=first|omega|(simp only [lens,z6,z7,lQr,lQm,lQt,lQd,z8,zg,zh,zi,zm,zn,zo,lQs,zl];first|done|omega)) only [go_sem,h2]) (by simp (disch:=first|omega|(simp only [lens,z6,z7,lQr,lQm,lQt,lQd,z8,zg,zh,zi,zm,zn,zo,lQs,zl];first|done|omega)) only [go_sem]) hx hy (z9n hz hne) he _ (by simp (disch:=first|omega|(simp only [lens,z6,z7,lQr,lQm,lQt,lQd,z8,zg,zh,zi,zm,zn,zo,lQs,zl];first|done|omega)) only [go_sem,q7]) (by simp (disch:=first|omega|(simp only [lens,z6,z7,lQr,lQm,lQt,lQd,z8,zg,zh,zi,zm,zn,zo,lQs,zl];first|done|omega)) only [go_sem,q14])
 by_cases k3:how%7=3
 ·rw [k3]at hh
  rcases hz with⟨hz0,rfl⟩| ⟨r,hr6,hzn,rfl,hgr⟩
  ·repeat' (first|apply zs_|apply zb_|apply zc_|apply zt_ rfl|apply zf_ rfl|(apply zd_ rfl<;>intro ht<;>try omega)|((first|apply zr_|apply zk_|apply ze_|apply zq_|(apply zG<;>intro ht));all_goals try simp (disch:=first|omega|(simp only [lens,z6,z7,lQr,lQm,lQt,lQd,z8,zg,zh,zi,zm,zn,zo,lQs,zl];first|done|omega)) only [go_sem,q0,q5,q7,q11,q14,h0,h3,hev,hh,hel,hed]))
   exact z4x hw _ 3 re 2 (.vsl 1 (strs L) ex) e x y .nilsl (by simp (disch:=first|omega|(simp only [lens,z6,z7,lQr,lQm,lQt,lQd,z8,zg,zh,zi,zm,zn,zo,lQs,zl];first|done|omega)) only [go_sem,h3]) (by simp (disch:=first|omega|(simp only [lens,z6,z7,lQr,lQm,lQt,lQd,z8,zg,zh,zi,zm,zn,zo,lQs,zl];first|done|omega)) only [go_sem,h2]) (by simp (disch:=first|omega|(simp only [lens,z6,z7,lQr,lQm,lQt,lQd,z8,zg,zh,zi,zm,zn,zo,lQs,zl];first|done|omega)) only [go_sem,hev]) hx hy (.of (.inl ⟨rfl,hz0⟩)) he _ (by simp (disch:=first|omega|(simp only [lens,z6,z7,lQr,lQm,lQt,lQd,z8,zg,zh,zi,zm,zn,zo,lQs,zl];first|done|omega)) only [go_sem,q7]) (by simp (disch:=first|omega|(simp only [lens,z6,z7,lQr,lQm,lQt,lQd,z8,zg,zh,zi,zm,zn,zo,lQs,zl];first|done|omega)) only [go_sem,q14])
  ·have hre:=hne r _ _ _ _ rfl
   have hp0:0<e.p.length:=by
    rcases Nat.eq_zero_or_pos e.p.length with h|h
    ·exact absurd (hr_nil_iff.2 (List.eq_nil_of_length_eq_zero h)) hzn
    ·exact h
   have hpl:=z7 e.p
   have hp1:(e.p.length:Int)>0:=by omega
   have hp2:¬(e.p.length:Int)=0:=by omega
   have hm:(at_:Int)%e.p.length=((at_%e.p.length:Nat):Int):=by omega
   have hi:=Nat.mod_lt at_ hp0
   generalize at_%e.p.length=i at*
   generalize at_%32=j at*
   have hgi:=z6h hi
   have hg:=hc_at (h:=hd e.p i) hj
   have hxr:=zfi (atB (hd e.p i) j) b
   have hst:(hc (hd e.p i)).take j++ .int .u8 ((atB (hd e.p i) j^^^b).toNat:Int)::(hc (hd e.p i)).drop (j+1)=hc (setB (hd e.p i) j (atB (hd e.p i) j^^^b)):=by rw [z8f (by rw [z6];exact hj),zhu]
   have hlen:(e.p.set i (setB (hd e.p i) j (atB (hd e.p i) j^^^b))).length=e.p.length:=List.length_set
   generalize atB (hd e.p i) j^^^b=v at*
   have hch:=z6 (hd e.p i)
   have dr:=slen hgr
   have hj3:((j:Int)).toNat=j:=Int.toNat_natCast j
   repeat' (first|apply zs_|apply zb_|apply zc_|apply zt_ rfl|apply zf_ rfl|(apply zd_ rfl<;>intro ht<;>try omega)|((first|apply zr_|apply zk_|apply ze_|apply zq_|(apply zG<;>intro ht));all_goals try simp (disch:=first|omega|(simp only [lens,z6,z7,lQr,lQm,lQt,lQd,z8,zg,zh,zi,zm,zn,zo,lQs,zl];first|done|omega)) only [go_sem,q0,q5,q7,q11,q14,h0,h3,hev,hh,hat',hj3,hpl,hp1,hp2,hm,hgr,hgi,hg,hxr,hst,hel,hed]))
   exact z4x hw _ 3 re 2 (.vsl 1 (strs L) ex) ⟨e.k,e.a,e.b,e.r,e.p.set i (setB (hd e.p i) j v)⟩ x y _ (by simp (disch:=first|omega|(simp only [lens,z6,z7,lQr,lQm,lQt,lQd,z8,zg,zh,zi,zm,zn,zo,lQs,zl];first|done|omega)) only [go_sem,h3]) (by simp (disch:=first|omega|(simp only [lens,z6,z7,lQr,lQm,lQt,lQd,z8,zg,zh,zi,zm,zn,zo,lQs,zl];first|done|omega)) only [go_sem,h2]) (by simp (disch:=first|omega|(simp only [lens,z6,z7,lQr,lQm,lQt,lQd,z8,zg,zh,zi,zm,zn,zo,lQs,zl];first|done|omega)) only [go_sem,hev];rfl) hx hy (.inr ⟨r,0,none,hr (e.p.set i (setB (hd e.p i) j v)),by simp only [z7,hlen],by simp (disch:=first|omega|(simp only [lens,z6,z7,lQr,lQm,lQt,lQd,z8,zg,zh,zi,zm,zn,zo,lQs,zl];first|done|omega)) only [go_sem,dr],by simp,by simp⟩) ⟨he.1,he.2.1,by simp only [hlen];exact he.2.2⟩ _ (by simp (disch:=first|omega|(simp only [lens,z6,z7,lQr,lQm,lQt,lQd,z8,zg,zh,zi,zm,zn,zo,lQs,zl];first|done|omega)) only [go_sem,q7]) (by simp (disch:=first|omega|(simp only [lens,z6,z7,lQr,lQm,lQt,lQd,z8,zg,zh,zi,zm,zn,zo,lQs,zl];first|done|omega)) only [go_sem,q14])
 by_cases k4:how%7=4
 ·rw [k4]at hh
  have hxl:=zg e.a x
  have hyl:=zg e.b y
  repeat' (first|apply zs_|apply zb_|apply zc_|apply zt_ rfl|apply zf_ rfl|(apply zd_ rfl<;>intro ht<;>try omega)|((first|apply zr_|apply zk_|apply ze_|apply zq_|(apply zG<;>intro ht));all_goals try simp (disch:=first|omega|(simp only [lens,z6,z7,lQr,lQm,lQt,lQd,z8,zg,zh,zi,zm,zn,zo,lQs,zl];first|done|omega)) only [go_sem,q0,q5,q7,q11,q14,h0,h3,hev,hh,hel,hed,hxl,hyl]))
  exact z4x hw _ 3 re 2 (.vsl 1 (strs L) ex) ⟨e.k,e.b,e.a,e.r,e.p⟩ y x z (by simp (disch:=first|omega|(simp only [lens,z6,z7,lQr,lQm,lQt,lQd,z8,zg,zh,zi,zm,zn,zo,lQs,zl];first|done|omega)) only [go_sem,h3]) (by simp (disch:=first|omega|(simp only [lens,z6,z7,lQr,lQm,lQt,lQd,z8,zg,zh,zi,zm,zn,zo,lQs,zl];first|done|omega)) only [go_sem,h2]) (by simp (disch:=first|omega|(simp only [lens,z6,z7,lQr,lQm,lQt,lQd,z8,zg,zh,zi,zm,zn,zo,lQs,zl];first|done|omega)) only [go_sem,hev]) hy hx (z9n hz hne) ⟨he.2.1,he.1,he.2.2⟩ _ (by simp (disch:=first|omega|(simp only [lens,z6,z7,lQr,lQm,lQt,lQd,z8,zg,zh,zi,zm,zn,zo,lQs,zl];first|done|omega)) only [go_sem,q7]) (by simp (disch:=first|omega|(simp only [lens,z6,z7,lQr,lQm,lQt,lQd,z8,zg,zh,zi,zm,zn,zo,lQs,zl];first|done|omega)) only [go_sem,q14])
 by_cases k5:how%7=5
 ·rw [k5]at hh
  have hbl:=b.toNat_lt
  have hb4:(b.toNat:Int)%4=((b.toNat%4:Nat):Int):=by omega
  repeat' (first|apply zs_|apply zb_|apply zc_|apply zt_ rfl|apply zf_ rfl|(apply zd_ rfl<;>intro ht<;>try omega)|((first|apply zr_|apply zk_|apply ze_|apply zq_|(apply zG<;>intro ht));all_goals try simp (disch:=first|omega|(simp only [lens,z6,z7,lQr,lQm,lQt,lQd,z8,zg,zh,zi,zm,zn,zo,lQs,zl];first|done|omega)) only [go_sem,q0,q5,q7,q11,q14,h0,h3,hev,hh,hb4,hel,hed]))
  exact z4x hw _ 3 re 2 (.vsl 1 (strs L) ex) ⟨((b.toNat%4:Nat):Int),e.a,e.b,e.r,e.p⟩ x y z (by simp (disch:=first|omega|(simp only [lens,z6,z7,lQr,lQm,lQt,lQd,z8,zg,zh,zi,zm,zn,zo,lQs,zl];first|done|omega)) only [go_sem,h3]) (by simp (disch:=first|omega|(simp only [lens,z6,z7,lQr,lQm,lQt,lQd,z8,zg,zh,zi,zm,zn,zo,lQs,zl];first|done|omega)) only [go_sem,h2]) (by simp (disch:=first|omega|(simp only [lens,z6,z7,lQr,lQm,lQt,lQd,z8,zg,zh,zi,zm,zn,zo,lQs,zl];first|done|omega)) only [go_sem,hev]) hx hy (z9n hz hne) he _ (by simp (disch:=first|omega|(simp only [lens,z6,z7,lQr,lQm,lQt,lQd,z8,zg,zh,zi,zm,zn,zo,lQs,zl];first|done|omega)) only [go_sem,q7]) (by simp (disch:=first|omega|(simp only [lens,z6,z7,lQr,lQm,lQt,lQd,z8,zg,zh,zi,zm,zn,zo,lQs,zl];first|done|omega)) only [go_sem,q14])
 by_cases k6:how%7=6
 ·rw [k6]at hh
  obtain⟨ek,ea,eb,er,ep⟩:=e
  obtain⟨an,ar,ai,as_,ap⟩:=ea
  simp only at hs he hx hy hz
  have h34:(evX ⟨ek,⟨an,ar,ai,as_,ap⟩,eb,er,ep⟩ x y z)[35]? =some (.str as_):=by
   rw [show (35:Nat)=1+34 from rfl,<-List.getElem?_drop,z9b,List.getElem?_append_left (by rw [zg];omega)]
   exact sgC_34 _ _ _ _ _
  have hp34:∀u:List UInt8,(evX ⟨ek,⟨an,ar,ai,as_,ap⟩,eb,er,ep⟩ x y z).take 35++ .str u::(evX ⟨ek,⟨an,ar,ai,as_,ap⟩,eb,er,ep⟩ x y z).drop 36=evX ⟨ek,⟨an,ar,ai,u,ap⟩,eb,er,ep⟩ x y z:=fun u=>by
   rw [z8f (by rw [zh];omega)]
   unfold evX
   rw [List.set_cons_succ,List.set_append_left _ _ (by rw [zg];omega)]
   unfold sgX
   rw [zto]
  have hap:∀v,OwnR 32 6 (O++v) z (hr ep):=fun v=>hz.more
  by_cases hs0:as_=[]
  ·subst hs0
   repeat' (first|apply zs_|apply zb_|apply zc_|apply zt_ rfl|apply zf_ rfl|(apply zd_ rfl<;>intro ht<;>try omega)|((first|apply zr_|apply zk_|apply ze_|apply zq_|(apply zG<;>intro ht));all_goals try simp (disch:=first|omega|(simp only [lens,z6,z7,lQr,lQm,lQt,lQd,z8,zg,zh,zi,zm,zn,zo,lQs,zl];first|done|omega)) only [go_sem,q0,q5,q7,q11,q14,h0,h3,hev,hh,h34,hp34,hel,hed]))
   exact z4x hw _ 3 re 2 (.vsl 1 (strs L) ex) ⟨ek,⟨an,ar,ai,[],ap⟩,eb,er,ep⟩ x y z (by simp (disch:=first|omega|(simp only [lens,z6,z7,lQr,lQm,lQt,lQd,z8,zg,zh,zi,zm,zn,zo,lQs,zl];first|done|omega)) only [go_sem,h3]) (by simp (disch:=first|omega|(simp only [lens,z6,z7,lQr,lQm,lQt,lQd,z8,zg,zh,zi,zm,zn,zo,lQs,zl];first|done|omega)) only [go_sem,h2]) (by simp (disch:=first|omega|(simp only [lens,z6,z7,lQr,lQm,lQt,lQd,z8,zg,zh,zi,zm,zn,zo,lQs,zl];first|done|omega)) only [go_sem]) hx hy (z9n hz hne).app he _ (by simp (disch:=first|omega|(simp only [lens,z6,z7,lQr,lQm,lQt,lQd,z8,zg,zh,zi,zm,zn,zo,lQs,zl];first|done|omega)) only [go_sem,q7]) (by simp (disch:=first|omega|(simp only [lens,z6,z7,lQr,lQm,lQt,lQd,z8,zg,zh,zi,zm,zn,zo,lQs,zl];first|done|omega)) only [go_sem,q14])
  ·have hl0:as_.length ≠ 0:=by simpa using hs0
   have hl1:(as_.length:Int)>0:=by omega
   have hl2:¬(as_.length:Int)=0:=by omega
   have hm:(at_:Int)%as_.length=((at_%as_.length:Nat):Int):=by omega
   have hi:=Nat.mod_lt at_ (y:=as_.length) (by omega)
   generalize at_%as_.length=i at*
   have hget:=z7u hi
   have hset:=zmx as_ i (as_.getD i 0^^^b)
   have hxr:=zfi (as_.getD i 0) b
   generalize as_.getD i 0^^^b=v at*
   repeat' (first|apply zs_|apply zb_|apply zc_|apply zt_ rfl|apply zf_ rfl|(apply zd_ rfl<;>intro ht<;>try omega)|((first|apply zr_|apply zk_|apply ze_|apply zq_|(apply zG<;>intro ht));all_goals try simp (disch:=first|omega|(simp only [lens,z6,z7,lQr,lQm,lQt,lQd,z8,zg,zh,zi,zm,zn,zo,lQs,zl];first|done|omega)) only [go_sem,q0,q5,q7,q11,q14,h0,h3,hev,hh,h34,hp34,hl1,hl2,hm,hget,hset,hxr,hel,hed]))
   exact z4x hw _ 3 re 2 (.vsl 1 (strs L) ex) ⟨ek,⟨an,ar,ai,as_.set i v,ap⟩,eb,er,ep⟩ x y z (by simp (disch:=first|omega|(simp only [lens,z6,z7,lQr,lQm,lQt,lQd,z8,zg,zh,zi,zm,zn,zo,lQs,zl];first|done|omega)) only [go_sem,h3]) (by simp (disch:=first|omega|(simp only [lens,z6,z7,lQr,lQm,lQt,lQd,z8,zg,zh,zi,zm,zn,zo,lQs,zl];first|done|omega)) only [go_sem,h2]) (by simp (disch:=first|omega|(simp only [lens,z6,z7,lQr,lQm,lQt,lQd,z8,zg,zh,zi,zm,zn,zo,lQs,zl];first|done|omega)) only [go_sem]) hx hy (z9n hz hne).app he _ (by simp (disch:=first|omega|(simp only [lens,z6,z7,lQr,lQm,lQt,lQd,z8,zg,zh,zi,zm,zn,zo,lQs,zl];first|done|omega)) only [go_sem,q7]) (by simp (disch:=first|omega|(simp only [lens,z6,z7,lQr,lQm,lQt,lQd,z8,zg,zh,zi,zm,zn,zo,lQs,zl];first|done|omega)) only [go_sem,q14])
 ·have e1:¬((how%7:Nat):Int)=1:=by omega
  have e2:¬((how%7:Nat):Int)=2:=by omega
  have e3:¬((how%7:Nat):Int)=3:=by omega
  have e4:¬((how%7:Nat):Int)=4:=by omega
  have e5:¬((how%7:Nat):Int)=5:=by omega
  have e6:¬((how%7:Nat):Int)=6:=by omega
  generalize how%7=kk at*
  repeat' (first|apply zs_|apply zb_|apply zc_|apply zt_ rfl|apply zf_ rfl|(apply zd_ rfl<;>intro ht<;>try omega)|((first|apply zr_|apply zk_|apply ze_|apply zq_|(apply zG<;>intro ht));all_goals try simp (disch:=first|omega|(simp only [lens,z6,z7,lQr,lQm,lQt,lQd,z8,zg,zh,zi,zm,zn,zo,lQs,zl];first|done|omega)) only [go_sem,q0,q5,q7,q11,q14,h0,h3,hev,hh,e1,e2,e3,e4,e5,e6,hel,hed]))
  exact z4x hw _ 3 re 2 (.vsl 1 (strs L) ex) e x y z (by simp (disch:=first|omega|(simp only [lens,z6,z7,lQr,lQm,lQt,lQd,z8,zg,zh,zi,zm,zn,zo,lQs,zl];first|done|omega)) only [go_sem,h3]) (by simp (disch:=first|omega|(simp only [lens,z6,z7,lQr,lQm,lQt,lQd,z8,zg,zh,zi,zm,zn,zo,lQs,zl];first|done|omega)) only [go_sem,h2]) (by simp (disch:=first|omega|(simp only [lens,z6,z7,lQr,lQm,lQt,lQd,z8,zg,zh,zi,zm,zn,zo,lQs,zl];first|done|omega)) only [go_sem,hev]) hx hy hzr he _ (by simp (disch:=first|omega|(simp only [lens,z6,z7,lQr,lQm,lQt,lQd,z8,zg,zh,zi,zm,zn,zo,lQs,zl];first|done|omega)) only [go_sem,q7]) (by simp (disch:=first|omega|(simp only [lens,z6,z7,lQr,lQm,lQt,lQd,z8,zg,zh,zi,zm,zn,zo,lQs,zl];first|done|omega)) only [go_sem,q14])
end
section
attribute [local irreducible] ACallsTo ACallsP
end
section
def HdOk(h:Hdr):Prop:=h.p.length=3/\ 1<=h.n/\ h.n<=14
def PlInv(O1:Store)(p r:Nat)(key:Hash)(O:Store):Prop:=
 ∃now fd own,AudIs O p key now fd own/\ RaIs O r key now fd/\ r ∉ own/\ O1.length<=O.length/\ (∀j,j<O1.length->j ≠ p->j ≠ r->j ∉ own/\ O[j]? =O1[j]?)/\ (∀w,now=some w->HdOk w)/\ (∀f,fd=some f->HdOk f.1/\ HdOk f.2)
theorem RaIs.app{O:Store}{r:Nat}{key:Hash}{now:Option Hdr}{fd:Option (Hdr × Hdr)}(h:RaIs O r key now fd)(y:Store):RaIs (O++y) r key now fd:=by
 unfold RaIs at h ⊢
 rw [gapp (slen h)];exact h
theorem PlInv.app{O1:Store}{p r:Nat}{key:Hash}{O:Store}(h:PlInv O1 p r key O)(y:Store):PlInv O1 p r key (O++y):=by
 obtain⟨now,fd,own,hT,hR,hrn,hle,hk,hno,hfo⟩:=h
 refine⟨now,fd,own,hT.ext ⟨y,rfl⟩,hR.app y,hrn,by rw [List.length_append];omega,fun j hj hp hr=> ?_,hno,hfo⟩
 obtain⟨a,b⟩:=hk j hj hp hr
 exact⟨a,by rw [gapp (by omega)];exact b⟩
theorem PlInv.get{O1:Store}{p r:Nat}{key:Hash}{O:Store}(h:PlInv O1 p r key O){j:Nat}{o:Option AObj}(hj:O1[j]? =some o)(hp:j ≠ p)(hr:j ≠ r):O[j]? =some o:=by
 obtain⟨now,fd,own,hT,hR,hrn,hle,hk,hno,hfo⟩:=h
 rw [(hk j (slen hj) hp hr).2];exact hj
attribute [local irreducible] ACallsTo ACallsP
end
section
structure Act33 where
 k:Nat
 z:Nat
 i:Nat
 t:List UInt8
 R:List Hash
 y:AV
attribute [local irreducible] ACallsTo ACallsP
end
section
theorem zuk{x:AV}(h:ShC (.sl 1 .str) [x]):∃(L:List (List UInt8)),SlV 1 (strs L) x/\ L.length<=maxLen/\ ∀s ∈ L,s.length<=maxLen:=by
 simp only [ShC]at h
 rcases h with h| ⟨es,h,hl,_,h2⟩
 ·cases h
  exact⟨[],.inl ⟨rfl,rfl⟩,Nat.zero_le _,by simp⟩
 ·cases h
  have:∀es:List (List AV),(∀x ∈ es,∃s:List UInt8,x=[.str s]/\ s.length<=maxLen)->∃L,es=strs L/\ ∀s ∈ L,s.length<=maxLen:=by
   intro es
   induction es with
   |nil=>intro _;exact⟨[],rfl,by simp⟩
   |cons e es ih=>
    intro h
    obtain⟨s,rfl,hs⟩:=h e (by simp)
    obtain⟨L,rfl,hL⟩:=ih fun x hx=>h x (by simp [hx])
    exact⟨s::L,rfl,fun t ht=>by rcases List.mem_cons.1 ht with rfl|h1;exact hs;exact hL t h1⟩
  obtain⟨L,rfl,hL⟩:=this es h2
  exact⟨L,.inr ⟨false,rfl⟩,by rwa [zm]at hl,hL⟩
theorem zqz{L:List (List UInt8)}(h:z7f L=false):∀s ∈ L,s.length<=200:=by
 unfold z7f at h
 simp only [Bool.or_eq_false_iff,decide_eq_false_iff_not,List.any_eq_false,decide_eq_true_eq]at h
 exact fun s hs=>by have:=h.1 s hs;omega
attribute [local irreducible] ACallsTo ACallsP
end
section
theorem own6{O O':Store}{v:AV}{es:List (List AV)}(h6:O.length=6)(h:OwnN 32 O O' v es):OwnR 32 6 O' v es:=by
 obtain⟨news,rfl,⟨h,rfl⟩| ⟨j,hj,rfl,hn⟩⟩:=h
 ·exact .inl ⟨h,rfl⟩
 ·exact .inr ⟨_,by omega,hj,rfl,by rw [z22 (by omega),Nat.add_sub_cancel_left];exact hn⟩
theorem hdrX(h:Hdr):hdrC h=sgX h (z10 32 (hr h.p)):=rfl
attribute [local irreducible] ACallsTo ACallsP ze8
theorem znw(hw:Wf ([]:Store).length [])(O:Store)(L M:List (List UInt8))(ex:Bool)(how at_:Nat)(b:UInt8)(m:Nat)(z:AV)(P:List Hash)(hσ:6<=O.length)
  (h0:O[0]? =some (some [[.int .u8 how,.int .u8 at_,.int .u8 (b.toNat:Int)]])) (h3:O[3]? =some (some [[.ptr 2 0 0,.vsl 1 (strs L) ex]])) (h2:O[2]? =some (some [z1k true logS (keyL logS)]))
  (h4:O[4]? =some (some (strs M))) (h5:O[5]? =some (some [[.ptr 2 0 0,.sl 4 0 M.length none 1]]))
  (hz:OwnR 32 6 O z (hr P)) (hP:P.length<1000000) (hM:M.length=L.length) (hm:m<=L.length) (hL:2<=L.length) (hLl:L.length<=12) (hLs:∀s ∈ L,s.length<1000000) (hMs:∀s ∈ M,s.length<1000000) (hhow:how<=255) (hat:at_<=255)
  (J:Env) (q0:J 0=.vsl 1 (strs L) ex) (q5:J 5=.ptr 0 0 0) (q7:J 7=.ptr 3 0 0) (q8:J 8=.int .i64 m) (q10:J 10=.ptr 5 0 0) (q11:J 11=z10 32 (hr (lvs L))) (q12:J 12=z):
  zW TC 203 0 ze9 (endQ 0 [.t 6] (.bool true) []) J O:=by
 have l1:=zm L
 have hlv:z10 32 (hr (lvs L))=.vsl 32 (hr (lvs L)) false:=by
  unfold z10
  rw [if_neg (fun e=>by have:=congrArg List.length e;rw [z7,zn,List.length_nil]at this;omega)]
 have q11':=q11
 rw [hlv]at q11'
 have HB:=fun y=>zlv (O++y) 2 4 logS M m 0 0 (by rw [and7];rfl) (by omega) (by omega) (by rw [gapp (slen h2)];exact h2) (by rw [gapp (slen h4)];exact h4) zii hMs (by omega)
 have HA:=fun y=>zch (O++y) 2 logS L ex L.length 1 1 (by rw [and7];rfl) (by omega) (Nat.le_refl _) (by rw [gapp (slen h2)];exact h2) zii hLs (by omega)
 simp only [hdrX]at HA HB
 have hRt:=fun O b=>zej O ((lvs L).take m) (.vsl 32 (hr ((lvs L).take m)) b) (.of (.inr ⟨b,rfl⟩)) (by rw [List.length_take,zn];omega)
 have fk:=zpl (lvs L) m
 have hrl:(hr (lvs L)).length=L.length:=by rw [z7,zn]
 have mA:(mkH logS 1 (L.take L.length)).p.length=3/\ (mkH logS 1 (L.take L.length)).s.length=16384:=⟨z9o _ _,z82 _ _ _⟩
 have mB:(mkH logS 0 (M.take m)).p.length=3/\ (mkH logS 0 (M.take m)).s.length=16384:=⟨z9o _ _,z82 _ _ _⟩
 generalize mkH logS 1 (L.take L.length)=hA at*
 generalize mkH logS 0 (M.take m)=hB at*
 generalize z1b ((lvs L).take m)=R at*
 have xA:=z3l 32 (hr hA.p)
 have xB:=z3l 32 (hr hB.p)
 generalize z10 32 (hr hA.p)=vA at*
 generalize z10 32 (hr hB.p)=vB at*
 have HA0:=HA []
 have HB0:=HB []
 rw [List.append_nil]at HA0 HB0
 have hO:evO=evX ⟨0,zHd,zHd,zeroH,[]⟩ .nilsl .nilsl .nilsl:=rfl
 have hel:=fun e x y z=>zh e x y z
 have hed:=fun e x y z=>z3g e x y z
 have lA:=zg hA vA
 have lB:=zg hB vB
 have hzc:=hz.cells
 have hne:∀r off len lim sz,z=.sl r off len lim sz->r ≠ O.length:=by
  rintro r off len lim sz rfl
  rcases hz with⟨_,h⟩| ⟨r',_,_,h,hg⟩
  ·cases h
  ·cases h
   have:=slen hg
   omega
 have hz2:=hz.more (y:=[some [evX ⟨2,hB,hA,R,P⟩ vB vA z]])
 have hfz:∀(e:Ev) (x y v:AV),z1c (evX e x y v) [(105,1,z)]=some (evX e x y z):=by
  intro e x y v
  have h2:=zd7 e x y v z
  rw [z3g]at h2
  simp only [z1c,hzc,Option.bind_some,zh,z1e,List.length_cons,List.length_nil]
  rw [if_pos ⟨trivial,by omega⟩,z3g,List.append_nil,h2]
 have T:=ec_sw hw (O++ [some [evX ⟨2,hB,hA,R,P⟩ vB vA z]]) L ex how at_ b O.length ⟨2,hB,hA,R,P⟩ vB vA z (by omega) (by rw [gapp (slen h0)];exact h0) (by rw [gapp (slen h3)];exact h3) (by rw [gapp (slen h2)];exact h2) (by rw [z22 (by omega),Nat.sub_self];rfl) xB xA hz2 ⟨by simp only;omega,by simp only;omega,hP⟩ hne hL hLl (by simp only;omega) hhow hat
 repeat' (first|apply zs_|apply zb_|apply zc_|apply zt_ rfl|apply zf_ rfl|(apply zd_ rfl<;>intro ht<;>try omega)|((first|apply zr_|apply zk_|apply ze_|apply zq_|(apply callW.mk_pu;(first|exact(fun _=>hRt _ _)))|(apply callW.za;(first|exact(hRt _ _)))|(apply zG<;>intro ht));all_goals try simp (disch:=first|omega|(simp only [lens,z6,z7,lQr,lQm,lQt,lQd,z8,zg,zh,zi,zm,zn,zo,lQs,zl,z28];first|done|omega)) only [go_sem,q0,q7,q8,q10,q11',q12,h3,h5,l1,hrl,fk]))
 refine callW.mk_pu2 (caps:=[]) HB0 (fun h hh=>hh.elim) ?_
 simp (disch:=first|omega|(simp only [lens,z6,z7,lQr,lQm,lQt,lQd,z8,zg,zh,zi,zm,zn,zo,lQs,zl,z28];first|done|omega)) only [go_sem,q0,q7,q8,q10,q11',q12,h3,h5,l1,hrl,fk,HB,HB0,HA,HA0,List.append_nil]
 refine callW.mk_pu2 (caps:=[]) HA0 (fun h hh=>hh.elim) ?_
 simp (disch:=first|omega|(simp only [lens,z6,z7,lQr,lQm,lQt,lQd,z8,zg,zh,zi,zm,zn,zo,lQs,zl,z28];first|done|omega)) only [go_sem,q0,q7,q8,q10,q11',q12,h3,h5,l1,hrl,fk,HB,HB0,HA,HA0,List.append_nil]
 repeat' (first|apply zs_|apply zb_|apply zc_|apply zt_ rfl|apply zf_ rfl|(apply zd_ rfl<;>intro ht<;>try omega)|((first|apply zr_|apply zk_|apply ze_|apply zq_|(apply callW.mk_pu;(first|exact(fun _=>hRt _ _)))|(apply callW.za;(first|exact(hRt _ _)))|(apply zG<;>intro ht));all_goals try simp (disch:=first|omega|(simp only [lens,z6,z7,lQr,lQm,lQt,lQd,z8,zg,zh,zi,zm,zn,zo,lQs,zl,z28];first|done|omega)) only [go_sem,q0,q7,q8,q10,q11',q12,h3,h5,l1,hrl,fk,HB,HB0,HA,HA0,hO,hel,hed,lA,lB,hfz,List.append_nil]))
 exact T _ (by simp (disch:=first|omega|(simp only [lens,z6,z7,lQr,lQm,lQt,lQd,z8,zg,zh,zi,zm,zn,zo,lQs,zl,z28];first|done|omega)) only [go_sem,q0]) (by simp (disch:=first|omega|(simp only [lens,z6,z7,lQr,lQm,lQt,lQd,z8,zg,zh,zi,zm,zn,zo,lQs,zl,z28];first|done|omega)) only [go_sem,q5]) (by simp (disch:=first|omega|(simp only [lens,z6,z7,lQr,lQm,lQt,lQd,z8,zg,zh,zi,zm,zn,zo,lQs,zl,z28];first|done|omega)) only [go_sem,q7]) (by simp (disch:=first|omega|(simp only [lens,z6,z7,lQr,lQm,lQt,lQd,z8,zg,zh,zi,zm,zn,zo,lQs,zl,z28];first|done|omega)) only [go_sem,q11]) (by simp (disch:=first|omega|(simp only [lens,z6,z7,lQr,lQm,lQt,lQd,z8,zg,zh,zi,zm,zn,zo,lQs,zl,z28];first|done|omega)) only [go_sem])
attribute [local irreducible] ze9
theorem zls(L:List (List UInt8))(y:AV)(part how at_:Nat)(b:UInt8)(hy:SlV 1 (strs L) y)(hLl:L.length<=maxLen)(hpt:part<=255)(hhow:how<=255)(hat:at_<=255):
  ACallsTo TC 3 [y,.int .u8 part,.agg [.int .u8 how,.int .u8 at_,.int .u8 (b.toNat:Int)]] [] (.bool true) []:=by
 have r1:=hy.len
 rw [zm]at r1
 unfold z1i at r1
 have hm64:maxLen<9223372036854775808:=by decide
 have hG:=fun O=>zlt O L y hy (by omega)
 refine ACallsTo.of_body q27ok (by simp) fun hw _=> ?_
 by_cases h1:L.length<2
 ·have h1':(L.length:Int)<2:=by omega
  repeat' (first|apply zs_|apply zb_|apply zc_|apply zt_ rfl|apply zf_ rfl|(apply zd_ rfl<;>intro ht<;>try omega)|((first|apply zr_|apply zk_|apply ze_|apply zq_|(apply callW.mk_pu;(first|exact(fun _=>z6f _)))|(apply callW.za;(first|exact(z6f _)))|(apply zG<;>intro ht));all_goals try simp (disch:=first|omega|(simp only [lens,z6,z7,lQr,lQm,lQt,lQd,z8,zg,zh,zi,zm,zn,zo,lQs,zl,z28];first|done|omega)) only [go_sem,r1,h1']))
  exact DownV.pure (τ:=[]) hw (z14 _ rfl)
 have h1':¬(L.length:Int)<2:=by omega
 by_cases h2:12<L.length
 ·have h2':(L.length:Int)>12:=by omega
  repeat' (first|apply zs_|apply zb_|apply zc_|apply zt_ rfl|apply zf_ rfl|(apply zd_ rfl<;>intro ht<;>try omega)|((first|apply zr_|apply zk_|apply ze_|apply zq_|(apply callW.mk_pu;(first|exact(fun _=>z6f _)))|(apply callW.za;(first|exact(z6f _)))|(apply zG<;>intro ht));all_goals try simp (disch:=first|omega|(simp only [lens,z6,z7,lQr,lQm,lQt,lQd,z8,zg,zh,zi,zm,zn,zo,lQs,zl,z28];first|done|omega)) only [go_sem,r1,h1',h2']))
  exact DownV.pure (τ:=[]) hw (z14 _ rfl)
 have h2':¬(L.length:Int)>12:=by omega
 cases hgr:z7f L with
 |true=>
  rw [hgr]at hG
  repeat' (first|apply zs_|apply zb_|apply zc_|apply zt_ rfl|apply zf_ rfl|(apply zd_ rfl<;>intro ht<;>try omega)|((first|apply zr_|apply zk_|apply ze_|apply zq_|(apply callW.mk_pu;(first|exact(fun _=>hG _)|exact(fun _=>z6f _)))|(apply callW.za;(first|exact(hG _)|exact(z6f _)))|(apply zG<;>intro ht));all_goals try simp (disch:=first|omega|(simp only [lens,z6,z7,lQr,lQm,lQt,lQd,z8,zg,zh,zi,zm,zn,zo,lQs,zl,z28];first|done|omega)) only [go_sem,r1,h1',h2']))
  exact DownV.pure (τ:=[]) hw (z14 _ rfl)
 |false=>
 rw [hgr]at hG
 obtain⟨ex,rfl⟩:=hy.vsl (by rw [zm];omega)
 have hLs:=zqz hgr
 have l1:=zm L
 have hMd:=fun O=>zfs O [] (strs L) ex
 have hlm:(L.length:Int)-1=((L.length-1:Nat):Int):=by omega
 have hl0:¬((L.length-1:Nat):Int)=0:=by omega
 have hpm:(part:Int)%((L.length-1:Nat):Int)=((part%(L.length-1):Nat):Int):=by omega
 have hml:=Nat.mod_lt part (y:=L.length-1) (by omega)
 obtain⟨m,hm,hme⟩:∃m:Nat,(1:Int)+((part%(L.length-1):Nat):Int)=m/\ m=1+part%(L.length-1):=⟨1+part%(L.length-1),by omega,rfl⟩
 have hmL:m<=L.length-1:=by omega
 have hm0:¬(m:Int)=0:=by omega
 have hkm:(part:Int)%(m:Int)=((part%m:Nat):Int):=by omega
 have hkl:part%m<L.length:=by have:=Nat.mod_lt part (y:=m) (by omega);omega
 clear hme
 have hg:=zc0 hkl
 rw [show L.getD (part%m) []=stD L (part%m)from rfl]at hg
 have hs2:=hLs _ (zby hkl)
 have hput:=fun s=>zun (L:=L) (k:=part%m) (s:=s)
 have hoth:othL L (part%m)=L.set (part%m) ((stD L (part%m)).take (min (stD L (part%m)).length 100)++ [63]):=rfl
 have hOl:=z28 L (part%m)
 have hOs:∀s ∈ othL L (part%m),s.length<1000000:=by
  intro s hs
  rw [hoth]at hs
  rcases List.mem_or_eq_of_mem_set hs with h|h
  ·have:=hLs s h;omega
  ·rw [h];simp;omega
 have hLv:=fun O=>zfr O L (.vsl 1 (strs L) ex) (.inr ⟨ex,rfl⟩) (fun s hs=>by have:=hLs s hs;omega) (by omega)
 have hPf:=fun O=>zjq O (hb (lvs L)) (z10 32 (hr (lvs L))) (m:Nat) (by rw [z4f];exact z3l _ _) (hb_H _) (by rw [z3x,zn];omega)
 have B:=fun O z P=>znw hw O L (othL L (part%m)) ex how at_ b m z P
 have pl:=zjf (lvs L) (m:Nat)
 rw [zn]at pl
 generalize z10 32 (hr (lvs L))=lv at*
 generalize part%m=k at*
 generalize stD L k=s at*
 have hmin:(if (100:Int)<s.length then(100:Int)else s.length)=((min s.length 100:Nat):Int):=by split<;>omega
 repeat' (first|apply zs_|apply zb_|apply zc_|apply zt_ rfl|apply zf_ rfl|(apply zd_ rfl<;>intro ht<;>try omega)|((first|apply zr_|apply zk_|apply ze_|apply zq_|(apply callW.mk_pu;(first|exact(fun _=>hG _)|exact(fun _=>hMd _)|exact(fun _=>hLv _)))|(apply callW.za;(first|exact(hG _)|exact(hMd _)|exact(hLv _)))|(apply zG<;>intro ht));all_goals try simp (disch:=first|omega|(simp only [lens,z6,z7,lQr,lQm,lQt,lQd,z8,zg,zh,zi,zm,zn,zo,lQs,zl,z28];first|done|omega)) only [go_sem,l1,h1',h2',hlm,hl0,hpm,hm,hm0,hkm,hg,hput,hmin,Int.toNat_natCast]))
 refine callW.mkP (hPf _) ⟨_,_,_,rfl,z6o _ 32 _⟩ ?_
 rintro v O1 ⟨v2,rfl,hO⟩
 rw [<-zbc,z4f]at hO
 have hR:=own6 rfl hO
 obtain⟨news,rfl,-⟩:=hO
 simp (disch:=first|omega|(simp only [lens,z6,z7,lQr,lQm,lQt,lQd,z8,zg,zh,zi,zm,zn,zo,lQs,zl,z28];first|done|omega)) only [go_sem]
 repeat' (first|apply zs_|apply zb_|apply zc_|apply zt_ rfl|apply zf_ rfl|(apply zd_ rfl<;>intro ht<;>try omega)|((first|apply zr_|apply zk_|apply ze_|apply zq_|(apply zG<;>intro ht));all_goals try simp (disch:=first|omega|(simp only [lens,z6,z7,lQr,lQm,lQt,lQd,z8,zg,zh,zi,zm,zn,zo,lQs,zl,z28];first|done|omega)) only [go_sem,l1]))
 exact B _ v2 (z3c (lvs L) m) (by simp) rfl rfl rfl (by rw [hoth];rfl) (by rw [hOl];rfl) hR (by omega) hOl (by omega) (by omega) (by omega) (fun s hs=>by have:=hLs s hs;omega) hOs hhow hat _ (by simp (disch:=first|omega|(simp only [lens,z6,z7,lQr,lQm,lQt,lQd,z8,zg,zh,zi,zm,zn,zo,lQs,zl,z28];first|done|omega)) only [go_sem]) (by simp (disch:=first|omega|(simp only [lens,z6,z7,lQr,lQm,lQt,lQd,z8,zg,zh,zi,zm,zn,zo,lQs,zl,z28];first|done|omega)) only [go_sem]) (by simp (disch:=first|omega|(simp only [lens,z6,z7,lQr,lQm,lQt,lQd,z8,zg,zh,zi,zm,zn,zo,lQs,zl,z28];first|done|omega)) only [go_sem]) (by simp (disch:=first|omega|(simp only [lens,z6,z7,lQr,lQm,lQt,lQd,z8,zg,zh,zi,zm,zn,zo,lQs,zl,z28];first|done|omega)) only [go_sem]) (by simp (disch:=first|omega|(simp only [lens,z6,z7,lQr,lQm,lQt,lQd,z8,zg,zh,zi,zm,zn,zo,lQs,zl,z28];first|done|omega)) only [go_sem]) (by simp (disch:=first|omega|(simp only [lens,z6,z7,lQr,lQm,lQt,lQd,z8,zg,zh,zi,zm,zn,zo,lQs,zl,z28];first|done|omega)) only [go_sem]) (by simp (disch:=first|omega|(simp only [lens,z6,z7,lQr,lQm,lQt,lQd,z8,zg,zh,zi,zm,zn,zo,lQs,zl,z28];first|done|omega)) only [go_sem])
theorem EvidenceCheck_law(avs:List AV)(h:z8r [.sl 1 .str,.int .u8,.row [.int .u8,.int .u8,.int .u8]] avs):ACallsTo TC 3 avs [] (.bool true) []:=by
 simp only [z8r]at h
 obtain⟨_,_,rfl,h0,_,_,rfl,h1,_,_,rfl,h2,rfl⟩:=h
 obtain⟨L,hL,hLl,_⟩:=zuk (by simpa only [Sh]using h0)
 simp only [Sh,ShC]at h1
 obtain⟨c,e,c0,c1⟩:=h1
 cases e
 simp only [Sh,z6a,ShC]at h2
 obtain⟨_,rfl,_,_,rfl,⟨a0,rfl,p1,p2⟩,_,_,rfl,⟨a1,rfl,p3,p4⟩,_,_,rfl,⟨a2,rfl,p5,p6⟩,rfl⟩:=h2
 simp only [IntKind.min,IntKind.max,IntKind.signed,IntKind.bits]at c0 c1 p1 p2 p3 p4 p5 p6
 simp at c0 c1 p1 p2 p3 p4 p5 p6
 obtain⟨c,rfl⟩:∃k:Nat,c=k:=⟨c.toNat,by omega⟩
 obtain⟨a0,rfl⟩:∃k:Nat,a0=k:=⟨a0.toNat,by omega⟩
 obtain⟨a1,rfl⟩:∃k:Nat,a1=k:=⟨a1.toNat,by omega⟩
 obtain⟨a2,rfl⟩:∃k:UInt8,a2=(k.toNat:Int):=⟨UInt8.ofNat a2.toNat,by rw [UInt8.toNat_ofNat'];omega⟩
 exact zls L _ c a0 a1 a2 hL hLl (by omega) (by omega) (by omega)
end
end Am
end Go.Proofs.YtlfpiblipmiobaaDoor
section
/- What a law with the laid tables of sha begins with. -/
namespace Go.Proofs.YtlfpiblipmiobaaDoor.LawDoor
open Go.ChangeShapes Go.WideShapes Go.ChangeAt Go.RowKit
theorem own:ownKnob Tryd.prog.godebug=none:=by kernel_rfl
theorem zqc:laidOutB Tryd.prog=true:=by kernel_rfl
def z9k:List (String × DataW Unit):=[("speculum/sha.first",Rows.laid_speculum_sha_first),("speculum/sha.rounds",Rows.laid_speculum_sha_rounds)]
set_option maxRecDepth 100000
theorem znu(os:Os)(args:Array Value):laidMetH Tryd.prog z9k ((World.doorLaid Tryd.prog 400 os).forCall (fun _ _=>0) ⟨#[],args,[]⟩).memory:=
 laidMetH_of_parts3 (fuel:=8) (laidMet_of_run' 8 (by kernel_rfl) (by kernel_rfl)) (by kernel_rfl) (by kernel_rfl)
theorem rel_of{W:World}(h:laidMetH Tryd.prog z9k W):Am.Rel Am.TC [] [] W:=by
 rw [MakeChecks.laidMetH_plain _ _ _ (by kernel_rfl)]at h
 obtain⟨ps,⟨g0,t0,cs0,f0,p0,q0,hg0,ht0,hv0,hd0,⟨g1,t1,cs1,f1,p1,q1,hg1,ht1,hv1,hd1,_,_⟩,_⟩,_,_⟩:=h
 have v0:=Am.vp_of_var (P:=Tryd.prog) (n:= "speculum/sha.first") (g:=0) (t:=151) (e:=149) (m:=8) (k:=.u32) Am.shaFirst (by kernel_rfl) (by kernel_rfl) (by kernel_rfl) (by kernel_rfl) (by kernel_rfl) (by kernel_rfl) hg0 ht0 hv0 hd0
 have v1:=Am.vp_of_var (P:=Tryd.prog) (n:= "speculum/sha.rounds") (g:=1) (t:=150) (e:=149) (m:=64) (k:=.u32) Am.shaRounds (by kernel_rfl) (by kernel_rfl) (by kernel_rfl) (by kernel_rfl) (by kernel_rfl) (by kernel_rfl) hg1 ht1 hv1 hd1
 refine⟨rfl,fun r o h=>by simp at h,fun r h=>by simp at h,fun r r' pl pl' h=>by simp at h,fun g cs h=> ?_⟩
 simp only [Am.TC]at h
 split at h
 ·rename_i hg;subst hg;cases h;exact v0
 ·split at h
  ·rename_i hg;subst hg;cases h;exact v1
  ·cases h
end Go.Proofs.YtlfpiblipmiobaaDoor.LawDoor
end
