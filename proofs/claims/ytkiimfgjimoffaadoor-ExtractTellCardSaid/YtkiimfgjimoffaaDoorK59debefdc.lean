import Derived.Test.YtkiimfgjimoffaaDoorK430802121
import Derived.Test.YtkiimfgjimoffaaDoorK2edb6b6fb
import Derived.Test.YtkiimfgjimoffaaDoorK3f360a9da
import Derived.Test.YtkiimfgjimoffaaDoorRows
import Derived.Test.YtkiimfgjimoffaaDoorCards
import Derived.Test.YtkiimfgjimoffaaDoorTie
import Derived.ProofKit
import Derived.LaidMore
import Derived.OpenShut
import Derived.Stop.Joined
import Derived.SevenTiedAt
import Derived.MakeChecks
set_option linter.unusedSimpArgs false
set_option linter.unusedVariables false
open Nat (reduceEqDiff reduceAdd reduceMul reduceSub reduceLeDiff)
open Int (reduceToNat reducePow)
open Nat renaming reduceEqDiff -> nQ1, reduceBEq -> nQ2, reduceAdd -> nQ3, reduceMul -> nQ4, reduceSub -> nQ5, reduceLeDiff -> nQ6
open Int renaming reduceToNat -> nQ7, reducePow -> nQ8
open List renaming length_reverse -> lQr, length_map -> lQm, length_take -> lQt, length_drop -> lQd, length_set -> lQs
set_option maxHeartbeats 16000000
attribute [local go_sem_proc] Nat.reduceEqDiff Nat.reduceBEq Nat.reduceAdd Nat.reduceMul Nat.reduceSub Nat.reduceLeDiff Int.reduceToNat Int.reducePow
namespace Go.Proofs.YtkiimfgjimoffaaDoor
namespace Am
section
def mkH(seed:List UInt8)(i:Nat)(M:List (List UInt8)):Hdr:=⟨M.length,zy (lvs M),i,ksgS seed i (digH M.length (zy (lvs M))).1,z1o (keyL seed) i⟩
theorem zb0(seed:List UInt8)(i:Nat):(z1o (keyL seed) i).length=3:=by unfold z1o;rw [List.length_reverse,zhu _ i (z2k seed)]
theorem zop(seed:List UInt8)(i:Nat)(M:List (List UInt8))(hi:i<8)(hM:M.length<=4096):z4k (zy (keyL seed)) (mkH seed i M).n (mkH seed i M).i (mkH seed i M).r (mkH seed i M).s (mkH seed i M).p=0:=by
 have hv:z7x (mkH seed i M).n (mkH seed i M).i (mkH seed i M).s (mkH seed i M).p=true:=decide_eq_true ⟨by simp only [mkH];omega,by simp only [mkH];omega,by simp only [mkH];omega,by simp only [mkH];omega,zat _ _ _,zb0 _ _⟩
 unfold z4k
 rw [hv,if_neg (by simp)]
 exact if_pos (ztd seed i hi _)
def pubN(H:List Hdr):Int:=((H[H.length-1]?).map Hdr.n).getD 0
structure PubOk(seed:List UInt8)(L:List (List UInt8))(H:List Hdr):Prop where
 len:H.length<=8
 at':∀i h,H[i]? =some h->∃n,h=mkH seed i (L.take n)/\ 0<n/\ n<=L.length
 up:∀i h h',H[i]? =some h->H[i+1]? =some h'->h.n<h'.n
theorem PubOk.nil(seed:List UInt8):PubOk seed [] []:=⟨by simp,by simp,by simp⟩
theorem PubOk.app{seed:List UInt8}{L:List (List UInt8)}{H:List Hdr}(h:PubOk seed L H)(M:List (List UInt8)):PubOk seed (L++M) H:=by
 refine⟨h.len,fun i x hx=> ?_,h.up⟩
 obtain⟨n,e,h0,hn⟩:=h.at' i x hx
 exact⟨n,by rw [List.take_append_of_le_length hn];exact e,h0,by rw [List.length_append];omega⟩
theorem PubOk.path{seed:List UInt8}{L:List (List UInt8)}{H:List Hdr}(h:PubOk seed L H):∀x ∈ H,x.p.length<1000000:=by
 intro x hx
 obtain⟨i,hi⟩:=List.mem_iff_getElem?.1 hx
 obtain⟨n,rfl,_,_⟩:=h.at' i x hi
 show (z1o (keyL seed) i).length<1000000
 rw [zb0];omega
def puE(L:List (List UInt8))(H:List Hdr):Int:=if 8<=H.length then 85 else if (L.length:Int)=pubN H then 83 else 0
def puV(seed:List UInt8)(L:List (List UInt8))(H:List Hdr):AV:=.tup [.agg (if puE L H=0 then hdrC (mkH seed H.length L)else sgZ),.int .i64 (puE L H)]
def puH(seed:List UInt8)(L:List (List UInt8))(H:List Hdr):List Hdr:=if puE L H=0 then H++ [mkH seed H.length L]else H
def PublishP(O:Store)(r:Nat)(seed:List UInt8)(L:List (List UInt8))(H:List Hdr)(own:List Nat)(a:AV)(O':Store):Prop:=
 a=puV seed L H/\ ∃own',Fr O O' own own'/\ PubIs O' r seed L (puH seed L H) own'
theorem zne(A B:List Hdr):hdrs (A++B)=hdrs A++hdrs B:=by simp [hdrs]
theorem PublishP.ok{O O':Store}{r t q:Nat}{seed:List UInt8}{L:List (List UInt8)}{H:List Hdr}{lg lv z hs:AV}{sl sv sh:Option Nat}(he:puE L H=0)
  (hg0:O[r]? =some (some [pbC (.ptr t 0 0) lg lv L.length z hs])) (ht0:O[t]? =some (some [z1g true seed (keyL seed)])) (h1:RowAt 1 O sl lg (strs L)) (h2:RowAt 32 O sv lv (hr (lvs L))) (h3:RowAt 36 O sh hs (hdrs H))
  (hg:O'[r]? =some (some [pbC (.ptr t 0 0) lg lv L.length z (.sl q 0 (H.length+1) none 36)])) (hz:SlV 32 (hr (ofR (lvs L)).reverse) z)
  (hq:O'[q]? =some (some (hdrs (H++ [mkH seed H.length L])))) (hqn:O.length<=q) (hle:O.length<=O'.length) (hst:∀j,j<O.length->j ≠ r->sh ≠ some j->O'[j]? =O[j]?):
  PublishP O r seed L H (r::t::(Option.toList sl++(Option.toList sv++Option.toList sh))) (.tup [.agg (hdrC (mkH seed H.length L)),.int .i64 0]) O':=by
 refine⟨by unfold puV;rw [he,if_pos rfl],r::t::(Option.toList sl++(Option.toList sv++Option.toList (some q))),⟨fun j hj hn=> ?_,fun j hj=> ?_,hle⟩,?_⟩
 ·simp only [List.mem_cons,List.mem_append,Option.mem_toList,not_or]at hn
  exact hst j hj hn.1 (fun e=>hn.2.2.2.2 e)
 ·simp only [List.mem_cons,List.mem_append,Option.mem_toList,Option.some.injEq]at hj ⊢
  rcases hj with h|h|h|h|h
  ·exact .inl (.inl h)
  ·exact .inl (.inr (.inl h))
  ·exact .inl (.inr (.inr (.inl h)))
  ·exact .inl (.inr (.inr (.inr (.inl h))))
  ·exact .inr (by omega)
 ·unfold puH
  rw [if_pos he]
  have hne:H++ [mkH seed H.length L] ≠ []:=by simp
  have hpl:(pbC (.ptr t 0 0) lg lv L.length z hs).length=6:=rfl
  have htl:(z1g true seed (keyL seed)).length=258:=by rw [z6w,z2k]
  have hrt:t ≠ r:=z3q ht0 hg0 (a:=z1g true seed (keyL seed)) (b:=pbC (.ptr t 0 0) lg lv L.length z hs) rfl rfl (by omega)
  refine⟨t,lg,lv,z,_,sl,sv,some q,rfl,hg,by rw [hst t (slen ht0) hrt fun e=>h3.ne z62 ht0 (b:=z1g true seed (keyL seed)) rfl (by omega) t e rfl];exact ht0,h1.keep fun j e=>hst j (h1.lt e) ?_ ?_,h2.keep fun j e=>hst j (h2.lt e) ?_ ?_,hz,.inr ⟨q,rfl,zgs hne,?_,hq⟩⟩
  ·exact h1.ne zej hg0 (b:=pbC (.ptr t 0 0) lg lv L.length z hs) rfl (by omega) j e
  ·exact h1.ne2 zej h3 z62 (by omega) j e
  ·exact h2.ne hr_w hg0 (b:=pbC (.ptr t 0 0) lg lv L.length z hs) rfl (by omega) j e
  ·exact h2.ne2 hr_w h3 z62 (by omega) j e
  ·rw [z1k,List.length_append];rfl
theorem PublishP.no{O:Store}{r:Nat}{seed:List UInt8}{L:List (List UInt8)}{H:List Hdr}{own:List Nat}{e:Int}(hT:PubIs O r seed L H own)(he:puE L H=e)(h0:e ≠ 0):PublishP O r seed L H own (.tup [.agg sgZ,.int .i64 e]) O:=by
 subst he
 exact⟨by unfold puV;rw [if_neg h0],own,.ext (.refl _),by unfold puH;rw [if_neg h0];exact hT⟩
theorem PublishP.is{O:Store}{r:Nat}{seed:List UInt8}{L:List (List UInt8)}{H:List Hdr}{own:List Nat}(hT:PubIs O r seed L H own):∃a O',PublishP O r seed L H own a O':=by
 by_cases he:puE L H=0
 ·obtain⟨t,lg,lv,z,hs,sl,sv,sh,rfl,hg,ht,h1,h2,hz,h3⟩:=hT
  have d:=slen hg
  refine⟨_,(O.set r (some [pbC (.ptr t 0 0) lg lv L.length z (.sl O.length 0 (H.length+1) none 36)]))++ [some (hdrs (H++ [mkH seed H.length L]))],.ok (q:=O.length) he hg ht h1 h2 h3 ?_ hz ?_ (Nat.le_refl _) (by simp) fun j hj hjr _=> ?_⟩
  ·rw [gapp (by simpa using d),z33 d]
  ·rw [z1h (by simp)];simp
  ·rw [gapp (by simpa using hj),z1v (fun e=>hjr e.symm)]
 ·exact⟨_,O,.no hT rfl he⟩
@[go_sem] theorem sgC_set33 (n:Int) (r:Hash) (i j:Int) (s u:List UInt8) (x v:AV):(sgC n r i s x).take 33++ .int .i64 j:: .str u::v::(sgC n r i s x).drop 36=sgC n r j u v:=by
 rw [zrz,ze6];rfl
theorem ziz(n:Int)(r:Hash)(i:Int)(s:List UInt8)(x:AV):AV.int .i64 n::(hc r++ [AV.int .i64 i,.str s,x])=sgC n r i s x:=rfl
attribute [local irreducible] ACallsTo ACallsP
theorem zqq(O:Store)(r:Nat)(seed:List UInt8)(L:List (List UInt8))(H:List Hdr)(own:List Nat)(hT:PubIs O r seed L H own)(hok:PubOk seed L H)(hL:L.length<=4096)(hs:seed.length<1000000):
  ACallsP TC 14 [.ptr r 0 0] O (PublishP O r seed L H own):=by
 have hT':=hT
 obtain⟨t,lg,lv,z,hs',sl,sv,sh,rfl,hg,ht,h1,h2,hz,h3⟩:=hT'
 have hp:=hok.path
 have hlen:=hok.len
 have r1:=h1.rd.len
 rw [z8]at r1
 by_cases h8:H.length=8
 ·rcases h3 with⟨_,h0,rfl⟩| ⟨q,rfl,hn,rfl,hgq⟩
  ·have:=congrArg List.length h0
   rw [z1k]at this;simp at this;rw [this]at h8;simp at h8
  ·rw [z1k]at hg
   exact(zqn O r t q lg lv z L.length H hg hgq h8 hp).toP (.no hT (by unfold puE;rw [if_pos (by omega)]) (by omega))
 by_cases hold:(L.length:Int)=pubN H
 ·have he:puE L H=83:=by unfold puE;rw [if_neg (by omega),if_pos hold]
  rcases h3 with⟨_,h0,rfl⟩| ⟨q,rfl,hn,rfl,hgq⟩
  ·have hH:H=[]:=by have:=congrArg List.length h0;rw [z1k]at this;exact List.eq_nil_of_length_eq_zero this
   subst hH
   have hL0:L=[]:=List.eq_nil_of_length_eq_zero (by simp [pubN]at hold;rw [hold];rfl)
   subst hL0
   rcases h1 with⟨_,_,rfl⟩| ⟨_,_,hn,_⟩
   ·exact(zqo O r t lv z _ hg).toP (.no hT he (by omega))
   ·exact absurd rfl hn
  ·have hn0:H ≠ []:=fun e=>hn (by rw [e];rfl)
   rw [z1k]at hg
   refine(zqp O r t q lg lv z L.length H L.length hg hgq hn0 (by omega) hp r1 fun x hx=> ?_).toP (.no hT he (by omega))
   rw [hold];unfold pubN;rw [hx];rfl
 have he:puE L H=0:=by unfold puE;rw [if_neg (by omega),if_neg hold]
 have d:=slen hg
 have d2:=slen ht
 have hg0:=hg
 have hN:=fun y=>z67 (O++y) r t lg lv z hs' L.length (by rw [gapp d];exact hg)
 have c3:=h3.cells
 have zc:=z99 hz
 have hRt:=fun O'=>Root_h O' (L.length:Int) (ofR (lvs L)).reverse z (.of hz) (by rw [List.length_reverse,zax _ (by rw [zh];omega)];have:=zdi 13 (lvs L).length;omega) (by omega)
 have hval:z3x (L.length:Int) (ofR (lvs L)).reverse.length=true:=decide_eq_true ⟨by omega,by omega,by rw [Int.toNat_natCast,pc13 (by omega),List.length_reverse,zax _ (by rw [zh];omega),zh]⟩
 unfold z6r at hRt
 rw [if_neg (by rw [hval];simp),List.reverse_reverse,zhh ((lvs L).length+1) (lvs L) (by omega)]at hRt
 have hD:=fun O=>zeq O (L.length:Int) (zy (lvs L))
 have hS:=fun y=>zt1 (O++y) t seed (keyL seed) H.length (digH L.length (zy (lvs L))) (by rw [gapp d2];exact ht) (z2k seed) (by omega) hs
 have hC:=fun O=>zg8 O L.length (zy (lvs L)) H.length (ksgS seed H.length (digH L.length (zy (lvs L))).1) (z1o (keyL seed) H.length) _ (.of (z4a _ _)) (by rw [zb0];omega)
 have hmk:sgC L.length (zy (lvs L)) H.length (ksgS seed H.length (digH L.length (zy (lvs L))).1) (z18 32 (hr (z1o (keyL seed) H.length)))=hdrC (mkH seed H.length L):=rfl
 have h3':=h3
 have hHn:=fun y=>z94 (O++y) r t H hs' lg lv z L.length (by rw [gapp d];exact hg)
 unfold ze4 at hS
 unfold z1c at r1
 unfold cellsOf at c3 zc
 refine ACallsP.of_keepW zb5 (by simp) fun hw=> ?_
 rcases h3 with⟨rfl,h0,rfl⟩| ⟨q,rfl,hn,rfl,hgq⟩
 ·have hH:H=[]:=by have:=congrArg List.length h0;rw [z1k]at this;exact List.eq_nil_of_length_eq_zero this
  subst hH
  have hL0:¬(L.length:Int)=0:=by simpa [pubN]using hold
  have hH:=fun y=>hHn y (.inl ⟨rfl,rfl⟩) (by simp) hp
  rw [show z18 36 (hdrs [])=.nilsl from rfl]at hH
  unfold pbC at hg
  repeat' (first|apply zs_|apply zb_|apply zc_|apply zt_ rfl|apply zf_ rfl|(apply zd_ rfl<;>intro ht<;>try omega)|((first|apply zr_|apply zk_|apply ze_|apply zq_|(apply callW.mk_pu;(first|exact(fun _=>hN _)|exact(fun _=>hH _)|exact(fun _=>hRt _)|exact(fun _=>hD _)|exact(fun _=>hS _)|exact(fun _=>hC _)))|(apply callW.za;(first|exact(hN _)|exact(hH _)|exact(hRt _)|exact(hD _)|exact(hS _)|exact(hC _)))|(apply zG<;>intro ht));all_goals try simp (disch:=first|omega|(simp only [lens,z7,z6,lQr,lQm,lQt,lQd,zg,z8,zh,z1k,zm];first|done|omega)) only [go_sem,hg,r1,hL0,zc,c3,ziz,ze6]))
  refine PublishP.ok (q:=O.length+3) he hg0 ht h1 h2 h3' ?_ hz ?_ (by omega) (by simp) fun j hj hjr hjs=> ?_
  ·rw [gapp (by simpa using d),z33 d];rfl
  ·rw [z1h (by simp)]
   simp only [List.length_set,Nat.add_sub_cancel_left];rfl
  ·rw [gapp (by simpa using hj),z1v (fun e=>hjr e.symm)]
 ·have h0:H ≠ []:=fun e=>hn (by rw [e];rfl)
  have dq:=slen hgq
  have hl0:H.length ≠ 0:=fun e=>h0 (List.eq_nil_of_length_eq_zero e)
  have hne:hdrs H ≠ []:=zgs h0
  have hdl:=z1k H
  have hgi:=zcx (H:=H) (i:=H.length-1) (by omega)
  have hk':pubN H=(H[H.length-1]'(by omega)).n:=by
   unfold pubN
   rw [List.getElem?_eq_getElem (by omega)];rfl
  rw [hk']at hold
  generalize H[H.length-1]'(by omega)=h at*
  have hc0:(hdrC h)[0]? =some (.int .i64 h.n):=rfl
  have hcl:=zm h
  have hH:=fun y=>hHn y (.inr ⟨q,h0,by rw [hdl],by rw [gapp dq];exact hgq⟩) (by omega) hp
  rw [show z18 36 (hdrs H)=.vsl 36 (hdrs H) false by unfold z18;rw [if_neg hne]]at hH
  have e1:((H.length:Int)-1).toNat=H.length-1:=by omega
  have e8:¬(H.length:Int)>=8:=by omega
  have e0:(H.length:Int)>0:=by omega
  have hqr:q ≠ r:=h3'.ne z62 hg0 (b:=pbC (.ptr t 0 0) lg lv L.length z _) rfl (by simp [pbC]) q rfl
  have hqt:q ≠ t:=h3'.ne z62 ht (b:=z1g true seed (keyL seed)) rfl (by rw [z6w,z2k];omega) q rfl
  have hqr':=hqr.symm
  unfold pbC at hg
  rw [hdl]at hg
  repeat' (first|apply zs_|apply zb_|apply zc_|apply zt_ rfl|apply zf_ rfl|(apply zd_ rfl<;>intro ht<;>try omega)|((first|apply zr_|apply zk_|apply ze_|apply zq_|(apply callW.mk_pu;(first|exact(fun _=>hN _)|exact(fun _=>hH _)|exact(fun _=>hRt _)|exact(fun _=>hD _)|exact(fun _=>hS _)|exact(fun _=>hC _)))|(apply callW.za;(first|exact(hN _)|exact(hH _)|exact(hRt _)|exact(hD _)|exact(hS _)|exact(hC _)))|(apply zG<;>intro ht));all_goals try simp (disch:=first|omega|(simp only [lens,z7,z6,lQr,lQm,lQt,lQd,zg,z8,zh,z1k,zm];first|done|omega)) only [go_sem,hg,hgq,hdl,hgi,hc0,hcl,e1,e8,e0,r1,hold,zc,c3,hqr,hqr',ziz,ze6]))
  refine PublishP.ok (q:=O.length+3) he hg0 ht h1 h2 h3' ?_ hz ?_ (by omega) (by simp) fun j hj hjr hjs=> ?_
  ·rw [gapp (by simpa using d),z33 (by simpa using d)];rfl
  ·rw [z1h (by simp),zne]
   simp only [List.length_set,Nat.add_sub_cancel_left];rfl
  ·rw [gapp (by simpa using hj),z1v (fun e=>hjr e.symm),z1v (fun e=>hjs (by rw [e]))]
end
section
attribute [local irreducible] ACallsTo ACallsP
theorem zql(O:Store)(seed:List UInt8):PubIs (O++ [some [z1g true seed (keyL seed)],some [pbC (.ptr O.length 0 0) .nilsl .nilsl 0 .nilsl .nilsl]]) (O.length+1) seed [] [] [O.length+1,O.length]:=by
 refine⟨O.length,.nilsl,.nilsl,.nilsl,.nilsl,none,none,none,rfl,?_,?_,.inl ⟨rfl,rfl,rfl⟩,.inl ⟨rfl,rfl,rfl⟩,.inl ⟨rfl,rfl⟩,.inl ⟨rfl,rfl,rfl⟩⟩
 ·rw [z1h (by omega),Nat.add_sub_cancel_left];rfl
 ·rw [z1h (by omega),Nat.sub_self];rfl
theorem PubIs.key{O:Store}{r:Nat}{seed:List UInt8}{L:List (List UInt8)}{H:List Hdr}{own:List Nat}(h:PubIs O r seed L H own):ACallsTo TC 16 [.ptr r 0 0] O (.agg (hc (zy (keyL seed)))) O:=by
 obtain⟨t,lg,lv,z,hs,sl,sv,sh,rfl,hg,ht,h1,h2,hz,h3⟩:=h
 exact zqk O r t seed (keyL seed) lg lv z hs L.length hg ht (z2k seed)
theorem PubIs.heads{O:Store}{r:Nat}{seed:List UInt8}{L:List (List UInt8)}{H:List Hdr}{own:List Nat}(h:PubIs O r seed L H own)(hok:PubOk seed L H):ACallsTo TC 17 [.ptr r 0 0] O (z18 36 (hdrs H)) O:=by
 obtain⟨t,lg,lv,z,hs,sl,sv,sh,rfl,hg,ht,h1,h2,hz,h3⟩:=h
 refine z94 O r t H hs lg lv z L.length hg ?_ (by have:=hok.len;omega) hok.path
 rcases h3 with⟨_,e,rfl⟩| ⟨q,_,hn,rfl,hq⟩
 ·refine .inl ⟨?_,rfl⟩
  have:=congrArg List.length e
  rw [z1k]at this
  exact List.eq_nil_of_length_eq_zero this
 ·exact .inr ⟨q,fun e=>hn (by rw [e];rfl),by rw [z1k],hq⟩
end
section
theorem puV_1(seed:List UInt8)(s:List UInt8):puV seed [s] []=.tup [.agg (hdrC (mkH seed 0 [s])),.int .i64 0]/\ puH seed [s] []=[mkH seed 0 [s]]:=by
 have e:puE [s] []=0:=by simp [puE,pubN]
 exact⟨by unfold puV;rw [e,if_pos rfl];rfl,by unfold puH;rw [e,if_pos rfl];rfl⟩
theorem PubOk.one(seed:List UInt8)(s:List UInt8)(M:List (List UInt8)):PubOk seed (s::M) [mkH seed 0 [s]]:=by
 refine⟨by simp,fun i h hi=> ?_,fun i h h' hi hi'=>by simp at hi'⟩
 match i,hi with
 | 0,hi=>
  simp only [List.getElem?_cons_zero,Option.some.injEq]at hi
  exact⟨1,by rw [<-hi];simp,by omega,by simp⟩
 |i+1,hi=>simp at hi
theorem PubOk.none1(seed:List UInt8)(L:List (List UInt8)):PubOk seed L []:=⟨by simp,by simp,by simp⟩
attribute [local irreducible] ACallsTo ACallsP
theorem apE_s{s:List UInt8}(h:s.length<=200):apE s=0:=by unfold apE;rw [if_neg (by omega)]
theorem apL_s{L:List (List UInt8)}{s:List UInt8}(h:s.length<=200):apL L s=L++ [s]:=by unfold apL;rw [if_neg (by omega)]
theorem znd(h:Hdr):(hdrC h).take 36=hdrC h:=List.take_of_length_le (by rw [zm];omega)
end
section
structure Act22 where
 k:Int
 s:List UInt8
attribute [local irreducible] ACallsTo ACallsP
end
section
attribute [local irreducible] ACallsTo ACallsP
end
section
set_option maxRecDepth 10000
def q1rr0:yW:=[
 yI 2 (.mv (.v .nilsl))]
def q1rr1:yW:=[
 yI 3 (.mv (.v .nilsl))]
def q1rr2:yW:=[
 yK 4 .i64 0]
def q1rr3:yW:=[
 yM 5 4,
 yM 6 0,
 yI 7 (.lenSl (.t 6)),
 yB 8 .lss 5 7]
def q1rc4:yX:=.cond (.t 8) .skip (.exit 0)
def q1rc5:yX:=yq q1rr3 q1rc4
def q1rr6:yW:=[
 yM 11 3,
 yM 12 0,
 yM 13 4,
 yI 14 (.iaSl 1 (.t 12) (.t 13)),
 yL 15 false 1 14,
 yC 16 63 15,
 yI 17 (.lit 32 [(.t 16)]),
 yI 18 (.app 32 (.t 11) (.t 17)),
 yM 3 18]
def q1rr7:yW:=[
 yM 9 4,
 yJ 10 .add 9 .i64 1,
 yM 4 10]
def q1rc8:yX:=.seq (.block 1 (.reg q1rr6)) (.reg q1rr7)
def q1rc9:yX:=.seq q1rc5 q1rc8
def q1rc10:yX:=.loop q1rc9
def q1rc11:yX:=.block 0 q1rc10
def q1rc12:yX:=yq q1rr2 q1rc11
def q1rr13:yW:=[
 yM 19 3,
 yM 2 19]
def q1rc14:yX:=yq q1rr13 .ret
def q1rc15:yX:=.seq q1rc12 q1rc14
def q1rc16:yX:=yq q1rr1 q1rc15
def q1rc17:yX:=yq q1rr0 q1rc16
attribute [go_sem] q1rr0 q1rr1 q1rr2 q1rr3 q1rr6 q1rr7 q1rr13
theorem q1rok:cFn TC 45=some (20,[.t 2],q1rc17):=by kernel_rfl
end
section
set_option maxRecDepth 4000
set_option maxRecDepth 100000 in
theorem ev_f:S8.beq (z7d (z6f (102:UInt8).toNat id)) 2192381208150611667427594473366587083052807699354075379043186281341353410927146264730117065591845831692207096806204082163393591730537547710840789 1012187897875713552373248488156890070796477650526504925261970495651979887082645506175929327435100669850817943549956200666992761721241976864112771 1131244515564891089870557259894103610830489205208646919208236544064987527249776979157323544586712374191653298359274863443676535019539043190750092 2706951762891530667580668560970033040293367466901838774145642398406674474412842928430326041731370156625049712991240958478501060050106631887386416 2829227562373710485168842368709694913587081047466582171996034936505616703208266939210631676853736616795783214550420846603013364418667453752014861 1399247737502587415217454973469115184852354804386481290034750632912623513593033831736472516423379328846839337194919154766154030085092508095215241 2521021453635066210198279970639744019072512851320451106472560609505678913635142423840041376623661231624349820581471803714948999745582086751304975 3060345039719366806192694826747512122725155945380505512947414644198849391251683684422388826645195467749445823625721107227382789656480772830403614=true:=by decide+kernel
def kf0:List UInt8:=[120,223,191,213,18,90,0,131,228,30,187,140,19,25,247,48,247,55,248,13,6,7,246,137,73,112,189,15,247,98,28,30]
def kf1:List UInt8:=[156,251,131,183,30,222,0,142,144,242,163,166,238,90,101,188,23,195,21,175,197,65,218,12,35,254,115,55,213,208,154,228]
def kf2:List UInt8:=[92,126,78,44,104,7,133,239,251,177,176,104,126,89,22,72,124,168,186,69,229,78,201,29,231,92,165,12,23,104,96,145]
def kf3:List UInt8:=[251,20,21,165,101,12,18,194,222,0,191,0,233,156,203,178,36,79,171,212,79,72,17,250,78,197,253,115,42,95,233,176]
def kf4:List UInt8:=[251,9,140,57,73,248,101,28,166,182,234,121,94,144,42,145,210,85,66,187,115,70,50,73,50,160,228,249,95,255,39,165]
def kf5:List UInt8:=[135,21,204,99,78,34,72,129,102,130,224,53,94,109,251,74,150,95,171,82,172,97,182,222,100,232,248,199,100,125,177,151]
def kf6:List UInt8:=[186,78,111,48,146,13,46,134,225,85,10,213,174,99,179,227,29,84,69,56,61,231,34,37,52,189,222,50,251,15,130,36]
def kf7:List UInt8:=[179,201,116,69,83,1,58,81,92,196,160,103,221,252,5,66,232,3,0,50,114,190,234,91,206,188,183,213,250,246,239,15]
theorem lf0:(z1r (pubH [102] ((0:Nat):Int))).1=kf0:=by rw [z45 [102] 102 0 rfl,z42 102 id (by decide) ev_f 0 (by omega)];decide+kernel
theorem lf1:(z1r (pubH [102] ((1:Nat):Int))).1=kf1:=by rw [z45 [102] 102 1 rfl,z42 102 id (by decide) ev_f 1 (by omega)];decide+kernel
theorem lf2:(z1r (pubH [102] ((2:Nat):Int))).1=kf2:=by rw [z45 [102] 102 2 rfl,z42 102 id (by decide) ev_f 2 (by omega)];decide+kernel
theorem lf3:(z1r (pubH [102] ((3:Nat):Int))).1=kf3:=by rw [z45 [102] 102 3 rfl,z42 102 id (by decide) ev_f 3 (by omega)];decide+kernel
theorem lf4:(z1r (pubH [102] ((4:Nat):Int))).1=kf4:=by rw [z45 [102] 102 4 rfl,z42 102 id (by decide) ev_f 4 (by omega)];decide+kernel
theorem lf5:(z1r (pubH [102] ((5:Nat):Int))).1=kf5:=by rw [z45 [102] 102 5 rfl,z42 102 id (by decide) ev_f 5 (by omega)];decide+kernel
theorem lf6:(z1r (pubH [102] ((6:Nat):Int))).1=kf6:=by rw [z45 [102] 102 6 rfl,z42 102 id (by decide) ev_f 6 (by omega)];decide+kernel
theorem lf7:(z1r (pubH [102] ((7:Nat):Int))).1=kf7:=by rw [z45 [102] 102 7 rfl,z42 102 id (by decide) ev_f 7 (by omega)];decide+kernel
theorem rt_f:z23 (z23 (z23 kf0 kf1) (z23 kf2 kf3)) (z23 (z23 kf4 kf5) (z23 kf6 kf7)) ≠ List.replicate 32 0:=by decide+kernel
theorem root_f(x:Hash)(hx:x.1=List.replicate 32 0):zy (keyL [102]) ≠ x:=by
 obtain⟨a,b,c,d,e,f,g,h,hK,k0,k1,k2,k3,k4,k5,k6,k7⟩:∃a b c d e f g h:Hash,keyL [102]=[a,b,c,d,e,f,g,h]/\ a.1=kf0/\ b.1=kf1/\ c.1=kf2/\ d.1=kf3/\ e.1=kf4/\ f.1=kf5/\ g.1=kf6/\ h.1=kf7:=
  ⟨_,_,_,_,_,_,_,_,rfl,lf0,lf1,lf2,lf3,lf4,lf5,lf6,lf7⟩
 intro hh
 rw [hK,zdx]at hh
 have h3:=congrArg Subtype.val hh
 simp only [z11]at h3
 rw [k0,k1,k2,k3,k4,k5,k6,k7,hx]at h3
 exact rt_f h3
end
section
def z10(L:List (List UInt8)):List UInt8:=if L.length<2 then 0::stD L 0 else 1::((zy (lvs (L.take (zo L.length)))).1++(zy (lvs (L.drop (zo L.length)))).1)
theorem zom(L:List (List UInt8))(n:Nat):(lvs L).take n=lvs (L.take n):=by simp [lvs,List.map_take]
theorem zol(L:List (List UInt8))(n:Nat):(lvs L).drop n=lvs (L.drop n):=by simp [lvs,List.map_drop]
theorem z9e{L:List (List UInt8)}(h:L.length=1):z10 L=0::stD L 0:=if_pos (by omega)
theorem z9f{L:List (List UInt8)}(h:2<=L.length):z10 L=1::((zy (lvs (L.take (zo L.length)))).1++(zy (lvs (L.drop (zo L.length)))).1):=if_neg (by omega)
theorem zj3{L:List (List UInt8)}(h:0<L.length):shaH (z10 L)=zy (lvs L):=by
 by_cases h1:L.length=1
 ·rw [z9e h1]
  match L,h1 with
  | [s],_=>rfl
 ·have e:=z7n (l:=lvs L) (by rw [zh];omega)
  rw [zh,zom,zol]at e
  rw [z9f (by omega),e]
  rfl
def z3c:Nat->List (List UInt8)->List (List UInt8)->Option (List UInt8 × List UInt8)
 | 0,_,_=>none
 |f+1,a,b=>
  if a.length ≠ b.length \/4096<a.length \/a=b then none
  else if shaH (z10 a) ≠ shaH (z10 b)then none
  else if z10 a ≠ z10 b then some (z10 a,z10 b)
  else if a.take (zo a.length)=b.take (zo a.length)then z3c f (a.drop (zo a.length)) (b.drop (zo a.length))
  else z3c f (a.take (zo a.length)) (b.take (zo a.length))
def z2i(a b:List (List UInt8)):Option (List UInt8 × List UInt8):=z3c (a.length+1) a b
theorem zsu{a b:List (List UInt8)}(h1:a.length=1)(h2:b.length=1)(hn:a ≠ b):z10 a ≠ z10 b:=by
 rw [z9e h1,z9e h2]
 match a,b,h1,h2 with
 | [s],[t],_,_=>
  intro h
  simp only [stD,List.getD_cons_zero,List.cons.injEq,true_and]at h
  exact hn (by rw [h])
theorem zai(f:Nat)(a b:List (List UInt8)):z3c (f+1) a b=
  if a.length ≠ b.length \/4096<a.length \/a=b then none
  else if shaH (z10 a) ≠ shaH (z10 b)then none
  else if z10 a ≠ z10 b then some (z10 a,z10 b)
  else if a.take (zo a.length)=b.take (zo a.length)then z3c f (a.drop (zo a.length)) (b.drop (zo a.length))
  else z3c f (a.take (zo a.length)) (b.take (zo a.length)):=rfl
theorem z8n{a b:List (List UInt8)}(hl:a.length=b.length)(hn:a ≠ b)(ht:z10 a=z10 b):2<=a.length:=by
 rcases Nat.lt_or_ge a.length 2 with h|h
 ·exfalso
  by_cases h1:a.length=1
  ·exact zsu h1 (by omega) hn ht
  ·have e1:a=[]:=List.eq_nil_of_length_eq_zero (by omega)
   have e2:b=[]:=List.eq_nil_of_length_eq_zero (by omega)
   exact hn (by rw [e1,e2])
 ·exact h
theorem zci:∀(f:Nat) (a b:List (List UInt8)),a.length<f->z3c (f+1) a b=z3c f a b
 | 0,a,b,h=>by omega
 |f+1,a,b,h=>by
  rw [zai (f+1) a b,zai f a b]
  by_cases h0:a.length ≠ b.length \/4096<a.length \/a=b
  ·simp only [if_pos h0]
  by_cases h1:shaH (z10 a) ≠ shaH (z10 b)
  ·simp only [if_neg h0,if_pos h1]
  by_cases h2:z10 a ≠ z10 b
  ·simp only [if_neg h0,if_neg h1,if_pos h2]
  simp only [if_neg h0,if_neg h1,if_neg h2]
  simp only [not_or,Decidable.not_not]at h0 h2
  obtain⟨s1,s2,s3⟩:=z3s (z8n h0.1 h0.2.2 h2)
  rw [zci f _ _ (by rw [List.length_drop];omega),zci f _ _ (by rw [List.length_take];omega)]
theorem zfy{f:Nat}{a b:List (List UInt8)}(h:a.length<f):z3c f a b=z2i a b:=by
 unfold z2i
 obtain⟨d,rfl⟩:∃d,f=a.length+1+d:=⟨f-(a.length+1),by omega⟩
 clear h
 induction d with
 |zero=>rfl
 |succ d ih=>rw [<-ih,<-Nat.add_assoc];exact zci _ _ _ (by omega)
theorem zaj(a b:List (List UInt8)):z2i a b=
  if a.length ≠ b.length \/4096<a.length \/a=b then none
  else if shaH (z10 a) ≠ shaH (z10 b)then none
  else if z10 a ≠ z10 b then some (z10 a,z10 b)
  else if a.take (zo a.length)=b.take (zo a.length)then z2i (a.drop (zo a.length)) (b.drop (zo a.length))
  else z2i (a.take (zo a.length)) (b.take (zo a.length)):=by
 have e:z2i a b=z3c (a.length+1) a b:=rfl
 rw [e,zai]
 by_cases h0:a.length ≠ b.length \/4096<a.length \/a=b
 ·simp only [if_pos h0]
 by_cases h1:shaH (z10 a) ≠ shaH (z10 b)
 ·simp only [if_neg h0,if_pos h1]
 by_cases h2:z10 a ≠ z10 b
 ·simp only [if_neg h0,if_neg h1,if_pos h2]
 simp only [if_neg h0,if_neg h1,if_neg h2]
 simp only [not_or,Decidable.not_not]at h0 h2
 obtain⟨s1,s2,s3⟩:=z3s (z8n h0.1 h0.2.2 h2)
 rw [zfy (by rw [List.length_drop];omega),zfy (by rw [List.length_take];omega)]
theorem zcj:∀(f:Nat) (a b:List (List UInt8)),a.length<f->a.length=b.length->a.length<=4096->((z3c f a b).isSome=true ↔ (a ≠ b/\ zy (lvs a)=zy (lvs b)))
 | 0,a,b,h,_,_=>by omega
 |f+1,a,b,h,hl,hm=>by
  rw [zai]
  by_cases he:a=b
  ·rw [if_pos (.inr (.inr he))]
   simp [he]
  rw [if_neg (by simp only [not_or,Decidable.not_not];exact⟨hl,by omega,he⟩)]
  have hp:0<a.length:=by
   rcases Nat.eq_zero_or_pos a.length with h0|h0
   ·exact absurd (by rw [List.eq_nil_of_length_eq_zero h0,List.eq_nil_of_length_eq_zero (l:=b) (by omega)]) he
   ·exact h0
  rw [zj3 hp,zj3 (L:=b) (by omega)]
  by_cases hr:zy (lvs a)=zy (lvs b)
  ·rw [if_neg (by simpa using hr)]
   by_cases ht:z10 a=z10 b
   ·rw [if_neg (by simpa using ht)]
    have h2:=z8n hl he ht
    obtain⟨s1,s2,s3⟩:=z3s h2
    rw [z9f h2,z9f (by omega),<-hl]at ht
    simp only [List.cons.injEq,true_and]at ht
    have ht2:=List.append_inj ht (by rw [(zy _).2,(zy _).2])
    have e1:zy (lvs (a.take (zo a.length)))=zy (lvs (b.take (zo a.length))):=Subtype.ext ht2.1
    have e2:zy (lvs (a.drop (zo a.length)))=zy (lvs (b.drop (zo a.length))):=Subtype.ext ht2.2
    split
    ·rename_i hk
     rw [zcj f _ _ (by rw [List.length_drop];omega) (by rw [List.length_drop,List.length_drop,hl]) (by rw [List.length_drop];omega)]
     constructor
     ·exact fun _=>⟨he,hr⟩
     ·intro _
      refine⟨fun hd=>he ?_,e2⟩
      rw [<-List.take_append_drop (zo a.length) a,<-List.take_append_drop (zo a.length) b,hk,hd]
    ·rename_i hk
     rw [zcj f _ _ (by rw [List.length_take];omega) (by rw [List.length_take,List.length_take,hl]) (by rw [List.length_take];omega)]
     constructor
     ·exact fun _=>⟨he,hr⟩
     ·exact fun _=>⟨hk,e1⟩
   ·rw [if_pos ht]
    simp [he,hr]
  ·rw [if_pos hr]
   simp [hr]
end
section
attribute [local irreducible] ACallsTo ACallsP
end
section
def rfC(seed:List UInt8)(lg hv:AV):List AV:=[.str seed,.vsl 32 (hr (keyL seed)) false,lg,hv]
def RfIs(O:Store)(r:Nat)(seed:List UInt8)(L:List (List UInt8))(H:List Hdr)(own:List Nat):Prop:=
 ∃lg hv sl sh,own=r::(Option.toList sl++Option.toList sh)/\ O[r]? =some (some [rfC seed lg hv])/\ RowAt 1 O sl lg (strs L)/\ RowAt 36 O sh hv (hdrs H)
theorem RfIs.lt{O:Store}{r:Nat}{seed:List UInt8}{L:List (List UInt8)}{H:List Hdr}{own:List Nat}(h:RfIs O r seed L H own){j:Nat}(hj:j ∈ own):j<O.length:=by
 obtain⟨lg,hv,sl,sh,rfl,hg,h1,h2⟩:=h
 simp only [List.mem_cons,List.mem_append,Option.mem_toList]at hj
 rcases hj with rfl|h|h
 ·exact slen hg
 ·exact h1.lt h
 ·exact h2.lt h
theorem RfIs.keep{O O':Store}{r:Nat}{seed:List UInt8}{L:List (List UInt8)}{H:List Hdr}{own:List Nat}(h:RfIs O r seed L H own)(hk:∀j,j ∈ own->O'[j]? =O[j]?):RfIs O' r seed L H own:=by
 obtain⟨lg,hv,sl,sh,rfl,hg,h1,h2⟩:=h
 refine⟨lg,hv,sl,sh,rfl,?_,h1.keep fun q e=>hk q ?_,h2.keep fun q e=>hk q ?_⟩
 ·rw [hk r (by simp)];exact hg
 all_goals simp [e]
theorem RfIs.ext{O O':Store}{r:Nat}{seed:List UInt8}{L:List (List UInt8)}{H:List Hdr}{own:List Nat}(h:RfIs O r seed L H own)(he:Ext O O'):RfIs O' r seed L H own:=by
 obtain⟨y,rfl⟩:=he
 exact h.keep fun j hj=>gapp (h.lt hj)
def RAppendP(O:Store)(r:Nat)(seed:List UInt8)(L:List (List UInt8))(H:List Hdr)(own:List Nat)(s:List UInt8)(a:AV)(O':Store):Prop:=
 a=.int .i64 (apE s)/\ ∃own',Fr O O' own own'/\ RfIs O' r seed (apL L s) H own'
theorem RAppendP.ok{O O':Store}{r q:Nat}{seed:List UInt8}{L:List (List UInt8)}{H:List Hdr}{s:List UInt8}{hv:AV}{sl sh:Option Nat}(h200:¬200<s.length)
  (hg:O'[r]? =some (some [rfC seed (.sl q 0 (L.length+1) none 1) hv])) (h1:O'[q]? =some (some (strs (L++ [s])))) (h2:RowAt 36 O' sh hv (hdrs H)) (hq:O.length<=q) (hle:O.length<=O'.length) (hst:∀j,j<O.length->j ≠ r->O'[j]? =O[j]?):
  RAppendP O r seed L H (r::(Option.toList sl++Option.toList sh)) s (.int .i64 0) O':=by
 refine⟨by unfold apE;rw [if_neg h200],r::(Option.toList (some q)++Option.toList sh),⟨fun j hj hn=> ?_,fun j hj=> ?_,hle⟩,?_⟩
 ·simp only [List.mem_cons,List.mem_append,Option.mem_toList,not_or]at hn
  exact hst j hj hn.1
 ·simp only [List.mem_cons,List.mem_append,Option.mem_toList,Option.some.injEq]at hj ⊢
  rcases hj with h|h|h
  ·exact .inl (.inl h)
  ·exact .inr (by omega)
  ·exact .inl (.inr (.inr h))
 ·unfold apL
  rw [if_neg h200]
  exact⟨_,hv,some q,sh,rfl,hg,.inr ⟨q,rfl,zei (by simp),by rw [z8,List.length_append];rfl,h1⟩,h2⟩
theorem zrb(seed:List UInt8)(lg hv:AV):(rfC seed lg hv).length=4:=rfl
theorem RAppendP.is{O:Store}{r:Nat}{seed:List UInt8}{L:List (List UInt8)}{H:List Hdr}{own:List Nat}{s:List UInt8}(hT:RfIs O r seed L H own):∃a O',RAppendP O r seed L H own s a O':=by
 by_cases h:200<s.length
 ·exact⟨_,O,rfl,own,.ext (.refl _),by unfold apL;rw [if_pos h];exact hT⟩
 ·obtain⟨lg,hv,sl,sh,rfl,hg,h1,h2⟩:=hT
  have d:=slen hg
  have hst:∀j,j<O.length->j ≠ r->((O.set r (some [rfC seed (.sl O.length 0 (L.length+1) none 1) hv]))++ [some (strs (L++ [s]))])[j]? =O[j]?:=fun j hj hjr=>by
   rw [gapp (by simpa using hj),z1v (fun e=>hjr e.symm)]
  refine⟨_,(O.set r (some [rfC seed (.sl O.length 0 (L.length+1) none 1) hv]))++ [some (strs (L++ [s]))],.ok (q:=O.length) h ?_ ?_ (h2.keep fun j e=>hst j (h2.lt e) (h2.ne z62 hg (b:=rfC seed lg hv) rfl (by rw [zrb];omega) j e)) (Nat.le_refl _) (by simp) hst⟩
  ·rw [gapp (by simpa using d),z33 d]
  ·rw [z1h (by simp)];simp
attribute [local irreducible] ACallsTo ACallsP
theorem zif(O:Store)(L:List (List UInt8))(y:AV)(hy:SlV 1 (strs L) y)(hL:∀s ∈ L,s.length<1000000)(hl:L.length<1000000):ACallsTo TC 45 [y] O (z18 32 (hr (lvs L))) O:=by
 have r1:=hy.len
 rw [z8]at r1
 unfold z1c at r1
 refine ACallsTo.of_body q1rok (by simp) fun hw _=> ?_
 repeat' (first|apply zs_|apply zb_|apply zc_|apply zt_ rfl|apply zf_ rfl|(apply zd_ rfl<;>intro ht<;>try omega)|((first|apply zr_|apply zk_|apply ze_|apply zq_|(apply zG<;>intro ht));all_goals try simp (disch:=first|omega|(simp only [lens,z7,z6,lQr,lQm,lQt,lQd,zg,z8,zh,z1k,zm];first|done|omega)) only [go_sem,r1]))
 refine zW.loop (fun m Z O'=>∃(i:Nat) (v:AV),m+i=L.length/\ OwnN 32 O O' v (hr (lvs (L.take i)))/\ Z 0=y/\ Z 3=v/\ Z 4=.int .i64 i) L.length ?_ ?_
 ·refine⟨0,.nilsl,by omega,?_,by simp (disch:=first|omega|(simp only [lens,z7,z6,lQr,lQm,lQt,lQd,zg,z8,zh,z1k,zm];first|done|omega)) only [go_sem],by simp (disch:=first|omega|(simp only [lens,z7,z6,lQr,lQm,lQt,lQd,zg,z8,zh,z1k,zm];first|done|omega)) only [go_sem],by simp (disch:=first|omega|(simp only [lens,z7,z6,lQr,lQm,lQt,lQd,zg,z8,zh,z1k,zm];first|done|omega)) only [go_sem];rfl⟩
  exact⟨[],by simp,.inl ⟨by simp [lvs,hr],rfl⟩⟩
 ·rintro m Z O' ⟨i,v,hm,hO,q0,q3,q4⟩
  by_cases hi:i<L.length
  ·obtain⟨ex,rfl⟩:=hy.vsl (by rw [z8];omega)
   have hg:=z5s hi
   have hLf:=fun O=>zr3 O (stD L i) (by have:=hL _ (z9b hi);omega)
   obtain⟨v',O2,ha,hO2⟩:=hO.app (ys:=[hc (lfH (stD L i))]) (by simp) (by rw [z6,zh,List.length_take];simp;omega)
   have hcat:hr (lvs (L.take i))++ [hc (lfH (stD L i))]=hr (lvs (L.take (i+1))):=by rw [z9d hi];simp [lvs,hr]
   rw [hcat]at hO2
   rw [show L.getD i []=stD L i from rfl]at hg
   generalize stD L i=s at*
   repeat' (first|apply zs_|apply zb_|apply zc_|apply zt_ rfl|apply zf_ rfl|(apply zd_ rfl<;>intro ht<;>try omega)|((first|apply zr_|apply zk_|apply ze_|apply zq_|(apply callW.mk_pu;(first|exact(fun _=>hLf _)))|(apply callW.za;(first|exact(hLf _)))|(apply zG<;>intro ht));all_goals try simp (disch:=first|omega|(simp only [lens,z7,z6,lQr,lQm,lQt,lQd,zg,z8,zh,z1k,zm];first|done|omega)) only [go_sem,q0,q3,q4,hg,r1,ha]))
   exact⟨m-1,by omega,i+1,v',by omega,hO2,by simp⟩
  ·obtain rfl:i=L.length:=by omega
   rw [List.take_of_length_le (Nat.le_refl _)]at hO
   repeat' (first|apply zs_|apply zb_|apply zc_|apply zt_ rfl|apply zf_ rfl|(apply zd_ rfl<;>intro ht<;>try omega)|((first|apply zr_|apply zk_|apply ze_|apply zq_|(apply zG<;>intro ht));all_goals try simp (disch:=first|omega|(simp only [lens,z7,z6,lQr,lQm,lQt,lQd,zg,z8,zh,z1k,zm];first|done|omega)) only [go_sem,q0,q3,q4,r1]))
   exact hO.froze hw (z30 _)
end
section
set_option maxRecDepth 10000
def q1sr0:yW:=[
 yI 4 (.mv (.v (.bool false)))]
def q1sr1:yW:=[
 yM 11 0,
 yC 12 5 11,
 yM 13 12,
 yV 14 13 false 1,
 yG 15 13 false (.call (.v (.fn 5 [])) [(.t 14)]),
 yP 16 13 15]
def q1sr2:yW:=[
 yI 17 (.call (.v (.fn 6 [])) []),
 yM 4 17]
def q1sc3:yX:=yq q1sr2 .ret
def q1sc4:yX:=.cond (.t 16) q1sc3 .skip
def q1sc5:yX:=yq q1sr1 q1sc4
def q1sr6:yW:=[
 yM 19 0,
 yM 20 1,
 yD 21 7 19 20,
 yM 18 21,
 yE 22 0 18,
 yE 23 1 18,
 yE 24 2 18,
 yM 5 22,
 yM 6 23,
 yM 7 24]
def q1sr7:yW:=[
 yM 26 0,
 yM 27 1,
 yD 28 8 26 27,
 yM 25 28,
 yE 29 0 25,
 yE 30 1 25,
 yE 31 2 25,
 yM 8 29,
 yM 9 30,
 yM 10 31]
def q1sr8:yW:=[
 yM 32 5,
 yM 33 8,
 yB 34 .eql 32 33,
 yM 35 34,
 yV 36 35 true 6,
 yV 37 35 true 9,
 yG 38 35 true (.bin .eql .none (.t 36) (.t 37)),
 yQ 39 35 38,
 yM 40 39,
 yV 41 40 true 7,
 yV 42 40 true 10,
 yG 43 40 true (.bin .eql .bool (.t 41) (.t 42)),
 yQ 44 40 43,
 yM 45 44,
 yG 46 45 true (.call (.v (.fn 6 [])) []),
 yQ 47 45 46,
 yM 4 47]
def q1sc9:yX:=yq q1sr8 .ret
def q1sc10:yX:=yq q1sr7 q1sc9
def q1sc11:yX:=yq q1sr6 q1sc10
def q1sc12:yX:=.seq q1sc5 q1sc11
def q1sc13:yX:=yq q1sr0 q1sc12
attribute [go_sem] q1sr0 q1sr1 q1sr2 q1sr6 q1sr7 q1sr8
theorem q1sok:cFn TC 3=some (48,[.t 4],q1sc13):=by kernel_rfl
def q1tr0:yW:=[
 yI 0 (.mv (.v (.bool false)))]
def q1tr1:yW:=[
 yI 15 (.lit 1 [(.v (.str [97])),(.v (.str [98]))]),
 yI 16 (.lit 1 [(.v (.str [97])),(.v (.str [98]))]),
 yD 17 7 15 16,
 yM 14 17,
 yE 18 0 14,
 yE 19 1 14,
 yE 20 2 14,
 yM 1 18,
 yM 2 19,
 yM 3 20]
def q1tr2:yW:=[
 yI 22 (.lit 1 [(.v (.str [97])),(.v (.str [98]))]),
 yI 23 (.lit 1 [(.v (.str [97])),(.v (.str [99]))]),
 yD 24 7 22 23,
 yM 21 24,
 yE 25 0 21,
 yE 26 1 21,
 yE 27 2 21,
 yM 4 25,
 yM 5 26,
 yM 6 27]
def q1tr3:yW:=[
 yI 29 (.lit 1 [(.v (.str [97]))]),
 yI 30 (.call (.v (.fn 7 [])) [(.v .nilsl),(.t 29)]),
 yM 28 30,
 yE 31 0 28,
 yE 32 1 28,
 yE 33 2 28,
 yM 7 31,
 yM 8 32,
 yM 9 33]
def q1tr4:yW:=[
 yI 34 (.call (.v (.fn 12 [])) [(.v (.str [102]))]),
 yM 10 34]
def q1tr5:yW:=[
 yM 35 10,
 yI 36 (.call (.v (.fn 13 [])) [(.t 35),(.v (.str [97]))]),
 yM 11 36]
def q1tr6:yW:=[
 yM 38 10,
 yC 39 14 38,
 yM 37 39,
 yE 40 0 37,
 yE 41 1 37,
 yI 12 (.alloc [(.int .i64 0),(.int .u8 0),(.int .u8 0),(.int .u8 0),(.int .u8 0),(.int .u8 0),(.int .u8 0),(.int .u8 0),(.int .u8 0),(.int .u8 0),(.int .u8 0),(.int .u8 0),(.int .u8 0),(.int .u8 0),(.int .u8 0),(.int .u8 0),(.int .u8 0),(.int .u8 0),(.int .u8 0),(.int .u8 0),(.int .u8 0),(.int .u8 0),(.int .u8 0),(.int .u8 0),(.int .u8 0),(.int .u8 0),(.int .u8 0),(.int .u8 0),(.int .u8 0),(.int .u8 0),(.int .u8 0),(.int .u8 0),(.int .u8 0),(.int .i64 0),(.str []),.nilsl]),
 yS 36 12 40,
 yM 13 41]
def q1tr7:yW:=[
 yM 42 3,
 yI 43 (.un .not (.t 42)),
 yM 44 43,
 yV 45 44 true 6,
 yG 46 44 true (.un .not (.t 45)),
 yQ 47 44 46,
 yM 48 47,
 yV 49 48 true 9,
 yG 50 48 true (.un .not (.t 49)),
 yQ 51 48 50,
 yM 52 51,
 yV 53 52 true 11,
 yG 54 52 true (.bin .eql .none (.t 53) (.v (.int .i64 0))),
 yQ 55 52 54,
 yM 56 55,
 yV 57 56 true 13,
 yG 58 56 true (.bin .eql .none (.t 57) (.v (.int .i64 0))),
 yQ 59 56 58,
 yM 60 59,
 yV 61 60 true 10,
 ⟨some 62,some (60,true),.ef,.call (.v (.fn 16 [])) [(.t 61)]⟩,
 ⟨some 63,some (60,true),.rd,.load true 36 (.t 12)⟩,
 yV 64 60 true 10,
 ⟨some 65,some (60,true),.ef,.call (.v (.fn 17 [])) [(.t 64)]⟩,
 yG 66 60 true (.call (.v (.fn 18 [])) [(.t 62),(.t 63),(.t 65)]),
 yG 67 60 true (.un .not (.t 66)),
 yQ 68 60 67,
 yM 69 68,
 yV 70 69 true 10,
 ⟨some 71,some (69,true),.ef,.call (.v (.fn 16 [])) [(.t 70)]⟩,
 ⟨some 72,some (69,true),.rd,.load true 36 (.t 12)⟩,
 yG 73 69 true (.call (.v (.fn 18 [])) [(.t 71),(.t 72),(.v .nilsl)]),
 yQ 74 69 73,
 yM 75 74,
 yG 76 75 true (.build zZ0 []),
 yU 77 75 true true 36 12,
 yG 78 75 true (.call (.v (.fn 18 [])) [(.t 76),(.t 77),(.v .nilsl)]),
 yG 79 75 true (.un .not (.t 78)),
 yQ 80 75 79,
 yM 0 80]
def q1tc8:yX:=yq q1tr7 .ret
def q1tc9:yX:=yq q1tr6 q1tc8
def q1tc10:yX:=yq q1tr5 q1tc9
def q1tc11:yX:=yq q1tr4 q1tc10
def q1tc12:yX:=yq q1tr3 q1tc11
def q1tc13:yX:=yq q1tr2 q1tc12
def q1tc14:yX:=yq q1tr1 q1tc13
def q1tc15:yX:=yq q1tr0 q1tc14
attribute [go_sem] q1tr0 q1tr1 q1tr2 q1tr3 q1tr4 q1tr5 q1tr6 q1tr7
theorem q1tok:cFn TC 6=some (81,[.t 0],q1tc15):=by kernel_rfl
def q1ur0:yW:=[
 yI 4 (.mv (.v (.str []))),
 yI 5 (.mv (.v (.str []))),
 yI 6 (.mv (.v (.bool false)))]
def q1ur1:yW:=[
 yM 13 0,
 yI 14 (.lenSl (.t 13)),
 yJ 15 .gtr 14 .i64 0,
 yM 16 15,
 yV 17 16 true 0,
 yG 18 16 true (.lenSl (.t 17)),
 yV 19 16 true 1,
 yG 20 16 true (.lenSl (.t 19)),
 yG 21 16 true (.bin .eql .none (.t 18) (.t 20)),
 yQ 22 16 21,
 yM 23 22,
 yV 24 23 true 0,
 yG 25 23 true (.lenSl (.t 24)),
 yG 26 23 true (.bin .leq .none (.t 25) (.v (.int .i64 4096))),
 yQ 27 23 26,
 yM 28 27,
 yV 29 28 true 0,
 yV 30 28 true 1,
 yG 31 28 true (.call (.v (.fn 19 [])) [(.t 29),(.t 30)]),
 yG 32 28 true (.un .not (.t 31)),
 yQ 33 28 32]
def q1uc2:yX:=.cond (.t 33) .skip (.exit 0)
def q1uc3:yX:=yq q1ur1 q1uc2
def q1ur4:yW:=[
 yM 35 0,
 yC 36 20 35,
 yM 34 36,
 yE 37 0 34,
 yE 38 1 34,
 yE 39 2 34,
 yM 7 37,
 yM 8 38,
 yM 9 39]
def q1ur5:yW:=[
 yM 41 1,
 yC 42 20 41,
 yM 40 42,
 yE 43 0 40,
 yE 44 1 40,
 yE 45 2 40,
 yM 10 43,
 yM 11 44,
 yM 12 45]
def q1ur6:yW:=[
 yM 49 7,
 yC 50 21 49,
 yM 51 10,
 yC 52 21 51,
 yI 53 (.bin .neq (.agg (List.replicate 32 (.i .u8)++ [])) (.t 50) (.t 52)),
 yM 48 53]
def q1ur7:yW:=[
 yI 4 (.mv (.v (.str []))),
 yI 5 (.mv (.v (.str []))),
 yI 6 (.mv (.v (.bool false)))]
def q1uc8:yX:=yq q1ur7 .ret
def q1ur9:yW:=[
 yM 55 7,
 yM 56 10,
 yB 57 .neq 55 56,
 yM 54 57]
def q1ur10:yW:=[
 yM 58 7,
 yM 59 10,
 yM 4 58,
 yM 5 59,
 yI 6 (.mv (.v (.bool true)))]
def q1uc11:yX:=yq q1ur10 .ret
def q1ur12:yW:=[
 yM 61 8,
 yM 62 11,
 yD 63 19 61 62,
 yM 60 63]
def q1ur13:yW:=[
 yM 64 9,
 yM 65 12,
 yM 0 64,
 yM 1 65]
def q1ur14:yW:=[
 yM 46 8,
 yM 47 11,
 yM 0 46,
 yM 1 47]
def q1uc15:yX:=.cond (.t 60) (.reg q1ur13) (.reg q1ur14)
def q1uc16:yX:=yq q1ur12 q1uc15
def q1uc17:yX:=.cond (.t 54) q1uc11 q1uc16
def q1uc18:yX:=yq q1ur9 q1uc17
def q1uc19:yX:=.cond (.t 48) q1uc8 q1uc18
def q1uc20:yX:=yq q1ur6 q1uc19
def q1uc21:yX:=.block 2 q1uc20
def q1uc22:yX:=yq q1ur5 q1uc21
def q1uc23:yX:=yq q1ur4 q1uc22
def q1uc24:yX:=.block 1 q1uc23
def q1uc25:yX:=.seq q1uc3 q1uc24
def q1uc26:yX:=.loop q1uc25
def q1ur27:yW:=[
 yI 4 (.mv (.v (.str []))),
 yI 5 (.mv (.v (.str []))),
 yI 6 (.mv (.v (.bool false)))]
def q1uc28:yX:=yq q1ur27 .ret
def q1uc29:yX:=.seq (.block 0 q1uc26) q1uc28
def q1uc30:yX:=yq q1ur0 q1uc29
attribute [go_sem] q1ur0 q1ur1 q1ur4 q1ur5 q1ur6 q1ur7 q1ur9 q1ur10 q1ur12 q1ur13 q1ur14 q1ur27
theorem q1uok:cFn TC 7=some (66,[.t 4,.t 5,.t 6],q1uc30):=by kernel_rfl
def q1vr0:yW:=[
 yI 4 (.mv (.v (.str []))),
 yI 5 (.mv (.v (.str []))),
 yI 6 (.mv (.v (.bool false)))]
def q1vr1:yW:=[
 yM 10 0,
 yI 11 (.lenSl (.t 10)),
 yM 12 1,
 yI 13 (.lenSl (.t 12)),
 yB 14 .neq 11 13,
 yM 15 14,
 yV 16 15 false 0,
 yG 17 15 false (.lenSl (.t 16)),
 yG 18 15 false (.bin .gtr .none (.t 17) (.v (.int .i64 4096))),
 yP 19 15 18,
 yM 20 19,
 yV 21 20 false 0,
 yV 22 20 false 1,
 yG 23 20 false (.call (.v (.fn 22 [])) [(.t 21),(.t 22)]),
 yP 24 20 23]
def q1vr2:yW:=[
 yI 4 (.mv (.v (.str []))),
 yI 5 (.mv (.v (.str []))),
 yI 6 (.mv (.v (.bool false)))]
def q1vc3:yX:=yq q1vr2 .ret
def q1vc4:yX:=.cond (.t 24) q1vc3 .skip
def q1vc5:yX:=yq q1vr1 q1vc4
def q1vr6:yW:=[
 yM 25 0,
 yC 26 23 25,
 yM 27 1,
 yC 28 23 27,
 yM 7 26,
 yM 8 28]
def q1vr7:yW:=[
 yM 29 7,
 yC 30 24 29,
 yM 31 8,
 yC 32 24 31,
 yI 33 (.bin .neq (.agg (List.replicate 32 (.i .u8)++ [])) (.t 30) (.t 32))]
def q1vr8:yW:=[
 yI 4 (.mv (.v (.str []))),
 yI 5 (.mv (.v (.str []))),
 yI 6 (.mv (.v (.bool false)))]
def q1vc9:yX:=yq q1vr8 .ret
def q1vc10:yX:=.cond (.t 33) q1vc9 .skip
def q1vc11:yX:=yq q1vr7 q1vc10
def q1vr12:yW:=[
 yM 34 7,
 yM 35 8,
 yB 36 .neq 34 35]
def q1vr13:yW:=[
 yM 37 7,
 yM 38 8,
 yM 4 37,
 yM 5 38,
 yI 6 (.mv (.v (.bool true)))]
def q1vc14:yX:=yq q1vr13 .ret
def q1vc15:yX:=.cond (.t 36) q1vc14 .skip
def q1vc16:yX:=yq q1vr12 q1vc15
def q1vr17:yW:=[
 yM 39 0,
 yI 40 (.lenSl (.t 39)),
 yC 41 25 40,
 yM 9 41]
def q1vr18:yW:=[
 yM 42 0,
 yM 43 9,
 yI 44 (.slice (.sl 1) (.t 42) none (some (.t 43)) none),
 yM 45 1,
 yM 46 9,
 yI 47 (.slice (.sl 1) (.t 45) none (some (.t 46)) none),
 yD 48 22 44 47]
def q1vr19:yW:=[
 yM 49 0,
 yM 50 9,
 yI 51 (.slice (.sl 1) (.t 49) (some (.t 50)) none none),
 yM 52 1,
 yM 53 9,
 yI 54 (.slice (.sl 1) (.t 52) (some (.t 53)) none none),
 yD 55 8 51 54,
 yE 56 0 55,
 yE 57 1 55,
 yE 58 2 55,
 yM 4 56,
 yM 5 57,
 yM 6 58]
def q1vc20:yX:=yq q1vr19 .ret
def q1vc21:yX:=.cond (.t 48) q1vc20 .skip
def q1vc22:yX:=yq q1vr18 q1vc21
def q1vr23:yW:=[
 yM 59 0,
 yM 60 9,
 yI 61 (.slice (.sl 1) (.t 59) none (some (.t 60)) none),
 yM 62 1,
 yM 63 9,
 yI 64 (.slice (.sl 1) (.t 62) none (some (.t 63)) none),
 yD 65 8 61 64,
 yE 66 0 65,
 yE 67 1 65,
 yE 68 2 65,
 yM 4 66,
 yM 5 67,
 yM 6 68]
def q1vc24:yX:=yq q1vr23 .ret
def q1vc25:yX:=.seq q1vc22 q1vc24
def q1vc26:yX:=yq q1vr17 q1vc25
def q1vc27:yX:=.seq q1vc16 q1vc26
def q1vc28:yX:=.seq q1vc11 q1vc27
def q1vc29:yX:=yq q1vr6 q1vc28
def q1vc30:yX:=.seq q1vc5 q1vc29
def q1vc31:yX:=yq q1vr0 q1vc30
attribute [go_sem] q1vr0 q1vr1 q1vr2 q1vr6 q1vr7 q1vr8 q1vr12 q1vr13 q1vr17 q1vr18 q1vr19 q1vr23
theorem q1vok:cFn TC 8=some (69,[.t 4,.t 5,.t 6],q1vc31):=by kernel_rfl
def q1wr0:yW:=[
 yI 3 (.box (.t 0)),
 yI 4 (.box (.t 1)),
 yI 6 (.mv (.v (.bool false)))]
def q1wr1:yW:=[
 yL 7 true 32 3,
 yL 8 true 36 4,
 yD 9 37 7 8,
 yJ 10 .eql 9 .i64 0,
 yM 11 10,
 yV 12 11 true 2,
 yG 13 11 true (.mkfn 39 [(.t 4)]),
 yG 14 11 true (.call (.v (.fn 38 [])) [(.t 12),(.t 13)]),
 yG 15 11 true (.un .not (.t 14)),
 yQ 16 11 15,
 yM 6 16]
def q1wc2:yX:=yq q1wr1 .ret
def q1wc3:yX:=yq q1wr0 q1wc2
attribute [go_sem] q1wr0 q1wr1
theorem q1wok:cFn TC 18=some (17,[.t 6],q1wc3):=by kernel_rfl
def q1xr0:yW:=[
 yI 4 (.mv (.v (.bool false)))]
def q1xr1:yW:=[
 yM 6 0,
 yI 7 (.lenSl (.t 6)),
 yM 8 1,
 yI 9 (.lenSl (.t 8)),
 yB 10 .neq 7 9]
def q1xr2:yW:=[
 yI 4 (.mv (.v (.bool false)))]
def q1xc3:yX:=yq q1xr2 .ret
def q1xc4:yX:=.cond (.t 10) q1xc3 .skip
def q1xc5:yX:=yq q1xr1 q1xc4
def q1xr6:yW:=[
 yM 11 0,
 yI 12 (.lenSl (.t 11)),
 yK 13 .i64 0]
def q1xr7:yW:=[
 yB 14 .lss 13 12]
def q1xr8:yW:=[
 yM 15 13,
 yM 5 15]
def q1xr9:yW:=[
 yM 16 0,
 yM 17 5,
 yI 18 (.iaSl 1 (.t 16) (.t 17)),
 ⟨some 19,none,.rd,.load false 1 (.t 18)⟩,
 yM 20 1,
 yM 21 5,
 yI 22 (.iaSl 1 (.t 20) (.t 21)),
 ⟨some 23,none,.rd,.load false 1 (.t 22)⟩,
 yB 24 .neq 19 23]
def q1xr10:yW:=[
 yI 4 (.mv (.v (.bool false)))]
def q1xc11:yX:=yq q1xr10 .ret
def q1xc12:yX:=.cond (.t 24) q1xc11 .skip
def q1xc13:yX:=yq q1xr9 q1xc12
def q1xc14:yX:=yq q1xr8 q1xc13
def q1xr15:yW:=[
 yJ 25 .add 13 .i64 1,
 yM 13 25]
def q1xc16:yX:=.seq (.block 1 q1xc14) (.reg q1xr15)
def q1xc17:yX:=.seq (.cond (.t 14) .skip (.exit 0)) q1xc16
def q1xc18:yX:=yq q1xr7 q1xc17
def q1xc19:yX:=.loop q1xc18
def q1xc20:yX:=.block 0 q1xc19
def q1xc21:yX:=yq q1xr6 q1xc20
def q1xr22:yW:=[
 yI 4 (.mv (.v (.bool true)))]
def q1xc23:yX:=yq q1xr22 .ret
def q1xc24:yX:=.seq q1xc21 q1xc23
def q1xc25:yX:=.seq q1xc5 q1xc24
def q1xc26:yX:=yq q1xr0 q1xc25
attribute [go_sem] q1xr0 q1xr1 q1xr2 q1xr6 q1xr7 q1xr8 q1xr9 q1xr10 q1xr15 q1xr22
theorem q1xok:cFn TC 19=some (26,[.t 4],q1xc26):=by kernel_rfl
def q1yr0:yW:=[
 yI 2 (.mv (.v (.str []))),
 yI 3 (.mv (.v .nilsl)),
 yI 4 (.mv (.v .nilsl))]
def q1yr1:yW:=[
 yM 8 0,
 yI 9 (.lenSl (.t 8)),
 yJ 10 .lss 9 .i64 2]
def q1yr2:yW:=[
 yM 11 0,
 yI 12 (.iaSl 1 (.t 11) (.v (.int .i64 0))),
 yL 13 false 1 12,
 yI 14 (.bin .add .none (.v (.str [0])) (.t 13)),
 yM 2 14,
 yI 3 (.mv (.v .nilsl)),
 yI 4 (.mv (.v .nilsl))]
def q1yc3:yX:=yq q1yr2 .ret
def q1yc4:yX:=.cond (.t 10) q1yc3 .skip
def q1yc5:yX:=yq q1yr1 q1yc4
def q1yr6:yW:=[
 yM 15 0,
 yI 16 (.lenSl (.t 15)),
 yC 17 27 16,
 yM 5 17]
def q1yr7:yW:=[
 yM 18 0,
 yM 19 5,
 yI 20 (.slice (.sl 1) (.t 18) none (some (.t 19)) none),
 yM 21 0,
 yM 22 5,
 yI 23 (.slice (.sl 1) (.t 21) (some (.t 22)) none none),
 yM 3 20,
 yM 4 23]
def q1yr8:yW:=[
 yM 24 3,
 yC 25 40 24,
 yM 26 4,
 yC 27 40 26,
 yI 6 (.alloc zZ0),
 yI 7 (.alloc zZ0),
 yS 32 6 25,
 yS 32 7 27]
def q1yr9:yW:=[
 yI 28 (.slice (.arr 32 1) (.t 6) none none none),
 ⟨some 29,none,.same,.conv .str (.t 28)⟩,
 yI 30 (.bin .add .none (.v (.str [1])) (.t 29)),
 yI 31 (.slice (.arr 32 1) (.t 7) none none none),
 ⟨some 32,none,.same,.conv .str (.t 31)⟩,
 yB 33 .add 30 32,
 yM 34 3,
 yM 35 4,
 yM 2 33,
 yM 3 34,
 yM 4 35]
def q1yc10:yX:=yq q1yr9 .ret
def q1yc11:yX:=yq q1yr8 q1yc10
def q1yc12:yX:=yq q1yr7 q1yc11
def q1yc13:yX:=yq q1yr6 q1yc12
def q1yc14:yX:=.seq q1yc5 q1yc13
def q1yc15:yX:=yq q1yr0 q1yc14
attribute [go_sem] q1yr0 q1yr1 q1yr2 q1yr6 q1yr7 q1yr8 q1yr9
theorem q1yok:cFn TC 20=some (36,[.t 2,.t 3,.t 4],q1yc15):=by kernel_rfl
def q1zr0:yW:=[
 yI 4 (.mv (.v (.bool false)))]
def q1zr1:yW:=[
 yM 6 0,
 yI 7 (.lenSl (.t 6)),
 yM 8 1,
 yI 9 (.lenSl (.t 8)),
 yB 10 .neq 7 9]
def q1zr2:yW:=[
 yI 4 (.mv (.v (.bool false)))]
def q1zc3:yX:=yq q1zr2 .ret
def q1zc4:yX:=.cond (.t 10) q1zc3 .skip
def q1zc5:yX:=yq q1zr1 q1zc4
def q1zr6:yW:=[
 yK 5 .i64 0]
def q1zr7:yW:=[
 yM 11 5,
 yM 12 0,
 yI 13 (.lenSl (.t 12)),
 yB 14 .lss 11 13]
def q1zc8:yX:=.cond (.t 14) .skip (.exit 0)
def q1zc9:yX:=yq q1zr7 q1zc8
def q1zr10:yW:=[
 yM 17 0,
 yM 18 5,
 yI 19 (.iaSl 1 (.t 17) (.t 18)),
 ⟨some 20,none,.rd,.load false 1 (.t 19)⟩,
 yM 21 1,
 yM 22 5,
 yI 23 (.iaSl 1 (.t 21) (.t 22)),
 ⟨some 24,none,.rd,.load false 1 (.t 23)⟩,
 yB 25 .neq 20 24]
def q1zr11:yW:=[
 yI 4 (.mv (.v (.bool false)))]
def q1zc12:yX:=yq q1zr11 .ret
def q1zc13:yX:=.cond (.t 25) q1zc12 .skip
def q1zc14:yX:=yq q1zr10 q1zc13
def q1zr15:yW:=[
 yM 15 5,
 yJ 16 .add 15 .i64 1,
 yM 5 16]
def q1zc16:yX:=.seq (.block 1 q1zc14) (.reg q1zr15)
def q1zc17:yX:=.seq q1zc9 q1zc16
def q1zc18:yX:=.loop q1zc17
def q1zc19:yX:=.block 0 q1zc18
def q1zc20:yX:=yq q1zr6 q1zc19
def q1zr21:yW:=[
 yI 4 (.mv (.v (.bool true)))]
def q1zc22:yX:=yq q1zr21 .ret
def q1zc23:yX:=.seq q1zc20 q1zc22
def q1zc24:yX:=.seq q1zc5 q1zc23
def q1zc25:yX:=yq q1zr0 q1zc24
attribute [go_sem] q1zr0 q1zr1 q1zr2 q1zr6 q1zr7 q1zr10 q1zr11 q1zr15 q1zr21
theorem q1zok:cFn TC 22=some (26,[.t 4],q1zc25):=by kernel_rfl
def q20r0:yW:=[
 yI 2 (.mv (.v (.str [])))]
def q20r1:yW:=[
 yM 9 0,
 yI 10 (.lenSl (.t 9)),
 yJ 11 .eql 10 .i64 1]
def q20r2:yW:=[
 yM 12 0,
 yI 13 (.iaSl 1 (.t 12) (.v (.int .i64 0))),
 yL 14 false 1 13,
 yI 15 (.bin .add .none (.v (.str [0])) (.t 14)),
 yM 2 15]
def q20c3:yX:=yq q20r2 .ret
def q20c4:yX:=.cond (.t 11) q20c3 .skip
def q20c5:yX:=yq q20r1 q20c4
def q20r6:yW:=[
 yM 16 0,
 yI 17 (.lenSl (.t 16)),
 yC 18 25 17,
 yM 3 18]
def q20r7:yW:=[
 yM 19 0,
 yM 20 3,
 yI 21 (.slice (.sl 1) (.t 19) none (some (.t 20)) none),
 ⟨some 22,none,.pu,.call (.v (.fn 45 [])) [(.t 21)]⟩,
 ⟨some 23,none,.pu,.call (.v (.fn 44 [])) [(.t 22)]⟩,
 yM 24 0,
 yM 25 3,
 yI 26 (.slice (.sl 1) (.t 24) (some (.t 25)) none none),
 ⟨some 27,none,.pu,.call (.v (.fn 45 [])) [(.t 26)]⟩,
 ⟨some 28,none,.pu,.call (.v (.fn 44 [])) [(.t 27)]⟩,
 ⟨some 4,none,.ef,.alloc zZ0⟩,
 ⟨some 5,none,.ef,.alloc zZ0⟩,
 yS 32 4 23,
 yS 32 5 28]
def q20r8:yW:=[
 ⟨some 10,none,.pu,.stuck⟩,
 ⟨some 5,none,.ef,.alloc zZ0⟩,
 ⟨some 4,none,.ef,.alloc zZ0⟩,
 yS 32 4 23,
 yS 32 5 28]
def q20r9:yW:=[
 yI 29 (.lit 1 [(.v (.int .u8 1))]),
 yM 6 29]
def q20r10:yW:=[
 yK 7 .i64 0]
def q20r11:yW:=[
 yM 30 7,
 yJ 31 .lss 30 .i64 32]
def q20c12:yX:=.cond (.t 31) .skip (.exit 0)
def q20c13:yX:=yq q20r11 q20c12
def q20r14:yW:=[
 yM 34 6,
 yM 35 7,
 yI 36 (.iaArr 32 1 (.t 4) (.t 35)),
 yL 37 false 1 36,
 yI 38 (.lit 1 [(.t 37)]),
 yI 39 (.appB (.t 34) (.t 38)),
 yM 6 39]
def q20r15:yW:=[
 yM 32 7,
 yJ 33 .add 32 .i64 1,
 yM 7 33]
def q20c16:yX:=.seq (.block 1 (.reg q20r14)) (.reg q20r15)
def q20c17:yX:=.seq q20c13 q20c16
def q20c18:yX:=.loop q20c17
def q20c19:yX:=.block 0 q20c18
def q20c20:yX:=yq q20r10 q20c19
def q20r21:yW:=[
 yK 8 .i64 0]
def q20r22:yW:=[
 yM 40 8,
 yJ 41 .lss 40 .i64 32]
def q20c23:yX:=.cond (.t 41) .skip (.exit 2)
def q20c24:yX:=yq q20r22 q20c23
def q20r25:yW:=[
 yM 44 6,
 yM 45 8,
 yI 46 (.iaArr 32 1 (.t 5) (.t 45)),
 yL 47 false 1 46,
 yI 48 (.lit 1 [(.t 47)]),
 yI 49 (.appB (.t 44) (.t 48)),
 yM 6 49]
def q20r26:yW:=[
 yM 42 8,
 yJ 43 .add 42 .i64 1,
 yM 8 43]
def q20c27:yX:=.seq (.block 3 (.reg q20r25)) (.reg q20r26)
def q20c28:yX:=.seq q20c24 q20c27
def q20c29:yX:=.loop q20c28
def q20c30:yX:=.block 2 q20c29
def q20c31:yX:=yq q20r21 q20c30
def q20r32:yW:=[
 yM 50 6,
 yI 51 (.conv .str (.t 50)),
 yM 2 51]
def q20c33:yX:=yq q20r32 .ret
def q20c34:yX:=.seq q20c31 q20c33
def q20c35:yX:=.seq q20c20 q20c34
def zdl:ACode:=.seq (.reg q20r9) q20c35
def q20c37:yX:=.seq (.reg2 q20r7 q20r8) zdl
def q20c38:yX:=yq q20r6 q20c37
def q20c39:yX:=.seq q20c5 q20c38
def q20c40:yX:=yq q20r0 q20c39
attribute [go_sem] q20r0 q20r1 q20r2 q20r6 q20r7 q20r8 q20r9 q20r10 q20r11 q20r14 q20r15 q20r21 q20r22 q20r25 q20r26 q20r32
theorem q20ok:cFn TC 23=some (52,[.t 2],q20c40):=by kernel_rfl
def q21r0:yW:=[
 yI 4 (.mv (.v (.bool false)))]
def q21r1:yW:=[
 yM 5 0,
 yM 6 1,
 yD 7 58 5 6,
 yJ 8 .geq 7 .i64 0,
 yM 4 8]
def q21c2:yX:=yq q21r1 .ret
def q21c3:yX:=yq q21r0 q21c2
attribute [go_sem] q21r0 q21r1
theorem q21ok:cFn TC 38=some (9,[.t 4],q21c3):=by kernel_rfl
def q22r0:yW:=[
 yI 2 (.box (.t 0)),
 yI 3 (.mv (.v (.bool false)))]
def q22r1:yW:=[
 yF 4 0 2,
 yL 5 true 33 4,
 yF 6 0 1,
 yL 7 true 33 6,
 yI 8 (.bin .eql (.agg ([(.i .i64)]++(List.replicate 32 (.i .u8)++ []))) (.t 5) (.t 7)),
 yM 3 8]
def q22c2:yX:=yq q22r1 .ret
def q22c3:yX:=yq q22r0 q22c2
attribute [go_sem] q22r0 q22r1
theorem q22ok:cFn TC 39=some (9,[.t 3],q22c3):=by kernel_rfl
def q23r0:yW:=[
 yI 2 (.alloc zZ0)]
def q23r1:yW:=[
 yI 3 (.mv (.v .nilsl))]
def q23r2:yW:=[
 yM 6 0,
 yI 7 (.lenSl (.t 6)),
 yK 8 .i64 0]
def q23r3:yW:=[
 yB 9 .lss 8 7]
def q23r4:yW:=[
 yI 10 (.iaSl 1 (.t 6) (.t 8)),
 yL 11 false 1 10,
 yM 5 11]
def q23r5:yW:=[
 yM 12 3,
 yM 13 5,
 yC 14 9 13,
 yI 15 (.lit 32 [(.t 14)]),
 yI 16 (.app 32 (.t 12) (.t 15)),
 yM 3 16]
def q23c6:yX:=yq q23r4 (.reg q23r5)
def q23r7:yW:=[
 yJ 17 .add 8 .i64 1,
 yM 8 17]
def q23c8:yX:=.seq (.block 1 q23c6) (.reg q23r7)
def q23c9:yX:=.seq (.cond (.t 9) .skip (.exit 0)) q23c8
def q23c10:yX:=yq q23r3 q23c9
def q23c11:yX:=.loop q23c10
def q23c12:yX:=.block 0 q23c11
def q23c13:yX:=yq q23r2 q23c12
def q23r14:yW:=[
 yM 18 3,
 yC 19 11 18,
 yS 32 2 19]
def q23c15:yX:=yq q23r14 .ret
def q23c16:yX:=.seq q23c13 q23c15
def q23c17:yX:=yq q23r1 q23c16
def q23c18:yX:=yq q23r0 q23c17
attribute [go_sem] q23r0 q23r1 q23r2 q23r3 q23r4 q23r5 q23r7 q23r14
theorem q23ok:cFn TC 40=some (20,[.c 2 true 32],q23c18):=by kernel_rfl
def q24r0:yW:=[
 yK 4 .i64 0]
def q24r1:yW:=[
 yM 6 0,
 yI 7 (.lenSl (.t 6)),
 yK 8 .i64 0]
def q24r2:yW:=[
 yB 9 .lss 8 7]
def q24r3:yW:=[
 yM 10 8,
 yM 5 10]
def q24r4:yW:=[
 yM 11 1,
 yM 12 0,
 yM 13 5,
 yI 14 (.iaSl 36 (.t 12) (.t 13)),
 yL 15 true 36 14,
 yI 16 (.call (.t 11) [(.t 15)])]
def q24r5:yW:=[
 yM 17 5,
 yM 4 17]
def q24c6:yX:=yq q24r5 .ret
def q24c7:yX:=.cond (.t 16) q24c6 .skip
def q24c8:yX:=yq q24r4 q24c7
def q24c9:yX:=yq q24r3 q24c8
def q24r10:yW:=[
 yJ 18 .add 8 .i64 1,
 yM 8 18]
def q24c11:yX:=.seq (.block 1 q24c9) (.reg q24r10)
def q24c12:yX:=.seq (.cond (.t 9) .skip (.exit 0)) q24c11
def q24c13:yX:=yq q24r2 q24c12
def q24c14:yX:=.loop q24c13
def q24c15:yX:=.block 0 q24c14
def q24c16:yX:=yq q24r1 q24c15
def q24r17:yW:=[
 yI 4 (.mv (.v (.int .i64 (-1))))]
def q24c18:yX:=yq q24r17 .ret
def q24c19:yX:=.seq q24c16 q24c18
def q24c20:yX:=yq q24r0 q24c19
attribute [go_sem] q24r0 q24r1 q24r2 q24r3 q24r4 q24r5 q24r10 q24r17
theorem q24ok:cFn TC 58=some (19,[.t 4],q24c20):=by kernel_rfl
end
section
theorem zjj{A B:List (List UInt8)}{i:Nat}(hi:i<A.length)(hl:A.length=B.length)(h:stD A i ≠ stD B i):A ≠ B:=fun e=>h (by rw [e])
theorem zjh{A B:List (List UInt8)}{i:Nat}(hi:i<A.length)(hl:A.length=B.length)(ht:A.take i=B.take i)(h:stD A i=stD B i):A.take (i+1)=B.take (i+1):=by
 rw [z9d hi,z9d (by omega),ht,h]
attribute [local irreducible] ACallsTo ACallsP
theorem zer(O:Store)(A B:List (List UInt8))(x y:AV)(hx:SlV 1 (strs A) x)(hy:SlV 1 (strs B) y)(hl:A.length<1000000)(hl2:B.length<1000000):ACallsTo TC 19 [x,y] O (.bool (decide (A=B))) O:=by
 have r1:=hx.len
 have r2:=hy.len
 rw [z8]at r1 r2
 unfold z1c at r1 r2
 refine ACallsTo.of_body q1xok (by simp) fun hw _=> ?_
 by_cases h0:(A.length:Int)=B.length
 ·repeat' (first|apply zs_|apply zb_|apply zc_|apply zt_ rfl|apply zf_ rfl|(apply zd_ rfl<;>intro ht<;>try omega)|((first|apply zr_|apply zk_|apply ze_|apply zq_|(apply zG<;>intro ht));all_goals try simp (disch:=first|omega|(simp only [lens,z7,z6,lQr,lQm,lQt,lQd,zg,z8,zh,zm];first|done|omega)) only [go_sem,r1,r2,h0]))
  refine zW.loop (fun m Z O'=>∃i:Nat,m+i=A.length/\ O'=O/\ A.take i=B.take i/\ Z 0=x/\ Z 1=y/\ Z 12=.int .i64 A.length/\ Z 13=.int .i64 i) A.length ?_ ?_
  ·exact⟨0,by omega,rfl,by simp,by simp (disch:=first|omega|(simp only [lens,z7,z6,lQr,lQm,lQt,lQd,zg,z8,zh,zm];first|done|omega)) only [go_sem],by simp (disch:=first|omega|(simp only [lens,z7,z6,lQr,lQm,lQt,lQd,zg,z8,zh,zm];first|done|omega)) only [go_sem],by simp (disch:=first|omega|(simp only [lens,z7,z6,lQr,lQm,lQt,lQd,zg,z8,zh,zm];first|done|omega)) only [go_sem,h0],by simp (disch:=first|omega|(simp only [lens,z7,z6,lQr,lQm,lQt,lQd,zg,z8,zh,zm];first|done|omega)) only [go_sem];rfl⟩
  ·rintro m Z O' ⟨i,hm,rfl,ht,q0,q1,q12,q13⟩
   by_cases hi:i<A.length
   ·obtain⟨e1,rfl⟩:=hx.vsl (by rw [z8];omega)
    obtain⟨e2,rfl⟩:=hy.vsl (by rw [z8];omega)
    have hg:=z5s hi
    have hg2:=z5s (L:=B) (i:=i) (by omega)
    have hne:=zjj (A:=A) (B:=B) hi (by omega)
    have hte:=zjh (A:=A) (B:=B) hi (by omega) ht
    rw [show A.getD i []=stD A i from rfl]at hg
    rw [show B.getD i []=stD B i from rfl]at hg2
    have l1:=z8 A
    have l2:=z8 B
    generalize stD A i=s at*
    generalize stD B i=t at*
    by_cases he:s=t
    ·subst he
     repeat' (first|apply zs_|apply zb_|apply zc_|apply zt_ rfl|apply zf_ rfl|(apply zd_ rfl<;>intro ht<;>try omega)|((first|apply zr_|apply zk_|apply ze_|apply zq_|(apply zG<;>intro ht));all_goals try simp (disch:=first|omega|(simp only [lens,z7,z6,lQr,lQm,lQt,lQd,zg,z8,zh,zm];first|done|omega)) only [go_sem,q0,q1,q12,q13,hg,hg2,l1,l2,bne_self_eq_false,beq_self_eq_true]))
     exact⟨m-1,by omega,i+1,by omega,hte rfl,by simp⟩
    ·have hn:decide (A=B)=false:=decide_eq_false (hne he)
     have hb1:(s==t)=false:=by simpa using he
     have hb2:(s !=t)=true:=by simpa using he
     rw [hn]
     repeat' (first|apply zs_|apply zb_|apply zc_|apply zt_ rfl|apply zf_ rfl|(apply zd_ rfl<;>intro ht<;>try omega)|((first|apply zr_|apply zk_|apply ze_|apply zq_|(apply zG<;>intro ht));all_goals try simp (disch:=first|omega|(simp only [lens,z7,z6,lQr,lQm,lQt,lQd,zg,z8,zh,zm];first|done|omega)) only [go_sem,q0,q1,q12,q13,hg,hg2,l1,l2,hb1,hb2]))
     exact DownV.same hw (z16 _ rfl)
   ·obtain rfl:i=A.length:=by omega
    have he:A=B:=by
     rw [List.take_of_length_le (Nat.le_refl _),List.take_of_length_le (by omega)]at ht
     exact ht
    rw [decide_eq_true he]
    repeat' (first|apply zs_|apply zb_|apply zc_|apply zt_ rfl|apply zf_ rfl|(apply zd_ rfl<;>intro ht<;>try omega)|((first|apply zr_|apply zk_|apply ze_|apply zq_|(apply zG<;>intro ht));all_goals try simp (disch:=first|omega|(simp only [lens,z7,z6,lQr,lQm,lQt,lQd,zg,z8,zh,zm];first|done|omega)) only [go_sem,q0,q1,q12,q13]))
    exact DownV.same hw (z16 _ rfl)
 ·have hn:decide (A=B)=false:=decide_eq_false fun e=>h0 (by rw [e])
  rw [hn]
  repeat' (first|apply zs_|apply zb_|apply zc_|apply zt_ rfl|apply zf_ rfl|(apply zd_ rfl<;>intro ht<;>try omega)|((first|apply zr_|apply zk_|apply ze_|apply zq_|(apply zG<;>intro ht));all_goals try simp (disch:=first|omega|(simp only [lens,z7,z6,lQr,lQm,lQt,lQd,zg,z8,zh,zm];first|done|omega)) only [go_sem,r1,r2,h0]))
  exact DownV.same hw (z16 _ rfl)
theorem zig(O:Store)(A B:List (List UInt8))(x y:AV)(hx:SlV 1 (strs A) x)(hy:SlV 1 (strs B) y)(hl:A.length<1000000)(hl2:B.length<1000000):ACallsTo TC 22 [x,y] O (.bool (decide (A=B))) O:=by
 have r1:=hx.len
 have r2:=hy.len
 rw [z8]at r1 r2
 unfold z1c at r1 r2
 refine ACallsTo.of_body q1zok (by simp) fun hw _=> ?_
 by_cases h0:(A.length:Int)=B.length
 ·repeat' (first|apply zs_|apply zb_|apply zc_|apply zt_ rfl|apply zf_ rfl|(apply zd_ rfl<;>intro ht<;>try omega)|((first|apply zr_|apply zk_|apply ze_|apply zq_|(apply zG<;>intro ht));all_goals try simp (disch:=first|omega|(simp only [lens,z7,z6,lQr,lQm,lQt,lQd,zg,z8,zh,zm];first|done|omega)) only [go_sem,r1,r2,h0]))
  refine zW.loop (fun m Z O'=>∃i:Nat,m+i=A.length/\ O'=O/\ A.take i=B.take i/\ Z 0=x/\ Z 1=y/\ Z 5=.int .i64 i) A.length ?_ ?_
  ·exact⟨0,by omega,rfl,by simp,by simp (disch:=first|omega|(simp only [lens,z7,z6,lQr,lQm,lQt,lQd,zg,z8,zh,zm];first|done|omega)) only [go_sem],by simp (disch:=first|omega|(simp only [lens,z7,z6,lQr,lQm,lQt,lQd,zg,z8,zh,zm];first|done|omega)) only [go_sem],by simp (disch:=first|omega|(simp only [lens,z7,z6,lQr,lQm,lQt,lQd,zg,z8,zh,zm];first|done|omega)) only [go_sem];rfl⟩
  ·rintro m Z O' ⟨i,hm,rfl,ht,q0,q1,q5⟩
   by_cases hi:i<A.length
   ·obtain⟨e1,rfl⟩:=hx.vsl (by rw [z8];omega)
    obtain⟨e2,rfl⟩:=hy.vsl (by rw [z8];omega)
    have hg:=z5s hi
    have hg2:=z5s (L:=B) (i:=i) (by omega)
    have hne:=zjj (A:=A) (B:=B) hi (by omega)
    have hte:=zjh (A:=A) (B:=B) hi (by omega) ht
    rw [show A.getD i []=stD A i from rfl]at hg
    rw [show B.getD i []=stD B i from rfl]at hg2
    have l1:=z8 A
    have l2:=z8 B
    generalize stD A i=s at*
    generalize stD B i=t at*
    by_cases he:s=t
    ·subst he
     repeat' (first|apply zs_|apply zb_|apply zc_|apply zt_ rfl|apply zf_ rfl|(apply zd_ rfl<;>intro ht<;>try omega)|((first|apply zr_|apply zk_|apply ze_|apply zq_|(apply zG<;>intro ht));all_goals try simp (disch:=first|omega|(simp only [lens,z7,z6,lQr,lQm,lQt,lQd,zg,z8,zh,zm];first|done|omega)) only [go_sem,q0,q1,q5,hg,hg2,l1,l2,r1,bne_self_eq_false,beq_self_eq_true]))
     exact⟨m-1,by omega,i+1,by omega,hte rfl,by simp⟩
    ·have hn:decide (A=B)=false:=decide_eq_false (hne he)
     have hb1:(s==t)=false:=by simpa using he
     have hb2:(s !=t)=true:=by simpa using he
     rw [hn]
     repeat' (first|apply zs_|apply zb_|apply zc_|apply zt_ rfl|apply zf_ rfl|(apply zd_ rfl<;>intro ht<;>try omega)|((first|apply zr_|apply zk_|apply ze_|apply zq_|(apply zG<;>intro ht));all_goals try simp (disch:=first|omega|(simp only [lens,z7,z6,lQr,lQm,lQt,lQd,zg,z8,zh,zm];first|done|omega)) only [go_sem,q0,q1,q5,hg,hg2,l1,l2,r1,hb1,hb2]))
     exact DownV.same hw (z16 _ rfl)
   ·obtain rfl:i=A.length:=by omega
    have he:A=B:=by
     rw [List.take_of_length_le (Nat.le_refl _),List.take_of_length_le (by omega)]at ht
     exact ht
    rw [decide_eq_true he]
    repeat' (first|apply zs_|apply zb_|apply zc_|apply zt_ rfl|apply zf_ rfl|(apply zd_ rfl<;>intro ht<;>try omega)|((first|apply zr_|apply zk_|apply ze_|apply zq_|(apply zG<;>intro ht));all_goals try simp (disch:=first|omega|(simp only [lens,z7,z6,lQr,lQm,lQt,lQd,zg,z8,zh,zm];first|done|omega)) only [go_sem,q0,q1,q5,r1]))
    exact DownV.same hw (z16 _ rfl)
 ·have hn:decide (A=B)=false:=decide_eq_false fun e=>h0 (by rw [e])
  rw [hn]
  repeat' (first|apply zs_|apply zb_|apply zc_|apply zt_ rfl|apply zf_ rfl|(apply zd_ rfl<;>intro ht<;>try omega)|((first|apply zr_|apply zk_|apply ze_|apply zq_|(apply zG<;>intro ht));all_goals try simp (disch:=first|omega|(simp only [lens,z7,z6,lQr,lQm,lQt,lQd,zg,z8,zh,zm];first|done|omega)) only [go_sem,r1,r2,h0]))
  exact DownV.same hw (z16 _ rfl)
theorem zio(O:Store)(L:List (List UInt8))(y:AV)(hy:SlV 1 (strs L) y)(hL:∀s ∈ L,s.length<1000000)(hl:L.length<1000000):ACallsTo TC 40 [y] O (.agg (hc (zy (lvs L)))) O:=by
 have r1:=hy.len
 rw [z8]at r1
 unfold z1c at r1
 refine ACallsTo.of_body q23ok (by simp) fun hw _=> ?_
 repeat' (first|apply zs_|apply zb_|apply zc_|apply zt_ rfl|apply zf_ rfl|(apply zd_ rfl<;>intro ht<;>try omega)|((first|apply zr_|apply zk_|apply ze_|apply zq_|(apply zG<;>intro ht));all_goals try simp (disch:=first|omega|(simp only [lens,z7,z6,lQr,lQm,lQt,lQd,zg,z8,zh,zm];first|done|omega)) only [go_sem,r1,<-zar]))
 refine zW.loop (fun m Z O'=>∃(i:Nat) (v:AV),m+i=L.length/\ OwnR 32 (O.length+1) O' v (hr (lvs (L.take i)))/\ Ext O O'/\ O.length+1<=O'.length/\ (∃z,O'[O.length]? =some (some [hc z]))/\ Z 2=.ptr O.length 0 0/\ Z 3=v/\ Z 6=y/\ Z 7=.int .i64 L.length/\ Z 8=.int .i64 i) L.length ?_ ?_
 ·exact⟨0,.nilsl,by omega,by simp only [List.take_zero,lvs,List.map_nil,hr];exact OwnR.nil,⟨_,rfl⟩,by simp,⟨zeroH,by simp⟩,by simp (disch:=first|omega|(simp only [lens,z7,z6,lQr,lQm,lQt,lQd,zg,z8,zh,zm];first|done|omega)) only [go_sem],by simp (disch:=first|omega|(simp only [lens,z7,z6,lQr,lQm,lQt,lQd,zg,z8,zh,zm];first|done|omega)) only [go_sem],by simp (disch:=first|omega|(simp only [lens,z7,z6,lQr,lQm,lQt,lQd,zg,z8,zh,zm];first|done|omega)) only [go_sem],by simp (disch:=first|omega|(simp only [lens,z7,z6,lQr,lQm,lQt,lQd,zg,z8,zh,zm];first|done|omega)) only [go_sem],by simp (disch:=first|omega|(simp only [lens,z7,z6,lQr,lQm,lQt,lQd,zg,z8,zh,zm];first|done|omega)) only [go_sem];rfl⟩
 ·rintro m Z O' ⟨i,v,hm,hO,hE,hk,⟨z,he⟩,q2,q3,q6,q7,q8⟩
  by_cases hi:i<L.length
  ·obtain⟨ex,rfl⟩:=hy.vsl (by rw [z8];omega)
   have hg:=z5s hi
   have hLf:=fun O=>zjg O (stD L i) (by have:=hL _ (z9b hi);omega)
   obtain⟨v',O2,ha,hO2,h5,h6,h7⟩:=hO.app (ys:=[hc (lfH (stD L i))]) hk (by simp) (by rw [z6,zh,List.length_take];simp;omega)
   have hcat:hr (lvs (L.take i))++ [hc (lfH (stD L i))]=hr (lvs (L.take (i+1))):=by rw [z9d hi];simp [lvs,hr]
   rw [hcat]at hO2
   rw [show L.getD i []=stD L i from rfl]at hg
   have l1:=z8 L
   have he2:=h5 O.length (by omega)
   rw [he]at he2
   have hE2:=h6 O (by omega) hE
   generalize stD L i=s at*
   repeat' (first|apply zs_|apply zb_|apply zc_|apply zt_ rfl|apply zf_ rfl|(apply zd_ rfl<;>intro ht<;>try omega)|((first|apply zr_|apply zk_|apply ze_|apply zq_|(apply callW.mk_pu;(first|exact(fun _=>hLf _)))|(apply callW.za;(first|exact(hLf _)))|(apply zG<;>intro ht));all_goals try simp (disch:=first|omega|(simp only [lens,z7,z6,lQr,lQm,lQt,lQd,zg,z8,zh,zm];first|done|omega)) only [go_sem,q2,q3,q6,q7,q8,hg,l1,ha]))
   exact⟨m-1,by omega,i+1,v',by omega,hO2,hE2,h7,⟨z,he2⟩,by simp⟩
  ·obtain rfl:i=L.length:=by omega
   rw [List.take_of_length_le (Nat.le_refl _)]at hO
   have hRt:=z9h O' (lvs L) v hO.rd (by rw [zh];omega)
   have hd:=slen he
   have hzl:=z7 z
   have hzd:=z79 z
   obtain⟨news,rfl⟩:=hE
   obtain⟨y,rfl⟩:∃y,news=some [hc z]::y:=by
    rw [z1h (by omega),Nat.sub_self]at he
    cases news with
    |nil=>simp at he
    |cons a y=>simp at he;exact⟨y,by rw [he]⟩
   generalize zy (lvs L)=R at*
   have hRl:=z7 R
   repeat' (first|apply zs_|apply zb_|apply zc_|apply zt_ rfl|apply zf_ rfl|(apply zd_ rfl<;>intro ht<;>try omega)|((first|apply zr_|apply zk_|apply ze_|apply zq_|(apply callW.mk_pu;(first|exact(fun _=>hRt)))|(apply callW.za;(first|exact(hRt)))|(apply zG<;>intro ht));all_goals try simp (disch:=first|omega|(simp only [lens,z7,z6,lQr,lQm,lQt,lQd,zg,z8,zh,zm];first|done|omega)) only [go_sem,q2,q3,q6,q7,q8,hzl,hzd,hRl,List.append_nil]))
   exact DownV.pure hw (by simp only [RL];exact z6p _)
end
section
def ptL(L:List (List UInt8)):List (List UInt8):=if L.length<2 then []else L.take (zo L.length)
def ptR(L:List (List UInt8)):List (List UInt8):=if L.length<2 then []else L.drop (zo L.length)
def TxtOk(L:List (List UInt8)):Prop:=(∀s ∈ L,s.length<1000000)/\ L.length<1000000
theorem TxtOk.take{L:List (List UInt8)}(h:TxtOk L)(k:Nat):TxtOk (L.take k):=⟨fun s hs=>h.1 s (List.mem_of_mem_take hs),by have:=h.2;rw [List.length_take];omega⟩
theorem TxtOk.drop{L:List (List UInt8)}(h:TxtOk L)(k:Nat):TxtOk (L.drop k):=⟨fun s hs=>h.1 s (List.mem_of_mem_drop hs),by have:=h.2;rw [List.length_drop];omega⟩
theorem zbp{L:List (List UInt8)}(h:TxtOk L):(z10 L).length<2000000:=by
 unfold z10
 split
 ·rw [List.length_cons]
  have:(stD L 0).length<1000000:=by
   cases L with
   |nil=>simp [stD]
   |cons s L=>exact h.1 s (by simp)
  omega
 ·rw [List.length_cons,List.length_append,(zy _).2,(zy _).2]
  omega
def colV:Option (List UInt8 × List UInt8)->AV
 |none=> .tup [.str [],.str [],.bool false]
 |some p=> .tup [.str p.1,.str p.2,.bool true]
attribute [local irreducible] ACallsTo ACallsP
theorem zht(L:List (List UInt8))(y:AV)(hy:SlV 1 (strs L) y)(hL:TxtOk L)(h0:0<L.length):
  ∃l r,SlV 1 (strs (ptL L)) l/\ SlV 1 (strs (ptR L)) r/\ ∀O,ACallsTo TC 20 [y] O (.tup [.str (z10 L),l,r]) O:=by
 have r1:=hy.len
 rw [z8]at r1
 unfold z1c at r1
 obtain⟨ex,rfl⟩:=hy.vsl (by rw [z8];omega)
 have l1:=z8 L
 by_cases h1:L.length<2
 ·refine⟨.nilsl,.nilsl,.inl ⟨rfl,by unfold ptL;rw [if_pos h1];rfl⟩,.inl ⟨rfl,by unfold ptR;rw [if_pos h1];rfl⟩,fun O=> ?_⟩
  rw [z9e (by omega)]
  have hg:=z5s h0
  rw [show L.getD 0 []=stD L 0 from rfl]at hg
  have h1':(L.length:Int)<2:=by omega
  have h0':(0:Int)<L.length:=by omega
  have hs0:=hL.1 _ (z9b h0)
  generalize stD L 0=s at*
  refine ACallsTo.of_body q1yok (by simp) fun hw _=> ?_
  repeat' (first|apply zs_|apply zb_|apply zc_|apply zt_ rfl|apply zf_ rfl|(apply zd_ rfl<;>intro ht<;>try omega)|((first|apply zr_|apply zk_|apply ze_|apply zq_|(apply zG<;>intro ht));all_goals try simp (disch:=first|omega|(simp only [lens,z7,z6,lQr,lQm,lQt,lQd,zg,z8,zh,zm,zi];first|done|omega)) only [go_sem,l1,h1',h0',hg]))
  exact DownV.same hw (by simp [RL,RLs])
 ·have h1':¬(L.length:Int)<2:=by omega
  obtain⟨s1,s2,s3⟩:=z3s (n:=L.length) (by omega)
  have hsp:=fun O=>zbr O L.length (by have:=hL.2;omega)
  rw [z9f (by omega)]
  unfold ptL ptR
  rw [if_neg h1,if_neg h1]
  generalize hk:zo L.length=k at*
  have tk:=zbo L k
  have dk:=zbn L k
  refine⟨.vsl 1 (strs (L.take k)) (ex && (k==L.length)),.vsl 1 (strs (L.drop k)) ex,.inr ⟨_,rfl⟩,.inr ⟨_,rfl⟩,fun O=> ?_⟩
  have ha:=fun O b=>zio O (L.take k) (.vsl 1 (strs (L.take k)) b) (.inr ⟨b,rfl⟩) (hL.take k).1 (hL.take k).2
  have hb:=fun O b=>zio O (L.drop k) (.vsl 1 (strs (L.drop k)) b) (.inr ⟨b,rfl⟩) (hL.drop k).1 (hL.drop k).2
  have rta:(strs L).take (strs L).length=strs L:=List.take_of_length_le (Nat.le_refl _)
  rw [l1]at rta
  generalize zy (lvs (L.take k))=A at*
  generalize zy (lvs (L.drop k))=B at*
  have hrs:∀n,RLss n (strs (L.take k)):=fun n=>zdu _
  have hrs2:∀n,RLss n (strs (L.drop k)):=fun n=>zdu _
  have hA:=z7 A
  have hB:=z7 B
  have hAd:=z79 A
  have hBd:=z79 B
  refine ACallsTo.of_body q1yok (by simp) fun hw _=> ?_
  repeat' (first|apply zs_|apply zb_|apply zc_|apply zt_ rfl|apply zf_ rfl|(apply zd_ rfl<;>intro ht<;>try omega)|((first|apply zr_|apply zk_|apply ze_|apply zq_|(apply callW.mk_pu;(first|exact(fun _=>hsp _)|exact(fun _=>ha _ _)|exact(fun _=>hb _ _)))|(apply callW.za;(first|exact(hsp _)|exact(ha _ _)|exact(hb _ _)))|(apply zG<;>intro ht));all_goals try simp (disch:=first|omega|(simp only [lens,z7,z6,lQr,lQm,lQt,lQd,zg,z8,zh,zm,zi];first|done|omega)) only [go_sem,l1,h1',tk,dk,rta,hA,hB,hAd,hBd,zn9,List.append_nil]))
  exact DownV.pure hw (by simp only [RL,RLs];exact⟨trivial,hrs _,hrs2 _,trivial⟩)
end
section
theorem z3o{k:Nat}(o:Option (List UInt8 × List UInt8)):RL k (colV o):=by
 cases o<;>simp [colV,RL,RLs]
attribute [local irreducible] ACallsTo ACallsP
theorem z9q(O:Store)(A B:List (List UInt8))(x y:AV)(hx:SlV 1 (strs A) x)(hy:SlV 1 (strs B) y)(hA:TxtOk A)(hB:TxtOk B):ACallsTo TC 7 [x,y] O (colV (z2i A B)) O:=by
 refine ACallsTo.of_body q1uok (by simp) fun hw _=> ?_
 repeat' (first|apply zs_|apply zb_|apply zc_|apply zt_ rfl|apply zf_ rfl|(apply zd_ rfl<;>intro ht<;>try omega)|((first|apply zr_|apply zk_|apply ze_|apply zq_|(apply zG<;>intro ht));all_goals try simp (disch:=first|omega|(simp only [lens,z7,z6,lQr,lQm,lQt,lQd,zg,z8,zh,zm,zi];first|done|omega)) only [go_sem]))
 refine zW.loop (fun m Z O'=>∃(a b:List (List UInt8)) (x y:AV),m=a.length/\ z2i A B=z2i a b/\ SlV 1 (strs a) x/\ SlV 1 (strs b) y/\ TxtOk a/\ TxtOk b/\ O'=O/\ Z 0=x/\ Z 1=y) A.length ?_ ?_
 ·exact⟨A,B,x,y,rfl,rfl,hx,hy,hA,hB,rfl,by simp (disch:=first|omega|(simp only [lens,z7,z6,lQr,lQm,lQt,lQd,zg,z8,zh,zm,zi];first|done|omega)) only [go_sem],by simp (disch:=first|omega|(simp only [lens,z7,z6,lQr,lQm,lQt,lQd,zg,z8,zh,zm,zi];first|done|omega)) only [go_sem]⟩
 ·clear hx hy
  rintro m Z O' ⟨a,b,x,y,rfl,hF,hx,hy,ha,hb,rfl,q0,q1⟩
  have r1:=hx.len
  have r2:=hy.len
  rw [z8]at r1 r2
  unfold z1c at r1 r2
  rw [zaj a b]at hF
  rw [hF]
  by_cases c0:(a.length:Int)>0
  ·by_cases c1:(a.length:Int)=b.length
   ·by_cases c2:(a.length:Int)<=4096
    ·have hEq:=fun O=>zer O a b x y hx hy ha.2 hb.2
     by_cases c3:a=b
     ·rw [if_pos (.inr (.inr c3))]
      rw [decide_eq_true c3]at hEq
      repeat' (first|apply zs_|apply zb_|apply zc_|apply zt_ rfl|apply zf_ rfl|(apply zd_ rfl<;>intro ht<;>try omega)|((first|apply zr_|apply zk_|apply ze_|apply zq_|(apply callW.mk_pu;(first|exact(fun _=>hEq _)))|(apply callW.za;(first|exact(hEq _)))|(apply zG<;>intro ht));all_goals try simp (disch:=first|omega|(simp only [lens,z7,z6,lQr,lQm,lQt,lQd,zg,z8,zh,zm,zi];first|done|omega)) only [go_sem,q0,q1,r1,r2,c0,c1,c2]))
      exact DownV.same hw (z3o none)
     ·rw [decide_eq_false c3]at hEq
      rw [if_neg (by simp only [not_or,Decidable.not_not];exact⟨by omega,by omega,c3⟩)]
      obtain⟨la,ra,hla,hra,hpa⟩:=zht a x hx ha (by omega)
      obtain⟨lb,rb,hlb,hrb,hpb⟩:=zht b y hy hb (by omega)
      have hSa:=fun O=>z6u O (z10 a) (by have:=zbp ha;omega)
      have hSb:=fun O=>z6u O (z10 b) (by have:=zbp hb;omega)
      by_cases c4:shaH (z10 a)=shaH (z10 b)
      ·rw [if_neg (by simpa using c4)]
       by_cases c5:z10 a=z10 b
       ·rw [if_neg (by simpa using c5)]
        have h2:=z8n (by omega) c3 c5
        have ela:ptL a=a.take (zo a.length):=if_neg (by omega)
        have era:ptR a=a.drop (zo a.length):=if_neg (by omega)
        have elb:ptL b=b.take (zo a.length):=by unfold ptL;rw [if_neg (by omega)];congr 2;omega
        have erb:ptR b=b.drop (zo a.length):=by unfold ptR;rw [if_neg (by omega)];congr 2;omega
        rw [ela]at hla;rw [era]at hra;rw [elb]at hlb;rw [erb]at hrb
        obtain⟨s1,s2,s3⟩:=z3s h2
        have hEq2:=fun O=>zer O _ _ la lb hla hlb (ha.take _).2 (hb.take _).2
        rw [c5]at hpa hSa
        generalize zo a.length=k at*
        generalize shaH (z10 b)=S at*
        generalize z10 b=T at*
        by_cases c6:a.take k=b.take k
        ·rw [if_pos c6]
         rw [decide_eq_true c6]at hEq2
         repeat' (first|apply zs_|apply zb_|apply zc_|apply zt_ rfl|apply zf_ rfl|(apply zd_ rfl<;>intro ht<;>try omega)|((first|apply zr_|apply zk_|apply ze_|apply zq_|(apply callW.mk_pu;(first|exact(fun _=>hEq _)|exact(fun _=>hpa _)|exact(fun _=>hpb _)|exact(fun _=>hSa _)|exact(fun _=>hSb _)|exact(fun _=>hEq2 _)))|(apply callW.za;(first|exact(hEq _)|exact(hpa _)|exact(hpb _)|exact(hSa _)|exact(hSb _)|exact(hEq2 _)))|(apply zG<;>intro ht));all_goals try simp (disch:=first|omega|(simp only [lens,z7,z6,lQr,lQm,lQt,lQd,zg,z8,zh,zm,zi];first|done|omega)) only [go_sem,q0,q1,r1,r2,c0,c1,c2,decide_true,Bool.not_true,bne_self_eq_false]))
         exact⟨_,by rw [List.length_drop];omega,a.drop k,b.drop k,ra,rb,rfl,rfl,hra,hrb,ha.drop k,hb.drop k,by simp⟩
        ·rw [if_neg c6]
         rw [decide_eq_false c6]at hEq2
         repeat' (first|apply zs_|apply zb_|apply zc_|apply zt_ rfl|apply zf_ rfl|(apply zd_ rfl<;>intro ht<;>try omega)|((first|apply zr_|apply zk_|apply ze_|apply zq_|(apply callW.mk_pu;(first|exact(fun _=>hEq _)|exact(fun _=>hpa _)|exact(fun _=>hpb _)|exact(fun _=>hSa _)|exact(fun _=>hSb _)|exact(fun _=>hEq2 _)))|(apply callW.za;(first|exact(hEq _)|exact(hpa _)|exact(hpb _)|exact(hSa _)|exact(hSb _)|exact(hEq2 _)))|(apply zG<;>intro ht));all_goals try simp (disch:=first|omega|(simp only [lens,z7,z6,lQr,lQm,lQt,lQd,zg,z8,zh,zm,zi];first|done|omega)) only [go_sem,q0,q1,r1,r2,c0,c1,c2,decide_true,Bool.not_true,bne_self_eq_false]))
         exact⟨_,by rw [List.length_take];omega,a.take k,b.take k,la,lb,rfl,rfl,hla,hlb,ha.take k,hb.take k,by simp⟩
       ·rw [if_pos c5]
        rw [c4]at hSa
        have hb1:(z10 a==z10 b)=false:=by simpa using c5
        have hb2:(z10 a !=z10 b)=true:=by simpa using c5
        generalize shaH (z10 b)=S at*
        generalize z10 a=Ta at*
        generalize z10 b=T at*
        repeat' (first|apply zs_|apply zb_|apply zc_|apply zt_ rfl|apply zf_ rfl|(apply zd_ rfl<;>intro ht<;>try omega)|((first|apply zr_|apply zk_|apply ze_|apply zq_|(apply callW.mk_pu;(first|exact(fun _=>hEq _)|exact(fun _=>hpa _)|exact(fun _=>hpb _)|exact(fun _=>hSa _)|exact(fun _=>hSb _)))|(apply callW.za;(first|exact(hEq _)|exact(hpa _)|exact(hpb _)|exact(hSa _)|exact(hSb _)))|(apply zG<;>intro ht));all_goals try simp (disch:=first|omega|(simp only [lens,z7,z6,lQr,lQm,lQt,lQd,zg,z8,zh,zm,zi];first|done|omega)) only [go_sem,q0,q1,r1,r2,c0,c1,c2,decide_true,Bool.not_true,hb1,hb2]))
        exact DownV.same hw (z3o (some (Ta,T)))
      ·rw [if_pos c4]
       have hd:=decide_eq_false c4
       generalize shaH (z10 a)=Sa at*
       generalize shaH (z10 b)=S at*
       repeat' (first|apply zs_|apply zb_|apply zc_|apply zt_ rfl|apply zf_ rfl|(apply zd_ rfl<;>intro ht<;>try omega)|((first|apply zr_|apply zk_|apply ze_|apply zq_|(apply callW.mk_pu;(first|exact(fun _=>hEq _)|exact(fun _=>hpa _)|exact(fun _=>hpb _)|exact(fun _=>hSa _)|exact(fun _=>hSb _)))|(apply callW.za;(first|exact(hEq _)|exact(hpa _)|exact(hpb _)|exact(hSa _)|exact(hSb _)))|(apply zG<;>intro ht));all_goals try simp (disch:=first|omega|(simp only [lens,z7,z6,lQr,lQm,lQt,lQd,zg,z8,zh,zm,zi];first|done|omega)) only [go_sem,q0,q1,r1,r2,c0,c1,c2,hd,Bool.not_false]))
       exact DownV.same hw (z3o none)
    ·rw [if_pos (.inr (.inl (by omega)))]
     repeat' (first|apply zs_|apply zb_|apply zc_|apply zt_ rfl|apply zf_ rfl|(apply zd_ rfl<;>intro ht<;>try omega)|((first|apply zr_|apply zk_|apply ze_|apply zq_|(apply zG<;>intro ht));all_goals try simp (disch:=first|omega|(simp only [lens,z7,z6,lQr,lQm,lQt,lQd,zg,z8,zh,zm,zi];first|done|omega)) only [go_sem,q0,q1,r1,r2,c0,c1,c2]))
     exact DownV.same hw (z3o none)
   ·rw [if_pos (.inl (by omega))]
    repeat' (first|apply zs_|apply zb_|apply zc_|apply zt_ rfl|apply zf_ rfl|(apply zd_ rfl<;>intro ht<;>try omega)|((first|apply zr_|apply zk_|apply ze_|apply zq_|(apply zG<;>intro ht));all_goals try simp (disch:=first|omega|(simp only [lens,z7,z6,lQr,lQm,lQt,lQd,zg,z8,zh,zm,zi];first|done|omega)) only [go_sem,q0,q1,r1,r2,c0,c1]))
    exact DownV.same hw (z3o none)
  ·have hn:a.length ≠ b.length \/4096<a.length \/a=b:=by
    by_cases h:a.length=b.length
    ·exact .inr (.inr (by rw [List.eq_nil_of_length_eq_zero (l:=a) (by omega),List.eq_nil_of_length_eq_zero (l:=b) (by omega)]))
    ·exact .inl h
   rw [if_pos hn]
   repeat' (first|apply zs_|apply zb_|apply zc_|apply zt_ rfl|apply zf_ rfl|(apply zd_ rfl<;>intro ht<;>try omega)|((first|apply zr_|apply zk_|apply ze_|apply zq_|(apply zG<;>intro ht));all_goals try simp (disch:=first|omega|(simp only [lens,z7,z6,lQr,lQm,lQt,lQd,zg,z8,zh,zm,zi];first|done|omega)) only [go_sem,q0,q1,r1,r2,c0]))
   exact DownV.same hw (z3o none)
end
section
theorem zgr{h:Hash}{j:Nat}(hj:j<32):(hc h)[j]? =some (.int .u8 ((h.1.getD j 0).toNat:Int)):=zff (by rw [h.2];exact hj)
theorem zji{l:List UInt8}{i:Nat}(h:i<l.length):l.take (i+1)=l.take i++ [l.getD i 0]:=by
 rw [List.take_succ_eq_append_getElem h];simp [List.getD_eq_getElem?_getD,List.getElem?_eq_getElem h]
attribute [local irreducible] ACallsTo ACallsP
theorem zsv(O:Store)(hw:Wf O.length O)(τ:Store)(p q:Nat)(A B:Hash)(hσ:Ext O τ)(hp:τ[p]? =some (some [hc A]))(hq:τ[q]? =some (some [hc B]))(Z:Env)(q4:Z 4=.ptr p 0 0)(q5:Z 5=.ptr q 0 0):
  zW TC 52 O.length zdl (endQ O.length [.t 2] (.str (1::(A.1++B.1))) O) Z τ:=by
 have dp:=slen hp
 have dq:=slen hq
 have hA:=A.2
 have hB:=B.2
 have hAl:=z7 A
 have hBl:=z7 B
 repeat' (first|apply zs_|apply zb_|apply zc_|apply zt_ rfl|apply zf_ rfl|(apply zd_ rfl<;>intro ht<;>try omega)|((first|apply zr_|apply zk_|apply ze_|apply zq_|(apply zG<;>intro ht));all_goals try simp (disch:=first|omega|(simp only [lens,z7,z6,lQr,lQm,lQt,lQd,zg,z8,zh,zm,zi];first|done|omega)) only [go_sem,q4,q5]))
 refine zW.loop (fun m Z O'=>∃(i:Nat) (v:AV),m+i=32/\ OwnA 1 τ O' v (zj (1::A.1.take i))/\ Z 4=.ptr p 0 0/\ Z 5=.ptr q 0 0/\ Z 6=v/\ Z 7=.int .i64 i) 32 ?_ ?_
 ·exact⟨0,.vsl 1 (zj [1]) true,by omega,.inr ⟨by simp,by simp [zj],[],by simp⟩,by simp (disch:=first|omega|(simp only [lens,z7,z6,lQr,lQm,lQt,lQd,zg,z8,zh,zm,zi];first|done|omega)) only [go_sem,q4],by simp (disch:=first|omega|(simp only [lens,z7,z6,lQr,lQm,lQt,lQd,zg,z8,zh,zm,zi];first|done|omega)) only [go_sem,q5],by simp (disch:=first|omega|(simp only [lens,z7,z6,lQr,lQm,lQt,lQd,zg,z8,zh,zm,zi];first|done|omega)) only [go_sem];rfl,by simp (disch:=first|omega|(simp only [lens,z7,z6,lQr,lQm,lQt,lQd,zg,z8,zh,zm,zi];first|done|omega)) only [go_sem];rfl⟩
 ·clear q4 q5
  rintro m Z O' ⟨i,v,hm,hO,q4,q5,q6,q7⟩
  obtain⟨news,e⟩:=hO.ext
  have hp':O'[p]? =some (some [hc A]):=by rw [e,gapp dp];exact hp
  have hq':O'[q]? =some (some [hc B]):=by rw [e,gapp dq];exact hq
  by_cases hi:i<32
  ·have hg:=zgr (h:=A) hi
   have htk:=zji (l:=A.1) (i:=i) (by omega)
   obtain⟨v',O2,ha,hO2⟩:=hO.app (ys:=[[.int .u8 ((A.1.getD i 0).toNat:Int)]]) (by simp) (by rw [zi];simp;omega)
   have hB':z2c O' v [[.int .u8 ((A.1.getD i 0).toNat:Int)]]=some (v',O2):=by
    rcases hO with h| ⟨rfl,_⟩
    ·rw [h.appB];exact ha
    ·exact ha
   have hcat:zj (1::A.1.take i)++ [[.int .u8 ((A.1.getD i 0).toNat:Int)]]=zj (1::A.1.take (i+1)):=by rw [htk];simp [zj,B8]
   rw [hcat]at hO2
   generalize A.1.getD i 0=b at*
   have hi3:((i:Int)).toNat=i:=Int.toNat_natCast i
   repeat' (first|apply zs_|apply zb_|apply zc_|apply zt_ rfl|apply zf_ rfl|(apply zd_ rfl<;>intro ht<;>try omega)|((first|apply zr_|apply zk_|apply ze_|apply zq_|(apply zG<;>intro ht));all_goals try simp (disch:=first|omega|(simp only [lens,z7,z6,lQr,lQm,lQt,lQd,zg,z8,zh,zm,zi];first|done|omega)) only [go_sem,q4,q5,q6,q7,hp',hg,hB',hi3]))
   exact⟨m-1,by omega,i+1,v',by omega,.inl hO2,by simp⟩
  ·obtain rfl:i=32:=by omega
   rw [List.take_of_length_le (by omega)]at hO
   repeat' (first|apply zs_|apply zb_|apply zc_|apply zt_ rfl|apply zf_ rfl|(apply zd_ rfl<;>intro ht<;>try omega)|((first|apply zr_|apply zk_|apply ze_|apply zq_|(apply zG<;>intro ht));all_goals try simp (disch:=first|omega|(simp only [lens,z7,z6,lQr,lQm,lQt,lQd,zg,z8,zh,zm,zi];first|done|omega)) only [go_sem,q4,q5,q6,q7]))
   refine zW.loop (fun m Z O'=>∃(i:Nat) (v:AV),m+i=32/\ OwnA 1 τ O' v (zj (1::(A.1++B.1.take i)))/\ Z 5=.ptr q 0 0/\ Z 6=v/\ Z 8=.int .i64 i) 32 ?_ ?_
   ·exact⟨0,v,by omega,by simpa using hO,by simp (disch:=first|omega|(simp only [lens,z7,z6,lQr,lQm,lQt,lQd,zg,z8,zh,zm,zi];first|done|omega)) only [go_sem,q5],by simp (disch:=first|omega|(simp only [lens,z7,z6,lQr,lQm,lQt,lQd,zg,z8,zh,zm,zi];first|done|omega)) only [go_sem,q6],by simp (disch:=first|omega|(simp only [lens,z7,z6,lQr,lQm,lQt,lQd,zg,z8,zh,zm,zi];first|done|omega)) only [go_sem];rfl⟩
   ·clear q4 q5 q6 q7 hO e hp' hq' news
    rintro m Z O' ⟨i,v,hm,hO,q5,q6,q8⟩
    obtain⟨news,e⟩:=hO.ext
    have hq':O'[q]? =some (some [hc B]):=by rw [e,gapp dq];exact hq
    by_cases hi:i<32
    ·have hg:=zgr (h:=B) hi
     have htk:=zji (l:=B.1) (i:=i) (by omega)
     obtain⟨v',O2,ha,hO2⟩:=hO.app (ys:=[[.int .u8 ((B.1.getD i 0).toNat:Int)]]) (by simp) (by rw [zi];simp;omega)
     have hB':z2c O' v [[.int .u8 ((B.1.getD i 0).toNat:Int)]]=some (v',O2):=by
      rcases hO with h| ⟨rfl,_⟩
      ·rw [h.appB];exact ha
      ·exact ha
     have hcat:zj (1::(A.1++B.1.take i))++ [[.int .u8 ((B.1.getD i 0).toNat:Int)]]=zj (1::(A.1++B.1.take (i+1))):=by rw [htk];simp [zj,B8]
     rw [hcat]at hO2
     generalize B.1.getD i 0=b at*
     have hi3:((i:Int)).toNat=i:=Int.toNat_natCast i
     repeat' (first|apply zs_|apply zb_|apply zc_|apply zt_ rfl|apply zf_ rfl|(apply zd_ rfl<;>intro ht<;>try omega)|((first|apply zr_|apply zk_|apply ze_|apply zq_|(apply zG<;>intro ht));all_goals try simp (disch:=first|omega|(simp only [lens,z7,z6,lQr,lQm,lQt,lQd,zg,z8,zh,zm,zi];first|done|omega)) only [go_sem,q5,q6,q8,hq',hg,hB',hi3]))
     exact⟨m-1,by omega,i+1,v',by omega,.inl hO2,by simp⟩
    ·obtain rfl:i=32:=by omega
     rw [List.take_of_length_le (by omega)]at hO
     obtain⟨y,rfl⟩:=hσ
     have hTl:(1::(A.1++B.1)).length=65:=by simp only [List.length_cons,List.length_append];omega
     generalize (1::(A.1++B.1))=T at*
     have hbl:=zi T
     have hbt:(zj T).take T.length=zj T:=List.take_of_length_le (by rw [hbl];omega)
     rcases hO with⟨news2,rfl,⟨h,_⟩| ⟨j,hj,rfl,hn⟩⟩| ⟨rfl,_,news2,rfl⟩
     ·have:=congrArg List.length h
      rw [hbl,hTl]at this
      simp at this
     ·have hg2:(O++y++news2)[(O++y).length+j]? =some (some (zj T)):=by rw [z1h (by omega),Nat.add_sub_cancel_left];exact hn
      have dg:=slen hg2
      rw [hbl]at q6
      generalize (O++y).length+j=jj at*
      rw [List.append_assoc]at*
      repeat' (first|apply zs_|apply zb_|apply zc_|apply zt_ rfl|apply zf_ rfl|(apply zd_ rfl<;>intro ht<;>try omega)|((first|apply zr_|apply zk_|apply ze_|apply zq_|(apply zG<;>intro ht));all_goals try simp (disch:=first|omega|(simp only [lens,z7,z6,lQr,lQm,lQt,lQd,zg,z8,zh,zm,zi];first|done|omega)) only [go_sem,q5,q6,q8,hg2,hbl,hbt]))
      exact DownV.pure hw z6q
     ·rw [List.append_assoc]at*
      repeat' (first|apply zs_|apply zb_|apply zc_|apply zt_ rfl|apply zf_ rfl|(apply zd_ rfl<;>intro ht<;>try omega)|((first|apply zr_|apply zk_|apply ze_|apply zq_|(apply zG<;>intro ht));all_goals try simp (disch:=first|omega|(simp only [lens,z7,z6,lQr,lQm,lQt,lQd,zg,z8,zh,zm,zi];first|done|omega)) only [go_sem,q5,q6,q8,hbl,hbt]))
      exact DownV.pure hw z6q
attribute [local irreducible] zdl
theorem zjl(O:Store)(L:List (List UInt8))(y:AV)(hy:SlV 1 (strs L) y)(hL:TxtOk L)(h0:0<L.length):ACallsTo TC 23 [y] O (.str (z10 L)) O:=by
 obtain⟨ex,rfl⟩:=hy.vsl (by rw [z8];omega)
 have l1:=z8 L
 by_cases h1:L.length=1
 ·rw [z9e h1]
  have hg:=z5s h0
  rw [show L.getD 0 []=stD L 0 from rfl]at hg
  have h1':(L.length:Int)=1:=by omega
  have hs0:=hL.1 _ (z9b h0)
  generalize stD L 0=s at*
  refine ACallsTo.of_body q20ok (by simp) fun hw _=> ?_
  repeat' (first|apply zs_|apply zb_|apply zc_|apply zt_ rfl|apply zf_ rfl|(apply zd_ rfl<;>intro ht<;>try omega)|((first|apply zr_|apply zk_|apply ze_|apply zq_|(apply zG<;>intro ht));all_goals try simp (disch:=first|omega|(simp only [lens,z7,z6,lQr,lQm,lQt,lQd,zg,z8,zh,zm,zi];first|done|omega)) only [go_sem,l1,h1',hg]))
  exact DownV.same hw z6q
 ·have h1':¬(L.length:Int)=1:=by omega
  obtain⟨s1,s2,s3⟩:=z3s (n:=L.length) (by omega)
  have hsp:=fun O=>zdq O L.length (by have:=hL.2;omega)
  rw [z9f (by omega)]
  generalize hk:zo L.length=k at*
  have tk:=zbo L k
  have dk:=zbn L k
  have la:=fun O b=>zif O (L.take k) (.vsl 1 (strs (L.take k)) b) (.inr ⟨b,rfl⟩) (hL.take k).1 (hL.take k).2
  have lb:=fun O b=>zif O (L.drop k) (.vsl 1 (strs (L.drop k)) b) (.inr ⟨b,rfl⟩) (hL.drop k).1 (hL.drop k).2
  have ha:=fun O=>zii O (lvs (L.take k)) (z18 32 (hr (lvs (L.take k)))) (.of (z4a _ _)) (by rw [zh];have:=(hL.take k).2;omega)
  have hb:=fun O=>zii O (lvs (L.drop k)) (z18 32 (hr (lvs (L.drop k)))) (.of (z4a _ _)) (by rw [zh];have:=(hL.drop k).2;omega)
  have rta:(strs L).take (strs L).length=strs L:=List.take_of_length_le (Nat.le_refl _)
  rw [l1]at rta
  generalize zy (lvs (L.take k))=A at*
  generalize zy (lvs (L.drop k))=B at*
  generalize z18 32 (hr (lvs (L.take k)))=va at*
  generalize z18 32 (hr (lvs (L.drop k)))=vb at*
  have hA:=z7 A
  have hB:=z7 B
  have hAd:=z79 A
  have hBd:=z79 B
  refine ACallsTo.of_body q20ok (by simp) fun hw _=> ?_
  have T:=zsv O hw
  repeat' (first|apply zs_|apply zb_|apply zc_|apply zt_ rfl|apply zf_ rfl|(apply zd_ rfl<;>intro ht<;>try omega)|((first|apply zr_|apply zk_|apply ze_|apply zq_|(apply callW.mk_pu;(first|exact(fun _=>hsp _)))|(apply callW.za;(first|exact(hsp _)))|(apply zG<;>intro ht));all_goals try simp (disch:=first|omega|(simp only [lens,z7,z6,lQr,lQm,lQt,lQd,zg,z8,zh,zm,zi];first|done|omega)) only [go_sem,l1,h1']))
  refine zW.reg2J ?_
  simp (disch:=first|omega|(simp only [lens,z7,z6,lQr,lQm,lQt,lQd,zg,z8,zh,zm,zi];first|done|omega)) only [go_sem,l1,h1',tk,dk,rta]
  repeat' (first|apply zs_|apply zb_|apply zc_|apply zt_ rfl|apply zf_ rfl|(apply zd_ rfl<;>intro ht<;>try omega)|((first|apply zr_|apply zk_|apply ze_|apply zq_|(apply callW.mk_pu;(first|exact(fun _=>la _ _)|exact(fun _=>lb _ _)|exact(fun _=>ha _)|exact(fun _=>hb _)))|(apply callW.za;(first|exact(la _ _)|exact(lb _ _)|exact(ha _)|exact(hb _)))|(apply zG<;>intro ht));all_goals try simp (disch:=first|omega|(simp only [lens,z7,z6,lQr,lQm,lQt,lQd,zg,z8,zh,zm,zi];first|done|omega)) only [go_sem,l1,h1',tk,dk,rta,hA,hB,hAd,hBd,List.append_nil]))
  have z0:∀a b:Option AObj,(O++ [a,b])[O.length]? =some a:=fun a b=>by rw [z1h (by omega),Nat.sub_self];rfl
  have z1:∀a b:Option AObj,(O++ [a,b])[O.length+1]? =some b:=fun a b=>by rw [z1h (by omega),Nat.add_sub_cancel_left];rfl
  refine⟨?_,?_⟩
  ·exact T _ O.length (O.length+1) A B ⟨_,rfl⟩ (z0 _ _) (z1 _ _) _ (by simp (disch:=first|omega|(simp only [lens,z7,z6,lQr,lQm,lQt,lQd,zg,z8,zh,zm,zi];first|done|omega)) only [go_sem]) (by simp (disch:=first|omega|(simp only [lens,z7,z6,lQr,lQm,lQt,lQd,zg,z8,zh,zm,zi];first|done|omega)) only [go_sem])
  ·exact T _ (O.length+1) O.length A B ⟨_,rfl⟩ (z1 _ _) (z0 _ _) _ (by simp (disch:=first|omega|(simp only [lens,z7,z6,lQr,lQm,lQt,lQd,zg,z8,zh,zm,zi];first|done|omega)) only [go_sem]) (by simp (disch:=first|omega|(simp only [lens,z7,z6,lQr,lQm,lQt,lQd,zg,z8,zh,zm,zi];first|done|omega)) only [go_sem])
theorem zr2:∀(f:Nat) (O:Store) (A B:List (List UInt8)) (x y:AV),A.length<f->SlV 1 (strs A) x->SlV 1 (strs B) y->TxtOk A->TxtOk B->ACallsTo TC 8 [x,y] O (colV (z2i A B)) O:=by
 intro f
 induction f with
 |zero=>intro O A B x y h;omega
 |succ f ih=>
  intro O A B x y hf hx hy hA hB
  have r1:=hx.len
  have r2:=hy.len
  rw [z8]at r1 r2
  unfold z1c at r1 r2
  rw [zaj A B]
  refine ACallsTo.of_body q1vok (by simp) fun hw _=> ?_
  by_cases c1:(A.length:Int)=B.length
  ·by_cases c2:(A.length:Int)>4096
   ·rw [if_pos (.inr (.inl (by omega)))]
    repeat' (first|apply zs_|apply zb_|apply zc_|apply zt_ rfl|apply zf_ rfl|(apply zd_ rfl<;>intro ht<;>try omega)|((first|apply zr_|apply zk_|apply ze_|apply zq_|(apply zG<;>intro ht));all_goals try simp (disch:=first|omega|(simp only [lens,z7,z6,lQr,lQm,lQt,lQd,zg,z8,zh,zm,zi];first|done|omega)) only [go_sem,r1,r2,c1,c2]))
    exact DownV.same hw (z3o none)
   ·have hEq:=fun O=>zig O A B x y hx hy hA.2 hB.2
    by_cases c3:A=B
    ·rw [if_pos (.inr (.inr c3))]
     rw [decide_eq_true c3]at hEq
     repeat' (first|apply zs_|apply zb_|apply zc_|apply zt_ rfl|apply zf_ rfl|(apply zd_ rfl<;>intro ht<;>try omega)|((first|apply zr_|apply zk_|apply ze_|apply zq_|(apply callW.mk_pu;(first|exact(fun _=>hEq _)))|(apply callW.za;(first|exact(hEq _)))|(apply zG<;>intro ht));all_goals try simp (disch:=first|omega|(simp only [lens,z7,z6,lQr,lQm,lQt,lQd,zg,z8,zh,zm,zi];first|done|omega)) only [go_sem,r1,r2,c1,c2]))
     exact DownV.same hw (z3o none)
    ·rw [decide_eq_false c3]at hEq
     rw [if_neg (by simp only [not_or,Decidable.not_not];exact⟨by omega,by omega,c3⟩)]
     have hp:0<A.length:=by
      rcases Nat.eq_zero_or_pos A.length with h0|h0
      ·exact absurd (by rw [List.eq_nil_of_length_eq_zero h0,List.eq_nil_of_length_eq_zero (l:=B) (by omega)]) c3
      ·exact h0
     have hpa:=fun O=>zjl O A x hx hA hp
     have hpb:=fun O=>zjl O B y hy hB (by omega)
     have hSa:=fun O=>zdr O (z10 A) (by have:=zbp hA;omega)
     have hSb:=fun O=>zdr O (z10 B) (by have:=zbp hB;omega)
     by_cases c4:shaH (z10 A)=shaH (z10 B)
     ·rw [if_neg (by simpa using c4)]
      by_cases c5:z10 A=z10 B
      ·rw [if_neg (by simpa using c5)]
       have h2:=z8n (by omega) c3 c5
       obtain⟨s1,s2,s3⟩:=z3s h2
       have hAB:A.length=B.length:=by omega
       have hsp:∀O,ACallsTo TC 25 [.int .i64 (B.length:Nat)] O (.int .i64 (zo A.length:Nat)) O:=fun O=>by rw [hAB];exact zdq O B.length (by have:=hB.2;omega)
       rw [c5]at hpa hSa
       generalize zo A.length=k at*
       have i1:=fun O u v=>ih O (A.take k) (B.take k) (.vsl 1 (strs (A.take k)) u) (.vsl 1 (strs (B.take k)) v) (by rw [List.length_take];omega) (.inr ⟨u,rfl⟩) (.inr ⟨v,rfl⟩) (hA.take k) (hB.take k)
       have i2:=fun O u v=>ih O (A.drop k) (B.drop k) (.vsl 1 (strs (A.drop k)) u) (.vsl 1 (strs (B.drop k)) v) (by rw [List.length_drop];omega) (.inr ⟨u,rfl⟩) (.inr ⟨v,rfl⟩) (hA.drop k) (hB.drop k)
       have hEq2:=fun O u v=>zig O (A.take k) (B.take k) (.vsl 1 (strs (A.take k)) u) (.vsl 1 (strs (B.take k)) v) (.inr ⟨u,rfl⟩) (.inr ⟨v,rfl⟩) (hA.take k).2 (hB.take k).2
       obtain⟨e1,rfl⟩:=hx.vsl (by rw [z8];omega)
       obtain⟨e2,rfl⟩:=hy.vsl (by rw [z8];omega)
       have l1:=z8 A
       have l2:=z8 B
       have tk:=zbo A k
       have dk:=zbn A k
       have tk2:=zbo B k
       have dk2:=zbn B k
       have rta:(strs A).take A.length=strs A:=List.take_of_length_le (by rw [l1];exact Nat.le_refl _)
       have rtb:(strs B).take B.length=strs B:=List.take_of_length_le (by rw [l2];exact Nat.le_refl _)
       generalize shaH (z10 B)=S at*
       generalize z10 B=T at*
       by_cases c6:A.take k=B.take k
       ·rw [if_pos c6]
        rw [decide_eq_true c6]at hEq2
        cases hc:z2i (A.drop k) (B.drop k)
        all_goals
         rw [hc]at i2
         simp only [colV]at i2
         repeat' (first|apply zs_|apply zb_|apply zc_|apply zt_ rfl|apply zf_ rfl|(apply zd_ rfl<;>intro ht<;>try omega)|((first|apply zr_|apply zk_|apply ze_|apply zq_|(apply callW.mk_pu;(first|exact(fun _=>hEq _)|exact(fun _=>hpa _)|exact(fun _=>hpb _)|exact(fun _=>hSa _)|exact(fun _=>hSb _)|exact(fun _=>hsp _)|exact(fun _=>hEq2 _ _ _)|exact(fun _=>i2 _ _ _)))|(apply callW.za;(first|exact(hEq _)|exact(hpa _)|exact(hpb _)|exact(hSa _)|exact(hSb _)|exact(hsp _)|exact(hEq2 _ _ _)|exact(i2 _ _ _)))|(apply zG<;>intro ht));all_goals try simp (disch:=first|omega|(simp only [lens,z7,z6,lQr,lQm,lQt,lQd,zg,z8,zh,zm,zi];first|done|omega)) only [go_sem,l1,l2,tk,dk,tk2,dk2,rta,rtb,c1,c2,decide_true,Bool.not_true,bne_self_eq_false]))
         exact DownV.same hw (by simp [RL,RLs])
       ·rw [if_neg c6]
        rw [decide_eq_false c6]at hEq2
        cases hc:z2i (A.take k) (B.take k)
        all_goals
         rw [hc]at i1
         simp only [colV]at i1
         repeat' (first|apply zs_|apply zb_|apply zc_|apply zt_ rfl|apply zf_ rfl|(apply zd_ rfl<;>intro ht<;>try omega)|((first|apply zr_|apply zk_|apply ze_|apply zq_|(apply callW.mk_pu;(first|exact(fun _=>hEq _)|exact(fun _=>hpa _)|exact(fun _=>hpb _)|exact(fun _=>hSa _)|exact(fun _=>hSb _)|exact(fun _=>hsp _)|exact(fun _=>hEq2 _ _ _)|exact(fun _=>i1 _ _ _)))|(apply callW.za;(first|exact(hEq _)|exact(hpa _)|exact(hpb _)|exact(hSa _)|exact(hSb _)|exact(hsp _)|exact(hEq2 _ _ _)|exact(i1 _ _ _)))|(apply zG<;>intro ht));all_goals try simp (disch:=first|omega|(simp only [lens,z7,z6,lQr,lQm,lQt,lQd,zg,z8,zh,zm,zi];first|done|omega)) only [go_sem,l1,l2,tk,dk,tk2,dk2,rta,rtb,c1,c2,decide_true,Bool.not_true,bne_self_eq_false]))
         exact DownV.same hw (by simp [RL,RLs])
      ·rw [if_pos c5]
       rw [c4]at hSa
       have hb1:(z10 A==z10 B)=false:=by simpa using c5
       have hb2:(z10 A !=z10 B)=true:=by simpa using c5
       generalize shaH (z10 B)=S at*
       generalize z10 A=Ta at*
       generalize z10 B=T at*
       repeat' (first|apply zs_|apply zb_|apply zc_|apply zt_ rfl|apply zf_ rfl|(apply zd_ rfl<;>intro ht<;>try omega)|((first|apply zr_|apply zk_|apply ze_|apply zq_|(apply callW.mk_pu;(first|exact(fun _=>hEq _)|exact(fun _=>hpa _)|exact(fun _=>hpb _)|exact(fun _=>hSa _)|exact(fun _=>hSb _)))|(apply callW.za;(first|exact(hEq _)|exact(hpa _)|exact(hpb _)|exact(hSa _)|exact(hSb _)))|(apply zG<;>intro ht));all_goals try simp (disch:=first|omega|(simp only [lens,z7,z6,lQr,lQm,lQt,lQd,zg,z8,zh,zm,zi];first|done|omega)) only [go_sem,r1,r2,c1,c2,decide_true,Bool.not_true,hb1,hb2]))
       exact DownV.same hw (z3o (some (Ta,T)))
     ·rw [if_pos c4]
      have hd:=decide_eq_false c4
      generalize shaH (z10 A)=Sa at*
      generalize shaH (z10 B)=S at*
      repeat' (first|apply zs_|apply zb_|apply zc_|apply zt_ rfl|apply zf_ rfl|(apply zd_ rfl<;>intro ht<;>try omega)|((first|apply zr_|apply zk_|apply ze_|apply zq_|(apply callW.mk_pu;(first|exact(fun _=>hEq _)|exact(fun _=>hpa _)|exact(fun _=>hpb _)|exact(fun _=>hSa _)|exact(fun _=>hSb _)))|(apply callW.za;(first|exact(hEq _)|exact(hpa _)|exact(hpb _)|exact(hSa _)|exact(hSb _)))|(apply zG<;>intro ht));all_goals try simp (disch:=first|omega|(simp only [lens,z7,z6,lQr,lQm,lQt,lQd,zg,z8,zh,zm,zi];first|done|omega)) only [go_sem,r1,r2,c1,c2,hd,Bool.not_false]))
      exact DownV.same hw (z3o none)
  ·rw [if_pos (.inl (by omega))]
   repeat' (first|apply zs_|apply zb_|apply zc_|apply zt_ rfl|apply zf_ rfl|(apply zd_ rfl<;>intro ht<;>try omega)|((first|apply zr_|apply zk_|apply ze_|apply zq_|(apply zG<;>intro ht));all_goals try simp (disch:=first|omega|(simp only [lens,z7,z6,lQr,lQm,lQt,lQd,zg,z8,zh,zm,zi];first|done|omega)) only [go_sem,r1,r2,c1]))
   exact DownV.same hw (z3o none)
end
section
abbrev HV2:=Hdr × AV
def hw2(P:List HV2):List (List AV):=P.map fun p=>sgC p.1.n p.1.r p.1.i p.1.s p.2
theorem z21(P:List HV2):(hw2 P).length=P.length:=by simp [hw2]
theorem zni{P:List HV2}{i:Nat}(h:i<P.length):(hw2 P)[i]? =some (sgC P[i].1.n P[i].1.r P[i].1.i P[i].1.s P[i].2):=by
 simp [hw2,List.getElem?_eq_getElem h]
def z3r(s:Hdr)(q:HV2):Bool:=decide (q.1.n=s.n/\ q.1.r=s.r)
def idxH(P:List HV2)(s:Hdr):Int:=match P.findIdx? (z3r s)with|some i=>(i:Int)|none=> -1
theorem znv(P:List HV2)(s:Hdr):decide (idxH P s>=0)=P.any (z3r s):=by
 unfold idxH
 cases h:P.findIdx? (z3r s)with
 |none=>
  rw [List.findIdx?_eq_none_iff]at h
  have:P.any (z3r s)=false:=by
   rw [List.any_eq_false]
   intro x hx
   simp [h x hx]
  rw [this];rfl
 |some i=>
  rw [List.findIdx?_eq_some_iff_getElem]at h
  obtain⟨hi,h1,_⟩:=h
  have:P.any (z3r s)=true:=List.any_eq_true.2 ⟨_,List.getElem_mem hi,h1⟩
  rw [this]
  show decide ((i:Int)>=0)=true
  exact decide_eq_true (by omega)
theorem znw{P:List HV2}{f:HV2->Bool}{i:Nat}(hi:i<P.length):(P.drop i).findIdx? f=if f P[i]=true then some 0 else((P.drop (i+1)).findIdx? f).map (· +1):=by
 rw [List.drop_eq_getElem_cons hi,List.findIdx?_cons]
theorem ztc(seed:List UInt8)(dg x:Hash)(hx:zy (keyL seed) ≠ x):verI x dg (0:Nat) (ksgS seed (0:Nat) dg.1) (z1o (keyL seed) 0) ≠ 0:=by
 have hc:chkP (hd (keyL seed) 0) (0:Nat) 8 (z1o (keyL seed) 0) x ≠ 0:=by
  obtain⟨a,b,c,d,e,f,g,h,hK⟩:=len8 (z2k seed)
  rw [hK]at hx ⊢
  rw [zdx]at hx
  obtain⟨p0,_⟩:=zhv a b c d e f g h
  rw [p0,z4h 0 (by omega),if_neg]
  ·decide
  ·exact fun e=>hx (by rw [<-e];simp [z2d,hd])
 unfold verI
 rw [if_neg (by omega),if_pos (zat _ _ _),zid,<-zh1 seed 0 (by omega),if_neg hc]
 decide
theorem zoq(seed:List UInt8)(x:Hash)(M:List (List UInt8))(hM:M.length<=4096)(hx:zy (keyL seed) ≠ x):z4k x (mkH seed 0 M).n (mkH seed 0 M).i (mkH seed 0 M).r (mkH seed 0 M).s (mkH seed 0 M).p ≠ 0:=by
 have hv:z7x (mkH seed 0 M).n (mkH seed 0 M).i (mkH seed 0 M).s (mkH seed 0 M).p=true:=decide_eq_true ⟨by simp only [mkH];omega,by simp only [mkH];omega,by simp only [mkH];omega,by simp only [mkH];omega,zat _ _ _,zb0 _ _⟩
 unfold z4k
 have e:(if verI x (digH (mkH seed 0 M).n (mkH seed 0 M).r) (mkH seed 0 M).i (mkH seed 0 M).s (mkH seed 0 M).p=0 then(0:Int)else 81)=81:=if_neg (ztc seed _ x hx)
 rw [hv,if_neg (by simp),e]
 decide
def z61(key:Hash)(h:Hdr)(P:List HV2):Bool:=decide (z4k key h.n h.i h.r h.s h.p=0) && !P.any (z3r h)
attribute [local irreducible] ACallsTo ACallsP
theorem zkb(O:Store)(q s:Hdr)(x y:AV)(p:Nat)(hp:O[p]? =some (some [sgC s.n s.r s.i s.s y])):
  ACallsTo TC 39 [.agg (sgC q.n q.r q.i q.s x),.ptr p 0 0] O (.bool (decide (q.n=s.n/\ q.r=s.r))) O:=by
 have d:=slen hp
 have he:=sg_eq q.n s.n q.r s.r
 refine ACallsTo.of_body q22ok (by simp) fun hw _=> ?_
 repeat' (first|apply zs_|apply zb_|apply zc_|apply zt_ rfl|apply zf_ rfl|(apply zd_ rfl<;>intro ht<;>try omega)|((first|apply zr_|apply zk_|apply ze_|apply zq_|(apply zG<;>intro ht));all_goals try simp (disch:=first|omega|(simp only [lens,z7,z6,lQr,lQm,lQt,lQd,zg,z8,zh,zm,zi,z21];first|done|omega)) only [go_sem,hp,he]))
 exact DownV.pure hw (z16 _ rfl)
theorem zkd(O:Store)(P:List HV2)(v:AV)(s:Hdr)(y:AV)(p:Nat)(hv:SlV 36 (hw2 P) v)(hp:O[p]? =some (some [sgC s.n s.r s.i s.s y]))(hl:P.length<1000000):
  ACallsTo TC 58 [v,.fn 39 [.ptr p 0 0]] O (.int .i64 (idxH P s)) O:=by
 have r1:=hv.len
 rw [z21]at r1
 unfold z1c at r1
 have d:=slen hp
 refine ACallsTo.of_body q24ok (by simp) fun hw _=> ?_
 repeat' (first|apply zs_|apply zb_|apply zc_|apply zt_ rfl|apply zf_ rfl|(apply zd_ rfl<;>intro ht<;>try omega)|((first|apply zr_|apply zk_|apply ze_|apply zq_|(apply zG<;>intro ht));all_goals try simp (disch:=first|omega|(simp only [lens,z7,z6,lQr,lQm,lQt,lQd,zg,z8,zh,zm,zi,z21];first|done|omega)) only [go_sem,r1]))
 refine zW.loop (fun m Z O'=>∃i:Nat,m+i=P.length/\ O'=O/\ P.findIdx? (z3r s)=((P.drop i).findIdx? (z3r s)).map (· +i)/\ Z 0=v/\ Z 1=.fn 39 [.ptr p 0 0]/\ Z 7=.int .i64 P.length/\ Z 8=.int .i64 i) P.length ?_ ?_
 ·exact⟨0,by omega,rfl,by simp,by simp (disch:=first|omega|(simp only [lens,z7,z6,lQr,lQm,lQt,lQd,zg,z8,zh,zm,zi,z21];first|done|omega)) only [go_sem],by simp (disch:=first|omega|(simp only [lens,z7,z6,lQr,lQm,lQt,lQd,zg,z8,zh,zm,zi,z21];first|done|omega)) only [go_sem],by simp (disch:=first|omega|(simp only [lens,z7,z6,lQr,lQm,lQt,lQd,zg,z8,zh,zm,zi,z21];first|done|omega)) only [go_sem],by simp (disch:=first|omega|(simp only [lens,z7,z6,lQr,lQm,lQt,lQd,zg,z8,zh,zm,zi,z21];first|done|omega)) only [go_sem];rfl⟩
 ·rintro m Z O' ⟨i,hm,rfl,hF,q0,q1,q7,q8⟩
  by_cases hi:i<P.length
  ·obtain⟨ex,rfl⟩:=hv.vsl (by rw [z21];omega)
   have hg:=zni hi
   have l1:=z21 P
   rw [znw hi]at hF
   have hc:=zkb O' P[i].1 s P[i].2 y p hp
   have hx:z3r s P[i]=decide (P[i].1.n=s.n/\ P[i].1.r=s.r):=rfl
   rw [hx]at hF
   generalize P[i]=q at*
   have hsl:=zg q.1.n q.1.r q.1.i q.1.s q.2
   by_cases hs:q.1.n=s.n/\ q.1.r=s.r
   ·rw [decide_eq_true hs,if_pos rfl]at hF
    rw [decide_eq_true hs]at hc
    have hr:idxH P s=(i:Int):=by unfold idxH;rw [hF];simp
    rw [hr]
    repeat' (first|apply zs_|apply zb_|apply zc_|apply zt_ rfl|apply zf_ rfl|(apply zd_ rfl<;>intro ht<;>try omega)|((first|apply zr_|apply zk_|apply ze_|apply zq_|(apply callW.mk_pu;(first|exact(fun _=>hc)))|(apply callW.za;(first|exact(hc)))|(apply zG<;>intro ht));all_goals try simp (disch:=first|omega|(simp only [lens,z7,z6,lQr,lQm,lQt,lQd,zg,z8,zh,zm,zi,z21];first|done|omega)) only [go_sem,q0,q1,q7,q8,hg,l1,hsl]))
    exact DownV.same hw z3p
   ·rw [decide_eq_false hs,if_neg (by simp),Option.map_map]at hF
    rw [decide_eq_false hs]at hc
    repeat' (first|apply zs_|apply zb_|apply zc_|apply zt_ rfl|apply zf_ rfl|(apply zd_ rfl<;>intro ht<;>try omega)|((first|apply zr_|apply zk_|apply ze_|apply zq_|(apply callW.mk_pu;(first|exact(fun _=>hc)))|(apply callW.za;(first|exact(hc)))|(apply zG<;>intro ht));all_goals try simp (disch:=first|omega|(simp only [lens,z7,z6,lQr,lQm,lQt,lQd,zg,z8,zh,zm,zi,z21];first|done|omega)) only [go_sem,q0,q1,q7,q8,hg,l1,hsl]))
    exact⟨m-1,by omega,i+1,by omega,by rw [hF];congr 1;funext k;simp only [Function.comp];omega,by simp⟩
  ·obtain rfl:i=P.length:=by omega
   have hr:idxH P s= -1:=by unfold idxH;rw [hF,List.drop_length];rfl
   rw [hr]
   repeat' (first|apply zs_|apply zb_|apply zc_|apply zt_ rfl|apply zf_ rfl|(apply zd_ rfl<;>intro ht<;>try omega)|((first|apply zr_|apply zk_|apply ze_|apply zq_|(apply zG<;>intro ht));all_goals try simp (disch:=first|omega|(simp only [lens,z7,z6,lQr,lQm,lQt,lQd,zg,z8,zh,zm,zi,z21];first|done|omega)) only [go_sem,q0,q1,q7,q8]))
   exact DownV.same hw z3p
theorem zc0(O:Store)(key:Hash)(h:Hdr)(x:AV)(P:List HV2)(v:AV)(hx:SlV 32 (hr h.p) x)(hv:SlV 36 (hw2 P) v)(hl:P.length<1000000):
  ACallsTo TC 18 [.agg (hc key),.agg (sgC h.n h.r h.i h.s x),v] O (.bool (z61 key h P)) O:=by
 have hC:=fun O=>zkc O key h.n h.i h.r h.s h.p x (.of hx)
 have hkl:=z7 key
 have hsl:=zg h.n h.r h.i h.s x
 have hI:∀τ,ACallsTo TC 38 [v,.fn 39 [.ptr (O.length+1) 0 0]] (O++some [hc key]::some [sgC h.n h.r h.i h.s x]::τ) (.bool (P.any (z3r h))) (O++some [hc key]::some [sgC h.n h.r h.i h.s x]::τ):=by
  intro τ
  have hp:(O++some [hc key]::some [sgC h.n h.r h.i h.s x]::τ)[O.length+1]? =some (some [sgC h.n h.r h.i h.s x]):=by rw [z1h (by omega),Nat.add_sub_cancel_left];rfl
  have hi:=zkd _ P v h x (O.length+1) hv hp hl
  have hge:=znv P h
  generalize idxH P h=k at*
  generalize (O++some [hc key]::some [sgC h.n h.r h.i h.s x]::τ)=O1 at*
  refine ACallsTo.of_body q21ok (by simp) fun hw _=> ?_
  repeat' (first|apply zs_|apply zb_|apply zc_|apply zt_ rfl|apply zf_ rfl|(apply zd_ rfl<;>intro ht<;>try omega)|((first|apply zr_|apply zk_|apply ze_|apply zq_|(apply callW.mk_pu;(first|exact(fun _=>hi)))|(apply callW.za;(first|exact(hi)))|(apply zG<;>intro ht));all_goals try simp (disch:=first|omega|(simp only [lens,z7,z6,lQr,lQm,lQt,lQd,zg,z8,zh,zm,zi,z21];first|done|omega)) only [go_sem,hge]))
  exact DownV.same hw z2g
 unfold z61
 refine ACallsTo.of_body q1wok (by simp) fun hw _=> ?_
 by_cases hc0:z4k key h.n h.i h.r h.s h.p=0
 ·rw [decide_eq_true hc0]
  rw [hc0]at hC
  repeat' (first|apply zs_|apply zb_|apply zc_|apply zt_ rfl|apply zf_ rfl|(apply zd_ rfl<;>intro ht<;>try omega)|((first|apply zr_|apply zk_|apply ze_|apply zq_|(apply callW.mk_pu;(first|exact(fun _=>hC _)|exact(fun _=>hI [])))|(apply callW.za;(first|exact(hC _)|exact(hI [])))|(apply zG<;>intro ht));all_goals try simp (disch:=first|omega|(simp only [lens,z7,z6,lQr,lQm,lQt,lQd,zg,z8,zh,zm,zi,z21];first|done|omega)) only [go_sem,hkl,hsl]))
  exact DownV.pure hw z2g
 ·rw [decide_eq_false hc0]
  generalize z4k key h.n h.i h.r h.s h.p=c at*
  repeat' (first|apply zs_|apply zb_|apply zc_|apply zt_ rfl|apply zf_ rfl|(apply zd_ rfl<;>intro ht<;>try omega)|((first|apply zr_|apply zk_|apply ze_|apply zq_|(apply callW.mk_pu;(first|exact(fun _=>hC _)))|(apply callW.za;(first|exact(hC _)))|(apply zG<;>intro ht));all_goals try simp (disch:=first|omega|(simp only [lens,z7,z6,lQr,lQm,lQt,lQd,zg,z8,zh,zm,zi,z21];first|done|omega)) only [go_sem,hkl,hsl,hc0]))
  exact DownV.pure hw z2g
theorem zlt(A:List (List UInt8)):z2i A A=none:=by rw [zaj,if_pos (.inr (.inr rfl))]
end
section
theorem zkq:z23 (shaS [0,97]) (shaS [0,98]) ≠ z23 (shaS [0,97]) (shaS [0,99]):=by decide+kernel
theorem zls:z2i [[97],[98]] [[97],[99]]=none:=by
 have h:=zcj ([[97],[98]]:List (List UInt8)).length.succ [[97],[98]] [[97],[99]] (by simp) rfl (by simp)
 have hn:¬(([[97],[98]]:List (List UInt8)) ≠ [[97],[99]]/\ zy (lvs [[97],[98]])=zy (lvs [[97],[99]])):=by
  rintro⟨_,e⟩
  have e1:zy [lfH [97],lfH [98]]=zy [lfH [97],lfH [99]]:=e
  rw [zbf,zbf]at e1
  have e2:=congrArg Subtype.val e1
  simp only [z11,lfH,shaH]at e2
  exact zkq e2
 have h2:¬(z2i [[97],[98]] [[97],[99]]).isSome=true:=fun e=>hn (h.1 e)
 simpa using h2
theorem zlu{A B:List (List UInt8)}(h:A.length ≠ B.length):z2i A B=none:=by rw [zaj,if_pos (.inl h)]
theorem zmw(seed:List UInt8)(M:List (List UInt8))(x:AV):z61 (zy (keyL seed)) (mkH seed 0 M) [(mkH seed 0 M,x)]=false:=by
 simp [z61,z3r]
theorem zmv(seed:List UInt8)(M:List (List UInt8))(hM:M.length<=4096):z61 (zy (keyL seed)) (mkH seed 0 M) []=true:=by
 unfold z61
 rw [zop seed 0 M (by omega) hM]
 rfl
theorem zmx(M:List (List UInt8))(hM:M.length<=4096):z61 zeroH (mkH [102] 0 M) []=false:=by
 unfold z61
 rw [decide_eq_false (zoq [102] zeroH M hM (root_f zeroH rfl))]
 rfl
attribute [local irreducible] ACallsTo ACallsP
theorem hcZ:hc zeroH=[.int .u8 0,.int .u8 0,.int .u8 0,.int .u8 0,.int .u8 0,.int .u8 0,.int .u8 0,.int .u8 0,.int .u8 0,.int .u8 0,.int .u8 0,.int .u8 0,.int .u8 0,.int .u8 0,.int .u8 0,.int .u8 0,.int .u8 0,.int .u8 0,.int .u8 0,.int .u8 0,.int .u8 0,.int .u8 0,.int .u8 0,.int .u8 0,.int .u8 0,.int .u8 0,.int .u8 0,.int .u8 0,.int .u8 0,.int .u8 0,.int .u8 0,.int .u8 0]:=rfl
theorem zmy:ACallsTo TC 6 [] [] (.bool true) []:=by
 have ok1:TxtOk [[97],[98]]:=⟨by simp,by simp⟩
 have ok2:TxtOk [[97],[99]]:=⟨by simp,by simp⟩
 have ok3:TxtOk [[97]]:=⟨by simp,by simp⟩
 have ok0:TxtOk []:=⟨by simp,by simp⟩
 have hC1:∀O,ACallsTo TC 7 [.vsl 1 [[.str [97]],[.str [98]]] true,.vsl 1 [[.str [97]],[.str [98]]] true] O (.tup [.str [],.str [],.bool false]) O:=fun O=>by
  have h:=z9q O [[97],[98]] [[97],[98]] (.vsl 1 [[.str [97]],[.str [98]]] true) (.vsl 1 [[.str [97]],[.str [98]]] true) (.inr ⟨true,rfl⟩) (.inr ⟨true,rfl⟩) ok1 ok1
  rw [zlt]at h
  exact h
 have hC2:∀O,ACallsTo TC 7 [.vsl 1 [[.str [97]],[.str [98]]] true,.vsl 1 [[.str [97]],[.str [99]]] true] O (.tup [.str [],.str [],.bool false]) O:=fun O=>by
  have h:=z9q O [[97],[98]] [[97],[99]] (.vsl 1 [[.str [97]],[.str [98]]] true) (.vsl 1 [[.str [97]],[.str [99]]] true) (.inr ⟨true,rfl⟩) (.inr ⟨true,rfl⟩) ok1 ok2
  rw [zls]at h
  exact h
 have hC3:∀O,ACallsTo TC 7 [.nilsl,.vsl 1 [[.str [97]]] true] O (.tup [.str [],.str [],.bool false]) O:=fun O=>by
  have h:=z9q O [] [[97]] .nilsl (.vsl 1 [[.str [97]]] true) (.inl ⟨rfl,rfl⟩) (.inr ⟨true,rfl⟩) ok0 ok3
  rw [zlu (by simp)]at h
  exact h
 have hNew:=fun O=>zqm O [102] (by simp)
 have P0:=zql [] [102]
 refine ACallsTo.of_body q1tok (by simp) fun hw _=> ?_
 repeat' (first|apply zs_|apply zb_|apply zc_|apply zt_ rfl|apply zf_ rfl|(apply zd_ rfl<;>intro ht<;>try omega)|((first|apply zr_|apply zk_|apply ze_|apply zq_|(apply callW.mk_pu;(first|exact(fun _=>hC1 _)|exact(fun _=>hC2 _)|exact(fun _=>hC3 _)|exact(fun _=>hNew _)))|(apply callW.za;(first|exact(hC1 _)|exact(hC2 _)|exact(hC3 _)|exact(hNew _)))|(apply zG<;>intro ht));all_goals try simp (disch:=first|omega|(simp only [lens,z7,z6,lQr,lQm,lQt,lQd,zg,z8,zh,z1k,zm,z21];first|done|omega)) only [go_sem]))
 simp only [List.nil_append,List.length_nil,Nat.zero_add]at P0 ⊢
 have hsl:([102]:List UInt8).length<1000000:=by simp
 have hz0:=fun M hM=>zmx M hM
 generalize ([102]:List UInt8)=seed at*
 generalize [some [z1g true seed (keyL seed)],some [pbC (.ptr 0 0 0) .nilsl .nilsl 0 .nilsl .nilsl]]=O1 at*
 refine callW.mkP (caps:=[]) (zqi _ 1 seed [] [] _ [97] P0 (by simp) (by simp)) (AppendP.is P0) ?_
 rintro v O3 ⟨rfl,own3,fr3,P3⟩
 rw [apL_s (by simp),List.nil_append]at P3
 rw [apE_s (by simp)]
 simp (disch:=first|omega|(simp only [lens,z7,z6,lQr,lQm,lQt,lQd,zg,z8,zh,z1k,zm,z21];first|done|omega)) only [go_sem]
 repeat' (first|apply zs_|apply zb_|apply zc_|apply zt_ rfl|apply zf_ rfl|(apply zd_ rfl<;>intro ht<;>try omega)|((first|apply zr_|apply zk_|apply ze_|apply zq_|(apply zG<;>intro ht));all_goals try simp (disch:=first|omega|(simp only [lens,z7,z6,lQr,lQm,lQt,lQd,zg,z8,zh,z1k,zm,z21];first|done|omega)) only [go_sem]))
 refine callW.mkP (caps:=[]) (zqq O3 1 seed [[97]] [] own3 P3 (.none1 _ _) (by simp) hsl) (PublishP.is P3) ?_
 rintro v O4 ⟨rfl,own4,fr4,P4⟩
 rw [(puV_1 seed [97]).2]at P4
 rw [(puV_1 seed [97]).1]
 have hma:=znd (mkH seed 0 [[97]])
 have hml:=zm (mkH seed 0 [[97]])
 have ok4:PubOk seed [[97]] [mkH seed 0 [[97]]]:=.one seed [97] []
 have f1:=zmw seed [[97]] (z18 32 (hr (mkH seed 0 [[97]]).p))
 have f2:=zmv seed [[97]] (by simp)
 have f3:=hz0 [[97]] (by simp)
 generalize mkH seed 0 [[97]]=m at*
 have hF1:∀O,ACallsTo TC 18 [.agg (hc (zy (keyL seed))),.agg (hdrC m),.vsl 36 [hdrC m] false] O (.bool false) O:=fun O=>by
  have h:=zc0 O (zy (keyL seed)) m (z18 32 (hr m.p)) [(m,z18 32 (hr m.p))] (.vsl 36 [hdrC m] false) (z4a _ _) (.inr ⟨false,rfl⟩) (by simp)
  rw [f1]at h
  exact h
 have hF2:∀O,ACallsTo TC 18 [.agg (hc (zy (keyL seed))),.agg (hdrC m),.nilsl] O (.bool true) O:=fun O=>by
  have h:=zc0 O (zy (keyL seed)) m (z18 32 (hr m.p)) [] .nilsl (z4a _ _) (.inl ⟨rfl,rfl⟩) (by simp)
  rw [f2]at h
  exact h
 have hF3:∀O,ACallsTo TC 18 [.agg [.int .u8 0,.int .u8 0,.int .u8 0,.int .u8 0,.int .u8 0,.int .u8 0,.int .u8 0,.int .u8 0,.int .u8 0,.int .u8 0,.int .u8 0,.int .u8 0,.int .u8 0,.int .u8 0,.int .u8 0,.int .u8 0,.int .u8 0,.int .u8 0,.int .u8 0,.int .u8 0,.int .u8 0,.int .u8 0,.int .u8 0,.int .u8 0,.int .u8 0,.int .u8 0,.int .u8 0,.int .u8 0,.int .u8 0,.int .u8 0,.int .u8 0,.int .u8 0],.agg (hdrC m),.nilsl] O (.bool false) O:=fun O=>by
  have h:=zc0 O zeroH m (z18 32 (hr m.p)) [] .nilsl (z4a _ _) (.inl ⟨rfl,rfl⟩) (by simp)
  rw [f3,hcZ]at h
  exact h
 have hKey:=fun y=>(P4.ext (O':=O4++y) ⟨_,rfl⟩).key
 have hHd:=fun y=>(P4.ext (O':=O4++y) ⟨_,rfl⟩).heads ok4
 rw [show z18 36 (hdrs [m])=.vsl 36 [hdrC m] false from rfl]at hHd
 simp (disch:=first|omega|(simp only [lens,z7,z6,lQr,lQm,lQt,lQd,zg,z8,zh,z1k,zm,z21];first|done|omega)) only [go_sem,hml]
 repeat' (first|apply zs_|apply zb_|apply zc_|apply zt_ rfl|apply zf_ rfl|(apply zd_ rfl<;>intro ht<;>try omega)|((first|apply zr_|apply zk_|apply ze_|apply zq_|(apply callW.mk_pu;(first|exact(fun _=>hKey _)|exact(fun _=>hHd _)|exact(fun _=>hF1 _)|exact(fun _=>hF2 _)|exact(fun _=>hF3 _)))|(apply callW.za;(first|exact(hKey _)|exact(hHd _)|exact(hF1 _)|exact(hF2 _)|exact(hF3 _)))|(apply zG<;>intro ht));all_goals try simp (disch:=first|omega|(simp only [lens,z7,z6,lQr,lQm,lQt,lQd,zg,z8,zh,z1k,zm,z21];first|done|omega)) only [go_sem,hml,hma]))
 exact DownV.pure (τ:=[]) (news:=_) hw (z16 _ rfl)
theorem zmz(O:Store):ACallsTo TC 6 [] O (.bool true) O:=ACallsTo.frame glok zmy (by simp [RLs]) O
theorem zje{x:AV}(h:ShC (.sl 1 .str) [x]):∃(L:List (List UInt8)),SlV 1 (strs L) x/\ L.length<=maxLen:=by
 simp only [ShC]at h
 rcases h with h| ⟨es,h,hl,_,h2⟩
 ·cases h
  exact⟨[],.inl ⟨rfl,rfl⟩,Nat.zero_le _⟩
 ·cases h
  have:∀es:List (List AV),(∀x ∈ es,∃s:List UInt8,x=[.str s]/\ s.length<=maxLen)->∃L,es=strs L:=by
   intro es
   induction es with
   |nil=>intro _;exact⟨[],rfl⟩
   |cons e es ih=>
    intro h
    obtain⟨s,rfl,hs⟩:=h e (by simp)
    obtain⟨L,rfl⟩:=ih fun x hx=>h x (by simp [hx])
    exact⟨s::L,rfl⟩
  obtain⟨L,rfl⟩:=this es h2
  exact⟨L,.inr ⟨false,rfl⟩,by rwa [z8]at hl⟩
theorem zjq{L:List (List UInt8)}(h:z63 L=false):TxtOk L/\ L.length<=60:=by
 unfold z63 at h
 simp only [Bool.or_eq_false_iff,decide_eq_false_iff_not,List.any_eq_false,decide_eq_true_eq]at h
 exact⟨⟨fun s hs=>by have:=h.1 s hs;omega,by omega⟩,by omega⟩
theorem zka(A B:List (List UInt8))(x y:AV)(hx:SlV 1 (strs A) x)(hy:SlV 1 (strs B) y)(ha:A.length<=maxLen)(hb:B.length<=maxLen):ACallsTo TC 3 [x,y] [] (.bool true) []:=by
 have hm:maxLen<9223372036854775808:=by decide
 have hLa:=fun O=>zet O A x hx (by omega)
 have hLb:=fun O=>zet O B y hy (by omega)
 have hf:=zmz
 refine ACallsTo.of_body q1sok (by simp) fun hw _=> ?_
 cases h1:z63 A with
 |true=>
  rw [h1]at hLa
  repeat' (first|apply zs_|apply zb_|apply zc_|apply zt_ rfl|apply zf_ rfl|(apply zd_ rfl<;>intro ht<;>try omega)|((first|apply zr_|apply zk_|apply ze_|apply zq_|(apply callW.mk_pu;(first|exact(fun _=>hLa _)|exact(fun _=>hf _)))|(apply callW.za;(first|exact(hLa _)|exact(hf _)))|(apply zG<;>intro ht));all_goals try simp (disch:=first|omega|(simp only [lens,z7,z6,lQr,lQm,lQt,lQd,zg,z8,zh,z1k,zm,z21];first|done|omega)) only [go_sem]))
  exact DownV.same hw z2g
 |false=>
  rw [h1]at hLa
  cases h2:z63 B with
  |true=>
   rw [h2]at hLb
   repeat' (first|apply zs_|apply zb_|apply zc_|apply zt_ rfl|apply zf_ rfl|(apply zd_ rfl<;>intro ht<;>try omega)|((first|apply zr_|apply zk_|apply ze_|apply zq_|(apply callW.mk_pu;(first|exact(fun _=>hLa _)|exact(fun _=>hLb _)|exact(fun _=>hf _)))|(apply callW.za;(first|exact(hLa _)|exact(hLb _)|exact(hf _)))|(apply zG<;>intro ht));all_goals try simp (disch:=first|omega|(simp only [lens,z7,z6,lQr,lQm,lQt,lQd,zg,z8,zh,z1k,zm,z21];first|done|omega)) only [go_sem]))
   exact DownV.same hw z2g
  |false=>
   rw [h2]at hLb
   have tA:=(zjq h1).1
   have tB:=(zjq h2).1
   have hC:=fun O=>z9q O A B x y hx hy tA tB
   have hR:=fun O=>zr2 (A.length+1) O A B x y (by omega) hx hy tA tB
   cases hc:z2i A B with
   |none=>
    rw [hc]at hC hR
    simp only [colV]at hC hR
    repeat' (first|apply zs_|apply zb_|apply zc_|apply zt_ rfl|apply zf_ rfl|(apply zd_ rfl<;>intro ht<;>try omega)|((first|apply zr_|apply zk_|apply ze_|apply zq_|(apply callW.mk_pu;(first|exact(fun _=>hLa _)|exact(fun _=>hLb _)|exact(fun _=>hf _)|exact(fun _=>hC _)|exact(fun _=>hR _)))|(apply callW.za;(first|exact(hLa _)|exact(hLb _)|exact(hf _)|exact(hC _)|exact(hR _)))|(apply zG<;>intro ht));all_goals try simp (disch:=first|omega|(simp only [lens,z7,z6,lQr,lQm,lQt,lQd,zg,z8,zh,z1k,zm,z21];first|done|omega)) only [go_sem]))
    exact DownV.same hw z2g
   |some p=>
    rw [hc]at hC hR
    simp only [colV]at hC hR
    repeat' (first|apply zs_|apply zb_|apply zc_|apply zt_ rfl|apply zf_ rfl|(apply zd_ rfl<;>intro ht<;>try omega)|((first|apply zr_|apply zk_|apply ze_|apply zq_|(apply callW.mk_pu;(first|exact(fun _=>hLa _)|exact(fun _=>hLb _)|exact(fun _=>hf _)|exact(fun _=>hC _)|exact(fun _=>hR _)))|(apply callW.za;(first|exact(hLa _)|exact(hLb _)|exact(hf _)|exact(hC _)|exact(hR _)))|(apply zG<;>intro ht));all_goals try simp (disch:=first|omega|(simp only [lens,z7,z6,lQr,lQm,lQt,lQd,zg,z8,zh,z1k,zm,z21];first|done|omega)) only [go_sem]))
    exact DownV.same hw z2g
theorem ExtractTell_law(avs:List AV)(h:z84 [.sl 1 .str,.sl 1 .str] avs):ACallsTo TC 3 avs [] (.bool true) []:=by
 simp only [z84]at h
 obtain⟨x,_,rfl,h0,y,_,rfl,h1,rfl⟩:=h
 obtain⟨A,hA,ha⟩:=zje (by simpa only [Sh]using h0)
 obtain⟨B,hB,hb⟩:=zje (by simpa only [Sh]using h1)
 exact zka A B x y hA hB ha hb
end
end Am
end Go.Proofs.YtkiimfgjimoffaaDoor
section
/- What a law with the laid tables of sha begins with. -/
namespace Go.Proofs.YtkiimfgjimoffaaDoor.LawDoor
open Go.ChangeShapes Go.WideShapes Go.ChangeAt Go.RowKit
theorem own:ownKnob Tryd.prog.godebug=none:=by kernel_rfl
theorem zob:laidOutB Tryd.prog=true:=by kernel_rfl
def z8x:List (String × DataW Unit):=[("speculum/sha.first",Rows.laid_speculum_sha_first),("speculum/sha.rounds",Rows.laid_speculum_sha_rounds)]
set_option maxRecDepth 100000
theorem zm1(os:Os)(args:Array Value):laidMetH Tryd.prog z8x ((World.doorLaid Tryd.prog 400 os).forCall (fun _ _=>0) ⟨#[],args,[]⟩).memory:=
 laidMetH_of_parts3 (fuel:=8) (laidMet_of_run' 8 (by kernel_rfl) (by kernel_rfl)) (by kernel_rfl) (by kernel_rfl)
theorem rel_of{W:World}(h:laidMetH Tryd.prog z8x W):Am.Rel Am.TC [] [] W:=by
 rw [MakeChecks.laidMetH_plain _ _ _ (by kernel_rfl)]at h
 obtain⟨ps,⟨g0,t0,cs0,f0,p0,q0,hg0,ht0,hv0,hd0,⟨g1,t1,cs1,f1,p1,q1,hg1,ht1,hv1,hd1,_,_⟩,_⟩,_,_⟩:=h
 have v0:=Am.vp_of_var (P:=Tryd.prog) (n:= "speculum/sha.first") (g:=0) (t:=80) (e:=79) (m:=8) (k:=.u32) Am.shaFirst (by kernel_rfl) (by kernel_rfl) (by kernel_rfl) (by kernel_rfl) (by kernel_rfl) (by kernel_rfl) hg0 ht0 hv0 hd0
 have v1:=Am.vp_of_var (P:=Tryd.prog) (n:= "speculum/sha.rounds") (g:=1) (t:=86) (e:=79) (m:=64) (k:=.u32) Am.shaRounds (by kernel_rfl) (by kernel_rfl) (by kernel_rfl) (by kernel_rfl) (by kernel_rfl) (by kernel_rfl) hg1 ht1 hv1 hd1
 refine⟨rfl,fun r o h=>by simp at h,fun r h=>by simp at h,fun r r' pl pl' h=>by simp at h,fun g cs h=> ?_⟩
 simp only [Am.TC]at h
 split at h
 ·rename_i hg;subst hg;cases h;exact v0
 ·split at h
  ·rename_i hg;subst hg;cases h;exact v1
  ·cases h
end Go.Proofs.YtkiimfgjimoffaaDoor.LawDoor
end
