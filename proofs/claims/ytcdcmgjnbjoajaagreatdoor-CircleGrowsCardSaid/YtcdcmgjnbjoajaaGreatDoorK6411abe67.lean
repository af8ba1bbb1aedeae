import Derived.Test.YtcdcmgjnbjoajaaGreatDoorK5e8b151e7
import Derived.Test.YtcdcmgjnbjoajaaGreatDoorK221fe5c7f
import Derived.Test.YtcdcmgjnbjoajaaGreatDoorRows
import Derived.Test.YtcdcmgjnbjoajaaGreatDoorCards
import Derived.Test.YtcdcmgjnbjoajaaGreatDoorTie
import Derived.ProofKit
import Derived.LaidMore
import Derived.OpenShut
import Derived.Stop.Joined
import Derived.SevenTiedAt
import Derived.MakeChecks
set_option linter.unusedSimpArgs false
set_option linter.unusedVariables false
open Nat (reduceEqDiff reduceAdd reduceMul reduceSub reduceLeDiff)
open Int (reduceToNat reducePow)
open Nat renaming reduceEqDiff -> nQ1, reduceBEq -> nQ2, reduceAdd -> nQ3, reduceMul -> nQ4, reduceSub -> nQ5, reduceLeDiff -> nQ6
open Int renaming reduceToNat -> nQ7, reducePow -> nQ8
open List renaming length_reverse -> lQr, length_map -> lQm, length_take -> lQt, length_drop -> lQd, length_set -> lQs
set_option maxHeartbeats 16000000
attribute [local go_sem_proc] Nat.reduceEqDiff Nat.reduceBEq Nat.reduceAdd Nat.reduceMul Nat.reduceSub Nat.reduceLeDiff Int.reduceToNat Int.reducePow
namespace Go.Proofs.YtcdcmgjnbjoajaaGreatDoor
namespace Am
section
def HSm(P Q:List Hdr):Prop:=∀n r,z18 P n r ↔ z18 Q n r
theorem zhc{key:Hash}{P:List Hdr}{q:Hdr}:addC key P q=0 ↔ z1j key q.n q.i q.r q.s q.p ≠ 0:=by
 unfold addC
 constructor
 ·intro h h0
  rw [if_neg (by omega)]at h
  split at h
  ·omega
  ·split at h
   ·omega
   ·split at h<;>omega
 ·intro h;rw [if_pos h]
theorem zoi(key:Hash)(P:List Hdr)(q:Hdr):(addL key P q).length<=P.length+1:=by rw [zcx];split<;>omega
theorem z83{PS:List (List Hdr)}{i j:Nat}(h:i ≠ j)(P:List Hdr):(PS.set i P).getD j []=PS.getD j []:=by simp [List.getD,List.getElem?_set_ne h]
structure LA(key:Hash)(n k:Nat)(PS:List (List Hdr))(A:List Hdr):Prop where
 ln:PS.length=n
 ok:POks key PS
 a:POk key A
 al:A.length<=k
 le:∀j,j<n->HLe (PS.getD j []) A
 mem:∀m r,z18 A m r->∃j,j<n/\ z18 (PS.getD j []) m r
theorem LA.nil(key:Hash)(n:Nat):LA key n 0 (List.replicate n []) [] where
 ln:=List.length_replicate ..
 ok i hi:=by
  rw [show (List.replicate n ([]:List Hdr)).getD i []=[]by rw [List.getD_eq_getElem?_getD,List.getElem?_replicate];split<;>rfl];exact POk.nil key
 a:=POk.nil key
 al:=Nat.le_refl _
 le j hj:=by
  rw [show (List.replicate n ([]:List Hdr)).getD j []=[]by rw [List.getD_eq_getElem?_getD,List.getElem?_replicate];split<;>rfl];exact HLe.nil _
 mem m r h:=by obtain⟨w,hw,_⟩:=h;simp at hw
theorem LA.step{key:Hash}{n k:Nat}{PS:List (List Hdr)}{A:List Hdr}(h:LA key n k PS A)(hk:k<16){j:Nat}(hj:j<n)(q:Hdr):
  LA key n (k+1) (lrnS key PS j q) (addL key A q)/\ (lrnC key PS j q=0 ↔ addC key A q=0):=by
 have hjl:j<PS.length:=by rw [h.ln];exact hj
 have hN:isN PS.length (j:Int)=true:=decide_eq_true ⟨by omega,by omega⟩
 have e1:lrnS key PS j q=PS.set j (addL key (PS.getD j []) q):=by unfold lrnS;rw [if_pos hN];rfl
 have e2:lrnC key PS j q=addC key (PS.getD j []) q:=by unfold lrnC;rw [if_pos hN];rfl
 have hpl:=(h.le j hj).len (h.ok j hjl).sort
 have hal:=h.al
 refine⟨⟨by rw [zk6];exact h.ln,zti h.ok _ _,h.a.add q,by have:=zoi key A q;omega,fun i hi=> ?_,fun m r hm=> ?_⟩,by rw [e2,zhc,zhc]⟩
 ·rw [e1]
  by_cases e:j=i
  ·subst e
   rw [z4z hjl]
   refine zar ((h.le j hj).trans (z6e key A q)) fun h0=> ?_
   exact((zcy q h.a h0 (by omega)).2.2 _ _).2 (.inr ⟨rfl,rfl⟩)
  ·rw [z83 e];exact(h.le i hi).trans (z6e key A q)
 ·rcases zcw hm with h1| ⟨rfl,rfl,h0⟩
  ·obtain⟨i,hi,h2⟩:=h.mem m r h1
   refine⟨i,hi,?_⟩
   rw [e1]
   by_cases e:j=i
   ·subst e;rw [z4z hjl];exact z6e key _ q _ _ h2
   ·rw [z83 e];exact h2
  ·refine⟨j,hj,?_⟩
   rw [e1,z4z hjl]
   exact((zcy q (h.ok j hjl) h0 (by omega)).2.2 _ _).2 (.inr ⟨rfl,rfl⟩)
theorem zn3{n i k:Nat}(hi:i<n)(hk:k<n)(h:i ≠ k):twoN n i k=true:=by
 unfold twoN isN
 rw [decide_eq_true (show (0:Int)<=i/\ (i:Int)<n by omega),decide_eq_true (show (0:Int)<=k/\ (k:Int)<n by omega),decide_eq_false (by omega)];rfl
theorem met_ok{key:Hash}{PS:List (List Hdr)}{i k:Nat}(hi:i<PS.length)(hk:k<PS.length)(h:i ≠ k):metI key PS i k=.tup [.int .i64 (metN key PS i k).1,.int .i64 0]/\ metS key PS i k=(metN key PS i k).2:=by
 unfold metI metS
 rw [if_pos (zn3 hi hk h),if_pos (zn3 hi hk h)]
 exact⟨rfl,rfl⟩
structure LM(key:Hash)(n:Nat)(PS:List (List Hdr))(A:List Hdr):Prop where
 ln:PS.length=n
 ok:POks key PS
 a:POk key A
 le:∀j,j<n->HLe (PS.getD j []) A
theorem LM.met{key:Hash}{n:Nat}{PS:List (List Hdr)}{A:List Hdr}(h:LM key n PS A){i k:Nat}(hi:i<n)(hk:k<n)(hik:i ≠ k):
  LM key n (metS key PS i k) A/\ (∀m r,z18 ((metS key PS i k).getD i []) m r ↔ z18 (PS.getD i []) m r \/z18 (PS.getD k []) m r) ∧
  (∀m r,z18 ((metS key PS i k).getD k []) m r ↔ z18 (PS.getD i []) m r \/z18 (PS.getD k []) m r)/\ ∀j,j ≠ i->j ≠ k->(metS key PS i k).getD j []=PS.getD j []:=by
 have hn:=h.ln
 obtain⟨_,e⟩:=met_ok (key:=key) (PS:=PS) (i:=i) (k:=k) (by omega) (by omega) hik
 obtain⟨h1,h2,h3⟩:=met_in h.a.len h.ok (fun j hj=>h.le j (by omega)) (i:=i) (k:=k) (by omega) (by omega) hik
 refine⟨⟨by rw [zk7];exact hn,ztn h.ok _ _,h.a,fun j hj=> ?_⟩,?_⟩
 ·rw [e]
  by_cases e1:j=i
  ·subst e1;exact fun m r hm=>((h1 m r).1 hm).elim (h.le _ hi m r) (h.le _ hk m r)
  ·by_cases e2:j=k
   ·subst e2;exact fun m r hm=>((h2 m r).1 hm).elim (h.le _ hi m r) (h.le _ hk m r)
   ·rw [h3 j e1 e2];exact h.le j hj
 ·rw [e];exact⟨h1,h2,h3⟩
structure LF(key:Hash)(n i:Nat)(P0 PS:List (List Hdr))(A:List Hdr):Prop where
 m:LM key n PS A
 last:∀m r,z18 (PS.getD (i-1) []) m r ↔ ∃j,j<i/\ z18 (P0.getD j []) m r
 two:2<=i->HSm (PS.getD (i-2) []) (PS.getD (i-1) [])
 rest:∀j,i<=j->PS.getD j []=P0.getD j []
theorem LA.start{key:Hash}{n k:Nat}{PS:List (List Hdr)}{A:List Hdr}(h:LA key n k PS A):LF key n 1 PS PS A where
 m:=⟨h.ln,h.ok,h.a,h.le⟩
 last m r:=⟨fun h=>⟨0,by omega,h⟩,fun⟨j,hj,h⟩=>by
  have e:j=0:=by omega
  subst e;exact h⟩
 two h:=by omega
 rest j hj:=rfl
theorem LF.step{key:Hash}{n i:Nat}{P0 PS:List (List Hdr)}{A:List Hdr}(h:LF key n i P0 PS A)(h1:1<=i)(hi:i<n):LF key n (i+1) P0 (metS key PS ((i-1:Nat):Int) i) A:=by
 obtain⟨k0,k1,k2,k3⟩:=h.m.met (i:=i-1) (k:=i) (by omega) hi (by omega)
 refine⟨k0,fun m r=> ?_,fun _ m r=> ?_,fun j hj=> ?_⟩
 ·rw [Nat.add_sub_cancel,k2,h.last,h.rest i (Nat.le_refl _)]
  constructor
  ·rintro(⟨j,hj,h2⟩|h2)
   ·exact⟨j,by omega,h2⟩
   ·exact⟨i,by omega,h2⟩
  ·rintro⟨j,hj,h2⟩
   by_cases e:j=i
   ·subst e;exact .inr h2
   ·exact .inl ⟨j,by omega,h2⟩
 ·rw [show i+1-2=i-1 by omega,Nat.add_sub_cancel,k1,k2]
 ·rw [k3 j (by omega) (by omega)];exact h.rest j (by omega)
structure LB(key:Hash)(n i:Nat)(PS:List (List Hdr))(A:List Hdr):Prop where
 m:LM key n PS A
 all:∀j,i<=j->j<n->HSm (PS.getD j []) A
theorem LF.turn{key:Hash}{n k:Nat}{P0 PS:List (List Hdr)}{A:List Hdr}(h:LF key n n P0 PS A)(h2:2<=n)(h0:LA key n k P0 A):LB key n (n-2) PS A:=by
 have hl:HSm (PS.getD (n-1) []) A:=fun m r=>by
  rw [h.last]
  constructor
  ·rintro⟨j,hj,h3⟩;exact h0.le j hj m r h3
  ·intro h3;exact h0.mem m r h3
 refine⟨h.m,fun j hj hn=> ?_⟩
 by_cases e:j=n-1
 ·rw [e];exact hl
 ·rw [show j=n-2 by omega];exact fun m r=>(h.two h2 m r).trans (hl m r)
theorem LB.step{key:Hash}{n i:Nat}{PS:List (List Hdr)}{A:List Hdr}(h:LB key n i PS A)(h1:0<i)(hi:i<n):LB key n (i-1) (metS key PS i ((i-1:Nat):Int)) A:=by
 obtain⟨k0,k1,k2,k3⟩:=h.m.met (i:=i) (k:=i-1) hi (by omega) (by omega)
 have ha:=h.all i (Nat.le_refl _) hi
 have hb:=h.m.le (i-1) (by omega)
 have hu:∀m r,(z18 (PS.getD i []) m r \/z18 (PS.getD (i-1) []) m r) ↔ z18 A m r:=fun m r=>⟨fun h=>h.elim (ha m r).1 (hb m r),fun h=> .inl ((ha m r).2 h)⟩
 refine⟨k0,fun j hj hn m r=> ?_⟩
 by_cases e:j=i
 ·subst e;rw [k1];exact hu m r
 ·by_cases e2:j=i-1
  ·subst e2;rw [k2];exact hu m r
  ·rw [k3 j e e2];exact h.all j (by omega) hn m r
end
section
structure CaS(O:Store)(PS:List (List Hdr))(M:List MM)(A:List Hdr)(c pa:Nat)(o1 oa:List Nat):Prop where
 c:CirS PoIs O c (z11 (keyL logC)) PS M o1
 p:PoIs O pa (z11 (keyL logC)) A oa
 d:∀j,j ∈ o1->j ∉ oa
 t:O[0]? =some (some [z1m true logC (keyL logC)])
 t1:0 ∉ o1
 t2:0 ∉ oa
section
variable {O O':Store} {PS PS':List (List Hdr)} {M M':List MM} {A A':List Hdr} {c pa:Nat} {o1 o1' oa oa':List Nat}
theorem CaS.ext(h:CaS O PS M A c pa o1 oa)(he:Ext O O'):CaS O' PS M A c pa o1 oa:=
 ⟨h.c.ext ploc_is he,h.p.ext he,h.d,by obtain⟨y,rfl⟩:=he;rw [gapp (slen h.t)];exact h.t,h.t1,h.t2⟩
theorem CaS.circ(h:CaS O PS M A c pa o1 oa)(f:Fr O O' o1 o1')(C:CirS PoIs O' c (z11 (keyL logC)) PS' M' o1'):CaS O' PS' M' A c pa o1' oa:=
 ⟨C,h.p.fr f h.d,f.dj (fun j hj=>h.p.lt hj) h.d,f.get h.t h.t1,f.nin (slen h.t) h.t1,h.t2⟩
theorem CaS.pool(h:CaS O PS M A c pa o1 oa)(f:Fr O O' oa oa')(P:PoIs O' pa (z11 (keyL logC)) A' oa'):CaS O' PS M A' c pa o1 oa':=
 ⟨h.c.fr ploc_is f fun j h2 h1=>h.d j h1 h2,P,fun j h1 h2=>f.dj (h.c.lt ploc_is) (fun j h2 h1=>h.d j h1 h2) j h2 h1,f.get h.t h.t2,h.t1,f.nin (slen h.t) h.t2⟩
end
attribute [local irreducible] ACallsTo ACallsP
section
variable {O:Store} {PS:List (List Hdr)} {A:List Hdr} {c pa:Nat} {o1 oa:List Nat} {J:Env} {n:Nat}
attribute [local irreducible] zml
attribute [local irreducible] zmm
attribute [local irreducible] zmn zmk
end
attribute [local irreducible] z12u
end
section
def MLe(m:MM)(A:List Hdr):Prop:=match m.k with| .gt l=>∀q ∈ l,z18 A q.n q.r| .kn _=>True
theorem MLe.mono{m:MM}{A B:List Hdr}(h:MLe m A)(hA:HLe A B):MLe m B:=by
 unfold MLe at h ⊢
 split
 ·rename_i l e;rw [e]at h;exact fun q hq=>hA _ _ (h q hq)
 ·trivial
def PLe(PS PS':List (List Hdr)):Prop:=∀j,HLe (PS.getD j []) (PS'.getD j [])
theorem PLe.refl(PS:List (List Hdr)):PLe PS PS:=fun j=>HLe.refl _
theorem PLe.set{PS:List (List Hdr)}{i:Nat}(hi:i<PS.length){P:List Hdr}(h:HLe (PS.getD i []) P):PLe PS (PS.set i P):=fun j=>by
 by_cases e:i=j
 ·subst e;rw [z4z hi];exact h
 ·rw [z83 e];exact HLe.refl _
theorem PLe.trans{PS PS' PS2:List (List Hdr)}(h:PLe PS PS')(h2:PLe PS' PS2):PLe PS PS2:=fun j=>(h j).trans (h2 j)
structure GI(key:Hash)(PS:List (List Hdr))(M:List MM)(A:List Hdr):Prop where
 n:PS.length=3
 ok:POks key PS
 ms:MOks 3 M
 ml:M.length<=200
 a:POk key A
 le:∀j,j<3->HLe (PS.getD j []) A
 mail:∀m ∈ M,MLe m A
section
variable {key:Hash} {PS:List (List Hdr)} {M:List MM} {A:List Hdr}
theorem GI.msl(h:GI key PS M A):MOks PS.length M:=by rw [h.n];exact h.ms
theorem GI.setp(h:GI key PS M A){i:Nat}(hi:i<3){P:List Hdr}(hP:POk key P)(hA:HLe P A):GI key (PS.set i P) M A:=
 ⟨by rw [List.length_set];exact h.n,h.ok.set i hP,h.ms,h.ml,h.a,fun j hj=>by
  by_cases e:i=j
  ·subst e;rw [z4z (by rw [h.n];exact hi)];exact hA
  ·rw [z83 e];exact h.le j hj,h.mail⟩
theorem GI.setm(h:GI key PS M A){M':List MM}(ms:MOks 3 M')(ml:M'.length<=200)(hm:∀m ∈ M',MLe m A):GI key PS M' A:=⟨h.n,h.ok,ms,ml,h.a,h.le,hm⟩
theorem GI.talk(h:GI key PS M A)(a b:Int):GI key PS (z3y PS M a b) A:=by
 refine h.setm ?_ (z14m h.ml a b) ?_
 ·have:=z14n h.ok h.msl a b;rwa [h.n]at this
 ·unfold z3y
  split
  ·intro m hm
   rcases List.mem_append.1 hm with h1|h1
   ·exact h.mail m h1
   ·rw [List.mem_singleton.1 h1];trivial
  ·exact h.mail
theorem GI.drop(h:GI key PS M A)(i:Int):GI key PS (z3e PS.length M i) A:=by
 refine h.setm ?_ (zqd h.ml i) ?_
 ·have:=zqe h.msl i;rwa [h.n]at this ⊢
 ·unfold z3e
  split
  ·exact fun m hm=>h.mail m (List.mem_of_mem_eraseIdx hm)
  ·exact h.mail
theorem GI.double(h:GI key PS M A)(i:Int):GI key PS (z4x PS.length M i) A:=by
 refine h.setm ?_ (zqa h.ml i) ?_
 ·have:=zqc h.msl i;rwa [h.n]at this ⊢
 ·unfold z4x
  split
  ·rename_i he
   obtain⟨_,h1,h2⟩:=z74 (zb7 he)
   intro m hm
   rcases List.mem_append.1 hm with h3|h3
   ·exact h.mail m h3
   ·rw [List.mem_singleton.1 h3];exact h.mail _ (zbc (by omega))
  ·exact h.mail
theorem GI.deliver(h:GI key PS M A)(i:Int):GI key (z3f key PS M i) (z3z PS M i) A/\ PLe PS (z3f key PS M i):=by
 unfold z3f z3z
 split
 ·rename_i he
  obtain⟨_,h1,h2⟩:=z74 he
  have hm0:=zbc (M:=M) (i:=i.toNat) (by omega)
  generalize M.getD i.toNat mm0=m at*
  have hmo:=h.ms m hm0
  have hml:=h.mail m hm0
  have hG:GI key PS (M.eraseIdx i.toNat) A:=h.setm (h.ms.erase _) (by have:=h.ml;rw [List.length_eraseIdx];split<;>omega) fun x hx=>h.mail x (List.mem_of_mem_eraseIdx hx)
  have hok:=z14g (PS:=PS) hG.ms hmo
  have hln:=z14f (PS:=PS) hG.ml m
  obtain⟨f,t,k⟩:=m
  have ht:t<3:=hmo.t
  cases k with
  |gt l=>
   show GI key (PS.set t (z1b key (PS.getD t []) l)) (M.eraseIdx i.toNat) A/\ PLe PS (PS.set t (z1b key (PS.getD t []) l))
   exact⟨hG.setp ht (z73 (h.ok t (by rw [h.n];exact ht)) l) (zas (h.le t ht) hml),PLe.set (by rw [h.n];exact ht) (z71 key l _)⟩
  |kn l=>
   refine⟨hG.setm hok hln ?_,PLe.refl _⟩
   show ∀m ∈ z4o PS (M.eraseIdx i.toNat) ⟨f,t,.kn l⟩,MLe m A
   unfold z4o
   dsimp only
   split
   ·intro m hm
    rcases List.mem_append.1 hm with h3|h3
    ·exact hG.mail m h3
    ·rw [List.mem_singleton.1 h3]
     exact fun q hq=>h.le t ht _ _ (z9k hq)
   ·exact hG.mail
 ·exact⟨h,PLe.refl _⟩
theorem GI.meet(h:GI key PS M A)(a b:Int):GI key (metS key PS a b) M A/\ PLe PS (metS key PS a b):=by
 by_cases ht:twoN PS.length a b=true
 ·have ht0:=ht
  unfold twoN at ht0
  simp only [Bool.and_eq_true,Bool.not_eq_true',decide_eq_false_iff_not]at ht0
  obtain⟨⟨ni,nk⟩,hne⟩:=ht0
  obtain⟨i,rfl,hi⟩:=z3w ni
  obtain⟨k,rfl,hk⟩:=z3w nk
  clear ni nk
  rw [h.n]at hi hk
  have hik:i ≠ k:=fun e=>hne (by rw [e])
  have e:metS key PS i k=(PS.set i (z1f key 17 (PS.getD i []) (PS.getD k []) 1).2).set k (z1f key 17 (PS.getD k []) (z1f key 17 (PS.getD i []) (PS.getD k []) 1).2 1).2:=by unfold metS;rw [if_pos ht];rfl
  rw [e]
  have k1:HLe (z1f key 17 (PS.getD i []) (PS.getD k []) 1).2 A:=z89 (h.le k hk) (h.le i hi)
  have m1:=z9n key (PS.getD k []) 17 (PS.getD i []) 1
  have o1:=z7k key (PS.getD k []) 17 1 (h.ok i (by rw [h.n];exact hi))
  generalize (z1f key 17 (PS.getD i []) (PS.getD k []) 1).2=R at*
  have k2:HLe (z1f key 17 (PS.getD k []) R 1).2 A:=z89 k1 (h.le k hk)
  have m2:=z9n key R 17 (PS.getD k []) 1
  have o2:=z7k key R 17 1 (h.ok k (by rw [h.n];exact hk))
  generalize (z1f key 17 (PS.getD k []) R 1).2=S at*
  have hG:=h.setp hi o1 k1
  refine⟨hG.setp hk o2 k2,(PLe.set (by rw [h.n];exact hi) m1).trans (PLe.set (by rw [List.length_set,h.n];exact hk) ?_)⟩
  rw [z83 hik];exact m2
 ·have e:metS key PS a b=PS:=by unfold metS;rw [if_neg ht]
  rw [e];exact⟨h,PLe.refl _⟩
theorem GI.learn(h:GI key PS M A)(a:Int)(q:Hdr)(hf:addC key A q ≠ 4):GI key (lrnS key PS a q) M (addL key A q)/\ PLe PS (lrnS key PS a q):=by
 have hA:=z6e key A q
 have hG:GI key PS M (addL key A q):=⟨h.n,h.ok,h.ms,h.ml,h.a.add q,fun j hj=>(h.le j hj).trans hA,fun m hm=>(h.mail m hm).mono hA⟩
 unfold lrnS
 split
 ·rename_i hn
  obtain⟨j,rfl,hj⟩:=z3w hn
  have hj3:j<3:=by rw [h.n]at hj;exact hj
  rw [Int.toNat_natCast]
  exact⟨hG.setp hj3 ((h.ok j hj).add q) (zar ((h.le j hj3).trans hA) fun h0=>zhd h.a h0 hf),PLe.set hj (z6e key _ q)⟩
 ·exact⟨hG,PLe.refl _⟩
theorem GI.nil(key:Hash):GI key [[],[],[]] [] [] where
 n:=rfl
 ok i hi:=by
  have:([[],[],[]]:List (List Hdr)).getD i []=[]:=by
   match i,hi with
   | 0,_=>rfl
   | 1,_=>rfl
   | 2,_=>rfl
  rw [this];exact POk.nil key
 ms m hm:=by simp at hm
 ml:=by simp
 a:=POk.nil key
 le j hj:=by
  have:([[],[],[]]:List (List Hdr)).getD j []=[]:=by
   match j,hj with
   | 0,_=>rfl
   | 1,_=>rfl
   | 2,_=>rfl
  rw [this];exact HLe.nil _
 mail m hm:=by simp at hm
theorem GI.drop0(h:GI key PS M A)(hm:0<M.length):(z3e PS.length M 0).length=M.length-1:=by
 have:atS PS.length M.length 0=0:=by unfold atS;rw [h.n,if_neg (by omega),if_neg (by omega)]
 unfold z3e
 rw [if_pos this,List.length_eraseIdx,if_pos (by simpa using hm)]
structure GT(key:Hash)(m t:Nat)(PS:List (List Hdr))(M:List MM)(A:List Hdr):Prop where
 gi:GI key PS M A
 ph:(m=2/\ M=[⟨0,1,.kn (hns (PS.getD 0 []))⟩]/\ z2r (PS.getD 0 []) (PS.getD 1 [])<=16-3*t) ∨
  (m=1/\ M=[⟨1,0,.gt (z13 (PS.getD 1 []) (hns (PS.getD 0 [])))⟩]/\ z2r (PS.getD 0 []) (PS.getD 1 [])<=16-3*t) ∨
  (m=0/\ M=[]/\ z2r (PS.getD 0 []) (PS.getD 1 [])<=16-3*(t+1))
theorem GT.len{m t:Nat}(h:GT key m t PS M A):0<m ↔ 0<M.length:=by
 rcases h.ph with⟨rfl,e,_⟩| ⟨rfl,e,_⟩| ⟨rfl,e,_⟩<;>rw [e]<;>simp
theorem kn_ok(h:GI key PS M A):(⟨0,1,.kn (hns (PS.getD 0 []))⟩:MM).Ok 3:=
 ⟨by show 0<3;omega,by show 1<3;omega,by show (0:Nat) ≠ 1;omega,by
  have h0:=h.ok 0 (by rw [h.n];omega)
  exact⟨by rw [z6j];have:=h0.len;omega,h0.nh⟩⟩
theorem GT.start(h:GI key PS [] A){t:Nat}(hl:z2r (PS.getD 0 []) (PS.getD 1 [])<=16-3*t):tlkI PS [] 0 1=0/\ GT key 2 t PS (z3y PS [] 0 1) A:=by
 have ht:twoN PS.length 0 1=true:=by rw [h.n];decide
 have hs:tlkI PS [] 0 1=0:=by
  unfold tlkI
  rw [if_pos ht,h.n]
  exact zcd (kn_ok h) (by simp)
 refine⟨hs,h.talk 0 1,.inl ⟨rfl,?_,hl⟩⟩
 unfold z3y
 rw [if_pos hs];rfl
theorem zhk{PS:List (List Hdr)}{m:MM}(h:PS.length=3):atS PS.length [m].length 0=0:=by rw [h];rfl
theorem GT.step{m t:Nat}(h:GT key m t PS M A)(hm:0<m):atS PS.length M.length 0=0/\ ∃m',m'<m/\ GT key m' t (z3f key PS M 0) (z3z PS M 0) A:=by
 have hG:=h.gi
 obtain⟨hD,_⟩:=hG.deliver 0
 have h0:=hG.ok 0 (by rw [hG.n];omega)
 have h1:=hG.ok 1 (by rw [hG.n];omega)
 rcases h.ph with⟨rfl,e,hl⟩| ⟨rfl,e,hl⟩| ⟨rfl,e,hl⟩
 ·subst e
  have ha:=zhk (m:=⟨0,1,.kn (hns (PS.getD 0 []))⟩) hG.n
  refine⟨ha,?_⟩
  have e1:z3f key PS [⟨0,1,.kn (hns (PS.getD 0 []))⟩] 0=PS:=by unfold z3f;rw [if_pos ha];rfl
  have e2:z3z PS [⟨0,1,.kn (hns (PS.getD 0 []))⟩] 0=if z13 (PS.getD 1 []) (hns (PS.getD 0 [])) ≠ []/\ z1t PS.length 0 (repM PS ⟨0,1,.kn (hns (PS.getD 0 []))⟩ (hns (PS.getD 0 []))).ml=0 then [⟨1,0,.gt (z13 (PS.getD 1 []) (hns (PS.getD 0 [])))⟩]else []:=by unfold z3z;rw [if_pos ha];rfl
  rw [e1,e2]at hD ⊢
  by_cases hX:z13 (PS.getD 1 []) (hns (PS.getD 0 []))=[]
  ·rw [if_neg fun h=>h.1 hX]at hD ⊢
   exact⟨0,by omega,hD,.inr (.inr ⟨rfl,rfl,by rw [zka hX];omega⟩)⟩
  ·have hs:z1t PS.length 0 (repM PS ⟨0,1,.kn (hns (PS.getD 0 []))⟩ (hns (PS.getD 0 []))).ml=0:=by
    rw [hG.n]
    exact zcd (m:=repM PS ⟨0,1,.kn (hns (PS.getD 0 []))⟩ (hns (PS.getD 0 []))) ⟨by show 1<3;omega,by show 0<3;omega,by show (1:Nat) ≠ 0;omega,zk9 _ hX⟩ (by omega)
   rw [if_pos ⟨hX,hs⟩]at hD ⊢
   exact⟨1,by omega,hD,.inr (.inl ⟨rfl,rfl,hl⟩)⟩
 ·subst e
  have ha:=zhk (m:=⟨1,0,.gt (z13 (PS.getD 1 []) (hns (PS.getD 0 [])))⟩) hG.n
  refine⟨ha,?_⟩
  have e1:z3f key PS [⟨1,0,.gt (z13 (PS.getD 1 []) (hns (PS.getD 0 [])))⟩] 0=PS.set 0 (z1b key (PS.getD 0 []) (z13 (PS.getD 1 []) (hns (PS.getD 0 [])))):=by unfold z3f;rw [if_pos ha];rfl
  have e2:z3z PS [⟨1,0,.gt (z13 (PS.getD 1 []) (hns (PS.getD 0 [])))⟩] 0=[]:=by unfold z3z;rw [if_pos ha];rfl
  rw [e1,e2]at hD ⊢
  refine⟨0,by omega,hD,.inr (.inr ⟨rfl,rfl,?_⟩)⟩
  rw [z4z (by rw [hG.n];omega),z83 (by omega)]
  have hin:=zcz hG.a.len h0 (hG.le 0 (by omega)) (l:=z13 (PS.getD 1 []) (hns (PS.getD 0 []))) fun q hq=>⟨h1.chk q (z6m hq).1,hG.le 1 (by omega) _ _ (z9k hq)⟩
  have:=zjx (P:=PS.getD 0 []) (Q:=PS.getD 1 []) (z71 key (z13 (PS.getD 1 []) (hns (PS.getD 0 []))) (PS.getD 0 [])) fun n r hh=>(hin n r).2 (.inr hh)
  omega
 ·omega
end
end
section
def Kp(O O':Store)(o1 oa o1' oa':List Nat):Prop:=∀j o,O[j]? =some o->j ∉ o1->j ∉ oa->O'[j]? =some o/\ j ∉ o1'/\ j ∉ oa'
theorem Kp.refl(O:Store)(o1 oa:List Nat):Kp O O o1 oa o1 oa:=fun j o h h1 h2=>⟨h,h1,h2⟩
theorem Kp.trans{O O2 O3:Store}{a b a2 b2 a3 b3:List Nat}(h:Kp O O2 a b a2 b2)(h2:Kp O2 O3 a2 b2 a3 b3):Kp O O3 a b a3 b3:=fun j o g g1 g2=>by
 obtain⟨k,k1,k2⟩:=h j o g g1 g2
 exact h2 j o k k1 k2
theorem Kp.ext{O O':Store}{o1 oa:List Nat}(he:Ext O O'):Kp O O' o1 oa o1 oa:=fun j o h h1 h2=>⟨by obtain⟨y,rfl⟩:=he;rw [gapp (slen h)];exact h,h1,h2⟩
section
variable {O O':Store} {PS PS':List (List Hdr)} {M M':List MM} {A A':List Hdr} {c pa:Nat} {o1 o1' oa oa':List Nat}
theorem CaS.circK(h:CaS O PS M A c pa o1 oa)(f:Fr O O' o1 o1')(C:CirS PoIs O' c (z11 (keyL logC)) PS' M' o1'):CaS O' PS' M' A c pa o1' oa/\ Kp O O' o1 oa o1' oa:=
 ⟨h.circ f C,fun j o g g1 g2=>⟨f.get g g1,f.nin (slen g) g1,g2⟩⟩
theorem CaS.poolK(h:CaS O PS M A c pa o1 oa)(f:Fr O O' oa oa')(P:PoIs O' pa (z11 (keyL logC)) A' oa'):CaS O' PS M A' c pa o1 oa'/\ Kp O O' o1 oa o1 oa':=
 ⟨h.pool f P,fun j o g g1 g2=>⟨f.get g g2,g1,f.nin (slen g) g2⟩⟩
end
structure CgE(J:Env)(x:AV)(c pa i B W:Nat)(a b:Int):Prop where
 q0:J 0=x
 q3:J 3=.ptr 0 0 0
 q4:J 4=.ptr c 0 0
 q6:J 6=.ptr pa 0 0
 q7:J 7=.int .i64 i
 q8:J 8=.ptr B 0 0
 q9:J 9=.int .i64 a
 q10:J 10=.int .i64 b
 q11:J 11=.ptr W 0 0
structure CgB(O:Store)(T:ActV8)(B:Nat)(o1 oa:List Nat):Prop where
 g:O[B]? =some (some [z2a T])
 n1:B ∉ o1
 n2:B ∉ oa
theorem CgB.keep{O O':Store}{T:ActV8}{B:Nat}{o1 oa o1' oa':List Nat}(h:CgB O T B o1 oa)(k:Kp O O' o1 oa o1' oa'):CgB O' T B o1' oa':=by
 obtain⟨a,b,c⟩:=k B _ h.g h.n1 h.n2
 exact⟨a,b,c⟩
def CgQ(Q:AExit->Env->Store->Prop)(O:Store)(PS:List (List Hdr))(o1 oa:List Nat)(c pa:Nat)(x:AV)(i B W:Nat)(a b:Int):Prop:=
 ∀J' O' PS' M' A' o1' oa',CaS O' PS' M' A' c pa o1' oa'->GI (z11 (keyL logC)) PS' M' A'->PLe PS PS'->Kp O O' o1 oa o1' oa'->CgE J' x c pa i B W a b->Q .normal J' O'
attribute [local irreducible] ACallsTo ACallsP
section
variable {O:Store} {PS:List (List Hdr)} {M:List MM} {A:List Hdr} {c pa:Nat} {o1 oa:List Nat} {x:AV} {i B W:Nat} {a b:Int} {T:ActV8} {J:Env} {Q:AExit->Env->Store->Prop}
theorem zpv(hS:CaS O PS M A c pa o1 oa)(hG:GI (z11 (keyL logC)) PS M A)(hB:CgB O T B o1 oa)(hE:CgE J x c pa i B W a b)(hQ:CgQ Q O PS o1 oa c pa x i B W a b):zW TC 204 0 (.reg zez) Q J O:=by
 obtain⟨q0,q3,q4,q6,q7,q8,q9,q10,q11⟩:=hE
 have hml:=hG.ml
 have hn:=hG.n
 repeat' (first|apply zs_|apply zb_|apply zc_|apply zt_ rfl|apply zf_ rfl|(apply zd_ rfl<;>intro ht<;>try omega)|((first|apply zr_|apply zk_|apply ze_|apply zq_|(apply zG<;>intro ht));all_goals try simp (disch:=first|omega|(simp only [lens,z6,zi,z7,zg,z8,zj,zh,zl,lQt,lQd,List.length_replicate];first|done|omega)) only [go_sem,q0,q3,q4,q6,q7,q8,q9,q10,q11]))
 refine callW.mkP (caps:=[]) (zd9 hS.c hG.ok (by omega) (by omega) a b) (CirP.is ploc_is z2s hS.c _ rfl) ?_
 rintro v O2 ⟨rfl,o1',C1,f1⟩
 obtain⟨S2,K⟩:=hS.circK f1 C1
 simp (disch:=first|omega|(simp only [lens,z6,zi,z7,zg,z8,zj,zh,zl,lQt,lQd,List.length_replicate];first|done|omega)) only [go_sem,q0,q3,q4,q6,q7,q8,q9,q10,q11]
 repeat' (first|apply zs_|apply zb_|apply zc_|apply zt_ rfl|apply zf_ rfl|(apply zd_ rfl<;>intro ht<;>try omega)|((first|apply zr_|apply zk_|apply ze_|apply zq_|(apply zG<;>intro ht));all_goals try simp (disch:=first|omega|(simp only [lens,z6,zi,z7,zg,z8,zj,zh,zl,lQt,lQd,List.length_replicate];first|done|omega)) only [go_sem,q0,q3,q4,q6,q7,q8,q9,q10,q11]))
 exact hQ _ _ _ _ _ _ _ S2 (hG.talk a b) (PLe.refl _) K ⟨by simp (disch:=first|omega|(simp only [lens,z6,zi,z7,zg,z8,zj,zh,zl,lQt,lQd,List.length_replicate];first|done|omega)) only [go_sem,q0],by simp (disch:=first|omega|(simp only [lens,z6,zi,z7,zg,z8,zj,zh,zl,lQt,lQd,List.length_replicate];first|done|omega)) only [go_sem,q3],by simp (disch:=first|omega|(simp only [lens,z6,zi,z7,zg,z8,zj,zh,zl,lQt,lQd,List.length_replicate];first|done|omega)) only [go_sem,q4],by simp (disch:=first|omega|(simp only [lens,z6,zi,z7,zg,z8,zj,zh,zl,lQt,lQd,List.length_replicate];first|done|omega)) only [go_sem,q6],by simp (disch:=first|omega|(simp only [lens,z6,zi,z7,zg,z8,zj,zh,zl,lQt,lQd,List.length_replicate];first|done|omega)) only [go_sem,q7],by simp (disch:=first|omega|(simp only [lens,z6,zi,z7,zg,z8,zj,zh,zl,lQt,lQd,List.length_replicate];first|done|omega)) only [go_sem,q8],by simp (disch:=first|omega|(simp only [lens,z6,zi,z7,zg,z8,zj,zh,zl,lQt,lQd,List.length_replicate];first|done|omega)) only [go_sem,q9],by simp (disch:=first|omega|(simp only [lens,z6,zi,z7,zg,z8,zj,zh,zl,lQt,lQd,List.length_replicate];first|done|omega)) only [go_sem,q10],by simp (disch:=first|omega|(simp only [lens,z6,zi,z7,zg,z8,zj,zh,zl,lQt,lQd,List.length_replicate];first|done|omega)) only [go_sem,q11]⟩
theorem zpn(hS:CaS O PS M A c pa o1 oa)(hG:GI (z11 (keyL logC)) PS M A)(hB:CgB O T B o1 oa)(hT:T.Ok)(hE:CgE J x c pa i B W a b)(hQ:CgQ Q O PS o1 oa c pa x i B W a b):zW TC 204 0 (.reg zf0) Q J O:=by
 obtain⟨q0,q3,q4,q6,q7,q8,q9,q10,q11⟩:=hE
 have hml:=hG.ml
 have hn:=hG.n
 have hg:=hB.g
 have ca:=zaq T
 have cl:=zl T
 have hak:=hT.a
 have h4:=mod4 T.a
 have h4':((T.a:Nat):Int)%4=((T.a%4:Nat):Int):=by omega
 repeat' (first|apply zs_|apply zb_|apply zc_|apply zt_ rfl|apply zf_ rfl|(apply zd_ rfl<;>intro ht<;>try omega)|((first|apply zr_|apply zk_|apply ze_|apply zq_|(apply zG<;>intro ht));all_goals try simp (disch:=first|omega|(simp only [lens,z6,zi,z7,zg,z8,zj,zh,zl,lQt,lQd,List.length_replicate];first|done|omega)) only [go_sem,q0,q3,q4,q6,q7,q8,q9,q10,q11,hg,ca,cl,h4,h4']))
 refine callW.mkP (caps:=[]) (zb0 hS.c hG.ok hG.msl (by omega) (by omega) _) (CirP.is ploc_is z2s hS.c _ (zio ..)) ?_
 rintro v O2 ⟨rfl,o1',C1,f1⟩
 obtain⟨S2,K⟩:=hS.circK f1 C1
 obtain⟨G2,L2⟩:=hG.deliver ((T.a%4:Nat):Int)
 simp (disch:=first|omega|(simp only [lens,z6,zi,z7,zg,z8,zj,zh,zl,lQt,lQd,List.length_replicate];first|done|omega)) only [go_sem,q0,q3,q4,q6,q7,q8,q9,q10,q11]
 repeat' (first|apply zs_|apply zb_|apply zc_|apply zt_ rfl|apply zf_ rfl|(apply zd_ rfl<;>intro ht<;>try omega)|((first|apply zr_|apply zk_|apply ze_|apply zq_|(apply zG<;>intro ht));all_goals try simp (disch:=first|omega|(simp only [lens,z6,zi,z7,zg,z8,zj,zh,zl,lQt,lQd,List.length_replicate];first|done|omega)) only [go_sem,q0,q3,q4,q6,q7,q8,q9,q10,q11]))
 exact hQ _ _ _ _ _ _ _ S2 G2 L2 K ⟨by simp (disch:=first|omega|(simp only [lens,z6,zi,z7,zg,z8,zj,zh,zl,lQt,lQd,List.length_replicate];first|done|omega)) only [go_sem,q0],by simp (disch:=first|omega|(simp only [lens,z6,zi,z7,zg,z8,zj,zh,zl,lQt,lQd,List.length_replicate];first|done|omega)) only [go_sem,q3],by simp (disch:=first|omega|(simp only [lens,z6,zi,z7,zg,z8,zj,zh,zl,lQt,lQd,List.length_replicate];first|done|omega)) only [go_sem,q4],by simp (disch:=first|omega|(simp only [lens,z6,zi,z7,zg,z8,zj,zh,zl,lQt,lQd,List.length_replicate];first|done|omega)) only [go_sem,q6],by simp (disch:=first|omega|(simp only [lens,z6,zi,z7,zg,z8,zj,zh,zl,lQt,lQd,List.length_replicate];first|done|omega)) only [go_sem,q7],by simp (disch:=first|omega|(simp only [lens,z6,zi,z7,zg,z8,zj,zh,zl,lQt,lQd,List.length_replicate];first|done|omega)) only [go_sem,q8],by simp (disch:=first|omega|(simp only [lens,z6,zi,z7,zg,z8,zj,zh,zl,lQt,lQd,List.length_replicate];first|done|omega)) only [go_sem,q9],by simp (disch:=first|omega|(simp only [lens,z6,zi,z7,zg,z8,zj,zh,zl,lQt,lQd,List.length_replicate];first|done|omega)) only [go_sem,q10],by simp (disch:=first|omega|(simp only [lens,z6,zi,z7,zg,z8,zj,zh,zl,lQt,lQd,List.length_replicate];first|done|omega)) only [go_sem,q11]⟩
theorem zpp(hS:CaS O PS M A c pa o1 oa)(hG:GI (z11 (keyL logC)) PS M A)(hB:CgB O T B o1 oa)(hT:T.Ok)(hE:CgE J x c pa i B W a b)(hQ:CgQ Q O PS o1 oa c pa x i B W a b):zW TC 204 0 (.reg zf1) Q J O:=by
 obtain⟨q0,q3,q4,q6,q7,q8,q9,q10,q11⟩:=hE
 have hml:=hG.ml
 have hn:=hG.n
 have hg:=hB.g
 have ca:=zaq T
 have cl:=zl T
 have hak:=hT.a
 have h4:=mod4 T.a
 have h4':((T.a:Nat):Int)%4=((T.a%4:Nat):Int):=by omega
 repeat' (first|apply zs_|apply zb_|apply zc_|apply zt_ rfl|apply zf_ rfl|(apply zd_ rfl<;>intro ht<;>try omega)|((first|apply zr_|apply zk_|apply ze_|apply zq_|(apply zG<;>intro ht));all_goals try simp (disch:=first|omega|(simp only [lens,z6,zi,z7,zg,z8,zj,zh,zl,lQt,lQd,List.length_replicate];first|done|omega)) only [go_sem,q0,q3,q4,q6,q7,q8,q9,q10,q11,hg,ca,cl,h4,h4']))
 refine callW.mkP (caps:=[]) (zhv hS.c (by omega) (by omega) _) (CirP.is ploc_is z2s hS.c _ rfl) ?_
 rintro v O2 ⟨rfl,o1',C1,f1⟩
 obtain⟨S2,K⟩:=hS.circK f1 C1
 simp (disch:=first|omega|(simp only [lens,z6,zi,z7,zg,z8,zj,zh,zl,lQt,lQd,List.length_replicate];first|done|omega)) only [go_sem,q0,q3,q4,q6,q7,q8,q9,q10,q11]
 repeat' (first|apply zs_|apply zb_|apply zc_|apply zt_ rfl|apply zf_ rfl|(apply zd_ rfl<;>intro ht<;>try omega)|((first|apply zr_|apply zk_|apply ze_|apply zq_|(apply zG<;>intro ht));all_goals try simp (disch:=first|omega|(simp only [lens,z6,zi,z7,zg,z8,zj,zh,zl,lQt,lQd,List.length_replicate];first|done|omega)) only [go_sem,q0,q3,q4,q6,q7,q8,q9,q10,q11]))
 exact hQ _ _ _ _ _ _ _ S2 (hG.drop _) (PLe.refl _) K ⟨by simp (disch:=first|omega|(simp only [lens,z6,zi,z7,zg,z8,zj,zh,zl,lQt,lQd,List.length_replicate];first|done|omega)) only [go_sem,q0],by simp (disch:=first|omega|(simp only [lens,z6,zi,z7,zg,z8,zj,zh,zl,lQt,lQd,List.length_replicate];first|done|omega)) only [go_sem,q3],by simp (disch:=first|omega|(simp only [lens,z6,zi,z7,zg,z8,zj,zh,zl,lQt,lQd,List.length_replicate];first|done|omega)) only [go_sem,q4],by simp (disch:=first|omega|(simp only [lens,z6,zi,z7,zg,z8,zj,zh,zl,lQt,lQd,List.length_replicate];first|done|omega)) only [go_sem,q6],by simp (disch:=first|omega|(simp only [lens,z6,zi,z7,zg,z8,zj,zh,zl,lQt,lQd,List.length_replicate];first|done|omega)) only [go_sem,q7],by simp (disch:=first|omega|(simp only [lens,z6,zi,z7,zg,z8,zj,zh,zl,lQt,lQd,List.length_replicate];first|done|omega)) only [go_sem,q8],by simp (disch:=first|omega|(simp only [lens,z6,zi,z7,zg,z8,zj,zh,zl,lQt,lQd,List.length_replicate];first|done|omega)) only [go_sem,q9],by simp (disch:=first|omega|(simp only [lens,z6,zi,z7,zg,z8,zj,zh,zl,lQt,lQd,List.length_replicate];first|done|omega)) only [go_sem,q10],by simp (disch:=first|omega|(simp only [lens,z6,zi,z7,zg,z8,zj,zh,zl,lQt,lQd,List.length_replicate];first|done|omega)) only [go_sem,q11]⟩
theorem zpo(hS:CaS O PS M A c pa o1 oa)(hG:GI (z11 (keyL logC)) PS M A)(hB:CgB O T B o1 oa)(hT:T.Ok)(hE:CgE J x c pa i B W a b)(hQ:CgQ Q O PS o1 oa c pa x i B W a b):zW TC 204 0 (.reg zf2) Q J O:=by
 obtain⟨q0,q3,q4,q6,q7,q8,q9,q10,q11⟩:=hE
 have hml:=hG.ml
 have hn:=hG.n
 have hg:=hB.g
 have ca:=zaq T
 have cl:=zl T
 have hak:=hT.a
 have h4:=mod4 T.a
 have h4':((T.a:Nat):Int)%4=((T.a%4:Nat):Int):=by omega
 repeat' (first|apply zs_|apply zb_|apply zc_|apply zt_ rfl|apply zf_ rfl|(apply zd_ rfl<;>intro ht<;>try omega)|((first|apply zr_|apply zk_|apply ze_|apply zq_|(apply zG<;>intro ht));all_goals try simp (disch:=first|omega|(simp only [lens,z6,zi,z7,zg,z8,zj,zh,zl,lQt,lQd,List.length_replicate];first|done|omega)) only [go_sem,q0,q3,q4,q6,q7,q8,q9,q10,q11,hg,ca,cl,h4,h4']))
 refine callW.mkP (caps:=[]) (zpe hS.c (by omega) (by omega) _) (CirP.is ploc_is z2s hS.c _ rfl) ?_
 rintro v O2 ⟨rfl,o1',C1,f1⟩
 obtain⟨S2,K⟩:=hS.circK f1 C1
 simp (disch:=first|omega|(simp only [lens,z6,zi,z7,zg,z8,zj,zh,zl,lQt,lQd,List.length_replicate];first|done|omega)) only [go_sem,q0,q3,q4,q6,q7,q8,q9,q10,q11]
 repeat' (first|apply zs_|apply zb_|apply zc_|apply zt_ rfl|apply zf_ rfl|(apply zd_ rfl<;>intro ht<;>try omega)|((first|apply zr_|apply zk_|apply ze_|apply zq_|(apply zG<;>intro ht));all_goals try simp (disch:=first|omega|(simp only [lens,z6,zi,z7,zg,z8,zj,zh,zl,lQt,lQd,List.length_replicate];first|done|omega)) only [go_sem,q0,q3,q4,q6,q7,q8,q9,q10,q11]))
 exact hQ _ _ _ _ _ _ _ S2 (hG.double _) (PLe.refl _) K ⟨by simp (disch:=first|omega|(simp only [lens,z6,zi,z7,zg,z8,zj,zh,zl,lQt,lQd,List.length_replicate];first|done|omega)) only [go_sem,q0],by simp (disch:=first|omega|(simp only [lens,z6,zi,z7,zg,z8,zj,zh,zl,lQt,lQd,List.length_replicate];first|done|omega)) only [go_sem,q3],by simp (disch:=first|omega|(simp only [lens,z6,zi,z7,zg,z8,zj,zh,zl,lQt,lQd,List.length_replicate];first|done|omega)) only [go_sem,q4],by simp (disch:=first|omega|(simp only [lens,z6,zi,z7,zg,z8,zj,zh,zl,lQt,lQd,List.length_replicate];first|done|omega)) only [go_sem,q6],by simp (disch:=first|omega|(simp only [lens,z6,zi,z7,zg,z8,zj,zh,zl,lQt,lQd,List.length_replicate];first|done|omega)) only [go_sem,q7],by simp (disch:=first|omega|(simp only [lens,z6,zi,z7,zg,z8,zj,zh,zl,lQt,lQd,List.length_replicate];first|done|omega)) only [go_sem,q8],by simp (disch:=first|omega|(simp only [lens,z6,zi,z7,zg,z8,zj,zh,zl,lQt,lQd,List.length_replicate];first|done|omega)) only [go_sem,q9],by simp (disch:=first|omega|(simp only [lens,z6,zi,z7,zg,z8,zj,zh,zl,lQt,lQd,List.length_replicate];first|done|omega)) only [go_sem,q10],by simp (disch:=first|omega|(simp only [lens,z6,zi,z7,zg,z8,zj,zh,zl,lQt,lQd,List.length_replicate];first|done|omega)) only [go_sem,q11]⟩
theorem zpt(hS:CaS O PS M A c pa o1 oa)(hG:GI (z11 (keyL logC)) PS M A)(hB:CgB O T B o1 oa)(hE:CgE J x c pa i B W a b)(hQ:CgQ Q O PS o1 oa c pa x i B W a b):zW TC 204 0 (.reg zf3) Q J O:=by
 obtain⟨q0,q3,q4,q6,q7,q8,q9,q10,q11⟩:=hE
 have hml:=hG.ml
 have hn:=hG.n
 repeat' (first|apply zs_|apply zb_|apply zc_|apply zt_ rfl|apply zf_ rfl|(apply zd_ rfl<;>intro ht<;>try omega)|((first|apply zr_|apply zk_|apply ze_|apply zq_|(apply zG<;>intro ht));all_goals try simp (disch:=first|omega|(simp only [lens,z6,zi,z7,zg,z8,zj,zh,zl,lQt,lQd,List.length_replicate];first|done|omega)) only [go_sem,q0,q3,q4,q6,q7,q8,q9,q10,q11]))
 refine callW.mkP (caps:=[]) (zd5 hS.c hG.ok (by omega) a b) (CirP.is ploc_is z2s hS.c _ (zk7 ..)) ?_
 rintro v O2 ⟨rfl,o1',C1,f1⟩
 obtain⟨S2,K⟩:=hS.circK f1 C1
 obtain⟨G2,L2⟩:=hG.meet a b
 simp (disch:=first|omega|(simp only [lens,z6,zi,z7,zg,z8,zj,zh,zl,lQt,lQd,List.length_replicate];first|done|omega)) only [go_sem,q0,q3,q4,q6,q7,q8,q9,q10,q11]
 repeat' (first|apply zs_|apply zb_|apply zc_|apply zt_ rfl|apply zf_ rfl|(apply zd_ rfl<;>intro ht<;>try omega)|((first|apply zr_|apply zk_|apply ze_|apply zq_|(apply zG<;>intro ht));all_goals try simp (disch:=first|omega|(simp only [lens,z6,zi,z7,zg,z8,zj,zh,zl,lQt,lQd,List.length_replicate];first|done|omega)) only [go_sem,q0,q3,q4,q6,q7,q8,q9,q10,q11]))
 exact hQ _ _ _ _ _ _ _ S2 G2 L2 K ⟨by simp (disch:=first|omega|(simp only [lens,z6,zi,z7,zg,z8,zj,zh,zl,lQt,lQd,List.length_replicate];first|done|omega)) only [go_sem,q0],by simp (disch:=first|omega|(simp only [lens,z6,zi,z7,zg,z8,zj,zh,zl,lQt,lQd,List.length_replicate];first|done|omega)) only [go_sem,q3],by simp (disch:=first|omega|(simp only [lens,z6,zi,z7,zg,z8,zj,zh,zl,lQt,lQd,List.length_replicate];first|done|omega)) only [go_sem,q4],by simp (disch:=first|omega|(simp only [lens,z6,zi,z7,zg,z8,zj,zh,zl,lQt,lQd,List.length_replicate];first|done|omega)) only [go_sem,q6],by simp (disch:=first|omega|(simp only [lens,z6,zi,z7,zg,z8,zj,zh,zl,lQt,lQd,List.length_replicate];first|done|omega)) only [go_sem,q7],by simp (disch:=first|omega|(simp only [lens,z6,zi,z7,zg,z8,zj,zh,zl,lQt,lQd,List.length_replicate];first|done|omega)) only [go_sem,q8],by simp (disch:=first|omega|(simp only [lens,z6,zi,z7,zg,z8,zj,zh,zl,lQt,lQd,List.length_replicate];first|done|omega)) only [go_sem,q9],by simp (disch:=first|omega|(simp only [lens,z6,zi,z7,zg,z8,zj,zh,zl,lQt,lQd,List.length_replicate];first|done|omega)) only [go_sem,q10],by simp (disch:=first|omega|(simp only [lens,z6,zi,z7,zg,z8,zj,zh,zl,lQt,lQd,List.length_replicate];first|done|omega)) only [go_sem,q11]⟩
theorem zpr(hS:CaS O PS M A c pa o1 oa)(hG:GI (z11 (keyL logC)) PS M A)(hB:CgB O T B o1 oa)(hT:T.Ok)(hE:CgE J x c pa i B W a b)(hQ:CgQ Q O PS o1 oa c pa x i B W a b)(hR:∀J' O',J' 2=.bool true->Q .ret J' O'):zW TC 204 0 zc4 Q J O:=by
 obtain⟨q0,q3,q4,q6,q7,q8,q9,q10,q11⟩:=hE
 have hsd:logC.length<1000000:=by decide
 have hg:=hB.g
 have cs:=zoa T
 have cl:=zl T
 have hso:=hT.s
 have hOf:=zm1 O 0 logC T.s.1 T.s.2.1 T.s.2.2.1 T.s.2.2.2 hS.t hsd hso.1 hso.2.1 hso.2.2.1 hso.2.2.2
 have hhp:(z3s logC T.s.1 T.s.2.1 T.s.2.2.1 T.s.2.2.2).p.length=3:=zz5 _ _ _ _ _
 generalize z3s logC T.s.1 T.s.2.1 T.s.2.2.1 T.s.2.2.2=h at*
 have hl:=zg h
 have ha:(hdrC h).take 36=hdrC h:=z7f h
 have E:Ext O (O++ [some [hdrC h]]):=⟨_,rfl⟩
 have S1:=hS.ext E
 have K1:Kp O (O++ [some [hdrC h]]) o1 oa o1 oa:=Kp.ext E
 have hb:(O++ [some [hdrC h]])[O.length]? =some (some [hdrC h]):=by rw [z19 (Nat.le_refl _),Nat.sub_self];rfl
 have hb1:O.length ∉ o1:=fun e=>by have:=hS.c.lt ploc_is _ e;omega
 have hb2:O.length ∉ oa:=fun e=>by have:=hS.p.lt e;omega
 unfold zc4
 repeat' (first|apply zs_|apply zb_|apply zc_|apply zt_ rfl|apply zf_ rfl|(apply zd_ rfl<;>intro ht<;>try omega)|((first|apply zr_|apply zk_|apply ze_|apply zq_|(apply callW.mk_pu;(first|exact(fun _=>hOf)))|(apply callW.za;(first|exact(hOf)))|(apply zG<;>intro ht));all_goals try simp (disch:=first|omega|(simp only [lens,z6,zi,z7,zg,z8,zj,zh,zl,lQt,lQd,List.length_replicate];first|done|omega)) only [go_sem,q0,q3,q4,q6,q7,q8,q9,q10,q11,hg,cs,cl,hl,ha]))
 generalize O++ [some [hdrC h]]=O0 at*
 generalize O.length=k at*
 have hAd:=zbm O0 pa _ A oa h _ S1.p hG.a.sort hG.a.len (z1y _ _) (by omega) (fun e=>zb6 e)
 rw [show sgC h.n h.r h.i h.s (zz 32 (hr h.p))=hdrC h from rfl]at hAd
 refine callW.mkP (caps:=[]) hAd (PoAddP.is S1.p) ?_
 rintro v O2 ⟨rfl,oa2,f2,P2⟩
 obtain⟨S2,K2⟩:=S1.poolK f2 P2
 obtain⟨hb3,hb4,hb5⟩:=K2 k _ hb hb1 hb2
 have hGL:=hG.learn a h
 generalize hA2:addL (z11 (keyL logC)) A h=A2 at*
 generalize he:addC (z11 (keyL logC)) A h=e at*
 by_cases h4:e=4
 ·subst h4
  simp (disch:=first|omega|(simp only [lens,z6,zi,z7,zg,z8,zj,zh,zl,lQt,lQd,List.length_replicate];first|done|omega)) only [go_sem,q0,q3,q4,q6,q7,q8,q9,q10,q11,hb3,hl,ha]
  repeat' (first|apply zs_|apply zb_|apply zc_|apply zt_ rfl|apply zf_ rfl|(apply zd_ rfl<;>intro ht<;>try omega)|((first|apply zr_|apply zk_|apply ze_|apply zq_|(apply callW.mk_pu;(first|exact(fun _=>z8h _)))|(apply callW.za;(first|exact(z8h _)))|(apply zG<;>intro ht));all_goals try simp (disch:=first|omega|(simp only [lens,z6,zi,z7,zg,z8,zj,zh,zl,lQt,lQd,List.length_replicate];first|done|omega)) only [go_sem,q0,q3,q4,q6,q7,q8,q9,q10,q11,hb3,hl,ha]))
  exact hR _ _ (by simp (disch:=first|omega|(simp only [lens,z6,zi,z7,zg,z8,zj,zh,zl,lQt,lQd,List.length_replicate];first|done|omega)) only [go_sem])
 ·obtain⟨G2,L2⟩:=hGL h4
  have h4':(e==4)=false:=beq_eq_false_iff_ne.2 h4
  have hL:=zhy S2.c hG.ok a h _ (z1y 32 (hr h.p)) (by omega)
  rw [show sgC h.n h.r h.i h.s (zz 32 (hr h.p))=hdrC h from rfl]at hL
  simp (disch:=first|omega|(simp only [lens,z6,zi,z7,zg,z8,zj,zh,zl,lQt,lQd,List.length_replicate];first|done|omega)) only [go_sem,q0,q3,q4,q6,q7,q8,q9,q10,q11,hb3,hl,ha,h4']
  repeat' (first|apply zs_|apply zb_|apply zc_|apply zt_ rfl|apply zf_ rfl|(apply zd_ rfl<;>intro ht<;>try omega)|((first|apply zr_|apply zk_|apply ze_|apply zq_|(apply zG<;>intro ht));all_goals try simp (disch:=first|omega|(simp only [lens,z6,zi,z7,zg,z8,zj,zh,zl,lQt,lQd,List.length_replicate];first|done|omega)) only [go_sem,q0,q3,q4,q6,q7,q8,q9,q10,q11,hb3,hl,ha,h4']))
  refine callW.mkP (caps:=[]) hL (CirP.is ploc_is z2s S2.c _ (zk6 ..)) ?_
  rintro v O3 ⟨rfl,o1',C1,f1⟩
  obtain⟨S3,K3⟩:=S2.circK f1 C1
  simp (disch:=first|omega|(simp only [lens,z6,zi,z7,zg,z8,zj,zh,zl,lQt,lQd,List.length_replicate];first|done|omega)) only [go_sem,q0,q3,q4,q6,q7,q8,q9,q10,q11]
  repeat' (first|apply zs_|apply zb_|apply zc_|apply zt_ rfl|apply zf_ rfl|(apply zd_ rfl<;>intro ht<;>try omega)|((first|apply zr_|apply zk_|apply ze_|apply zq_|(apply zG<;>intro ht));all_goals try simp (disch:=first|omega|(simp only [lens,z6,zi,z7,zg,z8,zj,zh,zl,lQt,lQd,List.length_replicate];first|done|omega)) only [go_sem,q0,q3,q4,q6,q7,q8,q9,q10,q11]))
  exact hQ _ _ _ _ _ _ _ S3 G2 L2 ((K1.trans K2).trans K3) ⟨by simp (disch:=first|omega|(simp only [lens,z6,zi,z7,zg,z8,zj,zh,zl,lQt,lQd,List.length_replicate];first|done|omega)) only [go_sem,q0],by simp (disch:=first|omega|(simp only [lens,z6,zi,z7,zg,z8,zj,zh,zl,lQt,lQd,List.length_replicate];first|done|omega)) only [go_sem,q3],by simp (disch:=first|omega|(simp only [lens,z6,zi,z7,zg,z8,zj,zh,zl,lQt,lQd,List.length_replicate];first|done|omega)) only [go_sem,q4],by simp (disch:=first|omega|(simp only [lens,z6,zi,z7,zg,z8,zj,zh,zl,lQt,lQd,List.length_replicate];first|done|omega)) only [go_sem,q6],by simp (disch:=first|omega|(simp only [lens,z6,zi,z7,zg,z8,zj,zh,zl,lQt,lQd,List.length_replicate];first|done|omega)) only [go_sem,q7],by simp (disch:=first|omega|(simp only [lens,z6,zi,z7,zg,z8,zj,zh,zl,lQt,lQd,List.length_replicate];first|done|omega)) only [go_sem,q8],by simp (disch:=first|omega|(simp only [lens,z6,zi,z7,zg,z8,zj,zh,zl,lQt,lQd,List.length_replicate];first|done|omega)) only [go_sem,q9],by simp (disch:=first|omega|(simp only [lens,z6,zi,z7,zg,z8,zj,zh,zl,lQt,lQd,List.length_replicate];first|done|omega)) only [go_sem,q10],by simp (disch:=first|omega|(simp only [lens,z6,zi,z7,zg,z8,zj,zh,zl,lQt,lQd,List.length_replicate];first|done|omega)) only [go_sem,q11]⟩
end
end
section
attribute [local irreducible] ACallsTo ACallsP
section
variable {O:Store} {PS:List (List Hdr)} {M:List MM} {A:List Hdr} {c pa:Nat} {o1 oa:List Nat} {x:AV} {i B W:Nat} {a b:Int} {T:ActV8} {J:Env} {Q:AExit->Env->Store->Prop}
theorem zpl(hS:CaS O PS M A c pa o1 oa)(hG:GI (z11 (keyL logC)) PS M A)(hB:CgB O T B o1 oa)(hT:T.Ok)(hE:CgE J x c pa i B W a b)(hQ:CgQ Q O PS o1 oa c pa x i B W a b)(hR:∀J' O',J' 2=.bool true->Q .ret J' O'):zW TC 204 0 zc5 Q J O:=by
 have hg:=hB.g
 have ck:=zo9 T
 have cl:=zl T
 have hkk:=hT.k
 have h26:=fun J' Q hE hQ=>zpv (J:=J') (Q:=Q) (x:=x) (i:=i) (W:=W) (a:=a) (b:=b) hS hG hB hE hQ
 have h34:=fun J' Q hE hQ=>zpn (J:=J') (Q:=Q) (x:=x) (i:=i) (W:=W) (a:=a) (b:=b) hS hG hB hT hE hQ
 have h36:=fun J' Q hE hQ=>zpp (J:=J') (Q:=Q) (x:=x) (i:=i) (W:=W) (a:=a) (b:=b) hS hG hB hT hE hQ
 have h38:=fun J' Q hE hQ=>zpo (J:=J') (Q:=Q) (x:=x) (i:=i) (W:=W) (a:=a) (b:=b) hS hG hB hT hE hQ
 have h40:=fun J' Q hE hQ=>zpt (J:=J') (Q:=Q) (x:=x) (i:=i) (W:=W) (a:=a) (b:=b) hS hG hB hE hQ
 have h59:=fun J' Q hE hQ hR=>zpr (J:=J') (Q:=Q) (x:=x) (i:=i) (W:=W) (a:=a) (b:=b) hS hG hB hT hE hQ hR
 obtain⟨q0,q3,q4,q6,q7,q8,q9,q10,q11⟩:=hE
 unfold zc5 zlf zle zld zlc zlb zla zl9 zl8 zl7 zl6 zl5 zl4 zl3
 generalize ACode.reg zez=C26 at*
 generalize ACode.reg zf0=C34 at*
 generalize ACode.reg zf1=C36 at*
 generalize ACode.reg zf2=C38 at*
 generalize ACode.reg zf3=C40 at*
 generalize zc4=C59 at*
 have hk:(T.k:Int)%14=0 \/(T.k:Int)%14=1 \/(T.k:Int)%14=2 \/(T.k:Int)%14=3 \/(T.k:Int)%14=4 \/(T.k:Int)%14=5 \/(T.k:Int)%14=6 \/(T.k:Int)%14=7 \/(T.k:Int)%14=8 \/(T.k:Int)%14=9 \/(T.k:Int)%14=10 \/(T.k:Int)%14=11 \/(T.k:Int)%14=12 \/(T.k:Int)%14=13:=by omega
 rcases hk with e|e|e|e|e|e|e|e|e|e|e|e|e|e
 ·repeat' (first|apply zs_|apply zb_|apply zc_|apply zt_ rfl|apply zf_ rfl|(apply zd_ rfl<;>intro ht<;>try omega)|((first|apply zr_|apply zk_|apply ze_|apply zq_|(apply zG<;>intro ht));all_goals try simp (disch:=first|omega|(simp only [lens,z6,zi,z7,zg,z8,zj,zh,zl,lQt,lQd,List.length_replicate];first|done|omega)) only [go_sem,q0,q3,q4,q6,q7,q8,q9,q10,q11,hg,ck,cl,e]))
  exact h59 _ _ ⟨by simp (disch:=first|omega|(simp only [lens,z6,zi,z7,zg,z8,zj,zh,zl,lQt,lQd,List.length_replicate];first|done|omega)) only [go_sem,q0],by simp (disch:=first|omega|(simp only [lens,z6,zi,z7,zg,z8,zj,zh,zl,lQt,lQd,List.length_replicate];first|done|omega)) only [go_sem,q3],by simp (disch:=first|omega|(simp only [lens,z6,zi,z7,zg,z8,zj,zh,zl,lQt,lQd,List.length_replicate];first|done|omega)) only [go_sem,q4],by simp (disch:=first|omega|(simp only [lens,z6,zi,z7,zg,z8,zj,zh,zl,lQt,lQd,List.length_replicate];first|done|omega)) only [go_sem,q6],by simp (disch:=first|omega|(simp only [lens,z6,zi,z7,zg,z8,zj,zh,zl,lQt,lQd,List.length_replicate];first|done|omega)) only [go_sem,q7],by simp (disch:=first|omega|(simp only [lens,z6,zi,z7,zg,z8,zj,zh,zl,lQt,lQd,List.length_replicate];first|done|omega)) only [go_sem,q8],by simp (disch:=first|omega|(simp only [lens,z6,zi,z7,zg,z8,zj,zh,zl,lQt,lQd,List.length_replicate];first|done|omega)) only [go_sem,q9],by simp (disch:=first|omega|(simp only [lens,z6,zi,z7,zg,z8,zj,zh,zl,lQt,lQd,List.length_replicate];first|done|omega)) only [go_sem,q10],by simp (disch:=first|omega|(simp only [lens,z6,zi,z7,zg,z8,zj,zh,zl,lQt,lQd,List.length_replicate];first|done|omega)) only [go_sem,q11]⟩ hQ hR
 ·repeat' (first|apply zs_|apply zb_|apply zc_|apply zt_ rfl|apply zf_ rfl|(apply zd_ rfl<;>intro ht<;>try omega)|((first|apply zr_|apply zk_|apply ze_|apply zq_|(apply zG<;>intro ht));all_goals try simp (disch:=first|omega|(simp only [lens,z6,zi,z7,zg,z8,zj,zh,zl,lQt,lQd,List.length_replicate];first|done|omega)) only [go_sem,q0,q3,q4,q6,q7,q8,q9,q10,q11,hg,ck,cl,e]))
  exact h59 _ _ ⟨by simp (disch:=first|omega|(simp only [lens,z6,zi,z7,zg,z8,zj,zh,zl,lQt,lQd,List.length_replicate];first|done|omega)) only [go_sem,q0],by simp (disch:=first|omega|(simp only [lens,z6,zi,z7,zg,z8,zj,zh,zl,lQt,lQd,List.length_replicate];first|done|omega)) only [go_sem,q3],by simp (disch:=first|omega|(simp only [lens,z6,zi,z7,zg,z8,zj,zh,zl,lQt,lQd,List.length_replicate];first|done|omega)) only [go_sem,q4],by simp (disch:=first|omega|(simp only [lens,z6,zi,z7,zg,z8,zj,zh,zl,lQt,lQd,List.length_replicate];first|done|omega)) only [go_sem,q6],by simp (disch:=first|omega|(simp only [lens,z6,zi,z7,zg,z8,zj,zh,zl,lQt,lQd,List.length_replicate];first|done|omega)) only [go_sem,q7],by simp (disch:=first|omega|(simp only [lens,z6,zi,z7,zg,z8,zj,zh,zl,lQt,lQd,List.length_replicate];first|done|omega)) only [go_sem,q8],by simp (disch:=first|omega|(simp only [lens,z6,zi,z7,zg,z8,zj,zh,zl,lQt,lQd,List.length_replicate];first|done|omega)) only [go_sem,q9],by simp (disch:=first|omega|(simp only [lens,z6,zi,z7,zg,z8,zj,zh,zl,lQt,lQd,List.length_replicate];first|done|omega)) only [go_sem,q10],by simp (disch:=first|omega|(simp only [lens,z6,zi,z7,zg,z8,zj,zh,zl,lQt,lQd,List.length_replicate];first|done|omega)) only [go_sem,q11]⟩ hQ hR
 ·repeat' (first|apply zs_|apply zb_|apply zc_|apply zt_ rfl|apply zf_ rfl|(apply zd_ rfl<;>intro ht<;>try omega)|((first|apply zr_|apply zk_|apply ze_|apply zq_|(apply zG<;>intro ht));all_goals try simp (disch:=first|omega|(simp only [lens,z6,zi,z7,zg,z8,zj,zh,zl,lQt,lQd,List.length_replicate];first|done|omega)) only [go_sem,q0,q3,q4,q6,q7,q8,q9,q10,q11,hg,ck,cl,e]))
  exact h59 _ _ ⟨by simp (disch:=first|omega|(simp only [lens,z6,zi,z7,zg,z8,zj,zh,zl,lQt,lQd,List.length_replicate];first|done|omega)) only [go_sem,q0],by simp (disch:=first|omega|(simp only [lens,z6,zi,z7,zg,z8,zj,zh,zl,lQt,lQd,List.length_replicate];first|done|omega)) only [go_sem,q3],by simp (disch:=first|omega|(simp only [lens,z6,zi,z7,zg,z8,zj,zh,zl,lQt,lQd,List.length_replicate];first|done|omega)) only [go_sem,q4],by simp (disch:=first|omega|(simp only [lens,z6,zi,z7,zg,z8,zj,zh,zl,lQt,lQd,List.length_replicate];first|done|omega)) only [go_sem,q6],by simp (disch:=first|omega|(simp only [lens,z6,zi,z7,zg,z8,zj,zh,zl,lQt,lQd,List.length_replicate];first|done|omega)) only [go_sem,q7],by simp (disch:=first|omega|(simp only [lens,z6,zi,z7,zg,z8,zj,zh,zl,lQt,lQd,List.length_replicate];first|done|omega)) only [go_sem,q8],by simp (disch:=first|omega|(simp only [lens,z6,zi,z7,zg,z8,zj,zh,zl,lQt,lQd,List.length_replicate];first|done|omega)) only [go_sem,q9],by simp (disch:=first|omega|(simp only [lens,z6,zi,z7,zg,z8,zj,zh,zl,lQt,lQd,List.length_replicate];first|done|omega)) only [go_sem,q10],by simp (disch:=first|omega|(simp only [lens,z6,zi,z7,zg,z8,zj,zh,zl,lQt,lQd,List.length_replicate];first|done|omega)) only [go_sem,q11]⟩ hQ hR
 ·repeat' (first|apply zs_|apply zb_|apply zc_|apply zt_ rfl|apply zf_ rfl|(apply zd_ rfl<;>intro ht<;>try omega)|((first|apply zr_|apply zk_|apply ze_|apply zq_|(apply zG<;>intro ht));all_goals try simp (disch:=first|omega|(simp only [lens,z6,zi,z7,zg,z8,zj,zh,zl,lQt,lQd,List.length_replicate];first|done|omega)) only [go_sem,q0,q3,q4,q6,q7,q8,q9,q10,q11,hg,ck,cl,e]))
  exact h59 _ _ ⟨by simp (disch:=first|omega|(simp only [lens,z6,zi,z7,zg,z8,zj,zh,zl,lQt,lQd,List.length_replicate];first|done|omega)) only [go_sem,q0],by simp (disch:=first|omega|(simp only [lens,z6,zi,z7,zg,z8,zj,zh,zl,lQt,lQd,List.length_replicate];first|done|omega)) only [go_sem,q3],by simp (disch:=first|omega|(simp only [lens,z6,zi,z7,zg,z8,zj,zh,zl,lQt,lQd,List.length_replicate];first|done|omega)) only [go_sem,q4],by simp (disch:=first|omega|(simp only [lens,z6,zi,z7,zg,z8,zj,zh,zl,lQt,lQd,List.length_replicate];first|done|omega)) only [go_sem,q6],by simp (disch:=first|omega|(simp only [lens,z6,zi,z7,zg,z8,zj,zh,zl,lQt,lQd,List.length_replicate];first|done|omega)) only [go_sem,q7],by simp (disch:=first|omega|(simp only [lens,z6,zi,z7,zg,z8,zj,zh,zl,lQt,lQd,List.length_replicate];first|done|omega)) only [go_sem,q8],by simp (disch:=first|omega|(simp only [lens,z6,zi,z7,zg,z8,zj,zh,zl,lQt,lQd,List.length_replicate];first|done|omega)) only [go_sem,q9],by simp (disch:=first|omega|(simp only [lens,z6,zi,z7,zg,z8,zj,zh,zl,lQt,lQd,List.length_replicate];first|done|omega)) only [go_sem,q10],by simp (disch:=first|omega|(simp only [lens,z6,zi,z7,zg,z8,zj,zh,zl,lQt,lQd,List.length_replicate];first|done|omega)) only [go_sem,q11]⟩ hQ hR
 ·repeat' (first|apply zs_|apply zb_|apply zc_|apply zt_ rfl|apply zf_ rfl|(apply zd_ rfl<;>intro ht<;>try omega)|((first|apply zr_|apply zk_|apply ze_|apply zq_|(apply zG<;>intro ht));all_goals try simp (disch:=first|omega|(simp only [lens,z6,zi,z7,zg,z8,zj,zh,zl,lQt,lQd,List.length_replicate];first|done|omega)) only [go_sem,q0,q3,q4,q6,q7,q8,q9,q10,q11,hg,ck,cl,e]))
  exact h26 _ _ ⟨by simp (disch:=first|omega|(simp only [lens,z6,zi,z7,zg,z8,zj,zh,zl,lQt,lQd,List.length_replicate];first|done|omega)) only [go_sem,q0],by simp (disch:=first|omega|(simp only [lens,z6,zi,z7,zg,z8,zj,zh,zl,lQt,lQd,List.length_replicate];first|done|omega)) only [go_sem,q3],by simp (disch:=first|omega|(simp only [lens,z6,zi,z7,zg,z8,zj,zh,zl,lQt,lQd,List.length_replicate];first|done|omega)) only [go_sem,q4],by simp (disch:=first|omega|(simp only [lens,z6,zi,z7,zg,z8,zj,zh,zl,lQt,lQd,List.length_replicate];first|done|omega)) only [go_sem,q6],by simp (disch:=first|omega|(simp only [lens,z6,zi,z7,zg,z8,zj,zh,zl,lQt,lQd,List.length_replicate];first|done|omega)) only [go_sem,q7],by simp (disch:=first|omega|(simp only [lens,z6,zi,z7,zg,z8,zj,zh,zl,lQt,lQd,List.length_replicate];first|done|omega)) only [go_sem,q8],by simp (disch:=first|omega|(simp only [lens,z6,zi,z7,zg,z8,zj,zh,zl,lQt,lQd,List.length_replicate];first|done|omega)) only [go_sem,q9],by simp (disch:=first|omega|(simp only [lens,z6,zi,z7,zg,z8,zj,zh,zl,lQt,lQd,List.length_replicate];first|done|omega)) only [go_sem,q10],by simp (disch:=first|omega|(simp only [lens,z6,zi,z7,zg,z8,zj,zh,zl,lQt,lQd,List.length_replicate];first|done|omega)) only [go_sem,q11]⟩ hQ
 ·repeat' (first|apply zs_|apply zb_|apply zc_|apply zt_ rfl|apply zf_ rfl|(apply zd_ rfl<;>intro ht<;>try omega)|((first|apply zr_|apply zk_|apply ze_|apply zq_|(apply zG<;>intro ht));all_goals try simp (disch:=first|omega|(simp only [lens,z6,zi,z7,zg,z8,zj,zh,zl,lQt,lQd,List.length_replicate];first|done|omega)) only [go_sem,q0,q3,q4,q6,q7,q8,q9,q10,q11,hg,ck,cl,e]))
  exact h26 _ _ ⟨by simp (disch:=first|omega|(simp only [lens,z6,zi,z7,zg,z8,zj,zh,zl,lQt,lQd,List.length_replicate];first|done|omega)) only [go_sem,q0],by simp (disch:=first|omega|(simp only [lens,z6,zi,z7,zg,z8,zj,zh,zl,lQt,lQd,List.length_replicate];first|done|omega)) only [go_sem,q3],by simp (disch:=first|omega|(simp only [lens,z6,zi,z7,zg,z8,zj,zh,zl,lQt,lQd,List.length_replicate];first|done|omega)) only [go_sem,q4],by simp (disch:=first|omega|(simp only [lens,z6,zi,z7,zg,z8,zj,zh,zl,lQt,lQd,List.length_replicate];first|done|omega)) only [go_sem,q6],by simp (disch:=first|omega|(simp only [lens,z6,zi,z7,zg,z8,zj,zh,zl,lQt,lQd,List.length_replicate];first|done|omega)) only [go_sem,q7],by simp (disch:=first|omega|(simp only [lens,z6,zi,z7,zg,z8,zj,zh,zl,lQt,lQd,List.length_replicate];first|done|omega)) only [go_sem,q8],by simp (disch:=first|omega|(simp only [lens,z6,zi,z7,zg,z8,zj,zh,zl,lQt,lQd,List.length_replicate];first|done|omega)) only [go_sem,q9],by simp (disch:=first|omega|(simp only [lens,z6,zi,z7,zg,z8,zj,zh,zl,lQt,lQd,List.length_replicate];first|done|omega)) only [go_sem,q10],by simp (disch:=first|omega|(simp only [lens,z6,zi,z7,zg,z8,zj,zh,zl,lQt,lQd,List.length_replicate];first|done|omega)) only [go_sem,q11]⟩ hQ
 ·repeat' (first|apply zs_|apply zb_|apply zc_|apply zt_ rfl|apply zf_ rfl|(apply zd_ rfl<;>intro ht<;>try omega)|((first|apply zr_|apply zk_|apply ze_|apply zq_|(apply zG<;>intro ht));all_goals try simp (disch:=first|omega|(simp only [lens,z6,zi,z7,zg,z8,zj,zh,zl,lQt,lQd,List.length_replicate];first|done|omega)) only [go_sem,q0,q3,q4,q6,q7,q8,q9,q10,q11,hg,ck,cl,e]))
  exact h34 _ _ ⟨by simp (disch:=first|omega|(simp only [lens,z6,zi,z7,zg,z8,zj,zh,zl,lQt,lQd,List.length_replicate];first|done|omega)) only [go_sem,q0],by simp (disch:=first|omega|(simp only [lens,z6,zi,z7,zg,z8,zj,zh,zl,lQt,lQd,List.length_replicate];first|done|omega)) only [go_sem,q3],by simp (disch:=first|omega|(simp only [lens,z6,zi,z7,zg,z8,zj,zh,zl,lQt,lQd,List.length_replicate];first|done|omega)) only [go_sem,q4],by simp (disch:=first|omega|(simp only [lens,z6,zi,z7,zg,z8,zj,zh,zl,lQt,lQd,List.length_replicate];first|done|omega)) only [go_sem,q6],by simp (disch:=first|omega|(simp only [lens,z6,zi,z7,zg,z8,zj,zh,zl,lQt,lQd,List.length_replicate];first|done|omega)) only [go_sem,q7],by simp (disch:=first|omega|(simp only [lens,z6,zi,z7,zg,z8,zj,zh,zl,lQt,lQd,List.length_replicate];first|done|omega)) only [go_sem,q8],by simp (disch:=first|omega|(simp only [lens,z6,zi,z7,zg,z8,zj,zh,zl,lQt,lQd,List.length_replicate];first|done|omega)) only [go_sem,q9],by simp (disch:=first|omega|(simp only [lens,z6,zi,z7,zg,z8,zj,zh,zl,lQt,lQd,List.length_replicate];first|done|omega)) only [go_sem,q10],by simp (disch:=first|omega|(simp only [lens,z6,zi,z7,zg,z8,zj,zh,zl,lQt,lQd,List.length_replicate];first|done|omega)) only [go_sem,q11]⟩ hQ
 ·repeat' (first|apply zs_|apply zb_|apply zc_|apply zt_ rfl|apply zf_ rfl|(apply zd_ rfl<;>intro ht<;>try omega)|((first|apply zr_|apply zk_|apply ze_|apply zq_|(apply zG<;>intro ht));all_goals try simp (disch:=first|omega|(simp only [lens,z6,zi,z7,zg,z8,zj,zh,zl,lQt,lQd,List.length_replicate];first|done|omega)) only [go_sem,q0,q3,q4,q6,q7,q8,q9,q10,q11,hg,ck,cl,e]))
  exact h34 _ _ ⟨by simp (disch:=first|omega|(simp only [lens,z6,zi,z7,zg,z8,zj,zh,zl,lQt,lQd,List.length_replicate];first|done|omega)) only [go_sem,q0],by simp (disch:=first|omega|(simp only [lens,z6,zi,z7,zg,z8,zj,zh,zl,lQt,lQd,List.length_replicate];first|done|omega)) only [go_sem,q3],by simp (disch:=first|omega|(simp only [lens,z6,zi,z7,zg,z8,zj,zh,zl,lQt,lQd,List.length_replicate];first|done|omega)) only [go_sem,q4],by simp (disch:=first|omega|(simp only [lens,z6,zi,z7,zg,z8,zj,zh,zl,lQt,lQd,List.length_replicate];first|done|omega)) only [go_sem,q6],by simp (disch:=first|omega|(simp only [lens,z6,zi,z7,zg,z8,zj,zh,zl,lQt,lQd,List.length_replicate];first|done|omega)) only [go_sem,q7],by simp (disch:=first|omega|(simp only [lens,z6,zi,z7,zg,z8,zj,zh,zl,lQt,lQd,List.length_replicate];first|done|omega)) only [go_sem,q8],by simp (disch:=first|omega|(simp only [lens,z6,zi,z7,zg,z8,zj,zh,zl,lQt,lQd,List.length_replicate];first|done|omega)) only [go_sem,q9],by simp (disch:=first|omega|(simp only [lens,z6,zi,z7,zg,z8,zj,zh,zl,lQt,lQd,List.length_replicate];first|done|omega)) only [go_sem,q10],by simp (disch:=first|omega|(simp only [lens,z6,zi,z7,zg,z8,zj,zh,zl,lQt,lQd,List.length_replicate];first|done|omega)) only [go_sem,q11]⟩ hQ
 ·repeat' (first|apply zs_|apply zb_|apply zc_|apply zt_ rfl|apply zf_ rfl|(apply zd_ rfl<;>intro ht<;>try omega)|((first|apply zr_|apply zk_|apply ze_|apply zq_|(apply zG<;>intro ht));all_goals try simp (disch:=first|omega|(simp only [lens,z6,zi,z7,zg,z8,zj,zh,zl,lQt,lQd,List.length_replicate];first|done|omega)) only [go_sem,q0,q3,q4,q6,q7,q8,q9,q10,q11,hg,ck,cl,e]))
  exact h34 _ _ ⟨by simp (disch:=first|omega|(simp only [lens,z6,zi,z7,zg,z8,zj,zh,zl,lQt,lQd,List.length_replicate];first|done|omega)) only [go_sem,q0],by simp (disch:=first|omega|(simp only [lens,z6,zi,z7,zg,z8,zj,zh,zl,lQt,lQd,List.length_replicate];first|done|omega)) only [go_sem,q3],by simp (disch:=first|omega|(simp only [lens,z6,zi,z7,zg,z8,zj,zh,zl,lQt,lQd,List.length_replicate];first|done|omega)) only [go_sem,q4],by simp (disch:=first|omega|(simp only [lens,z6,zi,z7,zg,z8,zj,zh,zl,lQt,lQd,List.length_replicate];first|done|omega)) only [go_sem,q6],by simp (disch:=first|omega|(simp only [lens,z6,zi,z7,zg,z8,zj,zh,zl,lQt,lQd,List.length_replicate];first|done|omega)) only [go_sem,q7],by simp (disch:=first|omega|(simp only [lens,z6,zi,z7,zg,z8,zj,zh,zl,lQt,lQd,List.length_replicate];first|done|omega)) only [go_sem,q8],by simp (disch:=first|omega|(simp only [lens,z6,zi,z7,zg,z8,zj,zh,zl,lQt,lQd,List.length_replicate];first|done|omega)) only [go_sem,q9],by simp (disch:=first|omega|(simp only [lens,z6,zi,z7,zg,z8,zj,zh,zl,lQt,lQd,List.length_replicate];first|done|omega)) only [go_sem,q10],by simp (disch:=first|omega|(simp only [lens,z6,zi,z7,zg,z8,zj,zh,zl,lQt,lQd,List.length_replicate];first|done|omega)) only [go_sem,q11]⟩ hQ
 ·repeat' (first|apply zs_|apply zb_|apply zc_|apply zt_ rfl|apply zf_ rfl|(apply zd_ rfl<;>intro ht<;>try omega)|((first|apply zr_|apply zk_|apply ze_|apply zq_|(apply zG<;>intro ht));all_goals try simp (disch:=first|omega|(simp only [lens,z6,zi,z7,zg,z8,zj,zh,zl,lQt,lQd,List.length_replicate];first|done|omega)) only [go_sem,q0,q3,q4,q6,q7,q8,q9,q10,q11,hg,ck,cl,e]))
  exact h36 _ _ ⟨by simp (disch:=first|omega|(simp only [lens,z6,zi,z7,zg,z8,zj,zh,zl,lQt,lQd,List.length_replicate];first|done|omega)) only [go_sem,q0],by simp (disch:=first|omega|(simp only [lens,z6,zi,z7,zg,z8,zj,zh,zl,lQt,lQd,List.length_replicate];first|done|omega)) only [go_sem,q3],by simp (disch:=first|omega|(simp only [lens,z6,zi,z7,zg,z8,zj,zh,zl,lQt,lQd,List.length_replicate];first|done|omega)) only [go_sem,q4],by simp (disch:=first|omega|(simp only [lens,z6,zi,z7,zg,z8,zj,zh,zl,lQt,lQd,List.length_replicate];first|done|omega)) only [go_sem,q6],by simp (disch:=first|omega|(simp only [lens,z6,zi,z7,zg,z8,zj,zh,zl,lQt,lQd,List.length_replicate];first|done|omega)) only [go_sem,q7],by simp (disch:=first|omega|(simp only [lens,z6,zi,z7,zg,z8,zj,zh,zl,lQt,lQd,List.length_replicate];first|done|omega)) only [go_sem,q8],by simp (disch:=first|omega|(simp only [lens,z6,zi,z7,zg,z8,zj,zh,zl,lQt,lQd,List.length_replicate];first|done|omega)) only [go_sem,q9],by simp (disch:=first|omega|(simp only [lens,z6,zi,z7,zg,z8,zj,zh,zl,lQt,lQd,List.length_replicate];first|done|omega)) only [go_sem,q10],by simp (disch:=first|omega|(simp only [lens,z6,zi,z7,zg,z8,zj,zh,zl,lQt,lQd,List.length_replicate];first|done|omega)) only [go_sem,q11]⟩ hQ
 ·repeat' (first|apply zs_|apply zb_|apply zc_|apply zt_ rfl|apply zf_ rfl|(apply zd_ rfl<;>intro ht<;>try omega)|((first|apply zr_|apply zk_|apply ze_|apply zq_|(apply zG<;>intro ht));all_goals try simp (disch:=first|omega|(simp only [lens,z6,zi,z7,zg,z8,zj,zh,zl,lQt,lQd,List.length_replicate];first|done|omega)) only [go_sem,q0,q3,q4,q6,q7,q8,q9,q10,q11,hg,ck,cl,e]))
  exact h38 _ _ ⟨by simp (disch:=first|omega|(simp only [lens,z6,zi,z7,zg,z8,zj,zh,zl,lQt,lQd,List.length_replicate];first|done|omega)) only [go_sem,q0],by simp (disch:=first|omega|(simp only [lens,z6,zi,z7,zg,z8,zj,zh,zl,lQt,lQd,List.length_replicate];first|done|omega)) only [go_sem,q3],by simp (disch:=first|omega|(simp only [lens,z6,zi,z7,zg,z8,zj,zh,zl,lQt,lQd,List.length_replicate];first|done|omega)) only [go_sem,q4],by simp (disch:=first|omega|(simp only [lens,z6,zi,z7,zg,z8,zj,zh,zl,lQt,lQd,List.length_replicate];first|done|omega)) only [go_sem,q6],by simp (disch:=first|omega|(simp only [lens,z6,zi,z7,zg,z8,zj,zh,zl,lQt,lQd,List.length_replicate];first|done|omega)) only [go_sem,q7],by simp (disch:=first|omega|(simp only [lens,z6,zi,z7,zg,z8,zj,zh,zl,lQt,lQd,List.length_replicate];first|done|omega)) only [go_sem,q8],by simp (disch:=first|omega|(simp only [lens,z6,zi,z7,zg,z8,zj,zh,zl,lQt,lQd,List.length_replicate];first|done|omega)) only [go_sem,q9],by simp (disch:=first|omega|(simp only [lens,z6,zi,z7,zg,z8,zj,zh,zl,lQt,lQd,List.length_replicate];first|done|omega)) only [go_sem,q10],by simp (disch:=first|omega|(simp only [lens,z6,zi,z7,zg,z8,zj,zh,zl,lQt,lQd,List.length_replicate];first|done|omega)) only [go_sem,q11]⟩ hQ
 ·repeat' (first|apply zs_|apply zb_|apply zc_|apply zt_ rfl|apply zf_ rfl|(apply zd_ rfl<;>intro ht<;>try omega)|((first|apply zr_|apply zk_|apply ze_|apply zq_|(apply zG<;>intro ht));all_goals try simp (disch:=first|omega|(simp only [lens,z6,zi,z7,zg,z8,zj,zh,zl,lQt,lQd,List.length_replicate];first|done|omega)) only [go_sem,q0,q3,q4,q6,q7,q8,q9,q10,q11,hg,ck,cl,e]))
  exact h40 _ _ ⟨by simp (disch:=first|omega|(simp only [lens,z6,zi,z7,zg,z8,zj,zh,zl,lQt,lQd,List.length_replicate];first|done|omega)) only [go_sem,q0],by simp (disch:=first|omega|(simp only [lens,z6,zi,z7,zg,z8,zj,zh,zl,lQt,lQd,List.length_replicate];first|done|omega)) only [go_sem,q3],by simp (disch:=first|omega|(simp only [lens,z6,zi,z7,zg,z8,zj,zh,zl,lQt,lQd,List.length_replicate];first|done|omega)) only [go_sem,q4],by simp (disch:=first|omega|(simp only [lens,z6,zi,z7,zg,z8,zj,zh,zl,lQt,lQd,List.length_replicate];first|done|omega)) only [go_sem,q6],by simp (disch:=first|omega|(simp only [lens,z6,zi,z7,zg,z8,zj,zh,zl,lQt,lQd,List.length_replicate];first|done|omega)) only [go_sem,q7],by simp (disch:=first|omega|(simp only [lens,z6,zi,z7,zg,z8,zj,zh,zl,lQt,lQd,List.length_replicate];first|done|omega)) only [go_sem,q8],by simp (disch:=first|omega|(simp only [lens,z6,zi,z7,zg,z8,zj,zh,zl,lQt,lQd,List.length_replicate];first|done|omega)) only [go_sem,q9],by simp (disch:=first|omega|(simp only [lens,z6,zi,z7,zg,z8,zj,zh,zl,lQt,lQd,List.length_replicate];first|done|omega)) only [go_sem,q10],by simp (disch:=first|omega|(simp only [lens,z6,zi,z7,zg,z8,zj,zh,zl,lQt,lQd,List.length_replicate];first|done|omega)) only [go_sem,q11]⟩ hQ
 ·repeat' (first|apply zs_|apply zb_|apply zc_|apply zt_ rfl|apply zf_ rfl|(apply zd_ rfl<;>intro ht<;>try omega)|((first|apply zr_|apply zk_|apply ze_|apply zq_|(apply zG<;>intro ht));all_goals try simp (disch:=first|omega|(simp only [lens,z6,zi,z7,zg,z8,zj,zh,zl,lQt,lQd,List.length_replicate];first|done|omega)) only [go_sem,q0,q3,q4,q6,q7,q8,q9,q10,q11,hg,ck,cl,e]))
  exact hQ _ _ _ _ _ _ _ hS hG (PLe.refl _) (Kp.refl _ _ _) ⟨by simp (disch:=first|omega|(simp only [lens,z6,zi,z7,zg,z8,zj,zh,zl,lQt,lQd,List.length_replicate];first|done|omega)) only [go_sem,q0],by simp (disch:=first|omega|(simp only [lens,z6,zi,z7,zg,z8,zj,zh,zl,lQt,lQd,List.length_replicate];first|done|omega)) only [go_sem,q3],by simp (disch:=first|omega|(simp only [lens,z6,zi,z7,zg,z8,zj,zh,zl,lQt,lQd,List.length_replicate];first|done|omega)) only [go_sem,q4],by simp (disch:=first|omega|(simp only [lens,z6,zi,z7,zg,z8,zj,zh,zl,lQt,lQd,List.length_replicate];first|done|omega)) only [go_sem,q6],by simp (disch:=first|omega|(simp only [lens,z6,zi,z7,zg,z8,zj,zh,zl,lQt,lQd,List.length_replicate];first|done|omega)) only [go_sem,q7],by simp (disch:=first|omega|(simp only [lens,z6,zi,z7,zg,z8,zj,zh,zl,lQt,lQd,List.length_replicate];first|done|omega)) only [go_sem,q8],by simp (disch:=first|omega|(simp only [lens,z6,zi,z7,zg,z8,zj,zh,zl,lQt,lQd,List.length_replicate];first|done|omega)) only [go_sem,q9],by simp (disch:=first|omega|(simp only [lens,z6,zi,z7,zg,z8,zj,zh,zl,lQt,lQd,List.length_replicate];first|done|omega)) only [go_sem,q10],by simp (disch:=first|omega|(simp only [lens,z6,zi,z7,zg,z8,zj,zh,zl,lQt,lQd,List.length_replicate];first|done|omega)) only [go_sem,q11]⟩
 ·repeat' (first|apply zs_|apply zb_|apply zc_|apply zt_ rfl|apply zf_ rfl|(apply zd_ rfl<;>intro ht<;>try omega)|((first|apply zr_|apply zk_|apply ze_|apply zq_|(apply zG<;>intro ht));all_goals try simp (disch:=first|omega|(simp only [lens,z6,zi,z7,zg,z8,zj,zh,zl,lQt,lQd,List.length_replicate];first|done|omega)) only [go_sem,q0,q3,q4,q6,q7,q8,q9,q10,q11,hg,ck,cl,e]))
  exact hQ _ _ _ _ _ _ _ hS hG (PLe.refl _) (Kp.refl _ _ _) ⟨by simp (disch:=first|omega|(simp only [lens,z6,zi,z7,zg,z8,zj,zh,zl,lQt,lQd,List.length_replicate];first|done|omega)) only [go_sem,q0],by simp (disch:=first|omega|(simp only [lens,z6,zi,z7,zg,z8,zj,zh,zl,lQt,lQd,List.length_replicate];first|done|omega)) only [go_sem,q3],by simp (disch:=first|omega|(simp only [lens,z6,zi,z7,zg,z8,zj,zh,zl,lQt,lQd,List.length_replicate];first|done|omega)) only [go_sem,q4],by simp (disch:=first|omega|(simp only [lens,z6,zi,z7,zg,z8,zj,zh,zl,lQt,lQd,List.length_replicate];first|done|omega)) only [go_sem,q6],by simp (disch:=first|omega|(simp only [lens,z6,zi,z7,zg,z8,zj,zh,zl,lQt,lQd,List.length_replicate];first|done|omega)) only [go_sem,q7],by simp (disch:=first|omega|(simp only [lens,z6,zi,z7,zg,z8,zj,zh,zl,lQt,lQd,List.length_replicate];first|done|omega)) only [go_sem,q8],by simp (disch:=first|omega|(simp only [lens,z6,zi,z7,zg,z8,zj,zh,zl,lQt,lQd,List.length_replicate];first|done|omega)) only [go_sem,q9],by simp (disch:=first|omega|(simp only [lens,z6,zi,z7,zg,z8,zj,zh,zl,lQt,lQd,List.length_replicate];first|done|omega)) only [go_sem,q10],by simp (disch:=first|omega|(simp only [lens,z6,zi,z7,zg,z8,zj,zh,zl,lQt,lQd,List.length_replicate];first|done|omega)) only [go_sem,q11]⟩
end
end
section
def CgW(O:Store)(PS0:List (List Hdr))(W:Nat)(o1 oa:List Nat):Prop:=
 ∃(w:Nat->Nat) (ow:Nat->List Nat),O[W]? =some (some [[.ptr (w 0) 0 0,.ptr (w 1) 0 0,.ptr (w 2) 0 0]])/\ W ∉ o1/\ W ∉ oa/\ ∀j,j<3->PoIs O (w j) (z11 (keyL logC)) (PS0.getD j []) (ow j)/\ ∀y ∈ ow j,y ∉ o1/\ y ∉ oa
theorem CgW.keep{O O':Store}{PS0:List (List Hdr)}{W:Nat}{o1 oa o1' oa':List Nat}(h:CgW O PS0 W o1 oa)(k:Kp O O' o1 oa o1' oa'):CgW O' PS0 W o1' oa':=by
 obtain⟨w,ow,h1,h2,h3,h4⟩:=h
 obtain⟨a,b,c⟩:=k W _ h1 h2 h3
 refine⟨w,ow,a,b,c,fun j hj=> ?_⟩
 obtain⟨p,q⟩:=h4 j hj
 have hk:∀y ∈ ow j,O'[y]? =O[y]?/\ y ∉ o1'/\ y ∉ oa':=fun y hy=>by
  have hl:=p.lt hy
  obtain⟨q1,q2⟩:=q y hy
  have e:=List.getElem?_eq_getElem hl
  obtain⟨r1,r2,r3⟩:=k y _ e q1 q2
  exact⟨by rw [r1,e],r2,r3⟩
 exact⟨p.keep fun y hy=>(hk y hy).1,fun y hy=>(hk y hy).2⟩
theorem CgE.slot{J J':Env}{x:AV}{c pa i B W:Nat}{a b:Int}(h:CgE J x c pa i B W a b)(h0:J' 0=J 0)(h3:J' 3=J 3)(h4:J' 4=J 4)(h6:J' 6=J 6)(h7:J' 7=J 7)(h8:J' 8=J 8)(h9:J' 9=J 9)(h10:J' 10=J 10)(h11:J' 11=J 11):CgE J' x c pa i B W a b:=
 ⟨h0.trans h.q0,h3.trans h.q3,h4.trans h.q4,h6.trans h.q6,h7.trans h.q7,h8.trans h.q8,h9.trans h.q9,h10.trans h.q10,h11.trans h.q11⟩
attribute [local irreducible] ACallsTo ACallsP
section
variable {O:Store} {PS PS0:List (List Hdr)} {M:List MM} {A:List Hdr} {c pa:Nat} {o1 oa:List Nat} {x:AV} {i B W:Nat} {a b:Int} {J:Env} {Q:AExit->Env->Store->Prop}
theorem zps{j p:Nat}{op:List Nat}{P P0:List Hdr}{v v0:AV}(hA:POk (z11 (keyL logC)) A)(hp:PoIs O p (z11 (keyL logC)) P op)(ha:PoIs O pa (z11 (keyL logC)) A oa)(hP:POk (z11 (keyL logC)) P)(hPA:HLe P A)(hP0:HLe P0 P)(h0l:P0.length<=16)(hv:SlV 33 (kn P) v)(hv0:SlV 33 (kn P0) v0)
  (hE:CgE J x c pa i B W a b) (q13:J 13=.int .i64 j) (q14:J 14=.ptr p 0 0) (q15:J 15=v) (q16:J 16=v0)
  (hQ:∀J',CgE J' x c pa i B W a b->J' 13=.int .i64 j->Q .normal J' O):zW TC 204 0 zbx Q J O:=by
 obtain⟨q0,q3,q4,q6,q7,q8,q9,q10,q11⟩:=hE
 have hAl:=hA.len
 have hPl:=hP.len
 have r1:=hv.len
 rw [zh]at r1
 unfold z1k at r1
 have r2:=hv0.len
 rw [zh]at r2
 unfold z1k at r2
 unfold zbx
 repeat' (first|apply zs_|apply zb_|apply zc_|apply zt_ rfl|apply zf_ rfl|(apply zd_ rfl<;>intro ht<;>try omega)|((first|apply zr_|apply zk_|apply ze_|apply zq_|(apply zG<;>intro ht));all_goals try simp (disch:=first|omega|(simp only [lens,z6,zi,z7,zg,z8,zj,zh,zl,lQt,lQd,List.length_replicate];first|done|omega)) only [go_sem,q0,q3,q4,q6,q7,q8,q9,q10,q11,q13,q14,q15,q16]))
 refine zW.loop (fun t J O1=>∃m:Nat,t+m=P.length/\ O1=O/\ CgE J x c pa i B W a b/\ J 13=.int .i64 j/\ J 14=.ptr p 0 0/\ J 15=v/\ J 16=v0/\ J 17=.int .i64 m) P.length ?_ ?_
 ·exact⟨0,by omega,rfl,⟨by simp (disch:=first|omega|(simp only [lens,z6,zi,z7,zg,z8,zj,zh,zl,lQt,lQd,List.length_replicate];first|done|omega)) only [go_sem,q0],by simp (disch:=first|omega|(simp only [lens,z6,zi,z7,zg,z8,zj,zh,zl,lQt,lQd,List.length_replicate];first|done|omega)) only [go_sem,q3],by simp (disch:=first|omega|(simp only [lens,z6,zi,z7,zg,z8,zj,zh,zl,lQt,lQd,List.length_replicate];first|done|omega)) only [go_sem,q4],by simp (disch:=first|omega|(simp only [lens,z6,zi,z7,zg,z8,zj,zh,zl,lQt,lQd,List.length_replicate];first|done|omega)) only [go_sem,q6],by simp (disch:=first|omega|(simp only [lens,z6,zi,z7,zg,z8,zj,zh,zl,lQt,lQd,List.length_replicate];first|done|omega)) only [go_sem,q7],by simp (disch:=first|omega|(simp only [lens,z6,zi,z7,zg,z8,zj,zh,zl,lQt,lQd,List.length_replicate];first|done|omega)) only [go_sem,q8],by simp (disch:=first|omega|(simp only [lens,z6,zi,z7,zg,z8,zj,zh,zl,lQt,lQd,List.length_replicate];first|done|omega)) only [go_sem,q9],by simp (disch:=first|omega|(simp only [lens,z6,zi,z7,zg,z8,zj,zh,zl,lQt,lQd,List.length_replicate];first|done|omega)) only [go_sem,q10],by simp (disch:=first|omega|(simp only [lens,z6,zi,z7,zg,z8,zj,zh,zl,lQt,lQd,List.length_replicate];first|done|omega)) only [go_sem,q11]⟩,by simp (disch:=first|omega|(simp only [lens,z6,zi,z7,zg,z8,zj,zh,zl,lQt,lQd,List.length_replicate];first|done|omega)) only [go_sem,q13],by simp (disch:=first|omega|(simp only [lens,z6,zi,z7,zg,z8,zj,zh,zl,lQt,lQd,List.length_replicate];first|done|omega)) only [go_sem,q14],by simp (disch:=first|omega|(simp only [lens,z6,zi,z7,zg,z8,zj,zh,zl,lQt,lQd,List.length_replicate];first|done|omega)) only [go_sem,q15],by simp (disch:=first|omega|(simp only [lens,z6,zi,z7,zg,z8,zj,zh,zl,lQt,lQd,List.length_replicate];first|done|omega)) only [go_sem,q16],by simp (disch:=first|omega|(simp only [lens,z6,zi,z7,zg,z8,zj,zh,zl,lQt,lQd,List.length_replicate];first|done|omega)) only [go_sem];try rfl⟩
 ·clear q0 q3 q4 q6 q7 q8 q9 q10 q11 q13 q14 q15 q16
  rintro t J O1 ⟨m,ht,hσ,⟨q0,q3,q4,q6,q7,q8,q9,q10,q11⟩,q13,q14,q15,q16,q17⟩
  subst O1
  by_cases hm:m<P.length
  ·obtain⟨ex,rfl⟩:=hv.vsl (by rw [zh];omega)
   have ga:=ze3 hm
   have sl:=zh P
   have hm':(m:Int)<P.length:=by omega
   have hH:=ha.has hA.sort (by omega) P[m].n P[m].r
   rw [(z6k hA.sort _ _).2 (hPA _ _ ⟨P[m],List.getElem_mem hm,rfl,rfl⟩)]at hH
   have lr:=z6 P[m].r
   generalize P[m]=u at*
   repeat' (first|apply zs_|apply zb_|apply zc_|apply zt_ rfl|apply zf_ rfl|(apply zd_ rfl<;>intro ht<;>try omega)|((first|apply zr_|apply zk_|apply ze_|apply zq_|(apply callW.mk_pu;(first|exact(fun _=>hH)))|(apply callW.za;(first|exact(hH)))|(apply zG<;>intro ht));all_goals try simp (disch:=first|omega|(simp only [lens,z6,zi,z7,zg,z8,zj,zh,zl,lQt,lQd,List.length_replicate];first|done|omega)) only [go_sem,q0,q3,q4,q6,q7,q8,q9,q10,q11,q13,q14,q15,q16,q17,ga,sl,lr,hm']))
   exact⟨t-1,by omega,m+1,by omega,⟨by simp (disch:=first|omega|(simp only [lens,z6,zi,z7,zg,z8,zj,zh,zl,lQt,lQd,List.length_replicate];first|done|omega)) only [go_sem,q0],by simp (disch:=first|omega|(simp only [lens,z6,zi,z7,zg,z8,zj,zh,zl,lQt,lQd,List.length_replicate];first|done|omega)) only [go_sem,q3],by simp (disch:=first|omega|(simp only [lens,z6,zi,z7,zg,z8,zj,zh,zl,lQt,lQd,List.length_replicate];first|done|omega)) only [go_sem,q4],by simp (disch:=first|omega|(simp only [lens,z6,zi,z7,zg,z8,zj,zh,zl,lQt,lQd,List.length_replicate];first|done|omega)) only [go_sem,q6],by simp (disch:=first|omega|(simp only [lens,z6,zi,z7,zg,z8,zj,zh,zl,lQt,lQd,List.length_replicate];first|done|omega)) only [go_sem,q7],by simp (disch:=first|omega|(simp only [lens,z6,zi,z7,zg,z8,zj,zh,zl,lQt,lQd,List.length_replicate];first|done|omega)) only [go_sem,q8],by simp (disch:=first|omega|(simp only [lens,z6,zi,z7,zg,z8,zj,zh,zl,lQt,lQd,List.length_replicate];first|done|omega)) only [go_sem,q9],by simp (disch:=first|omega|(simp only [lens,z6,zi,z7,zg,z8,zj,zh,zl,lQt,lQd,List.length_replicate];first|done|omega)) only [go_sem,q10],by simp (disch:=first|omega|(simp only [lens,z6,zi,z7,zg,z8,zj,zh,zl,lQt,lQd,List.length_replicate];first|done|omega)) only [go_sem,q11]⟩,by simp⟩
  ·have hm':¬(m:Int)<P.length:=by omega
   repeat' (first|apply zs_|apply zb_|apply zc_|apply zt_ rfl|apply zf_ rfl|(apply zd_ rfl<;>intro ht<;>try omega)|((first|apply zr_|apply zk_|apply ze_|apply zq_|(apply zG<;>intro ht));all_goals try simp (disch:=first|omega|(simp only [lens,z6,zi,z7,zg,z8,zj,zh,zl,lQt,lQd,List.length_replicate];first|done|omega)) only [go_sem,q0,q3,q4,q6,q7,q8,q9,q10,q11,q13,q14,q15,q16,q17,r1,hm']))
   refine zW.loop (fun t J O1=>∃m:Nat,t+m=P0.length/\ O1=O/\ CgE J x c pa i B W a b/\ J 13=.int .i64 j/\ J 14=.ptr p 0 0/\ J 16=v0/\ J 18=.int .i64 m) P0.length ?_ ?_
   ·exact⟨0,by omega,rfl,⟨by simp (disch:=first|omega|(simp only [lens,z6,zi,z7,zg,z8,zj,zh,zl,lQt,lQd,List.length_replicate];first|done|omega)) only [go_sem,q0],by simp (disch:=first|omega|(simp only [lens,z6,zi,z7,zg,z8,zj,zh,zl,lQt,lQd,List.length_replicate];first|done|omega)) only [go_sem,q3],by simp (disch:=first|omega|(simp only [lens,z6,zi,z7,zg,z8,zj,zh,zl,lQt,lQd,List.length_replicate];first|done|omega)) only [go_sem,q4],by simp (disch:=first|omega|(simp only [lens,z6,zi,z7,zg,z8,zj,zh,zl,lQt,lQd,List.length_replicate];first|done|omega)) only [go_sem,q6],by simp (disch:=first|omega|(simp only [lens,z6,zi,z7,zg,z8,zj,zh,zl,lQt,lQd,List.length_replicate];first|done|omega)) only [go_sem,q7],by simp (disch:=first|omega|(simp only [lens,z6,zi,z7,zg,z8,zj,zh,zl,lQt,lQd,List.length_replicate];first|done|omega)) only [go_sem,q8],by simp (disch:=first|omega|(simp only [lens,z6,zi,z7,zg,z8,zj,zh,zl,lQt,lQd,List.length_replicate];first|done|omega)) only [go_sem,q9],by simp (disch:=first|omega|(simp only [lens,z6,zi,z7,zg,z8,zj,zh,zl,lQt,lQd,List.length_replicate];first|done|omega)) only [go_sem,q10],by simp (disch:=first|omega|(simp only [lens,z6,zi,z7,zg,z8,zj,zh,zl,lQt,lQd,List.length_replicate];first|done|omega)) only [go_sem,q11]⟩,by simp (disch:=first|omega|(simp only [lens,z6,zi,z7,zg,z8,zj,zh,zl,lQt,lQd,List.length_replicate];first|done|omega)) only [go_sem,q13],by simp (disch:=first|omega|(simp only [lens,z6,zi,z7,zg,z8,zj,zh,zl,lQt,lQd,List.length_replicate];first|done|omega)) only [go_sem,q14],by simp (disch:=first|omega|(simp only [lens,z6,zi,z7,zg,z8,zj,zh,zl,lQt,lQd,List.length_replicate];first|done|omega)) only [go_sem,q16],by simp (disch:=first|omega|(simp only [lens,z6,zi,z7,zg,z8,zj,zh,zl,lQt,lQd,List.length_replicate];first|done|omega)) only [go_sem];try rfl⟩
   ·clear q0 q3 q4 q6 q7 q8 q9 q10 q11 q13 q14 q15 q16 q17 hm hm'
    rintro t J O1 ⟨m,ht,hσ,⟨q0,q3,q4,q6,q7,q8,q9,q10,q11⟩,q13,q14,q16,q18⟩
    subst O1
    by_cases hm:m<P0.length
    ·obtain⟨ex,rfl⟩:=hv0.vsl (by rw [zh];omega)
     have ga:=ze3 hm
     have sl:=zh P0
     have hm':(m:Int)<P0.length:=by omega
     have hH:=hp.has hP.sort (by omega) P0[m].n P0[m].r
     rw [(z6k hP.sort _ _).2 (hP0 _ _ ⟨P0[m],List.getElem_mem hm,rfl,rfl⟩)]at hH
     have lr:=z6 P0[m].r
     generalize P0[m]=u at*
     repeat' (first|apply zs_|apply zb_|apply zc_|apply zt_ rfl|apply zf_ rfl|(apply zd_ rfl<;>intro ht<;>try omega)|((first|apply zr_|apply zk_|apply ze_|apply zq_|(apply callW.mk_pu;(first|exact(fun _=>hH)))|(apply callW.za;(first|exact(hH)))|(apply zG<;>intro ht));all_goals try simp (disch:=first|omega|(simp only [lens,z6,zi,z7,zg,z8,zj,zh,zl,lQt,lQd,List.length_replicate];first|done|omega)) only [go_sem,q0,q3,q4,q6,q7,q8,q9,q10,q11,q13,q14,q16,q18,ga,sl,lr,hm']))
     exact⟨t-1,by omega,m+1,by omega,⟨by simp (disch:=first|omega|(simp only [lens,z6,zi,z7,zg,z8,zj,zh,zl,lQt,lQd,List.length_replicate];first|done|omega)) only [go_sem,q0],by simp (disch:=first|omega|(simp only [lens,z6,zi,z7,zg,z8,zj,zh,zl,lQt,lQd,List.length_replicate];first|done|omega)) only [go_sem,q3],by simp (disch:=first|omega|(simp only [lens,z6,zi,z7,zg,z8,zj,zh,zl,lQt,lQd,List.length_replicate];first|done|omega)) only [go_sem,q4],by simp (disch:=first|omega|(simp only [lens,z6,zi,z7,zg,z8,zj,zh,zl,lQt,lQd,List.length_replicate];first|done|omega)) only [go_sem,q6],by simp (disch:=first|omega|(simp only [lens,z6,zi,z7,zg,z8,zj,zh,zl,lQt,lQd,List.length_replicate];first|done|omega)) only [go_sem,q7],by simp (disch:=first|omega|(simp only [lens,z6,zi,z7,zg,z8,zj,zh,zl,lQt,lQd,List.length_replicate];first|done|omega)) only [go_sem,q8],by simp (disch:=first|omega|(simp only [lens,z6,zi,z7,zg,z8,zj,zh,zl,lQt,lQd,List.length_replicate];first|done|omega)) only [go_sem,q9],by simp (disch:=first|omega|(simp only [lens,z6,zi,z7,zg,z8,zj,zh,zl,lQt,lQd,List.length_replicate];first|done|omega)) only [go_sem,q10],by simp (disch:=first|omega|(simp only [lens,z6,zi,z7,zg,z8,zj,zh,zl,lQt,lQd,List.length_replicate];first|done|omega)) only [go_sem,q11]⟩,by simp⟩
    ·have hm':¬(m:Int)<P0.length:=by omega
     repeat' (first|apply zs_|apply zb_|apply zc_|apply zt_ rfl|apply zf_ rfl|(apply zd_ rfl<;>intro ht<;>try omega)|((first|apply zr_|apply zk_|apply ze_|apply zq_|(apply zG<;>intro ht));all_goals try simp (disch:=first|omega|(simp only [lens,z6,zi,z7,zg,z8,zj,zh,zl,lQt,lQd,List.length_replicate];first|done|omega)) only [go_sem,q0,q3,q4,q6,q7,q8,q9,q10,q11,q13,q14,q16,q18,r2,hm']))
     exact hQ _ ⟨by simp (disch:=first|omega|(simp only [lens,z6,zi,z7,zg,z8,zj,zh,zl,lQt,lQd,List.length_replicate];first|done|omega)) only [go_sem,q0],by simp (disch:=first|omega|(simp only [lens,z6,zi,z7,zg,z8,zj,zh,zl,lQt,lQd,List.length_replicate];first|done|omega)) only [go_sem,q3],by simp (disch:=first|omega|(simp only [lens,z6,zi,z7,zg,z8,zj,zh,zl,lQt,lQd,List.length_replicate];first|done|omega)) only [go_sem,q4],by simp (disch:=first|omega|(simp only [lens,z6,zi,z7,zg,z8,zj,zh,zl,lQt,lQd,List.length_replicate];first|done|omega)) only [go_sem,q6],by simp (disch:=first|omega|(simp only [lens,z6,zi,z7,zg,z8,zj,zh,zl,lQt,lQd,List.length_replicate];first|done|omega)) only [go_sem,q7],by simp (disch:=first|omega|(simp only [lens,z6,zi,z7,zg,z8,zj,zh,zl,lQt,lQd,List.length_replicate];first|done|omega)) only [go_sem,q8],by simp (disch:=first|omega|(simp only [lens,z6,zi,z7,zg,z8,zj,zh,zl,lQt,lQd,List.length_replicate];first|done|omega)) only [go_sem,q9],by simp (disch:=first|omega|(simp only [lens,z6,zi,z7,zg,z8,zj,zh,zl,lQt,lQd,List.length_replicate];first|done|omega)) only [go_sem,q10],by simp (disch:=first|omega|(simp only [lens,z6,zi,z7,zg,z8,zj,zh,zl,lQt,lQd,List.length_replicate];first|done|omega)) only [go_sem,q11]⟩ (by simp (disch:=first|omega|(simp only [lens,z6,zi,z7,zg,z8,zj,zh,zl,lQt,lQd,List.length_replicate];first|done|omega)) only [go_sem,q13])
attribute [local irreducible] zbx
theorem zpm(hS:CaS O PS M A c pa o1 oa)(hG:GI (z11 (keyL logC)) PS M A)(hW:CgW O PS0 W o1 oa)(h0:∀j,j<3->(PS0.getD j []).length<=16)(hL:PLe PS0 PS)(hE:CgE J x c pa i B W a b)
  (hQ:∀J' O',CaS O' PS M A c pa o1 oa->CgE J' x c pa i B W a b->Q .normal J' O'):zW TC 204 0 zby Q J O:=by
 obtain⟨q0,q3,q4,q6,q7,q8,q9,q10,q11⟩:=hE
 unfold zby
 repeat' (first|apply zs_|apply zb_|apply zc_|apply zt_ rfl|apply zf_ rfl|(apply zd_ rfl<;>intro ht<;>try omega)|((first|apply zr_|apply zk_|apply ze_|apply zq_|(apply zG<;>intro ht));all_goals try simp (disch:=first|omega|(simp only [lens,z6,zi,z7,zg,z8,zj,zh,zl,lQt,lQd,List.length_replicate];first|done|omega)) only [go_sem,q0,q3,q4,q6,q7,q8,q9,q10,q11]))
 refine zW.loop (fun t J O'=>∃j:Nat,t+j=3/\ CaS O' PS M A c pa o1 oa/\ CgW O' PS0 W o1 oa/\ CgE J x c pa i B W a b/\ J 13=.int .i64 j) 3 ?_ ?_
 ·exact⟨0,by omega,hS,hW,⟨by simp (disch:=first|omega|(simp only [lens,z6,zi,z7,zg,z8,zj,zh,zl,lQt,lQd,List.length_replicate];first|done|omega)) only [go_sem,q0],by simp (disch:=first|omega|(simp only [lens,z6,zi,z7,zg,z8,zj,zh,zl,lQt,lQd,List.length_replicate];first|done|omega)) only [go_sem,q3],by simp (disch:=first|omega|(simp only [lens,z6,zi,z7,zg,z8,zj,zh,zl,lQt,lQd,List.length_replicate];first|done|omega)) only [go_sem,q4],by simp (disch:=first|omega|(simp only [lens,z6,zi,z7,zg,z8,zj,zh,zl,lQt,lQd,List.length_replicate];first|done|omega)) only [go_sem,q6],by simp (disch:=first|omega|(simp only [lens,z6,zi,z7,zg,z8,zj,zh,zl,lQt,lQd,List.length_replicate];first|done|omega)) only [go_sem,q7],by simp (disch:=first|omega|(simp only [lens,z6,zi,z7,zg,z8,zj,zh,zl,lQt,lQd,List.length_replicate];first|done|omega)) only [go_sem,q8],by simp (disch:=first|omega|(simp only [lens,z6,zi,z7,zg,z8,zj,zh,zl,lQt,lQd,List.length_replicate];first|done|omega)) only [go_sem,q9],by simp (disch:=first|omega|(simp only [lens,z6,zi,z7,zg,z8,zj,zh,zl,lQt,lQd,List.length_replicate];first|done|omega)) only [go_sem,q10],by simp (disch:=first|omega|(simp only [lens,z6,zi,z7,zg,z8,zj,zh,zl,lQt,lQd,List.length_replicate];first|done|omega)) only [go_sem,q11]⟩,by simp (disch:=first|omega|(simp only [lens,z6,zi,z7,zg,z8,zj,zh,zl,lQt,lQd,List.length_replicate];first|done|omega)) only [go_sem];try rfl⟩
 ·clear q0 q3 q4 q6 q7 q8 q9 q10 q11 hS hW
  rintro t J O' ⟨j,ht,hS,hW,⟨q0,q3,q4,q6,q7,q8,q9,q10,q11⟩,q13⟩
  by_cases hj:j<3
  ·have hj':(j:Int)<3:=by omega
   have hjp:j<PS.length:=by rw [hG.n];exact hj
   have hP:=hG.ok j hjp
   have hPA:=hG.le j hj
   have hP0:=hL j
   have h0l:=h0 j hj
   have hCp:=z6g hS.c hG.ok j hjp
   generalize PS.getD j []=P at*
   repeat' (first|apply zs_|apply zb_|apply zc_|apply zt_ rfl|apply zf_ rfl|(apply zd_ rfl<;>intro ht<;>try omega)|((first|apply zr_|apply zk_|apply ze_|apply zq_|(apply zG<;>intro ht));all_goals try simp (disch:=first|omega|(simp only [lens,z6,zi,z7,zg,z8,zj,zh,zl,lQt,lQd,List.length_replicate];first|done|omega)) only [go_sem,q0,q3,q4,q6,q7,q8,q9,q10,q11,q13,hj']))
   refine callW.mkP (caps:=[]) hCp (PoCopyP.is _ _ _) ?_
   rintro vv O2 ⟨p,op,rfl,hE,hPo,hop⟩
   have S2:=hS.ext hE
   have W2:=hW.keep (Kp.ext hE)
   have W3:=W2
   obtain⟨w,ow,w1,w2,w3,w4⟩:=W3
   obtain⟨w5,_⟩:=w4 j hj
   have hPl:=hP.len
   have hK:=z9m O2 p _ P op hPo (by omega)
   have hK0:=z9m O2 (w j) _ _ _ w5 (by omega)
   have hv:=z1y 33 (kn P)
   have hv0:=z1y 33 (kn (PS0.getD j []))
   generalize PS0.getD j []=P0 at*
   generalize zz 33 (kn P)=v at*
   generalize zz 33 (kn P0)=v0 at*
   have hlk:=fun J' Q hE q13 q14 q15 q16 hQ=>zps (J:=J') (Q:=Q) (x:=x) (c:=c) (i:=i) (B:=B) (W:=W) (a:=a) (b:=b) (j:=j) hG.a hPo S2.p hP hPA hP0 h0l hv hv0 hE q13 q14 q15 q16 hQ
   have hwj:([.ptr (w 0) 0 0,.ptr (w 1) 0 0,.ptr (w 2) 0 0]:List AV)[j]? =some (.ptr (w j) 0 0):=by
    match j,hj with
    | 0,_=>rfl
    | 1,_=>rfl
    | 2,_=>rfl
   simp (disch:=first|omega|(simp only [lens,z6,zi,z7,zg,z8,zj,zh,zl,lQt,lQd,List.length_replicate];first|done|omega)) only [go_sem,q0,q3,q4,q6,q7,q8,q9,q10,q11,q13]
   repeat' (first|apply zs_|apply zb_|apply zc_|apply zt_ rfl|apply zf_ rfl|(apply zd_ rfl<;>intro ht<;>try omega)|((first|apply zr_|apply zk_|apply ze_|apply zq_|(apply callW.mk_pu;(first|exact(fun _=>hK)|exact(fun _=>hK0)))|(apply callW.za;(first|exact(hK)|exact(hK0)))|(apply zG<;>intro ht));all_goals try simp (disch:=first|omega|(simp only [lens,z6,zi,z7,zg,z8,zj,zh,zl,lQt,lQd,List.length_replicate];first|done|omega)) only [go_sem,q0,q3,q4,q6,q7,q8,q9,q10,q11,q13,w1,hwj,hj']))
   refine hlk _ _ ⟨by simp (disch:=first|omega|(simp only [lens,z6,zi,z7,zg,z8,zj,zh,zl,lQt,lQd,List.length_replicate];first|done|omega)) only [go_sem,q0],by simp (disch:=first|omega|(simp only [lens,z6,zi,z7,zg,z8,zj,zh,zl,lQt,lQd,List.length_replicate];first|done|omega)) only [go_sem,q3],by simp (disch:=first|omega|(simp only [lens,z6,zi,z7,zg,z8,zj,zh,zl,lQt,lQd,List.length_replicate];first|done|omega)) only [go_sem,q4],by simp (disch:=first|omega|(simp only [lens,z6,zi,z7,zg,z8,zj,zh,zl,lQt,lQd,List.length_replicate];first|done|omega)) only [go_sem,q6],by simp (disch:=first|omega|(simp only [lens,z6,zi,z7,zg,z8,zj,zh,zl,lQt,lQd,List.length_replicate];first|done|omega)) only [go_sem,q7],by simp (disch:=first|omega|(simp only [lens,z6,zi,z7,zg,z8,zj,zh,zl,lQt,lQd,List.length_replicate];first|done|omega)) only [go_sem,q8],by simp (disch:=first|omega|(simp only [lens,z6,zi,z7,zg,z8,zj,zh,zl,lQt,lQd,List.length_replicate];first|done|omega)) only [go_sem,q9],by simp (disch:=first|omega|(simp only [lens,z6,zi,z7,zg,z8,zj,zh,zl,lQt,lQd,List.length_replicate];first|done|omega)) only [go_sem,q10],by simp (disch:=first|omega|(simp only [lens,z6,zi,z7,zg,z8,zj,zh,zl,lQt,lQd,List.length_replicate];first|done|omega)) only [go_sem,q11]⟩ (by simp (disch:=first|omega|(simp only [lens,z6,zi,z7,zg,z8,zj,zh,zl,lQt,lQd,List.length_replicate];first|done|omega)) only [go_sem,q13]) (by simp (disch:=first|omega|(simp only [lens,z6,zi,z7,zg,z8,zj,zh,zl,lQt,lQd,List.length_replicate];first|done|omega)) only [go_sem]) (by simp (disch:=first|omega|(simp only [lens,z6,zi,z7,zg,z8,zj,zh,zl,lQt,lQd,List.length_replicate];first|done|omega)) only [go_sem]) (by simp (disch:=first|omega|(simp only [lens,z6,zi,z7,zg,z8,zj,zh,zl,lQt,lQd,List.length_replicate];first|done|omega)) only [go_sem]) ?_
   intro J2 ⟨q0,q3,q4,q6,q7,q8,q9,q10,q11⟩ q13
   show zW TC 204 0 _ _ _ _
   repeat' (first|apply zs_|apply zb_|apply zc_|apply zt_ rfl|apply zf_ rfl|(apply zd_ rfl<;>intro ht<;>try omega)|((first|apply zr_|apply zk_|apply ze_|apply zq_|(apply zG<;>intro ht));all_goals try simp (disch:=first|omega|(simp only [lens,z6,zi,z7,zg,z8,zj,zh,zl,lQt,lQd,List.length_replicate];first|done|omega)) only [go_sem,q0,q3,q4,q6,q7,q8,q9,q10,q11,q13]))
   exact⟨t-1,by omega,j+1,by omega,S2,W2,⟨by simp (disch:=first|omega|(simp only [lens,z6,zi,z7,zg,z8,zj,zh,zl,lQt,lQd,List.length_replicate];first|done|omega)) only [go_sem,q0],by simp (disch:=first|omega|(simp only [lens,z6,zi,z7,zg,z8,zj,zh,zl,lQt,lQd,List.length_replicate];first|done|omega)) only [go_sem,q3],by simp (disch:=first|omega|(simp only [lens,z6,zi,z7,zg,z8,zj,zh,zl,lQt,lQd,List.length_replicate];first|done|omega)) only [go_sem,q4],by simp (disch:=first|omega|(simp only [lens,z6,zi,z7,zg,z8,zj,zh,zl,lQt,lQd,List.length_replicate];first|done|omega)) only [go_sem,q6],by simp (disch:=first|omega|(simp only [lens,z6,zi,z7,zg,z8,zj,zh,zl,lQt,lQd,List.length_replicate];first|done|omega)) only [go_sem,q7],by simp (disch:=first|omega|(simp only [lens,z6,zi,z7,zg,z8,zj,zh,zl,lQt,lQd,List.length_replicate];first|done|omega)) only [go_sem,q8],by simp (disch:=first|omega|(simp only [lens,z6,zi,z7,zg,z8,zj,zh,zl,lQt,lQd,List.length_replicate];first|done|omega)) only [go_sem,q9],by simp (disch:=first|omega|(simp only [lens,z6,zi,z7,zg,z8,zj,zh,zl,lQt,lQd,List.length_replicate];first|done|omega)) only [go_sem,q10],by simp (disch:=first|omega|(simp only [lens,z6,zi,z7,zg,z8,zj,zh,zl,lQt,lQd,List.length_replicate];first|done|omega)) only [go_sem,q11]⟩,by simp⟩
  ·have hj':¬(j:Int)<3:=by omega
   repeat' (first|apply zs_|apply zb_|apply zc_|apply zt_ rfl|apply zf_ rfl|(apply zd_ rfl<;>intro ht<;>try omega)|((first|apply zr_|apply zk_|apply ze_|apply zq_|(apply zG<;>intro ht));all_goals try simp (disch:=first|omega|(simp only [lens,z6,zi,z7,zg,z8,zj,zh,zl,lQt,lQd,List.length_replicate];first|done|omega)) only [go_sem,q0,q3,q4,q6,q7,q8,q9,q10,q11,q13,hj']))
   exact hQ _ _ hS ⟨by simp (disch:=first|omega|(simp only [lens,z6,zi,z7,zg,z8,zj,zh,zl,lQt,lQd,List.length_replicate];first|done|omega)) only [go_sem,q0],by simp (disch:=first|omega|(simp only [lens,z6,zi,z7,zg,z8,zj,zh,zl,lQt,lQd,List.length_replicate];first|done|omega)) only [go_sem,q3],by simp (disch:=first|omega|(simp only [lens,z6,zi,z7,zg,z8,zj,zh,zl,lQt,lQd,List.length_replicate];first|done|omega)) only [go_sem,q4],by simp (disch:=first|omega|(simp only [lens,z6,zi,z7,zg,z8,zj,zh,zl,lQt,lQd,List.length_replicate];first|done|omega)) only [go_sem,q6],by simp (disch:=first|omega|(simp only [lens,z6,zi,z7,zg,z8,zj,zh,zl,lQt,lQd,List.length_replicate];first|done|omega)) only [go_sem,q7],by simp (disch:=first|omega|(simp only [lens,z6,zi,z7,zg,z8,zj,zh,zl,lQt,lQd,List.length_replicate];first|done|omega)) only [go_sem,q8],by simp (disch:=first|omega|(simp only [lens,z6,zi,z7,zg,z8,zj,zh,zl,lQt,lQd,List.length_replicate];first|done|omega)) only [go_sem,q9],by simp (disch:=first|omega|(simp only [lens,z6,zi,z7,zg,z8,zj,zh,zl,lQt,lQd,List.length_replicate];first|done|omega)) only [go_sem,q10],by simp (disch:=first|omega|(simp only [lens,z6,zi,z7,zg,z8,zj,zh,zl,lQt,lQd,List.length_replicate];first|done|omega)) only [go_sem,q11]⟩
end
end
section
attribute [local irreducible] ACallsTo ACallsP
section
variable {O:Store} {PS:List (List Hdr)} {M:List MM} {A:List Hdr} {c pa:Nat} {o1 oa:List Nat} {J:Env} {Q:AExit->Env->Store->Prop}
attribute [local irreducible] zc5 zby
theorem zpu{L:List ActV8}{ex:Bool}{i:Nat}(hok:∀T ∈ L,T.Ok)(hi:i<L.length)(hLl:L.length<1000000000)(hS:CaS O PS M A c pa o1 oa)(hG:GI (z11 (keyL logC)) PS M A)
  (q0:J 0=.vsl 45 (z3d L) ex) (q3:J 3=.ptr 0 0 0) (q4:J 4=.ptr c 0 0) (q6:J 6=.ptr pa 0 0) (q7:J 7=.int .i64 i)
  (hQ:∀J' O' PS' M' A' o1' oa',CaS O' PS' M' A' c pa o1' oa'->GI (z11 (keyL logC)) PS' M' A'->J' 0=.vsl 45 (z3d L) ex->J' 3=.ptr 0 0 0->J' 4=.ptr c 0 0->J' 6=.ptr pa 0 0->J' 7=.int .i64 i->Q .normal J' O') (hR:∀J' O',J' 2=.bool true->Q .ret J' O'):
  zW TC 204 0 zbz Q J O:=by
 have gi:=zh7 hi
 have sl:=zy L
 have hT:=hok L[i] (List.getElem_mem hi)
 generalize L[i]=T at*
 have cl:=zl T
 have ca:=zaq T
 have cb:=zo7 T
 have ct:=zo6 T
 have hak:=hT.a
 have hbk:=hT.b
 have E1:Ext O (O++ [some [z2a T]]):=⟨_,rfl⟩
 have S1:=hS.ext E1
 have hB:CgB (O++ [some [z2a T]]) T O.length o1 oa:=⟨by rw [z19 (Nat.le_refl _),Nat.sub_self];rfl,fun e=>by have:=hS.c.lt ploc_is _ e;omega,fun e=>by have:=hS.p.lt e;omega⟩
 have hg:=hB.g
 have hi':(i:Int)<L.length:=by omega
 unfold zbz
 repeat' (first|apply zs_|apply zb_|apply zc_|apply zt_ rfl|apply zf_ rfl|(apply zd_ rfl<;>intro ht<;>try omega)|((first|apply zr_|apply zk_|apply ze_|apply zq_|(apply zG<;>intro ht));all_goals try simp (disch:=first|omega|(simp only [lens,z6,zi,z7,zg,z8,zj,zh,zl,zy,lQt,lQd,List.length_replicate];first|done|omega)) only [go_sem,q0,q3,q4,q6,q7,gi,sl,cl,ca,cb,ct,hi']))
 generalize O++ [some [z2a T]]=O1 at*
 generalize O.length=B at*
 have hp0:ACallsP TC 27 [.ptr c 0 0,.int .i64 0] O1 (PoCopyP O1 (z11 (keyL logC)) (PS.getD 0 [])):=z6g S1.c hG.ok 0 (by rw [hG.n];omega)
 refine callW.mkP (caps:=[]) hp0 (PoCopyP.is _ _ _) ?_
 rintro v O2 ⟨w0,u0,rfl,X2,P0,f0⟩
 have S2:=S1.ext X2
 have B2:=hB.keep (Kp.ext X2)
 have hp1:ACallsP TC 27 [.ptr c 0 0,.int .i64 1] O2 (PoCopyP O2 (z11 (keyL logC)) (PS.getD 1 [])):=z6g S2.c hG.ok 1 (by rw [hG.n];omega)
 simp (disch:=first|omega|(simp only [lens,z6,zi,z7,zg,z8,zj,zh,zl,zy,lQt,lQd,List.length_replicate];first|done|omega)) only [go_sem,q0,q3,q4,q6,q7,hg,cl,ca,cb]
 repeat' (first|apply zs_|apply zb_|apply zc_|apply zt_ rfl|apply zf_ rfl|(apply zd_ rfl<;>intro ht<;>try omega)|((first|apply zr_|apply zk_|apply ze_|apply zq_|(apply zG<;>intro ht));all_goals try simp (disch:=first|omega|(simp only [lens,z6,zi,z7,zg,z8,zj,zh,zl,zy,lQt,lQd,List.length_replicate];first|done|omega)) only [go_sem,q0,q3,q4,q6,q7,hg,cl,ca,cb]))
 refine callW.mkP (caps:=[]) hp1 (PoCopyP.is _ _ _) ?_
 rintro v O3 ⟨w1,u1,rfl,X3,P1,f1⟩
 have S3:=S2.ext X3
 have B3:=B2.keep (Kp.ext X3)
 have hp2:ACallsP TC 27 [.ptr c 0 0,.int .i64 2] O3 (PoCopyP O3 (z11 (keyL logC)) (PS.getD 2 [])):=z6g S3.c hG.ok 2 (by rw [hG.n];omega)
 simp (disch:=first|omega|(simp only [lens,z6,zi,z7,zg,z8,zj,zh,zl,zy,lQt,lQd,List.length_replicate];first|done|omega)) only [go_sem,q0,q3,q4,q6,q7]
 repeat' (first|apply zs_|apply zb_|apply zc_|apply zt_ rfl|apply zf_ rfl|(apply zd_ rfl<;>intro ht<;>try omega)|((first|apply zr_|apply zk_|apply ze_|apply zq_|(apply zG<;>intro ht));all_goals try simp (disch:=first|omega|(simp only [lens,z6,zi,z7,zg,z8,zj,zh,zl,zy,lQt,lQd,List.length_replicate];first|done|omega)) only [go_sem,q0,q3,q4,q6,q7]))
 refine callW.mkP (caps:=[]) hp2 (PoCopyP.is _ _ _) ?_
 rintro v O4 ⟨w2,u2,rfl,X4,P2,f2⟩
 have S4:=S3.ext X4
 have B4:=B3.keep (Kp.ext X4)
 have E5:Ext O4 (O4++ [some [[.ptr w0 0 0,.ptr w1 0 0,.ptr w2 0 0]]]):=⟨_,rfl⟩
 have S5:=S4.ext E5
 have B5:=B4.keep (Kp.ext E5)
 have L1:=S1.c.lt ploc_is
 have La:∀j,j ∈ oa->j<O1.length:=fun j hj=>S1.p.lt hj
 have le2:=X2.le
 have le3:=X3.le
 have le4:=X4.le
 have hW:CgW (O4++ [some [[.ptr w0 0 0,.ptr w1 0 0,.ptr w2 0 0]]]) PS O4.length o1 oa:=by
  refine⟨fun j=>if j=0 then w0 else if j=1 then w1 else w2,fun j=>if j=0 then u0 else if j=1 then u1 else u2,by rw [z19 (Nat.le_refl _),Nat.sub_self];rfl,fun e=>by have:=L1 _ e;omega,fun e=>by have:=La _ e;omega,fun j hj=> ?_⟩
  match j,hj with
  | 0,_=>exact⟨((P0.ext X3).ext X4).ext E5,fun y hy=>⟨fun e=>by have:=L1 _ e;have:=f0 y hy;omega,fun e=>by have:=La _ e;have:=f0 y hy;omega⟩⟩
  | 1,_=>exact⟨(P1.ext X4).ext E5,fun y hy=>⟨fun e=>by have:=L1 _ e;have:=f1 y hy;omega,fun e=>by have:=La _ e;have:=f1 y hy;omega⟩⟩
  | 2,_=>exact⟨P2.ext E5,fun y hy=>⟨fun e=>by have:=L1 _ e;have:=f2 y hy;omega,fun e=>by have:=La _ e;have:=f2 y hy;omega⟩⟩
 simp (disch:=first|omega|(simp only [lens,z6,zi,z7,zg,z8,zj,zh,zl,zy,lQt,lQd,List.length_replicate];first|done|omega)) only [go_sem,q0,q3,q4,q6,q7]
 repeat' (first|apply zs_|apply zb_|apply zc_|apply zt_ rfl|apply zf_ rfl|(apply zd_ rfl<;>intro ht<;>try omega)|((first|apply zr_|apply zk_|apply ze_|apply zq_|(apply zG<;>intro ht));all_goals try simp (disch:=first|omega|(simp only [lens,z6,zi,z7,zg,z8,zj,zh,zl,zy,lQt,lQd,List.length_replicate];first|done|omega)) only [go_sem,q0,q3,q4,q6,q7]))
 generalize O4++ [some [[.ptr w0 0 0,.ptr w1 0 0,.ptr w2 0 0]]]=O5 at*
 generalize O4.length=W at*
 refine zpl (x:=.vsl 45 (z3d L) ex) (i:=i) (B:=B) (W:=W) (a:=(T.a:Int)%3) (b:=(T.b:Int)%3) S5 hG B5 hT ⟨by simp (disch:=first|omega|(simp only [lens,z6,zi,z7,zg,z8,zj,zh,zl,zy,lQt,lQd,List.length_replicate];first|done|omega)) only [go_sem,q0],by simp (disch:=first|omega|(simp only [lens,z6,zi,z7,zg,z8,zj,zh,zl,zy,lQt,lQd,List.length_replicate];first|done|omega)) only [go_sem,q3],by simp (disch:=first|omega|(simp only [lens,z6,zi,z7,zg,z8,zj,zh,zl,zy,lQt,lQd,List.length_replicate];first|done|omega)) only [go_sem,q4],by simp (disch:=first|omega|(simp only [lens,z6,zi,z7,zg,z8,zj,zh,zl,zy,lQt,lQd,List.length_replicate];first|done|omega)) only [go_sem,q6],by simp (disch:=first|omega|(simp only [lens,z6,zi,z7,zg,z8,zj,zh,zl,zy,lQt,lQd,List.length_replicate];first|done|omega)) only [go_sem,q7],by simp (disch:=first|omega|(simp only [lens,z6,zi,z7,zg,z8,zj,zh,zl,zy,lQt,lQd,List.length_replicate];first|done|omega)) only [go_sem],by simp (disch:=first|omega|(simp only [lens,z6,zi,z7,zg,z8,zj,zh,zl,zy,lQt,lQd,List.length_replicate];first|done|omega)) only [go_sem],by simp (disch:=first|omega|(simp only [lens,z6,zi,z7,zg,z8,zj,zh,zl,zy,lQt,lQd,List.length_replicate];first|done|omega)) only [go_sem],by simp (disch:=first|omega|(simp only [lens,z6,zi,z7,zg,z8,zj,zh,zl,zy,lQt,lQd,List.length_replicate];first|done|omega)) only [go_sem]⟩ ?_ ?_
 ·intro J2 O6 PS2 M2 A2 o2 oa2 S6 G6 hL K hE
  show zW TC 204 0 _ _ _ _
  refine zpm S6 G6 (hW.keep K) (fun j hj=>(hG.ok j (by rw [hG.n];exact hj)).len) hL hE ?_
  intro J3 O7 S7 hE7
  exact hQ _ _ _ _ _ _ _ S7 G6 hE7.q0 hE7.q3 hE7.q4 hE7.q6 hE7.q7
 ·intro J2 O6 h2
  exact hR _ _ h2
theorem cg_end(hw:Wf ([]:Store).length [])(hS:CaS O PS [] A c pa o1 oa)(hG:GI (z11 (keyL logC)) PS [] A)(hL:HLe (PS.getD 1 []) (PS.getD 0 []))(q4:J 4=.ptr c 0 0):
  zW TC 204 0 zc0 (endQ 0 [.t 2] (.bool true) []) J O:=by
 have hP:=hG.ok 1 (by rw [hG.n];omega)
 have hR:=hG.ok 0 (by rw [hG.n];omega)
 have hPl:=hP.len
 have hRl:=hR.len
 have hp1:ACallsP TC 27 [.ptr c 0 0,.int .i64 1] O (PoCopyP O (z11 (keyL logC)) (PS.getD 1 [])):=z6g hS.c hG.ok 1 (by rw [hG.n];omega)
 have hp0:∀O',CaS O' PS [] A c pa o1 oa->ACallsP TC 27 [.ptr c 0 0,.int .i64 0] O' (PoCopyP O' (z11 (keyL logC)) (PS.getD 0 [])):=fun O' h=>z6g h.c hG.ok 0 (by rw [hG.n];omega)
 generalize PS.getD 1 []=P at*
 generalize PS.getD 0 []=R at*
 unfold zc0
 repeat' (first|apply zs_|apply zb_|apply zc_|apply zt_ rfl|apply zf_ rfl|(apply zd_ rfl<;>intro ht<;>try omega)|((first|apply zr_|apply zk_|apply ze_|apply zq_|(apply zG<;>intro ht));all_goals try simp (disch:=first|omega|(simp only [lens,z6,zi,z7,zg,z8,zj,zh,zl,zy,lQt,lQd,List.length_replicate];first|done|omega)) only [go_sem,q4]))
 refine callW.mkP (caps:=[]) hp1 (PoCopyP.is _ _ _) ?_
 rintro vv O2 ⟨p,op,rfl,hE,hPo,hop⟩
 have S2:=hS.ext hE
 have hK:=z9m O2 p _ P op hPo (by omega)
 have hv:=z1y 33 (kn P)
 generalize zz 33 (kn P)=v at*
 have r1:=hv.len
 rw [zh]at r1
 unfold z1k at r1
 simp (disch:=first|omega|(simp only [lens,z6,zi,z7,zg,z8,zj,zh,zl,zy,lQt,lQd,List.length_replicate];first|done|omega)) only [go_sem,q4]
 repeat' (first|apply zs_|apply zb_|apply zc_|apply zt_ rfl|apply zf_ rfl|(apply zd_ rfl<;>intro ht<;>try omega)|((first|apply zr_|apply zk_|apply ze_|apply zq_|(apply callW.mk_pu;(first|exact(fun _=>hK)))|(apply callW.za;(first|exact(hK)))|(apply zG<;>intro ht));all_goals try simp (disch:=first|omega|(simp only [lens,z6,zi,z7,zg,z8,zj,zh,zl,zy,lQt,lQd,List.length_replicate];first|done|omega)) only [go_sem,q4]))
 refine zW.loop (fun t J O'=>∃m:Nat,t+m=P.length/\ CaS O' PS [] A c pa o1 oa/\ J 4=.ptr c 0 0/\ J 21=v/\ J 22=.int .i64 m) P.length ?_ ?_
 ·exact⟨0,by omega,S2,by simp (disch:=first|omega|(simp only [lens,z6,zi,z7,zg,z8,zj,zh,zl,zy,lQt,lQd,List.length_replicate];first|done|omega)) only [go_sem,q4],by simp (disch:=first|omega|(simp only [lens,z6,zi,z7,zg,z8,zj,zh,zl,zy,lQt,lQd,List.length_replicate];first|done|omega)) only [go_sem],by simp (disch:=first|omega|(simp only [lens,z6,zi,z7,zg,z8,zj,zh,zl,zy,lQt,lQd,List.length_replicate];first|done|omega)) only [go_sem];try rfl⟩
 ·clear S2 hPo hE hop hK hp1 hS q4
  rintro t J O' ⟨m,ht,hS,q4,q21,q22⟩
  by_cases hm:m<P.length
  ·obtain⟨ex,rfl⟩:=hv.vsl (by rw [zh];omega)
   have ga:=ze3 hm
   have sl:=zh P
   have hm':(m:Int)<P.length:=by omega
   have hin:=(z6k hR.sort _ _).2 (hL _ _ ⟨P[m],List.getElem_mem hm,rfl,rfl⟩)
   have lr:=z6 P[m].r
   generalize P[m]=u at*
   repeat' (first|apply zs_|apply zb_|apply zc_|apply zt_ rfl|apply zf_ rfl|(apply zd_ rfl<;>intro ht<;>try omega)|((first|apply zr_|apply zk_|apply ze_|apply zq_|(apply zG<;>intro ht));all_goals try simp (disch:=first|omega|(simp only [lens,z6,zi,z7,zg,z8,zj,zh,zl,zy,lQt,lQd,List.length_replicate];first|done|omega)) only [go_sem,q4,q21,q22,ga,sl,lr,hm']))
   refine callW.mkP_ef (caps:=[]) (hp0 _ hS) (PoCopyP.is _ _ _) ?_
   rintro vv O3 ⟨p3,op3,rfl,hE3,hPo3,hop3⟩
   have S3:=hS.ext hE3
   have hH:=hPo3.has hR.sort (by omega) u.n u.r
   rw [hin]at hH
   refine⟨by simp (disch:=first|omega|(simp only [lens,z6,zi,z7,zg,z8,zj,zh,zl,zy,lQt,lQd,List.length_replicate];first|done|omega)) only [go_sem,ga,sl,lr],?_⟩
   simp (disch:=first|omega|(simp only [lens,z6,zi,z7,zg,z8,zj,zh,zl,zy,lQt,lQd,List.length_replicate];first|done|omega)) only [go_sem,q4,q21,q22,ga,sl,lr,hm']
   repeat' (first|apply zs_|apply zb_|apply zc_|apply zt_ rfl|apply zf_ rfl|(apply zd_ rfl<;>intro ht<;>try omega)|((first|apply zr_|apply zk_|apply ze_|apply zq_|(apply callW.mk_pu;(first|exact(fun _=>hH)))|(apply callW.za;(first|exact(hH)))|(apply zG<;>intro ht));all_goals try simp (disch:=first|omega|(simp only [lens,z6,zi,z7,zg,z8,zj,zh,zl,zy,lQt,lQd,List.length_replicate];first|done|omega)) only [go_sem,q4,q21,q22,ga,sl,lr,hm']))
   exact⟨t-1,by omega,m+1,by omega,S3,by simp⟩
  ·have hm':¬(m:Int)<P.length:=by omega
   repeat' (first|apply zs_|apply zb_|apply zc_|apply zt_ rfl|apply zf_ rfl|(apply zd_ rfl<;>intro ht<;>try omega)|((first|apply zr_|apply zk_|apply ze_|apply zq_|(apply callW.mk_pu;(first|exact(fun _=>z8h _)))|(apply callW.za;(first|exact(z8h _)))|(apply zG<;>intro ht));all_goals try simp (disch:=first|omega|(simp only [lens,z6,zi,z7,zg,z8,zj,zh,zl,zy,lQt,lQd,List.length_replicate];first|done|omega)) only [go_sem,q4,q21,q22,r1,hm']))
   exact DownV.pure (τ:=[]) (news:=_) hw z2c
attribute [local irreducible] zc0
theorem zpw(hw:Wf ([]:Store).length [])(hS:CaS O PS [] A c pa o1 oa)(hG:GI (z11 (keyL logC)) PS [] A)(q4:J 4=.ptr c 0 0):
  zW TC 204 0 zc1 (endQ 0 [.t 2] (.bool true) []) J O:=by
 have h0:z2r (PS.getD 0 []) (PS.getD 1 [])<=16-3*0:=by
  have:=ze6 (PS.getD 0 []) (PS.getD 1 [])
  have:=(hG.ok 1 (by rw [hG.n];omega)).len
  omega
 unfold zc1
 repeat' (first|apply zs_|apply zb_|apply zc_|apply zt_ rfl|apply zf_ rfl|(apply zd_ rfl<;>intro ht<;>try omega)|((first|apply zr_|apply zk_|apply ze_|apply zq_|(apply zG<;>intro ht));all_goals try simp (disch:=first|omega|(simp only [lens,z6,zi,z7,zg,z8,zj,zh,zl,zy,lQt,lQd,List.length_replicate];first|done|omega)) only [go_sem,q4]))
 refine zW.loop (fun t J O'=>∃(k:Nat) (PS:List (List Hdr)) (o1:List Nat),t+k=6/\ CaS O' PS [] A c pa o1 oa/\ GI (z11 (keyL logC)) PS [] A/\ z2r (PS.getD 0 []) (PS.getD 1 [])<=16-3*k/\ J 4=.ptr c 0 0/\ J 20=.int .i64 k) 6 ?_ ?_
 ·exact⟨0,PS,o1,by omega,hS,hG,h0,by simp (disch:=first|omega|(simp only [lens,z6,zi,z7,zg,z8,zj,zh,zl,zy,lQt,lQd,List.length_replicate];first|done|omega)) only [go_sem,q4],by simp (disch:=first|omega|(simp only [lens,z6,zi,z7,zg,z8,zj,zh,zl,zy,lQt,lQd,List.length_replicate];first|done|omega)) only [go_sem];try rfl⟩
 ·clear hS hG q4 h0
  rintro t J O' ⟨k,PS,o1,ht,hS,hG,hl,q4,q20⟩
  by_cases hk:k<6
  ·have hk':(k:Int)<6:=by omega
   obtain⟨ht0,hT⟩:=GT.start hG hl
   have hTk:=zd9 hS.c hG.ok (by rw [hG.n];omega) (by simp) 0 1
   rw [ht0]at hTk
   repeat' (first|apply zs_|apply zb_|apply zc_|apply zt_ rfl|apply zf_ rfl|(apply zd_ rfl<;>intro ht<;>try omega)|((first|apply zr_|apply zk_|apply ze_|apply zq_|(apply zG<;>intro ht));all_goals try simp (disch:=first|omega|(simp only [lens,z6,zi,z7,zg,z8,zj,zh,zl,zy,lQt,lQd,List.length_replicate];first|done|omega)) only [go_sem,q4,q20,hk']))
   refine callW.mkP (caps:=[]) hTk (CirP.is ploc_is z2s hS.c _ rfl) ?_
   rintro v O2 ⟨rfl,o2,C2,f2⟩
   have S2:=hS.circ f2 C2
   generalize z3y PS [] 0 1=M at*
   simp (disch:=first|omega|(simp only [lens,z6,zi,z7,zg,z8,zj,zh,zl,zy,lQt,lQd,List.length_replicate];first|done|omega)) only [go_sem,q4,q20]
   repeat' (first|apply zs_|apply zb_|apply zc_|apply zt_ rfl|apply zf_ rfl|(apply zd_ rfl<;>intro ht<;>try omega)|((first|apply zr_|apply zk_|apply ze_|apply zq_|(apply zG<;>intro ht));all_goals try simp (disch:=first|omega|(simp only [lens,z6,zi,z7,zg,z8,zj,zh,zl,zy,lQt,lQd,List.length_replicate];first|done|omega)) only [go_sem,q4,q20]))
   refine zW.loop (fun m J O'=>∃(PS:List (List Hdr)) (M:List MM) (o1:List Nat),CaS O' PS M A c pa o1 oa/\ GT (z11 (keyL logC)) m k PS M A/\ J 4=.ptr c 0 0/\ J 20=.int .i64 k) 2 ?_ ?_
   ·exact⟨PS,M,o2,S2,hT,by simp (disch:=first|omega|(simp only [lens,z6,zi,z7,zg,z8,zj,zh,zl,zy,lQt,lQd,List.length_replicate];first|done|omega)) only [go_sem,q4],by simp (disch:=first|omega|(simp only [lens,z6,zi,z7,zg,z8,zj,zh,zl,zy,lQt,lQd,List.length_replicate];first|done|omega)) only [go_sem,q20];try rfl⟩
   ·clear S2 hT hS hG hl f2 C2 q4 q20 ht0 hTk
    rintro m J O' ⟨PS,M,o1,hS,hT,q4,q20⟩
    have hG:=hT.gi
    have hn:=hG.n
    have hMl:=hT.len
    have hml:=hG.ml
    have hMa:=zd4 hS.c (by omega) (by omega)
    by_cases hm:0<m
    ·have hM1:(M.length:Int)>0:=by have:=hMl.1 hm;omega
     obtain⟨ha,m',hmm,hT2⟩:=hT.step hm
     have hD:=zb0 hS.c hG.ok hG.msl (by omega) (by omega) 0
     rw [ha]at hD
     repeat' (first|apply zs_|apply zb_|apply zc_|apply zt_ rfl|apply zf_ rfl|(apply zd_ rfl<;>intro ht<;>try omega)|((first|apply zr_|apply zk_|apply ze_|apply zq_|(apply callW.mk_pu;(first|exact(fun _=>hMa)))|(apply callW.za;(first|exact(hMa)))|(apply zG<;>intro ht));all_goals try simp (disch:=first|omega|(simp only [lens,z6,zi,z7,zg,z8,zj,zh,zl,zy,lQt,lQd,List.length_replicate];first|done|omega)) only [go_sem,q4,q20,hM1]))
     refine callW.mkP (caps:=[]) hD (CirP.is ploc_is z2s hS.c _ (zio ..)) ?_
     rintro v O3 ⟨rfl,o3,C3,f3⟩
     have S3:=hS.circ f3 C3
     simp (disch:=first|omega|(simp only [lens,z6,zi,z7,zg,z8,zj,zh,zl,zy,lQt,lQd,List.length_replicate];first|done|omega)) only [go_sem,q4,q20]
     repeat' (first|apply zs_|apply zb_|apply zc_|apply zt_ rfl|apply zf_ rfl|(apply zd_ rfl<;>intro ht<;>try omega)|((first|apply zr_|apply zk_|apply ze_|apply zq_|(apply zG<;>intro ht));all_goals try simp (disch:=first|omega|(simp only [lens,z6,zi,z7,zg,z8,zj,zh,zl,zy,lQt,lQd,List.length_replicate];first|done|omega)) only [go_sem,q4,q20]))
     exact⟨m',hmm,_,_,o3,S3,hT2⟩
    ·have hM0:¬(M.length:Int)>0:=fun h=>hm (hMl.2 (by omega))
     obtain rfl:m=0:=by omega
     rcases hT.ph with⟨e,_⟩| ⟨e,_⟩| ⟨_,rfl,hl⟩
     ·omega
     ·omega
     ·repeat' (first|apply zs_|apply zb_|apply zc_|apply zt_ rfl|apply zf_ rfl|(apply zd_ rfl<;>intro ht<;>try omega)|((first|apply zr_|apply zk_|apply ze_|apply zq_|(apply callW.mk_pu;(first|exact(fun _=>hMa)))|(apply callW.za;(first|exact(hMa)))|(apply zG<;>intro ht));all_goals try simp (disch:=first|omega|(simp only [lens,z6,zi,z7,zg,z8,zj,zh,zl,zy,lQt,lQd,List.length_replicate];first|done|omega)) only [go_sem,q4,q20,hM0]))
      exact⟨t-1,by omega,k+1,PS,o1,by omega,hS,hG,hl,by simp⟩
  ·have hk':¬(k:Int)<6:=by omega
   obtain rfl:k=6:=by omega
   have hP:=hG.ok 1 (by rw [hG.n];omega)
   repeat' (first|apply zs_|apply zb_|apply zc_|apply zt_ rfl|apply zf_ rfl|(apply zd_ rfl<;>intro ht<;>try omega)|((first|apply zr_|apply zk_|apply ze_|apply zq_|(apply zG<;>intro ht));all_goals try simp (disch:=first|omega|(simp only [lens,z6,zi,z7,zg,z8,zj,zh,zl,zy,lQt,lQd,List.length_replicate];first|done|omega)) only [go_sem,q4,q20,hk']))
   exact cg_end hw hS hG (zjy hP (by omega)) (by simp (disch:=first|omega|(simp only [lens,z6,zi,z7,zg,z8,zj,zh,zl,zy,lQt,lQd,List.length_replicate];first|done|omega)) only [go_sem,q4])
attribute [local irreducible] zc1
theorem zpq(hw:Wf ([]:Store).length [])(hS:CaS O PS M A c pa o1 oa)(hG:GI (z11 (keyL logC)) PS M A)(q4:J 4=.ptr c 0 0):
  zW TC 204 0 zc2 (endQ 0 [.t 2] (.bool true) []) J O:=by
 have hml:=hG.ml
 unfold zc2
 repeat' (first|apply zs_|apply zb_|apply zc_|apply zt_ rfl|apply zf_ rfl|(apply zd_ rfl<;>intro ht<;>try omega)|((first|apply zr_|apply zk_|apply ze_|apply zq_|(apply zG<;>intro ht));all_goals try simp (disch:=first|omega|(simp only [lens,z6,zi,z7,zg,z8,zj,zh,zl,zy,lQt,lQd,List.length_replicate];first|done|omega)) only [go_sem,q4]))
 refine zW.loop (fun t J O'=>∃(k:Nat) (M:List MM) (o1:List Nat),t=M.length/\ k+M.length<=200/\ CaS O' PS M A c pa o1 oa/\ GI (z11 (keyL logC)) PS M A/\ J 4=.ptr c 0 0/\ J 19=.int .i64 k) M.length ?_ ?_
 ·exact⟨0,M,o1,rfl,by omega,hS,hG,by simp (disch:=first|omega|(simp only [lens,z6,zi,z7,zg,z8,zj,zh,zl,zy,lQt,lQd,List.length_replicate];first|done|omega)) only [go_sem,q4],by simp (disch:=first|omega|(simp only [lens,z6,zi,z7,zg,z8,zj,zh,zl,zy,lQt,lQd,List.length_replicate];first|done|omega)) only [go_sem];try rfl⟩
 ·clear hS hG q4 hml
  rintro t J O' ⟨k,M,o1,rfl,hk,hS,hG,q4,q19⟩
  have hn:=hG.n
  have hk':(k:Int)<400:=by omega
  have hMa:=zd4 hS.c (by omega) (by omega)
  by_cases hm:0<M.length
  ·have hm':(M.length:Int)>0:=by omega
   have hd:=hG.drop0 hm
   have hG2:=hG.drop 0
   have hD:=zhv hS.c (by omega) (by omega) 0
   repeat' (first|apply zs_|apply zb_|apply zc_|apply zt_ rfl|apply zf_ rfl|(apply zd_ rfl<;>intro ht<;>try omega)|((first|apply zr_|apply zk_|apply ze_|apply zq_|(apply callW.mk_pu;(first|exact(fun _=>hMa)))|(apply callW.za;(first|exact(hMa)))|(apply zG<;>intro ht));all_goals try simp (disch:=first|omega|(simp only [lens,z6,zi,z7,zg,z8,zj,zh,zl,zy,lQt,lQd,List.length_replicate];first|done|omega)) only [go_sem,q4,q19,hk',hm']))
   refine callW.mkP (caps:=[]) hD (CirP.is ploc_is z2s hS.c _ rfl) ?_
   rintro v O3 ⟨rfl,o3,C3,f3⟩
   have S3:=hS.circ f3 C3
   simp (disch:=first|omega|(simp only [lens,z6,zi,z7,zg,z8,zj,zh,zl,zy,lQt,lQd,List.length_replicate];first|done|omega)) only [go_sem,q4,q19]
   repeat' (first|apply zs_|apply zb_|apply zc_|apply zt_ rfl|apply zf_ rfl|(apply zd_ rfl<;>intro ht<;>try omega)|((first|apply zr_|apply zk_|apply ze_|apply zq_|(apply zG<;>intro ht));all_goals try simp (disch:=first|omega|(simp only [lens,z6,zi,z7,zg,z8,zj,zh,zl,zy,lQt,lQd,List.length_replicate];first|done|omega)) only [go_sem,q4,q19]))
   exact⟨_,by omega,k+1,_,o3,rfl,by omega,S3,hG2,by simp⟩
  ·have hm':¬(M.length:Int)>0:=by omega
   obtain rfl:M=[]:=List.eq_nil_of_length_eq_zero (by omega)
   repeat' (first|apply zs_|apply zb_|apply zc_|apply zt_ rfl|apply zf_ rfl|(apply zd_ rfl<;>intro ht<;>try omega)|((first|apply zr_|apply zk_|apply ze_|apply zq_|(apply callW.mk_pu;(first|exact(fun _=>hMa)))|(apply callW.za;(first|exact(hMa)))|(apply zG<;>intro ht));all_goals try simp (disch:=first|omega|(simp only [lens,z6,zi,z7,zg,z8,zj,zh,zl,zy,lQt,lQd,List.length_replicate];first|done|omega)) only [go_sem,q4,q19,hk',hm']))
   exact zpw hw hS hG (by simp (disch:=first|omega|(simp only [lens,z6,zi,z7,zg,z8,zj,zh,zl,zy,lQt,lQd,List.length_replicate];first|done|omega)) only [go_sem,q4])
end
end
section
attribute [local irreducible] ACallsTo ACallsP zc2 zbz
theorem cg_all{O:Store}{c pa:Nat}{o1 oa:List Nat}{J:Env}{L:List ActV8}{x:AV}(hw:Wf ([]:Store).length [])(hok:∀T ∈ L,T.Ok)(hLl:L.length<=25)(hx:SlV 45 (z3d L) x)(hS:CaS O [[],[],[]] [] [] c pa o1 oa)
  (q0:J 0=x) (q3:J 3=.ptr 0 0 0) (q4:J 4=.ptr c 0 0) (q6:J 6=.ptr pa 0 0):
  zW TC 204 0 zc3 (endQ 0 [.t 2] (.bool true) []) J O:=by
 have r1:=hx.len
 rw [zy]at r1
 unfold z1k at r1
 unfold zc3
 repeat' (first|apply zs_|apply zb_|apply zc_|apply zt_ rfl|apply zf_ rfl|(apply zd_ rfl<;>intro ht<;>try omega)|((first|apply zr_|apply zk_|apply ze_|apply zq_|(apply zG<;>intro ht));all_goals try simp (disch:=first|omega|(simp only [lens,z6,zi,z7,zg,z8,zj,zh,zl,zy,lQt,lQd,List.length_replicate];first|done|omega)) only [go_sem,q0,q3,q4,q6]))
 refine zW.loop (fun t J O'=>∃(i:Nat) (PS:List (List Hdr)) (M:List MM) (A:List Hdr) (o1 oa:List Nat),t+i=L.length/\ CaS O' PS M A c pa o1 oa/\ GI (z11 (keyL logC)) PS M A/\ J 0=x/\ J 3=.ptr 0 0 0/\ J 4=.ptr c 0 0/\ J 6=.ptr pa 0 0/\ J 7=.int .i64 i) L.length ?_ ?_
 ·exact⟨0,_,_,_,o1,oa,by omega,hS,GI.nil _,by simp (disch:=first|omega|(simp only [lens,z6,zi,z7,zg,z8,zj,zh,zl,zy,lQt,lQd,List.length_replicate];first|done|omega)) only [go_sem,q0],by simp (disch:=first|omega|(simp only [lens,z6,zi,z7,zg,z8,zj,zh,zl,zy,lQt,lQd,List.length_replicate];first|done|omega)) only [go_sem,q3],by simp (disch:=first|omega|(simp only [lens,z6,zi,z7,zg,z8,zj,zh,zl,zy,lQt,lQd,List.length_replicate];first|done|omega)) only [go_sem,q4],by simp (disch:=first|omega|(simp only [lens,z6,zi,z7,zg,z8,zj,zh,zl,zy,lQt,lQd,List.length_replicate];first|done|omega)) only [go_sem,q6],by simp (disch:=first|omega|(simp only [lens,z6,zi,z7,zg,z8,zj,zh,zl,zy,lQt,lQd,List.length_replicate];first|done|omega)) only [go_sem];try rfl⟩
 ·clear hS q0 q3 q4 q6
  rintro t J O' ⟨i,PS,M,A,o1,oa,ht,hS,hG,q0,q3,q4,q6,q7⟩
  by_cases hi:i<L.length
  ·obtain⟨ex,rfl⟩:=hx.vsl (by rw [zy];omega)
   have hb:=fun J' Q q0 q3 q4 q6 q7 hQ hR=>zpu (J:=J') (Q:=Q) (ex:=ex) hok hi (by omega) hS hG q0 q3 q4 q6 q7 hQ hR
   repeat' (first|apply zs_|apply zb_|apply zc_|apply zt_ rfl|apply zf_ rfl|(apply zd_ rfl<;>intro ht<;>try omega)|((first|apply zr_|apply zk_|apply ze_|apply zq_|(apply zG<;>intro ht));all_goals try simp (disch:=first|omega|(simp only [lens,z6,zi,z7,zg,z8,zj,zh,zl,zy,lQt,lQd,List.length_replicate];first|done|omega)) only [go_sem,q0,q3,q4,q6,q7,r1]))
   refine hb _ _ (by simp (disch:=first|omega|(simp only [lens,z6,zi,z7,zg,z8,zj,zh,zl,zy,lQt,lQd,List.length_replicate];first|done|omega)) only [go_sem,q0]) (by simp (disch:=first|omega|(simp only [lens,z6,zi,z7,zg,z8,zj,zh,zl,zy,lQt,lQd,List.length_replicate];first|done|omega)) only [go_sem,q3]) (by simp (disch:=first|omega|(simp only [lens,z6,zi,z7,zg,z8,zj,zh,zl,zy,lQt,lQd,List.length_replicate];first|done|omega)) only [go_sem,q4]) (by simp (disch:=first|omega|(simp only [lens,z6,zi,z7,zg,z8,zj,zh,zl,zy,lQt,lQd,List.length_replicate];first|done|omega)) only [go_sem,q6]) (by simp (disch:=first|omega|(simp only [lens,z6,zi,z7,zg,z8,zj,zh,zl,zy,lQt,lQd,List.length_replicate];first|done|omega)) only [go_sem,q7]) ?_ ?_
   ·intro J2 O2 PS2 M2 A2 o2 oa2 S2 G2 q0 q3 q4 q6 q7
    show zW TC 204 0 _ _ _ _
    repeat' (first|apply zs_|apply zb_|apply zc_|apply zt_ rfl|apply zf_ rfl|(apply zd_ rfl<;>intro ht<;>try omega)|((first|apply zr_|apply zk_|apply ze_|apply zq_|(apply zG<;>intro ht));all_goals try simp (disch:=first|omega|(simp only [lens,z6,zi,z7,zg,z8,zj,zh,zl,zy,lQt,lQd,List.length_replicate];first|done|omega)) only [go_sem,q0,q3,q4,q6,q7]))
    exact⟨t-1,by omega,i+1,PS2,M2,A2,o2,oa2,by omega,S2,G2,by simp⟩
   ·intro J2 O2 h2
    refine⟨rfl,?_⟩
    show DownV 0 (J2 2) O2 (.bool true) []
    rw [h2]
    exact DownV.pure (τ:=[]) (news:=O2) hw z2c
  ·have hi':¬(i:Int)<L.length:=by omega
   repeat' (first|apply zs_|apply zb_|apply zc_|apply zt_ rfl|apply zf_ rfl|(apply zd_ rfl<;>intro ht<;>try omega)|((first|apply zr_|apply zk_|apply ze_|apply zq_|(apply zG<;>intro ht));all_goals try simp (disch:=first|omega|(simp only [lens,z6,zi,z7,zg,z8,zj,zh,zl,zy,lQt,lQd,List.length_replicate];first|done|omega)) only [go_sem,q0,q3,q4,q6,q7,r1,hi']))
   exact zpq hw hS hG (by simp (disch:=first|omega|(simp only [lens,z6,zi,z7,zg,z8,zj,zh,zl,zy,lQt,lQd,List.length_replicate];first|done|omega)) only [go_sem,q4])
attribute [local irreducible] zc3
theorem znf(L:List ActV8)(hL:∀s ∈ L,s.Ok)(hLl:L.length<=maxLen)(x:AV)(hxs:SlV 45 (z3d L) x):ACallsTo TC 5 [x] [] (.bool true) []:=by
 have hNew:=fun O=>zjr O [108,111,103] (by simp)
 rw [show ([108,111,103]:List UInt8)=logC from rfl]at hNew
 have hG:=fun O=>znn O L 25 x hxs hL hLl
 refine ACallsTo.of_body q2gok (by simp) fun hw _=> ?_
 by_cases hg:z99 L 25=true
 ·rw [hg]at hG
  repeat' (first|apply zs_|apply zb_|apply zc_|apply zt_ rfl|apply zf_ rfl|(apply zd_ rfl<;>intro ht<;>try omega)|((first|apply zr_|apply zk_|apply ze_|apply zq_|(apply callW.mk_pu;(first|exact(fun _=>hG _)|exact(fun _=>z8h _)))|(apply callW.za;(first|exact(hG _)|exact(z8h _)))|(apply zG<;>intro ht));all_goals try simp (disch:=first|omega|(simp only [lens,z6,zi,z7,zg,z8,zj,zh,zl,zy,lQt,lQd,List.length_replicate];first|done|omega)) only [go_sem,Nat.add_zero]))
  exact DownV.pure (τ:=[]) hw z2c
 have hg':=Bool.eq_false_iff.2 hg
 rw [hg']at hG
 obtain⟨hl25,hfew⟩:=zrq (n:=25) hg'
 have hlog:([108,111,103]:List UInt8)=logC:=rfl
 repeat' (first|apply zs_|apply zb_|apply zc_|apply zt_ rfl|apply zf_ rfl|(apply zd_ rfl<;>intro ht<;>try omega)|((first|apply zr_|apply zk_|apply ze_|apply zq_|(apply callW.mk_pu;(first|exact(fun _=>hG _)|exact(fun _=>hNew _)))|(apply callW.za;(first|exact(hG _)|exact(hNew _)))|(apply zG<;>intro ht));all_goals try simp (disch:=first|omega|(simp only [lens,z6,zi,z7,zg,z8,zj,zh,zl,zy,lQt,lQd,List.length_replicate];first|done|omega)) only [go_sem,hlog]))
 try simp only [List.nil_append,List.length_nil]
 have hRt:=zgh [some [z1m true logC (keyL logC)]] 0 logC (keyL logC) rfl (z3g logC)
 have hC:ACallsP TC 28 [.agg (hc (z11 (keyL logC))),.int .i64 3] [some [z1m true logC (keyL logC)]] (CNewP [some [z1m true logC (keyL logC)]] (z11 (keyL logC)) 3):=zhz _ _ 3 (by omega) (by omega)
 repeat' (first|apply zs_|apply zb_|apply zc_|apply zt_ rfl|apply zf_ rfl|(apply zd_ rfl<;>intro ht<;>try omega)|((first|apply zr_|apply zk_|apply ze_|apply zq_|(apply callW.mk_pu;(first|exact(fun _=>hRt)))|(apply callW.za;(first|exact(hRt)))|(apply zG<;>intro ht));all_goals try simp (disch:=first|omega|(simp only [lens,z6,zi,z7,zg,z8,zj,zh,zl,zy,lQt,lQd,List.length_replicate];first|done|omega)) only [go_sem]))
 refine callW.mkP (caps:=[]) hC (CNewP.is _ _ 3 (by omega)) ?_
 rintro v O1 ⟨c,own,rfl,hE1,S1,hge⟩
 have S1:CirS PoIs O1 c (z11 (keyL logC)) [[],[],[]] [] own:=S1
 obtain⟨y1,hy1⟩:=hE1
 have g0:O1[0]? =some (some [z1m true logC (keyL logC)]):=by rw [hy1];rfl
 have hRt1:=zgh O1 0 logC (keyL logC) g0 (z3g logC)
 have hE:=zkv O1 (z11 (keyL logC))
 simp (disch:=first|omega|(simp only [lens,z6,zi,z7,zg,z8,zj,zh,zl,zy,lQt,lQd,List.length_replicate];first|done|omega)) only [go_sem]
 repeat' (first|apply zs_|apply zb_|apply zc_|apply zt_ rfl|apply zf_ rfl|(apply zd_ rfl<;>intro ht<;>try omega)|((first|apply zr_|apply zk_|apply ze_|apply zq_|(apply callW.mk_pu;(first|exact(fun _=>hRt1)))|(apply callW.za;(first|exact(hRt1)))|(apply zG<;>intro ht));all_goals try simp (disch:=first|omega|(simp only [lens,z6,zi,z7,zg,z8,zj,zh,zl,zy,lQt,lQd,List.length_replicate];first|done|omega)) only [go_sem]))
 refine callW.mkP (caps:=[]) hE ⟨_,_,rfl,rfl⟩ ?_
 rintro v O2 ⟨rfl,rfl⟩
 have E2:Ext O1 (O1++ [some [hc (z11 (keyL logC))],some [poC (z11 (keyL logC)) .nilsl]]):=⟨_,rfl⟩
 have hlt2:=S1.lt ploc_is
 have hS:CaS (O1++ [some [hc (z11 (keyL logC))],some [poC (z11 (keyL logC)) .nilsl]]) [[],[],[]] [] [] c (O1.length+1) own [O1.length+1]:=
  ⟨S1.ext ploc_is E2,⟨.nilsl,none,rfl,by rw [z19 (by omega),Nat.add_sub_cancel_left];rfl,.inl ⟨rfl,rfl,rfl⟩,by simp⟩,fun j hj h2=>by have:=hlt2 j hj;have:=List.mem_singleton.1 h2;omega,by rw [gapp (slen g0)];exact g0,fun e=>by have:=hge 0 e;simp at this,by simp⟩
 simp (disch:=first|omega|(simp only [lens,z6,zi,z7,zg,z8,zj,zh,zl,zy,lQt,lQd,List.length_replicate];first|done|omega)) only [go_sem]
 repeat' (first|apply zs_|apply zb_|apply zc_|apply zt_ rfl|apply zf_ rfl|(apply zd_ rfl<;>intro ht<;>try omega)|((first|apply zr_|apply zk_|apply ze_|apply zq_|(apply zG<;>intro ht));all_goals try simp (disch:=first|omega|(simp only [lens,z6,zi,z7,zg,z8,zj,zh,zl,zy,lQt,lQd,List.length_replicate];first|done|omega)) only [go_sem]))
 exact cg_all hw hL hl25 hxs hS (by simp (disch:=first|omega|(simp only [lens,z6,zi,z7,zg,z8,zj,zh,zl,zy,lQt,lQd,List.length_replicate];first|done|omega)) only [go_sem]) (by simp (disch:=first|omega|(simp only [lens,z6,zi,z7,zg,z8,zj,zh,zl,zy,lQt,lQd,List.length_replicate];first|done|omega)) only [go_sem]) (by simp (disch:=first|omega|(simp only [lens,z6,zi,z7,zg,z8,zj,zh,zl,zy,lQt,lQd,List.length_replicate];first|done|omega)) only [go_sem]) (by simp (disch:=first|omega|(simp only [lens,z6,zi,z7,zg,z8,zj,zh,zl,zy,lQt,lQd,List.length_replicate];first|done|omega)) only [go_sem])
theorem CircleGrows_law(avs:List AV)(h:z8m [.sl 45 z8u] avs):ACallsTo TC 5 avs [] (.bool true) []:=by
 simp only [z8m]at h
 obtain⟨x,_,rfl,h0,rfl⟩:=h
 obtain⟨L,hxs,hLl,hL⟩:=zob (by simpa only [Sh]using h0)
 exact znf L hL hLl x hxs
end
end Am
end Go.Proofs.YtcdcmgjnbjoajaaGreatDoor
section
/- What a law with the laid tables of sha begins with. -/
namespace Go.Proofs.YtcdcmgjnbjoajaaGreatDoor.LawDoor
open Go.ChangeShapes Go.WideShapes Go.ChangeAt Go.RowKit
theorem own:ownKnob Tryz.prog.godebug=none:=by kernel_rfl
theorem zt5:laidOutB Tryz.prog=true:=by kernel_rfl
def z9g:List (String × DataW Unit):=[("speculum/sha.first",Rows.laid_speculum_sha_first),("speculum/sha.rounds",Rows.laid_speculum_sha_rounds)]
set_option maxRecDepth 100000
theorem zqg(os:Os)(args:Array Value):laidMetH Tryz.prog z9g ((World.doorLaid Tryz.prog 400 os).forCall (fun _ _=>0) ⟨#[],args,[]⟩).memory:=
 laidMetH_of_parts3 (fuel:=8) (laidMet_of_run' 8 (by kernel_rfl) (by kernel_rfl)) (by kernel_rfl) (by kernel_rfl)
theorem rel_of{W:World}(h:laidMetH Tryz.prog z9g W):Am.Rel Am.TC [] [] W:=by
 rw [MakeChecks.laidMetH_plain _ _ _ (by kernel_rfl)]at h
 obtain⟨ps,⟨g0,t0,cs0,f0,p0,q0,hg0,ht0,hv0,hd0,⟨g1,t1,cs1,f1,p1,q1,hg1,ht1,hv1,hd1,_,_⟩,_⟩,_,_⟩:=h
 have v0:=Am.vp_of_var (P:=Tryz.prog) (n:= "speculum/sha.first") (g:=0) (t:=178) (e:=177) (m:=8) (k:=.u32) Am.shaFirst (by kernel_rfl) (by kernel_rfl) (by kernel_rfl) (by kernel_rfl) (by kernel_rfl) (by kernel_rfl) hg0 ht0 hv0 hd0
 have v1:=Am.vp_of_var (P:=Tryz.prog) (n:= "speculum/sha.rounds") (g:=1) (t:=183) (e:=177) (m:=64) (k:=.u32) Am.shaRounds (by kernel_rfl) (by kernel_rfl) (by kernel_rfl) (by kernel_rfl) (by kernel_rfl) (by kernel_rfl) hg1 ht1 hv1 hd1
 refine⟨rfl,fun r o h=>by simp at h,fun r h=>by simp at h,fun r r' pl pl' h=>by simp at h,fun g cs h=> ?_⟩
 simp only [Am.TC]at h
 split at h
 ·rename_i hg;subst hg;cases h;exact v0
 ·split at h
  ·rename_i hg;subst hg;cases h;exact v1
  ·cases h
end Go.Proofs.YtcdcmgjnbjoajaaGreatDoor.LawDoor
end
