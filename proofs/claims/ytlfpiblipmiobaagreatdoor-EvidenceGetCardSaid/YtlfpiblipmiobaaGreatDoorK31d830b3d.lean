import Derived.Test.YtlfpiblipmiobaaGreatDoorK292660182
import Derived.Shelf.Strings.Builder1
import Derived.Shelf.Strings.Builder2
import Derived.Shelf.Strings.BuilderF
import Derived.Shelf.Strings.Prefix
import Derived.Shelf.Bits.Mul64
import Derived.Shelf.Strings.Repeat
import Derived.Ground.Names2Prog
import Derived.Shelf.Slices.SearchI
import Derived.Test.YtlfpiblipmiobaaGreatDoorProg
set_option linter.unusedSimpArgs false
set_option linter.unusedVariables false
open Nat (reduceEqDiff reduceAdd reduceMul reduceSub reduceLeDiff)
open Int (reduceToNat reducePow)
open Nat renaming reduceEqDiff -> nQ1, reduceBEq -> nQ2, reduceAdd -> nQ3, reduceMul -> nQ4, reduceSub -> nQ5, reduceLeDiff -> nQ6
open Int renaming reduceToNat -> nQ7, reducePow -> nQ8
open List renaming length_reverse -> lQr, length_map -> lQm, length_take -> lQt, length_drop -> lQd, length_set -> lQs
set_option maxHeartbeats 16000000
attribute [local go_sem_proc] Nat.reduceEqDiff Nat.reduceBEq Nat.reduceAdd Nat.reduceMul Nat.reduceSub Nat.reduceLeDiff Int.reduceToNat Int.reducePow
namespace Go.Proofs.YtlfpiblipmiobaaGreatDoor
namespace Am
section
set_option maxRecDepth 4000
open Pk (P Q M one pkN dbl cD)
noncomputable def frc{α:Type}(n:Nat)(f:Nat->α):α:=Nat.rec (f 0) (fun k _=>f (Nat.succ k)) n
theorem zx{α:Type}(n:Nat)(f:Nat->α):frc n f=f n:=by cases n<;>rfl
structure S8 where
 a:Nat
 b:Nat
 c:Nat
 d:Nat
 e:Nat
 f:Nat
 g:Nat
 h:Nat
noncomputable def rot3(m x a b c:Nat):Nat:=frc (Nat.mul x 4294967297) fun y=>Nat.land (Nat.xor (Nat.xor (Nat.shiftRight y a) (Nat.shiftRight y b)) (Nat.shiftRight y c)) m
noncomputable def rot2(m x a b c:Nat):Nat:=frc (Nat.mul x 4294967297) fun y=>Nat.land (Nat.xor (Nat.xor (Nat.shiftRight y a) (Nat.shiftRight y b)) (Nat.shiftRight x c)) m
noncomputable def t1N(m o e f g h k w:Nat):Nat:=
 Nat.add (Nat.add (Nat.add (Nat.add h (rot3 m e 6 11 25)) (Nat.xor (Nat.land e f) (Nat.land (Nat.xor m e) g))) (Nat.mul o k)) w
noncomputable def t2N(m a b c:Nat):Nat:=Nat.add (rot3 m a 2 13 22) (Nat.xor (Nat.xor (Nat.land a b) (Nat.land a c)) (Nat.land b c))
noncomputable def nwN(m w0 w1 w9 w14:Nat):Nat:=Nat.land (Nat.add (Nat.add (Nat.add w0 w9) (rot2 m w1 7 18 3)) (rot2 m w14 17 19 10)) m
noncomputable def goN(m o:Nat)(ks:List Nat):Nat->Nat->Nat->Nat->Nat->Nat->Nat->Nat->Nat->Nat->Nat->Nat->Nat->Nat->Nat->Nat->Nat->Nat->Nat->Nat->Nat->Nat->Nat->Nat->S8:=
 List.rec (motive:=fun _=>Nat->Nat->Nat->Nat->Nat->Nat->Nat->Nat->Nat->Nat->Nat->Nat->Nat->Nat->Nat->Nat->Nat->Nat->Nat->Nat->Nat->Nat->Nat->Nat->S8)
  (fun a b c d e f g h _ _ _ _ _ _ _ _ _ _ _ _ _ _ _ _=>⟨a,b,c,d,e,f,g,h⟩)
  (fun k _ ih a b c d e f g h w0 w1 w2 w3 w4 w5 w6 w7 w8 w9 w10 w11 w12 w13 w14 w15=>
   frc (t1N m o e f g h k w0) fun t=>frc (Nat.land (Nat.add t (t2N m a b c)) m) fun a'=>frc (Nat.land (Nat.add d t) m) fun e'=>frc (nwN m w0 w1 w9 w14) fun w'=>
    ih a' a b c e' e f g w1 w2 w3 w4 w5 w6 w7 w8 w9 w10 w11 w12 w13 w14 w15 w') ks
theorem zqf(m o a b c d e f g h w0 w1 w2 w3 w4 w5 w6 w7 w8 w9 w10 w11 w12 w13 w14 w15:Nat):goN m o [] a b c d e f g h w0 w1 w2 w3 w4 w5 w6 w7 w8 w9 w10 w11 w12 w13 w14 w15=⟨a,b,c,d,e,f,g,h⟩:=rfl
theorem zqe(m o k:Nat)(ks:List Nat)(a b c d e f g h w0 w1 w2 w3 w4 w5 w6 w7 w8 w9 w10 w11 w12 w13 w14 w15:Nat):goN m o (k::ks) a b c d e f g h w0 w1 w2 w3 w4 w5 w6 w7 w8 w9 w10 w11 w12 w13 w14 w15=
  goN m o ks (Nat.land (Nat.add (t1N m o e f g h k w0) (t2N m a b c)) m) a b c (Nat.land (Nat.add d (t1N m o e f g h k w0)) m) e f g w1 w2 w3 w4 w5 w6 w7 w8 w9 w10 w11 w12 w13 w14 w15 (nwN m w0 w1 w9 w14):=by
 unfold goN
 dsimp only
 rw [zx,zx,zx,zx]
theorem zhl:(4294967297:Nat)=cD:=by decide
section
variable {ι:Type} (L:List ι)
theorem zl6(f:ι->W)(a b c:Nat)(ha:0<a/\ a<32)(hb:0<b/\ b<32)(hc:0<c/\ c<32):
  rot3 (M L) (Q L f) a b c=Q L (fun i=>((f i).rotateLeft (32-a)^^^(f i).rotateLeft (32-b))^^^(f i).rotateLeft (32-c)):=by
 unfold rot3
 rw [zx,zhl]
 exact Pk.Q_rot3 L f a b c ha hb hc
theorem zl5(f:ι->W)(a b c:Nat)(ha:0<a/\ a<32)(hb:0<b/\ b<32)(hc:0<c/\ c<32):
  rot2 (M L) (Q L f) a b c=Q L (fun i=>((f i).rotateLeft (32-a)^^^(f i).rotateLeft (32-b))^^^(f i)>>>c):=by
 unfold rot2
 rw [zx,zhl]
 exact Pk.Q_rot2 L f a b c ha hb hc
theorem t1_ok(e f g h w:ι->W)(k:W):t1N (M L) (one L) (Q L e) (Q L f) (Q L g) (Q L h) k.toNat (Q L w)=P L (fun i=>(h i).toNat+(bs1 (e i)).toNat+(chW (e i) (f i) (g i)).toNat+k.toNat+(w i).toNat):=by
 unfold t1N
 rw [zl6 L e 6 11 25 (by omega) (by omega) (by omega)]
 have h1:Nat.xor (Nat.land (Q L e) (Q L f)) (Nat.land (Nat.xor (M L) (Q L e)) (Q L g))=Q L (fun i=>chW (e i) (f i) (g i)):=by
  have a1:Nat.land (Q L e) (Q L f)=Q L (fun i=>e i &&& f i):=Pk.Q_and L e f
  have a2:Nat.xor (M L) (Q L e)=Q L (fun i=> ~~~ e i):=Pk.Q_not L e
  have a3:Nat.land (Q L (fun i=> ~~~ e i)) (Q L g)=Q L (fun i=> ~~~ e i &&& g i):=Pk.Q_and L _ g
  rw [a1,a2,a3]
  exact Pk.Q_xor L _ _
 have h2:Nat.mul (one L) k.toNat=P L (fun _=>k.toNat):=by
  have:=Pk.P_mul L (fun _=>1) k.toNat
  simpa [one]using this
 rw [h1,h2]
 have add:∀f g:ι->Nat,Nat.add (P L f) (P L g)=P L (fun i=>f i+g i):=Pk.P_add L
 unfold Q
 rw [add,add,add,add]
 rfl
theorem t2_ok(a b c:ι->W):t2N (M L) (Q L a) (Q L b) (Q L c)=P L (fun i=>(bs0 (a i)).toNat+(majW (a i) (b i) (c i)).toNat):=by
 unfold t2N
 rw [zl6 L a 2 13 22 (by omega) (by omega) (by omega)]
 have h1:Nat.xor (Nat.xor (Nat.land (Q L a) (Q L b)) (Nat.land (Q L a) (Q L c))) (Nat.land (Q L b) (Q L c))=Q L (fun i=>majW (a i) (b i) (c i)):=by
  have a1:∀f g:ι->W,Nat.land (Q L f) (Q L g)=Q L (fun i=>f i &&& g i):=Pk.Q_and L
  have a2:∀f g:ι->W,Nat.xor (Q L f) (Q L g)=Q L (fun i=>f i^^^g i):=Pk.Q_xor L
  rw [a1,a1,a1,a2,a2]
  rfl
 rw [h1]
 have add:∀f g:ι->Nat,Nat.add (P L f) (P L g)=P L (fun i=>f i+g i):=Pk.P_add L
 unfold Q
 rw [add]
 rfl
theorem z8o{f:ι->Nat}(g:ι->W)(h:∀i,f i<2^64)(hg:∀i,BitVec.ofNat 32 (f i)=g i):Nat.land (P L f) (M L)=Q L g:=by
 have:=Pk.P_mask L h
 rw [show (fun i=>BitVec.ofNat 32 (f i))=g from funext hg]at this
 exact this
theorem nw_ok(w0 w1 w9 w14:ι->W):nwN (M L) (Q L w0) (Q L w1) (Q L w9) (Q L w14)=Q L (fun i=>w0 i+w9 i+ss0 (w1 i)+ss1 (w14 i)):=by
 unfold nwN
 rw [zl5 L w1 7 18 3 (by omega) (by omega) (by omega),zl5 L w14 17 19 10 (by omega) (by omega) (by omega)]
 have add:∀f g:ι->Nat,Nat.add (P L f) (P L g)=P L (fun i=>f i+g i):=Pk.P_add L
 have e:Nat.add (Nat.add (Nat.add (Q L w0) (Q L w9)) (Q L (fun i=>ss0 (w1 i)))) (Q L (fun i=>ss1 (w14 i)))=P L (fun i=>(w0 i).toNat+(w9 i).toNat+(ss0 (w1 i)).toNat+(ss1 (w14 i)).toNat):=by
  unfold Q
  rw [add,add,add]
 show Nat.land (Nat.add (Nat.add (Nat.add (Q L w0) (Q L w9)) (Q L (fun i=>ss0 (w1 i)))) (Q L (fun i=>ss1 (w14 i)))) (M L)=_
 rw [e]
 refine z8o L _ (fun i=> ?_) fun i=> ?_
 ·have:=(w0 i).isLt;have:=(w9 i).isLt;have:=(ss0 (w1 i)).isLt;have:=(ss1 (w14 i)).isLt;omega
 ·apply BitVec.eq_of_toNat_eq;simp only [BitVec.toNat_ofNat,BitVec.toNat_add];omega
end
def wx(s:List UInt8)(t:Nat):W:=z34 s (z14 s t)
theorem z7z(s:List UInt8):∀n,(z14 s n).length=n
 | 0=>rfl
 |n+1=>by simp [z14,z7z s n]
theorem z9b(s:List UInt8):∀(n t:Nat),t<n->wat (z14 s n) t=wx s t
 |n+1,t,h=>by
  unfold wat
  rw [z14,List.getD_eq_getElem?_getD]
  by_cases h1:t<n
  ·rw [List.getElem?_append_left (by rw [z7z];exact h1),<-List.getD_eq_getElem?_getD]
   exact z9b s n t h1
  ·obtain rfl:t=n:=by omega
   rw [List.getElem?_append_right (by rw [z7z];omega),z7z,Nat.sub_self]
   rfl
theorem wx_lo(s:List UInt8)(t:Nat)(h:t<16):wx s t=zz s t:=by
 unfold wx z34
 rw [z7z,if_pos h]
theorem wx_hi(s:List UInt8)(t:Nat):wx s (t+16)=wx s t+wx s (t+9)+ss0 (wx s (t+1))+ss1 (wx s (t+14)):=by
 conv=>lhs;unfold wx z34
 rw [z7z,if_neg (by omega),z9b s _ _ (by omega),z9b s _ _ (by omega),z9b s _ _ (by omega),z9b s _ _ (by omega)]
 rw [show t+16-16=t by omega,show t+16-7=t+9 by omega,show t+16-15=t+1 by omega,show t+16-2=t+14 by omega]
theorem zl2(s:List UInt8)(v:V8)(n:Nat)(h:n<64):rnds s v (n+1)=rnd (rnds s v n) (kAt n) (wx s n):=by
 rw [rnds,z9b s 64 n h]
def kN(t:Nat):Nat:=(kAt t).toNat
section
variable {ι:Type} (L:List ι)
theorem ziv(s:ι->List UInt8)(v:ι->V8):∀(n t:Nat),t+n=64->
  goN (M L) (one L) ((List.range' t n).map kN) (Q L fun i=>(rnds (s i) (v i) t).a) (Q L fun i=>(rnds (s i) (v i) t).b) (Q L fun i=>(rnds (s i) (v i) t).c) (Q L fun i=>(rnds (s i) (v i) t).d)
   (Q L fun i=>(rnds (s i) (v i) t).e) (Q L fun i=>(rnds (s i) (v i) t).f) (Q L fun i=>(rnds (s i) (v i) t).g) (Q L fun i=>(rnds (s i) (v i) t).h)
   (Q L fun i=>wx (s i) t) (Q L fun i=>wx (s i) (t+1)) (Q L fun i=>wx (s i) (t+2)) (Q L fun i=>wx (s i) (t+3)) (Q L fun i=>wx (s i) (t+4)) (Q L fun i=>wx (s i) (t+5)) (Q L fun i=>wx (s i) (t+6)) (Q L fun i=>wx (s i) (t+7))
   (Q L fun i=>wx (s i) (t+8)) (Q L fun i=>wx (s i) (t+9)) (Q L fun i=>wx (s i) (t+10)) (Q L fun i=>wx (s i) (t+11)) (Q L fun i=>wx (s i) (t+12)) (Q L fun i=>wx (s i) (t+13)) (Q L fun i=>wx (s i) (t+14)) (Q L fun i=>wx (s i) (t+15))=
  ⟨Q L fun i=>(rnds (s i) (v i) 64).a,Q L fun i=>(rnds (s i) (v i) 64).b,Q L fun i=>(rnds (s i) (v i) 64).c,Q L fun i=>(rnds (s i) (v i) 64).d,Q L fun i=>(rnds (s i) (v i) 64).e,Q L fun i=>(rnds (s i) (v i) 64).f,Q L fun i=>(rnds (s i) (v i) 64).g,Q L fun i=>(rnds (s i) (v i) 64).h⟩
 | 0,t,h=>by
  obtain rfl:t=64:=by omega
  exact zqf ..
 |n+1,t,h=>by
  have ih:=ziv s v n (t+1) (by omega)
  rw [List.range'_succ,List.map_cons,zqe]
  have e1:t1N (M L) (one L) (Q L fun i=>(rnds (s i) (v i) t).e) (Q L fun i=>(rnds (s i) (v i) t).f) (Q L fun i=>(rnds (s i) (v i) t).g) (Q L fun i=>(rnds (s i) (v i) t).h) (kN t) (Q L fun i=>wx (s i) t)=_:=t1_ok L _ _ _ _ _ (kAt t)
  rw [e1,t2_ok L,nw_ok L]
  have add:∀f g:ι->Nat,Nat.add (P L f) (P L g)=P L (fun i=>f i+g i):=Pk.P_add L
  rw [add]
  have e2:Nat.add (Q L fun i=>(rnds (s i) (v i) t).d) (P L fun i=>((rnds (s i) (v i) t).h).toNat+(bs1 (rnds (s i) (v i) t).e).toNat+(chW (rnds (s i) (v i) t).e (rnds (s i) (v i) t).f (rnds (s i) (v i) t).g).toNat+(kAt t).toNat+(wx (s i) t).toNat)=P L _:=add _ _
  rw [e2]
  rw [z8o L (fun i=>(rnds (s i) (v i) (t+1)).a) ?_ ?_,z8o L (fun i=>(rnds (s i) (v i) (t+1)).e) ?_ ?_]
  ·have hw:(fun i=>wx (s i) t+wx (s i) (t+9)+ss0 (wx (s i) (t+1))+ss1 (wx (s i) (t+14)))=fun i=>wx (s i) (t+1+15):=by
    funext i
    rw [show t+1+15=t+16 by omega,wx_hi]
   have hs:∀i,rnds (s i) (v i) (t+1)=rnd (rnds (s i) (v i) t) (kAt t) (wx (s i) t):=fun i=>zl2 _ _ _ (by omega)
   rw [hw]
   rw [<-ih]
   simp only [hs,rnd,Nat.add_assoc,Nat.reduceAdd]
  all_goals intro i
  all_goals (try dsimp only)
  all_goals (have hs:rnds (s i) (v i) (t+1)=rnd (rnds (s i) (v i) t) (kAt t) (wx (s i) t):=zl2 _ _ _ (by omega))
  all_goals (try rw [hs])
  all_goals (generalize rnds (s i) (v i) t=r;generalize wx (s i) t=w;generalize kAt t=k)
  all_goals try simp only [rnd]
  all_goals (generalize bs1 r.e=p1;generalize chW r.e r.f r.g=p2;generalize bs0 r.a=p3;generalize majW r.a r.b r.c=p4)
  all_goals (have:=r.a.isLt;have:=r.d.isLt;have:=r.h.isLt;have:=w.isLt;have:=k.isLt;have:=p1.isLt;have:=p2.isLt;have:=p3.isLt;have:=p4.isLt)
  all_goals first|omega|(simp only [BitVec.ofNat_add,BitVec.ofNat_toNat,BitVec.setWidth_eq])
end
end
section
set_option maxRecDepth 4000
open Pk (P Q M one pkN)
def k64:List Nat:=[1116352408,1899447441,3049323471,3921009573,961987163,1508970993,2453635748,2870763221,3624381080,310598401,607225278,1426881987,1925078388,2162078206,2614888103,3248222580,3835390401,4022224774,264347078,604807628,770255983,1249150122,1555081692,1996064986,2554220882,2821834349,2952996808,3210313671,3336571891,3584528711,113926993,338241895,666307205,773529912,1294757372,1396182291,1695183700,1986661051,2177026350,2456956037,2730485921,2820302411,3259730800,3345764771,3516065817,3600352804,4094571909,275423344,430227734,506948616,659060556,883997877,958139571,1322822218,1537002063,1747873779,1955562222,2024104815,2227730452,2361852424,2428436474,2756734187,3204031479,3329325298]
theorem k64_is:(List.range' 0 64).map kN=k64:=by decide+kernel
noncomputable def finN{α:Type}(m a b c d e f g h:Nat)(k:Nat->Nat->Nat->Nat->Nat->Nat->Nat->Nat->α)(r:S8):α:=
 S8.rec (motive:=fun _=>α) (fun ra rb rc rd re rf rg rh=>
  frc (Nat.land (Nat.add ra a) m) fun a'=>frc (Nat.land (Nat.add rb b) m) fun b'=>frc (Nat.land (Nat.add rc c) m) fun c'=>frc (Nat.land (Nat.add rd d) m) fun d'=>
  frc (Nat.land (Nat.add re e) m) fun e'=>frc (Nat.land (Nat.add rf f) m) fun f'=>frc (Nat.land (Nat.add rg g) m) fun g'=>frc (Nat.land (Nat.add rh h) m) fun h'=>k a' b' c' d' e' f' g' h') r
def r64(v:V8)(s:List UInt8):V8:=rnds s v 64
theorem zq0{α:Type}(m a b c d e f g h:Nat)(k:Nat->Nat->Nat->Nat->Nat->Nat->Nat->Nat->α)(ra rb rc rd re rf rg rh:Nat):
  finN m a b c d e f g h k ⟨ra,rb,rc,rd,re,rf,rg,rh⟩=
   k (Nat.land (Nat.add ra a) m) (Nat.land (Nat.add rb b) m) (Nat.land (Nat.add rc c) m) (Nat.land (Nat.add rd d) m) (Nat.land (Nat.add re e) m) (Nat.land (Nat.add rf f) m) (Nat.land (Nat.add rg g) m) (Nat.land (Nat.add rh h) m):=by
 unfold finN
 dsimp only
 rw [zx,zx,zx,zx,zx,zx,zx,zx]
theorem mix_a(v:V8)(s:List UInt8):(mixS v s).a=(r64 v s).a+v.a:=by unfold r64 mixS V8.add;exact Eq.refl _
theorem mix_b(v:V8)(s:List UInt8):(mixS v s).b=(r64 v s).b+v.b:=by unfold r64 mixS V8.add;exact Eq.refl _
theorem mix_c(v:V8)(s:List UInt8):(mixS v s).c=(r64 v s).c+v.c:=by unfold r64 mixS V8.add;exact Eq.refl _
theorem mix_d(v:V8)(s:List UInt8):(mixS v s).d=(r64 v s).d+v.d:=by unfold r64 mixS V8.add;exact Eq.refl _
theorem mix_e(v:V8)(s:List UInt8):(mixS v s).e=(r64 v s).e+v.e:=by unfold r64 mixS V8.add;exact Eq.refl _
theorem mix_f(v:V8)(s:List UInt8):(mixS v s).f=(r64 v s).f+v.f:=by unfold r64 mixS V8.add;exact Eq.refl _
theorem mix_g(v:V8)(s:List UInt8):(mixS v s).g=(r64 v s).g+v.g:=by unfold r64 mixS V8.add;exact Eq.refl _
theorem mix_h(v:V8)(s:List UInt8):(mixS v s).h=(r64 v s).h+v.h:=by unfold r64 mixS V8.add;exact Eq.refl _
section
variable {ι:Type} (L:List ι)
theorem zqd(s:ι->List UInt8)(v:ι->V8):
  goN (M L) (one L) k64 (Q L fun i=>(v i).a) (Q L fun i=>(v i).b) (Q L fun i=>(v i).c) (Q L fun i=>(v i).d) (Q L fun i=>(v i).e) (Q L fun i=>(v i).f) (Q L fun i=>(v i).g) (Q L fun i=>(v i).h)
   (Q L fun i=>zz (s i) 0) (Q L fun i=>zz (s i) 1) (Q L fun i=>zz (s i) 2) (Q L fun i=>zz (s i) 3) (Q L fun i=>zz (s i) 4) (Q L fun i=>zz (s i) 5) (Q L fun i=>zz (s i) 6) (Q L fun i=>zz (s i) 7)
   (Q L fun i=>zz (s i) 8) (Q L fun i=>zz (s i) 9) (Q L fun i=>zz (s i) 10) (Q L fun i=>zz (s i) 11) (Q L fun i=>zz (s i) 12) (Q L fun i=>zz (s i) 13) (Q L fun i=>zz (s i) 14) (Q L fun i=>zz (s i) 15)=
  ⟨Q L fun i=>(r64 (v i) (s i)).a,Q L fun i=>(r64 (v i) (s i)).b,Q L fun i=>(r64 (v i) (s i)).c,Q L fun i=>(r64 (v i) (s i)).d,Q L fun i=>(r64 (v i) (s i)).e,Q L fun i=>(r64 (v i) (s i)).f,Q L fun i=>(r64 (v i) (s i)).g,Q L fun i=>(r64 (v i) (s i)).h⟩:=by
 have g:=ziv L s v 64 0 rfl
 rw [k64_is]at g
 have hw:∀j,j<16->(fun i=>wx (s i) (0+j))=fun i=>zz (s i) j:=fun j hj=>by funext i;rw [Nat.zero_add,wx_lo _ _ hj]
 have hw0:(fun i=>wx (s i) 0)=fun i=>zz (s i) 0:=by funext i;rw [wx_lo _ _ (by omega)]
 rw [hw0,hw 1 (by omega),hw 2 (by omega),hw 3 (by omega),hw 4 (by omega),hw 5 (by omega),hw 6 (by omega),hw 7 (by omega),hw 8 (by omega),hw 9 (by omega),hw 10 (by omega),hw 11 (by omega),hw 12 (by omega),hw 13 (by omega),hw 14 (by omega),hw 15 (by omega)]at g
 have r0:∀s v,rnds s v 0=v:=fun _ _=>rfl
 have e64:∀s v,rnds s v 64=r64 v s:=fun s v=>by unfold r64;exact Eq.refl _
 simp only [r0,e64]at g
 exact g
attribute [local irreducible] r64 k64
theorem z6a(f g:ι->W):Nat.land (Nat.add (Q L f) (Q L g)) (M L)=Q L (fun i=>f i+g i):=by
 have add:∀f g:ι->Nat,Nat.add (P L f) (P L g)=P L (fun i=>f i+g i):=Pk.P_add L
 have e:Nat.add (Q L f) (Q L g)=P L (fun i=>(f i).toNat+(g i).toNat):=by
  unfold Q
  rw [add]
 rw [e]
 refine z8o L _ (fun i=> ?_) fun i=> ?_
 ·have:=(f i).isLt;have:=(g i).isLt;omega
 ·simp only [BitVec.ofNat_add,BitVec.ofNat_toNat,BitVec.setWidth_eq]
theorem zbl{α:Type}(s:ι->List UInt8)(v:ι->V8)(w0 w1 w2 w3 w4 w5 w6 w7 w8 w9 w10 w11 w12 w13 w14 w15:Nat)(k:Nat->Nat->Nat->Nat->Nat->Nat->Nat->Nat->α)
  (h0:w0=Q L fun i=>zz (s i) 0) (h1:w1=Q L fun i=>zz (s i) 1) (h2:w2=Q L fun i=>zz (s i) 2) (h3:w3=Q L fun i=>zz (s i) 3) (h4:w4=Q L fun i=>zz (s i) 4) (h5:w5=Q L fun i=>zz (s i) 5) (h6:w6=Q L fun i=>zz (s i) 6) (h7:w7=Q L fun i=>zz (s i) 7)
  (h8:w8=Q L fun i=>zz (s i) 8) (h9:w9=Q L fun i=>zz (s i) 9) (h10:w10=Q L fun i=>zz (s i) 10) (h11:w11=Q L fun i=>zz (s i) 11) (h12:w12=Q L fun i=>zz (s i) 12) (h13:w13=Q L fun i=>zz (s i) 13) (h14:w14=Q L fun i=>zz (s i) 14) (h15:w15=Q L fun i=>zz (s i) 15):
  finN (M L) (Q L fun i=>(v i).a) (Q L fun i=>(v i).b) (Q L fun i=>(v i).c) (Q L fun i=>(v i).d) (Q L fun i=>(v i).e) (Q L fun i=>(v i).f) (Q L fun i=>(v i).g) (Q L fun i=>(v i).h) k
   (goN (M L) (one L) k64 (Q L fun i=>(v i).a) (Q L fun i=>(v i).b) (Q L fun i=>(v i).c) (Q L fun i=>(v i).d) (Q L fun i=>(v i).e) (Q L fun i=>(v i).f) (Q L fun i=>(v i).g) (Q L fun i=>(v i).h) w0 w1 w2 w3 w4 w5 w6 w7 w8 w9 w10 w11 w12 w13 w14 w15)=
  k (Q L fun i=>(mixS (v i) (s i)).a) (Q L fun i=>(mixS (v i) (s i)).b) (Q L fun i=>(mixS (v i) (s i)).c) (Q L fun i=>(mixS (v i) (s i)).d) (Q L fun i=>(mixS (v i) (s i)).e) (Q L fun i=>(mixS (v i) (s i)).f) (Q L fun i=>(mixS (v i) (s i)).g) (Q L fun i=>(mixS (v i) (s i)).h):=by
 subst h0 h1 h2 h3 h4 h5 h6 h7 h8 h9 h10 h11 h12 h13 h14 h15
 have g:=zqd L s v
 rw [g,zq0,z6a,z6a,z6a,z6a,z6a,z6a,z6a,z6a]
 simp only [mix_a,mix_b,mix_c,mix_d,mix_e,mix_f,mix_g,mix_h]
end
end
section
set_option maxRecDepth 4000
open Pk (P Q M one pkN)
theorem zev:∀(l m:List Nat),pkN (l++m)=pkN l+2^(64*l.length)*pkN m
 | [],m=>by simp [pkN]
 |x::l,m=>by
  have h:2^(64*(l.length+1))=2^64*2^(64*l.length):=by rw [<-Nat.pow_add];congr 1;omega
  rw [List.cons_append,pkN,pkN,zev l m,List.length_cons,h,Nat.mul_add,Nat.mul_assoc]
  omega
theorem zgu(f:Nat->Nat)(n:Nat):P (List.range (n+1)) f=P (List.range n) f+2^(64*n)*f n:=by
 unfold P
 rw [List.range_succ,List.map_append,zev,List.length_map,List.length_range]
 simp [pkN]
noncomputable def pkR(f:Nat->Nat)(n acc:Nat):Nat:=
 Nat.rec (motive:=fun _=>Nat->Nat) (fun acc=>acc) (fun k ih acc=>frc (Nat.add (Nat.mul acc 18446744073709551616) (f k)) ih) n acc
theorem ztk(f:Nat->Nat)(acc:Nat):pkR f 0 acc=acc:=rfl
theorem ztj(f:Nat->Nat)(n acc:Nat):pkR f (n+1) acc=pkR f n (Nat.add (Nat.mul acc 18446744073709551616) (f n)):=by
 show frc _ _=_
 rw [zx]
 rfl
theorem zkd(f:Nat->Nat):∀(n acc:Nat),pkR f n acc=P (List.range n) f+2^(64*n)*acc
 | 0,acc=>by rw [ztk];simp [P,pkN]
 |n+1,acc=>by
  rw [ztj,zkd f n,zgu]
  have h:2^(64*(n+1))=2^(64*n)*2^64:=by rw [<-Nat.pow_add];congr 1
  have e:Nat.add (Nat.mul acc 18446744073709551616) (f n)=acc*2^64+f n:=rfl
  rw [h,e,Nat.mul_add,Nat.mul_assoc,Nat.mul_comm acc]
  omega
def ones(n:Nat):Nat:=Nat.div (Nat.sub (Nat.pow 2 (Nat.mul 64 n)) 1) 18446744073709551615
theorem zk0:∀n,(2^64-1)*P (List.range n) (fun _=>1)+1=2^(64*n)
 | 0=>rfl
 |n+1=>by
  have ih:=zk0 n
  have h:2^(64*(n+1))=2^64*2^(64*n):=by rw [<-Nat.pow_add];congr 1;omega
  rw [zgu,h]
  omega
theorem z8p(n:Nat):ones n=one (List.range n):=by
 have h:=zk0 n
 have e:ones n=(2^(64*n)-1)/(2^64-1):=rfl
 rw [e,<-h,Nat.add_sub_cancel,Nat.mul_div_cancel_left _ (by decide)]
 rfl
theorem M_is(n:Nat):Nat.mul (ones n) 4294967295=M (List.range n):=by
 rw [z8p]
 have:=Pk.P_mul (List.range n) (fun _=>1) 4294967295
 simpa [one,M]using this
theorem zhx(n:Nat)(c:W):Nat.mul (ones n) c.toNat=Q (List.range n) (fun _=>c):=by
 rw [z8p]
 have:=Pk.P_mul (List.range n) (fun _=>1) c.toNat
 simpa [one,Q]using this
section
variable {ι:Type} (L:List ι)
theorem q_shl(f:ι->W):Nat.land (Nat.mul (Q L f) 16777216) (M L)=Q L (fun i=>f i<<<24):=by
 have e:Nat.mul (Q L f) 16777216=P L (fun i=>(f i).toNat*16777216):=by
  unfold Q
  exact Pk.P_mul L _ _
 rw [e]
 refine z8o L _ (fun i=> ?_) fun i=> ?_
 ·have:=(f i).isLt;omega
 ·apply BitVec.eq_of_toNat_eq;rw [BitVec.toNat_ofNat,BitVec.toNat_shiftLeft,Nat.shiftLeft_eq]
theorem q_shr(f:ι->W):Nat.land (Nat.shiftRight (Q L f) 8) (M L)=Q L (fun i=>f i>>>8):=by
 apply Pk.Q_ext
 intro q r hr
 have e:Nat.land (Nat.shiftRight (Q L f) 8) (M L)=(Q L f>>>8) &&& M L:=rfl
 rw [e,Nat.testBit_and,Pk.M_bit L q r hr,Nat.testBit_shiftRight]
 by_cases h:r<32
 ·rw [show 8+(64*q+r)=64*q+(8+r)by omega,Pk.Q_bit L q (8+r) (by omega)]
  cases L[q]? <;>simp [h]
 ·cases L[q]? with
  |none=>simp
  |some x=>simp [h,BitVec.getLsbD_of_ge _ _ (show 32<=r by omega)]
def shW(x y:W):W:=x<<<24+y>>>8
noncomputable def shN(m x y:Nat):Nat:=Nat.land (Nat.add (Nat.land (Nat.mul x 16777216) m) (Nat.land (Nat.shiftRight y 8) m)) m
theorem z42(f g:ι->W):shN (M L) (Q L f) (Q L g)=Q L (fun i=>shW (f i) (g i)):=by
 unfold shN
 rw [q_shl,q_shr,z6a]
 rfl
end
theorem z9e(f:Nat->W){N a c:Nat}(h:a+c<=N):Nat.land (Nat.shiftRight (Q (List.range N) f) (64*a)) (2^(64*c)-1)=Q (List.range c) (fun i=>f (a+i)):=by
 apply Pk.Q_ext
 intro q r hr
 have e:Nat.land (Nat.shiftRight (Q (List.range N) f) (64*a)) (2^(64*c)-1)=(Q (List.range N) f>>>(64*a)) &&& (2^(64*c)-1):=rfl
 rw [e,Nat.testBit_and,Nat.testBit_shiftRight,show 64*a+(64*q+r)=64*(a+q)+r by omega,Pk.Q_bit _ _ r hr,Nat.testBit_two_pow_sub_one]
 by_cases hq:q<c
 ·rw [List.getElem?_range (by omega),List.getElem?_range hq,decide_eq_true (by omega)];simp
 ·rw [decide_eq_false (by omega),Bool.and_false,List.getElem?_eq_none (by simp;omega)];rfl
theorem z6j(f:Nat->W){N a:Nat}(h:a<N):Nat.land (Nat.shiftRight (Q (List.range N) f) (64*a)) 18446744073709551615=(f a).toNat:=by
 have:=z9e f (a:=a) (c:=1) (N:=N) (by omega)
 rw [show (2:Nat)^(64*1)-1=18446744073709551615 from rfl]at this
 rw [this]
 simp [Q,P,pkN,List.range_succ]
set_option exponentiation.threshold 1000 in
theorem Q_prev(f:Nat->W)(c:W)(n:Nat):Nat.add (Nat.mul (Nat.land (Q (List.range (8+n)) f) (2^(64*n)-1)) (2^512)) (Nat.mul (ones 8) c.toNat)=Q (List.range (8+n)) (fun l=>if l<8 then c else f (l-8)):=by
 have e:=z9e f (N:=8+n) (a:=0) (c:=n) (by omega)
 have e2:Nat.land (Q (List.range (8+n)) f) (2^(64*n)-1)=Q (List.range n) f:=by
  have:Nat.shiftRight (Q (List.range (8+n)) f) (64*0)=Q (List.range (8+n)) f:=rfl
  rw [this]at e
  rw [e]
  simp
 rw [e2,zhx]
 unfold Q P
 rw [List.range_add,List.map_append,zev,List.length_map,List.length_range,List.map_map]
 have e3:(List.range 8).map (fun l=>(if l<8 then c else f (l-8)).toNat)=(List.range 8).map (fun _=>c.toNat):=by
  apply List.map_congr_left
  intro l hl
  rw [if_pos (List.mem_range.1 hl)]
 have e4:(List.range n).map ((fun l=>(if l<8 then c else f (l-8)).toNat) ∘ fun x=>8+x)=(List.range n).map (fun l=>(f l).toNat):=by
  apply List.map_congr_left
  intro l hl
  simp only [Function.comp]
  rw [if_neg (by omega),show 8+l-8=l by omega]
 rw [e3,e4]
 show pkN ((List.range n).map fun i=>(f i).toNat)*2^512+_=_
 rw [Nat.mul_comm,Nat.add_comm]
end
section
set_option maxRecDepth 4000
open Pk (P Q M one pkN)
/-! Words of bytes: a byte ahead of whole words. -/
def enc(ws:List W):List UInt8:=ws.flatMap fun x=>be 4 x.toNat
def lb(x:W):UInt8:=UInt8.ofNat x.toNat
theorem be4(n:Nat):be 4 n=[UInt8.ofNat (n/16777216),UInt8.ofNat (n/65536),UInt8.ofNat (n/256),UInt8.ofNat n]:=by
 simp [be,Nat.div_div_eq_div_mul]
theorem zdw(x:W)(l:List W):enc (x::l)=UInt8.ofNat (x.toNat/16777216)::UInt8.ofNat (x.toNat/65536)::UInt8.ofNat (x.toNat/256)::lb x::enc l:=by
 simp [enc,be4,lb]
theorem zdv(a b:List W):enc (a++b)=enc a++enc b:=by simp [enc]
theorem z8h:∀l:List W,(enc l).length=4*l.length
 | []=>rfl
 |x::l=>by rw [zdw];simp [z8h l];omega
theorem zq1(y x:W)(t:List UInt8):zz (lb y::UInt8.ofNat (x.toNat/16777216)::UInt8.ofNat (x.toNat/65536)::UInt8.ofNat (x.toNat/256)::t) 0=shW y x:=by
 unfold zz shW
 apply BitVec.eq_of_toNat_eq
 simp only [Nat.mul_zero,List.drop_zero,List.take_succ_cons,List.take_zero,getS,List.take_nil,val,List.foldl_cons,List.foldl_nil,lb,UInt8.toNat_ofNat',BitVec.toNat_ofNat,BitVec.toNat_add,BitVec.toNat_shiftLeft,BitVec.toNat_ushiftRight,Nat.shiftLeft_eq,Nat.shiftRight_eq_div_pow]
 have:=x.isLt
 have:=y.isLt
 omega
theorem zd8(s:List UInt8)(a i:Nat):zz (s.drop (4*a)) i=zz s (a+i):=by
 unfold zz
 rw [List.drop_drop]
 congr 4
 omega
theorem zdx:∀(i:Nat) (y:W) (l:List W) (t:List UInt8),i<l.length->zz (lb y::(enc l++t)) i=shW ((y::l).getD i 0) ((y::l).getD (i+1) 0)
 | 0,y,x::l,t,_=>by
  rw [zdw]
  exact zq1 y x _
 |i+1,y,x::l,t,h=>by
  have e:(lb y::(enc (x::l)++t)).drop (4*1)=lb x::(enc l++t):=by rw [zdw];rfl
  have ih:=zdx i x l t (by simpa using h)
  rw [<-e,zd8]at ih
  rw [show i+1=1+i by omega,ih]
  simp [List.getD_eq_getElem?_getD,Nat.add_comm 1 i]
theorem zgf(s:List UInt8){n i:Nat}(h:4*i+4<=n):zz (s.take n) i=zz s i:=by
 unfold zz
 rw [List.drop_take,List.take_take,Nat.min_eq_left (by omega)]
theorem zk8(y:W)(l:List W)(n:Nat)(h1:l.length*4+1=n):padS (lb y::enc l)=lb y::(enc l++128::(List.replicate ((119-n%64)%64) 0++be 8 (n*8))):=by
 unfold padS
 rw [List.length_cons,z8h,show 4*l.length+1=n by omega]
 rfl
def padT:List W:=[2147483648#32,0#32,0#32,0#32,0#32,0#32,0#32,67584#32]
theorem zls(v:V8):padS (3::outV v)=(lb 3#32::enc (v.l++padT)).take 64/\ (padS (3::outV v)).length=64:=by
 have h:=zk8 3#32 v.l 33 (by rfl)
 have e:padS (3::outV v)=lb 3#32::(enc v.l++128::(List.replicate 22 0++be 8 264)):=h
 have e2:(lb 3#32::enc (v.l++padT)).take 64=lb 3#32::(enc v.l++(enc padT).take 31):=by
  rw [zdv,show 64=63+1 from rfl,List.take_succ_cons,show (63:Nat)=(enc v.l).length+31 by rw [z8h];rfl,List.take_length_add_append]
 have e3:(enc padT).take 31=128::(List.replicate 22 0++be 8 264):=by decide+kernel
 refine⟨by rw [e,e2,e3],?_⟩
 rw [e]
 simp [z8h,V8.l,be]
theorem zv3(v:V8)(i:Nat)(h:i<16):zz (padS (3::outV v)) i=shW ((3#32::(v.l++padT)).getD i 0) ((3#32::(v.l++padT)).getD (i+1) 0):=by
 rw [(zls v).1,zgf _ (by omega)]
 have:=zdx i 3#32 (v.l++padT) [] (by simp [V8.l,padT];omega)
 rwa [List.append_nil]at this
theorem zrw(v:V8){s t:List UInt8}(h:∀i,i<16->zz s i=zz t i):mixS v s=mixS v t:=by
 have hw:∀n,z14 s n=z14 t n:=by
  intro n
  induction n with
  |zero=>rfl
  |succ n ih=>
   rw [z14,z14,ih]
   congr 2
   unfold z34
   rw [z7z]
   split
   ·rename_i h1;exact h n h1
   ·rfl
 have hr:∀n,rnds s v n=rnds t v n:=by
  intro n
  induction n with
  |zero=>rfl
  |succ n ih=>rw [rnds,rnds,ih,hw]
 unfold mixS
 rw [hr]
theorem zjr(v:V8)(s:List UInt8):mixS v (s.take 64)=mixS v s:=zrw v fun i h=>zgf s (by omega)
theorem zhd(v:V8)(s:List UInt8):blocks 1 v s=mixS v s:=by
 rw [blocks,zjr];rfl
end
section
set_option maxRecDepth 4000
open Pk (P Q M one pkN)
def m512:Nat:=13407807929942597099574024998205846127479365820592393377723561443721764030073546976801874298166903427690031858186486050853753882811946569946433649006084095
theorem zeh:m512=2^(64*8)-1:=by decide+kernel
noncomputable def za9(m o u0 u1 u2 u3 u4 u5 u6 u7:Nat)(k:Nat->Nat->Nat->Nat->Nat->Nat->Nat->Nat->S8)(bs:List Nat):Nat->Nat->Nat->Nat->Nat->Nat->Nat->Nat->S8:=
 List.rec (motive:=fun _=>Nat->Nat->Nat->Nat->Nat->Nat->Nat->Nat->S8) k
  (fun j _ ih a b c d e f g h=>frc (Nat.mul j 1024) fun s=>frc (Nat.add s 512) fun s'=>
   frc (Nat.land (Nat.shiftRight u0 s) m512) fun w0=>
   frc (Nat.land (Nat.shiftRight u1 s) m512) fun w1=>
   frc (Nat.land (Nat.shiftRight u2 s) m512) fun w2=>
   frc (Nat.land (Nat.shiftRight u3 s) m512) fun w3=>
   frc (Nat.land (Nat.shiftRight u4 s) m512) fun w4=>
   frc (Nat.land (Nat.shiftRight u5 s) m512) fun w5=>
   frc (Nat.land (Nat.shiftRight u6 s) m512) fun w6=>
   frc (Nat.land (Nat.shiftRight u7 s) m512) fun w7=>
   frc (Nat.land (Nat.shiftRight u0 s') m512) fun w8=>
   frc (Nat.land (Nat.shiftRight u1 s') m512) fun w9=>
   frc (Nat.land (Nat.shiftRight u2 s') m512) fun w10=>
   frc (Nat.land (Nat.shiftRight u3 s') m512) fun w11=>
   frc (Nat.land (Nat.shiftRight u4 s') m512) fun w12=>
   frc (Nat.land (Nat.shiftRight u5 s') m512) fun w13=>
   frc (Nat.land (Nat.shiftRight u6 s') m512) fun w14=>
   frc (Nat.land (Nat.shiftRight u7 s') m512) fun w15=>
   finN m a b c d e f g h ih (goN m o k64 a b c d e f g h w0 w1 w2 w3 w4 w5 w6 w7 w8 w9 w10 w11 w12 w13 w14 w15)) bs
theorem zrt(m o u0 u1 u2 u3 u4 u5 u6 u7:Nat)(k:Nat->Nat->Nat->Nat->Nat->Nat->Nat->Nat->S8)(j:Nat)(bs:List Nat)(a b c d e f g h:Nat):za9 m o u0 u1 u2 u3 u4 u5 u6 u7 k (j::bs) a b c d e f g h=
  finN m a b c d e f g h (za9 m o u0 u1 u2 u3 u4 u5 u6 u7 k bs) (goN m o k64 a b c d e f g h (Nat.land (Nat.shiftRight u0 (Nat.mul j 1024)) m512)
   (Nat.land (Nat.shiftRight u1 (Nat.mul j 1024)) m512)
   (Nat.land (Nat.shiftRight u2 (Nat.mul j 1024)) m512)
   (Nat.land (Nat.shiftRight u3 (Nat.mul j 1024)) m512)
   (Nat.land (Nat.shiftRight u4 (Nat.mul j 1024)) m512)
   (Nat.land (Nat.shiftRight u5 (Nat.mul j 1024)) m512)
   (Nat.land (Nat.shiftRight u6 (Nat.mul j 1024)) m512)
   (Nat.land (Nat.shiftRight u7 (Nat.mul j 1024)) m512)
   (Nat.land (Nat.shiftRight u0 (Nat.add (Nat.mul j 1024) 512)) m512)
   (Nat.land (Nat.shiftRight u1 (Nat.add (Nat.mul j 1024) 512)) m512)
   (Nat.land (Nat.shiftRight u2 (Nat.add (Nat.mul j 1024) 512)) m512)
   (Nat.land (Nat.shiftRight u3 (Nat.add (Nat.mul j 1024) 512)) m512)
   (Nat.land (Nat.shiftRight u4 (Nat.add (Nat.mul j 1024) 512)) m512)
   (Nat.land (Nat.shiftRight u5 (Nat.add (Nat.mul j 1024) 512)) m512)
   (Nat.land (Nat.shiftRight u6 (Nat.add (Nat.mul j 1024) 512)) m512)
   (Nat.land (Nat.shiftRight u7 (Nat.add (Nat.mul j 1024) 512)) m512)):=by
 unfold za9
 dsimp only
 rw [zx,zx,zx,zx,zx,zx,zx,zx,zx,zx,zx,zx,zx,zx,zx,zx,zx,zx]
def z22(v2:Nat->V8)(i:Nat):List W:=(List.range 512).flatMap fun k=>(v2 (8*k+i)).l
theorem flat8(f:Nat->V8):∀(n k t:Nat),k<n->t<8->((List.range n).flatMap fun k=>(f k).l)[8*k+t]? =(f k).l[t]?
 |n+1,k,t,hk,ht=>by
  have hl:∀n,((List.range n).flatMap fun k=>(f k).l).length=8*n:=by
   intro n
   induction n with
   |zero=>rfl
   |succ n ih=>rw [List.range_succ,List.flatMap_append,List.length_append,ih];simp [V8.l];omega
  rw [List.range_succ,List.flatMap_append]
  by_cases h:k<n
  ·rw [List.getElem?_append_left (by rw [hl];omega)]
   exact flat8 f n k t h ht
  ·obtain rfl:k=n:=by omega
   rw [List.getElem?_append_right (by rw [hl];omega),hl,Nat.add_sub_cancel_left]
   simp
theorem z6e(v2:Nat->V8)(i:Nat):(z22 v2 i).length=4096:=by
 unfold z22
 have hl:∀n,((List.range n).flatMap fun k=>(v2 (8*k+i)).l).length=8*n:=by
  intro n
  induction n with
  |zero=>rfl
  |succ n ih=>rw [List.range_succ,List.flatMap_append,List.length_append,ih];simp [V8.l];omega
 rw [hl]
theorem zcv(v2:Nat->V8)(i k t:Nat)(hk:k<512)(ht:t<8):(z22 v2 i)[8*k+t]? =(v2 (8*k+i)).l[t]?:=flat8 (fun k=>v2 (8*k+i)) 512 k t hk ht
def longT:List W:=[2147483648#32,0#32,0#32,0#32,0#32,0#32,0#32,0#32,0#32,0#32,0#32,0#32,0#32,0#32,0#32,33556480#32]
theorem zjo(l:List W)(hl:l.length=4096):padS (4::enc l)=(lb 4#32::enc (l++longT)).take 16448/\ (padS (4::enc l)).length=16448:=by
 have h:=zk8 4#32 l 16385 (by rw [hl])
 have e:padS (4::enc l)=lb 4#32::(enc l++128::(List.replicate 54 0++be 8 131080)):=h
 have e2:(lb 4#32::enc (l++longT)).take 16448=lb 4#32::(enc l++(enc longT).take 63):=by
  rw [zdv,show 16448=16447+1 from rfl,List.take_succ_cons,show (16447:Nat)=(enc l).length+63 by rw [z8h,hl],List.take_length_add_append]
 have e3:(enc longT).take 63=128::(List.replicate 54 0++be 8 131080):=by decide+kernel
 refine⟨by rw [e,e2,e3],?_⟩
 rw [e]
 simp [z8h,hl,be]
theorem zjp(l:List W)(hl:l.length=4096)(i:Nat)(h:i<4112):zz (padS (4::enc l)) i=shW ((4#32::(l++longT)).getD i 0) ((4#32::(l++longT)).getD (i+1) 0):=by
 rw [(zjo l hl).1,zgf _ (by omega)]
 have:=zdx i 4#32 (l++longT) [] (by rw [List.length_append,hl];simp [longT];omega)
 rwa [List.append_nil]at this
def v8w(v:V8)(t:Nat):W:=v.l.getD t 0
def pw(v2:Nat->V8)(t l:Nat):W:=if t=0 then(if l<8 then 4#32 else v8w (v2 (l-8)) 7)else v8w (v2 l) (t-1)
theorem zjn(v2:Nat->V8)(i k t:Nat)(hi:i<8)(hk:k<512)(ht:t<8):zz (padS (4::enc (z22 v2 i))) (8*k+t)=shW (pw v2 t (8*k+i)) (v8w (v2 (8*k+i)) t):=by
 rw [zjp _ (z6e v2 i) _ (by omega)]
 have e1:(4#32::(z22 v2 i++longT)).getD (8*k+t+1) 0=v8w (v2 (8*k+i)) t:=by
  rw [List.getD_eq_getElem?_getD,List.getElem?_cons_succ,List.getElem?_append_left (by rw [z6e];omega),zcv v2 i k t hk ht,<-List.getD_eq_getElem?_getD];rfl
 have e2:(4#32::(z22 v2 i++longT)).getD (8*k+t) 0=pw v2 t (8*k+i):=by
  unfold pw
  by_cases h0:t=0
  ·subst h0
   rw [if_pos rfl]
   by_cases hk0:k=0
   ·subst hk0
    rw [if_pos (by omega)];rfl
   ·rw [if_neg (by omega),show 8*k+0=(8*(k-1)+7)+1 by omega,List.getD_eq_getElem?_getD,List.getElem?_cons_succ,List.getElem?_append_left (by rw [z6e];omega),zcv v2 i (k-1) 7 (by omega) (by omega),<-List.getD_eq_getElem?_getD,show 8*k+i-8=8*(k-1)+i by omega];rfl
  ·rw [if_neg h0,show 8*k+t=(8*k+(t-1))+1 by omega,List.getD_eq_getElem?_getD,List.getElem?_cons_succ,List.getElem?_append_left (by rw [z6e];omega),zcv v2 i k (t-1) hk (by omega),<-List.getD_eq_getElem?_getD];rfl
 rw [e1,e2]
theorem zhc:∀(n:Nat) (v:V8) (s:List UInt8),blocks (n+1) v s=mixS (blocks n v s) (s.drop (64*n))
 | 0,v,s=>by rw [zhd];rfl
 |n+1,v,s=>by
  rw [blocks,zhc n,List.drop_drop,<-blocks,show 64+64*n=64*(n+1)by omega]
def uT(v2:Nat->V8)(t:Nat):Nat:=Q (List.range 4096) fun l=>shW (pw v2 t l) (v8w (v2 l) t)
theorem u_at(v2:Nat->V8)(b:Nat)(hb:b<256)(t:Nat)(ht:t<8):Nat.land (Nat.shiftRight (uT v2 t) (Nat.mul b 1024)) m512=Q (List.range 8) (fun i=>zz ((padS (4::enc (z22 v2 i))).drop (64*b)) t):=by
 have h:=z9e (fun l=>shW (pw v2 t l) (v8w (v2 l) t)) (N:=4096) (a:=16*b) (c:=8) (by omega)
 rw [<-zeh,show 64*(16*b)=Nat.mul b 1024 by show _=b*1024;omega]at h
 unfold uT
 rw [h]
 unfold Q P
 congr 1
 apply List.map_congr_left
 intro i hi
 dsimp only
 rw [show 64*b=4*(16*b)by omega,zd8,show 16*b+t=8*(2*b)+t by omega,zjn v2 i (2*b) t (List.mem_range.1 hi) (by omega) ht,show 8*(2*b)+i=16*b+i by omega]
theorem z7e(v2:Nat->V8)(b:Nat)(hb:b<256)(t:Nat)(ht:t<8):Nat.land (Nat.shiftRight (uT v2 t) (Nat.add (Nat.mul b 1024) 512)) m512=Q (List.range 8) (fun i=>zz ((padS (4::enc (z22 v2 i))).drop (64*b)) (8+t)):=by
 have h:=z9e (fun l=>shW (pw v2 t l) (v8w (v2 l) t)) (N:=4096) (a:=16*b+8) (c:=8) (by omega)
 rw [<-zeh,show 64*(16*b+8)=Nat.add (Nat.mul b 1024) 512 by show _=b*1024+512;omega]at h
 unfold uT
 rw [h]
 unfold Q P
 congr 1
 apply List.map_congr_left
 intro i hi
 dsimp only
 rw [show 64*b=4*(16*b)by omega,zd8,show 16*b+(8+t)=8*(2*b+1)+t by omega,zjn v2 i (2*b+1) t (List.mem_range.1 hi) (by omega) ht,show 8*(2*b+1)+i=16*b+8+i by omega]
theorem zjj(v2:Nat->V8)(k:Nat->Nat->Nat->Nat->Nat->Nat->Nat->Nat->S8):∀(n b:Nat) (v:Nat->V8),b+n=256->
  za9 (M (List.range 8)) (one (List.range 8)) (uT v2 0) (uT v2 1) (uT v2 2) (uT v2 3) (uT v2 4) (uT v2 5) (uT v2 6) (uT v2 7) k (List.range' b n) (Q (List.range 8) fun i=>(v i).a) (Q (List.range 8) fun i=>(v i).b) (Q (List.range 8) fun i=>(v i).c) (Q (List.range 8) fun i=>(v i).d) (Q (List.range 8) fun i=>(v i).e) (Q (List.range 8) fun i=>(v i).f) (Q (List.range 8) fun i=>(v i).g) (Q (List.range 8) fun i=>(v i).h)=
  k (Q (List.range 8) fun i=>(blocks n (v i) ((padS (4::enc (z22 v2 i))).drop (64*b))).a) (Q (List.range 8) fun i=>(blocks n (v i) ((padS (4::enc (z22 v2 i))).drop (64*b))).b) (Q (List.range 8) fun i=>(blocks n (v i) ((padS (4::enc (z22 v2 i))).drop (64*b))).c) (Q (List.range 8) fun i=>(blocks n (v i) ((padS (4::enc (z22 v2 i))).drop (64*b))).d) (Q (List.range 8) fun i=>(blocks n (v i) ((padS (4::enc (z22 v2 i))).drop (64*b))).e) (Q (List.range 8) fun i=>(blocks n (v i) ((padS (4::enc (z22 v2 i))).drop (64*b))).f) (Q (List.range 8) fun i=>(blocks n (v i) ((padS (4::enc (z22 v2 i))).drop (64*b))).g) (Q (List.range 8) fun i=>(blocks n (v i) ((padS (4::enc (z22 v2 i))).drop (64*b))).h)
 | 0,b,v,h=>rfl
 |n+1,b,v,h=>by
  have ih:=zjj v2 k n (b+1) (fun i=>mixS (v i) ((padS (4::enc (z22 v2 i))).drop (64*b))) (by omega)
  rw [List.range'_succ,zrt]
  refine(zbl (List.range 8) (fun i=>(padS (4::enc (z22 v2 i))).drop (64*b)) v _ _ _ _ _ _ _ _ _ _ _ _ _ _ _ _ _ (u_at v2 b (by omega) 0 (by omega)) (u_at v2 b (by omega) 1 (by omega)) (u_at v2 b (by omega) 2 (by omega)) (u_at v2 b (by omega) 3 (by omega)) (u_at v2 b (by omega) 4 (by omega)) (u_at v2 b (by omega) 5 (by omega)) (u_at v2 b (by omega) 6 (by omega)) (u_at v2 b (by omega) 7 (by omega)) (z7e v2 b (by omega) 0 (by omega)) (z7e v2 b (by omega) 1 (by omega)) (z7e v2 b (by omega) 2 (by omega)) (z7e v2 b (by omega) 3 (by omega)) (z7e v2 b (by omega) 4 (by omega)) (z7e v2 b (by omega) 5 (by omega)) (z7e v2 b (by omega) 6 (by omega)) (z7e v2 b (by omega) 7 (by omega))).trans ?_
  refine ih.trans ?_
  have e:∀i,blocks (n+1) (v i) ((padS (4::enc (z22 v2 i))).drop (64*b))=blocks n (mixS (v i) ((padS (4::enc (z22 v2 i))).drop (64*b))) ((padS (4::enc (z22 v2 i))).drop (64*(b+1))):=fun i=>by
   rw [blocks,zjr,List.drop_drop,show 64*b+64=64*(b+1)by omega]
  simp only [e]
end
section
set_option maxRecDepth 4000
open Pk (P Q M one pkN)
def zc6:Nat:=Nat.sub (Nat.pow 2 261632) 1
def p512:Nat:=Nat.pow 2 512
theorem ztd:zc6=2^(64*4088)-1:=by decide+kernel
theorem zte:p512=2^512:=by decide+kernel
noncomputable def zc0(m o z a b c d e f g h:Nat):S8:=
 frc (shN m z (Nat.mul o 2147483648)) fun q0=>
 frc (Nat.mul o 0) fun q1=>
 frc (Nat.mul o 131080) fun q15=>
 finN m a b c d e f g h S8.mk (goN m o k64 a b c d e f g h q0 q1 q1 q1 q1 q1 q1 q1 q1 q1 q1 q1 q1 q1 q1 q15)
noncomputable def zcy(m8 o8 m y0 y1 y2 y3 y4 y5 y6 y7:Nat):S8:=
 frc (shN m (Nat.add (Nat.mul (Nat.land y7 zc6) p512) (Nat.mul o8 4)) y0) fun u0=>
 frc (shN m y0 y1) fun u1=>
 frc (shN m y1 y2) fun u2=>
 frc (shN m y2 y3) fun u3=>
 frc (shN m y3 y4) fun u4=>
 frc (shN m y4 y5) fun u5=>
 frc (shN m y5 y6) fun u6=>
 frc (shN m y6 y7) fun u7=>
 frc (Nat.land (Nat.shiftRight y7 261632) m512) fun z=>
 frc (Nat.mul o8 1779033703) fun na=>
 frc (Nat.mul o8 3144134277) fun nb=>
 frc (Nat.mul o8 1013904242) fun nc=>
 frc (Nat.mul o8 2773480762) fun nd=>
 frc (Nat.mul o8 1359893119) fun ne=>
 frc (Nat.mul o8 2600822924) fun nf=>
 frc (Nat.mul o8 528734635) fun ng=>
 frc (Nat.mul o8 1541459225) fun nh=>
 za9 m8 o8 u0 u1 u2 u3 u4 u5 u6 u7 (zc0 m8 o8 z) (List.range' 0 256) na nb nc nd ne nf ng nh
noncomputable def zct(m8 o8 m o x0 x1 x2 x3 x4 x5 x6 x7:Nat):S8:=
 frc (shN m (Nat.mul o 3) x0) fun s0=>
 frc (shN m x0 x1) fun s1=>
 frc (shN m x1 x2) fun s2=>
 frc (shN m x2 x3) fun s3=>
 frc (shN m x3 x4) fun s4=>
 frc (shN m x4 x5) fun s5=>
 frc (shN m x5 x6) fun s6=>
 frc (shN m x6 x7) fun s7=>
 frc (shN m x7 (Nat.mul o 2147483648)) fun s8=>
 frc (Nat.mul o 0) fun s9=>
 frc (Nat.mul o 264) fun s15=>
 frc (Nat.mul o 1779033703) fun na=>
 frc (Nat.mul o 3144134277) fun nb=>
 frc (Nat.mul o 1013904242) fun nc=>
 frc (Nat.mul o 2773480762) fun nd=>
 frc (Nat.mul o 1359893119) fun ne=>
 frc (Nat.mul o 2600822924) fun nf=>
 frc (Nat.mul o 528734635) fun ng=>
 frc (Nat.mul o 1541459225) fun nh=>
 finN m na nb nc nd ne nf ng nh (zcy m8 o8 m) (goN m o k64 na nb nc nd ne nf ng nh s0 s1 s2 s3 s4 s5 s6 s7 s8 s9 s9 s9 s9 s9 s9 s15)
noncomputable def zc1(wf:Nat->Nat->Nat):S8:=
 frc (ones 4096) fun o=>
 frc (Nat.mul o 4294967295) fun m=>
 frc (ones 8) fun o8=>
 frc (Nat.mul o8 4294967295) fun m8=>
 frc (Nat.land (pkR (wf 0) 4096 0) m) fun w0=>
 frc (Nat.land (pkR (wf 1) 4096 0) m) fun w1=>
 frc (Nat.land (pkR (wf 2) 4096 0) m) fun w2=>
 frc (Nat.land (pkR (wf 3) 4096 0) m) fun w3=>
 frc (Nat.land (pkR (wf 4) 4096 0) m) fun w4=>
 frc (Nat.land (pkR (wf 5) 4096 0) m) fun w5=>
 frc (Nat.land (pkR (wf 6) 4096 0) m) fun w6=>
 frc (Nat.land (pkR (wf 7) 4096 0) m) fun w7=>
 frc (Nat.land (pkR (wf 8) 4096 0) m) fun w8=>
 frc (Nat.land (pkR (wf 9) 4096 0) m) fun w9=>
 frc (Nat.land (pkR (wf 10) 4096 0) m) fun w10=>
 frc (Nat.land (pkR (wf 11) 4096 0) m) fun w11=>
 frc (Nat.land (pkR (wf 12) 4096 0) m) fun w12=>
 frc (Nat.land (pkR (wf 13) 4096 0) m) fun w13=>
 frc (Nat.land (pkR (wf 14) 4096 0) m) fun w14=>
 frc (Nat.land (pkR (wf 15) 4096 0) m) fun w15=>
 frc (Nat.mul o 1779033703) fun na=>
 frc (Nat.mul o 3144134277) fun nb=>
 frc (Nat.mul o 1013904242) fun nc=>
 frc (Nat.mul o 2773480762) fun nd=>
 frc (Nat.mul o 1359893119) fun ne=>
 frc (Nat.mul o 2600822924) fun nf=>
 frc (Nat.mul o 528734635) fun ng=>
 frc (Nat.mul o 1541459225) fun nh=>
 finN m na nb nc nd ne nf ng nh (zct m8 o8 m o) (goN m o k64 na nb nc nd ne nf ng nh w0 w1 w2 w3 w4 w5 w6 w7 w8 w9 w10 w11 w12 w13 w14 w15)
section
variable (v2:Nat->V8)
def tx(i:Nat):List UInt8:=padS (4::enc (z22 v2 i))
theorem zef(i:Nat)(hi:i<8)(j:Nat)(hj:j<16):zz ((tx v2 i).drop (64*256)) j=shW ((v8w (v2 (4088+i)) 7::longT).getD j 0) ((v8w (v2 (4088+i)) 7::longT).getD (j+1) 0):=by
 unfold tx
 rw [show 64*256=4*4096 from rfl,zd8,zjp _ (z6e v2 i) _ (by omega)]
 have e1:∀n,(4#32::(z22 v2 i++longT)).getD (4096+n) 0=(v8w (v2 (4088+i)) 7::longT).getD n 0:=by
  intro n
  match n with
  | 0=>
   rw [Nat.add_zero,show (4096:Nat)=(8*511+7)+1 from rfl,List.getD_eq_getElem?_getD,List.getElem?_cons_succ,List.getElem?_append_left (by rw [z6e];omega),zcv v2 i 511 7 (by omega) (by omega),<-List.getD_eq_getElem?_getD,show 8*511+i=4088+i by omega];rfl
  |n+1=>
   rw [show 4096+(n+1)=(4096+n)+1 by omega,List.getD_eq_getElem?_getD,List.getElem?_cons_succ,List.getElem?_append_right (by rw [z6e];omega),z6e,Nat.add_sub_cancel_left,List.getD_eq_getElem?_getD,List.getElem?_cons_succ]
 rw [e1,Nat.add_assoc,e1]
theorem z8u(n:Nat)(c:W)(k:Nat)(h:c.toNat=k):Nat.mul (one (List.range n)) k=Q (List.range n) (fun _=>c):=by subst h;rw [<-z8p];exact zhx n c
set_option exponentiation.threshold 1000 in
theorem q_prev(f:Nat->W)(c:W)(n N p k:Nat)(hN:N=8+n)(hp:p=2^(64*n)-1)(hk:c.toNat=k):Nat.add (Nat.mul (Nat.land (Q (List.range N) f) p) p512) (Nat.mul (one (List.range 8)) k)=Q (List.range N) (fun l=>if l<8 then c else f (l-8)):=by
 subst hN hp hk
 rw [zte,<-z8p]
 exact Q_prev f c n
theorem zey{n:Nat}{f g:Nat->W}(h:∀i,i<n->f i=g i):Q (List.range n) f=Q (List.range n) g:=by
 unfold Q P
 congr 1
 apply List.map_congr_left
 intro i hi
 rw [h i (List.mem_range.1 hi)]
theorem zrq (v : Nat -> V8) : zc0 (M (List.range 8)) (one (List.range 8)) (Q (List.range 8) fun i => v8w (v2 (4088 + i)) 7) (Q (List.range 8) fun i => (v i).a) (Q (List.range 8) fun i => (v i).b) (Q (List.range 8) fun i => (v i).c) (Q (List.range 8) fun i => (v i).d) (Q (List.range 8) fun i => (v i).e) (Q (List.range 8) fun i => (v i).f) (Q (List.range 8) fun i => (v i).g) (Q (List.range 8) fun i => (v i).h) =
    S8.mk (Q (List.range 8) fun i=>(mixS (v i) ((tx v2 i).drop (64*256))).a) (Q (List.range 8) fun i=>(mixS (v i) ((tx v2 i).drop (64*256))).b) (Q (List.range 8) fun i=>(mixS (v i) ((tx v2 i).drop (64*256))).c) (Q (List.range 8) fun i=>(mixS (v i) ((tx v2 i).drop (64*256))).d) (Q (List.range 8) fun i=>(mixS (v i) ((tx v2 i).drop (64*256))).e) (Q (List.range 8) fun i=>(mixS (v i) ((tx v2 i).drop (64*256))).f) (Q (List.range 8) fun i=>(mixS (v i) ((tx v2 i).drop (64*256))).g) (Q (List.range 8) fun i=>(mixS (v i) ((tx v2 i).drop (64*256))).h):=by
  unfold zc0
  rw [zx,zx,zx]
  have h0:shN (M (List.range 8)) (Q (List.range 8) fun i=>v8w (v2 (4088+i)) 7) (Nat.mul (one (List.range 8)) 2147483648)=Q (List.range 8) fun i=>zz ((tx v2 i).drop (64*256)) 0:=by
    have e:Nat.mul (one (List.range 8)) 2147483648=Q (List.range 8) fun _=>2147483648#32:=z8u 8 2147483648#32 _ rfl
    rw [e,z42]
    exact zey fun i hi=>(zef v2 i hi 0 (by omega)).symm
  have hz:∀j,1<=j->j<15->Nat.mul (one (List.range 8)) 0=Q (List.range 8) fun i=>zz ((tx v2 i).drop (64*256)) j:=by
    intro j h1 h2
    have e:Nat.mul (one (List.range 8)) 0=Q (List.range 8) fun _=>0#32:=z8u 8 0#32 _ rfl
    rw [e]
    refine zey fun i hi=> ?_
    rw [zef v2 i hi j (by omega)]
    have:∀j:Fin 16,1<=j.val->j.val<15->0#32=shW (longT.getD (j.val-1) 0) (longT.getD j.val 0):=by decide+kernel
    have h3:=this ⟨j,by omega⟩ h1 h2
    obtain⟨k,rfl⟩:∃k,j=k+1:=⟨j-1,by omega⟩
    simpa [List.getD_eq_getElem?_getD]using h3
  have h15:Nat.mul (one (List.range 8)) 131080=Q (List.range 8) fun i=>zz ((tx v2 i).drop (64*256)) 15:=by
    have e:Nat.mul (one (List.range 8)) 131080=Q (List.range 8) fun _=>131080#32:=z8u 8 131080#32 _ rfl
    rw [e]
    refine zey fun i hi=> ?_
    rw [zef v2 i hi 15 (by omega)]
    have:131080#32=shW (longT.getD 14 0) (longT.getD 15 0):=by decide+kernel
    simpa [List.getD_eq_getElem?_getD]using this
  exact zbl (List.range 8) (fun i=>(tx v2 i).drop (64*256)) v _ _ _ _ _ _ _ _ _ _ _ _ _ _ _ _ S8.mk h0 (hz 1 (by omega) (by omega)) (hz 2 (by omega) (by omega)) (hz 3 (by omega) (by omega)) (hz 4 (by omega) (by omega)) (hz 5 (by omega) (by omega)) (hz 6 (by omega) (by omega)) (hz 7 (by omega) (by omega)) (hz 8 (by omega) (by omega)) (hz 9 (by omega) (by omega)) (hz 10 (by omega) (by omega)) (hz 11 (by omega) (by omega)) (hz 12 (by omega) (by omega)) (hz 13 (by omega) (by omega)) (hz 14 (by omega) (by omega)) h15
def z8l(i:Nat):V8:=blocks 257 v0 (tx v2 i)
def s8Q(f:Nat->V8):S8:=⟨Q (List.range 8) fun i=>(f i).a,Q (List.range 8) fun i=>(f i).b,Q (List.range 8) fun i=>(f i).c,Q (List.range 8) fun i=>(f i).d,Q (List.range 8) fun i=>(f i).e,Q (List.range 8) fun i=>(f i).f,Q (List.range 8) fun i=>(f i).g,Q (List.range 8) fun i=>(f i).h⟩
theorem zw7:zcy (M (List.range 8)) (one (List.range 8)) (M (List.range 4096)) (Q (List.range 4096) fun i=>v8w (v2 i) 0) (Q (List.range 4096) fun i=>v8w (v2 i) 1) (Q (List.range 4096) fun i=>v8w (v2 i) 2) (Q (List.range 4096) fun i=>v8w (v2 i) 3) (Q (List.range 4096) fun i=>v8w (v2 i) 4) (Q (List.range 4096) fun i=>v8w (v2 i) 5) (Q (List.range 4096) fun i=>v8w (v2 i) 6) (Q (List.range 4096) fun i=>v8w (v2 i) 7)=s8Q (z8l v2):=by
 unfold zcy
 rw [zx,zx,zx,zx,zx,zx,zx,zx,zx,zx,zx,zx,zx,zx,zx,zx,zx]
 have hp:Nat.add (Nat.mul (Nat.land (Q (List.range 4096) fun i=>v8w (v2 i) 7) zc6) p512) (Nat.mul (one (List.range 8)) 4)=Q (List.range 4096) (fun l=>if l<8 then 4#32 else v8w (v2 (l-8)) 7):=by
  exact q_prev (fun i=>v8w (v2 i) 7) 4#32 4088 4096 _ 4 rfl ztd rfl
 have h0:shN (M (List.range 4096)) (Nat.add (Nat.mul (Nat.land (Q (List.range 4096) fun i=>v8w (v2 i) 7) zc6) p512) (Nat.mul (one (List.range 8)) 4)) (Q (List.range 4096) fun i=>v8w (v2 i) 0)=uT v2 0:=by
  rw [hp,z42];rfl
 have ht:∀t,shN (M (List.range 4096)) (Q (List.range 4096) fun i=>v8w (v2 i) t) (Q (List.range 4096) fun i=>v8w (v2 i) (t+1))=uT v2 (t+1):=by
  intro t
  rw [z42]
  unfold uT pw
  simp only [if_neg (Nat.succ_ne_zero t),Nat.add_sub_cancel]
 have hz:Nat.land (Nat.shiftRight (Q (List.range 4096) fun i=>v8w (v2 i) 7) 261632) m512=Q (List.range 8) fun i=>v8w (v2 (4088+i)) 7:=by
  rw [zeh]
  exact z9e (fun i=>v8w (v2 i) 7) (N:=4096) (a:=4088) (c:=8) (by omega)
 rw [h0,ht 0,ht 1,ht 2,ht 3,ht 4,ht 5,ht 6,hz]
 have hi:∀(c:W) (k:Nat),c.toNat=k->Nat.mul (one (List.range 8)) k=Q (List.range 8) fun _=>c:=z8u 8
 have r:=zjj v2 (zc0 (M (List.range 8)) (one (List.range 8)) (Q (List.range 8) fun i=>v8w (v2 (4088+i)) 7)) 256 0 (fun _=>v0) rfl
 have na:Nat.mul (one (List.range 8)) 1779033703=Q (List.range 8) fun _=>v0.a:=hi 1779033703#32 _ rfl
 have nb:Nat.mul (one (List.range 8)) 3144134277=Q (List.range 8) fun _=>v0.b:=hi 3144134277#32 _ rfl
 have nc:Nat.mul (one (List.range 8)) 1013904242=Q (List.range 8) fun _=>v0.c:=hi 1013904242#32 _ rfl
 have nd:Nat.mul (one (List.range 8)) 2773480762=Q (List.range 8) fun _=>v0.d:=hi 2773480762#32 _ rfl
 have ne:Nat.mul (one (List.range 8)) 1359893119=Q (List.range 8) fun _=>v0.e:=hi 1359893119#32 _ rfl
 have nf:Nat.mul (one (List.range 8)) 2600822924=Q (List.range 8) fun _=>v0.f:=hi 2600822924#32 _ rfl
 have ng:Nat.mul (one (List.range 8)) 528734635=Q (List.range 8) fun _=>v0.g:=hi 528734635#32 _ rfl
 have nh:Nat.mul (one (List.range 8)) 1541459225=Q (List.range 8) fun _=>v0.h:=hi 1541459225#32 _ rfl
 rw [na,nb,nc,nd,ne,nf,ng,nh]
 refine r.trans ?_
 refine(zrq v2 (fun i=>blocks 256 v0 ((padS (4::enc (z22 v2 i))).drop (64*0)))).trans ?_
 unfold s8Q z8l
 have e:∀i,blocks 257 v0 (tx v2 i)=mixS (blocks 256 v0 ((padS (4::enc (z22 v2 i))).drop (64*0))) ((tx v2 i).drop (64*256)):=fun i=>zhc 256 v0 _
 simp only [e]
end
section
variable (v1:Nat->V8)
def sh2(l:Nat):V8:=mixS v0 (padS (3::outV (v1 l)))
theorem zv1:zct (M (List.range 8)) (one (List.range 8)) (M (List.range 4096)) (one (List.range 4096)) (Q (List.range 4096) fun i=>(v1 i).a) (Q (List.range 4096) fun i=>(v1 i).b) (Q (List.range 4096) fun i=>(v1 i).c) (Q (List.range 4096) fun i=>(v1 i).d) (Q (List.range 4096) fun i=>(v1 i).e) (Q (List.range 4096) fun i=>(v1 i).f) (Q (List.range 4096) fun i=>(v1 i).g) (Q (List.range 4096) fun i=>(v1 i).h)=s8Q (z8l (sh2 v1)):=by
 unfold zct
 rw [zx,zx,zx,zx,zx,zx,zx,zx,zx,zx,zx,zx,zx,zx,zx,zx,zx,zx,zx]
 have hc:∀(c:W) (k:Nat),c.toNat=k->Nat.mul (one (List.range 4096)) k=Q (List.range 4096) fun _=>c:=z8u 4096
 have sw:∀j,j<16->∀i,shW ((3#32::((v1 i).l++padT)).getD j 0) ((3#32::((v1 i).l++padT)).getD (j+1) 0)=zz (padS (3::outV (v1 i))) j:=fun j hj i=>(zv3 (v1 i) j hj).symm
 have c3:Nat.mul (one (List.range 4096)) 3=Q (List.range 4096) fun _=>3#32:=hc 3#32 _ rfl
 have c8:Nat.mul (one (List.range 4096)) 2147483648=Q (List.range 4096) fun _=>2147483648#32:=hc 2147483648#32 _ rfl
 have c0:Nat.mul (one (List.range 4096)) 0=Q (List.range 4096) fun _=>0#32:=hc 0#32 _ rfl
 have cF:Nat.mul (one (List.range 4096)) 264=Q (List.range 4096) fun _=>264#32:=hc 264#32 _ rfl
 rw [c3,c8,c0,cF]
 have na:Nat.mul (one (List.range 4096)) 1779033703=Q (List.range 4096) fun _=>v0.a:=hc 1779033703#32 _ rfl
 have nb:Nat.mul (one (List.range 4096)) 3144134277=Q (List.range 4096) fun _=>v0.b:=hc 3144134277#32 _ rfl
 have nc:Nat.mul (one (List.range 4096)) 1013904242=Q (List.range 4096) fun _=>v0.c:=hc 1013904242#32 _ rfl
 have nd:Nat.mul (one (List.range 4096)) 2773480762=Q (List.range 4096) fun _=>v0.d:=hc 2773480762#32 _ rfl
 have ne:Nat.mul (one (List.range 4096)) 1359893119=Q (List.range 4096) fun _=>v0.e:=hc 1359893119#32 _ rfl
 have nf:Nat.mul (one (List.range 4096)) 2600822924=Q (List.range 4096) fun _=>v0.f:=hc 2600822924#32 _ rfl
 have ng:Nat.mul (one (List.range 4096)) 528734635=Q (List.range 4096) fun _=>v0.g:=hc 528734635#32 _ rfl
 have nh:Nat.mul (one (List.range 4096)) 1541459225=Q (List.range 4096) fun _=>v0.h:=hc 1541459225#32 _ rfl
 rw [na,nb,nc,nd,ne,nf,ng,nh]
 have w0:∀i,zz (padS (3::outV (v1 i))) 0=shW 3#32 (v1 i).a:=fun i=>(sw 0 (by omega) i).symm.trans rfl
 have w1:∀i,zz (padS (3::outV (v1 i))) 1=shW (v1 i).a (v1 i).b:=fun i=>(sw 1 (by omega) i).symm.trans rfl
 have w2:∀i,zz (padS (3::outV (v1 i))) 2=shW (v1 i).b (v1 i).c:=fun i=>(sw 2 (by omega) i).symm.trans rfl
 have w3:∀i,zz (padS (3::outV (v1 i))) 3=shW (v1 i).c (v1 i).d:=fun i=>(sw 3 (by omega) i).symm.trans rfl
 have w4:∀i,zz (padS (3::outV (v1 i))) 4=shW (v1 i).d (v1 i).e:=fun i=>(sw 4 (by omega) i).symm.trans rfl
 have w5:∀i,zz (padS (3::outV (v1 i))) 5=shW (v1 i).e (v1 i).f:=fun i=>(sw 5 (by omega) i).symm.trans rfl
 have w6:∀i,zz (padS (3::outV (v1 i))) 6=shW (v1 i).f (v1 i).g:=fun i=>(sw 6 (by omega) i).symm.trans rfl
 have w7:∀i,zz (padS (3::outV (v1 i))) 7=shW (v1 i).g (v1 i).h:=fun i=>(sw 7 (by omega) i).symm.trans rfl
 have w8:∀i,zz (padS (3::outV (v1 i))) 8=shW (v1 i).h 2147483648#32:=fun i=>(sw 8 (by omega) i).symm.trans rfl
 have w9:∀i,zz (padS (3::outV (v1 i))) 9=0#32:=fun i=>(sw 9 (by omega) i).symm.trans (by show shW 2147483648#32 0#32=_;decide+kernel)
 have w10:∀i,zz (padS (3::outV (v1 i))) 10=0#32:=fun i=>(sw 10 (by omega) i).symm.trans (by show shW 0#32 0#32=_;decide+kernel)
 have w11:∀i,zz (padS (3::outV (v1 i))) 11=0#32:=fun i=>(sw 11 (by omega) i).symm.trans (by show shW 0#32 0#32=_;decide+kernel)
 have w12:∀i,zz (padS (3::outV (v1 i))) 12=0#32:=fun i=>(sw 12 (by omega) i).symm.trans (by show shW 0#32 0#32=_;decide+kernel)
 have w13:∀i,zz (padS (3::outV (v1 i))) 13=0#32:=fun i=>(sw 13 (by omega) i).symm.trans (by show shW 0#32 0#32=_;decide+kernel)
 have w14:∀i,zz (padS (3::outV (v1 i))) 14=0#32:=fun i=>(sw 14 (by omega) i).symm.trans (by show shW 0#32 0#32=_;decide+kernel)
 have w15:∀i,zz (padS (3::outV (v1 i))) 15=264#32:=fun i=>(sw 15 (by omega) i).symm.trans (by show shW 0#32 67584#32=_;decide+kernel)
 refine(zbl (List.range 4096) (fun i=>padS (3::outV (v1 i))) (fun _=>v0) _ _ _ _ _ _ _ _ _ _ _ _ _ _ _ _ (zcy (M (List.range 8)) (one (List.range 8)) (M (List.range 4096))) (by simp only [w0];exact z42 _ _ _) (by simp only [w1];exact z42 _ _ _) (by simp only [w2];exact z42 _ _ _) (by simp only [w3];exact z42 _ _ _) (by simp only [w4];exact z42 _ _ _) (by simp only [w5];exact z42 _ _ _) (by simp only [w6];exact z42 _ _ _) (by simp only [w7];exact z42 _ _ _) (by simp only [w8];exact z42 _ _ _) (by simp only [w9]) (by simp only [w10]) (by simp only [w11]) (by simp only [w12]) (by simp only [w13]) (by simp only [w14]) (by simp only [w15])).trans ?_
 exact zw7 (sh2 v1)
end
set_option exponentiation.threshold 300000 in
theorem zrs(wf:Nat->Nat->Nat)(msg:Nat->List UInt8)(hm:∀l j,j<16->zz (padS (msg l)) j=BitVec.ofNat 32 (wf j l))(hb:∀j l,wf j l<2^64):zc1 wf=s8Q (z8l (sh2 fun l=>mixS v0 (padS (msg l)))):=by
 unfold zc1
 rw [zx,zx,zx,zx,zx,zx,zx,zx,zx,zx,zx,zx,zx,zx,zx,zx,zx,zx,zx,zx,zx,zx,zx,zx,zx,zx,zx,zx]
 rw [M_is,M_is,z8p,z8p]
 have hc:∀(c:W) (k:Nat),c.toNat=k->Nat.mul (one (List.range 4096)) k=Q (List.range 4096) fun _=>c:=z8u 4096
 have na:Nat.mul (one (List.range 4096)) 1779033703=Q (List.range 4096) fun _=>v0.a:=hc 1779033703#32 _ rfl
 have nb:Nat.mul (one (List.range 4096)) 3144134277=Q (List.range 4096) fun _=>v0.b:=hc 3144134277#32 _ rfl
 have nc:Nat.mul (one (List.range 4096)) 1013904242=Q (List.range 4096) fun _=>v0.c:=hc 1013904242#32 _ rfl
 have nd:Nat.mul (one (List.range 4096)) 2773480762=Q (List.range 4096) fun _=>v0.d:=hc 2773480762#32 _ rfl
 have ne:Nat.mul (one (List.range 4096)) 1359893119=Q (List.range 4096) fun _=>v0.e:=hc 1359893119#32 _ rfl
 have nf:Nat.mul (one (List.range 4096)) 2600822924=Q (List.range 4096) fun _=>v0.f:=hc 2600822924#32 _ rfl
 have ng:Nat.mul (one (List.range 4096)) 528734635=Q (List.range 4096) fun _=>v0.g:=hc 528734635#32 _ rfl
 have nh:Nat.mul (one (List.range 4096)) 1541459225=Q (List.range 4096) fun _=>v0.h:=hc 1541459225#32 _ rfl
 rw [na,nb,nc,nd,ne,nf,ng,nh]
 have hw:∀j,j<16->Nat.land (pkR (wf j) 4096 0) (M (List.range 4096))=Q (List.range 4096) fun l=>zz (padS (msg l)) j:=by
  intro j hj
  rw [zkd,Nat.mul_zero,Nat.add_zero]
  exact z8o _ _ (hb j) fun i=>(hm i j hj).symm
 refine(zbl (List.range 4096) (fun i=>padS (msg i)) (fun _=>v0) _ _ _ _ _ _ _ _ _ _ _ _ _ _ _ _ (zct (M (List.range 8)) (one (List.range 8)) (M (List.range 4096)) (one (List.range 4096))) (hw 0 (by omega)) (hw 1 (by omega)) (hw 2 (by omega)) (hw 3 (by omega)) (hw 4 (by omega)) (hw 5 (by omega)) (hw 6 (by omega)) (hw 7 (by omega)) (hw 8 (by omega)) (hw 9 (by omega)) (hw 10 (by omega)) (hw 11 (by omega)) (hw 12 (by omega)) (hw 13 (by omega)) (hw 14 (by omega)) (hw 15 (by omega))).trans ?_
 exact zv1 fun l=>mixS v0 (padS (msg l))
end
section
theorem rl_c{k:Nat}:∀(l:List W),RLs k (ws l)
 | []=>by simp [ws,RLs]
 | _::l=>by have:=rl_c (k:=k) l;simp only [ws]at this;simp [ws,wc,RLs,RL,this]
theorem z2s{k:Nat}{l:List AV}(h:RLs k l):RL k (.agg l):=by simpa only [RL]using h
theorem zd0(O:Store)(x:W)(k:Int)(h:0<k/\ k<32):ACallsTo TC 132 [.int .u32 x.toNat,.int .u32 k] O (.int .u32 (x.rotateLeft (32-k.toNat)).toNat) O:=by
 refine ACallsTo.of_body q9ok (by simp) fun hw _=> ?_
 repeat' (first|apply zs_|apply zb_|apply zc_|apply zt_ rfl|apply zf_ rfl|(apply zd_ rfl<;>intro ht<;>try omega)|((first|apply zr_|apply zk_|apply ze_|apply zq_|(apply zG<;>intro ht));all_goals try simp (disch:=first|omega|(simp only [lens];first|done|omega)) only [go_sem]))
 have e:(x>>>k.toNat |||x<<<(32-k).toNat)=x.rotateLeft (32-k.toNat):=by
  obtain⟨n,rfl⟩:∃n:Nat,k=n:=⟨k.toNat,by omega⟩
  have e1:((32:Int)-n).toNat=32-n:=by omega
  rw [e1,Int.toNat_natCast,BitVec.rotateLeft_def,BitVec.or_comm]
  have:(32-n)%32=32-n:=Nat.mod_eq_of_lt (by omega)
  rw [this]
  congr 2
  omega
 rw [e]
 exact DownV.same hw (z15 _ rfl)
theorem zwi(s:List UInt8)(i:Nat):IntKind.u32.wrap ((getS ((s.drop (4*i)).take 4):Nat):Int)=((zz s i).toNat:Int):=by
 rw [zas,zz,BitVec.toNat_ofNat];rfl
theorem zoq{w:List W}{x:W}{n:Nat}(h:w.length=n)(hn:n<64):(ws w++List.replicate (64-n) (AV.int .u32 0)).take n++AV.int .u32 x.toNat::(ws w++List.replicate (64-n) (AV.int .u32 0)).drop (n+1)=ws (w++ [x])++List.replicate (64-(n+1)) (AV.int .u32 0):=by
 have hl:(ws w).length=n:=by rw [z4h,h]
 have e:64-n=(64-(n+1))+1:=by omega
 rw [List.take_append_of_le_length (by omega),List.take_of_length_le (by omega),List.drop_append,List.drop_of_length_le (by omega),hl]
 rw [show n+1-n=1 by omega,e,List.replicate_succ,List.drop_succ_cons,List.drop_zero,List.nil_append]
 simp [ws,wc]
theorem zvc(O:Store)(s:List UInt8)(h:64<=s.length)(hs:s.length<9223372036854775808):ACallsTo TC 146 [.str s] O (.agg (ws (z14 s 64))) O:=by
 obtain⟨R,hR⟩:∃R,R=z14 s 64:=⟨_,rfl⟩
 rw [<-hR]
 refine ACallsTo.of_body qcok (by simp) fun hw _=> ?_
 repeat' (first|apply zs_|apply zb_|apply zc_|apply zt_ rfl|apply zf_ rfl|(apply zd_ rfl<;>intro ht<;>try omega)|((first|apply zr_|apply zk_|apply ze_|apply zq_|(apply zG<;>intro ht));all_goals try simp (disch:=first|omega|(simp only [lens];first|done|omega)) only [go_sem]))
 refine zW.loop (fun m J O'=>∃i:Nat,m+i=64/\ J 0=.str s/\ J 2=.ptr O.length 0 0/\ J 6=.int .i64 i/\ O'=O++ [some [ws (z14 s i)++List.replicate (64-i) (AV.int .u32 0)]]) 64 ?_ ?_
 ·exact⟨0,by omega,by simp (disch:=first|omega|(simp only [lens];first|done|omega)) only [go_sem],by simp (disch:=first|omega|(simp only [lens];first|done|omega)) only [go_sem],by simp (disch:=first|omega|(simp only [lens];first|done|omega)) only [go_sem];rfl,rfl⟩
 ·rintro m J O' ⟨i,hm,q0,q2,q6,rfl⟩
  have hsl:=z4u s i
  have hset:=fun x=>zoq (x:=x) hsl
  have hwi:∀j,j<i->(ws (z14 s i)++List.replicate (64-i) (AV.int .u32 0))[j]? =some (.int .u32 (wat (z14 s i) j).toNat):=by
   intro j hj
   rw [List.getElem?_append_left (by rw [z4h];omega),z9a (by omega)]
  have hlen:(ws (z14 s i)++List.replicate (64-i) (AV.int .u32 0)).length=64 \/64<i:=by
   simp [z4h,hsl];omega
  by_cases hi:i<64
  ·have hlen:(ws (z14 s i)++List.replicate (64-i) (AV.int .u32 0)).length=64:=by omega
   generalize hcc:ws (z14 s i)++List.replicate (64-i) (AV.int .u32 0)=cc at*
   by_cases h16:i<16
   ·have hd1:(s.take (4*i+4)).length=4*i+4:=by rw [List.length_take];omega
    repeat' (first|apply zs_|apply zb_|apply zc_|apply zt_ rfl|apply zf_ rfl|(apply zd_ rfl<;>intro ht<;>try omega)|((first|apply zr_|apply zk_|apply ze_|apply zq_|(apply callW.mk_pu;(first|exact(fun _=>zhb _ _ (by simp;omega))))|(apply callW.za;(first|exact(zhb _ _ (by simp;omega))))|(apply zG<;>intro ht));all_goals try simp (disch:=first|omega|(simp only [lens];first|done|omega)) only [go_sem,q0,q2,q6,hlen]))
    have ev:((getS ((s.take (4*(i:Int)+4).toNat).drop (4*(i:Int)).toNat):Nat):Int)%4294967296=((z34 s (z14 s i)).toNat:Int):=by
     rw [show (4*(i:Int)+4).toNat=4*i+4 by omega,show (4*(i:Int)).toNat=4*i by omega,List.drop_take,show 4*i+4-4*i=4 by omega]
     have:=zwi s i
     rw [zas]at this
     rw [this,z34,if_pos (by omega),hsl]
    refine⟨64-(i+1),by omega,i+1,by omega,by simp,?_⟩
    rw [ev,hset _ hi,z14]
   ·have en:z34 s (z14 s i)=wat (z14 s i) (i-16)+wat (z14 s i) (i-7)+ss0 (wat (z14 s i) (i-15))+ss1 (wat (z14 s i) (i-2)):=by rw [z34,if_neg (by omega),hsl]
    have g16:=hwi (i-16) (by omega)
    have g7:=hwi (i-7) (by omega)
    have g15:=hwi (i-15) (by omega)
    have g2:=hwi (i-2) (by omega)
    have t16:((i:Int)-16).toNat=i-16:=by omega
    have t7:((i:Int)-7).toNat=i-7:=by omega
    have t15:((i:Int)-15).toNat=i-15:=by omega
    have t2:((i:Int)-2).toNat=i-2:=by omega
    generalize wat (z14 s i) (i-16)=w16 at*
    generalize wat (z14 s i) (i-7)=w7 at*
    generalize wat (z14 s i) (i-15)=w15 at*
    generalize wat (z14 s i) (i-2)=w2 at*
    have r7:((-7:Int)%32).toNat=25:=rfl
    have r18:((-18:Int)%32).toNat=14:=rfl
    have r17:((-17:Int)%32).toNat=15:=rfl
    have r19:((-19:Int)%32).toNat=13:=rfl
    have en2:=hset (z34 s (z14 s i)) hi
    rw [en]at en2
    simp only [ss0,ss1]at en2
    repeat' (first|apply zs_|apply zb_|apply zc_|apply zt_ rfl|apply zf_ rfl|(apply zd_ rfl<;>intro ht<;>try omega)|((first|apply zr_|apply zk_|apply ze_|apply zq_|(apply callW.mk_pu;(first|exact(fun _=>zbf _ _ _)))|(apply callW.za;(first|exact(zbf _ _ _)))|(apply zG<;>intro ht));all_goals try simp (disch:=first|omega|(simp only [lens];first|done|omega)) only [go_sem,q0,q2,q6,hlen,g16,g7,g15,g2,t16,t7,t15,t2,r7,r18,r17,r19]))
    refine⟨64-(i+1),by omega,i+1,by omega,by simp,?_⟩
    rw [en2,z14,en]
    simp only [ss0,ss1]
  ·have e:i=64:=by omega
   have eR:z14 s i=R:=by rw [hR,e]
   have hsR:R.length=64:=by rw [<-eR,hsl,e]
   have hl64:(ws R).length=64:=by rw [z4h,hsR]
   have e0:List.replicate (64-i) (AV.int .u32 0)=[]:=by rw [e];rfl
   rw [eR,e0,List.append_nil]at*
   clear hwi hset hlen hR
   have hd:(ws R).drop 64=[]:=List.drop_of_length_le (by omega)
   repeat' (first|apply zs_|apply zb_|apply zc_|apply zt_ rfl|apply zf_ rfl|(apply zd_ rfl<;>intro ht<;>try omega)|((first|apply zr_|apply zk_|apply ze_|apply zq_|(apply zG<;>intro ht));all_goals try simp (disch:=first|omega|(simp only [lens];first|done|omega)) only [go_sem,q0,q2,q6,hl64,hd]))
   exact DownV.pure hw (z2s (rl_c _))
end
section
def V8.c8(v:V8):List AV:=[.int .u32 v.a.toNat,.int .u32 v.b.toNat,.int .u32 v.c.toNat,.int .u32 v.d.toNat,.int .u32 v.e.toNat,.int .u32 v.f.toNat,.int .u32 v.g.toNat,.int .u32 v.h.toNat]
theorem ws_l(v:V8):ws v.l=v.c8:=rfl
theorem zje{i:Nat}(h:i<64):(gl_sha_rounds.drop i)[0]? =some (.int .u32 (kAt i).toNat):=by
 have hall:∀j:Fin 64,(gl_sha_rounds.drop j.val)[0]? =some (.int .u32 (kAt j.val).toNat):=by
  intro j
  have h2:(gl_sha_rounds.drop j.val)[0]? =some (AV.int .u32 (shaRounds.getD j.val 0)):=by
   have hl:shaRounds.length=64:=rfl
   simp only [gl_sha_rounds,List.getElem?_drop,Nat.add_zero,List.getElem?_map,List.getD_eq_getElem?_getD]
   rw [List.getElem?_eq_getElem (by rw [hl];exact j.isLt)];rfl
  rw [h2]
  have h3:∀j:Fin 64,shaRounds.getD j.val 0=((kAt j.val).toNat:Int):=by decide
  rw [h3 j]
 exact hall ⟨i,h⟩
theorem za2:gl_sha_rounds.length=64:=rfl
theorem mix_to(O:Store)(v:V8)(s:List UInt8)(h:64<=s.length)(hs:s.length<9223372036854775808):ACallsTo TC 135 [.agg (ws v.l),.str s] O (.agg (ws (mixS v s).l)) O:=by
 obtain⟨R,hR⟩:∃R,R=z14 s 64:=⟨_,rfl⟩
 have hsp:=fun O=>zvc O s h hs
 rw [<-hR]at hsp
 have hRl:R.length=64:=by rw [hR,z4u]
 have hwR:(ws R).length=64:=by rw [z4h,hRl]
 have hst:∀n,rnds s v (n+1)=rnd (rnds s v n) (kAt n) (wat R n):=fun n=>by rw [rnds,hR]
 obtain⟨F,hF⟩:∃F,F=(rnds s v 64).add v:=⟨_,rfl⟩
 have hmix:mixS v s=F:=hF.symm
 rw [hmix,ws_l,ws_l]
 clear hmix
 refine ACallsTo.of_body qbok (by simp) fun hw _=> ?_
 unfold V8.c8
 repeat' (first|apply zs_|apply zb_|apply zc_|apply zt_ rfl|apply zf_ rfl|(apply zd_ rfl<;>intro ht<;>try omega)|((first|apply zr_|apply zk_|apply ze_|apply zq_|(apply callW.mk_pu;(first|exact(fun _=>hsp _)))|(apply callW.za;(first|exact(hsp _)))|(apply zG<;>intro ht));all_goals try simp (disch:=first|omega|(simp only [lens];first|done|omega)) only [go_sem]))
 refine zW.loop (fun m J O'=>∃i:Nat,m+i=64/\ J 2=.ptr O.length 0 0/\ J 4=.ptr (O.length+1) 0 0/\ J 5=.ptr (O.length+2) 0 0/\ J 15=.agg (ws R)/\ J 16=.int .i64 i ∧
  O'=O++ [some [v.c8],some [[AV.int .u32 0,AV.int .u32 0,AV.int .u32 0,AV.int .u32 0,AV.int .u32 0,AV.int .u32 0,AV.int .u32 0,AV.int .u32 0]],some [(rnds s v i).c8]]) 64 ?_ ?_
 ·exact⟨0,by omega,by simp (disch:=first|omega|(simp only [lens];first|done|omega)) only [go_sem],by simp (disch:=first|omega|(simp only [lens];first|done|omega)) only [go_sem],by simp (disch:=first|omega|(simp only [lens];first|done|omega)) only [go_sem],by simp (disch:=first|omega|(simp only [lens];first|done|omega)) only [go_sem],by simp (disch:=first|omega|(simp only [lens];first|done|omega)) only [go_sem];rfl,rfl⟩
 ·rintro m J O' ⟨i,hm,q2,q4,q5,q15,q16,rfl⟩
  by_cases hi:i<64
  ·have hk:=zje hi
   have hw:=z9a (w:=R) (i:=i) (by omega)
   have hst:=hst i
   generalize rnds s v i=u at*
   obtain⟨a,b,c,d,e,f,g,h⟩:=u
   generalize kAt i=kk at*
   generalize wat R i=ww at*
   have r6:((-6:Int)%32).toNat=26:=rfl
   have r11:((-11:Int)%32).toNat=21:=rfl
   have r25:((-25:Int)%32).toNat=7:=rfl
   have r2:((-2:Int)%32).toNat=30:=rfl
   have r13:((-13:Int)%32).toNat=19:=rfl
   have r22:((-22:Int)%32).toNat=10:=rfl
   refine zs_ ?_
   refine zr_ ?_
   simp (disch:=first|omega|(simp only [lens];first|done|omega)) only [go_sem,q16]
   refine zs_ ?_
   refine zt_ rfl ?_
   refine zk_ ?_
   simp (disch:=first|omega|(simp only [lens];first|done|omega)) only [go_sem]
   refine zs_ ?_
   refine zb_ ?_
   refine zs_ ?_
   refine zW.regS ?_
   simp (disch:=first|omega|(simp only [lens];first|done|omega)) only [go_sem,q15,q16,hwR,hw]
   (refine zW.slots [2,4,5,6,7,15,16] ?_;intro J1 hs;simp (disch:=first|omega|(simp only [lens];first|done|omega)) only [go_sem,q2,q4,q5,q15,q16]at hs;obtain⟨s2,s4,s5,s6,s7,s15,s16⟩:=hs)
   refine zs_ ?_
   refine zW.regS ?_
   simp (disch:=first|omega|(simp only [lens];first|done|omega)) only [go_sem,s5,V8.c8]
   (refine zW.slots [2,4,5,6,7,8,9,15,16] ?_;intro J2 hs;simp (disch:=first|omega|(simp only [lens];first|done|omega)) only [go_sem,s2,s4,s5,s6,s7,s15,s16]at hs;obtain⟨s2,s4,s5,s6,s7,s8,s9,s15,s16⟩:=hs)
   refine zs_ ?_
   (refine zW.regS ?_;(simp (disch:=first|omega|(simp only [lens];first|done|omega)) only [go_sem,s2,s4,s5,s6,s7,s8,s9,V8.c8,hk,za2,r6,r11,r25]);repeat' (apply callW.za;(first|exact(zbf _ _ _));all_goals try (simp (disch:=first|omega|(simp only [lens];first|done|omega)) only [go_sem,s2,s4,s5,s6,s7,s8,s9,V8.c8,hk,za2,r6,r11,r25])))
   (refine zW.slots [2,4,5,8,9,10,15,16] ?_;intro J3 hs;simp (disch:=first|omega|(simp only [lens];first|done|omega)) only [go_sem,s2,s4,s5,s8,s9,s15,s16]at hs;obtain⟨s2,s4,s5,s8,s9,s10,s15,s16⟩:=hs)
   refine zs_ ?_
   (refine zW.regS ?_;(simp (disch:=first|omega|(simp only [lens];first|done|omega)) only [go_sem,s5,s8,s9,V8.c8,r2,r13,r22]);repeat' (apply callW.za;(first|exact(zbf _ _ _));all_goals try (simp (disch:=first|omega|(simp only [lens];first|done|omega)) only [go_sem,s5,s8,s9,V8.c8,r2,r13,r22])))
   (refine zW.slots [2,4,5,8,9,10,11,15,16] ?_;intro J4 hs;simp (disch:=first|omega|(simp only [lens];first|done|omega)) only [go_sem,s2,s4,s5,s8,s9,s10,s15,s16]at hs;obtain⟨s2,s4,s5,s8,s9,s10,s11,s15,s16⟩:=hs)
   (refine zW.regS ?_;(simp (disch:=first|omega|(simp only [lens];first|done|omega)) only [go_sem,s5,s8,s9,s10,s11,V8.c8]))
   (refine zW.slots [2,4,5,15,16] ?_;intro J5 hs;simp (disch:=first|omega|(simp only [lens];first|done|omega)) only [go_sem,s2,s4,s5,s15,s16]at hs;obtain⟨s2,s4,s5,s15,s16⟩:=hs)
   (refine zW.regS ?_;(simp (disch:=first|omega|(simp only [lens];first|done|omega)) only [go_sem,s16]))
   refine⟨64-(i+1),by omega,i+1,by omega,s2,s4,s5,s15,by simp,?_⟩
   rw [hst]
   simp only [rnd,V8.c8,bs1,chW,bs0,majW]
  ·obtain rfl:i=64:=by omega
   clear hst
   generalize rnds s v 64=U at*
   rw [hF,V8.add]
   clear hF hR
   obtain⟨a,b,c,d,e,f,g,h⟩:=U
   obtain⟨a',b',c',d',e',f',g',h'⟩:=v
   simp only [V8.c8]at*
   repeat' (first|apply zs_|apply zb_|apply zc_|apply zt_ rfl|apply zf_ rfl|(apply zd_ rfl<;>intro ht<;>try omega)|((first|apply zr_|apply zk_|apply ze_|apply zq_|(apply zG<;>intro ht));all_goals try simp (disch:=first|omega|(simp only [lens];first|done|omega)) only [go_sem,q16]))
   refine zW.loop (fun m J O'=>∃j:Nat,m+j=8/\ J 2=.ptr O.length 0 0/\ J 4=.ptr (O.length+1) 0 0/\ J 5=.ptr (O.length+2) 0 0/\ J 95=.int .i64 j ∧
    O'=O++ [some [V8.c8 ⟨a',b',c',d',e',f',g',h'⟩],some [[AV.int .u32 0,AV.int .u32 0,AV.int .u32 0,AV.int .u32 0,AV.int .u32 0,AV.int .u32 0,AV.int .u32 0,AV.int .u32 0]],some [(V8.c8 ⟨a+a',b+b',c+c',d+d',e+e',f+f',g+g',h+h'⟩).take j++(V8.c8 ⟨a,b,c,d,e,f,g,h⟩).drop j]]) 8 ?_ ?_
   ·exact⟨0,by omega,by simp (disch:=first|omega|(simp only [lens];first|done|omega)) only [go_sem,q2],by simp (disch:=first|omega|(simp only [lens];first|done|omega)) only [go_sem,q4],by simp (disch:=first|omega|(simp only [lens];first|done|omega)) only [go_sem,q5],by simp (disch:=first|omega|(simp only [lens];first|done|omega)) only [go_sem];rfl,rfl⟩
   ·clear q2 q4 q5 q15 q16
    rintro m J O' ⟨j,hm,q2,q4,q5,q95,rfl⟩
    have hj:j=0 \/j=1 \/j=2 \/j=3 \/j=4 \/j=5 \/j=6 \/j=7 \/j=8:=by omega
    rcases hj with rfl|rfl|rfl|rfl|rfl|rfl|rfl|rfl|rfl
    ·repeat' (first|refine zs_ ?_|refine zb_ ?_|refine zc_ ?_|refine zt_ rfl ?_|refine zf_ rfl ?_|(refine zd_ rfl (fun ht=> ?_) (fun ht=> ?_)<;>try (exfalso;omega))|((first|refine zW.regS ?_|refine zk_ ?_|refine ze_ ?_|refine zq_ ?_|(apply zG<;>intro ht));all_goals try simp (disch:=first|omega|(simp only [lens];first|done|omega)) only [go_sem,q2,q4,q5,q95,V8.c8]))
     exact⟨7,by omega,1,by omega,rfl,rfl⟩
    ·repeat' (first|refine zs_ ?_|refine zb_ ?_|refine zc_ ?_|refine zt_ rfl ?_|refine zf_ rfl ?_|(refine zd_ rfl (fun ht=> ?_) (fun ht=> ?_)<;>try (exfalso;omega))|((first|refine zW.regS ?_|refine zk_ ?_|refine ze_ ?_|refine zq_ ?_|(apply zG<;>intro ht));all_goals try simp (disch:=first|omega|(simp only [lens];first|done|omega)) only [go_sem,q2,q4,q5,q95,V8.c8]))
     exact⟨6,by omega,2,by omega,rfl,rfl⟩
    ·repeat' (first|refine zs_ ?_|refine zb_ ?_|refine zc_ ?_|refine zt_ rfl ?_|refine zf_ rfl ?_|(refine zd_ rfl (fun ht=> ?_) (fun ht=> ?_)<;>try (exfalso;omega))|((first|refine zW.regS ?_|refine zk_ ?_|refine ze_ ?_|refine zq_ ?_|(apply zG<;>intro ht));all_goals try simp (disch:=first|omega|(simp only [lens];first|done|omega)) only [go_sem,q2,q4,q5,q95,V8.c8]))
     exact⟨5,by omega,3,by omega,rfl,rfl⟩
    ·repeat' (first|refine zs_ ?_|refine zb_ ?_|refine zc_ ?_|refine zt_ rfl ?_|refine zf_ rfl ?_|(refine zd_ rfl (fun ht=> ?_) (fun ht=> ?_)<;>try (exfalso;omega))|((first|refine zW.regS ?_|refine zk_ ?_|refine ze_ ?_|refine zq_ ?_|(apply zG<;>intro ht));all_goals try simp (disch:=first|omega|(simp only [lens];first|done|omega)) only [go_sem,q2,q4,q5,q95,V8.c8]))
     exact⟨4,by omega,4,by omega,rfl,rfl⟩
    ·repeat' (first|refine zs_ ?_|refine zb_ ?_|refine zc_ ?_|refine zt_ rfl ?_|refine zf_ rfl ?_|(refine zd_ rfl (fun ht=> ?_) (fun ht=> ?_)<;>try (exfalso;omega))|((first|refine zW.regS ?_|refine zk_ ?_|refine ze_ ?_|refine zq_ ?_|(apply zG<;>intro ht));all_goals try simp (disch:=first|omega|(simp only [lens];first|done|omega)) only [go_sem,q2,q4,q5,q95,V8.c8]))
     exact⟨3,by omega,5,by omega,rfl,rfl⟩
    ·repeat' (first|refine zs_ ?_|refine zb_ ?_|refine zc_ ?_|refine zt_ rfl ?_|refine zf_ rfl ?_|(refine zd_ rfl (fun ht=> ?_) (fun ht=> ?_)<;>try (exfalso;omega))|((first|refine zW.regS ?_|refine zk_ ?_|refine ze_ ?_|refine zq_ ?_|(apply zG<;>intro ht));all_goals try simp (disch:=first|omega|(simp only [lens];first|done|omega)) only [go_sem,q2,q4,q5,q95,V8.c8]))
     exact⟨2,by omega,6,by omega,rfl,rfl⟩
    ·repeat' (first|refine zs_ ?_|refine zb_ ?_|refine zc_ ?_|refine zt_ rfl ?_|refine zf_ rfl ?_|(refine zd_ rfl (fun ht=> ?_) (fun ht=> ?_)<;>try (exfalso;omega))|((first|refine zW.regS ?_|refine zk_ ?_|refine ze_ ?_|refine zq_ ?_|(apply zG<;>intro ht));all_goals try simp (disch:=first|omega|(simp only [lens];first|done|omega)) only [go_sem,q2,q4,q5,q95,V8.c8]))
     exact⟨1,by omega,7,by omega,rfl,rfl⟩
    ·repeat' (first|refine zs_ ?_|refine zb_ ?_|refine zc_ ?_|refine zt_ rfl ?_|refine zf_ rfl ?_|(refine zd_ rfl (fun ht=> ?_) (fun ht=> ?_)<;>try (exfalso;omega))|((first|refine zW.regS ?_|refine zk_ ?_|refine ze_ ?_|refine zq_ ?_|(apply zG<;>intro ht));all_goals try simp (disch:=first|omega|(simp only [lens];first|done|omega)) only [go_sem,q2,q4,q5,q95,V8.c8]))
     exact⟨0,by omega,8,by omega,rfl,rfl⟩
    ·repeat' (first|apply zs_|apply zb_|apply zc_|apply zt_ rfl|apply zf_ rfl|(apply zd_ rfl<;>intro ht<;>try omega)|((first|apply zr_|apply zk_|apply ze_|apply zq_|(apply zG<;>intro ht));all_goals try simp (disch:=first|omega|(simp only [lens];first|done|omega)) only [go_sem,q2,q4,q5,q95,V8.c8]))
     exact DownV.pure hw (z15 _ rfl)
end
end Am
end Go.Proofs.YtlfpiblipmiobaaGreatDoor
section
/- Contracts of library functions, laid off the kit's shelf for this program. -/
namespace Go.Proofs
open Go.Shelf
def Tryz.lays169_ren : Go.Shelf.Ren := ⟨fun | 169 => 92 | n => n, fun | 70 => 145 | 9 => 9 | 0 => 0 | 72 => 147 | 37 => 53 | 127 => 175 | 3 => 3 | 5 => 5 | n => n, fun | n => n⟩
theorem Tryz.lays169 : Go.Proofs.Lays.n169 Tryz.prog Tryz.lays169_ren := {
 mixed := by kernel_rfl
 f169 := Tryz.func92.trans (congrArg some (by kernel_rfl))
 t0 := Tryz.underlying0
 a0 := Tryz.isAgg0
 z0 := Tryz.sizeOf0
 v0 := Tryz.zeroValue0
 t3 := Tryz.underlying3
 a3 := Tryz.isAgg3
 z3 := Tryz.sizeOf3
 v3 := Tryz.zeroValue3
 t9 := Tryz.underlying9
 a9 := Tryz.isAgg9
 z9 := Tryz.sizeOf9
 v9 := Tryz.zeroValue9
 t37 := Tryz.underlying53
 a37 := Tryz.isAgg53
 z37 := Tryz.sizeOf53
 v37 := Tryz.zeroValue53
 t70 := Tryz.underlying145
 a70 := Tryz.isAgg145
 z70 := Tryz.sizeOf145
 v70 := Tryz.zeroValue145
 t72 := Tryz.underlying147
 a72 := Tryz.isAgg147
 z72 := Tryz.sizeOf147
 v72 := Tryz.zeroValue147
 t127 := Tryz.underlying175
 a127 := Tryz.isAgg175
 z127 := Tryz.sizeOf175
 v127 := Tryz.zeroValue175 }
theorem Tryz.Builder_Extra_169 : Builder.Extra Tryz.prog Tryz.lays169_ren := {
 sizeBuilder := by kernel_rfl
 liesBuilder := by kernel_rfl
 t5 := Tryz.underlying5
 a5 := Tryz.isAgg5
 z5 := Tryz.sizeOf5
 v5 := Tryz.zeroValue5
 infoByte := by kernel_rfl
 cellsByte := by kernel_rfl
 sizeByte := by kernel_rfl
 neB5 := by decide }
open Go.RowKit in
theorem Tryz.Builder_String_any (B b : Nat) (l : List UInt8) (w : World) (h : Lib.IsBuilder 147 5 B b (Lib.byteCells l) w) (hBw : B <= w.heap.size) :
  Calls Tryz.prog 92 #[.pointer (some ⟨b, 0, none⟩)] w fun e w' => e = .returned (.string ⟨l.toArray⟩) /\ Below B w w' := Any.Builder_String_any Tryz.lays169 Tryz.Builder_Extra_169 B b l w h hBw
def Tryz.lays105_ren : Go.Shelf.Ren := ⟨fun | 105 => 145 | 212 => 149 | 99 => 150 | 165 => 151 | 166 => 91 | 170 => 152 | 169 => 92 | 263 => 155 | 264 => 156 | 206 => 157 | 240 => 125 | 241 => 158 | 276 => 141 | 277 => 159 | n => n, fun | 9 => 9 | 3 => 3 | 4 => 4 | 20 => 20 | 0 => 0 | 46 => 161 | 109 => 197 | 5 => 5 | 72 => 147 | 76 => 150 | 51 => 179 | 146 => 202 | 53 => 87 | 148 => 204 | 70 => 145 | 37 => 53 | 75 => 149 | 127 => 175 | 164 => 190 | 80 => 152 | n => n, fun | n => n⟩
theorem Tryz.lays105 : Go.Proofs.Lays.n105 Tryz.prog Tryz.lays105_ren := {
 mixed := by kernel_rfl
 f99 := Tryz.func150.trans (congrArg some (by kernel_rfl))
 f105 := Tryz.func145.trans (congrArg some (by kernel_rfl))
 f165 := Tryz.func151.trans (congrArg some (by kernel_rfl))
 f166 := Tryz.func91.trans (congrArg some (by kernel_rfl))
 f169 := Tryz.func92.trans (congrArg some (by kernel_rfl))
 f170 := Tryz.func152.trans (congrArg some (by kernel_rfl))
 f206 := Tryz.func157.trans (congrArg some (by kernel_rfl))
 f212 := Tryz.func149.trans (congrArg some (by kernel_rfl))
 f240 := Tryz.func125.trans (congrArg some (by kernel_rfl))
 f241 := Tryz.func158.trans (congrArg some (by kernel_rfl))
 f263 := Tryz.func155.trans (congrArg some (by kernel_rfl))
 f264 := Tryz.func156.trans (congrArg some (by kernel_rfl))
 f276 := Tryz.func141.trans (congrArg some (by kernel_rfl))
 f277 := Tryz.func159.trans (congrArg some (by kernel_rfl))
 t0 := Tryz.underlying0
 a0 := Tryz.isAgg0
 z0 := Tryz.sizeOf0
 v0 := Tryz.zeroValue0
 t3 := Tryz.underlying3
 a3 := Tryz.isAgg3
 z3 := Tryz.sizeOf3
 v3 := Tryz.zeroValue3
 t4 := Tryz.underlying4
 a4 := Tryz.isAgg4
 z4 := Tryz.sizeOf4
 v4 := Tryz.zeroValue4
 t5 := Tryz.underlying5
 a5 := Tryz.isAgg5
 z5 := Tryz.sizeOf5
 v5 := Tryz.zeroValue5
 t9 := Tryz.underlying9
 a9 := Tryz.isAgg9
 z9 := Tryz.sizeOf9
 v9 := Tryz.zeroValue9
 t20 := Tryz.underlying20
 a20 := Tryz.isAgg20
 z20 := Tryz.sizeOf20
 v20 := Tryz.zeroValue20
 t37 := Tryz.underlying53
 a37 := Tryz.isAgg53
 z37 := Tryz.sizeOf53
 v37 := Tryz.zeroValue53
 t46 := Tryz.underlying161
 a46 := Tryz.isAgg161
 z46 := Tryz.sizeOf161
 v46 := Tryz.zeroValue161
 t51 := Tryz.underlying179
 a51 := Tryz.isAgg179
 z51 := Tryz.sizeOf179
 v51 := Tryz.zeroValue179
 t53 := Tryz.underlying87
 a53 := Tryz.isAgg87
 z53 := Tryz.sizeOf87
 v53 := Tryz.zeroValue87
 t70 := Tryz.underlying145
 a70 := Tryz.isAgg145
 z70 := Tryz.sizeOf145
 v70 := Tryz.zeroValue145
 t72 := Tryz.underlying147
 a72 := Tryz.isAgg147
 z72 := Tryz.sizeOf147
 v72 := Tryz.zeroValue147
 t75 := Tryz.underlying149
 a75 := Tryz.isAgg149
 z75 := Tryz.sizeOf149
 v75 := Tryz.zeroValue149
 t76 := Tryz.underlying150
 a76 := Tryz.isAgg150
 z76 := Tryz.sizeOf150
 v76 := Tryz.zeroValue150
 t109 := Tryz.underlying197
 a109 := Tryz.isAgg197
 z109 := Tryz.sizeOf197
 v109 := Tryz.zeroValue197
 t127 := Tryz.underlying175
 a127 := Tryz.isAgg175
 z127 := Tryz.sizeOf175
 v127 := Tryz.zeroValue175
 t146 := Tryz.underlying202
 a146 := Tryz.isAgg202
 z146 := Tryz.sizeOf202
 v146 := Tryz.zeroValue202
 t148 := Tryz.underlying204
 a148 := Tryz.isAgg204
 z148 := Tryz.sizeOf204
 v148 := Tryz.zeroValue204
 t164 := Tryz.underlying190
 a164 := Tryz.isAgg190
 z164 := Tryz.sizeOf190
 v164 := Tryz.zeroValue190 }
theorem Tryz.Builder_Extra_105 : Builder.Extra Tryz.prog Tryz.lays105_ren := {
 sizeBuilder := by kernel_rfl
 liesBuilder := by kernel_rfl
 t5 := Tryz.underlying5
 a5 := Tryz.isAgg5
 z5 := Tryz.sizeOf5
 v5 := Tryz.zeroValue5
 infoByte := by kernel_rfl
 cellsByte := by kernel_rfl
 sizeByte := by kernel_rfl
 neB5 := by decide }
open Go.RowKit Go.Lib in
theorem Tryz.strings_Repeat (s : ByteArray) (c : Nat) (w : World) (hc : c <= 9223372036854775807) (hlen : s.size * c <= 140737488355328) :
  Calls Tryz.prog 145 #[.string s, .int .i64 c] w fun e w' => e = .returned (.string ⟨(Lib.repeatL s.data.toList c).toArray⟩) /\ Below w.heap.size w w' := Any.strings_Repeat Tryz.lays105 Tryz.Builder_Extra_105 s c w hc hlen
end Go.Proofs
end
namespace Go.Proofs.YtlfpiblipmiobaaGreatDoor
namespace Am
section
open Go.RowKit
def zm(l:List UInt8):List AV:=l.map fun b=> .int .u8 b.toNat
theorem z2c{k:Nat}:∀(l:List UInt8),RLs k (zm l)
 | []=>by simp [zm,RLs]
 | _::l=>by have:=z2c (k:=k) l;simp only [zm]at this;simp [zm,RLs,RL,this]
theorem Rel.below{C:Ctx}{γ:Places}{O:Store}{w w':World}(h:Rel C γ O w)(hb:Below w.heap.size w w'):Step γ w γ w'/\ Rel C γ O w':=by
 have hs:Step γ w γ w':=⟨fun r fl pl h=>⟨fl,h⟩,hb.size,fun b hb' _=>hb.block b hb',fun r pl h=> .inl ⟨r,pl,h,rfl⟩,hb.os,hb.tape,hb.output⟩
 refine⟨hs,h.len,fun r o hr=> ?_,h.dead,h.inj,fun g cs hg=>(h.gl g cs hg).mono hs⟩
 obtain⟨pl,h1,h2⟩:=h.alive r o hr
 exact⟨pl,h1,h2.mono hs (hb.block _ h2.lt)⟩
theorem ACallsTo.of_calls{C:Ctx}{f:FuncId}{args:List AV}{O:Store}{v:AV}(hc:(cFn C f).isSome=true)
  (h:∀(γ:Places) (w:World) (cargs:List Value),VRt γ w args cargs->Calls C.P f cargs.toArray w fun e w'=>∃cv,e=.returned cv/\ VR γ w' v cv/\ Below w.heap.size w w'):ACallsTo C f args O v O:=by
 obtain⟨e,hc⟩:=Option.isSome_iff_exists.1 hc
 simp only [cFn,Option.bind_eq_some_iff]at hc
 obtain⟨fn,hf,hc⟩:=hc
 split at hc
 ·cases hc
 ·rename_i hname
  simp only [Option.bind_eq_some_iff,Option.map_eq_some_iff]at hc
  obtain⟨c,hb,_⟩:=hc
  intro γ w cargs hR ha
  left
  constructor
  ·have h1:fn.name ≠ "runtime.NumGoroutine" :=by simpa using hname
   simp [callFunc,hf,h1,hb]
  ·refine(h γ w cargs ha).mono ?_
   rintro e w' ⟨cv,rfl,hv,hbl⟩
   obtain⟨s1,s2⟩:=hR.below hbl
   exact⟨cv,γ,rfl,s1,s2,hv⟩
theorem zuc(b:UInt8):∀n,Lib.repeatL [b] n=List.replicate n b:=by
 intro n
 induction n with
 |zero=>simp [Lib.repeatL]
 |succ n ih=>simp [Lib.repeatL,List.replicate_succ]at ih ⊢ <;>simp [ih]
theorem zl0(O:Store)(b:UInt8)(c:Nat)(h:c<=1000000):ACallsTo TC 145 [.str [b],.int .i64 c] O (.str (List.replicate c b)) O:=by
 refine ACallsTo.of_calls (by kernel_rfl) ?_
 intro γ w cargs ha
 simp only [VRt,VR]at ha
 obtain⟨_,_,rfl,rfl,_,_,rfl,rfl,rfl⟩:=ha
 refine(Tryz.strings_Repeat ⟨[b].toArray⟩ c w (by omega) (by simp [ByteArray.size];omega)).mono ?_
 rintro e w' ⟨rfl,hb⟩
 refine⟨_,rfl,?_,hb⟩
 simp only [VR]
 rw [zuc]
theorem zpz(O:Store)(s:List UInt8)(h:s.length<1000000000000):ACallsTo TC 134 [.str s] O (.str (padS s)) O:=by
 refine ACallsTo.of_body qaok (by simp) fun hw _=> ?_
 obtain⟨z,hz⟩:∃z:Nat,z=(119-s.length%64)%64:=⟨_,rfl⟩
 have hz64:z<64:=by rw [hz];exact Nat.mod_lt _ (by decide)
 have hz2:(119-(s.length:Int)%64)%64=z:=by omega
 have hp:putS ((s.length:Int)*8) 8=be 8 (s.length*8):=by
  unfold putS
  rw [if_pos (by omega)]
  rfl
 have hpl:(be 8 (s.length*8)).length=8:=z3z _ _
 repeat' (first|apply zs_|apply zb_|apply zc_|apply zt_ rfl|apply zf_ rfl|(apply zd_ rfl<;>intro ht<;>try omega)|((first|apply zr_|apply zk_|apply ze_|apply zq_|(apply callW.mk_pu;(first|exact(fun _=>zl0 _ 0 z (by omega))|exact(fun _=>z7j _ ((s.length:Int)*8) 8 (by omega) (by omega))))|(apply callW.za;(first|exact(zl0 _ 0 z (by omega))|exact(z7j _ ((s.length:Int)*8) 8 (by omega) (by omega))))|(apply zG<;>intro ht));all_goals try simp (disch:=first|omega|(simp only [lens];first|done|omega)) only [go_sem,hz2,hp,hpl,List.length_replicate]))
 have e:s++([128]++(List.replicate z 0++be 8 (s.length*8)))=padS s:=by unfold padS;rw [<-hz];rfl
 rw [show s++128::(List.replicate z 0++be 8 (s.length*8))=padS s by unfold padS;rw [<-hz]]
 exact DownV.same hw (z15 _ rfl)
theorem zk7(s:List UInt8):(padS s).length%64=0/\ (padS s).length<s.length+80:=by
 unfold padS
 simp only [List.length_append,List.length_cons,List.length_replicate,z3z]
 omega
theorem zqc:ze9=v0.c8:=rfl
theorem put4(x:W):putS (x.toNat:Int) 4=be 4 x.toNat:=by
 unfold putS
 rw [if_pos (by omega)]
 rfl
theorem mix_c8(O:Store)(v:V8)(s:List UInt8)(h:64<=s.length)(hs:s.length<9223372036854775808):ACallsTo TC 135 [.agg v.c8,.str s] O (.agg (mixS v s).c8) O:=mix_to O v s h hs
theorem zq3{l:List W}{j:Nat}(h:j<l.length):(l.flatMap fun x=>be 4 x.toNat).take (4*j)++be 4 (l[j]).toNat=(l.flatMap fun x=>be 4 x.toNat).take (4*(j+1)):=by
 induction l generalizing j with
 |nil=>simp at h
 |cons x l ih=>
  have hb:(be 4 x.toNat).length=4:=z3z _ _
  rw [List.flatMap_cons]
  cases j with
  |zero=>
   simp only [Nat.mul_zero,List.take_zero,List.nil_append,List.getElem_cons_zero,Nat.zero_add,Nat.mul_one]
   rw [List.take_append_of_le_length (by omega),List.take_of_length_le (by omega)]
  |succ j=>
   simp only [List.length_cons]at h
   have e1:(be 4 x.toNat).take (4*(j+1))=be 4 x.toNat:=List.take_of_length_le (by omega)
   have e2:(be 4 x.toNat).take (4*(j+1+1))=be 4 x.toNat:=List.take_of_length_le (by omega)
   rw [List.getElem_cons_succ,List.take_append,List.take_append,e1,e2,hb,List.append_assoc,show 4*(j+1)-4=4*j by omega,show 4*(j+1+1)-4=4*(j+1)by omega,ih (by omega)]
theorem z5f(v:V8):(outV v).length=32:=by
 simp [outV,V8.l,z3z]
def z4l(v:V8)(j:Nat):List AV:=zm ((outV v).take (4*j))++List.replicate (32-4*j) (.int .u8 0)
theorem zn(l:List UInt8):(zm l).length=l.length:=by simp [zm]
theorem zqp(v:V8){j:Nat}(h:j<=8):(z4l v j).length=32:=by
 simp [z4l,zn,z5f];omega
theorem zhf(l:List UInt8):(zw l).flatten=zm l:=by
 induction l with
 |nil=>rfl
 |cons b l ih=>simp [zw,zm,B8]at ih ⊢;exact ih
theorem zqq(v:V8){j:Nat}(h:j<8):z1c (z4l v j) (4*j) (zm (be 4 (wat v.l j).toNat))=z4l v (j+1):=by
 have hl:v.l.length=8:=rfl
 have e:=zq3 (l:=v.l) (j:=j) (by omega)
 have hw:wat v.l j=v.l[j]'(by omega):=by simp [wat,List.getD_eq_getElem?_getD,List.getElem?_eq_getElem (show j<v.l.length by omega)]
 have h1:(zm ((outV v).take (4*j))).length=4*j:=by rw [zn,List.length_take,z5f];omega
 have h2:(zm (be 4 (wat v.l j).toNat)).length=4:=by rw [zn,z3z]
 unfold z1c z4l
 rw [List.take_append_of_le_length (by omega),List.take_of_length_le (by omega),List.drop_append,List.drop_of_length_le (by omega),h1,h2,List.nil_append]
 rw [show 4*j+4-4*j=4 by omega,List.drop_replicate,show 32-4*j-4=32-4*(j+1)by omega]
 congr 1
 unfold zm
 rw [<-List.map_append]
 congr 1
 rw [hw]
 exact e
theorem z94(O:Store)(s:List UInt8)(h:s.length<100000000000):ACallsTo TC 107 [.str s] O (.agg (zm (shaS s))) O:=by
 obtain⟨p,hp⟩:∃p,p=padS s:=⟨_,rfl⟩
 obtain⟨hp1,hp2⟩:=zk7 s
 rw [<-hp]at hp1 hp2
 obtain⟨N,hN⟩:∃N,p.length=64*N:=⟨p.length/64,by omega⟩
 obtain⟨V,hV⟩:∃V,V=blocks N v0 p:=⟨_,rfl⟩
 have hS:shaS s=outV V:=by
  unfold shaS
  rw [<-hp,hV]
  have:p.length/64=N:=by omega
  rw [this]
 rw [hS]
 have hf:=fun O=>zpz O s (by omega)
 rw [<-hp]at hf
 refine ACallsTo.of_body q7ok (by simp) fun hw _=> ?_
 repeat' (first|apply zs_|apply zb_|apply zc_|apply zt_ rfl|apply zf_ rfl|(apply zd_ rfl<;>intro ht<;>try omega)|((first|apply zr_|apply zk_|apply ze_|apply zq_|(apply callW.mk_pu;(first|exact(fun _=>hf _)))|(apply callW.za;(first|exact(hf _)))|(apply zG<;>intro ht));all_goals try simp (disch:=first|omega|(simp only [lens];first|done|omega)) only [go_sem,zqc,V8.c8]))
 refine zW.loop (fun m J O'=>∃u q,q.length=64*m/\ q.length<=p.length/\ blocks m u q=V/\ J 2=.ptr O.length 0 0/\ J 3=.ptr (O.length+1) 0 0/\ J 4=.str q/\ O'=O++ [some [zm (List.replicate 32 0)],some [u.c8]]) N ?_ ?_
 ·exact⟨v0,p,hN,Nat.le_refl _,hV.symm,by simp (disch:=first|omega|(simp only [lens];first|done|omega)) only [go_sem],by simp (disch:=first|omega|(simp only [lens];first|done|omega)) only [go_sem],by simp (disch:=first|omega|(simp only [lens];first|done|omega)) only [go_sem],rfl⟩
 ·rintro m J O' ⟨u,q,hq,hqp,hb,q2,q3,q4,rfl⟩
  have hz:(zm (List.replicate 32 0)).length=32:=rfl
  cases m with
  |succ m=>
   have hne:(q==[])=false:=by cases q with
    |nil=>simp at hq
    |cons a q=>rfl
   have hmix:=fun O=>mix_c8 O u (q.take 64) (by rw [List.length_take];omega) (by rw [List.length_take];omega)
   obtain⟨M,hM⟩:∃M,M=mixS u (q.take 64):=⟨_,rfl⟩
   rw [<-hM]at hmix
   have hb2:blocks m M (q.drop 64)=V:=by rw [hM];exact hb
   unfold V8.c8 at hmix
   repeat' (first|refine zs_ ?_|refine zb_ ?_|refine zc_ ?_|refine zt_ rfl ?_|refine zf_ rfl ?_|(refine zd_ rfl (fun ht=> ?_) (fun ht=> ?_)<;>try (exfalso;omega))|((first|refine zW.regS ?_|refine zk_ ?_|refine ze_ ?_|refine zq_ ?_|(apply callW.mk_pu;(first|exact(fun _=>hmix _)))|(apply callW.za;(first|exact(hmix _)))|(apply zG<;>intro ht));all_goals try simp (disch:=first|omega|(simp only [lens];first|done|omega)) only [go_sem,q2,q3,q4,hne,V8.c8]))
   refine⟨m,by omega,M,q.drop 64,by rw [List.length_drop];omega,by rw [List.length_drop];omega,hb2,rfl,rfl⟩
  |zero=>
   have hq0:q=[]:=List.eq_nil_of_length_eq_zero (by omega)
   subst hq0
   have hu:u=V:=hb
   subst hu
   repeat' (first|apply zs_|apply zb_|apply zc_|apply zt_ rfl|apply zf_ rfl|(apply zd_ rfl<;>intro ht<;>try omega)|((first|apply zr_|apply zk_|apply ze_|apply zq_|(apply zG<;>intro ht));all_goals try simp (disch:=first|omega|(simp only [lens];first|done|omega)) only [go_sem,q2,q3,q4,V8.c8]))
   refine zW.loop (fun m J O'=>∃j:Nat,m+j=8/\ J 2=.ptr O.length 0 0/\ J 5=.ptr (O.length+2) 0 0/\ J 19=.agg u.c8/\ J 20=.int .i64 j/\ O'=O++ [some [zm (List.replicate 32 0)],some [u.c8],some [z4l u j]]) 8 ?_ ?_
   ·exact⟨0,by omega,by simp (disch:=first|omega|(simp only [lens];first|done|omega)) only [go_sem,q2],by simp (disch:=first|omega|(simp only [lens];first|done|omega)) only [go_sem],by simp (disch:=first|omega|(simp only [lens];first|done|omega)) only [go_sem];rfl,by simp (disch:=first|omega|(simp only [lens];first|done|omega)) only [go_sem];rfl,rfl⟩
   ·clear q2 q3 q4
    rintro m J O' ⟨j,hm,q2,q5,q19,q20,rfl⟩
    have hlen:=zqp u (j:=j) (by omega)
    have h8:u.c8.length=8:=rfl
    by_cases hj:j<8
    ·have hst:=zqq u hj
     have hw:=z9a (w:=u.l) (i:=j) (by simpa [V8.l]using hj)
     rw [ws_l]at hw
     generalize wat u.l j=x at*
     generalize z4l u j=cc at*
     generalize hcc:z4l u (j+1)=cc' at*
     have hx:x.toNat<4294967296:=x.isLt
     have hb4:(be 4 x.toNat).length=4:=z3z _ _
     have ht4:(zw (be 4 x.toNat)).take (32-4*j)=zw (be 4 x.toNat):=List.take_of_length_le (by rw [zo,hb4];omega)
     have hn4:(4*(j:Int)).toNat=4*j:=by omega
     repeat' (first|refine zs_ ?_|refine zb_ ?_|refine zc_ ?_|refine zt_ rfl ?_|refine zf_ rfl ?_|(refine zd_ rfl (fun ht=> ?_) (fun ht=> ?_)<;>try (exfalso;omega))|((first|refine zW.regS ?_|refine zk_ ?_|refine ze_ ?_|refine zq_ ?_|(apply callW.mk_pu;(first|exact(fun _=>z7j _ _ _ (by omega) (by omega))))|(apply callW.za;(first|exact(z7j _ _ _ (by omega) (by omega))))|(apply zG<;>intro ht));all_goals try simp (disch:=first|omega|(simp only [lens];first|done|omega)) only [go_sem,q2,q5,q19,q20,hlen,h8,hw,put4,hb4,ht4,hst,hn4,zhf]))
     unfold z1c at hst
     rw [List.append_assoc]at hst
     exact⟨8-(j+1),by omega,j+1,by omega,by simp,by rw [hst,hcc]⟩
    ·obtain rfl:j=8:=by omega
     have e8:z4l u 8=zm (outV u):=by
      unfold z4l
      rw [List.take_of_length_le (by rw [z5f];decide)]
      exact List.append_nil _
     have hd:List.drop 32 (zm (List.replicate 32 0))=[]:=rfl
     have hl:(zm (outV u)).length=32:=by rw [zn,z5f]
     rw [e8]at*
     repeat' (first|apply zs_|apply zb_|apply zc_|apply zt_ rfl|apply zf_ rfl|(apply zd_ rfl<;>intro ht<;>try omega)|((first|apply zr_|apply zk_|apply ze_|apply zq_|(apply zG<;>intro ht));all_goals try simp (disch:=first|omega|(simp only [lens];first|done|omega)) only [go_sem,q2,q5,q19,q20,hl,h8,hd]))
     exact DownV.pure hw (z2s (z2c _))
end
end Am
end Go.Proofs.YtlfpiblipmiobaaGreatDoor
section
/- strings.Builder: the contracts of copyCheck and String over the abstract store. -/
namespace Go.Proofs
open Go.Shelf Go.RowKit
def Tryz.lays240_ren:Go.Shelf.Ren:=⟨fun| 240=>125| 276=>141|n=>n,fun| 0=>0| 4=>4| 9=>9| 20=>20| 70=>145| 72=>147| 164=>190| 37=>53|n=>n,fun|n=>n⟩
theorem Tryz.lays240:Go.Proofs.Lays.n240 Tryz.prog Tryz.lays240_ren:={
 mixed:=by kernel_rfl
 f240:=Tryz.func125.trans (congrArg some (by kernel_rfl))
 f276:=Tryz.func141.trans (congrArg some (by kernel_rfl))
 t0:=Tryz.underlying0
 a0:=Tryz.isAgg0
 z0:=Tryz.sizeOf0
 v0:=Tryz.zeroValue0
 t4:=Tryz.underlying4
 a4:=Tryz.isAgg4
 z4:=Tryz.sizeOf4
 v4:=Tryz.zeroValue4
 t9:=Tryz.underlying9
 a9:=Tryz.isAgg9
 z9:=Tryz.sizeOf9
 v9:=Tryz.zeroValue9
 t20:=Tryz.underlying20
 a20:=Tryz.isAgg20
 z20:=Tryz.sizeOf20
 v20:=Tryz.zeroValue20
 t70:=Tryz.underlying145
 a70:=Tryz.isAgg145
 z70:=Tryz.sizeOf145
 v70:=Tryz.zeroValue145
 t72:=Tryz.underlying147
 a72:=Tryz.isAgg147
 z72:=Tryz.sizeOf147
 v72:=Tryz.zeroValue147
 t164:=Tryz.underlying190
 a164:=Tryz.isAgg190
 z164:=Tryz.sizeOf190
 v164:=Tryz.zeroValue190 }
theorem Tryz.x72_240:Builder.X72 Tryz.prog Tryz.lays240_ren:={
 sizeBuilder:=by kernel_rfl
 liesBuilder:=by kernel_rfl }
section
variable {P:Program} {J:Ren}
set_option maxRecDepth 100000 in
theorem Tryz.string_ex(L:Lays.n169 P J)(X:Builder.Extra P J)(b g cap:Nat)(cur:Array Value)(p:Value)(fb fg:Nat × Nat)(l:List UInt8)(w:World)(h0:l ≠ [])
  (hbk:w.heap[b]? =some (.cells #[p,.slice (some ⟨g,0,none⟩) l.length cap] (J.t 72) fb)) (hg:w.heap[g]? =some (.cells cur (J.t 5) fg)) (hnc:l.length<=cap) (hcs:l.length<=cur.size) (hln:l.length<=9223372036854775807)
  (hcl:∀j x,l[j]? =some x->w.cell? ((⟨g,0,none⟩:Addr).add j)=some (.int .u8 x.toNat)):
  Calls P (J.f 169) #[.pointer (some ⟨b,0,none⟩)] w fun e w'=>e=.returned (.string ⟨l.toArray⟩)/\ w'=w.drew.freeze ⟨g,0,none⟩ l.length:=by
 have hl0:l.length ≠ 0:=by simpa using h0
 have c1:w.drew.cell? ⟨b,1,none⟩=some (.slice (some ⟨g,0,none⟩) l.length cap):=by
  have:w.drew.heap[b]? =some (.cells #[p,.slice (some ⟨g,0,none⟩) l.length cap] (J.t 72) fb):=hbk
  rw [Lib.cell_of_heap this];rfl
 have hSD:(Builtin.unsafeSliceData_ #[(J.t 37)] (J.t 127) #[.slice (some ⟨g,0,none⟩) l.length cap]).run P w.drew=.ok (.pointer (some ⟨g,0,none⟩)) w.drew:=
  Lib.run_unsafeSliceData_row _ _ _ _ _ _ (by omega)
 have hUS:(Builtin.unsafeString_ #[(J.t 127),(J.t 3)] (J.t 9) #[.pointer (some ⟨g,0,none⟩),.int .i64 l.length]).run P w.drew=.ok (.string ⟨l.toArray⟩) (w.drew.freeze ⟨g,0,none⟩ l.length):=
  Lib.run_unsafeString_row w.drew (J.t 127) (J.t 3) (J.t 9) (J.t 5) L.t127 X.cellsByte g cur.size (by have hg':w.drew.heap[g]? =some (.cells cur (J.t 5) fg):=hg;simp [World.shape?,hg']) l h0 hcs hln hcl
 have mixed:=L.mixed
 have t72:=L.t72;have a72:=L.a72;have z72:=L.z72;have v72:=L.v72;have u72:=run_underlying L.t72
 have t70:=L.t70;have a70:=L.a70;have z70:=L.z70;have v70:=L.v70;have u70:=run_underlying L.t70
 have t37:=L.t37;have a37:=L.a37;have z37:=L.z37;have v37:=L.v37;have u37:=run_underlying L.t37
 have t127:=L.t127;have a127:=L.a127;have z127:=L.z127;have v127:=L.v127;have u127:=run_underlying L.t127
 have t3:=L.t3;have a3:=L.a3;have z3:=L.z3;have v3:=L.v3;have u3:=run_underlying L.t3
 have t9:=L.t9;have a9:=L.a9;have z9:=L.z9;have v9:=L.v9;have u9:=run_underlying L.t9
 have t5:=X.t5;have a5:=X.a5;have z5:=X.z5;have v5:=X.v5;have u5:=run_underlying X.t5
 clear hcl hcs hln hg hbk hnc
 go_enter L.f169,Body.n169_ntmps J
 go_wp2
 go_region_o
 all_goals (go_wp2;go_ret;exact⟨rfl,rfl⟩)
end
end Go.Proofs
namespace Go.Proofs.YtlfpiblipmiobaaGreatDoor
namespace Am
open Go.RowKit
section
variable {C:Ctx} {γ:Places} {O:Store} {w w':World}
theorem Rel.lose(h:Rel C γ O w){r:Nat}{pl:Place}(hr:γ[r]? =some (true,pl))(hsz:w'.heap.size=w.heap.size)(hother:∀b,b ≠ pl.b->w'.heap[b]? =w.heap[b]?)(ho:w'.os=w.os)(ht:w'.tape=w.tape)(hp:w'.output=w.output):
  Step γ w (γ.set r (false,pl)) w'/\ Rel C (γ.set r (false,pl)) (O.set r none) w':=by
 obtain⟨k1,k2⟩:=h.kill hr
 have hrl:r<γ.length:=(List.getElem?_eq_some_iff.1 hr).1
 have hs:Step γ w (γ.set r (false,pl)) w':=⟨k1.keep,by omega,fun b _ hn=>hother b fun e=>hn r pl hr e.symm,fun q x hx=>by
  rcases k1.new q x hx with h|h
  ·exact .inl h
  ·exact .inr h,ho,ht,hp⟩
 refine⟨hs,by simp [h.len],fun q o hq=> ?_,fun q hq=>k2.dead q hq,fun q q' x x' h1 h2 h3=>k2.inj q q' x x' h1 h2 h3,fun g cs hg=>(h.gl g cs hg).mono hs⟩
 by_cases e:r=q
 ·subst e
  rw [List.getElem?_set_self (by rw [<-h.len];exact hrl)]at hq;cases hq
 ·rw [List.getElem?_set_ne e]at hq
  obtain⟨x,h1,h2⟩:=h.alive q o hq
  exact⟨x,by rw [List.getElem?_set_ne e];exact h1,h2.mono hs (hother _ fun e'=>e (h.inj r q pl x hr h1 e'.symm))⟩
theorem Rel.bld_at(hR:Rel C γ O w){r:Nat}{x:AV}(hr:O[r]? =some (some [[.bld r,x]])):∃(pl:Place) (v0 v1:Value) (fz:Nat × Nat),γ[r]? =some (true,pl)/\ pl.base=0/\ pl.esz=2/\ w.heap[pl.b]? =some (.cells #[v0,v1] bldT fz) ∧
  (v0=.pointer none \/v0=.pointer (some ⟨pl.b,0,none⟩))/\ VR γ w x v1/\ (∀k,k<2->(decide (fz.1<=k) && decide (k<fz.2))=false):=by
 obtain⟨pl,hpl,hok⟩:=hR.alive r _ hr
 obtain⟨c,ty,fz,pre,mid,post,q1,q2,q3,q4,q5,q6⟩:=hok.ex
 simp only [List.flatten_cons,List.flatten_nil,List.append_nil,VRs]at q5
 obtain⟨v0,_,rfl,⟨k1,_⟩,v1,_,rfl,⟨k2,_⟩,rfl⟩:=q5
 simp only [VR]at k1
 obtain⟨fl,pl',hpl',⟨e1,e2,e3,e4,e5⟩,k3⟩:=k1
 rw [hpl]at hpl';cases hpl'
 have hty:ty=bldT:=by
  obtain⟨c0,fz0,h0⟩:=hok.tyk
  rw [q1]at h0;cases h0;exact e1
 have hpre:pre=[]:=List.eq_nil_of_length_eq_zero (by omega)
 subst hpre
 have hlen:c.toList.length=2:=by rw [Array.length_toList,q4,e5]
 have hpost:post=[]:=by
  rw [q2]at hlen
  simpa using hlen
 subst hpost
 have hc:c= #[v0,v1]:=by
  apply Array.ext'
  rw [q2];rfl
 subst hc hty
 exact⟨pl,v0,v1,fz,hpl,e2,e3,q1,k3,k2,fun k hk=>q6 k hk⟩
end
theorem zus{O:Store}{r:Nat}{x:Option AObj}(h:O[r]? =some x):O.set r x=O:=by
 apply List.ext_getElem?
 intro i
 by_cases e:r=i
 ·subst e
  rw [List.getElem?_set_self (List.getElem?_eq_some_iff.1 h).1,h]
 ·rw [List.getElem?_set_ne e]
theorem zdq(O:Store)(r:Nat)(x:AV)(hr:O[r]? =some (some [[.bld r,x]])):ACallsTo TC 125 [.ptr r 0 0] O (.tup []) O:=by
 obtain⟨e,hc⟩:=Option.isSome_iff_exists.1 (show (cFn TC 125).isSome=true by kernel_rfl)
 simp only [cFn,Option.bind_eq_some_iff]at hc
 obtain⟨fn,hf,hc⟩:=hc
 split at hc
 ·cases hc
 ·rename_i hname
  simp only [Option.bind_eq_some_iff,Option.map_eq_some_iff]at hc
  obtain⟨c,hb,_⟩:=hc
  intro γ w cargs hR ha
  left
  constructor
  ·have h1:fn.name ≠ "runtime.NumGoroutine" :=by simpa using hname
   simp [callFunc,hf,h1,hb]
  ·obtain⟨pl,v0,v1,fz,hpl,hb0,hez,hw,hv0,hv1,hfz⟩:=hR.bld_at hr
   simp only [VRt,VR]at ha
   obtain⟨_,_,rfl,⟨fl,pl',hpl',rfl⟩,rfl⟩:=ha
   rw [hpl]at hpl';cases hpl'
   have ea:pl.base+0*pl.esz+0=0:=by rw [hb0];omega
   rw [ea]
   have hcell:w.cell? ⟨pl.b,0,none⟩=some v0:=by rw [Lib.cell_of_heap hw];rfl
   rcases hv0 with rfl|rfl
   ·refine(Any.Builder_copyCheck_fresh Tryz.lays240 Tryz.x72_240 pl.b w hcell (by simp [World.shape?,hw];rfl) (by simp only [World.frozen?,hw];exact hfz 0 (by omega))).mono ?_
    rintro e w' ⟨rfl,rfl⟩
    obtain⟨w2,k1,k2,k3⟩:=hR.storeElem (i:=0) (off:=0) (vs:=[.bld r]) (vals:=[.pointer (some ⟨pl.b,0,none⟩)]) hr hpl rfl (by simp) (VRs.one ⟨by
     simp only [VR]
     obtain⟨pl2,hpl2,hok⟩:=hR.alive r _ hr
     rw [hpl]at hpl2;cases hpl2
     obtain⟨c,ty,fz2,pre,mid,post,q1,q2,q3,q4,q5,q6⟩:=hok.ex
     simp only [List.flatten_cons,List.flatten_nil,List.append_nil,VRs,VR]at q5
     obtain⟨u0,_,_,⟨⟨fl3,pl3,hpl3,k,_⟩,_⟩,_⟩:=q5
     rw [hpl]at hpl3;cases hpl3
     exact⟨true,pl,hpl,k,.inr rfl⟩,rfl⟩)
    rw [ea]at k1
    have e2:w2=w.setCell ⟨pl.b,0,none⟩ (.pointer (some ⟨pl.b,0,none⟩)):=by
     have hfr:w.frozen? ⟨pl.b,0,none⟩=false:=by simp only [World.frozen?,hw];exact hfz 0 (by omega)
     have hst:(store ⟨pl.b,0,none⟩ (.pointer (some ⟨pl.b,0,none⟩))).run TC.P w=.ok () (w.setCell ⟨pl.b,0,none⟩ (.pointer (some ⟨pl.b,0,none⟩))):=by
      rw [run_store TC.P w _ _ _ rfl,hcell];simp [hfr]
     have:=k1
     simp only [storeCells,z38,Nat.add_zero,Sem.run_bind,hst,Result.andThen_ok,Sem.run_pure,Result.ok.injEq,true_and]at this
     exact this.symm
    rw [<-e2]
    have e3:O.set r (some ([[.bld r,x]].set 0 (z1c [.bld r,x] 0 [.bld r])))=O:=by
     have:([[AV.bld r,x]]:List (List AV)).set 0 (z1c [.bld r,x] 0 [.bld r])=[[.bld r,x]]:=by simp [z1c]
     rw [this]
     exact zus hr
    rw [e3]at k3
    exact⟨_,γ,rfl,k2,k3,by simp only [VR];exact⟨[],rfl,VRt.nil⟩⟩
   ·refine(Any.Builder_copyCheck_used Tryz.lays240 Tryz.x72_240 pl.b w hcell).mono ?_
    rintro e w' ⟨rfl,rfl⟩
    exact⟨_,γ,rfl,Step.refl _ _,hR,by simp only [VR];exact⟨[],rfl,VRt.nil⟩⟩
theorem zdf(O:Store)(r rb:Nat)(s:List UInt8)(h0:s ≠ [])(hs:s.length<=1073741824)(h1:O[r]? =some (some [[.bld r,.bsl rb s.length]]))(h2:O[rb]? =some (some (zw s))):
  ACallsTo TC 92 [.ptr r 0 0] O (.str s) (O.set rb none):=by
 obtain⟨e,hc⟩:=Option.isSome_iff_exists.1 (show (cFn TC 92).isSome=true by kernel_rfl)
 simp only [cFn,Option.bind_eq_some_iff]at hc
 obtain⟨fn,hf,hc⟩:=hc
 split at hc
 ·cases hc
 ·rename_i hname
  simp only [Option.bind_eq_some_iff,Option.map_eq_some_iff]at hc
  obtain⟨c,hb,_⟩:=hc
  intro γ w cargs hR ha
  left
  constructor
  ·have h1:fn.name ≠ "runtime.NumGoroutine" :=by simpa using hname
   simp [callFunc,hf,h1,hb]
  ·obtain⟨pl,v0,v1,fz,hpl,hb0,hez,hw,hv0,hv1,hfz⟩:=hR.bld_at h1
   simp only [VRt,VR]at ha
   obtain⟨_,_,rfl,⟨fl,pl',hpl',rfl⟩,rfl⟩:=ha
   rw [hpl]at hpl';cases hpl'
   have ea:pl.base+0*pl.esz+0=0:=by rw [hb0];omega
   rw [ea]
   simp only [VR]at hv1
   obtain⟨fl2,pb,cap,hpb,⟨t1,t2,t3⟩,rfl,hso⟩:=hv1
   obtain⟨pb',hpb',hok⟩:=hR.alive rb _ h2
   rw [hpb]at hpb';cases hpb'
   obtain⟨cur,ty,fg,pre,mid,post,q1,q2,q3,q4,q5,q6⟩:=hok.ex
   have hty:ty=u8T:=by
    obtain⟨c0,fz0,h0⟩:=hok.tyk
    rw [q1]at h0;cases h0;exact t1
   subst hty
   have hpre:pre=[]:=List.eq_nil_of_length_eq_zero (by omega)
   subst hpre
   rw [zdg]at q5
   have hml:=q5.length
   rw [List.length_map]at hml
   have hcs:s.length<=cur.size:=by
    rw [<-Array.length_toList,q2];simp;omega
   refine(Tryz.string_ex Tryz.lays169 Tryz.Builder_Extra_169 pl.b pb.b cap cur v0 fz fg s w h0 hw q1 hso.le hcs (by omega) (fun j x hj=> ?_)).mono ?_
   ·obtain⟨v,k1,k2⟩:=q5.get (i:=j) (a:=B8 x) (by rw [List.getElem?_map,hj];rfl)
    have hv:=k2.1
    simp only [B8,VR]at hv
    rw [z38,Nat.zero_add,Lib.cell_of_heap q1]
    show cur[j]? =_
    rw [<-Array.getElem?_toList,q2,List.nil_append,List.getElem?_append_left (by
     rcases Nat.lt_or_ge j mid.length with h|h
     ·exact h
     ·simp [List.getElem?_eq_none h]at k1),k1,hv]
   ·rintro e w' ⟨rfl,rfl⟩
    have hz:s.length ≠ 0:=by simpa using h0
    obtain⟨k1,k2⟩:=hR.lose (w':=w.drew.freeze ⟨pb.b,0,none⟩ s.length) hpb (by show (World.freeze w.drew _ _).heap.size=w.drew.heap.size;unfold World.freeze;rw [if_neg hz];exact Array.size_modify) (fun b hb=>by
     show (World.freeze w.drew _ _).heap[b]? =w.drew.heap[b]?
     unfold World.freeze
     rw [if_neg hz]
     simp only [Array.getElem?_modify]
     rw [if_neg (fun e=>hb e.symm)]) (by unfold World.freeze;rw [if_neg hz];rfl) (by unfold World.freeze;rw [if_neg hz];rfl) (by unfold World.freeze;rw [if_neg hz];rfl)
    exact⟨_,_,rfl,k1,k2,by simp only [VR]⟩
end Am
end Go.Proofs.YtlfpiblipmiobaaGreatDoor
end
namespace Go.Proofs.YtlfpiblipmiobaaGreatDoor
namespace Am
section
theorem zng{k:Nat}(l:List UInt8):RLss k (zw l):=by
 induction l with
 |nil=>simp [zw,RLss]
 |cons b l ih=>simp only [zw,B8]at ih;simp [zw,RLss,B8,RLs,RL,ih]
def OwnB(O O':Store)(v:AV)(b:List UInt8):Prop:=∃news j,O'=O++news/\ v=.sl (O.length+j) 0 b.length none 1/\ news[j]? =some (some (zw b))
theorem OwnB.down{O O':Store}{v:AV}{b:List UInt8}(hw:Wf O.length O)(h:OwnB O O' v b):DownV O.length v O' (.vsl 1 (zw b) false) O:=by
 obtain⟨news,j,rfl,rfl,h⟩:=h
 have hl:(zw b).length=b.length:=zo b
 have e:((zw b).drop 0).take b.length=zw b:=by rw [List.drop_zero,List.take_of_length_le (by omega)]
 have:=DownV.froze (off:=0) (len:=b.length) (esz:=1) (lim:=none) hw h (by omega) (by rw [e];exact zng b)
 rw [e]at this
 exact this
theorem OwnB.app{O O':Store}{r n:Nat}{b c:List UInt8}(h:OwnB O O' (.sl r 0 n none 1) b):OwnB O (O'.set r none++ [some (zw c)]) (.sl O'.length 0 c.length none 1) c:=by
 obtain⟨news,j,rfl,e,h⟩:=h
 simp only [AV.sl.injEq,true_and,and_true]at e
 obtain⟨rfl,rfl⟩:=e
 refine⟨news.set j none++ [some (zw c)],news.length,?_,by simp,?_⟩
 ·rw [List.set_append_right _ _ (by omega),Nat.add_sub_cancel_left,List.append_assoc]
 ·rw [List.getElem?_append_right (by simp)];simp
theorem OwnB.get{O O':Store}{v:AV}{b:List UInt8}(h:OwnB O O' v b):∃r,v=.sl r 0 b.length none 1/\ O'[r]? =some (some (zw b)):=by
 obtain⟨news,j,rfl,rfl,h⟩:=h
 exact⟨_,rfl,by rw [List.getElem?_append_right (by omega),Nat.add_sub_cancel_left];exact h⟩
theorem zhg(b:List UInt8)(x:Nat)(m:Int)(h:m=((x%256:Nat):Int)):zw b++ [[AV.int .u8 m]]=zw (b++ [UInt8.ofNat x]):=by
 subst h
 simp [zw,B8]
theorem zo0(x:Nat){j:Nat}(h:j<8):(be 8 x).take j++ [UInt8.ofNat (x/2^(8*(7-j)))]=(be 8 x).take (j+1):=by
 have e:be 8 x=[UInt8.ofNat (x/256^7),UInt8.ofNat (x/256^6),UInt8.ofNat (x/256^5),UInt8.ofNat (x/256^4),UInt8.ofNat (x/256^3),UInt8.ofNat (x/256^2),UInt8.ofNat (x/256^1),UInt8.ofNat (x/256^0)]:=by
  simp only [z9p]
  rfl
 rw [e]
 have hj:j=0 \/j=1 \/j=2 \/j=3 \/j=4 \/j=5 \/j=6 \/j=7:=by omega
 rcases hj with rfl|rfl|rfl|rfl|rfl|rfl|rfl|rfl<;>rfl
theorem pad_to(O:Store)(s:List UInt8)(h:s.length<1000000000):ACallsTo TC 131 [.str s] O (.vsl 1 (zw (padS s)) false) O:=by
 obtain⟨z,hz⟩:∃z:Nat,z=(119-s.length%64)%64:=⟨_,rfl⟩
 have hz64:z<64:=by rw [hz];exact Nat.mod_lt _ (by decide)
 obtain⟨P,hP⟩:∃P,P=padS s:=⟨_,rfl⟩
 have hP2:P=(s++128::List.replicate z 0)++be 8 (s.length*8):=by rw [hP,padS,hz];simp
 rw [<-hP]
 refine ACallsTo.of_body q8ok (by simp) fun hw _=> ?_
 repeat' (first|apply zs_|apply zb_|apply zc_|apply zt_ rfl|apply zf_ rfl|(apply zd_ rfl<;>intro ht<;>try omega)|((first|apply zr_|apply zk_|apply ze_|apply zq_|(apply zG<;>intro ht));all_goals try simp (disch:=first|omega|(simp only [lens];first|done|omega)) only [go_sem]))
 refine zW.loop (fun m J O'=>∃k:Nat,m+k=z/\ J 0=.str s/\ OwnB O O' (J 3) (s++128::List.replicate k 0)) z ?_ ?_
 ·refine⟨0,by omega,by simp (disch:=first|omega|(simp only [lens];first|done|omega)) only [go_sem],?_⟩
  simp (disch:=first|omega|(simp only [lens];first|done|omega)) only [go_sem]
  refine⟨[none,some (zw (s++ [128]))],1,?_,?_,rfl⟩
  ·simp [zw,B8]
  ·simp
 ·rintro m J O' ⟨k,hm,q0,hO⟩
  obtain⟨r,q3,hg⟩:=hO.get
  have hb:(s++128::List.replicate k 0).length=s.length+1+k:=by simp;omega
  have hbe:=zo (s++128::List.replicate k 0)
  by_cases hk:k<z
  ·rw [q3]at hO
   rw [hb]at q3 hbe hO
   have e0:zw (s++128::List.replicate k 0)++ [[AV.int .u8 0]]=zw (s++128::List.replicate (k+1) 0):=by
    rw [zhg _ 0 0 (by simp),List.append_assoc,List.cons_append,List.replicate_succ']
    rfl
   have hO2:=hO.app (c:=s++128::List.replicate (k+1) 0)
   have hc:(s++128::List.replicate (k+1) 0).length=s.length+1+k+1:=by simp;omega
   rw [hc]at hO2
   generalize zw (s++128::List.replicate k 0)=bb at*
   repeat' (first|apply zs_|apply zb_|apply zc_|apply zt_ rfl|apply zf_ rfl|(apply zd_ rfl<;>intro ht<;>try omega)|((first|apply zr_|apply zk_|apply ze_|apply zq_|(apply zG<;>intro ht));all_goals try simp (disch:=first|omega|(simp only [lens];first|done|omega)) only [go_sem,q0,q3,hg,hbe,e0]))
   exact⟨z-(k+1),by omega,k+1,by omega,hO2⟩
  ·obtain rfl:k=z:=by omega
   obtain⟨N,hN⟩:∃N,N=s.length*8:=⟨_,rfl⟩
   have hN2:(s.length:Int)*8=N:=by omega
   have hb8:(be 8 N).length=8:=z3z _ _
   rw [<-hN]at hP2
   rw [hb]at q3 hbe
   have h56:((s.length:Int)+1+k)%64=56:=by omega
   generalize hB:s++128::List.replicate k 0=B at*
   repeat' (first|apply zs_|apply zb_|apply zc_|apply zt_ rfl|apply zf_ rfl|(apply zd_ rfl<;>intro ht<;>try omega)|((first|apply zr_|apply zk_|apply ze_|apply zq_|(apply zG<;>intro ht));all_goals try simp (disch:=first|omega|(simp only [lens];first|done|omega)) only [go_sem,q0,q3,h56,hN2,Int.natCast_add,Int.natCast_one]))
   refine zW.loop (fun m J O'=>∃j:Nat,m+j=8/\ J 4=.int .u64 N/\ J 5=.int .i64 (7-j)/\ OwnB O O' (J 3) (B++(be 8 N).take j)) 8 ?_ ?_
   ·refine⟨0,by omega,by simp (disch:=first|omega|(simp only [lens];first|done|omega)) only [go_sem],by simp (disch:=first|omega|(simp only [lens];first|done|omega)) only [go_sem];rfl,?_⟩
    simp (disch:=first|omega|(simp only [lens];first|done|omega)) only [go_sem,q3]
    rw [q3]at hO
    exact hO
   ·clear q0 q3 hO hg
    rintro m J O' ⟨j,hm,q4,q5,hO⟩
    obtain⟨r,q3,hg⟩:=hO.get
    have hl:(B++(be 8 N).take j).length=s.length+1+k+j:=by rw [List.length_append,hb,List.length_take,hb8];omega
    have hbe:=zo (B++(be 8 N).take j)
    by_cases hj:j<8
    ·rw [q3]at hO
     rw [hl]at q3 hbe hO
     have hO2:=hO.app (c:=B++(be 8 N).take (j+1))
     have hc:(B++(be 8 N).take (j+1)).length=s.length+1+k+j+1:=by rw [List.length_append,hb,List.length_take,hb8];omega
     rw [hc]at hO2
     have hs:(8*(7-(j:Int))).toNat=8*(7-j):=by omega
     have e0:zw (B++(be 8 N).take j)++ [[AV.int .u8 ((N:Int)/2^(8*(7-j))%256)]]=zw (B++(be 8 N).take (j+1)):=by
      rw [zhg _ (N/2^(8*(7-j))) _ (by rw [Int.natCast_emod,Int.natCast_ediv,Int.natCast_pow];rfl),List.append_assoc,zo0 N hj]
     generalize zw (B++(be 8 N).take j)=bb at*
     repeat' (first|apply zs_|apply zb_|apply zc_|apply zt_ rfl|apply zf_ rfl|(apply zd_ rfl<;>intro ht<;>try omega)|((first|apply zr_|apply zk_|apply ze_|apply zq_|(apply zG<;>intro ht));all_goals try simp (disch:=first|omega|(simp only [lens];first|done|omega)) only [go_sem,q3,q4,q5,hg,hbe,hs,e0]))
     exact⟨8-(j+1),by omega,j+1,by omega,by rw [show (7:Int)-((j+1:Nat):Int)=7-j-1 by omega],hO2⟩
    ·obtain rfl:j=8:=by omega
     have e8:B++(be 8 N).take 8=P:=by rw [List.take_of_length_le (by omega)];exact hP2.symm
     rw [e8]at hO q3
     repeat' (first|apply zs_|apply zb_|apply zc_|apply zt_ rfl|apply zf_ rfl|(apply zd_ rfl<;>intro ht<;>try omega)|((first|apply zr_|apply zk_|apply ze_|apply zq_|(apply zG<;>intro ht));all_goals try simp (disch:=first|omega|(simp only [lens];first|done|omega)) only [go_sem,q3,q5]))
     rw [q3]at hO
     exact hO.down hw
end
section
def z32:List AV:=zm (List.replicate 32 0)
def mkS(τ:Store)(u:V8)(cells:List AV):Store:=τ++ [some [z32],some [gl_sha_rounds],some [u.c8],some [cells]]
def Rk(J:Env)(a:Nat)(p:List UInt8)(n:Nat):Prop:=
 J 2=.ptr a 0 0/\ J 3=.ptr (a+1) 0 0/\ J 4=.ptr (a+2) 0 0/\ J 5=.vsl 1 (zw p) false/\ J 6=.ptr (a+3) 0 0/\ J 7=.int .i64 n
theorem zht{w:List W}{x:W}{n:Nat}{rest:List AV}(h:w.length=n)(hr:0<rest.length):(ws w++rest).take n++AV.int .u32 x.toNat::(ws w++rest).drop (n+1)=ws (w++ [x])++rest.drop 1:=by
 have hl:(ws w).length=n:=by rw [z4h,h]
 rw [List.take_append_of_le_length (by omega),List.take_of_length_le (by omega),List.drop_append,List.drop_of_length_le (by omega),hl]
 rw [show n+1-n=1 by omega,List.nil_append]
 simp [ws,wc]
theorem zwj{p:List UInt8}{n i:Nat}(h:n+4*i+4<=p.length)(hi:i<16):
  ((p.getD (n+4*i) 0).toNat:Int)*16777216+(p.getD (n+4*i+1) 0).toNat*65536+(p.getD (n+4*i+2) 0).toNat*256+(p.getD (n+4*i+3) 0).toNat=((zz ((p.drop n).take 64) i).toNat:Int):=by
 have e:((((p.drop n).take 64).drop (4*i)).take 4)=[p.getD (n+4*i) 0,p.getD (n+4*i+1) 0,p.getD (n+4*i+2) 0,p.getD (n+4*i+3) 0]:=by
  rw [List.drop_take,List.take_take,List.drop_drop,show min 4 (64-4*i)=4 by omega]
  obtain⟨A,hA⟩:∃A,A=p.drop (n+4*i):=⟨_,rfl⟩
  have g:∀k,p.getD (n+4*i+k) 0=A.getD k 0:=by
   intro k
   rw [hA,List.getD_eq_getElem?_getD,List.getD_eq_getElem?_getD,List.getElem?_drop]
  have g0:=g 0
  rw [Nat.add_zero]at g0
  rw [g0,g 1,g 2,g 3,<-hA]
  have hl:4<=A.length:=by rw [hA,List.length_drop];omega
  match A,hl with
  |a::b::c::d::A,_=>rfl
 unfold zz
 rw [e]
 generalize p.getD (n+4*i) 0=a
 generalize p.getD (n+4*i+1) 0=b
 generalize p.getD (n+4*i+2) 0=c
 generalize p.getD (n+4*i+3) 0=d
 have h1:=a.toNat_lt
 have h2:=b.toNat_lt
 have h3:=c.toNat_lt
 have h4:=d.toNat_lt
 simp only [getS,val,List.take_of_length_le (show [a,b,c,d].length<=8 by simp),List.foldl_cons,List.foldl_nil,BitVec.toNat_ofNat]
 omega
section
variable {k:Nat} {Q:AExit->Env->Store->Prop} {J:Env} {τ:Store} {u:V8} {p:List UInt8} {n:Nat}
theorem zub{cells:List AV}(K:Rk J τ.length p n)(hp:n+64<=p.length)(hpl:p.length<2000000000)(hc:cells.length=64)
  (hQ:∀J' rest,rest.length=48->Rk J' τ.length p n->Q .normal J' (mkS τ u (ws (z14 ((p.drop n).take 64) 16)++rest))):zW TC 252 k q6c21 Q J (mkS τ u cells):=by
 obtain⟨k2,k3,k4,k5,k6,k7⟩:=K
 obtain⟨q,hq⟩:∃q,q=(p.drop n).take 64:=⟨_,rfl⟩
 rw [<-hq]at hQ
 repeat' (first|apply zs_|apply zb_|apply zc_|apply zt_ rfl|apply zf_ rfl|(apply zd_ rfl<;>intro ht<;>try omega)|((first|apply zr_|apply zk_|apply ze_|apply zq_|(apply zG<;>intro ht));all_goals try simp (disch:=first|omega|(simp only [lens];first|done|omega)) only [go_sem]))
 refine zW.loop (fun m J O'=>∃(i:Nat) (rest:List AV),m+i=16/\ rest.length=64-i/\ Rk J τ.length p n/\ J 8=.int .i64 i/\ O'=mkS τ u (ws (z14 q i)++rest)) 16 ?_ ?_
 ·exact⟨0,cells,by omega,hc,⟨by simp (disch:=first|omega|(simp only [lens];first|done|omega)) only [go_sem,k2],by simp (disch:=first|omega|(simp only [lens];first|done|omega)) only [go_sem,k3],by simp (disch:=first|omega|(simp only [lens];first|done|omega)) only [go_sem,k4],by simp (disch:=first|omega|(simp only [lens];first|done|omega)) only [go_sem,k5],by simp (disch:=first|omega|(simp only [lens];first|done|omega)) only [go_sem,k6],by simp (disch:=first|omega|(simp only [lens];first|done|omega)) only [go_sem,k7]⟩,by simp (disch:=first|omega|(simp only [lens];first|done|omega)) only [go_sem];rfl,rfl⟩
 ·rintro m J O' ⟨i,rest,hm,hr,⟨q2,q3,q4,q5,q6,q7⟩,q8,rfl⟩
  by_cases hi:i<16
  ·have hwd:=zwj (p:=p) (n:=n) (i:=i) (by omega) hi
   rw [<-hq]at hwd
   have hset:=zht (x:=zz q i) (rest:=rest) (z4u q i) (by omega)
   have hlen:(ws (z14 q i)++rest).length=64:=by rw [List.length_append,z4h,z4u,hr];omega
   have hsc:z14 q (i+1)=z14 q i++ [zz q i]:=by rw [z14,z34,z4u,if_pos hi]
   have n0:((n:Int)+4*i).toNat=n+4*i:=by omega
   have n1:((n:Int)+4*i+1).toNat=n+4*i+1:=by omega
   have n2:((n:Int)+4*i+2).toNat=n+4*i+2:=by omega
   have n3:((n:Int)+4*i+3).toNat=n+4*i+3:=by omega
   have b0:=(p.getD (n+4*i) 0).toNat_lt
   have b1:=(p.getD (n+4*i+1) 0).toNat_lt
   have b2:=(p.getD (n+4*i+2) 0).toNat_lt
   have b3:=(p.getD (n+4*i+3) 0).toNat_lt
   have g0:=ziu (s:=p) (i:=n+4*i) (by omega)
   have e0:=z9q (s:=p) (i:=n+4*i) (by omega)
   have e1:=z9q (s:=p) (i:=n+4*i+1) (by omega)
   have e2:=z9q (s:=p) (i:=n+4*i+2) (by omega)
   have e3:=z9q (s:=p) (i:=n+4*i+3) (by omega)
   have hpb:=zo p
   unfold mkS
   generalize p.getD (n+4*i) 0=x0 at*
   generalize p.getD (n+4*i+1) 0=x1 at*
   generalize p.getD (n+4*i+2) 0=x2 at*
   generalize p.getD (n+4*i+3) 0=x3 at*
   generalize hpb2:zw p=pb at*
   generalize hcc:ws (z14 q i)++rest=cc at*
   repeat' (first|refine zs_ ?_|refine zb_ ?_|refine zc_ ?_|refine zt_ rfl ?_|refine zf_ rfl ?_|(refine zd_ rfl (fun ht=> ?_) (fun ht=> ?_)<;>try (exfalso;omega))|((first|refine zW.regS ?_|refine zk_ ?_|refine ze_ ?_|refine zq_ ?_|(apply zG<;>intro ht));all_goals try simp (disch:=first|omega|(simp only [lens];first|done|omega)) only [go_sem,q2,q3,q4,q5,q6,q7,q8,hlen,n0,n1,n2,n3,e0,e1,e2,e3]))
   refine⟨16-(i+1),by omega,i+1,rest.drop 1,by omega,by rw [List.length_drop];omega,⟨by simp (disch:=first|omega|(simp only [lens];first|done|omega)) only [go_sem,q2],by simp (disch:=first|omega|(simp only [lens];first|done|omega)) only [go_sem,q3],by simp (disch:=first|omega|(simp only [lens];first|done|omega)) only [go_sem,q4],(by simp (disch:=first|omega|(simp only [lens];first|done|omega)) only [go_sem,q5];rw [hpb2]),by simp (disch:=first|omega|(simp only [lens];first|done|omega)) only [go_sem,q6],by simp (disch:=first|omega|(simp only [lens];first|done|omega)) only [go_sem,q7]⟩,by simp,?_⟩
   rw [hwd,hset,hsc]
  ·obtain rfl:i=16:=by omega
   repeat' (first|apply zs_|apply zb_|apply zc_|apply zt_ rfl|apply zf_ rfl|(apply zd_ rfl<;>intro ht<;>try omega)|((first|apply zr_|apply zk_|apply ze_|apply zq_|(apply zG<;>intro ht));all_goals try simp (disch:=first|omega|(simp only [lens];first|done|omega)) only [go_sem,q8]))
   exact hQ _ rest (by omega) ⟨by simp (disch:=first|omega|(simp only [lens];first|done|omega)) only [go_sem,q2],by simp (disch:=first|omega|(simp only [lens];first|done|omega)) only [go_sem,q3],by simp (disch:=first|omega|(simp only [lens];first|done|omega)) only [go_sem,q4],by simp (disch:=first|omega|(simp only [lens];first|done|omega)) only [go_sem,q5],by simp (disch:=first|omega|(simp only [lens];first|done|omega)) only [go_sem,q6],by simp (disch:=first|omega|(simp only [lens];first|done|omega)) only [go_sem,q7]⟩
theorem zua{q:List UInt8}{rest:List AV}(K:Rk J τ.length p n)(hr:rest.length=48)
  (hQ:∀J',Rk J' τ.length p n->Q .normal J' (mkS τ u (ws (z14 q 64)))):zW TC 252 k q6c34 Q J (mkS τ u (ws (z14 q 16)++rest)):=by
 obtain⟨R,hR⟩:∃R,R=z14 q 64:=⟨_,rfl⟩
 rw [<-hR]at hQ
 obtain⟨k2,k3,k4,k5,k6,k7⟩:=K
 repeat' (first|apply zs_|apply zb_|apply zc_|apply zt_ rfl|apply zf_ rfl|(apply zd_ rfl<;>intro ht<;>try omega)|((first|apply zr_|apply zk_|apply ze_|apply zq_|(apply zG<;>intro ht));all_goals try simp (disch:=first|omega|(simp only [lens];first|done|omega)) only [go_sem]))
 refine zW.loop (fun m J O'=>∃(i:Nat) (rest:List AV),m+i=64/\ 16<=i/\ rest.length=64-i/\ Rk J τ.length p n/\ J 10=.int .i64 i/\ O'=mkS τ u (ws (z14 q i)++rest)) 48 ?_ ?_
 ·exact⟨16,rest,by omega,by omega,hr,⟨by simp (disch:=first|omega|(simp only [lens];first|done|omega)) only [go_sem,k2],by simp (disch:=first|omega|(simp only [lens];first|done|omega)) only [go_sem,k3],by simp (disch:=first|omega|(simp only [lens];first|done|omega)) only [go_sem,k4],by simp (disch:=first|omega|(simp only [lens];first|done|omega)) only [go_sem,k5],by simp (disch:=first|omega|(simp only [lens];first|done|omega)) only [go_sem,k6],by simp (disch:=first|omega|(simp only [lens];first|done|omega)) only [go_sem,k7]⟩,by simp (disch:=first|omega|(simp only [lens];first|done|omega)) only [go_sem];rfl,rfl⟩
 ·clear hr
  rintro m J O' ⟨i,rest,hm,h16,hr,⟨q2,q3,q4,q5,q6,q7⟩,q10,rfl⟩
  have hsl:=z4u q i
  by_cases hi:i<64
  ·have hset:=zht (x:=z34 q (z14 q i)) (rest:=rest) hsl (by omega)
   have hlen:(ws (z14 q i)++rest).length=64:=by rw [List.length_append,z4h,z4u,hr];omega
   have hsc:z14 q (i+1)=z14 q i++ [z34 q (z14 q i)]:=by rw [z14]
   have en:z34 q (z14 q i)=wat (z14 q i) (i-16)+wat (z14 q i) (i-7)+ss0 (wat (z14 q i) (i-15))+ss1 (wat (z14 q i) (i-2)):=by rw [z34,if_neg (by omega),hsl]
   have hwi:∀j,j<i->(ws (z14 q i)++rest)[j]? =some (.int .u32 (wat (z14 q i) j).toNat):=by
    intro j hj
    rw [List.getElem?_append_left (by rw [z4h];omega),z9a (by omega)]
   have g16:=hwi (i-16) (by omega)
   have g7:=hwi (i-7) (by omega)
   have g15:=hwi (i-15) (by omega)
   have g2:=hwi (i-2) (by omega)
   have t16:((i:Int)-16).toNat=i-16:=by omega
   have t7:((i:Int)-7).toNat=i-7:=by omega
   have t15:((i:Int)-15).toNat=i-15:=by omega
   have t2:((i:Int)-2).toNat=i-2:=by omega
   have r7:32-(7:Int).toNat=25:=rfl
   clear hwi
   generalize z34 q (z14 q i)=nx at*
   generalize wat (z14 q i) (i-16)=w16 at*
   generalize wat (z14 q i) (i-7)=w7 at*
   generalize wat (z14 q i) (i-15)=w15 at*
   generalize wat (z14 q i) (i-2)=w2 at*
   unfold mkS
   generalize hpb2:zw p=pb at*
   generalize hcc:ws (z14 q i)++rest=cc at*
   repeat' (first|refine zs_ ?_|refine zb_ ?_|refine zc_ ?_|refine zt_ rfl ?_|refine zf_ rfl ?_|(refine zd_ rfl (fun ht=> ?_) (fun ht=> ?_)<;>try (exfalso;omega))|((first|refine zW.regS ?_|refine zk_ ?_|refine ze_ ?_|refine zq_ ?_|(apply callW.mk_pu;(first|exact(fun _=>zd0 _ _ _ (by omega))))|(apply callW.za;(first|exact(zd0 _ _ _ (by omega))))|(apply zG<;>intro ht));all_goals try simp (disch:=first|omega|(simp only [lens];first|done|omega)) only [go_sem,q2,q3,q4,q5,q6,q7,q10,hlen,g16,g7,g15,g2,t16,t7,t15,t2]))
   refine⟨64-(i+1),by omega,i+1,rest.drop 1,by omega,by omega,by rw [List.length_drop];omega,⟨by simp (disch:=first|omega|(simp only [lens];first|done|omega)) only [go_sem,q2],by simp (disch:=first|omega|(simp only [lens];first|done|omega)) only [go_sem,q3],by simp (disch:=first|omega|(simp only [lens];first|done|omega)) only [go_sem,q4],(by simp (disch:=first|omega|(simp only [lens];first|done|omega)) only [go_sem,q5];rw [hpb2]),by simp (disch:=first|omega|(simp only [lens];first|done|omega)) only [go_sem,q6],by simp (disch:=first|omega|(simp only [lens];first|done|omega)) only [go_sem,q7]⟩,by simp,?_⟩
   rw [hsc,<-hset,en]
   have ec:∀s t:W,w16+s+w7+t=w16+w7+s+t:=fun s t=>by rw [BitVec.add_assoc w16 s w7,BitVec.add_comm s w7,<-BitVec.add_assoc w16 w7 s]
   rw [ec]
   rfl
  ·obtain rfl:i=64:=by omega
   have hr0:rest=[]:=List.eq_nil_of_length_eq_zero (by omega)
   rw [hr0,<-hR,List.append_nil]
   clear hsl hR
   repeat' (first|apply zs_|apply zb_|apply zc_|apply zt_ rfl|apply zf_ rfl|(apply zd_ rfl<;>intro ht<;>try omega)|((first|apply zr_|apply zk_|apply ze_|apply zq_|(apply zG<;>intro ht));all_goals try simp (disch:=first|omega|(simp only [lens];first|done|omega)) only [go_sem,q10]))
   exact hQ _ ⟨by simp (disch:=first|omega|(simp only [lens];first|done|omega)) only [go_sem,q2],by simp (disch:=first|omega|(simp only [lens];first|done|omega)) only [go_sem,q3],by simp (disch:=first|omega|(simp only [lens];first|done|omega)) only [go_sem,q4],by simp (disch:=first|omega|(simp only [lens];first|done|omega)) only [go_sem,q5],by simp (disch:=first|omega|(simp only [lens];first|done|omega)) only [go_sem,q6],by simp (disch:=first|omega|(simp only [lens];first|done|omega)) only [go_sem,q7]⟩
end
end
section
theorem k_get{i:Nat}(h:i<64):gl_sha_rounds[i]? =some (.int .u32 (kAt i).toNat):=by
 have:=zje h
 rwa [List.getElem?_drop,Nat.add_zero]at this
section
variable {k:Nat} {Q:AExit->Env->Store->Prop} {J:Env} {τ:Store} {u:V8} {p:List UInt8} {n:Nat}
theorem zu9{q:List UInt8}(K:Rk J τ.length p n)
  (hQ:∀J',Rk J' τ.length p n->Q .normal J' (mkS τ (mixS u q) (ws (z14 q 64)))):zW TC 252 k q6c53 Q J (mkS τ u (ws (z14 q 64))):=by
 obtain⟨R,hR⟩:∃R,R=z14 q 64:=⟨_,rfl⟩
 have hRl:R.length=64:=by rw [hR,z4u]
 have hwR:(ws R).length=64:=by rw [z4h,hRl]
 have hst:∀n,rnds q u (n+1)=rnd (rnds q u n) (kAt n) (wat R n):=fun n=>by rw [rnds,hR]
 obtain⟨U,hU⟩:∃U,U=rnds q u 64:=⟨_,rfl⟩
 have hmix:mixS u q=U.add u:=by rw [mixS,hU]
 rw [hmix]at hQ
 rw [<-hR]at hQ ⊢
 obtain⟨k2,k3,k4,k5,k6,k7⟩:=K
 unfold mkS
 refine zs_ ?_
 (refine zW.regS ?_;(simp (disch:=first|omega|(simp only [lens];first|done|omega)) only [go_sem,k4,V8.c8]))
 (refine zW.slots [2,3,4,5,6,7,13,14,15,16,17,18,19,20] ?_;intro J1 hs;simp (disch:=first|omega|(simp only [lens];first|done|omega)) only [go_sem,k2,k3,k4,k5,k6,k7]at hs;obtain⟨s2,s3,s4,s5,s6,s7,s13,s14,s15,s16,s17,s18,s19,s20⟩:=hs)
 refine zs_ ?_
 refine zs_ ?_
 (refine zW.regS ?_;(simp (disch:=first|omega|(simp only [lens];first|done|omega)) only [go_sem]))
 refine zb_ ?_
 refine zW.loop (fun m J O'=>∃i:Nat,m+i=64/\ Rk J τ.length p n/\ J 21=.int .i64 i/\ J 13=.int .u32 (rnds q u i).a.toNat/\ J 14=.int .u32 (rnds q u i).b.toNat/\ J 15=.int .u32 (rnds q u i).c.toNat/\ J 16=.int .u32 (rnds q u i).d.toNat ∧
  J 17=.int .u32 (rnds q u i).e.toNat/\ J 18=.int .u32 (rnds q u i).f.toNat/\ J 19=.int .u32 (rnds q u i).g.toNat/\ J 20=.int .u32 (rnds q u i).h.toNat/\ O'=mkS τ u (ws R)) 64 ?_ ?_
 ·exact⟨0,by omega,⟨by simp (disch:=first|omega|(simp only [lens];first|done|omega)) only [go_sem,s2],by simp (disch:=first|omega|(simp only [lens];first|done|omega)) only [go_sem,s3],by simp (disch:=first|omega|(simp only [lens];first|done|omega)) only [go_sem,s4],by simp (disch:=first|omega|(simp only [lens];first|done|omega)) only [go_sem,s5],by simp (disch:=first|omega|(simp only [lens];first|done|omega)) only [go_sem,s6],by simp (disch:=first|omega|(simp only [lens];first|done|omega)) only [go_sem,s7]⟩,by simp (disch:=first|omega|(simp only [lens];first|done|omega)) only [go_sem];rfl,by simp (disch:=first|omega|(simp only [lens];first|done|omega)) only [go_sem,s13];rfl,by simp (disch:=first|omega|(simp only [lens];first|done|omega)) only [go_sem,s14];rfl,by simp (disch:=first|omega|(simp only [lens];first|done|omega)) only [go_sem,s15];rfl,by simp (disch:=first|omega|(simp only [lens];first|done|omega)) only [go_sem,s16];rfl,by simp (disch:=first|omega|(simp only [lens];first|done|omega)) only [go_sem,s17];rfl,by simp (disch:=first|omega|(simp only [lens];first|done|omega)) only [go_sem,s18];rfl,by simp (disch:=first|omega|(simp only [lens];first|done|omega)) only [go_sem,s19];rfl,by simp (disch:=first|omega|(simp only [lens];first|done|omega)) only [go_sem,s20];rfl,rfl⟩
 ·clear s2 s3 s4 s5 s6 s7 s13 s14 s15 s16 s17 s18 s19 s20
  rintro m J O' ⟨i,hm,⟨q2,q3,q4,q5,q6,q7⟩,q21,q13,q14,q15,q16,q17,q18,q19,q20,rfl⟩
  by_cases hi:i<64
  ·have hk:=k_get hi
   have hw:=z9a (w:=R) (i:=i) (by omega)
   have hst:=hst i
   generalize rnds q u i=v at*
   obtain⟨a,b,c,d,e,f,g,h⟩:=v
   simp only at q13 q14 q15 q16 q17 q18 q19 q20
   generalize kAt i=kk at*
   generalize wat R i=ww at*
   generalize hpb:zw p=pb at*
   unfold mkS
   refine zs_ ?_
   refine zs_ ?_
   (refine zW.regS ?_;(simp (disch:=first|omega|(simp only [lens];first|done|omega)) only [go_sem,q21]))
   refine zt_ rfl ?_
   refine zk_ ?_
   simp (disch:=first|omega|(simp only [lens];first|done|omega)) only [go_sem]
   refine zs_ ?_
   refine zb_ ?_
   refine zs_ ?_
   (refine zW.regS ?_;(simp (disch:=first|omega|(simp only [lens];first|done|omega)) only [go_sem,q3,q6,q17,q18,q19,q20,q21,hwR,hk,hw,za2]);repeat' (apply callW.za;(first|exact(zd0 _ _ _ (by omega)));all_goals try (simp (disch:=first|omega|(simp only [lens];first|done|omega)) only [go_sem,q3,q6,q17,q18,q19,q20,q21,hwR,hk,hw,za2])))
   (refine zW.slots [2,3,4,5,6,7,13,14,15,16,17,18,19,20,21,22] ?_;intro J2 hs;simp (disch:=first|omega|(simp only [lens];first|done|omega)) only [go_sem,q2,q3,q4,q5,q6,q7,q13,q14,q15,q16,q17,q18,q19,q20,q21]at hs;obtain⟨s2,s3,s4,s5,s6,s7,s13,s14,s15,s16,s17,s18,s19,s20,s21,s22⟩:=hs)
   refine zs_ ?_
   (refine zW.regS ?_;(simp (disch:=first|omega|(simp only [lens];first|done|omega)) only [go_sem,s13,s14,s15]);repeat' (apply callW.za;(first|exact(zd0 _ _ _ (by omega)));all_goals try (simp (disch:=first|omega|(simp only [lens];first|done|omega)) only [go_sem,s13,s14,s15])))
   (refine zW.slots [2,3,4,5,6,7,13,14,15,16,17,18,19,20,21,22,23] ?_;intro J3 hs;simp (disch:=first|omega|(simp only [lens];first|done|omega)) only [go_sem,s2,s3,s4,s5,s6,s7,s13,s14,s15,s16,s17,s18,s19,s20,s21,s22]at hs;obtain⟨s2,s3,s4,s5,s6,s7,s13,s14,s15,s16,s17,s18,s19,s20,s21,s22,s23⟩:=hs)
   (refine zW.regS ?_;(simp (disch:=first|omega|(simp only [lens];first|done|omega)) only [go_sem,s13,s14,s15,s16,s17,s18,s19,s22,s23]))
   (refine zW.slots [2,3,4,5,6,7,13,14,15,16,17,18,19,20,21] ?_;intro J4 hs;simp (disch:=first|omega|(simp only [lens];first|done|omega)) only [go_sem,s2,s3,s4,s5,s6,s7,s21]at hs;obtain⟨s2,s3,s4,s5,s6,s7,s13,s14,s15,s16,s17,s18,s19,s20,s21⟩:=hs)
   (refine zW.regS ?_;(simp (disch:=first|omega|(simp only [lens];first|done|omega)) only [go_sem,s21]))
   refine⟨64-(i+1),by omega,i+1,by omega,⟨s2,s3,s4,by rw [hpb];exact s5,s6,s7⟩,by simp,?_⟩
   rw [hst]
   simp only [rnd,bs1,chW,bs0,majW]
   exact⟨s13,s14,s15,s16,s17,s18,s19,s20⟩
  ·obtain rfl:i=64:=by omega
   rw [<-hU]at q13 q14 q15 q16 q17 q18 q19 q20
   clear hst hU hmix
   obtain⟨a,b,c,d,e,f,g,h⟩:=U
   obtain⟨a',b',c',d',e',f',g',h'⟩:=u
   simp only at q13 q14 q15 q16 q17 q18 q19 q20
   unfold mkS
   unfold mkS at hQ
   simp only [V8.add,V8.c8]at hQ
   simp only [V8.c8]
   generalize hpb:zw p=pb at*
   refine zs_ ?_
   refine zs_ ?_
   (refine zW.regS ?_;(simp (disch:=first|omega|(simp only [lens];first|done|omega)) only [go_sem,q21]))
   refine zf_ rfl ?_
   refine ze_ ?_
   simp (disch:=first|omega|(simp only [lens];first|done|omega)) only [go_sem]
   (refine zW.regS ?_;(simp (disch:=first|omega|(simp only [lens];first|done|omega)) only [go_sem,q4,q13,q14,q15,q16,q17,q18,q19,q20]))
   rw [BitVec.add_comm a' a,BitVec.add_comm b' b,BitVec.add_comm c' c,BitVec.add_comm d' d,BitVec.add_comm e' e,BitVec.add_comm f' f,BitVec.add_comm g' g,BitVec.add_comm h' h]
   exact hQ _ ⟨by simp (disch:=first|omega|(simp only [lens];first|done|omega)) only [go_sem,q2],by simp (disch:=first|omega|(simp only [lens];first|done|omega)) only [go_sem,q3],by simp (disch:=first|omega|(simp only [lens];first|done|omega)) only [go_sem,q4],(by simp (disch:=first|omega|(simp only [lens];first|done|omega)) only [go_sem,q5];rw [hpb]),by simp (disch:=first|omega|(simp only [lens];first|done|omega)) only [go_sem,q6],by simp (disch:=first|omega|(simp only [lens];first|done|omega)) only [go_sem,q7]⟩
end
end
section
theorem sum_r1{C:Ctx}{K:Env->Store->Prop}{H:Hist}{J:Env}{O:Store}:zy C K q6r1 H J O=zy C K (q6r1.drop 1) H (upd J 26 (.agg gl_sha_rounds)) O:=by kernel_rfl
theorem zq2{l:List W}{i:Nat}(h:i<4*l.length):(l.flatMap fun x=>be 4 x.toNat)[i]? =(be 4 (wat l (i/4)).toNat)[i%4]?:=by
 induction l generalizing i with
 |nil=>simp at h
 |cons x l ih=>
  have hb:(be 4 x.toNat).length=4:=z3z _ _
  rw [List.flatMap_cons]
  by_cases hi:i<4
  ·rw [List.getElem?_append_left (by omega),Nat.div_eq_of_lt hi,Nat.mod_eq_of_lt hi];rfl
  ·simp only [List.length_cons]at h
   rw [List.getElem?_append_right (by omega),hb,ih (by omega),show i/4=(i-4)/4+1 by omega,show (i-4)%4=i%4 by omega]
   rfl
theorem znz(x:Nat){j:Nat}(h:j<4):(be 4 x)[j]? =some (UInt8.ofNat (x/2^(24-8*j))):=by
 have e:be 4 x=[UInt8.ofNat (x/256^3),UInt8.ofNat (x/256^2),UInt8.ofNat (x/256^1),UInt8.ofNat (x/256^0)]:=by
  simp only [z9p]
  rfl
 rw [e]
 have hj:j=0 \/j=1 \/j=2 \/j=3:=by omega
 rcases hj with rfl|rfl|rfl|rfl<;>rfl
theorem zt4(v:V8){i:Nat}(h:i<32):(outV v)[i]? =some (UInt8.ofNat ((wat v.l (i/4)).toNat/2^(24-8*(i%4)))):=by
 unfold outV
 rw [zq2 (by simp [V8.l];omega),znz _ (Nat.mod_lt _ (by decide))]
def z4p(v:V8)(i:Nat):List AV:=zm ((outV v).take i)++List.replicate (32-i) (.int .u8 0)
theorem zsc(v:V8){i:Nat}(h:i<=32):(z4p v i).length=32:=by simp [z4p,zn,z5f];omega
theorem zsd(v:V8){i:Nat}(h:i<32){b:Int}(hb:b=(((wat v.l (i/4)).toNat/2^(24-8*(i%4))%256:Nat):Int)):
  (z4p v i).take i++AV.int .u8 b::(z4p v i).drop (i+1)=z4p v (i+1):=by
 have h1:(zm ((outV v).take i)).length=i:=by rw [zn,List.length_take,z5f];omega
 have hg:=zt4 v h
 have hs:(outV v).take (i+1)=(outV v).take i++ [UInt8.ofNat ((wat v.l (i/4)).toNat/2^(24-8*(i%4)))]:=by
  rw [List.take_add_one,hg];rfl
 unfold z4p
 rw [List.take_append_of_le_length (by omega),List.take_of_length_le (by omega),List.drop_append,List.drop_of_length_le (by omega),h1,show i+1-i=1 by omega,List.nil_append,hs]
 rw [List.drop_replicate,show 32-i-1=32-(i+1)by omega]
 simp [zm,hb]
theorem z8y(O:Store)(s:List UInt8)(h:s.length<900000000):ACallsTo TC 101 [.str s] O (.agg (zm (shaS s))) O:=by
 obtain⟨p,hp⟩:∃p,p=padS s:=⟨_,rfl⟩
 obtain⟨hp1,hp2⟩:=zk7 s
 rw [<-hp]at hp1 hp2
 obtain⟨N,hN⟩:∃N,p.length=64*N:=⟨p.length/64,by omega⟩
 obtain⟨V,hV⟩:∃V,V=blocks N v0 p:=⟨_,rfl⟩
 have hS:shaS s=outV V:=by
  unfold shaS
  rw [<-hp,hV]
  have:p.length/64=N:=by omega
  rw [this]
 rw [hS]
 have hf:=fun O=>pad_to O s (by omega)
 rw [<-hp]at hf
 refine ACallsTo.of_body q6ok (by simp) fun hw _=> ?_
 refine zs_ ?_
 refine zr_ ?_
 simp (disch:=first|omega|(simp only [lens];first|done|omega)) only [go_sem]
 refine zs_ ?_
 refine zr_ ?_
 rw [sum_r1]
 simp (disch:=first|omega|(simp only [lens];first|done|omega)) only [go_sem,za2]
 refine zs_ ?_
 refine zr_ ?_
 simp (disch:=first|omega|(simp only [lens];first|done|omega)) only [go_sem]
 refine zs_ ?_
 repeat' (first|apply zs_|apply zb_|apply zc_|apply zt_ rfl|apply zf_ rfl|(apply zd_ rfl<;>intro ht<;>try omega)|((first|apply zr_|apply zk_|apply ze_|apply zq_|(apply callW.mk_pu;(first|exact(fun _=>hf _)))|(apply callW.za;(first|exact(hf _)))|(apply zG<;>intro ht));all_goals try simp (disch:=first|omega|(simp only [lens];first|done|omega)) only [go_sem]))
 refine zW.loop (fun m J O'=>∃(u:V8) (n:Nat) (cells:List AV),n+64*m=p.length/\ Rk J O.length p n/\ cells.length=64/\ blocks m u (p.drop n)=V/\ O'=mkS O u cells) N ?_ ?_
 ·exact⟨v0,0,List.replicate 64 (.int .u32 0),by omega,⟨by simp (disch:=first|omega|(simp only [lens];first|done|omega)) only [go_sem],by simp (disch:=first|omega|(simp only [lens];first|done|omega)) only [go_sem],by simp (disch:=first|omega|(simp only [lens];first|done|omega)) only [go_sem],by simp (disch:=first|omega|(simp only [lens];first|done|omega)) only [go_sem],by simp (disch:=first|omega|(simp only [lens];first|done|omega)) only [go_sem],by simp (disch:=first|omega|(simp only [lens];first|done|omega)) only [go_sem];rfl⟩,rfl,by rw [List.drop_zero];exact hV.symm,rfl⟩
 ·rintro m J O' ⟨u,n,cells,hn,⟨q2,q3,q4,q5,q6,q7⟩,hc,hb,rfl⟩
  have hpb:=zo p
  cases m with
  |succ m=>
   refine zs_ ?_
   refine zs_ ?_
   (refine zW.regS ?_;(simp (disch:=first|omega|(simp only [lens];first|done|omega)) only [go_sem,q5,q7,hpb]))
   refine zt_ rfl ?_
   refine zk_ ?_
   simp (disch:=first|omega|(simp only [lens];first|done|omega)) only [go_sem]
   refine zs_ ?_
   refine zb_ ?_
   refine zs_ ?_
   refine zub (p:=p) (n:=n) (u:=u) (cells:=cells) ⟨by simp (disch:=first|omega|(simp only [lens];first|done|omega)) only [go_sem,q2],by simp (disch:=first|omega|(simp only [lens];first|done|omega)) only [go_sem,q3],by simp (disch:=first|omega|(simp only [lens];first|done|omega)) only [go_sem,q4],by simp (disch:=first|omega|(simp only [lens];first|done|omega)) only [go_sem,q5],by simp (disch:=first|omega|(simp only [lens];first|done|omega)) only [go_sem,q6],by simp (disch:=first|omega|(simp only [lens];first|done|omega)) only [go_sem,q7]⟩ (by omega) (by omega) hc ?_
   intro J1 rest hr K1
   refine zs_ ?_
   refine zua K1 hr ?_
   intro J2 K2
   refine zu9 K2 ?_
   intro J3 ⟨t2,t3,t4,t5,t6,t7⟩
   simp only [z2v,blkQ]
   (refine zW.regS ?_;(simp (disch:=first|omega|(simp only [lens];first|done|omega)) only [go_sem,t7]))
   refine⟨m,by omega,mixS u ((p.drop n).take 64),n+64,ws (z14 ((p.drop n).take 64) 64),by omega,⟨by simp (disch:=first|omega|(simp only [lens];first|done|omega)) only [go_sem,t2],by simp (disch:=first|omega|(simp only [lens];first|done|omega)) only [go_sem,t3],by simp (disch:=first|omega|(simp only [lens];first|done|omega)) only [go_sem,t4],by simp (disch:=first|omega|(simp only [lens];first|done|omega)) only [go_sem,t5],by simp (disch:=first|omega|(simp only [lens];first|done|omega)) only [go_sem,t6],by simp (disch:=first|omega|(simp only [lens];first|done|omega)) only [go_sem];rw [Int.natCast_add];rfl⟩,by rw [z4h,z4u],?_,rfl⟩
   rw [<-hb,blocks,List.drop_drop]
  |zero=>
   have hd:p.drop n=[]:=List.drop_of_length_le (by omega)
   rw [hd]at hb
   have hu:u=V:=hb
   subst hu
   clear hb hd hV
   unfold mkS
   repeat' (first|apply zs_|apply zb_|apply zc_|apply zt_ rfl|apply zf_ rfl|(apply zd_ rfl<;>intro ht<;>try omega)|((first|apply zr_|apply zk_|apply ze_|apply zq_|(apply zG<;>intro ht));all_goals try simp (disch:=first|omega|(simp only [lens];first|done|omega)) only [go_sem,q5,q7,hpb]))
   refine zW.loop (fun m J O'=>∃i:Nat,m+i=32/\ J 2=.ptr O.length 0 0/\ J 4=.ptr (O.length+2) 0 0/\ J 24=.ptr (O.length+4) 0 0/\ J 25=.int .i64 i/\ O'=O++ [some [z32],some [gl_sha_rounds],some [u.c8],some [cells],some [z4p u i]]) 32 ?_ ?_
   ·exact⟨0,by omega,by simp (disch:=first|omega|(simp only [lens];first|done|omega)) only [go_sem,q2],by simp (disch:=first|omega|(simp only [lens];first|done|omega)) only [go_sem,q4],by simp (disch:=first|omega|(simp only [lens];first|done|omega)) only [go_sem],by simp (disch:=first|omega|(simp only [lens];first|done|omega)) only [go_sem];rfl,rfl⟩
   ·clear q2 q3 q4 q5 q6 q7
    rintro m J O' ⟨i,hm,q2,q4,q24,q25,rfl⟩
    have hlen:=zsc u (i:=i) (by omega)
    have h8:u.c8.length=8:=rfl
    have hz:z32.length=32:=rfl
    by_cases hi:i<32
    ·have hst:=zsd u hi (b:=((((wat u.l (i/4)).toNat/2^(24-8*(i%4))%256:Nat)):Int)) rfl
     have hw:=z9a (w:=u.l) (i:=i/4) (by simp [V8.l];omega)
     rw [ws_l]at hw
     generalize wat u.l (i/4)=x at*
     generalize z4p u i=cc at*
     have hd4:((i:Int)/4).toNat=i/4:=by omega
     have hsh:(24-8*((i:Int)%4)).toNat=24-8*(i%4):=by omega
     repeat' (first|refine zs_ ?_|refine zb_ ?_|refine zc_ ?_|refine zt_ rfl ?_|refine zf_ rfl ?_|(refine zd_ rfl (fun ht=> ?_) (fun ht=> ?_)<;>try (exfalso;omega))|((first|refine zW.regS ?_|refine zk_ ?_|refine ze_ ?_|refine zq_ ?_|(apply zG<;>intro ht));all_goals try simp (disch:=first|omega|(simp only [lens];first|done|omega)) only [go_sem,q2,q4,q24,q25,hlen,h8,hw,hd4,hsh]))
     refine⟨32-(i+1),by omega,i+1,by omega,by simp,?_⟩
     rw [BitVec.toNat_ushiftRight,Nat.shiftRight_eq_div_pow,<-hst,Int.natCast_emod]
     rfl
    ·obtain rfl:i=32:=by omega
     have e32:z4p u 32=zm (outV u):=by
      unfold z4p
      rw [List.take_of_length_le (by rw [z5f];decide)]
      exact List.append_nil _
     have hd:List.drop 32 z32=[]:=rfl
     have hl:(zm (outV u)).length=32:=by rw [zn,z5f]
     rw [e32]at*
     repeat' (first|apply zs_|apply zb_|apply zc_|apply zt_ rfl|apply zf_ rfl|(apply zd_ rfl<;>intro ht<;>try omega)|((first|apply zr_|apply zk_|apply ze_|apply zq_|(apply zG<;>intro ht));all_goals try simp (disch:=first|omega|(simp only [lens];first|done|omega)) only [go_sem,q2,q4,q24,q25,hl,h8,hd,hz]))
     exact DownV.pure hw (z2s (z2c _))
end
section
set_option maxRecDepth 10000
def qdr0:yW:=[
 yI 1 (.box (.t 0)),
 yI 2 (.alloc zZ0)]
def qdr1:yW:=[
 yL 4 false 1 1,
 yI 5 (.lenSl (.t 4)),
 yJ 6 .eql 5 .i64 0]
def qdr2:yW:=[
 yI 7 (.call (.v (.fn 107 [])) [(.v (.str []))]),
 yS 32 2 7]
def qdc3:yX:=yq qdr2 .ret
def qdc4:yX:=.cond (.t 6) qdc3 .skip
def qdc5:yX:=yq qdr1 qdc4
def qdr6:yW:=[
 yI 3 (.alloc [.nilfn])]
def qdr7:yW:=[
 yI 8 (.mkfn 110 [(.t 1),(.t 3)]),
 yS 1 3 8]
def qdr8:yW:=[
 yL 9 false 1 3,
 yL 10 false 1 1,
 yI 11 (.lenSl (.t 10)),
 yI 12 (.call (.t 9) [(.v (.int .i64 0)),(.t 11)]),
 yS 32 2 12]
def qdc9:yX:=yq qdr8 .ret
def qdc10:yX:=yq qdr7 qdc9
def qdc11:yX:=yq qdr6 qdc10
def qdc12:yX:=.seq qdc5 qdc11
def qdc13:yX:=yq qdr0 qdc12
attribute [go_sem] qdr0 qdr1 qdr2 qdr6 qdr7 qdr8
theorem qdok:cFn TC 64=some (13,[.c 2 true 32],qdc13):=by kernel_rfl
def qer0:yW:=[
 yI 2 (.box (.t 0)),
 yI 3 (.box (.t 1)),
 yI 4 (.alloc zZ0)]
def qer1:yW:=[
 ⟨some 5,none,.rd,.load true 32 (.t 2)⟩,
 ⟨some 6,none,.ef,.call (.v (.fn 36 [])) [(.t 5)]⟩,
 yI 7 (.bin .add .none (.v (.str [1])) (.t 6)),
 ⟨some 8,none,.rd,.load true 32 (.t 3)⟩,
 yC 9 36 8,
 yB 10 .add 7 9,
 yC 11 107 10,
 yS 32 4 11]
def qec2:yX:=yq qer1 .ret
def qec3:yX:=yq qer0 qec2
attribute [go_sem] qer0 qer1
theorem qeok:cFn TC 99=some (12,[.c 4 true 32],qec3):=by kernel_rfl
def qfr0:yW:=[
 yK 2 .i64 0]
def qfr1:yW:=[
 yM 4 0,
 yJ 5 .lss 4 .i64 2]
def qfr2:yW:=[
 yK 2 .i64 0]
def qfc3:yX:=yq qfr2 .ret
def qfc4:yX:=.cond (.t 5) qfc3 .skip
def qfc5:yX:=yq qfr1 qfc4
def qfr6:yW:=[
 yK 3 .i64 1]
def qfr7:yW:=[
 yM 6 3,
 yM 7 0,
 yM 8 3,
 yB 9 .sub 7 8,
 yB 10 .lss 6 9]
def qfc8:yX:=.cond (.t 10) .skip (.exit 0)
def qfc9:yX:=yq qfr7 qfc8
def qfr10:yW:=[
 yM 11 3,
 yJ 12 .mul 11 .i64 2,
 yM 3 12]
def qfc11:yX:=.block 1 (.reg qfr10)
def qfc12:yX:=.seq qfc9 qfc11
def qfc13:yX:=.loop qfc12
def qfr14:yW:=[
 yM 13 3,
 yM 2 13]
def qfc15:yX:=yq qfr14 .ret
def qfc16:yX:=.seq (.block 0 qfc13) qfc15
def qfc17:yX:=yq qfr6 qfc16
def qfc18:yX:=.seq qfc5 qfc17
def qfc19:yX:=yq qfr0 qfc18
attribute [go_sem] qfr0 qfr1 qfr2 qfr6 qfr7 qfr10 qfr14
theorem qfok:cFn TC 111=some (14,[.t 2],qfc19):=by kernel_rfl
def qgr0:yW:=[
 yI 6 (.alloc zZ0)]
def qgr1:yW:=[
 yM 8 1,
 yM 9 0,
 yB 10 .sub 8 9,
 yC 11 111 10,
 yM 7 11]
def qgr2:yW:=[
 yM 12 7,
 yJ 13 .eql 12 .i64 0]
def qgr3:yW:=[
 yL 14 false 1 2,
 yM 15 0,
 yI 16 (.iaSl 32 (.t 14) (.t 15)),
 yL 17 true 32 16,
 yS 32 6 17]
def qgc4:yX:=yq qgr3 .ret
def qgc5:yX:=.cond (.t 13) qgc4 .skip
def qgc6:yX:=yq qgr2 qgc5
def qgr7:yW:=[
 ⟨some 18,none,.rd,.load false 1 (.t 3)⟩,
 yM 19 0,
 yM 20 0,
 yM 21 7,
 yB 22 .add 20 21,
 ⟨some 23,none,.ef,.call (.t 18) [(.t 19),(.t 22)]⟩,
 ⟨some 24,none,.rd,.load false 1 (.t 3)⟩,
 yM 25 0,
 yM 26 7,
 yB 27 .add 25 26,
 yM 28 1,
 yI 29 (.call (.t 24) [(.t 27),(.t 28)]),
 yD 30 99 23 29,
 yS 32 6 30]
def qgc8:yX:=yq qgr7 .ret
def qgc9:yX:=.seq qgc6 qgc8
def qgc10:yX:=yq qgr1 qgc9
def qgc11:yX:=yq qgr0 qgc10
attribute [go_sem] qgr0 qgr1 qgr2 qgr3 qgr7
theorem qgok:cFn TC 110=some (31,[.c 6 true 32],qgc11):=by kernel_rfl
def qhr0:yW:=[
 yI 2 (.alloc zZ0)]
def qhr1:yW:=[
 yM 4 0,
 yI 5 (.lenSl (.t 4)),
 yJ 6 .eql 5 .i64 0]
def qhr2:yW:=[
 yI 7 (.call (.v (.fn 101 [])) [(.v (.str []))]),
 yS 32 2 7]
def qhc3:yX:=yq qhr2 .ret
def qhc4:yX:=.cond (.t 6) qhc3 .skip
def qhc5:yX:=yq qhr1 qhc4
def qhr6:yW:=[
 yM 8 0,
 yI 9 (.lenSl (.t 8)),
 yJ 10 .eql 9 .i64 1]
def qhr7:yW:=[
 yM 11 0,
 yI 12 (.iaSl 32 (.t 11) (.v (.int .i64 0))),
 yL 13 true 32 12,
 yS 32 2 13]
def qhc8:yX:=yq qhr7 .ret
def qhc9:yX:=.cond (.t 10) qhc8 .skip
def qhc10:yX:=yq qhr6 qhc9
def qhr11:yW:=[
 yM 14 0,
 yI 15 (.lenSl (.t 14)),
 yC 16 122 15,
 yM 3 16]
def qhr12:yW:=[
 yM 17 0,
 yM 18 3,
 yI 19 (.slice (.sl 32) (.t 17) none (some (.t 18)) none),
 yC 20 88 19,
 yM 21 0,
 yM 22 3,
 yI 23 (.slice (.sl 32) (.t 21) (some (.t 22)) none none),
 yC 24 88 23,
 yD 25 123 20 24,
 yS 32 2 25]
def qhc13:yX:=yq qhr12 .ret
def qhc14:yX:=yq qhr11 qhc13
def qhc15:yX:=.seq qhc10 qhc14
def qhc16:yX:=.seq qhc5 qhc15
def qhc17:yX:=yq qhr0 qhc16
attribute [go_sem] qhr0 qhr1 qhr2 qhr6 qhr7 qhr11 qhr12
theorem qhok:cFn TC 88=some (26,[.c 2 true 32],qhc17):=by kernel_rfl
def qir0:yW:=[
 yI 2 (.box (.t 0)),
 yI 3 (.box (.t 1)),
 yI 4 (.alloc zZ0)]
def qir1:yW:=[
 ⟨some 5,none,.rd,.load true 32 (.t 2)⟩,
 ⟨some 6,none,.ef,.call (.v (.fn 42 [])) [(.t 5)]⟩,
 yI 7 (.bin .add .none (.v (.str [1])) (.t 6)),
 ⟨some 8,none,.rd,.load true 32 (.t 3)⟩,
 yC 9 42 8,
 yB 10 .add 7 9,
 yC 11 101 10,
 yS 32 4 11]
def qic2:yX:=yq qir1 .ret
def qic3:yX:=yq qir0 qic2
attribute [go_sem] qir0 qir1
theorem qiok:cFn TC 123=some (12,[.c 4 true 32],qic3):=by kernel_rfl
def qjr0:yW:=[
 yI 1 (.box (.t 0)),
 yI 2 (.mv (.v (.str [])))]
def qjr1:yW:=[
 yI 3 (.mv (.v .nilsl))]
def qjr2:yW:=[
 yK 4 .i64 0]
def qjr3:yW:=[
 yM 5 4,
 yJ 6 .lss 5 .i64 32]
def qjc4:yX:=.cond (.t 6) .skip (.exit 0)
def qjc5:yX:=yq qjr3 qjc4
def qjr6:yW:=[
 yM 9 3,
 yM 10 4,
 yI 11 (.iaArr 32 1 (.t 1) (.t 10)),
 yL 12 false 1 11,
 yI 13 (.lit 1 [(.t 12)]),
 yI 14 (.appB (.t 9) (.t 13)),
 yM 3 14]
def qjr7:yW:=[
 yM 7 4,
 yJ 8 .add 7 .i64 1,
 yM 4 8]
def qjc8:yX:=.seq (.block 1 (.reg qjr6)) (.reg qjr7)
def qjc9:yX:=.seq qjc5 qjc8
def qjc10:yX:=.loop qjc9
def qjc11:yX:=.block 0 qjc10
def qjc12:yX:=yq qjr2 qjc11
def qjr13:yW:=[
 yM 15 3,
 yI 16 (.conv .str (.t 15)),
 yM 2 16]
def qjc14:yX:=yq qjr13 .ret
def qjc15:yX:=.seq qjc12 qjc14
def qjc16:yX:=yq qjr1 qjc15
def qjc17:yX:=yq qjr0 qjc16
attribute [go_sem] qjr0 qjr1 qjr2 qjr3 qjr6 qjr7 qjr13
theorem qjok:cFn TC 42=some (17,[.t 2],qjc17):=by kernel_rfl
def qkr0:yW:=[
 yI 1 (.box (.t 0)),
 yI 2 (.mv (.v (.str [])))]
def qkr1:yW:=[
 yI 3 (.slice (.arr 32 1) (.t 1) none none none),
 yI 4 (.conv .str (.t 3)),
 yM 2 4]
def qkc2:yX:=yq qkr1 .ret
def qkc3:yX:=yq qkr0 qkc2
attribute [go_sem] qkr0 qkr1
theorem qkok:cFn TC 36=some (5,[.t 2],qkc3):=by kernel_rfl
def qlr0:yW:=[
 yK 2 .i64 0]
def qlr1:yW:=[
 yK 3 .i64 0]
def qlr2:yW:=[
 yK 4 .i64 1]
def qlr3:yW:=[
 yM 5 4,
 yM 6 0,
 yB 7 .lss 5 6,
 yM 8 7,
 yV 9 8 true 4,
 yG 10 8 true (.bin .gtr .none (.t 9) (.v (.int .i64 0))),
 yQ 11 8 10]
def qlc4:yX:=.cond (.t 11) .skip (.exit 0)
def qlc5:yX:=yq qlr3 qlc4
def qlr6:yW:=[
 yM 14 4,
 yM 3 14]
def qlr7:yW:=[
 yM 12 4,
 yJ 13 .mul 12 .i64 2,
 yM 4 13]
def qlc8:yX:=.seq (.block 1 (.reg qlr6)) (.reg qlr7)
def qlc9:yX:=.seq qlc5 qlc8
def qlc10:yX:=.loop qlc9
def qlc11:yX:=.block 0 qlc10
def qlc12:yX:=yq qlr2 qlc11
def qlr13:yW:=[
 yM 15 3,
 yM 2 15]
def qlc14:yX:=yq qlr13 .ret
def qlc15:yX:=.seq qlc12 qlc14
def qlc16:yX:=yq qlr1 qlc15
def qlc17:yX:=yq qlr0 qlc16
attribute [go_sem] qlr0 qlr1 qlr2 qlr3 qlr6 qlr7 qlr13
theorem qlok:cFn TC 122=some (16,[.t 2],qlc17):=by kernel_rfl
end
section
theorem zfl(s:List UInt8):(shaS s).length=32:=z5f _
def z1q(a b:List UInt8):List UInt8:=shaS (1::(a++b))
theorem z41(a b:List UInt8):(z1q a b).length=32:=zfl _
theorem zhu:∀(l:List UInt8),chunk 1 l.length (zm l)=zw l
 | []=>rfl
 |b::l=>by
  have:=zhu l
  simp only [zm,zw]at this
  simp [zm,zw,chunk,B8]at this ⊢
  exact this
theorem z9w(O:Store)(h:List UInt8)(hl:h.length=32):ACallsTo TC 36 [.agg (zm h)] O (.str h) O:=by
 refine ACallsTo.of_body qkok (by simp) fun hw _=> ?_
 have h1:=zn h
 have hc:=zhu h
 rw [hl]at h1 hc
 repeat' (first|apply zs_|apply zb_|apply zc_|apply zt_ rfl|apply zf_ rfl|(apply zd_ rfl<;>intro ht<;>try omega)|((first|apply zr_|apply zk_|apply ze_|apply zq_|(apply zG<;>intro ht));all_goals try simp (disch:=first|omega|(simp only [lens];first|done|omega)) only [go_sem,h1,hc]))
 exact DownV.pure hw (z15 _ rfl)
def OwnN(sz:Nat)(τ O':Store)(v:AV)(es:List (List AV)):Prop:=
 ∃news,O'=τ++news/\ ((es=[]/\ v=.nilsl) \/ ∃j,es ≠ []/\ v=.sl (τ.length+j) 0 es.length none sz/\ news[j]? =some (some es))
theorem OwnN.len{sz:Nat}{τ O':Store}{v:AV}{es:List (List AV)}(h:OwnN sz τ O' v es):z1k v=some (.int .i64 es.length):=by
 obtain⟨news,rfl,⟨rfl,rfl⟩| ⟨j,_,rfl,h⟩⟩:=h<;>rfl
theorem OwnN.appB{sz:Nat}{τ O':Store}{v:AV}{es ys:List (List AV)}(h:OwnN sz τ O' v es):z4j O' v ys=aApp O' 1 v ys:=by
 obtain⟨news,rfl,⟨rfl,rfl⟩| ⟨j,_,rfl,h⟩⟩:=h<;>rfl
theorem OwnN.nil{sz:Nat}{τ news:Store}:OwnN sz τ (τ++news) .nilsl []:=⟨news,rfl,.inl ⟨rfl,rfl⟩⟩
theorem OwnN.ext{sz:Nat}{τ O':Store}{v:AV}{es:List (List AV)}(h:OwnN sz τ O' v es):∃news,O'=τ++news:=by
 obtain⟨news,h,_⟩:=h;exact⟨news,h⟩
theorem OwnN.more{sz:Nat}{τ O':Store}{v:AV}{es:List (List AV)}(h:OwnN sz τ O' v es)(y:Store):OwnN sz τ (O'++y) v es:=by
 obtain⟨news,rfl,h| ⟨j,h0,rfl,h⟩⟩:=h
 ·exact⟨news++y,by rw [List.append_assoc],.inl h⟩
 ·exact⟨news++y,by rw [List.append_assoc],.inr ⟨j,h0,rfl,by rw [List.getElem?_append_left (List.getElem?_eq_some_iff.1 h).1];exact h⟩⟩
theorem OwnN.app{sz:Nat}{τ O':Store}{v:AV}{es ys:List (List AV)}(h:OwnN sz τ O' v es)(h0:ys.length ≠ 0)(hl:es.length+ys.length<=1073741824):
  ∃v' O'',aApp O' sz v ys=some (v',O'')/\ OwnN sz τ O'' v' (es++ys):=by
 have hne:es++ys ≠ []:=fun e=>h0 (by rw [(List.append_eq_nil_iff.1 e).2];rfl)
 obtain⟨news,rfl,⟨rfl,rfl⟩| ⟨j,_,rfl,h⟩⟩:=h
 ·refine⟨_,_,by rw [zde,if_neg h0,if_pos (by simpa using hl)],news++ [some ys],by rw [List.append_assoc],.inr ⟨news.length,hne,by simp,by rw [List.getElem?_append_right (Nat.le_refl _)];simp⟩⟩
 ·have hj:=(List.getElem?_eq_some_iff.1 h).1
  have hg:(τ++news)[τ.length+j]? =some (some es):=by rw [List.getElem?_append_right (by omega),Nat.add_sub_cancel_left];exact h
  refine⟨.sl (τ++news).length 0 (es.length+ys.length) none sz,(τ++news).set (τ.length+j) none++ [some (es++ys)],?_,news.set j none++ [some (es++ys)],?_,.inr ⟨news.length,hne,by simp,by rw [List.getElem?_append_right (by simp)];simp⟩⟩
  ·rw [zbd,if_neg h0,hg]
   simp only
   rw [if_pos ⟨trivial,by omega,by omega⟩,if_neg (by omega),List.drop_zero,List.take_of_length_le (Nat.le_refl _)]
  ·rw [List.set_append_right _ _ (by omega),Nat.add_sub_cancel_left,List.append_assoc]
theorem OwnN.sl{sz:Nat}{τ O':Store}{v:AV}{es:List (List AV)}(h:OwnN sz τ O' v es)(h0:es ≠ []):∃r,v=.sl r 0 es.length none sz/\ O'[r]? =some (some es)/\ τ.length<=r:=by
 obtain⟨news,rfl,⟨rfl,rfl⟩| ⟨j,_,rfl,h⟩⟩:=h
 ·exact absurd rfl h0
 ·exact⟨_,rfl,by rw [List.getElem?_append_right (by omega),Nat.add_sub_cancel_left];exact h,by omega⟩
def SlV(sz:Nat)(es:List (List AV))(x:AV):Prop:=(x=.nilsl/\ es=[]) \/ ∃ex,x=.vsl sz es ex
theorem SlV.len{sz:Nat}{es:List (List AV)}{x:AV}(h:SlV sz es x):z1k x=some (.int .i64 es.length):=by
 rcases h with⟨rfl,rfl⟩| ⟨ex,rfl⟩<;>rfl
theorem SlV.vsl{sz:Nat}{es:List (List AV)}{x:AV}(h:SlV sz es x)(h0:0<es.length):∃ex,x=.vsl sz es ex:=by
 rcases h with⟨rfl,rfl⟩|h
 ·simp at h0
 ·exact h
def zu(sz:Nat)(es:List (List AV)):AV:=if es=[]then .nilsl else .vsl sz es false
theorem z3m(sz:Nat)(es:List (List AV)):SlV sz es (zu sz es):=by
 unfold zu
 split
 ·rename_i h;exact .inl ⟨rfl,h⟩
 ·exact .inr ⟨false,rfl⟩
def ownV(O:Store)(sz:Nat)(es:List (List AV)):AV:=if es=[]then .nilsl else .sl O.length 0 es.length none sz
def ownS(O:Store)(es:List (List AV)):Store:=if es=[]then O else O++ [some es]
theorem z8r(O:Store)(sz:Nat)(es:List (List AV)):OwnN sz O (ownS O es) (ownV O sz es) es:=by
 unfold ownV ownS
 by_cases h:es=[]
 ·rw [if_pos h,if_pos h];exact⟨[],by simp,.inl ⟨h,rfl⟩⟩
 ·rw [if_neg h,if_neg h];exact⟨[some es],rfl,.inr ⟨0,h,rfl,rfl⟩⟩
theorem OwnN.froze{sz:Nat}{O O':Store}{v:AV}{es:List (List AV)}(hw:Wf O.length O)(h:OwnN sz O O' v es)(hr:RLss O.length es):DownV O.length v O' (zu sz es) O:=by
 unfold zu
 obtain⟨news,rfl,⟨rfl,rfl⟩| ⟨j,h0,rfl,h⟩⟩:=h
 ·rw [if_pos rfl];exact DownV.pure hw (z15 _ rfl)
 ·have e:(es.drop 0).take es.length=es:=by rw [List.drop_zero,List.take_of_length_le (Nat.le_refl _)]
  have:=DownV.froze (off:=0) (len:=es.length) (esz:=sz) (lim:=none) hw h (by omega) (by rw [e];exact hr)
  rw [e]at this
  rw [if_neg h0];exact this
theorem OwnN.own{sz:Nat}{O O':Store}{v:AV}{es:List (List AV)}(hw:Wf O.length O)(h:OwnN sz O O' v es)(hr:RLss O.length es):DownV O.length v O' (ownV O sz es) (ownS O es):=by
 unfold ownV ownS
 obtain⟨news,rfl,⟨rfl,rfl⟩| ⟨j,h0,rfl,h⟩⟩:=h
 ·rw [if_pos rfl,if_pos rfl];exact DownV.pure hw (z15 _ rfl)
 ·rw [if_neg h0,if_neg h0];exact DownV.own (off:=0) (len:=es.length) (esz:=sz) (lim:=none) hw h hr
theorem zo5{l:List UInt8}{i:Nat}(h:i<l.length):(zm l)[i]? =some (.int .u8 (l.getD i 0).toNat):=by
 simp [zm,List.getD_eq_getElem?_getD,List.getElem?_eq_getElem h]
theorem z7w(O:Store)(h:List UInt8)(hl:h.length=32):ACallsTo TC 42 [.agg (zm h)] O (.str h) O:=by
 refine ACallsTo.of_body qjok (by simp) fun hw _=> ?_
 have h1:=zn h
 rw [hl]at h1
 repeat' (first|apply zs_|apply zb_|apply zc_|apply zt_ rfl|apply zf_ rfl|(apply zd_ rfl<;>intro ht<;>try omega)|((first|apply zr_|apply zk_|apply ze_|apply zq_|(apply zG<;>intro ht));all_goals try simp (disch:=first|omega|(simp only [lens];first|done|omega)) only [go_sem,h1]))
 refine zW.loop (fun m J O'=>∃i:Nat,m+i=32/\ J 1=.ptr O.length 0 0/\ J 4=.int .i64 i/\ OwnN 1 (O++ [some [zm h]]) O' (J 3) (zw (h.take i))) 32 ?_ ?_
 ·refine⟨0,by omega,by simp (disch:=first|omega|(simp only [lens];first|done|omega)) only [go_sem],by simp (disch:=first|omega|(simp only [lens];first|done|omega)) only [go_sem];rfl,?_⟩
  simp (disch:=first|omega|(simp only [lens];first|done|omega)) only [go_sem]
  have:=OwnN.nil (sz:=1) (τ:=O++ [some [zm h]]) (news:=[])
  rwa [List.append_nil]at this
 ·rintro m J O' ⟨i,hm,q1,q4,hO⟩
  by_cases hi:i<32
  ·have hg:=zo5 (l:=h) (i:=i) (by omega)
   have hs:h.take (i+1)=h.take i++ [h.getD i 0]:=by
    rw [List.take_add_one,List.getD_eq_getElem?_getD,List.getElem?_eq_getElem (by omega)];rfl
   obtain⟨v',O2,he,hO2⟩:=hO.app (ys:=zw [h.getD i 0]) (by simp [zw]) (by simp [zo];omega)
   have ho:O'[O.length]? =some (some [zm h]):=by
    obtain⟨news,rfl,_⟩:=hO
    rw [List.append_assoc,List.getElem?_append_right (Nat.le_refl _),Nat.sub_self];rfl
   have hb:zw [h.getD i 0]=[[.int .u8 (h.getD i 0).toNat]]:=rfl
   rw [hb]at he
   rw [<-hO.appB]at he
   generalize h.getD i 0=x at*
   generalize hv:J 3=v at*
   repeat' (first|apply zs_|apply zb_|apply zc_|apply zt_ rfl|apply zf_ rfl|(apply zd_ rfl<;>intro ht<;>try omega)|((first|apply zr_|apply zk_|apply ze_|apply zq_|(apply zG<;>intro ht));all_goals try simp (disch:=first|omega|(simp only [lens];first|done|omega)) only [go_sem,q1,q4,hv,ho,h1,hg,he]))
   refine⟨32-(i+1),by omega,i+1,by omega,by simp,?_⟩
   rw [hs,<-zhe]
   exact hO2
  ·obtain rfl:i=32:=by omega
   rw [List.take_of_length_le (by omega)]at hO
   obtain⟨r,q3,hg,_⟩:=hO.sl (by intro e;have:=zo h;rw [e]at this;simp at this;omega)
   rw [zo]at q3
   repeat' (first|apply zs_|apply zb_|apply zc_|apply zt_ rfl|apply zf_ rfl|(apply zd_ rfl<;>intro ht<;>try omega)|((first|apply zr_|apply zk_|apply ze_|apply zq_|(apply zG<;>intro ht));all_goals try simp (disch:=first|omega|(simp only [lens];first|done|omega)) only [go_sem,q1,q4,q3,hg]))
   obtain⟨news,rfl,_⟩:=hO
   rw [List.append_assoc]
   exact DownV.pure hw (z15 _ rfl)
theorem z1x(O:Store)(a b:List UInt8)(ha:a.length=32)(hb:b.length=32):ACallsTo TC 99 [.agg (zm a),.agg (zm b)] O (.agg (zm (z1q a b))) O:=by
 refine ACallsTo.of_body qeok (by simp) fun hw _=> ?_
 have h1:=zn a
 have h2:=zn b
 have h3:=zn (z1q a b)
 rw [ha]at h1
 rw [hb]at h2
 rw [z41]at h3
 obtain⟨n,hn⟩:∃n,n=z1q a b:=⟨_,rfl⟩
 have hs:∀O,ACallsTo TC 107 [.str (1::(a++b))] O (.agg (zm n)) O:=fun O=>by rw [hn];exact z94 O _ (by simp;omega)
 rw [<-hn]at h3 ⊢
 repeat' (first|refine zs_ ?_|refine zb_ ?_|refine zc_ ?_|refine zt_ rfl ?_|refine zf_ rfl ?_|(refine zd_ rfl (fun ht=> ?_) (fun ht=> ?_)<;>try (exfalso;omega))|((first|refine zW.regS ?_|refine zk_ ?_|refine ze_ ?_|refine zq_ ?_|(apply callW.mk_pu;(first|exact(fun _=>z9w _ _ ha)|exact(fun _=>z9w _ _ hb)|exact(fun _=>hs _)))|(apply callW.za;(first|exact(z9w _ _ ha)|exact(z9w _ _ hb)|exact(hs _)))|(apply zG<;>intro ht));all_goals try simp (disch:=first|omega|(simp only [lens];first|done|omega)) only [go_sem,h1,h2,h3]))
 exact DownV.pure hw (z2s (z2c _))
theorem zkw(O:Store)(a b:List UInt8)(ha:a.length=32)(hb:b.length=32):ACallsTo TC 123 [.agg (zm a),.agg (zm b)] O (.agg (zm (z1q a b))) O:=by
 refine ACallsTo.of_body qiok (by simp) fun hw _=> ?_
 have h1:=zn a
 have h2:=zn b
 have h3:=zn (z1q a b)
 rw [ha]at h1
 rw [hb]at h2
 rw [z41]at h3
 obtain⟨n,hn⟩:∃n,n=z1q a b:=⟨_,rfl⟩
 have hs:∀O,ACallsTo TC 101 [.str (1::(a++b))] O (.agg (zm n)) O:=fun O=>by rw [hn];exact z8y O _ (by simp;omega)
 rw [<-hn]at h3 ⊢
 repeat' (first|refine zs_ ?_|refine zb_ ?_|refine zc_ ?_|refine zt_ rfl ?_|refine zf_ rfl ?_|(refine zd_ rfl (fun ht=> ?_) (fun ht=> ?_)<;>try (exfalso;omega))|((first|refine zW.regS ?_|refine zk_ ?_|refine ze_ ?_|refine zq_ ?_|(apply callW.mk_pu;(first|exact(fun _=>z7w _ _ ha)|exact(fun _=>z7w _ _ hb)|exact(fun _=>hs _)))|(apply callW.za;(first|exact(z7w _ _ ha)|exact(z7w _ _ hb)|exact(hs _)))|(apply zG<;>intro ht));all_goals try simp (disch:=first|omega|(simp only [lens];first|done|omega)) only [go_sem,h1,h2,h3]))
 exact DownV.pure hw (z2s (z2c _))
end
section
def z12(n:Nat):Nat:=if n<2 then 0 else 2^Nat.log2 (n-1)
theorem z79{n:Nat}(h:2<=n):z12 n<n/\ n<=2*z12 n/\ 0<z12 n:=by
 unfold z12
 rw [if_neg (by omega)]
 have h1:=Nat.log2_self_le (n:=n-1) (by omega)
 have h2:=Nat.lt_log2_self (n:=n-1)
 rw [Nat.pow_succ]at h2
 have h3:0<2^Nat.log2 (n-1):=Nat.pow_pos (by decide)
 omega
theorem zft{n j:Nat}(h1:2^j<n)(h2:n<=2^(j+1)):z12 n=2^j:=by
 have h3:0<2^j:=Nat.pow_pos (by decide)
 unfold z12
 rw [if_neg (by omega)]
 have h4:=Nat.log2_self_le (n:=n-1) (by omega)
 have h5:=Nat.lt_log2_self (n:=n-1)
 congr 1
 generalize Nat.log2 (n-1)=i at*
 have a1:2^j<2^(i+1):=by omega
 have a2:2^i<2^(j+1):=by omega
 have b1:=(Nat.pow_lt_pow_iff_right (by decide:1<2)).1 a1
 have b2:=(Nat.pow_lt_pow_iff_right (by decide:1<2)).1 a2
 omega
theorem zcz(O:Store)(n:Nat)(h:n<1000000000000):ACallsTo TC 111 [.int .i64 n] O (.int .i64 (z12 n)) O:=by
 refine ACallsTo.of_body qfok (by simp) fun hw _=> ?_
 by_cases h2:n<2
 ·have e:z12 n=0:=by unfold z12;rw [if_pos h2]
  rw [e]
  repeat' (first|apply zs_|apply zb_|apply zc_|apply zt_ rfl|apply zf_ rfl|(apply zd_ rfl<;>intro ht<;>try omega)|((first|apply zr_|apply zk_|apply ze_|apply zq_|(apply zG<;>intro ht));all_goals try simp (disch:=first|omega|(simp only [lens];first|done|omega)) only [go_sem]))
  exact DownV.same hw (z15 _ rfl)
 ·repeat' (first|apply zs_|apply zb_|apply zc_|apply zt_ rfl|apply zf_ rfl|(apply zd_ rfl<;>intro ht<;>try omega)|((first|apply zr_|apply zk_|apply ze_|apply zq_|(apply zG<;>intro ht));all_goals try simp (disch:=first|omega|(simp only [lens];first|done|omega)) only [go_sem]))
  refine zW.loop (fun m J O'=>∃j:Nat,m=n-2^j/\ 2^j<n/\ J 0=.int .i64 n/\ J 3=.int .i64 ((2^j:Nat):Int)/\ O'=O) (n-1) ?_ ?_
  ·exact⟨0,rfl,by omega,by simp (disch:=first|omega|(simp only [lens];first|done|omega)) only [go_sem],by simp (disch:=first|omega|(simp only [lens];first|done|omega)) only [go_sem];rfl,rfl⟩
  ·rintro m J O' ⟨j,hm,hj,q0,q3,rfl⟩
   have hp:0<2^j:=Nat.pow_pos (by decide)
   have hs:2^(j+1)=2^j*2:=Nat.pow_succ ..
   generalize hk:2^j=k at*
   by_cases hc:(k:Int)<n-k
   ·repeat' (first|apply zs_|apply zb_|apply zc_|apply zt_ rfl|apply zf_ rfl|(apply zd_ rfl<;>intro ht<;>try omega)|((first|apply zr_|apply zk_|apply ze_|apply zq_|(apply zG<;>intro ht));all_goals try simp (disch:=first|omega|(simp only [lens];first|done|omega)) only [go_sem,q0,q3]))
    exact⟨n-k*2,by omega,j+1,by rw [hs],by omega,by rw [hs];rfl⟩
   ·have e:z12 n=k:=by rw [<-hk];exact zft (by omega) (by omega)
    rw [e]
    repeat' (first|apply zs_|apply zb_|apply zc_|apply zt_ rfl|apply zf_ rfl|(apply zd_ rfl<;>intro ht<;>try omega)|((first|apply zr_|apply zk_|apply ze_|apply zq_|(apply zG<;>intro ht));all_goals try simp (disch:=first|omega|(simp only [lens];first|done|omega)) only [go_sem,q0,q3]))
    exact DownV.same hw (z15 _ rfl)
theorem zu8(O:Store)(n:Nat)(h:n<1000000000000):ACallsTo TC 122 [.int .i64 n] O (.int .i64 (z12 n)) O:=by
 refine ACallsTo.of_body qlok (by simp) fun hw _=> ?_
 repeat' (first|apply zs_|apply zb_|apply zc_|apply zt_ rfl|apply zf_ rfl|(apply zd_ rfl<;>intro ht<;>try omega)|((first|apply zr_|apply zk_|apply ze_|apply zq_|(apply zG<;>intro ht));all_goals try simp (disch:=first|omega|(simp only [lens];first|done|omega)) only [go_sem]))
 refine zW.loop (fun m J O'=>∃j k:Nat,m=n-2^j/\ ((j=0/\ k=0) \/(k<n/\ 2^j=k*2/\ ∃i,k=2^i))/\ J 0=.int .i64 n/\ J 3=.int .i64 k/\ J 4=.int .i64 ((2^j:Nat):Int)/\ O'=O) (n-1) ?_ ?_
 ·exact⟨0,0,rfl,.inl ⟨rfl,rfl⟩,by simp (disch:=first|omega|(simp only [lens];first|done|omega)) only [go_sem],by simp (disch:=first|omega|(simp only [lens];first|done|omega)) only [go_sem];rfl,by simp (disch:=first|omega|(simp only [lens];first|done|omega)) only [go_sem];rfl,rfl⟩
 ·rintro m J O' ⟨j,k,hm,hk,q0,q3,q4,rfl⟩
  have hp:0<2^j:=Nat.pow_pos (by decide)
  have hs:2^(j+1)=2^j*2:=Nat.pow_succ ..
  by_cases hc:2^j<n
  ·generalize hmm:2^j=mm at*
   repeat' (first|apply zs_|apply zb_|apply zc_|apply zt_ rfl|apply zf_ rfl|(apply zd_ rfl<;>intro ht<;>try omega)|((first|apply zr_|apply zk_|apply ze_|apply zq_|(apply zG<;>intro ht));all_goals try simp (disch:=first|omega|(simp only [lens];first|done|omega)) only [go_sem,q0,q3,q4]))
   clear hk
   exact⟨n-mm*2,by omega,j+1,mm,by rw [hs],.inr ⟨hc,hs,j,hmm.symm⟩,rfl,by rw [hs];rfl⟩
  ·have e:z12 n=k:=by
    rcases hk with⟨rfl,rfl⟩| ⟨h1,h2,i,rfl⟩
    ·unfold z12;rw [if_pos (by simp at hc;omega)]
    ·exact zft h1 (by rw [Nat.pow_succ];omega)
   rw [e]
   clear e hk hs
   generalize hmm:2^j=mm at*
   repeat' (first|apply zs_|apply zb_|apply zc_|apply zt_ rfl|apply zf_ rfl|(apply zd_ rfl<;>intro ht<;>try omega)|((first|apply zr_|apply zk_|apply ze_|apply zq_|(apply zG<;>intro ht));all_goals try simp (disch:=first|omega|(simp only [lens];first|done|omega)) only [go_sem,q0,q3,q4]))
   exact DownV.same hw (z15 _ rfl)
def z7y:Nat->List (List UInt8)->List UInt8
 | 0,_=>[]
 | _+1,[]=>shaS []
 | _+1,[h]=>h
 |f+1,a::b::l=>z1q (z7y f ((a::b::l).take (z12 (l.length+2)))) (z7y f ((a::b::l).drop (z12 (l.length+2))))
theorem zck:∀(f g:Nat) (l:List (List UInt8)),l.length<f->l.length<g->z7y f l=z7y g l
 | 0,_,_,h,_=>by omega
 | _+1,0,_,_,h=>by omega
 |f+1,g+1,[],_,_=>rfl
 |f+1,g+1,[_],_,_=>rfl
 |f+1,g+1,a::b::l,h,h'=>by
  obtain⟨s1,s2,s3⟩:=z79 (n:=l.length+2) (by omega)
  simp only [List.length_cons]at h h'
  simp only [z7y]
  rw [zck f g ((a::b::l).take (z12 (l.length+2))) (by rw [List.length_take];simp;omega) (by rw [List.length_take];simp;omega),
   zck f g ((a::b::l).drop (z12 (l.length+2))) (by rw [List.length_drop];simp;omega) (by rw [List.length_drop];simp;omega)]
def z1b(l:List (List UInt8)):List UInt8:=z7y (l.length+1) l
theorem zfb:z1b []=shaS []:=rfl
theorem zud(h:List UInt8):z1b [h]=h:=rfl
theorem zcl{l:List (List UInt8)}(h:2<=l.length):z1b l=z1q (z1b (l.take (z12 l.length))) (z1b (l.drop (z12 l.length))):=by
 match l,h with
 |a::b::l,_=>
  obtain⟨s1,s2,s3⟩:=z79 (n:=l.length+2) (by omega)
  unfold z1b
  simp only [z7y,List.length_cons]
  congr 1
  ·refine zck _ _ _ ?_ (Nat.lt_succ_self _)
   rw [List.length_take]
   simp only [List.length_cons]
   omega
  ·refine zck _ _ _ ?_ (Nat.lt_succ_self _)
   rw [List.length_drop]
   simp only [List.length_cons]
   omega
def H32(l:List (List UInt8)):Prop:=∀h ∈ l,h.length=32
theorem H32.take{l:List (List UInt8)}(h:H32 l)(n:Nat):H32 (l.take n):=fun x hx=>h x (List.mem_of_mem_take hx)
theorem H32.drop{l:List (List UInt8)}(h:H32 l)(n:Nat):H32 (l.drop n):=fun x hx=>h x (List.mem_of_mem_drop hx)
theorem z33{l:List (List UInt8)}(h:H32 l):(z1b l).length=32:=by
 match l,h with
 | [],_=>exact zfl _
 | [x],h=>exact h x (by simp)
 |a::b::l,_=>rw [zcl (by simp)];exact z41 _ _
end
section
def z10(l:List (List UInt8)):List (List AV):=l.map zm
theorem z3b(l:List (List UInt8)):(z10 l).length=l.length:=by simp [z10]
theorem zj6(l:List (List UInt8))(n:Nat):(z10 l).take n=z10 (l.take n):=by simp [z10,List.map_take]
theorem zj5(l:List (List UInt8))(n:Nat):(z10 l).drop n=z10 (l.drop n):=by simp [z10,List.map_drop]
theorem hrows_nil{l:List (List UInt8)}:z10 l=[] ↔ l=[]:=by simp [z10]
theorem z91{k:Nat}:∀(l:List (List UInt8)),RLss k (z10 l)
 | []=>by simp [z10,RLss]
 |h::l=>by have:=z91 (k:=k) l;simp only [z10]at this;simp [z10,RLss,this,z2c]
theorem znk(hs:List (List UInt8))(hH:H32 hs)(hl:hs.length<1000000000)(ex:Bool)(r1 r3:Nat):
  ∀(d:Nat) (O:Store) (a:Nat),0<d->a+d<=hs.length->O[r1]? =some (some [[.vsl 32 (z10 hs) ex]])->O[r3]? =some (some [[.fn 110 [.ptr r1 0 0,.ptr r3 0 0]]])->
   ACallsTo TC 110 [.int .i64 a,.int .i64 ((a+d:Nat):Int),.ptr r1 0 0,.ptr r3 0 0] O (.agg (zm (z1b ((hs.drop a).take d)))) O:=by
 intro d
 induction d using Nat.strongRecOn with
 | _ d ih=>
  intro O a h0 had hg1 hg3
  have hr1:=(List.getElem?_eq_some_iff.1 hg1).1
  have hr3:=(List.getElem?_eq_some_iff.1 hg3).1
  obtain⟨L,hL⟩:∃L,L=(hs.drop a).take d:=⟨_,rfl⟩
  have hLl:L.length=d:=by rw [hL,List.length_take,List.length_drop];omega
  have hLH:H32 L:=by rw [hL];exact(hH.drop a).take d
  have hn:=z33 hLH
  have hc:=zn (z1b L)
  rw [hn]at hc
  rw [<-hL]
  have hsub:((a+d:Nat):Int)-a=d:=by omega
  by_cases h1:d=1
  ·have e0:z12 d=0:=by unfold z12;rw [if_pos (by omega)]
   have hsp:=fun O=>zcz O d (by omega)
   rw [e0]at hsp
   obtain⟨x,hx⟩:∃x,hs[a]? =some x:=⟨_,List.getElem?_eq_getElem (by omega)⟩
   have hgr:(z10 hs)[a]? =some (zm x):=by simp [z10,hx]
   have eL:z1b L=x:=by
    have:L=[x]:=by
     rw [hL,h1]
     apply List.ext_getElem?
     intro i
     cases i with
     |zero=>simp [List.getElem?_take,List.getElem?_drop,hx]
     |succ i=>simp [List.getElem?_take]
    rw [this];rfl
   rw [eL]at hc ⊢
   have hrl:=z3b hs
   clear eL
   generalize z10 hs=rows at*
   refine ACallsTo.of_body qgok (by simp) fun hw _=> ?_
   repeat' (first|apply zs_|apply zb_|apply zc_|apply zt_ rfl|apply zf_ rfl|(apply zd_ rfl<;>intro ht<;>try omega)|((first|apply zr_|apply zk_|apply ze_|apply zq_|(apply callW.mk_pu;(first|exact(fun _=>hsp _)))|(apply callW.za;(first|exact(hsp _)))|(apply zG<;>intro ht));all_goals try simp (disch:=first|omega|(simp only [lens];first|done|omega)) only [go_sem,hsub,hg1,hgr,hc]))
   exact DownV.pure hw (z2s (z2c _))
  ·obtain⟨s1,s2,s3⟩:=z79 (n:=d) (by omega)
   have hsp:=fun O=>zcz O d (by omega)
   have eL:=zcl (l:=L) (by omega)
   rw [hLl]at eL
   have t1:L.take (z12 d)=(hs.drop a).take (z12 d):=by rw [hL,List.take_take,Nat.min_eq_left (by omega)]
   have t2:L.drop (z12 d)=(hs.drop (a+z12 d)).take (d-z12 d):=by rw [hL,List.drop_take,List.drop_drop]
   generalize hk:z12 d=k at*
   have i1:=fun y=>ih k (by omega) (O++y) a (by omega) (by omega) (by rw [gapp hr1];exact hg1) (by rw [gapp hr3];exact hg3)
   have i2:=fun y=>ih (d-k) (by omega) (O++y) (a+k) (by omega) (by omega) (by rw [gapp hr1];exact hg1) (by rw [gapp hr3];exact hg3)
   rw [<-t1]at i1
   rw [<-t2]at i2
   rw [show a+k+(d-k)=a+d by omega]at i2
   have n1:=z33 (hLH.take k)
   have n2:=z33 (hLH.drop k)
   have e1:((a:Int)+k)=((a+k:Nat):Int):=by omega
   rw [eL]at hc ⊢
   generalize z1b (L.take k)=A at*
   generalize z1b (L.drop k)=B at*
   have k0:¬(k:Int)=0:=by omega
   refine ACallsTo.of_body qgok (by simp) fun hw _=> ?_
   repeat' (first|refine zs_ ?_|refine zb_ ?_|refine zc_ ?_|refine zt_ rfl ?_|refine zf_ rfl ?_|(refine zd_ rfl (fun ht=> ?_) (fun ht=> ?_)<;>try (exfalso;omega))|((first|refine zW.regS ?_|refine zk_ ?_|refine ze_ ?_|refine zq_ ?_|(apply callW.mk_pu;(first|exact(fun _=>hsp _)|exact(fun _=>i1 _)|exact(fun _=>i2 _)|exact(fun _=>z1x _ _ _ n1 n2)))|(apply callW.za;(first|exact(hsp _)|exact(i1 _)|exact(i2 _)|exact(z1x _ _ _ n1 n2)))|(apply zG<;>intro ht));all_goals try simp (disch:=first|omega|(simp only [lens];first|done|omega)) only [go_sem,hsub,hg1,hg3,hc,e1]))
   exact DownV.pure hw (z2s (z2c _))
theorem zai(O:Store)(hs:List (List UInt8))(x:AV)(hx:SlV 32 (z10 hs) x)(hH:H32 hs)(hl:hs.length<1000000000):ACallsTo TC 64 [x] O (.agg (zm (z1b hs))) O:=by
 have hc:=zn (z1b hs)
 rw [z33 hH]at hc
 have hrl:=z3b hs
 by_cases h0:hs=[]
 ·subst h0
  have hx':=hx.len
  unfold z1k at hx'
  refine ACallsTo.of_body qdok (by simp) fun hw _=> ?_
  rw [zfb]at hc ⊢
  rcases hx with⟨rfl,h⟩| ⟨ex,rfl⟩
  ·repeat' (first|apply zs_|apply zb_|apply zc_|apply zt_ rfl|apply zf_ rfl|(apply zd_ rfl<;>intro ht<;>try omega)|((first|apply zr_|apply zk_|apply ze_|apply zq_|(apply callW.mk_pu;(first|exact(fun _=>z94 _ [] (by simp))))|(apply callW.za;(first|exact(z94 _ [] (by simp))))|(apply zG<;>intro ht));all_goals try simp (disch:=first|omega|(simp only [lens];first|done|omega)) only [go_sem,hc]))
   exact DownV.pure hw (z2s (z2c _))
  ·repeat' (first|apply zs_|apply zb_|apply zc_|apply zt_ rfl|apply zf_ rfl|(apply zd_ rfl<;>intro ht<;>try omega)|((first|apply zr_|apply zk_|apply ze_|apply zq_|(apply callW.mk_pu;(first|exact(fun _=>z94 _ [] (by simp))))|(apply callW.za;(first|exact(z94 _ [] (by simp))))|(apply zG<;>intro ht));all_goals try simp (disch:=first|omega|(simp only [lens];first|done|omega)) only [go_sem,hc,hrl]))
   exact DownV.pure hw (z2s (z2c _))
 ·have hpos:0<hs.length:=List.length_pos_iff.2 h0
  obtain⟨ex,rfl⟩:=hx.vsl (by rw [hrl];exact hpos)
  have h1:=znk hs hH hl ex O.length (O.length+2) hs.length
  refine ACallsTo.of_body qdok (by simp) fun hw _=> ?_
  have h1:=fun O'=>h1 O' 0 hpos (by omega)
  simp only [Nat.zero_add,List.drop_zero,List.take_length]at h1
  generalize z1b hs=R at*
  generalize z10 hs=rows at*
  repeat' (first|apply zs_|apply zb_|apply zc_|apply zt_ rfl|apply zf_ rfl|(apply zd_ rfl<;>intro ht<;>try omega)|((first|apply zr_|apply zk_|apply ze_|apply zq_|(apply callW.mk_pu;(first|exact(fun _=>h1 _ (by simp) (by simp))))|(apply callW.za;(first|exact(h1 _ (by simp) (by simp))))|(apply zG<;>intro ht));all_goals try simp (disch:=first|omega|(simp only [lens];first|done|omega)) only [go_sem,hc,hrl]))
  exact DownV.pure hw (z2s (z2c _))
theorem zu7(f:Nat):∀(O:Store) (hs:List (List UInt8)) (ex:Bool),hs.length<f->H32 hs->hs.length<1000000000->ACallsTo TC 88 [.vsl 32 (z10 hs) ex] O (.agg (zm (z1b hs))) O:=by
 induction f with
 |zero=>intro O hs ex h;omega
 |succ f ih=>
  intro O hs ex hf hH hl
  have hc:=zn (z1b hs)
  rw [z33 hH]at hc
  have hrl:=z3b hs
  by_cases h0:hs.length=0
  ·obtain rfl:hs=[]:=List.eq_nil_of_length_eq_zero h0
   rw [zfb]at hc ⊢
   refine ACallsTo.of_body qhok (by simp) fun hw _=> ?_
   repeat' (first|apply zs_|apply zb_|apply zc_|apply zt_ rfl|apply zf_ rfl|(apply zd_ rfl<;>intro ht<;>try omega)|((first|apply zr_|apply zk_|apply ze_|apply zq_|(apply callW.mk_pu;(first|exact(fun _=>z8y _ [] (by simp))))|(apply callW.za;(first|exact(z8y _ [] (by simp))))|(apply zG<;>intro ht));all_goals try simp (disch:=first|omega|(simp only [lens];first|done|omega)) only [go_sem,hc,hrl]))
   exact DownV.pure hw (z2s (z2c _))
  ·by_cases h1:hs.length=1
   ·obtain⟨x,rfl⟩:=List.length_eq_one_iff.1 h1
    rw [zud]at hc ⊢
    refine ACallsTo.of_body qhok (by simp) fun hw _=> ?_
    simp only [z10,List.map_cons,List.map_nil]
    repeat' (first|apply zs_|apply zb_|apply zc_|apply zt_ rfl|apply zf_ rfl|(apply zd_ rfl<;>intro ht<;>try omega)|((first|apply zr_|apply zk_|apply ze_|apply zq_|(apply zG<;>intro ht));all_goals try simp (disch:=first|omega|(simp only [lens];first|done|omega)) only [go_sem,hc]))
    exact DownV.pure hw (z2s (z2c _))
   ·obtain⟨s1,s2,s3⟩:=z79 (n:=hs.length) (by omega)
    have hsp:=fun O=>zu8 O hs.length (by omega)
    have eL:=zcl (l:=hs) (by omega)
    have n1:=z33 (hH.take (z12 hs.length))
    have n2:=z33 (hH.drop (z12 hs.length))
    have i1:=fun O ex=>ih O (hs.take (z12 hs.length)) ex (by rw [List.length_take];omega) (hH.take _) (by rw [List.length_take];omega)
    have i2:=fun O ex=>ih O (hs.drop (z12 hs.length)) ex (by rw [List.length_drop];omega) (hH.drop _) (by rw [List.length_drop];omega)
    rw [eL]at hc ⊢
    have tk:=zj6 hs (z12 hs.length)
    have dk:=zj5 hs (z12 hs.length)
    generalize z1b (hs.take (z12 hs.length))=A at*
    generalize z1b (hs.drop (z12 hs.length))=B at*
    generalize z10 (hs.take (z12 hs.length))=ra at*
    generalize z10 (hs.drop (z12 hs.length))=rb at*
    generalize z10 hs=rows at*
    generalize z12 hs.length=k at*
    have k0:¬(hs.length:Int)=0:=by omega
    have k1:¬(hs.length:Int)=1:=by omega
    refine ACallsTo.of_body qhok (by simp) fun hw _=> ?_
    repeat' (first|refine zs_ ?_|refine zb_ ?_|refine zc_ ?_|refine zt_ rfl ?_|refine zf_ rfl ?_|(refine zd_ rfl (fun ht=> ?_) (fun ht=> ?_)<;>try (exfalso;omega))|((first|refine zW.regS ?_|refine zk_ ?_|refine ze_ ?_|refine zq_ ?_|(apply callW.mk_pu;(first|exact(fun _=>hsp _)|exact(fun _=>i1 _ _)|exact(fun _=>i2 _ _)|exact(fun _=>zkw _ _ _ n1 n2)))|(apply callW.za;(first|exact(hsp _)|exact(i1 _ _)|exact(i2 _ _)|exact(zkw _ _ _ n1 n2)))|(apply zG<;>intro ht));all_goals try simp (disch:=first|omega|(simp only [lens];first|done|omega)) only [go_sem,hc,hrl,tk,dk]))
    exact DownV.pure hw (z2s (z2c _))
theorem zu6(O:Store)(hs:List (List UInt8))(x:AV)(hx:SlV 32 (z10 hs) x)(hH:H32 hs)(hl:hs.length<1000000000):ACallsTo TC 88 [x] O (.agg (zm (z1b hs))) O:=by
 rcases hx with⟨rfl,h⟩| ⟨ex,rfl⟩
 ·obtain rfl:=hrows_nil.1 h
  have hc:=zn (z1b [])
  rw [z33 hH]at hc
  rw [zfb]at hc ⊢
  refine ACallsTo.of_body qhok (by simp) fun hw _=> ?_
  repeat' (first|apply zs_|apply zb_|apply zc_|apply zt_ rfl|apply zf_ rfl|(apply zd_ rfl<;>intro ht<;>try omega)|((first|apply zr_|apply zk_|apply ze_|apply zq_|(apply callW.mk_pu;(first|exact(fun _=>z8y _ [] (by simp))))|(apply callW.za;(first|exact(z8y _ [] (by simp))))|(apply zG<;>intro ht));all_goals try simp (disch:=first|omega|(simp only [lens];first|done|omega)) only [go_sem,hc]))
  exact DownV.pure hw (z2s (z2c _))
 ·exact zu7 (hs.length+1) O hs ex (by omega) hH hl
end
section
def RdSl(O:Store)(sz:Nat)(es:List (List AV))(x:AV):Prop:=
 SlV sz es x \/ ∃r off lim o,x=.sl r off es.length lim sz/\ O[r]? =some (some o)/\ off+es.length<=o.length/\ (o.drop off).take es.length=es
theorem RdSl.of{O:Store}{sz:Nat}{es:List (List AV)}{x:AV}(h:SlV sz es x):RdSl O sz es x:=.inl h
theorem OwnN.rd{sz:Nat}{τ O':Store}{v:AV}{es:List (List AV)}(h:OwnN sz τ O' v es):RdSl O' sz es v:=by
 by_cases h0:es=[]
 ·obtain⟨news,rfl,⟨rfl,rfl⟩| ⟨j,h1,_⟩⟩:=h
  ·exact .inl (.inl ⟨rfl,rfl⟩)
  ·exact absurd h0 h1
 ·obtain⟨r,rfl,hg,_⟩:=h.sl h0
  exact .inr ⟨r,0,none,es,rfl,hg,by omega,by rw [List.drop_zero,List.take_of_length_le (Nat.le_refl _)]⟩
theorem RdSl.app{O y:Store}{sz:Nat}{es:List (List AV)}{x:AV}(h:RdSl O sz es x):RdSl (O++y) sz es x:=by
 rcases h with h| ⟨r,off,lim,o,rfl,hg,h1,h2⟩
 ·exact .inl h
 ·exact .inr ⟨r,off,lim,o,rfl,by rw [gapp (List.getElem?_eq_some_iff.1 hg).1];exact hg,h1,h2⟩
theorem RdSl.len{O:Store}{sz:Nat}{es:List (List AV)}{x:AV}(h:RdSl O sz es x):z1k x=some (.int .i64 es.length):=by
 rcases h with h| ⟨r,off,lim,o,rfl,_⟩
 ·exact h.len
 ·rfl
theorem RdSl.lend{O:Store}{sz:Nat}{es:List (List AV)}{x:AV}(h:RdSl O sz es x)(hr:RLss 0 es):∃x0,SlV sz es x0/\ DR (z45 O) x0 x:=by
 rcases h with h| ⟨r,off,lim,o,rfl,hg,h1,h2⟩
 ·refine⟨x,h,DR.refl (k:=0) (by omega) x ?_⟩
  rcases h with⟨rfl,_⟩| ⟨ex,rfl⟩
  ·simp [RL]
  ·simpa only [RL]using hr
 ·refine⟨.vsl sz es false,.inr ⟨false,rfl⟩,?_⟩
  simp only [DR,z45]
  exact .inr (.inl ⟨r,off,lim,o,rfl,trivial,hg,h1,by simp,by rw [h2];exact DRss.refl (k:=0) (by omega) es hr⟩)
theorem zru{O:Store}{r i off cap esz:Nat}{o es:List (List AV)}{cs rest:List AV}(hg:O[r]? =some (some o))(hi:o[i]? =some cs)(ho:off<=cs.length)(hd:cs.drop off=es.flatten++rest)(he:∀e ∈ es,e.length=esz)(hn:es.length ≠ 0)(hr:RLss 0 es):
  DR (z45 O) (.vsl esz es false) (.asl r i off es.length cap esz):=by
 simp only [DR,z45]
 exact .inr (.inr ⟨r,i,off,cap,o,cs,es,rest,rfl,trivial,hg,hi,ho,hd,he,hn,by simp,DRss.refl (k:=0) (by omega) es hr⟩)
theorem rl0{a:AV}(h:RL 0 a)(O:Store):DR (z45 O) a a:=DR.refl (k:=0) (by omega) a h
theorem drs1{D:DC}{a b:AV}(h:DR D a b):DRs D [a] [b]:=by simp only [DRs];exact⟨b,[],rfl,h,rfl⟩
theorem drsc{D:DC}{a b:AV}{l m:List AV}(h:DR D a b)(h2:DRs D l m):DRs D (a::l) (b::m):=by simp only [DRs];exact⟨b,m,rfl,h,h2⟩
theorem zfn(k:Nat):∀(l:List UInt8),shs k (zm l)=zm l
 | []=>rfl
 |b::l=>by have:=zfn k l;simp only [zm]at this;simp [zm,shs,sh,this]
theorem zlp(k:Nat)(l:List UInt8):sh k (.agg (zm l))=.agg (zm l):=by simp only [sh,zfn]
theorem z80(k:Nat):shS k []=[]:=rfl
theorem zw9(O:Store)(hs:List (List UInt8))(x:AV)(hx:RdSl O 32 (z10 hs) x)(hH:H32 hs)(hl:hs.length<1000000000):ACallsTo TC 64 [x] O (.agg (zm (z1b hs))) O:=by
 obtain⟨x0,h0,hd⟩:=hx.lend (z91 hs)
 have:=ACallsTo.lend glok (zai [] hs x0 h0 hH hl) (drs1 hd)
 rwa [zlp,z80,List.append_nil]at this
theorem zu5(O:Store)(hs:List (List UInt8))(x:AV)(hx:RdSl O 32 (z10 hs) x)(hH:H32 hs)(hl:hs.length<1000000000):ACallsTo TC 88 [x] O (.agg (zm (z1b hs))) O:=by
 obtain⟨x0,h0,hd⟩:=hx.lend (z91 hs)
 have:=ACallsTo.lend glok (zu6 [] hs x0 h0 hH hl) (drs1 hd)
 rwa [zlp,z80,List.append_nil]at this
theorem z7o:∀(a b:List UInt8),z1z (zm a) (zm b)=decide (a=b)
 | [],[]=>rfl
 | [],_::_=>rfl
 | _::_,[]=>rfl
 |a::l,b::m=>by
  have ih:=z7o l m
  simp only [zm,List.map_cons,z1z,z7n]at ih ⊢
  rw [ih,Bool.eq_iff_iff]
  simp [<-UInt8.toNat_inj]
  intro _
  omega
theorem zjh:∀(l:List UInt8),(zm l).map z1l=List.replicate l.length (some (LK.i .u8))
 | []=>rfl
 | _::l=>by have:=zjh l;simp only [zm]at this;simp [zm,z1l,this,List.replicate_succ]
theorem z4n{l:List UInt8}(h:l.length=32):(zm l).map z1l=(List.replicate 32 (LK.i .u8)).map some:=by rw [zjh,h];rfl
end
section
set_option maxRecDepth 10000
def qmr0:yW:=[
 yI 4 (.mv (.v .nilsl)),
 yK 5 .i64 0]
def qmr1:yW:=[
 yM 9 1,
 yJ 10 .lss 9 .i64 0,
 yM 11 10,
 yV 12 11 false 1,
 yV 13 11 false 0,
 yG 14 11 false (.lenSl (.t 13)),
 yG 15 11 false (.bin .gtr .none (.t 12) (.t 14)),
 yP 16 11 15,
 yM 8 16]
def qmr2:yW:=[
 yI 4 (.mv (.v .nilsl)),
 yK 5 .i64 2]
def qmc3:yX:=yq qmr2 .ret
def qmr4:yW:=[
 yM 18 1,
 yJ 19 .eql 18 .i64 0,
 yM 20 19,
 yV 21 20 false 1,
 yV 22 20 false 0,
 yG 23 20 false (.lenSl (.t 22)),
 yG 24 20 false (.bin .eql .none (.t 21) (.t 23)),
 yP 25 20 24,
 yM 17 25]
def qmr5:yW:=[
 yI 4 (.mv (.v .nilsl)),
 yK 5 .i64 0]
def qmc6:yX:=yq qmr5 .ret
def qmc7:yX:=.cond (.t 17) qmc6 .skip
def qmc8:yX:=yq qmr4 qmc7
def qmc9:yX:=.cond (.t 8) qmc3 qmc8
def qmc10:yX:=yq qmr1 qmc9
def qmr11:yW:=[
 yI 6 (.alloc [.nilsl])]
def qmr12:yW:=[
 yI 7 (.alloc [.nilfn])]
def qmr13:yW:=[
 yI 26 (.mkfn 121 [(.t 6),(.t 7)]),
 yS 1 7 26]
def qmr14:yW:=[
 yL 27 false 1 7,
 yM 28 0,
 yM 29 1,
 yI 30 (.call (.t 27) [(.t 28),(.t 29),(.v (.bool true))])]
def qmr15:yW:=[
 yL 31 false 1 6,
 yM 4 31,
 yK 5 .i64 0]
def qmc16:yX:=yq qmr15 .ret
def qmc17:yX:=yq qmr14 qmc16
def qmc18:yX:=yq qmr13 qmc17
def qmc19:yX:=yq qmr12 qmc18
def qmc20:yX:=yq qmr11 qmc19
def qmc21:yX:=.seq (.block 0 qmc10) qmc20
def qmc22:yX:=yq qmr0 qmc21
attribute [go_sem] qmr0 qmr1 qmr2 qmr4 qmr5 qmr11 qmr12 qmr13 qmr14 qmr15
theorem qmok:cFn TC 87=some (32,[.t 4,.t 5],qmc22):=by kernel_rfl
def qnr0:yW:=[
 yI 7 (.box (.t 2)),
 yI 8 (.box (.t 3)),
 yI 9 (.box (.t 4)),
 yK 10 .i64 0]
def qnr1:yW:=[
 yM 21 1,
 yJ 22 .lss 21 .i64 0,
 yM 23 22,
 yV 24 23 false 1,
 yG 25 23 false (.bin .gtr .none (.t 24) (.v (.int .i64 4096))),
 yP 26 23 25,
 yM 27 26,
 yV 28 27 false 0,
 yG 29 27 false (.bin .lss .none (.t 28) (.v (.int .i64 0))),
 yP 30 27 29,
 yM 31 30,
 yV 32 31 false 0,
 yV 33 31 false 1,
 yG 34 31 false (.bin .gtr .none (.t 32) (.t 33)),
 yP 35 31 34,
 yM 20 35]
def qnr2:yW:=[
 yK 10 .i64 2]
def qnc3:yX:=yq qnr2 .ret
def qnr4:yW:=[
 yM 37 0,
 yJ 38 .eql 37 .i64 0,
 yM 36 38]
def qnr5:yW:=[
 yL 39 false 1 9,
 yI 40 (.lenSl (.t 39)),
 yJ 41 .eql 40 .i64 0,
 yM 42 41,
 ⟨some 43,some (42,true),.rd,.load true 32 (.t 7)⟩,
 ⟨some 44,some (42,true),.ef,.call (.v (.fn 64 [])) [(.v .nilsl)]⟩,
 yG 45 42 true (.bin .eql (.agg (List.replicate 32 (.i .u8)++ [])) (.t 43) (.t 44)),
 yQ 46 42 45,
 yM 47 46,
 yV 48 47 true 1,
 yG 49 47 true (.bin .gtr .none (.t 48) (.v (.int .i64 0))),
 yV 50 47 true 49,
 ⟨some 51,some (50,false),.rd,.load true 32 (.t 8)⟩,
 ⟨some 52,some (50,false),.rd,.load true 32 (.t 7)⟩,
 yG 53 50 false (.bin .eql (.agg (List.replicate 32 (.i .u8)++ [])) (.t 51) (.t 52)),
 yG 54 47 true (.pick (.t 50) (.v (.bool true)) (.t 53)),
 yQ 55 47 54,
 yC 56 97 55,
 yM 10 56]
def qnc6:yX:=yq qnr5 .ret
def qnr7:yW:=[
 yM 58 0,
 yM 59 1,
 yB 60 .eql 58 59,
 yM 57 60]
def qnr8:yW:=[
 yL 61 false 1 9,
 yI 62 (.lenSl (.t 61)),
 yJ 63 .eql 62 .i64 0,
 yM 64 63,
 yU 65 64 true true 32 7,
 yU 66 64 true true 32 8,
 yG 67 64 true (.bin .eql (.agg (List.replicate 32 (.i .u8)++ [])) (.t 65) (.t 66)),
 yQ 68 64 67,
 yC 69 97 68,
 yM 10 69]
def qnc9:yX:=yq qnr8 .ret
def qnc10:yX:=.cond (.t 57) qnc9 .skip
def qnc11:yX:=yq qnr7 qnc10
def qnc12:yX:=.cond (.t 36) qnc6 qnc11
def qnc13:yX:=yq qnr4 qnc12
def qnc14:yX:=.cond (.t 20) qnc3 qnc13
def qnc15:yX:=yq qnr1 qnc14
def qnr16:yW:=[
 yM 70 0,
 yJ 71 .sub 70 .i64 1,
 yM 72 1,
 yJ 73 .sub 72 .i64 1,
 yM 11 71,
 yM 12 73]
def qnr17:yW:=[
 yM 74 11,
 yJ 75 .rem 74 .i64 2,
 yJ 76 .eql 75 .i64 1]
def qnc18:yX:=.cond (.t 76) .skip (.exit 1)
def qnc19:yX:=yq qnr17 qnc18
def qnr20:yW:=[
 yM 77 11,
 yJ 78 .quo 77 .i64 2,
 yM 79 12,
 yJ 80 .quo 79 .i64 2,
 yM 11 78,
 yM 12 80]
def qnc21:yX:=.block 2 (.reg qnr20)
def qnc22:yX:=.seq qnc19 qnc21
def qnc23:yX:=.loop qnc22
def qnr24:yW:=[
 yI 81 (.mkfn 98 [(.t 9)]),
 yM 13 81]
def qnr25:yW:=[
 ⟨some 82,none,.rd,.load true 32 (.t 7)⟩,
 ⟨some 83,none,.rd,.load true 32 (.t 7)⟩,
 ⟨some 14,none,.ef,.alloc zZ0⟩,
 ⟨some 15,none,.ef,.alloc zZ0⟩,
 ⟨none,none,.ef,.store 32 (.t 14) (.t 82)⟩,
 yS 32 15 83]
def qnr26:yW:=[
 ⟨some 82,none,.rd,.load true 32 (.t 7)⟩,
 ⟨some 83,none,.rd,.load true 32 (.t 7)⟩,
 ⟨some 15,none,.ef,.alloc zZ0⟩,
 ⟨some 14,none,.ef,.alloc zZ0⟩,
 ⟨none,none,.ef,.store 32 (.t 14) (.t 82)⟩,
 yS 32 15 83]
def qnr27:yW:=[
 yM 84 11,
 yJ 85 .gtr 84 .i64 0]
def qnr28:yW:=[
 yM 87 13,
 yI 88 (.call (.t 87) []),
 yM 86 88,
 yE 89 0 86,
 yE 90 1 86,
 yI 16 (.alloc zZ0),
 yS 32 16 89,
 yM 17 90]
def qnr29:yW:=[
 yM 91 17,
 yI 92 (.un .not (.t 91))]
def qnr30:yW:=[
 yK 10 .i64 80]
def qnc31:yX:=yq qnr30 .ret
def qnc32:yX:=.cond (.t 92) qnc31 .skip
def qnc33:yX:=yq qnr29 qnc32
def qnr34:yW:=[
 ⟨some 93,none,.rd,.load true 32 (.t 16)⟩,
 ⟨some 94,none,.rd2,.load true 32 (.t 16)⟩,
 ⟨none,none,.ef2,.store 32 (.t 14) (.t 93)⟩,
 yS 32 15 94]
def qnc35:yX:=.seq qnc33 (.reg qnr34)
def qnc36:yX:=yq qnr28 qnc35
def qnc37:yX:=.cond (.t 85) qnc36 .skip
def qnc38:yX:=yq qnr27 qnc37
def qnr39:yW:=[
 yM 95 12,
 yJ 96 .gtr 95 .i64 0]
def qnc40:yX:=.cond (.t 96) .skip (.exit 3)
def qnc41:yX:=yq qnr39 qnc40
def qnr42:yW:=[
 yM 98 13,
 yI 99 (.call (.t 98) []),
 yM 97 99,
 yE 100 0 97,
 yE 101 1 97,
 yI 18 (.alloc zZ0),
 yS 32 18 100,
 yM 19 101]
def qnr43:yW:=[
 yM 106 19,
 yI 107 (.un .not (.t 106)),
 yM 105 107]
def qnr44:yW:=[
 yK 10 .i64 80]
def qnc45:yX:=yq qnr44 .ret
def qnr46:yW:=[
 yM 109 11,
 yJ 110 .rem 109 .i64 2,
 yJ 111 .eql 110 .i64 1,
 yM 112 111,
 yV 113 112 false 11,
 yV 114 112 false 12,
 yG 115 112 false (.bin .eql .none (.t 113) (.t 114)),
 yP 116 112 115,
 yM 108 116]
def qnr47:yW:=[
 ⟨some 117,none,.rd,.load true 32 (.t 18)⟩,
 ⟨some 118,none,.rd,.load true 32 (.t 14)⟩,
 ⟨some 119,none,.ef,.call (.v (.fn 99 [])) [(.t 117),(.t 118)]⟩,
 ⟨some 120,none,.rd,.load true 32 (.t 18)⟩,
 ⟨some 121,none,.rd,.load true 32 (.t 15)⟩,
 yD 122 99 120 121,
 yS 32 14 119,
 yS 32 15 122]
def qnr48:yW:=[
 yM 123 11,
 yJ 124 .rem 123 .i64 2,
 yJ 125 .eql 124 .i64 0,
 yM 126 125,
 yV 127 126 true 11,
 yG 128 126 true (.bin .gtr .none (.t 127) (.v (.int .i64 0))),
 yQ 129 126 128]
def qnc49:yX:=.cond (.t 129) .skip (.exit 6)
def qnc50:yX:=yq qnr48 qnc49
def qnr51:yW:=[
 yM 130 11,
 yJ 131 .quo 130 .i64 2,
 yM 132 12,
 yJ 133 .quo 132 .i64 2,
 yM 11 131,
 yM 12 133]
def qnc52:yX:=.block 7 (.reg qnr51)
def qnc53:yX:=.seq qnc50 qnc52
def qnc54:yX:=.loop qnc53
def qnc55:yX:=.block 6 qnc54
def qnc56:yX:=yq qnr47 qnc55
def qnr57:yW:=[
 yL 102 true 32 15,
 yL 103 true 32 18,
 yD 104 99 102 103,
 yS 32 15 104]
def qnc58:yX:=.cond (.t 108) qnc56 (.reg qnr57)
def qnc59:yX:=yq qnr46 qnc58
def qnc60:yX:=.cond (.t 105) qnc45 qnc59
def qnc61:yX:=yq qnr43 qnc60
def qnc62:yX:=.block 5 qnc61
def qnc63:yX:=yq qnr42 qnc62
def qnr64:yW:=[
 yM 134 11,
 yJ 135 .quo 134 .i64 2,
 yM 136 12,
 yJ 137 .quo 136 .i64 2,
 yM 11 135,
 yM 12 137]
def qnc65:yX:=.seq qnc63 (.reg qnr64)
def qnc66:yX:=.block 4 qnc65
def qnc67:yX:=.seq qnc41 qnc66
def qnc68:yX:=.loop qnc67
def qnr69:yW:=[
 yL 138 false 1 9,
 yI 139 (.lenSl (.t 138)),
 yJ 140 .eql 139 .i64 0,
 yM 141 140,
 yU 142 141 true true 32 14,
 yU 143 141 true true 32 7,
 yG 144 141 true (.bin .eql (.agg (List.replicate 32 (.i .u8)++ [])) (.t 142) (.t 143)),
 yQ 145 141 144,
 yM 146 145,
 yU 147 146 true true 32 15,
 yU 148 146 true true 32 8,
 yG 149 146 true (.bin .eql (.agg (List.replicate 32 (.i .u8)++ [])) (.t 147) (.t 148)),
 yQ 150 146 149,
 yC 151 97 150,
 yM 10 151]
def qnc70:yX:=yq qnr69 .ret
def zez:ACode:=.seq (.block 3 qnc68) qnc70
def qnc72:yX:=.seq qnc38 zez
def qnc73:yX:=.seq (.reg2 qnr25 qnr26) qnc72
def qnc74:yX:=yq qnr24 qnc73
def qnc75:yX:=.seq (.block 1 qnc23) qnc74
def qnc76:yX:=yq qnr16 qnc75
def qnc77:yX:=.seq (.block 0 qnc15) qnc76
def qnc78:yX:=yq qnr0 qnc77
attribute [go_sem] qnr0 qnr1 qnr2 qnr4 qnr5 qnr7 qnr8 qnr16 qnr17 qnr20 qnr24 qnr25 qnr26 qnr27 qnr28 qnr29 qnr30 qnr34 qnr39 qnr42 qnr43 qnr44 qnr46 qnr47 qnr48 qnr51 qnr57 qnr64 qnr69
theorem qnok:cFn TC 45=some (152,[.t 10],qnc78):=by kernel_rfl
def qor0:yW:=[
 yM 9 1,
 yM 10 0,
 yI 11 (.lenSl (.t 10)),
 yB 12 .eql 9 11]
def qor1:yW:=[
 yM 13 2,
 yI 14 (.un .not (.t 13))]
def qor2:yW:=[
 ⟨some 15,none,.rd,.load false 1 (.t 3)⟩,
 yM 16 0,
 ⟨some 17,none,.ef,.call (.v (.fn 64 [])) [(.t 16)]⟩,
 yI 18 (.lit 32 [(.t 17)]),
 yI 19 (.app 32 (.t 15) (.t 18)),
 yS 1 3 19]
def qoc3:yX:=.cond (.t 14) (.reg qor2) .skip
def qoc4:yX:=yq qor1 qoc3
def qoc5:yX:=.seq qoc4 .ret
def qoc6:yX:=.cond (.t 12) qoc5 .skip
def qoc7:yX:=yq qor0 qoc6
def qor8:yW:=[
 yM 20 0,
 yI 21 (.lenSl (.t 20)),
 yC 22 111 21,
 yM 8 22]
def qor9:yW:=[
 yM 23 1,
 yM 24 8,
 yB 25 .leq 23 24]
def qor10:yW:=[
 yL 26 false 1 4,
 yM 27 0,
 yM 28 8,
 yI 29 (.slice (.sl 32) (.t 27) none (some (.t 28)) none),
 yM 30 1,
 yM 31 2,
 yI 32 (.call (.t 26) [(.t 29),(.t 30),(.t 31)])]
def qor11:yW:=[
 ⟨some 33,none,.rd,.load false 1 (.t 3)⟩,
 yM 34 0,
 yM 35 8,
 yI 36 (.slice (.sl 32) (.t 34) (some (.t 35)) none none),
 ⟨some 37,none,.ef,.call (.v (.fn 64 [])) [(.t 36)]⟩,
 yI 38 (.lit 32 [(.t 37)]),
 yI 39 (.app 32 (.t 33) (.t 38)),
 yS 1 3 39]
def qoc12:yX:=yq qor11 .ret
def qoc13:yX:=yq qor10 qoc12
def qoc14:yX:=.cond (.t 25) qoc13 .skip
def qoc15:yX:=yq qor9 qoc14
def qor16:yW:=[
 yL 40 false 1 4,
 yM 41 0,
 yM 42 8,
 yI 43 (.slice (.sl 32) (.t 41) (some (.t 42)) none none),
 yM 44 1,
 yM 45 8,
 yB 46 .sub 44 45,
 yI 47 (.call (.t 40) [(.t 43),(.t 46),(.v (.bool false))])]
def qor17:yW:=[
 ⟨some 48,none,.rd,.load false 1 (.t 3)⟩,
 yM 49 0,
 yM 50 8,
 yI 51 (.slice (.sl 32) (.t 49) none (some (.t 50)) none),
 ⟨some 52,none,.ef,.call (.v (.fn 64 [])) [(.t 51)]⟩,
 yI 53 (.lit 32 [(.t 52)]),
 yI 54 (.app 32 (.t 48) (.t 53)),
 yS 1 3 54]
def qoc18:yX:=yq qor16 (.reg qor17)
def qoc19:yX:=.seq qoc15 qoc18
def qoc20:yX:=yq qor8 qoc19
def qoc21:yX:=.seq qoc7 qoc20
attribute [go_sem] qor0 qor1 qor2 qor8 qor9 qor10 qor11 qor16 qor17
theorem qook:cFn TC 121=some (55,[],qoc21):=by kernel_rfl
def qpr0:yW:=[
 yK 2 .i64 0]
def qpr1:yW:=[
 yM 3 0,
 yI 4 (.un .not (.t 3))]
def qpr2:yW:=[
 yK 2 .i64 80]
def qpc3:yX:=yq qpr2 .ret
def qpc4:yX:=.cond (.t 4) qpc3 .skip
def qpc5:yX:=yq qpr1 qpc4
def qpr6:yW:=[
 yK 2 .i64 0]
def qpc7:yX:=yq qpr6 .ret
def qpc8:yX:=.seq qpc5 qpc7
def qpc9:yX:=yq qpr0 qpc8
attribute [go_sem] qpr0 qpr1 qpr2 qpr6
theorem qpok:cFn TC 97=some (5,[.t 2],qpc9):=by kernel_rfl
def qqr0:yW:=[
 yI 1 (.alloc zZ0),
 yI 2 (.mv (.v (.bool false)))]
def qqr1:yW:=[
 yL 3 false 1 0,
 yI 4 (.lenSl (.t 3)),
 yJ 5 .eql 4 .i64 0]
def qqr2:yW:=[
 yL 6 true 32 1,
 yS 32 1 6,
 yI 2 (.mv (.v (.bool false)))]
def qqc3:yX:=yq qqr2 .ret
def qqc4:yX:=.cond (.t 5) qqc3 .skip
def qqc5:yX:=yq qqr1 qqc4
def qqr6:yW:=[
 ⟨some 7,none,.rd,.load false 1 (.t 0)⟩,
 yI 8 (.iaSl 32 (.t 7) (.v (.int .i64 0))),
 ⟨some 9,none,.rd,.load true 32 (.t 8)⟩,
 ⟨some 10,none,.rd2,.load false 1 (.t 0)⟩,
 yI 11 (.slice (.sl 32) (.t 10) (some (.v (.int .i64 1))) none none),
 ⟨none,none,.ef2,.store 32 (.t 1) (.t 9)⟩,
 yS 1 0 11]
def qqr7:yW:=[
 yL 12 true 32 1,
 yS 32 1 12,
 yI 2 (.mv (.v (.bool true)))]
def qqc8:yX:=yq qqr7 .ret
def qqc9:yX:=yq qqr6 qqc8
def qqc10:yX:=.seq qqc5 qqc9
def qqc11:yX:=yq qqr0 qqc10
attribute [go_sem] qqr0 qqr1 qqr2 qqr6 qqr7
theorem qqok:cFn TC 98=some (13,[.c 1 true 32,.t 2],qqc11):=by kernel_rfl
end
section
def subF:Nat->List (List UInt8)->Nat->Bool->List (List UInt8)
 | 0,_,_,_=>[]
 |f+1,l,m,known=>
  if m=l.length then(if known then []else [z1b l])
  else if m<=z12 l.length then subF f (l.take (z12 l.length)) m known++ [z1b (l.drop (z12 l.length))]
  else subF f (l.drop (z12 l.length)) (m-z12 l.length) false++ [z1b (l.take (z12 l.length))]
theorem zcx:∀(f g:Nat) (l:List (List UInt8)) (m:Nat) (kn:Bool),l.length<f->l.length<g->0<m->m<=l.length->subF f l m kn=subF g l m kn
 | 0,_,_,_,_,h,_,_,_=>by omega
 | _+1,0,_,_,_,_,h,_,_=>by omega
 |f+1,g+1,l,m,kn,h,h',h0,hm=>by
  simp only [subF]
  by_cases h1:m=l.length
  ·rw [if_pos h1,if_pos h1]
  ·obtain⟨s1,s2,s3⟩:=z79 (n:=l.length) (by omega)
   rw [if_neg h1,if_neg h1]
   by_cases h2:m<=z12 l.length
   ·rw [if_pos h2,if_pos h2,zcx f g (l.take (z12 l.length)) m kn (by rw [List.length_take];omega) (by rw [List.length_take];omega) h0 (by rw [List.length_take];omega)]
   ·rw [if_neg h2,if_neg h2,zcx f g (l.drop (z12 l.length)) (m-z12 l.length) false (by rw [List.length_drop];omega) (by rw [List.length_drop];omega) (by omega) (by rw [List.length_drop];omega)]
def subS(l:List (List UInt8))(m:Nat)(known:Bool):List (List UInt8):=subF (l.length+1) l m known
theorem zvw(l:List (List UInt8))(kn:Bool):subS l l.length kn=if kn then []else [z1b l]:=by
 unfold subS subF;rw [if_pos rfl]
theorem zvx{l:List (List UInt8)}{m:Nat}{kn:Bool}(h0:0<m)(h1:m<l.length)(h2:m<=z12 l.length):
  subS l m kn=subS (l.take (z12 l.length)) m kn++ [z1b (l.drop (z12 l.length))]:=by
 obtain⟨s1,s2,s3⟩:=z79 (n:=l.length) (by omega)
 unfold subS
 rw [subF,if_neg (by omega),if_pos h2]
 congr 1
 exact zcx _ _ _ _ _ (by rw [List.length_take];omega) (Nat.lt_succ_self _) h0 (by rw [List.length_take];omega)
theorem zvy{l:List (List UInt8)}{m:Nat}{kn:Bool}(h1:m<l.length)(h2:¬m<=z12 l.length):
  subS l m kn=subS (l.drop (z12 l.length)) (m-z12 l.length) false++ [z1b (l.take (z12 l.length))]:=by
 obtain⟨s1,s2,s3⟩:=z79 (n:=l.length) (by omega)
 unfold subS
 rw [subF,if_neg (by omega),if_neg h2]
 congr 1
 exact zcx _ _ _ _ _ (by rw [List.length_drop];omega) (Nat.lt_succ_self _) (by omega) (by rw [List.length_drop];omega)
theorem zcw:∀(f:Nat) (l:List (List UInt8)) (m:Nat) (kn:Bool),H32 l->H32 (subF f l m kn)/\ (subF f l m kn).length<=f
 | 0,_,_,_,_=>⟨by intro h hh;simp [subF]at hh,by simp [subF]⟩
 |f+1,l,m,kn,hH=>by
  simp only [subF]
  have one:∀{x:List UInt8},x.length=32->H32 [x]:=fun hx h hh=>by simp at hh;subst hh;exact hx
  have app:∀{a b:List (List UInt8)},H32 a->H32 b->H32 (a++b):=fun h1 h2 h hh=>(List.mem_append.1 hh).elim (h1 h) (h2 h)
  split
  ·split
   ·exact⟨fun h hh=>by simp at hh,by simp⟩
   ·exact⟨one (z33 hH),by simp⟩
  ·split
   ·obtain⟨i1,i2⟩:=zcw f (l.take (z12 l.length)) m kn (hH.take _)
    exact⟨app i1 (one (z33 (hH.drop _))),by simp;omega⟩
   ·obtain⟨i1,i2⟩:=zcw f (l.drop (z12 l.length)) (m-z12 l.length) false (hH.drop _)
    exact⟨app i1 (one (z33 (hH.take _))),by simp;omega⟩
theorem subS_H{l:List (List UInt8)}{m:Nat}{kn:Bool}(hH:H32 l):H32 (subS l m kn):=(zcw _ l m kn hH).1
theorem zm8{l:List (List UInt8)}{m:Nat}{kn:Bool}(hH:H32 l):(subS l m kn).length<=l.length+1:=(zcw _ l m kn hH).2
structure PrS(O0 O':Store)(v:AV)(es:List (List AV)):Prop where
 out:O'[O0.length]? =some (some [[v]])
 fn:O'[O0.length+1]? =some (some [[.fn 121 [.ptr O0.length 0 0,.ptr (O0.length+1) 0 0]]])
 keep:∀q,q<O0.length->O'[q]? =O0[q]?
 sl:(es=[]/\ v=.nilsl) \/ ∃r,O0.length+2<=r/\ es ≠ []/\ v=.sl r 0 es.length none 32/\ O'[r]? =some (some es)
theorem PrS.lt{O0 O':Store}{v:AV}{es:List (List AV)}(h:PrS O0 O' v es):O0.length+2<=O'.length:=by
 have:=(List.getElem?_eq_some_iff.1 h.fn).1;omega
theorem PrS.add{O0 O':Store}{v:AV}{es:List (List AV)}(h:PrS O0 O' v es)(row:List AV)(hl:es.length+1<=1073741824):
  ∃r O2,aApp O' 32 v [row]=some (.sl r 0 (es.length+1) none 32,O2)/\ O2[O0.length]? =some (some [[v]])/\ PrS O0 (O2.set O0.length (some [[.sl r 0 (es.length+1) none 32]])) (.sl r 0 (es.length+1) none 32) (es++ [row]):=by
 have hlt:=h.lt
 obtain⟨h1,h2,h3,⟨rfl,rfl⟩| ⟨r,hr,h0,rfl,hg⟩⟩:=h
 ·refine⟨O'.length,O'++ [some [row]],rfl,by rw [gapp (by omega)];exact h1,⟨?_,?_,?_,.inr ⟨O'.length,by omega,by simp,by simp,?_⟩⟩⟩
  ·rw [z3h (by simp;omega)]
  ·rw [z1h (by omega),gapp (by omega)];exact h2
  ·intro q hq;rw [z1h (by omega),gapp (by omega)];exact h3 q hq
  ·rw [z1h (by omega),z2r (Nat.le_refl _),Nat.sub_self];rfl
 ·have hrl:=(List.getElem?_eq_some_iff.1 hg).1
  refine⟨O'.length,O'.set r none++ [some (es++ [row])],?_,?_,⟨?_,?_,?_,.inr ⟨O'.length,by omega,by simp,by simp,?_⟩⟩⟩
  ·rw [zbd,if_neg (by simp),hg]
   simp only [List.length_cons,List.length_nil]
   rw [if_pos ⟨trivial,by omega,by omega⟩,if_neg (by omega),List.drop_zero,List.take_of_length_le (Nat.le_refl _)]
  ·rw [gapp (by simp;omega),z1h (by omega)];exact h1
  ·rw [z3h (by simp;omega)]
  ·rw [z1h (by omega),gapp (by simp;omega),z1h (by omega)];exact h2
  ·intro q hq;rw [z1h (by omega),gapp (by simp;omega),z1h (by omega)];exact h3 q hq
  ·rw [z1h (by omega),z2r (by simp),List.length_set,Nat.sub_self];rfl
theorem PrS.ex(O0:Store)(es:List (List AV)):∃v O',PrS O0 O' v es:=by
 by_cases h:es=[]
 ·exact⟨.nilsl,O0++ [some [[.nilsl]],some [[.fn 121 [.ptr O0.length 0 0,.ptr (O0.length+1) 0 0]]]],by simp,by simp,fun q hq=>gapp hq,.inl ⟨h,rfl⟩⟩
 ·exact⟨.sl (O0.length+2) 0 es.length none 32,O0++ [some [[.sl (O0.length+2) 0 es.length none 32]],some [[.fn 121 [.ptr O0.length 0 0,.ptr (O0.length+1) 0 0]]],some es],by simp,by simp,fun q hq=>gapp hq,.inr ⟨_,Nat.le_refl _,h,rfl,by simp⟩⟩
theorem znd(O0:Store):∀(f:Nat) (hs:List (List UInt8)) (ex:Bool) (m:Nat) (kn:Bool) (O:Store) (v:AV) (es:List (List AV)),hs.length<f->H32 hs->hs.length<1000000->0<m->m<=hs.length->es.length+hs.length<10000000->PrS O0 O v es->
  ACallsP TC 121 [.vsl 32 (z10 hs) ex,.int .i64 m,.bool kn,.ptr O0.length 0 0,.ptr (O0.length+1) 0 0] O (fun r O'=>r=.tup []/\ ∃v',PrS O0 O' v' (es++z10 (subS hs m kn))):=by
 intro f
 induction f with
 |zero=>intro hs ex m kn O v es h;omega
 |succ f ih=>
  intro hs ex m kn O v es hf hH hl h0 hm hel hP
  have hrl:=z3b hs
  have ho:=hP.out
  have hfn:=hP.fn
  have hlt:=hP.lt
  by_cases h1:m=hs.length
  ·subst h1
   rw [zvw]
   cases kn with
   |true=>
    refine ACallsP.of_keep qook (by simp) ?_
    repeat' (first|apply zs_|apply zb_|apply zc_|apply zt_ rfl|apply zf_ rfl|(apply zd_ rfl<;>intro ht<;>try omega)|((first|apply zr_|apply zk_|apply ze_|apply zq_|(apply zG<;>intro ht));all_goals try simp (disch:=first|omega|(simp only [lens];first|done|omega)) only [go_sem,hrl]))
    exact⟨v,by simpa [z10]using hP⟩
   |false=>
    obtain⟨r,O2,he,hg,hP2⟩:=hP.add (zm (z1b hs)) (by omega)
    have hR:=zai O hs (.vsl 32 (z10 hs) ex) (.inr ⟨ex,rfl⟩) hH (by omega)
    have hc:=zn (z1b hs)
    rw [z33 hH]at hc
    have hgo:z10 (if false=true then []else [z1b hs])=[zm (z1b hs)]:=rfl
    rw [hgo]
    generalize zm (z1b hs)=row at*
    generalize z10 hs=rows at*
    refine ACallsP.of_keep qook (by simp) ?_
    repeat' (first|refine zs_ ?_|refine zb_ ?_|refine zc_ ?_|refine zt_ rfl ?_|refine zf_ rfl ?_|(refine zd_ rfl (fun ht=> ?_) (fun ht=> ?_)<;>try (exfalso;omega))|((first|refine zW.regS ?_|refine zk_ ?_|refine ze_ ?_|refine zq_ ?_|(apply callW.mk_pu;(first|exact(fun _=>hR)))|(apply callW.za;(first|exact(hR)))|(apply zG<;>intro ht));all_goals try simp (disch:=first|omega|(simp only [lens];first|done|omega)) only [go_sem,hrl,ho,he,hg,hc]))
    exact⟨_,hP2⟩
  ·obtain⟨s1,s2,s3⟩:=z79 (n:=hs.length) (by omega)
   have hsp:=fun O=>zcz O hs.length (by omega)
   obtain⟨k,hkd⟩:∃k,z12 hs.length=k:=⟨_,rfl⟩
   have tk:=zj6 hs k
   have dk:=zj5 hs k
   rw [hkd]at s1 s2 s3 hsp
   have hm1:¬(m:Int)=hs.length:=by omega
   by_cases h2:m<=k
   ·have e:=zvx (l:=hs) (m:=m) (kn:=kn) h0 (by omega) (by rw [hkd];exact h2)
    rw [hkd]at e
    have i1:=fun b=>ih (hs.take k) b m kn O v es (by rw [List.length_take];omega) (hH.take _) (by rw [List.length_take];omega) (by omega) (by rw [List.length_take];omega) (by rw [List.length_take];omega) hP
    have hR:=fun O b=>zai O (hs.drop k) (.vsl 32 (z10 (hs.drop k)) b) (.inr ⟨b,rfl⟩) (hH.drop _) (by rw [List.length_drop];omega)
    have hc:=zn (z1b (hs.drop k))
    rw [z33 (hH.drop _)]at hc
    have hcat:z10 (subS hs m kn)=z10 (subS (hs.take k) m kn)++ [zm (z1b (hs.drop k))]:=by rw [e];simp [z10]
    have hsl:=zm8 (m:=m) (kn:=kn) (hH.take k)
    have hsr:=z3b (subS (hs.take k) m kn)
    rw [hcat,<-List.append_assoc]
    rw [List.length_take]at hsl
    generalize zm (z1b (hs.drop k))=row at*
    generalize z10 (subS (hs.take k) m kn)=es1 at*
    generalize z10 (hs.take k)=ra at*
    generalize z10 (hs.drop k)=rb at*
    generalize z10 hs=rows at*
    refine ACallsP.of_keep qook (by simp) ?_
    repeat' (first|refine zs_ ?_|refine zb_ ?_|refine zc_ ?_|refine zt_ rfl ?_|refine zf_ rfl ?_|(refine zd_ rfl (fun ht=> ?_) (fun ht=> ?_)<;>try (exfalso;omega))|((first|refine zW.regS ?_|refine zk_ ?_|refine ze_ ?_|refine zq_ ?_|(apply callW.mk_pu;(first|exact(fun _=>hsp _)))|(apply callW.za;(first|exact(hsp _)))|(apply zG<;>intro ht));all_goals try simp (disch:=first|omega|(simp only [lens];first|done|omega)) only [go_sem,hrl,ho,hfn,hm1,tk,dk]))
    refine callW.mkP (i1 _) (by obtain⟨v',O',h⟩:=PrS.ex O0 (es++es1);exact⟨_,O',rfl,v',h⟩) ?_
    rintro r1 O1 ⟨rfl,v1,hP1⟩
    have ho1:=hP1.out
    obtain⟨r,O2,he,hg,hP2⟩:=hP1.add row (by rw [List.length_append];omega)
    repeat' (first|refine zs_ ?_|refine zb_ ?_|refine zc_ ?_|refine zt_ rfl ?_|refine zf_ rfl ?_|(refine zd_ rfl (fun ht=> ?_) (fun ht=> ?_)<;>try (exfalso;omega))|((first|refine zW.regS ?_|refine zk_ ?_|refine ze_ ?_|refine zq_ ?_|(apply callW.mk_pu;(first|exact(fun _=>hR _ _)))|(apply callW.za;(first|exact(hR _ _)))|(apply zG<;>intro ht));all_goals try simp (disch:=first|omega|(simp only [lens];first|done|omega)) only [go_sem,hrl,ho1,he,hg,hc,tk,dk]))
    rw [List.length_append,List.append_assoc]at hP2
    exact⟨_,hP2⟩
   ·have e:=zvy (l:=hs) (m:=m) (kn:=kn) (by omega) (by rw [hkd];exact h2)
    rw [hkd]at e
    have hms:(m:Int)-k=((m-k:Nat):Int):=by omega
    have i1:=fun b=>ih (hs.drop k) b (m-k) false O v es (by rw [List.length_drop];omega) (hH.drop _) (by rw [List.length_drop];omega) (by omega) (by rw [List.length_drop];omega) (by rw [List.length_drop];omega) hP
    have hR:=fun O b=>zai O (hs.take k) (.vsl 32 (z10 (hs.take k)) b) (.inr ⟨b,rfl⟩) (hH.take _) (by rw [List.length_take];omega)
    have hc:=zn (z1b (hs.take k))
    rw [z33 (hH.take _)]at hc
    have hcat:z10 (subS hs m kn)=z10 (subS (hs.drop k) (m-k) false)++ [zm (z1b (hs.take k))]:=by rw [e];simp [z10]
    have hsl:=zm8 (m:=(m-k)) (kn:=false) (hH.drop k)
    have hsr:=z3b (subS (hs.drop k) (m-k) false)
    rw [hcat,<-List.append_assoc]
    rw [List.length_drop]at hsl
    generalize zm (z1b (hs.take k))=row at*
    generalize z10 (subS (hs.drop k) (m-k) false)=es1 at*
    generalize z10 (hs.take k)=ra at*
    generalize z10 (hs.drop k)=rb at*
    generalize z10 hs=rows at*
    refine ACallsP.of_keep qook (by simp) ?_
    repeat' (first|refine zs_ ?_|refine zb_ ?_|refine zc_ ?_|refine zt_ rfl ?_|refine zf_ rfl ?_|(refine zd_ rfl (fun ht=> ?_) (fun ht=> ?_)<;>try (exfalso;omega))|((first|refine zW.regS ?_|refine zk_ ?_|refine ze_ ?_|refine zq_ ?_|(apply callW.mk_pu;(first|exact(fun _=>hsp _)))|(apply callW.za;(first|exact(hsp _)))|(apply zG<;>intro ht));all_goals try simp (disch:=first|omega|(simp only [lens];first|done|omega)) only [go_sem,hrl,ho,hfn,hm1,tk,dk,hms]))
    refine callW.mkP (i1 _) (by obtain⟨v',O',h⟩:=PrS.ex O0 (es++es1);exact⟨_,O',rfl,v',h⟩) ?_
    rintro r1 O1 ⟨rfl,v1,hP1⟩
    have ho1:=hP1.out
    obtain⟨r,O2,he,hg,hP2⟩:=hP1.add row (by rw [List.length_append];omega)
    repeat' (first|refine zs_ ?_|refine zb_ ?_|refine zc_ ?_|refine zt_ rfl ?_|refine zf_ rfl ?_|(refine zd_ rfl (fun ht=> ?_) (fun ht=> ?_)<;>try (exfalso;omega))|((first|refine zW.regS ?_|refine zk_ ?_|refine ze_ ?_|refine zq_ ?_|(apply callW.mk_pu;(first|exact(fun _=>hR _ _)))|(apply callW.za;(first|exact(hR _ _)))|(apply zG<;>intro ht));all_goals try simp (disch:=first|omega|(simp only [lens];first|done|omega)) only [go_sem,hrl,ho1,he,hg,hc,tk,dk]))
    rw [List.length_append,List.append_assoc]at hP2
    exact⟨_,hP2⟩
theorem DownV.tup2{k:Nat}{v v2:AV}{O O2:Store}{i:IntKind}{e:Int}(h:DownV k v O v2 O2):DownV k (.tup [v,.int i e]) O (.tup [v2,.int i e]) O2:=by
 obtain⟨D,a,b,c⟩:=h
 exact⟨D,a,b,by simp only [DR,DRs];exact⟨_,rfl,_,_,rfl,c,_,_,rfl,rfl,rfl⟩⟩
theorem ze2{O O':Store}(h:O.length<=O'.length)(h2:∀q,q<O.length->O'[q]? =O[q]?):∃y,O'=O++y:=by
 refine⟨O'.drop O.length,?_⟩
 have e:O'.take O.length=O:=by
  refine List.ext_getElem? fun i=> ?_
  by_cases hi:i<O.length
  ·rw [List.getElem?_take_of_lt hi];exact h2 i hi
  ·rw [List.getElem?_eq_none (by simp;omega),List.getElem?_eq_none (by omega)]
 calc O'=O'.take O.length++O'.drop O.length:=(List.take_append_drop _ _).symm
  _=O++O'.drop O.length:=by rw [e]
theorem PrS.own{O0 O':Store}{v:AV}{es:List (List AV)}(h:PrS O0 O' v es):OwnN 32 O0 O' v es:=by
 have hlt:=h.lt
 obtain⟨y,rfl⟩:=ze2 (by omega) h.keep
 obtain⟨h1,h2,h3,h4| ⟨r,hr,h0,rfl,hg⟩⟩:=h
 ·exact⟨y,rfl,.inl h4⟩
 ·refine⟨y,rfl,.inr ⟨r-O0.length,h0,by rw [show O0.length+(r-O0.length)=r by omega],?_⟩⟩
  rw [List.getElem?_append_right (by omega)]at hg;exact hg
def z3d(hs:List (List UInt8))(m:Int):List (List UInt8):=if 0<m/\ m<hs.length then subS hs m.toNat true else []
def z69(hs:List (List UInt8))(m:Int):Int:=if m<0 \/(hs.length:Int)<m then 2 else 0
theorem ztn{hs:List (List UInt8)}{m:Int}(h:H32 hs):H32 (z3d hs m):=by
 unfold z3d
 split
 ·exact subS_H h
 ·intro x hx;simp at hx
def ProofP(O:Store)(hs:List (List UInt8))(m:Int)(v:AV)(O':Store):Prop:=∃v2,v=.tup [v2,.int .i64 (z69 hs m)]/\ OwnN 32 O O' v2 (z10 (z3d hs m))
theorem ProofP.ex(O:Store)(hs:List (List UInt8))(m:Int):∃v O',ProofP O hs m v O':=⟨_,_,_,rfl,z8r O 32 _⟩
theorem ProofP.none{O:Store}{hs:List (List UInt8)}{m:Int}(h:z3d hs m=[]):ProofP O hs m (.tup [.nilsl,.int .i64 (z69 hs m)]) O:=⟨.nilsl,rfl,by rw [h];exact⟨[],by simp,.inl ⟨rfl,rfl⟩⟩⟩
theorem zne(O:Store)(hs:List (List UInt8))(x:AV)(m:Int)(hx:SlV 32 (z10 hs) x)(hH:H32 hs)(hl:hs.length<1000000):
  ACallsP TC 87 [x,.int .i64 m] O (ProofP O hs m):=by
 have r1:=hx.len
 rw [z3b]at r1
 unfold z1k at r1
 by_cases h1:m<0 \/(hs.length:Int)<m
 ·have e1:z69 hs m=2:=by unfold z69;rw [if_pos h1]
  have e2:z3d hs m=[]:=by unfold z3d;rw [if_neg (by omega)]
  refine ACallsTo.toP (v:=.tup [.nilsl,.int .i64 2]) (O':=O) ?_ (by have:=ProofP.none (O:=O) e2;rwa [e1]at this)
  refine ACallsTo.of_body qmok (by simp) fun hw _=> ?_
  repeat' (first|apply zs_|apply zb_|apply zc_|apply zt_ rfl|apply zf_ rfl|(apply zd_ rfl<;>intro ht<;>try omega)|((first|apply zr_|apply zk_|apply ze_|apply zq_|(apply zG<;>intro ht));all_goals try simp (disch:=first|omega|(simp only [lens];first|done|omega)) only [go_sem,r1]))
  all_goals exact DownV.same hw (z15 _ rfl)
 ·have e1:z69 hs m=0:=by unfold z69;rw [if_neg h1]
  by_cases h2:m=0 \/m=hs.length
  ·have e2:z3d hs m=[]:=by unfold z3d;rw [if_neg (by omega)]
   refine ACallsTo.toP (v:=.tup [.nilsl,.int .i64 0]) (O':=O) ?_ (by have:=ProofP.none (O:=O) e2;rwa [e1]at this)
   refine ACallsTo.of_body qmok (by simp) fun hw _=> ?_
   repeat' (first|apply zs_|apply zb_|apply zc_|apply zt_ rfl|apply zf_ rfl|(apply zd_ rfl<;>intro ht<;>try omega)|((first|apply zr_|apply zk_|apply ze_|apply zq_|(apply zG<;>intro ht));all_goals try simp (disch:=first|omega|(simp only [lens];first|done|omega)) only [go_sem,r1]))
   all_goals exact DownV.same hw (z15 _ rfl)
  ·obtain⟨n,rfl⟩:∃n:Nat,m=n:=⟨m.toNat,by omega⟩
   have e2:z3d hs n=subS hs n true:=by unfold z3d;rw [if_pos (by omega)];rfl
   obtain⟨ex,rfl⟩:=hx.vsl (by rw [z3b];omega)
   have i1:=fun O' v=>znd O (hs.length+1) hs ex n true O' v [] (by omega) hH hl (by omega) (by omega) (by simp;omega)
   simp only [List.nil_append]at i1
   rw [<-e2]at i1
   have hP0:PrS O (O++ [some [[.nilsl]],some [[.fn 121 [.ptr O.length 0 0,.ptr (O.length+1) 0 0]]]]) .nilsl []:=⟨by simp,by simp,fun q hq=>gapp hq,.inl ⟨rfl,rfl⟩⟩
   refine ACallsP.of_body qmok (by simp) fun hw _=> ?_
   have hrl:=z3b hs
   generalize z10 hs=rows at*
   repeat' (first|apply zs_|apply zb_|apply zc_|apply zt_ rfl|apply zf_ rfl|(apply zd_ rfl<;>intro ht<;>try omega)|((first|apply zr_|apply zk_|apply ze_|apply zq_|(apply zG<;>intro ht));all_goals try simp (disch:=first|omega|(simp only [lens];first|done|omega)) only [go_sem,r1,hrl]))
   refine callW.mkP (i1 _ _ hP0) (by obtain⟨v',O',h⟩:=PrS.ex O (z10 (z3d hs n));exact⟨_,O',rfl,v',h⟩) ?_
   rintro r O1 ⟨rfl,v1,hP1⟩
   have ho1:=hP1.out
   repeat' (first|apply zs_|apply zb_|apply zc_|apply zt_ rfl|apply zf_ rfl|(apply zd_ rfl<;>intro ht<;>try omega)|((first|apply zr_|apply zk_|apply ze_|apply zq_|(apply zG<;>intro ht));all_goals try simp (disch:=first|omega|(simp only [lens];first|done|omega)) only [go_sem,ho1]))
   refine⟨_,_,⟨_,rfl,z8r O 32 _⟩,?_⟩
   rw [e1]
   exact(hP1.own.own hw (z91 _)).tup2
end
section
def OwnA(sz:Nat)(τ O':Store)(v:AV)(es:List (List AV)):Prop:=OwnN sz τ O' v es \/(v=.vsl sz es true/\ es ≠ []/\ ∃news,O'=τ++news)
theorem OwnA.app{sz:Nat}{τ O':Store}{v:AV}{es ys:List (List AV)}(h:OwnA sz τ O' v es)(h0:ys.length ≠ 0)(hl:es.length+ys.length<=1073741824):
  ∃v' O'',aApp O' sz v ys=some (v',O'')/\ OwnN sz τ O'' v' (es++ys):=by
 rcases h with h| ⟨rfl,h1,news,rfl⟩
 ·exact h.app h0 hl
 ·refine⟨.sl (τ++news).length 0 (es.length+ys.length) none sz,(τ++news)++ [some (es++ys)],by rw [z9n,if_neg h0,if_pos ⟨rfl,rfl,hl⟩],news++ [some (es++ys)],by rw [List.append_assoc],.inr ⟨news.length,by simp [h1],by simp,by rw [List.getElem?_append_right (Nat.le_refl _)];simp⟩⟩
theorem OwnA.rd{sz:Nat}{τ O':Store}{v:AV}{es:List (List AV)}(h:OwnA sz τ O' v es):RdSl O' sz es v:=by
 rcases h with h| ⟨rfl,_⟩
 ·exact h.rd
 ·exact .inl (.inr ⟨true,rfl⟩)
theorem OwnA.more{sz:Nat}{τ O':Store}{v:AV}{es:List (List AV)}(h:OwnA sz τ O' v es)(y:Store):OwnA sz τ (O'++y) v es:=by
 rcases h with h| ⟨rfl,h1,news,rfl⟩
 ·exact .inl (h.more y)
 ·exact .inr ⟨rfl,h1,news++y,by rw [List.append_assoc]⟩
theorem OwnA.ext{sz:Nat}{τ O':Store}{v:AV}{es:List (List AV)}(h:OwnA sz τ O' v es):∃news,O'=τ++news:=by
 rcases h with h| ⟨_,_,h⟩
 ·exact h.ext
 ·exact h
theorem OwnA.down{sz:Nat}{O O':Store}{v:AV}{es:List (List AV)}(hw:Wf O.length O)(h:OwnA sz O O' v es)(hr:RLss O.length es):∃v2 O2,OwnA sz O O2 v2 es/\ DownV O.length v O' v2 O2:=by
 rcases h with h| ⟨rfl,h1,news,rfl⟩
 ·exact⟨_,_,.inl (z8r O sz es),h.own hw hr⟩
 ·exact⟨_,O,.inr ⟨rfl,h1,[],by simp⟩,DownV.pure hw (by simpa only [RL]using hr)⟩
def OwnQ(kn:Bool)(τ O':Store)(v:AV)(es:List (List AV)):Prop:=OwnA 32 τ O' v es/\ (kn=true->OwnN 32 τ O' v es)
theorem OwnQ.is(kn:Bool)(O:Store)(es:List (List AV)):OwnQ kn O (ownS O es) (ownV O 32 es) es:=⟨.inl (z8r O 32 es),fun _=>z8r O 32 es⟩
theorem OwnQ.down{kn:Bool}{O O':Store}{v:AV}{es:List (List AV)}(hw:Wf O.length O)(h:OwnN 32 O O' v es)(hr:RLss O.length es):∃v2 O2,OwnQ kn O O2 v2 es/\ DownV O.length v O' v2 O2:=
 ⟨_,_,OwnQ.is kn O es,h.own hw hr⟩
end
section
def RefP(O:Store)(hs:List (List UInt8))(m:Int)(v:AV)(O':Store):Prop:=∃v2,v=.tup [v2,.int .i64 (z69 hs m)]/\ OwnA 32 O O' v2 (z10 (z3d hs m))
def st(i last:Nat):Nat × Nat:=if h:i%2=1 then st (i/2) (last/2)else(i,last)
termination_by i
decreasing_by omega
def lp(i last:Nat):List Bool:=
 if h:last=0 then []else if i%2=1 then true::lp (i/2) (last/2)else if i=last then lp (i/2) (last/2)else false::lp (i/2) (last/2)
termination_by last
decreasing_by all_goals omega
theorem st_odd{i last:Nat}(h:i%2=1):st i last=st (i/2) (last/2):=by rw [st,dif_pos h]
theorem zvf{i last:Nat}(h:¬i%2=1):st i last=(i,last):=by rw [st,dif_neg h]
theorem zc3(i:Nat):lp i 0=[]:=by rw [lp,dif_pos rfl]
theorem z8n{i last:Nat}(h:i%2=1)(h0:last ≠ 0):lp i last=true::lp (i/2) (last/2):=by rw [lp,dif_neg h0,if_pos h]
theorem zc2{i:Nat}(h:¬i%2=1):lp i i=lp (i/2) (i/2):=by
 by_cases h0:i=0
 ·subst h0;rfl
 ·rw [lp,dif_neg h0,if_neg h,if_pos rfl]
theorem lp_ne{i last:Nat}(h:¬i%2=1)(h0:last ≠ 0)(h1:i ≠ last):lp i last=false::lp (i/2) (last/2):=by rw [lp,dif_neg h0,if_neg h,if_neg h1]
theorem zeg:∀(f i:Nat),i<f->i ≠ 0->∃P,lp i i=true::P
 | 0,_,h,_=>by omega
 |f+1,i,h,h0=>by
  by_cases h1:i%2=1
  ·exact⟨_,z8n h1 h0⟩
  ·obtain⟨P,hP⟩:=zeg f (i/2) (by omega) (by omega)
   exact⟨P,by rw [zc2 h1,hP]⟩
def run:List Bool->List (List UInt8)->List UInt8->List UInt8->Option (List UInt8 × List UInt8)
 | [],[],a,b=>some (a,b)
 |true::p,h::ps,a,b=>run p ps (z1q h a) (z1q h b)
 |false::p,h::ps,a,b=>run p ps a (z1q b h)
 | _,_,_,_=>none
def chkG(i last:Nat)(o:List UInt8)(ps:List (List UInt8)):Option (List UInt8 × List UInt8):=
 if 0<i then match ps with
  | []=>none
  |h::ps=>run (lp i last) ps h h
 else run (lp i last) ps o o
def chkS(i last:Nat)(o:List UInt8)(ps:List (List UInt8)):Option (List UInt8 × List UInt8):=chkG (st i last).1 (st i last).2 o ps
def fitI(r:Option (List UInt8 × List UInt8))(o nw:List UInt8):Int:=
 match r with
 |some (a,b)=>if a=o/\ b=nw then 0 else 80
 |none=>80
def chkI(m n:Int)(o nw:List UInt8)(ps:List (List UInt8)):Int:=
 if n<0 \/4096<n \/m<0 \/n<m then 2
 else if m=0 then(if ps=[]/\ o=z1b []/\ (0<n \/nw=o)then 0 else 80)
 else if m=n then(if ps=[]/\ o=nw then 0 else 80)
 else fitI (chkS (m.toNat-1) (n.toNat-1) o ps) o nw
def z4i:List UInt8:=List.replicate 32 0
theorem zjw(p:Nat)(O:Store)(h:List UInt8)(ps:List (List UInt8))(ex:Bool)(hh:h.length=32)(hl:ps.length<1000000)(hp:O[p]? =some (some [[.vsl 32 (z10 (h::ps)) ex]])):
  ACallsTo TC 98 [.ptr p 0 0] O (.tup [.agg (zm h),.bool true]) (O.set p (some [[.vsl 32 (z10 ps) ex]])++ [some [zm h]]):=by
 have hc:=zn h
 rw [hh]at hc
 have hlt:=(List.getElem?_eq_some_iff.1 hp).1
 have hr:z10 (h::ps)=zm h::z10 ps:=rfl
 have hrl:=z3b ps
 rw [hr]at hp
 generalize zm h=row at*
 generalize z10 ps=rows at*
 refine ACallsTo.of_body_keep qqok (by simp) ?_
 repeat' (first|apply zs_|apply zb_|apply zc_|apply zt_ rfl|apply zf_ rfl|(apply zd_ rfl<;>intro ht<;>try omega)|((first|apply zr_|apply zk_|apply ze_|apply zq_|(apply zG<;>intro ht));all_goals try simp (disch:=first|omega|(simp only [lens];first|done|omega)) only [go_sem,hp,hc,hrl]))
 rw [List.drop_of_length_le (by omega),List.append_nil,List.take_of_length_le (by omega)]
 exact⟨rfl,rfl⟩
theorem zjv(p:Nat)(O:Store)(x:AV)(hx:SlV 32 [] x)(hp:O[p]? =some (some [[x]])):
  ACallsTo TC 98 [.ptr p 0 0] O (.tup [.agg (zm z4i),.bool false]) (O++ [some [zm z4i]]):=by
 have hlt:=(List.getElem?_eq_some_iff.1 hp).1
 have r1:=hx.len
 unfold z1k at r1
 have hz:zm z4i=List.replicate 32 (.int .u8 0):=rfl
 rw [hz]
 refine ACallsTo.of_body_keep qqok (by simp) ?_
 repeat' (first|refine zs_ ?_|refine zb_ ?_|refine zc_ ?_|refine zt_ rfl ?_|refine zf_ rfl ?_|(refine zd_ rfl (fun ht=> ?_) (fun ht=> ?_)<;>try (exfalso;omega))|((first|refine zW.regS ?_|refine zk_ ?_|refine ze_ ?_|refine zq_ ?_|(apply zG<;>intro ht));all_goals try simp (disch:=first|omega|(simp only [lens];first|done|omega)) only [go_sem,hp,r1]))
 exact⟨rfl,rfl⟩
theorem z27(O:Store)(b:Bool):ACallsTo TC 97 [.bool b] O (.int .i64 (if b then 0 else 80)) O:=by
 refine ACallsTo.of_body qpok (by simp) fun hw _=> ?_
 cases b with
 |true=>
  repeat' (first|apply zs_|apply zb_|apply zc_|apply zt_ rfl|apply zf_ rfl|(apply zd_ rfl<;>intro ht<;>try omega)|((first|apply zr_|apply zk_|apply ze_|apply zq_|(apply zG<;>intro ht));all_goals try simp (disch:=first|omega|(simp only [lens];first|done|omega)) only [go_sem]))
  exact DownV.same hw (z15 _ rfl)
 |false=>
  repeat' (first|apply zs_|apply zb_|apply zc_|apply zt_ rfl|apply zf_ rfl|(apply zd_ rfl<;>intro ht<;>try omega)|((first|apply zr_|apply zk_|apply ze_|apply zq_|(apply zG<;>intro ht));all_goals try simp (disch:=first|omega|(simp only [lens];first|done|omega)) only [go_sem]))
  exact DownV.same hw (z15 _ rfl)
end
section
structure ChkM(ia ib:Nat)(O O':Store)(o nw:List UInt8)(pv:AV)(ps:List (List UInt8))(a b:List UInt8):Prop where
 hab:(ia=3/\ ib=4) \/(ia=4/\ ib=3)
 len:O.length+5<=O'.length
 keep:∀q,q<O.length->O'[q]? =O[q]?
 g0:O'[O.length]? =some (some [zm o])
 g1:O'[O.length+1]? =some (some [zm nw])
 g2:O'[O.length+2]? =some (some [[pv]])
 g3:O'[O.length+ia]? =some (some [zm a])
 g4:O'[O.length+ib]? =some (some [zm b])
 hp:SlV 32 (z10 ps) pv
 ha:a.length=32
 hb:b.length=32
theorem ChkM.app{ia ib:Nat}{O O' y:Store}{o nw:List UInt8}{pv:AV}{ps:List (List UInt8)}{a b:List UInt8}(h:ChkM ia ib O O' o nw pv ps a b):ChkM ia ib O (O'++y) o nw pv ps a b:=by
 have hl:=h.len
 have hab:=h.hab
 refine⟨hab,by rw [List.length_append];omega,fun q hq=> ?_,?_,?_,?_,?_,?_,h.hp,h.ha,h.hb⟩
 ·rw [gapp (by omega)];exact h.keep q hq
 ·rw [gapp (by omega)];exact h.g0
 ·rw [gapp (by omega)];exact h.g1
 ·rw [gapp (by omega)];exact h.g2
 ·rw [gapp (by omega)];exact h.g3
 ·rw [gapp (by omega)];exact h.g4
theorem ChkM.setp{ia ib:Nat}{O O':Store}{o nw:List UInt8}{pv:AV}{ps:List (List UInt8)}{a b:List UInt8}(h:ChkM ia ib O O' o nw pv ps a b){qv:AV}{qs:List (List UInt8)}(hq:SlV 32 (z10 qs) qv):ChkM ia ib O (O'.set (O.length+2) (some [[qv]])) o nw qv qs a b:=by
 have hl:=h.len
 have hab:=h.hab
 refine⟨hab,by rw [List.length_set];omega,fun q hq=> ?_,?_,?_,?_,?_,?_,hq,h.ha,h.hb⟩
 ·rw [z1h (by omega)];exact h.keep q hq
 ·rw [z1h (by omega)];exact h.g0
 ·rw [z1h (by omega)];exact h.g1
 ·rw [z3h (by omega)]
 ·rw [z1h (by omega)];exact h.g3
 ·rw [z1h (by omega)];exact h.g4
theorem ChkM.seta{ia ib:Nat}{O O':Store}{o nw:List UInt8}{pv:AV}{ps:List (List UInt8)}{a b:List UInt8}(h:ChkM ia ib O O' o nw pv ps a b){a':List UInt8}(ha:a'.length=32):ChkM ia ib O (O'.set (O.length+ia) (some [zm a'])) o nw pv ps a' b:=by
 have hl:=h.len
 have hab:=h.hab
 refine⟨hab,by rw [List.length_set];omega,fun q hq=> ?_,?_,?_,?_,?_,?_,h.hp,ha,h.hb⟩
 ·rw [z1h (by omega)];exact h.keep q hq
 ·rw [z1h (by omega)];exact h.g0
 ·rw [z1h (by omega)];exact h.g1
 ·rw [z1h (by omega)];exact h.g2
 ·rw [z3h (by omega)]
 ·rw [z1h (by omega)];exact h.g4
theorem ChkM.setb{ia ib:Nat}{O O':Store}{o nw:List UInt8}{pv:AV}{ps:List (List UInt8)}{a b:List UInt8}(h:ChkM ia ib O O' o nw pv ps a b){b':List UInt8}(hb:b'.length=32):ChkM ia ib O (O'.set (O.length+ib) (some [zm b'])) o nw pv ps a b':=by
 have hl:=h.len
 have hab:=h.hab
 refine⟨hab,by rw [List.length_set];omega,fun q hq=> ?_,?_,?_,?_,?_,?_,h.hp,h.ha,hb⟩
 ·rw [z1h (by omega)];exact h.keep q hq
 ·rw [z1h (by omega)];exact h.g0
 ·rw [z1h (by omega)];exact h.g1
 ·rw [z1h (by omega)];exact h.g2
 ·rw [z1h (by omega)];exact h.g3
 ·rw [z3h (by omega)]
theorem ChkM.fin{ia ib:Nat}{O O':Store}{o nw:List UInt8}{pv:AV}{ps:List (List UInt8)}{a b:List UInt8}(h:ChkM ia ib O O' o nw pv ps a b)(hw:Wf O.length O){i:Int}:DownV O.length (.int .i64 i) O' (.int .i64 i) O:=by
 have hl:=h.len
 have hab:=h.hab
 obtain⟨y,rfl⟩:=ze2 (by omega) h.keep
 exact DownV.pure hw (z15 _ rfl)
theorem SlV.cells{sz:Nat}{es:List (List AV)}{x:AV}(h:SlV sz es x):cellsOf x=some [x]:=by
 rcases h with⟨rfl,rfl⟩| ⟨ex,rfl⟩<;>rfl
theorem zqj:H32 []:=fun _ h=>by simp at h
theorem z56{O O':Store}{i:Int}(hw:Wf O.length O)(h:O<+:O'):DownV O.length (.int .i64 i) O' (.int .i64 i) O:=by
 obtain⟨y,rfl⟩:=h
 exact DownV.pure hw (z15 _ rfl)
theorem zmu(O:Store)(m n:Int)(o nw:List UInt8)(x:AV)(es:List (List AV))(hx:SlV 32 es x)(h:n<0 \/4096<n \/m<0 \/n<m):
  ACallsTo TC 45 [.int .i64 m,.int .i64 n,.agg (zm o),.agg (zm nw),x] O (.int .i64 2) O:=by
 have r0:=hx.cells
 unfold cellsOf at r0
 refine ACallsTo.of_body qnok (by simp) fun hw _=> ?_
 repeat' (first|apply zs_|apply zb_|apply zc_|apply zt_ rfl|apply zf_ rfl|(apply zd_ rfl<;>intro ht<;>try omega)|((first|apply zr_|apply zk_|apply ze_|apply zq_|(apply zG<;>intro ht));all_goals try simp (disch:=first|omega|(simp only [lens];first|done|omega)) only [go_sem,r0]))
 all_goals (refine z56 hw ?_;simp)
theorem zn1(O:Store)(n:Int)(o nw:List UInt8)(x:AV)(ps:List (List UInt8))(hx:SlV 32 (z10 ps) x)(ho:o.length=32)(hn:nw.length=32)(h0:0<=n)(h1:n<=4096)(hl:ps.length<1000000):
  ACallsTo TC 45 [.int .i64 0,.int .i64 n,.agg (zm o),.agg (zm nw),x] O (.int .i64 (if ps=[]/\ o=z1b []/\ (0<n \/nw=o)then 0 else 80)) O:=by
 have r0:=hx.cells
 unfold cellsOf at r0
 have r1:=hx.len
 rw [z3b]at r1
 unfold z1k at r1
 have c1:=zn o
 have c2:=zn nw
 rw [ho]at c1
 rw [hn]at c2
 have hR:∀O,ACallsTo TC 64 [.nilsl] O (.agg (zm (z1b []))) O:=fun O=>zai O [] .nilsl (.inl ⟨rfl,rfl⟩) (fun _ h=>by simp at h) (by simp)
 have k1:=z4n ho
 have k2:=z4n hn
 have k3:=z4n (z33 (zqj))
 have e1:=z7o o (z1b [])
 have e2:=z7o nw o
 by_cases q1:ps=[]
 ·have q1':ps.length=0:=by rw [q1];rfl
  by_cases q2:o=z1b []
  ·rw [decide_eq_true q2]at e1
   by_cases q3:0<n
   ·rw [if_pos ⟨q1,q2,.inl q3⟩]
    generalize zm (z1b [])=rr at*
    generalize zm o=ro at*
    generalize zm nw=rn at*
    refine ACallsTo.of_body qnok (by simp) fun hw _=> ?_
    repeat' (first|apply zs_|apply zb_|apply zc_|apply zt_ rfl|apply zf_ rfl|(apply zd_ rfl<;>intro ht<;>try omega)|((first|apply zr_|apply zk_|apply ze_|apply zq_|(apply callW.mk_pu;(first|exact(fun _=>hR _)|exact(fun _=>z27 _ true)))|(apply callW.za;(first|exact(hR _)|exact(z27 _ true)))|(apply zG<;>intro ht));all_goals try simp (disch:=first|omega|(simp only [lens];first|done|omega)) only [go_sem,r0,r1,c1,c2,k1,k2,k3,e1,q1']))
    all_goals (refine z56 hw ?_;simp)
   ·by_cases q4:nw=o
    ·rw [decide_eq_true q4]at e2
     rw [if_pos ⟨q1,q2,.inr q4⟩]
     generalize zm (z1b [])=rr at*
     generalize zm o=ro at*
     generalize zm nw=rn at*
     refine ACallsTo.of_body qnok (by simp) fun hw _=> ?_
     repeat' (first|apply zs_|apply zb_|apply zc_|apply zt_ rfl|apply zf_ rfl|(apply zd_ rfl<;>intro ht<;>try omega)|((first|apply zr_|apply zk_|apply ze_|apply zq_|(apply callW.mk_pu;(first|exact(fun _=>hR _)|exact(fun _=>z27 _ true)))|(apply callW.za;(first|exact(hR _)|exact(z27 _ true)))|(apply zG<;>intro ht));all_goals try simp (disch:=first|omega|(simp only [lens];first|done|omega)) only [go_sem,r0,r1,c1,c2,k1,k2,k3,e1,e2,q1']))
     all_goals (refine z56 hw ?_;simp)
    ·rw [decide_eq_false q4]at e2
     rw [if_neg (fun h=>h.2.2.elim q3 q4)]
     generalize zm (z1b [])=rr at*
     generalize zm o=ro at*
     generalize zm nw=rn at*
     refine ACallsTo.of_body qnok (by simp) fun hw _=> ?_
     repeat' (first|apply zs_|apply zb_|apply zc_|apply zt_ rfl|apply zf_ rfl|(apply zd_ rfl<;>intro ht<;>try omega)|((first|apply zr_|apply zk_|apply ze_|apply zq_|(apply callW.mk_pu;(first|exact(fun _=>hR _)|exact(fun _=>z27 _ false)))|(apply callW.za;(first|exact(hR _)|exact(z27 _ false)))|(apply zG<;>intro ht));all_goals try simp (disch:=first|omega|(simp only [lens];first|done|omega)) only [go_sem,r0,r1,c1,c2,k1,k2,k3,e1,e2,q1']))
     all_goals (refine z56 hw ?_;simp)
  ·rw [decide_eq_false q2]at e1
   rw [if_neg (fun h=>q2 h.2.1)]
   generalize zm (z1b [])=rr at*
   generalize zm o=ro at*
   generalize zm nw=rn at*
   refine ACallsTo.of_body qnok (by simp) fun hw _=> ?_
   repeat' (first|apply zs_|apply zb_|apply zc_|apply zt_ rfl|apply zf_ rfl|(apply zd_ rfl<;>intro ht<;>try omega)|((first|apply zr_|apply zk_|apply ze_|apply zq_|(apply callW.mk_pu;(first|exact(fun _=>hR _)|exact(fun _=>z27 _ false)))|(apply callW.za;(first|exact(hR _)|exact(z27 _ false)))|(apply zG<;>intro ht));all_goals try simp (disch:=first|omega|(simp only [lens];first|done|omega)) only [go_sem,r0,r1,c1,c2,k1,k2,k3,e1,q1']))
   all_goals (refine z56 hw ?_;simp)
 ·have q1':¬(ps.length:Int)=0:=by intro e;exact q1 (List.eq_nil_of_length_eq_zero (by omega))
  have q1'':¬ps.length=0:=by omega
  rw [if_neg (fun h=>q1 h.1)]
  generalize zm (z1b [])=rr at*
  generalize zm o=ro at*
  generalize zm nw=rn at*
  refine ACallsTo.of_body qnok (by simp) fun hw _=> ?_
  repeat' (first|apply zs_|apply zb_|apply zc_|apply zt_ rfl|apply zf_ rfl|(apply zd_ rfl<;>intro ht<;>try omega)|((first|apply zr_|apply zk_|apply ze_|apply zq_|(apply callW.mk_pu;(first|exact(fun _=>hR _)|exact(fun _=>z27 _ false)))|(apply callW.za;(first|exact(hR _)|exact(z27 _ false)))|(apply zG<;>intro ht));all_goals try simp (disch:=first|omega|(simp only [lens];first|done|omega)) only [go_sem,r0,r1,c1,c2,q1',q1'']))
  all_goals (refine z56 hw ?_;simp)
theorem zmy(O:Store)(n:Int)(o nw:List UInt8)(x:AV)(ps:List (List UInt8))(hx:SlV 32 (z10 ps) x)(ho:o.length=32)(hn:nw.length=32)(h0:0<n)(h1:n<=4096)(hl:ps.length<1000000):
  ACallsTo TC 45 [.int .i64 n,.int .i64 n,.agg (zm o),.agg (zm nw),x] O (.int .i64 (if ps=[]/\ o=nw then 0 else 80)) O:=by
 have r0:=hx.cells
 unfold cellsOf at r0
 have r1:=hx.len
 rw [z3b]at r1
 unfold z1k at r1
 have c1:=zn o
 have c2:=zn nw
 rw [ho]at c1
 rw [hn]at c2
 have k1:=z4n ho
 have k2:=z4n hn
 have e2:=z7o o nw
 by_cases q1:ps=[]
 ·have q1':ps.length=0:=by rw [q1];rfl
  by_cases q2:o=nw
  ·rw [decide_eq_true q2]at e2
   rw [if_pos ⟨q1,q2⟩]
   generalize zm o=ro at*
   generalize zm nw=rn at*
   refine ACallsTo.of_body qnok (by simp) fun hw _=> ?_
   repeat' (first|apply zs_|apply zb_|apply zc_|apply zt_ rfl|apply zf_ rfl|(apply zd_ rfl<;>intro ht<;>try omega)|((first|apply zr_|apply zk_|apply ze_|apply zq_|(apply callW.mk_pu;(first|exact(fun _=>z27 _ true)))|(apply callW.za;(first|exact(z27 _ true)))|(apply zG<;>intro ht));all_goals try simp (disch:=first|omega|(simp only [lens];first|done|omega)) only [go_sem,r0,r1,c1,c2,k1,k2,e2,q1']))
   all_goals (refine z56 hw ?_;simp)
  ·rw [decide_eq_false q2]at e2
   rw [if_neg (fun h=>q2 h.2)]
   generalize zm o=ro at*
   generalize zm nw=rn at*
   refine ACallsTo.of_body qnok (by simp) fun hw _=> ?_
   repeat' (first|apply zs_|apply zb_|apply zc_|apply zt_ rfl|apply zf_ rfl|(apply zd_ rfl<;>intro ht<;>try omega)|((first|apply zr_|apply zk_|apply ze_|apply zq_|(apply callW.mk_pu;(first|exact(fun _=>z27 _ false)))|(apply callW.za;(first|exact(z27 _ false)))|(apply zG<;>intro ht));all_goals try simp (disch:=first|omega|(simp only [lens];first|done|omega)) only [go_sem,r0,r1,c1,c2,k1,k2,e2,q1']))
   all_goals (refine z56 hw ?_;simp)
 ·have q1':¬(ps.length:Int)=0:=by intro e;exact q1 (List.eq_nil_of_length_eq_zero (by omega))
  have q1'':¬ps.length=0:=by omega
  rw [if_neg (fun h=>q1 h.1)]
  generalize zm o=ro at*
  generalize zm nw=rn at*
  refine ACallsTo.of_body qnok (by simp) fun hw _=> ?_
  repeat' (first|apply zs_|apply zb_|apply zc_|apply zt_ rfl|apply zf_ rfl|(apply zd_ rfl<;>intro ht<;>try omega)|((first|apply zr_|apply zk_|apply ze_|apply zq_|(apply callW.mk_pu;(first|exact(fun _=>z27 _ false)))|(apply callW.za;(first|exact(z27 _ false)))|(apply zG<;>intro ht));all_goals try simp (disch:=first|omega|(simp only [lens];first|done|omega)) only [go_sem,r0,r1,c1,c2,q1',q1'']))
  all_goals (refine z56 hw ?_;simp)
end
section
theorem lp_pos{i last:Nat}(h:last ≠ 0):∃t P,lp i last=t::P:=by
 by_cases h1:i%2=1
 ·exact⟨_,_,z8n h1 h⟩
 ·by_cases h2:i=last
  ·subst h2;obtain⟨P,hP⟩:=zeg (i+1) i (Nat.lt_succ_self _) h;exact⟨_,_,hP⟩
  ·exact⟨_,_,lp_ne h1 h h2⟩
theorem zuh{t:Bool}{P:List Bool}{a b:List UInt8}:run (t::P) [] a b=none:=by cases t<;>rfl
theorem za3{h:List UInt8}(hh:h.length=32):(zm h).drop 32=[]:=by
 have:=zn h
 exact List.drop_of_length_le (by omega)
theorem za4{h:List UInt8}(hh:h.length=32):(zm h).take 32=zm h:=by
 have:=zn h
 exact List.take_of_length_le (by omega)
theorem zgh(ia ib:Nat)(O:Store)(hw:Wf O.length O)(o nw:List UInt8)(ho:o.length=32)(hn:nw.length=32)(R:Option (List UInt8 × List UInt8))(J:Env)(O':Store)(i last:Nat)(pv:AV)(ps:List (List UInt8))(a b:List UInt8)
  (hM:ChkM ia ib O O' o nw pv ps a b) (hH:H32 ps) (hi:i<4096) (hl:last<4096) (hpl:ps.length<1000000) (hR:run (lp i last) ps a b=R)
  (q7:J 7=.ptr O.length 0 0) (q8:J 8=.ptr (O.length+1) 0 0) (q9:J 9=.ptr (O.length+2) 0 0) (q11:J 11=.int .i64 i) (q12:J 12=.int .i64 last)
  (q13:J 13=.fn 98 [.ptr (O.length+2) 0 0]) (q14:J 14=.ptr (O.length+ia) 0 0) (q15:J 15=.ptr (O.length+ib) 0 0):
  zW TC 152 O.length zez (endQ O.length [.t 10] (.int .i64 (fitI R o nw)) O) J O':=by
 repeat' (first|apply zs_|apply zb_|apply zc_|apply zt_ rfl|apply zf_ rfl|(apply zd_ rfl<;>intro ht<;>try omega)|((first|apply zr_|apply zk_|apply ze_|apply zq_|(apply zG<;>intro ht));all_goals try simp (disch:=first|omega|(simp only [lens];first|done|omega)) only [go_sem]))
 refine zW.loop (fun m J O'=>∃(i last:Nat) (pv:AV) (ps:List (List UInt8)) (a b:List UInt8),m=last/\ ChkM ia ib O O' o nw pv ps a b/\ H32 ps/\ i<4096/\ last<4096/\ ps.length<1000000/\ run (lp i last) ps a b=R ∧
  J 7=.ptr O.length 0 0/\ J 8=.ptr (O.length+1) 0 0/\ J 9=.ptr (O.length+2) 0 0/\ J 11=.int .i64 i/\ J 12=.int .i64 last/\ J 13=.fn 98 [.ptr (O.length+2) 0 0]/\ J 14=.ptr (O.length+ia) 0 0/\ J 15=.ptr (O.length+ib) 0 0) last ?_ ?_
 ·exact⟨i,last,pv,ps,a,b,rfl,hM,hH,hi,hl,hpl,hR,q7,q8,q9,q11,q12,q13,q14,q15⟩
 clear hM hH hi hl hpl hR q7 q8 q9 q11 q12 q13 q14 q15 i last pv ps a b J O'
 rintro last J O' ⟨i,_,pv,ps,a,b,rfl,hM,hH,hi,hl,hpl,hR,q7,q8,q9,q11,q12,q13,q14,q15⟩
 have hlen:=hM.len
 have hab:=hM.hab
 have g0:=hM.g0
 have g1:=hM.g1
 have g2:=hM.g2
 have g3:=hM.g3
 have g4:=hM.g4
 have c0:=zn o
 have c1:=zn nw
 have ca:=zn a
 have cb:=zn b
 rw [ho]at c0
 rw [hn]at c1
 rw [hM.ha]at ca
 rw [hM.hb]at cb
 by_cases h0:last=0
 ·subst h0
  rw [zc3]at hR
  have r1:=hM.hp.len
  rw [z3b]at r1
  unfold z1k at r1
  have k0:=z4n ho
  have k1:=z4n hn
  have ka:=z4n hM.ha
  have kb:=z4n hM.hb
  have e1:=z7o a o
  have e2:=z7o b nw
  by_cases p1:ps=[]
  ·have p1':ps.length=0:=by rw [p1];rfl
   have hR':R=some (a,b):=by rw [<-hR,p1];rfl
   by_cases p2:a=o
   ·rw [decide_eq_true p2]at e1
    by_cases p3:b=nw
    ·rw [decide_eq_true p3]at e2
     have hf:fitI R o nw=0:=by rw [hR'];unfold fitI;simp only;rw [if_pos ⟨p2,p3⟩]
     rw [hf]
     repeat' (first|apply zs_|apply zb_|apply zc_|apply zt_ rfl|apply zf_ rfl|(apply zd_ rfl<;>intro ht<;>try omega)|((first|apply zr_|apply zk_|apply ze_|apply zq_|(apply callW.mk_pu;(first|exact(fun _=>z27 _ true)))|(apply callW.za;(first|exact(z27 _ true)))|(apply zG<;>intro ht));all_goals try simp (disch:=first|omega|(simp only [lens];first|done|omega)) only [go_sem,q7,q8,q9,q12,q14,q15,r1,g0,g1,g2,g3,g4,c0,c1,ca,cb,k0,k1,ka,kb,e1,e2,p1']))
     exact hM.fin hw
    ·rw [decide_eq_false p3]at e2
     have hf:fitI R o nw=80:=by rw [hR'];unfold fitI;simp only;rw [if_neg (fun h=>p3 h.2)]
     rw [hf]
     repeat' (first|apply zs_|apply zb_|apply zc_|apply zt_ rfl|apply zf_ rfl|(apply zd_ rfl<;>intro ht<;>try omega)|((first|apply zr_|apply zk_|apply ze_|apply zq_|(apply callW.mk_pu;(first|exact(fun _=>z27 _ false)))|(apply callW.za;(first|exact(z27 _ false)))|(apply zG<;>intro ht));all_goals try simp (disch:=first|omega|(simp only [lens];first|done|omega)) only [go_sem,q7,q8,q9,q12,q14,q15,r1,g0,g1,g2,g3,g4,c0,c1,ca,cb,k0,k1,ka,kb,e1,e2,p1']))
     exact hM.fin hw
   ·rw [decide_eq_false p2]at e1
    have hf:fitI R o nw=80:=by rw [hR'];unfold fitI;simp only;rw [if_neg (fun h=>p2 h.1)]
    rw [hf]
    repeat' (first|apply zs_|apply zb_|apply zc_|apply zt_ rfl|apply zf_ rfl|(apply zd_ rfl<;>intro ht<;>try omega)|((first|apply zr_|apply zk_|apply ze_|apply zq_|(apply callW.mk_pu;(first|exact(fun _=>z27 _ false)))|(apply callW.za;(first|exact(z27 _ false)))|(apply zG<;>intro ht));all_goals try simp (disch:=first|omega|(simp only [lens];first|done|omega)) only [go_sem,q7,q8,q9,q12,q14,q15,r1,g0,g1,g2,g3,g4,c0,c1,ca,cb,k0,k1,ka,kb,e1,p1']))
    exact hM.fin hw
  ·have p1':¬(ps.length:Int)=0:=by intro e;exact p1 (List.eq_nil_of_length_eq_zero (by omega))
   have p1'':¬ps.length=0:=by omega
   have hf:fitI R o nw=80:=by
    have:R=none:=by
     rw [<-hR]
     cases ps with
     |nil=>exact absurd rfl p1
     |cons _ _=>rfl
    rw [this];rfl
   rw [hf]
   repeat' (first|apply zs_|apply zb_|apply zc_|apply zt_ rfl|apply zf_ rfl|(apply zd_ rfl<;>intro ht<;>try omega)|((first|apply zr_|apply zk_|apply ze_|apply zq_|(apply callW.mk_pu;(first|exact(fun _=>z27 _ false)))|(apply callW.za;(first|exact(z27 _ false)))|(apply zG<;>intro ht));all_goals try simp (disch:=first|omega|(simp only [lens];first|done|omega)) only [go_sem,q7,q8,q9,q12,q14,q15,r1,g0,g1,g2,g3,g4,c0,c1,p1',p1'']))
   exact hM.fin hw
 ·cases ps with
  |nil=>
   have hf:fitI R o nw=80:=by
    obtain⟨t,P,e⟩:=lp_pos (i:=i) h0
    rw [e,zuh]at hR
    rw [<-hR];rfl
   rw [hf]
   have hnx:=zjv (O.length+2) O' pv hM.hp g2
   have dz:(zm z4i).drop 32=[]:=rfl
   have hl0:(0:Int)<last:=by omega
   have cz:(zm z4i).length=32:=by rw [zn];rfl
   repeat' (first|apply zs_|apply zb_|apply zc_|apply zt_ rfl|apply zf_ rfl|(apply zd_ rfl<;>intro ht<;>try omega)|((first|apply zr_|apply zk_|apply ze_|apply zq_|(apply callW.mk_pu;(first|exact(fun _=>hnx)))|(apply callW.za;(first|exact(hnx)))|(apply zG<;>intro ht));all_goals try simp (disch:=first|omega|(simp only [lens];first|done|omega)) only [go_sem,q7,q8,q9,q12,q13,q14,q15,g0,g1,g2,g3,g4,cz,dz,hl0]))
   exact(hM.app (y:=[some [zm z4i],some [zm z4i]])).fin hw
  |cons h qs=>
   have hh:h.length=32:=hH h (by simp)
   have hq:H32 qs:=fun x hx=>hH x (by simp [hx])
   obtain⟨ex,rfl⟩:=hM.hp.vsl (by rw [z3b];simp)
   simp only [List.length_cons]at hpl
   have hnx:=zjw (O.length+2) O' h qs ex hh (by omega) g2
   have ch:=zn h
   rw [hh]at ch
   have c7:=zn (z1q h a)
   have c8:=zn (z1q h b)
   have c9:=zn (z1q b h)
   rw [z41]at c7 c8 c9
   have d0:=za3 hM.ha
   have d1:=za3 hM.hb
   have d2:=za3 hh
   have t0:=za4 hM.ha
   have t1:=za4 hM.hb
   have t2:=za4 hh
   by_cases hc:i%2=1 \/i=last
   ·have hl0:(0:Int)<last:=by omega
    obtain⟨P,hP⟩:∃P,lp i last=true::P:=by
     rcases hc with hc|rfl
     ·exact⟨_,z8n hc h0⟩
     ·exact zeg (i+1) i (Nat.lt_succ_self _) h0
    rw [hP]at hR
    rcases hc with hc|rfl
    ·have hc1:(i:Int)%2=1:=by omega
     repeat' (first|apply zs_|apply zb_|apply zc_|apply zt_ rfl|apply zf_ rfl|(apply zd_ rfl<;>intro ht<;>try omega)|((first|apply zr_|apply zk_|apply ze_|apply zq_|(apply callW.mk_pu;(first|exact(fun _=>hnx)|exact(fun _=>z1x _ h a hh hM.ha)|exact(fun _=>z1x _ h b hh hM.hb)|exact(fun _=>z1x _ b h hM.hb hh)))|(apply callW.za;(first|exact(hnx)|exact(z1x _ h a hh hM.ha)|exact(z1x _ h b hh hM.hb)|exact(z1x _ b h hM.hb hh)))|(apply zG<;>intro ht));all_goals try simp (disch:=first|omega|(simp only [lens];first|done|omega)) only [go_sem,q7,q8,q9,q11,q12,q13,q14,q15,g0,g1,g2,g3,g4,ca,cb,ch,c7,c8,c9,d0,d1,d2,t0,t1,t2,hc1,hl0]))
     have hM2:=(((hM.setp (qs:=qs) (qv:=.vsl 32 (z10 qs) ex) (.inr ⟨ex,rfl⟩)).seta (z41 h a)).setb (z41 h b)).app (y:=[some [zm h],some [zm h]])
     refine zW.loop (fun m J2 O2=>∃(i2 last2:Nat),m=i2/\ ChkM ia ib O O2 o nw (.vsl 32 (z10 qs) ex) qs (z1q h a) (z1q h b)/\ lp i2 last2=true::P/\ 0<i2/\ (i2%2=1 \/i2=last2)/\ i2<4096/\ last2<=last ∧
      J2 7=.ptr O.length 0 0/\ J2 8=.ptr (O.length+1) 0 0/\ J2 9=.ptr (O.length+2) 0 0/\ J2 11=.int .i64 i2/\ J2 12=.int .i64 last2/\ J2 13=.fn 98 [.ptr (O.length+2) 0 0]/\ J2 14=.ptr (O.length+ia) 0 0/\ J2 15=.ptr (O.length+ib) 0 0) i ?_ ?_
     ·exact⟨i,last,rfl,hM2,hP,by omega,.inl hc,hi,by omega,by simp (disch:=first|omega|(simp only [lens];first|done|omega)) only [go_sem,q7],by simp (disch:=first|omega|(simp only [lens];first|done|omega)) only [go_sem,q8],by simp (disch:=first|omega|(simp only [lens];first|done|omega)) only [go_sem,q9],by simp (disch:=first|omega|(simp only [lens];first|done|omega)) only [go_sem,q11],by simp (disch:=first|omega|(simp only [lens];first|done|omega)) only [go_sem,q12],by simp (disch:=first|omega|(simp only [lens];first|done|omega)) only [go_sem,q13],by simp (disch:=first|omega|(simp only [lens];first|done|omega)) only [go_sem,q14],by simp (disch:=first|omega|(simp only [lens];first|done|omega)) only [go_sem,q15]⟩
     ·clear q7 q8 q9 q11 q12 q13 q14 q15 g0 g1 g2 g3 g4
      rintro i2 J2 O2 ⟨_,last2,rfl,hM3,hlp,hp0,hor,hb2,hl2,q7,q8,q9,q11,q12,q13,q14,q15⟩
      have hln:last2 ≠ 0:=by
       intro e;rw [e,zc3]at hlp;simp at hlp
      by_cases hodd:i2%2=1
      ·have hx1:(i2:Int)%2=1:=by omega
       rw [z8n hodd hln]at hlp
       have hP2:lp (i2/2) (last2/2)=P:=by simpa using hlp
       rw [<-hP2]at hR
       repeat' (first|apply zs_|apply zb_|apply zc_|apply zt_ rfl|apply zf_ rfl|(apply zd_ rfl<;>intro ht<;>try omega)|((first|apply zr_|apply zk_|apply ze_|apply zq_|(apply zG<;>intro ht));all_goals try simp (disch:=first|omega|(simp only [lens];first|done|omega)) only [go_sem,q7,q8,q9,q11,q12,q13,q14,q15,hx1]))
       exact⟨last2/2,by omega,i2/2,last2/2,_,qs,_,_,rfl,hM3,hq,by omega,by omega,by omega,hR,by simp,by simp⟩
      ·have hx1:(i2:Int)%2=0:=by omega
       have hx2:(0:Int)<i2:=by omega
       obtain rfl:i2=last2:=hor.resolve_left hodd
       rw [zc2 hodd]at hlp
       repeat' (first|apply zs_|apply zb_|apply zc_|apply zt_ rfl|apply zf_ rfl|(apply zd_ rfl<;>intro ht<;>try omega)|((first|apply zr_|apply zk_|apply ze_|apply zq_|(apply zG<;>intro ht));all_goals try simp (disch:=first|omega|(simp only [lens];first|done|omega)) only [go_sem,q7,q8,q9,q11,q12,q13,q14,q15,hx1,hx2]))
       exact⟨i2/2,by omega,i2/2,i2/2,rfl,hM3,hlp,by omega,.inr rfl,by omega,by omega,by simp,by simp⟩
    ·by_cases hc:i%2=1
     ·have hc1:(i:Int)%2=1:=by omega
      repeat' (first|apply zs_|apply zb_|apply zc_|apply zt_ rfl|apply zf_ rfl|(apply zd_ rfl<;>intro ht<;>try omega)|((first|apply zr_|apply zk_|apply ze_|apply zq_|(apply callW.mk_pu;(first|exact(fun _=>hnx)|exact(fun _=>z1x _ h a hh hM.ha)|exact(fun _=>z1x _ h b hh hM.hb)|exact(fun _=>z1x _ b h hM.hb hh)))|(apply callW.za;(first|exact(hnx)|exact(z1x _ h a hh hM.ha)|exact(z1x _ h b hh hM.hb)|exact(z1x _ b h hM.hb hh)))|(apply zG<;>intro ht));all_goals try simp (disch:=first|omega|(simp only [lens];first|done|omega)) only [go_sem,q7,q8,q9,q11,q12,q13,q14,q15,g0,g1,g2,g3,g4,ca,cb,ch,c7,c8,c9,d0,d1,d2,t0,t1,t2,hc1,hl0]))
      have hM2:=(((hM.setp (qs:=qs) (qv:=.vsl 32 (z10 qs) ex) (.inr ⟨ex,rfl⟩)).seta (z41 h a)).setb (z41 h b)).app (y:=[some [zm h],some [zm h]])
      refine zW.loop (fun m J2 O2=>∃(i2 last2:Nat),m=i2/\ ChkM ia ib O O2 o nw (.vsl 32 (z10 qs) ex) qs (z1q h a) (z1q h b)/\ lp i2 last2=true::P/\ 0<i2/\ (i2%2=1 \/i2=last2)/\ i2<4096/\ last2<=i ∧
       J2 7=.ptr O.length 0 0/\ J2 8=.ptr (O.length+1) 0 0/\ J2 9=.ptr (O.length+2) 0 0/\ J2 11=.int .i64 i2/\ J2 12=.int .i64 last2/\ J2 13=.fn 98 [.ptr (O.length+2) 0 0]/\ J2 14=.ptr (O.length+ia) 0 0/\ J2 15=.ptr (O.length+ib) 0 0) i ?_ ?_
      ·exact⟨i,i,rfl,hM2,hP,by omega,.inr rfl,hi,by omega,by simp (disch:=first|omega|(simp only [lens];first|done|omega)) only [go_sem,q7],by simp (disch:=first|omega|(simp only [lens];first|done|omega)) only [go_sem,q8],by simp (disch:=first|omega|(simp only [lens];first|done|omega)) only [go_sem,q9],by simp (disch:=first|omega|(simp only [lens];first|done|omega)) only [go_sem,q11],by simp (disch:=first|omega|(simp only [lens];first|done|omega)) only [go_sem,q12],by simp (disch:=first|omega|(simp only [lens];first|done|omega)) only [go_sem,q13],by simp (disch:=first|omega|(simp only [lens];first|done|omega)) only [go_sem,q14],by simp (disch:=first|omega|(simp only [lens];first|done|omega)) only [go_sem,q15]⟩
      ·clear q7 q8 q9 q11 q12 q13 q14 q15 g0 g1 g2 g3 g4
       rintro i2 J2 O2 ⟨_,last2,rfl,hM3,hlp,hp0,hor,hb2,hl2,q7,q8,q9,q11,q12,q13,q14,q15⟩
       have hln:last2 ≠ 0:=by
        intro e;rw [e,zc3]at hlp;simp at hlp
       by_cases hodd:i2%2=1
       ·have hx1:(i2:Int)%2=1:=by omega
        rw [z8n hodd hln]at hlp
        have hP2:lp (i2/2) (last2/2)=P:=by simpa using hlp
        rw [<-hP2]at hR
        repeat' (first|apply zs_|apply zb_|apply zc_|apply zt_ rfl|apply zf_ rfl|(apply zd_ rfl<;>intro ht<;>try omega)|((first|apply zr_|apply zk_|apply ze_|apply zq_|(apply zG<;>intro ht));all_goals try simp (disch:=first|omega|(simp only [lens];first|done|omega)) only [go_sem,q7,q8,q9,q11,q12,q13,q14,q15,hx1]))
        exact⟨last2/2,by omega,i2/2,last2/2,_,qs,_,_,rfl,hM3,hq,by omega,by omega,by omega,hR,by simp,by simp⟩
       ·have hx1:(i2:Int)%2=0:=by omega
        have hx2:(0:Int)<i2:=by omega
        obtain rfl:i2=last2:=hor.resolve_left hodd
        rw [zc2 hodd]at hlp
        repeat' (first|apply zs_|apply zb_|apply zc_|apply zt_ rfl|apply zf_ rfl|(apply zd_ rfl<;>intro ht<;>try omega)|((first|apply zr_|apply zk_|apply ze_|apply zq_|(apply zG<;>intro ht));all_goals try simp (disch:=first|omega|(simp only [lens];first|done|omega)) only [go_sem,q7,q8,q9,q11,q12,q13,q14,q15,hx1,hx2]))
        exact⟨i2/2,by omega,i2/2,i2/2,rfl,hM3,hlp,by omega,.inr rfl,by omega,by omega,by simp,by simp⟩
     ·have hc1:(i:Int)%2=0:=by omega
      repeat' (first|apply zs_|apply zb_|apply zc_|apply zt_ rfl|apply zf_ rfl|(apply zd_ rfl<;>intro ht<;>try omega)|((first|apply zr_|apply zk_|apply ze_|apply zq_|(apply callW.mk_pu;(first|exact(fun _=>hnx)|exact(fun _=>z1x _ h a hh hM.ha)|exact(fun _=>z1x _ h b hh hM.hb)|exact(fun _=>z1x _ b h hM.hb hh)))|(apply callW.za;(first|exact(hnx)|exact(z1x _ h a hh hM.ha)|exact(z1x _ h b hh hM.hb)|exact(z1x _ b h hM.hb hh)))|(apply zG<;>intro ht));all_goals try simp (disch:=first|omega|(simp only [lens];first|done|omega)) only [go_sem,q7,q8,q9,q11,q12,q13,q14,q15,g0,g1,g2,g3,g4,ca,cb,ch,c7,c8,c9,d0,d1,d2,t0,t1,t2,hc1,hl0]))
      have hM2:=(((hM.setp (qs:=qs) (qv:=.vsl 32 (z10 qs) ex) (.inr ⟨ex,rfl⟩)).seta (z41 h a)).setb (z41 h b)).app (y:=[some [zm h],some [zm h]])
      refine zW.loop (fun m J2 O2=>∃(i2 last2:Nat),m=i2/\ ChkM ia ib O O2 o nw (.vsl 32 (z10 qs) ex) qs (z1q h a) (z1q h b)/\ lp i2 last2=true::P/\ 0<i2/\ (i2%2=1 \/i2=last2)/\ i2<4096/\ last2<=i ∧
       J2 7=.ptr O.length 0 0/\ J2 8=.ptr (O.length+1) 0 0/\ J2 9=.ptr (O.length+2) 0 0/\ J2 11=.int .i64 i2/\ J2 12=.int .i64 last2/\ J2 13=.fn 98 [.ptr (O.length+2) 0 0]/\ J2 14=.ptr (O.length+ia) 0 0/\ J2 15=.ptr (O.length+ib) 0 0) i ?_ ?_
      ·exact⟨i,i,rfl,hM2,hP,by omega,.inr rfl,hi,by omega,by simp (disch:=first|omega|(simp only [lens];first|done|omega)) only [go_sem,q7],by simp (disch:=first|omega|(simp only [lens];first|done|omega)) only [go_sem,q8],by simp (disch:=first|omega|(simp only [lens];first|done|omega)) only [go_sem,q9],by simp (disch:=first|omega|(simp only [lens];first|done|omega)) only [go_sem,q11],by simp (disch:=first|omega|(simp only [lens];first|done|omega)) only [go_sem,q12],by simp (disch:=first|omega|(simp only [lens];first|done|omega)) only [go_sem,q13],by simp (disch:=first|omega|(simp only [lens];first|done|omega)) only [go_sem,q14],by simp (disch:=first|omega|(simp only [lens];first|done|omega)) only [go_sem,q15]⟩
      ·clear q7 q8 q9 q11 q12 q13 q14 q15 g0 g1 g2 g3 g4
       rintro i2 J2 O2 ⟨_,last2,rfl,hM3,hlp,hp0,hor,hb2,hl2,q7,q8,q9,q11,q12,q13,q14,q15⟩
       have hln:last2 ≠ 0:=by
        intro e;rw [e,zc3]at hlp;simp at hlp
       by_cases hodd:i2%2=1
       ·have hx1:(i2:Int)%2=1:=by omega
        rw [z8n hodd hln]at hlp
        have hP2:lp (i2/2) (last2/2)=P:=by simpa using hlp
        rw [<-hP2]at hR
        repeat' (first|apply zs_|apply zb_|apply zc_|apply zt_ rfl|apply zf_ rfl|(apply zd_ rfl<;>intro ht<;>try omega)|((first|apply zr_|apply zk_|apply ze_|apply zq_|(apply zG<;>intro ht));all_goals try simp (disch:=first|omega|(simp only [lens];first|done|omega)) only [go_sem,q7,q8,q9,q11,q12,q13,q14,q15,hx1]))
        exact⟨last2/2,by omega,i2/2,last2/2,_,qs,_,_,rfl,hM3,hq,by omega,by omega,by omega,hR,by simp,by simp⟩
       ·have hx1:(i2:Int)%2=0:=by omega
        have hx2:(0:Int)<i2:=by omega
        obtain rfl:i2=last2:=hor.resolve_left hodd
        rw [zc2 hodd]at hlp
        repeat' (first|apply zs_|apply zb_|apply zc_|apply zt_ rfl|apply zf_ rfl|(apply zd_ rfl<;>intro ht<;>try omega)|((first|apply zr_|apply zk_|apply ze_|apply zq_|(apply zG<;>intro ht));all_goals try simp (disch:=first|omega|(simp only [lens];first|done|omega)) only [go_sem,q7,q8,q9,q11,q12,q13,q14,q15,hx1,hx2]))
        exact⟨i2/2,by omega,i2/2,i2/2,rfl,hM3,hlp,by omega,.inr rfl,by omega,by omega,by simp,by simp⟩
   ·have hc1:(i:Int)%2=0:=by omega
    have hc2:¬(i:Int)=last:=by omega
    have hl0:(0:Int)<last:=by omega
    rw [lp_ne (by omega) h0 (by omega)]at hR
    repeat' (first|apply zs_|apply zb_|apply zc_|apply zt_ rfl|apply zf_ rfl|(apply zd_ rfl<;>intro ht<;>try omega)|((first|apply zr_|apply zk_|apply ze_|apply zq_|(apply callW.mk_pu;(first|exact(fun _=>hnx)|exact(fun _=>z1x _ h a hh hM.ha)|exact(fun _=>z1x _ h b hh hM.hb)|exact(fun _=>z1x _ b h hM.hb hh)))|(apply callW.za;(first|exact(hnx)|exact(z1x _ h a hh hM.ha)|exact(z1x _ h b hh hM.hb)|exact(z1x _ b h hM.hb hh)))|(apply zG<;>intro ht));all_goals try simp (disch:=first|omega|(simp only [lens];first|done|omega)) only [go_sem,q7,q8,q9,q11,q12,q13,q14,q15,g0,g1,g2,g3,g4,ca,cb,ch,c7,c8,c9,d0,d1,d2,t0,t1,t2,hc1,hc2,hl0]))
    exact⟨last/2,by omega,i/2,last/2,_,qs,a,z1q b h,rfl,((hM.setp (qs:=qs) (qv:=.vsl 32 (z10 qs) ex) (.inr ⟨ex,rfl⟩)).setb (z41 b h)).app,hq,by omega,by omega,by omega,hR,by simp,by simp⟩
end
section
attribute [local irreducible] zez
theorem zmw(O:Store)(m n:Nat)(o nw:List UInt8)(x:AV)(ps:List (List UInt8))(hx:SlV 32 (z10 ps) x)(hH:H32 ps)(ho:o.length=32)(hn:nw.length=32)(h0:0<m)(h1:m<n)(h2:n<=4096)(hl:ps.length<1000000):
  ACallsTo TC 45 [.int .i64 m,.int .i64 n,.agg (zm o),.agg (zm nw),x] O (.int .i64 (fitI (chkS (m-1) (n-1) o ps) o nw)) O:=by
 have r0:=hx.cells
 unfold cellsOf at r0
 have c1:=zn o
 have c2:=zn nw
 rw [ho]at c1
 rw [hn]at c2
 have d1:=za3 ho
 have t1:=za4 ho
 obtain⟨R,hR⟩:∃R,R=chkS (m-1) (n-1) o ps:=⟨_,rfl⟩
 rw [<-hR]
 refine ACallsTo.of_body qnok (by simp) fun hw _=> ?_
 have hm1:(m:Int)-1=((m-1:Nat):Int):=by omega
 have hn1:(n:Int)-1=((n-1:Nat):Int):=by omega
 repeat' (first|apply zs_|apply zb_|apply zc_|apply zt_ rfl|apply zf_ rfl|(apply zd_ rfl<;>intro ht<;>try omega)|((first|apply zr_|apply zk_|apply ze_|apply zq_|(apply zG<;>intro ht));all_goals try simp (disch:=first|omega|(simp only [lens];first|done|omega)) only [go_sem,r0,hm1,hn1]))
 refine zW.loop (fun k J O'=>∃(i last:Nat),k=i/\ O'=O++ [some [zm o],some [zm nw],some [[x]]]/\ R=chkG (st i last).1 (st i last).2 o ps/\ i<4096/\ last<4096 ∧
  J 7=.ptr O.length 0 0/\ J 8=.ptr (O.length+1) 0 0/\ J 9=.ptr (O.length+2) 0 0/\ J 11=.int .i64 i/\ J 12=.int .i64 last) (m-1) ?_ ?_
 ·exact⟨m-1,n-1,rfl,by simp,hR,by omega,by omega,by simp (disch:=first|omega|(simp only [lens];first|done|omega)) only [go_sem],by simp (disch:=first|omega|(simp only [lens];first|done|omega)) only [go_sem],by simp (disch:=first|omega|(simp only [lens];first|done|omega)) only [go_sem],by simp (disch:=first|omega|(simp only [lens];first|done|omega)) only [go_sem],by simp (disch:=first|omega|(simp only [lens];first|done|omega)) only [go_sem]⟩
 ·clear hm1 hn1 hR h0 h1 h2
  rintro i J O' ⟨_,last,rfl,rfl,hR,hi,hla,q7,q8,q9,q11,q12⟩
  by_cases ho1:i%2=1
  ·have hx1:(i:Int)%2=1:=by omega
   rw [st_odd ho1]at hR
   repeat' (first|apply zs_|apply zb_|apply zc_|apply zt_ rfl|apply zf_ rfl|(apply zd_ rfl<;>intro ht<;>try omega)|((first|apply zr_|apply zk_|apply ze_|apply zq_|(apply zG<;>intro ht));all_goals try simp (disch:=first|omega|(simp only [lens];first|done|omega)) only [go_sem,q7,q8,q9,q11,q12,hx1]))
   exact⟨i/2,by omega,i/2,last/2,rfl,hR,by omega,by omega,by simp,by simp⟩
  ·have hx1:(i:Int)%2=0:=by omega
   rw [zvf ho1]at hR
   simp only [chkG]at hR
   have hM:∀ia ib:Nat,((ia=3/\ ib=4) \/(ia=4/\ ib=3))->ChkM ia ib O (O++ [some [zm o],some [zm nw],some [[x]],some [zm o],some [zm o]]) o nw x ps o o:=fun ia ib hab=>
    ⟨hab,by simp,fun q hq=>gapp hq,by simp,by simp,by simp,by rcases hab with⟨rfl,rfl⟩| ⟨rfl,rfl⟩<;>simp,by rcases hab with⟨rfl,rfl⟩| ⟨rfl,rfl⟩<;>simp,hx,ho,ho⟩
   have key:∀(ia ib:Nat),((ia=3/\ ib=4) \/(ia=4/\ ib=3))->∀J1:Env,J1 7=.ptr O.length 0 0->J1 8=.ptr (O.length+1) 0 0->J1 9=.ptr (O.length+2) 0 0->J1 11=.int .i64 i->J1 12=.int .i64 last->
     J1 13=.fn 98 [.ptr (O.length+2) 0 0]->J1 14=.ptr (O.length+ia) 0 0->J1 15=.ptr (O.length+ib) 0 0->
     zW TC 152 O.length qnc72 (endQ O.length [.t 10] (.int .i64 (fitI R o nw)) O) J1 (O++ [some [zm o],some [zm nw],some [[x]],some [zm o],some [zm o]]):=by
    clear q7 q8 q9 q11 q12
    intro ia ib hab J1 q7 q8 q9 q11 q12 q13 q14 q15
    have hM1:=hM ia ib hab
    by_cases hi0:i=0
    ·subst hi0
     rw [if_neg (by omega)]at hR
     repeat' (first|apply zs_|apply zb_|apply zc_|apply zt_ rfl|apply zf_ rfl|(apply zd_ rfl<;>intro ht<;>try omega)|((first|apply zr_|apply zk_|apply ze_|apply zq_|(apply zG<;>intro ht));all_goals try simp (disch:=first|omega|(simp only [lens];first|done|omega)) only [go_sem,q7,q8,q9,q11,q12,c1,c2,d1,t1]))
     refine zgh ia ib O hw o nw ho hn R _ _ 0 last x ps o o hM1 hH (by omega) hla hl hR.symm ?_ ?_ ?_ ?_ ?_ ?_ ?_ ?_<;>simp (disch:=first|omega|(simp only [lens];first|done|omega)) only [go_sem,q7,q8,q9,q11,q12,q13,q14,q15]
    ·have hi1:(0:Int)<i:=by omega
     rw [if_pos (by omega)]at hR
     have g2:=hM1.g2
     have g3:=hM1.g3
     have g4:=hM1.g4
     have hlen:=hM1.len
     cases ps with
     |nil=>
      have hnx:=zjv (O.length+2) _ x hx g2
      have cz:(zm z4i).length=32:=by rw [zn];rfl
      have dz:(zm z4i).drop 32=[]:=rfl
      have hf:fitI R o nw=80:=by rw [hR];rfl
      rw [hf]
      have hM2:=hM1.app (y:=[some [zm z4i],some [zm z4i]])
      generalize (O++ [some [zm o],some [zm nw],some [[x]],some [zm o],some [zm o]])=O1 at*
      repeat' (first|apply zs_|apply zb_|apply zc_|apply zt_ rfl|apply zf_ rfl|(apply zd_ rfl<;>intro ht<;>try omega)|((first|apply zr_|apply zk_|apply ze_|apply zq_|(apply callW.mk_pu;(first|exact(fun _=>hnx)))|(apply callW.za;(first|exact(hnx)))|(apply zG<;>intro ht));all_goals try simp (disch:=first|omega|(simp only [lens];first|done|omega)) only [go_sem,q7,q8,q9,q11,q12,q13,q14,q15,c1,c2,d1,t1,hi1,cz,dz]))
      exact hM2.fin hw
     |cons h qs=>
      have hh:h.length=32:=hH h (by simp)
      have hq:H32 qs:=fun x hx=>hH x (by simp [hx])
      obtain⟨ex,rfl⟩:=hx.vsl (by rw [z3b];simp)
      simp only [List.length_cons]at hl
      have hnx:=zjw (O.length+2) _ h qs ex hh (by omega) g2
      have ch:=zn h
      rw [hh]at ch
      have d2:=za3 hh
      have t2:=za4 hh
      have hM2:=((((hM1.setp (qs:=qs) (qv:=.vsl 32 (z10 qs) ex) (.inr ⟨ex,rfl⟩)).seta hh).setb hh).app (y:=[some [zm h],some [zm h]]))
      generalize (O++ [some [zm o],some [zm nw],some [[AV.vsl 32 (z10 (h::qs)) ex]],some [zm o],some [zm o]])=O1 at*
      repeat' (first|apply zs_|apply zb_|apply zc_|apply zt_ rfl|apply zf_ rfl|(apply zd_ rfl<;>intro ht<;>try omega)|((first|apply zr_|apply zk_|apply ze_|apply zq_|(apply callW.mk_pu;(first|exact(fun _=>hnx)))|(apply callW.za;(first|exact(hnx)))|(apply zG<;>intro ht));all_goals try simp (disch:=first|omega|(simp only [lens];first|done|omega)) only [go_sem,q7,q8,q9,q11,q12,q13,q14,q15,g2,g3,g4,c1,c2,ch,d1,d2,t1,t2,hi1]))
      refine zgh ia ib O hw o nw ho hn R _ _ i last (.vsl 32 (z10 qs) ex) qs h h hM2 hq hi hla (by omega) hR.symm ?_ ?_ ?_ ?_ ?_ ?_ ?_ ?_<;>simp (disch:=first|omega|(simp only [lens];first|done|omega)) only [go_sem,q7,q8,q9,q11,q12,q13,q14,q15]
   clear hM
   repeat' (first|apply zs_|apply zb_|apply zc_|apply zt_ rfl|apply zf_ rfl|(apply zd_ rfl<;>intro ht<;>try omega)|((first|apply zr_|apply zk_|apply ze_|apply zq_|(apply zG<;>intro ht));all_goals try simp (disch:=first|omega|(simp only [lens];first|done|omega)) only [go_sem,q7,q8,q9,q11,q12,hx1]))
   refine zW.reg2 ?_ ?_
   ·simp (disch:=first|omega|(simp only [lens];first|done|omega)) only [go_sem,q7,q8,q9,q11,q12,c1,c2,d1,t1]
    refine key 3 4 (.inl ⟨rfl,rfl⟩) _ ?_ ?_ ?_ ?_ ?_ ?_ ?_ ?_<;>simp (disch:=first|omega|(simp only [lens];first|done|omega)) only [go_sem,q7,q8,q9,q11,q12]
   ·simp (disch:=first|omega|(simp only [lens];first|done|omega)) only [go_sem,q7,q8,q9,q11,q12,c1,c2,d1,t1]
    refine key 4 3 (.inr ⟨rfl,rfl⟩) _ ?_ ?_ ?_ ?_ ?_ ?_ ?_ ?_<;>simp (disch:=first|omega|(simp only [lens];first|done|omega)) only [go_sem,q7,q8,q9,q11,q12]
theorem zmz(O:Store)(m n:Int)(o nw:List UInt8)(x:AV)(ps:List (List UInt8))(hx:SlV 32 (z10 ps) x)(hH:H32 ps)(ho:o.length=32)(hn:nw.length=32)(hl:ps.length<1000000):
  ACallsTo TC 45 [.int .i64 m,.int .i64 n,.agg (zm o),.agg (zm nw),x] O (.int .i64 (chkI m n o nw ps)) O:=by
 unfold chkI
 by_cases h1:n<0 \/4096<n \/m<0 \/n<m
 ·rw [if_pos h1];exact zmu O m n o nw x _ hx h1
 ·rw [if_neg h1]
  by_cases h2:m=0
  ·subst h2;rw [if_pos rfl];exact zn1 O n o nw x ps hx ho hn (by omega) (by omega) hl
  ·rw [if_neg h2]
   by_cases h3:m=n
   ·subst h3;rw [if_pos rfl];exact zmy O m o nw x ps hx ho hn (by omega) (by omega) hl
   ·rw [if_neg h3]
    obtain⟨m,rfl⟩:∃k:Nat,m=k:=⟨m.toNat,by omega⟩
    obtain⟨n,rfl⟩:∃k:Nat,n=k:=⟨n.toNat,by omega⟩
    exact zmw O m n o nw x ps hx hH ho hn (by omega) (by omega) (by omega) hl
theorem zmx(O:Store)(m n:Int)(o nw:List UInt8)(x:AV)(ps:List (List UInt8))(hx:RdSl O 32 (z10 ps) x)(hH:H32 ps)(ho:o.length=32)(hn:nw.length=32)(hl:ps.length<1000000):
  ACallsTo TC 45 [.int .i64 m,.int .i64 n,.agg (zm o),.agg (zm nw),x] O (.int .i64 (chkI m n o nw ps)) O:=by
 obtain⟨x0,h0,hd⟩:=hx.lend (z91 ps)
 have hi:∀i:Int,RL 0 (.int .i64 i):=fun i=>by simp [RL]
 have:=ACallsTo.lend glok (zmz [] m n o nw x0 ps h0 hH ho hn hl) (drsc (rl0 (hi m) O) (drsc (rl0 (hi n) O) (drsc (rl0 (z2s (z2c _)) O) (drsc (rl0 (z2s (z2c _)) O) (drs1 hd)))))
 rwa [show sh O.length (.int .i64 (chkI m n o nw ps))=.int .i64 (chkI m n o nw ps)from rfl,z80,List.append_nil]at this
end
section
theorem split2:z12 2=1:=by decide
theorem split4:z12 4=2:=by decide
theorem ProofP.is{O O':Store}{hs:List (List UInt8)}{m:Int}{v:AV}(h:ProofP O hs m v O'):∃v2,v=.tup [v2,.int .i64 (z69 hs m)]/\ OwnN 32 O O' v2 (z10 (z3d hs m)):=h
end
section
def z59:Ty:=.row (List.replicate 32 (.int .u8))
theorem zhh:∀(n:Nat) (cs:List AV),z3p (List.replicate n (.int .u8)) cs->∃h:List UInt8,cs=zm h/\ h.length=n
 | 0,cs,h=>⟨[],by simpa only [List.replicate_zero,z3p,zm,List.map_nil]using h,rfl⟩
 |n+1,cs,h=>by
  simp only [List.replicate_succ,z3p,ShC]at h
  obtain⟨_,b,rfl,⟨x,rfl,h1,h2⟩,h3⟩:=h
  obtain⟨l,rfl,hl⟩:=zhh n b h3
  simp only [IntKind.min,IntKind.max,IntKind.signed,IntKind.bits]at h1 h2
  simp at h1 h2
  refine⟨UInt8.ofNat x.toNat::l,?_,by simp [hl]⟩
  have:((UInt8.ofNat x.toNat).toNat:Int)=x:=by rw [UInt8.toNat_ofNat'];omega
  simp only [zm,List.map_cons,List.singleton_append,this]
theorem ziy{cs:List AV}(h:ShC z59 cs):∃l:List UInt8,cs=zm l/\ l.length=32:=zhh 32 cs (by simpa only [z59,ShC]using h)
theorem ziz:∀(es:List (List AV)),(∀x ∈ es,ShC z59 x)->∃hs,es=z10 hs/\ H32 hs
 | [],_=>⟨[],rfl,fun _ h=>by simp at h⟩
 |e::es,h=>by
  obtain⟨l,rfl,hl⟩:=ziy (h e (by simp))
  obtain⟨hs,rfl,hH⟩:=ziz es (fun x hx=>h x (by simp [hx]))
  refine⟨l::hs,rfl,fun x hx=> ?_⟩
  rcases List.mem_cons.1 hx with rfl|hx
  ·exact hl
  ·exact hH x hx
theorem RefP.ex(O:Store)(hs:List (List UInt8))(m:Int):∃v O',RefP O hs m v O':=⟨_,_,_,rfl,.inl (z8r O 32 _)⟩
end
section
abbrev Hash:={l:List UInt8//l.length=32}
def hc(h:Hash):List AV:=zm h.1
def hr(l:List Hash):List (List AV):=l.map hc
def hb(l:List Hash):List (List UInt8):=l.map (·.1)
theorem hb_H(l:List Hash):H32 (hb l):=fun x hx=>by
 simp only [hb,List.mem_map]at hx
 obtain⟨h,_,rfl⟩:=hx
 exact h.2
theorem z8j(l:List Hash):(hb l).length=l.length:=by simp [hb]
theorem zql(l:List Hash)(n:Nat):(hb l).take n=hb (l.take n):=by simp [hb,List.map_take]
theorem zqk(l:List Hash)(n:Nat):(hb l).drop n=hb (l.drop n):=by simp [hb,List.map_drop]
theorem z7s(l:List Hash):z10 (hb l)=hr l:=by simp [z10,hb,hr,hc]
theorem hb_of:∀{l:List (List UInt8)},H32 l->∃m:List Hash,l=hb m
 | [],_=>⟨[],rfl⟩
 |x::l,h=>by
  obtain⟨m,hm⟩:=hb_of (l:=l) fun y hy=>h y (by simp [hy])
  exact⟨⟨x,h x (by simp)⟩::m,by simp [hb,hm]⟩
@[go_sem] theorem z8 (h:Hash):(hc h).length=32:=by rw [hc,zn,h.2]
@[go_sem] theorem zqm (h:Hash):(hc h).drop 32=[]:=List.drop_of_length_le (by rw [z8];decide)
@[go_sem] theorem zqo (h:Hash):(hc h).take 32=hc h:=List.take_of_length_le (by rw [z8];decide)
@[go_sem] theorem z7r (h:Hash) (l:List AV):(hc h++l).take 32=hc h:=by
 have:=z8 h
 rw [List.take_append_of_le_length (by omega),zqo]
@[go_sem] theorem z7q (h:Hash) (l:List AV):(hc h++l).drop 32=l:=by
 have:=z8 h
 rw [List.drop_append_of_le_length (by omega),zqm,List.nil_append]
@[go_sem] theorem hc_eq (a b:Hash):z1z (hc a) (hc b)=decide (a=b):=by
 rw [hc,hc,z7o,Bool.eq_iff_iff]
 simp [Subtype.ext_iff]
@[go_sem] theorem hc_kinds (h:Hash):(hc h).map z1l=(List.replicate 32 (LK.i .u8)).map some:=z4n h.2
@[go_sem] theorem zg (l:List Hash):(hr l).length=l.length:=by simp [hr]
@[go_sem] theorem hr_take (l:List Hash) (n:Nat):(hr l).take n=hr (l.take n):=by simp [hr,List.map_take]
@[go_sem] theorem hr_drop (l:List Hash) (n:Nat):(hr l).drop n=hr (l.drop n):=by simp [hr,List.map_drop]
@[go_sem] theorem hr_set (l:List Hash) (i:Nat) (h:Hash):(hr l).set i (hc h)=hr (l.set i h):=by simp [hr,List.map_set]
theorem zj2(a b:List Hash):hr (a++b)=hr a++hr b:=by simp [hr]
theorem zj3:hr []=[]:=rfl
theorem za7(h:Hash)(l:List Hash):hr (h::l)=hc h::hr l:=rfl
theorem hr_nil_iff{l:List Hash}:hr l=[] ↔ l=[]:=by simp [hr]
def zeroH:Hash:=⟨List.replicate 32 0,by simp⟩
def hd(l:List Hash)(i:Nat):Hash:=l.getD i zeroH
@[go_sem] theorem zbt {l:List Hash} {i:Nat} (h:i<l.length):(hr l)[i]? =some (hc (hd l i)):=by
 simp [hr,hd,List.getElem?_map,List.getElem?_eq_getElem h]
theorem za6{l:List Hash}{i:Nat}(h:i<l.length):hd l i=l[i]:=by simp [hd,h]
theorem zcf{k:Nat}(h:Hash):RLs k (hc h):=z2c _
theorem z25{k:Nat}(l:List Hash):RLss k (hr l):=by rw [<-z7s];exact z91 _
theorem zfo(k:Nat)(h:Hash):shs k (hc h)=hc h:=zfn k _
def z1a(a b:Hash):Hash:=⟨z1q a.1 b.1,z41 _ _⟩
def z1e(l:List Hash):Hash:=⟨z1b (hb l),z33 (hb_H l)⟩
def shaH(s:List UInt8):Hash:=⟨shaS s,zfl s⟩
theorem zl3(h:Hash):z1e [h]=h:=rfl
theorem zfa{l:List Hash}(h:2<=l.length):z1e l=z1a (z1e (l.take (z12 l.length))) (z1e (l.drop (z12 l.length))):=by
 apply Subtype.ext
 show z1b (hb l)=z1q (z1b (hb _)) (z1b (hb _))
 rw [<-zql,<-zqk]
 have:=zcl (l:=hb l) (by rw [z8j];exact h)
 rwa [z8j]at this
theorem zmd(O:Store)(a b:Hash):ACallsTo TC 99 [.agg (hc a),.agg (hc b)] O (.agg (hc (z1a a b))) O:=z1x O a.1 b.1 a.2 b.2
theorem zah(O:Store)(l:List Hash)(x:AV)(hx:RdSl O 32 (hr l) x)(hl:l.length<1000000000):ACallsTo TC 64 [x] O (.agg (hc (z1e l))) O:=
 zw9 O (hb l) x (by rw [z7s];exact hx) (hb_H l) (by rw [z8j];exact hl)
theorem zu4(O:Store)(l:List Hash)(x:AV)(hx:RdSl O 32 (hr l) x)(hl:l.length<1000000000):ACallsTo TC 88 [x] O (.agg (hc (z1e l))) O:=
 zu5 O (hb l) x (by rw [z7s];exact hx) (hb_H l) (by rw [z8j];exact hl)
def unb(l:List (List UInt8)):List Hash:=l.filterMap fun x=>if h:x.length=32 then some ⟨x,h⟩else none
theorem zmk:∀{l:List (List UInt8)},H32 l->hb (unb l)=l
 | [],_=>rfl
 |x::l,h=>by
  have h1:x.length=32:=h x (by simp)
  have ih:=zmk (l:=l) fun y hy=>h y (by simp [hy])
  simp only [unb,List.filterMap_cons,dif_pos h1]
  show x::hb (unb l)=_
  rw [ih]
theorem zix{cs:List AV}(h:ShC z59 cs):∃l:Hash,cs=hc l:=by
 obtain⟨l,rfl,hl⟩:=ziy h
 exact⟨⟨l,hl⟩,rfl⟩
end
section
def pushR:Nat->List Hash->Hash->List Hash
 | _,[],h=>[h]
 |m,x::rs,h=>if m%2=1 then pushR (m/2) rs (z1a x h)else h::x::rs
def extR:Nat->List Hash->List Hash->List Hash
 | _,rs,[]=>rs
 |n,rs,x::l=>extR (n+1) (pushR n rs x) l
def ofR(l:List Hash):List Hash:=extR 0 [] l
theorem zcu(j:Nat):z12 (2^(j+1))=2^j:=by
 have:0<2^j:=Nat.pow_pos (by decide)
 exact zft (by rw [Nat.pow_succ];omega) (Nat.le_refl _)
def rootR:List Hash->Hash
 | []=>shaH []
 |x::rs=>rs.foldl (fun o h=>z1a h o) x
end
section

end
section
set_option maxRecDepth 10000
def qrr0:yW:=[
 yI 2 (.mv (.v .nilsl))]
def qrr1:yW:=[
 yM 3 0,
 yI 4 (.bin .eql .slc (.t 3) (.v .nilsl))]
def qrr2:yW:=[
 yI 2 (.mv (.v .nilsl))]
def qrc3:yX:=yq qrr2 .ret
def qrc4:yX:=.cond (.t 4) qrc3 .skip
def qrc5:yX:=yq qrr1 qrc4
def qrr6:yW:=[
 yI 5 (.lit 32 []),
 yM 6 0,
 yI 7 (.app 32 (.t 5) (.t 6)),
 yM 2 7]
def qrc7:yX:=yq qrr6 .ret
def qrc8:yX:=.seq qrc5 qrc7
def qrc9:yX:=yq qrr0 qrc8
attribute [go_sem] qrr0 qrr1 qrr2 qrr6
theorem qrok:cFn TC 120=some (8,[.t 2],qrc9):=by kernel_rfl
end
section
theorem ACallsP.toDown{C:Ctx}{f:FuncId}{args:List AV}{O O2:Store}{v2:AV}{P:AV->Store->Prop}(h:ACallsP C f args O P)
  (hd:Wf O.length O->∀v O',P v O'->DownV O.length v O' v2 O2):ACallsTo C f args O v2 O2:=by
 intro γ w cargs hR ha
 rcases h γ w cargs hR ha with⟨h1,h2⟩| ⟨cv,v,γ',O',w',h1,hp,h2,h3,h4⟩
 ·refine .inl ⟨h1,h2.mono ?_⟩
  rintro e w' ⟨cv,v,γ',O',rfl,hp,k1,k2,k3⟩
  obtain⟨γ2,q1,q2,q3⟩:=(hd hR.wf v O' hp).sound k2 k3 k1 hR.gl (by rw [hR.len];exact Nat.le_refl _)
  exact⟨cv,γ2,rfl,q1,q2,q3⟩
 ·obtain⟨γ2,q1,q2,q3⟩:=(hd hR.wf v O' hp).sound h3 h4 h2 hR.gl (by rw [hR.len];exact Nat.le_refl _)
  exact .inr ⟨cv,γ2,w',h1,q1,q2,q3⟩
theorem slen{O:Store}{r:Nat}{x:Option AObj}(h:O[r]? =some x):r<O.length:=(List.getElem?_eq_some_iff.1 h).1
def FrzD(τ news:Store):DC:=z2m τ news [] id (fun _=>true)
theorem DownV.all{τ news:Store}{v v2:AV}(hw:Wf τ.length τ)(h:DR (FrzD τ news) v2 v):DownV τ.length v (τ++news) v2 τ:=
 ⟨FrzD τ news,rfl,by show DownS τ.length (z2m τ news [] id (fun _=>true)) τ;simpa using zby (kept:=[]) (idx:=id) (fzl:=fun _=>true) (news:=news) hw (by simp) (by simp) (by simp) (by simp),h⟩
theorem FrzD.same{τ news:Store}{v:AV}(h:RL τ.length v):DR (FrzD τ news) v v:=DR.refl (z7u _ _ _) v h
theorem FrzD.sl{τ news:Store}{r off:Nat}{lim:Option Nat}{esz:Nat}{o es:AObj}(hk:τ.length<=r)(ho:(τ++news)[r]? =some (some o))(hl:off+es.length<=o.length)(he:(o.drop off).take es.length=es)(hr:RLss τ.length es):
  DR (FrzD τ news) (.vsl esz es false) (.sl r off es.length lim esz):=by
 simp only [DR,FrzD,z2m]
 right
 left
 exact⟨r,off,lim,o,rfl,by simpa using hk,ho,hl,by simp,by rw [he];exact DRss.refl (z7u [] id (fun _=>true)) _ hr⟩
theorem drA{D:DC}{a b:List AV}(h:DRs D a b):DR D (.agg a) (.agg b):=by simp only [DR];exact⟨b,rfl,h⟩
theorem drT{D:DC}{a b:List AV}(h:DRs D a b):DR D (.tup a) (.tup b):=by simp only [DR];exact⟨b,rfl,h⟩
theorem OwnN.frz{sz:Nat}{τ news:Store}{v:AV}{es:List (List AV)}(h:OwnN sz τ (τ++news) v es)(hr:RLss τ.length es):DR (FrzD τ news) (zu sz es) v:=by
 by_cases h0:es=[]
 ·obtain⟨n2,_,⟨rfl,rfl⟩| ⟨j,h1,_⟩⟩:=h
  ·simp [zu,DR]
  ·exact absurd h0 h1
 ·obtain⟨r,rfl,hg,hk⟩:=h.sl h0
  unfold zu
  rw [if_neg h0]
  exact FrzD.sl hk hg (by omega) (by simp) hr
def lkp:List (Nat × AV)->Env
 | [],_=> .any
 |(a,v)::l,t=>bif t==a then v else lkp l t
@[go_sem] theorem lkp_cons {a t:Nat} {v:AV} {l:List (Nat × AV)}:lkp ((a,v)::l) t=bif t==a then v else lkp l t:=rfl
def OwnE(sz:Nat)(τ O':Store)(v:AV)(es:List (List AV)):Prop:=OwnN sz τ O' v es \/(es=[]/\ v=.vsl sz [] true/\ ∃news,O'=τ++news)
theorem OwnE.ext{sz:Nat}{τ O':Store}{v:AV}{es:List (List AV)}(h:OwnE sz τ O' v es):∃news,O'=τ++news:=by
 rcases h with h| ⟨_,_,h⟩
 ·exact h.ext
 ·exact h
theorem OwnE.rd{sz:Nat}{τ O':Store}{v:AV}{es:List (List AV)}(h:OwnE sz τ O' v es):RdSl O' sz es v:=by
 rcases h with h| ⟨rfl,rfl,_⟩
 ·exact h.rd
 ·exact .inl (.inr ⟨true,rfl⟩)
theorem OwnE.len{sz:Nat}{τ O':Store}{v:AV}{es:List (List AV)}(h:OwnE sz τ O' v es):z1k v=some (.int .i64 es.length):=h.rd.len
theorem OwnE.app{sz:Nat}{τ O':Store}{v:AV}{es ys:List (List AV)}(h:OwnE sz τ O' v es)(h0:ys.length ≠ 0)(hl:es.length+ys.length<=1073741824):
  ∃v' O'',aApp O' sz v ys=some (v',O'')/\ OwnN sz τ O'' v' (es++ys):=by
 rcases h with h| ⟨rfl,rfl,news,rfl⟩
 ·exact h.app h0 hl
 ·refine⟨.sl (τ++news).length 0 ys.length none sz,(τ++news)++ [some ys],by rw [z9n,if_neg h0,if_pos ⟨rfl,rfl,hl⟩];simp,news++ [some ys],by rw [List.append_assoc],.inr ⟨news.length,?_,by simp,by rw [List.getElem?_append_right (Nat.le_refl _)];simp⟩⟩
  intro e;exact h0 (by rw [(List.append_eq_nil_iff.1 e).2];rfl)
theorem RdSl.elems{O:Store}{sz:Nat}{es:List (List AV)}{x:AV}(h:RdSl O sz es x):z2g O x=some es:=by
 rcases h with(⟨rfl,rfl⟩| ⟨ex,rfl⟩)| ⟨r,off,lim,o,rfl,hg,h1,h2⟩
 ·rfl
 ·rfl
 ·rw [zfr,hg];simp only;rw [if_pos h1,h2]
theorem zn2(O:Store)(l:List Hash)(x:AV)(hx:RdSl O 32 (hr l) x)(hl:l.length<1000000):
  ACallsP TC 120 [x] O (fun v O'=>OwnE 32 O O' v (hr l)/\ (x=.nilsl ↔ v=.nilsl)):=by
 rcases hx with(⟨rfl,hnil⟩| ⟨ex,rfl⟩)| ⟨r,off,lim,o,rfl,hg,h1,h2⟩
 ·refine ACallsTo.toP (v:=.nilsl) (O':=O) ?_ ⟨.inl ⟨[],by simp,.inl ⟨hnil,rfl⟩⟩,Iff.rfl⟩
  refine ACallsTo.of_body qrok (by simp) fun hw _=> ?_
  repeat' (first|apply zs_|apply zb_|apply zc_|apply zt_ rfl|apply zf_ rfl|(apply zd_ rfl<;>intro ht<;>try omega)|((first|apply zr_|apply zk_|apply ze_|apply zq_|(apply zG<;>intro ht));all_goals try simp (disch:=first|omega|(simp only [lens];first|done|omega)) only [go_sem]))
  exact DownV.same hw (z15 _ rfl)
 ·by_cases h0:l=[]
  ·subst h0
   refine ACallsTo.toP (v:=.vsl 32 [] true) (O':=O) ?_ ⟨.inr ⟨rfl,rfl,[],by simp⟩,by simp⟩
   refine ACallsTo.of_body qrok (by simp) fun hw _=> ?_
   rw [zj3]
   repeat' (first|apply zs_|apply zb_|apply zc_|apply zt_ rfl|apply zf_ rfl|(apply zd_ rfl<;>intro ht<;>try omega)|((first|apply zr_|apply zk_|apply ze_|apply zq_|(apply zG<;>intro ht));all_goals try simp (disch:=first|omega|(simp only [lens];first|done|omega)) only [go_sem]))
   exact DownV.same hw (z15 _ rfl)
  ·have hne:¬l.length=0:=fun e=>h0 (List.eq_nil_of_length_eq_zero e)
   refine ACallsP.of_keep qrok (by simp) ?_
   repeat' (first|apply zs_|apply zb_|apply zc_|apply zt_ rfl|apply zf_ rfl|(apply zd_ rfl<;>intro ht<;>try omega)|((first|apply zr_|apply zk_|apply ze_|apply zq_|(apply zG<;>intro ht));all_goals try simp (disch:=first|omega|(simp only [lens];first|done|omega)) only [go_sem,hne,z9n]))
   refine .inl ⟨[some (hr l)],by simp,.inr ⟨0,by rw [Ne,hr_nil_iff];exact h0,?_,by simp⟩⟩
   simp [zg]
 ·have hrl:=zg l
  by_cases h0:l=[]
  ·subst h0
   refine ACallsTo.toP (v:=.vsl 32 [] true) (O':=O) ?_ ⟨.inr ⟨rfl,rfl,[],by simp⟩,by simp⟩
   refine ACallsTo.of_body qrok (by simp) fun hw _=> ?_
   rw [zj3]at*
   repeat' (first|apply zs_|apply zb_|apply zc_|apply zt_ rfl|apply zf_ rfl|(apply zd_ rfl<;>intro ht<;>try omega)|((first|apply zr_|apply zk_|apply ze_|apply zq_|(apply zG<;>intro ht));all_goals try simp (disch:=first|omega|(simp only [lens];first|done|omega)) only [go_sem,hg,zfr,h1,h2]))
   exact DownV.same hw (z15 _ rfl)
  ·have hne:¬l.length=0:=fun e=>h0 (List.eq_nil_of_length_eq_zero e)
   rw [hrl]at h1 h2
   refine ACallsP.of_keep qrok (by simp) ?_
   repeat' (first|apply zs_|apply zb_|apply zc_|apply zt_ rfl|apply zf_ rfl|(apply zd_ rfl<;>intro ht<;>try omega)|((first|apply zr_|apply zk_|apply ze_|apply zq_|(apply zG<;>intro ht));all_goals try simp (disch:=first|omega|(simp only [lens];first|done|omega)) only [go_sem,hg,hne,z9n,zfr,h1,h2]))
   refine .inl ⟨[some (hr l)],by simp,.inr ⟨0,by rw [Ne,hr_nil_iff];exact h0,?_,by simp⟩⟩
   simp [zg]
end
section
theorem z6f{l:List Hash}{i:Nat}(h:i<l.length):l.take (i+1)=l.take i++ [hd l i]:=by
 rw [za6 h];exact(List.take_append_getElem h).symm
end
section
def Ext(O O':Store):Prop:=∃news,O'=O++news
theorem Ext.refl(O:Store):Ext O O:=⟨[],by simp⟩
theorem Ext.app{O O' y:Store}(h:Ext O O'):Ext O (O'++y):=by
 obtain⟨n,rfl⟩:=h
 exact⟨n++y,by rw [List.append_assoc]⟩
theorem Ext.set{O O':Store}{r:Nat}{x:Option AObj}(h:Ext O O')(hr:O.length<=r):Ext O (O'.set r x):=by
 obtain⟨n,rfl⟩:=h
 exact⟨n.set (r-O.length) x,List.set_append_right _ _ hr⟩
theorem Ext.trans{O O' O'':Store}(h:Ext O O')(h':Ext O' O''):Ext O O'':=by
 obtain⟨n,rfl⟩:=h
 obtain⟨m,rfl⟩:=h'
 exact⟨n++m,by rw [List.append_assoc]⟩
theorem Ext.le{O O':Store}(h:Ext O O'):O.length<=O'.length:=by
 obtain⟨n,rfl⟩:=h;simp
theorem zW.once{C:Ctx}{n k:Nat}{Q:AExit->Env->Store->Prop}{J:Env}{O:Store}{x:ACode}(h:zW C n k x (z2v (fun _ _=>False) Q) J O):zW C n k (.loop x) Q J O:=
 zW.loop (fun _ J' O'=>J'=J/\ O'=O) 0 ⟨rfl,rfl⟩ (by
  rintro m _ _ ⟨rfl,rfl⟩
  refine h.mono fun e J O h=> ?_
  cases e
  ·exact h.elim
  ·exact h
  ·exact h)
end
section
def knil(es:List (List AV)):AV->AV
 | .nilsl=> .nilsl
 | _=> .vsl 32 es false
theorem zed{es:List (List AV)}{x:AV}(h:x ≠ .nilsl):knil es x=.vsl 32 es false:=by
 cases x<;>first|rfl|exact absurd rfl h
theorem zgi(O:Store)(l:List Hash)(x:AV)(hx:RdSl O 32 (hr l) x)(hl:l.length<1000000):
  ACallsTo TC 120 [x] O (knil (hr l) x) O:=by
 refine ACallsP.toDown (zn2 O l x hx hl) fun hw v O' h=> ?_
 obtain⟨h,hn⟩:=h
 obtain⟨y,rfl⟩:=h.ext
 refine DownV.all hw ?_
 by_cases h0:x=.nilsl
 ·rw [hn.1 h0,h0];simp [knil,DR]
 ·have hv:v ≠ .nilsl:=fun e=>h0 (hn.2 e)
  rw [zed h0]
  rcases h with h| ⟨h1,rfl,_⟩
  ·have h2:=h.frz (z25 l)
   unfold zu at h2
   split at h2
   ·simp only [DR]at h2;exact absurd h2 hv
   ·exact h2
  ·rw [h1]
   simp only [DR]
   exact .inl ⟨_,_,rfl,by simp,by simp [DRss]⟩
theorem Ext.pure{O O':Store}{v:AV}(hw:Wf O.length O)(h:Ext O O')(hv:RL O.length v):DownV O.length v O' v O:=by
 obtain⟨n,rfl⟩:=h
 exact DownV.pure hw hv
def zv(x:AV)(first:Bool)(l:List Hash):AV:=if first then knil (hr l) x else .vsl 32 (hr l) false
def rg(n:Int)(z:AV)(e:Int):AV:=.tup [.agg [.int .i64 n,z],.int .i64 e]
attribute [local irreducible] ACallsTo ACallsP
end
section
def zeo:Nat->List AV:=fun n=>[.int .i64 n]
def nums(l:List (Nat)):List (List AV):=l.map zeo
@[go_sem] theorem nums_len (l:List (Nat)):(nums l).length=l.length:=by simp [nums]
@[go_sem] theorem nums_take (l:List (Nat)) (n:Nat):(nums l).take n=nums (l.take n):=by simp [nums,List.map_take]
@[go_sem] theorem nums_drop (l:List (Nat)) (n:Nat):(nums l).drop n=nums (l.drop n):=by simp [nums,List.map_drop]
@[go_sem] theorem nums_set (l:List (Nat)) (i:Nat) (x:Nat):(nums l).set i (zeo x)=nums (l.set i x):=by simp [nums,List.map_set]
def numsD(l:List (Nat))(i:Nat):Nat:=l.getD i 0
@[go_sem] theorem nums_get {l:List (Nat)} {i:Nat} (h:i<l.length):(nums l)[i]? =some (zeo (numsD l i)):=by
 simp [nums,numsD,List.getElem?_map,List.getElem?_eq_getElem h]
def trsR:Nat × Hash->List AV:=fun t=> .int .i64 t.1::hc t.2
def trs(l:List (Nat × Hash)):List (List AV):=l.map trsR
@[go_sem] theorem trs_len (l:List (Nat × Hash)):(trs l).length=l.length:=by simp [trs]
@[go_sem] theorem trs_take (l:List (Nat × Hash)) (n:Nat):(trs l).take n=trs (l.take n):=by simp [trs,List.map_take]
@[go_sem] theorem trs_drop (l:List (Nat × Hash)) (n:Nat):(trs l).drop n=trs (l.drop n):=by simp [trs,List.map_drop]
@[go_sem] theorem trs_set (l:List (Nat × Hash)) (i:Nat) (x:Nat × Hash):(trs l).set i (trsR x)=trs (l.set i x):=by simp [trs,List.map_set]
def trsD(l:List (Nat × Hash))(i:Nat):Nat × Hash:=l.getD i (0,zeroH)
@[go_sem] theorem trs_get {l:List (Nat × Hash)} {i:Nat} (h:i<l.length):(trs l)[i]? =some (trsR (trsD l i)):=by
 simp [trs,trsD,List.getElem?_map,List.getElem?_eq_getElem h]
theorem RdSl.frz{sz:Nat}{τ news:Store}{v:AV}{es:List (List AV)}(h:RdSl (τ++news) sz es v)(hn:∀r off len lim e,v=.sl r off len lim e->τ.length<=r)(hr:RLss τ.length es):∃v2,SlV sz es v2/\ DR (FrzD τ news) v2 v:=by
 rcases h with(⟨rfl,rfl⟩| ⟨ex,rfl⟩)| ⟨r,off,lim,o,rfl,hg,h1,h2⟩
 ·exact⟨.nilsl,.inl ⟨rfl,rfl⟩,by simp [DR]⟩
 ·exact⟨.vsl sz es ex,.inr ⟨ex,rfl⟩,FrzD.same (by simpa only [RL]using hr)⟩
 ·exact⟨.vsl sz es false,.inr ⟨false,rfl⟩,FrzD.sl (hn _ _ _ _ _ rfl) hg h1 h2 hr⟩
theorem Ext.all{O O':Store}{v v2:AV}(hw:Wf O.length O)(he:Ext O O')(h:∀news,O'=O++news->DR (FrzD O news) v2 v):DownV O.length v O' v2 O:=by
 obtain⟨news,rfl⟩:=he
 exact DownV.all hw (h news rfl)
def OwnR(sz k:Nat)(O':Store)(v:AV)(es:List (List AV)):Prop:=(es=[]/\ v=.nilsl) \/ ∃r,k<=r/\ es ≠ []/\ v=.sl r 0 es.length none sz/\ O'[r]? =some (some es)
theorem OwnR.nil{sz k:Nat}{O':Store}:OwnR sz k O' .nilsl []:=.inl ⟨rfl,rfl⟩
theorem OwnR.cells{sz k:Nat}{O':Store}{v:AV}{es:List (List AV)}(h:OwnR sz k O' v es):cellsOf v=some [v]:=by
 rcases h with⟨_,rfl⟩| ⟨r,_,_,rfl,_⟩<;>rfl
theorem OwnR.rd{sz k:Nat}{O':Store}{v:AV}{es:List (List AV)}(h:OwnR sz k O' v es):RdSl O' sz es v:=by
 rcases h with⟨h,rfl⟩| ⟨r,_,_,rfl,hg⟩
 ·exact .inl (.inl ⟨rfl,h⟩)
 ·exact .inr ⟨r,0,none,es,rfl,hg,by omega,by simp⟩
theorem OwnR.len{sz k:Nat}{O':Store}{v:AV}{es:List (List AV)}(h:OwnR sz k O' v es):z1k v=some (.int .i64 es.length):=h.rd.len
theorem OwnR.set{sz k q:Nat}{O':Store}{v:AV}{es:List (List AV)}{x:Option AObj}(h:OwnR sz k O' v es)(hq:q<k):OwnR sz k (O'.set q x) v es:=by
 rcases h with h| ⟨r,h1,h2,h3,h4⟩
 ·exact .inl h
 ·exact .inr ⟨r,h1,h2,h3,by rw [z1h (by omega)];exact h4⟩
theorem OwnR.more{sz k:Nat}{O' y:Store}{v:AV}{es:List (List AV)}(h:OwnR sz k O' v es):OwnR sz k (O'++y) v es:=by
 rcases h with h| ⟨r,h1,h2,h3,h4⟩
 ·exact .inl h
 ·exact .inr ⟨r,h1,h2,h3,by rw [gapp (slen h4)];exact h4⟩
theorem OwnR.app{sz k:Nat}{O':Store}{v:AV}{es ys:List (List AV)}(h:OwnR sz k O' v es)(hk:k<=O'.length)(h0:ys.length ≠ 0)(hl:es.length+ys.length<=1073741824):
  ∃v' O2,aApp O' sz v ys=some (v',O2)/\ OwnR sz k O2 v' (es++ys)/\ (∀q,q<k->O2[q]? =O'[q]?)/\ (∀O:Store,O.length<=k->Ext O O'->Ext O O2)/\ k<=O2.length:=by
 have hne:es++ys ≠ []:=fun e=>h0 (by rw [(List.append_eq_nil_iff.1 e).2];rfl)
 rcases h with⟨rfl,rfl⟩| ⟨r,h1,h2,rfl,hg⟩
 ·refine⟨.sl O'.length 0 ys.length none sz,O'++ [some ys],by rw [zde,if_neg h0,if_pos (by simpa using hl)],.inr ⟨O'.length,hk,hne,by simp,by simp⟩,fun q hq=>gapp (by omega),fun O _ he=>he.app,by simp;omega⟩
 ·have hr:=slen hg
  refine⟨.sl O'.length 0 (es.length+ys.length) none sz,O'.set r none++ [some (es++ys)],?_,.inr ⟨O'.length,hk,hne,by simp,by rw [z2r (by simp)];simp⟩,fun q hq=>by rw [gapp (by simp;omega),z1h (by omega)],fun O hs he=>(he.set (by omega)).app,by simp;omega⟩
  rw [zbd,if_neg h0,hg]
  simp only
  rw [if_pos ⟨trivial,by omega,by omega⟩,if_neg (by omega),List.drop_zero,List.take_of_length_le (Nat.le_refl _)]
theorem OwnR.frz{sz k:Nat}{τ news:Store}{v:AV}{es:List (List AV)}(h:OwnR sz k (τ++news) v es)(hk:τ.length<=k)(hr:RLss τ.length es):DR (FrzD τ news) (zu sz es) v:=by
 unfold zu
 rcases h with⟨rfl,rfl⟩| ⟨r,h1,h2,rfl,hg⟩
 ·simp [DR]
 ·rw [if_neg h2]
  exact FrzD.sl (by omega) hg (by omega) (by simp) hr
theorem OwnR.fr{sz k:Nat}{τ O' news:Store}{v:AV}{es:List (List AV)}(h:OwnR sz k O' v es)(e:O'=τ++news)(hk:τ.length<=k)(hr:RLss τ.length es):DR (FrzD τ news) (zu sz es) v:=by
 subst e;exact h.frz hk hr
end
section
attribute [local irreducible] ACallsTo ACallsP
theorem OwnN.base{sz:Nat}{τ y O':Store}{v:AV}{es:List (List AV)}(h:OwnN sz (τ++y) O' v es):OwnN sz τ O' v es:=by
 obtain⟨news,rfl,h⟩:=h
 refine⟨y++news,by rw [List.append_assoc],?_⟩
 rcases h with h| ⟨j,h0,rfl,hj⟩
 ·exact .inl h
 ·exact .inr ⟨y.length+j,h0,by rw [List.length_append];congr 1;omega,by rw [List.getElem?_append_right (by omega),Nat.add_sub_cancel_left];exact hj⟩
def hss(T:List (Nat × Hash)):List Hash:=T.map (·.2)
end
section
attribute [local irreducible] ACallsTo ACallsP
theorem z4e{k sz:Nat}{es:List (List AV)}(h:RLss k es):RL k (zu sz es):=by
 unfold zu
 split
 ·simp [RL]
 ·simpa only [RL]using h
theorem zm0{sz:Nat}{es:List (List AV)}{O:Store}:RdSl O sz es (zu sz es):=.of (z3m sz es)
end
section
attribute [local irreducible] ACallsTo ACallsP
theorem zaf{sz:Nat}{es:List (List AV)}:cellsOf (zu sz es)=some [zu sz es]:=by
 unfold zu;split<;>rfl
end
section
attribute [local irreducible] ACallsTo ACallsP
end
section
attribute [local irreducible] ACallsTo ACallsP
theorem rl_z{k:Nat}{l:List Hash}{z:AV}(h:SlV 32 (hr l) z):RL k z:=by
 rcases h with⟨rfl,_⟩| ⟨ex,rfl⟩
 ·simp [RL]
 ·simp only [RL];exact z25 _
theorem zm1{sz:Nat}{es:List (List AV)}{z:AV}(h:SlV sz es z):cellsOf z=some [z]:=by
 rcases h with⟨rfl,_⟩| ⟨ex,rfl⟩<;>rfl
end
section
theorem zcm(a b:Hash):z1e [a,b]=z1a a b:=by
 rw [zfa (by simp)];simp [split2,zl3]
theorem zl4(a b c d:Hash):z1e [a,b,c,d]=z1a (z1a a b) (z1a c d):=by
 rw [zfa (by simp)];simp [split4,zcm]
attribute [local irreducible] ACallsTo ACallsP
end
section
attribute [local irreducible] ACallsTo ACallsP
theorem zj8{cs:List AV}(h:ShC (.sl 32 z59) cs):∃(l:List Hash) (a:AV),cs=[a]/\ SlV 32 (hr l) a/\ l.length<=maxLen:=by
 simp only [ShC]at h
 rcases h with rfl| ⟨es,rfl,hl,_,h2⟩
 ·exact⟨[],.nilsl,rfl,.inl ⟨rfl,rfl⟩,Nat.zero_le _⟩
 ·obtain⟨hs,rfl,hH⟩:=ziz es h2
  obtain⟨m,rfl⟩:=hb_of hH
  rw [z7s]at*
  exact⟨m,_,rfl,.inr ⟨false,rfl⟩,by rwa [zg]at hl⟩
end
section
attribute [local irreducible] ACallsTo ACallsP
end
section
attribute [local irreducible] ACallsTo ACallsP
end
section
theorem z95{l:List Hash}{x:AV}{k:Nat}(h:SlV 32 (hr l) x):RL k x:=rl_z h
attribute [local irreducible] ACallsTo ACallsP
end
section
attribute [local irreducible] ACallsTo ACallsP
end
section
attribute [local irreducible] ACallsTo ACallsP
end
end Am
end Go.Proofs.YtlfpiblipmiobaaGreatDoor
