import Derived.Test.YtlfpiblipmiobaaDoorK22c926d39
import Derived.Shelf.Strings.Builder1
import Derived.Shelf.Strings.Builder2
import Derived.Shelf.Strings.BuilderF
import Derived.Shelf.Strings.Prefix
import Derived.Shelf.Bits.Mul64
import Derived.Shelf.Strings.Repeat
import Derived.Test.YtlfpiblipmiobaaDoorProg
set_option linter.unusedSimpArgs false
set_option linter.unusedVariables false
open Nat (reduceEqDiff reduceAdd reduceMul reduceSub reduceLeDiff)
open Int (reduceToNat reducePow)
open Nat renaming reduceEqDiff -> nQ1, reduceBEq -> nQ2, reduceAdd -> nQ3, reduceMul -> nQ4, reduceSub -> nQ5, reduceLeDiff -> nQ6
open Int renaming reduceToNat -> nQ7, reducePow -> nQ8
open List renaming length_reverse -> lQr, length_map -> lQm, length_take -> lQt, length_drop -> lQd, length_set -> lQs
set_option maxHeartbeats 16000000
attribute [local go_sem_proc] Nat.reduceEqDiff Nat.reduceBEq Nat.reduceAdd Nat.reduceMul Nat.reduceSub Nat.reduceLeDiff Int.reduceToNat Int.reducePow
namespace Go.Proofs.YtlfpiblipmiobaaDoor
namespace Am
section
set_option maxRecDepth 4000
open Pk (P Q M one pkN dbl cD)
noncomputable def frc{α:Type}(n:Nat)(f:Nat->α):α:=Nat.rec (f 0) (fun k _=>f (Nat.succ k)) n
theorem zz{α:Type}(n:Nat)(f:Nat->α):frc n f=f n:=by cases n<;>rfl
structure S8 where
 a:Nat
 b:Nat
 c:Nat
 d:Nat
 e:Nat
 f:Nat
 g:Nat
 h:Nat
noncomputable def rot3(m x a b c:Nat):Nat:=frc (Nat.mul x 4294967297) fun y=>Nat.land (Nat.xor (Nat.xor (Nat.shiftRight y a) (Nat.shiftRight y b)) (Nat.shiftRight y c)) m
noncomputable def rot2(m x a b c:Nat):Nat:=frc (Nat.mul x 4294967297) fun y=>Nat.land (Nat.xor (Nat.xor (Nat.shiftRight y a) (Nat.shiftRight y b)) (Nat.shiftRight x c)) m
noncomputable def t1N(m o e f g h k w:Nat):Nat:=
 Nat.add (Nat.add (Nat.add (Nat.add h (rot3 m e 6 11 25)) (Nat.xor (Nat.land e f) (Nat.land (Nat.xor m e) g))) (Nat.mul o k)) w
noncomputable def t2N(m a b c:Nat):Nat:=Nat.add (rot3 m a 2 13 22) (Nat.xor (Nat.xor (Nat.land a b) (Nat.land a c)) (Nat.land b c))
noncomputable def nwN(m w0 w1 w9 w14:Nat):Nat:=Nat.land (Nat.add (Nat.add (Nat.add w0 w9) (rot2 m w1 7 18 3)) (rot2 m w14 17 19 10)) m
noncomputable def goN(m o:Nat)(ks:List Nat):Nat->Nat->Nat->Nat->Nat->Nat->Nat->Nat->Nat->Nat->Nat->Nat->Nat->Nat->Nat->Nat->Nat->Nat->Nat->Nat->Nat->Nat->Nat->Nat->S8:=
 List.rec (motive:=fun _=>Nat->Nat->Nat->Nat->Nat->Nat->Nat->Nat->Nat->Nat->Nat->Nat->Nat->Nat->Nat->Nat->Nat->Nat->Nat->Nat->Nat->Nat->Nat->Nat->S8)
  (fun a b c d e f g h _ _ _ _ _ _ _ _ _ _ _ _ _ _ _ _=>⟨a,b,c,d,e,f,g,h⟩)
  (fun k _ ih a b c d e f g h w0 w1 w2 w3 w4 w5 w6 w7 w8 w9 w10 w11 w12 w13 w14 w15=>
   frc (t1N m o e f g h k w0) fun t=>frc (Nat.land (Nat.add t (t2N m a b c)) m) fun a'=>frc (Nat.land (Nat.add d t) m) fun e'=>frc (nwN m w0 w1 w9 w14) fun w'=>
    ih a' a b c e' e f g w1 w2 w3 w4 w5 w6 w7 w8 w9 w10 w11 w12 w13 w14 w15 w') ks
theorem zp2(m o a b c d e f g h w0 w1 w2 w3 w4 w5 w6 w7 w8 w9 w10 w11 w12 w13 w14 w15:Nat):goN m o [] a b c d e f g h w0 w1 w2 w3 w4 w5 w6 w7 w8 w9 w10 w11 w12 w13 w14 w15=⟨a,b,c,d,e,f,g,h⟩:=rfl
theorem zp1(m o k:Nat)(ks:List Nat)(a b c d e f g h w0 w1 w2 w3 w4 w5 w6 w7 w8 w9 w10 w11 w12 w13 w14 w15:Nat):goN m o (k::ks) a b c d e f g h w0 w1 w2 w3 w4 w5 w6 w7 w8 w9 w10 w11 w12 w13 w14 w15=
  goN m o ks (Nat.land (Nat.add (t1N m o e f g h k w0) (t2N m a b c)) m) a b c (Nat.land (Nat.add d (t1N m o e f g h k w0)) m) e f g w1 w2 w3 w4 w5 w6 w7 w8 w9 w10 w11 w12 w13 w14 w15 (nwN m w0 w1 w9 w14):=by
 unfold goN
 dsimp only
 rw [zz,zz,zz,zz]
theorem zgu:(4294967297:Nat)=cD:=by decide
section
variable {ι:Type} (L:List ι)
theorem zjy(f:ι->W)(a b c:Nat)(ha:0<a/\ a<32)(hb:0<b/\ b<32)(hc:0<c/\ c<32):
  rot3 (M L) (Q L f) a b c=Q L (fun i=>((f i).rotateLeft (32-a)^^^(f i).rotateLeft (32-b))^^^(f i).rotateLeft (32-c)):=by
 unfold rot3
 rw [zz,zgu]
 exact Pk.Q_rot3 L f a b c ha hb hc
theorem zjx(f:ι->W)(a b c:Nat)(ha:0<a/\ a<32)(hb:0<b/\ b<32)(hc:0<c/\ c<32):
  rot2 (M L) (Q L f) a b c=Q L (fun i=>((f i).rotateLeft (32-a)^^^(f i).rotateLeft (32-b))^^^(f i)>>>c):=by
 unfold rot2
 rw [zz,zgu]
 exact Pk.Q_rot2 L f a b c ha hb hc
theorem t1_ok(e f g h w:ι->W)(k:W):t1N (M L) (one L) (Q L e) (Q L f) (Q L g) (Q L h) k.toNat (Q L w)=P L (fun i=>(h i).toNat+(bs1 (e i)).toNat+(chW (e i) (f i) (g i)).toNat+k.toNat+(w i).toNat):=by
 unfold t1N
 rw [zjy L e 6 11 25 (by omega) (by omega) (by omega)]
 have h1:Nat.xor (Nat.land (Q L e) (Q L f)) (Nat.land (Nat.xor (M L) (Q L e)) (Q L g))=Q L (fun i=>chW (e i) (f i) (g i)):=by
  have a1:Nat.land (Q L e) (Q L f)=Q L (fun i=>e i &&& f i):=Pk.Q_and L e f
  have a2:Nat.xor (M L) (Q L e)=Q L (fun i=> ~~~ e i):=Pk.Q_not L e
  have a3:Nat.land (Q L (fun i=> ~~~ e i)) (Q L g)=Q L (fun i=> ~~~ e i &&& g i):=Pk.Q_and L _ g
  rw [a1,a2,a3]
  exact Pk.Q_xor L _ _
 have h2:Nat.mul (one L) k.toNat=P L (fun _=>k.toNat):=by
  have:=Pk.P_mul L (fun _=>1) k.toNat
  simpa [one]using this
 rw [h1,h2]
 have add:∀f g:ι->Nat,Nat.add (P L f) (P L g)=P L (fun i=>f i+g i):=Pk.P_add L
 unfold Q
 rw [add,add,add,add]
 rfl
theorem t2_ok(a b c:ι->W):t2N (M L) (Q L a) (Q L b) (Q L c)=P L (fun i=>(bs0 (a i)).toNat+(majW (a i) (b i) (c i)).toNat):=by
 unfold t2N
 rw [zjy L a 2 13 22 (by omega) (by omega) (by omega)]
 have h1:Nat.xor (Nat.xor (Nat.land (Q L a) (Q L b)) (Nat.land (Q L a) (Q L c))) (Nat.land (Q L b) (Q L c))=Q L (fun i=>majW (a i) (b i) (c i)):=by
  have a1:∀f g:ι->W,Nat.land (Q L f) (Q L g)=Q L (fun i=>f i &&& g i):=Pk.Q_and L
  have a2:∀f g:ι->W,Nat.xor (Q L f) (Q L g)=Q L (fun i=>f i^^^g i):=Pk.Q_xor L
  rw [a1,a1,a1,a2,a2]
  rfl
 rw [h1]
 have add:∀f g:ι->Nat,Nat.add (P L f) (P L g)=P L (fun i=>f i+g i):=Pk.P_add L
 unfold Q
 rw [add]
 rfl
theorem z87{f:ι->Nat}(g:ι->W)(h:∀i,f i<2^64)(hg:∀i,BitVec.ofNat 32 (f i)=g i):Nat.land (P L f) (M L)=Q L g:=by
 have:=Pk.P_mask L h
 rw [show (fun i=>BitVec.ofNat 32 (f i))=g from funext hg]at this
 exact this
theorem nw_ok(w0 w1 w9 w14:ι->W):nwN (M L) (Q L w0) (Q L w1) (Q L w9) (Q L w14)=Q L (fun i=>w0 i+w9 i+ss0 (w1 i)+ss1 (w14 i)):=by
 unfold nwN
 rw [zjx L w1 7 18 3 (by omega) (by omega) (by omega),zjx L w14 17 19 10 (by omega) (by omega) (by omega)]
 have add:∀f g:ι->Nat,Nat.add (P L f) (P L g)=P L (fun i=>f i+g i):=Pk.P_add L
 have e:Nat.add (Nat.add (Nat.add (Q L w0) (Q L w9)) (Q L (fun i=>ss0 (w1 i)))) (Q L (fun i=>ss1 (w14 i)))=P L (fun i=>(w0 i).toNat+(w9 i).toNat+(ss0 (w1 i)).toNat+(ss1 (w14 i)).toNat):=by
  unfold Q
  rw [add,add,add]
 show Nat.land (Nat.add (Nat.add (Nat.add (Q L w0) (Q L w9)) (Q L (fun i=>ss0 (w1 i)))) (Q L (fun i=>ss1 (w14 i)))) (M L)=_
 rw [e]
 refine z87 L _ (fun i=> ?_) fun i=> ?_
 ·have:=(w0 i).isLt;have:=(w9 i).isLt;have:=(ss0 (w1 i)).isLt;have:=(ss1 (w14 i)).isLt;omega
 ·apply BitVec.eq_of_toNat_eq;simp only [BitVec.toNat_ofNat,BitVec.toNat_add];omega
end
def wx(s:List UInt8)(t:Nat):W:=z2x s (z16 s t)
theorem z7m(s:List UInt8):∀n,(z16 s n).length=n
 | 0=>rfl
 |n+1=>by simp [z16,z7m s n]
theorem z8m(s:List UInt8):∀(n t:Nat),t<n->wat (z16 s n) t=wx s t
 |n+1,t,h=>by
  unfold wat
  rw [z16,List.getD_eq_getElem?_getD]
  by_cases h1:t<n
  ·rw [List.getElem?_append_left (by rw [z7m];exact h1),<-List.getD_eq_getElem?_getD]
   exact z8m s n t h1
  ·obtain rfl:t=n:=by omega
   rw [List.getElem?_append_right (by rw [z7m];omega),z7m,Nat.sub_self]
   rfl
theorem wx_lo(s:List UInt8)(t:Nat)(h:t<16):wx s t=z12 s t:=by
 unfold wx z2x
 rw [z7m,if_pos h]
theorem wx_hi(s:List UInt8)(t:Nat):wx s (t+16)=wx s t+wx s (t+9)+ss0 (wx s (t+1))+ss1 (wx s (t+14)):=by
 conv=>lhs;unfold wx z2x
 rw [z7m,if_neg (by omega),z8m s _ _ (by omega),z8m s _ _ (by omega),z8m s _ _ (by omega),z8m s _ _ (by omega)]
 rw [show t+16-16=t by omega,show t+16-7=t+9 by omega,show t+16-15=t+1 by omega,show t+16-2=t+14 by omega]
theorem zju(s:List UInt8)(v:V8)(n:Nat)(h:n<64):rnds s v (n+1)=rnd (rnds s v n) (kAt n) (wx s n):=by
 rw [rnds,z8m s 64 n h]
def kN(t:Nat):Nat:=(kAt t).toNat
section
variable {ι:Type} (L:List ι)
theorem zhr(s:ι->List UInt8)(v:ι->V8):∀(n t:Nat),t+n=64->
  goN (M L) (one L) ((List.range' t n).map kN) (Q L fun i=>(rnds (s i) (v i) t).a) (Q L fun i=>(rnds (s i) (v i) t).b) (Q L fun i=>(rnds (s i) (v i) t).c) (Q L fun i=>(rnds (s i) (v i) t).d)
   (Q L fun i=>(rnds (s i) (v i) t).e) (Q L fun i=>(rnds (s i) (v i) t).f) (Q L fun i=>(rnds (s i) (v i) t).g) (Q L fun i=>(rnds (s i) (v i) t).h)
   (Q L fun i=>wx (s i) t) (Q L fun i=>wx (s i) (t+1)) (Q L fun i=>wx (s i) (t+2)) (Q L fun i=>wx (s i) (t+3)) (Q L fun i=>wx (s i) (t+4)) (Q L fun i=>wx (s i) (t+5)) (Q L fun i=>wx (s i) (t+6)) (Q L fun i=>wx (s i) (t+7))
   (Q L fun i=>wx (s i) (t+8)) (Q L fun i=>wx (s i) (t+9)) (Q L fun i=>wx (s i) (t+10)) (Q L fun i=>wx (s i) (t+11)) (Q L fun i=>wx (s i) (t+12)) (Q L fun i=>wx (s i) (t+13)) (Q L fun i=>wx (s i) (t+14)) (Q L fun i=>wx (s i) (t+15))=
  ⟨Q L fun i=>(rnds (s i) (v i) 64).a,Q L fun i=>(rnds (s i) (v i) 64).b,Q L fun i=>(rnds (s i) (v i) 64).c,Q L fun i=>(rnds (s i) (v i) 64).d,Q L fun i=>(rnds (s i) (v i) 64).e,Q L fun i=>(rnds (s i) (v i) 64).f,Q L fun i=>(rnds (s i) (v i) 64).g,Q L fun i=>(rnds (s i) (v i) 64).h⟩
 | 0,t,h=>by
  obtain rfl:t=64:=by omega
  exact zp2 ..
 |n+1,t,h=>by
  have ih:=zhr s v n (t+1) (by omega)
  rw [List.range'_succ,List.map_cons,zp1]
  have e1:t1N (M L) (one L) (Q L fun i=>(rnds (s i) (v i) t).e) (Q L fun i=>(rnds (s i) (v i) t).f) (Q L fun i=>(rnds (s i) (v i) t).g) (Q L fun i=>(rnds (s i) (v i) t).h) (kN t) (Q L fun i=>wx (s i) t)=_:=t1_ok L _ _ _ _ _ (kAt t)
  rw [e1,t2_ok L,nw_ok L]
  have add:∀f g:ι->Nat,Nat.add (P L f) (P L g)=P L (fun i=>f i+g i):=Pk.P_add L
  rw [add]
  have e2:Nat.add (Q L fun i=>(rnds (s i) (v i) t).d) (P L fun i=>((rnds (s i) (v i) t).h).toNat+(bs1 (rnds (s i) (v i) t).e).toNat+(chW (rnds (s i) (v i) t).e (rnds (s i) (v i) t).f (rnds (s i) (v i) t).g).toNat+(kAt t).toNat+(wx (s i) t).toNat)=P L _:=add _ _
  rw [e2]
  rw [z87 L (fun i=>(rnds (s i) (v i) (t+1)).a) ?_ ?_,z87 L (fun i=>(rnds (s i) (v i) (t+1)).e) ?_ ?_]
  ·have hw:(fun i=>wx (s i) t+wx (s i) (t+9)+ss0 (wx (s i) (t+1))+ss1 (wx (s i) (t+14)))=fun i=>wx (s i) (t+1+15):=by
    funext i
    rw [show t+1+15=t+16 by omega,wx_hi]
   have hs:∀i,rnds (s i) (v i) (t+1)=rnd (rnds (s i) (v i) t) (kAt t) (wx (s i) t):=fun i=>zju _ _ _ (by omega)
   rw [hw]
   rw [<-ih]
   simp only [hs,rnd,Nat.add_assoc,Nat.reduceAdd]
  all_goals intro i
  all_goals (try dsimp only)
  all_goals (have hs:rnds (s i) (v i) (t+1)=rnd (rnds (s i) (v i) t) (kAt t) (wx (s i) t):=zju _ _ _ (by omega))
  all_goals (try rw [hs])
  all_goals (generalize rnds (s i) (v i) t=r;generalize wx (s i) t=w;generalize kAt t=k)
  all_goals try simp only [rnd]
  all_goals (generalize bs1 r.e=p1;generalize chW r.e r.f r.g=p2;generalize bs0 r.a=p3;generalize majW r.a r.b r.c=p4)
  all_goals (have:=r.a.isLt;have:=r.d.isLt;have:=r.h.isLt;have:=w.isLt;have:=k.isLt;have:=p1.isLt;have:=p2.isLt;have:=p3.isLt;have:=p4.isLt)
  all_goals first|omega|(simp only [BitVec.ofNat_add,BitVec.ofNat_toNat,BitVec.setWidth_eq])
end
end
section
set_option maxRecDepth 4000
open Pk (P Q M one pkN)
def k64:List Nat:=[1116352408,1899447441,3049323471,3921009573,961987163,1508970993,2453635748,2870763221,3624381080,310598401,607225278,1426881987,1925078388,2162078206,2614888103,3248222580,3835390401,4022224774,264347078,604807628,770255983,1249150122,1555081692,1996064986,2554220882,2821834349,2952996808,3210313671,3336571891,3584528711,113926993,338241895,666307205,773529912,1294757372,1396182291,1695183700,1986661051,2177026350,2456956037,2730485921,2820302411,3259730800,3345764771,3516065817,3600352804,4094571909,275423344,430227734,506948616,659060556,883997877,958139571,1322822218,1537002063,1747873779,1955562222,2024104815,2227730452,2361852424,2428436474,2756734187,3204031479,3329325298]
theorem k64_is:(List.range' 0 64).map kN=k64:=by decide+kernel
noncomputable def finN{α:Type}(m a b c d e f g h:Nat)(k:Nat->Nat->Nat->Nat->Nat->Nat->Nat->Nat->α)(r:S8):α:=
 S8.rec (motive:=fun _=>α) (fun ra rb rc rd re rf rg rh=>
  frc (Nat.land (Nat.add ra a) m) fun a'=>frc (Nat.land (Nat.add rb b) m) fun b'=>frc (Nat.land (Nat.add rc c) m) fun c'=>frc (Nat.land (Nat.add rd d) m) fun d'=>
  frc (Nat.land (Nat.add re e) m) fun e'=>frc (Nat.land (Nat.add rf f) m) fun f'=>frc (Nat.land (Nat.add rg g) m) fun g'=>frc (Nat.land (Nat.add rh h) m) fun h'=>k a' b' c' d' e' f' g' h') r
def r64(v:V8)(s:List UInt8):V8:=rnds s v 64
theorem zor{α:Type}(m a b c d e f g h:Nat)(k:Nat->Nat->Nat->Nat->Nat->Nat->Nat->Nat->α)(ra rb rc rd re rf rg rh:Nat):
  finN m a b c d e f g h k ⟨ra,rb,rc,rd,re,rf,rg,rh⟩=
   k (Nat.land (Nat.add ra a) m) (Nat.land (Nat.add rb b) m) (Nat.land (Nat.add rc c) m) (Nat.land (Nat.add rd d) m) (Nat.land (Nat.add re e) m) (Nat.land (Nat.add rf f) m) (Nat.land (Nat.add rg g) m) (Nat.land (Nat.add rh h) m):=by
 unfold finN
 dsimp only
 rw [zz,zz,zz,zz,zz,zz,zz,zz]
theorem mix_a(v:V8)(s:List UInt8):(mixS v s).a=(r64 v s).a+v.a:=by unfold r64 mixS V8.add;exact Eq.refl _
theorem mix_b(v:V8)(s:List UInt8):(mixS v s).b=(r64 v s).b+v.b:=by unfold r64 mixS V8.add;exact Eq.refl _
theorem mix_c(v:V8)(s:List UInt8):(mixS v s).c=(r64 v s).c+v.c:=by unfold r64 mixS V8.add;exact Eq.refl _
theorem mix_d(v:V8)(s:List UInt8):(mixS v s).d=(r64 v s).d+v.d:=by unfold r64 mixS V8.add;exact Eq.refl _
theorem mix_e(v:V8)(s:List UInt8):(mixS v s).e=(r64 v s).e+v.e:=by unfold r64 mixS V8.add;exact Eq.refl _
theorem mix_f(v:V8)(s:List UInt8):(mixS v s).f=(r64 v s).f+v.f:=by unfold r64 mixS V8.add;exact Eq.refl _
theorem mix_g(v:V8)(s:List UInt8):(mixS v s).g=(r64 v s).g+v.g:=by unfold r64 mixS V8.add;exact Eq.refl _
theorem mix_h(v:V8)(s:List UInt8):(mixS v s).h=(r64 v s).h+v.h:=by unfold r64 mixS V8.add;exact Eq.refl _
section
variable {ι:Type} (L:List ι)
theorem zp0(s:ι->List UInt8)(v:ι->V8):
  goN (M L) (one L) k64 (Q L fun i=>(v i).a) (Q L fun i=>(v i).b) (Q L fun i=>(v i).c) (Q L fun i=>(v i).d) (Q L fun i=>(v i).e) (Q L fun i=>(v i).f) (Q L fun i=>(v i).g) (Q L fun i=>(v i).h)
   (Q L fun i=>z12 (s i) 0) (Q L fun i=>z12 (s i) 1) (Q L fun i=>z12 (s i) 2) (Q L fun i=>z12 (s i) 3) (Q L fun i=>z12 (s i) 4) (Q L fun i=>z12 (s i) 5) (Q L fun i=>z12 (s i) 6) (Q L fun i=>z12 (s i) 7)
   (Q L fun i=>z12 (s i) 8) (Q L fun i=>z12 (s i) 9) (Q L fun i=>z12 (s i) 10) (Q L fun i=>z12 (s i) 11) (Q L fun i=>z12 (s i) 12) (Q L fun i=>z12 (s i) 13) (Q L fun i=>z12 (s i) 14) (Q L fun i=>z12 (s i) 15)=
  ⟨Q L fun i=>(r64 (v i) (s i)).a,Q L fun i=>(r64 (v i) (s i)).b,Q L fun i=>(r64 (v i) (s i)).c,Q L fun i=>(r64 (v i) (s i)).d,Q L fun i=>(r64 (v i) (s i)).e,Q L fun i=>(r64 (v i) (s i)).f,Q L fun i=>(r64 (v i) (s i)).g,Q L fun i=>(r64 (v i) (s i)).h⟩:=by
 have g:=zhr L s v 64 0 rfl
 rw [k64_is]at g
 have hw:∀j,j<16->(fun i=>wx (s i) (0+j))=fun i=>z12 (s i) j:=fun j hj=>by funext i;rw [Nat.zero_add,wx_lo _ _ hj]
 have hw0:(fun i=>wx (s i) 0)=fun i=>z12 (s i) 0:=by funext i;rw [wx_lo _ _ (by omega)]
 rw [hw0,hw 1 (by omega),hw 2 (by omega),hw 3 (by omega),hw 4 (by omega),hw 5 (by omega),hw 6 (by omega),hw 7 (by omega),hw 8 (by omega),hw 9 (by omega),hw 10 (by omega),hw 11 (by omega),hw 12 (by omega),hw 13 (by omega),hw 14 (by omega),hw 15 (by omega)]at g
 have r0:∀s v,rnds s v 0=v:=fun _ _=>rfl
 have e64:∀s v,rnds s v 64=r64 v s:=fun s v=>by unfold r64;exact Eq.refl _
 simp only [r0,e64]at g
 exact g
attribute [local irreducible] r64 k64
theorem z60(f g:ι->W):Nat.land (Nat.add (Q L f) (Q L g)) (M L)=Q L (fun i=>f i+g i):=by
 have add:∀f g:ι->Nat,Nat.add (P L f) (P L g)=P L (fun i=>f i+g i):=Pk.P_add L
 have e:Nat.add (Q L f) (Q L g)=P L (fun i=>(f i).toNat+(g i).toNat):=by
  unfold Q
  rw [add]
 rw [e]
 refine z87 L _ (fun i=> ?_) fun i=> ?_
 ·have:=(f i).isLt;have:=(g i).isLt;omega
 ·simp only [BitVec.ofNat_add,BitVec.ofNat_toNat,BitVec.setWidth_eq]
theorem zax{α:Type}(s:ι->List UInt8)(v:ι->V8)(w0 w1 w2 w3 w4 w5 w6 w7 w8 w9 w10 w11 w12 w13 w14 w15:Nat)(k:Nat->Nat->Nat->Nat->Nat->Nat->Nat->Nat->α)
  (h0:w0=Q L fun i=>z12 (s i) 0) (h1:w1=Q L fun i=>z12 (s i) 1) (h2:w2=Q L fun i=>z12 (s i) 2) (h3:w3=Q L fun i=>z12 (s i) 3) (h4:w4=Q L fun i=>z12 (s i) 4) (h5:w5=Q L fun i=>z12 (s i) 5) (h6:w6=Q L fun i=>z12 (s i) 6) (h7:w7=Q L fun i=>z12 (s i) 7)
  (h8:w8=Q L fun i=>z12 (s i) 8) (h9:w9=Q L fun i=>z12 (s i) 9) (h10:w10=Q L fun i=>z12 (s i) 10) (h11:w11=Q L fun i=>z12 (s i) 11) (h12:w12=Q L fun i=>z12 (s i) 12) (h13:w13=Q L fun i=>z12 (s i) 13) (h14:w14=Q L fun i=>z12 (s i) 14) (h15:w15=Q L fun i=>z12 (s i) 15):
  finN (M L) (Q L fun i=>(v i).a) (Q L fun i=>(v i).b) (Q L fun i=>(v i).c) (Q L fun i=>(v i).d) (Q L fun i=>(v i).e) (Q L fun i=>(v i).f) (Q L fun i=>(v i).g) (Q L fun i=>(v i).h) k
   (goN (M L) (one L) k64 (Q L fun i=>(v i).a) (Q L fun i=>(v i).b) (Q L fun i=>(v i).c) (Q L fun i=>(v i).d) (Q L fun i=>(v i).e) (Q L fun i=>(v i).f) (Q L fun i=>(v i).g) (Q L fun i=>(v i).h) w0 w1 w2 w3 w4 w5 w6 w7 w8 w9 w10 w11 w12 w13 w14 w15)=
  k (Q L fun i=>(mixS (v i) (s i)).a) (Q L fun i=>(mixS (v i) (s i)).b) (Q L fun i=>(mixS (v i) (s i)).c) (Q L fun i=>(mixS (v i) (s i)).d) (Q L fun i=>(mixS (v i) (s i)).e) (Q L fun i=>(mixS (v i) (s i)).f) (Q L fun i=>(mixS (v i) (s i)).g) (Q L fun i=>(mixS (v i) (s i)).h):=by
 subst h0 h1 h2 h3 h4 h5 h6 h7 h8 h9 h10 h11 h12 h13 h14 h15
 have g:=zp0 L s v
 rw [g,zor,z60,z60,z60,z60,z60,z60,z60,z60]
 simp only [mix_a,mix_b,mix_c,mix_d,mix_e,mix_f,mix_g,mix_h]
end
end
section
set_option maxRecDepth 4000
open Pk (P Q M one pkN)
theorem ze4:∀(l m:List Nat),pkN (l++m)=pkN l+2^(64*l.length)*pkN m
 | [],m=>by simp [pkN]
 |x::l,m=>by
  have h:2^(64*(l.length+1))=2^64*2^(64*l.length):=by rw [<-Nat.pow_add];congr 1;omega
  rw [List.cons_append,pkN,pkN,ze4 l m,List.length_cons,h,Nat.mul_add,Nat.mul_assoc]
  omega
theorem zfv(f:Nat->Nat)(n:Nat):P (List.range (n+1)) f=P (List.range n) f+2^(64*n)*f n:=by
 unfold P
 rw [List.range_succ,List.map_append,ze4,List.length_map,List.length_range]
 simp [pkN]
noncomputable def pkR(f:Nat->Nat)(n acc:Nat):Nat:=
 Nat.rec (motive:=fun _=>Nat->Nat) (fun acc=>acc) (fun k ih acc=>frc (Nat.add (Nat.mul acc 18446744073709551616) (f k)) ih) n acc
theorem zs6(f:Nat->Nat)(acc:Nat):pkR f 0 acc=acc:=rfl
theorem zs5(f:Nat->Nat)(n acc:Nat):pkR f (n+1) acc=pkR f n (Nat.add (Nat.mul acc 18446744073709551616) (f n)):=by
 show frc _ _=_
 rw [zz]
 rfl
theorem zjd(f:Nat->Nat):∀(n acc:Nat),pkR f n acc=P (List.range n) f+2^(64*n)*acc
 | 0,acc=>by rw [zs6];simp [P,pkN]
 |n+1,acc=>by
  rw [zs5,zjd f n,zfv]
  have h:2^(64*(n+1))=2^(64*n)*2^64:=by rw [<-Nat.pow_add];congr 1
  have e:Nat.add (Nat.mul acc 18446744073709551616) (f n)=acc*2^64+f n:=rfl
  rw [h,e,Nat.mul_add,Nat.mul_assoc,Nat.mul_comm acc]
  omega
def ones(n:Nat):Nat:=Nat.div (Nat.sub (Nat.pow 2 (Nat.mul 64 n)) 1) 18446744073709551615
theorem zj0:∀n,(2^64-1)*P (List.range n) (fun _=>1)+1=2^(64*n)
 | 0=>rfl
 |n+1=>by
  have ih:=zj0 n
  have h:2^(64*(n+1))=2^64*2^(64*n):=by rw [<-Nat.pow_add];congr 1;omega
  rw [zfv,h]
  omega
theorem z88(n:Nat):ones n=one (List.range n):=by
 have h:=zj0 n
 have e:ones n=(2^(64*n)-1)/(2^64-1):=rfl
 rw [e,<-h,Nat.add_sub_cancel,Nat.mul_div_cancel_left _ (by decide)]
 rfl
theorem M_is(n:Nat):Nat.mul (ones n) 4294967295=M (List.range n):=by
 rw [z88]
 have:=Pk.P_mul (List.range n) (fun _=>1) 4294967295
 simpa [one,M]using this
theorem zh4(n:Nat)(c:W):Nat.mul (ones n) c.toNat=Q (List.range n) (fun _=>c):=by
 rw [z88]
 have:=Pk.P_mul (List.range n) (fun _=>1) c.toNat
 simpa [one,Q]using this
section
variable {ι:Type} (L:List ι)
theorem q_shl(f:ι->W):Nat.land (Nat.mul (Q L f) 16777216) (M L)=Q L (fun i=>f i<<<24):=by
 have e:Nat.mul (Q L f) 16777216=P L (fun i=>(f i).toNat*16777216):=by
  unfold Q
  exact Pk.P_mul L _ _
 rw [e]
 refine z87 L _ (fun i=> ?_) fun i=> ?_
 ·have:=(f i).isLt;omega
 ·apply BitVec.eq_of_toNat_eq;rw [BitVec.toNat_ofNat,BitVec.toNat_shiftLeft,Nat.shiftLeft_eq]
theorem q_shr(f:ι->W):Nat.land (Nat.shiftRight (Q L f) 8) (M L)=Q L (fun i=>f i>>>8):=by
 apply Pk.Q_ext
 intro q r hr
 have e:Nat.land (Nat.shiftRight (Q L f) 8) (M L)=(Q L f>>>8) &&& M L:=rfl
 rw [e,Nat.testBit_and,Pk.M_bit L q r hr,Nat.testBit_shiftRight]
 by_cases h:r<32
 ·rw [show 8+(64*q+r)=64*q+(8+r)by omega,Pk.Q_bit L q (8+r) (by omega)]
  cases L[q]? <;>simp [h]
 ·cases L[q]? with
  |none=>simp
  |some x=>simp [h,BitVec.getLsbD_of_ge _ _ (show 32<=r by omega)]
def shW(x y:W):W:=x<<<24+y>>>8
noncomputable def shN(m x y:Nat):Nat:=Nat.land (Nat.add (Nat.land (Nat.mul x 16777216) m) (Nat.land (Nat.shiftRight y 8) m)) m
theorem z3v(f g:ι->W):shN (M L) (Q L f) (Q L g)=Q L (fun i=>shW (f i) (g i)):=by
 unfold shN
 rw [q_shl,q_shr,z60]
 rfl
end
theorem z8q(f:Nat->W){N a c:Nat}(h:a+c<=N):Nat.land (Nat.shiftRight (Q (List.range N) f) (64*a)) (2^(64*c)-1)=Q (List.range c) (fun i=>f (a+i)):=by
 apply Pk.Q_ext
 intro q r hr
 have e:Nat.land (Nat.shiftRight (Q (List.range N) f) (64*a)) (2^(64*c)-1)=(Q (List.range N) f>>>(64*a)) &&& (2^(64*c)-1):=rfl
 rw [e,Nat.testBit_and,Nat.testBit_shiftRight,show 64*a+(64*q+r)=64*(a+q)+r by omega,Pk.Q_bit _ _ r hr,Nat.testBit_two_pow_sub_one]
 by_cases hq:q<c
 ·rw [List.getElem?_range (by omega),List.getElem?_range hq,decide_eq_true (by omega)];simp
 ·rw [decide_eq_false (by omega),Bool.and_false,List.getElem?_eq_none (by simp;omega)];rfl
theorem z69(f:Nat->W){N a:Nat}(h:a<N):Nat.land (Nat.shiftRight (Q (List.range N) f) (64*a)) 18446744073709551615=(f a).toNat:=by
 have:=z8q f (a:=a) (c:=1) (N:=N) (by omega)
 rw [show (2:Nat)^(64*1)-1=18446744073709551615 from rfl]at this
 rw [this]
 simp [Q,P,pkN,List.range_succ]
set_option exponentiation.threshold 1000 in
theorem Q_prev(f:Nat->W)(c:W)(n:Nat):Nat.add (Nat.mul (Nat.land (Q (List.range (8+n)) f) (2^(64*n)-1)) (2^512)) (Nat.mul (ones 8) c.toNat)=Q (List.range (8+n)) (fun l=>if l<8 then c else f (l-8)):=by
 have e:=z8q f (N:=8+n) (a:=0) (c:=n) (by omega)
 have e2:Nat.land (Q (List.range (8+n)) f) (2^(64*n)-1)=Q (List.range n) f:=by
  have:Nat.shiftRight (Q (List.range (8+n)) f) (64*0)=Q (List.range (8+n)) f:=rfl
  rw [this]at e
  rw [e]
  simp
 rw [e2,zh4]
 unfold Q P
 rw [List.range_add,List.map_append,ze4,List.length_map,List.length_range,List.map_map]
 have e3:(List.range 8).map (fun l=>(if l<8 then c else f (l-8)).toNat)=(List.range 8).map (fun _=>c.toNat):=by
  apply List.map_congr_left
  intro l hl
  rw [if_pos (List.mem_range.1 hl)]
 have e4:(List.range n).map ((fun l=>(if l<8 then c else f (l-8)).toNat) ∘ fun x=>8+x)=(List.range n).map (fun l=>(f l).toNat):=by
  apply List.map_congr_left
  intro l hl
  simp only [Function.comp]
  rw [if_neg (by omega),show 8+l-8=l by omega]
 rw [e3,e4]
 show pkN ((List.range n).map fun i=>(f i).toNat)*2^512+_=_
 rw [Nat.mul_comm,Nat.add_comm]
end
section
set_option maxRecDepth 4000
open Pk (P Q M one pkN)
/-! Words of bytes: a byte ahead of whole words. -/
def enc(ws:List W):List UInt8:=ws.flatMap fun x=>be 4 x.toNat
def lb(x:W):UInt8:=UInt8.ofNat x.toNat
theorem be4(n:Nat):be 4 n=[UInt8.ofNat (n/16777216),UInt8.ofNat (n/65536),UInt8.ofNat (n/256),UInt8.ofNat n]:=by
 simp [be,Nat.div_div_eq_div_mul]
theorem zd0(x:W)(l:List W):enc (x::l)=UInt8.ofNat (x.toNat/16777216)::UInt8.ofNat (x.toNat/65536)::UInt8.ofNat (x.toNat/256)::lb x::enc l:=by
 simp [enc,be4,lb]
theorem zcz(a b:List W):enc (a++b)=enc a++enc b:=by simp [enc]
theorem z80:∀l:List W,(enc l).length=4*l.length
 | []=>rfl
 |x::l=>by rw [zd0];simp [z80 l];omega
theorem zos(y x:W)(t:List UInt8):z12 (lb y::UInt8.ofNat (x.toNat/16777216)::UInt8.ofNat (x.toNat/65536)::UInt8.ofNat (x.toNat/256)::t) 0=shW y x:=by
 unfold z12 shW
 apply BitVec.eq_of_toNat_eq
 simp only [Nat.mul_zero,List.drop_zero,List.take_succ_cons,List.take_zero,getS,List.take_nil,val,List.foldl_cons,List.foldl_nil,lb,UInt8.toNat_ofNat',BitVec.toNat_ofNat,BitVec.toNat_add,BitVec.toNat_shiftLeft,BitVec.toNat_ushiftRight,Nat.shiftLeft_eq,Nat.shiftRight_eq_div_pow]
 have:=x.isLt
 have:=y.isLt
 omega
theorem zcd(s:List UInt8)(a i:Nat):z12 (s.drop (4*a)) i=z12 s (a+i):=by
 unfold z12
 rw [List.drop_drop]
 congr 4
 omega
theorem zd1:∀(i:Nat) (y:W) (l:List W) (t:List UInt8),i<l.length->z12 (lb y::(enc l++t)) i=shW ((y::l).getD i 0) ((y::l).getD (i+1) 0)
 | 0,y,x::l,t,_=>by
  rw [zd0]
  exact zos y x _
 |i+1,y,x::l,t,h=>by
  have e:(lb y::(enc (x::l)++t)).drop (4*1)=lb x::(enc l++t):=by rw [zd0];rfl
  have ih:=zd1 i x l t (by simpa using h)
  rw [<-e,zcd]at ih
  rw [show i+1=1+i by omega,ih]
  simp [List.getD_eq_getElem?_getD,Nat.add_comm 1 i]
theorem zfh(s:List UInt8){n i:Nat}(h:4*i+4<=n):z12 (s.take n) i=z12 s i:=by
 unfold z12
 rw [List.drop_take,List.take_take,Nat.min_eq_left (by omega)]
theorem zj8(y:W)(l:List W)(n:Nat)(h1:l.length*4+1=n):padS (lb y::enc l)=lb y::(enc l++128::(List.replicate ((119-n%64)%64) 0++be 8 (n*8))):=by
 unfold padS
 rw [List.length_cons,z80,show 4*l.length+1=n by omega]
 rfl
def padT:List W:=[2147483648#32,0#32,0#32,0#32,0#32,0#32,0#32,67584#32]
theorem zki(v:V8):padS (3::outV v)=(lb 3#32::enc (v.l++padT)).take 64/\ (padS (3::outV v)).length=64:=by
 have h:=zj8 3#32 v.l 33 (by rfl)
 have e:padS (3::outV v)=lb 3#32::(enc v.l++128::(List.replicate 22 0++be 8 264)):=h
 have e2:(lb 3#32::enc (v.l++padT)).take 64=lb 3#32::(enc v.l++(enc padT).take 31):=by
  rw [zcz,show 64=63+1 from rfl,List.take_succ_cons,show (63:Nat)=(enc v.l).length+31 by rw [z80];rfl,List.take_length_add_append]
 have e3:(enc padT).take 31=128::(List.replicate 22 0++be 8 264):=by decide+kernel
 refine⟨by rw [e,e2,e3],?_⟩
 rw [e]
 simp [z80,V8.l,be]
theorem ztw(v:V8)(i:Nat)(h:i<16):z12 (padS (3::outV v)) i=shW ((3#32::(v.l++padT)).getD i 0) ((3#32::(v.l++padT)).getD (i+1) 0):=by
 rw [(zki v).1,zfh _ (by omega)]
 have:=zd1 i 3#32 (v.l++padT) [] (by simp [V8.l,padT];omega)
 rwa [List.append_nil]at this
theorem zql(v:V8){s t:List UInt8}(h:∀i,i<16->z12 s i=z12 t i):mixS v s=mixS v t:=by
 have hw:∀n,z16 s n=z16 t n:=by
  intro n
  induction n with
  |zero=>rfl
  |succ n ih=>
   rw [z16,z16,ih]
   congr 2
   unfold z2x
   rw [z7m]
   split
   ·rename_i h1;exact h n h1
   ·rfl
 have hr:∀n,rnds s v n=rnds t v n:=by
  intro n
  induction n with
  |zero=>rfl
  |succ n ih=>rw [rnds,rnds,ih,hw]
 unfold mixS
 rw [hr]
theorem ziq(v:V8)(s:List UInt8):mixS v (s.take 64)=mixS v s:=zql v fun i h=>zfh s (by omega)
theorem zgn(v:V8)(s:List UInt8):blocks 1 v s=mixS v s:=by
 rw [blocks,ziq];rfl
end
section
set_option maxRecDepth 4000
open Pk (P Q M one pkN)
def m512:Nat:=13407807929942597099574024998205846127479365820592393377723561443721764030073546976801874298166903427690031858186486050853753882811946569946433649006084095
theorem zdr:m512=2^(64*8)-1:=by decide+kernel
noncomputable def z9l(m o u0 u1 u2 u3 u4 u5 u6 u7:Nat)(k:Nat->Nat->Nat->Nat->Nat->Nat->Nat->Nat->S8)(bs:List Nat):Nat->Nat->Nat->Nat->Nat->Nat->Nat->Nat->S8:=
 List.rec (motive:=fun _=>Nat->Nat->Nat->Nat->Nat->Nat->Nat->Nat->S8) k
  (fun j _ ih a b c d e f g h=>frc (Nat.mul j 1024) fun s=>frc (Nat.add s 512) fun s'=>
   frc (Nat.land (Nat.shiftRight u0 s) m512) fun w0=>
   frc (Nat.land (Nat.shiftRight u1 s) m512) fun w1=>
   frc (Nat.land (Nat.shiftRight u2 s) m512) fun w2=>
   frc (Nat.land (Nat.shiftRight u3 s) m512) fun w3=>
   frc (Nat.land (Nat.shiftRight u4 s) m512) fun w4=>
   frc (Nat.land (Nat.shiftRight u5 s) m512) fun w5=>
   frc (Nat.land (Nat.shiftRight u6 s) m512) fun w6=>
   frc (Nat.land (Nat.shiftRight u7 s) m512) fun w7=>
   frc (Nat.land (Nat.shiftRight u0 s') m512) fun w8=>
   frc (Nat.land (Nat.shiftRight u1 s') m512) fun w9=>
   frc (Nat.land (Nat.shiftRight u2 s') m512) fun w10=>
   frc (Nat.land (Nat.shiftRight u3 s') m512) fun w11=>
   frc (Nat.land (Nat.shiftRight u4 s') m512) fun w12=>
   frc (Nat.land (Nat.shiftRight u5 s') m512) fun w13=>
   frc (Nat.land (Nat.shiftRight u6 s') m512) fun w14=>
   frc (Nat.land (Nat.shiftRight u7 s') m512) fun w15=>
   finN m a b c d e f g h ih (goN m o k64 a b c d e f g h w0 w1 w2 w3 w4 w5 w6 w7 w8 w9 w10 w11 w12 w13 w14 w15)) bs
theorem zqi(m o u0 u1 u2 u3 u4 u5 u6 u7:Nat)(k:Nat->Nat->Nat->Nat->Nat->Nat->Nat->Nat->S8)(j:Nat)(bs:List Nat)(a b c d e f g h:Nat):z9l m o u0 u1 u2 u3 u4 u5 u6 u7 k (j::bs) a b c d e f g h=
  finN m a b c d e f g h (z9l m o u0 u1 u2 u3 u4 u5 u6 u7 k bs) (goN m o k64 a b c d e f g h (Nat.land (Nat.shiftRight u0 (Nat.mul j 1024)) m512)
   (Nat.land (Nat.shiftRight u1 (Nat.mul j 1024)) m512)
   (Nat.land (Nat.shiftRight u2 (Nat.mul j 1024)) m512)
   (Nat.land (Nat.shiftRight u3 (Nat.mul j 1024)) m512)
   (Nat.land (Nat.shiftRight u4 (Nat.mul j 1024)) m512)
   (Nat.land (Nat.shiftRight u5 (Nat.mul j 1024)) m512)
   (Nat.land (Nat.shiftRight u6 (Nat.mul j 1024)) m512)
   (Nat.land (Nat.shiftRight u7 (Nat.mul j 1024)) m512)
   (Nat.land (Nat.shiftRight u0 (Nat.add (Nat.mul j 1024) 512)) m512)
   (Nat.land (Nat.shiftRight u1 (Nat.add (Nat.mul j 1024) 512)) m512)
   (Nat.land (Nat.shiftRight u2 (Nat.add (Nat.mul j 1024) 512)) m512)
   (Nat.land (Nat.shiftRight u3 (Nat.add (Nat.mul j 1024) 512)) m512)
   (Nat.land (Nat.shiftRight u4 (Nat.add (Nat.mul j 1024) 512)) m512)
   (Nat.land (Nat.shiftRight u5 (Nat.add (Nat.mul j 1024) 512)) m512)
   (Nat.land (Nat.shiftRight u6 (Nat.add (Nat.mul j 1024) 512)) m512)
   (Nat.land (Nat.shiftRight u7 (Nat.add (Nat.mul j 1024) 512)) m512)):=by
 unfold z9l
 dsimp only
 rw [zz,zz,zz,zz,zz,zz,zz,zz,zz,zz,zz,zz,zz,zz,zz,zz,zz,zz]
def z1y(v2:Nat->V8)(i:Nat):List W:=(List.range 512).flatMap fun k=>(v2 (8*k+i)).l
theorem flat8(f:Nat->V8):∀(n k t:Nat),k<n->t<8->((List.range n).flatMap fun k=>(f k).l)[8*k+t]? =(f k).l[t]?
 |n+1,k,t,hk,ht=>by
  have hl:∀n,((List.range n).flatMap fun k=>(f k).l).length=8*n:=by
   intro n
   induction n with
   |zero=>rfl
   |succ n ih=>rw [List.range_succ,List.flatMap_append,List.length_append,ih];simp [V8.l];omega
  rw [List.range_succ,List.flatMap_append]
  by_cases h:k<n
  ·rw [List.getElem?_append_left (by rw [hl];omega)]
   exact flat8 f n k t h ht
  ·obtain rfl:k=n:=by omega
   rw [List.getElem?_append_right (by rw [hl];omega),hl,Nat.add_sub_cancel_left]
   simp
theorem z65(v2:Nat->V8)(i:Nat):(z1y v2 i).length=4096:=by
 unfold z1y
 have hl:∀n,((List.range n).flatMap fun k=>(v2 (8*k+i)).l).length=8*n:=by
  intro n
  induction n with
  |zero=>rfl
  |succ n ih=>rw [List.range_succ,List.flatMap_append,List.length_append,ih];simp [V8.l];omega
 rw [hl]
theorem zbz(v2:Nat->V8)(i k t:Nat)(hk:k<512)(ht:t<8):(z1y v2 i)[8*k+t]? =(v2 (8*k+i)).l[t]?:=flat8 (fun k=>v2 (8*k+i)) 512 k t hk ht
def longT:List W:=[2147483648#32,0#32,0#32,0#32,0#32,0#32,0#32,0#32,0#32,0#32,0#32,0#32,0#32,0#32,0#32,33556480#32]
theorem zil(l:List W)(hl:l.length=4096):padS (4::enc l)=(lb 4#32::enc (l++longT)).take 16448/\ (padS (4::enc l)).length=16448:=by
 have h:=zj8 4#32 l 16385 (by rw [hl])
 have e:padS (4::enc l)=lb 4#32::(enc l++128::(List.replicate 54 0++be 8 131080)):=h
 have e2:(lb 4#32::enc (l++longT)).take 16448=lb 4#32::(enc l++(enc longT).take 63):=by
  rw [zcz,show 16448=16447+1 from rfl,List.take_succ_cons,show (16447:Nat)=(enc l).length+63 by rw [z80,hl],List.take_length_add_append]
 have e3:(enc longT).take 63=128::(List.replicate 54 0++be 8 131080):=by decide+kernel
 refine⟨by rw [e,e2,e3],?_⟩
 rw [e]
 simp [z80,hl,be]
theorem zin(l:List W)(hl:l.length=4096)(i:Nat)(h:i<4112):z12 (padS (4::enc l)) i=shW ((4#32::(l++longT)).getD i 0) ((4#32::(l++longT)).getD (i+1) 0):=by
 rw [(zil l hl).1,zfh _ (by omega)]
 have:=zd1 i 4#32 (l++longT) [] (by rw [List.length_append,hl];simp [longT];omega)
 rwa [List.append_nil]at this
def v8w(v:V8)(t:Nat):W:=v.l.getD t 0
def pw(v2:Nat->V8)(t l:Nat):W:=if t=0 then(if l<8 then 4#32 else v8w (v2 (l-8)) 7)else v8w (v2 l) (t-1)
theorem zik(v2:Nat->V8)(i k t:Nat)(hi:i<8)(hk:k<512)(ht:t<8):z12 (padS (4::enc (z1y v2 i))) (8*k+t)=shW (pw v2 t (8*k+i)) (v8w (v2 (8*k+i)) t):=by
 rw [zin _ (z65 v2 i) _ (by omega)]
 have e1:(4#32::(z1y v2 i++longT)).getD (8*k+t+1) 0=v8w (v2 (8*k+i)) t:=by
  rw [List.getD_eq_getElem?_getD,List.getElem?_cons_succ,List.getElem?_append_left (by rw [z65];omega),zbz v2 i k t hk ht,<-List.getD_eq_getElem?_getD];rfl
 have e2:(4#32::(z1y v2 i++longT)).getD (8*k+t) 0=pw v2 t (8*k+i):=by
  unfold pw
  by_cases h0:t=0
  ·subst h0
   rw [if_pos rfl]
   by_cases hk0:k=0
   ·subst hk0
    rw [if_pos (by omega)];rfl
   ·rw [if_neg (by omega),show 8*k+0=(8*(k-1)+7)+1 by omega,List.getD_eq_getElem?_getD,List.getElem?_cons_succ,List.getElem?_append_left (by rw [z65];omega),zbz v2 i (k-1) 7 (by omega) (by omega),<-List.getD_eq_getElem?_getD,show 8*k+i-8=8*(k-1)+i by omega];rfl
  ·rw [if_neg h0,show 8*k+t=(8*k+(t-1))+1 by omega,List.getD_eq_getElem?_getD,List.getElem?_cons_succ,List.getElem?_append_left (by rw [z65];omega),zbz v2 i k (t-1) hk (by omega),<-List.getD_eq_getElem?_getD];rfl
 rw [e1,e2]
theorem zgm:∀(n:Nat) (v:V8) (s:List UInt8),blocks (n+1) v s=mixS (blocks n v s) (s.drop (64*n))
 | 0,v,s=>by rw [zgn];rfl
 |n+1,v,s=>by
  rw [blocks,zgm n,List.drop_drop,<-blocks,show 64+64*n=64*(n+1)by omega]
def uT(v2:Nat->V8)(t:Nat):Nat:=Q (List.range 4096) fun l=>shW (pw v2 t l) (v8w (v2 l) t)
theorem u_at(v2:Nat->V8)(b:Nat)(hb:b<256)(t:Nat)(ht:t<8):Nat.land (Nat.shiftRight (uT v2 t) (Nat.mul b 1024)) m512=Q (List.range 8) (fun i=>z12 ((padS (4::enc (z1y v2 i))).drop (64*b)) t):=by
 have h:=z8q (fun l=>shW (pw v2 t l) (v8w (v2 l) t)) (N:=4096) (a:=16*b) (c:=8) (by omega)
 rw [<-zdr,show 64*(16*b)=Nat.mul b 1024 by show _=b*1024;omega]at h
 unfold uT
 rw [h]
 unfold Q P
 congr 1
 apply List.map_congr_left
 intro i hi
 dsimp only
 rw [show 64*b=4*(16*b)by omega,zcd,show 16*b+t=8*(2*b)+t by omega,zik v2 i (2*b) t (List.mem_range.1 hi) (by omega) ht,show 8*(2*b)+i=16*b+i by omega]
theorem z73(v2:Nat->V8)(b:Nat)(hb:b<256)(t:Nat)(ht:t<8):Nat.land (Nat.shiftRight (uT v2 t) (Nat.add (Nat.mul b 1024) 512)) m512=Q (List.range 8) (fun i=>z12 ((padS (4::enc (z1y v2 i))).drop (64*b)) (8+t)):=by
 have h:=z8q (fun l=>shW (pw v2 t l) (v8w (v2 l) t)) (N:=4096) (a:=16*b+8) (c:=8) (by omega)
 rw [<-zdr,show 64*(16*b+8)=Nat.add (Nat.mul b 1024) 512 by show _=b*1024+512;omega]at h
 unfold uT
 rw [h]
 unfold Q P
 congr 1
 apply List.map_congr_left
 intro i hi
 dsimp only
 rw [show 64*b=4*(16*b)by omega,zcd,show 16*b+(8+t)=8*(2*b+1)+t by omega,zik v2 i (2*b+1) t (List.mem_range.1 hi) (by omega) ht,show 8*(2*b+1)+i=16*b+8+i by omega]
theorem zif(v2:Nat->V8)(k:Nat->Nat->Nat->Nat->Nat->Nat->Nat->Nat->S8):∀(n b:Nat) (v:Nat->V8),b+n=256->
  z9l (M (List.range 8)) (one (List.range 8)) (uT v2 0) (uT v2 1) (uT v2 2) (uT v2 3) (uT v2 4) (uT v2 5) (uT v2 6) (uT v2 7) k (List.range' b n) (Q (List.range 8) fun i=>(v i).a) (Q (List.range 8) fun i=>(v i).b) (Q (List.range 8) fun i=>(v i).c) (Q (List.range 8) fun i=>(v i).d) (Q (List.range 8) fun i=>(v i).e) (Q (List.range 8) fun i=>(v i).f) (Q (List.range 8) fun i=>(v i).g) (Q (List.range 8) fun i=>(v i).h)=
  k (Q (List.range 8) fun i=>(blocks n (v i) ((padS (4::enc (z1y v2 i))).drop (64*b))).a) (Q (List.range 8) fun i=>(blocks n (v i) ((padS (4::enc (z1y v2 i))).drop (64*b))).b) (Q (List.range 8) fun i=>(blocks n (v i) ((padS (4::enc (z1y v2 i))).drop (64*b))).c) (Q (List.range 8) fun i=>(blocks n (v i) ((padS (4::enc (z1y v2 i))).drop (64*b))).d) (Q (List.range 8) fun i=>(blocks n (v i) ((padS (4::enc (z1y v2 i))).drop (64*b))).e) (Q (List.range 8) fun i=>(blocks n (v i) ((padS (4::enc (z1y v2 i))).drop (64*b))).f) (Q (List.range 8) fun i=>(blocks n (v i) ((padS (4::enc (z1y v2 i))).drop (64*b))).g) (Q (List.range 8) fun i=>(blocks n (v i) ((padS (4::enc (z1y v2 i))).drop (64*b))).h)
 | 0,b,v,h=>rfl
 |n+1,b,v,h=>by
  have ih:=zif v2 k n (b+1) (fun i=>mixS (v i) ((padS (4::enc (z1y v2 i))).drop (64*b))) (by omega)
  rw [List.range'_succ,zqi]
  refine(zax (List.range 8) (fun i=>(padS (4::enc (z1y v2 i))).drop (64*b)) v _ _ _ _ _ _ _ _ _ _ _ _ _ _ _ _ _ (u_at v2 b (by omega) 0 (by omega)) (u_at v2 b (by omega) 1 (by omega)) (u_at v2 b (by omega) 2 (by omega)) (u_at v2 b (by omega) 3 (by omega)) (u_at v2 b (by omega) 4 (by omega)) (u_at v2 b (by omega) 5 (by omega)) (u_at v2 b (by omega) 6 (by omega)) (u_at v2 b (by omega) 7 (by omega)) (z73 v2 b (by omega) 0 (by omega)) (z73 v2 b (by omega) 1 (by omega)) (z73 v2 b (by omega) 2 (by omega)) (z73 v2 b (by omega) 3 (by omega)) (z73 v2 b (by omega) 4 (by omega)) (z73 v2 b (by omega) 5 (by omega)) (z73 v2 b (by omega) 6 (by omega)) (z73 v2 b (by omega) 7 (by omega))).trans ?_
  refine ih.trans ?_
  have e:∀i,blocks (n+1) (v i) ((padS (4::enc (z1y v2 i))).drop (64*b))=blocks n (mixS (v i) ((padS (4::enc (z1y v2 i))).drop (64*b))) ((padS (4::enc (z1y v2 i))).drop (64*(b+1))):=fun i=>by
   rw [blocks,ziq,List.drop_drop,show 64*b+64=64*(b+1)by omega]
  simp only [e]
end
section
set_option maxRecDepth 4000
open Pk (P Q M one pkN)
def zb9:Nat:=Nat.sub (Nat.pow 2 261632) 1
def p512:Nat:=Nat.pow 2 512
theorem zs2:zb9=2^(64*4088)-1:=by decide+kernel
theorem zs3:p512=2^512:=by decide+kernel
noncomputable def zb6(m o z a b c d e f g h:Nat):S8:=
 frc (shN m z (Nat.mul o 2147483648)) fun q0=>
 frc (Nat.mul o 0) fun q1=>
 frc (Nat.mul o 131080) fun q15=>
 finN m a b c d e f g h S8.mk (goN m o k64 a b c d e f g h q0 q1 q1 q1 q1 q1 q1 q1 q1 q1 q1 q1 q1 q1 q1 q15)
noncomputable def zc3(m8 o8 m y0 y1 y2 y3 y4 y5 y6 y7:Nat):S8:=
 frc (shN m (Nat.add (Nat.mul (Nat.land y7 zb9) p512) (Nat.mul o8 4)) y0) fun u0=>
 frc (shN m y0 y1) fun u1=>
 frc (shN m y1 y2) fun u2=>
 frc (shN m y2 y3) fun u3=>
 frc (shN m y3 y4) fun u4=>
 frc (shN m y4 y5) fun u5=>
 frc (shN m y5 y6) fun u6=>
 frc (shN m y6 y7) fun u7=>
 frc (Nat.land (Nat.shiftRight y7 261632) m512) fun z=>
 frc (Nat.mul o8 1779033703) fun na=>
 frc (Nat.mul o8 3144134277) fun nb=>
 frc (Nat.mul o8 1013904242) fun nc=>
 frc (Nat.mul o8 2773480762) fun nd=>
 frc (Nat.mul o8 1359893119) fun ne=>
 frc (Nat.mul o8 2600822924) fun nf=>
 frc (Nat.mul o8 528734635) fun ng=>
 frc (Nat.mul o8 1541459225) fun nh=>
 z9l m8 o8 u0 u1 u2 u3 u4 u5 u6 u7 (zb6 m8 o8 z) (List.range' 0 256) na nb nc nd ne nf ng nh
noncomputable def zbw(m8 o8 m o x0 x1 x2 x3 x4 x5 x6 x7:Nat):S8:=
 frc (shN m (Nat.mul o 3) x0) fun s0=>
 frc (shN m x0 x1) fun s1=>
 frc (shN m x1 x2) fun s2=>
 frc (shN m x2 x3) fun s3=>
 frc (shN m x3 x4) fun s4=>
 frc (shN m x4 x5) fun s5=>
 frc (shN m x5 x6) fun s6=>
 frc (shN m x6 x7) fun s7=>
 frc (shN m x7 (Nat.mul o 2147483648)) fun s8=>
 frc (Nat.mul o 0) fun s9=>
 frc (Nat.mul o 264) fun s15=>
 frc (Nat.mul o 1779033703) fun na=>
 frc (Nat.mul o 3144134277) fun nb=>
 frc (Nat.mul o 1013904242) fun nc=>
 frc (Nat.mul o 2773480762) fun nd=>
 frc (Nat.mul o 1359893119) fun ne=>
 frc (Nat.mul o 2600822924) fun nf=>
 frc (Nat.mul o 528734635) fun ng=>
 frc (Nat.mul o 1541459225) fun nh=>
 finN m na nb nc nd ne nf ng nh (zc3 m8 o8 m) (goN m o k64 na nb nc nd ne nf ng nh s0 s1 s2 s3 s4 s5 s6 s7 s8 s9 s9 s9 s9 s9 s9 s15)
noncomputable def zb7(wf:Nat->Nat->Nat):S8:=
 frc (ones 4096) fun o=>
 frc (Nat.mul o 4294967295) fun m=>
 frc (ones 8) fun o8=>
 frc (Nat.mul o8 4294967295) fun m8=>
 frc (Nat.land (pkR (wf 0) 4096 0) m) fun w0=>
 frc (Nat.land (pkR (wf 1) 4096 0) m) fun w1=>
 frc (Nat.land (pkR (wf 2) 4096 0) m) fun w2=>
 frc (Nat.land (pkR (wf 3) 4096 0) m) fun w3=>
 frc (Nat.land (pkR (wf 4) 4096 0) m) fun w4=>
 frc (Nat.land (pkR (wf 5) 4096 0) m) fun w5=>
 frc (Nat.land (pkR (wf 6) 4096 0) m) fun w6=>
 frc (Nat.land (pkR (wf 7) 4096 0) m) fun w7=>
 frc (Nat.land (pkR (wf 8) 4096 0) m) fun w8=>
 frc (Nat.land (pkR (wf 9) 4096 0) m) fun w9=>
 frc (Nat.land (pkR (wf 10) 4096 0) m) fun w10=>
 frc (Nat.land (pkR (wf 11) 4096 0) m) fun w11=>
 frc (Nat.land (pkR (wf 12) 4096 0) m) fun w12=>
 frc (Nat.land (pkR (wf 13) 4096 0) m) fun w13=>
 frc (Nat.land (pkR (wf 14) 4096 0) m) fun w14=>
 frc (Nat.land (pkR (wf 15) 4096 0) m) fun w15=>
 frc (Nat.mul o 1779033703) fun na=>
 frc (Nat.mul o 3144134277) fun nb=>
 frc (Nat.mul o 1013904242) fun nc=>
 frc (Nat.mul o 2773480762) fun nd=>
 frc (Nat.mul o 1359893119) fun ne=>
 frc (Nat.mul o 2600822924) fun nf=>
 frc (Nat.mul o 528734635) fun ng=>
 frc (Nat.mul o 1541459225) fun nh=>
 finN m na nb nc nd ne nf ng nh (zbw m8 o8 m o) (goN m o k64 na nb nc nd ne nf ng nh w0 w1 w2 w3 w4 w5 w6 w7 w8 w9 w10 w11 w12 w13 w14 w15)
section
variable (v2:Nat->V8)
def tx(i:Nat):List UInt8:=padS (4::enc (z1y v2 i))
theorem zdo(i:Nat)(hi:i<8)(j:Nat)(hj:j<16):z12 ((tx v2 i).drop (64*256)) j=shW ((v8w (v2 (4088+i)) 7::longT).getD j 0) ((v8w (v2 (4088+i)) 7::longT).getD (j+1) 0):=by
 unfold tx
 rw [show 64*256=4*4096 from rfl,zcd,zin _ (z65 v2 i) _ (by omega)]
 have e1:∀n,(4#32::(z1y v2 i++longT)).getD (4096+n) 0=(v8w (v2 (4088+i)) 7::longT).getD n 0:=by
  intro n
  match n with
  | 0=>
   rw [Nat.add_zero,show (4096:Nat)=(8*511+7)+1 from rfl,List.getD_eq_getElem?_getD,List.getElem?_cons_succ,List.getElem?_append_left (by rw [z65];omega),zbz v2 i 511 7 (by omega) (by omega),<-List.getD_eq_getElem?_getD,show 8*511+i=4088+i by omega];rfl
  |n+1=>
   rw [show 4096+(n+1)=(4096+n)+1 by omega,List.getD_eq_getElem?_getD,List.getElem?_cons_succ,List.getElem?_append_right (by rw [z65];omega),z65,Nat.add_sub_cancel_left,List.getD_eq_getElem?_getD,List.getElem?_cons_succ]
 rw [e1,Nat.add_assoc,e1]
theorem z8b(n:Nat)(c:W)(k:Nat)(h:c.toNat=k):Nat.mul (one (List.range n)) k=Q (List.range n) (fun _=>c):=by subst h;rw [<-z88];exact zh4 n c
set_option exponentiation.threshold 1000 in
theorem q_prev(f:Nat->W)(c:W)(n N p k:Nat)(hN:N=8+n)(hp:p=2^(64*n)-1)(hk:c.toNat=k):Nat.add (Nat.mul (Nat.land (Q (List.range N) f) p) p512) (Nat.mul (one (List.range 8)) k)=Q (List.range N) (fun l=>if l<8 then c else f (l-8)):=by
 subst hN hp hk
 rw [zs3,<-z88]
 exact Q_prev f c n
theorem zea{n:Nat}{f g:Nat->W}(h:∀i,i<n->f i=g i):Q (List.range n) f=Q (List.range n) g:=by
 unfold Q P
 congr 1
 apply List.map_congr_left
 intro i hi
 rw [h i (List.mem_range.1 hi)]
theorem zqf (v : Nat -> V8) : zb6 (M (List.range 8)) (one (List.range 8)) (Q (List.range 8) fun i => v8w (v2 (4088 + i)) 7) (Q (List.range 8) fun i => (v i).a) (Q (List.range 8) fun i => (v i).b) (Q (List.range 8) fun i => (v i).c) (Q (List.range 8) fun i => (v i).d) (Q (List.range 8) fun i => (v i).e) (Q (List.range 8) fun i => (v i).f) (Q (List.range 8) fun i => (v i).g) (Q (List.range 8) fun i => (v i).h) =
    S8.mk (Q (List.range 8) fun i=>(mixS (v i) ((tx v2 i).drop (64*256))).a) (Q (List.range 8) fun i=>(mixS (v i) ((tx v2 i).drop (64*256))).b) (Q (List.range 8) fun i=>(mixS (v i) ((tx v2 i).drop (64*256))).c) (Q (List.range 8) fun i=>(mixS (v i) ((tx v2 i).drop (64*256))).d) (Q (List.range 8) fun i=>(mixS (v i) ((tx v2 i).drop (64*256))).e) (Q (List.range 8) fun i=>(mixS (v i) ((tx v2 i).drop (64*256))).f) (Q (List.range 8) fun i=>(mixS (v i) ((tx v2 i).drop (64*256))).g) (Q (List.range 8) fun i=>(mixS (v i) ((tx v2 i).drop (64*256))).h):=by
  unfold zb6
  rw [zz,zz,zz]
  have h0:shN (M (List.range 8)) (Q (List.range 8) fun i=>v8w (v2 (4088+i)) 7) (Nat.mul (one (List.range 8)) 2147483648)=Q (List.range 8) fun i=>z12 ((tx v2 i).drop (64*256)) 0:=by
    have e:Nat.mul (one (List.range 8)) 2147483648=Q (List.range 8) fun _=>2147483648#32:=z8b 8 2147483648#32 _ rfl
    rw [e,z3v]
    exact zea fun i hi=>(zdo v2 i hi 0 (by omega)).symm
  have hz:∀j,1<=j->j<15->Nat.mul (one (List.range 8)) 0=Q (List.range 8) fun i=>z12 ((tx v2 i).drop (64*256)) j:=by
    intro j h1 h2
    have e:Nat.mul (one (List.range 8)) 0=Q (List.range 8) fun _=>0#32:=z8b 8 0#32 _ rfl
    rw [e]
    refine zea fun i hi=> ?_
    rw [zdo v2 i hi j (by omega)]
    have:∀j:Fin 16,1<=j.val->j.val<15->0#32=shW (longT.getD (j.val-1) 0) (longT.getD j.val 0):=by decide+kernel
    have h3:=this ⟨j,by omega⟩ h1 h2
    obtain⟨k,rfl⟩:∃k,j=k+1:=⟨j-1,by omega⟩
    simpa [List.getD_eq_getElem?_getD]using h3
  have h15:Nat.mul (one (List.range 8)) 131080=Q (List.range 8) fun i=>z12 ((tx v2 i).drop (64*256)) 15:=by
    have e:Nat.mul (one (List.range 8)) 131080=Q (List.range 8) fun _=>131080#32:=z8b 8 131080#32 _ rfl
    rw [e]
    refine zea fun i hi=> ?_
    rw [zdo v2 i hi 15 (by omega)]
    have:131080#32=shW (longT.getD 14 0) (longT.getD 15 0):=by decide+kernel
    simpa [List.getD_eq_getElem?_getD]using this
  exact zax (List.range 8) (fun i=>(tx v2 i).drop (64*256)) v _ _ _ _ _ _ _ _ _ _ _ _ _ _ _ _ S8.mk h0 (hz 1 (by omega) (by omega)) (hz 2 (by omega) (by omega)) (hz 3 (by omega) (by omega)) (hz 4 (by omega) (by omega)) (hz 5 (by omega) (by omega)) (hz 6 (by omega) (by omega)) (hz 7 (by omega) (by omega)) (hz 8 (by omega) (by omega)) (hz 9 (by omega) (by omega)) (hz 10 (by omega) (by omega)) (hz 11 (by omega) (by omega)) (hz 12 (by omega) (by omega)) (hz 13 (by omega) (by omega)) (hz 14 (by omega) (by omega)) h15
def z84(i:Nat):V8:=blocks 257 v0 (tx v2 i)
def s8Q(f:Nat->V8):S8:=⟨Q (List.range 8) fun i=>(f i).a,Q (List.range 8) fun i=>(f i).b,Q (List.range 8) fun i=>(f i).c,Q (List.range 8) fun i=>(f i).d,Q (List.range 8) fun i=>(f i).e,Q (List.range 8) fun i=>(f i).f,Q (List.range 8) fun i=>(f i).g,Q (List.range 8) fun i=>(f i).h⟩
theorem zuy:zc3 (M (List.range 8)) (one (List.range 8)) (M (List.range 4096)) (Q (List.range 4096) fun i=>v8w (v2 i) 0) (Q (List.range 4096) fun i=>v8w (v2 i) 1) (Q (List.range 4096) fun i=>v8w (v2 i) 2) (Q (List.range 4096) fun i=>v8w (v2 i) 3) (Q (List.range 4096) fun i=>v8w (v2 i) 4) (Q (List.range 4096) fun i=>v8w (v2 i) 5) (Q (List.range 4096) fun i=>v8w (v2 i) 6) (Q (List.range 4096) fun i=>v8w (v2 i) 7)=s8Q (z84 v2):=by
 unfold zc3
 rw [zz,zz,zz,zz,zz,zz,zz,zz,zz,zz,zz,zz,zz,zz,zz,zz,zz]
 have hp:Nat.add (Nat.mul (Nat.land (Q (List.range 4096) fun i=>v8w (v2 i) 7) zb9) p512) (Nat.mul (one (List.range 8)) 4)=Q (List.range 4096) (fun l=>if l<8 then 4#32 else v8w (v2 (l-8)) 7):=by
  exact q_prev (fun i=>v8w (v2 i) 7) 4#32 4088 4096 _ 4 rfl zs2 rfl
 have h0:shN (M (List.range 4096)) (Nat.add (Nat.mul (Nat.land (Q (List.range 4096) fun i=>v8w (v2 i) 7) zb9) p512) (Nat.mul (one (List.range 8)) 4)) (Q (List.range 4096) fun i=>v8w (v2 i) 0)=uT v2 0:=by
  rw [hp,z3v];rfl
 have ht:∀t,shN (M (List.range 4096)) (Q (List.range 4096) fun i=>v8w (v2 i) t) (Q (List.range 4096) fun i=>v8w (v2 i) (t+1))=uT v2 (t+1):=by
  intro t
  rw [z3v]
  unfold uT pw
  simp only [if_neg (Nat.succ_ne_zero t),Nat.add_sub_cancel]
 have hz:Nat.land (Nat.shiftRight (Q (List.range 4096) fun i=>v8w (v2 i) 7) 261632) m512=Q (List.range 8) fun i=>v8w (v2 (4088+i)) 7:=by
  rw [zdr]
  exact z8q (fun i=>v8w (v2 i) 7) (N:=4096) (a:=4088) (c:=8) (by omega)
 rw [h0,ht 0,ht 1,ht 2,ht 3,ht 4,ht 5,ht 6,hz]
 have hi:∀(c:W) (k:Nat),c.toNat=k->Nat.mul (one (List.range 8)) k=Q (List.range 8) fun _=>c:=z8b 8
 have r:=zif v2 (zb6 (M (List.range 8)) (one (List.range 8)) (Q (List.range 8) fun i=>v8w (v2 (4088+i)) 7)) 256 0 (fun _=>v0) rfl
 have na:Nat.mul (one (List.range 8)) 1779033703=Q (List.range 8) fun _=>v0.a:=hi 1779033703#32 _ rfl
 have nb:Nat.mul (one (List.range 8)) 3144134277=Q (List.range 8) fun _=>v0.b:=hi 3144134277#32 _ rfl
 have nc:Nat.mul (one (List.range 8)) 1013904242=Q (List.range 8) fun _=>v0.c:=hi 1013904242#32 _ rfl
 have nd:Nat.mul (one (List.range 8)) 2773480762=Q (List.range 8) fun _=>v0.d:=hi 2773480762#32 _ rfl
 have ne:Nat.mul (one (List.range 8)) 1359893119=Q (List.range 8) fun _=>v0.e:=hi 1359893119#32 _ rfl
 have nf:Nat.mul (one (List.range 8)) 2600822924=Q (List.range 8) fun _=>v0.f:=hi 2600822924#32 _ rfl
 have ng:Nat.mul (one (List.range 8)) 528734635=Q (List.range 8) fun _=>v0.g:=hi 528734635#32 _ rfl
 have nh:Nat.mul (one (List.range 8)) 1541459225=Q (List.range 8) fun _=>v0.h:=hi 1541459225#32 _ rfl
 rw [na,nb,nc,nd,ne,nf,ng,nh]
 refine r.trans ?_
 refine(zqf v2 (fun i=>blocks 256 v0 ((padS (4::enc (z1y v2 i))).drop (64*0)))).trans ?_
 unfold s8Q z84
 have e:∀i,blocks 257 v0 (tx v2 i)=mixS (blocks 256 v0 ((padS (4::enc (z1y v2 i))).drop (64*0))) ((tx v2 i).drop (64*256)):=fun i=>zgm 256 v0 _
 simp only [e]
end
section
variable (v1:Nat->V8)
def sh2(l:Nat):V8:=mixS v0 (padS (3::outV (v1 l)))
theorem ztu:zbw (M (List.range 8)) (one (List.range 8)) (M (List.range 4096)) (one (List.range 4096)) (Q (List.range 4096) fun i=>(v1 i).a) (Q (List.range 4096) fun i=>(v1 i).b) (Q (List.range 4096) fun i=>(v1 i).c) (Q (List.range 4096) fun i=>(v1 i).d) (Q (List.range 4096) fun i=>(v1 i).e) (Q (List.range 4096) fun i=>(v1 i).f) (Q (List.range 4096) fun i=>(v1 i).g) (Q (List.range 4096) fun i=>(v1 i).h)=s8Q (z84 (sh2 v1)):=by
 unfold zbw
 rw [zz,zz,zz,zz,zz,zz,zz,zz,zz,zz,zz,zz,zz,zz,zz,zz,zz,zz,zz]
 have hc:∀(c:W) (k:Nat),c.toNat=k->Nat.mul (one (List.range 4096)) k=Q (List.range 4096) fun _=>c:=z8b 4096
 have sw:∀j,j<16->∀i,shW ((3#32::((v1 i).l++padT)).getD j 0) ((3#32::((v1 i).l++padT)).getD (j+1) 0)=z12 (padS (3::outV (v1 i))) j:=fun j hj i=>(ztw (v1 i) j hj).symm
 have c3:Nat.mul (one (List.range 4096)) 3=Q (List.range 4096) fun _=>3#32:=hc 3#32 _ rfl
 have c8:Nat.mul (one (List.range 4096)) 2147483648=Q (List.range 4096) fun _=>2147483648#32:=hc 2147483648#32 _ rfl
 have c0:Nat.mul (one (List.range 4096)) 0=Q (List.range 4096) fun _=>0#32:=hc 0#32 _ rfl
 have cF:Nat.mul (one (List.range 4096)) 264=Q (List.range 4096) fun _=>264#32:=hc 264#32 _ rfl
 rw [c3,c8,c0,cF]
 have na:Nat.mul (one (List.range 4096)) 1779033703=Q (List.range 4096) fun _=>v0.a:=hc 1779033703#32 _ rfl
 have nb:Nat.mul (one (List.range 4096)) 3144134277=Q (List.range 4096) fun _=>v0.b:=hc 3144134277#32 _ rfl
 have nc:Nat.mul (one (List.range 4096)) 1013904242=Q (List.range 4096) fun _=>v0.c:=hc 1013904242#32 _ rfl
 have nd:Nat.mul (one (List.range 4096)) 2773480762=Q (List.range 4096) fun _=>v0.d:=hc 2773480762#32 _ rfl
 have ne:Nat.mul (one (List.range 4096)) 1359893119=Q (List.range 4096) fun _=>v0.e:=hc 1359893119#32 _ rfl
 have nf:Nat.mul (one (List.range 4096)) 2600822924=Q (List.range 4096) fun _=>v0.f:=hc 2600822924#32 _ rfl
 have ng:Nat.mul (one (List.range 4096)) 528734635=Q (List.range 4096) fun _=>v0.g:=hc 528734635#32 _ rfl
 have nh:Nat.mul (one (List.range 4096)) 1541459225=Q (List.range 4096) fun _=>v0.h:=hc 1541459225#32 _ rfl
 rw [na,nb,nc,nd,ne,nf,ng,nh]
 have w0:∀i,z12 (padS (3::outV (v1 i))) 0=shW 3#32 (v1 i).a:=fun i=>(sw 0 (by omega) i).symm.trans rfl
 have w1:∀i,z12 (padS (3::outV (v1 i))) 1=shW (v1 i).a (v1 i).b:=fun i=>(sw 1 (by omega) i).symm.trans rfl
 have w2:∀i,z12 (padS (3::outV (v1 i))) 2=shW (v1 i).b (v1 i).c:=fun i=>(sw 2 (by omega) i).symm.trans rfl
 have w3:∀i,z12 (padS (3::outV (v1 i))) 3=shW (v1 i).c (v1 i).d:=fun i=>(sw 3 (by omega) i).symm.trans rfl
 have w4:∀i,z12 (padS (3::outV (v1 i))) 4=shW (v1 i).d (v1 i).e:=fun i=>(sw 4 (by omega) i).symm.trans rfl
 have w5:∀i,z12 (padS (3::outV (v1 i))) 5=shW (v1 i).e (v1 i).f:=fun i=>(sw 5 (by omega) i).symm.trans rfl
 have w6:∀i,z12 (padS (3::outV (v1 i))) 6=shW (v1 i).f (v1 i).g:=fun i=>(sw 6 (by omega) i).symm.trans rfl
 have w7:∀i,z12 (padS (3::outV (v1 i))) 7=shW (v1 i).g (v1 i).h:=fun i=>(sw 7 (by omega) i).symm.trans rfl
 have w8:∀i,z12 (padS (3::outV (v1 i))) 8=shW (v1 i).h 2147483648#32:=fun i=>(sw 8 (by omega) i).symm.trans rfl
 have w9:∀i,z12 (padS (3::outV (v1 i))) 9=0#32:=fun i=>(sw 9 (by omega) i).symm.trans (by show shW 2147483648#32 0#32=_;decide+kernel)
 have w10:∀i,z12 (padS (3::outV (v1 i))) 10=0#32:=fun i=>(sw 10 (by omega) i).symm.trans (by show shW 0#32 0#32=_;decide+kernel)
 have w11:∀i,z12 (padS (3::outV (v1 i))) 11=0#32:=fun i=>(sw 11 (by omega) i).symm.trans (by show shW 0#32 0#32=_;decide+kernel)
 have w12:∀i,z12 (padS (3::outV (v1 i))) 12=0#32:=fun i=>(sw 12 (by omega) i).symm.trans (by show shW 0#32 0#32=_;decide+kernel)
 have w13:∀i,z12 (padS (3::outV (v1 i))) 13=0#32:=fun i=>(sw 13 (by omega) i).symm.trans (by show shW 0#32 0#32=_;decide+kernel)
 have w14:∀i,z12 (padS (3::outV (v1 i))) 14=0#32:=fun i=>(sw 14 (by omega) i).symm.trans (by show shW 0#32 0#32=_;decide+kernel)
 have w15:∀i,z12 (padS (3::outV (v1 i))) 15=264#32:=fun i=>(sw 15 (by omega) i).symm.trans (by show shW 0#32 67584#32=_;decide+kernel)
 refine(zax (List.range 4096) (fun i=>padS (3::outV (v1 i))) (fun _=>v0) _ _ _ _ _ _ _ _ _ _ _ _ _ _ _ _ (zc3 (M (List.range 8)) (one (List.range 8)) (M (List.range 4096))) (by simp only [w0];exact z3v _ _ _) (by simp only [w1];exact z3v _ _ _) (by simp only [w2];exact z3v _ _ _) (by simp only [w3];exact z3v _ _ _) (by simp only [w4];exact z3v _ _ _) (by simp only [w5];exact z3v _ _ _) (by simp only [w6];exact z3v _ _ _) (by simp only [w7];exact z3v _ _ _) (by simp only [w8];exact z3v _ _ _) (by simp only [w9]) (by simp only [w10]) (by simp only [w11]) (by simp only [w12]) (by simp only [w13]) (by simp only [w14]) (by simp only [w15])).trans ?_
 exact zuy (sh2 v1)
end
set_option exponentiation.threshold 300000 in
theorem zqh(wf:Nat->Nat->Nat)(msg:Nat->List UInt8)(hm:∀l j,j<16->z12 (padS (msg l)) j=BitVec.ofNat 32 (wf j l))(hb:∀j l,wf j l<2^64):zb7 wf=s8Q (z84 (sh2 fun l=>mixS v0 (padS (msg l)))):=by
 unfold zb7
 rw [zz,zz,zz,zz,zz,zz,zz,zz,zz,zz,zz,zz,zz,zz,zz,zz,zz,zz,zz,zz,zz,zz,zz,zz,zz,zz,zz,zz]
 rw [M_is,M_is,z88,z88]
 have hc:∀(c:W) (k:Nat),c.toNat=k->Nat.mul (one (List.range 4096)) k=Q (List.range 4096) fun _=>c:=z8b 4096
 have na:Nat.mul (one (List.range 4096)) 1779033703=Q (List.range 4096) fun _=>v0.a:=hc 1779033703#32 _ rfl
 have nb:Nat.mul (one (List.range 4096)) 3144134277=Q (List.range 4096) fun _=>v0.b:=hc 3144134277#32 _ rfl
 have nc:Nat.mul (one (List.range 4096)) 1013904242=Q (List.range 4096) fun _=>v0.c:=hc 1013904242#32 _ rfl
 have nd:Nat.mul (one (List.range 4096)) 2773480762=Q (List.range 4096) fun _=>v0.d:=hc 2773480762#32 _ rfl
 have ne:Nat.mul (one (List.range 4096)) 1359893119=Q (List.range 4096) fun _=>v0.e:=hc 1359893119#32 _ rfl
 have nf:Nat.mul (one (List.range 4096)) 2600822924=Q (List.range 4096) fun _=>v0.f:=hc 2600822924#32 _ rfl
 have ng:Nat.mul (one (List.range 4096)) 528734635=Q (List.range 4096) fun _=>v0.g:=hc 528734635#32 _ rfl
 have nh:Nat.mul (one (List.range 4096)) 1541459225=Q (List.range 4096) fun _=>v0.h:=hc 1541459225#32 _ rfl
 rw [na,nb,nc,nd,ne,nf,ng,nh]
 have hw:∀j,j<16->Nat.land (pkR (wf j) 4096 0) (M (List.range 4096))=Q (List.range 4096) fun l=>z12 (padS (msg l)) j:=by
  intro j hj
  rw [zjd,Nat.mul_zero,Nat.add_zero]
  exact z87 _ _ (hb j) fun i=>(hm i j hj).symm
 refine(zax (List.range 4096) (fun i=>padS (msg i)) (fun _=>v0) _ _ _ _ _ _ _ _ _ _ _ _ _ _ _ _ (zbw (M (List.range 8)) (one (List.range 8)) (M (List.range 4096)) (one (List.range 4096))) (hw 0 (by omega)) (hw 1 (by omega)) (hw 2 (by omega)) (hw 3 (by omega)) (hw 4 (by omega)) (hw 5 (by omega)) (hw 6 (by omega)) (hw 7 (by omega)) (hw 8 (by omega)) (hw 9 (by omega)) (hw 10 (by omega)) (hw 11 (by omega)) (hw 12 (by omega)) (hw 13 (by omega)) (hw 14 (by omega)) (hw 15 (by omega))).trans ?_
 exact ztu fun l=>mixS v0 (padS (msg l))
end
section
theorem rl_c{k:Nat}:∀(l:List W),RLs k (ws l)
 | []=>by simp [ws,RLs]
 | _::l=>by have:=rl_c (k:=k) l;simp only [ws]at this;simp [ws,wc,RLs,RL,this]
theorem z2m{k:Nat}{l:List AV}(h:RLs k l):RL k (.agg l):=by simpa only [RL]using h
theorem zc5(O:Store)(x:W)(k:Int)(h:0<k/\ k<32):ACallsTo TC 89 [.int .u32 x.toNat,.int .u32 k] O (.int .u32 (x.rotateLeft (32-k.toNat)).toNat) O:=by
 refine ACallsTo.of_body qaok (by simp) fun hw _=> ?_
 repeat' (first|apply zs_|apply zb_|apply zc_|apply zt_ rfl|apply zf_ rfl|(apply zd_ rfl<;>intro ht<;>try omega)|((first|apply zr_|apply zk_|apply ze_|apply zq_|(apply zG<;>intro ht));all_goals try simp (disch:=first|omega|(simp only [lens];first|done|omega)) only [go_sem]))
 have e:(x>>>k.toNat |||x<<<(32-k).toNat)=x.rotateLeft (32-k.toNat):=by
  obtain⟨n,rfl⟩:∃n:Nat,k=n:=⟨k.toNat,by omega⟩
  have e1:((32:Int)-n).toNat=32-n:=by omega
  rw [e1,Int.toNat_natCast,BitVec.rotateLeft_def,BitVec.or_comm]
  have:(32-n)%32=32-n:=Nat.mod_eq_of_lt (by omega)
  rw [this]
  congr 2
  omega
 rw [e]
 exact DownV.same hw (z14 _ rfl)
theorem zv9(s:List UInt8)(i:Nat):IntKind.u32.wrap ((getS ((s.drop (4*i)).take 4):Nat):Int)=((z12 s i).toNat:Int):=by
 rw [za8,z12,BitVec.toNat_ofNat];rfl
theorem znd{w:List W}{x:W}{n:Nat}(h:w.length=n)(hn:n<64):(ws w++List.replicate (64-n) (AV.int .u32 0)).take n++AV.int .u32 x.toNat::(ws w++List.replicate (64-n) (AV.int .u32 0)).drop (n+1)=ws (w++ [x])++List.replicate (64-(n+1)) (AV.int .u32 0):=by
 have hl:(ws w).length=n:=by rw [z49,h]
 have e:64-n=(64-(n+1))+1:=by omega
 rw [List.take_append_of_le_length (by omega),List.take_of_length_le (by omega),List.drop_append,List.drop_of_length_le (by omega),hl]
 rw [show n+1-n=1 by omega,e,List.replicate_succ,List.drop_succ_cons,List.drop_zero,List.nil_append]
 simp [ws,wc]
theorem zu8(O:Store)(s:List UInt8)(h:64<=s.length)(hs:s.length<9223372036854775808):ACallsTo TC 131 [.str s] O (.agg (ws (z16 s 64))) O:=by
 obtain⟨R,hR⟩:∃R,R=z16 s 64:=⟨_,rfl⟩
 rw [<-hR]
 refine ACallsTo.of_body qdok (by simp) fun hw _=> ?_
 repeat' (first|apply zs_|apply zb_|apply zc_|apply zt_ rfl|apply zf_ rfl|(apply zd_ rfl<;>intro ht<;>try omega)|((first|apply zr_|apply zk_|apply ze_|apply zq_|(apply zG<;>intro ht));all_goals try simp (disch:=first|omega|(simp only [lens];first|done|omega)) only [go_sem]))
 refine zW.loop (fun m J O'=>∃i:Nat,m+i=64/\ J 0=.str s/\ J 2=.ptr O.length 0 0/\ J 6=.int .i64 i/\ O'=O++ [some [ws (z16 s i)++List.replicate (64-i) (AV.int .u32 0)]]) 64 ?_ ?_
 ·exact⟨0,by omega,by simp (disch:=first|omega|(simp only [lens];first|done|omega)) only [go_sem],by simp (disch:=first|omega|(simp only [lens];first|done|omega)) only [go_sem],by simp (disch:=first|omega|(simp only [lens];first|done|omega)) only [go_sem];rfl,rfl⟩
 ·rintro m J O' ⟨i,hm,q0,q2,q6,rfl⟩
  have hsl:=z4k s i
  have hset:=fun x=>znd (x:=x) hsl
  have hwi:∀j,j<i->(ws (z16 s i)++List.replicate (64-i) (AV.int .u32 0))[j]? =some (.int .u32 (wat (z16 s i) j).toNat):=by
   intro j hj
   rw [List.getElem?_append_left (by rw [z49];omega),z8l (by omega)]
  have hlen:(ws (z16 s i)++List.replicate (64-i) (AV.int .u32 0)).length=64 \/64<i:=by
   simp [z49,hsl];omega
  by_cases hi:i<64
  ·have hlen:(ws (z16 s i)++List.replicate (64-i) (AV.int .u32 0)).length=64:=by omega
   generalize hcc:ws (z16 s i)++List.replicate (64-i) (AV.int .u32 0)=cc at*
   by_cases h16:i<16
   ·have hd1:(s.take (4*i+4)).length=4*i+4:=by rw [List.length_take];omega
    repeat' (first|apply zs_|apply zb_|apply zc_|apply zt_ rfl|apply zf_ rfl|(apply zd_ rfl<;>intro ht<;>try omega)|((first|apply zr_|apply zk_|apply ze_|apply zq_|(apply callW.mk_pu;(first|exact(fun _=>zgl _ _ (by simp;omega))))|(apply callW.za;(first|exact(zgl _ _ (by simp;omega))))|(apply zG<;>intro ht));all_goals try simp (disch:=first|omega|(simp only [lens];first|done|omega)) only [go_sem,q0,q2,q6,hlen]))
    have ev:((getS ((s.take (4*(i:Int)+4).toNat).drop (4*(i:Int)).toNat):Nat):Int)%4294967296=((z2x s (z16 s i)).toNat:Int):=by
     rw [show (4*(i:Int)+4).toNat=4*i+4 by omega,show (4*(i:Int)).toNat=4*i by omega,List.drop_take,show 4*i+4-4*i=4 by omega]
     have:=zv9 s i
     rw [za8]at this
     rw [this,z2x,if_pos (by omega),hsl]
    refine⟨64-(i+1),by omega,i+1,by omega,by simp,?_⟩
    rw [ev,hset _ hi,z16]
   ·have en:z2x s (z16 s i)=wat (z16 s i) (i-16)+wat (z16 s i) (i-7)+ss0 (wat (z16 s i) (i-15))+ss1 (wat (z16 s i) (i-2)):=by rw [z2x,if_neg (by omega),hsl]
    have g16:=hwi (i-16) (by omega)
    have g7:=hwi (i-7) (by omega)
    have g15:=hwi (i-15) (by omega)
    have g2:=hwi (i-2) (by omega)
    have t16:((i:Int)-16).toNat=i-16:=by omega
    have t7:((i:Int)-7).toNat=i-7:=by omega
    have t15:((i:Int)-15).toNat=i-15:=by omega
    have t2:((i:Int)-2).toNat=i-2:=by omega
    generalize wat (z16 s i) (i-16)=w16 at*
    generalize wat (z16 s i) (i-7)=w7 at*
    generalize wat (z16 s i) (i-15)=w15 at*
    generalize wat (z16 s i) (i-2)=w2 at*
    have r7:((-7:Int)%32).toNat=25:=rfl
    have r18:((-18:Int)%32).toNat=14:=rfl
    have r17:((-17:Int)%32).toNat=15:=rfl
    have r19:((-19:Int)%32).toNat=13:=rfl
    have en2:=hset (z2x s (z16 s i)) hi
    rw [en]at en2
    simp only [ss0,ss1]at en2
    repeat' (first|apply zs_|apply zb_|apply zc_|apply zt_ rfl|apply zf_ rfl|(apply zd_ rfl<;>intro ht<;>try omega)|((first|apply zr_|apply zk_|apply ze_|apply zq_|(apply callW.mk_pu;(first|exact(fun _=>zaq _ _ _)))|(apply callW.za;(first|exact(zaq _ _ _)))|(apply zG<;>intro ht));all_goals try simp (disch:=first|omega|(simp only [lens];first|done|omega)) only [go_sem,q0,q2,q6,hlen,g16,g7,g15,g2,t16,t7,t15,t2,r7,r18,r17,r19]))
    refine⟨64-(i+1),by omega,i+1,by omega,by simp,?_⟩
    rw [en2,z16,en]
    simp only [ss0,ss1]
  ·have e:i=64:=by omega
   have eR:z16 s i=R:=by rw [hR,e]
   have hsR:R.length=64:=by rw [<-eR,hsl,e]
   have hl64:(ws R).length=64:=by rw [z49,hsR]
   have e0:List.replicate (64-i) (AV.int .u32 0)=[]:=by rw [e];rfl
   rw [eR,e0,List.append_nil]at*
   clear hwi hset hlen hR
   have hd:(ws R).drop 64=[]:=List.drop_of_length_le (by omega)
   repeat' (first|apply zs_|apply zb_|apply zc_|apply zt_ rfl|apply zf_ rfl|(apply zd_ rfl<;>intro ht<;>try omega)|((first|apply zr_|apply zk_|apply ze_|apply zq_|(apply zG<;>intro ht));all_goals try simp (disch:=first|omega|(simp only [lens];first|done|omega)) only [go_sem,q0,q2,q6,hl64,hd]))
   exact DownV.pure hw (z2m (rl_c _))
end
section
def V8.c8(v:V8):List AV:=[.int .u32 v.a.toNat,.int .u32 v.b.toNat,.int .u32 v.c.toNat,.int .u32 v.d.toNat,.int .u32 v.e.toNat,.int .u32 v.f.toNat,.int .u32 v.g.toNat,.int .u32 v.h.toNat]
theorem ws_l(v:V8):ws v.l=v.c8:=rfl
theorem zib{i:Nat}(h:i<64):(gl_sha_rounds.drop i)[0]? =some (.int .u32 (kAt i).toNat):=by
 have hall:∀j:Fin 64,(gl_sha_rounds.drop j.val)[0]? =some (.int .u32 (kAt j.val).toNat):=by
  intro j
  have h2:(gl_sha_rounds.drop j.val)[0]? =some (AV.int .u32 (shaRounds.getD j.val 0)):=by
   have hl:shaRounds.length=64:=rfl
   simp only [gl_sha_rounds,List.getElem?_drop,Nat.add_zero,List.getElem?_map,List.getD_eq_getElem?_getD]
   rw [List.getElem?_eq_getElem (by rw [hl];exact j.isLt)];rfl
  rw [h2]
  have h3:∀j:Fin 64,shaRounds.getD j.val 0=((kAt j.val).toNat:Int):=by decide
  rw [h3 j]
 exact hall ⟨i,h⟩
theorem z9e:gl_sha_rounds.length=64:=rfl
theorem mix_to(O:Store)(v:V8)(s:List UInt8)(h:64<=s.length)(hs:s.length<9223372036854775808):ACallsTo TC 122 [.agg (ws v.l),.str s] O (.agg (ws (mixS v s).l)) O:=by
 obtain⟨R,hR⟩:∃R,R=z16 s 64:=⟨_,rfl⟩
 have hsp:=fun O=>zu8 O s h hs
 rw [<-hR]at hsp
 have hRl:R.length=64:=by rw [hR,z4k]
 have hwR:(ws R).length=64:=by rw [z49,hRl]
 have hst:∀n,rnds s v (n+1)=rnd (rnds s v n) (kAt n) (wat R n):=fun n=>by rw [rnds,hR]
 obtain⟨F,hF⟩:∃F,F=(rnds s v 64).add v:=⟨_,rfl⟩
 have hmix:mixS v s=F:=hF.symm
 rw [hmix,ws_l,ws_l]
 clear hmix
 refine ACallsTo.of_body qcok (by simp) fun hw _=> ?_
 unfold V8.c8
 repeat' (first|apply zs_|apply zb_|apply zc_|apply zt_ rfl|apply zf_ rfl|(apply zd_ rfl<;>intro ht<;>try omega)|((first|apply zr_|apply zk_|apply ze_|apply zq_|(apply callW.mk_pu;(first|exact(fun _=>hsp _)))|(apply callW.za;(first|exact(hsp _)))|(apply zG<;>intro ht));all_goals try simp (disch:=first|omega|(simp only [lens];first|done|omega)) only [go_sem]))
 refine zW.loop (fun m J O'=>∃i:Nat,m+i=64/\ J 2=.ptr O.length 0 0/\ J 4=.ptr (O.length+1) 0 0/\ J 5=.ptr (O.length+2) 0 0/\ J 15=.agg (ws R)/\ J 16=.int .i64 i ∧
  O'=O++ [some [v.c8],some [[AV.int .u32 0,AV.int .u32 0,AV.int .u32 0,AV.int .u32 0,AV.int .u32 0,AV.int .u32 0,AV.int .u32 0,AV.int .u32 0]],some [(rnds s v i).c8]]) 64 ?_ ?_
 ·exact⟨0,by omega,by simp (disch:=first|omega|(simp only [lens];first|done|omega)) only [go_sem],by simp (disch:=first|omega|(simp only [lens];first|done|omega)) only [go_sem],by simp (disch:=first|omega|(simp only [lens];first|done|omega)) only [go_sem],by simp (disch:=first|omega|(simp only [lens];first|done|omega)) only [go_sem],by simp (disch:=first|omega|(simp only [lens];first|done|omega)) only [go_sem];rfl,rfl⟩
 ·rintro m J O' ⟨i,hm,q2,q4,q5,q15,q16,rfl⟩
  by_cases hi:i<64
  ·have hk:=zib hi
   have hw:=z8l (w:=R) (i:=i) (by omega)
   have hst:=hst i
   generalize rnds s v i=u at*
   obtain⟨a,b,c,d,e,f,g,h⟩:=u
   generalize kAt i=kk at*
   generalize wat R i=ww at*
   have r6:((-6:Int)%32).toNat=26:=rfl
   have r11:((-11:Int)%32).toNat=21:=rfl
   have r25:((-25:Int)%32).toNat=7:=rfl
   have r2:((-2:Int)%32).toNat=30:=rfl
   have r13:((-13:Int)%32).toNat=19:=rfl
   have r22:((-22:Int)%32).toNat=10:=rfl
   refine zs_ ?_
   refine zr_ ?_
   simp (disch:=first|omega|(simp only [lens];first|done|omega)) only [go_sem,q16]
   refine zs_ ?_
   refine zt_ rfl ?_
   refine zk_ ?_
   simp (disch:=first|omega|(simp only [lens];first|done|omega)) only [go_sem]
   refine zs_ ?_
   refine zb_ ?_
   refine zs_ ?_
   refine zW.regS ?_
   simp (disch:=first|omega|(simp only [lens];first|done|omega)) only [go_sem,q15,q16,hwR,hw]
   (refine zW.slots [2,4,5,6,7,15,16] ?_;intro J1 hs;simp (disch:=first|omega|(simp only [lens];first|done|omega)) only [go_sem,q2,q4,q5,q15,q16]at hs;obtain⟨s2,s4,s5,s6,s7,s15,s16⟩:=hs)
   refine zs_ ?_
   refine zW.regS ?_
   simp (disch:=first|omega|(simp only [lens];first|done|omega)) only [go_sem,s5,V8.c8]
   (refine zW.slots [2,4,5,6,7,8,9,15,16] ?_;intro J2 hs;simp (disch:=first|omega|(simp only [lens];first|done|omega)) only [go_sem,s2,s4,s5,s6,s7,s15,s16]at hs;obtain⟨s2,s4,s5,s6,s7,s8,s9,s15,s16⟩:=hs)
   refine zs_ ?_
   (refine zW.regS ?_;(simp (disch:=first|omega|(simp only [lens];first|done|omega)) only [go_sem,s2,s4,s5,s6,s7,s8,s9,V8.c8,hk,z9e,r6,r11,r25]);repeat' (apply callW.za;(first|exact(zaq _ _ _));all_goals try (simp (disch:=first|omega|(simp only [lens];first|done|omega)) only [go_sem,s2,s4,s5,s6,s7,s8,s9,V8.c8,hk,z9e,r6,r11,r25])))
   (refine zW.slots [2,4,5,8,9,10,15,16] ?_;intro J3 hs;simp (disch:=first|omega|(simp only [lens];first|done|omega)) only [go_sem,s2,s4,s5,s8,s9,s15,s16]at hs;obtain⟨s2,s4,s5,s8,s9,s10,s15,s16⟩:=hs)
   refine zs_ ?_
   (refine zW.regS ?_;(simp (disch:=first|omega|(simp only [lens];first|done|omega)) only [go_sem,s5,s8,s9,V8.c8,r2,r13,r22]);repeat' (apply callW.za;(first|exact(zaq _ _ _));all_goals try (simp (disch:=first|omega|(simp only [lens];first|done|omega)) only [go_sem,s5,s8,s9,V8.c8,r2,r13,r22])))
   (refine zW.slots [2,4,5,8,9,10,11,15,16] ?_;intro J4 hs;simp (disch:=first|omega|(simp only [lens];first|done|omega)) only [go_sem,s2,s4,s5,s8,s9,s10,s15,s16]at hs;obtain⟨s2,s4,s5,s8,s9,s10,s11,s15,s16⟩:=hs)
   (refine zW.regS ?_;(simp (disch:=first|omega|(simp only [lens];first|done|omega)) only [go_sem,s5,s8,s9,s10,s11,V8.c8]))
   (refine zW.slots [2,4,5,15,16] ?_;intro J5 hs;simp (disch:=first|omega|(simp only [lens];first|done|omega)) only [go_sem,s2,s4,s5,s15,s16]at hs;obtain⟨s2,s4,s5,s15,s16⟩:=hs)
   (refine zW.regS ?_;(simp (disch:=first|omega|(simp only [lens];first|done|omega)) only [go_sem,s16]))
   refine⟨64-(i+1),by omega,i+1,by omega,s2,s4,s5,s15,by simp,?_⟩
   rw [hst]
   simp only [rnd,V8.c8,bs1,chW,bs0,majW]
  ·obtain rfl:i=64:=by omega
   clear hst
   generalize rnds s v 64=U at*
   rw [hF,V8.add]
   clear hF hR
   obtain⟨a,b,c,d,e,f,g,h⟩:=U
   obtain⟨a',b',c',d',e',f',g',h'⟩:=v
   simp only [V8.c8]at*
   repeat' (first|apply zs_|apply zb_|apply zc_|apply zt_ rfl|apply zf_ rfl|(apply zd_ rfl<;>intro ht<;>try omega)|((first|apply zr_|apply zk_|apply ze_|apply zq_|(apply zG<;>intro ht));all_goals try simp (disch:=first|omega|(simp only [lens];first|done|omega)) only [go_sem,q16]))
   refine zW.loop (fun m J O'=>∃j:Nat,m+j=8/\ J 2=.ptr O.length 0 0/\ J 4=.ptr (O.length+1) 0 0/\ J 5=.ptr (O.length+2) 0 0/\ J 95=.int .i64 j ∧
    O'=O++ [some [V8.c8 ⟨a',b',c',d',e',f',g',h'⟩],some [[AV.int .u32 0,AV.int .u32 0,AV.int .u32 0,AV.int .u32 0,AV.int .u32 0,AV.int .u32 0,AV.int .u32 0,AV.int .u32 0]],some [(V8.c8 ⟨a+a',b+b',c+c',d+d',e+e',f+f',g+g',h+h'⟩).take j++(V8.c8 ⟨a,b,c,d,e,f,g,h⟩).drop j]]) 8 ?_ ?_
   ·exact⟨0,by omega,by simp (disch:=first|omega|(simp only [lens];first|done|omega)) only [go_sem,q2],by simp (disch:=first|omega|(simp only [lens];first|done|omega)) only [go_sem,q4],by simp (disch:=first|omega|(simp only [lens];first|done|omega)) only [go_sem,q5],by simp (disch:=first|omega|(simp only [lens];first|done|omega)) only [go_sem];rfl,rfl⟩
   ·clear q2 q4 q5 q15 q16
    rintro m J O' ⟨j,hm,q2,q4,q5,q95,rfl⟩
    have hj:j=0 \/j=1 \/j=2 \/j=3 \/j=4 \/j=5 \/j=6 \/j=7 \/j=8:=by omega
    rcases hj with rfl|rfl|rfl|rfl|rfl|rfl|rfl|rfl|rfl
    ·repeat' (first|refine zs_ ?_|refine zb_ ?_|refine zc_ ?_|refine zt_ rfl ?_|refine zf_ rfl ?_|(refine zd_ rfl (fun ht=> ?_) (fun ht=> ?_)<;>try (exfalso;omega))|((first|refine zW.regS ?_|refine zk_ ?_|refine ze_ ?_|refine zq_ ?_|(apply zG<;>intro ht));all_goals try simp (disch:=first|omega|(simp only [lens];first|done|omega)) only [go_sem,q2,q4,q5,q95,V8.c8]))
     exact⟨7,by omega,1,by omega,rfl,rfl⟩
    ·repeat' (first|refine zs_ ?_|refine zb_ ?_|refine zc_ ?_|refine zt_ rfl ?_|refine zf_ rfl ?_|(refine zd_ rfl (fun ht=> ?_) (fun ht=> ?_)<;>try (exfalso;omega))|((first|refine zW.regS ?_|refine zk_ ?_|refine ze_ ?_|refine zq_ ?_|(apply zG<;>intro ht));all_goals try simp (disch:=first|omega|(simp only [lens];first|done|omega)) only [go_sem,q2,q4,q5,q95,V8.c8]))
     exact⟨6,by omega,2,by omega,rfl,rfl⟩
    ·repeat' (first|refine zs_ ?_|refine zb_ ?_|refine zc_ ?_|refine zt_ rfl ?_|refine zf_ rfl ?_|(refine zd_ rfl (fun ht=> ?_) (fun ht=> ?_)<;>try (exfalso;omega))|((first|refine zW.regS ?_|refine zk_ ?_|refine ze_ ?_|refine zq_ ?_|(apply zG<;>intro ht));all_goals try simp (disch:=first|omega|(simp only [lens];first|done|omega)) only [go_sem,q2,q4,q5,q95,V8.c8]))
     exact⟨5,by omega,3,by omega,rfl,rfl⟩
    ·repeat' (first|refine zs_ ?_|refine zb_ ?_|refine zc_ ?_|refine zt_ rfl ?_|refine zf_ rfl ?_|(refine zd_ rfl (fun ht=> ?_) (fun ht=> ?_)<;>try (exfalso;omega))|((first|refine zW.regS ?_|refine zk_ ?_|refine ze_ ?_|refine zq_ ?_|(apply zG<;>intro ht));all_goals try simp (disch:=first|omega|(simp only [lens];first|done|omega)) only [go_sem,q2,q4,q5,q95,V8.c8]))
     exact⟨4,by omega,4,by omega,rfl,rfl⟩
    ·repeat' (first|refine zs_ ?_|refine zb_ ?_|refine zc_ ?_|refine zt_ rfl ?_|refine zf_ rfl ?_|(refine zd_ rfl (fun ht=> ?_) (fun ht=> ?_)<;>try (exfalso;omega))|((first|refine zW.regS ?_|refine zk_ ?_|refine ze_ ?_|refine zq_ ?_|(apply zG<;>intro ht));all_goals try simp (disch:=first|omega|(simp only [lens];first|done|omega)) only [go_sem,q2,q4,q5,q95,V8.c8]))
     exact⟨3,by omega,5,by omega,rfl,rfl⟩
    ·repeat' (first|refine zs_ ?_|refine zb_ ?_|refine zc_ ?_|refine zt_ rfl ?_|refine zf_ rfl ?_|(refine zd_ rfl (fun ht=> ?_) (fun ht=> ?_)<;>try (exfalso;omega))|((first|refine zW.regS ?_|refine zk_ ?_|refine ze_ ?_|refine zq_ ?_|(apply zG<;>intro ht));all_goals try simp (disch:=first|omega|(simp only [lens];first|done|omega)) only [go_sem,q2,q4,q5,q95,V8.c8]))
     exact⟨2,by omega,6,by omega,rfl,rfl⟩
    ·repeat' (first|refine zs_ ?_|refine zb_ ?_|refine zc_ ?_|refine zt_ rfl ?_|refine zf_ rfl ?_|(refine zd_ rfl (fun ht=> ?_) (fun ht=> ?_)<;>try (exfalso;omega))|((first|refine zW.regS ?_|refine zk_ ?_|refine ze_ ?_|refine zq_ ?_|(apply zG<;>intro ht));all_goals try simp (disch:=first|omega|(simp only [lens];first|done|omega)) only [go_sem,q2,q4,q5,q95,V8.c8]))
     exact⟨1,by omega,7,by omega,rfl,rfl⟩
    ·repeat' (first|refine zs_ ?_|refine zb_ ?_|refine zc_ ?_|refine zt_ rfl ?_|refine zf_ rfl ?_|(refine zd_ rfl (fun ht=> ?_) (fun ht=> ?_)<;>try (exfalso;omega))|((first|refine zW.regS ?_|refine zk_ ?_|refine ze_ ?_|refine zq_ ?_|(apply zG<;>intro ht));all_goals try simp (disch:=first|omega|(simp only [lens];first|done|omega)) only [go_sem,q2,q4,q5,q95,V8.c8]))
     exact⟨0,by omega,8,by omega,rfl,rfl⟩
    ·repeat' (first|apply zs_|apply zb_|apply zc_|apply zt_ rfl|apply zf_ rfl|(apply zd_ rfl<;>intro ht<;>try omega)|((first|apply zr_|apply zk_|apply ze_|apply zq_|(apply zG<;>intro ht));all_goals try simp (disch:=first|omega|(simp only [lens];first|done|omega)) only [go_sem,q2,q4,q5,q95,V8.c8]))
     exact DownV.pure hw (z14 _ rfl)
end
end Am
end Go.Proofs.YtlfpiblipmiobaaDoor
section
/- Contracts of library functions, laid off the kit's shelf for this program. -/
namespace Go.Proofs
open Go.Shelf
def Tryd.lays169_ren : Go.Shelf.Ren := ⟨fun | 169 => 105 | n => n, fun | 70 => 164 | 9 => 9 | 0 => 0 | 72 => 166 | 37 => 48 | 127 => 190 | 3 => 3 | 5 => 5 | n => n, fun | n => n⟩
theorem Tryd.lays169 : Go.Proofs.Lays.n169 Tryd.prog Tryd.lays169_ren := {
 mixed := by kernel_rfl
 f169 := Tryd.func105.trans (congrArg some (by kernel_rfl))
 t0 := Tryd.underlying0
 a0 := Tryd.isAgg0
 z0 := Tryd.sizeOf0
 v0 := Tryd.zeroValue0
 t3 := Tryd.underlying3
 a3 := Tryd.isAgg3
 z3 := Tryd.sizeOf3
 v3 := Tryd.zeroValue3
 t9 := Tryd.underlying9
 a9 := Tryd.isAgg9
 z9 := Tryd.sizeOf9
 v9 := Tryd.zeroValue9
 t37 := Tryd.underlying48
 a37 := Tryd.isAgg48
 z37 := Tryd.sizeOf48
 v37 := Tryd.zeroValue48
 t70 := Tryd.underlying164
 a70 := Tryd.isAgg164
 z70 := Tryd.sizeOf164
 v70 := Tryd.zeroValue164
 t72 := Tryd.underlying166
 a72 := Tryd.isAgg166
 z72 := Tryd.sizeOf166
 v72 := Tryd.zeroValue166
 t127 := Tryd.underlying190
 a127 := Tryd.isAgg190
 z127 := Tryd.sizeOf190
 v127 := Tryd.zeroValue190 }
theorem Tryd.Builder_Extra_169 : Builder.Extra Tryd.prog Tryd.lays169_ren := {
 sizeBuilder := by kernel_rfl
 liesBuilder := by kernel_rfl
 t5 := Tryd.underlying5
 a5 := Tryd.isAgg5
 z5 := Tryd.sizeOf5
 v5 := Tryd.zeroValue5
 infoByte := by kernel_rfl
 cellsByte := by kernel_rfl
 sizeByte := by kernel_rfl
 neB5 := by decide }
open Go.RowKit in
theorem Tryd.Builder_String_any (B b : Nat) (l : List UInt8) (w : World) (h : Lib.IsBuilder 166 5 B b (Lib.byteCells l) w) (hBw : B <= w.heap.size) :
  Calls Tryd.prog 105 #[.pointer (some ⟨b, 0, none⟩)] w fun e w' => e = .returned (.string ⟨l.toArray⟩) /\ Below B w w' := Any.Builder_String_any Tryd.lays169 Tryd.Builder_Extra_169 B b l w h hBw
def Tryd.lays105_ren : Go.Shelf.Ren := ⟨fun | 105 => 130 | 212 => 139 | 99 => 140 | 165 => 141 | 166 => 104 | 170 => 142 | 169 => 105 | 263 => 145 | 264 => 146 | 206 => 147 | 240 => 125 | 241 => 148 | 276 => 137 | 277 => 149 | n => n, fun | 9 => 9 | 3 => 3 | 4 => 4 | 20 => 20 | 0 => 0 | 46 => 153 | 109 => 201 | 5 => 5 | 72 => 166 | 76 => 170 | 51 => 149 | 146 => 207 | 53 => 134 | 148 => 209 | 70 => 164 | 37 => 48 | 75 => 168 | 127 => 190 | 164 => 198 | 80 => 172 | n => n, fun | n => n⟩
theorem Tryd.lays105 : Go.Proofs.Lays.n105 Tryd.prog Tryd.lays105_ren := {
 mixed := by kernel_rfl
 f99 := Tryd.func140.trans (congrArg some (by kernel_rfl))
 f105 := Tryd.func130.trans (congrArg some (by kernel_rfl))
 f165 := Tryd.func141.trans (congrArg some (by kernel_rfl))
 f166 := Tryd.func104.trans (congrArg some (by kernel_rfl))
 f169 := Tryd.func105.trans (congrArg some (by kernel_rfl))
 f170 := Tryd.func142.trans (congrArg some (by kernel_rfl))
 f206 := Tryd.func147.trans (congrArg some (by kernel_rfl))
 f212 := Tryd.func139.trans (congrArg some (by kernel_rfl))
 f240 := Tryd.func125.trans (congrArg some (by kernel_rfl))
 f241 := Tryd.func148.trans (congrArg some (by kernel_rfl))
 f263 := Tryd.func145.trans (congrArg some (by kernel_rfl))
 f264 := Tryd.func146.trans (congrArg some (by kernel_rfl))
 f276 := Tryd.func137.trans (congrArg some (by kernel_rfl))
 f277 := Tryd.func149.trans (congrArg some (by kernel_rfl))
 t0 := Tryd.underlying0
 a0 := Tryd.isAgg0
 z0 := Tryd.sizeOf0
 v0 := Tryd.zeroValue0
 t3 := Tryd.underlying3
 a3 := Tryd.isAgg3
 z3 := Tryd.sizeOf3
 v3 := Tryd.zeroValue3
 t4 := Tryd.underlying4
 a4 := Tryd.isAgg4
 z4 := Tryd.sizeOf4
 v4 := Tryd.zeroValue4
 t5 := Tryd.underlying5
 a5 := Tryd.isAgg5
 z5 := Tryd.sizeOf5
 v5 := Tryd.zeroValue5
 t9 := Tryd.underlying9
 a9 := Tryd.isAgg9
 z9 := Tryd.sizeOf9
 v9 := Tryd.zeroValue9
 t20 := Tryd.underlying20
 a20 := Tryd.isAgg20
 z20 := Tryd.sizeOf20
 v20 := Tryd.zeroValue20
 t37 := Tryd.underlying48
 a37 := Tryd.isAgg48
 z37 := Tryd.sizeOf48
 v37 := Tryd.zeroValue48
 t46 := Tryd.underlying153
 a46 := Tryd.isAgg153
 z46 := Tryd.sizeOf153
 v46 := Tryd.zeroValue153
 t51 := Tryd.underlying149
 a51 := Tryd.isAgg149
 z51 := Tryd.sizeOf149
 v51 := Tryd.zeroValue149
 t53 := Tryd.underlying134
 a53 := Tryd.isAgg134
 z53 := Tryd.sizeOf134
 v53 := Tryd.zeroValue134
 t70 := Tryd.underlying164
 a70 := Tryd.isAgg164
 z70 := Tryd.sizeOf164
 v70 := Tryd.zeroValue164
 t72 := Tryd.underlying166
 a72 := Tryd.isAgg166
 z72 := Tryd.sizeOf166
 v72 := Tryd.zeroValue166
 t75 := Tryd.underlying168
 a75 := Tryd.isAgg168
 z75 := Tryd.sizeOf168
 v75 := Tryd.zeroValue168
 t76 := Tryd.underlying170
 a76 := Tryd.isAgg170
 z76 := Tryd.sizeOf170
 v76 := Tryd.zeroValue170
 t109 := Tryd.underlying201
 a109 := Tryd.isAgg201
 z109 := Tryd.sizeOf201
 v109 := Tryd.zeroValue201
 t127 := Tryd.underlying190
 a127 := Tryd.isAgg190
 z127 := Tryd.sizeOf190
 v127 := Tryd.zeroValue190
 t146 := Tryd.underlying207
 a146 := Tryd.isAgg207
 z146 := Tryd.sizeOf207
 v146 := Tryd.zeroValue207
 t148 := Tryd.underlying209
 a148 := Tryd.isAgg209
 z148 := Tryd.sizeOf209
 v148 := Tryd.zeroValue209
 t164 := Tryd.underlying198
 a164 := Tryd.isAgg198
 z164 := Tryd.sizeOf198
 v164 := Tryd.zeroValue198 }
theorem Tryd.Builder_Extra_105 : Builder.Extra Tryd.prog Tryd.lays105_ren := {
 sizeBuilder := by kernel_rfl
 liesBuilder := by kernel_rfl
 t5 := Tryd.underlying5
 a5 := Tryd.isAgg5
 z5 := Tryd.sizeOf5
 v5 := Tryd.zeroValue5
 infoByte := by kernel_rfl
 cellsByte := by kernel_rfl
 sizeByte := by kernel_rfl
 neB5 := by decide }
open Go.RowKit Go.Lib in
theorem Tryd.strings_Repeat (s : ByteArray) (c : Nat) (w : World) (hc : c <= 9223372036854775807) (hlen : s.size * c <= 140737488355328) :
  Calls Tryd.prog 130 #[.string s, .int .i64 c] w fun e w' => e = .returned (.string ⟨(Lib.repeatL s.data.toList c).toArray⟩) /\ Below w.heap.size w w' := Any.strings_Repeat Tryd.lays105 Tryd.Builder_Extra_105 s c w hc hlen
end Go.Proofs
end
namespace Go.Proofs.YtlfpiblipmiobaaDoor
namespace Am
section
open Go.RowKit
def zj(l:List UInt8):List AV:=l.map fun b=> .int .u8 b.toNat
theorem z2a{k:Nat}:∀(l:List UInt8),RLs k (zj l)
 | []=>by simp [zj,RLs]
 | _::l=>by have:=z2a (k:=k) l;simp only [zj]at this;simp [zj,RLs,RL,this]
theorem Rel.below{C:Ctx}{γ:Places}{O:Store}{w w':World}(h:Rel C γ O w)(hb:Below w.heap.size w w'):Step γ w γ w'/\ Rel C γ O w':=by
 have hs:Step γ w γ w':=⟨fun r fl pl h=>⟨fl,h⟩,hb.size,fun b hb' _=>hb.block b hb',fun r pl h=> .inl ⟨r,pl,h,rfl⟩,hb.os,hb.tape,hb.output⟩
 refine⟨hs,h.len,fun r o hr=> ?_,h.dead,h.inj,fun g cs hg=>(h.gl g cs hg).mono hs⟩
 obtain⟨pl,h1,h2⟩:=h.alive r o hr
 exact⟨pl,h1,h2.mono hs (hb.block _ h2.lt)⟩
theorem ACallsTo.of_calls{C:Ctx}{f:FuncId}{args:List AV}{O:Store}{v:AV}(hc:(cFn C f).isSome=true)
  (h:∀(γ:Places) (w:World) (cargs:List Value),VRt γ w args cargs->Calls C.P f cargs.toArray w fun e w'=>∃cv,e=.returned cv/\ VR γ w' v cv/\ Below w.heap.size w w'):ACallsTo C f args O v O:=by
 obtain⟨e,hc⟩:=Option.isSome_iff_exists.1 hc
 simp only [cFn,Option.bind_eq_some_iff]at hc
 obtain⟨fn,hf,hc⟩:=hc
 split at hc
 ·cases hc
 ·rename_i hname
  simp only [Option.bind_eq_some_iff,Option.map_eq_some_iff]at hc
  obtain⟨c,hb,_⟩:=hc
  intro γ w cargs hR ha
  left
  constructor
  ·have h1:fn.name ≠ "runtime.NumGoroutine" :=by simpa using hname
   simp [callFunc,hf,h1,hb]
  ·refine(h γ w cargs ha).mono ?_
   rintro e w' ⟨cv,rfl,hv,hbl⟩
   obtain⟨s1,s2⟩:=hR.below hbl
   exact⟨cv,γ,rfl,s1,s2,hv⟩
theorem zt0(b:UInt8):∀n,Lib.repeatL [b] n=List.replicate n b:=by
 intro n
 induction n with
 |zero=>simp [Lib.repeatL]
 |succ n ih=>simp [Lib.repeatL,List.replicate_succ]at ih ⊢ <;>simp [ih]
theorem zjr(O:Store)(b:UInt8)(c:Nat)(h:c<=1000000):ACallsTo TC 130 [.str [b],.int .i64 c] O (.str (List.replicate c b)) O:=by
 refine ACallsTo.of_calls (by kernel_rfl) ?_
 intro γ w cargs ha
 simp only [VRt,VR]at ha
 obtain⟨_,_,rfl,rfl,_,_,rfl,rfl,rfl⟩:=ha
 refine(Tryd.strings_Repeat ⟨[b].toArray⟩ c w (by omega) (by simp [ByteArray.size];omega)).mono ?_
 rintro e w' ⟨rfl,hb⟩
 refine⟨_,rfl,?_,hb⟩
 simp only [VR]
 rw [zt0]
theorem zoq(O:Store)(s:List UInt8)(h:s.length<1000000000000):ACallsTo TC 121 [.str s] O (.str (padS s)) O:=by
 refine ACallsTo.of_body qbok (by simp) fun hw _=> ?_
 obtain⟨z,hz⟩:∃z:Nat,z=(119-s.length%64)%64:=⟨_,rfl⟩
 have hz64:z<64:=by rw [hz];exact Nat.mod_lt _ (by decide)
 have hz2:(119-(s.length:Int)%64)%64=z:=by omega
 have hp:putS ((s.length:Int)*8) 8=be 8 (s.length*8):=by
  unfold putS
  rw [if_pos (by omega)]
  rfl
 have hpl:(be 8 (s.length*8)).length=8:=z3q _ _
 repeat' (first|apply zs_|apply zb_|apply zc_|apply zt_ rfl|apply zf_ rfl|(apply zd_ rfl<;>intro ht<;>try omega)|((first|apply zr_|apply zk_|apply ze_|apply zq_|(apply callW.mk_pu;(first|exact(fun _=>zjr _ 0 z (by omega))|exact(fun _=>z7b _ ((s.length:Int)*8) 8 (by omega) (by omega))))|(apply callW.za;(first|exact(zjr _ 0 z (by omega))|exact(z7b _ ((s.length:Int)*8) 8 (by omega) (by omega))))|(apply zG<;>intro ht));all_goals try simp (disch:=first|omega|(simp only [lens];first|done|omega)) only [go_sem,hz2,hp,hpl,List.length_replicate]))
 have e:s++([128]++(List.replicate z 0++be 8 (s.length*8)))=padS s:=by unfold padS;rw [<-hz];rfl
 rw [show s++128::(List.replicate z 0++be 8 (s.length*8))=padS s by unfold padS;rw [<-hz]]
 exact DownV.same hw (z14 _ rfl)
theorem zj7(s:List UInt8):(padS s).length%64=0/\ (padS s).length<s.length+80:=by
 unfold padS
 simp only [List.length_append,List.length_cons,List.length_replicate,z3q]
 omega
theorem zoz:zdf=v0.c8:=rfl
theorem put4(x:W):putS (x.toNat:Int) 4=be 4 x.toNat:=by
 unfold putS
 rw [if_pos (by omega)]
 rfl
theorem mix_c8(O:Store)(v:V8)(s:List UInt8)(h:64<=s.length)(hs:s.length<9223372036854775808):ACallsTo TC 122 [.agg v.c8,.str s] O (.agg (mixS v s).c8) O:=mix_to O v s h hs
theorem zou{l:List W}{j:Nat}(h:j<l.length):(l.flatMap fun x=>be 4 x.toNat).take (4*j)++be 4 (l[j]).toNat=(l.flatMap fun x=>be 4 x.toNat).take (4*(j+1)):=by
 induction l generalizing j with
 |nil=>simp at h
 |cons x l ih=>
  have hb:(be 4 x.toNat).length=4:=z3q _ _
  rw [List.flatMap_cons]
  cases j with
  |zero=>
   simp only [Nat.mul_zero,List.take_zero,List.nil_append,List.getElem_cons_zero,Nat.zero_add,Nat.mul_one]
   rw [List.take_append_of_le_length (by omega),List.take_of_length_le (by omega)]
  |succ j=>
   simp only [List.length_cons]at h
   have e1:(be 4 x.toNat).take (4*(j+1))=be 4 x.toNat:=List.take_of_length_le (by omega)
   have e2:(be 4 x.toNat).take (4*(j+1+1))=be 4 x.toNat:=List.take_of_length_le (by omega)
   rw [List.getElem_cons_succ,List.take_append,List.take_append,e1,e2,hb,List.append_assoc,show 4*(j+1)-4=4*j by omega,show 4*(j+1+1)-4=4*(j+1)by omega,ih (by omega)]
theorem z56(v:V8):(outV v).length=32:=by
 simp [outV,V8.l,z3q]
def z4e(v:V8)(j:Nat):List AV:=zj ((outV v).take (4*j))++List.replicate (32-4*j) (.int .u8 0)
theorem zu(l:List UInt8):(zj l).length=l.length:=by simp [zj]
theorem zpe(v:V8){j:Nat}(h:j<=8):(z4e v j).length=32:=by
 simp [z4e,zu,z56];omega
theorem zgp(l:List UInt8):(zw l).flatten=zj l:=by
 induction l with
 |nil=>rfl
 |cons b l ih=>simp [zw,zj,B8]at ih ⊢;exact ih
theorem zpf(v:V8){j:Nat}(h:j<8):z1e (z4e v j) (4*j) (zj (be 4 (wat v.l j).toNat))=z4e v (j+1):=by
 have hl:v.l.length=8:=rfl
 have e:=zou (l:=v.l) (j:=j) (by omega)
 have hw:wat v.l j=v.l[j]'(by omega):=by simp [wat,List.getD_eq_getElem?_getD,List.getElem?_eq_getElem (show j<v.l.length by omega)]
 have h1:(zj ((outV v).take (4*j))).length=4*j:=by rw [zu,List.length_take,z56];omega
 have h2:(zj (be 4 (wat v.l j).toNat)).length=4:=by rw [zu,z3q]
 unfold z1e z4e
 rw [List.take_append_of_le_length (by omega),List.take_of_length_le (by omega),List.drop_append,List.drop_of_length_le (by omega),h1,h2,List.nil_append]
 rw [show 4*j+4-4*j=4 by omega,List.drop_replicate,show 32-4*j-4=32-4*(j+1)by omega]
 congr 1
 unfold zj
 rw [<-List.map_append]
 congr 1
 rw [hw]
 exact e
theorem z8i(O:Store)(s:List UInt8)(h:s.length<100000000000):ACallsTo TC 96 [.str s] O (.agg (zj (shaS s))) O:=by
 obtain⟨p,hp⟩:∃p,p=padS s:=⟨_,rfl⟩
 obtain⟨hp1,hp2⟩:=zj7 s
 rw [<-hp]at hp1 hp2
 obtain⟨N,hN⟩:∃N,p.length=64*N:=⟨p.length/64,by omega⟩
 obtain⟨V,hV⟩:∃V,V=blocks N v0 p:=⟨_,rfl⟩
 have hS:shaS s=outV V:=by
  unfold shaS
  rw [<-hp,hV]
  have:p.length/64=N:=by omega
  rw [this]
 rw [hS]
 have hf:=fun O=>zoq O s (by omega)
 rw [<-hp]at hf
 refine ACallsTo.of_body q8ok (by simp) fun hw _=> ?_
 repeat' (first|apply zs_|apply zb_|apply zc_|apply zt_ rfl|apply zf_ rfl|(apply zd_ rfl<;>intro ht<;>try omega)|((first|apply zr_|apply zk_|apply ze_|apply zq_|(apply callW.mk_pu;(first|exact(fun _=>hf _)))|(apply callW.za;(first|exact(hf _)))|(apply zG<;>intro ht));all_goals try simp (disch:=first|omega|(simp only [lens];first|done|omega)) only [go_sem,zoz,V8.c8]))
 refine zW.loop (fun m J O'=>∃u q,q.length=64*m/\ q.length<=p.length/\ blocks m u q=V/\ J 2=.ptr O.length 0 0/\ J 3=.ptr (O.length+1) 0 0/\ J 4=.str q/\ O'=O++ [some [zj (List.replicate 32 0)],some [u.c8]]) N ?_ ?_
 ·exact⟨v0,p,hN,Nat.le_refl _,hV.symm,by simp (disch:=first|omega|(simp only [lens];first|done|omega)) only [go_sem],by simp (disch:=first|omega|(simp only [lens];first|done|omega)) only [go_sem],by simp (disch:=first|omega|(simp only [lens];first|done|omega)) only [go_sem],rfl⟩
 ·rintro m J O' ⟨u,q,hq,hqp,hb,q2,q3,q4,rfl⟩
  have hz:(zj (List.replicate 32 0)).length=32:=rfl
  cases m with
  |succ m=>
   have hne:(q==[])=false:=by cases q with
    |nil=>simp at hq
    |cons a q=>rfl
   have hmix:=fun O=>mix_c8 O u (q.take 64) (by rw [List.length_take];omega) (by rw [List.length_take];omega)
   obtain⟨M,hM⟩:∃M,M=mixS u (q.take 64):=⟨_,rfl⟩
   rw [<-hM]at hmix
   have hb2:blocks m M (q.drop 64)=V:=by rw [hM];exact hb
   unfold V8.c8 at hmix
   repeat' (first|refine zs_ ?_|refine zb_ ?_|refine zc_ ?_|refine zt_ rfl ?_|refine zf_ rfl ?_|(refine zd_ rfl (fun ht=> ?_) (fun ht=> ?_)<;>try (exfalso;omega))|((first|refine zW.regS ?_|refine zk_ ?_|refine ze_ ?_|refine zq_ ?_|(apply callW.mk_pu;(first|exact(fun _=>hmix _)))|(apply callW.za;(first|exact(hmix _)))|(apply zG<;>intro ht));all_goals try simp (disch:=first|omega|(simp only [lens];first|done|omega)) only [go_sem,q2,q3,q4,hne,V8.c8]))
   refine⟨m,by omega,M,q.drop 64,by rw [List.length_drop];omega,by rw [List.length_drop];omega,hb2,rfl,rfl⟩
  |zero=>
   have hq0:q=[]:=List.eq_nil_of_length_eq_zero (by omega)
   subst hq0
   have hu:u=V:=hb
   subst hu
   repeat' (first|apply zs_|apply zb_|apply zc_|apply zt_ rfl|apply zf_ rfl|(apply zd_ rfl<;>intro ht<;>try omega)|((first|apply zr_|apply zk_|apply ze_|apply zq_|(apply zG<;>intro ht));all_goals try simp (disch:=first|omega|(simp only [lens];first|done|omega)) only [go_sem,q2,q3,q4,V8.c8]))
   refine zW.loop (fun m J O'=>∃j:Nat,m+j=8/\ J 2=.ptr O.length 0 0/\ J 5=.ptr (O.length+2) 0 0/\ J 19=.agg u.c8/\ J 20=.int .i64 j/\ O'=O++ [some [zj (List.replicate 32 0)],some [u.c8],some [z4e u j]]) 8 ?_ ?_
   ·exact⟨0,by omega,by simp (disch:=first|omega|(simp only [lens];first|done|omega)) only [go_sem,q2],by simp (disch:=first|omega|(simp only [lens];first|done|omega)) only [go_sem],by simp (disch:=first|omega|(simp only [lens];first|done|omega)) only [go_sem];rfl,by simp (disch:=first|omega|(simp only [lens];first|done|omega)) only [go_sem];rfl,rfl⟩
   ·clear q2 q3 q4
    rintro m J O' ⟨j,hm,q2,q5,q19,q20,rfl⟩
    have hlen:=zpe u (j:=j) (by omega)
    have h8:u.c8.length=8:=rfl
    by_cases hj:j<8
    ·have hst:=zpf u hj
     have hw:=z8l (w:=u.l) (i:=j) (by simpa [V8.l]using hj)
     rw [ws_l]at hw
     generalize wat u.l j=x at*
     generalize z4e u j=cc at*
     generalize hcc:z4e u (j+1)=cc' at*
     have hx:x.toNat<4294967296:=x.isLt
     have hb4:(be 4 x.toNat).length=4:=z3q _ _
     have ht4:(zw (be 4 x.toNat)).take (32-4*j)=zw (be 4 x.toNat):=List.take_of_length_le (by rw [zl,hb4];omega)
     have hn4:(4*(j:Int)).toNat=4*j:=by omega
     repeat' (first|refine zs_ ?_|refine zb_ ?_|refine zc_ ?_|refine zt_ rfl ?_|refine zf_ rfl ?_|(refine zd_ rfl (fun ht=> ?_) (fun ht=> ?_)<;>try (exfalso;omega))|((first|refine zW.regS ?_|refine zk_ ?_|refine ze_ ?_|refine zq_ ?_|(apply callW.mk_pu;(first|exact(fun _=>z7b _ _ _ (by omega) (by omega))))|(apply callW.za;(first|exact(z7b _ _ _ (by omega) (by omega))))|(apply zG<;>intro ht));all_goals try simp (disch:=first|omega|(simp only [lens];first|done|omega)) only [go_sem,q2,q5,q19,q20,hlen,h8,hw,put4,hb4,ht4,hst,hn4,zgp]))
     unfold z1e at hst
     rw [List.append_assoc]at hst
     exact⟨8-(j+1),by omega,j+1,by omega,by simp,by rw [hst,hcc]⟩
    ·obtain rfl:j=8:=by omega
     have e8:z4e u 8=zj (outV u):=by
      unfold z4e
      rw [List.take_of_length_le (by rw [z56];decide)]
      exact List.append_nil _
     have hd:List.drop 32 (zj (List.replicate 32 0))=[]:=rfl
     have hl:(zj (outV u)).length=32:=by rw [zu,z56]
     rw [e8]at*
     repeat' (first|apply zs_|apply zb_|apply zc_|apply zt_ rfl|apply zf_ rfl|(apply zd_ rfl<;>intro ht<;>try omega)|((first|apply zr_|apply zk_|apply ze_|apply zq_|(apply zG<;>intro ht));all_goals try simp (disch:=first|omega|(simp only [lens];first|done|omega)) only [go_sem,q2,q5,q19,q20,hl,h8,hd]))
     exact DownV.pure hw (z2m (z2a _))
end
end Am
end Go.Proofs.YtlfpiblipmiobaaDoor
section
/- strings.Builder: the contracts of copyCheck and String over the abstract store. -/
namespace Go.Proofs
open Go.Shelf Go.RowKit
def Tryd.lays240_ren:Go.Shelf.Ren:=⟨fun| 240=>125| 276=>137|n=>n,fun| 0=>0| 4=>4| 9=>9| 20=>20| 70=>164| 72=>166| 164=>198| 37=>48|n=>n,fun|n=>n⟩
theorem Tryd.lays240:Go.Proofs.Lays.n240 Tryd.prog Tryd.lays240_ren:={
 mixed:=by kernel_rfl
 f240:=Tryd.func125.trans (congrArg some (by kernel_rfl))
 f276:=Tryd.func137.trans (congrArg some (by kernel_rfl))
 t0:=Tryd.underlying0
 a0:=Tryd.isAgg0
 z0:=Tryd.sizeOf0
 v0:=Tryd.zeroValue0
 t4:=Tryd.underlying4
 a4:=Tryd.isAgg4
 z4:=Tryd.sizeOf4
 v4:=Tryd.zeroValue4
 t9:=Tryd.underlying9
 a9:=Tryd.isAgg9
 z9:=Tryd.sizeOf9
 v9:=Tryd.zeroValue9
 t20:=Tryd.underlying20
 a20:=Tryd.isAgg20
 z20:=Tryd.sizeOf20
 v20:=Tryd.zeroValue20
 t70:=Tryd.underlying164
 a70:=Tryd.isAgg164
 z70:=Tryd.sizeOf164
 v70:=Tryd.zeroValue164
 t72:=Tryd.underlying166
 a72:=Tryd.isAgg166
 z72:=Tryd.sizeOf166
 v72:=Tryd.zeroValue166
 t164:=Tryd.underlying198
 a164:=Tryd.isAgg198
 z164:=Tryd.sizeOf198
 v164:=Tryd.zeroValue198 }
theorem Tryd.x72_240:Builder.X72 Tryd.prog Tryd.lays240_ren:={
 sizeBuilder:=by kernel_rfl
 liesBuilder:=by kernel_rfl }
section
variable {P:Program} {J:Ren}
set_option maxRecDepth 100000 in
theorem Tryd.string_ex(L:Lays.n169 P J)(X:Builder.Extra P J)(b g cap:Nat)(cur:Array Value)(p:Value)(fb fg:Nat × Nat)(l:List UInt8)(w:World)(h0:l ≠ [])
  (hbk:w.heap[b]? =some (.cells #[p,.slice (some ⟨g,0,none⟩) l.length cap] (J.t 72) fb)) (hg:w.heap[g]? =some (.cells cur (J.t 5) fg)) (hnc:l.length<=cap) (hcs:l.length<=cur.size) (hln:l.length<=9223372036854775807)
  (hcl:∀j x,l[j]? =some x->w.cell? ((⟨g,0,none⟩:Addr).add j)=some (.int .u8 x.toNat)):
  Calls P (J.f 169) #[.pointer (some ⟨b,0,none⟩)] w fun e w'=>e=.returned (.string ⟨l.toArray⟩)/\ w'=w.drew.freeze ⟨g,0,none⟩ l.length:=by
 have hl0:l.length ≠ 0:=by simpa using h0
 have c1:w.drew.cell? ⟨b,1,none⟩=some (.slice (some ⟨g,0,none⟩) l.length cap):=by
  have:w.drew.heap[b]? =some (.cells #[p,.slice (some ⟨g,0,none⟩) l.length cap] (J.t 72) fb):=hbk
  rw [Lib.cell_of_heap this];rfl
 have hSD:(Builtin.unsafeSliceData_ #[(J.t 37)] (J.t 127) #[.slice (some ⟨g,0,none⟩) l.length cap]).run P w.drew=.ok (.pointer (some ⟨g,0,none⟩)) w.drew:=
  Lib.run_unsafeSliceData_row _ _ _ _ _ _ (by omega)
 have hUS:(Builtin.unsafeString_ #[(J.t 127),(J.t 3)] (J.t 9) #[.pointer (some ⟨g,0,none⟩),.int .i64 l.length]).run P w.drew=.ok (.string ⟨l.toArray⟩) (w.drew.freeze ⟨g,0,none⟩ l.length):=
  Lib.run_unsafeString_row w.drew (J.t 127) (J.t 3) (J.t 9) (J.t 5) L.t127 X.cellsByte g cur.size (by have hg':w.drew.heap[g]? =some (.cells cur (J.t 5) fg):=hg;simp [World.shape?,hg']) l h0 hcs hln hcl
 have mixed:=L.mixed
 have t72:=L.t72;have a72:=L.a72;have z72:=L.z72;have v72:=L.v72;have u72:=run_underlying L.t72
 have t70:=L.t70;have a70:=L.a70;have z70:=L.z70;have v70:=L.v70;have u70:=run_underlying L.t70
 have t37:=L.t37;have a37:=L.a37;have z37:=L.z37;have v37:=L.v37;have u37:=run_underlying L.t37
 have t127:=L.t127;have a127:=L.a127;have z127:=L.z127;have v127:=L.v127;have u127:=run_underlying L.t127
 have t3:=L.t3;have a3:=L.a3;have z3:=L.z3;have v3:=L.v3;have u3:=run_underlying L.t3
 have t9:=L.t9;have a9:=L.a9;have z9:=L.z9;have v9:=L.v9;have u9:=run_underlying L.t9
 have t5:=X.t5;have a5:=X.a5;have z5:=X.z5;have v5:=X.v5;have u5:=run_underlying X.t5
 clear hcl hcs hln hg hbk hnc
 go_enter L.f169,Body.n169_ntmps J
 go_wp2
 go_region_o
 all_goals (go_wp2;go_ret;exact⟨rfl,rfl⟩)
end
end Go.Proofs
namespace Go.Proofs.YtlfpiblipmiobaaDoor
namespace Am
open Go.RowKit
section
variable {C:Ctx} {γ:Places} {O:Store} {w w':World}
theorem Rel.lose(h:Rel C γ O w){r:Nat}{pl:Place}(hr:γ[r]? =some (true,pl))(hsz:w'.heap.size=w.heap.size)(hother:∀b,b ≠ pl.b->w'.heap[b]? =w.heap[b]?)(ho:w'.os=w.os)(ht:w'.tape=w.tape)(hp:w'.output=w.output):
  Step γ w (γ.set r (false,pl)) w'/\ Rel C (γ.set r (false,pl)) (O.set r none) w':=by
 obtain⟨k1,k2⟩:=h.kill hr
 have hrl:r<γ.length:=(List.getElem?_eq_some_iff.1 hr).1
 have hs:Step γ w (γ.set r (false,pl)) w':=⟨k1.keep,by omega,fun b _ hn=>hother b fun e=>hn r pl hr e.symm,fun q x hx=>by
  rcases k1.new q x hx with h|h
  ·exact .inl h
  ·exact .inr h,ho,ht,hp⟩
 refine⟨hs,by simp [h.len],fun q o hq=> ?_,fun q hq=>k2.dead q hq,fun q q' x x' h1 h2 h3=>k2.inj q q' x x' h1 h2 h3,fun g cs hg=>(h.gl g cs hg).mono hs⟩
 by_cases e:r=q
 ·subst e
  rw [List.getElem?_set_self (by rw [<-h.len];exact hrl)]at hq;cases hq
 ·rw [List.getElem?_set_ne e]at hq
  obtain⟨x,h1,h2⟩:=h.alive q o hq
  exact⟨x,by rw [List.getElem?_set_ne e];exact h1,h2.mono hs (hother _ fun e'=>e (h.inj r q pl x hr h1 e'.symm))⟩
theorem Rel.bld_at(hR:Rel C γ O w){r:Nat}{x:AV}(hr:O[r]? =some (some [[.bld r,x]])):∃(pl:Place) (v0 v1:Value) (fz:Nat × Nat),γ[r]? =some (true,pl)/\ pl.base=0/\ pl.esz=2/\ w.heap[pl.b]? =some (.cells #[v0,v1] bldT fz) ∧
  (v0=.pointer none \/v0=.pointer (some ⟨pl.b,0,none⟩))/\ VR γ w x v1/\ (∀k,k<2->(decide (fz.1<=k) && decide (k<fz.2))=false):=by
 obtain⟨pl,hpl,hok⟩:=hR.alive r _ hr
 obtain⟨c,ty,fz,pre,mid,post,q1,q2,q3,q4,q5,q6⟩:=hok.ex
 simp only [List.flatten_cons,List.flatten_nil,List.append_nil,VRs]at q5
 obtain⟨v0,_,rfl,⟨k1,_⟩,v1,_,rfl,⟨k2,_⟩,rfl⟩:=q5
 simp only [VR]at k1
 obtain⟨fl,pl',hpl',⟨e1,e2,e3,e4,e5⟩,k3⟩:=k1
 rw [hpl]at hpl';cases hpl'
 have hty:ty=bldT:=by
  obtain⟨c0,fz0,h0⟩:=hok.tyk
  rw [q1]at h0;cases h0;exact e1
 have hpre:pre=[]:=List.eq_nil_of_length_eq_zero (by omega)
 subst hpre
 have hlen:c.toList.length=2:=by rw [Array.length_toList,q4,e5]
 have hpost:post=[]:=by
  rw [q2]at hlen
  simpa using hlen
 subst hpost
 have hc:c= #[v0,v1]:=by
  apply Array.ext'
  rw [q2];rfl
 subst hc hty
 exact⟨pl,v0,v1,fz,hpl,e2,e3,q1,k3,k2,fun k hk=>q6 k hk⟩
end
theorem ztk{O:Store}{r:Nat}{x:Option AObj}(h:O[r]? =some x):O.set r x=O:=by
 apply List.ext_getElem?
 intro i
 by_cases e:r=i
 ·subst e
  rw [List.getElem?_set_self (List.getElem?_eq_some_iff.1 h).1,h]
 ·rw [List.getElem?_set_ne e]
theorem zcw(O:Store)(r:Nat)(x:AV)(hr:O[r]? =some (some [[.bld r,x]])):ACallsTo TC 125 [.ptr r 0 0] O (.tup []) O:=by
 obtain⟨e,hc⟩:=Option.isSome_iff_exists.1 (show (cFn TC 125).isSome=true by kernel_rfl)
 simp only [cFn,Option.bind_eq_some_iff]at hc
 obtain⟨fn,hf,hc⟩:=hc
 split at hc
 ·cases hc
 ·rename_i hname
  simp only [Option.bind_eq_some_iff,Option.map_eq_some_iff]at hc
  obtain⟨c,hb,_⟩:=hc
  intro γ w cargs hR ha
  left
  constructor
  ·have h1:fn.name ≠ "runtime.NumGoroutine" :=by simpa using hname
   simp [callFunc,hf,h1,hb]
  ·obtain⟨pl,v0,v1,fz,hpl,hb0,hez,hw,hv0,hv1,hfz⟩:=hR.bld_at hr
   simp only [VRt,VR]at ha
   obtain⟨_,_,rfl,⟨fl,pl',hpl',rfl⟩,rfl⟩:=ha
   rw [hpl]at hpl';cases hpl'
   have ea:pl.base+0*pl.esz+0=0:=by rw [hb0];omega
   rw [ea]
   have hcell:w.cell? ⟨pl.b,0,none⟩=some v0:=by rw [Lib.cell_of_heap hw];rfl
   rcases hv0 with rfl|rfl
   ·refine(Any.Builder_copyCheck_fresh Tryd.lays240 Tryd.x72_240 pl.b w hcell (by simp [World.shape?,hw];rfl) (by simp only [World.frozen?,hw];exact hfz 0 (by omega))).mono ?_
    rintro e w' ⟨rfl,rfl⟩
    obtain⟨w2,k1,k2,k3⟩:=hR.storeElem (i:=0) (off:=0) (vs:=[.bld r]) (vals:=[.pointer (some ⟨pl.b,0,none⟩)]) hr hpl rfl (by simp) (VRs.one ⟨by
     simp only [VR]
     obtain⟨pl2,hpl2,hok⟩:=hR.alive r _ hr
     rw [hpl]at hpl2;cases hpl2
     obtain⟨c,ty,fz2,pre,mid,post,q1,q2,q3,q4,q5,q6⟩:=hok.ex
     simp only [List.flatten_cons,List.flatten_nil,List.append_nil,VRs,VR]at q5
     obtain⟨u0,_,_,⟨⟨fl3,pl3,hpl3,k,_⟩,_⟩,_⟩:=q5
     rw [hpl]at hpl3;cases hpl3
     exact⟨true,pl,hpl,k,.inr rfl⟩,rfl⟩)
    rw [ea]at k1
    have e2:w2=w.setCell ⟨pl.b,0,none⟩ (.pointer (some ⟨pl.b,0,none⟩)):=by
     have hfr:w.frozen? ⟨pl.b,0,none⟩=false:=by simp only [World.frozen?,hw];exact hfz 0 (by omega)
     have hst:(store ⟨pl.b,0,none⟩ (.pointer (some ⟨pl.b,0,none⟩))).run TC.P w=.ok () (w.setCell ⟨pl.b,0,none⟩ (.pointer (some ⟨pl.b,0,none⟩))):=by
      rw [run_store TC.P w _ _ _ rfl,hcell];simp [hfr]
     have:=k1
     simp only [storeCells,z2z,Nat.add_zero,Sem.run_bind,hst,Result.andThen_ok,Sem.run_pure,Result.ok.injEq,true_and]at this
     exact this.symm
    rw [<-e2]
    have e3:O.set r (some ([[.bld r,x]].set 0 (z1e [.bld r,x] 0 [.bld r])))=O:=by
     have:([[AV.bld r,x]]:List (List AV)).set 0 (z1e [.bld r,x] 0 [.bld r])=[[.bld r,x]]:=by simp [z1e]
     rw [this]
     exact ztk hr
    rw [e3]at k3
    exact⟨_,γ,rfl,k2,k3,by simp only [VR];exact⟨[],rfl,VRt.nil⟩⟩
   ·refine(Any.Builder_copyCheck_used Tryd.lays240 Tryd.x72_240 pl.b w hcell).mono ?_
    rintro e w' ⟨rfl,rfl⟩
    exact⟨_,γ,rfl,Step.refl _ _,hR,by simp only [VR];exact⟨[],rfl,VRt.nil⟩⟩
theorem zcm(O:Store)(r rb:Nat)(s:List UInt8)(h0:s ≠ [])(hs:s.length<=1073741824)(h1:O[r]? =some (some [[.bld r,.bsl rb s.length]]))(h2:O[rb]? =some (some (zw s))):
  ACallsTo TC 105 [.ptr r 0 0] O (.str s) (O.set rb none):=by
 obtain⟨e,hc⟩:=Option.isSome_iff_exists.1 (show (cFn TC 105).isSome=true by kernel_rfl)
 simp only [cFn,Option.bind_eq_some_iff]at hc
 obtain⟨fn,hf,hc⟩:=hc
 split at hc
 ·cases hc
 ·rename_i hname
  simp only [Option.bind_eq_some_iff,Option.map_eq_some_iff]at hc
  obtain⟨c,hb,_⟩:=hc
  intro γ w cargs hR ha
  left
  constructor
  ·have h1:fn.name ≠ "runtime.NumGoroutine" :=by simpa using hname
   simp [callFunc,hf,h1,hb]
  ·obtain⟨pl,v0,v1,fz,hpl,hb0,hez,hw,hv0,hv1,hfz⟩:=hR.bld_at h1
   simp only [VRt,VR]at ha
   obtain⟨_,_,rfl,⟨fl,pl',hpl',rfl⟩,rfl⟩:=ha
   rw [hpl]at hpl';cases hpl'
   have ea:pl.base+0*pl.esz+0=0:=by rw [hb0];omega
   rw [ea]
   simp only [VR]at hv1
   obtain⟨fl2,pb,cap,hpb,⟨t1,t2,t3⟩,rfl,hso⟩:=hv1
   obtain⟨pb',hpb',hok⟩:=hR.alive rb _ h2
   rw [hpb]at hpb';cases hpb'
   obtain⟨cur,ty,fg,pre,mid,post,q1,q2,q3,q4,q5,q6⟩:=hok.ex
   have hty:ty=u8T:=by
    obtain⟨c0,fz0,h0⟩:=hok.tyk
    rw [q1]at h0;cases h0;exact t1
   subst hty
   have hpre:pre=[]:=List.eq_nil_of_length_eq_zero (by omega)
   subst hpre
   rw [zcn]at q5
   have hml:=q5.length
   rw [List.length_map]at hml
   have hcs:s.length<=cur.size:=by
    rw [<-Array.length_toList,q2];simp;omega
   refine(Tryd.string_ex Tryd.lays169 Tryd.Builder_Extra_169 pl.b pb.b cap cur v0 fz fg s w h0 hw q1 hso.le hcs (by omega) (fun j x hj=> ?_)).mono ?_
   ·obtain⟨v,k1,k2⟩:=q5.get (i:=j) (a:=B8 x) (by rw [List.getElem?_map,hj];rfl)
    have hv:=k2.1
    simp only [B8,VR]at hv
    rw [z2z,Nat.zero_add,Lib.cell_of_heap q1]
    show cur[j]? =_
    rw [<-Array.getElem?_toList,q2,List.nil_append,List.getElem?_append_left (by
     rcases Nat.lt_or_ge j mid.length with h|h
     ·exact h
     ·simp [List.getElem?_eq_none h]at k1),k1,hv]
   ·rintro e w' ⟨rfl,rfl⟩
    have hz:s.length ≠ 0:=by simpa using h0
    obtain⟨k1,k2⟩:=hR.lose (w':=w.drew.freeze ⟨pb.b,0,none⟩ s.length) hpb (by show (World.freeze w.drew _ _).heap.size=w.drew.heap.size;unfold World.freeze;rw [if_neg hz];exact Array.size_modify) (fun b hb=>by
     show (World.freeze w.drew _ _).heap[b]? =w.drew.heap[b]?
     unfold World.freeze
     rw [if_neg hz]
     simp only [Array.getElem?_modify]
     rw [if_neg (fun e=>hb e.symm)]) (by unfold World.freeze;rw [if_neg hz];rfl) (by unfold World.freeze;rw [if_neg hz];rfl) (by unfold World.freeze;rw [if_neg hz];rfl)
    exact⟨_,_,rfl,k1,k2,by simp only [VR]⟩
end Am
end Go.Proofs.YtlfpiblipmiobaaDoor
end
namespace Go.Proofs.YtlfpiblipmiobaaDoor
namespace Am
section
theorem zm3{k:Nat}(l:List UInt8):RLss k (zw l):=by
 induction l with
 |nil=>simp [zw,RLss]
 |cons b l ih=>simp only [zw,B8]at ih;simp [zw,RLss,B8,RLs,RL,ih]
def OwnB(O O':Store)(v:AV)(b:List UInt8):Prop:=∃news j,O'=O++news/\ v=.sl (O.length+j) 0 b.length none 1/\ news[j]? =some (some (zw b))
theorem OwnB.down{O O':Store}{v:AV}{b:List UInt8}(hw:Wf O.length O)(h:OwnB O O' v b):DownV O.length v O' (.vsl 1 (zw b) false) O:=by
 obtain⟨news,j,rfl,rfl,h⟩:=h
 have hl:(zw b).length=b.length:=zl b
 have e:((zw b).drop 0).take b.length=zw b:=by rw [List.drop_zero,List.take_of_length_le (by omega)]
 have:=DownV.froze (off:=0) (len:=b.length) (esz:=1) (lim:=none) hw h (by omega) (by rw [e];exact zm3 b)
 rw [e]at this
 exact this
theorem OwnB.app{O O':Store}{r n:Nat}{b c:List UInt8}(h:OwnB O O' (.sl r 0 n none 1) b):OwnB O (O'.set r none++ [some (zw c)]) (.sl O'.length 0 c.length none 1) c:=by
 obtain⟨news,j,rfl,e,h⟩:=h
 simp only [AV.sl.injEq,true_and,and_true]at e
 obtain⟨rfl,rfl⟩:=e
 refine⟨news.set j none++ [some (zw c)],news.length,?_,by simp,?_⟩
 ·rw [List.set_append_right _ _ (by omega),Nat.add_sub_cancel_left,List.append_assoc]
 ·rw [List.getElem?_append_right (by simp)];simp
theorem OwnB.get{O O':Store}{v:AV}{b:List UInt8}(h:OwnB O O' v b):∃r,v=.sl r 0 b.length none 1/\ O'[r]? =some (some (zw b)):=by
 obtain⟨news,j,rfl,rfl,h⟩:=h
 exact⟨_,rfl,by rw [List.getElem?_append_right (by omega),Nat.add_sub_cancel_left];exact h⟩
theorem zgq(b:List UInt8)(x:Nat)(m:Int)(h:m=((x%256:Nat):Int)):zw b++ [[AV.int .u8 m]]=zw (b++ [UInt8.ofNat x]):=by
 subst h
 simp [zw,B8]
theorem zmo(x:Nat){j:Nat}(h:j<8):(be 8 x).take j++ [UInt8.ofNat (x/2^(8*(7-j)))]=(be 8 x).take (j+1):=by
 have e:be 8 x=[UInt8.ofNat (x/256^7),UInt8.ofNat (x/256^6),UInt8.ofNat (x/256^5),UInt8.ofNat (x/256^4),UInt8.ofNat (x/256^3),UInt8.ofNat (x/256^2),UInt8.ofNat (x/256^1),UInt8.ofNat (x/256^0)]:=by
  simp only [z91]
  rfl
 rw [e]
 have hj:j=0 \/j=1 \/j=2 \/j=3 \/j=4 \/j=5 \/j=6 \/j=7:=by omega
 rcases hj with rfl|rfl|rfl|rfl|rfl|rfl|rfl|rfl<;>rfl
theorem pad_to(O:Store)(s:List UInt8)(h:s.length<1000000000):ACallsTo TC 88 [.str s] O (.vsl 1 (zw (padS s)) false) O:=by
 obtain⟨z,hz⟩:∃z:Nat,z=(119-s.length%64)%64:=⟨_,rfl⟩
 have hz64:z<64:=by rw [hz];exact Nat.mod_lt _ (by decide)
 obtain⟨P,hP⟩:∃P,P=padS s:=⟨_,rfl⟩
 have hP2:P=(s++128::List.replicate z 0)++be 8 (s.length*8):=by rw [hP,padS,hz];simp
 rw [<-hP]
 refine ACallsTo.of_body q9ok (by simp) fun hw _=> ?_
 repeat' (first|apply zs_|apply zb_|apply zc_|apply zt_ rfl|apply zf_ rfl|(apply zd_ rfl<;>intro ht<;>try omega)|((first|apply zr_|apply zk_|apply ze_|apply zq_|(apply zG<;>intro ht));all_goals try simp (disch:=first|omega|(simp only [lens];first|done|omega)) only [go_sem]))
 refine zW.loop (fun m J O'=>∃k:Nat,m+k=z/\ J 0=.str s/\ OwnB O O' (J 3) (s++128::List.replicate k 0)) z ?_ ?_
 ·refine⟨0,by omega,by simp (disch:=first|omega|(simp only [lens];first|done|omega)) only [go_sem],?_⟩
  simp (disch:=first|omega|(simp only [lens];first|done|omega)) only [go_sem]
  refine⟨[none,some (zw (s++ [128]))],1,?_,?_,rfl⟩
  ·simp [zw,B8]
  ·simp
 ·rintro m J O' ⟨k,hm,q0,hO⟩
  obtain⟨r,q3,hg⟩:=hO.get
  have hb:(s++128::List.replicate k 0).length=s.length+1+k:=by simp;omega
  have hbe:=zl (s++128::List.replicate k 0)
  by_cases hk:k<z
  ·rw [q3]at hO
   rw [hb]at q3 hbe hO
   have e0:zw (s++128::List.replicate k 0)++ [[AV.int .u8 0]]=zw (s++128::List.replicate (k+1) 0):=by
    rw [zgq _ 0 0 (by simp),List.append_assoc,List.cons_append,List.replicate_succ']
    rfl
   have hO2:=hO.app (c:=s++128::List.replicate (k+1) 0)
   have hc:(s++128::List.replicate (k+1) 0).length=s.length+1+k+1:=by simp;omega
   rw [hc]at hO2
   generalize zw (s++128::List.replicate k 0)=bb at*
   repeat' (first|apply zs_|apply zb_|apply zc_|apply zt_ rfl|apply zf_ rfl|(apply zd_ rfl<;>intro ht<;>try omega)|((first|apply zr_|apply zk_|apply ze_|apply zq_|(apply zG<;>intro ht));all_goals try simp (disch:=first|omega|(simp only [lens];first|done|omega)) only [go_sem,q0,q3,hg,hbe,e0]))
   exact⟨z-(k+1),by omega,k+1,by omega,hO2⟩
  ·obtain rfl:k=z:=by omega
   obtain⟨N,hN⟩:∃N,N=s.length*8:=⟨_,rfl⟩
   have hN2:(s.length:Int)*8=N:=by omega
   have hb8:(be 8 N).length=8:=z3q _ _
   rw [<-hN]at hP2
   rw [hb]at q3 hbe
   have h56:((s.length:Int)+1+k)%64=56:=by omega
   generalize hB:s++128::List.replicate k 0=B at*
   repeat' (first|apply zs_|apply zb_|apply zc_|apply zt_ rfl|apply zf_ rfl|(apply zd_ rfl<;>intro ht<;>try omega)|((first|apply zr_|apply zk_|apply ze_|apply zq_|(apply zG<;>intro ht));all_goals try simp (disch:=first|omega|(simp only [lens];first|done|omega)) only [go_sem,q0,q3,h56,hN2,Int.natCast_add,Int.natCast_one]))
   refine zW.loop (fun m J O'=>∃j:Nat,m+j=8/\ J 4=.int .u64 N/\ J 5=.int .i64 (7-j)/\ OwnB O O' (J 3) (B++(be 8 N).take j)) 8 ?_ ?_
   ·refine⟨0,by omega,by simp (disch:=first|omega|(simp only [lens];first|done|omega)) only [go_sem],by simp (disch:=first|omega|(simp only [lens];first|done|omega)) only [go_sem];rfl,?_⟩
    simp (disch:=first|omega|(simp only [lens];first|done|omega)) only [go_sem,q3]
    rw [q3]at hO
    exact hO
   ·clear q0 q3 hO hg
    rintro m J O' ⟨j,hm,q4,q5,hO⟩
    obtain⟨r,q3,hg⟩:=hO.get
    have hl:(B++(be 8 N).take j).length=s.length+1+k+j:=by rw [List.length_append,hb,List.length_take,hb8];omega
    have hbe:=zl (B++(be 8 N).take j)
    by_cases hj:j<8
    ·rw [q3]at hO
     rw [hl]at q3 hbe hO
     have hO2:=hO.app (c:=B++(be 8 N).take (j+1))
     have hc:(B++(be 8 N).take (j+1)).length=s.length+1+k+j+1:=by rw [List.length_append,hb,List.length_take,hb8];omega
     rw [hc]at hO2
     have hs:(8*(7-(j:Int))).toNat=8*(7-j):=by omega
     have e0:zw (B++(be 8 N).take j)++ [[AV.int .u8 ((N:Int)/2^(8*(7-j))%256)]]=zw (B++(be 8 N).take (j+1)):=by
      rw [zgq _ (N/2^(8*(7-j))) _ (by rw [Int.natCast_emod,Int.natCast_ediv,Int.natCast_pow];rfl),List.append_assoc,zmo N hj]
     generalize zw (B++(be 8 N).take j)=bb at*
     repeat' (first|apply zs_|apply zb_|apply zc_|apply zt_ rfl|apply zf_ rfl|(apply zd_ rfl<;>intro ht<;>try omega)|((first|apply zr_|apply zk_|apply ze_|apply zq_|(apply zG<;>intro ht));all_goals try simp (disch:=first|omega|(simp only [lens];first|done|omega)) only [go_sem,q3,q4,q5,hg,hbe,hs,e0]))
     exact⟨8-(j+1),by omega,j+1,by omega,by rw [show (7:Int)-((j+1:Nat):Int)=7-j-1 by omega],hO2⟩
    ·obtain rfl:j=8:=by omega
     have e8:B++(be 8 N).take 8=P:=by rw [List.take_of_length_le (by omega)];exact hP2.symm
     rw [e8]at hO q3
     repeat' (first|apply zs_|apply zb_|apply zc_|apply zt_ rfl|apply zf_ rfl|(apply zd_ rfl<;>intro ht<;>try omega)|((first|apply zr_|apply zk_|apply ze_|apply zq_|(apply zG<;>intro ht));all_goals try simp (disch:=first|omega|(simp only [lens];first|done|omega)) only [go_sem,q3,q5]))
     rw [q3]at hO
     exact hO.down hw
end
section
def z32:List AV:=zj (List.replicate 32 0)
def mkS(τ:Store)(u:V8)(cells:List AV):Store:=τ++ [some [z32],some [gl_sha_rounds],some [u.c8],some [cells]]
def Rk(J:Env)(a:Nat)(p:List UInt8)(n:Nat):Prop:=
 J 2=.ptr a 0 0/\ J 3=.ptr (a+1) 0 0/\ J 4=.ptr (a+2) 0 0/\ J 5=.vsl 1 (zw p) false/\ J 6=.ptr (a+3) 0 0/\ J 7=.int .i64 n
theorem zh1{w:List W}{x:W}{n:Nat}{rest:List AV}(h:w.length=n)(hr:0<rest.length):(ws w++rest).take n++AV.int .u32 x.toNat::(ws w++rest).drop (n+1)=ws (w++ [x])++rest.drop 1:=by
 have hl:(ws w).length=n:=by rw [z49,h]
 rw [List.take_append_of_le_length (by omega),List.take_of_length_le (by omega),List.drop_append,List.drop_of_length_le (by omega),hl]
 rw [show n+1-n=1 by omega,List.nil_append]
 simp [ws,wc]
theorem zva{p:List UInt8}{n i:Nat}(h:n+4*i+4<=p.length)(hi:i<16):
  ((p.getD (n+4*i) 0).toNat:Int)*16777216+(p.getD (n+4*i+1) 0).toNat*65536+(p.getD (n+4*i+2) 0).toNat*256+(p.getD (n+4*i+3) 0).toNat=((z12 ((p.drop n).take 64) i).toNat:Int):=by
 have e:((((p.drop n).take 64).drop (4*i)).take 4)=[p.getD (n+4*i) 0,p.getD (n+4*i+1) 0,p.getD (n+4*i+2) 0,p.getD (n+4*i+3) 0]:=by
  rw [List.drop_take,List.take_take,List.drop_drop,show min 4 (64-4*i)=4 by omega]
  obtain⟨A,hA⟩:∃A,A=p.drop (n+4*i):=⟨_,rfl⟩
  have g:∀k,p.getD (n+4*i+k) 0=A.getD k 0:=by
   intro k
   rw [hA,List.getD_eq_getElem?_getD,List.getD_eq_getElem?_getD,List.getElem?_drop]
  have g0:=g 0
  rw [Nat.add_zero]at g0
  rw [g0,g 1,g 2,g 3,<-hA]
  have hl:4<=A.length:=by rw [hA,List.length_drop];omega
  match A,hl with
  |a::b::c::d::A,_=>rfl
 unfold z12
 rw [e]
 generalize p.getD (n+4*i) 0=a
 generalize p.getD (n+4*i+1) 0=b
 generalize p.getD (n+4*i+2) 0=c
 generalize p.getD (n+4*i+3) 0=d
 have h1:=a.toNat_lt
 have h2:=b.toNat_lt
 have h3:=c.toNat_lt
 have h4:=d.toNat_lt
 simp only [getS,val,List.take_of_length_le (show [a,b,c,d].length<=8 by simp),List.foldl_cons,List.foldl_nil,BitVec.toNat_ofNat]
 omega
section
variable {k:Nat} {Q:AExit->Env->Store->Prop} {J:Env} {τ:Store} {u:V8} {p:List UInt8} {n:Nat}
theorem zsz{cells:List AV}(K:Rk J τ.length p n)(hp:n+64<=p.length)(hpl:p.length<2000000000)(hc:cells.length=64)
  (hQ:∀J' rest,rest.length=48->Rk J' τ.length p n->Q .normal J' (mkS τ u (ws (z16 ((p.drop n).take 64) 16)++rest))):zW TC 252 k q7c21 Q J (mkS τ u cells):=by
 obtain⟨k2,k3,k4,k5,k6,k7⟩:=K
 obtain⟨q,hq⟩:∃q,q=(p.drop n).take 64:=⟨_,rfl⟩
 rw [<-hq]at hQ
 repeat' (first|apply zs_|apply zb_|apply zc_|apply zt_ rfl|apply zf_ rfl|(apply zd_ rfl<;>intro ht<;>try omega)|((first|apply zr_|apply zk_|apply ze_|apply zq_|(apply zG<;>intro ht));all_goals try simp (disch:=first|omega|(simp only [lens];first|done|omega)) only [go_sem]))
 refine zW.loop (fun m J O'=>∃(i:Nat) (rest:List AV),m+i=16/\ rest.length=64-i/\ Rk J τ.length p n/\ J 8=.int .i64 i/\ O'=mkS τ u (ws (z16 q i)++rest)) 16 ?_ ?_
 ·exact⟨0,cells,by omega,hc,⟨by simp (disch:=first|omega|(simp only [lens];first|done|omega)) only [go_sem,k2],by simp (disch:=first|omega|(simp only [lens];first|done|omega)) only [go_sem,k3],by simp (disch:=first|omega|(simp only [lens];first|done|omega)) only [go_sem,k4],by simp (disch:=first|omega|(simp only [lens];first|done|omega)) only [go_sem,k5],by simp (disch:=first|omega|(simp only [lens];first|done|omega)) only [go_sem,k6],by simp (disch:=first|omega|(simp only [lens];first|done|omega)) only [go_sem,k7]⟩,by simp (disch:=first|omega|(simp only [lens];first|done|omega)) only [go_sem];rfl,rfl⟩
 ·rintro m J O' ⟨i,rest,hm,hr,⟨q2,q3,q4,q5,q6,q7⟩,q8,rfl⟩
  by_cases hi:i<16
  ·have hwd:=zva (p:=p) (n:=n) (i:=i) (by omega) hi
   rw [<-hq]at hwd
   have hset:=zh1 (x:=z12 q i) (rest:=rest) (z4k q i) (by omega)
   have hlen:(ws (z16 q i)++rest).length=64:=by rw [List.length_append,z49,z4k,hr];omega
   have hsc:z16 q (i+1)=z16 q i++ [z12 q i]:=by rw [z16,z2x,z4k,if_pos hi]
   have n0:((n:Int)+4*i).toNat=n+4*i:=by omega
   have n1:((n:Int)+4*i+1).toNat=n+4*i+1:=by omega
   have n2:((n:Int)+4*i+2).toNat=n+4*i+2:=by omega
   have n3:((n:Int)+4*i+3).toNat=n+4*i+3:=by omega
   have b0:=(p.getD (n+4*i) 0).toNat_lt
   have b1:=(p.getD (n+4*i+1) 0).toNat_lt
   have b2:=(p.getD (n+4*i+2) 0).toNat_lt
   have b3:=(p.getD (n+4*i+3) 0).toNat_lt
   have g0:=zhq (s:=p) (i:=n+4*i) (by omega)
   have e0:=z7u (s:=p) (i:=n+4*i) (by omega)
   have e1:=z7u (s:=p) (i:=n+4*i+1) (by omega)
   have e2:=z7u (s:=p) (i:=n+4*i+2) (by omega)
   have e3:=z7u (s:=p) (i:=n+4*i+3) (by omega)
   have hpb:=zl p
   unfold mkS
   generalize p.getD (n+4*i) 0=x0 at*
   generalize p.getD (n+4*i+1) 0=x1 at*
   generalize p.getD (n+4*i+2) 0=x2 at*
   generalize p.getD (n+4*i+3) 0=x3 at*
   generalize hpb2:zw p=pb at*
   generalize hcc:ws (z16 q i)++rest=cc at*
   repeat' (first|refine zs_ ?_|refine zb_ ?_|refine zc_ ?_|refine zt_ rfl ?_|refine zf_ rfl ?_|(refine zd_ rfl (fun ht=> ?_) (fun ht=> ?_)<;>try (exfalso;omega))|((first|refine zW.regS ?_|refine zk_ ?_|refine ze_ ?_|refine zq_ ?_|(apply zG<;>intro ht));all_goals try simp (disch:=first|omega|(simp only [lens];first|done|omega)) only [go_sem,q2,q3,q4,q5,q6,q7,q8,hlen,n0,n1,n2,n3,e0,e1,e2,e3]))
   refine⟨16-(i+1),by omega,i+1,rest.drop 1,by omega,by rw [List.length_drop];omega,⟨by simp (disch:=first|omega|(simp only [lens];first|done|omega)) only [go_sem,q2],by simp (disch:=first|omega|(simp only [lens];first|done|omega)) only [go_sem,q3],by simp (disch:=first|omega|(simp only [lens];first|done|omega)) only [go_sem,q4],(by simp (disch:=first|omega|(simp only [lens];first|done|omega)) only [go_sem,q5];rw [hpb2]),by simp (disch:=first|omega|(simp only [lens];first|done|omega)) only [go_sem,q6],by simp (disch:=first|omega|(simp only [lens];first|done|omega)) only [go_sem,q7]⟩,by simp,?_⟩
   rw [hwd,hset,hsc]
  ·obtain rfl:i=16:=by omega
   repeat' (first|apply zs_|apply zb_|apply zc_|apply zt_ rfl|apply zf_ rfl|(apply zd_ rfl<;>intro ht<;>try omega)|((first|apply zr_|apply zk_|apply ze_|apply zq_|(apply zG<;>intro ht));all_goals try simp (disch:=first|omega|(simp only [lens];first|done|omega)) only [go_sem,q8]))
   exact hQ _ rest (by omega) ⟨by simp (disch:=first|omega|(simp only [lens];first|done|omega)) only [go_sem,q2],by simp (disch:=first|omega|(simp only [lens];first|done|omega)) only [go_sem,q3],by simp (disch:=first|omega|(simp only [lens];first|done|omega)) only [go_sem,q4],by simp (disch:=first|omega|(simp only [lens];first|done|omega)) only [go_sem,q5],by simp (disch:=first|omega|(simp only [lens];first|done|omega)) only [go_sem,q6],by simp (disch:=first|omega|(simp only [lens];first|done|omega)) only [go_sem,q7]⟩
theorem zsy{q:List UInt8}{rest:List AV}(K:Rk J τ.length p n)(hr:rest.length=48)
  (hQ:∀J',Rk J' τ.length p n->Q .normal J' (mkS τ u (ws (z16 q 64)))):zW TC 252 k q7c34 Q J (mkS τ u (ws (z16 q 16)++rest)):=by
 obtain⟨R,hR⟩:∃R,R=z16 q 64:=⟨_,rfl⟩
 rw [<-hR]at hQ
 obtain⟨k2,k3,k4,k5,k6,k7⟩:=K
 repeat' (first|apply zs_|apply zb_|apply zc_|apply zt_ rfl|apply zf_ rfl|(apply zd_ rfl<;>intro ht<;>try omega)|((first|apply zr_|apply zk_|apply ze_|apply zq_|(apply zG<;>intro ht));all_goals try simp (disch:=first|omega|(simp only [lens];first|done|omega)) only [go_sem]))
 refine zW.loop (fun m J O'=>∃(i:Nat) (rest:List AV),m+i=64/\ 16<=i/\ rest.length=64-i/\ Rk J τ.length p n/\ J 10=.int .i64 i/\ O'=mkS τ u (ws (z16 q i)++rest)) 48 ?_ ?_
 ·exact⟨16,rest,by omega,by omega,hr,⟨by simp (disch:=first|omega|(simp only [lens];first|done|omega)) only [go_sem,k2],by simp (disch:=first|omega|(simp only [lens];first|done|omega)) only [go_sem,k3],by simp (disch:=first|omega|(simp only [lens];first|done|omega)) only [go_sem,k4],by simp (disch:=first|omega|(simp only [lens];first|done|omega)) only [go_sem,k5],by simp (disch:=first|omega|(simp only [lens];first|done|omega)) only [go_sem,k6],by simp (disch:=first|omega|(simp only [lens];first|done|omega)) only [go_sem,k7]⟩,by simp (disch:=first|omega|(simp only [lens];first|done|omega)) only [go_sem];rfl,rfl⟩
 ·clear hr
  rintro m J O' ⟨i,rest,hm,h16,hr,⟨q2,q3,q4,q5,q6,q7⟩,q10,rfl⟩
  have hsl:=z4k q i
  by_cases hi:i<64
  ·have hset:=zh1 (x:=z2x q (z16 q i)) (rest:=rest) hsl (by omega)
   have hlen:(ws (z16 q i)++rest).length=64:=by rw [List.length_append,z49,z4k,hr];omega
   have hsc:z16 q (i+1)=z16 q i++ [z2x q (z16 q i)]:=by rw [z16]
   have en:z2x q (z16 q i)=wat (z16 q i) (i-16)+wat (z16 q i) (i-7)+ss0 (wat (z16 q i) (i-15))+ss1 (wat (z16 q i) (i-2)):=by rw [z2x,if_neg (by omega),hsl]
   have hwi:∀j,j<i->(ws (z16 q i)++rest)[j]? =some (.int .u32 (wat (z16 q i) j).toNat):=by
    intro j hj
    rw [List.getElem?_append_left (by rw [z49];omega),z8l (by omega)]
   have g16:=hwi (i-16) (by omega)
   have g7:=hwi (i-7) (by omega)
   have g15:=hwi (i-15) (by omega)
   have g2:=hwi (i-2) (by omega)
   have t16:((i:Int)-16).toNat=i-16:=by omega
   have t7:((i:Int)-7).toNat=i-7:=by omega
   have t15:((i:Int)-15).toNat=i-15:=by omega
   have t2:((i:Int)-2).toNat=i-2:=by omega
   have r7:32-(7:Int).toNat=25:=rfl
   clear hwi
   generalize z2x q (z16 q i)=nx at*
   generalize wat (z16 q i) (i-16)=w16 at*
   generalize wat (z16 q i) (i-7)=w7 at*
   generalize wat (z16 q i) (i-15)=w15 at*
   generalize wat (z16 q i) (i-2)=w2 at*
   unfold mkS
   generalize hpb2:zw p=pb at*
   generalize hcc:ws (z16 q i)++rest=cc at*
   repeat' (first|refine zs_ ?_|refine zb_ ?_|refine zc_ ?_|refine zt_ rfl ?_|refine zf_ rfl ?_|(refine zd_ rfl (fun ht=> ?_) (fun ht=> ?_)<;>try (exfalso;omega))|((first|refine zW.regS ?_|refine zk_ ?_|refine ze_ ?_|refine zq_ ?_|(apply callW.mk_pu;(first|exact(fun _=>zc5 _ _ _ (by omega))))|(apply callW.za;(first|exact(zc5 _ _ _ (by omega))))|(apply zG<;>intro ht));all_goals try simp (disch:=first|omega|(simp only [lens];first|done|omega)) only [go_sem,q2,q3,q4,q5,q6,q7,q10,hlen,g16,g7,g15,g2,t16,t7,t15,t2]))
   refine⟨64-(i+1),by omega,i+1,rest.drop 1,by omega,by omega,by rw [List.length_drop];omega,⟨by simp (disch:=first|omega|(simp only [lens];first|done|omega)) only [go_sem,q2],by simp (disch:=first|omega|(simp only [lens];first|done|omega)) only [go_sem,q3],by simp (disch:=first|omega|(simp only [lens];first|done|omega)) only [go_sem,q4],(by simp (disch:=first|omega|(simp only [lens];first|done|omega)) only [go_sem,q5];rw [hpb2]),by simp (disch:=first|omega|(simp only [lens];first|done|omega)) only [go_sem,q6],by simp (disch:=first|omega|(simp only [lens];first|done|omega)) only [go_sem,q7]⟩,by simp,?_⟩
   rw [hsc,<-hset,en]
   have ec:∀s t:W,w16+s+w7+t=w16+w7+s+t:=fun s t=>by rw [BitVec.add_assoc w16 s w7,BitVec.add_comm s w7,<-BitVec.add_assoc w16 w7 s]
   rw [ec]
   rfl
  ·obtain rfl:i=64:=by omega
   have hr0:rest=[]:=List.eq_nil_of_length_eq_zero (by omega)
   rw [hr0,<-hR,List.append_nil]
   clear hsl hR
   repeat' (first|apply zs_|apply zb_|apply zc_|apply zt_ rfl|apply zf_ rfl|(apply zd_ rfl<;>intro ht<;>try omega)|((first|apply zr_|apply zk_|apply ze_|apply zq_|(apply zG<;>intro ht));all_goals try simp (disch:=first|omega|(simp only [lens];first|done|omega)) only [go_sem,q10]))
   exact hQ _ ⟨by simp (disch:=first|omega|(simp only [lens];first|done|omega)) only [go_sem,q2],by simp (disch:=first|omega|(simp only [lens];first|done|omega)) only [go_sem,q3],by simp (disch:=first|omega|(simp only [lens];first|done|omega)) only [go_sem,q4],by simp (disch:=first|omega|(simp only [lens];first|done|omega)) only [go_sem,q5],by simp (disch:=first|omega|(simp only [lens];first|done|omega)) only [go_sem,q6],by simp (disch:=first|omega|(simp only [lens];first|done|omega)) only [go_sem,q7]⟩
end
end
section
theorem k_get{i:Nat}(h:i<64):gl_sha_rounds[i]? =some (.int .u32 (kAt i).toNat):=by
 have:=zib h
 rwa [List.getElem?_drop,Nat.add_zero]at this
section
variable {k:Nat} {Q:AExit->Env->Store->Prop} {J:Env} {τ:Store} {u:V8} {p:List UInt8} {n:Nat}
theorem zsx{q:List UInt8}(K:Rk J τ.length p n)
  (hQ:∀J',Rk J' τ.length p n->Q .normal J' (mkS τ (mixS u q) (ws (z16 q 64)))):zW TC 252 k q7c53 Q J (mkS τ u (ws (z16 q 64))):=by
 obtain⟨R,hR⟩:∃R,R=z16 q 64:=⟨_,rfl⟩
 have hRl:R.length=64:=by rw [hR,z4k]
 have hwR:(ws R).length=64:=by rw [z49,hRl]
 have hst:∀n,rnds q u (n+1)=rnd (rnds q u n) (kAt n) (wat R n):=fun n=>by rw [rnds,hR]
 obtain⟨U,hU⟩:∃U,U=rnds q u 64:=⟨_,rfl⟩
 have hmix:mixS u q=U.add u:=by rw [mixS,hU]
 rw [hmix]at hQ
 rw [<-hR]at hQ ⊢
 obtain⟨k2,k3,k4,k5,k6,k7⟩:=K
 unfold mkS
 refine zs_ ?_
 (refine zW.regS ?_;(simp (disch:=first|omega|(simp only [lens];first|done|omega)) only [go_sem,k4,V8.c8]))
 (refine zW.slots [2,3,4,5,6,7,13,14,15,16,17,18,19,20] ?_;intro J1 hs;simp (disch:=first|omega|(simp only [lens];first|done|omega)) only [go_sem,k2,k3,k4,k5,k6,k7]at hs;obtain⟨s2,s3,s4,s5,s6,s7,s13,s14,s15,s16,s17,s18,s19,s20⟩:=hs)
 refine zs_ ?_
 refine zs_ ?_
 (refine zW.regS ?_;(simp (disch:=first|omega|(simp only [lens];first|done|omega)) only [go_sem]))
 refine zb_ ?_
 refine zW.loop (fun m J O'=>∃i:Nat,m+i=64/\ Rk J τ.length p n/\ J 21=.int .i64 i/\ J 13=.int .u32 (rnds q u i).a.toNat/\ J 14=.int .u32 (rnds q u i).b.toNat/\ J 15=.int .u32 (rnds q u i).c.toNat/\ J 16=.int .u32 (rnds q u i).d.toNat ∧
  J 17=.int .u32 (rnds q u i).e.toNat/\ J 18=.int .u32 (rnds q u i).f.toNat/\ J 19=.int .u32 (rnds q u i).g.toNat/\ J 20=.int .u32 (rnds q u i).h.toNat/\ O'=mkS τ u (ws R)) 64 ?_ ?_
 ·exact⟨0,by omega,⟨by simp (disch:=first|omega|(simp only [lens];first|done|omega)) only [go_sem,s2],by simp (disch:=first|omega|(simp only [lens];first|done|omega)) only [go_sem,s3],by simp (disch:=first|omega|(simp only [lens];first|done|omega)) only [go_sem,s4],by simp (disch:=first|omega|(simp only [lens];first|done|omega)) only [go_sem,s5],by simp (disch:=first|omega|(simp only [lens];first|done|omega)) only [go_sem,s6],by simp (disch:=first|omega|(simp only [lens];first|done|omega)) only [go_sem,s7]⟩,by simp (disch:=first|omega|(simp only [lens];first|done|omega)) only [go_sem];rfl,by simp (disch:=first|omega|(simp only [lens];first|done|omega)) only [go_sem,s13];rfl,by simp (disch:=first|omega|(simp only [lens];first|done|omega)) only [go_sem,s14];rfl,by simp (disch:=first|omega|(simp only [lens];first|done|omega)) only [go_sem,s15];rfl,by simp (disch:=first|omega|(simp only [lens];first|done|omega)) only [go_sem,s16];rfl,by simp (disch:=first|omega|(simp only [lens];first|done|omega)) only [go_sem,s17];rfl,by simp (disch:=first|omega|(simp only [lens];first|done|omega)) only [go_sem,s18];rfl,by simp (disch:=first|omega|(simp only [lens];first|done|omega)) only [go_sem,s19];rfl,by simp (disch:=first|omega|(simp only [lens];first|done|omega)) only [go_sem,s20];rfl,rfl⟩
 ·clear s2 s3 s4 s5 s6 s7 s13 s14 s15 s16 s17 s18 s19 s20
  rintro m J O' ⟨i,hm,⟨q2,q3,q4,q5,q6,q7⟩,q21,q13,q14,q15,q16,q17,q18,q19,q20,rfl⟩
  by_cases hi:i<64
  ·have hk:=k_get hi
   have hw:=z8l (w:=R) (i:=i) (by omega)
   have hst:=hst i
   generalize rnds q u i=v at*
   obtain⟨a,b,c,d,e,f,g,h⟩:=v
   simp only at q13 q14 q15 q16 q17 q18 q19 q20
   generalize kAt i=kk at*
   generalize wat R i=ww at*
   generalize hpb:zw p=pb at*
   unfold mkS
   refine zs_ ?_
   refine zs_ ?_
   (refine zW.regS ?_;(simp (disch:=first|omega|(simp only [lens];first|done|omega)) only [go_sem,q21]))
   refine zt_ rfl ?_
   refine zk_ ?_
   simp (disch:=first|omega|(simp only [lens];first|done|omega)) only [go_sem]
   refine zs_ ?_
   refine zb_ ?_
   refine zs_ ?_
   (refine zW.regS ?_;(simp (disch:=first|omega|(simp only [lens];first|done|omega)) only [go_sem,q3,q6,q17,q18,q19,q20,q21,hwR,hk,hw,z9e]);repeat' (apply callW.za;(first|exact(zc5 _ _ _ (by omega)));all_goals try (simp (disch:=first|omega|(simp only [lens];first|done|omega)) only [go_sem,q3,q6,q17,q18,q19,q20,q21,hwR,hk,hw,z9e])))
   (refine zW.slots [2,3,4,5,6,7,13,14,15,16,17,18,19,20,21,22] ?_;intro J2 hs;simp (disch:=first|omega|(simp only [lens];first|done|omega)) only [go_sem,q2,q3,q4,q5,q6,q7,q13,q14,q15,q16,q17,q18,q19,q20,q21]at hs;obtain⟨s2,s3,s4,s5,s6,s7,s13,s14,s15,s16,s17,s18,s19,s20,s21,s22⟩:=hs)
   refine zs_ ?_
   (refine zW.regS ?_;(simp (disch:=first|omega|(simp only [lens];first|done|omega)) only [go_sem,s13,s14,s15]);repeat' (apply callW.za;(first|exact(zc5 _ _ _ (by omega)));all_goals try (simp (disch:=first|omega|(simp only [lens];first|done|omega)) only [go_sem,s13,s14,s15])))
   (refine zW.slots [2,3,4,5,6,7,13,14,15,16,17,18,19,20,21,22,23] ?_;intro J3 hs;simp (disch:=first|omega|(simp only [lens];first|done|omega)) only [go_sem,s2,s3,s4,s5,s6,s7,s13,s14,s15,s16,s17,s18,s19,s20,s21,s22]at hs;obtain⟨s2,s3,s4,s5,s6,s7,s13,s14,s15,s16,s17,s18,s19,s20,s21,s22,s23⟩:=hs)
   (refine zW.regS ?_;(simp (disch:=first|omega|(simp only [lens];first|done|omega)) only [go_sem,s13,s14,s15,s16,s17,s18,s19,s22,s23]))
   (refine zW.slots [2,3,4,5,6,7,13,14,15,16,17,18,19,20,21] ?_;intro J4 hs;simp (disch:=first|omega|(simp only [lens];first|done|omega)) only [go_sem,s2,s3,s4,s5,s6,s7,s21]at hs;obtain⟨s2,s3,s4,s5,s6,s7,s13,s14,s15,s16,s17,s18,s19,s20,s21⟩:=hs)
   (refine zW.regS ?_;(simp (disch:=first|omega|(simp only [lens];first|done|omega)) only [go_sem,s21]))
   refine⟨64-(i+1),by omega,i+1,by omega,⟨s2,s3,s4,by rw [hpb];exact s5,s6,s7⟩,by simp,?_⟩
   rw [hst]
   simp only [rnd,bs1,chW,bs0,majW]
   exact⟨s13,s14,s15,s16,s17,s18,s19,s20⟩
  ·obtain rfl:i=64:=by omega
   rw [<-hU]at q13 q14 q15 q16 q17 q18 q19 q20
   clear hst hU hmix
   obtain⟨a,b,c,d,e,f,g,h⟩:=U
   obtain⟨a',b',c',d',e',f',g',h'⟩:=u
   simp only at q13 q14 q15 q16 q17 q18 q19 q20
   unfold mkS
   unfold mkS at hQ
   simp only [V8.add,V8.c8]at hQ
   simp only [V8.c8]
   generalize hpb:zw p=pb at*
   refine zs_ ?_
   refine zs_ ?_
   (refine zW.regS ?_;(simp (disch:=first|omega|(simp only [lens];first|done|omega)) only [go_sem,q21]))
   refine zf_ rfl ?_
   refine ze_ ?_
   simp (disch:=first|omega|(simp only [lens];first|done|omega)) only [go_sem]
   (refine zW.regS ?_;(simp (disch:=first|omega|(simp only [lens];first|done|omega)) only [go_sem,q4,q13,q14,q15,q16,q17,q18,q19,q20]))
   rw [BitVec.add_comm a' a,BitVec.add_comm b' b,BitVec.add_comm c' c,BitVec.add_comm d' d,BitVec.add_comm e' e,BitVec.add_comm f' f,BitVec.add_comm g' g,BitVec.add_comm h' h]
   exact hQ _ ⟨by simp (disch:=first|omega|(simp only [lens];first|done|omega)) only [go_sem,q2],by simp (disch:=first|omega|(simp only [lens];first|done|omega)) only [go_sem,q3],by simp (disch:=first|omega|(simp only [lens];first|done|omega)) only [go_sem,q4],(by simp (disch:=first|omega|(simp only [lens];first|done|omega)) only [go_sem,q5];rw [hpb]),by simp (disch:=first|omega|(simp only [lens];first|done|omega)) only [go_sem,q6],by simp (disch:=first|omega|(simp only [lens];first|done|omega)) only [go_sem,q7]⟩
end
end
section
theorem sum_r1{C:Ctx}{K:Env->Store->Prop}{H:Hist}{J:Env}{O:Store}:z11 C K q7r1 H J O=z11 C K (q7r1.drop 1) H (upd J 26 (.agg gl_sha_rounds)) O:=by kernel_rfl
theorem zot{l:List W}{i:Nat}(h:i<4*l.length):(l.flatMap fun x=>be 4 x.toNat)[i]? =(be 4 (wat l (i/4)).toNat)[i%4]?:=by
 induction l generalizing i with
 |nil=>simp at h
 |cons x l ih=>
  have hb:(be 4 x.toNat).length=4:=z3q _ _
  rw [List.flatMap_cons]
  by_cases hi:i<4
  ·rw [List.getElem?_append_left (by omega),Nat.div_eq_of_lt hi,Nat.mod_eq_of_lt hi];rfl
  ·simp only [List.length_cons]at h
   rw [List.getElem?_append_right (by omega),hb,ih (by omega),show i/4=(i-4)/4+1 by omega,show (i-4)%4=i%4 by omega]
   rfl
theorem zmn(x:Nat){j:Nat}(h:j<4):(be 4 x)[j]? =some (UInt8.ofNat (x/2^(24-8*j))):=by
 have e:be 4 x=[UInt8.ofNat (x/256^3),UInt8.ofNat (x/256^2),UInt8.ofNat (x/256^1),UInt8.ofNat (x/256^0)]:=by
  simp only [z91]
  rfl
 rw [e]
 have hj:j=0 \/j=1 \/j=2 \/j=3:=by omega
 rcases hj with rfl|rfl|rfl|rfl<;>rfl
theorem zrt(v:V8){i:Nat}(h:i<32):(outV v)[i]? =some (UInt8.ofNat ((wat v.l (i/4)).toNat/2^(24-8*(i%4)))):=by
 unfold outV
 rw [zot (by simp [V8.l];omega),zmn _ (Nat.mod_lt _ (by decide))]
def z4i(v:V8)(i:Nat):List AV:=zj ((outV v).take i)++List.replicate (32-i) (.int .u8 0)
theorem zr1(v:V8){i:Nat}(h:i<=32):(z4i v i).length=32:=by simp [z4i,zu,z56];omega
theorem zr2(v:V8){i:Nat}(h:i<32){b:Int}(hb:b=(((wat v.l (i/4)).toNat/2^(24-8*(i%4))%256:Nat):Int)):
  (z4i v i).take i++AV.int .u8 b::(z4i v i).drop (i+1)=z4i v (i+1):=by
 have h1:(zj ((outV v).take i)).length=i:=by rw [zu,List.length_take,z56];omega
 have hg:=zrt v h
 have hs:(outV v).take (i+1)=(outV v).take i++ [UInt8.ofNat ((wat v.l (i/4)).toNat/2^(24-8*(i%4)))]:=by
  rw [List.take_add_one,hg];rfl
 unfold z4i
 rw [List.take_append_of_le_length (by omega),List.take_of_length_le (by omega),List.drop_append,List.drop_of_length_le (by omega),h1,show i+1-i=1 by omega,List.nil_append,hs]
 rw [List.drop_replicate,show 32-i-1=32-(i+1)by omega]
 simp [zj,hb]
theorem z7i(O:Store)(s:List UInt8)(h:s.length<900000000):ACallsTo TC 46 [.str s] O (.agg (zj (shaS s))) O:=by
 obtain⟨p,hp⟩:∃p,p=padS s:=⟨_,rfl⟩
 obtain⟨hp1,hp2⟩:=zj7 s
 rw [<-hp]at hp1 hp2
 obtain⟨N,hN⟩:∃N,p.length=64*N:=⟨p.length/64,by omega⟩
 obtain⟨V,hV⟩:∃V,V=blocks N v0 p:=⟨_,rfl⟩
 have hS:shaS s=outV V:=by
  unfold shaS
  rw [<-hp,hV]
  have:p.length/64=N:=by omega
  rw [this]
 rw [hS]
 have hf:=fun O=>pad_to O s (by omega)
 rw [<-hp]at hf
 refine ACallsTo.of_body q7ok (by simp) fun hw _=> ?_
 refine zs_ ?_
 refine zr_ ?_
 simp (disch:=first|omega|(simp only [lens];first|done|omega)) only [go_sem]
 refine zs_ ?_
 refine zr_ ?_
 rw [sum_r1]
 simp (disch:=first|omega|(simp only [lens];first|done|omega)) only [go_sem,z9e]
 refine zs_ ?_
 refine zr_ ?_
 simp (disch:=first|omega|(simp only [lens];first|done|omega)) only [go_sem]
 refine zs_ ?_
 repeat' (first|apply zs_|apply zb_|apply zc_|apply zt_ rfl|apply zf_ rfl|(apply zd_ rfl<;>intro ht<;>try omega)|((first|apply zr_|apply zk_|apply ze_|apply zq_|(apply callW.mk_pu;(first|exact(fun _=>hf _)))|(apply callW.za;(first|exact(hf _)))|(apply zG<;>intro ht));all_goals try simp (disch:=first|omega|(simp only [lens];first|done|omega)) only [go_sem]))
 refine zW.loop (fun m J O'=>∃(u:V8) (n:Nat) (cells:List AV),n+64*m=p.length/\ Rk J O.length p n/\ cells.length=64/\ blocks m u (p.drop n)=V/\ O'=mkS O u cells) N ?_ ?_
 ·exact⟨v0,0,List.replicate 64 (.int .u32 0),by omega,⟨by simp (disch:=first|omega|(simp only [lens];first|done|omega)) only [go_sem],by simp (disch:=first|omega|(simp only [lens];first|done|omega)) only [go_sem],by simp (disch:=first|omega|(simp only [lens];first|done|omega)) only [go_sem],by simp (disch:=first|omega|(simp only [lens];first|done|omega)) only [go_sem],by simp (disch:=first|omega|(simp only [lens];first|done|omega)) only [go_sem],by simp (disch:=first|omega|(simp only [lens];first|done|omega)) only [go_sem];rfl⟩,rfl,by rw [List.drop_zero];exact hV.symm,rfl⟩
 ·rintro m J O' ⟨u,n,cells,hn,⟨q2,q3,q4,q5,q6,q7⟩,hc,hb,rfl⟩
  have hpb:=zl p
  cases m with
  |succ m=>
   refine zs_ ?_
   refine zs_ ?_
   (refine zW.regS ?_;(simp (disch:=first|omega|(simp only [lens];first|done|omega)) only [go_sem,q5,q7,hpb]))
   refine zt_ rfl ?_
   refine zk_ ?_
   simp (disch:=first|omega|(simp only [lens];first|done|omega)) only [go_sem]
   refine zs_ ?_
   refine zb_ ?_
   refine zs_ ?_
   refine zsz (p:=p) (n:=n) (u:=u) (cells:=cells) ⟨by simp (disch:=first|omega|(simp only [lens];first|done|omega)) only [go_sem,q2],by simp (disch:=first|omega|(simp only [lens];first|done|omega)) only [go_sem,q3],by simp (disch:=first|omega|(simp only [lens];first|done|omega)) only [go_sem,q4],by simp (disch:=first|omega|(simp only [lens];first|done|omega)) only [go_sem,q5],by simp (disch:=first|omega|(simp only [lens];first|done|omega)) only [go_sem,q6],by simp (disch:=first|omega|(simp only [lens];first|done|omega)) only [go_sem,q7]⟩ (by omega) (by omega) hc ?_
   intro J1 rest hr K1
   refine zs_ ?_
   refine zsy K1 hr ?_
   intro J2 K2
   refine zsx K2 ?_
   intro J3 ⟨t2,t3,t4,t5,t6,t7⟩
   simp only [z2s,blkQ]
   (refine zW.regS ?_;(simp (disch:=first|omega|(simp only [lens];first|done|omega)) only [go_sem,t7]))
   refine⟨m,by omega,mixS u ((p.drop n).take 64),n+64,ws (z16 ((p.drop n).take 64) 64),by omega,⟨by simp (disch:=first|omega|(simp only [lens];first|done|omega)) only [go_sem,t2],by simp (disch:=first|omega|(simp only [lens];first|done|omega)) only [go_sem,t3],by simp (disch:=first|omega|(simp only [lens];first|done|omega)) only [go_sem,t4],by simp (disch:=first|omega|(simp only [lens];first|done|omega)) only [go_sem,t5],by simp (disch:=first|omega|(simp only [lens];first|done|omega)) only [go_sem,t6],by simp (disch:=first|omega|(simp only [lens];first|done|omega)) only [go_sem];rw [Int.natCast_add];rfl⟩,by rw [z49,z4k],?_,rfl⟩
   rw [<-hb,blocks,List.drop_drop]
  |zero=>
   have hd:p.drop n=[]:=List.drop_of_length_le (by omega)
   rw [hd]at hb
   have hu:u=V:=hb
   subst hu
   clear hb hd hV
   unfold mkS
   repeat' (first|apply zs_|apply zb_|apply zc_|apply zt_ rfl|apply zf_ rfl|(apply zd_ rfl<;>intro ht<;>try omega)|((first|apply zr_|apply zk_|apply ze_|apply zq_|(apply zG<;>intro ht));all_goals try simp (disch:=first|omega|(simp only [lens];first|done|omega)) only [go_sem,q5,q7,hpb]))
   refine zW.loop (fun m J O'=>∃i:Nat,m+i=32/\ J 2=.ptr O.length 0 0/\ J 4=.ptr (O.length+2) 0 0/\ J 24=.ptr (O.length+4) 0 0/\ J 25=.int .i64 i/\ O'=O++ [some [z32],some [gl_sha_rounds],some [u.c8],some [cells],some [z4i u i]]) 32 ?_ ?_
   ·exact⟨0,by omega,by simp (disch:=first|omega|(simp only [lens];first|done|omega)) only [go_sem,q2],by simp (disch:=first|omega|(simp only [lens];first|done|omega)) only [go_sem,q4],by simp (disch:=first|omega|(simp only [lens];first|done|omega)) only [go_sem],by simp (disch:=first|omega|(simp only [lens];first|done|omega)) only [go_sem];rfl,rfl⟩
   ·clear q2 q3 q4 q5 q6 q7
    rintro m J O' ⟨i,hm,q2,q4,q24,q25,rfl⟩
    have hlen:=zr1 u (i:=i) (by omega)
    have h8:u.c8.length=8:=rfl
    have hz:z32.length=32:=rfl
    by_cases hi:i<32
    ·have hst:=zr2 u hi (b:=((((wat u.l (i/4)).toNat/2^(24-8*(i%4))%256:Nat)):Int)) rfl
     have hw:=z8l (w:=u.l) (i:=i/4) (by simp [V8.l];omega)
     rw [ws_l]at hw
     generalize wat u.l (i/4)=x at*
     generalize z4i u i=cc at*
     have hd4:((i:Int)/4).toNat=i/4:=by omega
     have hsh:(24-8*((i:Int)%4)).toNat=24-8*(i%4):=by omega
     repeat' (first|refine zs_ ?_|refine zb_ ?_|refine zc_ ?_|refine zt_ rfl ?_|refine zf_ rfl ?_|(refine zd_ rfl (fun ht=> ?_) (fun ht=> ?_)<;>try (exfalso;omega))|((first|refine zW.regS ?_|refine zk_ ?_|refine ze_ ?_|refine zq_ ?_|(apply zG<;>intro ht));all_goals try simp (disch:=first|omega|(simp only [lens];first|done|omega)) only [go_sem,q2,q4,q24,q25,hlen,h8,hw,hd4,hsh]))
     refine⟨32-(i+1),by omega,i+1,by omega,by simp,?_⟩
     rw [BitVec.toNat_ushiftRight,Nat.shiftRight_eq_div_pow,<-hst,Int.natCast_emod]
     rfl
    ·obtain rfl:i=32:=by omega
     have e32:z4i u 32=zj (outV u):=by
      unfold z4i
      rw [List.take_of_length_le (by rw [z56];decide)]
      exact List.append_nil _
     have hd:List.drop 32 z32=[]:=rfl
     have hl:(zj (outV u)).length=32:=by rw [zu,z56]
     rw [e32]at*
     repeat' (first|apply zs_|apply zb_|apply zc_|apply zt_ rfl|apply zf_ rfl|(apply zd_ rfl<;>intro ht<;>try omega)|((first|apply zr_|apply zk_|apply ze_|apply zq_|(apply zG<;>intro ht));all_goals try simp (disch:=first|omega|(simp only [lens];first|done|omega)) only [go_sem,q2,q4,q24,q25,hl,h8,hd,hz]))
     exact DownV.pure hw (z2m (z2a _))
end
section
set_option maxRecDepth 10000
def qer0:yW:=[
 yI 1 (.box (.t 0)),
 yI 2 (.alloc zZ0)]
def qer1:yW:=[
 yL 4 false 1 1,
 yI 5 (.lenSl (.t 4)),
 yJ 6 .eql 5 .i64 0]
def qer2:yW:=[
 yI 7 (.call (.v (.fn 96 [])) [(.v (.str []))]),
 yS 32 2 7]
def qec3:yX:=yq qer2 .ret
def qec4:yX:=.cond (.t 6) qec3 .skip
def qec5:yX:=yq qer1 qec4
def qer6:yW:=[
 yI 3 (.alloc [.nilfn])]
def qer7:yW:=[
 yI 8 (.mkfn 97 [(.t 1),(.t 3)]),
 yS 1 3 8]
def qer8:yW:=[
 yL 9 false 1 3,
 yL 10 false 1 1,
 yI 11 (.lenSl (.t 10)),
 yI 12 (.call (.t 9) [(.v (.int .i64 0)),(.t 11)]),
 yS 32 2 12]
def qec9:yX:=yq qer8 .ret
def qec10:yX:=yq qer7 qec9
def qec11:yX:=yq qer6 qec10
def qec12:yX:=.seq qec5 qec11
def qec13:yX:=yq qer0 qec12
attribute [go_sem] qer0 qer1 qer2 qer6 qer7 qer8
theorem qeok:cFn TC 52=some (13,[.c 2 true 32],qec13):=by kernel_rfl
def qfr0:yW:=[
 yI 2 (.box (.t 0)),
 yI 3 (.box (.t 1)),
 yI 4 (.alloc zZ0)]
def qfr1:yW:=[
 ⟨some 5,none,.rd,.load true 32 (.t 2)⟩,
 ⟨some 6,none,.ef,.call (.v (.fn 76 [])) [(.t 5)]⟩,
 yI 7 (.bin .add .none (.v (.str [1])) (.t 6)),
 ⟨some 8,none,.rd,.load true 32 (.t 3)⟩,
 yC 9 76 8,
 yB 10 .add 7 9,
 yC 11 96 10,
 yS 32 4 11]
def qfc2:yX:=yq qfr1 .ret
def qfc3:yX:=yq qfr0 qfc2
attribute [go_sem] qfr0 qfr1
theorem qfok:cFn TC 95=some (12,[.c 4 true 32],qfc3):=by kernel_rfl
def qgr0:yW:=[
 yK 2 .i64 0]
def qgr1:yW:=[
 yM 4 0,
 yJ 5 .lss 4 .i64 2]
def qgr2:yW:=[
 yK 2 .i64 0]
def qgc3:yX:=yq qgr2 .ret
def qgc4:yX:=.cond (.t 5) qgc3 .skip
def qgc5:yX:=yq qgr1 qgc4
def qgr6:yW:=[
 yK 3 .i64 1]
def qgr7:yW:=[
 yM 6 3,
 yM 7 0,
 yM 8 3,
 yB 9 .sub 7 8,
 yB 10 .lss 6 9]
def qgc8:yX:=.cond (.t 10) .skip (.exit 0)
def qgc9:yX:=yq qgr7 qgc8
def qgr10:yW:=[
 yM 11 3,
 yJ 12 .mul 11 .i64 2,
 yM 3 12]
def qgc11:yX:=.block 1 (.reg qgr10)
def qgc12:yX:=.seq qgc9 qgc11
def qgc13:yX:=.loop qgc12
def qgr14:yW:=[
 yM 13 3,
 yM 2 13]
def qgc15:yX:=yq qgr14 .ret
def qgc16:yX:=.seq (.block 0 qgc13) qgc15
def qgc17:yX:=yq qgr6 qgc16
def qgc18:yX:=.seq qgc5 qgc17
def qgc19:yX:=yq qgr0 qgc18
attribute [go_sem] qgr0 qgr1 qgr2 qgr6 qgr7 qgr10 qgr14
theorem qgok:cFn TC 98=some (14,[.t 2],qgc19):=by kernel_rfl
def qhr0:yW:=[
 yI 6 (.alloc zZ0)]
def qhr1:yW:=[
 yM 8 1,
 yM 9 0,
 yB 10 .sub 8 9,
 yC 11 98 10,
 yM 7 11]
def qhr2:yW:=[
 yM 12 7,
 yJ 13 .eql 12 .i64 0]
def qhr3:yW:=[
 yL 14 false 1 2,
 yM 15 0,
 yI 16 (.iaSl 32 (.t 14) (.t 15)),
 yL 17 true 32 16,
 yS 32 6 17]
def qhc4:yX:=yq qhr3 .ret
def qhc5:yX:=.cond (.t 13) qhc4 .skip
def qhc6:yX:=yq qhr2 qhc5
def qhr7:yW:=[
 ⟨some 18,none,.rd,.load false 1 (.t 3)⟩,
 yM 19 0,
 yM 20 0,
 yM 21 7,
 yB 22 .add 20 21,
 ⟨some 23,none,.ef,.call (.t 18) [(.t 19),(.t 22)]⟩,
 ⟨some 24,none,.rd,.load false 1 (.t 3)⟩,
 yM 25 0,
 yM 26 7,
 yB 27 .add 25 26,
 yM 28 1,
 yI 29 (.call (.t 24) [(.t 27),(.t 28)]),
 yD 30 95 23 29,
 yS 32 6 30]
def qhc8:yX:=yq qhr7 .ret
def qhc9:yX:=.seq qhc6 qhc8
def qhc10:yX:=yq qhr1 qhc9
def qhc11:yX:=yq qhr0 qhc10
attribute [go_sem] qhr0 qhr1 qhr2 qhr3 qhr7
theorem qhok:cFn TC 97=some (31,[.c 6 true 32],qhc11):=by kernel_rfl
def qir0:yW:=[
 yI 2 (.alloc zZ0)]
def qir1:yW:=[
 yM 4 0,
 yI 5 (.lenSl (.t 4)),
 yJ 6 .eql 5 .i64 0]
def qir2:yW:=[
 yI 7 (.call (.v (.fn 46 [])) [(.v (.str []))]),
 yS 32 2 7]
def qic3:yX:=yq qir2 .ret
def qic4:yX:=.cond (.t 6) qic3 .skip
def qic5:yX:=yq qir1 qic4
def qir6:yW:=[
 yM 8 0,
 yI 9 (.lenSl (.t 8)),
 yJ 10 .eql 9 .i64 1]
def qir7:yW:=[
 yM 11 0,
 yI 12 (.iaSl 32 (.t 11) (.v (.int .i64 0))),
 yL 13 true 32 12,
 yS 32 2 13]
def qic8:yX:=yq qir7 .ret
def qic9:yX:=.cond (.t 10) qic8 .skip
def qic10:yX:=yq qir6 qic9
def qir11:yW:=[
 yM 14 0,
 yI 15 (.lenSl (.t 14)),
 yC 16 47 15,
 yM 3 16]
def qir12:yW:=[
 yM 17 0,
 yM 18 3,
 yI 19 (.slice (.sl 32) (.t 17) none (some (.t 18)) none),
 yC 20 16 19,
 yM 21 0,
 yM 22 3,
 yI 23 (.slice (.sl 32) (.t 21) (some (.t 22)) none none),
 yC 24 16 23,
 yD 25 48 20 24,
 yS 32 2 25]
def qic13:yX:=yq qir12 .ret
def qic14:yX:=yq qir11 qic13
def qic15:yX:=.seq qic10 qic14
def qic16:yX:=.seq qic5 qic15
def qic17:yX:=yq qir0 qic16
attribute [go_sem] qir0 qir1 qir2 qir6 qir7 qir11 qir12
theorem qiok:cFn TC 16=some (26,[.c 2 true 32],qic17):=by kernel_rfl
def qjr0:yW:=[
 yI 2 (.box (.t 0)),
 yI 3 (.box (.t 1)),
 yI 4 (.alloc zZ0)]
def qjr1:yW:=[
 ⟨some 5,none,.rd,.load true 32 (.t 2)⟩,
 ⟨some 6,none,.ef,.call (.v (.fn 87 [])) [(.t 5)]⟩,
 yI 7 (.bin .add .none (.v (.str [1])) (.t 6)),
 ⟨some 8,none,.rd,.load true 32 (.t 3)⟩,
 yC 9 87 8,
 yB 10 .add 7 9,
 yC 11 46 10,
 yS 32 4 11]
def qjc2:yX:=yq qjr1 .ret
def qjc3:yX:=yq qjr0 qjc2
attribute [go_sem] qjr0 qjr1
theorem qjok:cFn TC 48=some (12,[.c 4 true 32],qjc3):=by kernel_rfl
def qkr0:yW:=[
 yI 1 (.box (.t 0)),
 yI 2 (.mv (.v (.str [])))]
def qkr1:yW:=[
 yI 3 (.mv (.v .nilsl))]
def qkr2:yW:=[
 yK 4 .i64 0]
def qkr3:yW:=[
 yM 5 4,
 yJ 6 .lss 5 .i64 32]
def qkc4:yX:=.cond (.t 6) .skip (.exit 0)
def qkc5:yX:=yq qkr3 qkc4
def qkr6:yW:=[
 yM 9 3,
 yM 10 4,
 yI 11 (.iaArr 32 1 (.t 1) (.t 10)),
 yL 12 false 1 11,
 yI 13 (.lit 1 [(.t 12)]),
 yI 14 (.appB (.t 9) (.t 13)),
 yM 3 14]
def qkr7:yW:=[
 yM 7 4,
 yJ 8 .add 7 .i64 1,
 yM 4 8]
def qkc8:yX:=.seq (.block 1 (.reg qkr6)) (.reg qkr7)
def qkc9:yX:=.seq qkc5 qkc8
def qkc10:yX:=.loop qkc9
def qkc11:yX:=.block 0 qkc10
def qkc12:yX:=yq qkr2 qkc11
def qkr13:yW:=[
 yM 15 3,
 yI 16 (.conv .str (.t 15)),
 yM 2 16]
def qkc14:yX:=yq qkr13 .ret
def qkc15:yX:=.seq qkc12 qkc14
def qkc16:yX:=yq qkr1 qkc15
def qkc17:yX:=yq qkr0 qkc16
attribute [go_sem] qkr0 qkr1 qkr2 qkr3 qkr6 qkr7 qkr13
theorem qkok:cFn TC 87=some (17,[.t 2],qkc17):=by kernel_rfl
def qlr0:yW:=[
 yI 1 (.box (.t 0)),
 yI 2 (.mv (.v (.str [])))]
def qlr1:yW:=[
 yI 3 (.slice (.arr 32 1) (.t 1) none none none),
 yI 4 (.conv .str (.t 3)),
 yM 2 4]
def qlc2:yX:=yq qlr1 .ret
def qlc3:yX:=yq qlr0 qlc2
attribute [go_sem] qlr0 qlr1
theorem qlok:cFn TC 76=some (5,[.t 2],qlc3):=by kernel_rfl
def qmr0:yW:=[
 yK 2 .i64 0]
def qmr1:yW:=[
 yK 3 .i64 0]
def qmr2:yW:=[
 yK 4 .i64 1]
def qmr3:yW:=[
 yM 5 4,
 yM 6 0,
 yB 7 .lss 5 6,
 yM 8 7,
 yV 9 8 true 4,
 yG 10 8 true (.bin .gtr .none (.t 9) (.v (.int .i64 0))),
 yQ 11 8 10]
def qmc4:yX:=.cond (.t 11) .skip (.exit 0)
def qmc5:yX:=yq qmr3 qmc4
def qmr6:yW:=[
 yM 14 4,
 yM 3 14]
def qmr7:yW:=[
 yM 12 4,
 yJ 13 .mul 12 .i64 2,
 yM 4 13]
def qmc8:yX:=.seq (.block 1 (.reg qmr6)) (.reg qmr7)
def qmc9:yX:=.seq qmc5 qmc8
def qmc10:yX:=.loop qmc9
def qmc11:yX:=.block 0 qmc10
def qmc12:yX:=yq qmr2 qmc11
def qmr13:yW:=[
 yM 15 3,
 yM 2 15]
def qmc14:yX:=yq qmr13 .ret
def qmc15:yX:=.seq qmc12 qmc14
def qmc16:yX:=yq qmr1 qmc15
def qmc17:yX:=yq qmr0 qmc16
attribute [go_sem] qmr0 qmr1 qmr2 qmr3 qmr6 qmr7 qmr13
theorem qmok:cFn TC 47=some (16,[.t 2],qmc17):=by kernel_rfl
end
section
theorem zex(s:List UInt8):(shaS s).length=32:=z56 _
def z1h(a b:List UInt8):List UInt8:=shaS (1::(a++b))
theorem z3u(a b:List UInt8):(z1h a b).length=32:=zex _
theorem zcv:∀(l:List UInt8),chunk 1 l.length (zj l)=zw l
 | []=>rfl
 |b::l=>by
  have:=zcv l
  simp only [zj,zw]at this
  simp [zj,zw,chunk,B8]at this ⊢
  exact this
theorem z98(O:Store)(h:List UInt8)(hl:h.length=32):ACallsTo TC 76 [.agg (zj h)] O (.str h) O:=by
 refine ACallsTo.of_body qlok (by simp) fun hw _=> ?_
 have h1:=zu h
 have hc:=zcv h
 rw [hl]at h1 hc
 repeat' (first|apply zs_|apply zb_|apply zc_|apply zt_ rfl|apply zf_ rfl|(apply zd_ rfl<;>intro ht<;>try omega)|((first|apply zr_|apply zk_|apply ze_|apply zq_|(apply zG<;>intro ht));all_goals try simp (disch:=first|omega|(simp only [lens];first|done|omega)) only [go_sem,h1,hc]))
 exact DownV.pure hw (z14 _ rfl)
def OwnN(sz:Nat)(τ O':Store)(v:AV)(es:List (List AV)):Prop:=
 ∃news,O'=τ++news/\ ((es=[]/\ v=.nilsl) \/ ∃j,es ≠ []/\ v=.sl (τ.length+j) 0 es.length none sz/\ news[j]? =some (some es))
theorem OwnN.len{sz:Nat}{τ O':Store}{v:AV}{es:List (List AV)}(h:OwnN sz τ O' v es):z1i v=some (.int .i64 es.length):=by
 obtain⟨news,rfl,⟨rfl,rfl⟩| ⟨j,_,rfl,h⟩⟩:=h<;>rfl
theorem OwnN.appB{sz:Nat}{τ O':Store}{v:AV}{es ys:List (List AV)}(h:OwnN sz τ O' v es):z4b O' v ys=aApp O' 1 v ys:=by
 obtain⟨news,rfl,⟨rfl,rfl⟩| ⟨j,_,rfl,h⟩⟩:=h<;>rfl
theorem OwnN.nil{sz:Nat}{τ news:Store}:OwnN sz τ (τ++news) .nilsl []:=⟨news,rfl,.inl ⟨rfl,rfl⟩⟩
theorem OwnN.ext{sz:Nat}{τ O':Store}{v:AV}{es:List (List AV)}(h:OwnN sz τ O' v es):∃news,O'=τ++news:=by
 obtain⟨news,h,_⟩:=h;exact⟨news,h⟩
theorem OwnN.more{sz:Nat}{τ O':Store}{v:AV}{es:List (List AV)}(h:OwnN sz τ O' v es)(y:Store):OwnN sz τ (O'++y) v es:=by
 obtain⟨news,rfl,h| ⟨j,h0,rfl,h⟩⟩:=h
 ·exact⟨news++y,by rw [List.append_assoc],.inl h⟩
 ·exact⟨news++y,by rw [List.append_assoc],.inr ⟨j,h0,rfl,by rw [List.getElem?_append_left (List.getElem?_eq_some_iff.1 h).1];exact h⟩⟩
theorem OwnN.app{sz:Nat}{τ O':Store}{v:AV}{es ys:List (List AV)}(h:OwnN sz τ O' v es)(h0:ys.length ≠ 0)(hl:es.length+ys.length<=1073741824):
  ∃v' O'',aApp O' sz v ys=some (v',O'')/\ OwnN sz τ O'' v' (es++ys):=by
 have hne:es++ys ≠ []:=fun e=>h0 (by rw [(List.append_eq_nil_iff.1 e).2];rfl)
 obtain⟨news,rfl,⟨rfl,rfl⟩| ⟨j,_,rfl,h⟩⟩:=h
 ·refine⟨_,_,by rw [zcl,if_neg h0,if_pos (by simpa using hl)],news++ [some ys],by rw [List.append_assoc],.inr ⟨news.length,hne,by simp,by rw [List.getElem?_append_right (Nat.le_refl _)];simp⟩⟩
 ·have hj:=(List.getElem?_eq_some_iff.1 h).1
  have hg:(τ++news)[τ.length+j]? =some (some es):=by rw [List.getElem?_append_right (by omega),Nat.add_sub_cancel_left];exact h
  refine⟨.sl (τ++news).length 0 (es.length+ys.length) none sz,(τ++news).set (τ.length+j) none++ [some (es++ys)],?_,news.set j none++ [some (es++ys)],?_,.inr ⟨news.length,hne,by simp,by rw [List.getElem?_append_right (by simp)];simp⟩⟩
  ·rw [zap,if_neg h0,hg]
   simp only
   rw [if_pos ⟨trivial,by omega,by omega⟩,if_neg (by omega),List.drop_zero,List.take_of_length_le (Nat.le_refl _)]
  ·rw [List.set_append_right _ _ (by omega),Nat.add_sub_cancel_left,List.append_assoc]
theorem OwnN.sl{sz:Nat}{τ O':Store}{v:AV}{es:List (List AV)}(h:OwnN sz τ O' v es)(h0:es ≠ []):∃r,v=.sl r 0 es.length none sz/\ O'[r]? =some (some es)/\ τ.length<=r:=by
 obtain⟨news,rfl,⟨rfl,rfl⟩| ⟨j,_,rfl,h⟩⟩:=h
 ·exact absurd rfl h0
 ·exact⟨_,rfl,by rw [List.getElem?_append_right (by omega),Nat.add_sub_cancel_left];exact h,by omega⟩
def SlV(sz:Nat)(es:List (List AV))(x:AV):Prop:=(x=.nilsl/\ es=[]) \/ ∃ex,x=.vsl sz es ex
theorem SlV.len{sz:Nat}{es:List (List AV)}{x:AV}(h:SlV sz es x):z1i x=some (.int .i64 es.length):=by
 rcases h with⟨rfl,rfl⟩| ⟨ex,rfl⟩<;>rfl
theorem SlV.vsl{sz:Nat}{es:List (List AV)}{x:AV}(h:SlV sz es x)(h0:0<es.length):∃ex,x=.vsl sz es ex:=by
 rcases h with⟨rfl,rfl⟩|h
 ·simp at h0
 ·exact h
def z10(sz:Nat)(es:List (List AV)):AV:=if es=[]then .nilsl else .vsl sz es false
theorem z3l(sz:Nat)(es:List (List AV)):SlV sz es (z10 sz es):=by
 unfold z10
 split
 ·rename_i h;exact .inl ⟨rfl,h⟩
 ·exact .inr ⟨false,rfl⟩
def ownV(O:Store)(sz:Nat)(es:List (List AV)):AV:=if es=[]then .nilsl else .sl O.length 0 es.length none sz
def ownS(O:Store)(es:List (List AV)):Store:=if es=[]then O else O++ [some es]
theorem z6o(O:Store)(sz:Nat)(es:List (List AV)):OwnN sz O (ownS O es) (ownV O sz es) es:=by
 unfold ownV ownS
 by_cases h:es=[]
 ·rw [if_pos h,if_pos h];exact⟨[],by simp,.inl ⟨h,rfl⟩⟩
 ·rw [if_neg h,if_neg h];exact⟨[some es],rfl,.inr ⟨0,h,rfl,rfl⟩⟩
theorem OwnN.froze{sz:Nat}{O O':Store}{v:AV}{es:List (List AV)}(hw:Wf O.length O)(h:OwnN sz O O' v es)(hr:RLss O.length es):DownV O.length v O' (z10 sz es) O:=by
 unfold z10
 obtain⟨news,rfl,⟨rfl,rfl⟩| ⟨j,h0,rfl,h⟩⟩:=h
 ·rw [if_pos rfl];exact DownV.pure hw (z14 _ rfl)
 ·have e:(es.drop 0).take es.length=es:=by rw [List.drop_zero,List.take_of_length_le (Nat.le_refl _)]
  have:=DownV.froze (off:=0) (len:=es.length) (esz:=sz) (lim:=none) hw h (by omega) (by rw [e];exact hr)
  rw [e]at this
  rw [if_neg h0];exact this
theorem OwnN.own{sz:Nat}{O O':Store}{v:AV}{es:List (List AV)}(hw:Wf O.length O)(h:OwnN sz O O' v es)(hr:RLss O.length es):DownV O.length v O' (ownV O sz es) (ownS O es):=by
 unfold ownV ownS
 obtain⟨news,rfl,⟨rfl,rfl⟩| ⟨j,h0,rfl,h⟩⟩:=h
 ·rw [if_pos rfl,if_pos rfl];exact DownV.pure hw (z14 _ rfl)
 ·rw [if_neg h0,if_neg h0];exact DownV.own (off:=0) (len:=es.length) (esz:=sz) (lim:=none) hw h hr
theorem zgo{l:List UInt8}{i:Nat}(h:i<l.length):(zj l)[i]? =some (.int .u8 (l.getD i 0).toNat):=by
 simp [zj,List.getD_eq_getElem?_getD,List.getElem?_eq_getElem h]
theorem z9q(O:Store)(h:List UInt8)(hl:h.length=32):ACallsTo TC 87 [.agg (zj h)] O (.str h) O:=by
 refine ACallsTo.of_body qkok (by simp) fun hw _=> ?_
 have h1:=zu h
 rw [hl]at h1
 repeat' (first|apply zs_|apply zb_|apply zc_|apply zt_ rfl|apply zf_ rfl|(apply zd_ rfl<;>intro ht<;>try omega)|((first|apply zr_|apply zk_|apply ze_|apply zq_|(apply zG<;>intro ht));all_goals try simp (disch:=first|omega|(simp only [lens];first|done|omega)) only [go_sem,h1]))
 refine zW.loop (fun m J O'=>∃i:Nat,m+i=32/\ J 1=.ptr O.length 0 0/\ J 4=.int .i64 i/\ OwnN 1 (O++ [some [zj h]]) O' (J 3) (zw (h.take i))) 32 ?_ ?_
 ·refine⟨0,by omega,by simp (disch:=first|omega|(simp only [lens];first|done|omega)) only [go_sem],by simp (disch:=first|omega|(simp only [lens];first|done|omega)) only [go_sem];rfl,?_⟩
  simp (disch:=first|omega|(simp only [lens];first|done|omega)) only [go_sem]
  have:=OwnN.nil (sz:=1) (τ:=O++ [some [zj h]]) (news:=[])
  rwa [List.append_nil]at this
 ·rintro m J O' ⟨i,hm,q1,q4,hO⟩
  by_cases hi:i<32
  ·have hg:=zgo (l:=h) (i:=i) (by omega)
   have hs:h.take (i+1)=h.take i++ [h.getD i 0]:=by
    rw [List.take_add_one,List.getD_eq_getElem?_getD,List.getElem?_eq_getElem (by omega)];rfl
   obtain⟨v',O2,he,hO2⟩:=hO.app (ys:=zw [h.getD i 0]) (by simp [zw]) (by simp [zl];omega)
   have ho:O'[O.length]? =some (some [zj h]):=by
    obtain⟨news,rfl,_⟩:=hO
    rw [List.append_assoc,List.getElem?_append_right (Nat.le_refl _),Nat.sub_self];rfl
   have hb:zw [h.getD i 0]=[[.int .u8 (h.getD i 0).toNat]]:=rfl
   rw [hb]at he
   rw [<-hO.appB]at he
   generalize h.getD i 0=x at*
   generalize hv:J 3=v at*
   repeat' (first|apply zs_|apply zb_|apply zc_|apply zt_ rfl|apply zf_ rfl|(apply zd_ rfl<;>intro ht<;>try omega)|((first|apply zr_|apply zk_|apply ze_|apply zq_|(apply zG<;>intro ht));all_goals try simp (disch:=first|omega|(simp only [lens];first|done|omega)) only [go_sem,q1,q4,hv,ho,h1,hg,he]))
   refine⟨32-(i+1),by omega,i+1,by omega,by simp,?_⟩
   rw [hs,<-zar]
   exact hO2
  ·obtain rfl:i=32:=by omega
   rw [List.take_of_length_le (by omega)]at hO
   obtain⟨r,q3,hg,_⟩:=hO.sl (by intro e;have:=zl h;rw [e]at this;simp at this;omega)
   rw [zl]at q3
   repeat' (first|apply zs_|apply zb_|apply zc_|apply zt_ rfl|apply zf_ rfl|(apply zd_ rfl<;>intro ht<;>try omega)|((first|apply zr_|apply zk_|apply ze_|apply zq_|(apply zG<;>intro ht));all_goals try simp (disch:=first|omega|(simp only [lens];first|done|omega)) only [go_sem,q1,q4,q3,hg]))
   obtain⟨news,rfl,_⟩:=hO
   rw [List.append_assoc]
   exact DownV.pure hw (z14 _ rfl)
theorem z1v(O:Store)(a b:List UInt8)(ha:a.length=32)(hb:b.length=32):ACallsTo TC 95 [.agg (zj a),.agg (zj b)] O (.agg (zj (z1h a b))) O:=by
 refine ACallsTo.of_body qfok (by simp) fun hw _=> ?_
 have h1:=zu a
 have h2:=zu b
 have h3:=zu (z1h a b)
 rw [ha]at h1
 rw [hb]at h2
 rw [z3u]at h3
 obtain⟨n,hn⟩:∃n,n=z1h a b:=⟨_,rfl⟩
 have hs:∀O,ACallsTo TC 96 [.str (1::(a++b))] O (.agg (zj n)) O:=fun O=>by rw [hn];exact z8i O _ (by simp;omega)
 rw [<-hn]at h3 ⊢
 repeat' (first|refine zs_ ?_|refine zb_ ?_|refine zc_ ?_|refine zt_ rfl ?_|refine zf_ rfl ?_|(refine zd_ rfl (fun ht=> ?_) (fun ht=> ?_)<;>try (exfalso;omega))|((first|refine zW.regS ?_|refine zk_ ?_|refine ze_ ?_|refine zq_ ?_|(apply callW.mk_pu;(first|exact(fun _=>z98 _ _ ha)|exact(fun _=>z98 _ _ hb)|exact(fun _=>hs _)))|(apply callW.za;(first|exact(z98 _ _ ha)|exact(z98 _ _ hb)|exact(hs _)))|(apply zG<;>intro ht));all_goals try simp (disch:=first|omega|(simp only [lens];first|done|omega)) only [go_sem,h1,h2,h3]))
 exact DownV.pure hw (z2m (z2a _))
theorem zei(O:Store)(a b:List UInt8)(ha:a.length=32)(hb:b.length=32):ACallsTo TC 48 [.agg (zj a),.agg (zj b)] O (.agg (zj (z1h a b))) O:=by
 refine ACallsTo.of_body qjok (by simp) fun hw _=> ?_
 have h1:=zu a
 have h2:=zu b
 have h3:=zu (z1h a b)
 rw [ha]at h1
 rw [hb]at h2
 rw [z3u]at h3
 obtain⟨n,hn⟩:∃n,n=z1h a b:=⟨_,rfl⟩
 have hs:∀O,ACallsTo TC 46 [.str (1::(a++b))] O (.agg (zj n)) O:=fun O=>by rw [hn];exact z7i O _ (by simp;omega)
 rw [<-hn]at h3 ⊢
 repeat' (first|refine zs_ ?_|refine zb_ ?_|refine zc_ ?_|refine zt_ rfl ?_|refine zf_ rfl ?_|(refine zd_ rfl (fun ht=> ?_) (fun ht=> ?_)<;>try (exfalso;omega))|((first|refine zW.regS ?_|refine zk_ ?_|refine ze_ ?_|refine zq_ ?_|(apply callW.mk_pu;(first|exact(fun _=>z9q _ _ ha)|exact(fun _=>z9q _ _ hb)|exact(fun _=>hs _)))|(apply callW.za;(first|exact(z9q _ _ ha)|exact(z9q _ _ hb)|exact(hs _)))|(apply zG<;>intro ht));all_goals try simp (disch:=first|omega|(simp only [lens];first|done|omega)) only [go_sem,h1,h2,h3]))
 exact DownV.pure hw (z2m (z2a _))
end
section
def zy(n:Nat):Nat:=if n<2 then 0 else 2^Nat.log2 (n-1)
theorem z3m{n:Nat}(h:2<=n):zy n<n/\ n<=2*zy n/\ 0<zy n:=by
 unfold zy
 rw [if_neg (by omega)]
 have h1:=Nat.log2_self_le (n:=n-1) (by omega)
 have h2:=Nat.lt_log2_self (n:=n-1)
 rw [Nat.pow_succ]at h2
 have h3:0<2^Nat.log2 (n-1):=Nat.pow_pos (by decide)
 omega
theorem zf4{n j:Nat}(h1:2^j<n)(h2:n<=2^(j+1)):zy n=2^j:=by
 have h3:0<2^j:=Nat.pow_pos (by decide)
 unfold zy
 rw [if_neg (by omega)]
 have h4:=Nat.log2_self_le (n:=n-1) (by omega)
 have h5:=Nat.lt_log2_self (n:=n-1)
 congr 1
 generalize Nat.log2 (n-1)=i at*
 have a1:2^j<2^(i+1):=by omega
 have a2:2^i<2^(j+1):=by omega
 have b1:=(Nat.pow_lt_pow_iff_right (by decide:1<2)).1 a1
 have b2:=(Nat.pow_lt_pow_iff_right (by decide:1<2)).1 a2
 omega
theorem zc4(O:Store)(n:Nat)(h:n<1000000000000):ACallsTo TC 98 [.int .i64 n] O (.int .i64 (zy n)) O:=by
 refine ACallsTo.of_body qgok (by simp) fun hw _=> ?_
 by_cases h2:n<2
 ·have e:zy n=0:=by unfold zy;rw [if_pos h2]
  rw [e]
  repeat' (first|apply zs_|apply zb_|apply zc_|apply zt_ rfl|apply zf_ rfl|(apply zd_ rfl<;>intro ht<;>try omega)|((first|apply zr_|apply zk_|apply ze_|apply zq_|(apply zG<;>intro ht));all_goals try simp (disch:=first|omega|(simp only [lens];first|done|omega)) only [go_sem]))
  exact DownV.same hw (z14 _ rfl)
 ·repeat' (first|apply zs_|apply zb_|apply zc_|apply zt_ rfl|apply zf_ rfl|(apply zd_ rfl<;>intro ht<;>try omega)|((first|apply zr_|apply zk_|apply ze_|apply zq_|(apply zG<;>intro ht));all_goals try simp (disch:=first|omega|(simp only [lens];first|done|omega)) only [go_sem]))
  refine zW.loop (fun m J O'=>∃j:Nat,m=n-2^j/\ 2^j<n/\ J 0=.int .i64 n/\ J 3=.int .i64 ((2^j:Nat):Int)/\ O'=O) (n-1) ?_ ?_
  ·exact⟨0,rfl,by omega,by simp (disch:=first|omega|(simp only [lens];first|done|omega)) only [go_sem],by simp (disch:=first|omega|(simp only [lens];first|done|omega)) only [go_sem];rfl,rfl⟩
  ·rintro m J O' ⟨j,hm,hj,q0,q3,rfl⟩
   have hp:0<2^j:=Nat.pow_pos (by decide)
   have hs:2^(j+1)=2^j*2:=Nat.pow_succ ..
   generalize hk:2^j=k at*
   by_cases hc:(k:Int)<n-k
   ·repeat' (first|apply zs_|apply zb_|apply zc_|apply zt_ rfl|apply zf_ rfl|(apply zd_ rfl<;>intro ht<;>try omega)|((first|apply zr_|apply zk_|apply ze_|apply zq_|(apply zG<;>intro ht));all_goals try simp (disch:=first|omega|(simp only [lens];first|done|omega)) only [go_sem,q0,q3]))
    exact⟨n-k*2,by omega,j+1,by rw [hs],by omega,by rw [hs];rfl⟩
   ·have e:zy n=k:=by rw [<-hk];exact zf4 (by omega) (by omega)
    rw [e]
    repeat' (first|apply zs_|apply zb_|apply zc_|apply zt_ rfl|apply zf_ rfl|(apply zd_ rfl<;>intro ht<;>try omega)|((first|apply zr_|apply zk_|apply ze_|apply zq_|(apply zG<;>intro ht));all_goals try simp (disch:=first|omega|(simp only [lens];first|done|omega)) only [go_sem,q0,q3]))
    exact DownV.same hw (z14 _ rfl)
theorem zbg(O:Store)(n:Nat)(h:n<1000000000000):ACallsTo TC 47 [.int .i64 n] O (.int .i64 (zy n)) O:=by
 refine ACallsTo.of_body qmok (by simp) fun hw _=> ?_
 repeat' (first|apply zs_|apply zb_|apply zc_|apply zt_ rfl|apply zf_ rfl|(apply zd_ rfl<;>intro ht<;>try omega)|((first|apply zr_|apply zk_|apply ze_|apply zq_|(apply zG<;>intro ht));all_goals try simp (disch:=first|omega|(simp only [lens];first|done|omega)) only [go_sem]))
 refine zW.loop (fun m J O'=>∃j k:Nat,m=n-2^j/\ ((j=0/\ k=0) \/(k<n/\ 2^j=k*2/\ ∃i,k=2^i))/\ J 0=.int .i64 n/\ J 3=.int .i64 k/\ J 4=.int .i64 ((2^j:Nat):Int)/\ O'=O) (n-1) ?_ ?_
 ·exact⟨0,0,rfl,.inl ⟨rfl,rfl⟩,by simp (disch:=first|omega|(simp only [lens];first|done|omega)) only [go_sem],by simp (disch:=first|omega|(simp only [lens];first|done|omega)) only [go_sem];rfl,by simp (disch:=first|omega|(simp only [lens];first|done|omega)) only [go_sem];rfl,rfl⟩
 ·rintro m J O' ⟨j,k,hm,hk,q0,q3,q4,rfl⟩
  have hp:0<2^j:=Nat.pow_pos (by decide)
  have hs:2^(j+1)=2^j*2:=Nat.pow_succ ..
  by_cases hc:2^j<n
  ·generalize hmm:2^j=mm at*
   repeat' (first|apply zs_|apply zb_|apply zc_|apply zt_ rfl|apply zf_ rfl|(apply zd_ rfl<;>intro ht<;>try omega)|((first|apply zr_|apply zk_|apply ze_|apply zq_|(apply zG<;>intro ht));all_goals try simp (disch:=first|omega|(simp only [lens];first|done|omega)) only [go_sem,q0,q3,q4]))
   clear hk
   exact⟨n-mm*2,by omega,j+1,mm,by rw [hs],.inr ⟨hc,hs,j,hmm.symm⟩,rfl,by rw [hs];rfl⟩
  ·have e:zy n=k:=by
    rcases hk with⟨rfl,rfl⟩| ⟨h1,h2,i,rfl⟩
    ·unfold zy;rw [if_pos (by simp at hc;omega)]
    ·exact zf4 h1 (by rw [Nat.pow_succ];omega)
   rw [e]
   clear e hk hs
   generalize hmm:2^j=mm at*
   repeat' (first|apply zs_|apply zb_|apply zc_|apply zt_ rfl|apply zf_ rfl|(apply zd_ rfl<;>intro ht<;>try omega)|((first|apply zr_|apply zk_|apply ze_|apply zq_|(apply zG<;>intro ht));all_goals try simp (disch:=first|omega|(simp only [lens];first|done|omega)) only [go_sem,q0,q3,q4]))
   exact DownV.same hw (z14 _ rfl)
def z7l:Nat->List (List UInt8)->List UInt8
 | 0,_=>[]
 | _+1,[]=>shaS []
 | _+1,[h]=>h
 |f+1,a::b::l=>z1h (z7l f ((a::b::l).take (zy (l.length+2)))) (z7l f ((a::b::l).drop (zy (l.length+2))))
theorem zbm:∀(f g:Nat) (l:List (List UInt8)),l.length<f->l.length<g->z7l f l=z7l g l
 | 0,_,_,h,_=>by omega
 | _+1,0,_,_,h=>by omega
 |f+1,g+1,[],_,_=>rfl
 |f+1,g+1,[_],_,_=>rfl
 |f+1,g+1,a::b::l,h,h'=>by
  obtain⟨s1,s2,s3⟩:=z3m (n:=l.length+2) (by omega)
  simp only [List.length_cons]at h h'
  simp only [z7l]
  rw [zbm f g ((a::b::l).take (zy (l.length+2))) (by rw [List.length_take];simp;omega) (by rw [List.length_take];simp;omega),
   zbm f g ((a::b::l).drop (zy (l.length+2))) (by rw [List.length_drop];simp;omega) (by rw [List.length_drop];simp;omega)]
def z19(l:List (List UInt8)):List UInt8:=z7l (l.length+1) l
theorem zbn:z19 []=shaS []:=rfl
theorem zt3(h:List UInt8):z19 [h]=h:=rfl
theorem zbo{l:List (List UInt8)}(h:2<=l.length):z19 l=z1h (z19 (l.take (zy l.length))) (z19 (l.drop (zy l.length))):=by
 match l,h with
 |a::b::l,_=>
  obtain⟨s1,s2,s3⟩:=z3m (n:=l.length+2) (by omega)
  unfold z19
  simp only [z7l,List.length_cons]
  congr 1
  ·refine zbm _ _ _ ?_ (Nat.lt_succ_self _)
   rw [List.length_take]
   simp only [List.length_cons]
   omega
  ·refine zbm _ _ _ ?_ (Nat.lt_succ_self _)
   rw [List.length_drop]
   simp only [List.length_cons]
   omega
def H32(l:List (List UInt8)):Prop:=∀h ∈ l,h.length=32
theorem H32.take{l:List (List UInt8)}(h:H32 l)(n:Nat):H32 (l.take n):=fun x hx=>h x (List.mem_of_mem_take hx)
theorem H32.drop{l:List (List UInt8)}(h:H32 l)(n:Nat):H32 (l.drop n):=fun x hx=>h x (List.mem_of_mem_drop hx)
theorem z2o{l:List (List UInt8)}(h:H32 l):(z19 l).length=32:=by
 match l,h with
 | [],_=>exact zex _
 | [x],h=>exact h x (by simp)
 |a::b::l,_=>rw [zbo (by simp)];exact z3u _ _
end
section
def zx(l:List (List UInt8)):List (List AV):=l.map zj
theorem z2f(l:List (List UInt8)):(zx l).length=l.length:=by simp [zx]
theorem zdk(l:List (List UInt8))(n:Nat):(zx l).take n=zx (l.take n):=by simp [zx,List.map_take]
theorem zdj(l:List (List UInt8))(n:Nat):(zx l).drop n=zx (l.drop n):=by simp [zx,List.map_drop]
theorem hrows_nil{l:List (List UInt8)}:zx l=[] ↔ l=[]:=by simp [zx]
theorem z6s{k:Nat}:∀(l:List (List UInt8)),RLss k (zx l)
 | []=>by simp [zx,RLss]
 |h::l=>by have:=z6s (k:=k) l;simp only [zx]at this;simp [zx,RLss,this,z2a]
theorem zm7(hs:List (List UInt8))(hH:H32 hs)(hl:hs.length<1000000000)(ex:Bool)(r1 r3:Nat):
  ∀(d:Nat) (O:Store) (a:Nat),0<d->a+d<=hs.length->O[r1]? =some (some [[.vsl 32 (zx hs) ex]])->O[r3]? =some (some [[.fn 97 [.ptr r1 0 0,.ptr r3 0 0]]])->
   ACallsTo TC 97 [.int .i64 a,.int .i64 ((a+d:Nat):Int),.ptr r1 0 0,.ptr r3 0 0] O (.agg (zj (z19 ((hs.drop a).take d)))) O:=by
 intro d
 induction d using Nat.strongRecOn with
 | _ d ih=>
  intro O a h0 had hg1 hg3
  have hr1:=(List.getElem?_eq_some_iff.1 hg1).1
  have hr3:=(List.getElem?_eq_some_iff.1 hg3).1
  obtain⟨L,hL⟩:∃L,L=(hs.drop a).take d:=⟨_,rfl⟩
  have hLl:L.length=d:=by rw [hL,List.length_take,List.length_drop];omega
  have hLH:H32 L:=by rw [hL];exact(hH.drop a).take d
  have hn:=z2o hLH
  have hc:=zu (z19 L)
  rw [hn]at hc
  rw [<-hL]
  have hsub:((a+d:Nat):Int)-a=d:=by omega
  by_cases h1:d=1
  ·have e0:zy d=0:=by unfold zy;rw [if_pos (by omega)]
   have hsp:=fun O=>zc4 O d (by omega)
   rw [e0]at hsp
   obtain⟨x,hx⟩:∃x,hs[a]? =some x:=⟨_,List.getElem?_eq_getElem (by omega)⟩
   have hgr:(zx hs)[a]? =some (zj x):=by simp [zx,hx]
   have eL:z19 L=x:=by
    have:L=[x]:=by
     rw [hL,h1]
     apply List.ext_getElem?
     intro i
     cases i with
     |zero=>simp [List.getElem?_take,List.getElem?_drop,hx]
     |succ i=>simp [List.getElem?_take]
    rw [this];rfl
   rw [eL]at hc ⊢
   have hrl:=z2f hs
   clear eL
   generalize zx hs=rows at*
   refine ACallsTo.of_body qhok (by simp) fun hw _=> ?_
   repeat' (first|apply zs_|apply zb_|apply zc_|apply zt_ rfl|apply zf_ rfl|(apply zd_ rfl<;>intro ht<;>try omega)|((first|apply zr_|apply zk_|apply ze_|apply zq_|(apply callW.mk_pu;(first|exact(fun _=>hsp _)))|(apply callW.za;(first|exact(hsp _)))|(apply zG<;>intro ht));all_goals try simp (disch:=first|omega|(simp only [lens];first|done|omega)) only [go_sem,hsub,hg1,hgr,hc]))
   exact DownV.pure hw (z2m (z2a _))
  ·obtain⟨s1,s2,s3⟩:=z3m (n:=d) (by omega)
   have hsp:=fun O=>zc4 O d (by omega)
   have eL:=zbo (l:=L) (by omega)
   rw [hLl]at eL
   have t1:L.take (zy d)=(hs.drop a).take (zy d):=by rw [hL,List.take_take,Nat.min_eq_left (by omega)]
   have t2:L.drop (zy d)=(hs.drop (a+zy d)).take (d-zy d):=by rw [hL,List.drop_take,List.drop_drop]
   generalize hk:zy d=k at*
   have i1:=fun y=>ih k (by omega) (O++y) a (by omega) (by omega) (by rw [gapp hr1];exact hg1) (by rw [gapp hr3];exact hg3)
   have i2:=fun y=>ih (d-k) (by omega) (O++y) (a+k) (by omega) (by omega) (by rw [gapp hr1];exact hg1) (by rw [gapp hr3];exact hg3)
   rw [<-t1]at i1
   rw [<-t2]at i2
   rw [show a+k+(d-k)=a+d by omega]at i2
   have n1:=z2o (hLH.take k)
   have n2:=z2o (hLH.drop k)
   have e1:((a:Int)+k)=((a+k:Nat):Int):=by omega
   rw [eL]at hc ⊢
   generalize z19 (L.take k)=A at*
   generalize z19 (L.drop k)=B at*
   have k0:¬(k:Int)=0:=by omega
   refine ACallsTo.of_body qhok (by simp) fun hw _=> ?_
   repeat' (first|refine zs_ ?_|refine zb_ ?_|refine zc_ ?_|refine zt_ rfl ?_|refine zf_ rfl ?_|(refine zd_ rfl (fun ht=> ?_) (fun ht=> ?_)<;>try (exfalso;omega))|((first|refine zW.regS ?_|refine zk_ ?_|refine ze_ ?_|refine zq_ ?_|(apply callW.mk_pu;(first|exact(fun _=>hsp _)|exact(fun _=>i1 _)|exact(fun _=>i2 _)|exact(fun _=>z1v _ _ _ n1 n2)))|(apply callW.za;(first|exact(hsp _)|exact(i1 _)|exact(i2 _)|exact(z1v _ _ _ n1 n2)))|(apply zG<;>intro ht));all_goals try simp (disch:=first|omega|(simp only [lens];first|done|omega)) only [go_sem,hsub,hg1,hg3,hc,e1]))
   exact DownV.pure hw (z2m (z2a _))
theorem z9z(O:Store)(hs:List (List UInt8))(x:AV)(hx:SlV 32 (zx hs) x)(hH:H32 hs)(hl:hs.length<1000000000):ACallsTo TC 52 [x] O (.agg (zj (z19 hs))) O:=by
 have hc:=zu (z19 hs)
 rw [z2o hH]at hc
 have hrl:=z2f hs
 by_cases h0:hs=[]
 ·subst h0
  have hx':=hx.len
  unfold z1i at hx'
  refine ACallsTo.of_body qeok (by simp) fun hw _=> ?_
  rw [zbn]at hc ⊢
  rcases hx with⟨rfl,h⟩| ⟨ex,rfl⟩
  ·repeat' (first|apply zs_|apply zb_|apply zc_|apply zt_ rfl|apply zf_ rfl|(apply zd_ rfl<;>intro ht<;>try omega)|((first|apply zr_|apply zk_|apply ze_|apply zq_|(apply callW.mk_pu;(first|exact(fun _=>z8i _ [] (by simp))))|(apply callW.za;(first|exact(z8i _ [] (by simp))))|(apply zG<;>intro ht));all_goals try simp (disch:=first|omega|(simp only [lens];first|done|omega)) only [go_sem,hc]))
   exact DownV.pure hw (z2m (z2a _))
  ·repeat' (first|apply zs_|apply zb_|apply zc_|apply zt_ rfl|apply zf_ rfl|(apply zd_ rfl<;>intro ht<;>try omega)|((first|apply zr_|apply zk_|apply ze_|apply zq_|(apply callW.mk_pu;(first|exact(fun _=>z8i _ [] (by simp))))|(apply callW.za;(first|exact(z8i _ [] (by simp))))|(apply zG<;>intro ht));all_goals try simp (disch:=first|omega|(simp only [lens];first|done|omega)) only [go_sem,hc,hrl]))
   exact DownV.pure hw (z2m (z2a _))
 ·have hpos:0<hs.length:=List.length_pos_iff.2 h0
  obtain⟨ex,rfl⟩:=hx.vsl (by rw [hrl];exact hpos)
  have h1:=zm7 hs hH hl ex O.length (O.length+2) hs.length
  refine ACallsTo.of_body qeok (by simp) fun hw _=> ?_
  have h1:=fun O'=>h1 O' 0 hpos (by omega)
  simp only [Nat.zero_add,List.drop_zero,List.take_length]at h1
  generalize z19 hs=R at*
  generalize zx hs=rows at*
  repeat' (first|apply zs_|apply zb_|apply zc_|apply zt_ rfl|apply zf_ rfl|(apply zd_ rfl<;>intro ht<;>try omega)|((first|apply zr_|apply zk_|apply ze_|apply zq_|(apply callW.mk_pu;(first|exact(fun _=>h1 _ (by simp) (by simp))))|(apply callW.za;(first|exact(h1 _ (by simp) (by simp))))|(apply zG<;>intro ht));all_goals try simp (disch:=first|omega|(simp only [lens];first|done|omega)) only [go_sem,hc,hrl]))
  exact DownV.pure hw (z2m (z2a _))
theorem zsv(f:Nat):∀(O:Store) (hs:List (List UInt8)) (ex:Bool),hs.length<f->H32 hs->hs.length<1000000000->ACallsTo TC 16 [.vsl 32 (zx hs) ex] O (.agg (zj (z19 hs))) O:=by
 induction f with
 |zero=>intro O hs ex h;omega
 |succ f ih=>
  intro O hs ex hf hH hl
  have hc:=zu (z19 hs)
  rw [z2o hH]at hc
  have hrl:=z2f hs
  by_cases h0:hs.length=0
  ·obtain rfl:hs=[]:=List.eq_nil_of_length_eq_zero h0
   rw [zbn]at hc ⊢
   refine ACallsTo.of_body qiok (by simp) fun hw _=> ?_
   repeat' (first|apply zs_|apply zb_|apply zc_|apply zt_ rfl|apply zf_ rfl|(apply zd_ rfl<;>intro ht<;>try omega)|((first|apply zr_|apply zk_|apply ze_|apply zq_|(apply callW.mk_pu;(first|exact(fun _=>z7i _ [] (by simp))))|(apply callW.za;(first|exact(z7i _ [] (by simp))))|(apply zG<;>intro ht));all_goals try simp (disch:=first|omega|(simp only [lens];first|done|omega)) only [go_sem,hc,hrl]))
   exact DownV.pure hw (z2m (z2a _))
  ·by_cases h1:hs.length=1
   ·obtain⟨x,rfl⟩:=List.length_eq_one_iff.1 h1
    rw [zt3]at hc ⊢
    refine ACallsTo.of_body qiok (by simp) fun hw _=> ?_
    simp only [zx,List.map_cons,List.map_nil]
    repeat' (first|apply zs_|apply zb_|apply zc_|apply zt_ rfl|apply zf_ rfl|(apply zd_ rfl<;>intro ht<;>try omega)|((first|apply zr_|apply zk_|apply ze_|apply zq_|(apply zG<;>intro ht));all_goals try simp (disch:=first|omega|(simp only [lens];first|done|omega)) only [go_sem,hc]))
    exact DownV.pure hw (z2m (z2a _))
   ·obtain⟨s1,s2,s3⟩:=z3m (n:=hs.length) (by omega)
    have hsp:=fun O=>zbg O hs.length (by omega)
    have eL:=zbo (l:=hs) (by omega)
    have n1:=z2o (hH.take (zy hs.length))
    have n2:=z2o (hH.drop (zy hs.length))
    have i1:=fun O ex=>ih O (hs.take (zy hs.length)) ex (by rw [List.length_take];omega) (hH.take _) (by rw [List.length_take];omega)
    have i2:=fun O ex=>ih O (hs.drop (zy hs.length)) ex (by rw [List.length_drop];omega) (hH.drop _) (by rw [List.length_drop];omega)
    rw [eL]at hc ⊢
    have tk:=zdk hs (zy hs.length)
    have dk:=zdj hs (zy hs.length)
    generalize z19 (hs.take (zy hs.length))=A at*
    generalize z19 (hs.drop (zy hs.length))=B at*
    generalize zx (hs.take (zy hs.length))=ra at*
    generalize zx (hs.drop (zy hs.length))=rb at*
    generalize zx hs=rows at*
    generalize zy hs.length=k at*
    have k0:¬(hs.length:Int)=0:=by omega
    have k1:¬(hs.length:Int)=1:=by omega
    refine ACallsTo.of_body qiok (by simp) fun hw _=> ?_
    repeat' (first|refine zs_ ?_|refine zb_ ?_|refine zc_ ?_|refine zt_ rfl ?_|refine zf_ rfl ?_|(refine zd_ rfl (fun ht=> ?_) (fun ht=> ?_)<;>try (exfalso;omega))|((first|refine zW.regS ?_|refine zk_ ?_|refine ze_ ?_|refine zq_ ?_|(apply callW.mk_pu;(first|exact(fun _=>hsp _)|exact(fun _=>i1 _ _)|exact(fun _=>i2 _ _)|exact(fun _=>zei _ _ _ n1 n2)))|(apply callW.za;(first|exact(hsp _)|exact(i1 _ _)|exact(i2 _ _)|exact(zei _ _ _ n1 n2)))|(apply zG<;>intro ht));all_goals try simp (disch:=first|omega|(simp only [lens];first|done|omega)) only [go_sem,hc,hrl,tk,dk]))
    exact DownV.pure hw (z2m (z2a _))
theorem zbf(O:Store)(hs:List (List UInt8))(x:AV)(hx:SlV 32 (zx hs) x)(hH:H32 hs)(hl:hs.length<1000000000):ACallsTo TC 16 [x] O (.agg (zj (z19 hs))) O:=by
 rcases hx with⟨rfl,h⟩| ⟨ex,rfl⟩
 ·obtain rfl:=hrows_nil.1 h
  have hc:=zu (z19 [])
  rw [z2o hH]at hc
  rw [zbn]at hc ⊢
  refine ACallsTo.of_body qiok (by simp) fun hw _=> ?_
  repeat' (first|apply zs_|apply zb_|apply zc_|apply zt_ rfl|apply zf_ rfl|(apply zd_ rfl<;>intro ht<;>try omega)|((first|apply zr_|apply zk_|apply ze_|apply zq_|(apply callW.mk_pu;(first|exact(fun _=>z7i _ [] (by simp))))|(apply callW.za;(first|exact(z7i _ [] (by simp))))|(apply zG<;>intro ht));all_goals try simp (disch:=first|omega|(simp only [lens];first|done|omega)) only [go_sem,hc]))
  exact DownV.pure hw (z2m (z2a _))
 ·exact zsv (hs.length+1) O hs ex (by omega) hH hl
end
section
def RdSl(O:Store)(sz:Nat)(es:List (List AV))(x:AV):Prop:=
 SlV sz es x \/ ∃r off lim o,x=.sl r off es.length lim sz/\ O[r]? =some (some o)/\ off+es.length<=o.length/\ (o.drop off).take es.length=es
theorem RdSl.of{O:Store}{sz:Nat}{es:List (List AV)}{x:AV}(h:SlV sz es x):RdSl O sz es x:=.inl h
theorem OwnN.rd{sz:Nat}{τ O':Store}{v:AV}{es:List (List AV)}(h:OwnN sz τ O' v es):RdSl O' sz es v:=by
 by_cases h0:es=[]
 ·obtain⟨news,rfl,⟨rfl,rfl⟩| ⟨j,h1,_⟩⟩:=h
  ·exact .inl (.inl ⟨rfl,rfl⟩)
  ·exact absurd h0 h1
 ·obtain⟨r,rfl,hg,_⟩:=h.sl h0
  exact .inr ⟨r,0,none,es,rfl,hg,by omega,by rw [List.drop_zero,List.take_of_length_le (Nat.le_refl _)]⟩
theorem RdSl.app{O y:Store}{sz:Nat}{es:List (List AV)}{x:AV}(h:RdSl O sz es x):RdSl (O++y) sz es x:=by
 rcases h with h| ⟨r,off,lim,o,rfl,hg,h1,h2⟩
 ·exact .inl h
 ·exact .inr ⟨r,off,lim,o,rfl,by rw [gapp (List.getElem?_eq_some_iff.1 hg).1];exact hg,h1,h2⟩
theorem RdSl.len{O:Store}{sz:Nat}{es:List (List AV)}{x:AV}(h:RdSl O sz es x):z1i x=some (.int .i64 es.length):=by
 rcases h with h| ⟨r,off,lim,o,rfl,_⟩
 ·exact h.len
 ·rfl
theorem RdSl.lend{O:Store}{sz:Nat}{es:List (List AV)}{x:AV}(h:RdSl O sz es x)(hr:RLss 0 es):∃x0,SlV sz es x0/\ DR (z3y O) x0 x:=by
 rcases h with h| ⟨r,off,lim,o,rfl,hg,h1,h2⟩
 ·refine⟨x,h,DR.refl (k:=0) (by omega) x ?_⟩
  rcases h with⟨rfl,_⟩| ⟨ex,rfl⟩
  ·simp [RL]
  ·simpa only [RL]using hr
 ·refine⟨.vsl sz es false,.inr ⟨false,rfl⟩,?_⟩
  simp only [DR,z3y]
  exact .inr (.inl ⟨r,off,lim,o,rfl,trivial,hg,h1,by simp,by rw [h2];exact DRss.refl (k:=0) (by omega) es hr⟩)
theorem zqj{O:Store}{r i off cap esz:Nat}{o es:List (List AV)}{cs rest:List AV}(hg:O[r]? =some (some o))(hi:o[i]? =some cs)(ho:off<=cs.length)(hd:cs.drop off=es.flatten++rest)(he:∀e ∈ es,e.length=esz)(hn:es.length ≠ 0)(hr:RLss 0 es):
  DR (z3y O) (.vsl esz es false) (.asl r i off es.length cap esz):=by
 simp only [DR,z3y]
 exact .inr (.inr ⟨r,i,off,cap,o,cs,es,rest,rfl,trivial,hg,hi,ho,hd,he,hn,by simp,DRss.refl (k:=0) (by omega) es hr⟩)
theorem rl0{a:AV}(h:RL 0 a)(O:Store):DR (z3y O) a a:=DR.refl (k:=0) (by omega) a h
theorem drs1{D:DC}{a b:AV}(h:DR D a b):DRs D [a] [b]:=by simp only [DRs];exact⟨b,[],rfl,h,rfl⟩
theorem drsc{D:DC}{a b:AV}{l m:List AV}(h:DR D a b)(h2:DRs D l m):DRs D (a::l) (b::m):=by simp only [DRs];exact⟨b,m,rfl,h,h2⟩
theorem zey(k:Nat):∀(l:List UInt8),shs k (zj l)=zj l
 | []=>rfl
 |b::l=>by have:=zey k l;simp only [zj]at this;simp [zj,shs,sh,this]
theorem zkf(k:Nat)(l:List UInt8):sh k (.agg (zj l))=.agg (zj l):=by simp only [sh,zey]
theorem z6v(k:Nat):shS k []=[]:=rfl
theorem zv0(O:Store)(hs:List (List UInt8))(x:AV)(hx:RdSl O 32 (zx hs) x)(hH:H32 hs)(hl:hs.length<1000000000):ACallsTo TC 52 [x] O (.agg (zj (z19 hs))) O:=by
 obtain⟨x0,h0,hd⟩:=hx.lend (z6s hs)
 have:=ACallsTo.lend glok (z9z [] hs x0 h0 hH hl) (drs1 hd)
 rwa [zkf,z6v,List.append_nil]at this
theorem zsu(O:Store)(hs:List (List UInt8))(x:AV)(hx:RdSl O 32 (zx hs) x)(hH:H32 hs)(hl:hs.length<1000000000):ACallsTo TC 16 [x] O (.agg (zj (z19 hs))) O:=by
 obtain⟨x0,h0,hd⟩:=hx.lend (z6s hs)
 have:=ACallsTo.lend glok (zbf [] hs x0 h0 hH hl) (drs1 hd)
 rwa [zkf,z6v,List.append_nil]at this
theorem z7d:∀(a b:List UInt8),z27 (zj a) (zj b)=decide (a=b)
 | [],[]=>rfl
 | [],_::_=>rfl
 | _::_,[]=>rfl
 |a::l,b::m=>by
  have ih:=z7d l m
  simp only [zj,List.map_cons,z27,z9a]at ih ⊢
  rw [ih,Bool.eq_iff_iff]
  simp [<-UInt8.toNat_inj]
  intro _
  omega
theorem zid:∀(l:List UInt8),(zj l).map z1q=List.replicate l.length (some (LK.i .u8))
 | []=>rfl
 | _::l=>by have:=zid l;simp only [zj]at this;simp [zj,z1q,this,List.replicate_succ]
theorem z4g{l:List UInt8}(h:l.length=32):(zj l).map z1q=(List.replicate 32 (LK.i .u8)).map some:=by rw [zid,h];rfl
end
section
set_option maxRecDepth 10000
def qnr0:yW:=[
 yI 4 (.mv (.v .nilsl)),
 yK 5 .i64 0]
def qnr1:yW:=[
 yM 9 1,
 yJ 10 .lss 9 .i64 0,
 yM 11 10,
 yV 12 11 false 1,
 yV 13 11 false 0,
 yG 14 11 false (.lenSl (.t 13)),
 yG 15 11 false (.bin .gtr .none (.t 12) (.t 14)),
 yP 16 11 15,
 yM 8 16]
def qnr2:yW:=[
 yI 4 (.mv (.v .nilsl)),
 yK 5 .i64 2]
def qnc3:yX:=yq qnr2 .ret
def qnr4:yW:=[
 yM 18 1,
 yJ 19 .eql 18 .i64 0,
 yM 20 19,
 yV 21 20 false 1,
 yV 22 20 false 0,
 yG 23 20 false (.lenSl (.t 22)),
 yG 24 20 false (.bin .eql .none (.t 21) (.t 23)),
 yP 25 20 24,
 yM 17 25]
def qnr5:yW:=[
 yI 4 (.mv (.v .nilsl)),
 yK 5 .i64 0]
def qnc6:yX:=yq qnr5 .ret
def qnc7:yX:=.cond (.t 17) qnc6 .skip
def qnc8:yX:=yq qnr4 qnc7
def qnc9:yX:=.cond (.t 8) qnc3 qnc8
def qnc10:yX:=yq qnr1 qnc9
def qnr11:yW:=[
 yI 6 (.alloc [.nilsl])]
def qnr12:yW:=[
 yI 7 (.alloc [.nilfn])]
def qnr13:yW:=[
 yI 26 (.mkfn 102 [(.t 6),(.t 7)]),
 yS 1 7 26]
def qnr14:yW:=[
 yL 27 false 1 7,
 yM 28 0,
 yM 29 1,
 yI 30 (.call (.t 27) [(.t 28),(.t 29),(.v (.bool true))])]
def qnr15:yW:=[
 yL 31 false 1 6,
 yM 4 31,
 yK 5 .i64 0]
def qnc16:yX:=yq qnr15 .ret
def qnc17:yX:=yq qnr14 qnc16
def qnc18:yX:=yq qnr13 qnc17
def qnc19:yX:=yq qnr12 qnc18
def qnc20:yX:=yq qnr11 qnc19
def qnc21:yX:=.seq (.block 0 qnc10) qnc20
def qnc22:yX:=yq qnr0 qnc21
attribute [go_sem] qnr0 qnr1 qnr2 qnr4 qnr5 qnr11 qnr12 qnr13 qnr14 qnr15
theorem qnok:cFn TC 60=some (32,[.t 4,.t 5],qnc22):=by kernel_rfl
def qor0:yW:=[
 yI 4 (.mv (.v .nilsl)),
 yK 5 .i64 0]
def qor1:yW:=[
 yM 6 1,
 yJ 7 .lss 6 .i64 0,
 yM 8 7,
 yV 9 8 false 1,
 yV 10 8 false 0,
 yG 11 8 false (.lenSl (.t 10)),
 yG 12 8 false (.bin .gtr .none (.t 9) (.t 11)),
 yP 13 8 12]
def qor2:yW:=[
 yI 4 (.mv (.v .nilsl)),
 yK 5 .i64 2]
def qoc3:yX:=yq qor2 .ret
def qoc4:yX:=.cond (.t 13) qoc3 .skip
def qoc5:yX:=yq qor1 qoc4
def qor6:yW:=[
 yM 14 1,
 yJ 15 .eql 14 .i64 0]
def qor7:yW:=[
 yI 4 (.mv (.v .nilsl)),
 yK 5 .i64 0]
def qoc8:yX:=yq qor7 .ret
def qoc9:yX:=.cond (.t 15) qoc8 .skip
def qoc10:yX:=yq qor6 qoc9
def qor11:yW:=[
 yM 16 0,
 yM 17 1,
 yI 18 (.call (.v (.fn 43 [])) [(.t 16),(.t 17),(.v (.bool true))]),
 yM 4 18,
 yK 5 .i64 0]
def qoc12:yX:=yq qor11 .ret
def qoc13:yX:=.seq qoc10 qoc12
def qoc14:yX:=.seq qoc5 qoc13
def qoc15:yX:=yq qor0 qoc14
attribute [go_sem] qor0 qor1 qor2 qor6 qor7 qor11
theorem qook:cFn TC 14=some (19,[.t 4,.t 5],qoc15):=by kernel_rfl
def qpr0:yW:=[
 yI 7 (.box (.t 2)),
 yI 8 (.box (.t 3)),
 yI 9 (.box (.t 4)),
 yK 10 .i64 0]
def qpr1:yW:=[
 yM 21 1,
 yJ 22 .lss 21 .i64 0,
 yM 23 22,
 yV 24 23 false 1,
 yG 25 23 false (.bin .gtr .none (.t 24) (.v (.int .i64 4096))),
 yP 26 23 25,
 yM 27 26,
 yV 28 27 false 0,
 yG 29 27 false (.bin .lss .none (.t 28) (.v (.int .i64 0))),
 yP 30 27 29,
 yM 31 30,
 yV 32 31 false 0,
 yV 33 31 false 1,
 yG 34 31 false (.bin .gtr .none (.t 32) (.t 33)),
 yP 35 31 34,
 yM 20 35]
def qpr2:yW:=[
 yK 10 .i64 2]
def qpc3:yX:=yq qpr2 .ret
def qpr4:yW:=[
 yM 37 0,
 yJ 38 .eql 37 .i64 0,
 yM 36 38]
def qpr5:yW:=[
 yL 39 false 1 9,
 yI 40 (.lenSl (.t 39)),
 yJ 41 .eql 40 .i64 0,
 yM 42 41,
 ⟨some 43,some (42,true),.rd,.load true 32 (.t 7)⟩,
 ⟨some 44,some (42,true),.ef,.call (.v (.fn 52 [])) [(.v .nilsl)]⟩,
 yG 45 42 true (.bin .eql (.agg (List.replicate 32 (.i .u8)++ [])) (.t 43) (.t 44)),
 yQ 46 42 45,
 yM 47 46,
 yV 48 47 true 1,
 yG 49 47 true (.bin .gtr .none (.t 48) (.v (.int .i64 0))),
 yV 50 47 true 49,
 ⟨some 51,some (50,false),.rd,.load true 32 (.t 8)⟩,
 ⟨some 52,some (50,false),.rd,.load true 32 (.t 7)⟩,
 yG 53 50 false (.bin .eql (.agg (List.replicate 32 (.i .u8)++ [])) (.t 51) (.t 52)),
 yG 54 47 true (.pick (.t 50) (.v (.bool true)) (.t 53)),
 yQ 55 47 54,
 yC 56 93 55,
 yM 10 56]
def qpc6:yX:=yq qpr5 .ret
def qpr7:yW:=[
 yM 58 0,
 yM 59 1,
 yB 60 .eql 58 59,
 yM 57 60]
def qpr8:yW:=[
 yL 61 false 1 9,
 yI 62 (.lenSl (.t 61)),
 yJ 63 .eql 62 .i64 0,
 yM 64 63,
 yU 65 64 true true 32 7,
 yU 66 64 true true 32 8,
 yG 67 64 true (.bin .eql (.agg (List.replicate 32 (.i .u8)++ [])) (.t 65) (.t 66)),
 yQ 68 64 67,
 yC 69 93 68,
 yM 10 69]
def qpc9:yX:=yq qpr8 .ret
def qpc10:yX:=.cond (.t 57) qpc9 .skip
def qpc11:yX:=yq qpr7 qpc10
def qpc12:yX:=.cond (.t 36) qpc6 qpc11
def qpc13:yX:=yq qpr4 qpc12
def qpc14:yX:=.cond (.t 20) qpc3 qpc13
def qpc15:yX:=yq qpr1 qpc14
def qpr16:yW:=[
 yM 70 0,
 yJ 71 .sub 70 .i64 1,
 yM 72 1,
 yJ 73 .sub 72 .i64 1,
 yM 11 71,
 yM 12 73]
def qpr17:yW:=[
 yM 74 11,
 yJ 75 .rem 74 .i64 2,
 yJ 76 .eql 75 .i64 1]
def qpc18:yX:=.cond (.t 76) .skip (.exit 1)
def qpc19:yX:=yq qpr17 qpc18
def qpr20:yW:=[
 yM 77 11,
 yJ 78 .quo 77 .i64 2,
 yM 79 12,
 yJ 80 .quo 79 .i64 2,
 yM 11 78,
 yM 12 80]
def qpc21:yX:=.block 2 (.reg qpr20)
def qpc22:yX:=.seq qpc19 qpc21
def qpc23:yX:=.loop qpc22
def qpr24:yW:=[
 yI 81 (.mkfn 94 [(.t 9)]),
 yM 13 81]
def qpr25:yW:=[
 ⟨some 82,none,.rd,.load true 32 (.t 7)⟩,
 ⟨some 83,none,.rd,.load true 32 (.t 7)⟩,
 ⟨some 14,none,.ef,.alloc zZ0⟩,
 ⟨some 15,none,.ef,.alloc zZ0⟩,
 ⟨none,none,.ef,.store 32 (.t 14) (.t 82)⟩,
 yS 32 15 83]
def qpr26:yW:=[
 ⟨some 82,none,.rd,.load true 32 (.t 7)⟩,
 ⟨some 83,none,.rd,.load true 32 (.t 7)⟩,
 ⟨some 15,none,.ef,.alloc zZ0⟩,
 ⟨some 14,none,.ef,.alloc zZ0⟩,
 ⟨none,none,.ef,.store 32 (.t 14) (.t 82)⟩,
 yS 32 15 83]
def qpr27:yW:=[
 yM 84 11,
 yJ 85 .gtr 84 .i64 0]
def qpr28:yW:=[
 yM 87 13,
 yI 88 (.call (.t 87) []),
 yM 86 88,
 yE 89 0 86,
 yE 90 1 86,
 yI 16 (.alloc zZ0),
 yS 32 16 89,
 yM 17 90]
def qpr29:yW:=[
 yM 91 17,
 yI 92 (.un .not (.t 91))]
def qpr30:yW:=[
 yK 10 .i64 80]
def qpc31:yX:=yq qpr30 .ret
def qpc32:yX:=.cond (.t 92) qpc31 .skip
def qpc33:yX:=yq qpr29 qpc32
def qpr34:yW:=[
 ⟨some 93,none,.rd,.load true 32 (.t 16)⟩,
 ⟨some 94,none,.rd2,.load true 32 (.t 16)⟩,
 ⟨none,none,.ef2,.store 32 (.t 14) (.t 93)⟩,
 yS 32 15 94]
def qpc35:yX:=.seq qpc33 (.reg qpr34)
def qpc36:yX:=yq qpr28 qpc35
def qpc37:yX:=.cond (.t 85) qpc36 .skip
def qpc38:yX:=yq qpr27 qpc37
def qpr39:yW:=[
 yM 95 12,
 yJ 96 .gtr 95 .i64 0]
def qpc40:yX:=.cond (.t 96) .skip (.exit 3)
def qpc41:yX:=yq qpr39 qpc40
def qpr42:yW:=[
 yM 98 13,
 yI 99 (.call (.t 98) []),
 yM 97 99,
 yE 100 0 97,
 yE 101 1 97,
 yI 18 (.alloc zZ0),
 yS 32 18 100,
 yM 19 101]
def qpr43:yW:=[
 yM 106 19,
 yI 107 (.un .not (.t 106)),
 yM 105 107]
def qpr44:yW:=[
 yK 10 .i64 80]
def qpc45:yX:=yq qpr44 .ret
def qpr46:yW:=[
 yM 109 11,
 yJ 110 .rem 109 .i64 2,
 yJ 111 .eql 110 .i64 1,
 yM 112 111,
 yV 113 112 false 11,
 yV 114 112 false 12,
 yG 115 112 false (.bin .eql .none (.t 113) (.t 114)),
 yP 116 112 115,
 yM 108 116]
def qpr47:yW:=[
 ⟨some 117,none,.rd,.load true 32 (.t 18)⟩,
 ⟨some 118,none,.rd,.load true 32 (.t 14)⟩,
 ⟨some 119,none,.ef,.call (.v (.fn 95 [])) [(.t 117),(.t 118)]⟩,
 ⟨some 120,none,.rd,.load true 32 (.t 18)⟩,
 ⟨some 121,none,.rd,.load true 32 (.t 15)⟩,
 yD 122 95 120 121,
 yS 32 14 119,
 yS 32 15 122]
def qpr48:yW:=[
 yM 123 11,
 yJ 124 .rem 123 .i64 2,
 yJ 125 .eql 124 .i64 0,
 yM 126 125,
 yV 127 126 true 11,
 yG 128 126 true (.bin .gtr .none (.t 127) (.v (.int .i64 0))),
 yQ 129 126 128]
def qpc49:yX:=.cond (.t 129) .skip (.exit 6)
def qpc50:yX:=yq qpr48 qpc49
def qpr51:yW:=[
 yM 130 11,
 yJ 131 .quo 130 .i64 2,
 yM 132 12,
 yJ 133 .quo 132 .i64 2,
 yM 11 131,
 yM 12 133]
def qpc52:yX:=.block 7 (.reg qpr51)
def qpc53:yX:=.seq qpc50 qpc52
def qpc54:yX:=.loop qpc53
def qpc55:yX:=.block 6 qpc54
def qpc56:yX:=yq qpr47 qpc55
def qpr57:yW:=[
 yL 102 true 32 15,
 yL 103 true 32 18,
 yD 104 95 102 103,
 yS 32 15 104]
def qpc58:yX:=.cond (.t 108) qpc56 (.reg qpr57)
def qpc59:yX:=yq qpr46 qpc58
def qpc60:yX:=.cond (.t 105) qpc45 qpc59
def qpc61:yX:=yq qpr43 qpc60
def qpc62:yX:=.block 5 qpc61
def qpc63:yX:=yq qpr42 qpc62
def qpr64:yW:=[
 yM 134 11,
 yJ 135 .quo 134 .i64 2,
 yM 136 12,
 yJ 137 .quo 136 .i64 2,
 yM 11 135,
 yM 12 137]
def qpc65:yX:=.seq qpc63 (.reg qpr64)
def qpc66:yX:=.block 4 qpc65
def qpc67:yX:=.seq qpc41 qpc66
def qpc68:yX:=.loop qpc67
def qpr69:yW:=[
 yL 138 false 1 9,
 yI 139 (.lenSl (.t 138)),
 yJ 140 .eql 139 .i64 0,
 yM 141 140,
 yU 142 141 true true 32 14,
 yU 143 141 true true 32 7,
 yG 144 141 true (.bin .eql (.agg (List.replicate 32 (.i .u8)++ [])) (.t 142) (.t 143)),
 yQ 145 141 144,
 yM 146 145,
 yU 147 146 true true 32 15,
 yU 148 146 true true 32 8,
 yG 149 146 true (.bin .eql (.agg (List.replicate 32 (.i .u8)++ [])) (.t 147) (.t 148)),
 yQ 150 146 149,
 yC 151 93 150,
 yM 10 151]
def qpc70:yX:=yq qpr69 .ret
def zeb:ACode:=.seq (.block 3 qpc68) qpc70
def qpc72:yX:=.seq qpc38 zeb
def qpc73:yX:=.seq (.reg2 qpr25 qpr26) qpc72
def qpc74:yX:=yq qpr24 qpc73
def qpc75:yX:=.seq (.block 1 qpc23) qpc74
def qpc76:yX:=yq qpr16 qpc75
def qpc77:yX:=.seq (.block 0 qpc15) qpc76
def qpc78:yX:=yq qpr0 qpc77
attribute [go_sem] qpr0 qpr1 qpr2 qpr4 qpr5 qpr7 qpr8 qpr16 qpr17 qpr20 qpr24 qpr25 qpr26 qpr27 qpr28 qpr29 qpr30 qpr34 qpr39 qpr42 qpr43 qpr44 qpr46 qpr47 qpr48 qpr51 qpr57 qpr64 qpr69
theorem qpok:cFn TC 51=some (152,[.t 10],qpc78):=by kernel_rfl
def qqr0:yW:=[
 yI 7 (.box (.t 2)),
 yI 8 (.box (.t 3)),
 yK 10 .i64 0]
def qqr1:yW:=[
 yM 15 1,
 yJ 16 .lss 15 .i64 0,
 yM 17 16,
 yV 18 17 false 1,
 yG 19 17 false (.bin .gtr .none (.t 18) (.v (.int .i64 4096))),
 yP 20 17 19,
 yM 21 20,
 yV 22 21 false 0,
 yG 23 21 false (.bin .lss .none (.t 22) (.v (.int .i64 0))),
 yP 24 21 23,
 yM 25 24,
 yV 26 25 false 0,
 yV 27 25 false 1,
 yG 28 25 false (.bin .gtr .none (.t 26) (.t 27)),
 yP 29 25 28]
def qqr2:yW:=[
 yK 10 .i64 2]
def qqc3:yX:=yq qqr2 .ret
def qqc4:yX:=.cond (.t 29) qqc3 .skip
def qqc5:yX:=yq qqr1 qqc4
def qqr6:yW:=[
 yI 11 (.mv (.v (.bool false)))]
def qqr7:yW:=[
 yM 30 0,
 yJ 31 .eql 30 .i64 0]
def qqr8:yW:=[
 yM 32 4,
 yI 33 (.lenSl (.t 32)),
 yJ 34 .eql 33 .i64 0,
 yM 35 34,
 ⟨some 36,some (35,true),.rd,.load true 32 (.t 7)⟩,
 ⟨some 37,some (35,true),.ef,.call (.v (.fn 46 [])) [(.v (.str []))]⟩,
 yG 38 35 true (.bin .eql (.agg (List.replicate 32 (.i .u8)++ [])) (.t 36) (.t 37)),
 yQ 39 35 38,
 yM 40 39,
 yV 41 40 true 1,
 yG 42 40 true (.bin .gtr .none (.t 41) (.v (.int .i64 0))),
 yV 43 40 true 42,
 ⟨some 44,some (43,false),.rd,.load true 32 (.t 7)⟩,
 ⟨some 45,some (43,false),.rd,.load true 32 (.t 8)⟩,
 yG 46 43 false (.bin .eql (.agg (List.replicate 32 (.i .u8)++ [])) (.t 44) (.t 45)),
 yG 47 40 true (.pick (.t 43) (.v (.bool true)) (.t 46)),
 yQ 48 40 47,
 yM 11 48]
def qqr9:yW:=[
 yM 49 0,
 yM 50 1,
 yB 51 .eql 49 50]
def qqr10:yW:=[
 yM 52 4,
 yI 53 (.lenSl (.t 52)),
 yJ 54 .eql 53 .i64 0,
 yM 55 54,
 yU 56 55 true true 32 7,
 yU 57 55 true true 32 8,
 yG 58 55 true (.bin .eql (.agg (List.replicate 32 (.i .u8)++ [])) (.t 56) (.t 57)),
 yQ 59 55 58,
 yM 11 59]
def qqr11:yW:=[
 yM 61 0,
 yM 62 1,
 yL 63 true 32 7,
 yM 64 4,
 yI 65 (.call (.v (.fn 100 [])) [(.t 61),(.t 62),(.v (.bool true)),(.t 63),(.t 64)]),
 yM 60 65,
 yE 66 0 60,
 yE 67 1 60,
 yE 68 2 60,
 yI 12 (.alloc zZ0),
 yI 13 (.alloc zZ0),
 yS 32 12 66,
 yS 32 13 67,
 yM 14 68]
def qqr12:yW:=[
 yM 69 14,
 yM 70 69,
 yU 71 70 true true 32 12,
 yU 72 70 true true 32 7,
 yG 73 70 true (.bin .eql (.agg (List.replicate 32 (.i .u8)++ [])) (.t 71) (.t 72)),
 yQ 74 70 73,
 yM 75 74,
 yU 76 75 true true 32 13,
 yU 77 75 true true 32 8,
 yG 78 75 true (.bin .eql (.agg (List.replicate 32 (.i .u8)++ [])) (.t 76) (.t 77)),
 yQ 79 75 78,
 yM 11 79]
def qqc13:yX:=yq qqr11 (.reg qqr12)
def qqc14:yX:=.cond (.t 51) (.reg qqr10) qqc13
def qqc15:yX:=yq qqr9 qqc14
def qqc16:yX:=.cond (.t 31) (.reg qqr8) qqc15
def qqc17:yX:=yq qqr7 qqc16
def qqr18:yW:=[
 yM 80 11,
 yI 81 (.un .not (.t 80))]
def qqr19:yW:=[
 yK 10 .i64 80]
def qqc20:yX:=yq qqr19 .ret
def qqc21:yX:=.cond (.t 81) qqc20 .skip
def qqc22:yX:=yq qqr18 qqc21
def qqr23:yW:=[
 yK 10 .i64 0]
def qqc24:yX:=yq qqr23 .ret
def qqc25:yX:=.seq qqc22 qqc24
def qqc26:yX:=.seq qqc17 qqc25
def qqc27:yX:=yq qqr6 qqc26
def qqc28:yX:=.seq qqc5 qqc27
def qqc29:yX:=yq qqr0 qqc28
attribute [go_sem] qqr0 qqr1 qqr2 qqr6 qqr7 qqr8 qqr9 qqr10 qqr11 qqr12 qqr18 qqr19 qqr23
theorem qqok:cFn TC 55=some (82,[.t 10],qqc29):=by kernel_rfl
def qrr0:yW:=[
 yM 9 1,
 yM 10 0,
 yI 11 (.lenSl (.t 10)),
 yB 12 .eql 9 11]
def qrr1:yW:=[
 yM 13 2,
 yI 14 (.un .not (.t 13))]
def qrr2:yW:=[
 ⟨some 15,none,.rd,.load false 1 (.t 3)⟩,
 yM 16 0,
 ⟨some 17,none,.ef,.call (.v (.fn 52 [])) [(.t 16)]⟩,
 yI 18 (.lit 32 [(.t 17)]),
 yI 19 (.app 32 (.t 15) (.t 18)),
 yS 1 3 19]
def qrc3:yX:=.cond (.t 14) (.reg qrr2) .skip
def qrc4:yX:=yq qrr1 qrc3
def qrc5:yX:=.seq qrc4 .ret
def qrc6:yX:=.cond (.t 12) qrc5 .skip
def qrc7:yX:=yq qrr0 qrc6
def qrr8:yW:=[
 yM 20 0,
 yI 21 (.lenSl (.t 20)),
 yC 22 98 21,
 yM 8 22]
def qrr9:yW:=[
 yM 23 1,
 yM 24 8,
 yB 25 .leq 23 24]
def qrr10:yW:=[
 yL 26 false 1 4,
 yM 27 0,
 yM 28 8,
 yI 29 (.slice (.sl 32) (.t 27) none (some (.t 28)) none),
 yM 30 1,
 yM 31 2,
 yI 32 (.call (.t 26) [(.t 29),(.t 30),(.t 31)])]
def qrr11:yW:=[
 ⟨some 33,none,.rd,.load false 1 (.t 3)⟩,
 yM 34 0,
 yM 35 8,
 yI 36 (.slice (.sl 32) (.t 34) (some (.t 35)) none none),
 ⟨some 37,none,.ef,.call (.v (.fn 52 [])) [(.t 36)]⟩,
 yI 38 (.lit 32 [(.t 37)]),
 yI 39 (.app 32 (.t 33) (.t 38)),
 yS 1 3 39]
def qrc12:yX:=yq qrr11 .ret
def qrc13:yX:=yq qrr10 qrc12
def qrc14:yX:=.cond (.t 25) qrc13 .skip
def qrc15:yX:=yq qrr9 qrc14
def qrr16:yW:=[
 yL 40 false 1 4,
 yM 41 0,
 yM 42 8,
 yI 43 (.slice (.sl 32) (.t 41) (some (.t 42)) none none),
 yM 44 1,
 yM 45 8,
 yB 46 .sub 44 45,
 yI 47 (.call (.t 40) [(.t 43),(.t 46),(.v (.bool false))])]
def qrr17:yW:=[
 ⟨some 48,none,.rd,.load false 1 (.t 3)⟩,
 yM 49 0,
 yM 50 8,
 yI 51 (.slice (.sl 32) (.t 49) none (some (.t 50)) none),
 ⟨some 52,none,.ef,.call (.v (.fn 52 [])) [(.t 51)]⟩,
 yI 53 (.lit 32 [(.t 52)]),
 yI 54 (.app 32 (.t 48) (.t 53)),
 yS 1 3 54]
def qrc18:yX:=yq qrr16 (.reg qrr17)
def qrc19:yX:=.seq qrc15 qrc18
def qrc20:yX:=yq qrr8 qrc19
def qrc21:yX:=.seq qrc7 qrc20
attribute [go_sem] qrr0 qrr1 qrr2 qrr8 qrr9 qrr10 qrr11 qrr16 qrr17
theorem qrok:cFn TC 102=some (55,[],qrc21):=by kernel_rfl
def qsr0:yW:=[
 yI 6 (.mv (.v .nilsl))]
def qsr1:yW:=[
 yM 8 1,
 yM 9 0,
 yI 10 (.lenSl (.t 9)),
 yB 11 .eql 8 10,
 yM 12 11,
 yV 13 12 true 2,
 yQ 14 12 13]
def qsr2:yW:=[
 yI 6 (.mv (.v .nilsl))]
def qsc3:yX:=yq qsr2 .ret
def qsc4:yX:=.cond (.t 14) qsc3 .skip
def qsc5:yX:=yq qsr1 qsc4
def qsr6:yW:=[
 yM 15 1,
 yM 16 0,
 yI 17 (.lenSl (.t 16)),
 yB 18 .eql 15 17]
def qsr7:yW:=[
 yM 19 0,
 yC 20 16 19,
 yI 21 (.lit 32 [(.t 20)]),
 yM 6 21]
def qsc8:yX:=yq qsr7 .ret
def qsc9:yX:=.cond (.t 18) qsc8 .skip
def qsc10:yX:=yq qsr6 qsc9
def qsr11:yW:=[
 yM 22 0,
 yI 23 (.lenSl (.t 22)),
 yC 24 47 23,
 yM 7 24]
def qsr12:yW:=[
 yM 25 1,
 yM 26 7,
 yB 27 .leq 25 26]
def qsr13:yW:=[
 yM 28 0,
 yM 29 7,
 yI 30 (.slice (.sl 32) (.t 28) none (some (.t 29)) none),
 yM 31 1,
 yM 32 2,
 yI 33 (.call (.v (.fn 43 [])) [(.t 30),(.t 31),(.t 32)]),
 yM 34 0,
 yM 35 7,
 yI 36 (.slice (.sl 32) (.t 34) (some (.t 35)) none none),
 yC 37 16 36,
 yI 38 (.lit 32 [(.t 37)]),
 yI 39 (.app 32 (.t 33) (.t 38)),
 yM 6 39]
def qsc14:yX:=yq qsr13 .ret
def qsc15:yX:=.cond (.t 27) qsc14 .skip
def qsc16:yX:=yq qsr12 qsc15
def qsr17:yW:=[
 yM 40 0,
 yM 41 7,
 yI 42 (.slice (.sl 32) (.t 40) (some (.t 41)) none none),
 yM 43 1,
 yM 44 7,
 yB 45 .sub 43 44,
 yI 46 (.call (.v (.fn 43 [])) [(.t 42),(.t 45),(.v (.bool false))]),
 yM 47 0,
 yM 48 7,
 yI 49 (.slice (.sl 32) (.t 47) none (some (.t 48)) none),
 yC 50 16 49,
 yI 51 (.lit 32 [(.t 50)]),
 yI 52 (.app 32 (.t 46) (.t 51)),
 yM 6 52]
def qsc18:yX:=yq qsr17 .ret
def qsc19:yX:=.seq qsc16 qsc18
def qsc20:yX:=yq qsr11 qsc19
def qsc21:yX:=.seq qsc10 qsc20
def qsc22:yX:=.seq qsc5 qsc21
def qsc23:yX:=yq qsr0 qsc22
attribute [go_sem] qsr0 qsr1 qsr2 qsr6 qsr7 qsr11 qsr12 qsr13 qsr17
theorem qsok:cFn TC 43=some (53,[.t 6],qsc23):=by kernel_rfl
def qtr0:yW:=[
 yK 2 .i64 0]
def qtr1:yW:=[
 yM 3 0,
 yI 4 (.un .not (.t 3))]
def qtr2:yW:=[
 yK 2 .i64 80]
def qtc3:yX:=yq qtr2 .ret
def qtc4:yX:=.cond (.t 4) qtc3 .skip
def qtc5:yX:=yq qtr1 qtc4
def qtr6:yW:=[
 yK 2 .i64 0]
def qtc7:yX:=yq qtr6 .ret
def qtc8:yX:=.seq qtc5 qtc7
def qtc9:yX:=yq qtr0 qtc8
attribute [go_sem] qtr0 qtr1 qtr2 qtr6
theorem qtok:cFn TC 93=some (5,[.t 2],qtc9):=by kernel_rfl
def qur0:yW:=[
 yI 1 (.alloc zZ0),
 yI 2 (.mv (.v (.bool false)))]
def qur1:yW:=[
 yL 3 false 1 0,
 yI 4 (.lenSl (.t 3)),
 yJ 5 .eql 4 .i64 0]
def qur2:yW:=[
 yL 6 true 32 1,
 yS 32 1 6,
 yI 2 (.mv (.v (.bool false)))]
def quc3:yX:=yq qur2 .ret
def quc4:yX:=.cond (.t 5) quc3 .skip
def quc5:yX:=yq qur1 quc4
def qur6:yW:=[
 ⟨some 7,none,.rd,.load false 1 (.t 0)⟩,
 yI 8 (.iaSl 32 (.t 7) (.v (.int .i64 0))),
 ⟨some 9,none,.rd,.load true 32 (.t 8)⟩,
 ⟨some 10,none,.rd2,.load false 1 (.t 0)⟩,
 yI 11 (.slice (.sl 32) (.t 10) (some (.v (.int .i64 1))) none none),
 ⟨none,none,.ef2,.store 32 (.t 1) (.t 9)⟩,
 yS 1 0 11]
def qur7:yW:=[
 yL 12 true 32 1,
 yS 32 1 12,
 yI 2 (.mv (.v (.bool true)))]
def quc8:yX:=yq qur7 .ret
def quc9:yX:=yq qur6 quc8
def quc10:yX:=.seq quc5 quc9
def quc11:yX:=yq qur0 quc10
attribute [go_sem] qur0 qur1 qur2 qur6 qur7
theorem quok:cFn TC 94=some (13,[.c 1 true 32,.t 2],quc11):=by kernel_rfl
def qvr0:yW:=[
 yI 8 (.box (.t 3)),
 yI 10 (.alloc zZ0),
 yI 11 (.alloc zZ0),
 yI 12 (.mv (.v (.bool false)))]
def qvr1:yW:=[
 yM 22 0,
 yM 23 1,
 yB 24 .eql 22 23,
 yM 25 24,
 yV 26 25 true 2,
 yQ 27 25 26]
def qvr2:yW:=[
 ⟨some 28,none,.rd,.load true 32 (.t 8)⟩,
 ⟨some 29,none,.rd2,.load true 32 (.t 8)⟩,
 yM 30 4,
 yI 31 (.lenSl (.t 30)),
 yJ 32 .eql 31 .i64 0,
 ⟨none,none,.ef2,.store 32 (.t 10) (.t 28)⟩,
 yS 32 11 29,
 yM 12 32]
def qvc3:yX:=yq qvr2 .ret
def qvc4:yX:=.cond (.t 27) qvc3 .skip
def qvc5:yX:=yq qvr1 qvc4
def qvr6:yW:=[
 yM 33 0,
 yM 34 1,
 yB 35 .eql 33 34]
def qvr7:yW:=[
 yM 36 4,
 yI 37 (.lenSl (.t 36)),
 yJ 38 .neq 37 .i64 1]
def qvr8:yW:=[
 ⟨some 39,none,.rd,.load true 32 (.t 8)⟩,
 ⟨some 40,none,.rd2,.load true 32 (.t 8)⟩,
 ⟨none,none,.ef2,.store 32 (.t 10) (.t 39)⟩,
 yS 32 11 40,
 yI 12 (.mv (.v (.bool false)))]
def qvc9:yX:=yq qvr8 .ret
def qvc10:yX:=.cond (.t 38) qvc9 .skip
def qvc11:yX:=yq qvr7 qvc10
def qvr12:yW:=[
 yM 41 4,
 yI 42 (.iaSl 32 (.t 41) (.v (.int .i64 0))),
 ⟨some 43,none,.rd,.load true 32 (.t 42)⟩,
 yM 44 4,
 yI 45 (.iaSl 32 (.t 44) (.v (.int .i64 0))),
 ⟨some 46,none,.rd2,.load true 32 (.t 45)⟩,
 ⟨none,none,.ef2,.store 32 (.t 10) (.t 43)⟩,
 yS 32 11 46,
 yI 12 (.mv (.v (.bool true)))]
def qvc13:yX:=yq qvr12 .ret
def qvc14:yX:=.seq qvc11 qvc13
def qvc15:yX:=.cond (.t 35) qvc14 .skip
def qvc16:yX:=yq qvr6 qvc15
def qvr17:yW:=[
 yM 47 4,
 yI 48 (.lenSl (.t 47)),
 yJ 49 .eql 48 .i64 0]
def qvr18:yW:=[
 ⟨some 50,none,.rd,.load true 32 (.t 8)⟩,
 ⟨some 51,none,.rd2,.load true 32 (.t 8)⟩,
 ⟨none,none,.ef2,.store 32 (.t 10) (.t 50)⟩,
 yS 32 11 51,
 yI 12 (.mv (.v (.bool false)))]
def qvc19:yX:=yq qvr18 .ret
def qvc20:yX:=.cond (.t 49) qvc19 .skip
def qvc21:yX:=yq qvr17 qvc20
def qvr22:yW:=[
 yM 52 1,
 ⟨some 53,none,.ef,.call (.v (.fn 47 [])) [(.t 52)]⟩,
 yM 54 4,
 yM 55 4,
 yI 56 (.lenSl (.t 55)),
 yJ 57 .sub 56 .i64 1,
 yI 58 (.iaSl 32 (.t 54) (.t 57)),
 ⟨some 59,none,.rd,.load true 32 (.t 58)⟩,
 ⟨some 14,none,.ef,.alloc zZ0⟩,
 yM 13 53,
 yS 32 14 59]
def qvr23:yW:=[
 yM 52 1,
 ⟨some 14,none,.ef,.alloc zZ0⟩,
 ⟨some 53,none,.ef,.call (.v (.fn 47 [])) [(.t 52)]⟩,
 yM 54 4,
 yM 55 4,
 yI 56 (.lenSl (.t 55)),
 yJ 57 .sub 56 .i64 1,
 yI 58 (.iaSl 32 (.t 54) (.t 57)),
 ⟨some 59,none,.rd,.load true 32 (.t 58)⟩,
 yM 13 53,
 yS 32 14 59]
def qvr24:yW:=[
 yM 60 4,
 yM 61 4,
 yI 62 (.lenSl (.t 61)),
 yJ 63 .sub 62 .i64 1,
 yI 64 (.slice (.sl 32) (.t 60) none (some (.t 63)) none),
 yM 15 64]
def qvr25:yW:=[
 yM 65 0,
 yM 66 13,
 yB 67 .leq 65 66]
def qvr26:yW:=[
 yM 69 0,
 yM 70 13,
 yM 71 2,
 yL 72 true 32 8,
 yM 73 15,
 yI 74 (.call (.v (.fn 100 [])) [(.t 69),(.t 70),(.t 71),(.t 72),(.t 73)]),
 yM 68 74,
 yE 75 0 68,
 yE 76 1 68,
 yE 77 2 68,
 yI 16 (.alloc zZ0),
 yI 17 (.alloc zZ0),
 yS 32 16 75,
 yS 32 17 76,
 yM 18 77]
def qvr27:yW:=[
 ⟨some 78,none,.rd,.load true 32 (.t 16)⟩,
 ⟨some 79,none,.rd,.load true 32 (.t 17)⟩,
 ⟨some 80,none,.rd,.load true 32 (.t 14)⟩,
 ⟨some 81,none,.ef,.call (.v (.fn 48 [])) [(.t 79),(.t 80)]⟩,
 yM 82 18,
 yS 32 10 78,
 yS 32 11 81,
 yM 12 82]
def qvc28:yX:=yq qvr27 .ret
def qvc29:yX:=yq qvr26 qvc28
def qvc30:yX:=.cond (.t 67) qvc29 .skip
def qvc31:yX:=yq qvr25 qvc30
def qvr32:yW:=[
 yM 84 0,
 yM 85 13,
 yB 86 .sub 84 85,
 yM 87 1,
 yM 88 13,
 yB 89 .sub 87 88,
 yL 90 true 32 8,
 yM 91 15,
 yI 92 (.call (.v (.fn 100 [])) [(.t 86),(.t 89),(.v (.bool false)),(.t 90),(.t 91)]),
 yM 83 92,
 yE 93 0 83,
 yE 94 1 83,
 yE 95 2 83,
 yI 19 (.alloc zZ0),
 yI 20 (.alloc zZ0),
 yS 32 19 93,
 yS 32 20 94,
 yM 21 95]
def qvr33:yW:=[
 ⟨some 96,none,.rd,.load true 32 (.t 14)⟩,
 ⟨some 97,none,.rd,.load true 32 (.t 19)⟩,
 ⟨some 98,none,.ef,.call (.v (.fn 48 [])) [(.t 96),(.t 97)]⟩,
 ⟨some 99,none,.rd,.load true 32 (.t 14)⟩,
 ⟨some 100,none,.rd,.load true 32 (.t 20)⟩,
 yD 101 48 99 100,
 yM 102 21,
 yS 32 10 98,
 yS 32 11 101,
 yM 12 102]
def qvc34:yX:=yq qvr33 .ret
def qvc35:yX:=yq qvr32 qvc34
def qvc36:yX:=.seq qvc31 qvc35
def qvc37:yX:=yq qvr24 qvc36
def qvc38:yX:=.seq (.reg2 qvr22 qvr23) qvc37
def qvc39:yX:=.seq qvc21 qvc38
def qvc40:yX:=.seq qvc16 qvc39
def qvc41:yX:=.seq qvc5 qvc40
def qvc42:yX:=yq qvr0 qvc41
attribute [go_sem] qvr0 qvr1 qvr2 qvr6 qvr7 qvr8 qvr12 qvr17 qvr18 qvr22 qvr23 qvr24 qvr25 qvr26 qvr27 qvr32 qvr33
theorem qvok:cFn TC 100=some (103,[.c 10 true 32,.c 11 true 32,.t 12],qvc42):=by kernel_rfl
end
section
def subF:Nat->List (List UInt8)->Nat->Bool->List (List UInt8)
 | 0,_,_,_=>[]
 |f+1,l,m,known=>
  if m=l.length then(if known then []else [z19 l])
  else if m<=zy l.length then subF f (l.take (zy l.length)) m known++ [z19 (l.drop (zy l.length))]
  else subF f (l.drop (zy l.length)) (m-zy l.length) false++ [z19 (l.take (zy l.length))]
theorem zc2:∀(f g:Nat) (l:List (List UInt8)) (m:Nat) (kn:Bool),l.length<f->l.length<g->0<m->m<=l.length->subF f l m kn=subF g l m kn
 | 0,_,_,_,_,h,_,_,_=>by omega
 | _+1,0,_,_,_,_,h,_,_=>by omega
 |f+1,g+1,l,m,kn,h,h',h0,hm=>by
  simp only [subF]
  by_cases h1:m=l.length
  ·rw [if_pos h1,if_pos h1]
  ·obtain⟨s1,s2,s3⟩:=z3m (n:=l.length) (by omega)
   rw [if_neg h1,if_neg h1]
   by_cases h2:m<=zy l.length
   ·rw [if_pos h2,if_pos h2,zc2 f g (l.take (zy l.length)) m kn (by rw [List.length_take];omega) (by rw [List.length_take];omega) h0 (by rw [List.length_take];omega)]
   ·rw [if_neg h2,if_neg h2,zc2 f g (l.drop (zy l.length)) (m-zy l.length) false (by rw [List.length_drop];omega) (by rw [List.length_drop];omega) (by omega) (by rw [List.length_drop];omega)]
def subS(l:List (List UInt8))(m:Nat)(known:Bool):List (List UInt8):=subF (l.length+1) l m known
theorem zfb(l:List (List UInt8))(kn:Bool):subS l l.length kn=if kn then []else [z19 l]:=by
 unfold subS subF;rw [if_pos rfl]
theorem zkz{l:List (List UInt8)}{m:Nat}{kn:Bool}(h0:0<m)(h1:m<l.length)(h2:m<=zy l.length):
  subS l m kn=subS (l.take (zy l.length)) m kn++ [z19 (l.drop (zy l.length))]:=by
 obtain⟨s1,s2,s3⟩:=z3m (n:=l.length) (by omega)
 unfold subS
 rw [subF,if_neg (by omega),if_pos h2]
 congr 1
 exact zc2 _ _ _ _ _ (by rw [List.length_take];omega) (Nat.lt_succ_self _) h0 (by rw [List.length_take];omega)
theorem zl0{l:List (List UInt8)}{m:Nat}{kn:Bool}(h1:m<l.length)(h2:¬m<=zy l.length):
  subS l m kn=subS (l.drop (zy l.length)) (m-zy l.length) false++ [z19 (l.take (zy l.length))]:=by
 obtain⟨s1,s2,s3⟩:=z3m (n:=l.length) (by omega)
 unfold subS
 rw [subF,if_neg (by omega),if_neg h2]
 congr 1
 exact zc2 _ _ _ _ _ (by rw [List.length_drop];omega) (Nat.lt_succ_self _) (by omega) (by rw [List.length_drop];omega)
theorem zc1:∀(f:Nat) (l:List (List UInt8)) (m:Nat) (kn:Bool),H32 l->H32 (subF f l m kn)/\ (subF f l m kn).length<=f
 | 0,_,_,_,_=>⟨by intro h hh;simp [subF]at hh,by simp [subF]⟩
 |f+1,l,m,kn,hH=>by
  simp only [subF]
  have one:∀{x:List UInt8},x.length=32->H32 [x]:=fun hx h hh=>by simp at hh;subst hh;exact hx
  have app:∀{a b:List (List UInt8)},H32 a->H32 b->H32 (a++b):=fun h1 h2 h hh=>(List.mem_append.1 hh).elim (h1 h) (h2 h)
  split
  ·split
   ·exact⟨fun h hh=>by simp at hh,by simp⟩
   ·exact⟨one (z2o hH),by simp⟩
  ·split
   ·obtain⟨i1,i2⟩:=zc1 f (l.take (zy l.length)) m kn (hH.take _)
    exact⟨app i1 (one (z2o (hH.drop _))),by simp;omega⟩
   ·obtain⟨i1,i2⟩:=zc1 f (l.drop (zy l.length)) (m-zy l.length) false (hH.drop _)
    exact⟨app i1 (one (z2o (hH.take _))),by simp;omega⟩
theorem subS_H{l:List (List UInt8)}{m:Nat}{kn:Bool}(hH:H32 l):H32 (subS l m kn):=(zc1 _ l m kn hH).1
theorem z9w{l:List (List UInt8)}{m:Nat}{kn:Bool}(hH:H32 l):(subS l m kn).length<=l.length+1:=(zc1 _ l m kn hH).2
structure PrS(O0 O':Store)(v:AV)(es:List (List AV)):Prop where
 out:O'[O0.length]? =some (some [[v]])
 fn:O'[O0.length+1]? =some (some [[.fn 102 [.ptr O0.length 0 0,.ptr (O0.length+1) 0 0]]])
 keep:∀q,q<O0.length->O'[q]? =O0[q]?
 sl:(es=[]/\ v=.nilsl) \/ ∃r,O0.length+2<=r/\ es ≠ []/\ v=.sl r 0 es.length none 32/\ O'[r]? =some (some es)
theorem PrS.lt{O0 O':Store}{v:AV}{es:List (List AV)}(h:PrS O0 O' v es):O0.length+2<=O'.length:=by
 have:=(List.getElem?_eq_some_iff.1 h.fn).1;omega
theorem PrS.add{O0 O':Store}{v:AV}{es:List (List AV)}(h:PrS O0 O' v es)(row:List AV)(hl:es.length+1<=1073741824):
  ∃r O2,aApp O' 32 v [row]=some (.sl r 0 (es.length+1) none 32,O2)/\ O2[O0.length]? =some (some [[v]])/\ PrS O0 (O2.set O0.length (some [[.sl r 0 (es.length+1) none 32]])) (.sl r 0 (es.length+1) none 32) (es++ [row]):=by
 have hlt:=h.lt
 obtain⟨h1,h2,h3,⟨rfl,rfl⟩| ⟨r,hr,h0,rfl,hg⟩⟩:=h
 ·refine⟨O'.length,O'++ [some [row]],rfl,by rw [gapp (by omega)];exact h1,⟨?_,?_,?_,.inr ⟨O'.length,by omega,by simp,by simp,?_⟩⟩⟩
  ·rw [z31 (by simp;omega)]
  ·rw [z1g (by omega),gapp (by omega)];exact h2
  ·intro q hq;rw [z1g (by omega),gapp (by omega)];exact h3 q hq
  ·rw [z1g (by omega),z22 (Nat.le_refl _),Nat.sub_self];rfl
 ·have hrl:=(List.getElem?_eq_some_iff.1 hg).1
  refine⟨O'.length,O'.set r none++ [some (es++ [row])],?_,?_,⟨?_,?_,?_,.inr ⟨O'.length,by omega,by simp,by simp,?_⟩⟩⟩
  ·rw [zap,if_neg (by simp),hg]
   simp only [List.length_cons,List.length_nil]
   rw [if_pos ⟨trivial,by omega,by omega⟩,if_neg (by omega),List.drop_zero,List.take_of_length_le (Nat.le_refl _)]
  ·rw [gapp (by simp;omega),z1g (by omega)];exact h1
  ·rw [z31 (by simp;omega)]
  ·rw [z1g (by omega),gapp (by simp;omega),z1g (by omega)];exact h2
  ·intro q hq;rw [z1g (by omega),gapp (by simp;omega),z1g (by omega)];exact h3 q hq
  ·rw [z1g (by omega),z22 (by simp),List.length_set,Nat.sub_self];rfl
theorem PrS.ex(O0:Store)(es:List (List AV)):∃v O',PrS O0 O' v es:=by
 by_cases h:es=[]
 ·exact⟨.nilsl,O0++ [some [[.nilsl]],some [[.fn 102 [.ptr O0.length 0 0,.ptr (O0.length+1) 0 0]]]],by simp,by simp,fun q hq=>gapp hq,.inl ⟨h,rfl⟩⟩
 ·exact⟨.sl (O0.length+2) 0 es.length none 32,O0++ [some [[.sl (O0.length+2) 0 es.length none 32]],some [[.fn 102 [.ptr O0.length 0 0,.ptr (O0.length+1) 0 0]]],some es],by simp,by simp,fun q hq=>gapp hq,.inr ⟨_,Nat.le_refl _,h,rfl,by simp⟩⟩
theorem zm0(O0:Store):∀(f:Nat) (hs:List (List UInt8)) (ex:Bool) (m:Nat) (kn:Bool) (O:Store) (v:AV) (es:List (List AV)),hs.length<f->H32 hs->hs.length<1000000->0<m->m<=hs.length->es.length+hs.length<10000000->PrS O0 O v es->
  ACallsP TC 102 [.vsl 32 (zx hs) ex,.int .i64 m,.bool kn,.ptr O0.length 0 0,.ptr (O0.length+1) 0 0] O (fun r O'=>r=.tup []/\ ∃v',PrS O0 O' v' (es++zx (subS hs m kn))):=by
 intro f
 induction f with
 |zero=>intro hs ex m kn O v es h;omega
 |succ f ih=>
  intro hs ex m kn O v es hf hH hl h0 hm hel hP
  have hrl:=z2f hs
  have ho:=hP.out
  have hfn:=hP.fn
  have hlt:=hP.lt
  by_cases h1:m=hs.length
  ·subst h1
   rw [zfb]
   cases kn with
   |true=>
    refine ACallsP.of_keep qrok (by simp) ?_
    repeat' (first|apply zs_|apply zb_|apply zc_|apply zt_ rfl|apply zf_ rfl|(apply zd_ rfl<;>intro ht<;>try omega)|((first|apply zr_|apply zk_|apply ze_|apply zq_|(apply zG<;>intro ht));all_goals try simp (disch:=first|omega|(simp only [lens];first|done|omega)) only [go_sem,hrl]))
    exact⟨v,by simpa [zx]using hP⟩
   |false=>
    obtain⟨r,O2,he,hg,hP2⟩:=hP.add (zj (z19 hs)) (by omega)
    have hR:=z9z O hs (.vsl 32 (zx hs) ex) (.inr ⟨ex,rfl⟩) hH (by omega)
    have hc:=zu (z19 hs)
    rw [z2o hH]at hc
    have hgo:zx (if false=true then []else [z19 hs])=[zj (z19 hs)]:=rfl
    rw [hgo]
    generalize zj (z19 hs)=row at*
    generalize zx hs=rows at*
    refine ACallsP.of_keep qrok (by simp) ?_
    repeat' (first|refine zs_ ?_|refine zb_ ?_|refine zc_ ?_|refine zt_ rfl ?_|refine zf_ rfl ?_|(refine zd_ rfl (fun ht=> ?_) (fun ht=> ?_)<;>try (exfalso;omega))|((first|refine zW.regS ?_|refine zk_ ?_|refine ze_ ?_|refine zq_ ?_|(apply callW.mk_pu;(first|exact(fun _=>hR)))|(apply callW.za;(first|exact(hR)))|(apply zG<;>intro ht));all_goals try simp (disch:=first|omega|(simp only [lens];first|done|omega)) only [go_sem,hrl,ho,he,hg,hc]))
    exact⟨_,hP2⟩
  ·obtain⟨s1,s2,s3⟩:=z3m (n:=hs.length) (by omega)
   have hsp:=fun O=>zc4 O hs.length (by omega)
   obtain⟨k,hkd⟩:∃k,zy hs.length=k:=⟨_,rfl⟩
   have tk:=zdk hs k
   have dk:=zdj hs k
   rw [hkd]at s1 s2 s3 hsp
   have hm1:¬(m:Int)=hs.length:=by omega
   by_cases h2:m<=k
   ·have e:=zkz (l:=hs) (m:=m) (kn:=kn) h0 (by omega) (by rw [hkd];exact h2)
    rw [hkd]at e
    have i1:=fun b=>ih (hs.take k) b m kn O v es (by rw [List.length_take];omega) (hH.take _) (by rw [List.length_take];omega) (by omega) (by rw [List.length_take];omega) (by rw [List.length_take];omega) hP
    have hR:=fun O b=>z9z O (hs.drop k) (.vsl 32 (zx (hs.drop k)) b) (.inr ⟨b,rfl⟩) (hH.drop _) (by rw [List.length_drop];omega)
    have hc:=zu (z19 (hs.drop k))
    rw [z2o (hH.drop _)]at hc
    have hcat:zx (subS hs m kn)=zx (subS (hs.take k) m kn)++ [zj (z19 (hs.drop k))]:=by rw [e];simp [zx]
    have hsl:=z9w (m:=m) (kn:=kn) (hH.take k)
    have hsr:=z2f (subS (hs.take k) m kn)
    rw [hcat,<-List.append_assoc]
    rw [List.length_take]at hsl
    generalize zj (z19 (hs.drop k))=row at*
    generalize zx (subS (hs.take k) m kn)=es1 at*
    generalize zx (hs.take k)=ra at*
    generalize zx (hs.drop k)=rb at*
    generalize zx hs=rows at*
    refine ACallsP.of_keep qrok (by simp) ?_
    repeat' (first|refine zs_ ?_|refine zb_ ?_|refine zc_ ?_|refine zt_ rfl ?_|refine zf_ rfl ?_|(refine zd_ rfl (fun ht=> ?_) (fun ht=> ?_)<;>try (exfalso;omega))|((first|refine zW.regS ?_|refine zk_ ?_|refine ze_ ?_|refine zq_ ?_|(apply callW.mk_pu;(first|exact(fun _=>hsp _)))|(apply callW.za;(first|exact(hsp _)))|(apply zG<;>intro ht));all_goals try simp (disch:=first|omega|(simp only [lens];first|done|omega)) only [go_sem,hrl,ho,hfn,hm1,tk,dk]))
    refine callW.mkP (i1 _) (by obtain⟨v',O',h⟩:=PrS.ex O0 (es++es1);exact⟨_,O',rfl,v',h⟩) ?_
    rintro r1 O1 ⟨rfl,v1,hP1⟩
    have ho1:=hP1.out
    obtain⟨r,O2,he,hg,hP2⟩:=hP1.add row (by rw [List.length_append];omega)
    repeat' (first|refine zs_ ?_|refine zb_ ?_|refine zc_ ?_|refine zt_ rfl ?_|refine zf_ rfl ?_|(refine zd_ rfl (fun ht=> ?_) (fun ht=> ?_)<;>try (exfalso;omega))|((first|refine zW.regS ?_|refine zk_ ?_|refine ze_ ?_|refine zq_ ?_|(apply callW.mk_pu;(first|exact(fun _=>hR _ _)))|(apply callW.za;(first|exact(hR _ _)))|(apply zG<;>intro ht));all_goals try simp (disch:=first|omega|(simp only [lens];first|done|omega)) only [go_sem,hrl,ho1,he,hg,hc,tk,dk]))
    rw [List.length_append,List.append_assoc]at hP2
    exact⟨_,hP2⟩
   ·have e:=zl0 (l:=hs) (m:=m) (kn:=kn) (by omega) (by rw [hkd];exact h2)
    rw [hkd]at e
    have hms:(m:Int)-k=((m-k:Nat):Int):=by omega
    have i1:=fun b=>ih (hs.drop k) b (m-k) false O v es (by rw [List.length_drop];omega) (hH.drop _) (by rw [List.length_drop];omega) (by omega) (by rw [List.length_drop];omega) (by rw [List.length_drop];omega) hP
    have hR:=fun O b=>z9z O (hs.take k) (.vsl 32 (zx (hs.take k)) b) (.inr ⟨b,rfl⟩) (hH.take _) (by rw [List.length_take];omega)
    have hc:=zu (z19 (hs.take k))
    rw [z2o (hH.take _)]at hc
    have hcat:zx (subS hs m kn)=zx (subS (hs.drop k) (m-k) false)++ [zj (z19 (hs.take k))]:=by rw [e];simp [zx]
    have hsl:=z9w (m:=(m-k)) (kn:=false) (hH.drop k)
    have hsr:=z2f (subS (hs.drop k) (m-k) false)
    rw [hcat,<-List.append_assoc]
    rw [List.length_drop]at hsl
    generalize zj (z19 (hs.take k))=row at*
    generalize zx (subS (hs.drop k) (m-k) false)=es1 at*
    generalize zx (hs.take k)=ra at*
    generalize zx (hs.drop k)=rb at*
    generalize zx hs=rows at*
    refine ACallsP.of_keep qrok (by simp) ?_
    repeat' (first|refine zs_ ?_|refine zb_ ?_|refine zc_ ?_|refine zt_ rfl ?_|refine zf_ rfl ?_|(refine zd_ rfl (fun ht=> ?_) (fun ht=> ?_)<;>try (exfalso;omega))|((first|refine zW.regS ?_|refine zk_ ?_|refine ze_ ?_|refine zq_ ?_|(apply callW.mk_pu;(first|exact(fun _=>hsp _)))|(apply callW.za;(first|exact(hsp _)))|(apply zG<;>intro ht));all_goals try simp (disch:=first|omega|(simp only [lens];first|done|omega)) only [go_sem,hrl,ho,hfn,hm1,tk,dk,hms]))
    refine callW.mkP (i1 _) (by obtain⟨v',O',h⟩:=PrS.ex O0 (es++es1);exact⟨_,O',rfl,v',h⟩) ?_
    rintro r1 O1 ⟨rfl,v1,hP1⟩
    have ho1:=hP1.out
    obtain⟨r,O2,he,hg,hP2⟩:=hP1.add row (by rw [List.length_append];omega)
    repeat' (first|refine zs_ ?_|refine zb_ ?_|refine zc_ ?_|refine zt_ rfl ?_|refine zf_ rfl ?_|(refine zd_ rfl (fun ht=> ?_) (fun ht=> ?_)<;>try (exfalso;omega))|((first|refine zW.regS ?_|refine zk_ ?_|refine ze_ ?_|refine zq_ ?_|(apply callW.mk_pu;(first|exact(fun _=>hR _ _)))|(apply callW.za;(first|exact(hR _ _)))|(apply zG<;>intro ht));all_goals try simp (disch:=first|omega|(simp only [lens];first|done|omega)) only [go_sem,hrl,ho1,he,hg,hc,tk,dk]))
    rw [List.length_append,List.append_assoc]at hP2
    exact⟨_,hP2⟩
theorem DownV.tup2{k:Nat}{v v2:AV}{O O2:Store}{i:IntKind}{e:Int}(h:DownV k v O v2 O2):DownV k (.tup [v,.int i e]) O (.tup [v2,.int i e]) O2:=by
 obtain⟨D,a,b,c⟩:=h
 exact⟨D,a,b,by simp only [DR,DRs];exact⟨_,rfl,_,_,rfl,c,_,_,rfl,rfl,rfl⟩⟩
theorem zd9{O O':Store}(h:O.length<=O'.length)(h2:∀q,q<O.length->O'[q]? =O[q]?):∃y,O'=O++y:=by
 refine⟨O'.drop O.length,?_⟩
 have e:O'.take O.length=O:=by
  refine List.ext_getElem? fun i=> ?_
  by_cases hi:i<O.length
  ·rw [List.getElem?_take_of_lt hi];exact h2 i hi
  ·rw [List.getElem?_eq_none (by simp;omega),List.getElem?_eq_none (by omega)]
 calc O'=O'.take O.length++O'.drop O.length:=(List.take_append_drop _ _).symm
  _=O++O'.drop O.length:=by rw [e]
theorem PrS.own{O0 O':Store}{v:AV}{es:List (List AV)}(h:PrS O0 O' v es):OwnN 32 O0 O' v es:=by
 have hlt:=h.lt
 obtain⟨y,rfl⟩:=zd9 (by omega) h.keep
 obtain⟨h1,h2,h3,h4| ⟨r,hr,h0,rfl,hg⟩⟩:=h
 ·exact⟨y,rfl,.inl h4⟩
 ·refine⟨y,rfl,.inr ⟨r-O0.length,h0,by rw [show O0.length+(r-O0.length)=r by omega],?_⟩⟩
  rw [List.getElem?_append_right (by omega)]at hg;exact hg
def z1t(hs:List (List UInt8))(m:Int):List (List UInt8):=if 0<m/\ m<hs.length then subS hs m.toNat true else []
def z35(hs:List (List UInt8))(m:Int):Int:=if m<0 \/(hs.length:Int)<m then 2 else 0
theorem zs9{hs:List (List UInt8)}{m:Int}(h:H32 hs):H32 (z1t hs m):=by
 unfold z1t
 split
 ·exact subS_H h
 ·intro x hx;simp at hx
theorem zsa{hs:List (List UInt8)}{m:Int}(h:H32 hs):(z1t hs m).length<=hs.length+1:=by
 unfold z1t
 split
 ·exact z9w h
 ·simp
def ProofP(O:Store)(hs:List (List UInt8))(m:Int)(v:AV)(O':Store):Prop:=∃v2,v=.tup [v2,.int .i64 (z35 hs m)]/\ OwnN 32 O O' v2 (zx (z1t hs m))
theorem ProofP.ex(O:Store)(hs:List (List UInt8))(m:Int):∃v O',ProofP O hs m v O':=⟨_,_,_,rfl,z6o O 32 _⟩
theorem ProofP.none{O:Store}{hs:List (List UInt8)}{m:Int}(h:z1t hs m=[]):ProofP O hs m (.tup [.nilsl,.int .i64 (z35 hs m)]) O:=⟨.nilsl,rfl,by rw [h];exact⟨[],by simp,.inl ⟨rfl,rfl⟩⟩⟩
theorem zm1(O:Store)(hs:List (List UInt8))(x:AV)(m:Int)(hx:SlV 32 (zx hs) x)(hH:H32 hs)(hl:hs.length<1000000):
  ACallsP TC 60 [x,.int .i64 m] O (ProofP O hs m):=by
 have r1:=hx.len
 rw [z2f]at r1
 unfold z1i at r1
 by_cases h1:m<0 \/(hs.length:Int)<m
 ·have e1:z35 hs m=2:=by unfold z35;rw [if_pos h1]
  have e2:z1t hs m=[]:=by unfold z1t;rw [if_neg (by omega)]
  refine ACallsTo.toP (v:=.tup [.nilsl,.int .i64 2]) (O':=O) ?_ (by have:=ProofP.none (O:=O) e2;rwa [e1]at this)
  refine ACallsTo.of_body qnok (by simp) fun hw _=> ?_
  repeat' (first|apply zs_|apply zb_|apply zc_|apply zt_ rfl|apply zf_ rfl|(apply zd_ rfl<;>intro ht<;>try omega)|((first|apply zr_|apply zk_|apply ze_|apply zq_|(apply zG<;>intro ht));all_goals try simp (disch:=first|omega|(simp only [lens];first|done|omega)) only [go_sem,r1]))
  all_goals exact DownV.same hw (z14 _ rfl)
 ·have e1:z35 hs m=0:=by unfold z35;rw [if_neg h1]
  by_cases h2:m=0 \/m=hs.length
  ·have e2:z1t hs m=[]:=by unfold z1t;rw [if_neg (by omega)]
   refine ACallsTo.toP (v:=.tup [.nilsl,.int .i64 0]) (O':=O) ?_ (by have:=ProofP.none (O:=O) e2;rwa [e1]at this)
   refine ACallsTo.of_body qnok (by simp) fun hw _=> ?_
   repeat' (first|apply zs_|apply zb_|apply zc_|apply zt_ rfl|apply zf_ rfl|(apply zd_ rfl<;>intro ht<;>try omega)|((first|apply zr_|apply zk_|apply ze_|apply zq_|(apply zG<;>intro ht));all_goals try simp (disch:=first|omega|(simp only [lens];first|done|omega)) only [go_sem,r1]))
   all_goals exact DownV.same hw (z14 _ rfl)
  ·obtain⟨n,rfl⟩:∃n:Nat,m=n:=⟨m.toNat,by omega⟩
   have e2:z1t hs n=subS hs n true:=by unfold z1t;rw [if_pos (by omega)];rfl
   obtain⟨ex,rfl⟩:=hx.vsl (by rw [z2f];omega)
   have i1:=fun O' v=>zm0 O (hs.length+1) hs ex n true O' v [] (by omega) hH hl (by omega) (by omega) (by simp;omega)
   simp only [List.nil_append]at i1
   rw [<-e2]at i1
   have hP0:PrS O (O++ [some [[.nilsl]],some [[.fn 102 [.ptr O.length 0 0,.ptr (O.length+1) 0 0]]]]) .nilsl []:=⟨by simp,by simp,fun q hq=>gapp hq,.inl ⟨rfl,rfl⟩⟩
   refine ACallsP.of_body qnok (by simp) fun hw _=> ?_
   have hrl:=z2f hs
   generalize zx hs=rows at*
   repeat' (first|apply zs_|apply zb_|apply zc_|apply zt_ rfl|apply zf_ rfl|(apply zd_ rfl<;>intro ht<;>try omega)|((first|apply zr_|apply zk_|apply ze_|apply zq_|(apply zG<;>intro ht));all_goals try simp (disch:=first|omega|(simp only [lens];first|done|omega)) only [go_sem,r1,hrl]))
   refine callW.mkP (i1 _ _ hP0) (by obtain⟨v',O',h⟩:=PrS.ex O (zx (z1t hs n));exact⟨_,O',rfl,v',h⟩) ?_
   rintro r O1 ⟨rfl,v1,hP1⟩
   have ho1:=hP1.out
   repeat' (first|apply zs_|apply zb_|apply zc_|apply zt_ rfl|apply zf_ rfl|(apply zd_ rfl<;>intro ht<;>try omega)|((first|apply zr_|apply zk_|apply ze_|apply zq_|(apply zG<;>intro ht));all_goals try simp (disch:=first|omega|(simp only [lens];first|done|omega)) only [go_sem,ho1]))
   refine⟨_,_,⟨_,rfl,z6o O 32 _⟩,?_⟩
   rw [e1]
   exact(hP1.own.own hw (z6s _)).tup2
end
section
def OwnA(sz:Nat)(τ O':Store)(v:AV)(es:List (List AV)):Prop:=OwnN sz τ O' v es \/(v=.vsl sz es true/\ es ≠ []/\ ∃news,O'=τ++news)
theorem OwnA.app{sz:Nat}{τ O':Store}{v:AV}{es ys:List (List AV)}(h:OwnA sz τ O' v es)(h0:ys.length ≠ 0)(hl:es.length+ys.length<=1073741824):
  ∃v' O'',aApp O' sz v ys=some (v',O'')/\ OwnN sz τ O'' v' (es++ys):=by
 rcases h with h| ⟨rfl,h1,news,rfl⟩
 ·exact h.app h0 hl
 ·refine⟨.sl (τ++news).length 0 (es.length+ys.length) none sz,(τ++news)++ [some (es++ys)],by rw [z8z,if_neg h0,if_pos ⟨rfl,rfl,hl⟩],news++ [some (es++ys)],by rw [List.append_assoc],.inr ⟨news.length,by simp [h1],by simp,by rw [List.getElem?_append_right (Nat.le_refl _)];simp⟩⟩
theorem OwnA.rd{sz:Nat}{τ O':Store}{v:AV}{es:List (List AV)}(h:OwnA sz τ O' v es):RdSl O' sz es v:=by
 rcases h with h| ⟨rfl,_⟩
 ·exact h.rd
 ·exact .inl (.inr ⟨true,rfl⟩)
theorem OwnA.more{sz:Nat}{τ O':Store}{v:AV}{es:List (List AV)}(h:OwnA sz τ O' v es)(y:Store):OwnA sz τ (O'++y) v es:=by
 rcases h with h| ⟨rfl,h1,news,rfl⟩
 ·exact .inl (h.more y)
 ·exact .inr ⟨rfl,h1,news++y,by rw [List.append_assoc]⟩
theorem OwnA.ext{sz:Nat}{τ O':Store}{v:AV}{es:List (List AV)}(h:OwnA sz τ O' v es):∃news,O'=τ++news:=by
 rcases h with h| ⟨_,_,h⟩
 ·exact h.ext
 ·exact h
theorem OwnA.down{sz:Nat}{O O':Store}{v:AV}{es:List (List AV)}(hw:Wf O.length O)(h:OwnA sz O O' v es)(hr:RLss O.length es):∃v2 O2,OwnA sz O O2 v2 es/\ DownV O.length v O' v2 O2:=by
 rcases h with h| ⟨rfl,h1,news,rfl⟩
 ·exact⟨_,_,.inl (z6o O sz es),h.own hw hr⟩
 ·exact⟨_,O,.inr ⟨rfl,h1,[],by simp⟩,DownV.pure hw (by simpa only [RL]using hr)⟩
def OwnQ(kn:Bool)(τ O':Store)(v:AV)(es:List (List AV)):Prop:=OwnA 32 τ O' v es/\ (kn=true->OwnN 32 τ O' v es)
theorem OwnQ.is(kn:Bool)(O:Store)(es:List (List AV)):OwnQ kn O (ownS O es) (ownV O 32 es) es:=⟨.inl (z6o O 32 es),fun _=>z6o O 32 es⟩
theorem OwnQ.down{kn:Bool}{O O':Store}{v:AV}{es:List (List AV)}(hw:Wf O.length O)(h:OwnN 32 O O' v es)(hr:RLss O.length es):∃v2 O2,OwnQ kn O O2 v2 es/\ DownV O.length v O' v2 O2:=
 ⟨_,_,OwnQ.is kn O es,h.own hw hr⟩
theorem sub_to:∀(f:Nat) (O:Store) (hs:List (List UInt8)) (ex:Bool) (m:Nat) (kn:Bool),hs.length<f->H32 hs->hs.length<1000000->0<m->m<=hs.length->
  ACallsP TC 43 [.vsl 32 (zx hs) ex,.int .i64 m,.bool kn] O (fun v O'=>OwnQ kn O O' v (zx (subS hs m kn))):=by
 intro f
 induction f with
 |zero=>intro O hs ex m kn h;omega
 |succ f ih=>
  intro O hs ex m kn hf hH hl h0 hm
  have hrl:=z2f hs
  by_cases h1:m=hs.length
  ·subst h1
   rw [zfb]
   cases kn with
   |true=>
    refine ACallsP.of_body qsok (by simp) fun hw _=> ?_
    repeat' (first|apply zs_|apply zb_|apply zc_|apply zt_ rfl|apply zf_ rfl|(apply zd_ rfl<;>intro ht<;>try omega)|((first|apply zr_|apply zk_|apply ze_|apply zq_|(apply zG<;>intro ht));all_goals try simp (disch:=first|omega|(simp only [lens];first|done|omega)) only [go_sem,hrl]))
    exact⟨.nilsl,O,⟨.inl ⟨[],by simp,.inl ⟨rfl,rfl⟩⟩,fun _=>⟨[],by simp,.inl ⟨rfl,rfl⟩⟩⟩,DownV.same hw (z14 _ rfl)⟩
   |false=>
    have hR:=fun O=>zbf O hs (.vsl 32 (zx hs) ex) (.inr ⟨ex,rfl⟩) hH (by omega)
    have hc:=zu (z19 hs)
    rw [z2o hH]at hc
    have hgo:zx (if false=true then []else [z19 hs])=[zj (z19 hs)]:=rfl
    rw [hgo]
    have hrr:=z2a (k:=O.length) (z19 hs)
    generalize zj (z19 hs)=row at*
    generalize zx hs=rows at*
    refine ACallsP.of_body qsok (by simp) fun hw _=> ?_
    repeat' (first|apply zs_|apply zb_|apply zc_|apply zt_ rfl|apply zf_ rfl|(apply zd_ rfl<;>intro ht<;>try omega)|((first|apply zr_|apply zk_|apply ze_|apply zq_|(apply callW.mk_pu;(first|exact(fun _=>hR _)))|(apply callW.za;(first|exact(hR _)))|(apply zG<;>intro ht));all_goals try simp (disch:=first|omega|(simp only [lens];first|done|omega)) only [go_sem,hrl,hc]))
    exact⟨_,O,⟨.inr ⟨rfl,by simp,[],by simp⟩,fun h=>by cases h⟩,DownV.same hw (by simp only [RL,RLss];exact⟨hrr,trivial⟩)⟩
  ·obtain⟨s1,s2,s3⟩:=z3m (n:=hs.length) (by omega)
   have hsp:=fun O=>zbg O hs.length (by omega)
   obtain⟨k,hkd⟩:∃k,zy hs.length=k:=⟨_,rfl⟩
   have tk:=zdk hs k
   have dk:=zdj hs k
   rw [hkd]at s1 s2 s3 hsp
   have hm1:¬(m:Int)=hs.length:=by omega
   have hrs:=z6s (k:=O.length) (subS hs m kn)
   by_cases h2:m<=k
   ·have e:=zkz (l:=hs) (m:=m) (kn:=kn) h0 (by omega) (by rw [hkd];exact h2)
    rw [hkd]at e
    have i1:=fun b=>ih O (hs.take k) b m kn (by rw [List.length_take];omega) (hH.take _) (by rw [List.length_take];omega) (by omega) (by rw [List.length_take];omega)
    have hR:=fun O b=>zbf O (hs.drop k) (.vsl 32 (zx (hs.drop k)) b) (.inr ⟨b,rfl⟩) (hH.drop _) (by rw [List.length_drop];omega)
    have hc:=zu (z19 (hs.drop k))
    rw [z2o (hH.drop _)]at hc
    have hcat:zx (subS hs m kn)=zx (subS (hs.take k) m kn)++ [zj (z19 (hs.drop k))]:=by rw [e];simp [zx]
    have hsl:=z9w (m:=m) (kn:=kn) (hH.take k)
    have hsr:=z2f (subS (hs.take k) m kn)
    rw [hcat]at hrs ⊢
    rw [List.length_take]at hsl
    generalize zj (z19 (hs.drop k))=row at*
    generalize zx (subS (hs.take k) m kn)=es1 at*
    generalize zx (hs.take k)=ra at*
    generalize zx (hs.drop k)=rb at*
    generalize zx hs=rows at*
    refine ACallsP.of_body qsok (by simp) fun hw _=> ?_
    repeat' (first|apply zs_|apply zb_|apply zc_|apply zt_ rfl|apply zf_ rfl|(apply zd_ rfl<;>intro ht<;>try omega)|((first|apply zr_|apply zk_|apply ze_|apply zq_|(apply callW.mk_pu;(first|exact(fun _=>hsp _)))|(apply callW.za;(first|exact(hsp _)))|(apply zG<;>intro ht));all_goals try simp (disch:=first|omega|(simp only [lens];first|done|omega)) only [go_sem,hrl,hm1,tk,dk]))
    refine callW.mkP (i1 _) ⟨_,_,OwnQ.is _ O es1⟩ ?_
    rintro v1 O1 ⟨hO1,_⟩
    obtain⟨v2,O2,he,hO2⟩:=hO1.app (ys:=[row]) (by simp) (by simp;omega)
    simp (disch:=first|omega|(simp only [lens];first|done|omega)) only [go_sem,hrl,tk,dk]
    repeat' (first|apply zs_|apply zb_|apply zc_|apply zt_ rfl|apply zf_ rfl|(apply zd_ rfl<;>intro ht<;>try omega)|((first|apply zr_|apply zk_|apply ze_|apply zq_|(apply callW.mk_pu;(first|exact(fun _=>hR _ _)))|(apply callW.za;(first|exact(hR _ _)))|(apply zG<;>intro ht));all_goals try simp (disch:=first|omega|(simp only [lens];first|done|omega)) only [go_sem,hrl,he,hc,tk,dk]))
    obtain⟨v3,O3,h3,h4⟩:=OwnQ.down hw hO2 hrs
    exact⟨v3,O3,h3,h4⟩
   ·have e:=zl0 (l:=hs) (m:=m) (kn:=kn) (by omega) (by rw [hkd];exact h2)
    rw [hkd]at e
    have hms:(m:Int)-k=((m-k:Nat):Int):=by omega
    have i1:=fun b=>ih O (hs.drop k) b (m-k) false (by rw [List.length_drop];omega) (hH.drop _) (by rw [List.length_drop];omega) (by omega) (by rw [List.length_drop];omega)
    have hR:=fun O b=>zbf O (hs.take k) (.vsl 32 (zx (hs.take k)) b) (.inr ⟨b,rfl⟩) (hH.take _) (by rw [List.length_take];omega)
    have hc:=zu (z19 (hs.take k))
    rw [z2o (hH.take _)]at hc
    have hcat:zx (subS hs m kn)=zx (subS (hs.drop k) (m-k) false)++ [zj (z19 (hs.take k))]:=by rw [e];simp [zx]
    have hsl:=z9w (m:=(m-k)) (kn:=false) (hH.drop k)
    have hsr:=z2f (subS (hs.drop k) (m-k) false)
    rw [hcat]at hrs ⊢
    rw [List.length_drop]at hsl
    generalize zj (z19 (hs.take k))=row at*
    generalize zx (subS (hs.drop k) (m-k) false)=es1 at*
    generalize zx (hs.take k)=ra at*
    generalize zx (hs.drop k)=rb at*
    generalize zx hs=rows at*
    refine ACallsP.of_body qsok (by simp) fun hw _=> ?_
    repeat' (first|apply zs_|apply zb_|apply zc_|apply zt_ rfl|apply zf_ rfl|(apply zd_ rfl<;>intro ht<;>try omega)|((first|apply zr_|apply zk_|apply ze_|apply zq_|(apply callW.mk_pu;(first|exact(fun _=>hsp _)))|(apply callW.za;(first|exact(hsp _)))|(apply zG<;>intro ht));all_goals try simp (disch:=first|omega|(simp only [lens];first|done|omega)) only [go_sem,hrl,hm1,tk,dk,hms]))
    refine callW.mkP (i1 _) ⟨_,_,OwnQ.is _ O es1⟩ ?_
    rintro v1 O1 ⟨hO1,_⟩
    obtain⟨v2,O2,he,hO2⟩:=hO1.app (ys:=[row]) (by simp) (by simp;omega)
    simp (disch:=first|omega|(simp only [lens];first|done|omega)) only [go_sem,hrl,tk,dk]
    repeat' (first|apply zs_|apply zb_|apply zc_|apply zt_ rfl|apply zf_ rfl|(apply zd_ rfl<;>intro ht<;>try omega)|((first|apply zr_|apply zk_|apply ze_|apply zq_|(apply callW.mk_pu;(first|exact(fun _=>hR _ _)))|(apply callW.za;(first|exact(hR _ _)))|(apply zG<;>intro ht));all_goals try simp (disch:=first|omega|(simp only [lens];first|done|omega)) only [go_sem,hrl,he,hc,tk,dk]))
    obtain⟨v3,O3,h3,h4⟩:=OwnQ.down hw hO2 hrs
    exact⟨v3,O3,h3,h4⟩
end
section
theorem zjp{O:Store}{hs:List (List UInt8)}{m:Int}(h:z1t hs m=[]):OwnN 32 O O .nilsl (zx (z1t hs m)):=by rw [h];exact⟨[],by simp,.inl ⟨rfl,rfl⟩⟩
def RefP(O:Store)(hs:List (List UInt8))(m:Int)(v:AV)(O':Store):Prop:=∃v2,v=.tup [v2,.int .i64 (z35 hs m)]/\ OwnA 32 O O' v2 (zx (z1t hs m))
def RefN(O:Store)(hs:List (List UInt8))(m:Int)(v:AV)(O':Store):Prop:=∃v2,v=.tup [v2,.int .i64 (z35 hs m)]/\ OwnN 32 O O' v2 (zx (z1t hs m))
theorem zjq(O:Store)(hs:List (List UInt8))(x:AV)(m:Int)(hx:SlV 32 (zx hs) x)(hH:H32 hs)(hl:hs.length<1000000):
  ACallsP TC 14 [x,.int .i64 m] O (RefN O hs m):=by
 have r1:=hx.len
 rw [z2f]at r1
 unfold z1i at r1
 by_cases h1:m<0 \/(hs.length:Int)<m
 ·have e1:z35 hs m=2:=by unfold z35;rw [if_pos h1]
  have e2:z1t hs m=[]:=by unfold z1t;rw [if_neg (by omega)]
  refine ACallsTo.toP (v:=.tup [.nilsl,.int .i64 2]) (O':=O) ?_ ⟨_,by rw [e1],zjp e2⟩
  refine ACallsTo.of_body qook (by simp) fun hw _=> ?_
  repeat' (first|apply zs_|apply zb_|apply zc_|apply zt_ rfl|apply zf_ rfl|(apply zd_ rfl<;>intro ht<;>try omega)|((first|apply zr_|apply zk_|apply ze_|apply zq_|(apply zG<;>intro ht));all_goals try simp (disch:=first|omega|(simp only [lens];first|done|omega)) only [go_sem,r1]))
  all_goals exact DownV.same hw (z14 _ rfl)
 ·have e1:z35 hs m=0:=by unfold z35;rw [if_neg h1]
  by_cases h2:m=0
  ·have e2:z1t hs m=[]:=by unfold z1t;rw [if_neg (by omega)]
   refine ACallsTo.toP (v:=.tup [.nilsl,.int .i64 0]) (O':=O) ?_ ⟨_,by rw [e1],zjp e2⟩
   refine ACallsTo.of_body qook (by simp) fun hw _=> ?_
   repeat' (first|apply zs_|apply zb_|apply zc_|apply zt_ rfl|apply zf_ rfl|(apply zd_ rfl<;>intro ht<;>try omega)|((first|apply zr_|apply zk_|apply ze_|apply zq_|(apply zG<;>intro ht));all_goals try simp (disch:=first|omega|(simp only [lens];first|done|omega)) only [go_sem,r1]))
   all_goals exact DownV.same hw (z14 _ rfl)
  ·obtain⟨n,rfl⟩:∃n:Nat,m=n:=⟨m.toNat,by omega⟩
   obtain⟨ex,rfl⟩:=hx.vsl (by rw [z2f];omega)
   have e2:z1t hs n=subS hs n true:=by
    unfold z1t
    by_cases h3:n=hs.length
    ·subst h3;rw [if_neg (by omega),zfb];rfl
    ·rw [if_pos (by omega)];rfl
   have i1:=sub_to (hs.length+1) O hs ex n true (by omega) hH hl (by omega) (by omega)
   rw [<-e2]at i1
   have hrs:=z6s (k:=O.length) (z1t hs n)
   unfold RefN
   rw [e1]
   have hrl:=z2f hs
   generalize zx hs=rows at*
   generalize zx (z1t hs n)=es at*
   refine ACallsP.of_body qook (by simp) fun hw _=> ?_
   repeat' (first|apply zs_|apply zb_|apply zc_|apply zt_ rfl|apply zf_ rfl|(apply zd_ rfl<;>intro ht<;>try omega)|((first|apply zr_|apply zk_|apply ze_|apply zq_|(apply zG<;>intro ht));all_goals try simp (disch:=first|omega|(simp only [lens];first|done|omega)) only [go_sem,r1,hrl]))
   refine callW.mkP i1 ⟨_,_,OwnQ.is _ O _⟩ ?_
   rintro v1 O1 ⟨_,hO⟩
   repeat' (first|apply zs_|apply zb_|apply zc_|apply zt_ rfl|apply zf_ rfl|(apply zd_ rfl<;>intro ht<;>try omega)|((first|apply zr_|apply zk_|apply ze_|apply zq_|(apply zG<;>intro ht));all_goals try simp (disch:=first|omega|(simp only [lens];first|done|omega)) only [go_sem]))
   exact⟨_,_,⟨_,rfl,z6o O 32 es⟩,((hO rfl).own hw hrs).tup2⟩
theorem zsp(O:Store)(hs:List (List UInt8))(x:AV)(m:Int)(hx:SlV 32 (zx hs) x)(hH:H32 hs)(hl:hs.length<1000000):
  ACallsP TC 14 [x,.int .i64 m] O (RefP O hs m):=
 ACallsP.mono (zjq O hs x m hx hH hl) fun _ _ ⟨v2,h1,h2⟩=>⟨v2,h1,.inl h2⟩
def st(i last:Nat):Nat × Nat:=if h:i%2=1 then st (i/2) (last/2)else(i,last)
termination_by i
decreasing_by omega
def lp(i last:Nat):List Bool:=
 if h:last=0 then []else if i%2=1 then true::lp (i/2) (last/2)else if i=last then lp (i/2) (last/2)else false::lp (i/2) (last/2)
termination_by last
decreasing_by all_goals omega
theorem z6x{i last:Nat}(h:i%2=1):st i last=st (i/2) (last/2):=by rw [st,dif_pos h]
theorem z4n{i last:Nat}(h:¬i%2=1):st i last=(i,last):=by rw [st,dif_neg h]
theorem z7h(i:Nat):lp i 0=[]:=by rw [lp,dif_pos rfl]
theorem z3z{i last:Nat}(h:i%2=1)(h0:last ≠ 0):lp i last=true::lp (i/2) (last/2):=by rw [lp,dif_neg h0,if_pos h]
theorem z86{i:Nat}(h:¬i%2=1):lp i i=lp (i/2) (i/2):=by
 by_cases h0:i=0
 ·subst h0;rfl
 ·rw [lp,dif_neg h0,if_neg h,if_pos rfl]
theorem z7g{i last:Nat}(h:¬i%2=1)(h0:last ≠ 0)(h1:i ≠ last):lp i last=false::lp (i/2) (last/2):=by rw [lp,dif_neg h0,if_neg h,if_neg h1]
theorem zdq:∀(f i:Nat),i<f->i ≠ 0->∃P,lp i i=true::P
 | 0,_,h,_=>by omega
 |f+1,i,h,h0=>by
  by_cases h1:i%2=1
  ·exact⟨_,z3z h1 h0⟩
  ·obtain⟨P,hP⟩:=zdq f (i/2) (by omega) (by omega)
   exact⟨P,by rw [z86 h1,hP]⟩
def run:List Bool->List (List UInt8)->List UInt8->List UInt8->Option (List UInt8 × List UInt8)
 | [],[],a,b=>some (a,b)
 |true::p,h::ps,a,b=>run p ps (z1h h a) (z1h h b)
 |false::p,h::ps,a,b=>run p ps a (z1h b h)
 | _,_,_,_=>none
def chkG(i last:Nat)(o:List UInt8)(ps:List (List UInt8)):Option (List UInt8 × List UInt8):=
 if 0<i then match ps with
  | []=>none
  |h::ps=>run (lp i last) ps h h
 else run (lp i last) ps o o
def chkS(i last:Nat)(o:List UInt8)(ps:List (List UInt8)):Option (List UInt8 × List UInt8):=chkG (st i last).1 (st i last).2 o ps
def fitI(r:Option (List UInt8 × List UInt8))(o nw:List UInt8):Int:=
 match r with
 |some (a,b)=>if a=o/\ b=nw then 0 else 80
 |none=>80
def chkI(m n:Int)(o nw:List UInt8)(ps:List (List UInt8)):Int:=
 if n<0 \/4096<n \/m<0 \/n<m then 2
 else if m=0 then(if ps=[]/\ o=z19 []/\ (0<n \/nw=o)then 0 else 80)
 else if m=n then(if ps=[]/\ o=nw then 0 else 80)
 else fitI (chkS (m.toNat-1) (n.toNat-1) o ps) o nw
def z4a:List UInt8:=List.replicate 32 0
theorem ziv(p:Nat)(O:Store)(h:List UInt8)(ps:List (List UInt8))(ex:Bool)(hh:h.length=32)(hl:ps.length<1000000)(hp:O[p]? =some (some [[.vsl 32 (zx (h::ps)) ex]])):
  ACallsTo TC 94 [.ptr p 0 0] O (.tup [.agg (zj h),.bool true]) (O.set p (some [[.vsl 32 (zx ps) ex]])++ [some [zj h]]):=by
 have hc:=zu h
 rw [hh]at hc
 have hlt:=(List.getElem?_eq_some_iff.1 hp).1
 have hr:zx (h::ps)=zj h::zx ps:=rfl
 have hrl:=z2f ps
 rw [hr]at hp
 generalize zj h=row at*
 generalize zx ps=rows at*
 refine ACallsTo.of_body_keep quok (by simp) ?_
 repeat' (first|apply zs_|apply zb_|apply zc_|apply zt_ rfl|apply zf_ rfl|(apply zd_ rfl<;>intro ht<;>try omega)|((first|apply zr_|apply zk_|apply ze_|apply zq_|(apply zG<;>intro ht));all_goals try simp (disch:=first|omega|(simp only [lens];first|done|omega)) only [go_sem,hp,hc,hrl]))
 rw [List.drop_of_length_le (by omega),List.append_nil,List.take_of_length_le (by omega)]
 exact⟨rfl,rfl⟩
theorem ziu(p:Nat)(O:Store)(x:AV)(hx:SlV 32 [] x)(hp:O[p]? =some (some [[x]])):
  ACallsTo TC 94 [.ptr p 0 0] O (.tup [.agg (zj z4a),.bool false]) (O++ [some [zj z4a]]):=by
 have hlt:=(List.getElem?_eq_some_iff.1 hp).1
 have r1:=hx.len
 unfold z1i at r1
 have hz:zj z4a=List.replicate 32 (.int .u8 0):=rfl
 rw [hz]
 refine ACallsTo.of_body_keep quok (by simp) ?_
 repeat' (first|refine zs_ ?_|refine zb_ ?_|refine zc_ ?_|refine zt_ rfl ?_|refine zf_ rfl ?_|(refine zd_ rfl (fun ht=> ?_) (fun ht=> ?_)<;>try (exfalso;omega))|((first|refine zW.regS ?_|refine zk_ ?_|refine ze_ ?_|refine zq_ ?_|(apply zG<;>intro ht));all_goals try simp (disch:=first|omega|(simp only [lens];first|done|omega)) only [go_sem,hp,r1]))
 exact⟨rfl,rfl⟩
theorem z25(O:Store)(b:Bool):ACallsTo TC 93 [.bool b] O (.int .i64 (if b then 0 else 80)) O:=by
 refine ACallsTo.of_body qtok (by simp) fun hw _=> ?_
 cases b with
 |true=>
  repeat' (first|apply zs_|apply zb_|apply zc_|apply zt_ rfl|apply zf_ rfl|(apply zd_ rfl<;>intro ht<;>try omega)|((first|apply zr_|apply zk_|apply ze_|apply zq_|(apply zG<;>intro ht));all_goals try simp (disch:=first|omega|(simp only [lens];first|done|omega)) only [go_sem]))
  exact DownV.same hw (z14 _ rfl)
 |false=>
  repeat' (first|apply zs_|apply zb_|apply zc_|apply zt_ rfl|apply zf_ rfl|(apply zd_ rfl<;>intro ht<;>try omega)|((first|apply zr_|apply zk_|apply ze_|apply zq_|(apply zG<;>intro ht));all_goals try simp (disch:=first|omega|(simp only [lens];first|done|omega)) only [go_sem]))
  exact DownV.same hw (z14 _ rfl)
end
section
structure ChkM(ia ib:Nat)(O O':Store)(o nw:List UInt8)(pv:AV)(ps:List (List UInt8))(a b:List UInt8):Prop where
 hab:(ia=3/\ ib=4) \/(ia=4/\ ib=3)
 len:O.length+5<=O'.length
 keep:∀q,q<O.length->O'[q]? =O[q]?
 g0:O'[O.length]? =some (some [zj o])
 g1:O'[O.length+1]? =some (some [zj nw])
 g2:O'[O.length+2]? =some (some [[pv]])
 g3:O'[O.length+ia]? =some (some [zj a])
 g4:O'[O.length+ib]? =some (some [zj b])
 hp:SlV 32 (zx ps) pv
 ha:a.length=32
 hb:b.length=32
theorem ChkM.app{ia ib:Nat}{O O' y:Store}{o nw:List UInt8}{pv:AV}{ps:List (List UInt8)}{a b:List UInt8}(h:ChkM ia ib O O' o nw pv ps a b):ChkM ia ib O (O'++y) o nw pv ps a b:=by
 have hl:=h.len
 have hab:=h.hab
 refine⟨hab,by rw [List.length_append];omega,fun q hq=> ?_,?_,?_,?_,?_,?_,h.hp,h.ha,h.hb⟩
 ·rw [gapp (by omega)];exact h.keep q hq
 ·rw [gapp (by omega)];exact h.g0
 ·rw [gapp (by omega)];exact h.g1
 ·rw [gapp (by omega)];exact h.g2
 ·rw [gapp (by omega)];exact h.g3
 ·rw [gapp (by omega)];exact h.g4
theorem ChkM.setp{ia ib:Nat}{O O':Store}{o nw:List UInt8}{pv:AV}{ps:List (List UInt8)}{a b:List UInt8}(h:ChkM ia ib O O' o nw pv ps a b){qv:AV}{qs:List (List UInt8)}(hq:SlV 32 (zx qs) qv):ChkM ia ib O (O'.set (O.length+2) (some [[qv]])) o nw qv qs a b:=by
 have hl:=h.len
 have hab:=h.hab
 refine⟨hab,by rw [List.length_set];omega,fun q hq=> ?_,?_,?_,?_,?_,?_,hq,h.ha,h.hb⟩
 ·rw [z1g (by omega)];exact h.keep q hq
 ·rw [z1g (by omega)];exact h.g0
 ·rw [z1g (by omega)];exact h.g1
 ·rw [z31 (by omega)]
 ·rw [z1g (by omega)];exact h.g3
 ·rw [z1g (by omega)];exact h.g4
theorem ChkM.seta{ia ib:Nat}{O O':Store}{o nw:List UInt8}{pv:AV}{ps:List (List UInt8)}{a b:List UInt8}(h:ChkM ia ib O O' o nw pv ps a b){a':List UInt8}(ha:a'.length=32):ChkM ia ib O (O'.set (O.length+ia) (some [zj a'])) o nw pv ps a' b:=by
 have hl:=h.len
 have hab:=h.hab
 refine⟨hab,by rw [List.length_set];omega,fun q hq=> ?_,?_,?_,?_,?_,?_,h.hp,ha,h.hb⟩
 ·rw [z1g (by omega)];exact h.keep q hq
 ·rw [z1g (by omega)];exact h.g0
 ·rw [z1g (by omega)];exact h.g1
 ·rw [z1g (by omega)];exact h.g2
 ·rw [z31 (by omega)]
 ·rw [z1g (by omega)];exact h.g4
theorem ChkM.setb{ia ib:Nat}{O O':Store}{o nw:List UInt8}{pv:AV}{ps:List (List UInt8)}{a b:List UInt8}(h:ChkM ia ib O O' o nw pv ps a b){b':List UInt8}(hb:b'.length=32):ChkM ia ib O (O'.set (O.length+ib) (some [zj b'])) o nw pv ps a b':=by
 have hl:=h.len
 have hab:=h.hab
 refine⟨hab,by rw [List.length_set];omega,fun q hq=> ?_,?_,?_,?_,?_,?_,h.hp,h.ha,hb⟩
 ·rw [z1g (by omega)];exact h.keep q hq
 ·rw [z1g (by omega)];exact h.g0
 ·rw [z1g (by omega)];exact h.g1
 ·rw [z1g (by omega)];exact h.g2
 ·rw [z1g (by omega)];exact h.g3
 ·rw [z31 (by omega)]
theorem ChkM.fin{ia ib:Nat}{O O':Store}{o nw:List UInt8}{pv:AV}{ps:List (List UInt8)}{a b:List UInt8}(h:ChkM ia ib O O' o nw pv ps a b)(hw:Wf O.length O){i:Int}:DownV O.length (.int .i64 i) O' (.int .i64 i) O:=by
 have hl:=h.len
 have hab:=h.hab
 obtain⟨y,rfl⟩:=zd9 (by omega) h.keep
 exact DownV.pure hw (z14 _ rfl)
theorem SlV.cells{sz:Nat}{es:List (List AV)}{x:AV}(h:SlV sz es x):cellsOf x=some [x]:=by
 rcases h with⟨rfl,rfl⟩| ⟨ex,rfl⟩<;>rfl
theorem zp6:H32 []:=fun _ h=>by simp at h
theorem z4w{O O':Store}{i:Int}(hw:Wf O.length O)(h:O<+:O'):DownV O.length (.int .i64 i) O' (.int .i64 i) O:=by
 obtain⟨y,rfl⟩:=h
 exact DownV.pure hw (z14 _ rfl)
theorem zli(O:Store)(m n:Int)(o nw:List UInt8)(x:AV)(es:List (List AV))(hx:SlV 32 es x)(h:n<0 \/4096<n \/m<0 \/n<m):
  ACallsTo TC 51 [.int .i64 m,.int .i64 n,.agg (zj o),.agg (zj nw),x] O (.int .i64 2) O:=by
 have r0:=hx.cells
 unfold cellsOf at r0
 refine ACallsTo.of_body qpok (by simp) fun hw _=> ?_
 repeat' (first|apply zs_|apply zb_|apply zc_|apply zt_ rfl|apply zf_ rfl|(apply zd_ rfl<;>intro ht<;>try omega)|((first|apply zr_|apply zk_|apply ze_|apply zq_|(apply zG<;>intro ht));all_goals try simp (disch:=first|omega|(simp only [lens];first|done|omega)) only [go_sem,r0]))
 all_goals (refine z4w hw ?_;simp)
theorem zlp(O:Store)(n:Int)(o nw:List UInt8)(x:AV)(ps:List (List UInt8))(hx:SlV 32 (zx ps) x)(ho:o.length=32)(hn:nw.length=32)(h0:0<=n)(h1:n<=4096)(hl:ps.length<1000000):
  ACallsTo TC 51 [.int .i64 0,.int .i64 n,.agg (zj o),.agg (zj nw),x] O (.int .i64 (if ps=[]/\ o=z19 []/\ (0<n \/nw=o)then 0 else 80)) O:=by
 have r0:=hx.cells
 unfold cellsOf at r0
 have r1:=hx.len
 rw [z2f]at r1
 unfold z1i at r1
 have c1:=zu o
 have c2:=zu nw
 rw [ho]at c1
 rw [hn]at c2
 have hR:∀O,ACallsTo TC 52 [.nilsl] O (.agg (zj (z19 []))) O:=fun O=>z9z O [] .nilsl (.inl ⟨rfl,rfl⟩) (fun _ h=>by simp at h) (by simp)
 have k1:=z4g ho
 have k2:=z4g hn
 have k3:=z4g (z2o (zp6))
 have e1:=z7d o (z19 [])
 have e2:=z7d nw o
 by_cases q1:ps=[]
 ·have q1':ps.length=0:=by rw [q1];rfl
  by_cases q2:o=z19 []
  ·rw [decide_eq_true q2]at e1
   by_cases q3:0<n
   ·rw [if_pos ⟨q1,q2,.inl q3⟩]
    generalize zj (z19 [])=rr at*
    generalize zj o=ro at*
    generalize zj nw=rn at*
    refine ACallsTo.of_body qpok (by simp) fun hw _=> ?_
    repeat' (first|apply zs_|apply zb_|apply zc_|apply zt_ rfl|apply zf_ rfl|(apply zd_ rfl<;>intro ht<;>try omega)|((first|apply zr_|apply zk_|apply ze_|apply zq_|(apply callW.mk_pu;(first|exact(fun _=>hR _)|exact(fun _=>z25 _ true)))|(apply callW.za;(first|exact(hR _)|exact(z25 _ true)))|(apply zG<;>intro ht));all_goals try simp (disch:=first|omega|(simp only [lens];first|done|omega)) only [go_sem,r0,r1,c1,c2,k1,k2,k3,e1,q1']))
    all_goals (refine z4w hw ?_;simp)
   ·by_cases q4:nw=o
    ·rw [decide_eq_true q4]at e2
     rw [if_pos ⟨q1,q2,.inr q4⟩]
     generalize zj (z19 [])=rr at*
     generalize zj o=ro at*
     generalize zj nw=rn at*
     refine ACallsTo.of_body qpok (by simp) fun hw _=> ?_
     repeat' (first|apply zs_|apply zb_|apply zc_|apply zt_ rfl|apply zf_ rfl|(apply zd_ rfl<;>intro ht<;>try omega)|((first|apply zr_|apply zk_|apply ze_|apply zq_|(apply callW.mk_pu;(first|exact(fun _=>hR _)|exact(fun _=>z25 _ true)))|(apply callW.za;(first|exact(hR _)|exact(z25 _ true)))|(apply zG<;>intro ht));all_goals try simp (disch:=first|omega|(simp only [lens];first|done|omega)) only [go_sem,r0,r1,c1,c2,k1,k2,k3,e1,e2,q1']))
     all_goals (refine z4w hw ?_;simp)
    ·rw [decide_eq_false q4]at e2
     rw [if_neg (fun h=>h.2.2.elim q3 q4)]
     generalize zj (z19 [])=rr at*
     generalize zj o=ro at*
     generalize zj nw=rn at*
     refine ACallsTo.of_body qpok (by simp) fun hw _=> ?_
     repeat' (first|apply zs_|apply zb_|apply zc_|apply zt_ rfl|apply zf_ rfl|(apply zd_ rfl<;>intro ht<;>try omega)|((first|apply zr_|apply zk_|apply ze_|apply zq_|(apply callW.mk_pu;(first|exact(fun _=>hR _)|exact(fun _=>z25 _ false)))|(apply callW.za;(first|exact(hR _)|exact(z25 _ false)))|(apply zG<;>intro ht));all_goals try simp (disch:=first|omega|(simp only [lens];first|done|omega)) only [go_sem,r0,r1,c1,c2,k1,k2,k3,e1,e2,q1']))
     all_goals (refine z4w hw ?_;simp)
  ·rw [decide_eq_false q2]at e1
   rw [if_neg (fun h=>q2 h.2.1)]
   generalize zj (z19 [])=rr at*
   generalize zj o=ro at*
   generalize zj nw=rn at*
   refine ACallsTo.of_body qpok (by simp) fun hw _=> ?_
   repeat' (first|apply zs_|apply zb_|apply zc_|apply zt_ rfl|apply zf_ rfl|(apply zd_ rfl<;>intro ht<;>try omega)|((first|apply zr_|apply zk_|apply ze_|apply zq_|(apply callW.mk_pu;(first|exact(fun _=>hR _)|exact(fun _=>z25 _ false)))|(apply callW.za;(first|exact(hR _)|exact(z25 _ false)))|(apply zG<;>intro ht));all_goals try simp (disch:=first|omega|(simp only [lens];first|done|omega)) only [go_sem,r0,r1,c1,c2,k1,k2,k3,e1,q1']))
   all_goals (refine z4w hw ?_;simp)
 ·have q1':¬(ps.length:Int)=0:=by intro e;exact q1 (List.eq_nil_of_length_eq_zero (by omega))
  have q1'':¬ps.length=0:=by omega
  rw [if_neg (fun h=>q1 h.1)]
  generalize zj (z19 [])=rr at*
  generalize zj o=ro at*
  generalize zj nw=rn at*
  refine ACallsTo.of_body qpok (by simp) fun hw _=> ?_
  repeat' (first|apply zs_|apply zb_|apply zc_|apply zt_ rfl|apply zf_ rfl|(apply zd_ rfl<;>intro ht<;>try omega)|((first|apply zr_|apply zk_|apply ze_|apply zq_|(apply callW.mk_pu;(first|exact(fun _=>hR _)|exact(fun _=>z25 _ false)))|(apply callW.za;(first|exact(hR _)|exact(z25 _ false)))|(apply zG<;>intro ht));all_goals try simp (disch:=first|omega|(simp only [lens];first|done|omega)) only [go_sem,r0,r1,c1,c2,q1',q1'']))
  all_goals (refine z4w hw ?_;simp)
theorem zlm(O:Store)(n:Int)(o nw:List UInt8)(x:AV)(ps:List (List UInt8))(hx:SlV 32 (zx ps) x)(ho:o.length=32)(hn:nw.length=32)(h0:0<n)(h1:n<=4096)(hl:ps.length<1000000):
  ACallsTo TC 51 [.int .i64 n,.int .i64 n,.agg (zj o),.agg (zj nw),x] O (.int .i64 (if ps=[]/\ o=nw then 0 else 80)) O:=by
 have r0:=hx.cells
 unfold cellsOf at r0
 have r1:=hx.len
 rw [z2f]at r1
 unfold z1i at r1
 have c1:=zu o
 have c2:=zu nw
 rw [ho]at c1
 rw [hn]at c2
 have k1:=z4g ho
 have k2:=z4g hn
 have e2:=z7d o nw
 by_cases q1:ps=[]
 ·have q1':ps.length=0:=by rw [q1];rfl
  by_cases q2:o=nw
  ·rw [decide_eq_true q2]at e2
   rw [if_pos ⟨q1,q2⟩]
   generalize zj o=ro at*
   generalize zj nw=rn at*
   refine ACallsTo.of_body qpok (by simp) fun hw _=> ?_
   repeat' (first|apply zs_|apply zb_|apply zc_|apply zt_ rfl|apply zf_ rfl|(apply zd_ rfl<;>intro ht<;>try omega)|((first|apply zr_|apply zk_|apply ze_|apply zq_|(apply callW.mk_pu;(first|exact(fun _=>z25 _ true)))|(apply callW.za;(first|exact(z25 _ true)))|(apply zG<;>intro ht));all_goals try simp (disch:=first|omega|(simp only [lens];first|done|omega)) only [go_sem,r0,r1,c1,c2,k1,k2,e2,q1']))
   all_goals (refine z4w hw ?_;simp)
  ·rw [decide_eq_false q2]at e2
   rw [if_neg (fun h=>q2 h.2)]
   generalize zj o=ro at*
   generalize zj nw=rn at*
   refine ACallsTo.of_body qpok (by simp) fun hw _=> ?_
   repeat' (first|apply zs_|apply zb_|apply zc_|apply zt_ rfl|apply zf_ rfl|(apply zd_ rfl<;>intro ht<;>try omega)|((first|apply zr_|apply zk_|apply ze_|apply zq_|(apply callW.mk_pu;(first|exact(fun _=>z25 _ false)))|(apply callW.za;(first|exact(z25 _ false)))|(apply zG<;>intro ht));all_goals try simp (disch:=first|omega|(simp only [lens];first|done|omega)) only [go_sem,r0,r1,c1,c2,k1,k2,e2,q1']))
   all_goals (refine z4w hw ?_;simp)
 ·have q1':¬(ps.length:Int)=0:=by intro e;exact q1 (List.eq_nil_of_length_eq_zero (by omega))
  have q1'':¬ps.length=0:=by omega
  rw [if_neg (fun h=>q1 h.1)]
  generalize zj o=ro at*
  generalize zj nw=rn at*
  refine ACallsTo.of_body qpok (by simp) fun hw _=> ?_
  repeat' (first|apply zs_|apply zb_|apply zc_|apply zt_ rfl|apply zf_ rfl|(apply zd_ rfl<;>intro ht<;>try omega)|((first|apply zr_|apply zk_|apply ze_|apply zq_|(apply callW.mk_pu;(first|exact(fun _=>z25 _ false)))|(apply callW.za;(first|exact(z25 _ false)))|(apply zG<;>intro ht));all_goals try simp (disch:=first|omega|(simp only [lens];first|done|omega)) only [go_sem,r0,r1,c1,c2,q1',q1'']))
  all_goals (refine z4w hw ?_;simp)
end
section
theorem lp_pos{i last:Nat}(h:last ≠ 0):∃t P,lp i last=t::P:=by
 by_cases h1:i%2=1
 ·exact⟨_,_,z3z h1 h⟩
 ·by_cases h2:i=last
  ·subst h2;obtain⟨P,hP⟩:=zdq (i+1) i (Nat.lt_succ_self _) h;exact⟨_,_,hP⟩
  ·exact⟨_,_,z7g h1 h h2⟩
theorem zt7{t:Bool}{P:List Bool}{a b:List UInt8}:run (t::P) [] a b=none:=by cases t<;>rfl
theorem z9f{h:List UInt8}(hh:h.length=32):(zj h).drop 32=[]:=by
 have:=zu h
 exact List.drop_of_length_le (by omega)
theorem z9g{h:List UInt8}(hh:h.length=32):(zj h).take 32=zj h:=by
 have:=zu h
 exact List.take_of_length_le (by omega)
theorem zfk(ia ib:Nat)(O:Store)(hw:Wf O.length O)(o nw:List UInt8)(ho:o.length=32)(hn:nw.length=32)(R:Option (List UInt8 × List UInt8))(J:Env)(O':Store)(i last:Nat)(pv:AV)(ps:List (List UInt8))(a b:List UInt8)
  (hM:ChkM ia ib O O' o nw pv ps a b) (hH:H32 ps) (hi:i<4096) (hl:last<4096) (hpl:ps.length<1000000) (hR:run (lp i last) ps a b=R)
  (q7:J 7=.ptr O.length 0 0) (q8:J 8=.ptr (O.length+1) 0 0) (q9:J 9=.ptr (O.length+2) 0 0) (q11:J 11=.int .i64 i) (q12:J 12=.int .i64 last)
  (q13:J 13=.fn 94 [.ptr (O.length+2) 0 0]) (q14:J 14=.ptr (O.length+ia) 0 0) (q15:J 15=.ptr (O.length+ib) 0 0):
  zW TC 152 O.length zeb (endQ O.length [.t 10] (.int .i64 (fitI R o nw)) O) J O':=by
 repeat' (first|apply zs_|apply zb_|apply zc_|apply zt_ rfl|apply zf_ rfl|(apply zd_ rfl<;>intro ht<;>try omega)|((first|apply zr_|apply zk_|apply ze_|apply zq_|(apply zG<;>intro ht));all_goals try simp (disch:=first|omega|(simp only [lens];first|done|omega)) only [go_sem]))
 refine zW.loop (fun m J O'=>∃(i last:Nat) (pv:AV) (ps:List (List UInt8)) (a b:List UInt8),m=last/\ ChkM ia ib O O' o nw pv ps a b/\ H32 ps/\ i<4096/\ last<4096/\ ps.length<1000000/\ run (lp i last) ps a b=R ∧
  J 7=.ptr O.length 0 0/\ J 8=.ptr (O.length+1) 0 0/\ J 9=.ptr (O.length+2) 0 0/\ J 11=.int .i64 i/\ J 12=.int .i64 last/\ J 13=.fn 94 [.ptr (O.length+2) 0 0]/\ J 14=.ptr (O.length+ia) 0 0/\ J 15=.ptr (O.length+ib) 0 0) last ?_ ?_
 ·exact⟨i,last,pv,ps,a,b,rfl,hM,hH,hi,hl,hpl,hR,q7,q8,q9,q11,q12,q13,q14,q15⟩
 clear hM hH hi hl hpl hR q7 q8 q9 q11 q12 q13 q14 q15 i last pv ps a b J O'
 rintro last J O' ⟨i,_,pv,ps,a,b,rfl,hM,hH,hi,hl,hpl,hR,q7,q8,q9,q11,q12,q13,q14,q15⟩
 have hlen:=hM.len
 have hab:=hM.hab
 have g0:=hM.g0
 have g1:=hM.g1
 have g2:=hM.g2
 have g3:=hM.g3
 have g4:=hM.g4
 have c0:=zu o
 have c1:=zu nw
 have ca:=zu a
 have cb:=zu b
 rw [ho]at c0
 rw [hn]at c1
 rw [hM.ha]at ca
 rw [hM.hb]at cb
 by_cases h0:last=0
 ·subst h0
  rw [z7h]at hR
  have r1:=hM.hp.len
  rw [z2f]at r1
  unfold z1i at r1
  have k0:=z4g ho
  have k1:=z4g hn
  have ka:=z4g hM.ha
  have kb:=z4g hM.hb
  have e1:=z7d a o
  have e2:=z7d b nw
  by_cases p1:ps=[]
  ·have p1':ps.length=0:=by rw [p1];rfl
   have hR':R=some (a,b):=by rw [<-hR,p1];rfl
   by_cases p2:a=o
   ·rw [decide_eq_true p2]at e1
    by_cases p3:b=nw
    ·rw [decide_eq_true p3]at e2
     have hf:fitI R o nw=0:=by rw [hR'];unfold fitI;simp only;rw [if_pos ⟨p2,p3⟩]
     rw [hf]
     repeat' (first|apply zs_|apply zb_|apply zc_|apply zt_ rfl|apply zf_ rfl|(apply zd_ rfl<;>intro ht<;>try omega)|((first|apply zr_|apply zk_|apply ze_|apply zq_|(apply callW.mk_pu;(first|exact(fun _=>z25 _ true)))|(apply callW.za;(first|exact(z25 _ true)))|(apply zG<;>intro ht));all_goals try simp (disch:=first|omega|(simp only [lens];first|done|omega)) only [go_sem,q7,q8,q9,q12,q14,q15,r1,g0,g1,g2,g3,g4,c0,c1,ca,cb,k0,k1,ka,kb,e1,e2,p1']))
     exact hM.fin hw
    ·rw [decide_eq_false p3]at e2
     have hf:fitI R o nw=80:=by rw [hR'];unfold fitI;simp only;rw [if_neg (fun h=>p3 h.2)]
     rw [hf]
     repeat' (first|apply zs_|apply zb_|apply zc_|apply zt_ rfl|apply zf_ rfl|(apply zd_ rfl<;>intro ht<;>try omega)|((first|apply zr_|apply zk_|apply ze_|apply zq_|(apply callW.mk_pu;(first|exact(fun _=>z25 _ false)))|(apply callW.za;(first|exact(z25 _ false)))|(apply zG<;>intro ht));all_goals try simp (disch:=first|omega|(simp only [lens];first|done|omega)) only [go_sem,q7,q8,q9,q12,q14,q15,r1,g0,g1,g2,g3,g4,c0,c1,ca,cb,k0,k1,ka,kb,e1,e2,p1']))
     exact hM.fin hw
   ·rw [decide_eq_false p2]at e1
    have hf:fitI R o nw=80:=by rw [hR'];unfold fitI;simp only;rw [if_neg (fun h=>p2 h.1)]
    rw [hf]
    repeat' (first|apply zs_|apply zb_|apply zc_|apply zt_ rfl|apply zf_ rfl|(apply zd_ rfl<;>intro ht<;>try omega)|((first|apply zr_|apply zk_|apply ze_|apply zq_|(apply callW.mk_pu;(first|exact(fun _=>z25 _ false)))|(apply callW.za;(first|exact(z25 _ false)))|(apply zG<;>intro ht));all_goals try simp (disch:=first|omega|(simp only [lens];first|done|omega)) only [go_sem,q7,q8,q9,q12,q14,q15,r1,g0,g1,g2,g3,g4,c0,c1,ca,cb,k0,k1,ka,kb,e1,p1']))
    exact hM.fin hw
  ·have p1':¬(ps.length:Int)=0:=by intro e;exact p1 (List.eq_nil_of_length_eq_zero (by omega))
   have p1'':¬ps.length=0:=by omega
   have hf:fitI R o nw=80:=by
    have:R=none:=by
     rw [<-hR]
     cases ps with
     |nil=>exact absurd rfl p1
     |cons _ _=>rfl
    rw [this];rfl
   rw [hf]
   repeat' (first|apply zs_|apply zb_|apply zc_|apply zt_ rfl|apply zf_ rfl|(apply zd_ rfl<;>intro ht<;>try omega)|((first|apply zr_|apply zk_|apply ze_|apply zq_|(apply callW.mk_pu;(first|exact(fun _=>z25 _ false)))|(apply callW.za;(first|exact(z25 _ false)))|(apply zG<;>intro ht));all_goals try simp (disch:=first|omega|(simp only [lens];first|done|omega)) only [go_sem,q7,q8,q9,q12,q14,q15,r1,g0,g1,g2,g3,g4,c0,c1,p1',p1'']))
   exact hM.fin hw
 ·cases ps with
  |nil=>
   have hf:fitI R o nw=80:=by
    obtain⟨t,P,e⟩:=lp_pos (i:=i) h0
    rw [e,zt7]at hR
    rw [<-hR];rfl
   rw [hf]
   have hnx:=ziu (O.length+2) O' pv hM.hp g2
   have dz:(zj z4a).drop 32=[]:=rfl
   have hl0:(0:Int)<last:=by omega
   have cz:(zj z4a).length=32:=by rw [zu];rfl
   repeat' (first|apply zs_|apply zb_|apply zc_|apply zt_ rfl|apply zf_ rfl|(apply zd_ rfl<;>intro ht<;>try omega)|((first|apply zr_|apply zk_|apply ze_|apply zq_|(apply callW.mk_pu;(first|exact(fun _=>hnx)))|(apply callW.za;(first|exact(hnx)))|(apply zG<;>intro ht));all_goals try simp (disch:=first|omega|(simp only [lens];first|done|omega)) only [go_sem,q7,q8,q9,q12,q13,q14,q15,g0,g1,g2,g3,g4,cz,dz,hl0]))
   exact(hM.app (y:=[some [zj z4a],some [zj z4a]])).fin hw
  |cons h qs=>
   have hh:h.length=32:=hH h (by simp)
   have hq:H32 qs:=fun x hx=>hH x (by simp [hx])
   obtain⟨ex,rfl⟩:=hM.hp.vsl (by rw [z2f];simp)
   simp only [List.length_cons]at hpl
   have hnx:=ziv (O.length+2) O' h qs ex hh (by omega) g2
   have ch:=zu h
   rw [hh]at ch
   have c7:=zu (z1h h a)
   have c8:=zu (z1h h b)
   have c9:=zu (z1h b h)
   rw [z3u]at c7 c8 c9
   have d0:=z9f hM.ha
   have d1:=z9f hM.hb
   have d2:=z9f hh
   have t0:=z9g hM.ha
   have t1:=z9g hM.hb
   have t2:=z9g hh
   by_cases hc:i%2=1 \/i=last
   ·have hl0:(0:Int)<last:=by omega
    obtain⟨P,hP⟩:∃P,lp i last=true::P:=by
     rcases hc with hc|rfl
     ·exact⟨_,z3z hc h0⟩
     ·exact zdq (i+1) i (Nat.lt_succ_self _) h0
    rw [hP]at hR
    rcases hc with hc|rfl
    ·have hc1:(i:Int)%2=1:=by omega
     repeat' (first|apply zs_|apply zb_|apply zc_|apply zt_ rfl|apply zf_ rfl|(apply zd_ rfl<;>intro ht<;>try omega)|((first|apply zr_|apply zk_|apply ze_|apply zq_|(apply callW.mk_pu;(first|exact(fun _=>hnx)|exact(fun _=>z1v _ h a hh hM.ha)|exact(fun _=>z1v _ h b hh hM.hb)|exact(fun _=>z1v _ b h hM.hb hh)))|(apply callW.za;(first|exact(hnx)|exact(z1v _ h a hh hM.ha)|exact(z1v _ h b hh hM.hb)|exact(z1v _ b h hM.hb hh)))|(apply zG<;>intro ht));all_goals try simp (disch:=first|omega|(simp only [lens];first|done|omega)) only [go_sem,q7,q8,q9,q11,q12,q13,q14,q15,g0,g1,g2,g3,g4,ca,cb,ch,c7,c8,c9,d0,d1,d2,t0,t1,t2,hc1,hl0]))
     have hM2:=(((hM.setp (qs:=qs) (qv:=.vsl 32 (zx qs) ex) (.inr ⟨ex,rfl⟩)).seta (z3u h a)).setb (z3u h b)).app (y:=[some [zj h],some [zj h]])
     refine zW.loop (fun m J2 O2=>∃(i2 last2:Nat),m=i2/\ ChkM ia ib O O2 o nw (.vsl 32 (zx qs) ex) qs (z1h h a) (z1h h b)/\ lp i2 last2=true::P/\ 0<i2/\ (i2%2=1 \/i2=last2)/\ i2<4096/\ last2<=last ∧
      J2 7=.ptr O.length 0 0/\ J2 8=.ptr (O.length+1) 0 0/\ J2 9=.ptr (O.length+2) 0 0/\ J2 11=.int .i64 i2/\ J2 12=.int .i64 last2/\ J2 13=.fn 94 [.ptr (O.length+2) 0 0]/\ J2 14=.ptr (O.length+ia) 0 0/\ J2 15=.ptr (O.length+ib) 0 0) i ?_ ?_
     ·exact⟨i,last,rfl,hM2,hP,by omega,.inl hc,hi,by omega,by simp (disch:=first|omega|(simp only [lens];first|done|omega)) only [go_sem,q7],by simp (disch:=first|omega|(simp only [lens];first|done|omega)) only [go_sem,q8],by simp (disch:=first|omega|(simp only [lens];first|done|omega)) only [go_sem,q9],by simp (disch:=first|omega|(simp only [lens];first|done|omega)) only [go_sem,q11],by simp (disch:=first|omega|(simp only [lens];first|done|omega)) only [go_sem,q12],by simp (disch:=first|omega|(simp only [lens];first|done|omega)) only [go_sem,q13],by simp (disch:=first|omega|(simp only [lens];first|done|omega)) only [go_sem,q14],by simp (disch:=first|omega|(simp only [lens];first|done|omega)) only [go_sem,q15]⟩
     ·clear q7 q8 q9 q11 q12 q13 q14 q15 g0 g1 g2 g3 g4
      rintro i2 J2 O2 ⟨_,last2,rfl,hM3,hlp,hp0,hor,hb2,hl2,q7,q8,q9,q11,q12,q13,q14,q15⟩
      have hln:last2 ≠ 0:=by
       intro e;rw [e,z7h]at hlp;simp at hlp
      by_cases hodd:i2%2=1
      ·have hx1:(i2:Int)%2=1:=by omega
       rw [z3z hodd hln]at hlp
       have hP2:lp (i2/2) (last2/2)=P:=by simpa using hlp
       rw [<-hP2]at hR
       repeat' (first|apply zs_|apply zb_|apply zc_|apply zt_ rfl|apply zf_ rfl|(apply zd_ rfl<;>intro ht<;>try omega)|((first|apply zr_|apply zk_|apply ze_|apply zq_|(apply zG<;>intro ht));all_goals try simp (disch:=first|omega|(simp only [lens];first|done|omega)) only [go_sem,q7,q8,q9,q11,q12,q13,q14,q15,hx1]))
       exact⟨last2/2,by omega,i2/2,last2/2,_,qs,_,_,rfl,hM3,hq,by omega,by omega,by omega,hR,by simp,by simp⟩
      ·have hx1:(i2:Int)%2=0:=by omega
       have hx2:(0:Int)<i2:=by omega
       obtain rfl:i2=last2:=hor.resolve_left hodd
       rw [z86 hodd]at hlp
       repeat' (first|apply zs_|apply zb_|apply zc_|apply zt_ rfl|apply zf_ rfl|(apply zd_ rfl<;>intro ht<;>try omega)|((first|apply zr_|apply zk_|apply ze_|apply zq_|(apply zG<;>intro ht));all_goals try simp (disch:=first|omega|(simp only [lens];first|done|omega)) only [go_sem,q7,q8,q9,q11,q12,q13,q14,q15,hx1,hx2]))
       exact⟨i2/2,by omega,i2/2,i2/2,rfl,hM3,hlp,by omega,.inr rfl,by omega,by omega,by simp,by simp⟩
    ·by_cases hc:i%2=1
     ·have hc1:(i:Int)%2=1:=by omega
      repeat' (first|apply zs_|apply zb_|apply zc_|apply zt_ rfl|apply zf_ rfl|(apply zd_ rfl<;>intro ht<;>try omega)|((first|apply zr_|apply zk_|apply ze_|apply zq_|(apply callW.mk_pu;(first|exact(fun _=>hnx)|exact(fun _=>z1v _ h a hh hM.ha)|exact(fun _=>z1v _ h b hh hM.hb)|exact(fun _=>z1v _ b h hM.hb hh)))|(apply callW.za;(first|exact(hnx)|exact(z1v _ h a hh hM.ha)|exact(z1v _ h b hh hM.hb)|exact(z1v _ b h hM.hb hh)))|(apply zG<;>intro ht));all_goals try simp (disch:=first|omega|(simp only [lens];first|done|omega)) only [go_sem,q7,q8,q9,q11,q12,q13,q14,q15,g0,g1,g2,g3,g4,ca,cb,ch,c7,c8,c9,d0,d1,d2,t0,t1,t2,hc1,hl0]))
      have hM2:=(((hM.setp (qs:=qs) (qv:=.vsl 32 (zx qs) ex) (.inr ⟨ex,rfl⟩)).seta (z3u h a)).setb (z3u h b)).app (y:=[some [zj h],some [zj h]])
      refine zW.loop (fun m J2 O2=>∃(i2 last2:Nat),m=i2/\ ChkM ia ib O O2 o nw (.vsl 32 (zx qs) ex) qs (z1h h a) (z1h h b)/\ lp i2 last2=true::P/\ 0<i2/\ (i2%2=1 \/i2=last2)/\ i2<4096/\ last2<=i ∧
       J2 7=.ptr O.length 0 0/\ J2 8=.ptr (O.length+1) 0 0/\ J2 9=.ptr (O.length+2) 0 0/\ J2 11=.int .i64 i2/\ J2 12=.int .i64 last2/\ J2 13=.fn 94 [.ptr (O.length+2) 0 0]/\ J2 14=.ptr (O.length+ia) 0 0/\ J2 15=.ptr (O.length+ib) 0 0) i ?_ ?_
      ·exact⟨i,i,rfl,hM2,hP,by omega,.inr rfl,hi,by omega,by simp (disch:=first|omega|(simp only [lens];first|done|omega)) only [go_sem,q7],by simp (disch:=first|omega|(simp only [lens];first|done|omega)) only [go_sem,q8],by simp (disch:=first|omega|(simp only [lens];first|done|omega)) only [go_sem,q9],by simp (disch:=first|omega|(simp only [lens];first|done|omega)) only [go_sem,q11],by simp (disch:=first|omega|(simp only [lens];first|done|omega)) only [go_sem,q12],by simp (disch:=first|omega|(simp only [lens];first|done|omega)) only [go_sem,q13],by simp (disch:=first|omega|(simp only [lens];first|done|omega)) only [go_sem,q14],by simp (disch:=first|omega|(simp only [lens];first|done|omega)) only [go_sem,q15]⟩
      ·clear q7 q8 q9 q11 q12 q13 q14 q15 g0 g1 g2 g3 g4
       rintro i2 J2 O2 ⟨_,last2,rfl,hM3,hlp,hp0,hor,hb2,hl2,q7,q8,q9,q11,q12,q13,q14,q15⟩
       have hln:last2 ≠ 0:=by
        intro e;rw [e,z7h]at hlp;simp at hlp
       by_cases hodd:i2%2=1
       ·have hx1:(i2:Int)%2=1:=by omega
        rw [z3z hodd hln]at hlp
        have hP2:lp (i2/2) (last2/2)=P:=by simpa using hlp
        rw [<-hP2]at hR
        repeat' (first|apply zs_|apply zb_|apply zc_|apply zt_ rfl|apply zf_ rfl|(apply zd_ rfl<;>intro ht<;>try omega)|((first|apply zr_|apply zk_|apply ze_|apply zq_|(apply zG<;>intro ht));all_goals try simp (disch:=first|omega|(simp only [lens];first|done|omega)) only [go_sem,q7,q8,q9,q11,q12,q13,q14,q15,hx1]))
        exact⟨last2/2,by omega,i2/2,last2/2,_,qs,_,_,rfl,hM3,hq,by omega,by omega,by omega,hR,by simp,by simp⟩
       ·have hx1:(i2:Int)%2=0:=by omega
        have hx2:(0:Int)<i2:=by omega
        obtain rfl:i2=last2:=hor.resolve_left hodd
        rw [z86 hodd]at hlp
        repeat' (first|apply zs_|apply zb_|apply zc_|apply zt_ rfl|apply zf_ rfl|(apply zd_ rfl<;>intro ht<;>try omega)|((first|apply zr_|apply zk_|apply ze_|apply zq_|(apply zG<;>intro ht));all_goals try simp (disch:=first|omega|(simp only [lens];first|done|omega)) only [go_sem,q7,q8,q9,q11,q12,q13,q14,q15,hx1,hx2]))
        exact⟨i2/2,by omega,i2/2,i2/2,rfl,hM3,hlp,by omega,.inr rfl,by omega,by omega,by simp,by simp⟩
     ·have hc1:(i:Int)%2=0:=by omega
      repeat' (first|apply zs_|apply zb_|apply zc_|apply zt_ rfl|apply zf_ rfl|(apply zd_ rfl<;>intro ht<;>try omega)|((first|apply zr_|apply zk_|apply ze_|apply zq_|(apply callW.mk_pu;(first|exact(fun _=>hnx)|exact(fun _=>z1v _ h a hh hM.ha)|exact(fun _=>z1v _ h b hh hM.hb)|exact(fun _=>z1v _ b h hM.hb hh)))|(apply callW.za;(first|exact(hnx)|exact(z1v _ h a hh hM.ha)|exact(z1v _ h b hh hM.hb)|exact(z1v _ b h hM.hb hh)))|(apply zG<;>intro ht));all_goals try simp (disch:=first|omega|(simp only [lens];first|done|omega)) only [go_sem,q7,q8,q9,q11,q12,q13,q14,q15,g0,g1,g2,g3,g4,ca,cb,ch,c7,c8,c9,d0,d1,d2,t0,t1,t2,hc1,hl0]))
      have hM2:=(((hM.setp (qs:=qs) (qv:=.vsl 32 (zx qs) ex) (.inr ⟨ex,rfl⟩)).seta (z3u h a)).setb (z3u h b)).app (y:=[some [zj h],some [zj h]])
      refine zW.loop (fun m J2 O2=>∃(i2 last2:Nat),m=i2/\ ChkM ia ib O O2 o nw (.vsl 32 (zx qs) ex) qs (z1h h a) (z1h h b)/\ lp i2 last2=true::P/\ 0<i2/\ (i2%2=1 \/i2=last2)/\ i2<4096/\ last2<=i ∧
       J2 7=.ptr O.length 0 0/\ J2 8=.ptr (O.length+1) 0 0/\ J2 9=.ptr (O.length+2) 0 0/\ J2 11=.int .i64 i2/\ J2 12=.int .i64 last2/\ J2 13=.fn 94 [.ptr (O.length+2) 0 0]/\ J2 14=.ptr (O.length+ia) 0 0/\ J2 15=.ptr (O.length+ib) 0 0) i ?_ ?_
      ·exact⟨i,i,rfl,hM2,hP,by omega,.inr rfl,hi,by omega,by simp (disch:=first|omega|(simp only [lens];first|done|omega)) only [go_sem,q7],by simp (disch:=first|omega|(simp only [lens];first|done|omega)) only [go_sem,q8],by simp (disch:=first|omega|(simp only [lens];first|done|omega)) only [go_sem,q9],by simp (disch:=first|omega|(simp only [lens];first|done|omega)) only [go_sem,q11],by simp (disch:=first|omega|(simp only [lens];first|done|omega)) only [go_sem,q12],by simp (disch:=first|omega|(simp only [lens];first|done|omega)) only [go_sem,q13],by simp (disch:=first|omega|(simp only [lens];first|done|omega)) only [go_sem,q14],by simp (disch:=first|omega|(simp only [lens];first|done|omega)) only [go_sem,q15]⟩
      ·clear q7 q8 q9 q11 q12 q13 q14 q15 g0 g1 g2 g3 g4
       rintro i2 J2 O2 ⟨_,last2,rfl,hM3,hlp,hp0,hor,hb2,hl2,q7,q8,q9,q11,q12,q13,q14,q15⟩
       have hln:last2 ≠ 0:=by
        intro e;rw [e,z7h]at hlp;simp at hlp
       by_cases hodd:i2%2=1
       ·have hx1:(i2:Int)%2=1:=by omega
        rw [z3z hodd hln]at hlp
        have hP2:lp (i2/2) (last2/2)=P:=by simpa using hlp
        rw [<-hP2]at hR
        repeat' (first|apply zs_|apply zb_|apply zc_|apply zt_ rfl|apply zf_ rfl|(apply zd_ rfl<;>intro ht<;>try omega)|((first|apply zr_|apply zk_|apply ze_|apply zq_|(apply zG<;>intro ht));all_goals try simp (disch:=first|omega|(simp only [lens];first|done|omega)) only [go_sem,q7,q8,q9,q11,q12,q13,q14,q15,hx1]))
        exact⟨last2/2,by omega,i2/2,last2/2,_,qs,_,_,rfl,hM3,hq,by omega,by omega,by omega,hR,by simp,by simp⟩
       ·have hx1:(i2:Int)%2=0:=by omega
        have hx2:(0:Int)<i2:=by omega
        obtain rfl:i2=last2:=hor.resolve_left hodd
        rw [z86 hodd]at hlp
        repeat' (first|apply zs_|apply zb_|apply zc_|apply zt_ rfl|apply zf_ rfl|(apply zd_ rfl<;>intro ht<;>try omega)|((first|apply zr_|apply zk_|apply ze_|apply zq_|(apply zG<;>intro ht));all_goals try simp (disch:=first|omega|(simp only [lens];first|done|omega)) only [go_sem,q7,q8,q9,q11,q12,q13,q14,q15,hx1,hx2]))
        exact⟨i2/2,by omega,i2/2,i2/2,rfl,hM3,hlp,by omega,.inr rfl,by omega,by omega,by simp,by simp⟩
   ·have hc1:(i:Int)%2=0:=by omega
    have hc2:¬(i:Int)=last:=by omega
    have hl0:(0:Int)<last:=by omega
    rw [z7g (by omega) h0 (by omega)]at hR
    repeat' (first|apply zs_|apply zb_|apply zc_|apply zt_ rfl|apply zf_ rfl|(apply zd_ rfl<;>intro ht<;>try omega)|((first|apply zr_|apply zk_|apply ze_|apply zq_|(apply callW.mk_pu;(first|exact(fun _=>hnx)|exact(fun _=>z1v _ h a hh hM.ha)|exact(fun _=>z1v _ h b hh hM.hb)|exact(fun _=>z1v _ b h hM.hb hh)))|(apply callW.za;(first|exact(hnx)|exact(z1v _ h a hh hM.ha)|exact(z1v _ h b hh hM.hb)|exact(z1v _ b h hM.hb hh)))|(apply zG<;>intro ht));all_goals try simp (disch:=first|omega|(simp only [lens];first|done|omega)) only [go_sem,q7,q8,q9,q11,q12,q13,q14,q15,g0,g1,g2,g3,g4,ca,cb,ch,c7,c8,c9,d0,d1,d2,t0,t1,t2,hc1,hc2,hl0]))
    exact⟨last/2,by omega,i/2,last/2,_,qs,a,z1h b h,rfl,((hM.setp (qs:=qs) (qv:=.vsl 32 (zx qs) ex) (.inr ⟨ex,rfl⟩)).setb (z3u b h)).app,hq,by omega,by omega,by omega,hR,by simp,by simp⟩
end
section
attribute [local irreducible] zeb
theorem zlk(O:Store)(m n:Nat)(o nw:List UInt8)(x:AV)(ps:List (List UInt8))(hx:SlV 32 (zx ps) x)(hH:H32 ps)(ho:o.length=32)(hn:nw.length=32)(h0:0<m)(h1:m<n)(h2:n<=4096)(hl:ps.length<1000000):
  ACallsTo TC 51 [.int .i64 m,.int .i64 n,.agg (zj o),.agg (zj nw),x] O (.int .i64 (fitI (chkS (m-1) (n-1) o ps) o nw)) O:=by
 have r0:=hx.cells
 unfold cellsOf at r0
 have c1:=zu o
 have c2:=zu nw
 rw [ho]at c1
 rw [hn]at c2
 have d1:=z9f ho
 have t1:=z9g ho
 obtain⟨R,hR⟩:∃R,R=chkS (m-1) (n-1) o ps:=⟨_,rfl⟩
 rw [<-hR]
 refine ACallsTo.of_body qpok (by simp) fun hw _=> ?_
 have hm1:(m:Int)-1=((m-1:Nat):Int):=by omega
 have hn1:(n:Int)-1=((n-1:Nat):Int):=by omega
 repeat' (first|apply zs_|apply zb_|apply zc_|apply zt_ rfl|apply zf_ rfl|(apply zd_ rfl<;>intro ht<;>try omega)|((first|apply zr_|apply zk_|apply ze_|apply zq_|(apply zG<;>intro ht));all_goals try simp (disch:=first|omega|(simp only [lens];first|done|omega)) only [go_sem,r0,hm1,hn1]))
 refine zW.loop (fun k J O'=>∃(i last:Nat),k=i/\ O'=O++ [some [zj o],some [zj nw],some [[x]]]/\ R=chkG (st i last).1 (st i last).2 o ps/\ i<4096/\ last<4096 ∧
  J 7=.ptr O.length 0 0/\ J 8=.ptr (O.length+1) 0 0/\ J 9=.ptr (O.length+2) 0 0/\ J 11=.int .i64 i/\ J 12=.int .i64 last) (m-1) ?_ ?_
 ·exact⟨m-1,n-1,rfl,by simp,hR,by omega,by omega,by simp (disch:=first|omega|(simp only [lens];first|done|omega)) only [go_sem],by simp (disch:=first|omega|(simp only [lens];first|done|omega)) only [go_sem],by simp (disch:=first|omega|(simp only [lens];first|done|omega)) only [go_sem],by simp (disch:=first|omega|(simp only [lens];first|done|omega)) only [go_sem],by simp (disch:=first|omega|(simp only [lens];first|done|omega)) only [go_sem]⟩
 ·clear hm1 hn1 hR h0 h1 h2
  rintro i J O' ⟨_,last,rfl,rfl,hR,hi,hla,q7,q8,q9,q11,q12⟩
  by_cases ho1:i%2=1
  ·have hx1:(i:Int)%2=1:=by omega
   rw [z6x ho1]at hR
   repeat' (first|apply zs_|apply zb_|apply zc_|apply zt_ rfl|apply zf_ rfl|(apply zd_ rfl<;>intro ht<;>try omega)|((first|apply zr_|apply zk_|apply ze_|apply zq_|(apply zG<;>intro ht));all_goals try simp (disch:=first|omega|(simp only [lens];first|done|omega)) only [go_sem,q7,q8,q9,q11,q12,hx1]))
   exact⟨i/2,by omega,i/2,last/2,rfl,hR,by omega,by omega,by simp,by simp⟩
  ·have hx1:(i:Int)%2=0:=by omega
   rw [z4n ho1]at hR
   simp only [chkG]at hR
   have hM:∀ia ib:Nat,((ia=3/\ ib=4) \/(ia=4/\ ib=3))->ChkM ia ib O (O++ [some [zj o],some [zj nw],some [[x]],some [zj o],some [zj o]]) o nw x ps o o:=fun ia ib hab=>
    ⟨hab,by simp,fun q hq=>gapp hq,by simp,by simp,by simp,by rcases hab with⟨rfl,rfl⟩| ⟨rfl,rfl⟩<;>simp,by rcases hab with⟨rfl,rfl⟩| ⟨rfl,rfl⟩<;>simp,hx,ho,ho⟩
   have key:∀(ia ib:Nat),((ia=3/\ ib=4) \/(ia=4/\ ib=3))->∀J1:Env,J1 7=.ptr O.length 0 0->J1 8=.ptr (O.length+1) 0 0->J1 9=.ptr (O.length+2) 0 0->J1 11=.int .i64 i->J1 12=.int .i64 last->
     J1 13=.fn 94 [.ptr (O.length+2) 0 0]->J1 14=.ptr (O.length+ia) 0 0->J1 15=.ptr (O.length+ib) 0 0->
     zW TC 152 O.length qpc72 (endQ O.length [.t 10] (.int .i64 (fitI R o nw)) O) J1 (O++ [some [zj o],some [zj nw],some [[x]],some [zj o],some [zj o]]):=by
    clear q7 q8 q9 q11 q12
    intro ia ib hab J1 q7 q8 q9 q11 q12 q13 q14 q15
    have hM1:=hM ia ib hab
    by_cases hi0:i=0
    ·subst hi0
     rw [if_neg (by omega)]at hR
     repeat' (first|apply zs_|apply zb_|apply zc_|apply zt_ rfl|apply zf_ rfl|(apply zd_ rfl<;>intro ht<;>try omega)|((first|apply zr_|apply zk_|apply ze_|apply zq_|(apply zG<;>intro ht));all_goals try simp (disch:=first|omega|(simp only [lens];first|done|omega)) only [go_sem,q7,q8,q9,q11,q12,c1,c2,d1,t1]))
     refine zfk ia ib O hw o nw ho hn R _ _ 0 last x ps o o hM1 hH (by omega) hla hl hR.symm ?_ ?_ ?_ ?_ ?_ ?_ ?_ ?_<;>simp (disch:=first|omega|(simp only [lens];first|done|omega)) only [go_sem,q7,q8,q9,q11,q12,q13,q14,q15]
    ·have hi1:(0:Int)<i:=by omega
     rw [if_pos (by omega)]at hR
     have g2:=hM1.g2
     have g3:=hM1.g3
     have g4:=hM1.g4
     have hlen:=hM1.len
     cases ps with
     |nil=>
      have hnx:=ziu (O.length+2) _ x hx g2
      have cz:(zj z4a).length=32:=by rw [zu];rfl
      have dz:(zj z4a).drop 32=[]:=rfl
      have hf:fitI R o nw=80:=by rw [hR];rfl
      rw [hf]
      have hM2:=hM1.app (y:=[some [zj z4a],some [zj z4a]])
      generalize (O++ [some [zj o],some [zj nw],some [[x]],some [zj o],some [zj o]])=O1 at*
      repeat' (first|apply zs_|apply zb_|apply zc_|apply zt_ rfl|apply zf_ rfl|(apply zd_ rfl<;>intro ht<;>try omega)|((first|apply zr_|apply zk_|apply ze_|apply zq_|(apply callW.mk_pu;(first|exact(fun _=>hnx)))|(apply callW.za;(first|exact(hnx)))|(apply zG<;>intro ht));all_goals try simp (disch:=first|omega|(simp only [lens];first|done|omega)) only [go_sem,q7,q8,q9,q11,q12,q13,q14,q15,c1,c2,d1,t1,hi1,cz,dz]))
      exact hM2.fin hw
     |cons h qs=>
      have hh:h.length=32:=hH h (by simp)
      have hq:H32 qs:=fun x hx=>hH x (by simp [hx])
      obtain⟨ex,rfl⟩:=hx.vsl (by rw [z2f];simp)
      simp only [List.length_cons]at hl
      have hnx:=ziv (O.length+2) _ h qs ex hh (by omega) g2
      have ch:=zu h
      rw [hh]at ch
      have d2:=z9f hh
      have t2:=z9g hh
      have hM2:=((((hM1.setp (qs:=qs) (qv:=.vsl 32 (zx qs) ex) (.inr ⟨ex,rfl⟩)).seta hh).setb hh).app (y:=[some [zj h],some [zj h]]))
      generalize (O++ [some [zj o],some [zj nw],some [[AV.vsl 32 (zx (h::qs)) ex]],some [zj o],some [zj o]])=O1 at*
      repeat' (first|apply zs_|apply zb_|apply zc_|apply zt_ rfl|apply zf_ rfl|(apply zd_ rfl<;>intro ht<;>try omega)|((first|apply zr_|apply zk_|apply ze_|apply zq_|(apply callW.mk_pu;(first|exact(fun _=>hnx)))|(apply callW.za;(first|exact(hnx)))|(apply zG<;>intro ht));all_goals try simp (disch:=first|omega|(simp only [lens];first|done|omega)) only [go_sem,q7,q8,q9,q11,q12,q13,q14,q15,g2,g3,g4,c1,c2,ch,d1,d2,t1,t2,hi1]))
      refine zfk ia ib O hw o nw ho hn R _ _ i last (.vsl 32 (zx qs) ex) qs h h hM2 hq hi hla (by omega) hR.symm ?_ ?_ ?_ ?_ ?_ ?_ ?_ ?_<;>simp (disch:=first|omega|(simp only [lens];first|done|omega)) only [go_sem,q7,q8,q9,q11,q12,q13,q14,q15]
   clear hM
   repeat' (first|apply zs_|apply zb_|apply zc_|apply zt_ rfl|apply zf_ rfl|(apply zd_ rfl<;>intro ht<;>try omega)|((first|apply zr_|apply zk_|apply ze_|apply zq_|(apply zG<;>intro ht));all_goals try simp (disch:=first|omega|(simp only [lens];first|done|omega)) only [go_sem,q7,q8,q9,q11,q12,hx1]))
   refine zW.reg2 ?_ ?_
   ·simp (disch:=first|omega|(simp only [lens];first|done|omega)) only [go_sem,q7,q8,q9,q11,q12,c1,c2,d1,t1]
    refine key 3 4 (.inl ⟨rfl,rfl⟩) _ ?_ ?_ ?_ ?_ ?_ ?_ ?_ ?_<;>simp (disch:=first|omega|(simp only [lens];first|done|omega)) only [go_sem,q7,q8,q9,q11,q12]
   ·simp (disch:=first|omega|(simp only [lens];first|done|omega)) only [go_sem,q7,q8,q9,q11,q12,c1,c2,d1,t1]
    refine key 4 3 (.inr ⟨rfl,rfl⟩) _ ?_ ?_ ?_ ?_ ?_ ?_ ?_ ?_<;>simp (disch:=first|omega|(simp only [lens];first|done|omega)) only [go_sem,q7,q8,q9,q11,q12]
theorem zln(O:Store)(m n:Int)(o nw:List UInt8)(x:AV)(ps:List (List UInt8))(hx:SlV 32 (zx ps) x)(hH:H32 ps)(ho:o.length=32)(hn:nw.length=32)(hl:ps.length<1000000):
  ACallsTo TC 51 [.int .i64 m,.int .i64 n,.agg (zj o),.agg (zj nw),x] O (.int .i64 (chkI m n o nw ps)) O:=by
 unfold chkI
 by_cases h1:n<0 \/4096<n \/m<0 \/n<m
 ·rw [if_pos h1];exact zli O m n o nw x _ hx h1
 ·rw [if_neg h1]
  by_cases h2:m=0
  ·subst h2;rw [if_pos rfl];exact zlp O n o nw x ps hx ho hn (by omega) (by omega) hl
  ·rw [if_neg h2]
   by_cases h3:m=n
   ·subst h3;rw [if_pos rfl];exact zlm O m o nw x ps hx ho hn (by omega) (by omega) hl
   ·rw [if_neg h3]
    obtain⟨m,rfl⟩:∃k:Nat,m=k:=⟨m.toNat,by omega⟩
    obtain⟨n,rfl⟩:∃k:Nat,n=k:=⟨n.toNat,by omega⟩
    exact zlk O m n o nw x ps hx hH ho hn (by omega) (by omega) (by omega) hl
theorem zll(O:Store)(m n:Int)(o nw:List UInt8)(x:AV)(ps:List (List UInt8))(hx:RdSl O 32 (zx ps) x)(hH:H32 ps)(ho:o.length=32)(hn:nw.length=32)(hl:ps.length<1000000):
  ACallsTo TC 51 [.int .i64 m,.int .i64 n,.agg (zj o),.agg (zj nw),x] O (.int .i64 (chkI m n o nw ps)) O:=by
 obtain⟨x0,h0,hd⟩:=hx.lend (z6s ps)
 have hi:∀i:Int,RL 0 (.int .i64 i):=fun i=>by simp [RL]
 have:=ACallsTo.lend glok (zln [] m n o nw x0 ps h0 hH ho hn hl) (drsc (rl0 (hi m) O) (drsc (rl0 (hi n) O) (drsc (rl0 (z2m (z2a _)) O) (drsc (rl0 (z2m (z2a _)) O) (drs1 hd)))))
 rwa [show sh O.length (.int .i64 (chkI m n o nw ps))=.int .i64 (chkI m n o nw ps)from rfl,z6v,List.append_nil]at this
end
section
theorem split2:zy 2=1:=by decide
theorem split4:zy 4=2:=by decide
theorem ProofP.is{O O':Store}{hs:List (List UInt8)}{m:Int}{v:AV}(h:ProofP O hs m v O'):∃v2,v=.tup [v2,.int .i64 (z35 hs m)]/\ OwnN 32 O O' v2 (zx (z1t hs m)):=h
end
section
theorem RefP.ex(O:Store)(hs:List (List UInt8))(m:Int):∃v O',RefP O hs m v O':=⟨_,_,_,rfl,.inl (z6o O 32 _)⟩
end
section
abbrev Hash:={l:List UInt8//l.length=32}
def hc(h:Hash):List AV:=zj h.1
def hr(l:List Hash):List (List AV):=l.map hc
def hb(l:List Hash):List (List UInt8):=l.map (·.1)
theorem hb_H(l:List Hash):H32 (hb l):=fun x hx=>by
 simp only [hb,List.mem_map]at hx
 obtain⟨h,_,rfl⟩:=hx
 exact h.2
theorem z3x(l:List Hash):(hb l).length=l.length:=by simp [hb]
theorem zpa(l:List Hash)(n:Nat):(hb l).take n=hb (l.take n):=by simp [hb,List.map_take]
theorem zp7(l:List Hash)(n:Nat):(hb l).drop n=hb (l.drop n):=by simp [hb,List.map_drop]
theorem z4f(l:List Hash):zx (hb l)=hr l:=by simp [zx,hb,hr,hc]
@[go_sem] theorem z6 (h:Hash):(hc h).length=32:=by rw [hc,zu,h.2]
@[go_sem] theorem zpb (h:Hash):(hc h).drop 32=[]:=List.drop_of_length_le (by rw [z6];decide)
@[go_sem] theorem zpd (h:Hash):(hc h).take 32=hc h:=List.take_of_length_le (by rw [z6];decide)
@[go_sem] theorem z50 (h:Hash) (l:List AV):(hc h++l).take 32=hc h:=by
 have:=z6 h
 rw [List.take_append_of_le_length (by omega),zpd]
@[go_sem] theorem z4z (h:Hash) (l:List AV):(hc h++l).drop 32=l:=by
 have:=z6 h
 rw [List.drop_append_of_le_length (by omega),zpb,List.nil_append]
@[go_sem] theorem hc_eq (a b:Hash):z27 (hc a) (hc b)=decide (a=b):=by
 rw [hc,hc,z7d,Bool.eq_iff_iff]
 simp [Subtype.ext_iff]
@[go_sem] theorem hc_kinds (h:Hash):(hc h).map z1q=(List.replicate 32 (LK.i .u8)).map some:=z4g h.2
@[go_sem] theorem z7 (l:List Hash):(hr l).length=l.length:=by simp [hr]
@[go_sem] theorem zpl (l:List Hash) (n:Nat):(hr l).take n=hr (l.take n):=by simp [hr,List.map_take]
@[go_sem] theorem hr_drop (l:List Hash) (n:Nat):(hr l).drop n=hr (l.drop n):=by simp [hr,List.map_drop]
@[go_sem] theorem hr_set (l:List Hash) (i:Nat) (h:Hash):(hr l).set i (hc h)=hr (l.set i h):=by simp [hr,List.map_set]
theorem zhx:hr []=[]:=rfl
theorem z9j(h:Hash)(l:List Hash):hr (h::l)=hc h::hr l:=rfl
theorem hr_nil_iff{l:List Hash}:hr l=[] ↔ l=[]:=by simp [hr]
def zeroH:Hash:=⟨List.replicate 32 0,by simp⟩
def hd(l:List Hash)(i:Nat):Hash:=l.getD i zeroH
@[go_sem] theorem z6h {l:List Hash} {i:Nat} (h:i<l.length):(hr l)[i]? =some (hc (hd l i)):=by
 simp [hr,hd,List.getElem?_map,List.getElem?_eq_getElem h]
theorem z9i{l:List Hash}{i:Nat}(h:i<l.length):hd l i=l[i]:=by simp [hd,h]
theorem z6r{k:Nat}(h:Hash):RLs k (hc h):=z2a _
theorem z2n{k:Nat}(l:List Hash):RLss k (hr l):=by rw [<-z4f];exact z6s _
theorem zez(k:Nat)(h:Hash):shs k (hc h)=hc h:=zey k _
def z17(a b:Hash):Hash:=⟨z1h a.1 b.1,z3u _ _⟩
def z1b(l:List Hash):Hash:=⟨z19 (hb l),z2o (hb_H l)⟩
def shaH(s:List UInt8):Hash:=⟨shaS s,zex s⟩
theorem zjv(h:Hash):z1b [h]=h:=rfl
theorem zem{l:List Hash}(h:2<=l.length):z1b l=z17 (z1b (l.take (zy l.length))) (z1b (l.drop (zy l.length))):=by
 apply Subtype.ext
 show z19 (hb l)=z1h (z19 (hb _)) (z19 (hb _))
 rw [<-zpa,<-zp7]
 have:=zbo (l:=hb l) (by rw [z3x];exact h)
 rwa [z3x]at this
theorem zl5(O:Store)(a b:Hash):ACallsTo TC 95 [.agg (hc a),.agg (hc b)] O (.agg (hc (z17 a b))) O:=z1v O a.1 b.1 a.2 b.2
theorem z9r(O:Store)(a b:Hash):ACallsTo TC 48 [.agg (hc a),.agg (hc b)] O (.agg (hc (z17 a b))) O:=zei O a.1 b.1 a.2 b.2
theorem z9y(O:Store)(l:List Hash)(x:AV)(hx:RdSl O 32 (hr l) x)(hl:l.length<1000000000):ACallsTo TC 52 [x] O (.agg (hc (z1b l))) O:=
 zv0 O (hb l) x (by rw [z4f];exact hx) (hb_H l) (by rw [z3x];exact hl)
theorem zej(O:Store)(l:List Hash)(x:AV)(hx:RdSl O 32 (hr l) x)(hl:l.length<1000000000):ACallsTo TC 16 [x] O (.agg (hc (z1b l))) O:=
 zsu O (hb l) x (by rw [z4f];exact hx) (hb_H l) (by rw [z3x];exact hl)
def unb(l:List (List UInt8)):List Hash:=l.filterMap fun x=>if h:x.length=32 then some ⟨x,h⟩else none
theorem zlc:∀{l:List (List UInt8)},H32 l->hb (unb l)=l
 | [],_=>rfl
 |x::l,h=>by
  have h1:x.length=32:=h x (by simp)
  have ih:=zlc (l:=l) fun y hy=>h y (by simp [hy])
  simp only [unb,List.filterMap_cons,dif_pos h1]
  show x::hb (unb l)=_
  rw [ih]
theorem zmj(a:Int)(j:Nat)(hj:j<63):z1a .and .i64 a ((2^j-1:Nat):Int)=some (.int .i64 (a%2^j)):=by
 have hp:0<2^j:=Nat.pow_pos (by decide)
 have hlt:2^j<2^63:=Nat.pow_lt_pow_right (by decide) hj
 have e64:(2:Nat)^64=2^j*2^(64-j):=by rw [<-Nat.pow_add];congr 1;omega
 have h:(BitVec.ofInt IntKind.i64.bits a &&& BitVec.ofInt IntKind.i64.bits ((2^j-1:Nat):Int)).toNat=(a%2^j).toNat:=by
  rw [BitVec.toNat_and,BitVec.toNat_ofInt,BitVec.toNat_ofInt]
  simp only [IntKind.bits]
  have e1:(((2^j-1:Nat):Int)%((2^64:Nat):Int)).toNat=2^j-1:=by
   rw [Int.emod_eq_of_lt (by omega) (by omega)];simp
  rw [e1,Nat.and_two_pow_sub_one_eq_mod]
  have e2:0<=a%((2^64:Nat):Int):=Int.emod_nonneg _ (by decide)
  have e3:((a%((2^64:Nat):Int)).toNat:Int)=a%((2^64:Nat):Int):=Int.toNat_of_nonneg e2
  have e4:(((a%((2^64:Nat):Int)).toNat%2^j:Nat):Int)=a%2^j:=by
   rw [Int.natCast_emod,e3,e64,Int.natCast_mul,Int.natCast_pow]
   exact Int.emod_emod_of_dvd _ ⟨_,rfl⟩
  rw [<-e4,Int.toNat_natCast]
 have n0:(2:Int)^j ≠ 0:=by
  have h0:((2^j:Nat):Int) ≠ 0:=by omega
  rwa [Int.natCast_pow]at h0
 have n1:0<=a%2^j:=Int.emod_nonneg _ n0
 have n2:a%2^j<((2^j:Nat):Int):=by
  have:=Int.emod_lt_of_pos a (b:=((2^j:Nat):Int)) (by omega)
  simpa using this
 simp only [z1a]
 rw [h,Int.toNat_of_nonneg n1,za5 ⟨by omega,by omega⟩]
end
section
def pushR:Nat->List Hash->Hash->List Hash
 | _,[],h=>[h]
 |m,x::rs,h=>if m%2=1 then pushR (m/2) rs (z17 x h)else h::x::rs
def extR:Nat->List Hash->List Hash->List Hash
 | _,rs,[]=>rs
 |n,rs,x::l=>extR (n+1) (pushR n rs x) l
def ofR(l:List Hash):List Hash:=extR 0 [] l
theorem zbx(j:Nat):zy (2^(j+1))=2^j:=by
 have:0<2^j:=Nat.pow_pos (by decide)
 exact zf4 (by rw [Nat.pow_succ];omega) (Nat.le_refl _)
def rootR:List Hash->Hash
 | []=>shaH []
 |x::rs=>rs.foldl (fun o h=>z17 h o) x
end
section

end
section
set_option maxRecDepth 10000
def qwr0:yW:=[
 yI 2 (.mv (.v .nilsl))]
def qwr1:yW:=[
 yM 3 0,
 yI 4 (.bin .eql .slc (.t 3) (.v .nilsl))]
def qwr2:yW:=[
 yI 2 (.mv (.v .nilsl))]
def qwc3:yX:=yq qwr2 .ret
def qwc4:yX:=.cond (.t 4) qwc3 .skip
def qwc5:yX:=yq qwr1 qwc4
def qwr6:yW:=[
 yI 5 (.lit 32 []),
 yM 6 0,
 yI 7 (.app 32 (.t 5) (.t 6)),
 yM 2 7]
def qwc7:yX:=yq qwr6 .ret
def qwc8:yX:=.seq qwc5 qwc7
def qwc9:yX:=yq qwr0 qwc8
attribute [go_sem] qwr0 qwr1 qwr2 qwr6
theorem qwok:cFn TC 101=some (8,[.t 2],qwc9):=by kernel_rfl
end
end Am
end Go.Proofs.YtlfpiblipmiobaaDoor
