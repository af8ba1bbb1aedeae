import Derived.Test.YtcdcmgjnbjoajaaDoorK2d363987d
import Derived.Shelf.Strings.Builder1
import Derived.Shelf.Strings.Builder2
import Derived.Shelf.Strings.BuilderF
import Derived.Shelf.Strings.Prefix
import Derived.Shelf.Bits.Mul64
import Derived.Shelf.Strings.Repeat
import Derived.Test.YtcdcmgjnbjoajaaDoorProg
set_option linter.unusedSimpArgs false
set_option linter.unusedVariables false
open Nat (reduceEqDiff reduceAdd reduceMul reduceSub reduceLeDiff)
open Int (reduceToNat reducePow)
open Nat renaming reduceEqDiff -> nQ1, reduceBEq -> nQ2, reduceAdd -> nQ3, reduceMul -> nQ4, reduceSub -> nQ5, reduceLeDiff -> nQ6
open Int renaming reduceToNat -> nQ7, reducePow -> nQ8
open List renaming length_reverse -> lQr, length_map -> lQm, length_take -> lQt, length_drop -> lQd, length_set -> lQs
set_option maxHeartbeats 16000000
attribute [local go_sem_proc] Nat.reduceEqDiff Nat.reduceBEq Nat.reduceAdd Nat.reduceMul Nat.reduceSub Nat.reduceLeDiff Int.reduceToNat Int.reducePow
section
/- Packed words: lanes of 64 bits in one number. -/
namespace Go.Proofs.YtcdcmgjnbjoajaaDoor
namespace Pk
def pkN:List Nat->Nat
 | []=>0
 |x::l=>2^64*pkN l+x
def lane(l:List Nat)(q:Nat):Nat:=l.getD q 0
theorem zjf:∀(l:List Nat) (i:Nat),(∀x ∈ l,x<2^64)->(pkN l).testBit i=(lane l (i/64)).testBit (i%64)
 | [],i,_=>by simp [pkN,lane]
 |x::l,i,h=>by
  rw [pkN,Nat.testBit_two_pow_mul_add _ (h x (by simp))]
  by_cases hi:i<64
  ·rw [if_pos hi,show i/64=0 by omega,show i%64=i by omega];rfl
  ·rw [if_neg hi,zjf l (i-64) (fun y hy=>h y (by simp [hy])),show i/64=(i-64)/64+1 by omega,show i%64=(i-64)%64 by omega]
   rfl
theorem pk_at{l:List Nat}(hl:∀x ∈ l,x<2^64)(q r:Nat)(hr:r<64):(pkN l).testBit (64*q+r)=(lane l q).testBit r:=by
 rw [zjf l _ hl,show (64*q+r)/64=q by omega,show (64*q+r)%64=r by omega]
section
variable {ι:Type} (L:List ι)
def P(f:ι->Nat):Nat:=pkN (L.map f)
theorem P_add(f g:ι->Nat):P L f+P L g=P L (fun i=>f i+g i):=by
 unfold P
 induction L with
 |nil=>rfl
 |cons x l ih=>simp only [List.map_cons,pkN]at ih ⊢;rw [<-ih];omega
theorem P_mul(f:ι->Nat)(c:Nat):P L f*c=P L (fun i=>f i*c):=by
 unfold P
 induction L with
 |nil=>simp [pkN]
 |cons x l ih=>simp only [List.map_cons,pkN]at ih ⊢;rw [<-ih,Nat.add_mul,Nat.mul_assoc]
theorem zqm(f:ι->Nat)(q:Nat):lane (L.map f) q=((L[q]?).map f).getD 0:=by
 simp [lane,List.getD_eq_getElem?_getD]
theorem z89{f:ι->Nat}(h:∀i,f i<2^64)(q r:Nat)(hr:r<64):(P L f).testBit (64*q+r)=((L[q]?).map f).any (·.testBit r):=by
 unfold P
 rw [pk_at (by simp only [List.mem_map];rintro x ⟨i,_,rfl⟩;exact h i) q r hr,zqm]
 cases L[q]? <;>simp
theorem P_ext{f:ι->Nat}(h:∀i,f i<2^64){N:Nat}(hN:∀q r,r<64->N.testBit (64*q+r)=((L[q]?).map f).any (·.testBit r)):N=P L f:=by
 apply Nat.eq_of_testBit_eq
 intro i
 have e:i=64*(i/64)+i%64:=(Nat.div_add_mod i 64).symm
 rw [e,hN _ _ (Nat.mod_lt _ (by omega)),z89 L h _ _ (Nat.mod_lt _ (by omega))]
abbrev W:=BitVec 32
def Q(f:ι->W):Nat:=P L (fun i=>(f i).toNat)
def M:Nat:=P L (fun _=>4294967295)
def one:Nat:=P L (fun _=>1)
theorem w64(x:W):x.toNat<2^64:=by have:=x.isLt;omega
theorem Q_bit{f:ι->W}(q r:Nat)(hr:r<64):(Q L f).testBit (64*q+r)=(L[q]?).any (fun i=>(f i).getLsbD r):=by
 unfold Q
 rw [z89 L (fun i=>w64 _) q r hr]
 cases L[q]? <;>simp [BitVec.getLsbD]
theorem Q_ext{f:ι->W}{N:Nat}(hN:∀q r,r<64->N.testBit (64*q+r)=(L[q]?).any (fun i=>(f i).getLsbD r)):N=Q L f:=by
 apply P_ext L (fun i=>w64 _)
 intro q r hr
 rw [hN q r hr]
 cases L[q]? <;>simp [BitVec.getLsbD]
theorem M_bit(q r:Nat)(hr:r<64):(M L).testBit (64*q+r)=(L[q]?).any (fun _=>decide (r<32)):=by
 unfold M
 rw [z89 L (fun i=>by omega) q r hr]
 cases L[q]? with
 |none=>simp
 |some x=>
  simp only [Option.map_some,Option.any_some]
  rw [show (4294967295:Nat)=2^32-1 from rfl,Nat.testBit_two_pow_sub_one]
theorem Q_xor(f g:ι->W):Q L f^^^Q L g=Q L (fun i=>f i^^^g i):=by
 apply Q_ext
 intro q r hr
 rw [Nat.testBit_xor,Q_bit L q r hr,Q_bit L q r hr]
 cases L[q]? <;>simp
theorem Q_and(f g:ι->W):Q L f &&& Q L g=Q L (fun i=>f i &&& g i):=by
 apply Q_ext
 intro q r hr
 rw [Nat.testBit_and,Q_bit L q r hr,Q_bit L q r hr]
 cases L[q]? <;>simp
theorem Q_not(f:ι->W):M L^^^Q L f=Q L (fun i=> ~~~ f i):=by
 apply Q_ext
 intro q r hr
 rw [Nat.testBit_xor,Q_bit L q r hr,M_bit L q r hr]
 cases L[q]? with
 |none=>simp
 |some x=>
  simp only [Option.any_some,BitVec.getLsbD_not]
  by_cases h:r<32
  ·simp [h]
  ·simp [h,BitVec.getLsbD_of_ge _ _ (show 32<=r by omega)]
theorem P_mask{f:ι->Nat}(h:∀i,f i<2^64):P L f &&& M L=Q L (fun i=>BitVec.ofNat 32 (f i)):=by
 apply Q_ext
 intro q r hr
 rw [Nat.testBit_and,z89 L h q r hr,M_bit L q r hr]
 cases L[q]? with
 |none=>simp
 |some x=>simp [BitVec.getLsbD_ofNat];exact Bool.and_comm _ _
def cD:Nat:=2^32+1
theorem cD_is(x:Nat):x*cD=2^32*x+x:=by rw [cD,Nat.mul_add,Nat.mul_comm,Nat.mul_one]
def dbl(x:Nat):Nat:=x*cD
theorem zo3(x:W)(r:Nat):(x.toNat*cD).testBit r=if r<32 then x.getLsbD r else x.getLsbD (r-32):=by
 rw [cD_is,Nat.testBit_two_pow_mul_add _ x.isLt]
 rfl
theorem dbl_lt(x:W):x.toNat*cD<2^64:=by have:=x.isLt;rw [cD_is];omega
theorem D_bit{f:ι->W}(q r:Nat)(hr:r<64):(dbl (Q L f)).testBit (64*q+r)=(L[q]?).any (fun i=>if r<32 then(f i).getLsbD r else(f i).getLsbD (r-32)):=by
 have e:dbl (Q L f)=P L (fun i=>(f i).toNat*cD):=by unfold dbl Q;rw [P_mul]
 rw [e,z89 L (fun i=>dbl_lt (f i)) q r hr]
 cases L[q]? with
 |none=>rfl
 |some x=>rw [Option.map_some,Option.any_some,Option.any_some,zo3]
theorem rl_bit(x:W)(r k:Nat)(h0:0<k)(hk:k<32)(h:r<32):(x.rotateLeft (32-k)).getLsbD r=if k+r<32 then x.getLsbD (k+r)else x.getLsbD (k+r-32):=by
 rw [BitVec.getLsbD_rotateLeft,Nat.mod_eq_of_lt (show 32-k<32 by omega)]
 by_cases h1:r<32-k
 ·rw [if_pos (by omega),decide_eq_true h1,cond_true,show 32-(32-k)+r=k+r by omega]
 ·rw [if_neg (by omega),decide_eq_false h1,cond_false,decide_eq_true h,Bool.true_and,show k+r-32=r-(32-k)by omega]
theorem z88{f:ι->W}(q r k:Nat)(h:r<32)(h0:0<k)(hk:k<32):(dbl (Q L f)>>>k).testBit (64*q+r)=(L[q]?).any (fun i=>((f i).rotateLeft (32-k)).getLsbD r):=by
 rw [Nat.testBit_shiftRight,show k+(64*q+r)=64*q+(k+r)by omega,D_bit L q (k+r) (by omega)]
 cases L[q]? with
 |none=>rfl
 |some x=>simp only [Option.any_some];rw [rl_bit _ _ _ h0 hk h]
theorem Q_rot3(f:ι->W)(a b c:Nat)(ha:0<a/\ a<32)(hb:0<b/\ b<32)(hc:0<c/\ c<32):
  ((dbl (Q L f)>>>a^^^dbl (Q L f)>>>b)^^^dbl (Q L f)>>>c) &&& M L=Q L (fun i=>((f i).rotateLeft (32-a)^^^(f i).rotateLeft (32-b))^^^(f i).rotateLeft (32-c)):=by
 apply Q_ext
 intro q r hr
 rw [Nat.testBit_and,M_bit L q r hr]
 by_cases h:r<32
 ·rw [Nat.testBit_xor,Nat.testBit_xor,z88 L q r a h ha.1 ha.2,z88 L q r b h hb.1 hb.2,z88 L q r c h hc.1 hc.2]
  cases L[q]? <;>simp [h]
 ·cases L[q]? with
  |none=>simp
  |some x=>simp [h,BitVec.getLsbD_of_ge _ _ (show 32<=r by omega)]
theorem Q_rot2(f:ι->W)(a b c:Nat)(ha:0<a/\ a<32)(hb:0<b/\ b<32)(hc:0<c/\ c<32):
  ((dbl (Q L f)>>>a^^^dbl (Q L f)>>>b)^^^Q L f>>>c) &&& M L=Q L (fun i=>((f i).rotateLeft (32-a)^^^(f i).rotateLeft (32-b))^^^(f i)>>>c):=by
 apply Q_ext
 intro q r hr
 rw [Nat.testBit_and,M_bit L q r hr]
 by_cases h:r<32
 ·rw [Nat.testBit_xor,Nat.testBit_xor,z88 L q r a h ha.1 ha.2,z88 L q r b h hb.1 hb.2,Nat.testBit_shiftRight,show c+(64*q+r)=64*q+(c+r)by omega,Q_bit L q (c+r) (by omega)]
  cases L[q]? <;>simp [h]
 ·cases L[q]? with
  |none=>simp
  |some x=>simp [h,BitVec.getLsbD_of_ge _ _ (show 32<=r by omega)]
end
end Pk
end Go.Proofs.YtcdcmgjnbjoajaaDoor
end
namespace Go.Proofs.YtcdcmgjnbjoajaaDoor
namespace Am
section
set_option maxRecDepth 4000
open Pk (P Q M one pkN dbl cD)
noncomputable def frc{α:Type}(n:Nat)(f:Nat->α):α:=Nat.rec (f 0) (fun k _=>f (Nat.succ k)) n
theorem zu{α:Type}(n:Nat)(f:Nat->α):frc n f=f n:=by cases n<;>rfl
structure S8 where
 a:Nat
 b:Nat
 c:Nat
 d:Nat
 e:Nat
 f:Nat
 g:Nat
 h:Nat
noncomputable def rot3(m x a b c:Nat):Nat:=frc (Nat.mul x 4294967297) fun y=>Nat.land (Nat.xor (Nat.xor (Nat.shiftRight y a) (Nat.shiftRight y b)) (Nat.shiftRight y c)) m
noncomputable def rot2(m x a b c:Nat):Nat:=frc (Nat.mul x 4294967297) fun y=>Nat.land (Nat.xor (Nat.xor (Nat.shiftRight y a) (Nat.shiftRight y b)) (Nat.shiftRight x c)) m
noncomputable def t1N(m o e f g h k w:Nat):Nat:=
 Nat.add (Nat.add (Nat.add (Nat.add h (rot3 m e 6 11 25)) (Nat.xor (Nat.land e f) (Nat.land (Nat.xor m e) g))) (Nat.mul o k)) w
noncomputable def t2N(m a b c:Nat):Nat:=Nat.add (rot3 m a 2 13 22) (Nat.xor (Nat.xor (Nat.land a b) (Nat.land a c)) (Nat.land b c))
noncomputable def nwN(m w0 w1 w9 w14:Nat):Nat:=Nat.land (Nat.add (Nat.add (Nat.add w0 w9) (rot2 m w1 7 18 3)) (rot2 m w14 17 19 10)) m
noncomputable def goN(m o:Nat)(ks:List Nat):Nat->Nat->Nat->Nat->Nat->Nat->Nat->Nat->Nat->Nat->Nat->Nat->Nat->Nat->Nat->Nat->Nat->Nat->Nat->Nat->Nat->Nat->Nat->Nat->S8:=
 List.rec (motive:=fun _=>Nat->Nat->Nat->Nat->Nat->Nat->Nat->Nat->Nat->Nat->Nat->Nat->Nat->Nat->Nat->Nat->Nat->Nat->Nat->Nat->Nat->Nat->Nat->Nat->S8)
  (fun a b c d e f g h _ _ _ _ _ _ _ _ _ _ _ _ _ _ _ _=>⟨a,b,c,d,e,f,g,h⟩)
  (fun k _ ih a b c d e f g h w0 w1 w2 w3 w4 w5 w6 w7 w8 w9 w10 w11 w12 w13 w14 w15=>
   frc (t1N m o e f g h k w0) fun t=>frc (Nat.land (Nat.add t (t2N m a b c)) m) fun a'=>frc (Nat.land (Nat.add d t) m) fun e'=>frc (nwN m w0 w1 w9 w14) fun w'=>
    ih a' a b c e' e f g w1 w2 w3 w4 w5 w6 w7 w8 w9 w10 w11 w12 w13 w14 w15 w') ks
theorem zpf(m o a b c d e f g h w0 w1 w2 w3 w4 w5 w6 w7 w8 w9 w10 w11 w12 w13 w14 w15:Nat):goN m o [] a b c d e f g h w0 w1 w2 w3 w4 w5 w6 w7 w8 w9 w10 w11 w12 w13 w14 w15=⟨a,b,c,d,e,f,g,h⟩:=rfl
theorem zpe(m o k:Nat)(ks:List Nat)(a b c d e f g h w0 w1 w2 w3 w4 w5 w6 w7 w8 w9 w10 w11 w12 w13 w14 w15:Nat):goN m o (k::ks) a b c d e f g h w0 w1 w2 w3 w4 w5 w6 w7 w8 w9 w10 w11 w12 w13 w14 w15=
  goN m o ks (Nat.land (Nat.add (t1N m o e f g h k w0) (t2N m a b c)) m) a b c (Nat.land (Nat.add d (t1N m o e f g h k w0)) m) e f g w1 w2 w3 w4 w5 w6 w7 w8 w9 w10 w11 w12 w13 w14 w15 (nwN m w0 w1 w9 w14):=by
 unfold goN
 dsimp only
 rw [zu,zu,zu,zu]
theorem zgo:(4294967297:Nat)=cD:=by decide
section
variable {ι:Type} (L:List ι)
theorem zk4(f:ι->W)(a b c:Nat)(ha:0<a/\ a<32)(hb:0<b/\ b<32)(hc:0<c/\ c<32):
  rot3 (M L) (Q L f) a b c=Q L (fun i=>((f i).rotateLeft (32-a)^^^(f i).rotateLeft (32-b))^^^(f i).rotateLeft (32-c)):=by
 unfold rot3
 rw [zu,zgo]
 exact Pk.Q_rot3 L f a b c ha hb hc
theorem zk3(f:ι->W)(a b c:Nat)(ha:0<a/\ a<32)(hb:0<b/\ b<32)(hc:0<c/\ c<32):
  rot2 (M L) (Q L f) a b c=Q L (fun i=>((f i).rotateLeft (32-a)^^^(f i).rotateLeft (32-b))^^^(f i)>>>c):=by
 unfold rot2
 rw [zu,zgo]
 exact Pk.Q_rot2 L f a b c ha hb hc
theorem t1_ok(e f g h w:ι->W)(k:W):t1N (M L) (one L) (Q L e) (Q L f) (Q L g) (Q L h) k.toNat (Q L w)=P L (fun i=>(h i).toNat+(bs1 (e i)).toNat+(chW (e i) (f i) (g i)).toNat+k.toNat+(w i).toNat):=by
 unfold t1N
 rw [zk4 L e 6 11 25 (by omega) (by omega) (by omega)]
 have h1:Nat.xor (Nat.land (Q L e) (Q L f)) (Nat.land (Nat.xor (M L) (Q L e)) (Q L g))=Q L (fun i=>chW (e i) (f i) (g i)):=by
  have a1:Nat.land (Q L e) (Q L f)=Q L (fun i=>e i &&& f i):=Pk.Q_and L e f
  have a2:Nat.xor (M L) (Q L e)=Q L (fun i=> ~~~ e i):=Pk.Q_not L e
  have a3:Nat.land (Q L (fun i=> ~~~ e i)) (Q L g)=Q L (fun i=> ~~~ e i &&& g i):=Pk.Q_and L _ g
  rw [a1,a2,a3]
  exact Pk.Q_xor L _ _
 have h2:Nat.mul (one L) k.toNat=P L (fun _=>k.toNat):=by
  have:=Pk.P_mul L (fun _=>1) k.toNat
  simpa [one]using this
 rw [h1,h2]
 have add:∀f g:ι->Nat,Nat.add (P L f) (P L g)=P L (fun i=>f i+g i):=Pk.P_add L
 unfold Q
 rw [add,add,add,add]
 rfl
theorem t2_ok(a b c:ι->W):t2N (M L) (Q L a) (Q L b) (Q L c)=P L (fun i=>(bs0 (a i)).toNat+(majW (a i) (b i) (c i)).toNat):=by
 unfold t2N
 rw [zk4 L a 2 13 22 (by omega) (by omega) (by omega)]
 have h1:Nat.xor (Nat.xor (Nat.land (Q L a) (Q L b)) (Nat.land (Q L a) (Q L c))) (Nat.land (Q L b) (Q L c))=Q L (fun i=>majW (a i) (b i) (c i)):=by
  have a1:∀f g:ι->W,Nat.land (Q L f) (Q L g)=Q L (fun i=>f i &&& g i):=Pk.Q_and L
  have a2:∀f g:ι->W,Nat.xor (Q L f) (Q L g)=Q L (fun i=>f i^^^g i):=Pk.Q_xor L
  rw [a1,a1,a1,a2,a2]
  rfl
 rw [h1]
 have add:∀f g:ι->Nat,Nat.add (P L f) (P L g)=P L (fun i=>f i+g i):=Pk.P_add L
 unfold Q
 rw [add]
 rfl
theorem z6x{f:ι->Nat}(g:ι->W)(h:∀i,f i<2^64)(hg:∀i,BitVec.ofNat 32 (f i)=g i):Nat.land (P L f) (M L)=Q L g:=by
 have:=Pk.P_mask L h
 rw [show (fun i=>BitVec.ofNat 32 (f i))=g from funext hg]at this
 exact this
theorem nw_ok(w0 w1 w9 w14:ι->W):nwN (M L) (Q L w0) (Q L w1) (Q L w9) (Q L w14)=Q L (fun i=>w0 i+w9 i+ss0 (w1 i)+ss1 (w14 i)):=by
 unfold nwN
 rw [zk3 L w1 7 18 3 (by omega) (by omega) (by omega),zk3 L w14 17 19 10 (by omega) (by omega) (by omega)]
 have add:∀f g:ι->Nat,Nat.add (P L f) (P L g)=P L (fun i=>f i+g i):=Pk.P_add L
 have e:Nat.add (Nat.add (Nat.add (Q L w0) (Q L w9)) (Q L (fun i=>ss0 (w1 i)))) (Q L (fun i=>ss1 (w14 i)))=P L (fun i=>(w0 i).toNat+(w9 i).toNat+(ss0 (w1 i)).toNat+(ss1 (w14 i)).toNat):=by
  unfold Q
  rw [add,add,add]
 show Nat.land (Nat.add (Nat.add (Nat.add (Q L w0) (Q L w9)) (Q L (fun i=>ss0 (w1 i)))) (Q L (fun i=>ss1 (w14 i)))) (M L)=_
 rw [e]
 refine z6x L _ (fun i=> ?_) fun i=> ?_
 ·have:=(w0 i).isLt;have:=(w9 i).isLt;have:=(ss0 (w1 i)).isLt;have:=(ss1 (w14 i)).isLt;omega
 ·apply BitVec.eq_of_toNat_eq;simp only [BitVec.toNat_ofNat,BitVec.toNat_add];omega
end
def wx(s:List UInt8)(t:Nat):W:=z2w s (z12 s t)
theorem z74(s:List UInt8):∀n,(z12 s n).length=n
 | 0=>rfl
 |n+1=>by simp [z12,z74 s n]
theorem z87(s:List UInt8):∀(n t:Nat),t<n->wat (z12 s n) t=wx s t
 |n+1,t,h=>by
  unfold wat
  rw [z12,List.getD_eq_getElem?_getD]
  by_cases h1:t<n
  ·rw [List.getElem?_append_left (by rw [z74];exact h1),<-List.getD_eq_getElem?_getD]
   exact z87 s n t h1
  ·obtain rfl:t=n:=by omega
   rw [List.getElem?_append_right (by rw [z74];omega),z74,Nat.sub_self]
   rfl
theorem wx_lo(s:List UInt8)(t:Nat)(h:t<16):wx s t=zw s t:=by
 unfold wx z2w
 rw [z74,if_pos h]
theorem wx_hi(s:List UInt8)(t:Nat):wx s (t+16)=wx s t+wx s (t+9)+ss0 (wx s (t+1))+ss1 (wx s (t+14)):=by
 conv=>lhs;unfold wx z2w
 rw [z74,if_neg (by omega),z87 s _ _ (by omega),z87 s _ _ (by omega),z87 s _ _ (by omega),z87 s _ _ (by omega)]
 rw [show t+16-16=t by omega,show t+16-7=t+9 by omega,show t+16-15=t+1 by omega,show t+16-2=t+14 by omega]
theorem zjz(s:List UInt8)(v:V8)(n:Nat)(h:n<64):rnds s v (n+1)=rnd (rnds s v n) (kAt n) (wx s n):=by
 rw [rnds,z87 s 64 n h]
def kN(t:Nat):Nat:=(kAt t).toNat
section
variable {ι:Type} (L:List ι)
theorem zhk(s:ι->List UInt8)(v:ι->V8):∀(n t:Nat),t+n=64->
  goN (M L) (one L) ((List.range' t n).map kN) (Q L fun i=>(rnds (s i) (v i) t).a) (Q L fun i=>(rnds (s i) (v i) t).b) (Q L fun i=>(rnds (s i) (v i) t).c) (Q L fun i=>(rnds (s i) (v i) t).d)
   (Q L fun i=>(rnds (s i) (v i) t).e) (Q L fun i=>(rnds (s i) (v i) t).f) (Q L fun i=>(rnds (s i) (v i) t).g) (Q L fun i=>(rnds (s i) (v i) t).h)
   (Q L fun i=>wx (s i) t) (Q L fun i=>wx (s i) (t+1)) (Q L fun i=>wx (s i) (t+2)) (Q L fun i=>wx (s i) (t+3)) (Q L fun i=>wx (s i) (t+4)) (Q L fun i=>wx (s i) (t+5)) (Q L fun i=>wx (s i) (t+6)) (Q L fun i=>wx (s i) (t+7))
   (Q L fun i=>wx (s i) (t+8)) (Q L fun i=>wx (s i) (t+9)) (Q L fun i=>wx (s i) (t+10)) (Q L fun i=>wx (s i) (t+11)) (Q L fun i=>wx (s i) (t+12)) (Q L fun i=>wx (s i) (t+13)) (Q L fun i=>wx (s i) (t+14)) (Q L fun i=>wx (s i) (t+15))=
  ⟨Q L fun i=>(rnds (s i) (v i) 64).a,Q L fun i=>(rnds (s i) (v i) 64).b,Q L fun i=>(rnds (s i) (v i) 64).c,Q L fun i=>(rnds (s i) (v i) 64).d,Q L fun i=>(rnds (s i) (v i) 64).e,Q L fun i=>(rnds (s i) (v i) 64).f,Q L fun i=>(rnds (s i) (v i) 64).g,Q L fun i=>(rnds (s i) (v i) 64).h⟩
 | 0,t,h=>by
  obtain rfl:t=64:=by omega
  exact zpf ..
 |n+1,t,h=>by
  have ih:=zhk s v n (t+1) (by omega)
  rw [List.range'_succ,List.map_cons,zpe]
  have e1:t1N (M L) (one L) (Q L fun i=>(rnds (s i) (v i) t).e) (Q L fun i=>(rnds (s i) (v i) t).f) (Q L fun i=>(rnds (s i) (v i) t).g) (Q L fun i=>(rnds (s i) (v i) t).h) (kN t) (Q L fun i=>wx (s i) t)=_:=t1_ok L _ _ _ _ _ (kAt t)
  rw [e1,t2_ok L,nw_ok L]
  have add:∀f g:ι->Nat,Nat.add (P L f) (P L g)=P L (fun i=>f i+g i):=Pk.P_add L
  rw [add]
  have e2:Nat.add (Q L fun i=>(rnds (s i) (v i) t).d) (P L fun i=>((rnds (s i) (v i) t).h).toNat+(bs1 (rnds (s i) (v i) t).e).toNat+(chW (rnds (s i) (v i) t).e (rnds (s i) (v i) t).f (rnds (s i) (v i) t).g).toNat+(kAt t).toNat+(wx (s i) t).toNat)=P L _:=add _ _
  rw [e2]
  rw [z6x L (fun i=>(rnds (s i) (v i) (t+1)).a) ?_ ?_,z6x L (fun i=>(rnds (s i) (v i) (t+1)).e) ?_ ?_]
  ·have hw:(fun i=>wx (s i) t+wx (s i) (t+9)+ss0 (wx (s i) (t+1))+ss1 (wx (s i) (t+14)))=fun i=>wx (s i) (t+1+15):=by
    funext i
    rw [show t+1+15=t+16 by omega,wx_hi]
   have hs:∀i,rnds (s i) (v i) (t+1)=rnd (rnds (s i) (v i) t) (kAt t) (wx (s i) t):=fun i=>zjz _ _ _ (by omega)
   rw [hw]
   rw [<-ih]
   simp only [hs,rnd,Nat.add_assoc,Nat.reduceAdd]
  all_goals intro i
  all_goals (try dsimp only)
  all_goals (have hs:rnds (s i) (v i) (t+1)=rnd (rnds (s i) (v i) t) (kAt t) (wx (s i) t):=zjz _ _ _ (by omega))
  all_goals (try rw [hs])
  all_goals (generalize rnds (s i) (v i) t=r;generalize wx (s i) t=w;generalize kAt t=k)
  all_goals try simp only [rnd]
  all_goals (generalize bs1 r.e=p1;generalize chW r.e r.f r.g=p2;generalize bs0 r.a=p3;generalize majW r.a r.b r.c=p4)
  all_goals (have:=r.a.isLt;have:=r.d.isLt;have:=r.h.isLt;have:=w.isLt;have:=k.isLt;have:=p1.isLt;have:=p2.isLt;have:=p3.isLt;have:=p4.isLt)
  all_goals first|omega|(simp only [BitVec.ofNat_add,BitVec.ofNat_toNat,BitVec.setWidth_eq])
end
end
section
set_option maxRecDepth 4000
open Pk (P Q M one pkN)
def k64:List Nat:=[1116352408,1899447441,3049323471,3921009573,961987163,1508970993,2453635748,2870763221,3624381080,310598401,607225278,1426881987,1925078388,2162078206,2614888103,3248222580,3835390401,4022224774,264347078,604807628,770255983,1249150122,1555081692,1996064986,2554220882,2821834349,2952996808,3210313671,3336571891,3584528711,113926993,338241895,666307205,773529912,1294757372,1396182291,1695183700,1986661051,2177026350,2456956037,2730485921,2820302411,3259730800,3345764771,3516065817,3600352804,4094571909,275423344,430227734,506948616,659060556,883997877,958139571,1322822218,1537002063,1747873779,1955562222,2024104815,2227730452,2361852424,2428436474,2756734187,3204031479,3329325298]
theorem k64_is:(List.range' 0 64).map kN=k64:=by decide+kernel
noncomputable def finN{α:Type}(m a b c d e f g h:Nat)(k:Nat->Nat->Nat->Nat->Nat->Nat->Nat->Nat->α)(r:S8):α:=
 S8.rec (motive:=fun _=>α) (fun ra rb rc rd re rf rg rh=>
  frc (Nat.land (Nat.add ra a) m) fun a'=>frc (Nat.land (Nat.add rb b) m) fun b'=>frc (Nat.land (Nat.add rc c) m) fun c'=>frc (Nat.land (Nat.add rd d) m) fun d'=>
  frc (Nat.land (Nat.add re e) m) fun e'=>frc (Nat.land (Nat.add rf f) m) fun f'=>frc (Nat.land (Nat.add rg g) m) fun g'=>frc (Nat.land (Nat.add rh h) m) fun h'=>k a' b' c' d' e' f' g' h') r
def r64(v:V8)(s:List UInt8):V8:=rnds s v 64
theorem zp3{α:Type}(m a b c d e f g h:Nat)(k:Nat->Nat->Nat->Nat->Nat->Nat->Nat->Nat->α)(ra rb rc rd re rf rg rh:Nat):
  finN m a b c d e f g h k ⟨ra,rb,rc,rd,re,rf,rg,rh⟩=
   k (Nat.land (Nat.add ra a) m) (Nat.land (Nat.add rb b) m) (Nat.land (Nat.add rc c) m) (Nat.land (Nat.add rd d) m) (Nat.land (Nat.add re e) m) (Nat.land (Nat.add rf f) m) (Nat.land (Nat.add rg g) m) (Nat.land (Nat.add rh h) m):=by
 unfold finN
 dsimp only
 rw [zu,zu,zu,zu,zu,zu,zu,zu]
theorem mix_a(v:V8)(s:List UInt8):(mixS v s).a=(r64 v s).a+v.a:=by unfold r64 mixS V8.add;exact Eq.refl _
theorem mix_b(v:V8)(s:List UInt8):(mixS v s).b=(r64 v s).b+v.b:=by unfold r64 mixS V8.add;exact Eq.refl _
theorem mix_c(v:V8)(s:List UInt8):(mixS v s).c=(r64 v s).c+v.c:=by unfold r64 mixS V8.add;exact Eq.refl _
theorem mix_d(v:V8)(s:List UInt8):(mixS v s).d=(r64 v s).d+v.d:=by unfold r64 mixS V8.add;exact Eq.refl _
theorem mix_e(v:V8)(s:List UInt8):(mixS v s).e=(r64 v s).e+v.e:=by unfold r64 mixS V8.add;exact Eq.refl _
theorem mix_f(v:V8)(s:List UInt8):(mixS v s).f=(r64 v s).f+v.f:=by unfold r64 mixS V8.add;exact Eq.refl _
theorem mix_g(v:V8)(s:List UInt8):(mixS v s).g=(r64 v s).g+v.g:=by unfold r64 mixS V8.add;exact Eq.refl _
theorem mix_h(v:V8)(s:List UInt8):(mixS v s).h=(r64 v s).h+v.h:=by unfold r64 mixS V8.add;exact Eq.refl _
section
variable {ι:Type} (L:List ι)
theorem zpd(s:ι->List UInt8)(v:ι->V8):
  goN (M L) (one L) k64 (Q L fun i=>(v i).a) (Q L fun i=>(v i).b) (Q L fun i=>(v i).c) (Q L fun i=>(v i).d) (Q L fun i=>(v i).e) (Q L fun i=>(v i).f) (Q L fun i=>(v i).g) (Q L fun i=>(v i).h)
   (Q L fun i=>zw (s i) 0) (Q L fun i=>zw (s i) 1) (Q L fun i=>zw (s i) 2) (Q L fun i=>zw (s i) 3) (Q L fun i=>zw (s i) 4) (Q L fun i=>zw (s i) 5) (Q L fun i=>zw (s i) 6) (Q L fun i=>zw (s i) 7)
   (Q L fun i=>zw (s i) 8) (Q L fun i=>zw (s i) 9) (Q L fun i=>zw (s i) 10) (Q L fun i=>zw (s i) 11) (Q L fun i=>zw (s i) 12) (Q L fun i=>zw (s i) 13) (Q L fun i=>zw (s i) 14) (Q L fun i=>zw (s i) 15)=
  ⟨Q L fun i=>(r64 (v i) (s i)).a,Q L fun i=>(r64 (v i) (s i)).b,Q L fun i=>(r64 (v i) (s i)).c,Q L fun i=>(r64 (v i) (s i)).d,Q L fun i=>(r64 (v i) (s i)).e,Q L fun i=>(r64 (v i) (s i)).f,Q L fun i=>(r64 (v i) (s i)).g,Q L fun i=>(r64 (v i) (s i)).h⟩:=by
 have g:=zhk L s v 64 0 rfl
 rw [k64_is]at g
 have hw:∀j,j<16->(fun i=>wx (s i) (0+j))=fun i=>zw (s i) j:=fun j hj=>by funext i;rw [Nat.zero_add,wx_lo _ _ hj]
 have hw0:(fun i=>wx (s i) 0)=fun i=>zw (s i) 0:=by funext i;rw [wx_lo _ _ (by omega)]
 rw [hw0,hw 1 (by omega),hw 2 (by omega),hw 3 (by omega),hw 4 (by omega),hw 5 (by omega),hw 6 (by omega),hw 7 (by omega),hw 8 (by omega),hw 9 (by omega),hw 10 (by omega),hw 11 (by omega),hw 12 (by omega),hw 13 (by omega),hw 14 (by omega),hw 15 (by omega)]at g
 have r0:∀s v,rnds s v 0=v:=fun _ _=>rfl
 have e64:∀s v,rnds s v 64=r64 v s:=fun s v=>by unfold r64;exact Eq.refl _
 simp only [r0,e64]at g
 exact g
attribute [local irreducible] r64 k64
theorem z5o(f g:ι->W):Nat.land (Nat.add (Q L f) (Q L g)) (M L)=Q L (fun i=>f i+g i):=by
 have add:∀f g:ι->Nat,Nat.add (P L f) (P L g)=P L (fun i=>f i+g i):=Pk.P_add L
 have e:Nat.add (Q L f) (Q L g)=P L (fun i=>(f i).toNat+(g i).toNat):=by
  unfold Q
  rw [add]
 rw [e]
 refine z6x L _ (fun i=> ?_) fun i=> ?_
 ·have:=(f i).isLt;have:=(g i).isLt;omega
 ·simp only [BitVec.ofNat_add,BitVec.ofNat_toNat,BitVec.setWidth_eq]
theorem z8p{α:Type}(s:ι->List UInt8)(v:ι->V8)(w0 w1 w2 w3 w4 w5 w6 w7 w8 w9 w10 w11 w12 w13 w14 w15:Nat)(k:Nat->Nat->Nat->Nat->Nat->Nat->Nat->Nat->α)
  (h0:w0=Q L fun i=>zw (s i) 0) (h1:w1=Q L fun i=>zw (s i) 1) (h2:w2=Q L fun i=>zw (s i) 2) (h3:w3=Q L fun i=>zw (s i) 3) (h4:w4=Q L fun i=>zw (s i) 4) (h5:w5=Q L fun i=>zw (s i) 5) (h6:w6=Q L fun i=>zw (s i) 6) (h7:w7=Q L fun i=>zw (s i) 7)
  (h8:w8=Q L fun i=>zw (s i) 8) (h9:w9=Q L fun i=>zw (s i) 9) (h10:w10=Q L fun i=>zw (s i) 10) (h11:w11=Q L fun i=>zw (s i) 11) (h12:w12=Q L fun i=>zw (s i) 12) (h13:w13=Q L fun i=>zw (s i) 13) (h14:w14=Q L fun i=>zw (s i) 14) (h15:w15=Q L fun i=>zw (s i) 15):
  finN (M L) (Q L fun i=>(v i).a) (Q L fun i=>(v i).b) (Q L fun i=>(v i).c) (Q L fun i=>(v i).d) (Q L fun i=>(v i).e) (Q L fun i=>(v i).f) (Q L fun i=>(v i).g) (Q L fun i=>(v i).h) k
   (goN (M L) (one L) k64 (Q L fun i=>(v i).a) (Q L fun i=>(v i).b) (Q L fun i=>(v i).c) (Q L fun i=>(v i).d) (Q L fun i=>(v i).e) (Q L fun i=>(v i).f) (Q L fun i=>(v i).g) (Q L fun i=>(v i).h) w0 w1 w2 w3 w4 w5 w6 w7 w8 w9 w10 w11 w12 w13 w14 w15)=
  k (Q L fun i=>(mixS (v i) (s i)).a) (Q L fun i=>(mixS (v i) (s i)).b) (Q L fun i=>(mixS (v i) (s i)).c) (Q L fun i=>(mixS (v i) (s i)).d) (Q L fun i=>(mixS (v i) (s i)).e) (Q L fun i=>(mixS (v i) (s i)).f) (Q L fun i=>(mixS (v i) (s i)).g) (Q L fun i=>(mixS (v i) (s i)).h):=by
 subst h0 h1 h2 h3 h4 h5 h6 h7 h8 h9 h10 h11 h12 h13 h14 h15
 have g:=zpd L s v
 rw [g,zp3,z5o,z5o,z5o,z5o,z5o,z5o,z5o,z5o]
 simp only [mix_a,mix_b,mix_c,mix_d,mix_e,mix_f,mix_g,mix_h]
end
end
section
set_option maxRecDepth 4000
open Pk (P Q M one pkN)
theorem zb1:∀(l m:List Nat),pkN (l++m)=pkN l+2^(64*l.length)*pkN m
 | [],m=>by simp [pkN]
 |x::l,m=>by
  have h:2^(64*(l.length+1))=2^64*2^(64*l.length):=by rw [<-Nat.pow_add];congr 1;omega
  rw [List.cons_append,pkN,pkN,zb1 l m,List.length_cons,h,Nat.mul_add,Nat.mul_assoc]
  omega
theorem zfl(f:Nat->Nat)(n:Nat):P (List.range (n+1)) f=P (List.range n) f+2^(64*n)*f n:=by
 unfold P
 rw [List.range_succ,List.map_append,zb1,List.length_map,List.length_range]
 simp [pkN]
noncomputable def pkR(f:Nat->Nat)(n acc:Nat):Nat:=
 Nat.rec (motive:=fun _=>Nat->Nat) (fun acc=>acc) (fun k ih acc=>frc (Nat.add (Nat.mul acc 18446744073709551616) (f k)) ih) n acc
theorem zsr(f:Nat->Nat)(acc:Nat):pkR f 0 acc=acc:=rfl
theorem zsq(f:Nat->Nat)(n acc:Nat):pkR f (n+1) acc=pkR f n (Nat.add (Nat.mul acc 18446744073709551616) (f n)):=by
 show frc _ _=_
 rw [zu]
 rfl
theorem zb2(f:Nat->Nat):∀(n acc:Nat),pkR f n acc=P (List.range n) f+2^(64*n)*acc
 | 0,acc=>by rw [zsr];simp [P,pkN]
 |n+1,acc=>by
  rw [zsq,zb2 f n,zfl]
  have h:2^(64*(n+1))=2^(64*n)*2^64:=by rw [<-Nat.pow_add];congr 1
  have e:Nat.add (Nat.mul acc 18446744073709551616) (f n)=acc*2^64+f n:=rfl
  rw [h,e,Nat.mul_add,Nat.mul_assoc,Nat.mul_comm acc]
  omega
def ones(n:Nat):Nat:=Nat.div (Nat.sub (Nat.pow 2 (Nat.mul 64 n)) 1) 18446744073709551615
theorem zj3:∀n,(2^64-1)*P (List.range n) (fun _=>1)+1=2^(64*n)
 | 0=>rfl
 |n+1=>by
  have ih:=zj3 n
  have h:2^(64*(n+1))=2^64*2^(64*n):=by rw [<-Nat.pow_add];congr 1;omega
  rw [zfl,h]
  omega
theorem z6b(n:Nat):ones n=one (List.range n):=by
 have h:=zj3 n
 have e:ones n=(2^(64*n)-1)/(2^64-1):=rfl
 rw [e,<-h,Nat.add_sub_cancel,Nat.mul_div_cancel_left _ (by decide)]
 rfl
theorem M_is(n:Nat):Nat.mul (ones n) 4294967295=M (List.range n):=by
 rw [z6b]
 have:=Pk.P_mul (List.range n) (fun _=>1) 4294967295
 simpa [one,M]using this
theorem zgz(n:Nat)(c:W):Nat.mul (ones n) c.toNat=Q (List.range n) (fun _=>c):=by
 rw [z6b]
 have:=Pk.P_mul (List.range n) (fun _=>1) c.toNat
 simpa [one,Q]using this
section
variable {ι:Type} (L:List ι)
theorem q_shl(f:ι->W):Nat.land (Nat.mul (Q L f) 16777216) (M L)=Q L (fun i=>f i<<<24):=by
 have e:Nat.mul (Q L f) 16777216=P L (fun i=>(f i).toNat*16777216):=by
  unfold Q
  exact Pk.P_mul L _ _
 rw [e]
 refine z6x L _ (fun i=> ?_) fun i=> ?_
 ·have:=(f i).isLt;omega
 ·apply BitVec.eq_of_toNat_eq;rw [BitVec.toNat_ofNat,BitVec.toNat_shiftLeft,Nat.shiftLeft_eq]
theorem q_shr(f:ι->W):Nat.land (Nat.shiftRight (Q L f) 8) (M L)=Q L (fun i=>f i>>>8):=by
 apply Pk.Q_ext
 intro q r hr
 have e:Nat.land (Nat.shiftRight (Q L f) 8) (M L)=(Q L f>>>8) &&& M L:=rfl
 rw [e,Nat.testBit_and,Pk.M_bit L q r hr,Nat.testBit_shiftRight]
 by_cases h:r<32
 ·rw [show 8+(64*q+r)=64*q+(8+r)by omega,Pk.Q_bit L q (8+r) (by omega)]
  cases L[q]? <;>simp [h]
 ·cases L[q]? with
  |none=>simp
  |some x=>simp [h,BitVec.getLsbD_of_ge _ _ (show 32<=r by omega)]
def shW(x y:W):W:=x<<<24+y>>>8
noncomputable def shN(m x y:Nat):Nat:=Nat.land (Nat.add (Nat.land (Nat.mul x 16777216) m) (Nat.land (Nat.shiftRight y 8) m)) m
theorem z3c(f g:ι->W):shN (M L) (Q L f) (Q L g)=Q L (fun i=>shW (f i) (g i)):=by
 unfold shN
 rw [q_shl,q_shr,z5o]
 rfl
end
theorem z7c(f:Nat->W){N a c:Nat}(h:a+c<=N):Nat.land (Nat.shiftRight (Q (List.range N) f) (64*a)) (2^(64*c)-1)=Q (List.range c) (fun i=>f (a+i)):=by
 apply Pk.Q_ext
 intro q r hr
 have e:Nat.land (Nat.shiftRight (Q (List.range N) f) (64*a)) (2^(64*c)-1)=(Q (List.range N) f>>>(64*a)) &&& (2^(64*c)-1):=rfl
 rw [e,Nat.testBit_and,Nat.testBit_shiftRight,show 64*a+(64*q+r)=64*(a+q)+r by omega,Pk.Q_bit _ _ r hr,Nat.testBit_two_pow_sub_one]
 by_cases hq:q<c
 ·rw [List.getElem?_range (by omega),List.getElem?_range hq,decide_eq_true (by omega)];simp
 ·rw [decide_eq_false (by omega),Bool.and_false,List.getElem?_eq_none (by simp;omega)];rfl
theorem z4c(f:Nat->W){N a:Nat}(h:a<N):Nat.land (Nat.shiftRight (Q (List.range N) f) (64*a)) 18446744073709551615=(f a).toNat:=by
 have:=z7c f (a:=a) (c:=1) (N:=N) (by omega)
 rw [show (2:Nat)^(64*1)-1=18446744073709551615 from rfl]at this
 rw [this]
 simp [Q,P,pkN,List.range_succ]
set_option exponentiation.threshold 1000 in
theorem Q_prev(f:Nat->W)(c:W)(n:Nat):Nat.add (Nat.mul (Nat.land (Q (List.range (8+n)) f) (2^(64*n)-1)) (2^512)) (Nat.mul (ones 8) c.toNat)=Q (List.range (8+n)) (fun l=>if l<8 then c else f (l-8)):=by
 have e:=z7c f (N:=8+n) (a:=0) (c:=n) (by omega)
 have e2:Nat.land (Q (List.range (8+n)) f) (2^(64*n)-1)=Q (List.range n) f:=by
  have:Nat.shiftRight (Q (List.range (8+n)) f) (64*0)=Q (List.range (8+n)) f:=rfl
  rw [this]at e
  rw [e]
  simp
 rw [e2,zgz]
 unfold Q P
 rw [List.range_add,List.map_append,zb1,List.length_map,List.length_range,List.map_map]
 have e3:(List.range 8).map (fun l=>(if l<8 then c else f (l-8)).toNat)=(List.range 8).map (fun _=>c.toNat):=by
  apply List.map_congr_left
  intro l hl
  rw [if_pos (List.mem_range.1 hl)]
 have e4:(List.range n).map ((fun l=>(if l<8 then c else f (l-8)).toNat) ∘ fun x=>8+x)=(List.range n).map (fun l=>(f l).toNat):=by
  apply List.map_congr_left
  intro l hl
  simp only [Function.comp]
  rw [if_neg (by omega),show 8+l-8=l by omega]
 rw [e3,e4]
 show pkN ((List.range n).map fun i=>(f i).toNat)*2^512+_=_
 rw [Nat.mul_comm,Nat.add_comm]
end
section
set_option maxRecDepth 4000
open Pk (P Q M one pkN)
/-! Words of bytes: a byte ahead of whole words. -/
def enc(ws:List W):List UInt8:=ws.flatMap fun x=>be 4 x.toNat
def lb(x:W):UInt8:=UInt8.ofNat x.toNat
theorem be4(n:Nat):be 4 n=[UInt8.ofNat (n/16777216),UInt8.ofNat (n/65536),UInt8.ofNat (n/256),UInt8.ofNat n]:=by
 simp [be,Nat.div_div_eq_div_mul]
theorem zak(x:W)(l:List W):enc (x::l)=UInt8.ofNat (x.toNat/16777216)::UInt8.ofNat (x.toNat/65536)::UInt8.ofNat (x.toNat/256)::lb x::enc l:=by
 simp [enc,be4,lb]
theorem z8s(a b:List W):enc (a++b)=enc a++enc b:=by simp [enc]
theorem z3z:∀l:List W,(enc l).length=4*l.length
 | []=>rfl
 |x::l=>by rw [zak];simp [z3z l];omega
theorem zp4(y x:W)(t:List UInt8):zw (lb y::UInt8.ofNat (x.toNat/16777216)::UInt8.ofNat (x.toNat/65536)::UInt8.ofNat (x.toNat/256)::t) 0=shW y x:=by
 unfold zw shW
 apply BitVec.eq_of_toNat_eq
 simp only [Nat.mul_zero,List.drop_zero,List.take_succ_cons,List.take_zero,getS,List.take_nil,val,List.foldl_cons,List.foldl_nil,lb,UInt8.toNat_ofNat',BitVec.toNat_ofNat,BitVec.toNat_add,BitVec.toNat_shiftLeft,BitVec.toNat_ushiftRight,Nat.shiftLeft_eq,Nat.shiftRight_eq_div_pow]
 have:=x.isLt
 have:=y.isLt
 omega
theorem z9u(s:List UInt8)(a i:Nat):zw (s.drop (4*a)) i=zw s (a+i):=by
 unfold zw
 rw [List.drop_drop]
 congr 4
 omega
theorem zal:∀(i:Nat) (y:W) (l:List W) (t:List UInt8),i<l.length->zw (lb y::(enc l++t)) i=shW ((y::l).getD i 0) ((y::l).getD (i+1) 0)
 | 0,y,x::l,t,_=>by
  rw [zak]
  exact zp4 y x _
 |i+1,y,x::l,t,h=>by
  have e:(lb y::(enc (x::l)++t)).drop (4*1)=lb x::(enc l++t):=by rw [zak];rfl
  have ih:=zal i x l t (by simpa using h)
  rw [<-e,z9u]at ih
  rw [show i+1=1+i by omega,ih]
  simp [List.getD_eq_getElem?_getD,Nat.add_comm 1 i]
theorem zca(s:List UInt8){n i:Nat}(h:4*i+4<=n):zw (s.take n) i=zw s i:=by
 unfold zw
 rw [List.drop_take,List.take_take,Nat.min_eq_left (by omega)]
theorem ze6(y:W)(l:List W)(n:Nat)(h1:l.length*4+1=n):padS (lb y::enc l)=lb y::(enc l++128::(List.replicate ((119-n%64)%64) 0++be 8 (n*8))):=by
 unfold padS
 rw [List.length_cons,z3z,show 4*l.length+1=n by omega]
 rfl
theorem zfp(v:V8):outV v=enc v.l:=rfl
def padT:List W:=[2147483648#32,0#32,0#32,0#32,0#32,0#32,0#32,67584#32]
theorem zkq(v:V8):padS (3::outV v)=(lb 3#32::enc (v.l++padT)).take 64/\ (padS (3::outV v)).length=64:=by
 have h:=ze6 3#32 v.l 33 (by rfl)
 have e:padS (3::outV v)=lb 3#32::(enc v.l++128::(List.replicate 22 0++be 8 264)):=h
 have e2:(lb 3#32::enc (v.l++padT)).take 64=lb 3#32::(enc v.l++(enc padT).take 31):=by
  rw [z8s,show 64=63+1 from rfl,List.take_succ_cons,show (63:Nat)=(enc v.l).length+31 by rw [z3z];rfl,List.take_length_add_append]
 have e3:(enc padT).take 31=128::(List.replicate 22 0++be 8 264):=by decide+kernel
 refine⟨by rw [e,e2,e3],?_⟩
 rw [e]
 simp [z3z,V8.l,be]
theorem zui(v:V8)(i:Nat)(h:i<16):zw (padS (3::outV v)) i=shW ((3#32::(v.l++padT)).getD i 0) ((3#32::(v.l++padT)).getD (i+1) 0):=by
 rw [(zkq v).1,zca _ (by omega)]
 have:=zal i 3#32 (v.l++padT) [] (by simp [V8.l,padT];omega)
 rwa [List.append_nil]at this
theorem zqw(v:V8){s t:List UInt8}(h:∀i,i<16->zw s i=zw t i):mixS v s=mixS v t:=by
 have hw:∀n,z12 s n=z12 t n:=by
  intro n
  induction n with
  |zero=>rfl
  |succ n ih=>
   rw [z12,z12,ih]
   congr 2
   unfold z2w
   rw [z74]
   split
   ·rename_i h1;exact h n h1
   ·rfl
 have hr:∀n,rnds s v n=rnds t v n:=by
  intro n
  induction n with
  |zero=>rfl
  |succ n ih=>rw [rnds,rnds,ih,hw]
 unfold mixS
 rw [hr]
theorem zds(v:V8)(s:List UInt8):mixS v (s.take 64)=mixS v s:=zqw v fun i h=>zca s (by omega)
theorem zcp(v:V8)(s:List UInt8):blocks 1 v s=mixS v s:=by
 rw [blocks,zds];rfl
end
section
set_option maxRecDepth 4000
open Pk (P Q M one pkN)
def m512:Nat:=13407807929942597099574024998205846127479365820592393377723561443721764030073546976801874298166903427690031858186486050853753882811946569946433649006084095
theorem zax:m512=2^(64*8)-1:=by decide+kernel
noncomputable def z95(m o u0 u1 u2 u3 u4 u5 u6 u7:Nat)(k:Nat->Nat->Nat->Nat->Nat->Nat->Nat->Nat->S8)(bs:List Nat):Nat->Nat->Nat->Nat->Nat->Nat->Nat->Nat->S8:=
 List.rec (motive:=fun _=>Nat->Nat->Nat->Nat->Nat->Nat->Nat->Nat->S8) k
  (fun j _ ih a b c d e f g h=>frc (Nat.mul j 1024) fun s=>frc (Nat.add s 512) fun s'=>
   frc (Nat.land (Nat.shiftRight u0 s) m512) fun w0=>
   frc (Nat.land (Nat.shiftRight u1 s) m512) fun w1=>
   frc (Nat.land (Nat.shiftRight u2 s) m512) fun w2=>
   frc (Nat.land (Nat.shiftRight u3 s) m512) fun w3=>
   frc (Nat.land (Nat.shiftRight u4 s) m512) fun w4=>
   frc (Nat.land (Nat.shiftRight u5 s) m512) fun w5=>
   frc (Nat.land (Nat.shiftRight u6 s) m512) fun w6=>
   frc (Nat.land (Nat.shiftRight u7 s) m512) fun w7=>
   frc (Nat.land (Nat.shiftRight u0 s') m512) fun w8=>
   frc (Nat.land (Nat.shiftRight u1 s') m512) fun w9=>
   frc (Nat.land (Nat.shiftRight u2 s') m512) fun w10=>
   frc (Nat.land (Nat.shiftRight u3 s') m512) fun w11=>
   frc (Nat.land (Nat.shiftRight u4 s') m512) fun w12=>
   frc (Nat.land (Nat.shiftRight u5 s') m512) fun w13=>
   frc (Nat.land (Nat.shiftRight u6 s') m512) fun w14=>
   frc (Nat.land (Nat.shiftRight u7 s') m512) fun w15=>
   finN m a b c d e f g h ih (goN m o k64 a b c d e f g h w0 w1 w2 w3 w4 w5 w6 w7 w8 w9 w10 w11 w12 w13 w14 w15)) bs
theorem zqq(m o u0 u1 u2 u3 u4 u5 u6 u7:Nat)(k:Nat->Nat->Nat->Nat->Nat->Nat->Nat->Nat->S8)(j:Nat)(bs:List Nat)(a b c d e f g h:Nat):z95 m o u0 u1 u2 u3 u4 u5 u6 u7 k (j::bs) a b c d e f g h=
  finN m a b c d e f g h (z95 m o u0 u1 u2 u3 u4 u5 u6 u7 k bs) (goN m o k64 a b c d e f g h (Nat.land (Nat.shiftRight u0 (Nat.mul j 1024)) m512)
   (Nat.land (Nat.shiftRight u1 (Nat.mul j 1024)) m512)
   (Nat.land (Nat.shiftRight u2 (Nat.mul j 1024)) m512)
   (Nat.land (Nat.shiftRight u3 (Nat.mul j 1024)) m512)
   (Nat.land (Nat.shiftRight u4 (Nat.mul j 1024)) m512)
   (Nat.land (Nat.shiftRight u5 (Nat.mul j 1024)) m512)
   (Nat.land (Nat.shiftRight u6 (Nat.mul j 1024)) m512)
   (Nat.land (Nat.shiftRight u7 (Nat.mul j 1024)) m512)
   (Nat.land (Nat.shiftRight u0 (Nat.add (Nat.mul j 1024) 512)) m512)
   (Nat.land (Nat.shiftRight u1 (Nat.add (Nat.mul j 1024) 512)) m512)
   (Nat.land (Nat.shiftRight u2 (Nat.add (Nat.mul j 1024) 512)) m512)
   (Nat.land (Nat.shiftRight u3 (Nat.add (Nat.mul j 1024) 512)) m512)
   (Nat.land (Nat.shiftRight u4 (Nat.add (Nat.mul j 1024) 512)) m512)
   (Nat.land (Nat.shiftRight u5 (Nat.add (Nat.mul j 1024) 512)) m512)
   (Nat.land (Nat.shiftRight u6 (Nat.add (Nat.mul j 1024) 512)) m512)
   (Nat.land (Nat.shiftRight u7 (Nat.add (Nat.mul j 1024) 512)) m512)):=by
 unfold z95
 dsimp only
 rw [zu,zu,zu,zu,zu,zu,zu,zu,zu,zu,zu,zu,zu,zu,zu,zu,zu,zu]
def z22(v2:Nat->V8)(i:Nat):List W:=(List.range 512).flatMap fun k=>(v2 (8*k+i)).l
theorem zdd(f:Nat->V8):∀(n k t:Nat),k<n->t<8->((List.range n).flatMap fun k=>(f k).l)[8*k+t]? =(f k).l[t]?
 |n+1,k,t,hk,ht=>by
  have hl:∀n,((List.range n).flatMap fun k=>(f k).l).length=8*n:=by
   intro n
   induction n with
   |zero=>rfl
   |succ n ih=>rw [List.range_succ,List.flatMap_append,List.length_append,ih];simp [V8.l];omega
  rw [List.range_succ,List.flatMap_append]
  by_cases h:k<n
  ·rw [List.getElem?_append_left (by rw [hl];omega)]
   exact zdd f n k t h ht
  ·obtain rfl:k=n:=by omega
   rw [List.getElem?_append_right (by rw [hl];omega),hl,Nat.add_sub_cancel_left]
   simp
theorem z5w(v2:Nat->V8)(i:Nat):(z22 v2 i).length=4096:=by
 unfold z22
 have hl:∀n,((List.range n).flatMap fun k=>(v2 (8*k+i)).l).length=8*n:=by
  intro n
  induction n with
  |zero=>rfl
  |succ n ih=>rw [List.range_succ,List.flatMap_append,List.length_append,ih];simp [V8.l];omega
 rw [hl]
theorem zc1(v2:Nat->V8)(i k t:Nat)(hk:k<512)(ht:t<8):(z22 v2 i)[8*k+t]? =(v2 (8*k+i)).l[t]?:=zdd (fun k=>v2 (8*k+i)) 512 k t hk ht
def longT:List W:=[2147483648#32,0#32,0#32,0#32,0#32,0#32,0#32,0#32,0#32,0#32,0#32,0#32,0#32,0#32,0#32,33556480#32]
theorem zil(l:List W)(hl:l.length=4096):padS (4::enc l)=(lb 4#32::enc (l++longT)).take 16448/\ (padS (4::enc l)).length=16448:=by
 have h:=ze6 4#32 l 16385 (by rw [hl])
 have e:padS (4::enc l)=lb 4#32::(enc l++128::(List.replicate 54 0++be 8 131080)):=h
 have e2:(lb 4#32::enc (l++longT)).take 16448=lb 4#32::(enc l++(enc longT).take 63):=by
  rw [z8s,show 16448=16447+1 from rfl,List.take_succ_cons,show (16447:Nat)=(enc l).length+63 by rw [z3z,hl],List.take_length_add_append]
 have e3:(enc longT).take 63=128::(List.replicate 54 0++be 8 131080):=by decide+kernel
 refine⟨by rw [e,e2,e3],?_⟩
 rw [e]
 simp [z3z,hl,be]
theorem zin(l:List W)(hl:l.length=4096)(i:Nat)(h:i<4112):zw (padS (4::enc l)) i=shW ((4#32::(l++longT)).getD i 0) ((4#32::(l++longT)).getD (i+1) 0):=by
 rw [(zil l hl).1,zca _ (by omega)]
 have:=zal i 4#32 (l++longT) [] (by rw [List.length_append,hl];simp [longT];omega)
 rwa [List.append_nil]at this
def v8w(v:V8)(t:Nat):W:=v.l.getD t 0
def pw(v2:Nat->V8)(t l:Nat):W:=if t=0 then(if l<8 then 4#32 else v8w (v2 (l-8)) 7)else v8w (v2 l) (t-1)
theorem zik(v2:Nat->V8)(i k t:Nat)(hi:i<8)(hk:k<512)(ht:t<8):zw (padS (4::enc (z22 v2 i))) (8*k+t)=shW (pw v2 t (8*k+i)) (v8w (v2 (8*k+i)) t):=by
 rw [zin _ (z5w v2 i) _ (by omega)]
 have e1:(4#32::(z22 v2 i++longT)).getD (8*k+t+1) 0=v8w (v2 (8*k+i)) t:=by
  rw [List.getD_eq_getElem?_getD,List.getElem?_cons_succ,List.getElem?_append_left (by rw [z5w];omega),zc1 v2 i k t hk ht,<-List.getD_eq_getElem?_getD];rfl
 have e2:(4#32::(z22 v2 i++longT)).getD (8*k+t) 0=pw v2 t (8*k+i):=by
  unfold pw
  by_cases h0:t=0
  ·subst h0
   rw [if_pos rfl]
   by_cases hk0:k=0
   ·subst hk0
    rw [if_pos (by omega)];rfl
   ·rw [if_neg (by omega),show 8*k+0=(8*(k-1)+7)+1 by omega,List.getD_eq_getElem?_getD,List.getElem?_cons_succ,List.getElem?_append_left (by rw [z5w];omega),zc1 v2 i (k-1) 7 (by omega) (by omega),<-List.getD_eq_getElem?_getD,show 8*k+i-8=8*(k-1)+i by omega];rfl
  ·rw [if_neg h0,show 8*k+t=(8*k+(t-1))+1 by omega,List.getD_eq_getElem?_getD,List.getElem?_cons_succ,List.getElem?_append_left (by rw [z5w];omega),zc1 v2 i k (t-1) hk (by omega),<-List.getD_eq_getElem?_getD];rfl
 rw [e1,e2]
theorem zgg:∀(n:Nat) (v:V8) (s:List UInt8),blocks (n+1) v s=mixS (blocks n v s) (s.drop (64*n))
 | 0,v,s=>by rw [zcp];rfl
 |n+1,v,s=>by
  rw [blocks,zgg n,List.drop_drop,<-blocks,show 64+64*n=64*(n+1)by omega]
def uT(v2:Nat->V8)(t:Nat):Nat:=Q (List.range 4096) fun l=>shW (pw v2 t l) (v8w (v2 l) t)
theorem u_at(v2:Nat->V8)(b:Nat)(hb:b<256)(t:Nat)(ht:t<8):Nat.land (Nat.shiftRight (uT v2 t) (Nat.mul b 1024)) m512=Q (List.range 8) (fun i=>zw ((padS (4::enc (z22 v2 i))).drop (64*b)) t):=by
 have h:=z7c (fun l=>shW (pw v2 t l) (v8w (v2 l) t)) (N:=4096) (a:=16*b) (c:=8) (by omega)
 rw [<-zax,show 64*(16*b)=Nat.mul b 1024 by show _=b*1024;omega]at h
 unfold uT
 rw [h]
 unfold Q P
 congr 1
 apply List.map_congr_left
 intro i hi
 dsimp only
 rw [show 64*b=4*(16*b)by omega,z9u,show 16*b+t=8*(2*b)+t by omega,zik v2 i (2*b) t (List.mem_range.1 hi) (by omega) ht,show 8*(2*b)+i=16*b+i by omega]
theorem z6j(v2:Nat->V8)(b:Nat)(hb:b<256)(t:Nat)(ht:t<8):Nat.land (Nat.shiftRight (uT v2 t) (Nat.add (Nat.mul b 1024) 512)) m512=Q (List.range 8) (fun i=>zw ((padS (4::enc (z22 v2 i))).drop (64*b)) (8+t)):=by
 have h:=z7c (fun l=>shW (pw v2 t l) (v8w (v2 l) t)) (N:=4096) (a:=16*b+8) (c:=8) (by omega)
 rw [<-zax,show 64*(16*b+8)=Nat.add (Nat.mul b 1024) 512 by show _=b*1024+512;omega]at h
 unfold uT
 rw [h]
 unfold Q P
 congr 1
 apply List.map_congr_left
 intro i hi
 dsimp only
 rw [show 64*b=4*(16*b)by omega,z9u,show 16*b+(8+t)=8*(2*b+1)+t by omega,zik v2 i (2*b+1) t (List.mem_range.1 hi) (by omega) ht,show 8*(2*b+1)+i=16*b+8+i by omega]
theorem zih(v2:Nat->V8)(k:Nat->Nat->Nat->Nat->Nat->Nat->Nat->Nat->S8):∀(n b:Nat) (v:Nat->V8),b+n=256->
  z95 (M (List.range 8)) (one (List.range 8)) (uT v2 0) (uT v2 1) (uT v2 2) (uT v2 3) (uT v2 4) (uT v2 5) (uT v2 6) (uT v2 7) k (List.range' b n) (Q (List.range 8) fun i=>(v i).a) (Q (List.range 8) fun i=>(v i).b) (Q (List.range 8) fun i=>(v i).c) (Q (List.range 8) fun i=>(v i).d) (Q (List.range 8) fun i=>(v i).e) (Q (List.range 8) fun i=>(v i).f) (Q (List.range 8) fun i=>(v i).g) (Q (List.range 8) fun i=>(v i).h)=
  k (Q (List.range 8) fun i=>(blocks n (v i) ((padS (4::enc (z22 v2 i))).drop (64*b))).a) (Q (List.range 8) fun i=>(blocks n (v i) ((padS (4::enc (z22 v2 i))).drop (64*b))).b) (Q (List.range 8) fun i=>(blocks n (v i) ((padS (4::enc (z22 v2 i))).drop (64*b))).c) (Q (List.range 8) fun i=>(blocks n (v i) ((padS (4::enc (z22 v2 i))).drop (64*b))).d) (Q (List.range 8) fun i=>(blocks n (v i) ((padS (4::enc (z22 v2 i))).drop (64*b))).e) (Q (List.range 8) fun i=>(blocks n (v i) ((padS (4::enc (z22 v2 i))).drop (64*b))).f) (Q (List.range 8) fun i=>(blocks n (v i) ((padS (4::enc (z22 v2 i))).drop (64*b))).g) (Q (List.range 8) fun i=>(blocks n (v i) ((padS (4::enc (z22 v2 i))).drop (64*b))).h)
 | 0,b,v,h=>rfl
 |n+1,b,v,h=>by
  have ih:=zih v2 k n (b+1) (fun i=>mixS (v i) ((padS (4::enc (z22 v2 i))).drop (64*b))) (by omega)
  rw [List.range'_succ,zqq]
  refine(z8p (List.range 8) (fun i=>(padS (4::enc (z22 v2 i))).drop (64*b)) v _ _ _ _ _ _ _ _ _ _ _ _ _ _ _ _ _ (u_at v2 b (by omega) 0 (by omega)) (u_at v2 b (by omega) 1 (by omega)) (u_at v2 b (by omega) 2 (by omega)) (u_at v2 b (by omega) 3 (by omega)) (u_at v2 b (by omega) 4 (by omega)) (u_at v2 b (by omega) 5 (by omega)) (u_at v2 b (by omega) 6 (by omega)) (u_at v2 b (by omega) 7 (by omega)) (z6j v2 b (by omega) 0 (by omega)) (z6j v2 b (by omega) 1 (by omega)) (z6j v2 b (by omega) 2 (by omega)) (z6j v2 b (by omega) 3 (by omega)) (z6j v2 b (by omega) 4 (by omega)) (z6j v2 b (by omega) 5 (by omega)) (z6j v2 b (by omega) 6 (by omega)) (z6j v2 b (by omega) 7 (by omega))).trans ?_
  refine ih.trans ?_
  have e:∀i,blocks (n+1) (v i) ((padS (4::enc (z22 v2 i))).drop (64*b))=blocks n (mixS (v i) ((padS (4::enc (z22 v2 i))).drop (64*b))) ((padS (4::enc (z22 v2 i))).drop (64*(b+1))):=fun i=>by
   rw [blocks,zds,List.drop_drop,show 64*b+64=64*(b+1)by omega]
  simp only [e]
end
section
set_option maxRecDepth 4000
open Pk (P Q M one pkN)
def zay:Nat:=Nat.sub (Nat.pow 2 261632) 1
def p512:Nat:=Nat.pow 2 512
theorem zsl:zay=2^(64*4088)-1:=by decide+kernel
theorem zja:p512=2^512:=by decide+kernel
noncomputable def zav(m o z a b c d e f g h:Nat):S8:=
 frc (shN m z (Nat.mul o 2147483648)) fun q0=>
 frc (Nat.mul o 0) fun q1=>
 frc (Nat.mul o 131080) fun q15=>
 finN m a b c d e f g h S8.mk (goN m o k64 a b c d e f g h q0 q1 q1 q1 q1 q1 q1 q1 q1 q1 q1 q1 q1 q1 q1 q15)
noncomputable def zc3(m8 o8 m y0 y1 y2 y3 y4 y5 y6 y7:Nat):S8:=
 frc (shN m (Nat.add (Nat.mul (Nat.land y7 zay) p512) (Nat.mul o8 4)) y0) fun u0=>
 frc (shN m y0 y1) fun u1=>
 frc (shN m y1 y2) fun u2=>
 frc (shN m y2 y3) fun u3=>
 frc (shN m y3 y4) fun u4=>
 frc (shN m y4 y5) fun u5=>
 frc (shN m y5 y6) fun u6=>
 frc (shN m y6 y7) fun u7=>
 frc (Nat.land (Nat.shiftRight y7 261632) m512) fun z=>
 frc (Nat.mul o8 1779033703) fun na=>
 frc (Nat.mul o8 3144134277) fun nb=>
 frc (Nat.mul o8 1013904242) fun nc=>
 frc (Nat.mul o8 2773480762) fun nd=>
 frc (Nat.mul o8 1359893119) fun ne=>
 frc (Nat.mul o8 2600822924) fun nf=>
 frc (Nat.mul o8 528734635) fun ng=>
 frc (Nat.mul o8 1541459225) fun nh=>
 z95 m8 o8 u0 u1 u2 u3 u4 u5 u6 u7 (zav m8 o8 z) (List.range' 0 256) na nb nc nd ne nf ng nh
noncomputable def zby(m8 o8 m o x0 x1 x2 x3 x4 x5 x6 x7:Nat):S8:=
 frc (shN m (Nat.mul o 3) x0) fun s0=>
 frc (shN m x0 x1) fun s1=>
 frc (shN m x1 x2) fun s2=>
 frc (shN m x2 x3) fun s3=>
 frc (shN m x3 x4) fun s4=>
 frc (shN m x4 x5) fun s5=>
 frc (shN m x5 x6) fun s6=>
 frc (shN m x6 x7) fun s7=>
 frc (shN m x7 (Nat.mul o 2147483648)) fun s8=>
 frc (Nat.mul o 0) fun s9=>
 frc (Nat.mul o 264) fun s15=>
 frc (Nat.mul o 1779033703) fun na=>
 frc (Nat.mul o 3144134277) fun nb=>
 frc (Nat.mul o 1013904242) fun nc=>
 frc (Nat.mul o 2773480762) fun nd=>
 frc (Nat.mul o 1359893119) fun ne=>
 frc (Nat.mul o 2600822924) fun nf=>
 frc (Nat.mul o 528734635) fun ng=>
 frc (Nat.mul o 1541459225) fun nh=>
 finN m na nb nc nd ne nf ng nh (zc3 m8 o8 m) (goN m o k64 na nb nc nd ne nf ng nh s0 s1 s2 s3 s4 s5 s6 s7 s8 s9 s9 s9 s9 s9 s9 s15)
noncomputable def z7q(wf:Nat->Nat->Nat):S8:=
 frc (ones 4096) fun o=>
 frc (Nat.mul o 4294967295) fun m=>
 frc (ones 8) fun o8=>
 frc (Nat.mul o8 4294967295) fun m8=>
 frc (Nat.land (pkR (wf 0) 4096 0) m) fun w0=>
 frc (Nat.land (pkR (wf 1) 4096 0) m) fun w1=>
 frc (Nat.land (pkR (wf 2) 4096 0) m) fun w2=>
 frc (Nat.land (pkR (wf 3) 4096 0) m) fun w3=>
 frc (Nat.land (pkR (wf 4) 4096 0) m) fun w4=>
 frc (Nat.land (pkR (wf 5) 4096 0) m) fun w5=>
 frc (Nat.land (pkR (wf 6) 4096 0) m) fun w6=>
 frc (Nat.land (pkR (wf 7) 4096 0) m) fun w7=>
 frc (Nat.land (pkR (wf 8) 4096 0) m) fun w8=>
 frc (Nat.land (pkR (wf 9) 4096 0) m) fun w9=>
 frc (Nat.land (pkR (wf 10) 4096 0) m) fun w10=>
 frc (Nat.land (pkR (wf 11) 4096 0) m) fun w11=>
 frc (Nat.land (pkR (wf 12) 4096 0) m) fun w12=>
 frc (Nat.land (pkR (wf 13) 4096 0) m) fun w13=>
 frc (Nat.land (pkR (wf 14) 4096 0) m) fun w14=>
 frc (Nat.land (pkR (wf 15) 4096 0) m) fun w15=>
 frc (Nat.mul o 1779033703) fun na=>
 frc (Nat.mul o 3144134277) fun nb=>
 frc (Nat.mul o 1013904242) fun nc=>
 frc (Nat.mul o 2773480762) fun nd=>
 frc (Nat.mul o 1359893119) fun ne=>
 frc (Nat.mul o 2600822924) fun nf=>
 frc (Nat.mul o 528734635) fun ng=>
 frc (Nat.mul o 1541459225) fun nh=>
 finN m na nb nc nd ne nf ng nh (zby m8 o8 m o) (goN m o k64 na nb nc nd ne nf ng nh w0 w1 w2 w3 w4 w5 w6 w7 w8 w9 w10 w11 w12 w13 w14 w15)
section
variable (v2:Nat->V8)
def tx(i:Nat):List UInt8:=padS (4::enc (z22 v2 i))
theorem zdp(i:Nat)(hi:i<8)(j:Nat)(hj:j<16):zw ((tx v2 i).drop (64*256)) j=shW ((v8w (v2 (4088+i)) 7::longT).getD j 0) ((v8w (v2 (4088+i)) 7::longT).getD (j+1) 0):=by
 unfold tx
 rw [show 64*256=4*4096 from rfl,z9u,zin _ (z5w v2 i) _ (by omega)]
 have e1:∀n,(4#32::(z22 v2 i++longT)).getD (4096+n) 0=(v8w (v2 (4088+i)) 7::longT).getD n 0:=by
  intro n
  match n with
  | 0=>
   rw [Nat.add_zero,show (4096:Nat)=(8*511+7)+1 from rfl,List.getD_eq_getElem?_getD,List.getElem?_cons_succ,List.getElem?_append_left (by rw [z5w];omega),zc1 v2 i 511 7 (by omega) (by omega),<-List.getD_eq_getElem?_getD,show 8*511+i=4088+i by omega];rfl
  |n+1=>
   rw [show 4096+(n+1)=(4096+n)+1 by omega,List.getD_eq_getElem?_getD,List.getElem?_cons_succ,List.getElem?_append_right (by rw [z5w];omega),z5w,Nat.add_sub_cancel_left,List.getD_eq_getElem?_getD,List.getElem?_cons_succ]
 rw [e1,Nat.add_assoc,e1]
theorem z3k(n:Nat)(c:W)(k:Nat)(h:c.toNat=k):Nat.mul (one (List.range n)) k=Q (List.range n) (fun _=>c):=by subst h;rw [<-z6b];exact zgz n c
set_option exponentiation.threshold 1000 in
theorem q_prev(f:Nat->W)(c:W)(n N p k:Nat)(hN:N=8+n)(hp:p=2^(64*n)-1)(hk:c.toNat=k):Nat.add (Nat.mul (Nat.land (Q (List.range N) f) p) p512) (Nat.mul (one (List.range 8)) k)=Q (List.range N) (fun l=>if l<8 then c else f (l-8)):=by
 subst hN hp hk
 rw [zja,<-z6b]
 exact Q_prev f c n
theorem z3j{n:Nat}{f g:Nat->W}(h:∀i,i<n->f i=g i):Q (List.range n) f=Q (List.range n) g:=by
 unfold Q P
 congr 1
 apply List.map_congr_left
 intro i hi
 rw [h i (List.mem_range.1 hi)]
theorem zqn (v : Nat -> V8) : zav (M (List.range 8)) (one (List.range 8)) (Q (List.range 8) fun i => v8w (v2 (4088 + i)) 7) (Q (List.range 8) fun i => (v i).a) (Q (List.range 8) fun i => (v i).b) (Q (List.range 8) fun i => (v i).c) (Q (List.range 8) fun i => (v i).d) (Q (List.range 8) fun i => (v i).e) (Q (List.range 8) fun i => (v i).f) (Q (List.range 8) fun i => (v i).g) (Q (List.range 8) fun i => (v i).h) =
    S8.mk (Q (List.range 8) fun i=>(mixS (v i) ((tx v2 i).drop (64*256))).a) (Q (List.range 8) fun i=>(mixS (v i) ((tx v2 i).drop (64*256))).b) (Q (List.range 8) fun i=>(mixS (v i) ((tx v2 i).drop (64*256))).c) (Q (List.range 8) fun i=>(mixS (v i) ((tx v2 i).drop (64*256))).d) (Q (List.range 8) fun i=>(mixS (v i) ((tx v2 i).drop (64*256))).e) (Q (List.range 8) fun i=>(mixS (v i) ((tx v2 i).drop (64*256))).f) (Q (List.range 8) fun i=>(mixS (v i) ((tx v2 i).drop (64*256))).g) (Q (List.range 8) fun i=>(mixS (v i) ((tx v2 i).drop (64*256))).h):=by
  unfold zav
  rw [zu,zu,zu]
  have h0:shN (M (List.range 8)) (Q (List.range 8) fun i=>v8w (v2 (4088+i)) 7) (Nat.mul (one (List.range 8)) 2147483648)=Q (List.range 8) fun i=>zw ((tx v2 i).drop (64*256)) 0:=by
    have e:Nat.mul (one (List.range 8)) 2147483648=Q (List.range 8) fun _=>2147483648#32:=z3k 8 2147483648#32 _ rfl
    rw [e,z3c]
    exact z3j fun i hi=>(zdp v2 i hi 0 (by omega)).symm
  have hz:∀j,1<=j->j<15->Nat.mul (one (List.range 8)) 0=Q (List.range 8) fun i=>zw ((tx v2 i).drop (64*256)) j:=by
    intro j h1 h2
    have e:Nat.mul (one (List.range 8)) 0=Q (List.range 8) fun _=>0#32:=z3k 8 0#32 _ rfl
    rw [e]
    refine z3j fun i hi=> ?_
    rw [zdp v2 i hi j (by omega)]
    have:∀j:Fin 16,1<=j.val->j.val<15->0#32=shW (longT.getD (j.val-1) 0) (longT.getD j.val 0):=by decide+kernel
    have h3:=this ⟨j,by omega⟩ h1 h2
    obtain⟨k,rfl⟩:∃k,j=k+1:=⟨j-1,by omega⟩
    simpa [List.getD_eq_getElem?_getD]using h3
  have h15:Nat.mul (one (List.range 8)) 131080=Q (List.range 8) fun i=>zw ((tx v2 i).drop (64*256)) 15:=by
    have e:Nat.mul (one (List.range 8)) 131080=Q (List.range 8) fun _=>131080#32:=z3k 8 131080#32 _ rfl
    rw [e]
    refine z3j fun i hi=> ?_
    rw [zdp v2 i hi 15 (by omega)]
    have:131080#32=shW (longT.getD 14 0) (longT.getD 15 0):=by decide+kernel
    simpa [List.getD_eq_getElem?_getD]using this
  exact z8p (List.range 8) (fun i=>(tx v2 i).drop (64*256)) v _ _ _ _ _ _ _ _ _ _ _ _ _ _ _ _ S8.mk h0 (hz 1 (by omega) (by omega)) (hz 2 (by omega) (by omega)) (hz 3 (by omega) (by omega)) (hz 4 (by omega) (by omega)) (hz 5 (by omega) (by omega)) (hz 6 (by omega) (by omega)) (hz 7 (by omega) (by omega)) (hz 8 (by omega) (by omega)) (hz 9 (by omega) (by omega)) (hz 10 (by omega) (by omega)) (hz 11 (by omega) (by omega)) (hz 12 (by omega) (by omega)) (hz 13 (by omega) (by omega)) (hz 14 (by omega) (by omega)) h15
def z7r(i:Nat):V8:=blocks 257 v0 (tx v2 i)
def s8Q(f:Nat->V8):S8:=⟨Q (List.range 8) fun i=>(f i).a,Q (List.range 8) fun i=>(f i).b,Q (List.range 8) fun i=>(f i).c,Q (List.range 8) fun i=>(f i).d,Q (List.range 8) fun i=>(f i).e,Q (List.range 8) fun i=>(f i).f,Q (List.range 8) fun i=>(f i).g,Q (List.range 8) fun i=>(f i).h⟩
theorem zw7:zc3 (M (List.range 8)) (one (List.range 8)) (M (List.range 4096)) (Q (List.range 4096) fun i=>v8w (v2 i) 0) (Q (List.range 4096) fun i=>v8w (v2 i) 1) (Q (List.range 4096) fun i=>v8w (v2 i) 2) (Q (List.range 4096) fun i=>v8w (v2 i) 3) (Q (List.range 4096) fun i=>v8w (v2 i) 4) (Q (List.range 4096) fun i=>v8w (v2 i) 5) (Q (List.range 4096) fun i=>v8w (v2 i) 6) (Q (List.range 4096) fun i=>v8w (v2 i) 7)=s8Q (z7r v2):=by
 unfold zc3
 rw [zu,zu,zu,zu,zu,zu,zu,zu,zu,zu,zu,zu,zu,zu,zu,zu,zu]
 have hp:Nat.add (Nat.mul (Nat.land (Q (List.range 4096) fun i=>v8w (v2 i) 7) zay) p512) (Nat.mul (one (List.range 8)) 4)=Q (List.range 4096) (fun l=>if l<8 then 4#32 else v8w (v2 (l-8)) 7):=by
  exact q_prev (fun i=>v8w (v2 i) 7) 4#32 4088 4096 _ 4 rfl zsl rfl
 have h0:shN (M (List.range 4096)) (Nat.add (Nat.mul (Nat.land (Q (List.range 4096) fun i=>v8w (v2 i) 7) zay) p512) (Nat.mul (one (List.range 8)) 4)) (Q (List.range 4096) fun i=>v8w (v2 i) 0)=uT v2 0:=by
  rw [hp,z3c];rfl
 have ht:∀t,shN (M (List.range 4096)) (Q (List.range 4096) fun i=>v8w (v2 i) t) (Q (List.range 4096) fun i=>v8w (v2 i) (t+1))=uT v2 (t+1):=by
  intro t
  rw [z3c]
  unfold uT pw
  simp only [if_neg (Nat.succ_ne_zero t),Nat.add_sub_cancel]
 have hz:Nat.land (Nat.shiftRight (Q (List.range 4096) fun i=>v8w (v2 i) 7) 261632) m512=Q (List.range 8) fun i=>v8w (v2 (4088+i)) 7:=by
  rw [zax]
  exact z7c (fun i=>v8w (v2 i) 7) (N:=4096) (a:=4088) (c:=8) (by omega)
 rw [h0,ht 0,ht 1,ht 2,ht 3,ht 4,ht 5,ht 6,hz]
 have hi:∀(c:W) (k:Nat),c.toNat=k->Nat.mul (one (List.range 8)) k=Q (List.range 8) fun _=>c:=z3k 8
 have r:=zih v2 (zav (M (List.range 8)) (one (List.range 8)) (Q (List.range 8) fun i=>v8w (v2 (4088+i)) 7)) 256 0 (fun _=>v0) rfl
 have na:Nat.mul (one (List.range 8)) 1779033703=Q (List.range 8) fun _=>v0.a:=hi 1779033703#32 _ rfl
 have nb:Nat.mul (one (List.range 8)) 3144134277=Q (List.range 8) fun _=>v0.b:=hi 3144134277#32 _ rfl
 have nc:Nat.mul (one (List.range 8)) 1013904242=Q (List.range 8) fun _=>v0.c:=hi 1013904242#32 _ rfl
 have nd:Nat.mul (one (List.range 8)) 2773480762=Q (List.range 8) fun _=>v0.d:=hi 2773480762#32 _ rfl
 have ne:Nat.mul (one (List.range 8)) 1359893119=Q (List.range 8) fun _=>v0.e:=hi 1359893119#32 _ rfl
 have nf:Nat.mul (one (List.range 8)) 2600822924=Q (List.range 8) fun _=>v0.f:=hi 2600822924#32 _ rfl
 have ng:Nat.mul (one (List.range 8)) 528734635=Q (List.range 8) fun _=>v0.g:=hi 528734635#32 _ rfl
 have nh:Nat.mul (one (List.range 8)) 1541459225=Q (List.range 8) fun _=>v0.h:=hi 1541459225#32 _ rfl
 rw [na,nb,nc,nd,ne,nf,ng,nh]
 refine r.trans ?_
 refine(zqn v2 (fun i=>blocks 256 v0 ((padS (4::enc (z22 v2 i))).drop (64*0)))).trans ?_
 unfold s8Q z7r
 have e:∀i,blocks 257 v0 (tx v2 i)=mixS (blocks 256 v0 ((padS (4::enc (z22 v2 i))).drop (64*0))) ((tx v2 i).drop (64*256)):=fun i=>zgg 256 v0 _
 simp only [e]
end
section
variable (v1:Nat->V8)
def sh2(l:Nat):V8:=mixS v0 (padS (3::outV (v1 l)))
theorem zuh:zby (M (List.range 8)) (one (List.range 8)) (M (List.range 4096)) (one (List.range 4096)) (Q (List.range 4096) fun i=>(v1 i).a) (Q (List.range 4096) fun i=>(v1 i).b) (Q (List.range 4096) fun i=>(v1 i).c) (Q (List.range 4096) fun i=>(v1 i).d) (Q (List.range 4096) fun i=>(v1 i).e) (Q (List.range 4096) fun i=>(v1 i).f) (Q (List.range 4096) fun i=>(v1 i).g) (Q (List.range 4096) fun i=>(v1 i).h)=s8Q (z7r (sh2 v1)):=by
 unfold zby
 rw [zu,zu,zu,zu,zu,zu,zu,zu,zu,zu,zu,zu,zu,zu,zu,zu,zu,zu,zu]
 have hc:∀(c:W) (k:Nat),c.toNat=k->Nat.mul (one (List.range 4096)) k=Q (List.range 4096) fun _=>c:=z3k 4096
 have sw:∀j,j<16->∀i,shW ((3#32::((v1 i).l++padT)).getD j 0) ((3#32::((v1 i).l++padT)).getD (j+1) 0)=zw (padS (3::outV (v1 i))) j:=fun j hj i=>(zui (v1 i) j hj).symm
 have c3:Nat.mul (one (List.range 4096)) 3=Q (List.range 4096) fun _=>3#32:=hc 3#32 _ rfl
 have c8:Nat.mul (one (List.range 4096)) 2147483648=Q (List.range 4096) fun _=>2147483648#32:=hc 2147483648#32 _ rfl
 have c0:Nat.mul (one (List.range 4096)) 0=Q (List.range 4096) fun _=>0#32:=hc 0#32 _ rfl
 have cF:Nat.mul (one (List.range 4096)) 264=Q (List.range 4096) fun _=>264#32:=hc 264#32 _ rfl
 rw [c3,c8,c0,cF]
 have na:Nat.mul (one (List.range 4096)) 1779033703=Q (List.range 4096) fun _=>v0.a:=hc 1779033703#32 _ rfl
 have nb:Nat.mul (one (List.range 4096)) 3144134277=Q (List.range 4096) fun _=>v0.b:=hc 3144134277#32 _ rfl
 have nc:Nat.mul (one (List.range 4096)) 1013904242=Q (List.range 4096) fun _=>v0.c:=hc 1013904242#32 _ rfl
 have nd:Nat.mul (one (List.range 4096)) 2773480762=Q (List.range 4096) fun _=>v0.d:=hc 2773480762#32 _ rfl
 have ne:Nat.mul (one (List.range 4096)) 1359893119=Q (List.range 4096) fun _=>v0.e:=hc 1359893119#32 _ rfl
 have nf:Nat.mul (one (List.range 4096)) 2600822924=Q (List.range 4096) fun _=>v0.f:=hc 2600822924#32 _ rfl
 have ng:Nat.mul (one (List.range 4096)) 528734635=Q (List.range 4096) fun _=>v0.g:=hc 528734635#32 _ rfl
 have nh:Nat.mul (one (List.range 4096)) 1541459225=Q (List.range 4096) fun _=>v0.h:=hc 1541459225#32 _ rfl
 rw [na,nb,nc,nd,ne,nf,ng,nh]
 have w0:∀i,zw (padS (3::outV (v1 i))) 0=shW 3#32 (v1 i).a:=fun i=>(sw 0 (by omega) i).symm.trans rfl
 have w1:∀i,zw (padS (3::outV (v1 i))) 1=shW (v1 i).a (v1 i).b:=fun i=>(sw 1 (by omega) i).symm.trans rfl
 have w2:∀i,zw (padS (3::outV (v1 i))) 2=shW (v1 i).b (v1 i).c:=fun i=>(sw 2 (by omega) i).symm.trans rfl
 have w3:∀i,zw (padS (3::outV (v1 i))) 3=shW (v1 i).c (v1 i).d:=fun i=>(sw 3 (by omega) i).symm.trans rfl
 have w4:∀i,zw (padS (3::outV (v1 i))) 4=shW (v1 i).d (v1 i).e:=fun i=>(sw 4 (by omega) i).symm.trans rfl
 have w5:∀i,zw (padS (3::outV (v1 i))) 5=shW (v1 i).e (v1 i).f:=fun i=>(sw 5 (by omega) i).symm.trans rfl
 have w6:∀i,zw (padS (3::outV (v1 i))) 6=shW (v1 i).f (v1 i).g:=fun i=>(sw 6 (by omega) i).symm.trans rfl
 have w7:∀i,zw (padS (3::outV (v1 i))) 7=shW (v1 i).g (v1 i).h:=fun i=>(sw 7 (by omega) i).symm.trans rfl
 have w8:∀i,zw (padS (3::outV (v1 i))) 8=shW (v1 i).h 2147483648#32:=fun i=>(sw 8 (by omega) i).symm.trans rfl
 have w9:∀i,zw (padS (3::outV (v1 i))) 9=0#32:=fun i=>(sw 9 (by omega) i).symm.trans (by show shW 2147483648#32 0#32=_;decide+kernel)
 have w10:∀i,zw (padS (3::outV (v1 i))) 10=0#32:=fun i=>(sw 10 (by omega) i).symm.trans (by show shW 0#32 0#32=_;decide+kernel)
 have w11:∀i,zw (padS (3::outV (v1 i))) 11=0#32:=fun i=>(sw 11 (by omega) i).symm.trans (by show shW 0#32 0#32=_;decide+kernel)
 have w12:∀i,zw (padS (3::outV (v1 i))) 12=0#32:=fun i=>(sw 12 (by omega) i).symm.trans (by show shW 0#32 0#32=_;decide+kernel)
 have w13:∀i,zw (padS (3::outV (v1 i))) 13=0#32:=fun i=>(sw 13 (by omega) i).symm.trans (by show shW 0#32 0#32=_;decide+kernel)
 have w14:∀i,zw (padS (3::outV (v1 i))) 14=0#32:=fun i=>(sw 14 (by omega) i).symm.trans (by show shW 0#32 0#32=_;decide+kernel)
 have w15:∀i,zw (padS (3::outV (v1 i))) 15=264#32:=fun i=>(sw 15 (by omega) i).symm.trans (by show shW 0#32 67584#32=_;decide+kernel)
 refine(z8p (List.range 4096) (fun i=>padS (3::outV (v1 i))) (fun _=>v0) _ _ _ _ _ _ _ _ _ _ _ _ _ _ _ _ (zc3 (M (List.range 8)) (one (List.range 8)) (M (List.range 4096))) (by simp only [w0];exact z3c _ _ _) (by simp only [w1];exact z3c _ _ _) (by simp only [w2];exact z3c _ _ _) (by simp only [w3];exact z3c _ _ _) (by simp only [w4];exact z3c _ _ _) (by simp only [w5];exact z3c _ _ _) (by simp only [w6];exact z3c _ _ _) (by simp only [w7];exact z3c _ _ _) (by simp only [w8];exact z3c _ _ _) (by simp only [w9]) (by simp only [w10]) (by simp only [w11]) (by simp only [w12]) (by simp only [w13]) (by simp only [w14]) (by simp only [w15])).trans ?_
 exact zw7 (sh2 v1)
end
set_option exponentiation.threshold 300000 in
theorem zqp(wf:Nat->Nat->Nat)(msg:Nat->List UInt8)(hm:∀l j,j<16->zw (padS (msg l)) j=BitVec.ofNat 32 (wf j l))(hb:∀j l,wf j l<2^64):z7q wf=s8Q (z7r (sh2 fun l=>mixS v0 (padS (msg l)))):=by
 unfold z7q
 rw [zu,zu,zu,zu,zu,zu,zu,zu,zu,zu,zu,zu,zu,zu,zu,zu,zu,zu,zu,zu,zu,zu,zu,zu,zu,zu,zu,zu]
 rw [M_is,M_is,z6b,z6b]
 have hc:∀(c:W) (k:Nat),c.toNat=k->Nat.mul (one (List.range 4096)) k=Q (List.range 4096) fun _=>c:=z3k 4096
 have na:Nat.mul (one (List.range 4096)) 1779033703=Q (List.range 4096) fun _=>v0.a:=hc 1779033703#32 _ rfl
 have nb:Nat.mul (one (List.range 4096)) 3144134277=Q (List.range 4096) fun _=>v0.b:=hc 3144134277#32 _ rfl
 have nc:Nat.mul (one (List.range 4096)) 1013904242=Q (List.range 4096) fun _=>v0.c:=hc 1013904242#32 _ rfl
 have nd:Nat.mul (one (List.range 4096)) 2773480762=Q (List.range 4096) fun _=>v0.d:=hc 2773480762#32 _ rfl
 have ne:Nat.mul (one (List.range 4096)) 1359893119=Q (List.range 4096) fun _=>v0.e:=hc 1359893119#32 _ rfl
 have nf:Nat.mul (one (List.range 4096)) 2600822924=Q (List.range 4096) fun _=>v0.f:=hc 2600822924#32 _ rfl
 have ng:Nat.mul (one (List.range 4096)) 528734635=Q (List.range 4096) fun _=>v0.g:=hc 528734635#32 _ rfl
 have nh:Nat.mul (one (List.range 4096)) 1541459225=Q (List.range 4096) fun _=>v0.h:=hc 1541459225#32 _ rfl
 rw [na,nb,nc,nd,ne,nf,ng,nh]
 have hw:∀j,j<16->Nat.land (pkR (wf j) 4096 0) (M (List.range 4096))=Q (List.range 4096) fun l=>zw (padS (msg l)) j:=by
  intro j hj
  rw [zb2,Nat.mul_zero,Nat.add_zero]
  exact z6x _ _ (hb j) fun i=>(hm i j hj).symm
 refine(z8p (List.range 4096) (fun i=>padS (msg i)) (fun _=>v0) _ _ _ _ _ _ _ _ _ _ _ _ _ _ _ _ (zby (M (List.range 8)) (one (List.range 8)) (M (List.range 4096)) (one (List.range 4096))) (hw 0 (by omega)) (hw 1 (by omega)) (hw 2 (by omega)) (hw 3 (by omega)) (hw 4 (by omega)) (hw 5 (by omega)) (hw 6 (by omega)) (hw 7 (by omega)) (hw 8 (by omega)) (hw 9 (by omega)) (hw 10 (by omega)) (hw 11 (by omega)) (hw 12 (by omega)) (hw 13 (by omega)) (hw 14 (by omega)) (hw 15 (by omega))).trans ?_
 exact zuh fun l=>mixS v0 (padS (msg l))
end
section
theorem rl_c{k:Nat}:∀(l:List W),RLs k (ws l)
 | []=>by simp [ws,RLs]
 | _::l=>by have:=rl_c (k:=k) l;simp only [ws]at this;simp [ws,wc,RLs,RL,this]
theorem z5p{k:Nat}{l:List AV}(h:RLs k l):RL k (.agg l):=by simpa only [RL]using h
theorem zc5(O:Store)(x:W)(k:Int)(h:0<k/\ k<32):ACallsTo TC 70 [.int .u32 x.toNat,.int .u32 k] O (.int .u32 (x.rotateLeft (32-k.toNat)).toNat) O:=by
 refine ACallsTo.of_body q9ok (by simp) fun hw _=> ?_
 repeat' (first|apply zs_|apply zb_|apply zc_|apply zt_ rfl|apply zf_ rfl|(apply zd_ rfl<;>intro ht<;>try omega)|((first|apply zr_|apply zk_|apply ze_|apply zq_|(apply zG<;>intro ht));all_goals try simp (disch:=first|omega|(simp only [lens];first|done|omega)) only [go_sem]))
 have e:(x>>>k.toNat |||x<<<(32-k).toNat)=x.rotateLeft (32-k.toNat):=by
  obtain⟨n,rfl⟩:∃n:Nat,k=n:=⟨k.toNat,by omega⟩
  have e1:((32:Int)-n).toNat=32-n:=by omega
  rw [e1,Int.toNat_natCast,BitVec.rotateLeft_def,BitVec.or_comm]
  have:(32-n)%32=32-n:=Nat.mod_eq_of_lt (by omega)
  rw [this]
  congr 2
  omega
 rw [e]
 exact DownV.same hw (z1n _ rfl)
theorem zwn(s:List UInt8)(i:Nat):IntKind.u32.wrap ((getS ((s.drop (4*i)).take 4):Nat):Int)=((zw s i).toNat:Int):=by
 rw [z9t,zw,BitVec.toNat_ofNat];rfl
theorem znq{w:List W}{x:W}{n:Nat}(h:w.length=n)(hn:n<64):(ws w++List.replicate (64-n) (AV.int .u32 0)).take n++AV.int .u32 x.toNat::(ws w++List.replicate (64-n) (AV.int .u32 0)).drop (n+1)=ws (w++ [x])++List.replicate (64-(n+1)) (AV.int .u32 0):=by
 have hl:(ws w).length=n:=by rw [z3u,h]
 have e:64-n=(64-(n+1))+1:=by omega
 rw [List.take_append_of_le_length (by omega),List.take_of_length_le (by omega),List.drop_append,List.drop_of_length_le (by omega),hl]
 rw [show n+1-n=1 by omega,e,List.replicate_succ,List.drop_succ_cons,List.drop_zero,List.nil_append]
 simp [ws,wc]
theorem zvg(O:Store)(s:List UInt8)(h:64<=s.length)(hs:s.length<9223372036854775808):ACallsTo TC 73 [.str s] O (.agg (ws (z12 s 64))) O:=by
 obtain⟨R,hR⟩:∃R,R=z12 s 64:=⟨_,rfl⟩
 rw [<-hR]
 refine ACallsTo.of_body qcok (by simp) fun hw _=> ?_
 repeat' (first|apply zs_|apply zb_|apply zc_|apply zt_ rfl|apply zf_ rfl|(apply zd_ rfl<;>intro ht<;>try omega)|((first|apply zr_|apply zk_|apply ze_|apply zq_|(apply zG<;>intro ht));all_goals try simp (disch:=first|omega|(simp only [lens];first|done|omega)) only [go_sem]))
 refine zW.loop (fun m J O'=>∃i:Nat,m+i=64/\ J 0=.str s/\ J 2=.ptr O.length 0 0/\ J 6=.int .i64 i/\ O'=O++ [some [ws (z12 s i)++List.replicate (64-i) (AV.int .u32 0)]]) 64 ?_ ?_
 ·exact⟨0,by omega,by simp (disch:=first|omega|(simp only [lens];first|done|omega)) only [go_sem],by simp (disch:=first|omega|(simp only [lens];first|done|omega)) only [go_sem],by simp (disch:=first|omega|(simp only [lens];first|done|omega)) only [go_sem];rfl,rfl⟩
 ·rintro m J O' ⟨i,hm,q0,q2,q6,rfl⟩
  have hsl:=z45 s i
  have hset:=fun x=>znq (x:=x) hsl
  have hwi:∀j,j<i->(ws (z12 s i)++List.replicate (64-i) (AV.int .u32 0))[j]? =some (.int .u32 (wat (z12 s i) j).toNat):=by
   intro j hj
   rw [List.getElem?_append_left (by rw [z3u];omega),z86 (by omega)]
  have hlen:(ws (z12 s i)++List.replicate (64-i) (AV.int .u32 0)).length=64 \/64<i:=by
   simp [z3u,hsl];omega
  by_cases hi:i<64
  ·have hlen:(ws (z12 s i)++List.replicate (64-i) (AV.int .u32 0)).length=64:=by omega
   generalize hcc:ws (z12 s i)++List.replicate (64-i) (AV.int .u32 0)=cc at*
   by_cases h16:i<16
   ·have hd1:(s.take (4*i+4)).length=4*i+4:=by rw [List.length_take];omega
    repeat' (first|apply zs_|apply zb_|apply zc_|apply zt_ rfl|apply zf_ rfl|(apply zd_ rfl<;>intro ht<;>try omega)|((first|apply zr_|apply zk_|apply ze_|apply zq_|(apply callW.mk_pu;(first|exact(fun _=>zgf _ _ (by simp;omega))))|(apply callW.za;(first|exact(zgf _ _ (by simp;omega))))|(apply zG<;>intro ht));all_goals try simp (disch:=first|omega|(simp only [lens];first|done|omega)) only [go_sem,q0,q2,q6,hlen]))
    have ev:((getS ((s.take (4*(i:Int)+4).toNat).drop (4*(i:Int)).toNat):Nat):Int)%4294967296=((z2w s (z12 s i)).toNat:Int):=by
     rw [show (4*(i:Int)+4).toNat=4*i+4 by omega,show (4*(i:Int)).toNat=4*i by omega,List.drop_take,show 4*i+4-4*i=4 by omega]
     have:=zwn s i
     rw [z9t]at this
     rw [this,z2w,if_pos (by omega),hsl]
    refine⟨64-(i+1),by omega,i+1,by omega,by simp,?_⟩
    rw [ev,hset _ hi,z12]
   ·have en:z2w s (z12 s i)=wat (z12 s i) (i-16)+wat (z12 s i) (i-7)+ss0 (wat (z12 s i) (i-15))+ss1 (wat (z12 s i) (i-2)):=by rw [z2w,if_neg (by omega),hsl]
    have g16:=hwi (i-16) (by omega)
    have g7:=hwi (i-7) (by omega)
    have g15:=hwi (i-15) (by omega)
    have g2:=hwi (i-2) (by omega)
    have t16:((i:Int)-16).toNat=i-16:=by omega
    have t7:((i:Int)-7).toNat=i-7:=by omega
    have t15:((i:Int)-15).toNat=i-15:=by omega
    have t2:((i:Int)-2).toNat=i-2:=by omega
    generalize wat (z12 s i) (i-16)=w16 at*
    generalize wat (z12 s i) (i-7)=w7 at*
    generalize wat (z12 s i) (i-15)=w15 at*
    generalize wat (z12 s i) (i-2)=w2 at*
    have r7:((-7:Int)%32).toNat=25:=rfl
    have r18:((-18:Int)%32).toNat=14:=rfl
    have r17:((-17:Int)%32).toNat=15:=rfl
    have r19:((-19:Int)%32).toNat=13:=rfl
    have en2:=hset (z2w s (z12 s i)) hi
    rw [en]at en2
    simp only [ss0,ss1]at en2
    repeat' (first|apply zs_|apply zb_|apply zc_|apply zt_ rfl|apply zf_ rfl|(apply zd_ rfl<;>intro ht<;>try omega)|((first|apply zr_|apply zk_|apply ze_|apply zq_|(apply callW.mk_pu;(first|exact(fun _=>zab _ _ _)))|(apply callW.za;(first|exact(zab _ _ _)))|(apply zG<;>intro ht));all_goals try simp (disch:=first|omega|(simp only [lens];first|done|omega)) only [go_sem,q0,q2,q6,hlen,g16,g7,g15,g2,t16,t7,t15,t2,r7,r18,r17,r19]))
    refine⟨64-(i+1),by omega,i+1,by omega,by simp,?_⟩
    rw [en2,z12,en]
    simp only [ss0,ss1]
  ·have e:i=64:=by omega
   have eR:z12 s i=R:=by rw [hR,e]
   have hsR:R.length=64:=by rw [<-eR,hsl,e]
   have hl64:(ws R).length=64:=by rw [z3u,hsR]
   have e0:List.replicate (64-i) (AV.int .u32 0)=[]:=by rw [e];rfl
   rw [eR,e0,List.append_nil]at*
   clear hwi hset hlen hR
   have hd:(ws R).drop 64=[]:=List.drop_of_length_le (by omega)
   repeat' (first|apply zs_|apply zb_|apply zc_|apply zt_ rfl|apply zf_ rfl|(apply zd_ rfl<;>intro ht<;>try omega)|((first|apply zr_|apply zk_|apply ze_|apply zq_|(apply zG<;>intro ht));all_goals try simp (disch:=first|omega|(simp only [lens];first|done|omega)) only [go_sem,q0,q2,q6,hl64,hd]))
   exact DownV.pure hw (z5p (rl_c _))
end
section
def V8.c8(v:V8):List AV:=[.int .u32 v.a.toNat,.int .u32 v.b.toNat,.int .u32 v.c.toNat,.int .u32 v.d.toNat,.int .u32 v.e.toNat,.int .u32 v.f.toNat,.int .u32 v.g.toNat,.int .u32 v.h.toNat]
theorem ws_l(v:V8):ws v.l=v.c8:=rfl
theorem zib{i:Nat}(h:i<64):(gl_sha_rounds.drop i)[0]? =some (.int .u32 (kAt i).toNat):=by
 have hall:∀j:Fin 64,(gl_sha_rounds.drop j.val)[0]? =some (.int .u32 (kAt j.val).toNat):=by
  intro j
  have h2:(gl_sha_rounds.drop j.val)[0]? =some (AV.int .u32 (shaRounds.getD j.val 0)):=by
   have hl:shaRounds.length=64:=rfl
   simp only [gl_sha_rounds,List.getElem?_drop,Nat.add_zero,List.getElem?_map,List.getD_eq_getElem?_getD]
   rw [List.getElem?_eq_getElem (by rw [hl];exact j.isLt)];rfl
  rw [h2]
  have h3:∀j:Fin 64,shaRounds.getD j.val 0=((kAt j.val).toNat:Int):=by decide
  rw [h3 j]
 exact hall ⟨i,h⟩
theorem z8v:gl_sha_rounds.length=64:=rfl
theorem mix_to(O:Store)(v:V8)(s:List UInt8)(h:64<=s.length)(hs:s.length<9223372036854775808):ACallsTo TC 59 [.agg (ws v.l),.str s] O (.agg (ws (mixS v s).l)) O:=by
 obtain⟨R,hR⟩:∃R,R=z12 s 64:=⟨_,rfl⟩
 have hsp:=fun O=>zvg O s h hs
 rw [<-hR]at hsp
 have hRl:R.length=64:=by rw [hR,z45]
 have hwR:(ws R).length=64:=by rw [z3u,hRl]
 have hst:∀n,rnds s v (n+1)=rnd (rnds s v n) (kAt n) (wat R n):=fun n=>by rw [rnds,hR]
 obtain⟨F,hF⟩:∃F,F=(rnds s v 64).add v:=⟨_,rfl⟩
 have hmix:mixS v s=F:=hF.symm
 rw [hmix,ws_l,ws_l]
 clear hmix
 refine ACallsTo.of_body qbok (by simp) fun hw _=> ?_
 unfold V8.c8
 repeat' (first|apply zs_|apply zb_|apply zc_|apply zt_ rfl|apply zf_ rfl|(apply zd_ rfl<;>intro ht<;>try omega)|((first|apply zr_|apply zk_|apply ze_|apply zq_|(apply callW.mk_pu;(first|exact(fun _=>hsp _)))|(apply callW.za;(first|exact(hsp _)))|(apply zG<;>intro ht));all_goals try simp (disch:=first|omega|(simp only [lens];first|done|omega)) only [go_sem]))
 refine zW.loop (fun m J O'=>∃i:Nat,m+i=64/\ J 2=.ptr O.length 0 0/\ J 4=.ptr (O.length+1) 0 0/\ J 5=.ptr (O.length+2) 0 0/\ J 15=.agg (ws R)/\ J 16=.int .i64 i ∧
  O'=O++ [some [v.c8],some [[AV.int .u32 0,AV.int .u32 0,AV.int .u32 0,AV.int .u32 0,AV.int .u32 0,AV.int .u32 0,AV.int .u32 0,AV.int .u32 0]],some [(rnds s v i).c8]]) 64 ?_ ?_
 ·exact⟨0,by omega,by simp (disch:=first|omega|(simp only [lens];first|done|omega)) only [go_sem],by simp (disch:=first|omega|(simp only [lens];first|done|omega)) only [go_sem],by simp (disch:=first|omega|(simp only [lens];first|done|omega)) only [go_sem],by simp (disch:=first|omega|(simp only [lens];first|done|omega)) only [go_sem],by simp (disch:=first|omega|(simp only [lens];first|done|omega)) only [go_sem];rfl,rfl⟩
 ·rintro m J O' ⟨i,hm,q2,q4,q5,q15,q16,rfl⟩
  by_cases hi:i<64
  ·have hk:=zib hi
   have hw:=z86 (w:=R) (i:=i) (by omega)
   have hst:=hst i
   generalize rnds s v i=u at*
   obtain⟨a,b,c,d,e,f,g,h⟩:=u
   generalize kAt i=kk at*
   generalize wat R i=ww at*
   have r6:((-6:Int)%32).toNat=26:=rfl
   have r11:((-11:Int)%32).toNat=21:=rfl
   have r25:((-25:Int)%32).toNat=7:=rfl
   have r2:((-2:Int)%32).toNat=30:=rfl
   have r13:((-13:Int)%32).toNat=19:=rfl
   have r22:((-22:Int)%32).toNat=10:=rfl
   refine zs_ ?_
   refine zr_ ?_
   simp (disch:=first|omega|(simp only [lens];first|done|omega)) only [go_sem,q16]
   refine zs_ ?_
   refine zt_ rfl ?_
   refine zk_ ?_
   simp (disch:=first|omega|(simp only [lens];first|done|omega)) only [go_sem]
   refine zs_ ?_
   refine zb_ ?_
   refine zs_ ?_
   refine zW.regS ?_
   simp (disch:=first|omega|(simp only [lens];first|done|omega)) only [go_sem,q15,q16,hwR,hw]
   (refine zW.slots [2,4,5,6,7,15,16] ?_;intro J1 hs;simp (disch:=first|omega|(simp only [lens];first|done|omega)) only [go_sem,q2,q4,q5,q15,q16]at hs;obtain⟨s2,s4,s5,s6,s7,s15,s16⟩:=hs)
   refine zs_ ?_
   refine zW.regS ?_
   simp (disch:=first|omega|(simp only [lens];first|done|omega)) only [go_sem,s5,V8.c8]
   (refine zW.slots [2,4,5,6,7,8,9,15,16] ?_;intro J2 hs;simp (disch:=first|omega|(simp only [lens];first|done|omega)) only [go_sem,s2,s4,s5,s6,s7,s15,s16]at hs;obtain⟨s2,s4,s5,s6,s7,s8,s9,s15,s16⟩:=hs)
   refine zs_ ?_
   (refine zW.regS ?_;(simp (disch:=first|omega|(simp only [lens];first|done|omega)) only [go_sem,s2,s4,s5,s6,s7,s8,s9,V8.c8,hk,z8v,r6,r11,r25]);repeat' (apply callW.za;(first|exact(zab _ _ _));all_goals try (simp (disch:=first|omega|(simp only [lens];first|done|omega)) only [go_sem,s2,s4,s5,s6,s7,s8,s9,V8.c8,hk,z8v,r6,r11,r25])))
   (refine zW.slots [2,4,5,8,9,10,15,16] ?_;intro J3 hs;simp (disch:=first|omega|(simp only [lens];first|done|omega)) only [go_sem,s2,s4,s5,s8,s9,s15,s16]at hs;obtain⟨s2,s4,s5,s8,s9,s10,s15,s16⟩:=hs)
   refine zs_ ?_
   (refine zW.regS ?_;(simp (disch:=first|omega|(simp only [lens];first|done|omega)) only [go_sem,s5,s8,s9,V8.c8,r2,r13,r22]);repeat' (apply callW.za;(first|exact(zab _ _ _));all_goals try (simp (disch:=first|omega|(simp only [lens];first|done|omega)) only [go_sem,s5,s8,s9,V8.c8,r2,r13,r22])))
   (refine zW.slots [2,4,5,8,9,10,11,15,16] ?_;intro J4 hs;simp (disch:=first|omega|(simp only [lens];first|done|omega)) only [go_sem,s2,s4,s5,s8,s9,s10,s15,s16]at hs;obtain⟨s2,s4,s5,s8,s9,s10,s11,s15,s16⟩:=hs)
   (refine zW.regS ?_;(simp (disch:=first|omega|(simp only [lens];first|done|omega)) only [go_sem,s5,s8,s9,s10,s11,V8.c8]))
   (refine zW.slots [2,4,5,15,16] ?_;intro J5 hs;simp (disch:=first|omega|(simp only [lens];first|done|omega)) only [go_sem,s2,s4,s5,s15,s16]at hs;obtain⟨s2,s4,s5,s15,s16⟩:=hs)
   (refine zW.regS ?_;(simp (disch:=first|omega|(simp only [lens];first|done|omega)) only [go_sem,s16]))
   refine⟨64-(i+1),by omega,i+1,by omega,s2,s4,s5,s15,by simp,?_⟩
   rw [hst]
   simp only [rnd,V8.c8,bs1,chW,bs0,majW]
  ·obtain rfl:i=64:=by omega
   clear hst
   generalize rnds s v 64=U at*
   rw [hF,V8.add]
   clear hF hR
   obtain⟨a,b,c,d,e,f,g,h⟩:=U
   obtain⟨a',b',c',d',e',f',g',h'⟩:=v
   simp only [V8.c8]at*
   repeat' (first|apply zs_|apply zb_|apply zc_|apply zt_ rfl|apply zf_ rfl|(apply zd_ rfl<;>intro ht<;>try omega)|((first|apply zr_|apply zk_|apply ze_|apply zq_|(apply zG<;>intro ht));all_goals try simp (disch:=first|omega|(simp only [lens];first|done|omega)) only [go_sem,q16]))
   refine zW.loop (fun m J O'=>∃j:Nat,m+j=8/\ J 2=.ptr O.length 0 0/\ J 4=.ptr (O.length+1) 0 0/\ J 5=.ptr (O.length+2) 0 0/\ J 95=.int .i64 j ∧
    O'=O++ [some [V8.c8 ⟨a',b',c',d',e',f',g',h'⟩],some [[AV.int .u32 0,AV.int .u32 0,AV.int .u32 0,AV.int .u32 0,AV.int .u32 0,AV.int .u32 0,AV.int .u32 0,AV.int .u32 0]],some [(V8.c8 ⟨a+a',b+b',c+c',d+d',e+e',f+f',g+g',h+h'⟩).take j++(V8.c8 ⟨a,b,c,d,e,f,g,h⟩).drop j]]) 8 ?_ ?_
   ·exact⟨0,by omega,by simp (disch:=first|omega|(simp only [lens];first|done|omega)) only [go_sem,q2],by simp (disch:=first|omega|(simp only [lens];first|done|omega)) only [go_sem,q4],by simp (disch:=first|omega|(simp only [lens];first|done|omega)) only [go_sem,q5],by simp (disch:=first|omega|(simp only [lens];first|done|omega)) only [go_sem];rfl,rfl⟩
   ·clear q2 q4 q5 q15 q16
    rintro m J O' ⟨j,hm,q2,q4,q5,q95,rfl⟩
    have hj:j=0 \/j=1 \/j=2 \/j=3 \/j=4 \/j=5 \/j=6 \/j=7 \/j=8:=by omega
    rcases hj with rfl|rfl|rfl|rfl|rfl|rfl|rfl|rfl|rfl
    ·repeat' (first|refine zs_ ?_|refine zb_ ?_|refine zc_ ?_|refine zt_ rfl ?_|refine zf_ rfl ?_|(refine zd_ rfl (fun ht=> ?_) (fun ht=> ?_)<;>try (exfalso;omega))|((first|refine zW.regS ?_|refine zk_ ?_|refine ze_ ?_|refine zq_ ?_|(apply zG<;>intro ht));all_goals try simp (disch:=first|omega|(simp only [lens];first|done|omega)) only [go_sem,q2,q4,q5,q95,V8.c8]))
     exact⟨7,by omega,1,by omega,rfl,rfl⟩
    ·repeat' (first|refine zs_ ?_|refine zb_ ?_|refine zc_ ?_|refine zt_ rfl ?_|refine zf_ rfl ?_|(refine zd_ rfl (fun ht=> ?_) (fun ht=> ?_)<;>try (exfalso;omega))|((first|refine zW.regS ?_|refine zk_ ?_|refine ze_ ?_|refine zq_ ?_|(apply zG<;>intro ht));all_goals try simp (disch:=first|omega|(simp only [lens];first|done|omega)) only [go_sem,q2,q4,q5,q95,V8.c8]))
     exact⟨6,by omega,2,by omega,rfl,rfl⟩
    ·repeat' (first|refine zs_ ?_|refine zb_ ?_|refine zc_ ?_|refine zt_ rfl ?_|refine zf_ rfl ?_|(refine zd_ rfl (fun ht=> ?_) (fun ht=> ?_)<;>try (exfalso;omega))|((first|refine zW.regS ?_|refine zk_ ?_|refine ze_ ?_|refine zq_ ?_|(apply zG<;>intro ht));all_goals try simp (disch:=first|omega|(simp only [lens];first|done|omega)) only [go_sem,q2,q4,q5,q95,V8.c8]))
     exact⟨5,by omega,3,by omega,rfl,rfl⟩
    ·repeat' (first|refine zs_ ?_|refine zb_ ?_|refine zc_ ?_|refine zt_ rfl ?_|refine zf_ rfl ?_|(refine zd_ rfl (fun ht=> ?_) (fun ht=> ?_)<;>try (exfalso;omega))|((first|refine zW.regS ?_|refine zk_ ?_|refine ze_ ?_|refine zq_ ?_|(apply zG<;>intro ht));all_goals try simp (disch:=first|omega|(simp only [lens];first|done|omega)) only [go_sem,q2,q4,q5,q95,V8.c8]))
     exact⟨4,by omega,4,by omega,rfl,rfl⟩
    ·repeat' (first|refine zs_ ?_|refine zb_ ?_|refine zc_ ?_|refine zt_ rfl ?_|refine zf_ rfl ?_|(refine zd_ rfl (fun ht=> ?_) (fun ht=> ?_)<;>try (exfalso;omega))|((first|refine zW.regS ?_|refine zk_ ?_|refine ze_ ?_|refine zq_ ?_|(apply zG<;>intro ht));all_goals try simp (disch:=first|omega|(simp only [lens];first|done|omega)) only [go_sem,q2,q4,q5,q95,V8.c8]))
     exact⟨3,by omega,5,by omega,rfl,rfl⟩
    ·repeat' (first|refine zs_ ?_|refine zb_ ?_|refine zc_ ?_|refine zt_ rfl ?_|refine zf_ rfl ?_|(refine zd_ rfl (fun ht=> ?_) (fun ht=> ?_)<;>try (exfalso;omega))|((first|refine zW.regS ?_|refine zk_ ?_|refine ze_ ?_|refine zq_ ?_|(apply zG<;>intro ht));all_goals try simp (disch:=first|omega|(simp only [lens];first|done|omega)) only [go_sem,q2,q4,q5,q95,V8.c8]))
     exact⟨2,by omega,6,by omega,rfl,rfl⟩
    ·repeat' (first|refine zs_ ?_|refine zb_ ?_|refine zc_ ?_|refine zt_ rfl ?_|refine zf_ rfl ?_|(refine zd_ rfl (fun ht=> ?_) (fun ht=> ?_)<;>try (exfalso;omega))|((first|refine zW.regS ?_|refine zk_ ?_|refine ze_ ?_|refine zq_ ?_|(apply zG<;>intro ht));all_goals try simp (disch:=first|omega|(simp only [lens];first|done|omega)) only [go_sem,q2,q4,q5,q95,V8.c8]))
     exact⟨1,by omega,7,by omega,rfl,rfl⟩
    ·repeat' (first|refine zs_ ?_|refine zb_ ?_|refine zc_ ?_|refine zt_ rfl ?_|refine zf_ rfl ?_|(refine zd_ rfl (fun ht=> ?_) (fun ht=> ?_)<;>try (exfalso;omega))|((first|refine zW.regS ?_|refine zk_ ?_|refine ze_ ?_|refine zq_ ?_|(apply zG<;>intro ht));all_goals try simp (disch:=first|omega|(simp only [lens];first|done|omega)) only [go_sem,q2,q4,q5,q95,V8.c8]))
     exact⟨0,by omega,8,by omega,rfl,rfl⟩
    ·repeat' (first|apply zs_|apply zb_|apply zc_|apply zt_ rfl|apply zf_ rfl|(apply zd_ rfl<;>intro ht<;>try omega)|((first|apply zr_|apply zk_|apply ze_|apply zq_|(apply zG<;>intro ht));all_goals try simp (disch:=first|omega|(simp only [lens];first|done|omega)) only [go_sem,q2,q4,q5,q95,V8.c8]))
     exact DownV.pure hw (z1n _ rfl)
end
end Am
end Go.Proofs.YtcdcmgjnbjoajaaDoor
section
/- Contracts of library functions, laid off the kit's shelf for this program. -/
namespace Go.Proofs
open Go.Shelf
def Tryd.lays169_ren : Go.Shelf.Ren := ⟨fun | 169 => 37 | n => n, fun | 70 => 77 | 9 => 9 | 0 => 0 | 72 => 79 | 37 => 75 | 127 => 110 | 3 => 3 | 5 => 5 | n => n, fun | n => n⟩
theorem Tryd.lays169 : Go.Proofs.Lays.n169 Tryd.prog Tryd.lays169_ren := {
 mixed := by kernel_rfl
 f169 := Tryd.func37.trans (congrArg some (by kernel_rfl))
 t0 := Tryd.underlying0
 a0 := Tryd.isAgg0
 z0 := Tryd.sizeOf0
 v0 := Tryd.zeroValue0
 t3 := Tryd.underlying3
 a3 := Tryd.isAgg3
 z3 := Tryd.sizeOf3
 v3 := Tryd.zeroValue3
 t9 := Tryd.underlying9
 a9 := Tryd.isAgg9
 z9 := Tryd.sizeOf9
 v9 := Tryd.zeroValue9
 t37 := Tryd.underlying75
 a37 := Tryd.isAgg75
 z37 := Tryd.sizeOf75
 v37 := Tryd.zeroValue75
 t70 := Tryd.underlying77
 a70 := Tryd.isAgg77
 z70 := Tryd.sizeOf77
 v70 := Tryd.zeroValue77
 t72 := Tryd.underlying79
 a72 := Tryd.isAgg79
 z72 := Tryd.sizeOf79
 v72 := Tryd.zeroValue79
 t127 := Tryd.underlying110
 a127 := Tryd.isAgg110
 z127 := Tryd.sizeOf110
 v127 := Tryd.zeroValue110 }
theorem Tryd.Builder_Extra_169 : Builder.Extra Tryd.prog Tryd.lays169_ren := {
 sizeBuilder := by kernel_rfl
 liesBuilder := by kernel_rfl
 t5 := Tryd.underlying5
 a5 := Tryd.isAgg5
 z5 := Tryd.sizeOf5
 v5 := Tryd.zeroValue5
 infoByte := by kernel_rfl
 cellsByte := by kernel_rfl
 sizeByte := by kernel_rfl
 neB5 := by decide }
open Go.RowKit in
theorem Tryd.Builder_String_any (B b : Nat) (l : List UInt8) (w : World) (h : Lib.IsBuilder 79 5 B b (Lib.byteCells l) w) (hBw : B <= w.heap.size) :
  Calls Tryd.prog 37 #[.pointer (some ⟨b, 0, none⟩)] w fun e w' => e = .returned (.string ⟨l.toArray⟩) /\ Below B w w' := Any.Builder_String_any Tryd.lays169 Tryd.Builder_Extra_169 B b l w h hBw
def Tryd.lays105_ren : Go.Shelf.Ren := ⟨fun | 105 => 72 | 212 => 78 | 99 => 79 | 165 => 80 | 166 => 34 | 170 => 81 | 169 => 37 | 263 => 85 | 264 => 86 | 206 => 87 | 240 => 57 | 241 => 88 | 276 => 71 | 277 => 89 | n => n, fun | 9 => 9 | 3 => 3 | 4 => 4 | 20 => 20 | 0 => 0 | 46 => 94 | 109 => 130 | 5 => 5 | 72 => 79 | 76 => 83 | 51 => 106 | 146 => 138 | 53 => 105 | 148 => 140 | 70 => 77 | 37 => 75 | 75 => 81 | 127 => 110 | 164 => 121 | 80 => 87 | n => n, fun | n => n⟩
theorem Tryd.lays105 : Go.Proofs.Lays.n105 Tryd.prog Tryd.lays105_ren := {
 mixed := by kernel_rfl
 f99 := Tryd.func79.trans (congrArg some (by kernel_rfl))
 f105 := Tryd.func72.trans (congrArg some (by kernel_rfl))
 f165 := Tryd.func80.trans (congrArg some (by kernel_rfl))
 f166 := Tryd.func34.trans (congrArg some (by kernel_rfl))
 f169 := Tryd.func37.trans (congrArg some (by kernel_rfl))
 f170 := Tryd.func81.trans (congrArg some (by kernel_rfl))
 f206 := Tryd.func87.trans (congrArg some (by kernel_rfl))
 f212 := Tryd.func78.trans (congrArg some (by kernel_rfl))
 f240 := Tryd.func57.trans (congrArg some (by kernel_rfl))
 f241 := Tryd.func88.trans (congrArg some (by kernel_rfl))
 f263 := Tryd.func85.trans (congrArg some (by kernel_rfl))
 f264 := Tryd.func86.trans (congrArg some (by kernel_rfl))
 f276 := Tryd.func71.trans (congrArg some (by kernel_rfl))
 f277 := Tryd.func89.trans (congrArg some (by kernel_rfl))
 t0 := Tryd.underlying0
 a0 := Tryd.isAgg0
 z0 := Tryd.sizeOf0
 v0 := Tryd.zeroValue0
 t3 := Tryd.underlying3
 a3 := Tryd.isAgg3
 z3 := Tryd.sizeOf3
 v3 := Tryd.zeroValue3
 t4 := Tryd.underlying4
 a4 := Tryd.isAgg4
 z4 := Tryd.sizeOf4
 v4 := Tryd.zeroValue4
 t5 := Tryd.underlying5
 a5 := Tryd.isAgg5
 z5 := Tryd.sizeOf5
 v5 := Tryd.zeroValue5
 t9 := Tryd.underlying9
 a9 := Tryd.isAgg9
 z9 := Tryd.sizeOf9
 v9 := Tryd.zeroValue9
 t20 := Tryd.underlying20
 a20 := Tryd.isAgg20
 z20 := Tryd.sizeOf20
 v20 := Tryd.zeroValue20
 t37 := Tryd.underlying75
 a37 := Tryd.isAgg75
 z37 := Tryd.sizeOf75
 v37 := Tryd.zeroValue75
 t46 := Tryd.underlying94
 a46 := Tryd.isAgg94
 z46 := Tryd.sizeOf94
 v46 := Tryd.zeroValue94
 t51 := Tryd.underlying106
 a51 := Tryd.isAgg106
 z51 := Tryd.sizeOf106
 v51 := Tryd.zeroValue106
 t53 := Tryd.underlying105
 a53 := Tryd.isAgg105
 z53 := Tryd.sizeOf105
 v53 := Tryd.zeroValue105
 t70 := Tryd.underlying77
 a70 := Tryd.isAgg77
 z70 := Tryd.sizeOf77
 v70 := Tryd.zeroValue77
 t72 := Tryd.underlying79
 a72 := Tryd.isAgg79
 z72 := Tryd.sizeOf79
 v72 := Tryd.zeroValue79
 t75 := Tryd.underlying81
 a75 := Tryd.isAgg81
 z75 := Tryd.sizeOf81
 v75 := Tryd.zeroValue81
 t76 := Tryd.underlying83
 a76 := Tryd.isAgg83
 z76 := Tryd.sizeOf83
 v76 := Tryd.zeroValue83
 t109 := Tryd.underlying130
 a109 := Tryd.isAgg130
 z109 := Tryd.sizeOf130
 v109 := Tryd.zeroValue130
 t127 := Tryd.underlying110
 a127 := Tryd.isAgg110
 z127 := Tryd.sizeOf110
 v127 := Tryd.zeroValue110
 t146 := Tryd.underlying138
 a146 := Tryd.isAgg138
 z146 := Tryd.sizeOf138
 v146 := Tryd.zeroValue138
 t148 := Tryd.underlying140
 a148 := Tryd.isAgg140
 z148 := Tryd.sizeOf140
 v148 := Tryd.zeroValue140
 t164 := Tryd.underlying121
 a164 := Tryd.isAgg121
 z164 := Tryd.sizeOf121
 v164 := Tryd.zeroValue121 }
theorem Tryd.Builder_Extra_105 : Builder.Extra Tryd.prog Tryd.lays105_ren := {
 sizeBuilder := by kernel_rfl
 liesBuilder := by kernel_rfl
 t5 := Tryd.underlying5
 a5 := Tryd.isAgg5
 z5 := Tryd.sizeOf5
 v5 := Tryd.zeroValue5
 infoByte := by kernel_rfl
 cellsByte := by kernel_rfl
 sizeByte := by kernel_rfl
 neB5 := by decide }
open Go.RowKit Go.Lib in
theorem Tryd.strings_Repeat (s : ByteArray) (c : Nat) (w : World) (hc : c <= 9223372036854775807) (hlen : s.size * c <= 140737488355328) :
  Calls Tryd.prog 72 #[.string s, .int .i64 c] w fun e w' => e = .returned (.string ⟨(Lib.repeatL s.data.toList c).toArray⟩) /\ Below w.heap.size w w' := Any.strings_Repeat Tryd.lays105 Tryd.Builder_Extra_105 s c w hc hlen
end Go.Proofs
end
namespace Go.Proofs.YtcdcmgjnbjoajaaDoor
namespace Am
section
open Go.RowKit
def z13(l:List UInt8):List AV:=l.map fun b=> .int .u8 b.toNat
theorem z3b{k:Nat}:∀(l:List UInt8),RLs k (z13 l)
 | []=>by simp [z13,RLs]
 | _::l=>by have:=z3b (k:=k) l;simp only [z13]at this;simp [z13,RLs,RL,this]
theorem Rel.below{C:Ctx}{Z:Places}{O:Store}{w w':World}(h:Rel C Z O w)(hb:Below w.heap.size w w'):Step Z w Z w'/\ Rel C Z O w':=by
 have hs:Step Z w Z w':=⟨fun r fl pl h=>⟨fl,h⟩,hb.size,fun b hb' _=>hb.block b hb',fun r pl h=> .inl ⟨r,pl,h,rfl⟩,hb.os,hb.tape,hb.output⟩
 refine⟨hs,h.len,fun r o hr=> ?_,h.dead,h.inj,fun g cs hg=>(h.gl g cs hg).mono hs⟩
 obtain⟨pl,h1,h2⟩:=h.alive r o hr
 exact⟨pl,h1,h2.mono hs (hb.block _ h2.lt)⟩
theorem ACallsTo.of_calls{C:Ctx}{f:FuncId}{args:List AV}{O:Store}{v:AV}(hc:(cFn C f).isSome=true)
  (h:∀(Z:Places) (w:World) (cargs:List Value),VRt Z w args cargs->Calls C.P f cargs.toArray w fun e w'=>∃cv,e=.returned cv/\ VR Z w' v cv/\ Below w.heap.size w w'):ACallsTo C f args O v O:=by
 obtain⟨e,hc⟩:=Option.isSome_iff_exists.1 hc
 simp only [cFn,Option.bind_eq_some_iff]at hc
 obtain⟨fn,hf,hc⟩:=hc
 split at hc
 ·cases hc
 ·rename_i hname
  simp only [Option.bind_eq_some_iff,Option.map_eq_some_iff]at hc
  obtain⟨c,hb,_⟩:=hc
  intro Z w cargs hR ha
  left
  constructor
  ·have h1:fn.name ≠ "runtime.NumGoroutine" :=by simpa using hname
   simp [callFunc,hf,h1,hb]
  ·refine(h Z w cargs ha).mono ?_
   rintro e w' ⟨cv,rfl,hv,hbl⟩
   obtain⟨s1,s2⟩:=hR.below hbl
   exact⟨cv,Z,rfl,s1,s2,hv⟩
theorem zti(b:UInt8):∀n,Lib.repeatL [b] n=List.replicate n b:=by
 intro n
 induction n with
 |zero=>simp [Lib.repeatL]
 |succ n ih=>simp [Lib.repeatL,List.replicate_succ]at ih ⊢ <;>simp [ih]
theorem zjw(O:Store)(b:UInt8)(c:Nat)(h:c<=1000000):ACallsTo TC 72 [.str [b],.int .i64 c] O (.str (List.replicate c b)) O:=by
 refine ACallsTo.of_calls (by kernel_rfl) ?_
 intro Z w cargs ha
 simp only [VRt,VR]at ha
 obtain⟨_,_,rfl,rfl,_,_,rfl,rfl,rfl⟩:=ha
 refine(Tryd.strings_Repeat ⟨[b].toArray⟩ c w (by omega) (by simp [ByteArray.size];omega)).mono ?_
 rintro e w' ⟨rfl,hb⟩
 refine⟨_,rfl,?_,hb⟩
 simp only [VR]
 rw [zti]
theorem zp2(O:Store)(s:List UInt8)(h:s.length<1000000000000):ACallsTo TC 58 [.str s] O (.str (padS s)) O:=by
 refine ACallsTo.of_body qaok (by simp) fun hw _=> ?_
 obtain⟨z,hz⟩:∃z:Nat,z=(119-s.length%64)%64:=⟨_,rfl⟩
 have hz64:z<64:=by rw [hz];exact Nat.mod_lt _ (by decide)
 have hz2:(119-(s.length:Int)%64)%64=z:=by omega
 have hp:putS ((s.length:Int)*8) 8=be 8 (s.length*8):=by
  unfold putS
  rw [if_pos (by omega)]
  rfl
 have hpl:(be 8 (s.length*8)).length=8:=z34 _ _
 repeat' (first|apply zs_|apply zb_|apply zc_|apply zt_ rfl|apply zf_ rfl|(apply zd_ rfl<;>intro ht<;>try omega)|((first|apply zr_|apply zk_|apply ze_|apply zq_|(apply callW.mk_pu;(first|exact(fun _=>zjw _ 0 z (by omega))|exact(fun _=>z6q _ ((s.length:Int)*8) 8 (by omega) (by omega))))|(apply callW.za;(first|exact(zjw _ 0 z (by omega))|exact(z6q _ ((s.length:Int)*8) 8 (by omega) (by omega))))|(apply zG<;>intro ht));all_goals try simp (disch:=first|omega|(simp only [lens];first|done|omega)) only [go_sem,hz2,hp,hpl,List.length_replicate]))
 have e:s++([128]++(List.replicate z 0++be 8 (s.length*8)))=padS s:=by unfold padS;rw [<-hz];rfl
 rw [show s++128::(List.replicate z 0++be 8 (s.length*8))=padS s by unfold padS;rw [<-hz]]
 exact DownV.same hw (z1n _ rfl)
theorem zjb(s:List UInt8):(padS s).length%64=0/\ (padS s).length<s.length+80:=by
 unfold padS
 simp only [List.length_append,List.length_cons,List.length_replicate,z34]
 omega
theorem zpc:zdf=v0.c8:=rfl
theorem put4(x:W):putS (x.toNat:Int) 4=be 4 x.toNat:=by
 unfold putS
 rw [if_pos (by omega)]
 rfl
theorem mix_c8(O:Store)(v:V8)(s:List UInt8)(h:64<=s.length)(hs:s.length<9223372036854775808):ACallsTo TC 59 [.agg v.c8,.str s] O (.agg (mixS v s).c8) O:=mix_to O v s h hs
theorem zp6{l:List W}{j:Nat}(h:j<l.length):(l.flatMap fun x=>be 4 x.toNat).take (4*j)++be 4 (l[j]).toNat=(l.flatMap fun x=>be 4 x.toNat).take (4*(j+1)):=by
 induction l generalizing j with
 |nil=>simp at h
 |cons x l ih=>
  have hb:(be 4 x.toNat).length=4:=z34 _ _
  rw [List.flatMap_cons]
  cases j with
  |zero=>
   simp only [Nat.mul_zero,List.take_zero,List.nil_append,List.getElem_cons_zero,Nat.zero_add,Nat.mul_one]
   rw [List.take_append_of_le_length (by omega),List.take_of_length_le (by omega)]
  |succ j=>
   simp only [List.length_cons]at h
   have e1:(be 4 x.toNat).take (4*(j+1))=be 4 x.toNat:=List.take_of_length_le (by omega)
   have e2:(be 4 x.toNat).take (4*(j+1+1))=be 4 x.toNat:=List.take_of_length_le (by omega)
   rw [List.getElem_cons_succ,List.take_append,List.take_append,e1,e2,hb,List.append_assoc,show 4*(j+1)-4=4*j by omega,show 4*(j+1+1)-4=4*(j+1)by omega,ih (by omega)]
theorem z4r(v:V8):(outV v).length=32:=by
 simp [outV,V8.l,z34]
def z40(v:V8)(j:Nat):List AV:=z13 ((outV v).take (4*j))++List.replicate (32-4*j) (.int .u8 0)
theorem z19(l:List UInt8):(z13 l).length=l.length:=by simp [z13]
theorem zpo(v:V8){j:Nat}(h:j<=8):(z40 v j).length=32:=by
 simp [z40,z19,z4r];omega
theorem zgi(l:List UInt8):(zx l).flatten=z13 l:=by
 induction l with
 |nil=>rfl
 |cons b l ih=>simp [zx,z13,B8]at ih ⊢;exact ih
theorem zpp(v:V8){j:Nat}(h:j<8):z1b (z40 v j) (4*j) (z13 (be 4 (wat v.l j).toNat))=z40 v (j+1):=by
 have hl:v.l.length=8:=rfl
 have e:=zp6 (l:=v.l) (j:=j) (by omega)
 have hw:wat v.l j=v.l[j]'(by omega):=by simp [wat,List.getD_eq_getElem?_getD,List.getElem?_eq_getElem (show j<v.l.length by omega)]
 have h1:(z13 ((outV v).take (4*j))).length=4*j:=by rw [z19,List.length_take,z4r];omega
 have h2:(z13 (be 4 (wat v.l j).toNat)).length=4:=by rw [z19,z34]
 unfold z1b z40
 rw [List.take_append_of_le_length (by omega),List.take_of_length_le (by omega),List.drop_append,List.drop_of_length_le (by omega),h1,h2,List.nil_append]
 rw [show 4*j+4-4*j=4 by omega,List.drop_replicate,show 32-4*j-4=32-4*(j+1)by omega]
 congr 1
 unfold z13
 rw [<-List.map_append]
 congr 1
 rw [hw]
 exact e
theorem z81(O:Store)(s:List UInt8)(h:s.length<100000000000):ACallsTo TC 36 [.str s] O (.agg (z13 (shaS s))) O:=by
 obtain⟨p,hp⟩:∃p,p=padS s:=⟨_,rfl⟩
 obtain⟨hp1,hp2⟩:=zjb s
 rw [<-hp]at hp1 hp2
 obtain⟨N,hN⟩:∃N,p.length=64*N:=⟨p.length/64,by omega⟩
 obtain⟨V,hV⟩:∃V,V=blocks N v0 p:=⟨_,rfl⟩
 have hS:shaS s=outV V:=by
  unfold shaS
  rw [<-hp,hV]
  have:p.length/64=N:=by omega
  rw [this]
 rw [hS]
 have hf:=fun O=>zp2 O s (by omega)
 rw [<-hp]at hf
 refine ACallsTo.of_body q7ok (by simp) fun hw _=> ?_
 repeat' (first|apply zs_|apply zb_|apply zc_|apply zt_ rfl|apply zf_ rfl|(apply zd_ rfl<;>intro ht<;>try omega)|((first|apply zr_|apply zk_|apply ze_|apply zq_|(apply callW.mk_pu;(first|exact(fun _=>hf _)))|(apply callW.za;(first|exact(hf _)))|(apply zG<;>intro ht));all_goals try simp (disch:=first|omega|(simp only [lens];first|done|omega)) only [go_sem,zpc,V8.c8]))
 refine zW.loop (fun m J O'=>∃u q,q.length=64*m/\ q.length<=p.length/\ blocks m u q=V/\ J 2=.ptr O.length 0 0/\ J 3=.ptr (O.length+1) 0 0/\ J 4=.str q/\ O'=O++ [some [z13 (List.replicate 32 0)],some [u.c8]]) N ?_ ?_
 ·exact⟨v0,p,hN,Nat.le_refl _,hV.symm,by simp (disch:=first|omega|(simp only [lens];first|done|omega)) only [go_sem],by simp (disch:=first|omega|(simp only [lens];first|done|omega)) only [go_sem],by simp (disch:=first|omega|(simp only [lens];first|done|omega)) only [go_sem],rfl⟩
 ·rintro m J O' ⟨u,q,hq,hqp,hb,q2,q3,q4,rfl⟩
  have hz:(z13 (List.replicate 32 0)).length=32:=rfl
  cases m with
  |succ m=>
   have hne:(q==[])=false:=by cases q with
    |nil=>simp at hq
    |cons a q=>rfl
   have hmix:=fun O=>mix_c8 O u (q.take 64) (by rw [List.length_take];omega) (by rw [List.length_take];omega)
   obtain⟨M,hM⟩:∃M,M=mixS u (q.take 64):=⟨_,rfl⟩
   rw [<-hM]at hmix
   have hb2:blocks m M (q.drop 64)=V:=by rw [hM];exact hb
   unfold V8.c8 at hmix
   repeat' (first|refine zs_ ?_|refine zb_ ?_|refine zc_ ?_|refine zt_ rfl ?_|refine zf_ rfl ?_|(refine zd_ rfl (fun ht=> ?_) (fun ht=> ?_)<;>try (exfalso;omega))|((first|refine zW.regS ?_|refine zk_ ?_|refine ze_ ?_|refine zq_ ?_|(apply callW.mk_pu;(first|exact(fun _=>hmix _)))|(apply callW.za;(first|exact(hmix _)))|(apply zG<;>intro ht));all_goals try simp (disch:=first|omega|(simp only [lens];first|done|omega)) only [go_sem,q2,q3,q4,hne,V8.c8]))
   refine⟨m,by omega,M,q.drop 64,by rw [List.length_drop];omega,by rw [List.length_drop];omega,hb2,rfl,rfl⟩
  |zero=>
   have hq0:q=[]:=List.eq_nil_of_length_eq_zero (by omega)
   subst hq0
   have hu:u=V:=hb
   subst hu
   repeat' (first|apply zs_|apply zb_|apply zc_|apply zt_ rfl|apply zf_ rfl|(apply zd_ rfl<;>intro ht<;>try omega)|((first|apply zr_|apply zk_|apply ze_|apply zq_|(apply zG<;>intro ht));all_goals try simp (disch:=first|omega|(simp only [lens];first|done|omega)) only [go_sem,q2,q3,q4,V8.c8]))
   refine zW.loop (fun m J O'=>∃j:Nat,m+j=8/\ J 2=.ptr O.length 0 0/\ J 5=.ptr (O.length+2) 0 0/\ J 19=.agg u.c8/\ J 20=.int .i64 j/\ O'=O++ [some [z13 (List.replicate 32 0)],some [u.c8],some [z40 u j]]) 8 ?_ ?_
   ·exact⟨0,by omega,by simp (disch:=first|omega|(simp only [lens];first|done|omega)) only [go_sem,q2],by simp (disch:=first|omega|(simp only [lens];first|done|omega)) only [go_sem],by simp (disch:=first|omega|(simp only [lens];first|done|omega)) only [go_sem];rfl,by simp (disch:=first|omega|(simp only [lens];first|done|omega)) only [go_sem];rfl,rfl⟩
   ·clear q2 q3 q4
    rintro m J O' ⟨j,hm,q2,q5,q19,q20,rfl⟩
    have hlen:=zpo u (j:=j) (by omega)
    have h8:u.c8.length=8:=rfl
    by_cases hj:j<8
    ·have hst:=zpp u hj
     have hw:=z86 (w:=u.l) (i:=j) (by simpa [V8.l]using hj)
     rw [ws_l]at hw
     generalize wat u.l j=x at*
     generalize z40 u j=cc at*
     generalize hcc:z40 u (j+1)=cc' at*
     have hx:x.toNat<4294967296:=x.isLt
     have hb4:(be 4 x.toNat).length=4:=z34 _ _
     have ht4:(zx (be 4 x.toNat)).take (32-4*j)=zx (be 4 x.toNat):=List.take_of_length_le (by rw [z15,hb4];omega)
     have hn4:(4*(j:Int)).toNat=4*j:=by omega
     repeat' (first|refine zs_ ?_|refine zb_ ?_|refine zc_ ?_|refine zt_ rfl ?_|refine zf_ rfl ?_|(refine zd_ rfl (fun ht=> ?_) (fun ht=> ?_)<;>try (exfalso;omega))|((first|refine zW.regS ?_|refine zk_ ?_|refine ze_ ?_|refine zq_ ?_|(apply callW.mk_pu;(first|exact(fun _=>z6q _ _ _ (by omega) (by omega))))|(apply callW.za;(first|exact(z6q _ _ _ (by omega) (by omega))))|(apply zG<;>intro ht));all_goals try simp (disch:=first|omega|(simp only [lens];first|done|omega)) only [go_sem,q2,q5,q19,q20,hlen,h8,hw,put4,hb4,ht4,hst,hn4,zgi]))
     unfold z1b at hst
     rw [List.append_assoc]at hst
     exact⟨8-(j+1),by omega,j+1,by omega,by simp,by rw [hst,hcc]⟩
    ·obtain rfl:j=8:=by omega
     have e8:z40 u 8=z13 (outV u):=by
      unfold z40
      rw [List.take_of_length_le (by rw [z4r];decide)]
      exact List.append_nil _
     have hd:List.drop 32 (z13 (List.replicate 32 0))=[]:=rfl
     have hl:(z13 (outV u)).length=32:=by rw [z19,z4r]
     rw [e8]at*
     repeat' (first|apply zs_|apply zb_|apply zc_|apply zt_ rfl|apply zf_ rfl|(apply zd_ rfl<;>intro ht<;>try omega)|((first|apply zr_|apply zk_|apply ze_|apply zq_|(apply zG<;>intro ht));all_goals try simp (disch:=first|omega|(simp only [lens];first|done|omega)) only [go_sem,q2,q5,q19,q20,hl,h8,hd]))
     exact DownV.pure hw (z5p (z3b _))
end
end Am
end Go.Proofs.YtcdcmgjnbjoajaaDoor
section
/- strings.Builder: the contracts of copyCheck and String over the abstract store. -/
namespace Go.Proofs
open Go.Shelf Go.RowKit
def Tryd.lays240_ren:Go.Shelf.Ren:=⟨fun| 240=>57| 276=>71|n=>n,fun| 0=>0| 4=>4| 9=>9| 20=>20| 70=>77| 72=>79| 164=>121| 37=>75|n=>n,fun|n=>n⟩
theorem Tryd.lays240:Go.Proofs.Lays.n240 Tryd.prog Tryd.lays240_ren:={
 mixed:=by kernel_rfl
 f240:=Tryd.func57.trans (congrArg some (by kernel_rfl))
 f276:=Tryd.func71.trans (congrArg some (by kernel_rfl))
 t0:=Tryd.underlying0
 a0:=Tryd.isAgg0
 z0:=Tryd.sizeOf0
 v0:=Tryd.zeroValue0
 t4:=Tryd.underlying4
 a4:=Tryd.isAgg4
 z4:=Tryd.sizeOf4
 v4:=Tryd.zeroValue4
 t9:=Tryd.underlying9
 a9:=Tryd.isAgg9
 z9:=Tryd.sizeOf9
 v9:=Tryd.zeroValue9
 t20:=Tryd.underlying20
 a20:=Tryd.isAgg20
 z20:=Tryd.sizeOf20
 v20:=Tryd.zeroValue20
 t70:=Tryd.underlying77
 a70:=Tryd.isAgg77
 z70:=Tryd.sizeOf77
 v70:=Tryd.zeroValue77
 t72:=Tryd.underlying79
 a72:=Tryd.isAgg79
 z72:=Tryd.sizeOf79
 v72:=Tryd.zeroValue79
 t164:=Tryd.underlying121
 a164:=Tryd.isAgg121
 z164:=Tryd.sizeOf121
 v164:=Tryd.zeroValue121 }
theorem Tryd.x72_240:Builder.X72 Tryd.prog Tryd.lays240_ren:={
 sizeBuilder:=by kernel_rfl
 liesBuilder:=by kernel_rfl }
section
variable {P:Program} {J:Ren}
set_option maxRecDepth 100000 in
theorem Tryd.string_ex(L:Lays.n169 P J)(X:Builder.Extra P J)(b g cap:Nat)(cur:Array Value)(p:Value)(fb fg:Nat × Nat)(l:List UInt8)(w:World)(h0:l ≠ [])
  (hbk:w.heap[b]? =some (.cells #[p,.slice (some ⟨g,0,none⟩) l.length cap] (J.t 72) fb)) (hg:w.heap[g]? =some (.cells cur (J.t 5) fg)) (hnc:l.length<=cap) (hcs:l.length<=cur.size) (hln:l.length<=9223372036854775807)
  (hcl:∀j x,l[j]? =some x->w.cell? ((⟨g,0,none⟩:Addr).add j)=some (.int .u8 x.toNat)):
  Calls P (J.f 169) #[.pointer (some ⟨b,0,none⟩)] w fun e w'=>e=.returned (.string ⟨l.toArray⟩)/\ w'=w.drew.freeze ⟨g,0,none⟩ l.length:=by
 have hl0:l.length ≠ 0:=by simpa using h0
 have c1:w.drew.cell? ⟨b,1,none⟩=some (.slice (some ⟨g,0,none⟩) l.length cap):=by
  have:w.drew.heap[b]? =some (.cells #[p,.slice (some ⟨g,0,none⟩) l.length cap] (J.t 72) fb):=hbk
  rw [Lib.cell_of_heap this];rfl
 have hSD:(Builtin.unsafeSliceData_ #[(J.t 37)] (J.t 127) #[.slice (some ⟨g,0,none⟩) l.length cap]).run P w.drew=.ok (.pointer (some ⟨g,0,none⟩)) w.drew:=
  Lib.run_unsafeSliceData_row _ _ _ _ _ _ (by omega)
 have hUS:(Builtin.unsafeString_ #[(J.t 127),(J.t 3)] (J.t 9) #[.pointer (some ⟨g,0,none⟩),.int .i64 l.length]).run P w.drew=.ok (.string ⟨l.toArray⟩) (w.drew.freeze ⟨g,0,none⟩ l.length):=
  Lib.run_unsafeString_row w.drew (J.t 127) (J.t 3) (J.t 9) (J.t 5) L.t127 X.cellsByte g cur.size (by have hg':w.drew.heap[g]? =some (.cells cur (J.t 5) fg):=hg;simp [World.shape?,hg']) l h0 hcs hln hcl
 have mixed:=L.mixed
 have t72:=L.t72;have a72:=L.a72;have z72:=L.z72;have v72:=L.v72;have u72:=run_underlying L.t72
 have t70:=L.t70;have a70:=L.a70;have z70:=L.z70;have v70:=L.v70;have u70:=run_underlying L.t70
 have t37:=L.t37;have a37:=L.a37;have z37:=L.z37;have v37:=L.v37;have u37:=run_underlying L.t37
 have t127:=L.t127;have a127:=L.a127;have z127:=L.z127;have v127:=L.v127;have u127:=run_underlying L.t127
 have t3:=L.t3;have a3:=L.a3;have z3:=L.z3;have v3:=L.v3;have u3:=run_underlying L.t3
 have t9:=L.t9;have a9:=L.a9;have z9:=L.z9;have v9:=L.v9;have u9:=run_underlying L.t9
 have t5:=X.t5;have a5:=X.a5;have z5:=X.z5;have v5:=X.v5;have u5:=run_underlying X.t5
 clear hcl hcs hln hg hbk hnc
 go_enter L.f169,Body.n169_ntmps J
 go_wp2
 go_region_o
 all_goals (go_wp2;go_ret;exact⟨rfl,rfl⟩)
end
end Go.Proofs
namespace Go.Proofs.YtcdcmgjnbjoajaaDoor
namespace Am
open Go.RowKit
section
variable {C:Ctx} {Z:Places} {O:Store} {w w':World}
theorem Rel.lose(h:Rel C Z O w){r:Nat}{pl:Place}(hr:Z[r]? =some (true,pl))(hsz:w'.heap.size=w.heap.size)(hother:∀b,b ≠ pl.b->w'.heap[b]? =w.heap[b]?)(ho:w'.os=w.os)(ht:w'.tape=w.tape)(hp:w'.output=w.output):
  Step Z w (Z.set r (false,pl)) w'/\ Rel C (Z.set r (false,pl)) (O.set r none) w':=by
 obtain⟨k1,k2⟩:=h.kill hr
 have hrl:r<Z.length:=(List.getElem?_eq_some_iff.1 hr).1
 have hs:Step Z w (Z.set r (false,pl)) w':=⟨k1.keep,by omega,fun b _ hn=>hother b fun e=>hn r pl hr e.symm,fun q x hx=>by
  rcases k1.new q x hx with h|h
  ·exact .inl h
  ·exact .inr h,ho,ht,hp⟩
 refine⟨hs,by simp [h.len],fun q o hq=> ?_,fun q hq=>k2.dead q hq,fun q q' x x' h1 h2 h3=>k2.inj q q' x x' h1 h2 h3,fun g cs hg=>(h.gl g cs hg).mono hs⟩
 by_cases e:r=q
 ·subst e
  rw [List.getElem?_set_self (by rw [<-h.len];exact hrl)]at hq;cases hq
 ·rw [List.getElem?_set_ne e]at hq
  obtain⟨x,h1,h2⟩:=h.alive q o hq
  exact⟨x,by rw [List.getElem?_set_ne e];exact h1,h2.mono hs (hother _ fun e'=>e (h.inj r q pl x hr h1 e'.symm))⟩
theorem Rel.bld_at(hR:Rel C Z O w){r:Nat}{x:AV}(hr:O[r]? =some (some [[.bld r,x]])):∃(pl:Place) (v0 v1:Value) (fz:Nat × Nat),Z[r]? =some (true,pl)/\ pl.base=0/\ pl.esz=2/\ w.heap[pl.b]? =some (.cells #[v0,v1] bldT fz) ∧
  (v0=.pointer none \/v0=.pointer (some ⟨pl.b,0,none⟩))/\ VR Z w x v1/\ (∀k,k<2->(decide (fz.1<=k) && decide (k<fz.2))=false):=by
 obtain⟨pl,hpl,hok⟩:=hR.alive r _ hr
 obtain⟨c,ty,fz,pre,mid,post,q1,q2,q3,q4,q5,q6⟩:=hok.ex
 simp only [List.flatten_cons,List.flatten_nil,List.append_nil,VRs]at q5
 obtain⟨v0,_,rfl,⟨k1,_⟩,v1,_,rfl,⟨k2,_⟩,rfl⟩:=q5
 simp only [VR]at k1
 obtain⟨fl,pl',hpl',⟨e1,e2,e3,e4,e5⟩,k3⟩:=k1
 rw [hpl]at hpl';cases hpl'
 have hty:ty=bldT:=by
  obtain⟨c0,fz0,h0⟩:=hok.tyk
  rw [q1]at h0;cases h0;exact e1
 have hpre:pre=[]:=List.eq_nil_of_length_eq_zero (by omega)
 subst hpre
 have hlen:c.toList.length=2:=by rw [Array.length_toList,q4,e5]
 have hpost:post=[]:=by
  rw [q2]at hlen
  simpa using hlen
 subst hpost
 have hc:c= #[v0,v1]:=by
  apply Array.ext'
  rw [q2];rfl
 subst hc hty
 exact⟨pl,v0,v1,fz,hpl,e2,e3,q1,k3,k2,fun k hk=>q6.1.lt k (by omega)⟩
end
theorem zu5{O:Store}{r:Nat}{x:Option AObj}(h:O[r]? =some x):O.set r x=O:=by
 apply List.ext_getElem?
 intro i
 by_cases e:r=i
 ·subst e
  rw [List.getElem?_set_self (List.getElem?_eq_some_iff.1 h).1,h]
 ·rw [List.getElem?_set_ne e]
theorem zd4(O:Store)(r:Nat)(x:AV)(hr:O[r]? =some (some [[.bld r,x]])):ACallsTo TC 57 [.ptr r 0 0] O (.tup []) O:=by
 obtain⟨e,hc⟩:=Option.isSome_iff_exists.1 (show (cFn TC 57).isSome=true by kernel_rfl)
 simp only [cFn,Option.bind_eq_some_iff]at hc
 obtain⟨fn,hf,hc⟩:=hc
 split at hc
 ·cases hc
 ·rename_i hname
  simp only [Option.bind_eq_some_iff,Option.map_eq_some_iff]at hc
  obtain⟨c,hb,_⟩:=hc
  intro Z w cargs hR ha
  left
  constructor
  ·have h1:fn.name ≠ "runtime.NumGoroutine" :=by simpa using hname
   simp [callFunc,hf,h1,hb]
  ·obtain⟨pl,v0,v1,fz,hpl,hb0,hez,hw,hv0,hv1,hfz⟩:=hR.bld_at hr
   simp only [VRt,VR]at ha
   obtain⟨_,_,rfl,⟨fl,pl',hpl',rfl⟩,rfl⟩:=ha
   rw [hpl]at hpl';cases hpl'
   have ea:pl.base+0*pl.esz+0=0:=by rw [hb0];omega
   rw [ea]
   have hcell:w.cell? ⟨pl.b,0,none⟩=some v0:=by rw [Lib.cell_of_heap hw];rfl
   rcases hv0 with rfl|rfl
   ·refine(Any.Builder_copyCheck_fresh Tryd.lays240 Tryd.x72_240 pl.b w hcell (by simp [World.shape?,hw];rfl) (by simp only [World.frozen?,hw];exact hfz 0 (by omega))).mono ?_
    rintro e w' ⟨rfl,rfl⟩
    obtain⟨w2,k1,k2,k3⟩:=hR.storeElem (i:=0) (off:=0) (vs:=[.bld r]) (vals:=[.pointer (some ⟨pl.b,0,none⟩)]) hr hpl rfl (by simp) (VRs.one ⟨by
     simp only [VR]
     obtain⟨pl2,hpl2,hok⟩:=hR.alive r _ hr
     rw [hpl]at hpl2;cases hpl2
     obtain⟨c,ty,fz2,pre,mid,post,q1,q2,q3,q4,q5,q6⟩:=hok.ex
     simp only [List.flatten_cons,List.flatten_nil,List.append_nil,VRs,VR]at q5
     obtain⟨u0,_,_,⟨⟨fl3,pl3,hpl3,k,_⟩,_⟩,_⟩:=q5
     rw [hpl]at hpl3;cases hpl3
     exact⟨true,pl,hpl,k,.inr rfl⟩,rfl⟩)
    rw [ea]at k1
    have e2:w2=w.setCell ⟨pl.b,0,none⟩ (.pointer (some ⟨pl.b,0,none⟩)):=by
     have hfr:w.frozen? ⟨pl.b,0,none⟩=false:=by simp only [World.frozen?,hw];exact hfz 0 (by omega)
     have hst:(store ⟨pl.b,0,none⟩ (.pointer (some ⟨pl.b,0,none⟩))).run TC.P w=.ok () (w.setCell ⟨pl.b,0,none⟩ (.pointer (some ⟨pl.b,0,none⟩))):=by
      rw [run_store TC.P w _ _ _ rfl,hcell];simp [hfr]
     have:=k1
     simp only [storeCells,z2y,Nat.add_zero,Sem.run_bind,hst,Result.andThen_ok,Sem.run_pure,Result.ok.injEq,true_and]at this
     exact this.symm
    rw [<-e2]
    have e3:O.set r (some ([[.bld r,x]].set 0 (z1b [.bld r,x] 0 [.bld r])))=O:=by
     have:([[AV.bld r,x]]:List (List AV)).set 0 (z1b [.bld r,x] 0 [.bld r])=[[.bld r,x]]:=by simp [z1b]
     rw [this]
     exact zu5 hr
    rw [e3]at k3
    exact⟨_,Z,rfl,k2,k3,by simp only [VR];exact⟨[],rfl,VRt.nil⟩⟩
   ·refine(Any.Builder_copyCheck_used Tryd.lays240 Tryd.x72_240 pl.b w hcell).mono ?_
    rintro e w' ⟨rfl,rfl⟩
    exact⟨_,Z,rfl,Step.refl _ _,hR,by simp only [VR];exact⟨[],rfl,VRt.nil⟩⟩
theorem zcq(O:Store)(r rb:Nat)(s:List UInt8)(h0:s ≠ [])(hs:s.length<=1073741824)(h1:O[r]? =some (some [[.bld r,.bsl rb s.length]]))(h2:O[rb]? =some (some (zx s))):
  ACallsTo TC 37 [.ptr r 0 0] O (.str s) (O.set rb none):=by
 obtain⟨e,hc⟩:=Option.isSome_iff_exists.1 (show (cFn TC 37).isSome=true by kernel_rfl)
 simp only [cFn,Option.bind_eq_some_iff]at hc
 obtain⟨fn,hf,hc⟩:=hc
 split at hc
 ·cases hc
 ·rename_i hname
  simp only [Option.bind_eq_some_iff,Option.map_eq_some_iff]at hc
  obtain⟨c,hb,_⟩:=hc
  intro Z w cargs hR ha
  left
  constructor
  ·have h1:fn.name ≠ "runtime.NumGoroutine" :=by simpa using hname
   simp [callFunc,hf,h1,hb]
  ·obtain⟨pl,v0,v1,fz,hpl,hb0,hez,hw,hv0,hv1,hfz⟩:=hR.bld_at h1
   simp only [VRt,VR]at ha
   obtain⟨_,_,rfl,⟨fl,pl',hpl',rfl⟩,rfl⟩:=ha
   rw [hpl]at hpl';cases hpl'
   have ea:pl.base+0*pl.esz+0=0:=by rw [hb0];omega
   rw [ea]
   simp only [VR]at hv1
   obtain⟨fl2,pb,cap,hpb,⟨t1,t2,t3⟩,rfl,hso⟩:=hv1
   obtain⟨pb',hpb',hok⟩:=hR.alive rb _ h2
   rw [hpb]at hpb';cases hpb'
   obtain⟨cur,ty,fg,pre,mid,post,q1,q2,q3,q4,q5,q6⟩:=hok.ex
   have hty:ty=u8T:=by
    obtain⟨c0,fz0,h0⟩:=hok.tyk
    rw [q1]at h0;cases h0;exact t1
   subst hty
   have hpre:pre=[]:=List.eq_nil_of_length_eq_zero (by omega)
   subst hpre
   rw [zac]at q5
   have hml:=q5.length
   rw [List.length_map]at hml
   have hcs:s.length<=cur.size:=by
    rw [<-Array.length_toList,q2];simp;omega
   refine(Tryd.string_ex Tryd.lays169 Tryd.Builder_Extra_169 pl.b pb.b cap cur v0 fz fg s w h0 hw q1 hso.le hcs (by omega) (fun j x hj=> ?_)).mono ?_
   ·obtain⟨v,k1,k2⟩:=q5.get (i:=j) (a:=B8 x) (by rw [List.getElem?_map,hj];rfl)
    have hv:=k2.1
    simp only [B8,VR]at hv
    rw [z2y,Nat.zero_add,Lib.cell_of_heap q1]
    show cur[j]? =_
    rw [<-Array.getElem?_toList,q2,List.nil_append,List.getElem?_append_left (by
     rcases Nat.lt_or_ge j mid.length with h|h
     ·exact h
     ·simp [List.getElem?_eq_none h]at k1),k1,hv]
   ·rintro e w' ⟨rfl,rfl⟩
    have hz:s.length ≠ 0:=by simpa using h0
    obtain⟨k1,k2⟩:=hR.lose (w':=w.drew.freeze ⟨pb.b,0,none⟩ s.length) hpb (by show (World.freeze w.drew _ _).heap.size=w.drew.heap.size;unfold World.freeze;rw [if_neg hz];exact Array.size_modify) (fun b hb=>by
     show (World.freeze w.drew _ _).heap[b]? =w.drew.heap[b]?
     unfold World.freeze
     rw [if_neg hz]
     simp only [Array.getElem?_modify]
     rw [if_neg (fun e=>hb e.symm)]) (by unfold World.freeze;rw [if_neg hz];rfl) (by unfold World.freeze;rw [if_neg hz];rfl) (by unfold World.freeze;rw [if_neg hz];rfl)
    exact⟨_,_,rfl,k1,k2,by simp only [VR]⟩
end Am
end Go.Proofs.YtcdcmgjnbjoajaaDoor
end
namespace Go.Proofs.YtcdcmgjnbjoajaaDoor
namespace Am
section
theorem zm2{k:Nat}(l:List UInt8):RLss k (zx l):=by
 induction l with
 |nil=>simp [zx,RLss]
 |cons b l ih=>simp only [zx,B8]at ih;simp [zx,RLss,B8,RLs,RL,ih]
def OwnB(O O':Store)(v:AV)(b:List UInt8):Prop:=∃news j,O'=O++news/\ v=.sl (O.length+j) 0 b.length none 1/\ news[j]? =some (some (zx b))
theorem OwnB.down{O O':Store}{v:AV}{b:List UInt8}(hw:Wf O.length O)(h:OwnB O O' v b):DownV O.length v O' (.vsl 1 (zx b) false) O:=by
 obtain⟨news,j,rfl,rfl,h⟩:=h
 have hl:(zx b).length=b.length:=z15 b
 have e:((zx b).drop 0).take b.length=zx b:=by rw [List.drop_zero,List.take_of_length_le (by omega)]
 have:=DownV.froze (off:=0) (len:=b.length) (esz:=1) (lim:=none) hw h (by omega) (by rw [e];exact zm2 b)
 rw [e]at this
 exact this
theorem OwnB.app{O O':Store}{r n:Nat}{b c:List UInt8}(h:OwnB O O' (.sl r 0 n none 1) b):OwnB O (O'.set r none++ [some (zx c)]) (.sl O'.length 0 c.length none 1) c:=by
 obtain⟨news,j,rfl,e,h⟩:=h
 simp only [AV.sl.injEq,true_and,and_true]at e
 obtain⟨rfl,rfl⟩:=e
 refine⟨news.set j none++ [some (zx c)],news.length,?_,by simp,?_⟩
 ·rw [List.set_append_right _ _ (by omega),Nat.add_sub_cancel_left,List.append_assoc]
 ·rw [List.getElem?_append_right (by simp)];simp
theorem OwnB.get{O O':Store}{v:AV}{b:List UInt8}(h:OwnB O O' v b):∃r,v=.sl r 0 b.length none 1/\ O'[r]? =some (some (zx b)):=by
 obtain⟨news,j,rfl,rfl,h⟩:=h
 exact⟨_,rfl,by rw [List.getElem?_append_right (by omega),Nat.add_sub_cancel_left];exact h⟩
theorem zgj(b:List UInt8)(x:Nat)(m:Int)(h:m=((x%256:Nat):Int)):zx b++ [[AV.int .u8 m]]=zx (b++ [UInt8.ofNat x]):=by
 subst h
 simp [zx,B8]
theorem zmy(x:Nat){j:Nat}(h:j<8):(be 8 x).take j++ [UInt8.ofNat (x/2^(8*(7-j)))]=(be 8 x).take (j+1):=by
 have e:be 8 x=[UInt8.ofNat (x/256^7),UInt8.ofNat (x/256^6),UInt8.ofNat (x/256^5),UInt8.ofNat (x/256^4),UInt8.ofNat (x/256^3),UInt8.ofNat (x/256^2),UInt8.ofNat (x/256^1),UInt8.ofNat (x/256^0)]:=by
  simp only [z8i]
  rfl
 rw [e]
 have hj:j=0 \/j=1 \/j=2 \/j=3 \/j=4 \/j=5 \/j=6 \/j=7:=by omega
 rcases hj with rfl|rfl|rfl|rfl|rfl|rfl|rfl|rfl<;>rfl
theorem pad_to(O:Store)(s:List UInt8)(h:s.length<1000000000):ACallsTo TC 69 [.str s] O (.vsl 1 (zx (padS s)) false) O:=by
 obtain⟨z,hz⟩:∃z:Nat,z=(119-s.length%64)%64:=⟨_,rfl⟩
 have hz64:z<64:=by rw [hz];exact Nat.mod_lt _ (by decide)
 obtain⟨P,hP⟩:∃P,P=padS s:=⟨_,rfl⟩
 have hP2:P=(s++128::List.replicate z 0)++be 8 (s.length*8):=by rw [hP,padS,hz];simp
 rw [<-hP]
 refine ACallsTo.of_body q8ok (by simp) fun hw _=> ?_
 repeat' (first|apply zs_|apply zb_|apply zc_|apply zt_ rfl|apply zf_ rfl|(apply zd_ rfl<;>intro ht<;>try omega)|((first|apply zr_|apply zk_|apply ze_|apply zq_|(apply zG<;>intro ht));all_goals try simp (disch:=first|omega|(simp only [lens];first|done|omega)) only [go_sem]))
 refine zW.loop (fun m J O'=>∃k:Nat,m+k=z/\ J 0=.str s/\ OwnB O O' (J 3) (s++128::List.replicate k 0)) z ?_ ?_
 ·refine⟨0,by omega,by simp (disch:=first|omega|(simp only [lens];first|done|omega)) only [go_sem],?_⟩
  simp (disch:=first|omega|(simp only [lens];first|done|omega)) only [go_sem]
  refine⟨[none,some (zx (s++ [128]))],1,?_,?_,rfl⟩
  ·simp [zx,B8]
  ·simp
 ·rintro m J O' ⟨k,hm,q0,hO⟩
  obtain⟨r,q3,hg⟩:=hO.get
  have hb:(s++128::List.replicate k 0).length=s.length+1+k:=by simp;omega
  have hbe:=z15 (s++128::List.replicate k 0)
  by_cases hk:k<z
  ·rw [q3]at hO
   rw [hb]at q3 hbe hO
   have e0:zx (s++128::List.replicate k 0)++ [[AV.int .u8 0]]=zx (s++128::List.replicate (k+1) 0):=by
    rw [zgj _ 0 0 (by simp),List.append_assoc,List.cons_append,List.replicate_succ']
    rfl
   have hO2:=hO.app (c:=s++128::List.replicate (k+1) 0)
   have hc:(s++128::List.replicate (k+1) 0).length=s.length+1+k+1:=by simp;omega
   rw [hc]at hO2
   generalize zx (s++128::List.replicate k 0)=bb at*
   repeat' (first|apply zs_|apply zb_|apply zc_|apply zt_ rfl|apply zf_ rfl|(apply zd_ rfl<;>intro ht<;>try omega)|((first|apply zr_|apply zk_|apply ze_|apply zq_|(apply zG<;>intro ht));all_goals try simp (disch:=first|omega|(simp only [lens];first|done|omega)) only [go_sem,q0,q3,hg,hbe,e0]))
   exact⟨z-(k+1),by omega,k+1,by omega,hO2⟩
  ·obtain rfl:k=z:=by omega
   obtain⟨N,hN⟩:∃N,N=s.length*8:=⟨_,rfl⟩
   have hN2:(s.length:Int)*8=N:=by omega
   have hb8:(be 8 N).length=8:=z34 _ _
   rw [<-hN]at hP2
   rw [hb]at q3 hbe
   have h56:((s.length:Int)+1+k)%64=56:=by omega
   generalize hB:s++128::List.replicate k 0=B at*
   repeat' (first|apply zs_|apply zb_|apply zc_|apply zt_ rfl|apply zf_ rfl|(apply zd_ rfl<;>intro ht<;>try omega)|((first|apply zr_|apply zk_|apply ze_|apply zq_|(apply zG<;>intro ht));all_goals try simp (disch:=first|omega|(simp only [lens];first|done|omega)) only [go_sem,q0,q3,h56,hN2,Int.natCast_add,Int.natCast_one]))
   refine zW.loop (fun m J O'=>∃j:Nat,m+j=8/\ J 4=.int .u64 N/\ J 5=.int .i64 (7-j)/\ OwnB O O' (J 3) (B++(be 8 N).take j)) 8 ?_ ?_
   ·refine⟨0,by omega,by simp (disch:=first|omega|(simp only [lens];first|done|omega)) only [go_sem],by simp (disch:=first|omega|(simp only [lens];first|done|omega)) only [go_sem];rfl,?_⟩
    simp (disch:=first|omega|(simp only [lens];first|done|omega)) only [go_sem,q3]
    rw [q3]at hO
    exact hO
   ·clear q0 q3 hO hg
    rintro m J O' ⟨j,hm,q4,q5,hO⟩
    obtain⟨r,q3,hg⟩:=hO.get
    have hl:(B++(be 8 N).take j).length=s.length+1+k+j:=by rw [List.length_append,hb,List.length_take,hb8];omega
    have hbe:=z15 (B++(be 8 N).take j)
    by_cases hj:j<8
    ·rw [q3]at hO
     rw [hl]at q3 hbe hO
     have hO2:=hO.app (c:=B++(be 8 N).take (j+1))
     have hc:(B++(be 8 N).take (j+1)).length=s.length+1+k+j+1:=by rw [List.length_append,hb,List.length_take,hb8];omega
     rw [hc]at hO2
     have hs:(8*(7-(j:Int))).toNat=8*(7-j):=by omega
     have e0:zx (B++(be 8 N).take j)++ [[AV.int .u8 ((N:Int)/2^(8*(7-j))%256)]]=zx (B++(be 8 N).take (j+1)):=by
      rw [zgj _ (N/2^(8*(7-j))) _ (by rw [Int.natCast_emod,Int.natCast_ediv,Int.natCast_pow];rfl),List.append_assoc,zmy N hj]
     generalize zx (B++(be 8 N).take j)=bb at*
     repeat' (first|apply zs_|apply zb_|apply zc_|apply zt_ rfl|apply zf_ rfl|(apply zd_ rfl<;>intro ht<;>try omega)|((first|apply zr_|apply zk_|apply ze_|apply zq_|(apply zG<;>intro ht));all_goals try simp (disch:=first|omega|(simp only [lens];first|done|omega)) only [go_sem,q3,q4,q5,hg,hbe,hs,e0]))
     exact⟨8-(j+1),by omega,j+1,by omega,by rw [show (7:Int)-((j+1:Nat):Int)=7-j-1 by omega],hO2⟩
    ·obtain rfl:j=8:=by omega
     have e8:B++(be 8 N).take 8=P:=by rw [List.take_of_length_le (by omega)];exact hP2.symm
     rw [e8]at hO q3
     repeat' (first|apply zs_|apply zb_|apply zc_|apply zt_ rfl|apply zf_ rfl|(apply zd_ rfl<;>intro ht<;>try omega)|((first|apply zr_|apply zk_|apply ze_|apply zq_|(apply zG<;>intro ht));all_goals try simp (disch:=first|omega|(simp only [lens];first|done|omega)) only [go_sem,q3,q5]))
     rw [q3]at hO
     exact hO.down hw
end
section
def z32:List AV:=z13 (List.replicate 32 0)
def mkS(τ:Store)(u:V8)(cells:List AV):Store:=τ++ [some [z32],some [gl_sha_rounds],some [u.c8],some [cells]]
def Rk(J:Env)(a:Nat)(p:List UInt8)(n:Nat):Prop:=
 J 2=.ptr a 0 0/\ J 3=.ptr (a+1) 0 0/\ J 4=.ptr (a+2) 0 0/\ J 5=.vsl 1 (zx p) false/\ J 6=.ptr (a+3) 0 0/\ J 7=.int .i64 n
theorem zgv{w:List W}{x:W}{n:Nat}{rest:List AV}(h:w.length=n)(hr:0<rest.length):(ws w++rest).take n++AV.int .u32 x.toNat::(ws w++rest).drop (n+1)=ws (w++ [x])++rest.drop 1:=by
 have hl:(ws w).length=n:=by rw [z3u,h]
 rw [List.take_append_of_le_length (by omega),List.take_of_length_le (by omega),List.drop_append,List.drop_of_length_le (by omega),hl]
 rw [show n+1-n=1 by omega,List.nil_append]
 simp [ws,wc]
theorem zwo{p:List UInt8}{n i:Nat}(h:n+4*i+4<=p.length)(hi:i<16):
  ((p.getD (n+4*i) 0).toNat:Int)*16777216+(p.getD (n+4*i+1) 0).toNat*65536+(p.getD (n+4*i+2) 0).toNat*256+(p.getD (n+4*i+3) 0).toNat=((zw ((p.drop n).take 64) i).toNat:Int):=by
 have e:((((p.drop n).take 64).drop (4*i)).take 4)=[p.getD (n+4*i) 0,p.getD (n+4*i+1) 0,p.getD (n+4*i+2) 0,p.getD (n+4*i+3) 0]:=by
  rw [List.drop_take,List.take_take,List.drop_drop,show min 4 (64-4*i)=4 by omega]
  obtain⟨A,hA⟩:∃A,A=p.drop (n+4*i):=⟨_,rfl⟩
  have g:∀k,p.getD (n+4*i+k) 0=A.getD k 0:=by
   intro k
   rw [hA,List.getD_eq_getElem?_getD,List.getD_eq_getElem?_getD,List.getElem?_drop]
  have g0:=g 0
  rw [Nat.add_zero]at g0
  rw [g0,g 1,g 2,g 3,<-hA]
  have hl:4<=A.length:=by rw [hA,List.length_drop];omega
  match A,hl with
  |a::b::c::d::A,_=>rfl
 unfold zw
 rw [e]
 generalize p.getD (n+4*i) 0=a
 generalize p.getD (n+4*i+1) 0=b
 generalize p.getD (n+4*i+2) 0=c
 generalize p.getD (n+4*i+3) 0=d
 have h1:=a.toNat_lt
 have h2:=b.toNat_lt
 have h3:=c.toNat_lt
 have h4:=d.toNat_lt
 simp only [getS,val,List.take_of_length_le (show [a,b,c,d].length<=8 by simp),List.foldl_cons,List.foldl_nil,BitVec.toNat_ofNat]
 omega
section
variable {k:Nat} {Q:AExit->Env->Store->Prop} {J:Env} {τ:Store} {u:V8} {p:List UInt8} {n:Nat}
theorem zth{cells:List AV}(K:Rk J τ.length p n)(hp:n+64<=p.length)(hpl:p.length<2000000000)(hc:cells.length=64)
  (hQ:∀J' rest,rest.length=48->Rk J' τ.length p n->Q .normal J' (mkS τ u (ws (z12 ((p.drop n).take 64) 16)++rest))):zW TC 252 k q6c21 Q J (mkS τ u cells):=by
 obtain⟨k2,k3,k4,k5,k6,k7⟩:=K
 obtain⟨q,hq⟩:∃q,q=(p.drop n).take 64:=⟨_,rfl⟩
 rw [<-hq]at hQ
 repeat' (first|apply zs_|apply zb_|apply zc_|apply zt_ rfl|apply zf_ rfl|(apply zd_ rfl<;>intro ht<;>try omega)|((first|apply zr_|apply zk_|apply ze_|apply zq_|(apply zG<;>intro ht));all_goals try simp (disch:=first|omega|(simp only [lens];first|done|omega)) only [go_sem]))
 refine zW.loop (fun m J O'=>∃(i:Nat) (rest:List AV),m+i=16/\ rest.length=64-i/\ Rk J τ.length p n/\ J 8=.int .i64 i/\ O'=mkS τ u (ws (z12 q i)++rest)) 16 ?_ ?_
 ·exact⟨0,cells,by omega,hc,⟨by simp (disch:=first|omega|(simp only [lens];first|done|omega)) only [go_sem,k2],by simp (disch:=first|omega|(simp only [lens];first|done|omega)) only [go_sem,k3],by simp (disch:=first|omega|(simp only [lens];first|done|omega)) only [go_sem,k4],by simp (disch:=first|omega|(simp only [lens];first|done|omega)) only [go_sem,k5],by simp (disch:=first|omega|(simp only [lens];first|done|omega)) only [go_sem,k6],by simp (disch:=first|omega|(simp only [lens];first|done|omega)) only [go_sem,k7]⟩,by simp (disch:=first|omega|(simp only [lens];first|done|omega)) only [go_sem];rfl,rfl⟩
 ·rintro m J O' ⟨i,rest,hm,hr,⟨q2,q3,q4,q5,q6,q7⟩,q8,rfl⟩
  by_cases hi:i<16
  ·have hwd:=zwo (p:=p) (n:=n) (i:=i) (by omega) hi
   rw [<-hq]at hwd
   have hset:=zgv (x:=zw q i) (rest:=rest) (z45 q i) (by omega)
   have hlen:(ws (z12 q i)++rest).length=64:=by rw [List.length_append,z3u,z45,hr];omega
   have hsc:z12 q (i+1)=z12 q i++ [zw q i]:=by rw [z12,z2w,z45,if_pos hi]
   have n0:((n:Int)+4*i).toNat=n+4*i:=by omega
   have n1:((n:Int)+4*i+1).toNat=n+4*i+1:=by omega
   have n2:((n:Int)+4*i+2).toNat=n+4*i+2:=by omega
   have n3:((n:Int)+4*i+3).toNat=n+4*i+3:=by omega
   have b0:=(p.getD (n+4*i) 0).toNat_lt
   have b1:=(p.getD (n+4*i+1) 0).toNat_lt
   have b2:=(p.getD (n+4*i+2) 0).toNat_lt
   have b3:=(p.getD (n+4*i+3) 0).toNat_lt
   have g0:=zhj (s:=p) (i:=n+4*i) (by omega)
   have e0:=z8j (s:=p) (i:=n+4*i) (by omega)
   have e1:=z8j (s:=p) (i:=n+4*i+1) (by omega)
   have e2:=z8j (s:=p) (i:=n+4*i+2) (by omega)
   have e3:=z8j (s:=p) (i:=n+4*i+3) (by omega)
   have hpb:=z15 p
   unfold mkS
   generalize p.getD (n+4*i) 0=x0 at*
   generalize p.getD (n+4*i+1) 0=x1 at*
   generalize p.getD (n+4*i+2) 0=x2 at*
   generalize p.getD (n+4*i+3) 0=x3 at*
   generalize hpb2:zx p=pb at*
   generalize hcc:ws (z12 q i)++rest=cc at*
   repeat' (first|refine zs_ ?_|refine zb_ ?_|refine zc_ ?_|refine zt_ rfl ?_|refine zf_ rfl ?_|(refine zd_ rfl (fun ht=> ?_) (fun ht=> ?_)<;>try (exfalso;omega))|((first|refine zW.regS ?_|refine zk_ ?_|refine ze_ ?_|refine zq_ ?_|(apply zG<;>intro ht));all_goals try simp (disch:=first|omega|(simp only [lens];first|done|omega)) only [go_sem,q2,q3,q4,q5,q6,q7,q8,hlen,n0,n1,n2,n3,e0,e1,e2,e3]))
   refine⟨16-(i+1),by omega,i+1,rest.drop 1,by omega,by rw [List.length_drop];omega,⟨by simp (disch:=first|omega|(simp only [lens];first|done|omega)) only [go_sem,q2],by simp (disch:=first|omega|(simp only [lens];first|done|omega)) only [go_sem,q3],by simp (disch:=first|omega|(simp only [lens];first|done|omega)) only [go_sem,q4],(by simp (disch:=first|omega|(simp only [lens];first|done|omega)) only [go_sem,q5];rw [hpb2]),by simp (disch:=first|omega|(simp only [lens];first|done|omega)) only [go_sem,q6],by simp (disch:=first|omega|(simp only [lens];first|done|omega)) only [go_sem,q7]⟩,by simp,?_⟩
   rw [hwd,hset,hsc]
  ·obtain rfl:i=16:=by omega
   repeat' (first|apply zs_|apply zb_|apply zc_|apply zt_ rfl|apply zf_ rfl|(apply zd_ rfl<;>intro ht<;>try omega)|((first|apply zr_|apply zk_|apply ze_|apply zq_|(apply zG<;>intro ht));all_goals try simp (disch:=first|omega|(simp only [lens];first|done|omega)) only [go_sem,q8]))
   exact hQ _ rest (by omega) ⟨by simp (disch:=first|omega|(simp only [lens];first|done|omega)) only [go_sem,q2],by simp (disch:=first|omega|(simp only [lens];first|done|omega)) only [go_sem,q3],by simp (disch:=first|omega|(simp only [lens];first|done|omega)) only [go_sem,q4],by simp (disch:=first|omega|(simp only [lens];first|done|omega)) only [go_sem,q5],by simp (disch:=first|omega|(simp only [lens];first|done|omega)) only [go_sem,q6],by simp (disch:=first|omega|(simp only [lens];first|done|omega)) only [go_sem,q7]⟩
theorem ztg{q:List UInt8}{rest:List AV}(K:Rk J τ.length p n)(hr:rest.length=48)
  (hQ:∀J',Rk J' τ.length p n->Q .normal J' (mkS τ u (ws (z12 q 64)))):zW TC 252 k q6c34 Q J (mkS τ u (ws (z12 q 16)++rest)):=by
 obtain⟨R,hR⟩:∃R,R=z12 q 64:=⟨_,rfl⟩
 rw [<-hR]at hQ
 obtain⟨k2,k3,k4,k5,k6,k7⟩:=K
 repeat' (first|apply zs_|apply zb_|apply zc_|apply zt_ rfl|apply zf_ rfl|(apply zd_ rfl<;>intro ht<;>try omega)|((first|apply zr_|apply zk_|apply ze_|apply zq_|(apply zG<;>intro ht));all_goals try simp (disch:=first|omega|(simp only [lens];first|done|omega)) only [go_sem]))
 refine zW.loop (fun m J O'=>∃(i:Nat) (rest:List AV),m+i=64/\ 16<=i/\ rest.length=64-i/\ Rk J τ.length p n/\ J 10=.int .i64 i/\ O'=mkS τ u (ws (z12 q i)++rest)) 48 ?_ ?_
 ·exact⟨16,rest,by omega,by omega,hr,⟨by simp (disch:=first|omega|(simp only [lens];first|done|omega)) only [go_sem,k2],by simp (disch:=first|omega|(simp only [lens];first|done|omega)) only [go_sem,k3],by simp (disch:=first|omega|(simp only [lens];first|done|omega)) only [go_sem,k4],by simp (disch:=first|omega|(simp only [lens];first|done|omega)) only [go_sem,k5],by simp (disch:=first|omega|(simp only [lens];first|done|omega)) only [go_sem,k6],by simp (disch:=first|omega|(simp only [lens];first|done|omega)) only [go_sem,k7]⟩,by simp (disch:=first|omega|(simp only [lens];first|done|omega)) only [go_sem];rfl,rfl⟩
 ·clear hr
  rintro m J O' ⟨i,rest,hm,h16,hr,⟨q2,q3,q4,q5,q6,q7⟩,q10,rfl⟩
  have hsl:=z45 q i
  by_cases hi:i<64
  ·have hset:=zgv (x:=z2w q (z12 q i)) (rest:=rest) hsl (by omega)
   have hlen:(ws (z12 q i)++rest).length=64:=by rw [List.length_append,z3u,z45,hr];omega
   have hsc:z12 q (i+1)=z12 q i++ [z2w q (z12 q i)]:=by rw [z12]
   have en:z2w q (z12 q i)=wat (z12 q i) (i-16)+wat (z12 q i) (i-7)+ss0 (wat (z12 q i) (i-15))+ss1 (wat (z12 q i) (i-2)):=by rw [z2w,if_neg (by omega),hsl]
   have hwi:∀j,j<i->(ws (z12 q i)++rest)[j]? =some (.int .u32 (wat (z12 q i) j).toNat):=by
    intro j hj
    rw [List.getElem?_append_left (by rw [z3u];omega),z86 (by omega)]
   have g16:=hwi (i-16) (by omega)
   have g7:=hwi (i-7) (by omega)
   have g15:=hwi (i-15) (by omega)
   have g2:=hwi (i-2) (by omega)
   have t16:((i:Int)-16).toNat=i-16:=by omega
   have t7:((i:Int)-7).toNat=i-7:=by omega
   have t15:((i:Int)-15).toNat=i-15:=by omega
   have t2:((i:Int)-2).toNat=i-2:=by omega
   have r7:32-(7:Int).toNat=25:=rfl
   clear hwi
   generalize z2w q (z12 q i)=nx at*
   generalize wat (z12 q i) (i-16)=w16 at*
   generalize wat (z12 q i) (i-7)=w7 at*
   generalize wat (z12 q i) (i-15)=w15 at*
   generalize wat (z12 q i) (i-2)=w2 at*
   unfold mkS
   generalize hpb2:zx p=pb at*
   generalize hcc:ws (z12 q i)++rest=cc at*
   repeat' (first|refine zs_ ?_|refine zb_ ?_|refine zc_ ?_|refine zt_ rfl ?_|refine zf_ rfl ?_|(refine zd_ rfl (fun ht=> ?_) (fun ht=> ?_)<;>try (exfalso;omega))|((first|refine zW.regS ?_|refine zk_ ?_|refine ze_ ?_|refine zq_ ?_|(apply callW.mk_pu;(first|exact(fun _=>zc5 _ _ _ (by omega))))|(apply callW.za;(first|exact(zc5 _ _ _ (by omega))))|(apply zG<;>intro ht));all_goals try simp (disch:=first|omega|(simp only [lens];first|done|omega)) only [go_sem,q2,q3,q4,q5,q6,q7,q10,hlen,g16,g7,g15,g2,t16,t7,t15,t2]))
   refine⟨64-(i+1),by omega,i+1,rest.drop 1,by omega,by omega,by rw [List.length_drop];omega,⟨by simp (disch:=first|omega|(simp only [lens];first|done|omega)) only [go_sem,q2],by simp (disch:=first|omega|(simp only [lens];first|done|omega)) only [go_sem,q3],by simp (disch:=first|omega|(simp only [lens];first|done|omega)) only [go_sem,q4],(by simp (disch:=first|omega|(simp only [lens];first|done|omega)) only [go_sem,q5];rw [hpb2]),by simp (disch:=first|omega|(simp only [lens];first|done|omega)) only [go_sem,q6],by simp (disch:=first|omega|(simp only [lens];first|done|omega)) only [go_sem,q7]⟩,by simp,?_⟩
   rw [hsc,<-hset,en]
   have ec:∀s t:W,w16+s+w7+t=w16+w7+s+t:=fun s t=>by rw [BitVec.add_assoc w16 s w7,BitVec.add_comm s w7,<-BitVec.add_assoc w16 w7 s]
   rw [ec]
   rfl
  ·obtain rfl:i=64:=by omega
   have hr0:rest=[]:=List.eq_nil_of_length_eq_zero (by omega)
   rw [hr0,<-hR,List.append_nil]
   clear hsl hR
   repeat' (first|apply zs_|apply zb_|apply zc_|apply zt_ rfl|apply zf_ rfl|(apply zd_ rfl<;>intro ht<;>try omega)|((first|apply zr_|apply zk_|apply ze_|apply zq_|(apply zG<;>intro ht));all_goals try simp (disch:=first|omega|(simp only [lens];first|done|omega)) only [go_sem,q10]))
   exact hQ _ ⟨by simp (disch:=first|omega|(simp only [lens];first|done|omega)) only [go_sem,q2],by simp (disch:=first|omega|(simp only [lens];first|done|omega)) only [go_sem,q3],by simp (disch:=first|omega|(simp only [lens];first|done|omega)) only [go_sem,q4],by simp (disch:=first|omega|(simp only [lens];first|done|omega)) only [go_sem,q5],by simp (disch:=first|omega|(simp only [lens];first|done|omega)) only [go_sem,q6],by simp (disch:=first|omega|(simp only [lens];first|done|omega)) only [go_sem,q7]⟩
end
end
section
theorem k_get{i:Nat}(h:i<64):gl_sha_rounds[i]? =some (.int .u32 (kAt i).toNat):=by
 have:=zib h
 rwa [List.getElem?_drop,Nat.add_zero]at this
section
variable {k:Nat} {Q:AExit->Env->Store->Prop} {J:Env} {τ:Store} {u:V8} {p:List UInt8} {n:Nat}
theorem ztf{q:List UInt8}(K:Rk J τ.length p n)
  (hQ:∀J',Rk J' τ.length p n->Q .normal J' (mkS τ (mixS u q) (ws (z12 q 64)))):zW TC 252 k q6c53 Q J (mkS τ u (ws (z12 q 64))):=by
 obtain⟨R,hR⟩:∃R,R=z12 q 64:=⟨_,rfl⟩
 have hRl:R.length=64:=by rw [hR,z45]
 have hwR:(ws R).length=64:=by rw [z3u,hRl]
 have hst:∀n,rnds q u (n+1)=rnd (rnds q u n) (kAt n) (wat R n):=fun n=>by rw [rnds,hR]
 obtain⟨U,hU⟩:∃U,U=rnds q u 64:=⟨_,rfl⟩
 have hmix:mixS u q=U.add u:=by rw [mixS,hU]
 rw [hmix]at hQ
 rw [<-hR]at hQ ⊢
 obtain⟨k2,k3,k4,k5,k6,k7⟩:=K
 unfold mkS
 refine zs_ ?_
 (refine zW.regS ?_;(simp (disch:=first|omega|(simp only [lens];first|done|omega)) only [go_sem,k4,V8.c8]))
 (refine zW.slots [2,3,4,5,6,7,13,14,15,16,17,18,19,20] ?_;intro J1 hs;simp (disch:=first|omega|(simp only [lens];first|done|omega)) only [go_sem,k2,k3,k4,k5,k6,k7]at hs;obtain⟨s2,s3,s4,s5,s6,s7,s13,s14,s15,s16,s17,s18,s19,s20⟩:=hs)
 refine zs_ ?_
 refine zs_ ?_
 (refine zW.regS ?_;(simp (disch:=first|omega|(simp only [lens];first|done|omega)) only [go_sem]))
 refine zb_ ?_
 refine zW.loop (fun m J O'=>∃i:Nat,m+i=64/\ Rk J τ.length p n/\ J 21=.int .i64 i/\ J 13=.int .u32 (rnds q u i).a.toNat/\ J 14=.int .u32 (rnds q u i).b.toNat/\ J 15=.int .u32 (rnds q u i).c.toNat/\ J 16=.int .u32 (rnds q u i).d.toNat ∧
  J 17=.int .u32 (rnds q u i).e.toNat/\ J 18=.int .u32 (rnds q u i).f.toNat/\ J 19=.int .u32 (rnds q u i).g.toNat/\ J 20=.int .u32 (rnds q u i).h.toNat/\ O'=mkS τ u (ws R)) 64 ?_ ?_
 ·exact⟨0,by omega,⟨by simp (disch:=first|omega|(simp only [lens];first|done|omega)) only [go_sem,s2],by simp (disch:=first|omega|(simp only [lens];first|done|omega)) only [go_sem,s3],by simp (disch:=first|omega|(simp only [lens];first|done|omega)) only [go_sem,s4],by simp (disch:=first|omega|(simp only [lens];first|done|omega)) only [go_sem,s5],by simp (disch:=first|omega|(simp only [lens];first|done|omega)) only [go_sem,s6],by simp (disch:=first|omega|(simp only [lens];first|done|omega)) only [go_sem,s7]⟩,by simp (disch:=first|omega|(simp only [lens];first|done|omega)) only [go_sem];rfl,by simp (disch:=first|omega|(simp only [lens];first|done|omega)) only [go_sem,s13];rfl,by simp (disch:=first|omega|(simp only [lens];first|done|omega)) only [go_sem,s14];rfl,by simp (disch:=first|omega|(simp only [lens];first|done|omega)) only [go_sem,s15];rfl,by simp (disch:=first|omega|(simp only [lens];first|done|omega)) only [go_sem,s16];rfl,by simp (disch:=first|omega|(simp only [lens];first|done|omega)) only [go_sem,s17];rfl,by simp (disch:=first|omega|(simp only [lens];first|done|omega)) only [go_sem,s18];rfl,by simp (disch:=first|omega|(simp only [lens];first|done|omega)) only [go_sem,s19];rfl,by simp (disch:=first|omega|(simp only [lens];first|done|omega)) only [go_sem,s20];rfl,rfl⟩
 ·clear s2 s3 s4 s5 s6 s7 s13 s14 s15 s16 s17 s18 s19 s20
  rintro m J O' ⟨i,hm,⟨q2,q3,q4,q5,q6,q7⟩,q21,q13,q14,q15,q16,q17,q18,q19,q20,rfl⟩
  by_cases hi:i<64
  ·have hk:=k_get hi
   have hw:=z86 (w:=R) (i:=i) (by omega)
   have hst:=hst i
   generalize rnds q u i=v at*
   obtain⟨a,b,c,d,e,f,g,h⟩:=v
   simp only at q13 q14 q15 q16 q17 q18 q19 q20
   generalize kAt i=kk at*
   generalize wat R i=ww at*
   generalize hpb:zx p=pb at*
   unfold mkS
   refine zs_ ?_
   refine zs_ ?_
   (refine zW.regS ?_;(simp (disch:=first|omega|(simp only [lens];first|done|omega)) only [go_sem,q21]))
   refine zt_ rfl ?_
   refine zk_ ?_
   simp (disch:=first|omega|(simp only [lens];first|done|omega)) only [go_sem]
   refine zs_ ?_
   refine zb_ ?_
   refine zs_ ?_
   (refine zW.regS ?_;(simp (disch:=first|omega|(simp only [lens];first|done|omega)) only [go_sem,q3,q6,q17,q18,q19,q20,q21,hwR,hk,hw,z8v]);repeat' (apply callW.za;(first|exact(zc5 _ _ _ (by omega)));all_goals try (simp (disch:=first|omega|(simp only [lens];first|done|omega)) only [go_sem,q3,q6,q17,q18,q19,q20,q21,hwR,hk,hw,z8v])))
   (refine zW.slots [2,3,4,5,6,7,13,14,15,16,17,18,19,20,21,22] ?_;intro J2 hs;simp (disch:=first|omega|(simp only [lens];first|done|omega)) only [go_sem,q2,q3,q4,q5,q6,q7,q13,q14,q15,q16,q17,q18,q19,q20,q21]at hs;obtain⟨s2,s3,s4,s5,s6,s7,s13,s14,s15,s16,s17,s18,s19,s20,s21,s22⟩:=hs)
   refine zs_ ?_
   (refine zW.regS ?_;(simp (disch:=first|omega|(simp only [lens];first|done|omega)) only [go_sem,s13,s14,s15]);repeat' (apply callW.za;(first|exact(zc5 _ _ _ (by omega)));all_goals try (simp (disch:=first|omega|(simp only [lens];first|done|omega)) only [go_sem,s13,s14,s15])))
   (refine zW.slots [2,3,4,5,6,7,13,14,15,16,17,18,19,20,21,22,23] ?_;intro J3 hs;simp (disch:=first|omega|(simp only [lens];first|done|omega)) only [go_sem,s2,s3,s4,s5,s6,s7,s13,s14,s15,s16,s17,s18,s19,s20,s21,s22]at hs;obtain⟨s2,s3,s4,s5,s6,s7,s13,s14,s15,s16,s17,s18,s19,s20,s21,s22,s23⟩:=hs)
   (refine zW.regS ?_;(simp (disch:=first|omega|(simp only [lens];first|done|omega)) only [go_sem,s13,s14,s15,s16,s17,s18,s19,s22,s23]))
   (refine zW.slots [2,3,4,5,6,7,13,14,15,16,17,18,19,20,21] ?_;intro J4 hs;simp (disch:=first|omega|(simp only [lens];first|done|omega)) only [go_sem,s2,s3,s4,s5,s6,s7,s21]at hs;obtain⟨s2,s3,s4,s5,s6,s7,s13,s14,s15,s16,s17,s18,s19,s20,s21⟩:=hs)
   (refine zW.regS ?_;(simp (disch:=first|omega|(simp only [lens];first|done|omega)) only [go_sem,s21]))
   refine⟨64-(i+1),by omega,i+1,by omega,⟨s2,s3,s4,by rw [hpb];exact s5,s6,s7⟩,by simp,?_⟩
   rw [hst]
   simp only [rnd,bs1,chW,bs0,majW]
   exact⟨s13,s14,s15,s16,s17,s18,s19,s20⟩
  ·obtain rfl:i=64:=by omega
   rw [<-hU]at q13 q14 q15 q16 q17 q18 q19 q20
   clear hst hU hmix
   obtain⟨a,b,c,d,e,f,g,h⟩:=U
   obtain⟨a',b',c',d',e',f',g',h'⟩:=u
   simp only at q13 q14 q15 q16 q17 q18 q19 q20
   unfold mkS
   unfold mkS at hQ
   simp only [V8.add,V8.c8]at hQ
   simp only [V8.c8]
   generalize hpb:zx p=pb at*
   refine zs_ ?_
   refine zs_ ?_
   (refine zW.regS ?_;(simp (disch:=first|omega|(simp only [lens];first|done|omega)) only [go_sem,q21]))
   refine zf_ rfl ?_
   refine ze_ ?_
   simp (disch:=first|omega|(simp only [lens];first|done|omega)) only [go_sem]
   (refine zW.regS ?_;(simp (disch:=first|omega|(simp only [lens];first|done|omega)) only [go_sem,q4,q13,q14,q15,q16,q17,q18,q19,q20]))
   rw [BitVec.add_comm a' a,BitVec.add_comm b' b,BitVec.add_comm c' c,BitVec.add_comm d' d,BitVec.add_comm e' e,BitVec.add_comm f' f,BitVec.add_comm g' g,BitVec.add_comm h' h]
   exact hQ _ ⟨by simp (disch:=first|omega|(simp only [lens];first|done|omega)) only [go_sem,q2],by simp (disch:=first|omega|(simp only [lens];first|done|omega)) only [go_sem,q3],by simp (disch:=first|omega|(simp only [lens];first|done|omega)) only [go_sem,q4],(by simp (disch:=first|omega|(simp only [lens];first|done|omega)) only [go_sem,q5];rw [hpb]),by simp (disch:=first|omega|(simp only [lens];first|done|omega)) only [go_sem,q6],by simp (disch:=first|omega|(simp only [lens];first|done|omega)) only [go_sem,q7]⟩
end
end
section
theorem sum_r1{C:Ctx}{K:Env->Store->Prop}{H:Hist}{J:Env}{O:Store}:zy C K q6r1 H J O=zy C K (q6r1.drop 1) H (upd J 26 (.agg gl_sha_rounds)) O:=by kernel_rfl
theorem zp5{l:List W}{i:Nat}(h:i<4*l.length):(l.flatMap fun x=>be 4 x.toNat)[i]? =(be 4 (wat l (i/4)).toNat)[i%4]?:=by
 induction l generalizing i with
 |nil=>simp at h
 |cons x l ih=>
  have hb:(be 4 x.toNat).length=4:=z34 _ _
  rw [List.flatMap_cons]
  by_cases hi:i<4
  ·rw [List.getElem?_append_left (by omega),Nat.div_eq_of_lt hi,Nat.mod_eq_of_lt hi];rfl
  ·simp only [List.length_cons]at h
   rw [List.getElem?_append_right (by omega),hb,ih (by omega),show i/4=(i-4)/4+1 by omega,show (i-4)%4=i%4 by omega]
   rfl
theorem zmx(x:Nat){j:Nat}(h:j<4):(be 4 x)[j]? =some (UInt8.ofNat (x/2^(24-8*j))):=by
 have e:be 4 x=[UInt8.ofNat (x/256^3),UInt8.ofNat (x/256^2),UInt8.ofNat (x/256^1),UInt8.ofNat (x/256^0)]:=by
  simp only [z8i]
  rfl
 rw [e]
 have hj:j=0 \/j=1 \/j=2 \/j=3:=by omega
 rcases hj with rfl|rfl|rfl|rfl<;>rfl
theorem zs9(v:V8){i:Nat}(h:i<32):(outV v)[i]? =some (UInt8.ofNat ((wat v.l (i/4)).toNat/2^(24-8*(i%4)))):=by
 unfold outV
 rw [zp5 (by simp [V8.l];omega),zmx _ (Nat.mod_lt _ (by decide))]
def z42(v:V8)(i:Nat):List AV:=z13 ((outV v).take i)++List.replicate (32-i) (.int .u8 0)
theorem zrb(v:V8){i:Nat}(h:i<=32):(z42 v i).length=32:=by simp [z42,z19,z4r];omega
theorem zrc(v:V8){i:Nat}(h:i<32){b:Int}(hb:b=(((wat v.l (i/4)).toNat/2^(24-8*(i%4))%256:Nat):Int)):
  (z42 v i).take i++AV.int .u8 b::(z42 v i).drop (i+1)=z42 v (i+1):=by
 have h1:(z13 ((outV v).take i)).length=i:=by rw [z19,List.length_take,z4r];omega
 have hg:=zs9 v h
 have hs:(outV v).take (i+1)=(outV v).take i++ [UInt8.ofNat ((wat v.l (i/4)).toNat/2^(24-8*(i%4)))]:=by
  rw [List.take_add_one,hg];rfl
 unfold z42
 rw [List.take_append_of_le_length (by omega),List.take_of_length_le (by omega),List.drop_append,List.drop_of_length_le (by omega),h1,show i+1-i=1 by omega,List.nil_append,hs]
 rw [List.drop_replicate,show 32-i-1=32-(i+1)by omega]
 simp [z13,hb]
theorem zte(O:Store)(s:List UInt8)(h:s.length<900000000):ACallsTo TC 54 [.str s] O (.agg (z13 (shaS s))) O:=by
 obtain⟨p,hp⟩:∃p,p=padS s:=⟨_,rfl⟩
 obtain⟨hp1,hp2⟩:=zjb s
 rw [<-hp]at hp1 hp2
 obtain⟨N,hN⟩:∃N,p.length=64*N:=⟨p.length/64,by omega⟩
 obtain⟨V,hV⟩:∃V,V=blocks N v0 p:=⟨_,rfl⟩
 have hS:shaS s=outV V:=by
  unfold shaS
  rw [<-hp,hV]
  have:p.length/64=N:=by omega
  rw [this]
 rw [hS]
 have hf:=fun O=>pad_to O s (by omega)
 rw [<-hp]at hf
 refine ACallsTo.of_body q6ok (by simp) fun hw _=> ?_
 refine zs_ ?_
 refine zr_ ?_
 simp (disch:=first|omega|(simp only [lens];first|done|omega)) only [go_sem]
 refine zs_ ?_
 refine zr_ ?_
 rw [sum_r1]
 simp (disch:=first|omega|(simp only [lens];first|done|omega)) only [go_sem,z8v]
 refine zs_ ?_
 refine zr_ ?_
 simp (disch:=first|omega|(simp only [lens];first|done|omega)) only [go_sem]
 refine zs_ ?_
 repeat' (first|apply zs_|apply zb_|apply zc_|apply zt_ rfl|apply zf_ rfl|(apply zd_ rfl<;>intro ht<;>try omega)|((first|apply zr_|apply zk_|apply ze_|apply zq_|(apply callW.mk_pu;(first|exact(fun _=>hf _)))|(apply callW.za;(first|exact(hf _)))|(apply zG<;>intro ht));all_goals try simp (disch:=first|omega|(simp only [lens];first|done|omega)) only [go_sem]))
 refine zW.loop (fun m J O'=>∃(u:V8) (n:Nat) (cells:List AV),n+64*m=p.length/\ Rk J O.length p n/\ cells.length=64/\ blocks m u (p.drop n)=V/\ O'=mkS O u cells) N ?_ ?_
 ·exact⟨v0,0,List.replicate 64 (.int .u32 0),by omega,⟨by simp (disch:=first|omega|(simp only [lens];first|done|omega)) only [go_sem],by simp (disch:=first|omega|(simp only [lens];first|done|omega)) only [go_sem],by simp (disch:=first|omega|(simp only [lens];first|done|omega)) only [go_sem],by simp (disch:=first|omega|(simp only [lens];first|done|omega)) only [go_sem],by simp (disch:=first|omega|(simp only [lens];first|done|omega)) only [go_sem],by simp (disch:=first|omega|(simp only [lens];first|done|omega)) only [go_sem];rfl⟩,rfl,by rw [List.drop_zero];exact hV.symm,rfl⟩
 ·rintro m J O' ⟨u,n,cells,hn,⟨q2,q3,q4,q5,q6,q7⟩,hc,hb,rfl⟩
  have hpb:=z15 p
  cases m with
  |succ m=>
   refine zs_ ?_
   refine zs_ ?_
   (refine zW.regS ?_;(simp (disch:=first|omega|(simp only [lens];first|done|omega)) only [go_sem,q5,q7,hpb]))
   refine zt_ rfl ?_
   refine zk_ ?_
   simp (disch:=first|omega|(simp only [lens];first|done|omega)) only [go_sem]
   refine zs_ ?_
   refine zb_ ?_
   refine zs_ ?_
   refine zth (p:=p) (n:=n) (u:=u) (cells:=cells) ⟨by simp (disch:=first|omega|(simp only [lens];first|done|omega)) only [go_sem,q2],by simp (disch:=first|omega|(simp only [lens];first|done|omega)) only [go_sem,q3],by simp (disch:=first|omega|(simp only [lens];first|done|omega)) only [go_sem,q4],by simp (disch:=first|omega|(simp only [lens];first|done|omega)) only [go_sem,q5],by simp (disch:=first|omega|(simp only [lens];first|done|omega)) only [go_sem,q6],by simp (disch:=first|omega|(simp only [lens];first|done|omega)) only [go_sem,q7]⟩ (by omega) (by omega) hc ?_
   intro J1 rest hr K1
   refine zs_ ?_
   refine ztg K1 hr ?_
   intro J2 K2
   refine ztf K2 ?_
   intro J3 ⟨t2,t3,t4,t5,t6,t7⟩
   simp only [z2s,blkQ]
   (refine zW.regS ?_;(simp (disch:=first|omega|(simp only [lens];first|done|omega)) only [go_sem,t7]))
   refine⟨m,by omega,mixS u ((p.drop n).take 64),n+64,ws (z12 ((p.drop n).take 64) 64),by omega,⟨by simp (disch:=first|omega|(simp only [lens];first|done|omega)) only [go_sem,t2],by simp (disch:=first|omega|(simp only [lens];first|done|omega)) only [go_sem,t3],by simp (disch:=first|omega|(simp only [lens];first|done|omega)) only [go_sem,t4],by simp (disch:=first|omega|(simp only [lens];first|done|omega)) only [go_sem,t5],by simp (disch:=first|omega|(simp only [lens];first|done|omega)) only [go_sem,t6],by simp (disch:=first|omega|(simp only [lens];first|done|omega)) only [go_sem];rw [Int.natCast_add];rfl⟩,by rw [z3u,z45],?_,rfl⟩
   rw [<-hb,blocks,List.drop_drop]
  |zero=>
   have hd:p.drop n=[]:=List.drop_of_length_le (by omega)
   rw [hd]at hb
   have hu:u=V:=hb
   subst hu
   clear hb hd hV
   unfold mkS
   repeat' (first|apply zs_|apply zb_|apply zc_|apply zt_ rfl|apply zf_ rfl|(apply zd_ rfl<;>intro ht<;>try omega)|((first|apply zr_|apply zk_|apply ze_|apply zq_|(apply zG<;>intro ht));all_goals try simp (disch:=first|omega|(simp only [lens];first|done|omega)) only [go_sem,q5,q7,hpb]))
   refine zW.loop (fun m J O'=>∃i:Nat,m+i=32/\ J 2=.ptr O.length 0 0/\ J 4=.ptr (O.length+2) 0 0/\ J 24=.ptr (O.length+4) 0 0/\ J 25=.int .i64 i/\ O'=O++ [some [z32],some [gl_sha_rounds],some [u.c8],some [cells],some [z42 u i]]) 32 ?_ ?_
   ·exact⟨0,by omega,by simp (disch:=first|omega|(simp only [lens];first|done|omega)) only [go_sem,q2],by simp (disch:=first|omega|(simp only [lens];first|done|omega)) only [go_sem,q4],by simp (disch:=first|omega|(simp only [lens];first|done|omega)) only [go_sem],by simp (disch:=first|omega|(simp only [lens];first|done|omega)) only [go_sem];rfl,rfl⟩
   ·clear q2 q3 q4 q5 q6 q7
    rintro m J O' ⟨i,hm,q2,q4,q24,q25,rfl⟩
    have hlen:=zrb u (i:=i) (by omega)
    have h8:u.c8.length=8:=rfl
    have hz:z32.length=32:=rfl
    by_cases hi:i<32
    ·have hst:=zrc u hi (b:=((((wat u.l (i/4)).toNat/2^(24-8*(i%4))%256:Nat)):Int)) rfl
     have hw:=z86 (w:=u.l) (i:=i/4) (by simp [V8.l];omega)
     rw [ws_l]at hw
     generalize wat u.l (i/4)=x at*
     generalize z42 u i=cc at*
     have hd4:((i:Int)/4).toNat=i/4:=by omega
     have hsh:(24-8*((i:Int)%4)).toNat=24-8*(i%4):=by omega
     repeat' (first|refine zs_ ?_|refine zb_ ?_|refine zc_ ?_|refine zt_ rfl ?_|refine zf_ rfl ?_|(refine zd_ rfl (fun ht=> ?_) (fun ht=> ?_)<;>try (exfalso;omega))|((first|refine zW.regS ?_|refine zk_ ?_|refine ze_ ?_|refine zq_ ?_|(apply zG<;>intro ht));all_goals try simp (disch:=first|omega|(simp only [lens];first|done|omega)) only [go_sem,q2,q4,q24,q25,hlen,h8,hw,hd4,hsh]))
     refine⟨32-(i+1),by omega,i+1,by omega,by simp,?_⟩
     rw [BitVec.toNat_ushiftRight,Nat.shiftRight_eq_div_pow,<-hst,Int.natCast_emod]
     rfl
    ·obtain rfl:i=32:=by omega
     have e32:z42 u 32=z13 (outV u):=by
      unfold z42
      rw [List.take_of_length_le (by rw [z4r];decide)]
      exact List.append_nil _
     have hd:List.drop 32 z32=[]:=rfl
     have hl:(z13 (outV u)).length=32:=by rw [z19,z4r]
     rw [e32]at*
     repeat' (first|apply zs_|apply zb_|apply zc_|apply zt_ rfl|apply zf_ rfl|(apply zd_ rfl<;>intro ht<;>try omega)|((first|apply zr_|apply zk_|apply ze_|apply zq_|(apply zG<;>intro ht));all_goals try simp (disch:=first|omega|(simp only [lens];first|done|omega)) only [go_sem,q2,q4,q24,q25,hl,h8,hd,hz]))
     exact DownV.pure hw (z5p (z3b _))
end
section
set_option maxRecDepth 10000
def qdr0:yW:=[
 yI 1 (.box (.t 0)),
 yI 2 (.alloc zZ0)]
def qdr1:yW:=[
 yL 4 false 1 1,
 yI 5 (.lenSl (.t 4)),
 yJ 6 .eql 5 .i64 0]
def qdr2:yW:=[
 yI 7 (.call (.v (.fn 36 [])) [(.v (.str []))]),
 yS 32 2 7]
def qdc3:yX:=yq qdr2 .ret
def qdc4:yX:=.cond (.t 6) qdc3 .skip
def qdc5:yX:=yq qdr1 qdc4
def qdr6:yW:=[
 yI 3 (.alloc [.nilfn])]
def qdr7:yW:=[
 yI 8 (.mkfn 40 [(.t 1),(.t 3)]),
 yS 1 3 8]
def qdr8:yW:=[
 yL 9 false 1 3,
 yL 10 false 1 1,
 yI 11 (.lenSl (.t 10)),
 yI 12 (.call (.t 9) [(.v (.int .i64 0)),(.t 11)]),
 yS 32 2 12]
def qdc9:yX:=yq qdr8 .ret
def qdc10:yX:=yq qdr7 qdc9
def qdc11:yX:=yq qdr6 qdc10
def qdc12:yX:=.seq qdc5 qdc11
def qdc13:yX:=yq qdr0 qdc12
attribute [go_sem] qdr0 qdr1 qdr2 qdr6 qdr7 qdr8
theorem qdok:cFn TC 22=some (13,[.c 2 true 32],qdc13):=by kernel_rfl
def qer0:yW:=[
 yI 2 (.box (.t 0)),
 yI 3 (.box (.t 1)),
 yI 4 (.alloc zZ0)]
def qer1:yW:=[
 ⟨some 5,none,.rd,.load true 32 (.t 2)⟩,
 ⟨some 6,none,.ef,.call (.v (.fn 35 [])) [(.t 5)]⟩,
 yI 7 (.bin .add .none (.v (.str [1])) (.t 6)),
 ⟨some 8,none,.rd,.load true 32 (.t 3)⟩,
 yC 9 35 8,
 yB 10 .add 7 9,
 yC 11 36 10,
 yS 32 4 11]
def qec2:yX:=yq qer1 .ret
def qec3:yX:=yq qer0 qec2
attribute [go_sem] qer0 qer1
theorem qeok:cFn TC 42=some (12,[.c 4 true 32],qec3):=by kernel_rfl
def qfr0:yW:=[
 yK 2 .i64 0]
def qfr1:yW:=[
 yM 4 0,
 yJ 5 .lss 4 .i64 2]
def qfr2:yW:=[
 yK 2 .i64 0]
def qfc3:yX:=yq qfr2 .ret
def qfc4:yX:=.cond (.t 5) qfc3 .skip
def qfc5:yX:=yq qfr1 qfc4
def qfr6:yW:=[
 yK 3 .i64 1]
def qfr7:yW:=[
 yM 6 3,
 yM 7 0,
 yM 8 3,
 yB 9 .sub 7 8,
 yB 10 .lss 6 9]
def qfc8:yX:=.cond (.t 10) .skip (.exit 0)
def qfc9:yX:=yq qfr7 qfc8
def qfr10:yW:=[
 yM 11 3,
 yJ 12 .mul 11 .i64 2,
 yM 3 12]
def qfc11:yX:=.block 1 (.reg qfr10)
def qfc12:yX:=.seq qfc9 qfc11
def qfc13:yX:=.loop qfc12
def qfr14:yW:=[
 yM 13 3,
 yM 2 13]
def qfc15:yX:=yq qfr14 .ret
def qfc16:yX:=.seq (.block 0 qfc13) qfc15
def qfc17:yX:=yq qfr6 qfc16
def qfc18:yX:=.seq qfc5 qfc17
def qfc19:yX:=yq qfr0 qfc18
attribute [go_sem] qfr0 qfr1 qfr2 qfr6 qfr7 qfr10 qfr14
theorem qfok:cFn TC 41=some (14,[.t 2],qfc19):=by kernel_rfl
def qgr0:yW:=[
 yI 6 (.alloc zZ0)]
def qgr1:yW:=[
 yM 8 1,
 yM 9 0,
 yB 10 .sub 8 9,
 yC 11 41 10,
 yM 7 11]
def qgr2:yW:=[
 yM 12 7,
 yJ 13 .eql 12 .i64 0]
def qgr3:yW:=[
 yL 14 false 1 2,
 yM 15 0,
 yI 16 (.iaSl 32 (.t 14) (.t 15)),
 yL 17 true 32 16,
 yS 32 6 17]
def qgc4:yX:=yq qgr3 .ret
def qgc5:yX:=.cond (.t 13) qgc4 .skip
def qgc6:yX:=yq qgr2 qgc5
def qgr7:yW:=[
 ⟨some 18,none,.rd,.load false 1 (.t 3)⟩,
 yM 19 0,
 yM 20 0,
 yM 21 7,
 yB 22 .add 20 21,
 ⟨some 23,none,.ef,.call (.t 18) [(.t 19),(.t 22)]⟩,
 ⟨some 24,none,.rd,.load false 1 (.t 3)⟩,
 yM 25 0,
 yM 26 7,
 yB 27 .add 25 26,
 yM 28 1,
 yI 29 (.call (.t 24) [(.t 27),(.t 28)]),
 yD 30 42 23 29,
 yS 32 6 30]
def qgc8:yX:=yq qgr7 .ret
def qgc9:yX:=.seq qgc6 qgc8
def qgc10:yX:=yq qgr1 qgc9
def qgc11:yX:=yq qgr0 qgc10
attribute [go_sem] qgr0 qgr1 qgr2 qgr3 qgr7
theorem qgok:cFn TC 40=some (31,[.c 6 true 32],qgc11):=by kernel_rfl
def qhr0:yW:=[
 yI 1 (.box (.t 0)),
 yI 2 (.mv (.v (.str [])))]
def qhr1:yW:=[
 yI 3 (.mv (.v .nilsl))]
def qhr2:yW:=[
 yK 4 .i64 0]
def qhr3:yW:=[
 yM 5 4,
 yJ 6 .lss 5 .i64 32]
def qhc4:yX:=.cond (.t 6) .skip (.exit 0)
def qhc5:yX:=yq qhr3 qhc4
def qhr6:yW:=[
 yM 9 3,
 yM 10 4,
 yI 11 (.iaArr 32 1 (.t 1) (.t 10)),
 yL 12 false 1 11,
 yI 13 (.lit 1 [(.t 12)]),
 yI 14 (.appB (.t 9) (.t 13)),
 yM 3 14]
def qhr7:yW:=[
 yM 7 4,
 yJ 8 .add 7 .i64 1,
 yM 4 8]
def qhc8:yX:=.seq (.block 1 (.reg qhr6)) (.reg qhr7)
def qhc9:yX:=.seq qhc5 qhc8
def qhc10:yX:=.loop qhc9
def qhc11:yX:=.block 0 qhc10
def qhc12:yX:=yq qhr2 qhc11
def qhr13:yW:=[
 yM 15 3,
 yI 16 (.conv .str (.t 15)),
 yM 2 16]
def qhc14:yX:=yq qhr13 .ret
def qhc15:yX:=.seq qhc12 qhc14
def qhc16:yX:=yq qhr1 qhc15
def qhc17:yX:=yq qhr0 qhc16
attribute [go_sem] qhr0 qhr1 qhr2 qhr3 qhr6 qhr7 qhr13
theorem qhok:cFn TC 56=some (17,[.t 2],qhc17):=by kernel_rfl
def qir0:yW:=[
 yI 1 (.box (.t 0)),
 yI 2 (.mv (.v (.str [])))]
def qir1:yW:=[
 yI 3 (.slice (.arr 32 1) (.t 1) none none none),
 yI 4 (.conv .str (.t 3)),
 yM 2 4]
def qic2:yX:=yq qir1 .ret
def qic3:yX:=yq qir0 qic2
attribute [go_sem] qir0 qir1
theorem qiok:cFn TC 35=some (5,[.t 2],qic3):=by kernel_rfl
end
section
theorem zet(s:List UInt8):(shaS s).length=32:=z4r _
def z1k(a b:List UInt8):List UInt8:=shaS (1::(a++b))
theorem zdy(a b:List UInt8):(z1k a b).length=32:=zet _
theorem zd3:∀(l:List UInt8),chunk 1 l.length (z13 l)=zx l
 | []=>rfl
 |b::l=>by
  have:=zd3 l
  simp only [z13,zx]at this
  simp [z13,zx,chunk,B8]at this ⊢
  exact this
theorem z8q(O:Store)(h:List UInt8)(hl:h.length=32):ACallsTo TC 35 [.agg (z13 h)] O (.str h) O:=by
 refine ACallsTo.of_body qiok (by simp) fun hw _=> ?_
 have h1:=z19 h
 have hc:=zd3 h
 rw [hl]at h1 hc
 repeat' (first|apply zs_|apply zb_|apply zc_|apply zt_ rfl|apply zf_ rfl|(apply zd_ rfl<;>intro ht<;>try omega)|((first|apply zr_|apply zk_|apply ze_|apply zq_|(apply zG<;>intro ht));all_goals try simp (disch:=first|omega|(simp only [lens];first|done|omega)) only [go_sem,h1,hc]))
 exact DownV.pure hw (z1n _ rfl)
def OwnN(sz:Nat)(τ O':Store)(v:AV)(es:List (List AV)):Prop:=
 ∃news,O'=τ++news/\ ((es=[]/\ v=.nilsl) \/ ∃j,es ≠ []/\ v=.sl (τ.length+j) 0 es.length none sz/\ news[j]? =some (some es))
theorem OwnN.len{sz:Nat}{τ O':Store}{v:AV}{es:List (List AV)}(h:OwnN sz τ O' v es):z1w v=some (.int .i64 es.length):=by
 obtain⟨news,rfl,⟨rfl,rfl⟩| ⟨j,_,rfl,h⟩⟩:=h<;>rfl
theorem OwnN.appB{sz:Nat}{τ O':Store}{v:AV}{es ys:List (List AV)}(h:OwnN sz τ O' v es):z3v O' v ys=aApp O' 1 v ys:=by
 obtain⟨news,rfl,⟨rfl,rfl⟩| ⟨j,_,rfl,h⟩⟩:=h<;>rfl
theorem OwnN.nil{sz:Nat}{τ news:Store}:OwnN sz τ (τ++news) .nilsl []:=⟨news,rfl,.inl ⟨rfl,rfl⟩⟩
theorem OwnN.ext{sz:Nat}{τ O':Store}{v:AV}{es:List (List AV)}(h:OwnN sz τ O' v es):∃news,O'=τ++news:=by
 obtain⟨news,h,_⟩:=h;exact⟨news,h⟩
theorem OwnN.more{sz:Nat}{τ O':Store}{v:AV}{es:List (List AV)}(h:OwnN sz τ O' v es)(y:Store):OwnN sz τ (O'++y) v es:=by
 obtain⟨news,rfl,h| ⟨j,h0,rfl,h⟩⟩:=h
 ·exact⟨news++y,by rw [List.append_assoc],.inl h⟩
 ·exact⟨news++y,by rw [List.append_assoc],.inr ⟨j,h0,rfl,by rw [List.getElem?_append_left (List.getElem?_eq_some_iff.1 h).1];exact h⟩⟩
theorem OwnN.app{sz:Nat}{τ O':Store}{v:AV}{es ys:List (List AV)}(h:OwnN sz τ O' v es)(h0:ys.length ≠ 0)(hl:es.length+ys.length<=1073741824):
  ∃v' O'',aApp O' sz v ys=some (v',O'')/\ OwnN sz τ O'' v' (es++ys):=by
 have hne:es++ys ≠ []:=fun e=>h0 (by rw [(List.append_eq_nil_iff.1 e).2];rfl)
 obtain⟨news,rfl,⟨rfl,rfl⟩| ⟨j,_,rfl,h⟩⟩:=h
 ·refine⟨_,_,by rw [zcm,if_neg h0,if_pos (by simpa using hl)],news++ [some ys],by rw [List.append_assoc],.inr ⟨news.length,hne,by simp,by rw [List.getElem?_append_right (Nat.le_refl _)];simp⟩⟩
 ·have hj:=(List.getElem?_eq_some_iff.1 h).1
  have hg:(τ++news)[τ.length+j]? =some (some es):=by rw [List.getElem?_append_right (by omega),Nat.add_sub_cancel_left];exact h
  refine⟨.sl (τ++news).length 0 (es.length+ys.length) none sz,(τ++news).set (τ.length+j) none++ [some (es++ys)],?_,news.set j none++ [some (es++ys)],?_,.inr ⟨news.length,hne,by simp,by rw [List.getElem?_append_right (by simp)];simp⟩⟩
  ·rw [zcn,if_neg h0,hg]
   simp only
   rw [if_pos ⟨trivial,by omega,by omega⟩,if_neg (by omega),List.drop_zero,List.take_of_length_le (Nat.le_refl _)]
  ·rw [List.set_append_right _ _ (by omega),Nat.add_sub_cancel_left,List.append_assoc]
theorem OwnN.sl{sz:Nat}{τ O':Store}{v:AV}{es:List (List AV)}(h:OwnN sz τ O' v es)(h0:es ≠ []):∃r,v=.sl r 0 es.length none sz/\ O'[r]? =some (some es)/\ τ.length<=r:=by
 obtain⟨news,rfl,⟨rfl,rfl⟩| ⟨j,_,rfl,h⟩⟩:=h
 ·exact absurd rfl h0
 ·exact⟨_,rfl,by rw [List.getElem?_append_right (by omega),Nat.add_sub_cancel_left];exact h,by omega⟩
def SlV(sz:Nat)(es:List (List AV))(x:AV):Prop:=(x=.nilsl/\ es=[]) \/ ∃ex,x=.vsl sz es ex
theorem SlV.len{sz:Nat}{es:List (List AV)}{x:AV}(h:SlV sz es x):z1w x=some (.int .i64 es.length):=by
 rcases h with⟨rfl,rfl⟩| ⟨ex,rfl⟩<;>rfl
theorem SlV.vsl{sz:Nat}{es:List (List AV)}{x:AV}(h:SlV sz es x)(h0:0<es.length):∃ex,x=.vsl sz es ex:=by
 rcases h with⟨rfl,rfl⟩|h
 ·simp at h0
 ·exact h
def z17(sz:Nat)(es:List (List AV)):AV:=if es=[]then .nilsl else .vsl sz es false
theorem z2r(sz:Nat)(es:List (List AV)):SlV sz es (z17 sz es):=by
 unfold z17
 split
 ·rename_i h;exact .inl ⟨rfl,h⟩
 ·exact .inr ⟨false,rfl⟩
def ownV(O:Store)(sz:Nat)(es:List (List AV)):AV:=if es=[]then .nilsl else .sl O.length 0 es.length none sz
def ownS(O:Store)(es:List (List AV)):Store:=if es=[]then O else O++ [some es]
theorem z97(O:Store)(sz:Nat)(es:List (List AV)):OwnN sz O (ownS O es) (ownV O sz es) es:=by
 unfold ownV ownS
 by_cases h:es=[]
 ·rw [if_pos h,if_pos h];exact⟨[],by simp,.inl ⟨h,rfl⟩⟩
 ·rw [if_neg h,if_neg h];exact⟨[some es],rfl,.inr ⟨0,h,rfl,rfl⟩⟩
theorem OwnN.froze{sz:Nat}{O O':Store}{v:AV}{es:List (List AV)}(hw:Wf O.length O)(h:OwnN sz O O' v es)(hr:RLss O.length es):DownV O.length v O' (z17 sz es) O:=by
 unfold z17
 obtain⟨news,rfl,⟨rfl,rfl⟩| ⟨j,h0,rfl,h⟩⟩:=h
 ·rw [if_pos rfl];exact DownV.pure hw (z1n _ rfl)
 ·have e:(es.drop 0).take es.length=es:=by rw [List.drop_zero,List.take_of_length_le (Nat.le_refl _)]
  have:=DownV.froze (off:=0) (len:=es.length) (esz:=sz) (lim:=none) hw h (by omega) (by rw [e];exact hr)
  rw [e]at this
  rw [if_neg h0];exact this
theorem OwnN.own{sz:Nat}{O O':Store}{v:AV}{es:List (List AV)}(hw:Wf O.length O)(h:OwnN sz O O' v es)(hr:RLss O.length es):DownV O.length v O' (ownV O sz es) (ownS O es):=by
 unfold ownV ownS
 obtain⟨news,rfl,⟨rfl,rfl⟩| ⟨j,h0,rfl,h⟩⟩:=h
 ·rw [if_pos rfl,if_pos rfl];exact DownV.pure hw (z1n _ rfl)
 ·rw [if_neg h0,if_neg h0];exact DownV.own (off:=0) (len:=es.length) (esz:=sz) (lim:=none) hw h hr
theorem zn4{l:List UInt8}{i:Nat}(h:i<l.length):(z13 l)[i]? =some (.int .u8 (l.getD i 0).toNat):=by
 simp [z13,List.getD_eq_getElem?_getD,List.getElem?_eq_getElem h]
theorem ztc(O:Store)(h:List UInt8)(hl:h.length=32):ACallsTo TC 56 [.agg (z13 h)] O (.str h) O:=by
 refine ACallsTo.of_body qhok (by simp) fun hw _=> ?_
 have h1:=z19 h
 rw [hl]at h1
 repeat' (first|apply zs_|apply zb_|apply zc_|apply zt_ rfl|apply zf_ rfl|(apply zd_ rfl<;>intro ht<;>try omega)|((first|apply zr_|apply zk_|apply ze_|apply zq_|(apply zG<;>intro ht));all_goals try simp (disch:=first|omega|(simp only [lens];first|done|omega)) only [go_sem,h1]))
 refine zW.loop (fun m J O'=>∃i:Nat,m+i=32/\ J 1=.ptr O.length 0 0/\ J 4=.int .i64 i/\ OwnN 1 (O++ [some [z13 h]]) O' (J 3) (zx (h.take i))) 32 ?_ ?_
 ·refine⟨0,by omega,by simp (disch:=first|omega|(simp only [lens];first|done|omega)) only [go_sem],by simp (disch:=first|omega|(simp only [lens];first|done|omega)) only [go_sem];rfl,?_⟩
  simp (disch:=first|omega|(simp only [lens];first|done|omega)) only [go_sem]
  have:=OwnN.nil (sz:=1) (τ:=O++ [some [z13 h]]) (news:=[])
  rwa [List.append_nil]at this
 ·rintro m J O' ⟨i,hm,q1,q4,hO⟩
  by_cases hi:i<32
  ·have hg:=zn4 (l:=h) (i:=i) (by omega)
   have hs:h.take (i+1)=h.take i++ [h.getD i 0]:=by
    rw [List.take_add_one,List.getD_eq_getElem?_getD,List.getElem?_eq_getElem (by omega)];rfl
   obtain⟨v',O2,he,hO2⟩:=hO.app (ys:=zx [h.getD i 0]) (by simp [zx]) (by simp [z15];omega)
   have ho:O'[O.length]? =some (some [z13 h]):=by
    obtain⟨news,rfl,_⟩:=hO
    rw [List.append_assoc,List.getElem?_append_right (Nat.le_refl _),Nat.sub_self];rfl
   have hb:zx [h.getD i 0]=[[.int .u8 (h.getD i 0).toNat]]:=rfl
   rw [hb]at he
   rw [<-hO.appB]at he
   generalize h.getD i 0=x at*
   generalize hv:J 3=v at*
   repeat' (first|apply zs_|apply zb_|apply zc_|apply zt_ rfl|apply zf_ rfl|(apply zd_ rfl<;>intro ht<;>try omega)|((first|apply zr_|apply zk_|apply ze_|apply zq_|(apply zG<;>intro ht));all_goals try simp (disch:=first|omega|(simp only [lens];first|done|omega)) only [go_sem,q1,q4,hv,ho,h1,hg,he]))
   refine⟨32-(i+1),by omega,i+1,by omega,by simp,?_⟩
   rw [hs,<-zgh]
   exact hO2
  ·obtain rfl:i=32:=by omega
   rw [List.take_of_length_le (by omega)]at hO
   obtain⟨r,q3,hg,_⟩:=hO.sl (by intro e;have:=z15 h;rw [e]at this;simp at this;omega)
   rw [z15]at q3
   repeat' (first|apply zs_|apply zb_|apply zc_|apply zt_ rfl|apply zf_ rfl|(apply zd_ rfl<;>intro ht<;>try omega)|((first|apply zr_|apply zk_|apply ze_|apply zq_|(apply zG<;>intro ht));all_goals try simp (disch:=first|omega|(simp only [lens];first|done|omega)) only [go_sem,q1,q4,q3,hg]))
   obtain⟨news,rfl,_⟩:=hO
   rw [List.append_assoc]
   exact DownV.pure hw (z1n _ rfl)
theorem zfb(O:Store)(a b:List UInt8)(ha:a.length=32)(hb:b.length=32):ACallsTo TC 42 [.agg (z13 a),.agg (z13 b)] O (.agg (z13 (z1k a b))) O:=by
 refine ACallsTo.of_body qeok (by simp) fun hw _=> ?_
 have h1:=z19 a
 have h2:=z19 b
 have h3:=z19 (z1k a b)
 rw [ha]at h1
 rw [hb]at h2
 rw [zdy]at h3
 obtain⟨n,hn⟩:∃n,n=z1k a b:=⟨_,rfl⟩
 have hs:∀O,ACallsTo TC 36 [.str (1::(a++b))] O (.agg (z13 n)) O:=fun O=>by rw [hn];exact z81 O _ (by simp;omega)
 rw [<-hn]at h3 ⊢
 repeat' (first|refine zs_ ?_|refine zb_ ?_|refine zc_ ?_|refine zt_ rfl ?_|refine zf_ rfl ?_|(refine zd_ rfl (fun ht=> ?_) (fun ht=> ?_)<;>try (exfalso;omega))|((first|refine zW.regS ?_|refine zk_ ?_|refine ze_ ?_|refine zq_ ?_|(apply callW.mk_pu;(first|exact(fun _=>z8q _ _ ha)|exact(fun _=>z8q _ _ hb)|exact(fun _=>hs _)))|(apply callW.za;(first|exact(z8q _ _ ha)|exact(z8q _ _ hb)|exact(hs _)))|(apply zG<;>intro ht));all_goals try simp (disch:=first|omega|(simp only [lens];first|done|omega)) only [go_sem,h1,h2,h3]))
 exact DownV.pure hw (z5p (z3b _))
end
section
def z1d(n:Nat):Nat:=if n<2 then 0 else 2^Nat.log2 (n-1)
theorem zf0{n:Nat}(h:2<=n):z1d n<n/\ n<=2*z1d n/\ 0<z1d n:=by
 unfold z1d
 rw [if_neg (by omega)]
 have h1:=Nat.log2_self_le (n:=n-1) (by omega)
 have h2:=Nat.lt_log2_self (n:=n-1)
 rw [Nat.pow_succ]at h2
 have h3:0<2^Nat.log2 (n-1):=Nat.pow_pos (by decide)
 omega
theorem zl1{n j:Nat}(h1:2^j<n)(h2:n<=2^(j+1)):z1d n=2^j:=by
 have h3:0<2^j:=Nat.pow_pos (by decide)
 unfold z1d
 rw [if_neg (by omega)]
 have h4:=Nat.log2_self_le (n:=n-1) (by omega)
 have h5:=Nat.lt_log2_self (n:=n-1)
 congr 1
 generalize Nat.log2 (n-1)=i at*
 have a1:2^j<2^(i+1):=by omega
 have a2:2^i<2^(j+1):=by omega
 have b1:=(Nat.pow_lt_pow_iff_right (by decide:1<2)).1 a1
 have b2:=(Nat.pow_lt_pow_iff_right (by decide:1<2)).1 a2
 omega
theorem zfd(O:Store)(n:Nat)(h:n<1000000000000):ACallsTo TC 41 [.int .i64 n] O (.int .i64 (z1d n)) O:=by
 refine ACallsTo.of_body qfok (by simp) fun hw _=> ?_
 by_cases h2:n<2
 ·have e:z1d n=0:=by unfold z1d;rw [if_pos h2]
  rw [e]
  repeat' (first|apply zs_|apply zb_|apply zc_|apply zt_ rfl|apply zf_ rfl|(apply zd_ rfl<;>intro ht<;>try omega)|((first|apply zr_|apply zk_|apply ze_|apply zq_|(apply zG<;>intro ht));all_goals try simp (disch:=first|omega|(simp only [lens];first|done|omega)) only [go_sem]))
  exact DownV.same hw (z1n _ rfl)
 ·repeat' (first|apply zs_|apply zb_|apply zc_|apply zt_ rfl|apply zf_ rfl|(apply zd_ rfl<;>intro ht<;>try omega)|((first|apply zr_|apply zk_|apply ze_|apply zq_|(apply zG<;>intro ht));all_goals try simp (disch:=first|omega|(simp only [lens];first|done|omega)) only [go_sem]))
  refine zW.loop (fun m J O'=>∃j:Nat,m=n-2^j/\ 2^j<n/\ J 0=.int .i64 n/\ J 3=.int .i64 ((2^j:Nat):Int)/\ O'=O) (n-1) ?_ ?_
  ·exact⟨0,rfl,by omega,by simp (disch:=first|omega|(simp only [lens];first|done|omega)) only [go_sem],by simp (disch:=first|omega|(simp only [lens];first|done|omega)) only [go_sem];rfl,rfl⟩
  ·rintro m J O' ⟨j,hm,hj,q0,q3,rfl⟩
   have hp:0<2^j:=Nat.pow_pos (by decide)
   have hs:2^(j+1)=2^j*2:=Nat.pow_succ ..
   generalize hk:2^j=k at*
   by_cases hc:(k:Int)<n-k
   ·repeat' (first|apply zs_|apply zb_|apply zc_|apply zt_ rfl|apply zf_ rfl|(apply zd_ rfl<;>intro ht<;>try omega)|((first|apply zr_|apply zk_|apply ze_|apply zq_|(apply zG<;>intro ht));all_goals try simp (disch:=first|omega|(simp only [lens];first|done|omega)) only [go_sem,q0,q3]))
    exact⟨n-k*2,by omega,j+1,by rw [hs],by omega,by rw [hs];rfl⟩
   ·have e:z1d n=k:=by rw [<-hk];exact zl1 (by omega) (by omega)
    rw [e]
    repeat' (first|apply zs_|apply zb_|apply zc_|apply zt_ rfl|apply zf_ rfl|(apply zd_ rfl<;>intro ht<;>try omega)|((first|apply zr_|apply zk_|apply ze_|apply zq_|(apply zG<;>intro ht));all_goals try simp (disch:=first|omega|(simp only [lens];first|done|omega)) only [go_sem,q0,q3]))
    exact DownV.same hw (z1n _ rfl)
def z73:Nat->List (List UInt8)->List UInt8
 | 0,_=>[]
 | _+1,[]=>shaS []
 | _+1,[h]=>h
 |f+1,a::b::l=>z1k (z73 f ((a::b::l).take (z1d (l.length+2)))) (z73 f ((a::b::l).drop (z1d (l.length+2))))
theorem zbm:∀(f g:Nat) (l:List (List UInt8)),l.length<f->l.length<g->z73 f l=z73 g l
 | 0,_,_,h,_=>by omega
 | _+1,0,_,_,h=>by omega
 |f+1,g+1,[],_,_=>rfl
 |f+1,g+1,[_],_,_=>rfl
 |f+1,g+1,a::b::l,h,h'=>by
  obtain⟨s1,s2,s3⟩:=zf0 (n:=l.length+2) (by omega)
  simp only [List.length_cons]at h h'
  simp only [z73]
  rw [zbm f g ((a::b::l).take (z1d (l.length+2))) (by rw [List.length_take];simp;omega) (by rw [List.length_take];simp;omega),
   zbm f g ((a::b::l).drop (z1d (l.length+2))) (by rw [List.length_drop];simp;omega) (by rw [List.length_drop];simp;omega)]
def z28(l:List (List UInt8)):List UInt8:=z73 (l.length+1) l
theorem ztl:z28 []=shaS []:=rfl
theorem zek{l:List (List UInt8)}(h:2<=l.length):z28 l=z1k (z28 (l.take (z1d l.length))) (z28 (l.drop (z1d l.length))):=by
 match l,h with
 |a::b::l,_=>
  obtain⟨s1,s2,s3⟩:=zf0 (n:=l.length+2) (by omega)
  unfold z28
  simp only [z73,List.length_cons]
  congr 1
  ·refine zbm _ _ _ ?_ (Nat.lt_succ_self _)
   rw [List.length_take]
   simp only [List.length_cons]
   omega
  ·refine zbm _ _ _ ?_ (Nat.lt_succ_self _)
   rw [List.length_drop]
   simp only [List.length_cons]
   omega
def H32(l:List (List UInt8)):Prop:=∀h ∈ l,h.length=32
theorem H32.take{l:List (List UInt8)}(h:H32 l)(n:Nat):H32 (l.take n):=fun x hx=>h x (List.mem_of_mem_take hx)
theorem H32.drop{l:List (List UInt8)}(h:H32 l)(n:Nat):H32 (l.drop n):=fun x hx=>h x (List.mem_of_mem_drop hx)
theorem z9g{l:List (List UInt8)}(h:H32 l):(z28 l).length=32:=by
 match l,h with
 | [],_=>exact zet _
 | [x],h=>exact h x (by simp)
 |a::b::l,_=>rw [zek (by simp)];exact zdy _ _
end
section
def z2i(l:List (List UInt8)):List (List AV):=l.map z13
theorem zhw(l:List (List UInt8)):(z2i l).length=l.length:=by simp [z2i]
theorem zei{k:Nat}:∀(l:List (List UInt8)),RLss k (z2i l)
 | []=>by simp [z2i,RLss]
 |h::l=>by have:=zei (k:=k) l;simp only [z2i]at this;simp [z2i,RLss,this,z3b]
theorem zm6(hs:List (List UInt8))(hH:H32 hs)(hl:hs.length<1000000000)(ex:Bool)(r1 r3:Nat):
  ∀(d:Nat) (O:Store) (a:Nat),0<d->a+d<=hs.length->O[r1]? =some (some [[.vsl 32 (z2i hs) ex]])->O[r3]? =some (some [[.fn 40 [.ptr r1 0 0,.ptr r3 0 0]]])->
   ACallsTo TC 40 [.int .i64 a,.int .i64 ((a+d:Nat):Int),.ptr r1 0 0,.ptr r3 0 0] O (.agg (z13 (z28 ((hs.drop a).take d)))) O:=by
 intro d
 induction d using Nat.strongRecOn with
 | _ d ih=>
  intro O a h0 had hg1 hg3
  have hr1:=(List.getElem?_eq_some_iff.1 hg1).1
  have hr3:=(List.getElem?_eq_some_iff.1 hg3).1
  obtain⟨L,hL⟩:∃L,L=(hs.drop a).take d:=⟨_,rfl⟩
  have hLl:L.length=d:=by rw [hL,List.length_take,List.length_drop];omega
  have hLH:H32 L:=by rw [hL];exact(hH.drop a).take d
  have hn:=z9g hLH
  have hc:=z19 (z28 L)
  rw [hn]at hc
  rw [<-hL]
  have hsub:((a+d:Nat):Int)-a=d:=by omega
  by_cases h1:d=1
  ·have e0:z1d d=0:=by unfold z1d;rw [if_pos (by omega)]
   have hsp:=fun O=>zfd O d (by omega)
   rw [e0]at hsp
   obtain⟨x,hx⟩:∃x,hs[a]? =some x:=⟨_,List.getElem?_eq_getElem (by omega)⟩
   have hgr:(z2i hs)[a]? =some (z13 x):=by simp [z2i,hx]
   have eL:z28 L=x:=by
    have:L=[x]:=by
     rw [hL,h1]
     apply List.ext_getElem?
     intro i
     cases i with
     |zero=>simp [List.getElem?_take,List.getElem?_drop,hx]
     |succ i=>simp [List.getElem?_take]
    rw [this];rfl
   rw [eL]at hc ⊢
   have hrl:=zhw hs
   clear eL
   generalize z2i hs=rows at*
   refine ACallsTo.of_body qgok (by simp) fun hw _=> ?_
   repeat' (first|apply zs_|apply zb_|apply zc_|apply zt_ rfl|apply zf_ rfl|(apply zd_ rfl<;>intro ht<;>try omega)|((first|apply zr_|apply zk_|apply ze_|apply zq_|(apply callW.mk_pu;(first|exact(fun _=>hsp _)))|(apply callW.za;(first|exact(hsp _)))|(apply zG<;>intro ht));all_goals try simp (disch:=first|omega|(simp only [lens];first|done|omega)) only [go_sem,hsub,hg1,hgr,hc]))
   exact DownV.pure hw (z5p (z3b _))
  ·obtain⟨s1,s2,s3⟩:=zf0 (n:=d) (by omega)
   have hsp:=fun O=>zfd O d (by omega)
   have eL:=zek (l:=L) (by omega)
   rw [hLl]at eL
   have t1:L.take (z1d d)=(hs.drop a).take (z1d d):=by rw [hL,List.take_take,Nat.min_eq_left (by omega)]
   have t2:L.drop (z1d d)=(hs.drop (a+z1d d)).take (d-z1d d):=by rw [hL,List.drop_take,List.drop_drop]
   generalize hk:z1d d=k at*
   have i1:=fun y=>ih k (by omega) (O++y) a (by omega) (by omega) (by rw [gapp hr1];exact hg1) (by rw [gapp hr3];exact hg3)
   have i2:=fun y=>ih (d-k) (by omega) (O++y) (a+k) (by omega) (by omega) (by rw [gapp hr1];exact hg1) (by rw [gapp hr3];exact hg3)
   rw [<-t1]at i1
   rw [<-t2]at i2
   rw [show a+k+(d-k)=a+d by omega]at i2
   have n1:=z9g (hLH.take k)
   have n2:=z9g (hLH.drop k)
   have e1:((a:Int)+k)=((a+k:Nat):Int):=by omega
   rw [eL]at hc ⊢
   generalize z28 (L.take k)=A at*
   generalize z28 (L.drop k)=B at*
   have k0:¬(k:Int)=0:=by omega
   refine ACallsTo.of_body qgok (by simp) fun hw _=> ?_
   repeat' (first|refine zs_ ?_|refine zb_ ?_|refine zc_ ?_|refine zt_ rfl ?_|refine zf_ rfl ?_|(refine zd_ rfl (fun ht=> ?_) (fun ht=> ?_)<;>try (exfalso;omega))|((first|refine zW.regS ?_|refine zk_ ?_|refine ze_ ?_|refine zq_ ?_|(apply callW.mk_pu;(first|exact(fun _=>hsp _)|exact(fun _=>i1 _)|exact(fun _=>i2 _)|exact(fun _=>zfb _ _ _ n1 n2)))|(apply callW.za;(first|exact(hsp _)|exact(i1 _)|exact(i2 _)|exact(zfb _ _ _ n1 n2)))|(apply zG<;>intro ht));all_goals try simp (disch:=first|omega|(simp only [lens];first|done|omega)) only [go_sem,hsub,hg1,hg3,hc,e1]))
   exact DownV.pure hw (z5p (z3b _))
theorem zwa(O:Store)(hs:List (List UInt8))(x:AV)(hx:SlV 32 (z2i hs) x)(hH:H32 hs)(hl:hs.length<1000000000):ACallsTo TC 22 [x] O (.agg (z13 (z28 hs))) O:=by
 have hc:=z19 (z28 hs)
 rw [z9g hH]at hc
 have hrl:=zhw hs
 by_cases h0:hs=[]
 ·subst h0
  have hx':=hx.len
  unfold z1w at hx'
  refine ACallsTo.of_body qdok (by simp) fun hw _=> ?_
  rw [ztl]at hc ⊢
  rcases hx with⟨rfl,h⟩| ⟨ex,rfl⟩
  ·repeat' (first|apply zs_|apply zb_|apply zc_|apply zt_ rfl|apply zf_ rfl|(apply zd_ rfl<;>intro ht<;>try omega)|((first|apply zr_|apply zk_|apply ze_|apply zq_|(apply callW.mk_pu;(first|exact(fun _=>z81 _ [] (by simp))))|(apply callW.za;(first|exact(z81 _ [] (by simp))))|(apply zG<;>intro ht));all_goals try simp (disch:=first|omega|(simp only [lens];first|done|omega)) only [go_sem,hc]))
   exact DownV.pure hw (z5p (z3b _))
  ·repeat' (first|apply zs_|apply zb_|apply zc_|apply zt_ rfl|apply zf_ rfl|(apply zd_ rfl<;>intro ht<;>try omega)|((first|apply zr_|apply zk_|apply ze_|apply zq_|(apply callW.mk_pu;(first|exact(fun _=>z81 _ [] (by simp))))|(apply callW.za;(first|exact(z81 _ [] (by simp))))|(apply zG<;>intro ht));all_goals try simp (disch:=first|omega|(simp only [lens];first|done|omega)) only [go_sem,hc,hrl]))
   exact DownV.pure hw (z5p (z3b _))
 ·have hpos:0<hs.length:=List.length_pos_iff.2 h0
  obtain⟨ex,rfl⟩:=hx.vsl (by rw [hrl];exact hpos)
  have h1:=zm6 hs hH hl ex O.length (O.length+2) hs.length
  refine ACallsTo.of_body qdok (by simp) fun hw _=> ?_
  have h1:=fun O'=>h1 O' 0 hpos (by omega)
  simp only [Nat.zero_add,List.drop_zero,List.take_length]at h1
  generalize z28 hs=R at*
  generalize z2i hs=rows at*
  repeat' (first|apply zs_|apply zb_|apply zc_|apply zt_ rfl|apply zf_ rfl|(apply zd_ rfl<;>intro ht<;>try omega)|((first|apply zr_|apply zk_|apply ze_|apply zq_|(apply callW.mk_pu;(first|exact(fun _=>h1 _ (by simp) (by simp))))|(apply callW.za;(first|exact(h1 _ (by simp) (by simp))))|(apply zG<;>intro ht));all_goals try simp (disch:=first|omega|(simp only [lens];first|done|omega)) only [go_sem,hc,hrl]))
  exact DownV.pure hw (z5p (z3b _))
end
section
def RdSl(O:Store)(sz:Nat)(es:List (List AV))(x:AV):Prop:=
 SlV sz es x \/ ∃r off lim o,x=.sl r off es.length lim sz/\ O[r]? =some (some o)/\ off+es.length<=o.length/\ (o.drop off).take es.length=es
theorem RdSl.of{O:Store}{sz:Nat}{es:List (List AV)}{x:AV}(h:SlV sz es x):RdSl O sz es x:=.inl h
theorem OwnN.rd{sz:Nat}{τ O':Store}{v:AV}{es:List (List AV)}(h:OwnN sz τ O' v es):RdSl O' sz es v:=by
 by_cases h0:es=[]
 ·obtain⟨news,rfl,⟨rfl,rfl⟩| ⟨j,h1,_⟩⟩:=h
  ·exact .inl (.inl ⟨rfl,rfl⟩)
  ·exact absurd h0 h1
 ·obtain⟨r,rfl,hg,_⟩:=h.sl h0
  exact .inr ⟨r,0,none,es,rfl,hg,by omega,by rw [List.drop_zero,List.take_of_length_le (Nat.le_refl _)]⟩
theorem RdSl.app{O y:Store}{sz:Nat}{es:List (List AV)}{x:AV}(h:RdSl O sz es x):RdSl (O++y) sz es x:=by
 rcases h with h| ⟨r,off,lim,o,rfl,hg,h1,h2⟩
 ·exact .inl h
 ·exact .inr ⟨r,off,lim,o,rfl,by rw [gapp (List.getElem?_eq_some_iff.1 hg).1];exact hg,h1,h2⟩
theorem RdSl.len{O:Store}{sz:Nat}{es:List (List AV)}{x:AV}(h:RdSl O sz es x):z1w x=some (.int .i64 es.length):=by
 rcases h with h| ⟨r,off,lim,o,rfl,_⟩
 ·exact h.len
 ·rfl
theorem RdSl.lend{O:Store}{sz:Nat}{es:List (List AV)}{x:AV}(h:RdSl O sz es x)(hr:RLss 0 es):∃x0,SlV sz es x0/\ DR (z3h O) x0 x:=by
 rcases h with h| ⟨r,off,lim,o,rfl,hg,h1,h2⟩
 ·refine⟨x,h,DR.refl (k:=0) (by omega) x ?_⟩
  rcases h with⟨rfl,_⟩| ⟨ex,rfl⟩
  ·simp [RL]
  ·simpa only [RL]using hr
 ·refine⟨.vsl sz es false,.inr ⟨false,rfl⟩,?_⟩
  simp only [DR,z3h]
  exact .inr (.inl ⟨r,off,lim,o,rfl,trivial,hg,h1,by simp,by rw [h2];exact DRss.refl (k:=0) (by omega) es hr⟩)
theorem zqs{O:Store}{r i off cap esz:Nat}{o es:List (List AV)}{cs rest:List AV}(hg:O[r]? =some (some o))(hi:o[i]? =some cs)(ho:off<=cs.length)(hd:cs.drop off=es.flatten++rest)(he:∀e ∈ es,e.length=esz)(hn:es.length ≠ 0)(hr:RLss 0 es):
  DR (z3h O) (.vsl esz es false) (.asl r i off es.length cap esz):=by
 simp only [DR,z3h]
 exact .inr (.inr ⟨r,i,off,cap,o,cs,es,rest,rfl,trivial,hg,hi,ho,hd,he,hn,by simp,DRss.refl (k:=0) (by omega) es hr⟩)
theorem rl0{a:AV}(h:RL 0 a)(O:Store):DR (z3h O) a a:=DR.refl (k:=0) (by omega) a h
theorem drs1{D:DC}{a b:AV}(h:DR D a b):DRs D [a] [b]:=by simp only [DRs];exact⟨b,[],rfl,h,rfl⟩
theorem drsc{D:DC}{a b:AV}{l m:List AV}(h:DR D a b)(h2:DRs D l m):DRs D (a::l) (b::m):=by simp only [DRs];exact⟨b,m,rfl,h,h2⟩
theorem zeu(k:Nat):∀(l:List UInt8),shs k (z13 l)=z13 l
 | []=>rfl
 |b::l=>by have:=zeu k l;simp only [z13]at this;simp [z13,shs,sh,this]
theorem zud(k:Nat)(l:List UInt8):sh k (.agg (z13 l))=.agg (z13 l):=by simp only [sh,zeu]
theorem zbv(k:Nat):shS k []=[]:=rfl
theorem zw9(O:Store)(hs:List (List UInt8))(x:AV)(hx:RdSl O 32 (z2i hs) x)(hH:H32 hs)(hl:hs.length<1000000000):ACallsTo TC 22 [x] O (.agg (z13 (z28 hs))) O:=by
 obtain⟨x0,h0,hd⟩:=hx.lend (zei hs)
 have:=ACallsTo.lend glok (zwa [] hs x0 h0 hH hl) (drs1 hd)
 rwa [zud,zbv,List.append_nil]at this
theorem zh6:∀(a b:List UInt8),z1z (z13 a) (z13 b)=decide (a=b)
 | [],[]=>rfl
 | [],_::_=>rfl
 | _::_,[]=>rfl
 |a::l,b::m=>by
  have ih:=zh6 l m
  simp only [z13,List.map_cons,z1z,z6s]at ih ⊢
  rw [ih,Bool.eq_iff_iff]
  simp [<-UInt8.toNat_inj]
  intro _
  omega
theorem zid:∀(l:List UInt8),(z13 l).map z1q=List.replicate l.length (some (LK.i .u8))
 | []=>rfl
 | _::l=>by have:=zid l;simp only [z13]at this;simp [z13,z1q,this,List.replicate_succ]
theorem zqk{l:List UInt8}(h:l.length=32):(z13 l).map z1q=(List.replicate 32 (LK.i .u8)).map some:=by rw [zid,h];rfl
end
section
set_option maxRecDepth 10000

end
section
def subF:Nat->List (List UInt8)->Nat->Bool->List (List UInt8)
 | 0,_,_,_=>[]
 |f+1,l,m,known=>
  if m=l.length then(if known then []else [z28 l])
  else if m<=z1d l.length then subF f (l.take (z1d l.length)) m known++ [z28 (l.drop (z1d l.length))]
  else subF f (l.drop (z1d l.length)) (m-z1d l.length) false++ [z28 (l.take (z1d l.length))]
def subS(l:List (List UInt8))(m:Nat)(known:Bool):List (List UInt8):=subF (l.length+1) l m known
theorem DownV.tup2{k:Nat}{v v2:AV}{O O2:Store}{i:IntKind}{e:Int}(h:DownV k v O v2 O2):DownV k (.tup [v,.int i e]) O (.tup [v2,.int i e]) O2:=by
 obtain⟨D,a,b,c⟩:=h
 exact⟨D,a,b,by simp only [DR,DRs];exact⟨_,rfl,_,_,rfl,c,_,_,rfl,rfl,rfl⟩⟩
theorem zhc{O O':Store}(h:O.length<=O'.length)(h2:∀q,q<O.length->O'[q]? =O[q]?):∃y,O'=O++y:=by
 refine⟨O'.drop O.length,?_⟩
 have e:O'.take O.length=O:=by
  refine List.ext_getElem? fun i=> ?_
  by_cases hi:i<O.length
  ·rw [List.getElem?_take_of_lt hi];exact h2 i hi
  ·rw [List.getElem?_eq_none (by simp;omega),List.getElem?_eq_none (by omega)]
 calc O'=O'.take O.length++O'.drop O.length:=(List.take_append_drop _ _).symm
  _=O++O'.drop O.length:=by rw [e]
def zb9(hs:List (List UInt8))(m:Int):List (List UInt8):=if 0<m/\ m<hs.length then subS hs m.toNat true else []
def zb8(hs:List (List UInt8))(m:Int):Int:=if m<0 \/(hs.length:Int)<m then 2 else 0
def ProofP(O:Store)(hs:List (List UInt8))(m:Int)(v:AV)(O':Store):Prop:=∃v2,v=.tup [v2,.int .i64 (zb8 hs m)]/\ OwnN 32 O O' v2 (z2i (zb9 hs m))
theorem ProofP.ex(O:Store)(hs:List (List UInt8))(m:Int):∃v O',ProofP O hs m v O':=⟨_,_,_,rfl,z97 O 32 _⟩
theorem ProofP.none{O:Store}{hs:List (List UInt8)}{m:Int}(h:zb9 hs m=[]):ProofP O hs m (.tup [.nilsl,.int .i64 (zb8 hs m)]) O:=⟨.nilsl,rfl,by rw [h];exact⟨[],by simp,.inl ⟨rfl,rfl⟩⟩⟩
end
section
def OwnA(sz:Nat)(τ O':Store)(v:AV)(es:List (List AV)):Prop:=OwnN sz τ O' v es \/(v=.vsl sz es true/\ es ≠ []/\ ∃news,O'=τ++news)
theorem OwnA.app{sz:Nat}{τ O':Store}{v:AV}{es ys:List (List AV)}(h:OwnA sz τ O' v es)(h0:ys.length ≠ 0)(hl:es.length+ys.length<=1073741824):
  ∃v' O'',aApp O' sz v ys=some (v',O'')/\ OwnN sz τ O'' v' (es++ys):=by
 rcases h with h| ⟨rfl,h1,news,rfl⟩
 ·exact h.app h0 hl
 ·refine⟨.sl (τ++news).length 0 (es.length+ys.length) none sz,(τ++news)++ [some (es++ys)],by rw [z8g,if_neg h0,if_pos ⟨rfl,rfl,hl⟩],news++ [some (es++ys)],by rw [List.append_assoc],.inr ⟨news.length,by simp [h1],by simp,by rw [List.getElem?_append_right (Nat.le_refl _)];simp⟩⟩
theorem OwnA.rd{sz:Nat}{τ O':Store}{v:AV}{es:List (List AV)}(h:OwnA sz τ O' v es):RdSl O' sz es v:=by
 rcases h with h| ⟨rfl,_⟩
 ·exact h.rd
 ·exact .inl (.inr ⟨true,rfl⟩)
theorem OwnA.more{sz:Nat}{τ O':Store}{v:AV}{es:List (List AV)}(h:OwnA sz τ O' v es)(y:Store):OwnA sz τ (O'++y) v es:=by
 rcases h with h| ⟨rfl,h1,news,rfl⟩
 ·exact .inl (h.more y)
 ·exact .inr ⟨rfl,h1,news++y,by rw [List.append_assoc]⟩
theorem OwnA.ext{sz:Nat}{τ O':Store}{v:AV}{es:List (List AV)}(h:OwnA sz τ O' v es):∃news,O'=τ++news:=by
 rcases h with h| ⟨_,_,h⟩
 ·exact h.ext
 ·exact h
theorem OwnA.down{sz:Nat}{O O':Store}{v:AV}{es:List (List AV)}(hw:Wf O.length O)(h:OwnA sz O O' v es)(hr:RLss O.length es):∃v2 O2,OwnA sz O O2 v2 es/\ DownV O.length v O' v2 O2:=by
 rcases h with h| ⟨rfl,h1,news,rfl⟩
 ·exact⟨_,_,.inl (z97 O sz es),h.own hw hr⟩
 ·exact⟨_,O,.inr ⟨rfl,h1,[],by simp⟩,DownV.pure hw (by simpa only [RL]using hr)⟩
def OwnQ(kn:Bool)(τ O':Store)(v:AV)(es:List (List AV)):Prop:=OwnA 32 τ O' v es/\ (kn=true->OwnN 32 τ O' v es)
theorem OwnQ.is(kn:Bool)(O:Store)(es:List (List AV)):OwnQ kn O (ownS O es) (ownV O 32 es) es:=⟨.inl (z97 O 32 es),fun _=>z97 O 32 es⟩
theorem OwnQ.down{kn:Bool}{O O':Store}{v:AV}{es:List (List AV)}(hw:Wf O.length O)(h:OwnN 32 O O' v es)(hr:RLss O.length es):∃v2 O2,OwnQ kn O O2 v2 es/\ DownV O.length v O' v2 O2:=
 ⟨_,_,OwnQ.is kn O es,h.own hw hr⟩
end
section
def RefP(O:Store)(hs:List (List UInt8))(m:Int)(v:AV)(O':Store):Prop:=∃v2,v=.tup [v2,.int .i64 (zb8 hs m)]/\ OwnA 32 O O' v2 (z2i (zb9 hs m))
def st(i last:Nat):Nat × Nat:=if h:i%2=1 then st (i/2) (last/2)else(i,last)
termination_by i
decreasing_by omega
def lp(i last:Nat):List Bool:=
 if h:last=0 then []else if i%2=1 then true::lp (i/2) (last/2)else if i=last then lp (i/2) (last/2)else false::lp (i/2) (last/2)
termination_by last
decreasing_by all_goals omega
def run:List Bool->List (List UInt8)->List UInt8->List UInt8->Option (List UInt8 × List UInt8)
 | [],[],a,b=>some (a,b)
 |true::p,h::ps,a,b=>run p ps (z1k h a) (z1k h b)
 |false::p,h::ps,a,b=>run p ps a (z1k b h)
 | _,_,_,_=>none
def chkG(i last:Nat)(o:List UInt8)(ps:List (List UInt8)):Option (List UInt8 × List UInt8):=
 if 0<i then match ps with
  | []=>none
  |h::ps=>run (lp i last) ps h h
 else run (lp i last) ps o o
def chkS(i last:Nat)(o:List UInt8)(ps:List (List UInt8)):Option (List UInt8 × List UInt8):=chkG (st i last).1 (st i last).2 o ps
def fitI(r:Option (List UInt8 × List UInt8))(o nw:List UInt8):Int:=
 match r with
 |some (a,b)=>if a=o/\ b=nw then 0 else 80
 |none=>80
def chkI(m n:Int)(o nw:List UInt8)(ps:List (List UInt8)):Int:=
 if n<0 \/4096<n \/m<0 \/n<m then 2
 else if m=0 then(if ps=[]/\ o=z28 []/\ (0<n \/nw=o)then 0 else 80)
 else if m=n then(if ps=[]/\ o=nw then 0 else 80)
 else fitI (chkS (m.toNat-1) (n.toNat-1) o ps) o nw
end
section
structure ChkM(ia ib:Nat)(O O':Store)(o nw:List UInt8)(pv:AV)(ps:List (List UInt8))(a b:List UInt8):Prop where
 hab:(ia=3/\ ib=4) \/(ia=4/\ ib=3)
 len:O.length+5<=O'.length
 keep:∀q,q<O.length->O'[q]? =O[q]?
 g0:O'[O.length]? =some (some [z13 o])
 g1:O'[O.length+1]? =some (some [z13 nw])
 g2:O'[O.length+2]? =some (some [[pv]])
 g3:O'[O.length+ia]? =some (some [z13 a])
 g4:O'[O.length+ib]? =some (some [z13 b])
 hp:SlV 32 (z2i ps) pv
 ha:a.length=32
 hb:b.length=32
theorem ChkM.app{ia ib:Nat}{O O' y:Store}{o nw:List UInt8}{pv:AV}{ps:List (List UInt8)}{a b:List UInt8}(h:ChkM ia ib O O' o nw pv ps a b):ChkM ia ib O (O'++y) o nw pv ps a b:=by
 have hl:=h.len
 have hab:=h.hab
 refine⟨hab,by rw [List.length_append];omega,fun q hq=> ?_,?_,?_,?_,?_,?_,h.hp,h.ha,h.hb⟩
 ·rw [gapp (by omega)];exact h.keep q hq
 ·rw [gapp (by omega)];exact h.g0
 ·rw [gapp (by omega)];exact h.g1
 ·rw [gapp (by omega)];exact h.g2
 ·rw [gapp (by omega)];exact h.g3
 ·rw [gapp (by omega)];exact h.g4
theorem ChkM.fin{ia ib:Nat}{O O':Store}{o nw:List UInt8}{pv:AV}{ps:List (List UInt8)}{a b:List UInt8}(h:ChkM ia ib O O' o nw pv ps a b)(hw:Wf O.length O){i:Int}:DownV O.length (.int .i64 i) O' (.int .i64 i) O:=by
 have hl:=h.len
 have hab:=h.hab
 obtain⟨y,rfl⟩:=zhc (by omega) h.keep
 exact DownV.pure hw (z1n _ rfl)
theorem SlV.cells{sz:Nat}{es:List (List AV)}{x:AV}(h:SlV sz es x):cellsOf x=some [x]:=by
 rcases h with⟨rfl,rfl⟩| ⟨ex,rfl⟩<;>rfl
end
section

end
section

end
section
theorem split2:z1d 2=1:=by decide
theorem split4:z1d 4=2:=by decide
theorem ProofP.is{O O':Store}{hs:List (List UInt8)}{m:Int}{v:AV}(h:ProofP O hs m v O'):∃v2,v=.tup [v2,.int .i64 (zb8 hs m)]/\ OwnN 32 O O' v2 (z2i (zb9 hs m)):=h
end
section
theorem RefP.ex(O:Store)(hs:List (List UInt8))(m:Int):∃v O',RefP O hs m v O':=⟨_,_,_,rfl,.inl (z97 O 32 _)⟩
end
section
abbrev Hash:={l:List UInt8//l.length=32}
def hc(h:Hash):List AV:=z13 h.1
def hr(l:List Hash):List (List AV):=l.map hc
def hb(l:List Hash):List (List UInt8):=l.map (·.1)
theorem hb_H(l:List Hash):H32 (hb l):=fun x hx=>by
 simp only [hb,List.mem_map]at hx
 obtain⟨h,_,rfl⟩:=hx
 exact h.2
theorem zdj(l:List Hash):(hb l).length=l.length:=by simp [hb]
theorem zpl(l:List Hash)(n:Nat):(hb l).take n=hb (l.take n):=by simp [hb,List.map_take]
theorem zpk(l:List Hash)(n:Nat):(hb l).drop n=hb (l.drop n):=by simp [hb,List.map_drop]
theorem hr_hb(l:List Hash):z2i (hb l)=hr l:=by simp [z2i,hb,hr,hc]
@[go_sem] theorem z8 (h:Hash):(hc h).length=32:=by rw [hc,z19,h.2]
@[go_sem] theorem zpm (h:Hash):(hc h).drop 32=[]:=List.drop_of_length_le (by rw [z8];decide)
@[go_sem] theorem zpn (h:Hash):(hc h).take 32=hc h:=List.take_of_length_le (by rw [z8];decide)
@[go_sem] theorem z7m (h:Hash) (l:List AV):(hc h++l).take 32=hc h:=by
 have:=z8 h
 rw [List.take_append_of_le_length (by omega),zpn]
@[go_sem] theorem z7l (h:Hash) (l:List AV):(hc h++l).drop 32=l:=by
 have:=z8 h
 rw [List.drop_append_of_le_length (by omega),zpm,List.nil_append]
@[go_sem] theorem hc_eq (a b:Hash):z1z (hc a) (hc b)=decide (a=b):=by
 rw [hc,hc,zh6,Bool.eq_iff_iff]
 simp [Subtype.ext_iff]
@[go_sem] theorem hc_kinds (h:Hash):(hc h).map z1q=(List.replicate 32 (LK.i .u8)).map some:=zqk h.2
@[go_sem] theorem zh (l:List Hash):(hr l).length=l.length:=by simp [hr]
@[go_sem] theorem hr_take (l:List Hash) (n:Nat):(hr l).take n=hr (l.take n):=by simp [hr,List.map_take]
@[go_sem] theorem hr_drop (l:List Hash) (n:Nat):(hr l).drop n=hr (l.drop n):=by simp [hr,List.map_drop]
@[go_sem] theorem hr_set (l:List Hash) (i:Nat) (h:Hash):(hr l).set i (hc h)=hr (l.set i h):=by simp [hr,List.map_set]
theorem zhu:hr []=[]:=rfl
theorem z90(h:Hash)(l:List Hash):hr (h::l)=hc h::hr l:=rfl
theorem hr_nil_iff{l:List Hash}:hr l=[] ↔ l=[]:=by simp [hr]
def zeroH:Hash:=⟨List.replicate 32 0,by simp⟩
def hd(l:List Hash)(i:Nat):Hash:=l.getD i zeroH
@[go_sem] theorem zap {l:List Hash} {i:Nat} (h:i<l.length):(hr l)[i]? =some (hc (hd l i)):=by
 simp [hr,hd,List.getElem?_map,List.getElem?_eq_getElem h]
theorem z8x{l:List Hash}{i:Nat}(h:i<l.length):hd l i=l[i]:=by simp [hd,h]
theorem z7w{k:Nat}(h:Hash):RLs k (hc h):=z3b _
theorem z43{k:Nat}(l:List Hash):RLss k (hr l):=by rw [<-hr_hb];exact zei _
theorem zev(k:Nat)(h:Hash):shs k (hc h)=hc h:=zeu k _
def zz(a b:Hash):Hash:=⟨z1k a.1 b.1,zdy _ _⟩
def z14(l:List Hash):Hash:=⟨z28 (hb l),z9g (hb_H l)⟩
def shaH(s:List UInt8):Hash:=⟨shaS s,zet s⟩
theorem zk0(h:Hash):z14 [h]=h:=rfl
theorem zej{l:List Hash}(h:2<=l.length):z14 l=zz (z14 (l.take (z1d l.length))) (z14 (l.drop (z1d l.length))):=by
 apply Subtype.ext
 show z28 (hb l)=z1k (z28 (hb _)) (z28 (hb _))
 rw [<-zpl,<-zpk]
 have:=zek (l:=hb l) (by rw [zdj];exact h)
 rwa [zdj]at this
theorem zla(O:Store)(a b:Hash):ACallsTo TC 42 [.agg (hc a),.agg (hc b)] O (.agg (hc (zz a b))) O:=zfb O a.1 b.1 a.2 b.2
theorem zfc(O:Store)(l:List Hash)(x:AV)(hx:RdSl O 32 (hr l) x)(hl:l.length<1000000000):ACallsTo TC 22 [x] O (.agg (hc (z14 l))) O:=
 zw9 O (hb l) x (by rw [hr_hb];exact hx) (hb_H l) (by rw [zdj];exact hl)
end
section
def pushR:Nat->List Hash->Hash->List Hash
 | _,[],h=>[h]
 |m,x::rs,h=>if m%2=1 then pushR (m/2) rs (zz x h)else h::x::rs
def extR:Nat->List Hash->List Hash->List Hash
 | _,rs,[]=>rs
 |n,rs,x::l=>extR (n+1) (pushR n rs x) l
def ofR(l:List Hash):List Hash:=extR 0 [] l
theorem zbz(j:Nat):z1d (2^(j+1))=2^j:=by
 have:0<2^j:=Nat.pow_pos (by decide)
 exact zl1 (by rw [Nat.pow_succ];omega) (Nat.le_refl _)
def rootR:List Hash->Hash
 | []=>shaH []
 |x::rs=>rs.foldl (fun o h=>zz h o) x
end
section

end
section
set_option maxRecDepth 10000
def qjr0:yW:=[
 yI 2 (.mv (.v .nilsl))]
def qjr1:yW:=[
 yM 3 0,
 yI 4 (.bin .eql .slc (.t 3) (.v .nilsl))]
def qjr2:yW:=[
 yI 2 (.mv (.v .nilsl))]
def qjc3:yX:=yq qjr2 .ret
def qjc4:yX:=.cond (.t 4) qjc3 .skip
def qjc5:yX:=yq qjr1 qjc4
def qjr6:yW:=[
 yI 5 (.lit 32 []),
 yM 6 0,
 yI 7 (.app 32 (.t 5) (.t 6)),
 yM 2 7]
def qjc7:yX:=yq qjr6 .ret
def qjc8:yX:=.seq qjc5 qjc7
def qjc9:yX:=yq qjr0 qjc8
attribute [go_sem] qjr0 qjr1 qjr2 qjr6
theorem qjok:cFn TC 51=some (8,[.t 2],qjc9):=by kernel_rfl
end
section
theorem ACallsP.toDown{C:Ctx}{f:FuncId}{args:List AV}{O O2:Store}{v2:AV}{P:AV->Store->Prop}(h:ACallsP C f args O P)
  (hd:Wf O.length O->∀v O',P v O'->DownV O.length v O' v2 O2):ACallsTo C f args O v2 O2:=by
 intro Z w cargs hR ha
 rcases h Z w cargs hR ha with⟨h1,h2⟩| ⟨cv,v,Z',O',w',h1,hp,h2,h3,h4⟩
 ·refine .inl ⟨h1,h2.mono ?_⟩
  rintro e w' ⟨cv,v,Z',O',rfl,hp,k1,k2,k3⟩
  obtain⟨Z2,q1,q2,q3⟩:=(hd hR.wf v O' hp).sound k2 k3 k1 hR.gl (by rw [hR.len];exact Nat.le_refl _)
  exact⟨cv,Z2,rfl,q1,q2,q3⟩
 ·obtain⟨Z2,q1,q2,q3⟩:=(hd hR.wf v O' hp).sound h3 h4 h2 hR.gl (by rw [hR.len];exact Nat.le_refl _)
  exact .inr ⟨cv,Z2,w',h1,q1,q2,q3⟩
theorem slen{O:Store}{r:Nat}{x:Option AObj}(h:O[r]? =some x):r<O.length:=(List.getElem?_eq_some_iff.1 h).1
def FrzD(τ news:Store):DC:=z2j τ news [] id (fun _=>true)
theorem DownV.all{τ news:Store}{v v2:AV}(hw:Wf τ.length τ)(h:DR (FrzD τ news) v2 v):DownV τ.length v (τ++news) v2 τ:=
 ⟨FrzD τ news,rfl,by show DownS τ.length (z2j τ news [] id (fun _=>true)) τ;simpa using zas (kept:=[]) (idx:=id) (fzl:=fun _=>true) (news:=news) hw (by simp) (by simp) (by simp) (by simp),h⟩
theorem FrzD.same{τ news:Store}{v:AV}(h:RL τ.length v):DR (FrzD τ news) v v:=DR.refl (z6v _ _ _) v h
theorem FrzD.sl{τ news:Store}{r off:Nat}{lim:Option Nat}{esz:Nat}{o es:AObj}(hk:τ.length<=r)(ho:(τ++news)[r]? =some (some o))(hl:off+es.length<=o.length)(he:(o.drop off).take es.length=es)(hr:RLss τ.length es):
  DR (FrzD τ news) (.vsl esz es false) (.sl r off es.length lim esz):=by
 simp only [DR,FrzD,z2j]
 right
 left
 exact⟨r,off,lim,o,rfl,by simpa using hk,ho,hl,by simp,by rw [he];exact DRss.refl (z6v [] id (fun _=>true)) _ hr⟩
theorem drA{D:DC}{a b:List AV}(h:DRs D a b):DR D (.agg a) (.agg b):=by simp only [DR];exact⟨b,rfl,h⟩
theorem drT{D:DC}{a b:List AV}(h:DRs D a b):DR D (.tup a) (.tup b):=by simp only [DR];exact⟨b,rfl,h⟩
theorem OwnN.frz{sz:Nat}{τ news:Store}{v:AV}{es:List (List AV)}(h:OwnN sz τ (τ++news) v es)(hr:RLss τ.length es):DR (FrzD τ news) (z17 sz es) v:=by
 by_cases h0:es=[]
 ·obtain⟨n2,_,⟨rfl,rfl⟩| ⟨j,h1,_⟩⟩:=h
  ·simp [z17,DR]
  ·exact absurd h0 h1
 ·obtain⟨r,rfl,hg,hk⟩:=h.sl h0
  unfold z17
  rw [if_neg h0]
  exact FrzD.sl hk hg (by omega) (by simp) hr
def lkp:List (Nat × AV)->Env
 | [],_=> .any
 |(a,v)::l,t=>bif t==a then v else lkp l t
@[go_sem] theorem lkp_cons {a t:Nat} {v:AV} {l:List (Nat × AV)}:lkp ((a,v)::l) t=bif t==a then v else lkp l t:=rfl
def OwnE(sz:Nat)(τ O':Store)(v:AV)(es:List (List AV)):Prop:=OwnN sz τ O' v es \/(es=[]/\ v=.vsl sz [] true/\ ∃news,O'=τ++news)
theorem OwnE.ext{sz:Nat}{τ O':Store}{v:AV}{es:List (List AV)}(h:OwnE sz τ O' v es):∃news,O'=τ++news:=by
 rcases h with h| ⟨_,_,h⟩
 ·exact h.ext
 ·exact h
theorem OwnE.rd{sz:Nat}{τ O':Store}{v:AV}{es:List (List AV)}(h:OwnE sz τ O' v es):RdSl O' sz es v:=by
 rcases h with h| ⟨rfl,rfl,_⟩
 ·exact h.rd
 ·exact .inl (.inr ⟨true,rfl⟩)
theorem OwnE.len{sz:Nat}{τ O':Store}{v:AV}{es:List (List AV)}(h:OwnE sz τ O' v es):z1w v=some (.int .i64 es.length):=h.rd.len
theorem OwnE.app{sz:Nat}{τ O':Store}{v:AV}{es ys:List (List AV)}(h:OwnE sz τ O' v es)(h0:ys.length ≠ 0)(hl:es.length+ys.length<=1073741824):
  ∃v' O'',aApp O' sz v ys=some (v',O'')/\ OwnN sz τ O'' v' (es++ys):=by
 rcases h with h| ⟨rfl,rfl,news,rfl⟩
 ·exact h.app h0 hl
 ·refine⟨.sl (τ++news).length 0 ys.length none sz,(τ++news)++ [some ys],by rw [z8g,if_neg h0,if_pos ⟨rfl,rfl,hl⟩];simp,news++ [some ys],by rw [List.append_assoc],.inr ⟨news.length,?_,by simp,by rw [List.getElem?_append_right (Nat.le_refl _)];simp⟩⟩
  intro e;exact h0 (by rw [(List.append_eq_nil_iff.1 e).2];rfl)
theorem RdSl.elems{O:Store}{sz:Nat}{es:List (List AV)}{x:AV}(h:RdSl O sz es x):z1v O x=some es:=by
 rcases h with(⟨rfl,rfl⟩| ⟨ex,rfl⟩)| ⟨r,off,lim,o,rfl,hg,h1,h2⟩
 ·rfl
 ·rfl
 ·rw [zey,hg];simp only;rw [if_pos h1,h2]
theorem zlr(O:Store)(l:List Hash)(x:AV)(hx:RdSl O 32 (hr l) x)(hl:l.length<1000000):
  ACallsP TC 51 [x] O (fun v O'=>OwnE 32 O O' v (hr l)/\ (x=.nilsl ↔ v=.nilsl)):=by
 rcases hx with(⟨rfl,hnil⟩| ⟨ex,rfl⟩)| ⟨r,off,lim,o,rfl,hg,h1,h2⟩
 ·refine ACallsTo.toP (v:=.nilsl) (O':=O) ?_ ⟨.inl ⟨[],by simp,.inl ⟨hnil,rfl⟩⟩,Iff.rfl⟩
  refine ACallsTo.of_body qjok (by simp) fun hw _=> ?_
  repeat' (first|apply zs_|apply zb_|apply zc_|apply zt_ rfl|apply zf_ rfl|(apply zd_ rfl<;>intro ht<;>try omega)|((first|apply zr_|apply zk_|apply ze_|apply zq_|(apply zG<;>intro ht));all_goals try simp (disch:=first|omega|(simp only [lens];first|done|omega)) only [go_sem]))
  exact DownV.same hw (z1n _ rfl)
 ·by_cases h0:l=[]
  ·subst h0
   refine ACallsTo.toP (v:=.vsl 32 [] true) (O':=O) ?_ ⟨.inr ⟨rfl,rfl,[],by simp⟩,by simp⟩
   refine ACallsTo.of_body qjok (by simp) fun hw _=> ?_
   rw [zhu]
   repeat' (first|apply zs_|apply zb_|apply zc_|apply zt_ rfl|apply zf_ rfl|(apply zd_ rfl<;>intro ht<;>try omega)|((first|apply zr_|apply zk_|apply ze_|apply zq_|(apply zG<;>intro ht));all_goals try simp (disch:=first|omega|(simp only [lens];first|done|omega)) only [go_sem]))
   exact DownV.same hw (z1n _ rfl)
  ·have hne:¬l.length=0:=fun e=>h0 (List.eq_nil_of_length_eq_zero e)
   refine ACallsP.of_keep qjok (by simp) ?_
   repeat' (first|apply zs_|apply zb_|apply zc_|apply zt_ rfl|apply zf_ rfl|(apply zd_ rfl<;>intro ht<;>try omega)|((first|apply zr_|apply zk_|apply ze_|apply zq_|(apply zG<;>intro ht));all_goals try simp (disch:=first|omega|(simp only [lens];first|done|omega)) only [go_sem,hne,z8g]))
   refine .inl ⟨[some (hr l)],by simp,.inr ⟨0,by rw [Ne,hr_nil_iff];exact h0,?_,by simp⟩⟩
   simp [zh]
 ·have hrl:=zh l
  by_cases h0:l=[]
  ·subst h0
   refine ACallsTo.toP (v:=.vsl 32 [] true) (O':=O) ?_ ⟨.inr ⟨rfl,rfl,[],by simp⟩,by simp⟩
   refine ACallsTo.of_body qjok (by simp) fun hw _=> ?_
   rw [zhu]at*
   repeat' (first|apply zs_|apply zb_|apply zc_|apply zt_ rfl|apply zf_ rfl|(apply zd_ rfl<;>intro ht<;>try omega)|((first|apply zr_|apply zk_|apply ze_|apply zq_|(apply zG<;>intro ht));all_goals try simp (disch:=first|omega|(simp only [lens];first|done|omega)) only [go_sem,hg,zey,h1,h2]))
   exact DownV.same hw (z1n _ rfl)
  ·have hne:¬l.length=0:=fun e=>h0 (List.eq_nil_of_length_eq_zero e)
   rw [hrl]at h1 h2
   refine ACallsP.of_keep qjok (by simp) ?_
   repeat' (first|apply zs_|apply zb_|apply zc_|apply zt_ rfl|apply zf_ rfl|(apply zd_ rfl<;>intro ht<;>try omega)|((first|apply zr_|apply zk_|apply ze_|apply zq_|(apply zG<;>intro ht));all_goals try simp (disch:=first|omega|(simp only [lens];first|done|omega)) only [go_sem,hg,hne,z8g,zey,h1,h2]))
   refine .inl ⟨[some (hr l)],by simp,.inr ⟨0,by rw [Ne,hr_nil_iff];exact h0,?_,by simp⟩⟩
   simp [zh]
end
section
theorem zf9{l:List Hash}{i:Nat}(h:i<l.length):l.take (i+1)=l.take i++ [hd l i]:=by
 rw [z8x h];exact(List.take_append_getElem h).symm
end
section
def Ext(O O':Store):Prop:=∃news,O'=O++news
theorem Ext.refl(O:Store):Ext O O:=⟨[],by simp⟩
theorem Ext.app{O O' y:Store}(h:Ext O O'):Ext O (O'++y):=by
 obtain⟨n,rfl⟩:=h
 exact⟨n++y,by rw [List.append_assoc]⟩
theorem Ext.set{O O':Store}{r:Nat}{x:Option AObj}(h:Ext O O')(hr:O.length<=r):Ext O (O'.set r x):=by
 obtain⟨n,rfl⟩:=h
 exact⟨n.set (r-O.length) x,List.set_append_right _ _ hr⟩
theorem Ext.trans{O O' O'':Store}(h:Ext O O')(h':Ext O' O''):Ext O O'':=by
 obtain⟨n,rfl⟩:=h
 obtain⟨m,rfl⟩:=h'
 exact⟨n++m,by rw [List.append_assoc]⟩
theorem Ext.le{O O':Store}(h:Ext O O'):O.length<=O'.length:=by
 obtain⟨n,rfl⟩:=h;simp
theorem zW.once{C:Ctx}{n k:Nat}{Q:AExit->Env->Store->Prop}{J:Env}{O:Store}{x:ACode}(h:zW C n k x (z2s (fun _ _=>False) Q) J O):zW C n k (.loop x) Q J O:=
 zW.loop (fun _ J' O'=>J'=J/\ O'=O) 0 ⟨rfl,rfl⟩ (by
  rintro m _ _ ⟨rfl,rfl⟩
  refine h.mono fun e J O h=> ?_
  cases e
  ·exact h.elim
  ·exact h
  ·exact h)
end
section
def knil(es:List (List AV)):AV->AV
 | .nilsl=> .nilsl
 | _=> .vsl 32 es false
theorem zie{es:List (List AV)}{x:AV}(h:x ≠ .nilsl):knil es x=.vsl 32 es false:=by
 cases x<;>first|rfl|exact absurd rfl h
theorem ztj{k:Nat}(l:List Hash)(x:AV):RL k (knil (hr l) x):=by
 by_cases h:x=.nilsl
 ·subst h;simp [knil,RL]
 ·rw [zie h];simp only [RL];exact z43 _
theorem zls(O:Store)(l:List Hash)(x:AV)(hx:RdSl O 32 (hr l) x)(hl:l.length<1000000):
  ACallsTo TC 51 [x] O (knil (hr l) x) O:=by
 refine ACallsP.toDown (zlr O l x hx hl) fun hw v O' h=> ?_
 obtain⟨h,hn⟩:=h
 obtain⟨y,rfl⟩:=h.ext
 refine DownV.all hw ?_
 by_cases h0:x=.nilsl
 ·rw [hn.1 h0,h0];simp [knil,DR]
 ·have hv:v ≠ .nilsl:=fun e=>h0 (hn.2 e)
  rw [zie h0]
  rcases h with h| ⟨h1,rfl,_⟩
  ·have h2:=h.frz (z43 l)
   unfold z17 at h2
   split at h2
   ·simp only [DR]at h2;exact absurd h2 hv
   ·exact h2
  ·rw [h1]
   simp only [DR]
   exact .inl ⟨_,_,rfl,by simp,by simp [DRss]⟩
theorem Ext.pure{O O':Store}{v:AV}(hw:Wf O.length O)(h:Ext O O')(hv:RL O.length v):DownV O.length v O' v O:=by
 obtain⟨n,rfl⟩:=h
 exact DownV.pure hw hv
def zv(x:AV)(first:Bool)(l:List Hash):AV:=if first then knil (hr l) x else .vsl 32 (hr l) false
def rg(n:Int)(z:AV)(e:Int):AV:=.tup [.agg [.int .i64 n,z],.int .i64 e]
attribute [local irreducible] ACallsTo ACallsP
end
section
def zdz:Nat->List AV:=fun n=>[.int .i64 n]
def nums(l:List (Nat)):List (List AV):=l.map zdz
@[go_sem] theorem nums_len (l:List (Nat)):(nums l).length=l.length:=by simp [nums]
@[go_sem] theorem nums_take (l:List (Nat)) (n:Nat):(nums l).take n=nums (l.take n):=by simp [nums,List.map_take]
@[go_sem] theorem nums_drop (l:List (Nat)) (n:Nat):(nums l).drop n=nums (l.drop n):=by simp [nums,List.map_drop]
@[go_sem] theorem nums_set (l:List (Nat)) (i:Nat) (x:Nat):(nums l).set i (zdz x)=nums (l.set i x):=by simp [nums,List.map_set]
def numsD(l:List (Nat))(i:Nat):Nat:=l.getD i 0
@[go_sem] theorem nums_get {l:List (Nat)} {i:Nat} (h:i<l.length):(nums l)[i]? =some (zdz (numsD l i)):=by
 simp [nums,numsD,List.getElem?_map,List.getElem?_eq_getElem h]
def trsR:Nat × Hash->List AV:=fun t=> .int .i64 t.1::hc t.2
def trs(l:List (Nat × Hash)):List (List AV):=l.map trsR
@[go_sem] theorem trs_len (l:List (Nat × Hash)):(trs l).length=l.length:=by simp [trs]
@[go_sem] theorem trs_take (l:List (Nat × Hash)) (n:Nat):(trs l).take n=trs (l.take n):=by simp [trs,List.map_take]
@[go_sem] theorem trs_drop (l:List (Nat × Hash)) (n:Nat):(trs l).drop n=trs (l.drop n):=by simp [trs,List.map_drop]
@[go_sem] theorem trs_set (l:List (Nat × Hash)) (i:Nat) (x:Nat × Hash):(trs l).set i (trsR x)=trs (l.set i x):=by simp [trs,List.map_set]
def trsD(l:List (Nat × Hash))(i:Nat):Nat × Hash:=l.getD i (0,zeroH)
@[go_sem] theorem trs_get {l:List (Nat × Hash)} {i:Nat} (h:i<l.length):(trs l)[i]? =some (trsR (trsD l i)):=by
 simp [trs,trsD,List.getElem?_map,List.getElem?_eq_getElem h]
theorem RdSl.frz{sz:Nat}{τ news:Store}{v:AV}{es:List (List AV)}(h:RdSl (τ++news) sz es v)(hn:∀r off len lim e,v=.sl r off len lim e->τ.length<=r)(hr:RLss τ.length es):∃v2,SlV sz es v2/\ DR (FrzD τ news) v2 v:=by
 rcases h with(⟨rfl,rfl⟩| ⟨ex,rfl⟩)| ⟨r,off,lim,o,rfl,hg,h1,h2⟩
 ·exact⟨.nilsl,.inl ⟨rfl,rfl⟩,by simp [DR]⟩
 ·exact⟨.vsl sz es ex,.inr ⟨ex,rfl⟩,FrzD.same (by simpa only [RL]using hr)⟩
 ·exact⟨.vsl sz es false,.inr ⟨false,rfl⟩,FrzD.sl (hn _ _ _ _ _ rfl) hg h1 h2 hr⟩
theorem Ext.all{O O':Store}{v v2:AV}(hw:Wf O.length O)(he:Ext O O')(h:∀news,O'=O++news->DR (FrzD O news) v2 v):DownV O.length v O' v2 O:=by
 obtain⟨news,rfl⟩:=he
 exact DownV.all hw (h news rfl)
def OwnR(sz k:Nat)(O':Store)(v:AV)(es:List (List AV)):Prop:=(es=[]/\ v=.nilsl) \/ ∃r,k<=r/\ es ≠ []/\ v=.sl r 0 es.length none sz/\ O'[r]? =some (some es)
theorem OwnR.nil{sz k:Nat}{O':Store}:OwnR sz k O' .nilsl []:=.inl ⟨rfl,rfl⟩
theorem OwnR.cells{sz k:Nat}{O':Store}{v:AV}{es:List (List AV)}(h:OwnR sz k O' v es):cellsOf v=some [v]:=by
 rcases h with⟨_,rfl⟩| ⟨r,_,_,rfl,_⟩<;>rfl
theorem OwnR.rd{sz k:Nat}{O':Store}{v:AV}{es:List (List AV)}(h:OwnR sz k O' v es):RdSl O' sz es v:=by
 rcases h with⟨h,rfl⟩| ⟨r,_,_,rfl,hg⟩
 ·exact .inl (.inl ⟨rfl,h⟩)
 ·exact .inr ⟨r,0,none,es,rfl,hg,by omega,by simp⟩
theorem OwnR.len{sz k:Nat}{O':Store}{v:AV}{es:List (List AV)}(h:OwnR sz k O' v es):z1w v=some (.int .i64 es.length):=h.rd.len
theorem OwnR.set{sz k q:Nat}{O':Store}{v:AV}{es:List (List AV)}{x:Option AObj}(h:OwnR sz k O' v es)(hq:q<k):OwnR sz k (O'.set q x) v es:=by
 rcases h with h| ⟨r,h1,h2,h3,h4⟩
 ·exact .inl h
 ·exact .inr ⟨r,h1,h2,h3,by rw [z1u (by omega)];exact h4⟩
theorem OwnR.more{sz k:Nat}{O' y:Store}{v:AV}{es:List (List AV)}(h:OwnR sz k O' v es):OwnR sz k (O'++y) v es:=by
 rcases h with h| ⟨r,h1,h2,h3,h4⟩
 ·exact .inl h
 ·exact .inr ⟨r,h1,h2,h3,by rw [gapp (slen h4)];exact h4⟩
theorem OwnR.app{sz k:Nat}{O':Store}{v:AV}{es ys:List (List AV)}(h:OwnR sz k O' v es)(hk:k<=O'.length)(h0:ys.length ≠ 0)(hl:es.length+ys.length<=1073741824):
  ∃v' O2,aApp O' sz v ys=some (v',O2)/\ OwnR sz k O2 v' (es++ys)/\ (∀q,q<k->O2[q]? =O'[q]?)/\ (∀O:Store,O.length<=k->Ext O O'->Ext O O2)/\ k<=O2.length:=by
 have hne:es++ys ≠ []:=fun e=>h0 (by rw [(List.append_eq_nil_iff.1 e).2];rfl)
 rcases h with⟨rfl,rfl⟩| ⟨r,h1,h2,rfl,hg⟩
 ·refine⟨.sl O'.length 0 ys.length none sz,O'++ [some ys],by rw [zcm,if_neg h0,if_pos (by simpa using hl)],.inr ⟨O'.length,hk,hne,by simp,by simp⟩,fun q hq=>gapp (by omega),fun O _ he=>he.app,by simp;omega⟩
 ·have hr:=slen hg
  refine⟨.sl O'.length 0 (es.length+ys.length) none sz,O'.set r none++ [some (es++ys)],?_,.inr ⟨O'.length,hk,hne,by simp,by rw [z1p (by simp)];simp⟩,fun q hq=>by rw [gapp (by simp;omega),z1u (by omega)],fun O hs he=>(he.set (by omega)).app,by simp;omega⟩
  rw [zcn,if_neg h0,hg]
  simp only
  rw [if_pos ⟨trivial,by omega,by omega⟩,if_neg (by omega),List.drop_zero,List.take_of_length_le (Nat.le_refl _)]
theorem OwnR.frz{sz k:Nat}{τ news:Store}{v:AV}{es:List (List AV)}(h:OwnR sz k (τ++news) v es)(hk:τ.length<=k)(hr:RLss τ.length es):DR (FrzD τ news) (z17 sz es) v:=by
 unfold z17
 rcases h with⟨rfl,rfl⟩| ⟨r,h1,h2,rfl,hg⟩
 ·simp [DR]
 ·rw [if_neg h2]
  exact FrzD.sl (by omega) hg (by omega) (by simp) hr
theorem OwnR.fr{sz k:Nat}{τ O' news:Store}{v:AV}{es:List (List AV)}(h:OwnR sz k O' v es)(e:O'=τ++news)(hk:τ.length<=k)(hr:RLss τ.length es):DR (FrzD τ news) (z17 sz es) v:=by
 subst e;exact h.frz hk hr
end
section
attribute [local irreducible] ACallsTo ACallsP
theorem OwnN.base{sz:Nat}{τ y O':Store}{v:AV}{es:List (List AV)}(h:OwnN sz (τ++y) O' v es):OwnN sz τ O' v es:=by
 obtain⟨news,rfl,h⟩:=h
 refine⟨y++news,by rw [List.append_assoc],?_⟩
 rcases h with h| ⟨j,h0,rfl,hj⟩
 ·exact .inl h
 ·exact .inr ⟨y.length+j,h0,by rw [List.length_append];congr 1;omega,by rw [List.getElem?_append_right (by omega),Nat.add_sub_cancel_left];exact hj⟩
end
section
attribute [local irreducible] ACallsTo ACallsP
theorem zjx{k sz:Nat}{es:List (List AV)}(h:RLss k es):RL k (z17 sz es):=by
 unfold z17
 split
 ·simp [RL]
 ·simpa only [RL]using h
end
section
attribute [local irreducible] ACallsTo ACallsP
end
section
attribute [local irreducible] ACallsTo ACallsP
end
section
attribute [local irreducible] ACallsTo ACallsP
theorem zuq{sz:Nat}{es:List (List AV)}{z:AV}(h:SlV sz es z):cellsOf z=some [z]:=by
 rcases h with⟨rfl,_⟩| ⟨ex,rfl⟩<;>rfl
end
section
theorem zk1(a b:Hash):z14 [a,b]=zz a b:=by
 rw [zej (by simp)];simp [split2,zk0]
theorem zk2(a b c d:Hash):z14 [a,b,c,d]=zz (zz a b) (zz c d):=by
 rw [zej (by simp)];simp [split4,zk1]
attribute [local irreducible] ACallsTo ACallsP
end
section
attribute [local irreducible] ACallsTo ACallsP
end
section
attribute [local irreducible] ACallsTo ACallsP
end
section
attribute [local irreducible] ACallsTo ACallsP
end
section
attribute [local irreducible] ACallsTo ACallsP
end
section
attribute [local irreducible] ACallsTo ACallsP
end
section
attribute [local irreducible] ACallsTo ACallsP
end
section
attribute [local irreducible] ACallsTo ACallsP
end
section

end
section

end
section

end
section

end
section
def chkH(m n:Int)(o nw:Hash)(ps:List Hash):Int:=chkI m n o.1 nw.1 (hb ps)
end
section
attribute [local irreducible] ACallsTo ACallsP
end
section
set_option maxRecDepth 10000
def qkr0:yW:=[
 yI 2 (.alloc zZ0),
 yI 3 (.mv (.v (.str []))),
 yI 4 (.mv (.v (.bool false)))]
def qkr1:yW:=[
 yM 7 0,
 yI 8 (.call (.v (.fn 84 [])) [(.t 7),(.v (.int .u64 32))]),
 yM 6 8,
 yE 9 0 6,
 yE 10 1 6,
 yE 11 2 6,
 yM 5 9,
 yM 3 10,
 yM 4 11]
def qkr2:yW:=[
 yI 12 (.slice (.arr 32 1) (.t 2) none none none),
 yM 13 5,
 yI 14 (.copy 1 (.t 12) (.t 13))]
def qkr3:yW:=[
 yL 15 true 32 2,
 yM 16 3,
 yM 17 4,
 yS 32 2 15,
 yM 3 16,
 yM 4 17]
def qkc4:yX:=yq qkr3 .ret
def qkc5:yX:=yq qkr2 qkc4
def qkc6:yX:=yq qkr1 qkc5
def qkc7:yX:=yq qkr0 qkc6
attribute [go_sem] qkr0 qkr1 qkr2 qkr3
theorem qkok:cFn TC 76=some (18,[.c 2 true 32,.t 3,.t 4],qkc7):=by kernel_rfl
def qlr0:yW:=[
 yI 2 (.mv (.v (.str [])))]
def qlr1:yW:=[
 yM 4 0,
 yJ 5 .rem 4 .u64 128,
 yI 6 (.conv (.int .u8) (.t 5)),
 yI 7 (.lit 1 [(.t 6)]),
 yM 3 7]
def qlr2:yW:=[
 yM 8 0,
 yJ 9 .quo 8 .u64 128,
 yM 0 9]
def qlr3:yW:=[
 yM 10 0,
 yJ 11 .gtr 10 .u64 0]
def qlc4:yX:=.cond (.t 11) .skip (.exit 0)
def qlc5:yX:=yq qlr3 qlc4
def qlr6:yW:=[
 yM 14 0,
 yJ 15 .rem 14 .u64 128,
 yI 16 (.conv (.int .u8) (.t 15)),
 yJ 17 .or 16 .u8 128,
 yI 18 (.lit 1 [(.t 17)]),
 yM 19 3,
 yI 20 (.appB (.t 18) (.t 19)),
 yM 3 20]
def qlr7:yW:=[
 yM 12 0,
 yJ 13 .quo 12 .u64 128,
 yM 0 13]
def qlc8:yX:=.seq (.block 1 (.reg qlr6)) (.reg qlr7)
def qlc9:yX:=.seq qlc5 qlc8
def qlc10:yX:=.loop qlc9
def qlc11:yX:=.block 0 qlc10
def qlc12:yX:=yq qlr2 qlc11
def qlr13:yW:=[
 yM 21 3,
 yI 22 (.conv .str (.t 21)),
 yM 2 22]
def qlc14:yX:=yq qlr13 .ret
def qlc15:yX:=.seq qlc12 qlc14
def qlc16:yX:=yq qlr1 qlc15
def qlc17:yX:=yq qlr0 qlc16
attribute [go_sem] qlr0 qlr1 qlr2 qlr3 qlr6 qlr7 qlr13
theorem qlok:cFn TC 75=some (23,[.t 2],qlc17):=by kernel_rfl
def qmr0:yW:=[
 yI 2 (.mv (.v (.str [])))]
def qmr1:yW:=[
 yM 3 0,
 yI 4 (.lenStr (.t 3)),
 yI 5 (.conv (.int .u64) (.t 4)),
 yC 6 75 5,
 yM 7 0,
 yB 8 .add 6 7,
 yM 2 8]
def qmc2:yX:=yq qmr1 .ret
def qmc3:yX:=yq qmr0 qmc2
attribute [go_sem] qmr0 qmr1
theorem qmok:cFn TC 61=some (9,[.t 2],qmc3):=by kernel_rfl
def qnr0:yW:=[
 yI 4 (.mv (.v (.str []))),
 yI 5 (.mv (.v (.str []))),
 yI 6 (.mv (.v (.bool false)))]
def qnr1:yW:=[
 yM 7 1,
 yM 8 0,
 yI 9 (.lenStr (.t 8)),
 yI 10 (.conv (.int .u64) (.t 9)),
 yB 11 .gtr 7 10]
def qnr2:yW:=[
 yI 4 (.mv (.v (.str []))),
 yI 5 (.mv (.v (.str []))),
 yI 6 (.mv (.v (.bool false)))]
def qnc3:yX:=yq qnr2 .ret
def qnc4:yX:=.cond (.t 11) qnc3 .skip
def qnc5:yX:=yq qnr1 qnc4
def qnr6:yW:=[
 yM 12 0,
 yM 13 1,
 yI 14 (.slice .str (.t 12) none (some (.t 13)) none),
 yM 15 0,
 yM 16 1,
 yI 17 (.slice .str (.t 15) (some (.t 16)) none none),
 yM 4 14,
 yM 5 17,
 yI 6 (.mv (.v (.bool true)))]
def qnc7:yX:=yq qnr6 .ret
def qnc8:yX:=.seq qnc5 qnc7
def qnc9:yX:=yq qnr0 qnc8
attribute [go_sem] qnr0 qnr1 qnr2 qnr6
theorem qnok:cFn TC 84=some (18,[.t 4,.t 5,.t 6],qnc9):=by kernel_rfl
end
section
def u8(n:Nat):UInt8:=UInt8.ofNat n
theorem zle{n:Nat}(h:n<256):(u8 n).toNat=n:=by unfold u8;rw [UInt8.toNat_ofNat'];omega
def z3w:Nat->Nat->List UInt8
 | 0,_=>[]
 |f+1,n=>if n<128 then [u8 (n+128)]else z3w f (n/128)++ [u8 (n%128+128)]
theorem zgb(f n:Nat):z3w (f+1) n=if n<128 then [u8 (n+128)]else z3w f (n/128)++ [u8 (n%128+128)]:=rfl
theorem zga:∀(f g n:Nat),n<128^f->n<128^g->0<f->0<g->z3w f n=z3w g n
 | 0,_,_,_,_,h,_=>by omega
 | _+1,0,_,_,_,_,h=>by omega
 |f+1,g+1,n,h,h',_,_=>by
  simp only [z3w]
  by_cases h1:n<128
  ·rw [if_pos h1,if_pos h1]
  ·rw [if_neg h1,if_neg h1]
   rw [Nat.pow_succ]at h h'
   have hf:0<f:=by
    rcases Nat.eq_zero_or_pos f with h0|h0
    ·subst h0;simp at h;omega
    ·exact h0
   have hg:0<g:=by
    rcases Nat.eq_zero_or_pos g with h0|h0
    ·subst h0;simp at h';omega
    ·exact h0
   rw [zga f g (n/128) (by omega) (by omega) hf hg]
def numS(n:Nat):List UInt8:=if n<128 then [u8 n]else z3w 10 (n/128)++ [u8 (n%128)]
end
section
attribute [local irreducible] ACallsTo ACallsP
theorem or128{n:Nat}(h:n<128):n ||| 128=n+128:=by
 have:=Nat.two_pow_add_eq_or_of_lt (i:=7) (b:=n) h 1
 simp at this
 rw [Nat.or_comm,<-this,Nat.add_comm]
theorem zn5(b:UInt8)(s:List UInt8):zx (b::s)=[.int .u8 b.toNat]::zx s:=by simp [zx,B8]
def preF(m:Nat):List UInt8:=if m=0 then []else z3w 10 m
theorem zt2{m:Nat}(h:0<m)(h2:m<18446744073709551616):preF m=preF (m/128)++ [u8 (m%128+128)]:=by
 unfold preF
 rw [if_neg (by omega),show (10:Nat)=9+1 from rfl,zgb]
 by_cases h1:m<128
 ·rw [if_pos h1,if_pos (by omega),show m%128+128=m+128 by omega];rfl
 ·rw [if_neg h1,if_neg (by omega),zga 9 10 (m/128) (by omega) (by omega) (by decide) (by decide)]
theorem zra(n:Nat):numS n=preF (n/128)++ [u8 (n%128)]:=by
 unfold numS preF
 by_cases h1:n<128
 ·rw [if_pos h1,if_pos (by omega),show n%128=n by omega];rfl
 ·rw [if_neg h1,if_neg (by omega)]
theorem znx(O:Store)(n:Nat)(h:n<18446744073709551616):ACallsTo TC 75 [.int .u64 n] O (.str (numS n)) O:=by
 refine ACallsTo.of_body qlok (by simp) fun hw _=> ?_
 have hb:[[AV.int .u8 ((n:Int)%128)]]=zx [u8 (n%128)]:=by
  have:=zle (n:=n%128) (by omega)
  simp [zx,B8,this]
 have hd:(n:Int)/128=((n/128:Nat):Int):=by simp
 have hn:=zra n
 generalize u8 (n%128)=c0 at*
 repeat' (first|apply zs_|apply zb_|apply zc_|apply zt_ rfl|apply zf_ rfl|(apply zd_ rfl<;>intro ht<;>try omega)|((first|apply zr_|apply zk_|apply ze_|apply zq_|(apply zG<;>intro ht));all_goals try simp (disch:=first|omega|(simp only [lens,z8,zh,lQr,z15];first|done|omega)) only [go_sem,hb,hd]))
 refine zW.loop (fun k J O'=>∃(m:Nat) (b:List UInt8) (v:AV),m<128^k/\ m<18446744073709551616/\ preF m++b=numS n/\ 0<b.length/\ b.length+k<=12/\ Ext O O'/\ (v=.vsl 1 (zx b) true \/ ∃r,O.length<=r/\ v=.sl r 0 b.length none 1/\ O'[r]? =some (some (zx b)))/\ J 0=.int .u64 m/\ J 3=v) 10 ?_ ?_
 ·exact⟨n/128,[c0],_,by omega,by omega,hn.symm,by simp,by simp,Ext.refl _,.inl rfl,by simp (disch:=first|omega|(simp only [lens,z8,zh,lQr,z15];first|done|omega)) only [go_sem],by simp (disch:=first|omega|(simp only [lens,z8,zh,lQr,z15];first|done|omega)) only [go_sem,hb]⟩
 ·rintro k J O' ⟨m,b,v,hmk,hm,hmb,hb0,hbk,he,hv,q0,q3⟩
  by_cases h0:m=0
  ·subst h0
   rw [<-hmb]
   have e0:preF 0++b=b:=rfl
   rw [e0]
   rcases hv with rfl| ⟨r,hr,rfl,hg⟩
   ·repeat' (first|apply zs_|apply zb_|apply zc_|apply zt_ rfl|apply zf_ rfl|(apply zd_ rfl<;>intro ht<;>try omega)|((first|apply zr_|apply zk_|apply ze_|apply zq_|(apply zG<;>intro ht));all_goals try simp (disch:=first|omega|(simp only [lens,z8,zh,lQr,z15];first|done|omega)) only [go_sem,q0,q3]))
    exact Ext.pure hw he (z1n _ rfl)
   ·repeat' (first|apply zs_|apply zb_|apply zc_|apply zt_ rfl|apply zf_ rfl|(apply zd_ rfl<;>intro ht<;>try omega)|((first|apply zr_|apply zk_|apply ze_|apply zq_|(apply zG<;>intro ht));all_goals try simp (disch:=first|omega|(simp only [lens,z8,zh,lQr,z15];first|done|omega)) only [go_sem,q0,q3,hg]))
    exact Ext.pure hw he (z1n _ rfl)
  ·have hst:=zt2 (m:=m) (by omega) hm
   have hc8:=zle (n:=m%128+128) (by omega)
   have hor:((((m:Int)%128).toNat ||| 128:Nat):Int)=(((u8 (m%128+128)).toNat:Nat):Int):=by
    have:((m:Int)%128).toNat=m%128:=by omega
    rw [this,or128 (by omega),hc8]
   have hd2:(m:Int)/128=((m/128:Nat):Int):=by simp
   rw [hst,List.append_assoc]at hmb
   have hkk:∃k',k=k'+1:=by
    cases k with
    |zero=>simp at hmk;omega
    |succ k=>exact⟨k,rfl⟩
   obtain⟨k,rfl⟩:=hkk
   rw [Nat.pow_succ]at hmk
   generalize u8 (m%128+128)=c at*
   have hcat:[AV.int .u8 (c.toNat:Int)]::zx b=zx (c::b):=(zn5 c b).symm
   have hlen:(zx b).length=b.length:=z15 b
   rcases hv with rfl| ⟨r,hr,rfl,hg⟩
   ·repeat' (first|apply zs_|apply zb_|apply zc_|apply zt_ rfl|apply zf_ rfl|(apply zd_ rfl<;>intro ht<;>try omega)|((first|apply zr_|apply zk_|apply ze_|apply zq_|(apply zG<;>intro ht));all_goals try simp (disch:=first|omega|(simp only [lens,z8,zh,lQr,z15];first|done|omega)) only [go_sem,q0,q3,hor,hd2,hcat]))
    exact⟨k,by omega,m/128,c::b,_,by omega,by omega,hmb,by simp,by simp;omega,he.app,.inr ⟨O'.length,he.le,by simp [Nat.add_comm],by simp⟩,rfl,rfl⟩
   ·repeat' (first|apply zs_|apply zb_|apply zc_|apply zt_ rfl|apply zf_ rfl|(apply zd_ rfl<;>intro ht<;>try omega)|((first|apply zr_|apply zk_|apply ze_|apply zq_|(apply zG<;>intro ht));all_goals try simp (disch:=first|omega|(simp only [lens,z8,zh,lQr,z15];first|done|omega)) only [go_sem,q0,q3,hor,hd2,hcat,hg]))
    exact⟨k,by omega,m/128,c::b,_,by omega,by omega,hmb,by simp,by simp;omega,he.app,.inr ⟨O'.length,he.le,by simp [Nat.add_comm],by simp⟩,rfl,rfl⟩
end
section
attribute [local irreducible] ACallsTo ACallsP
end
section
attribute [local irreducible] ACallsTo ACallsP
def z49(s:List UInt8)(n:Nat):Option (List UInt8 × List UInt8):=if n<=s.length then some (s.take n,s.drop n)else none
def stV:Option (List UInt8 × List UInt8)->AV
 |none=> .tup [.str [],.str [],.bool false]
 |some (a,r)=> .tup [.str a,.str r,.bool true]
def z6h(s:List UInt8):List UInt8:=numS s.length++s
theorem ziz(n:Nat):(numS n).length<=11:=by
 unfold numS
 split
 ·simp
 ·have:∀f m,(z3w f m).length<=f:=by
   intro f
   induction f with
   |zero=>intro m;simp [z3w]
   |succ f ih=>
    intro m
    rw [zgb]
    split
    ·simp
    ·have:=ih (m/128);simp;omega
  have:=this 10 (n/128)
  simp;omega
theorem zny(O:Store)(s:List UInt8)(hs:s.length<1000000000):ACallsTo TC 61 [.str s] O (.str (z6h s)) O:=by
 refine ACallsTo.of_body qmok (by simp) fun hw _=> ?_
 have hN:=fun O=>znx O s.length (by omega)
 have h1:=ziz s.length
 unfold z6h
 generalize numS s.length=N at*
 repeat' (first|apply zs_|apply zb_|apply zc_|apply zt_ rfl|apply zf_ rfl|(apply zd_ rfl<;>intro ht<;>try omega)|((first|apply zr_|apply zk_|apply ze_|apply zq_|(apply callW.mk_pu;(first|exact(fun _=>hN _)))|(apply callW.za;(first|exact(hN _)))|(apply zG<;>intro ht));all_goals try simp (disch:=first|omega|(simp only [lens,z8,zh,lQr,z15,z19];first|done|omega)) only [go_sem]))
 exact DownV.same hw (z1n _ rfl)
theorem zw1(O:Store)(s:List UInt8)(n:Nat)(hs:s.length<1000000000)(hn:n<18446744073709551616):ACallsTo TC 84 [.str s,.int .u64 n] O (stV (z49 s n)) O:=by
 refine ACallsTo.of_body qnok (by simp) fun hw _=> ?_
 by_cases h:n<=s.length
 ·unfold z49
  rw [if_pos h]
  unfold stV
  repeat' (first|apply zs_|apply zb_|apply zc_|apply zt_ rfl|apply zf_ rfl|(apply zd_ rfl<;>intro ht<;>try omega)|((first|apply zr_|apply zk_|apply ze_|apply zq_|(apply zG<;>intro ht));all_goals try simp (disch:=first|omega|(simp only [lens,z8,zh,lQr,z15,z19];first|done|omega)) only [go_sem]))
  exact DownV.same hw (z1n _ rfl)
 ·unfold z49
  rw [if_neg h]
  unfold stV
  repeat' (first|apply zs_|apply zb_|apply zc_|apply zt_ rfl|apply zf_ rfl|(apply zd_ rfl<;>intro ht<;>try omega)|((first|apply zr_|apply zk_|apply ze_|apply zq_|(apply zG<;>intro ht));all_goals try simp (disch:=first|omega|(simp only [lens,z8,zh,lQr,z15,z19];first|done|omega)) only [go_sem]))
  exact DownV.same hw (z1n _ rfl)
end
section
attribute [local irreducible] ACallsTo ACallsP
def toH(l:List UInt8):Hash:=if h:l.length=32 then⟨l,h⟩else zeroH
theorem hc_toH{l:List UInt8}(h:l.length=32):hc (toH l)=z13 l:=by simp [toH,h,hc]
theorem zw5(h:Hash):toH h.1=h:=by simp [toH,h.2]
def unS(s:List UInt8):Option (Hash × List UInt8):=(z49 s 32).map fun x=>(toH x.1,x.2)
def unV:Option (Hash × List UInt8)->AV
 |none=> .tup [.agg (hc zeroH),.str [],.bool false]
 |some (h,r)=> .tup [.agg (hc h),.str r,.bool true]
theorem zwe{s:List UInt8}(h:¬32<=s.length):unS s=none:=by simp [unS,z49,h]
theorem zlf{s:List UInt8}(h:32<=s.length):unS s=some (toH (s.take 32),s.drop 32):=by simp [unS,z49,h]
theorem zlg(h:Hash)(r:List UInt8):unV (some (h,r))=.tup [.agg (hc h),.str r,.bool true]:=rfl
theorem zwf:unV none=.tup [.agg z32,.str [],.bool false]:=rfl
theorem rl_un{k:Nat}{cs:List AV}{r:List UInt8}{b:Bool}(h:RLs k cs):RL k (.tup [.agg cs,.str r,.bool b]):=by
 simp only [RL,RLs];exact⟨h,trivial,trivial,trivial⟩
theorem zlm:z32.length=32:=rfl
theorem znz(O:Store)(s:List UInt8)(hs:s.length<1000000000):ACallsTo TC 76 [.str s] O (unV (unS s)) O:=by
 refine ACallsTo.of_body qkok (by simp) fun hw _=> ?_
 have hT:=fun O=>zw1 O s 32 hs (by omega)
 by_cases h:32<=s.length
 ·rw [zlf h]
  rw [zlg,hc_toH (by simp;omega)]
  have ht:z49 s 32=some (s.take 32,s.drop 32):=by simp [z49,h]
  rw [ht]at hT
  unfold stV at hT
  have hl:(s.take 32).length=32:=by simp;omega
  generalize s.take 32=a at*
  have hf:=zgi a
  have hft:(zx a).take 32=zx a:=List.take_of_length_le (by rw [z15];omega)
  have hfc:(z13 a).length=32:=by rw [z19];exact hl
  have hfd:(z13 a).drop 32=[]:=List.drop_of_length_le (by omega)
  have hfk:(z13 a).take 32=z13 a:=List.take_of_length_le (by omega)
  repeat' (first|apply zs_|apply zb_|apply zc_|apply zt_ rfl|apply zf_ rfl|(apply zd_ rfl<;>intro ht<;>try omega)|((first|apply zr_|apply zk_|apply ze_|apply zq_|(apply callW.mk_pu;(first|exact(fun _=>hT _)))|(apply callW.za;(first|exact(hT _)))|(apply zG<;>intro ht));all_goals try simp (disch:=first|omega|(simp only [lens,z8,zh,lQr,z15,z19];first|done|omega)) only [go_sem,hf,hft,hl,hfc,hfd,hfk,List.append_nil,zlm]))
  exact DownV.pure hw (rl_un (z3b _))
 ·rw [zwe h,zwf]
  have ht:z49 s 32=none:=by simp [z49,h]
  rw [ht]at hT
  unfold stV at hT
  have hbe:(zx []).flatten=([]:List AV):=rfl
  repeat' (first|apply zs_|apply zb_|apply zc_|apply zt_ rfl|apply zf_ rfl|(apply zd_ rfl<;>intro ht<;>try omega)|((first|apply zr_|apply zk_|apply ze_|apply zq_|(apply callW.mk_pu;(first|exact(fun _=>hT _)))|(apply callW.za;(first|exact(hT _)))|(apply zG<;>intro ht));all_goals try simp (disch:=first|omega|(simp only [lens,z8,zh,lQr,z15,z19];first|done|omega)) only [go_sem,zlm,hbe,List.nil_append,List.drop_zero]))
  exact DownV.pure hw (rl_un (cs:=z32) (z3b (List.replicate 32 0)))
end
section
attribute [local irreducible] ACallsTo ACallsP
end
section
attribute [local irreducible] ACallsTo ACallsP
def catS(l:List Hash):List UInt8:=(l.map (·.1)).flatten
theorem zcw:∀(l:List Hash),(catS l).length=32*l.length
 | []=>rfl
 |h::l=>by
  have:=zcw l
  simp only [catS,List.map_cons,List.flatten_cons,List.length_append,List.length_cons,h.2]at this ⊢
  omega
theorem znp{l:List Hash}{i:Nat}(h:i<l.length):catS (l.take (i+1))=catS (l.take i)++(hd l i).1:=by
 rw [zf9 h];simp [catS]
end
section
set_option maxRecDepth 10000
def qor0:yW:=[
 yI 4 (.mv (.v .nilsl)),
 yK 5 .i64 0]
def qor1:yW:=[
 yM 8 1,
 yJ 9 .lss 8 .i64 0,
 yM 10 9,
 yV 11 10 false 1,
 yV 12 10 false 0,
 yG 13 10 false (.lenSl (.t 12)),
 yG 14 10 false (.bin .geq .none (.t 11) (.t 13)),
 yP 15 10 14]
def qor2:yW:=[
 yI 4 (.mv (.v .nilsl)),
 yK 5 .i64 2]
def qoc3:yX:=yq qor2 .ret
def qoc4:yX:=.cond (.t 15) qoc3 .skip
def qoc5:yX:=yq qor1 qoc4
def qor6:yW:=[
 yI 6 (.mv (.v .nilsl))]
def qor7:yW:=[
 yM 16 0,
 yI 17 (.lenSl (.t 16)),
 yJ 18 .gtr 17 .i64 1]
def qoc8:yX:=.cond (.t 18) .skip (.exit 0)
def qoc9:yX:=yq qor7 qoc8
def qor10:yW:=[
 yM 19 0,
 yI 20 (.lenSl (.t 19)),
 yC 21 41 20,
 yM 7 21]
def qor11:yW:=[
 yM 22 1,
 yM 23 7,
 yB 24 .lss 22 23]
def qor12:yW:=[
 yM 25 6,
 yM 26 0,
 yM 27 7,
 yI 28 (.slice (.sl 32) (.t 26) (some (.t 27)) none none),
 yC 29 22 28,
 yI 30 (.lit 32 [(.t 29)]),
 yI 31 (.app 32 (.t 25) (.t 30)),
 yM 6 31]
def qor13:yW:=[
 yM 32 0,
 yM 33 7,
 yI 34 (.slice (.sl 32) (.t 32) none (some (.t 33)) none),
 yM 0 34]
def qoc14:yX:=yq qor12 (.reg qor13)
def qor15:yW:=[
 yM 35 6,
 yM 36 0,
 yM 37 7,
 yI 38 (.slice (.sl 32) (.t 36) none (some (.t 37)) none),
 yC 39 22 38,
 yI 40 (.lit 32 [(.t 39)]),
 yI 41 (.app 32 (.t 35) (.t 40)),
 yM 6 41]
def qor16:yW:=[
 yM 42 0,
 yM 43 7,
 yI 44 (.slice (.sl 32) (.t 42) (some (.t 43)) none none),
 yM 45 1,
 yM 46 7,
 yB 47 .sub 45 46,
 yM 0 44,
 yM 1 47]
def qoc17:yX:=yq qor15 (.reg qor16)
def qoc18:yX:=.cond (.t 24) qoc14 qoc17
def qoc19:yX:=yq qor11 qoc18
def qoc20:yX:=yq qor10 qoc19
def qoc21:yX:=.block 1 qoc20
def qoc22:yX:=.seq qoc9 qoc21
def qoc23:yX:=.loop qoc22
def qor24:yW:=[
 yM 48 6,
 yC 49 67 48]
def qor25:yW:=[
 yM 50 6,
 yM 4 50,
 yK 5 .i64 0]
def qoc26:yX:=yq qor25 .ret
def qoc27:yX:=yq qor24 qoc26
def qoc28:yX:=.seq (.block 0 qoc23) qoc27
def qoc29:yX:=yq qor6 qoc28
def qoc30:yX:=.seq qoc5 qoc29
def qoc31:yX:=yq qor0 qoc30
attribute [go_sem] qor0 qor1 qor2 qor6 qor7 qor10 qor11 qor12 qor13 qor15 qor16 qor24 qor25
theorem qook:cFn TC 52=some (51,[.t 4,.t 5],qoc31):=by kernel_rfl
def qpr0:yW:=[
 yI 5 (.box (.t 0)),
 yI 9 (.box (.t 4)),
 yK 10 .i64 0]
def qpr1:yW:=[
 yM 15 2,
 yJ 16 .lss 15 .i64 1,
 yM 17 16,
 yV 18 17 false 2,
 yG 19 17 false (.bin .gtr .none (.t 18) (.v (.int .i64 4096))),
 yP 20 17 19,
 yM 21 20,
 yV 22 21 false 1,
 yG 23 21 false (.bin .lss .none (.t 22) (.v (.int .i64 0))),
 yP 24 21 23,
 yM 25 24,
 yV 26 25 false 1,
 yV 27 25 false 2,
 yG 28 25 false (.bin .geq .none (.t 26) (.t 27)),
 yP 29 25 28]
def qpr2:yW:=[
 yK 10 .i64 2]
def qpc3:yX:=yq qpr2 .ret
def qpc4:yX:=.cond (.t 29) qpc3 .skip
def qpc5:yX:=yq qpr1 qpc4
def qpr6:yW:=[
 yM 30 2,
 yJ 31 .sub 30 .i64 1,
 yM 11 31]
def qpr7:yW:=[
 yK 12 .i64 0]
def qpr8:yW:=[
 yM 32 3,
 yI 33 (.lenSl (.t 32)),
 yK 34 .i64 0]
def qpr9:yW:=[
 yB 35 .lss 34 33]
def qpr10:yW:=[
 yI 36 (.iaSl 32 (.t 32) (.t 34)),
 yL 37 true 32 36,
 yI 14 (.alloc zZ0),
 yS 32 14 37]
def qpr11:yW:=[
 yM 38 11,
 yJ 39 .eql 38 .i64 0]
def qpc12:yX:=.cond (.t 39) (.exit 0) .skip
def qpc13:yX:=yq qpr11 qpc12
def qpr14:yW:=[
 yM 40 1,
 yJ 41 .rem 40 .i64 2,
 yJ 42 .eql 41 .i64 1,
 yM 43 42,
 yV 44 43 false 1,
 yV 45 43 false 11,
 yG 46 43 false (.bin .eql .none (.t 44) (.t 45)),
 yP 47 43 46]
def qpr15:yW:=[
 yL 48 true 32 14,
 yL 49 true 32 5,
 yD 50 42 48 49,
 yS 32 5 50]
def qpr16:yW:=[
 yM 51 1,
 yJ 52 .rem 51 .i64 2,
 yJ 53 .eql 52 .i64 0,
 yM 54 53,
 yV 55 54 true 1,
 yG 56 54 true (.bin .gtr .none (.t 55) (.v (.int .i64 0))),
 yQ 57 54 56]
def qpc17:yX:=.cond (.t 57) .skip (.exit 2)
def qpc18:yX:=yq qpr16 qpc17
def qpr19:yW:=[
 yM 58 1,
 yJ 59 .quo 58 .i64 2,
 yM 60 11,
 yJ 61 .quo 60 .i64 2,
 yM 1 59,
 yM 11 61]
def qpc20:yX:=.block 3 (.reg qpr19)
def qpc21:yX:=.seq qpc18 qpc20
def qpc22:yX:=.loop qpc21
def qpc23:yX:=.block 2 qpc22
def qpc24:yX:=yq qpr15 qpc23
def qpr25:yW:=[
 yL 62 true 32 5,
 yL 63 true 32 14,
 yD 64 42 62 63,
 yS 32 5 64]
def qpc26:yX:=.cond (.t 47) qpc24 (.reg qpr25)
def qpc27:yX:=yq qpr14 qpc26
def qpr28:yW:=[
 yM 65 1,
 yJ 66 .quo 65 .i64 2,
 yM 67 11,
 yJ 68 .quo 67 .i64 2,
 yM 1 66,
 yM 11 68]
def qpr29:yW:=[
 yM 69 12,
 yJ 70 .add 69 .i64 1,
 yM 12 70]
def qpc30:yX:=yq qpr28 (.reg qpr29)
def qpc31:yX:=.seq qpc27 qpc30
def qpc32:yX:=.seq qpc13 qpc31
def qpc33:yX:=yq qpr10 qpc32
def qpr34:yW:=[
 yJ 71 .add 34 .i64 1,
 yM 34 71]
def qpc35:yX:=.seq (.block 1 qpc33) (.reg qpr34)
def qpc36:yX:=.seq (.cond (.t 35) .skip (.exit 0)) qpc35
def qpc37:yX:=yq qpr9 qpc36
def qpc38:yX:=.loop qpc37
def qpc39:yX:=.block 0 qpc38
def qpc40:yX:=yq qpr8 qpc39
def qpr41:yW:=[
 yM 72 11,
 yJ 73 .neq 72 .i64 0,
 yM 74 73,
 yV 75 74 false 12,
 yV 76 74 false 3,
 yG 77 74 false (.lenSl (.t 76)),
 yG 78 74 false (.bin .neq .none (.t 75) (.t 77)),
 yP 79 74 78,
 yM 80 79,
 yU 81 80 false true 32 5,
 yU 82 80 false true 32 9,
 yG 83 80 false (.bin .neq (.agg (List.replicate 32 (.i .u8)++ [])) (.t 81) (.t 82)),
 yP 84 80 83]
def qpr42:yW:=[
 yK 10 .i64 80]
def qpc43:yX:=yq qpr42 .ret
def qpc44:yX:=.cond (.t 84) qpc43 .skip
def qpc45:yX:=yq qpr41 qpc44
def qpr46:yW:=[
 yK 10 .i64 0]
def qpc47:yX:=yq qpr46 .ret
def qpc48:yX:=.seq qpc45 qpc47
def qpc49:yX:=.seq qpc40 qpc48
def qpc50:yX:=.seq .skip qpc49
def qpc51:yX:=yq qpr7 qpc50
def qpc52:yX:=yq qpr6 qpc51
def qpc53:yX:=.seq qpc5 qpc52
def qpc54:yX:=.scope qpc53
def qpc55:yX:=yq qpr0 qpc54
attribute [go_sem] qpr0 qpr1 qpr2 qpr6 qpr7 qpr8 qpr9 qpr10 qpr11 qpr14 qpr15 qpr16 qpr19 qpr25 qpr28 qpr29 qpr34 qpr41 qpr42 qpr46
theorem qpok:cFn TC 63=some (85,[.t 10],qpc55):=by kernel_rfl
def qqr0:yW:=[
 yM 4 0,
 yI 5 (.lenSl (.t 4)),
 yJ 6 .sub 5 .i64 1,
 yK 2 .i64 0,
 yM 3 6]
def qqr1:yW:=[
 yM 7 2,
 yM 8 3,
 yB 9 .lss 7 8]
def qqc2:yX:=.cond (.t 9) .skip (.exit 0)
def qqc3:yX:=yq qqr1 qqc2
def qqr4:yW:=[
 yM 14 0,
 yM 15 2,
 yM 16 0,
 yM 17 3,
 yM 18 0,
 yM 19 3,
 yI 20 (.iaSl 32 (.t 18) (.t 19)),
 ⟨some 21,none,.rd,.load true 32 (.t 20)⟩,
 yM 22 0,
 yM 23 2,
 yI 24 (.iaSl 32 (.t 22) (.t 23)),
 ⟨some 25,none,.rd,.load true 32 (.t 24)⟩,
 yI 26 (.iaSl 32 (.t 14) (.t 15)),
 yS 32 26 21,
 yI 27 (.iaSl 32 (.t 16) (.t 17)),
 yS 32 27 25]
def qqr5:yW:=[
 yM 10 2,
 yJ 11 .add 10 .i64 1,
 yM 12 3,
 yJ 13 .sub 12 .i64 1,
 yM 2 11,
 yM 3 13]
def qqc6:yX:=.seq (.block 1 (.reg qqr4)) (.reg qqr5)
def qqc7:yX:=.seq qqc3 qqc6
def qqc8:yX:=.loop qqc7
def qqc9:yX:=.block 0 qqc8
def qqc10:yX:=yq qqr0 qqc9
attribute [go_sem] qqr0 qqr1 qqr4 qqr5
theorem qqok:cFn TC 67=some (28,[],qqc10):=by kernel_rfl
end
section
set_option maxRecDepth 10000
def qrr0:yW:=[
 yI 2 (.alloc zZ0)]
def qrr1:yW:=[
 yM 6 0,
 yI 7 (.lenSl (.t 6)),
 yJ 8 .neq 7 .i64 512]
def qrr2:yW:=[
 yI 9 (.build zZ0 []),
 yS 32 2 9]
def qrc3:yX:=yq qrr2 .ret
def qrc4:yX:=.cond (.t 8) qrc3 .skip
def qrc5:yX:=yq qrr1 qrc4
def qrr6:yW:=[
 yI 3 (.allB)]
def qrr7:yW:=[
 yI 10 (.call (.v (.fn 33 [])) [(.t 3),(.v (.int .u8 4))])]
def qrr8:yW:=[
 yM 11 0,
 yI 12 (.lenSl (.t 11)),
 yK 13 .i64 0]
def qrr9:yW:=[
 yB 14 .lss 13 12]
def qrr10:yW:=[
 yI 15 (.iaSl 32 (.t 11) (.t 13)),
 yL 16 true 32 15,
 yI 5 (.alloc zZ0),
 yS 32 5 16]
def qrr11:yW:=[
 yL 17 true 32 5,
 yC 18 35 17,
 yD 19 34 3 18]
def qrc12:yX:=yq qrr10 (.reg qrr11)
def qrr13:yW:=[
 yJ 20 .add 13 .i64 1,
 yM 13 20]
def qrc14:yX:=.seq (.block 1 qrc12) (.reg qrr13)
def qrc15:yX:=.seq (.cond (.t 14) .skip (.exit 0)) qrc14
def qrc16:yX:=yq qrr9 qrc15
def qrc17:yX:=.loop qrc16
def qrc18:yX:=.block 0 qrc17
def qrc19:yX:=yq qrr8 qrc18
def qrr20:yW:=[
 yC 21 37 3,
 yC 22 36 21,
 yS 32 2 22]
def qrc21:yX:=yq qrr20 .ret
def qrc22:yX:=.seq qrc19 qrc21
def qrc23:yX:=yq qrr7 qrc22
def qrc24:yX:=yq qrr6 qrc23
def qrc25:yX:=.seq qrc5 qrc24
def qrc26:yX:=yq qrr0 qrc25
attribute [go_sem] qrr0 qrr1 qrr2 qrr6 qrr7 qrr8 qrr9 qrr10 qrr11 qrr13 qrr20
theorem qrok:cFn TC 20=some (23,[.c 2 true 32],qrc26):=by kernel_rfl
def qsr0:yW:=[
 yI 4 (.mv (.v .nilsl))]
def qsr1:yW:=[
 yM 7 1,
 yJ 8 .lss 7 .i64 0,
 yM 9 8,
 yV 10 9 false 1,
 yG 11 9 false (.bin .geq .none (.t 10) (.v (.int .i64 2147483648))),
 yP 12 9 11]
def qsr2:yW:=[
 yI 4 (.mv (.v .nilsl))]
def qsc3:yX:=yq qsr2 .ret
def qsc4:yX:=.cond (.t 12) qsc3 .skip
def qsc5:yX:=yq qsr1 qsc4
def qsr6:yW:=[
 yI 13 (.make 32 zZ0 (.v (.int .i64 512)) (.v (.int .i64 512))),
 yM 5 13]
def qsr7:yW:=[
 yM 14 5,
 yI 15 (.lenSl (.t 14)),
 yK 16 .i64 0]
def qsr8:yW:=[
 yB 17 .lss 16 15]
def qsr9:yW:=[
 yM 18 16,
 yM 6 18]
def qsr10:yW:=[
 yM 19 5,
 yM 20 6,
 yM 21 0,
 yM 22 1,
 yM 23 6,
 yJ 24 .quo 23 .i64 2,
 yM 25 6,
 yJ 26 .rem 25 .i64 2,
 yI 27 (.call (.v (.fn 39 [])) [(.t 21),(.t 22),(.t 24),(.t 26)]),
 yC 28 35 27,
 yC 29 38 28,
 yI 30 (.iaSl 32 (.t 19) (.t 20)),
 yS 32 30 29]
def qsc11:yX:=yq qsr9 (.reg qsr10)
def qsr12:yW:=[
 yJ 31 .add 16 .i64 1,
 yM 16 31]
def qsc13:yX:=.seq (.block 1 qsc11) (.reg qsr12)
def qsc14:yX:=.seq (.cond (.t 17) .skip (.exit 0)) qsc13
def qsc15:yX:=yq qsr8 qsc14
def qsc16:yX:=.loop qsc15
def qsc17:yX:=.block 0 qsc16
def qsc18:yX:=yq qsr7 qsc17
def qsr19:yW:=[
 yM 32 5,
 yM 4 32]
def qsc20:yX:=yq qsr19 .ret
def qsc21:yX:=.seq qsc18 qsc20
def qsc22:yX:=yq qsr6 qsc21
def qsc23:yX:=.seq qsc5 qsc22
def qsc24:yX:=yq qsr0 qsc23
attribute [go_sem] qsr0 qsr1 qsr2 qsr6 qsr7 qsr8 qsr9 qsr10 qsr12 qsr19
theorem qsok:cFn TC 21=some (33,[.t 4],qsc24):=by kernel_rfl
def qtr0:yW:=[
 yI 5 (.box (.t 2)),
 yI 6 (.mv (.v (.str [])))]
def qtr1:yW:=[
 yM 13 0,
 yM 14 1,
 yD 15 21 13 14,
 yM 7 15]
def qtr2:yW:=[
 yM 16 7,
 yI 17 (.bin .eql .slc (.t 16) (.v .nilsl))]
def qtr3:yW:=[
 yI 6 (.mv (.v (.str [])))]
def qtc4:yX:=yq qtr3 .ret
def qtc5:yX:=.cond (.t 17) qtc4 .skip
def qtc6:yX:=yq qtr2 qtc5
def qtr7:yW:=[
 yL 18 true 32 5,
 yC 19 35 18,
 yM 8 19]
def qtr8:yW:=[
 yI 9 (.allB),
 yI 10 (.allB)]
def qtr9:yW:=[
 yK 20 .i64 0]
def qtr10:yW:=[
 yJ 21 .lss 20 .i64 256]
def qtr11:yW:=[
 yM 22 20,
 yM 11 22]
def qtr12:yW:=[
 yM 23 8,
 yM 24 11,
 yD 25 68 23 24,
 yM 12 25]
def qtr13:yW:=[
 yM 26 0,
 yM 27 1,
 yM 28 11,
 yM 29 12,
 yI 30 (.call (.v (.fn 39 [])) [(.t 26),(.t 27),(.t 28),(.t 29)]),
 yC 31 35 30,
 yD 32 34 9 31]
def qtr14:yW:=[
 yM 33 7,
 yM 34 11,
 yI 35 (.bin .mul .none (.v (.int .i64 2)) (.t 34)),
 yJ 36 .add 35 .i64 1,
 yM 37 12,
 yB 38 .sub 36 37,
 yI 39 (.iaSl 32 (.t 33) (.t 38)),
 yL 40 true 32 39,
 yC 41 35 40,
 yD 42 34 10 41]
def qtc15:yX:=yq qtr13 (.reg qtr14)
def qtc16:yX:=yq qtr12 qtc15
def qtc17:yX:=yq qtr11 qtc16
def qtr18:yW:=[
 yJ 43 .add 20 .i64 1,
 yM 20 43]
def qtc19:yX:=.seq (.block 1 qtc17) (.reg qtr18)
def qtc20:yX:=.seq (.cond (.t 21) .skip (.exit 0)) qtc19
def qtc21:yX:=yq qtr10 qtc20
def qtc22:yX:=.loop qtc21
def qtc23:yX:=.block 0 qtc22
def qtc24:yX:=yq qtr9 qtc23
def qtr25:yW:=[
 yC 44 37 9,
 yC 45 37 10,
 yB 46 .add 44 45,
 yM 6 46]
def qtc26:yX:=yq qtr25 .ret
def qtc27:yX:=.seq qtc24 qtc26
def qtc28:yX:=yq qtr8 qtc27
def qtc29:yX:=yq qtr7 qtc28
def qtc30:yX:=.seq qtc6 qtc29
def qtc31:yX:=yq qtr1 qtc30
def qtc32:yX:=yq qtr0 qtc31
attribute [go_sem] qtr0 qtr1 qtr2 qtr3 qtr7 qtr8 qtr9 qtr10 qtr11 qtr12 qtr13 qtr14 qtr18 qtr25
theorem qtok:cFn TC 53=some (47,[.t 6],qtc32):=by kernel_rfl
def qur0:yW:=[
 yI 3 (.box (.t 1)),
 yI 4 (.alloc zZ0),
 yK 5 .i64 0]
def qur1:yW:=[
 yM 12 0,
 yI 13 (.lenStr (.t 12)),
 yJ 14 .neq 13 .i64 16384]
def qur2:yW:=[
 yI 15 (.build zZ0 []),
 yS 32 4 15,
 yK 5 .i64 10]
def quc3:yX:=yq qur2 .ret
def quc4:yX:=.cond (.t 14) quc3 .skip
def quc5:yX:=yq qur1 quc4
def qur6:yW:=[
 yL 16 true 32 3,
 yC 17 35 16,
 yM 6 17]
def qur7:yW:=[
 yI 18 (.make 32 zZ0 (.v (.int .i64 512)) (.v (.int .i64 512))),
 yM 7 18]
def qur8:yW:=[
 yK 19 .i64 0]
def qur9:yW:=[
 yJ 20 .lss 19 .i64 256]
def qur10:yW:=[
 yM 21 19,
 yM 8 21]
def qur11:yW:=[
 yM 22 6,
 yM 23 8,
 yD 24 68 22 23,
 yM 9 24]
def qur12:yW:=[
 yM 25 0,
 yM 26 8,
 yJ 27 .mul 26 .i64 32,
 yM 28 8,
 yJ 29 .add 28 .i64 1,
 yJ 30 .mul 29 .i64 32,
 yI 31 (.slice .str (.t 25) (some (.t 27)) (some (.t 30)) none),
 yM 32 0,
 yM 33 8,
 yI 34 (.bin .add .none (.v (.int .i64 256)) (.t 33)),
 yJ 35 .mul 34 .i64 32,
 yI 36 (.slice .str (.t 32) (some (.t 35)) none none),
 yM 10 31,
 yM 11 36]
def qur13:yW:=[
 yM 37 7,
 yM 38 8,
 yI 39 (.bin .mul .none (.v (.int .i64 2)) (.t 38)),
 yM 40 9,
 yB 41 .add 39 40,
 yM 42 10,
 yC 43 38 42,
 yI 44 (.iaSl 32 (.t 37) (.t 41)),
 yS 32 44 43]
def qur14:yW:=[
 yM 46 7,
 yM 47 8,
 yI 48 (.bin .mul .none (.v (.int .i64 2)) (.t 47)),
 yJ 49 .add 48 .i64 1,
 yM 50 9,
 yB 51 .sub 49 50,
 yM 52 11,
 yC 53 76 52,
 yM 45 53,
 yE 54 0 45,
 yE 55 1 45,
 yE 56 2 45,
 yI 57 (.iaSl 32 (.t 46) (.t 51)),
 yS 32 57 54]
def quc15:yX:=yq qur13 (.reg qur14)
def quc16:yX:=yq qur12 quc15
def quc17:yX:=yq qur11 quc16
def quc18:yX:=yq qur10 quc17
def qur19:yW:=[
 yJ 58 .add 19 .i64 1,
 yM 19 58]
def quc20:yX:=.seq (.block 1 quc18) (.reg qur19)
def quc21:yX:=.seq (.cond (.t 20) .skip (.exit 0)) quc20
def quc22:yX:=yq qur9 quc21
def quc23:yX:=.loop quc22
def quc24:yX:=.block 0 quc23
def quc25:yX:=yq qur8 quc24
def qur26:yW:=[
 yM 59 7,
 yC 60 20 59,
 yS 32 4 60,
 yK 5 .i64 0]
def quc27:yX:=yq qur26 .ret
def quc28:yX:=.seq quc25 quc27
def quc29:yX:=yq qur7 quc28
def quc30:yX:=yq qur6 quc29
def quc31:yX:=.seq quc5 quc30
def quc32:yX:=yq qur0 quc31
attribute [go_sem] qur0 qur1 qur2 qur6 qur7 qur8 qur9 qur10 qur11 qur12 qur13 qur14 qur19 qur26
theorem quok:cFn TC 62=some (61,[.c 4 true 32,.t 5],quc32):=by kernel_rfl
def qvr0:yW:=[
 yK 4 .i64 0,
 yI 5 (.mv (.v .any))]
def qvr1:yW:=[
 yM 6 0,
 yC 7 57 6]
def qvr2:yW:=[
 yM 8 0,
 yM 9 0,
 yI 10 (.nilc (.t 9)),
 yF 11 1 10,
 yL 12 false 1 11,
 yM 13 1,
 yI 14 (.appB (.t 12) (.t 13)),
 yI 15 (.nilc (.t 8)),
 yF 16 1 15,
 yS 1 16 14]
def qvr3:yW:=[
 yM 17 1,
 yI 18 (.lenStr (.t 17)),
 yM 4 18,
 yI 5 (.mv (.v .any))]
def qvc4:yX:=yq qvr3 .ret
def qvc5:yX:=yq qvr2 qvc4
def qvc6:yX:=yq qvr1 qvc5
def qvc7:yX:=yq qvr0 qvc6
attribute [go_sem] qvr0 qvr1 qvr2 qvr3
theorem qvok:cFn TC 34=some (19,[.t 4,.t 5],qvc7):=by kernel_rfl
def qwr0:yW:=[
 yI 4 (.mv (.v .any))]
def qwr1:yW:=[
 yM 5 0,
 yC 6 57 5]
def qwr2:yW:=[
 yM 7 0,
 yM 8 0,
 yI 9 (.nilc (.t 8)),
 yF 10 1 9,
 yL 11 false 1 10,
 yM 12 1,
 yI 13 (.lit 1 [(.t 12)]),
 yI 14 (.appB (.t 11) (.t 13)),
 yI 15 (.nilc (.t 7)),
 yF 16 1 15,
 yS 1 16 14]
def qwr3:yW:=[
 yI 4 (.mv (.v .any))]
def qwc4:yX:=yq qwr3 .ret
def qwc5:yX:=yq qwr2 qwc4
def qwc6:yX:=yq qwr1 qwc5
def qwc7:yX:=yq qwr0 qwc6
attribute [go_sem] qwr0 qwr1 qwr2 qwr3
theorem qwok:cFn TC 33=some (17,[.t 4],qwc7):=by kernel_rfl
def qxr0:yW:=[
 yI 2 (.alloc zZ0)]
def qxr1:yW:=[
 yM 3 0,
 yI 4 (.bin .add .none (.v (.str [3])) (.t 3)),
 yC 5 36 4,
 yS 32 2 5]
def qxc2:yX:=yq qxr1 .ret
def qxc3:yX:=yq qxr0 qxc2
attribute [go_sem] qxr0 qxr1
theorem qxok:cFn TC 38=some (6,[.c 2 true 32],qxc3):=by kernel_rfl
def qyr0:yW:=[
 yI 8 (.alloc zZ0)]
def qyr1:yW:=[
 yM 9 1,
 yJ 10 .lss 9 .i64 0,
 yM 11 10,
 yV 12 11 false 1,
 yG 13 11 false (.bin .geq .none (.t 12) (.v (.int .i64 2147483648))),
 yP 14 11 13,
 yM 15 14,
 yV 16 15 false 2,
 yG 17 15 false (.bin .lss .none (.t 16) (.v (.int .i64 0))),
 yP 18 15 17,
 yM 19 18,
 yV 20 19 false 2,
 yG 21 19 false (.bin .geq .none (.t 20) (.v (.int .i64 256))),
 yP 22 19 21,
 yM 23 22,
 yV 24 23 false 3,
 yG 25 23 false (.bin .lss .none (.t 24) (.v (.int .i64 0))),
 yP 26 23 25,
 yM 27 26,
 yV 28 27 false 3,
 yG 29 27 false (.bin .gtr .none (.t 28) (.v (.int .i64 1))),
 yP 30 27 29]
def qyr2:yW:=[
 yI 31 (.build zZ0 []),
 yS 32 8 31]
def qyc3:yX:=yq qyr2 .ret
def qyc4:yX:=.cond (.t 30) qyc3 .skip
def qyc5:yX:=yq qyr1 qyc4
def qyr6:yW:=[
 yM 32 0,
 yC 33 61 32,
 yI 34 (.bin .add .none (.v (.str [2])) (.t 33)),
 yM 35 1,
 yI 36 (.conv (.int .u64) (.t 35)),
 yI 37 (.call (.v (.fn 60 [])) [(.t 36),(.v (.int .i64 4))]),
 yB 38 .add 34 37,
 yM 39 2,
 yI 40 (.bin .mul .none (.v (.int .i64 2)) (.t 39)),
 yM 41 3,
 yB 42 .add 40 41,
 yI 43 (.conv (.int .u64) (.t 42)),
 yI 44 (.call (.v (.fn 60 [])) [(.t 43),(.v (.int .i64 2))]),
 yB 45 .add 38 44,
 yC 46 36 45,
 yS 32 8 46]
def qyc7:yX:=yq qyr6 .ret
def qyc8:yX:=.seq qyc5 qyc7
def qyc9:yX:=yq qyr0 qyc8
attribute [go_sem] qyr0 qyr1 qyr2 qyr6
theorem qyok:cFn TC 39=some (47,[.c 8 true 32],qyc9):=by kernel_rfl
end
section
set_option maxRecDepth 10000
def qzr0:yW:=[
 yI 2 (.mv (.v .nilp))]
def qzr1:yW:=[
 yM 5 0,
 yI 6 (.build [(.bool false),(.str []),(.int .u8 0),(.int .u8 0),(.int .u8 0),(.int .u8 0),(.int .u8 0),(.int .u8 0),(.int .u8 0),(.int .u8 0),(.int .u8 0),(.int .u8 0),(.int .u8 0),(.int .u8 0),(.int .u8 0),(.int .u8 0),(.int .u8 0),(.int .u8 0),(.int .u8 0),(.int .u8 0),(.int .u8 0),(.int .u8 0),(.int .u8 0),(.int .u8 0),(.int .u8 0),(.int .u8 0),(.int .u8 0),(.int .u8 0),(.int .u8 0),(.int .u8 0),(.int .u8 0),(.int .u8 0),(.int .u8 0),(.int .u8 0),(.int .u8 0),(.int .u8 0),(.int .u8 0),(.int .u8 0),(.int .u8 0),(.int .u8 0),(.int .u8 0),(.int .u8 0),(.int .u8 0),(.int .u8 0),(.int .u8 0),(.int .u8 0),(.int .u8 0),(.int .u8 0),(.int .u8 0),(.int .u8 0),(.int .u8 0),(.int .u8 0),(.int .u8 0),(.int .u8 0),(.int .u8 0),(.int .u8 0),(.int .u8 0),(.int .u8 0),(.int .u8 0),(.int .u8 0),(.int .u8 0),(.int .u8 0),(.int .u8 0),(.int .u8 0),(.int .u8 0),(.int .u8 0),(.int .u8 0),(.int .u8 0),(.int .u8 0),(.int .u8 0),(.int .u8 0),(.int .u8 0),(.int .u8 0),(.int .u8 0),(.int .u8 0),(.int .u8 0),(.int .u8 0),(.int .u8 0),(.int .u8 0),(.int .u8 0),(.int .u8 0),(.int .u8 0),(.int .u8 0),(.int .u8 0),(.int .u8 0),(.int .u8 0),(.int .u8 0),(.int .u8 0),(.int .u8 0),(.int .u8 0),(.int .u8 0),(.int .u8 0),(.int .u8 0),(.int .u8 0),(.int .u8 0),(.int .u8 0),(.int .u8 0),(.int .u8 0),(.int .u8 0),(.int .u8 0),(.int .u8 0),(.int .u8 0),(.int .u8 0),(.int .u8 0),(.int .u8 0),(.int .u8 0),(.int .u8 0),(.int .u8 0),(.int .u8 0),(.int .u8 0),(.int .u8 0),(.int .u8 0),(.int .u8 0),(.int .u8 0),(.int .u8 0),(.int .u8 0),(.int .u8 0),(.int .u8 0),(.int .u8 0),(.int .u8 0),(.int .u8 0),(.int .u8 0),(.int .u8 0),(.int .u8 0),(.int .u8 0),(.int .u8 0),(.int .u8 0),(.int .u8 0),(.int .u8 0),(.int .u8 0),(.int .u8 0),(.int .u8 0),(.int .u8 0),(.int .u8 0),(.int .u8 0),(.int .u8 0),(.int .u8 0),(.int .u8 0),(.int .u8 0),(.int .u8 0),(.int .u8 0),(.int .u8 0),(.int .u8 0),(.int .u8 0),(.int .u8 0),(.int .u8 0),(.int .u8 0),(.int .u8 0),(.int .u8 0),(.int .u8 0),(.int .u8 0),(.int .u8 0),(.int .u8 0),(.int .u8 0),(.int .u8 0),(.int .u8 0),(.int .u8 0),(.int .u8 0),(.int .u8 0),(.int .u8 0),(.int .u8 0),(.int .u8 0),(.int .u8 0),(.int .u8 0),(.int .u8 0),(.int .u8 0),(.int .u8 0),(.int .u8 0),(.int .u8 0),(.int .u8 0),(.int .u8 0),(.int .u8 0),(.int .u8 0),(.int .u8 0),(.int .u8 0),(.int .u8 0),(.int .u8 0),(.int .u8 0),(.int .u8 0),(.int .u8 0),(.int .u8 0),(.int .u8 0),(.int .u8 0),(.int .u8 0),(.int .u8 0),(.int .u8 0),(.int .u8 0),(.int .u8 0),(.int .u8 0),(.int .u8 0),(.int .u8 0),(.int .u8 0),(.int .u8 0),(.int .u8 0),(.int .u8 0),(.int .u8 0),(.int .u8 0),(.int .u8 0),(.int .u8 0),(.int .u8 0),(.int .u8 0),(.int .u8 0),(.int .u8 0),(.int .u8 0),(.int .u8 0),(.int .u8 0),(.int .u8 0),(.int .u8 0),(.int .u8 0),(.int .u8 0),(.int .u8 0),(.int .u8 0),(.int .u8 0),(.int .u8 0),(.int .u8 0),(.int .u8 0),(.int .u8 0),(.int .u8 0),(.int .u8 0),(.int .u8 0),(.int .u8 0),(.int .u8 0),(.int .u8 0),(.int .u8 0),(.int .u8 0),(.int .u8 0),(.int .u8 0),(.int .u8 0),(.int .u8 0),(.int .u8 0),(.int .u8 0),(.int .u8 0),(.int .u8 0),(.int .u8 0),(.int .u8 0),(.int .u8 0),(.int .u8 0),(.int .u8 0),(.int .u8 0),(.int .u8 0),(.int .u8 0),(.int .u8 0),(.int .u8 0),(.int .u8 0),(.int .u8 0),(.int .u8 0),(.int .u8 0),(.int .u8 0),(.int .u8 0),(.int .u8 0),(.int .u8 0),(.int .u8 0),(.int .u8 0),(.int .u8 0),(.int .u8 0),(.int .u8 0),(.int .u8 0),(.int .u8 0)] [(0,1,(.v (.bool true))),(1,1,(.t 5))]),
 yI 7 (.box (.t 6)),
 yM 3 7]
def qzr2:yW:=[
 yK 8 .i64 0]
def qzr3:yW:=[
 yJ 9 .lss 8 .i64 8]
def qzr4:yW:=[
 yM 10 8,
 yM 4 10]
def qzr5:yW:=[
 yM 11 3,
 yM 12 4,
 yM 13 0,
 yM 14 4,
 yD 15 21 13 14,
 yC 16 20 15,
 yI 17 (.nilc (.t 11)),
 yF 18 2 17,
 yI 19 (.iaArr 8 32 (.t 18) (.t 12)),
 yS 32 19 16]
def qzc6:yX:=yq qzr4 (.reg qzr5)
def qzr7:yW:=[
 yJ 20 .add 8 .i64 1,
 yM 8 20]
def qzc8:yX:=.seq (.block 1 qzc6) (.reg qzr7)
def qzc9:yX:=.seq (.cond (.t 9) .skip (.exit 0)) qzc8
def qzc10:yX:=yq qzr3 qzc9
def qzc11:yX:=.loop qzc10
def qzc12:yX:=.block 0 qzc11
def qzc13:yX:=yq qzr2 qzc12
def qzr14:yW:=[
 yM 21 3,
 yM 2 21]
def qzc15:yX:=yq qzr14 .ret
def qzc16:yX:=.seq qzc13 qzc15
def qzc17:yX:=yq qzr1 qzc16
def qzc18:yX:=yq qzr0 qzc17
attribute [go_sem] qzr0 qzr1 qzr2 qzr3 qzr4 qzr5 qzr7 qzr14
theorem qzok:cFn TC 7=some (22,[.t 2],qzc18):=by kernel_rfl
def q10r0:yW:=[
 yI 2 (.alloc zZ0)]
def q10r1:yW:=[
 yM 3 0,
 yI 4 (.bin .eql .ptr (.t 3) (.v .nilp)),
 yM 5 4,
 yV 6 5 false 0,
 yG 7 5 false (.nilc (.t 6)),
 yT 8 5 false 0 7,
 yU 9 5 false false 1 8,
 yG 10 5 false (.un .not (.t 9)),
 yP 11 5 10]
def q10r2:yW:=[
 yI 12 (.build zZ0 []),
 yS 32 2 12]
def q10c3:yX:=yq q10r2 .ret
def q10c4:yX:=.cond (.t 11) q10c3 .skip
def q10c5:yX:=yq q10r1 q10c4
def q10r6:yW:=[
 yM 13 0,
 yI 14 (.nilc (.t 13)),
 yF 15 2 14,
 yI 16 (.slice (.arr 8 32) (.t 15) none none none),
 yC 17 22 16,
 yS 32 2 17]
def q10c7:yX:=yq q10r6 .ret
def q10c8:yX:=.seq q10c5 q10c7
def q10c9:yX:=yq q10r0 q10c8
attribute [go_sem] q10r0 q10r1 q10r2 q10r6
theorem q10ok:cFn TC 9=some (18,[.c 2 true 32],q10c9):=by kernel_rfl
def q11r0:yW:=[
 yI 5 (.box (.t 2)),
 yI 6 (.alloc [(.int .i64 0),(.str []),.nilsl]),
 yK 7 .i64 0]
def q11r1:yW:=[
 yM 11 0,
 yI 12 (.bin .eql .ptr (.t 11) (.v .nilp)),
 yM 13 12,
 yV 14 13 false 0,
 yG 15 13 false (.nilc (.t 14)),
 yT 16 13 false 0 15,
 yU 17 13 false false 1 16,
 yG 18 13 false (.un .not (.t 17)),
 yP 19 13 18,
 yM 10 19]
def q11r2:yW:=[
 yI 20 (.build [(.int .i64 0),(.str []),.nilsl] []),
 yS 3 6 20,
 yK 7 .i64 1]
def q11c3:yX:=yq q11r2 .ret
def q11r4:yW:=[
 yM 22 1,
 yJ 23 .lss 22 .i64 0,
 yM 24 23,
 yV 25 24 false 1,
 yG 26 24 false (.bin .geq .none (.t 25) (.v (.int .i64 8))),
 yP 27 24 26,
 yM 21 27]
def q11r5:yW:=[
 yI 28 (.build [(.int .i64 0),(.str []),.nilsl] []),
 yS 3 6 28,
 yK 7 .i64 2]
def q11c6:yX:=yq q11r5 .ret
def q11c7:yX:=.cond (.t 21) q11c6 .skip
def q11c8:yX:=yq q11r4 q11c7
def q11c9:yX:=.cond (.t 10) q11c3 q11c8
def q11c10:yX:=yq q11r1 q11c9
def q11r11:yW:=[
 yM 30 0,
 yI 31 (.nilc (.t 30)),
 yF 32 2 31,
 yI 33 (.slice (.arr 8 32) (.t 32) none none none),
 yM 34 1,
 yD 35 52 33 34,
 yM 29 35,
 yE 36 0 29,
 yE 37 1 29,
 yM 8 36,
 yM 9 37]
def q11r12:yW:=[
 yM 38 1,
 yM 39 0,
 yI 40 (.nilc (.t 39)),
 yF 41 1 40,
 ⟨some 42,none,.rd,.load false 1 (.t 41)⟩,
 yM 43 1,
 ⟨some 44,none,.rd,.load true 32 (.t 5)⟩,
 yI 45 (.call (.v (.fn 53 [])) [(.t 42),(.t 43),(.t 44)]),
 yM 46 8,
 yI 47 (.build [(.int .i64 0),(.str []),.nilsl] [(0,1,(.t 38)),(1,1,(.t 45)),(2,1,(.t 46))]),
 yS 3 6 47,
 yK 7 .i64 0]
def q11c13:yX:=yq q11r12 .ret
def q11c14:yX:=yq q11r11 q11c13
def q11c15:yX:=.seq (.block 0 q11c10) q11c14
def q11c16:yX:=yq q11r0 q11c15
attribute [go_sem] q11r0 q11r1 q11r2 q11r4 q11r5 q11r11 q11r12
theorem q11ok:cFn TC 30=some (48,[.c 6 true 3,.t 7],q11c16):=by kernel_rfl
def q12r0:yW:=[
 yI 3 (.box (.t 0)),
 yI 4 (.box (.t 1)),
 yI 5 (.box (.t 2)),
 yK 6 .i64 0]
def q12r1:yW:=[
 yF 9 0 5,
 yL 10 false 1 9,
 yJ 11 .lss 10 .i64 0,
 yM 12 11,
 yT 13 12 false 0 5,
 yU 14 12 false false 1 13,
 yG 15 12 false (.bin .geq .none (.t 14) (.v (.int .i64 8))),
 yP 16 12 15]
def q12r2:yW:=[
 yK 6 .i64 2]
def q12c3:yX:=yq q12r2 .ret
def q12c4:yX:=.cond (.t 16) q12c3 .skip
def q12c5:yX:=yq q12r1 q12c4
def q12r6:yW:=[
 yF 18 1 5,
 yL 19 false 1 18,
 yL 20 true 32 4,
 yD 21 62 19 20,
 yM 17 21,
 yE 22 0 17,
 yE 23 1 17,
 yI 7 (.alloc zZ0),
 yS 32 7 22,
 yM 8 23]
def q12r7:yW:=[
 yM 24 8,
 yJ 25 .neq 24 .i64 0,
 yM 26 25,
 yU 27 26 false true 32 7,
 yT 28 26 false 0 5,
 yU 29 26 false false 1 28,
 yT 30 26 false 2 5,
 yU 31 26 false false 1 30,
 yU 32 26 false true 32 3,
 yG 33 26 false (.call (.v (.fn 63 [])) [(.t 27),(.t 29),(.v (.int .i64 8)),(.t 31),(.t 32)]),
 yG 34 26 false (.bin .neq .none (.t 33) (.v (.int .i64 0))),
 yP 35 26 34]
def q12r8:yW:=[
 yK 6 .i64 81]
def q12c9:yX:=yq q12r8 .ret
def q12c10:yX:=.cond (.t 35) q12c9 .skip
def q12c11:yX:=yq q12r7 q12c10
def q12r12:yW:=[
 yK 6 .i64 0]
def q12c13:yX:=yq q12r12 .ret
def q12c14:yX:=.seq q12c11 q12c13
def q12c15:yX:=yq q12r6 q12c14
def q12c16:yX:=.seq q12c5 q12c15
def q12c17:yX:=yq q12r0 q12c16
attribute [go_sem] q12r0 q12r1 q12r2 q12r6 q12r7 q12r8 q12r12
theorem q12ok:cFn TC 44=some (36,[.t 6],q12c17):=by kernel_rfl
end
section
attribute [local irreducible] ACallsTo ACallsP
theorem zfv(O:Store)(r:Nat)(t:List UInt8)(hr:O[r]? =some (some [[.bld r,.bnil]]))(h0:t ≠ [])(hl:t.length<=1073741824):
  ACallsTo TC 34 [.ptr r 0 0,.str t] O (.tup [.int .i64 t.length,.any]) (O.set r (some [[.bld r,.bsl O.length t.length]])++ [some (zx t)]):=by
 have hz:t.length ≠ 0:=by simpa using h0
 have hs:=slen hr
 have hc:=zd4 O r _ hr
 refine ACallsTo.of_body_keep qvok (by simp) ?_
 repeat' (first|apply zs_|apply zb_|apply zc_|apply zt_ rfl|apply zf_ rfl|(apply zd_ rfl<;>intro ht<;>try omega)|((first|apply zr_|apply zk_|apply ze_|apply zq_|(apply callW.mk_pu;(first|exact(fun _=>hc)))|(apply callW.za;(first|exact(hc)))|(apply zG<;>intro ht));all_goals try simp (disch:=first|omega|(simp only [lens,z15,z19,lQd];first|done|omega)) only [go_sem,hr,hz,hs,z6w]))
theorem zfw(O:Store)(r rb:Nat)(s t:List UInt8)(hr:O[r]? =some (some [[.bld r,.bsl rb s.length]]))(hb:O[rb]? =some (some (zx s)))(hne:rb ≠ r)(h0:t ≠ [])(hl:s.length+t.length<=1073741824):
  ACallsTo TC 34 [.ptr r 0 0,.str t] O (.tup [.int .i64 t.length,.any]) ((O.set rb none).set r (some [[.bld r,.bsl O.length (s.length+t.length)]])++ [some (zx (s++t))]):=by
 have hz:t.length ≠ 0:=by simpa using h0
 have hs:=slen hr
 have hc:=zd4 O r _ hr
 refine ACallsTo.of_body_keep qvok (by simp) ?_
 repeat' (first|apply zs_|apply zb_|apply zc_|apply zt_ rfl|apply zf_ rfl|(apply zd_ rfl<;>intro ht<;>try omega)|((first|apply zr_|apply zk_|apply ze_|apply zq_|(apply callW.mk_pu;(first|exact(fun _=>hc)))|(apply callW.za;(first|exact(hc)))|(apply zG<;>intro ht));all_goals try simp (disch:=first|omega|(simp only [lens,z15,z19,lQd];first|done|omega)) only [go_sem,hr,hb,hz,hs,hne,z6w]))
theorem zmb(O:Store)(r:Nat)(b:UInt8)(hr:O[r]? =some (some [[.bld r,.bnil]])):
  ACallsTo TC 33 [.ptr r 0 0,.int .u8 b.toNat] O .any (O.set r (some [[.bld r,.bsl O.length 1]])++ [some (zx [b])]):=by
 have hs:=slen hr
 have hc:=zd4 O r _ hr
 have hb:zx [b]=[[.int .u8 b.toNat]]:=rfl
 rw [hb]
 refine ACallsTo.of_body_keep qwok (by simp) ?_
 repeat' (first|apply zs_|apply zb_|apply zc_|apply zt_ rfl|apply zf_ rfl|(apply zd_ rfl<;>intro ht<;>try omega)|((first|apply zr_|apply zk_|apply ze_|apply zq_|(apply callW.mk_pu;(first|exact(fun _=>hc)))|(apply callW.za;(first|exact(hc)))|(apply zG<;>intro ht));all_goals try simp (disch:=first|omega|(simp only [lens,z15,z19,lQd];first|done|omega)) only [go_sem,hr,hs,z6w]))
def BldN(τ O':Store)(r:Nat)(s:List UInt8):Prop:=
 τ.length<=r/\ (∃news,O'=τ++news)/\ ((s=[]/\ O'[r]? =some (some [[.bld r,.bnil]])) ∨
  (s ≠ []/\ ∃rb,τ.length<=rb/\ rb ≠ r/\ O'[r]? =some (some [[.bld r,.bsl rb s.length]])/\ O'[rb]? =some (some (zx s))))
theorem BldN.new{τ news:Store}{r:Nat}(hr:τ.length<=r)(h:(τ++news)[r]? =some (some [[.bld r,.bnil]])):BldN τ (τ++news) r []:=⟨hr,⟨news,rfl⟩,.inl ⟨rfl,h⟩⟩
theorem BldN.ext{τ O':Store}{r:Nat}{s:List UInt8}(h:BldN τ O' r s):∃news,O'=τ++news:=h.2.1
theorem BldN.more{τ O':Store}{r:Nat}{s:List UInt8}(h:BldN τ O' r s)(y:Store):BldN τ (O'++y) r s:=by
 obtain⟨h1,⟨news,rfl⟩,h2⟩:=h
 refine⟨h1,⟨news++y,by rw [List.append_assoc]⟩,?_⟩
 rcases h2 with⟨e,h2⟩| ⟨e,rb,h3,h4,h5,h6⟩
 ·exact .inl ⟨e,by rw [List.getElem?_append_left (slen h2)];exact h2⟩
 ·exact .inr ⟨e,rb,h3,h4,by rw [List.getElem?_append_left (slen h5)];exact h5,by rw [List.getElem?_append_left (slen h6)];exact h6⟩
theorem z9i{τ news:Store}{r:Nat}(x:Option AObj)(h:τ.length<=r):(τ++news).set r x=τ++news.set (r-τ.length) x:=by rw [List.set_append_right _ _ h]
theorem BldN.write{τ O':Store}{r:Nat}{s t:List UInt8}(h:BldN τ O' r s)(h0:t ≠ [])(hl:s.length+t.length<=1073741824):
  ∃O2,ACallsTo TC 34 [.ptr r 0 0,.str t] O' (.tup [.int .i64 t.length,.any]) O2/\ BldN τ O2 r (s++t):=by
 obtain⟨h1,⟨news,rfl⟩,⟨rfl,h2⟩| ⟨e,rb,h3,h4,h5,h6⟩⟩:=h
 ·refine⟨_,zfv _ r t h2 h0 (by simpa using hl),h1,⟨_,by rw [z9i _ h1,List.append_assoc]⟩,.inr ⟨by simpa using h0,(τ++news).length,by simp,?_,?_,?_⟩⟩
  ·have:=slen h2;omega
  ·rw [List.getElem?_append_left (by rw [List.length_set];exact slen h2),List.getElem?_set_self (slen h2)];rfl
  ·rw [List.getElem?_append_right (by rw [List.length_set];exact Nat.le_refl _),List.length_set,Nat.sub_self];rfl
 ·refine⟨_,zfw _ r rb s t h5 h6 h4 h0 hl,h1,⟨_,by rw [z9i _ h3,z9i _ h1,List.append_assoc]⟩,.inr ⟨by simp [e],(τ++news).length,by simp,?_,?_,?_⟩⟩
  ·have:=slen h5;omega
  ·rw [List.getElem?_append_left (by rw [List.length_set,List.length_set];exact slen h5),List.getElem?_set_self (by rw [List.length_set];exact slen h5)];simp
  ·rw [List.getElem?_append_right (by rw [List.length_set,List.length_set];exact Nat.le_refl _),List.length_set,List.length_set,Nat.sub_self];rfl
theorem BldN.byte{τ O':Store}{r:Nat}(b:UInt8)(h:BldN τ O' r []):∃O2,ACallsTo TC 33 [.ptr r 0 0,.int .u8 b.toNat] O' .any O2/\ BldN τ O2 r [b]:=by
 obtain⟨h1,⟨news,rfl⟩,⟨_,h2⟩| ⟨e,_⟩⟩:=h
 ·refine⟨_,zmb _ r b h2,h1,⟨_,by rw [z9i _ h1,List.append_assoc]⟩,.inr ⟨by simp,(τ++news).length,by simp,?_,?_,?_⟩⟩
  ·have:=slen h2;omega
  ·rw [List.getElem?_append_left (by rw [List.length_set];exact slen h2),List.getElem?_set_self (slen h2)];rfl
  ·rw [List.getElem?_append_right (by rw [List.length_set];exact Nat.le_refl _),List.length_set,Nat.sub_self];rfl
 ·exact absurd rfl e
theorem BldN.string{τ O':Store}{r:Nat}{s:List UInt8}(h:BldN τ O' r s)(h0:s ≠ [])(hl:s.length<=1073741824):
  ∃news,ACallsTo TC 37 [.ptr r 0 0] O' (.str s) (τ++news):=by
 obtain⟨h1,⟨news,rfl⟩,⟨rfl,h2⟩| ⟨e,rb,h3,h4,h5,h6⟩⟩:=h
 ·exact absurd rfl h0
 ·have:=zcq _ r rb s h0 hl h5 h6
  rw [z9i _ h3]at this
  exact⟨_,this⟩
end
section
attribute [local irreducible] ACallsTo ACallsP
theorem z6r(O:Store)(h:Hash):ACallsTo TC 35 [.agg (hc h)] O (.str h.1) O:=z8q O h.1 h.2
end
section
attribute [local irreducible] ACallsTo ACallsP
def z48(s:List UInt8):Hash:=shaH (3::s)
def z1j(hs:List Hash):Hash:=if hs.length=512 then shaH (4::catS hs)else zeroH
theorem zdi(h:Hash):h.1 ≠ []:=fun e=>by have:=h.2;rw [e]at this;simp at this
theorem z5q{k:Nat}(h:Hash):RL k (.agg (hc h)):=by simp only [RL];exact z7w h
theorem zdk:hc zeroH=[.int .u8 0,.int .u8 0,.int .u8 0,.int .u8 0,.int .u8 0,.int .u8 0,.int .u8 0,.int .u8 0,.int .u8 0,.int .u8 0,.int .u8 0,.int .u8 0,.int .u8 0,.int .u8 0,.int .u8 0,.int .u8 0,.int .u8 0,.int .u8 0,.int .u8 0,.int .u8 0,.int .u8 0,.int .u8 0,.int .u8 0,.int .u8 0,.int .u8 0,.int .u8 0,.int .u8 0,.int .u8 0,.int .u8 0,.int .u8 0,.int .u8 0,.int .u8 0]:=rfl
theorem zbx(O:Store)(s:List UInt8)(h:s.length<100000000000):ACallsTo TC 36 [.str s] O (.agg (hc (shaH s))) O:=z81 O s h
theorem ztd(O:Store)(s:List UInt8)(h:s.length<900000000):ACallsTo TC 54 [.str s] O (.agg (hc (shaH s))) O:=zte O s h
theorem zkr(O:Store)(s:List UInt8)(h:s.length<1000000):ACallsTo TC 38 [.str s] O (.agg (hc (z48 s))) O:=by
 have hS:=fun O=>zbx O (3::s) (by simp;omega)
 refine ACallsTo.of_body qxok (by simp) fun hw _=> ?_
 unfold z48
 repeat' (first|apply zs_|apply zb_|apply zc_|apply zt_ rfl|apply zf_ rfl|(apply zd_ rfl<;>intro ht<;>try omega)|((first|apply zr_|apply zk_|apply ze_|apply zq_|(apply callW.mk_pu;(first|exact(fun _=>hS _)))|(apply callW.za;(first|exact(hS _)))|(apply zG<;>intro ht));all_goals try simp (disch:=first|omega|(simp only [lens,z8,zh,lQr,z15,z19,lQd];first|done|omega)) only [go_sem]))
 exact DownV.pure hw (z5q _)
theorem zfi(O:Store)(hs:List Hash)(x:AV)(hx:SlV 32 (hr hs) x)(hl:hs.length<1000000):ACallsTo TC 20 [x] O (.agg (hc (z1j hs))) O:=by
 refine ACallsTo.of_body qrok (by simp) fun hw _=> ?_
 have r1:=hx.len
 rw [zh]at r1
 unfold z1w at r1
 unfold z1j
 by_cases h5:hs.length=512
 ·rw [if_pos h5]
  have h5':(hs.length:Int)=512:=by omega
  have hτ:(O++ [some [hc zeroH]]).length=O.length+1:=by simp
  have b0:BldN (O++ [some [hc zeroH]]) (O++ [some [hc zeroH]]++ [some [[.bld (O.length+1),.bnil]]]) (O.length+1) []:=BldN.new (by omega) (by rw [List.getElem?_append_right (by omega)];simp)
  have out:∀{O':Store} {s:List UInt8},BldN (O++ [some [hc zeroH]]) O' (O.length+1) s->O'[O.length]? =some (some [hc zeroH])/\ Ext O O':=fun h=>by
   obtain⟨news,rfl⟩:=h.ext
   exact⟨by simp,⟨some [hc zeroH]::news,by simp⟩⟩
  obtain⟨O1,w1,b1⟩:∃O1,ACallsTo TC 33 [.ptr (O.length+1) 0 0,.int .u8 4] (O++ [some [hc zeroH]]++ [some [[AV.bld (O.length+1),AV.bnil]]]) .any O1/\ BldN (O++ [some [hc zeroH]]) O1 (O.length+1) [4]:=b0.byte 4
  rw [List.append_assoc,zdk]at w1
  repeat' (first|apply zs_|apply zb_|apply zc_|apply zt_ rfl|apply zf_ rfl|(apply zd_ rfl<;>intro ht<;>try omega)|((first|apply zr_|apply zk_|apply ze_|apply zq_|(apply callW.mk_pu;(first|exact(fun _=>w1)))|(apply callW.za;(first|exact(w1)))|(apply zG<;>intro ht));all_goals try simp (disch:=first|omega|(simp only [lens,z8,zh,lQr,z15,z19,lQd];first|done|omega)) only [go_sem,r1,h5']))
  refine zW.loop (fun m J O'=>∃i:Nat,m+i=hs.length/\ BldN (O++ [some [hc zeroH]]) O' (O.length+1) (4::catS (hs.take i))/\ J 2=.ptr O.length 0 0/\ J 3=.ptr (O.length+1) 0 0/\ J 11=x/\ J 12=.int .i64 512/\ J 13=.int .i64 i) hs.length ?_ ?_
  ·exact⟨0,by omega,by simpa [catS]using b1,by simp (disch:=first|omega|(simp only [lens,z8,zh,lQr,z15,z19,lQd];first|done|omega)) only [go_sem],by simp (disch:=first|omega|(simp only [lens,z8,zh,lQr,z15,z19,lQd];first|done|omega)) only [go_sem],by simp (disch:=first|omega|(simp only [lens,z8,zh,lQr,z15,z19,lQd];first|done|omega)) only [go_sem],by simp (disch:=first|omega|(simp only [lens,z8,zh,lQr,z15,z19,lQd];first|done|omega)) only [go_sem],by simp (disch:=first|omega|(simp only [lens,z8,zh,lQr,z15,z19,lQd];first|done|omega)) only [go_sem];rfl⟩
  ·clear w1 b1 b0
   rintro m J O' ⟨i,hm,hB,q2,q3,q11,q12,q13⟩
   have hcl:=zcw (hs.take i)
   rw [List.length_take]at hcl
   by_cases hi:i<hs.length
   ·obtain⟨e1,rfl⟩:=hx.vsl (by rw [zh];omega)
    have hH:=fun O=>z6r O (hd hs i)
    have hst:=znp hi
    have h32:=(hd hs i).2
    obtain⟨O2,w2,b2⟩:=(hB.more [some [hc (hd hs i)]]).write (t:=(hd hs i).1) (zdi _) (by simp;omega)
    have hi5:(i:Int)<512:=by omega
    repeat' (first|apply zs_|apply zb_|apply zc_|apply zt_ rfl|apply zf_ rfl|(apply zd_ rfl<;>intro ht<;>try omega)|((first|apply zr_|apply zk_|apply ze_|apply zq_|(apply callW.mk_pu;(first|exact(fun _=>hH _)|exact(fun _=>w2)))|(apply callW.za;(first|exact(hH _)|exact(w2)))|(apply zG<;>intro ht));all_goals try simp (disch:=first|omega|(simp only [lens,z8,zh,lQr,z15,z19,lQd];first|done|omega)) only [go_sem,q2,q3,q11,q12,q13,hi5]))
    refine⟨m-1,by omega,i+1,by omega,?_,by simp⟩
    rw [hst,<-List.cons_append];exact b2
   ·have e:hs.take i=hs:=List.take_of_length_le (by omega)
    rw [e]at hB
    have hcl2:=zcw hs
    obtain⟨c0,he⟩:=out hB
    obtain⟨news,w3⟩:=hB.string (by simp) (by simp;omega)
    have hi5:¬(i:Int)<512:=by omega
    have hS:=fun O=>zbx O (4::catS hs) (by simp;omega)
    have ha:O++ [some [hc zeroH]]++news=O++(some [hc zeroH]::news):=by simp
    rw [ha]at w3
    repeat' (first|apply zs_|apply zb_|apply zc_|apply zt_ rfl|apply zf_ rfl|(apply zd_ rfl<;>intro ht<;>try omega)|((first|apply zr_|apply zk_|apply ze_|apply zq_|(apply callW.mk_pu;(first|exact(fun _=>w3)|exact(fun _=>hS _)))|(apply callW.za;(first|exact(w3)|exact(hS _)))|(apply zG<;>intro ht));all_goals try simp (disch:=first|omega|(simp only [lens,z8,zh,lQr,z15,z19,lQd];first|done|omega)) only [go_sem,q2,q3,q11,q12,q13,hi5]))
    exact DownV.pure hw (z5q _)
 ·have h5':¬(hs.length:Int)=512:=by omega
  rw [if_neg h5]
  repeat' (first|apply zs_|apply zb_|apply zc_|apply zt_ rfl|apply zf_ rfl|(apply zd_ rfl<;>intro ht<;>try omega)|((first|apply zr_|apply zk_|apply ze_|apply zq_|(apply zG<;>intro ht));all_goals try simp (disch:=first|omega|(simp only [lens,z8,zh,lQr,z15,z19,lQd];first|done|omega)) only [go_sem,r1,h5']))
  exact DownV.pure hw (z5q zeroH)
end
section
attribute [local irreducible] ACallsTo ACallsP
theorem Leaf_h(O:Store)(hs:List Hash)(x:AV)(hx:RdSl O 32 (hr hs) x)(hl:hs.length<1000000):ACallsTo TC 20 [x] O (.agg (hc (z1j hs))) O:=by
 obtain⟨x0,h0,hd⟩:=hx.lend (z43 hs)
 have:=ACallsTo.lend glok (zfi [] hs x0 h0 hl) (drs1 hd)
 rwa [show sh O.length (.agg (hc (z1j hs)))=.agg (hc (z1j hs))from by simp only [sh,zev],zbv,List.append_nil]at this
theorem OwnR.appB{k:Nat}{O':Store}{v:AV}{es ys:List (List AV)}(h:OwnR 1 k O' v es):z3v O' v ys=aApp O' 1 v ys:=by
 rcases h with⟨rfl,rfl⟩| ⟨r,_,_,rfl,h⟩<;>rfl
theorem zhn(h:Hash):chunk 1 32 (hc h)=zx h.1:=by have:=zd3 h.1;rwa [h.2]at this
end
section
def recS(sig d:List UInt8)(i:Nat)(L:List Hash):List Hash:=
 (L.set (2*i+bitS d i) (z48 ((sig.take (32*i+32)).drop (32*i)))).set (2*i+1-bitS d i) (toH ((sig.drop (8192+32*i)).take 32))
def recF(sig d:List UInt8):Nat->List Hash
 | 0=>List.replicate 512 zeroH
 |i+1=>recS sig d i (recF sig d i)
theorem z3p(sig d:List UInt8):∀i,(recF sig d i).length=512
 | 0=>by rw [recF,List.length_replicate]
 |i+1=>by rw [recF,recS,List.length_set,List.length_set,z3p sig d i]
theorem z4d(s:List UInt8)(i:Int):bitS s i<=1:=by
 unfold bitS
 split<;>omega
def recV(sig d:List UInt8):AV:=if sig.length=16384 then .tup [.agg (hc (z1j (recF sig d 256))),.int .i64 0]else .tup [.agg (hc zeroH),.int .i64 10]
theorem zhv:List.replicate 512 (hc zeroH)=hr (List.replicate 512 zeroH):=by rw [hr,List.map_replicate]
theorem rl_hi{k:Nat}{h:Hash}{e:Int}:RL k (.tup [.agg (hc h),.int .i64 e]):=by simp only [RL,RLs];exact⟨z7w h,trivial,trivial⟩
attribute [local irreducible] ACallsTo ACallsP
theorem zm4(O:Store)(sig:List UInt8)(dg:Hash)(hs:sig.length<1000000):ACallsTo TC 62 [.str sig,.agg (hc dg)] O (recV sig dg.1) O:=by
 refine ACallsTo.of_body quok (by simp) fun hw _=> ?_
 unfold recV
 by_cases hl:sig.length=16384
 ·have hl':(sig.length:Int)=16384:=by omega
  rw [if_pos hl]
  have hC:=fun O=>z6r O dg
  have hz:=zhv
  rw [zdk]at hz
  repeat' (first|apply zs_|apply zb_|apply zc_|apply zt_ rfl|apply zf_ rfl|(apply zd_ rfl<;>intro ht<;>try omega)|((first|apply zr_|apply zk_|apply ze_|apply zq_|(apply callW.mk_pu;(first|exact(fun _=>hC _)))|(apply callW.za;(first|exact(hC _)))|(apply zG<;>intro ht));all_goals try simp (disch:=first|omega|(simp only [lens,z8,zh,lQr,z15,z19,lQd,z3p];first|done|omega)) only [go_sem,hl',hz]))
  refine zW.loop (fun m J O'=>∃i:Nat,m+i=256/\ Ext O O'/\ O'[O.length+1]? =some (some [hc zeroH])/\ O'[O.length+2]? =some (some (hr (recF sig dg.1 i)))/\ J 0=.str sig/\ J 4=.ptr (O.length+1) 0 0/\ J 6=.str dg.1/\ J 7=.sl (O.length+2) 0 512 (some 512) 32/\ J 19=.int .i64 i) 256 ?_ ?_
  ·exact⟨0,by omega,(Ext.refl O).app,by rw [z1p (by omega),Nat.add_sub_cancel_left];rfl,by rw [z1p (by omega),Nat.add_sub_cancel_left];rfl,by simp (disch:=first|omega|(simp only [lens,z8,zh,lQr,z15,z19,lQd,z3p];first|done|omega)) only [go_sem],by simp (disch:=first|omega|(simp only [lens,z8,zh,lQr,z15,z19,lQd,z3p];first|done|omega)) only [go_sem],by simp (disch:=first|omega|(simp only [lens,z8,zh,lQr,z15,z19,lQd,z3p];first|done|omega)) only [go_sem],by simp (disch:=first|omega|(simp only [lens,z8,zh,lQr,z15,z19,lQd,z3p];first|done|omega)) only [go_sem],by simp (disch:=first|omega|(simp only [lens,z8,zh,lQr,z15,z19,lQd,z3p];first|done|omega)) only [go_sem];rfl⟩
  ·rintro m J O' ⟨i,hm,he,c1,c2,q0,q4,q6,q7,q19⟩
   have d1:=slen c1
   have d2:=slen c2
   have hrl:=z3p sig dg.1 i
   by_cases hi:i<256
   ·have hi':(i:Int)<256:=by omega
    have hdl:=dg.2
    have hB:=fun O=>zge O dg.1 i (by omega) (by omega)
    have hb1:=z4d dg.1 i
    have hnx:recF sig dg.1 (i+1)=recS sig dg.1 i (recF sig dg.1 i):=rfl
    unfold recS at hnx
    have hSh:=fun O=>zkr O ((sig.take (32*i+32)).drop (32*i)) (by rw [List.length_drop,List.length_take];omega)
    have hU:=fun O=>znz O (sig.drop (8192+32*i)) (by rw [List.length_drop];omega)
    rw [zlf (by rw [List.length_drop];omega),zlg]at hU
    generalize recF sig dg.1 i=L at*
    generalize bitS dg.1 i=b at*
    generalize z48 ((sig.take (32*i+32)).drop (32*i))=A at*
    generalize toH ((sig.drop (8192+32*i)).take 32)=B at*
    have n1:((i:Int)*32).toNat=32*i:=by omega
    have n2:(((i:Int)+1)*32).toNat=32*i+32:=by omega
    have n3:((256+(i:Int))*32).toNat=8192+32*i:=by omega
    have n4:(2*(i:Int)+b).toNat=2*i+b:=by omega
    have n5:(2*(i:Int)+1-b).toNat=2*i+1-b:=by omega
    have m1:(L.set (2*i+b) A).length=512:=by rw [List.length_set];exact hrl
    have g1:=zap (l:=L) (i:=2*i+b) (by omega)
    have g2:=zap (l:=L.set (2*i+b) A) (i:=2*i+1-b) (by omega)
    repeat' (first|apply zs_|apply zb_|apply zc_|apply zt_ rfl|apply zf_ rfl|(apply zd_ rfl<;>intro ht<;>try omega)|((first|apply zr_|apply zk_|apply ze_|apply zq_|(apply callW.mk_pu;(first|exact(fun _=>hB _)|exact(fun _=>hSh _)|exact(fun _=>hU _)))|(apply callW.za;(first|exact(hB _)|exact(hSh _)|exact(hU _)))|(apply zG<;>intro ht));all_goals try simp (disch:=first|omega|(simp only [lens,z8,zh,lQr,z15,z19,lQd,z3p];first|done|omega)) only [go_sem,q0,q4,q6,q7,q19,c1,c2,hi',hl',n1,n2,n3,n4,n5,hrl,m1,g1,g2]))
    exact⟨m-1,by omega,i+1,by omega,he.set (by omega),by rw [hnx],by simp⟩
   ·have hi':¬(i:Int)<256:=by omega
    obtain rfl:i=256:=by omega
    have hL:=fun y=>Leaf_h (O'++y) (recF sig dg.1 256) (.sl (O.length+2) 0 512 (some 512) 32) (.inr ⟨O.length+2,0,some 512,hr (recF sig dg.1 256),by rw [zh,hrl],by rw [gapp d2];exact c2,by rw [zh,hrl];decide,by rw [List.drop_zero,List.take_of_length_le (Nat.le_refl _)]⟩) (by omega)
    have hL0:=hL []
    rw [List.append_nil]at hL0
    repeat' (first|apply zs_|apply zb_|apply zc_|apply zt_ rfl|apply zf_ rfl|(apply zd_ rfl<;>intro ht<;>try omega)|((first|apply zr_|apply zk_|apply ze_|apply zq_|(apply callW.mk_pu;(first|exact(fun _=>hL0)))|(apply callW.za;(first|exact(hL0)))|(apply zG<;>intro ht));all_goals try simp (disch:=first|omega|(simp only [lens,z8,zh,lQr,z15,z19,lQd,z3p];first|done|omega)) only [go_sem,q0,q4,q6,q7,q19,c1,c2,hi']))
    exact Ext.pure hw (he.set (by omega)) rl_hi
 ·have hl':¬(sig.length:Int)=16384:=by omega
  rw [if_neg hl]
  repeat' (first|apply zs_|apply zb_|apply zc_|apply zt_ rfl|apply zf_ rfl|(apply zd_ rfl<;>intro ht<;>try omega)|((first|apply zr_|apply zk_|apply ze_|apply zq_|(apply zG<;>intro ht));all_goals try simp (disch:=first|omega|(simp only [lens,z8,zh,lQr,z15,z19,lQd,z3p];first|done|omega)) only [go_sem,hl']))
  exact DownV.pure hw (rl_hi (h:=zeroH))
end
end Am
end Go.Proofs.YtcdcmgjnbjoajaaDoor
