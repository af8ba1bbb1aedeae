import Derived.Calls
import Derived.Orders
import Derived.Laws.Entries
import Derived.Laws.World
import Derived.Laws.Sem
import Derived.Laws.CopyRow
import Derived.Laws.Cells
import Derived.ChangeKeysEq
import Derived.IntWalk
import Derived.Lib.AppendZerosOnto
set_option linter.unusedSimpArgs false
set_option linter.unusedVariables false
open Nat (reduceEqDiff reduceAdd reduceMul reduceSub reduceLeDiff)
open Int (reduceToNat reducePow)
open Nat renaming reduceEqDiff -> nQ1, reduceBEq -> nQ2, reduceAdd -> nQ3, reduceMul -> nQ4, reduceSub -> nQ5, reduceLeDiff -> nQ6
open Int renaming reduceToNat -> nQ7, reducePow -> nQ8
open List renaming length_reverse -> lQr, length_map -> lQm, length_take -> lQt, length_drop -> lQd, length_set -> lQs
set_option maxHeartbeats 16000000
namespace Go.Proofs.YtcdcmgjnbjoajaaGreatDoor
namespace Am
variable {vs:List Value}{w w':World}
section
def bldT:Nat:=138
def u8T:Nat:=5
inductive AV where
 |any
 |undef
 |bool (b:Bool)
 |int (k:IntKind) (n:Int)
 |str (s:List UInt8)
 |nilp
 |ptr (r i off:Nat)
 |vp (cs:List AV)
 |nilsl
 |vsl (esz:Nat) (es:List (List AV)) (ex:Bool)
 |sl (r off len:Nat) (lim:Option Nat) (esz:Nat)
 |asl (r i off len cap esz:Nat)
 |fn (f:FuncId) (caps:List AV)
 |nilfn
 |agg (cs:List AV)
 |tup (vs:List AV)
 |bld (r:Nat)
 |bnil
 |bsl (r len:Nat)
 deriving Inhabited
structure Place where
 b:Nat
 base:Nat
 esz:Nat
 n:Nat
 tot:Nat
 ty:Nat
abbrev Places:=List (Bool × Place)
def Imm(Z:Places)(w:World)(b:Nat):Prop:=b<w.heap.size/\ ∀(r:Nat) (pl:Place),Z[r]? =some (true,pl)->pl.b ≠ b
def Seg(w:World)(b o:Nat)(vals:List Value):Prop:=
 ∃c ty fz pre post,w.heap[b]? =some (Obj.cells c ty fz)/\ c.toList=pre++vals++post/\ pre.length=o
structure SlOK(pl:Place)(off len cap:Nat)(lim:Option Nat)(b o:Nat):Prop where
 le:len<=cap
 lim_:∀c,lim=some c->cap=c
 room:lim=none->pl.n<=off+cap
 inside:pl.base+(off+cap)*pl.esz<=pl.tot
 at_:cap ≠ 0->b=pl.b/\ o=pl.base+off*pl.esz
 blk:b=pl.b
 ole:o<=pl.tot
mutual
def VR(Z:Places)(w:World):AV->Value->Prop
  | .any,_=>True
  | .undef,v=>v=Go.undef
  | .bool b,v=>v=.bool b
  | .int k n,v=>v=.int k n
  | .str s,v=>v=.string ⟨s.toArray⟩
  | .nilp,v=>v=.pointer none
  | .ptr r i off,v=>∃(fl:Bool) (pl:Place),Z[r]? =some (fl,pl)/\ v=.pointer (some ⟨pl.b,pl.base+i*pl.esz+off,none⟩)
  | .vp cs,v=>∃b o vals,v=.pointer (some ⟨b,o,none⟩)/\ Imm Z w b/\ Seg w b o vals/\ VRs Z w cs vals
  | .nilsl,v=>v=.slice none 0 0
  | .vsl esz es ex, v => (es = [] /\ ∃ a, v = .slice (some a) 0 0) \/ ∃ b o cap vals, v = .slice (some ⟨b, o, none⟩) es.length cap /\ es.length <= cap /\ (ex = true -> cap = es.length) /\ Imm Z w b /\ Seg w b o vals ∧
      (∀e ∈ es,e.length=esz)/\ VRss Z w es vals
  | .sl r off len lim esz,v=>∃(fl:Bool) (pl:Place) (b o cap:Nat),Z[r]? =some (fl,pl)/\ pl.esz=esz/\ v=.slice (some ⟨b,o,none⟩) len cap/\ SlOK pl off len cap lim b o
  | .asl r i off len cap _, v => ∃ (fl : Bool) (pl : Place) (b o : Nat), Z[r]? = some (fl, pl) /\ v = .slice (some ⟨b, o, none⟩) len cap /\ len <= cap ∧
      (cap ≠ 0->b=pl.b/\ o=pl.base+i*pl.esz+off)
  | .fn f caps,v=>∃vs,v=.func (.func f) #[] (List.toArray vs)/\ VRt Z w caps vs
  | .nilfn,v=>v=.nilFunc
  | .agg cs,v=>∃vs,v=.agg (List.toArray vs)/\ VRs Z w cs vs
  | .tup cs,v=>∃vs,v=.tuple (List.toArray vs)/\ VRt Z w cs vs
  | .bld r,v=>∃(fl:Bool) (pl:Place),Z[r]? =some (fl,pl)/\ (pl.ty=bldT/\ pl.base=0/\ pl.esz=2/\ pl.n=1/\ pl.tot=2)/\ (v=.pointer none \/v=.pointer (some ⟨pl.b,0,none⟩))
  | .bnil,v=>v=.slice none 0 0
  | .bsl r len,v=>∃(fl:Bool) (pl:Place) (cap:Nat),Z[r]? =some (fl,pl)/\ (pl.ty=u8T/\ pl.base=0/\ pl.esz=1)/\ v=.slice (some ⟨pl.b,0,none⟩) len cap/\ SlOK pl 0 len cap none pl.b 0
def VRs(Z:Places)(w:World):List AV->List Value->Prop
 | [],vs=>vs=[]
 |a::as_,vs=>∃v vs',vs=v::vs'/\ (VR Z w a v/\ v.oneCell'=true)/\ VRs Z w as_ vs'
def VRt(Z:Places)(w:World):List AV->List Value->Prop
 | [],vs=>vs=[]
 |a::as_,vs=>∃v vs',vs=v::vs'/\ VR Z w a v/\ VRt Z w as_ vs'
def VRss(Z:Places)(w:World):List (List AV)->List Value->Prop
 | [],vs=>vs=[]
 |e::es,vs=>∃v1 v2,vs=v1++v2/\ VRs Z w e v1/\ VRss Z w es v2
end
structure Step(Z:Places)(w:World)(Z':Places)(w':World):Prop where
 keep:∀(r:Nat) (fl:Bool) (pl:Place),Z[r]? =some (fl,pl)->∃fl',Z'[r]? =some (fl',pl)
 size:w.heap.size<=w'.heap.size
 imm:∀(b:Nat),b<w.heap.size->(∀(r:Nat) (pl:Place),Z[r]? =some (true,pl)->pl.b ≠ b)->w'.heap[b]? =w.heap[b]?
 new:∀(r:Nat) (pl:Place),Z'[r]? =some (true,pl)->(∃(r':Nat) (pl':Place),Z[r']? =some (true,pl')/\ pl'.b=pl.b) \/w.heap.size<=pl.b
 os:w'.os=w.os
 tape:w'.tape=w.tape
 output:w'.output=w.output
theorem Step.refl(Z:Places)(w:World):Step Z w Z w:=
 ⟨fun _ fl _ h=>⟨fl,h⟩,Nat.le_refl _,fun _ _ _=>rfl,fun r pl h=> .inl ⟨r,pl,h,rfl⟩,rfl,rfl,rfl⟩
theorem Step.imm_imm{Z Z':Places}{w w':World}(h:Step Z w Z' w'){b:Nat}(hb:Imm Z w b):Imm Z' w' b:=by
 refine⟨Nat.lt_of_lt_of_le hb.1 h.size,fun r pl hr e=> ?_⟩
 rcases h.new r pl hr with⟨r',pl',h1,h2⟩|h1
 ·exact hb.2 r' pl' h1 (h2.trans e)
 ·have:=hb.1;omega
theorem Step.trans{Z Z' Z'':Places}{w w' w'':World}(h:Step Z w Z' w')(k:Step Z' w' Z'' w''):Step Z w Z'' w'' where
 keep r fl pl hr:=by
  obtain⟨fl',h1⟩:=h.keep r fl pl hr
  exact k.keep r fl' pl h1
 size:=Nat.le_trans h.size k.size
 imm b hb hn:=by
  have h2:Imm Z' w' b:=h.imm_imm ⟨hb,hn⟩
  rw [k.imm b h2.1 h2.2,h.imm b hb hn]
 new r pl hr:=by
  rcases k.new r pl hr with⟨r',pl',h1,h2⟩|h1
  ·rcases h.new r' pl' h1 with⟨r'',pl'',h3,h4⟩|h3
   ·exact .inl ⟨r'',pl'',h3,h4.trans h2⟩
   ·exact .inr (by omega)
  ·exact .inr (Nat.le_trans h.size h1)
 os:=k.os.trans h.os
 tape:=k.tape.trans h.tape
 output:=k.output.trans h.output
theorem Seg.mono{Z Z':Places}{w w':World}(h:Step Z w Z' w'){b o:Nat}{vals:List Value}(hb:Imm Z w b)(hs:Seg w b o vals):Seg w' b o vals:=by
 obtain⟨c,ty,fz,pre,post,h1,h2⟩:=hs
 exact⟨c,ty,fz,pre,post,(h.imm b hb.1 hb.2).trans h1,h2⟩
mutual
theorem VR.mono{Z Z':Places}{w w':World}(h:Step Z w Z' w'):∀(a:AV) (v:Value),VR Z w a v->VR Z' w' a v
 | .any,_,_=>by simp only [VR]
 | .undef,_,hv=>by simpa only [VR]using hv
 | .bool _,_,hv=>by simpa only [VR]using hv
 | .int _ _,_,hv=>by simpa only [VR]using hv
 | .str _,_,hv=>by simpa only [VR]using hv
 | .nilp,_,hv=>by simpa only [VR]using hv
 | .ptr r i off,v,hv=>by
  simp only [VR]at hv ⊢
  obtain⟨fl,pl,h1,h2⟩:=hv
  obtain⟨fl',h3⟩:=h.keep r fl pl h1
  exact⟨fl',pl,h3,h2⟩
 | .vp cs,v,hv=>by
  simp only [VR]at hv ⊢
  obtain⟨b,o,vals,h1,h2,h3,h4⟩:=hv
  exact⟨b,o,vals,h1,h.imm_imm h2,h3.mono h h2,VRs.mono h cs vals h4⟩
 | .nilsl,_,hv=>by simpa only [VR]using hv
 | .vsl esz es ex,v,hv=>by
  simp only [VR]at hv ⊢
  rcases hv with hv| ⟨b,o,cap,vals,h1,h2,h3,h4,h5,h6,h7⟩
  ·exact .inl hv
  ·exact .inr ⟨b,o,cap,vals,h1,h2,h3,h.imm_imm h4,h5.mono h h4,h6,VRss.mono h es vals h7⟩
 | .sl r off len lim esz,v,hv=>by
  simp only [VR]at hv ⊢
  obtain⟨fl,pl,b,o,cap,h1,h2⟩:=hv
  obtain⟨fl',h3⟩:=h.keep r fl pl h1
  exact⟨fl',pl,b,o,cap,h3,h2⟩
 | .asl r i off len cap esz,v,hv=>by
  simp only [VR]at hv ⊢
  obtain⟨fl,pl,b,o,h1,h2⟩:=hv
  obtain⟨fl',h3⟩:=h.keep r fl pl h1
  exact⟨fl',pl,b,o,h3,h2⟩
 | .fn f caps,v,hv=>by
  simp only [VR]at hv ⊢
  obtain⟨vs,h1,h2⟩:=hv
  exact⟨vs,h1,VRt.mono h caps vs h2⟩
 | .nilfn,_,hv=>by simpa only [VR]using hv
 | .agg cs,v,hv=>by
  simp only [VR]at hv ⊢
  obtain⟨vs,h1,h2⟩:=hv
  exact⟨vs,h1,VRs.mono h cs vs h2⟩
 | .tup cs,v,hv=>by
  simp only [VR]at hv ⊢
  obtain⟨vs,h1,h2⟩:=hv
  exact⟨vs,h1,VRt.mono h cs vs h2⟩
 | .bld r,v,hv=>by
  simp only [VR]at hv ⊢
  obtain⟨fl,pl,h1,h2⟩:=hv
  obtain⟨fl',h3⟩:=h.keep r fl pl h1
  exact⟨fl',pl,h3,h2⟩
 | .bnil,_,hv=>by simpa only [VR]using hv
 | .bsl r len,v,hv=>by
  simp only [VR]at hv ⊢
  obtain⟨fl,pl,cap,h1,h2⟩:=hv
  obtain⟨fl',h3⟩:=h.keep r fl pl h1
  exact⟨fl',pl,cap,h3,h2⟩
theorem VRs.mono{Z Z':Places}{w w':World}(h:Step Z w Z' w'):∀(as_:List AV) (vs:List Value),VRs Z w as_ vs->VRs Z' w' as_ vs
 | [],_,hv=>by simpa only [VRs]using hv
 |a::as_,vs,hv=>by
  simp only [VRs]at hv ⊢
  obtain⟨v,vs',h1,h2,h3⟩:=hv
  exact⟨v,vs',h1,⟨VR.mono h a v h2.1,h2.2⟩,VRs.mono h as_ vs' h3⟩
theorem VRt.mono{Z Z':Places}{w w':World}(h:Step Z w Z' w'):∀(as_:List AV) (vs:List Value),VRt Z w as_ vs->VRt Z' w' as_ vs
 | [],_,hv=>by simpa only [VRt]using hv
 |a::as_,vs,hv=>by
  simp only [VRt]at hv ⊢
  obtain⟨v,vs',h1,h2,h3⟩:=hv
  exact⟨v,vs',h1,VR.mono h a v h2,VRt.mono h as_ vs' h3⟩
theorem VRss.mono{Z Z':Places}{w w':World}(h:Step Z w Z' w'):∀(es:List (List AV)) (vs:List Value),VRss Z w es vs->VRss Z' w' es vs
 | [],_,hv=>by simpa only [VRss]using hv
 |e::es,vs,hv=>by
  simp only [VRss]at hv ⊢
  obtain⟨v1,v2,h1,h2,h3⟩:=hv
  exact⟨v1,v2,h1,VRs.mono h e v1 h2,VRss.mono h es v2 h3⟩
end
section lists
variable {Z:Places} {w:World}
def VC(Z:Places)(w:World)(a:AV)(v:Value):Prop:=VR Z w a v/\ v.oneCell'=true
theorem VRs.nil:VRs Z w [] []:=by simp [VRs]
theorem VRs.cons{a:AV}{as_:List AV}{v:Value}{vs:List Value}(h:VC Z w a v)(hs:VRs Z w as_ vs):VRs Z w (a::as_) (v::vs):=by
 simp only [VRs];exact⟨v,vs,rfl,h,hs⟩
theorem VRs.one{a:AV}{v:Value}(h:VC Z w a v):VRs Z w [a] [v]:=.cons h .nil
theorem VRs.length:∀{as_:List AV} {vs:List Value},VRs Z w as_ vs->as_.length=vs.length
 | [],vs,h=>by simp only [VRs]at h;simp [h]
 |a::as_,vs,h=>by
  simp only [VRs]at h
  obtain⟨v,vs',rfl,_,h3⟩:=h
  simp [VRs.length h3]
theorem VRs.get:∀{as_:List AV} {vs:List Value},VRs Z w as_ vs->∀{i:Nat} {a:AV},as_[i]? =some a->∃v,vs[i]? =some v/\ VC Z w a v
 | [],vs,h,i,a,hi=>by simp at hi
 |x::as_,vs,h,i,a,hi=>by
  simp only [VRs]at h
  obtain⟨v,vs',rfl,h2,h3⟩:=h
  cases i with
  |zero=>simp at hi;subst hi;exact⟨v,by simp,h2⟩
  |succ i=>simp at hi;simpa using VRs.get h3 hi
theorem VRs.of_get:∀{as_:List AV} {vs:List Value},as_.length=vs.length->(∀(i:Nat) (a:AV) (v:Value),as_[i]? =some a->vs[i]? =some v->VC Z w a v)->VRs Z w as_ vs
 | [],vs,hl,_=>by cases vs<;>simp_all [VRs]
 |a::as_,[],hl,_=>by simp at hl
 |a::as_,v::vs,hl,h=>
  VRs.cons (h 0 a v (by simp) (by simp)) (VRs.of_get (by simpa using hl) fun i a' v' h1 h2=>h (i+1) a' v' (by simpa using h1) (by simpa using h2))
theorem VRs.one_{as_:List AV}{vs:List Value}(h:VRs Z w as_ vs):∀v ∈ vs,v.oneCell'=true:=by
 induction as_ generalizing vs with
 |nil=>simp only [VRs]at h;simp [h]
 |cons a as_ ih=>
  simp only [VRs]at h
  obtain⟨v,vs',rfl,h2,h3⟩:=h
  intro x hx
  cases hx with
  |head=>exact h2.2
  |tail _ hx=>exact ih h3 x hx
theorem VRs.append{as_ bs:List AV}{vs us:List Value}(h:VRs Z w as_ vs)(k:VRs Z w bs us):VRs Z w (as_++bs) (vs++us):=by
 induction as_ generalizing vs with
 |nil=>simp only [VRs]at h;subst h;simpa using k
 |cons a as_ ih=>
  simp only [VRs]at h
  obtain⟨v,vs',rfl,h2,h3⟩:=h
  exact VRs.cons h2 (ih h3)
theorem VRs.append_inv{as_ bs:List AV}{vs:List Value}(h:VRs Z w (as_++bs) vs):∃v1 v2,vs=v1++v2/\ VRs Z w as_ v1/\ VRs Z w bs v2:=by
 induction as_ generalizing vs with
 |nil=>exact⟨[],vs,rfl,VRs.nil,by simpa using h⟩
 |cons a as_ ih=>
  simp only [List.cons_append,VRs]at h
  obtain⟨v,vs',rfl,h2,h3⟩:=h
  obtain⟨v1,v2,rfl,h4,h5⟩:=ih h3
  exact⟨v::v1,v2,rfl,VRs.cons h2 h4,h5⟩
theorem VRs.take{as_:List AV}{vs:List Value}(h:VRs Z w as_ vs)(n:Nat):VRs Z w (as_.take n) (vs.take n):=by
 refine VRs.of_get (by simp [h.length]) fun i a v h1 h2=> ?_
 simp only [List.getElem?_take]at h1 h2
 split at h1
 ·rename_i hi
  rw [if_pos hi]at h2
  obtain⟨v',h3,h4⟩:=h.get h1
  rw [h2]at h3;cases h3;exact h4
 ·simp at h1
theorem VRs.drop{as_:List AV}{vs:List Value}(h:VRs Z w as_ vs)(n:Nat):VRs Z w (as_.drop n) (vs.drop n):=by
 refine VRs.of_get (by simp [h.length]) fun i a v h1 h2=> ?_
 simp only [List.getElem?_drop]at h1 h2
 obtain⟨v',h3,h4⟩:=h.get h1
 rw [h2]at h3;cases h3;exact h4
theorem VRs.rep{a:AV}{v:Value}(h:VC Z w a v)(n:Nat):VRs Z w (List.replicate n a) (List.replicate n v):=by
 induction n with
 |zero=>exact VRs.nil
 |succ n ih=>exact VRs.cons h ih
theorem VRss.flat:∀{es:List (List AV)} {vs:List Value},VRss Z w es vs ↔ VRs Z w es.flatten vs
 | [],vs=>by simp [VRss,VRs]
 |e::es,vs=>by
  simp only [VRss,List.flatten_cons]
  constructor
  ·rintro⟨v1,v2,rfl,h1,h2⟩
   exact h1.append (VRss.flat.1 h2)
  ·intro h
   obtain⟨v1,v2,rfl,h1,h2⟩:=h.append_inv
   exact⟨v1,v2,rfl,h1,VRss.flat.2 h2⟩
theorem VRt.nil:VRt Z w [] []:=by simp [VRt]
theorem VRt.cons{a:AV}{as_:List AV}{v:Value}{vs:List Value}(h:VR Z w a v)(hs:VRt Z w as_ vs):VRt Z w (a::as_) (v::vs):=by
 simp only [VRt];exact⟨v,vs,rfl,h,hs⟩
theorem VRt.length:∀{as_:List AV} {vs:List Value},VRt Z w as_ vs->as_.length=vs.length
 | [],vs,h=>by simp only [VRt]at h;simp [h]
 |a::as_,vs,h=>by
  simp only [VRt]at h
  obtain⟨v,vs',rfl,_,h3⟩:=h
  simp [VRt.length h3]
theorem VRt.get:∀{as_:List AV} {vs:List Value},VRt Z w as_ vs->∀{i:Nat} {a:AV},as_[i]? =some a->∃v,vs[i]? =some v/\ VR Z w a v
 | [],vs,h,i,a,hi=>by simp at hi
 |x::as_,vs,h,i,a,hi=>by
  simp only [VRt]at h
  obtain⟨v,vs',rfl,h2,h3⟩:=h
  cases i with
  |zero=>simp at hi;subst hi;exact⟨v,by simp,h2⟩
  |succ i=>simp at hi;simpa using VRt.get h3 hi
theorem VRt.append{as_ bs:List AV}{vs us:List Value}(h:VRt Z w as_ vs)(k:VRt Z w bs us):VRt Z w (as_++bs) (vs++us):=by
 induction as_ generalizing vs with
 |nil=>simp only [VRt]at h;subst h;simpa using k
 |cons a as_ ih=>
  simp only [VRt]at h
  obtain⟨v,vs',rfl,h2,h3⟩:=h
  exact VRt.cons h2 (ih h3)
end lists
end
variable {Z Z':Places}{k n:Nat}
section
structure Ctx where
 P:Program
 gl:Nat->Option (List AV)
abbrev AObj:=List (List AV)
abbrev Store:=List (Option AObj)
abbrev Env:=Nat->AV
def NoSt(n esz:Nat)(fz:Nat × Nat):Prop:=∀k,(k<n \/(k=n/\ esz ≠ 1))->(decide (fz.1<=k) && decide (k<fz.2))=false
theorem NoSt.lt{esz:Nat}{fz:Nat × Nat}(h:NoSt n esz fz):∀k,k<n->(decide (fz.1<=k) && decide (k<fz.2))=false:=fun k hk=>h k (.inl hk)
theorem NoSt.zero{esz:Nat}:NoSt n esz (0,0):=fun k _=>by simp
theorem NoSt.mark:NoSt n 1 (n,n+1):=fun k hk=>by
 rcases hk with hk| ⟨_,hk⟩
 ·have:¬n<=k:=by omega
  simp [this]
 ·exact absurd rfl hk
theorem zlk{l pre mid post:List Value}(hc:l=pre++mid++post)(hm:∀v ∈ mid,v.oneCell'=true)(hp:∀v ∈ pre++post,v.oneCell'=true):∀v ∈ l,v.oneCell'=true:=fun v hv=>by
 rw [hc]at hv
 simp only [List.mem_append]at hv hp
 rcases hv with(hv|hv)|hv
 ·exact hp v (.inl hv)
 ·exact hm v hv
 ·exact hp v (.inr hv)
structure ObjOK(Z:Places)(w:World)(pl:Place)(o:AObj):Prop where
 len:o.length=pl.n
 esz:∀e ∈ o,e.length=pl.esz
 tyk:∃c fz,w.heap[pl.b]? =some (Obj.cells c pl.ty fz)
 ex:∃c ty fz pre mid post,w.heap[pl.b]? =some (Obj.cells c ty fz)/\ c.toList=pre++mid++post/\ pre.length=pl.base/\ c.size=pl.tot/\ VRs Z w o.flatten mid ∧
  NoSt c.size pl.esz fz/\ ∀v ∈ c.toList,v.oneCell'=true
structure Rel(C:Ctx)(Z:Places)(O:Store)(w:World):Prop where
 len:Z.length=O.length
 alive:∀(r:Nat) (o:AObj),O[r]? =some (some o)->∃pl:Place,Z[r]? =some (true,pl)/\ ObjOK Z w pl o
 dead:∀(r:Nat),O[r]? =some none->∃pl:Place,Z[r]? =some (false,pl)
 inj:∀(r r':Nat) (pl pl':Place),Z[r]? =some (true,pl)->Z[r']? =some (true,pl')->pl.b=pl'.b->r=r'
 gl:∀(g:Nat) (cs:List AV),C.gl g=some cs->VR Z w (.vp cs) (.pointer (some ⟨g,0,none⟩))
theorem z29{es:AObj}(h:∀e ∈ es,e.length=k):es.flatten.length=es.length*k:=by
 induction es with
 |nil=>simp
 |cons e es ih=>
  have h1:=h e (by simp)
  have h2:=ih fun x hx=>h x (by simp [hx])
  simp only [List.flatten_cons,List.length_append,h1,h2,List.length_cons,Nat.succ_mul]
  omega
theorem ObjOK.lt{pl:Place}{o:AObj}(h:ObjOK Z w pl o):pl.b<w.heap.size:=by
 obtain⟨c,ty,fz,pre,mid,post,h1,_⟩:=h.ex
 rcases Nat.lt_or_ge pl.b w.heap.size with h2|h2
 ·exact h2
 ·simp [Array.getElem?_eq_none h2]at h1
theorem ObjOK.inside{pl:Place}{o:AObj}(h:ObjOK Z w pl o):pl.base+pl.n*pl.esz<=pl.tot:=by
 obtain⟨c,ty,fz,pre,mid,post,h1,h2,h3,h4,h5,_⟩:=h.ex
 have h6:=h5.length
 rw [z29 h.esz,h.len]at h6
 have h7:c.toList.length=pre.length+mid.length+post.length:=by rw [h2];simp [Nat.add_assoc]
 rw [Array.length_toList]at h7
 omega
theorem ObjOK.mono{pl:Place}{o:AObj}(h:ObjOK Z w pl o)(hs:Step Z w Z' w')(hb:w'.heap[pl.b]? =w.heap[pl.b]?):ObjOK Z' w' pl o:=by
 obtain⟨c,ty,fz,pre,mid,post,h1,h2,h3,h4,h5,h6⟩:=h.ex
 obtain⟨c0,fz0,h0⟩:=h.tyk
 exact⟨h.len,h.esz,⟨c0,fz0,hb.trans h0⟩,c,ty,fz,pre,mid,post,hb.trans h1,h2,h3,h4,h5.mono hs,h6⟩
theorem getElem?_append_one{α:Type}(l:List α)(x:α)(r:Nat):(l++ [x])[r]? =if r<l.length then l[r]? else if r=l.length then some x else none:=by
 by_cases h:r<l.length
 ·simp [h,List.getElem?_append_left h]
 ·rw [List.getElem?_append_right (Nat.le_of_not_lt h),if_neg h]
  by_cases h2:r=l.length
  ·simp [h2]
  ·rw [if_neg h2]
   have:∃k,r-l.length=k+1:=⟨r-l.length-1,by omega⟩
   obtain⟨k,hk⟩:=this
   simp [hk]
section
variable {C:Ctx} {Z:Places} {O:Store} {w w':World}
theorem Rel.place_lt(h:Rel C Z O w){r:Nat}{pl:Place}(hr:Z[r]? =some (true,pl)):pl.b<w.heap.size:=by
 cases hq:O[r]? with
 |none=>
  have:=List.getElem?_eq_none_iff.1 hq
  rw [<-h.len]at this
  rw [List.getElem?_eq_none this]at hr;cases hr
 |some x=>cases x with
  |none=>obtain⟨pl',h1⟩:=h.dead r hq;rw [h1]at hr;cases hr
  |some o=>
   obtain⟨pl',h1,h2⟩:=h.alive r o hq
   rw [h1]at hr;cases hr;exact h2.lt
theorem Rel.drawn(h:Rel C Z O w)(hw:w'.heap=w.heap)(ho:w'.os=w.os)(ht:w'.tape=w.tape)(hp:w'.output=w.output):Step Z w Z w'/\ Rel C Z O w':=by
 have hs:Step Z w Z w':=⟨fun _ fl _ h=>⟨fl,h⟩,by rw [hw];exact Nat.le_refl _,fun _ _ _=>by rw [hw],fun r pl h=> .inl ⟨r,pl,h,rfl⟩,ho,ht,hp⟩
 refine⟨hs,h.len,fun r o hr=> ?_,h.dead,h.inj,fun g cs hg=>(h.gl g cs hg).mono hs⟩
 obtain⟨pl,h1,h2⟩:=h.alive r o hr
 exact⟨pl,h1,h2.mono hs (by rw [hw])⟩
theorem Rel.fresh(h:Rel C Z O w){ob:Obj}(hw:w'.heap=w.heap.push ob)(ho:w'.os=w.os)(ht:w'.tape=w.tape)(hp:w'.output=w.output):
  Step Z w Z w'/\ Rel C Z O w'/\ Imm Z w' w.heap.size:=by
 have hlt:∀(r:Nat) (pl:Place),Z[r]? =some (true,pl)->pl.b<w.heap.size:=fun r pl hr=>h.place_lt hr
 have hold:∀b,b<w.heap.size->w'.heap[b]? =w.heap[b]?:=fun b hb=>by
  rw [hw,Array.getElem?_push_lt hb,Array.getElem?_eq_getElem hb]
 have hs:Step Z w Z w':=⟨fun _ fl _ h=>⟨fl,h⟩,by rw [hw];simp,fun b hb _=>hold b hb,fun r pl h=> .inl ⟨r,pl,h,rfl⟩,ho,ht,hp⟩
 refine⟨hs,⟨h.len,fun r o hr=> ?_,h.dead,h.inj,fun g cs hg=>(h.gl g cs hg).mono hs⟩,by rw [hw];simp,fun r pl hr=> ?_⟩
 ·obtain⟨pl,h1,h2⟩:=h.alive r o hr
  exact⟨pl,h1,h2.mono hs (hold _ h2.lt)⟩
 ·have:=hlt r pl hr;omega
theorem Rel.allocG(h:Rel C Z O w){c:Array Value}{ty:TypeId}{fz:Nat × Nat}{o:AObj}{esz:Nat}{vals rest:List Value}
  (hw:w'.heap=w.heap.push (.cells c ty fz)) (ho:w'.os=w.os) (ht:w'.tape=w.tape) (hp:w'.output=w.output)
  (hc:c.toList=vals++rest) (hv:VRs (Z++ [(true,⟨w.heap.size,0,esz,o.length,c.size,ty⟩)]) w' o.flatten vals) (he:∀e ∈ o,e.length=esz) (hfz:NoSt c.size esz fz) (hrest:∀v ∈ rest,v.oneCell'=true):
  Step Z w (Z++ [(true,⟨w.heap.size,0,esz,o.length,c.size,ty⟩)]) w'/\ Rel C (Z++ [(true,⟨w.heap.size,0,esz,o.length,c.size,ty⟩)]) (O++ [some o]) w':=by
 have hold:∀b,b<w.heap.size->w'.heap[b]? =w.heap[b]?:=fun b hb=>by
  rw [hw,Array.getElem?_push_lt hb,Array.getElem?_eq_getElem hb]
 have hnew:w'.heap[w.heap.size]? =some (.cells c ty fz):=by rw [hw];simp
 have hget:∀(r:Nat) (pl:Place),(Z++ [(true,⟨w.heap.size,0,esz,o.length,c.size,ty⟩)])[r]? =some (true,pl)->
   (r<Z.length/\ Z[r]? =some (true,pl)) \/(r=Z.length/\ pl=⟨w.heap.size,0,esz,o.length,c.size,ty⟩):=fun r pl hr=>by
  rw [getElem?_append_one]at hr
  split at hr
  ·exact .inl ⟨by assumption,hr⟩
  ·split at hr
   ·simp only [Option.some.injEq,Prod.mk.injEq,true_and]at hr;exact .inr ⟨by assumption,hr.symm⟩
   ·cases hr
 have hs:Step Z w (Z++ [(true,⟨w.heap.size,0,esz,o.length,c.size,ty⟩)]) w':=by
  refine⟨fun r fl pl hr=>⟨fl,?_⟩,by rw [hw];simp,fun b hb _=>hold b hb,fun r pl hr=> ?_,ho,ht,hp⟩
  ·rw [getElem?_append_one,if_pos]
   ·exact hr
   ·exact(List.getElem?_eq_some_iff.1 hr).1
  ·rcases hget r pl hr with⟨_,h1⟩| ⟨_,rfl⟩
   ·exact .inl ⟨r,pl,h1,rfl⟩
   ·exact .inr (Nat.le_refl _)
 refine⟨hs,by simp [h.len],fun r ob hr=> ?_,fun r hr=> ?_,fun r r' pl pl' h1 h2 h3=> ?_,fun g cs hg=>(h.gl g cs hg).mono hs⟩
 ·rw [getElem?_append_one]at hr
  split at hr
  ·rename_i hlt
   obtain⟨pl,h1,h2⟩:=h.alive r ob hr
   exact⟨pl,by rw [getElem?_append_one,if_pos (by rw [h.len];exact hlt)];exact h1,h2.mono hs (hold _ h2.lt)⟩
  ·split at hr
   ·rename_i heq
    simp only [Option.some.injEq]at hr;subst hr
    refine⟨⟨w.heap.size,0,esz,o.length,c.size,ty⟩,by rw [getElem?_append_one,heq,<-h.len];simp,rfl,he,⟨c,fz,hnew⟩,c,ty,fz,[],vals,rest,hnew,by simpa using hc,rfl,rfl,hv,hfz,fun v hm=>by
     rw [hc]at hm
     rcases List.mem_append.1 hm with hm|hm
     ·exact hv.one_ v hm
     ·exact hrest v hm⟩
   ·cases hr
 ·rw [getElem?_append_one]at hr
  split at hr
  ·rename_i hlt
   obtain⟨pl,h1⟩:=h.dead r hr
   exact⟨pl,by rw [getElem?_append_one,if_pos (by rw [h.len];exact hlt)];exact h1⟩
  ·split at hr<;>simp at hr
 ·rcases hget r pl h1 with⟨_,h1⟩| ⟨h1,rfl⟩<;>rcases hget r' pl' h2 with⟨_,h2⟩| ⟨h2,rfl⟩
  ·exact h.inj r r' pl pl' h1 h2 h3
  ·have:=h.place_lt h1;simp only at h3;omega
  ·have:=h.place_lt h2;simp only at h3;omega
  ·omega
theorem z12g{pl:Place}{ob:Obj}(hw:w'.heap=w.heap.push ob)(ho:w'.os=w.os)(ht:w'.tape=w.tape)(hp:w'.output=w.output)(hb:pl.b=w.heap.size):Step Z w (Z++ [(true,pl)]) w':=by
 refine⟨fun r fl pl hr=>⟨fl,?_⟩,by rw [hw];simp,fun b hb _=>by rw [hw,Array.getElem?_push_lt hb,Array.getElem?_eq_getElem hb],fun r pl' hr=> ?_,ho,ht,hp⟩
 ·rw [getElem?_append_one,if_pos]
  ·exact hr
  ·exact(List.getElem?_eq_some_iff.1 hr).1
 ·rw [getElem?_append_one]at hr
  split at hr
  ·exact .inl ⟨r,pl',hr,rfl⟩
  ·split at hr
   ·simp only [Option.some.injEq,Prod.mk.injEq,true_and]at hr
    subst hr;exact .inr (by omega)
   ·cases hr
theorem Rel.alloc(h:Rel C Z O w){c:Array Value}{ty:TypeId}{fz:Nat × Nat}{o:AObj}{esz:Nat}{vals rest:List Value}
  (hw:w'.heap=w.heap.push (.cells c ty fz)) (ho:w'.os=w.os) (ht:w'.tape=w.tape) (hp:w'.output=w.output)
  (hc:c.toList=vals++rest) (hv:VRs Z w o.flatten vals) (he:∀e ∈ o,e.length=esz) (hfz:NoSt c.size esz fz) (hrest:∀v ∈ rest,v.oneCell'=true):
  Step Z w (Z++ [(true,⟨w.heap.size,0,esz,o.length,c.size,ty⟩)]) w'/\ Rel C (Z++ [(true,⟨w.heap.size,0,esz,o.length,c.size,ty⟩)]) (O++ [some o]) w':=
 h.allocG hw ho ht hp hc (hv.mono (z12g hw ho ht hp rfl)) he hfz hrest
theorem Rel.write(h:Rel C Z O w){r:Nat}{pl:Place}{o:AObj}{c:Array Value}{ty:TypeId}{fz:Nat × Nat}{pre mid post:List Value}(hr:O[r]? ≠ none)
  (hpl:Z[r]? =some (true,pl)) (hsz:w'.heap.size=w.heap.size) (hother:∀b,b ≠ pl.b->w'.heap[b]? =w.heap[b]?) (hb:w'.heap[pl.b]? =some (.cells c ty fz))
  (ho:w'.os=w.os) (ht:w'.tape=w.tape) (hp:w'.output=w.output)
  (hty:ty=pl.ty) (hc:c.toList=pre++mid++post) (hpre:pre.length=pl.base) (htot:c.size=pl.tot) (hv:VRs Z w o.flatten mid) (hn:o.length=pl.n) (he:∀e ∈ o,e.length=pl.esz)
  (hfz:NoSt c.size pl.esz fz) (hpp:∀v ∈ pre++post,v.oneCell'=true):
  Step Z w Z w'/\ Rel C Z (O.set r (some o)) w':=by
 have hs:Step Z w Z w':=⟨fun _ fl _ h=>⟨fl,h⟩,by omega,fun b _ hn=>hother b fun e=>hn r pl hpl e.symm,fun r pl h=> .inl ⟨r,pl,h,rfl⟩,ho,ht,hp⟩
 have hlt:r<O.length:=by
  rcases Nat.lt_or_ge r O.length with h1|h1
  ·exact h1
  ·exact absurd (List.getElem?_eq_none h1) hr
 refine⟨hs,by simp [h.len],fun r' ob hr'=> ?_,fun r' hr'=> ?_,h.inj,fun g cs hg=>(h.gl g cs hg).mono hs⟩
 ·by_cases e:r=r'
  ·subst e
   simp only [List.getElem?_set_self hlt,Option.some.injEq]at hr'
   subst hr'
   exact⟨pl,hpl,hn,he,⟨c,fz,by rw [<-hty];exact hb⟩,c,ty,fz,pre,mid,post,hb,hc,hpre,htot,hv.mono hs,hfz,zlk hc hv.one_ hpp⟩
  ·rw [List.getElem?_set_ne e]at hr'
   obtain⟨pl',h1,h2⟩:=h.alive r' ob hr'
   exact⟨pl',h1,h2.mono hs (hother _ fun e'=>e (h.inj r r' pl pl' hpl h1 e'.symm))⟩
 ·by_cases e:r=r'
  ·subst e;simp [List.getElem?_set_self hlt]at hr'
  ·rw [List.getElem?_set_ne e]at hr'
   exact h.dead r' hr'
theorem Rel.replace(h:Rel C Z O w){r:Nat}{pl pl':Place}{o:AObj}{c:Array Value}{ty:TypeId}{fz:Nat × Nat}{pre mid post:List Value}(hr:r<O.length)
  (hpl:Z[r]? =some (true,pl)) (hbb:pl'.b=pl.b) (hsz:w'.heap.size=w.heap.size) (hother:∀b,b ≠ pl.b->w'.heap[b]? =w.heap[b]?) (hb:w'.heap[pl.b]? =some (.cells c ty fz))
  (ho:w'.os=w.os) (ht:w'.tape=w.tape) (hp:w'.output=w.output)
  (hty:ty=pl'.ty) (hc:c.toList=pre++mid++post) (hpre:pre.length=pl'.base) (htot:c.size=pl'.tot) (hv:VRs Z w o.flatten mid) (hn:o.length=pl'.n) (he:∀e ∈ o,e.length=pl'.esz)
  (hfz:NoSt c.size pl'.esz fz) (hpp:∀v ∈ pre++post,v.oneCell'=true):
  Step Z w (Z.set r (false,pl)++ [(true,pl')]) w'/\ Rel C (Z.set r (false,pl)++ [(true,pl')]) (O.set r none++ [some o]) w':=by
 have hrγ:r<Z.length:=by rw [h.len];exact hr
 have hget:∀(q:Nat) (x:Place),(Z.set r (false,pl)++ [(true,pl')])[q]? =some (true,x)->(q<Z.length/\ q ≠ r/\ Z[q]? =some (true,x)) \/(q=Z.length/\ x=pl'):=fun q x hq=>by
  rw [getElem?_append_one]at hq
  simp only [List.length_set]at hq
  split at hq
  ·rename_i hlt
   by_cases e:r=q
   ·subst e;simp [List.getElem?_set_self hlt]at hq
   ·rw [List.getElem?_set_ne e]at hq;exact .inl ⟨hlt,fun e'=>e e'.symm,hq⟩
  ·split at hq
   ·simp only [Option.some.injEq,Prod.mk.injEq,true_and]at hq;exact .inr ⟨by assumption,hq.symm⟩
   ·cases hq
 have hs:Step Z w (Z.set r (false,pl)++ [(true,pl')]) w':=by
  refine⟨fun q fl x hq=> ?_,by omega,fun b _ hn=>hother b fun e=>hn r pl hpl e.symm,fun q x hx=> ?_,ho,ht,hp⟩
  ·have hql:=(List.getElem?_eq_some_iff.1 hq).1
   rw [getElem?_append_one,if_pos (by simpa using hql)]
   by_cases e:r=q
   ·subst e
    rw [hpl]at hq
    simp only [Option.some.injEq,Prod.mk.injEq]at hq
    exact⟨false,by rw [List.getElem?_set_self hql,hq.2]⟩
   ·exact⟨fl,by rw [List.getElem?_set_ne e];exact hq⟩
  ·rcases hget q x hx with⟨_,_,h1⟩| ⟨_,rfl⟩
   ·exact .inl ⟨q,x,h1,rfl⟩
   ·exact .inl ⟨r,pl,hpl,hbb.symm⟩
 refine⟨hs,by simp [h.len],fun q ob hq=> ?_,fun q hq=> ?_,fun q q' x x' h1 h2 h3=> ?_,fun g cs hg=>(h.gl g cs hg).mono hs⟩
 ·rw [getElem?_append_one]at hq
  simp only [List.length_set]at hq
  split at hq
  ·rename_i hlt
   by_cases e:r=q
   ·subst e;simp [List.getElem?_set_self hlt]at hq
   ·rw [List.getElem?_set_ne e]at hq
    obtain⟨x,h1,h2⟩:=h.alive q ob hq
    refine⟨x,?_,h2.mono hs (hother _ fun e'=>e (h.inj r q pl x hpl h1 e'.symm))⟩
    rw [getElem?_append_one]
    simp only [List.length_set]
    rw [if_pos (by rw [h.len];exact hlt),List.getElem?_set_ne e]
    exact h1
  ·split at hq
   ·rename_i heq
    simp only [Option.some.injEq]at hq;subst hq
    refine⟨pl',?_,hn,he,⟨c,fz,by rw [<-hty,hbb];exact hb⟩,c,ty,fz,pre,mid,post,by rw [hbb];exact hb,hc,hpre,htot,hv.mono hs,hfz,zlk hc hv.one_ hpp⟩
    rw [getElem?_append_one]
    simp only [List.length_set]
    rw [heq,<-h.len];simp
   ·cases hq
 ·rw [getElem?_append_one]at hq ⊢
  simp only [List.length_set]at hq ⊢
  split at hq
  ·rename_i hlt
   rw [if_pos (by rw [h.len];exact hlt)]
   by_cases e:r=q
   ·subst e;exact⟨pl,by rw [List.getElem?_set_self hrγ]⟩
   ·rw [List.getElem?_set_ne e]at hq ⊢;exact h.dead q hq
  ·split at hq<;>simp at hq
 ·rcases hget q x h1 with⟨_,e1,k1⟩| ⟨k1,l1⟩<;>rcases hget q' x' h2 with⟨_,e2,k2⟩| ⟨k2,l2⟩
  ·exact h.inj q q' x x' k1 k2 h3
  ·exact absurd (h.inj q r x pl k1 hpl (h3.trans (by rw [l2];exact hbb))) e1
  ·exact absurd (h.inj q' r x' pl k2 hpl (h3.symm.trans (by rw [l1];exact hbb))) e2
  ·omega
end
def ofC:Value->AV
 | .bool b=> .bool b
 | .int k n=> .int k n
 | .string s=> .str s.data.toList
 | .pointer none=> .nilp
 | .slice none 0 0=> .nilsl
 | .nilFunc=> .nilfn
 | _=> .any
def ofV:Value->AV
 | .bool b=> .bool b
 | .int k n=> .int k n
 | .string s=> .str s.data.toList
 | .pointer none=> .nilp
 | .slice none 0 0=> .nilsl
 | .nilFunc=> .nilfn
 | .agg cs=>if cs.toList.all Value.oneCell' then .agg (cs.toList.map ofC)else .any
 | _=> .any
theorem ofC_ok(Z:Places)(w:World)(v:Value):VR Z w (ofC v) v:=by
 unfold ofC
 split<;>simp [VR]
theorem zw9(Z:Places)(w:World)(vs:List Value)(h:∀v ∈ vs,v.oneCell'=true):VRs Z w (vs.map ofC) vs:=by
 induction vs with
 |nil=>exact VRs.nil
 |cons v vs ih=>exact VRs.cons ⟨ofC_ok Z w v,h v (by simp)⟩ (ih fun x hx=>h x (by simp [hx]))
theorem zf1(Z:Places)(w:World)(v:Value):VR Z w (ofV v) v:=by
 unfold ofV
 split<;>try (simp [VR];done)
 split
 ·rename_i h
  simp only [VR]
  exact⟨_,by simp,zw9 Z w _ (List.all_eq_true.1 h)⟩
 ·simp [VR]
def ev(C:Ctx)(J:Env):Operand->AV
 | .tmp t=>J t
 | .const v=>ofV v
 | .global g=>match C.gl g with|some cs=> .vp cs|none=> .any
 | .func f=> .fn f []
def EnvR(Z:Places)(w:World)(J:Env)(tmps:Array Value):Prop:=∀t,VR Z w (J t) (tmps.getD t undef)
theorem EnvR.mono{J:Env}{tmps:Array Value}(h:EnvR Z w J tmps)(hs:Step Z w Z' w'):EnvR Z' w' J tmps:=fun t=>(h t).mono hs
theorem ze4{C:Ctx}{O:Store}{J:Env}{a:Act}(hR:Rel C Z O w)(hE:EnvR Z w J a.tmps)(x:Operand):VR Z w (ev C J x) (a.eval x):=by
 cases x with
 |tmp t=>exact hE t
 |const v=>exact zf1 Z w v
 |global g=>
  simp only [ev,Act.eval]
  split
  ·rename_i cs hg;exact hR.gl g cs hg
  ·simp [VR]
 |func f=>simp [ev,Act.eval,VR,VRt]
def upd(J:Env)(d:Nat)(v:AV):Env:=fun t=>if t=d then v else J t
def putE(J:Env)(d:Option Nat)(v:AV):Env:=match d with|some d=>upd J d v|none=>J
theorem EnvR.put{J:Env}{a:Act}(h:EnvR Z w J a.tmps){d:Option Nat}{v:AV}{cv:Value}(hd:∀x,d=some x->x<a.tmps.size)(hv:VR Z w v cv):
  EnvR Z w (putE J d v) (a.put d cv).tmps:=by
 cases d with
 |none=>exact h
 |some d=>
  have hd':=hd d rfl
  intro t
  have ht:=h t
  simp only [Act.put,putE,upd,Array.getD_eq_getD_getElem?,Array.getElem?_setIfInBounds]at ht ⊢
  by_cases e:t=d
  ·subst e;simp [hd',hv]
  ·have:¬d=t:=fun e'=>e e'.symm
   simp [e,this,ht]
end
variable {C:Ctx}{cs:List AV}{i off:Nat}{t:TypeId}
section
def z2h(C:Ctx)(t:TypeId):Option Bool:=
 match C.P.underlying t with
 |some (.struct _)=>some true
 |some (.array _ _)=>some true
 |some _=>some false
 |none=>none
def z1j(C:Ctx)(t:TypeId):Option Nat:=(C.P.info? t).map (·.size)
def z4j(C:Ctx)(t:TypeId):Option Nat:=(C.P.info? t).map (·.bytes)
def z3h(C:Ctx)(t:TypeId):Option AV:=((C.P.info? t).bind (·.zero)).map ofV
theorem z85{b:Bool}(h:z2h C t=some b)(w:World):(isAgg t).run C.P w=.ok b w:=by
 unfold z2h at h
 cases hu:C.P.underlying t with
 |none=>simp [hu]at h
 |some d=>cases d<;>simp [hu]at h<;>subst h<;>simp [isAgg,run_underlying hu]
theorem z22(h:z1j C t=some n)(w:World):(sizeOf t).run C.P w=.ok n w:=by
 unfold z1j at h
 cases hu:C.P.info? t with
 |none=>simp [hu]at h
 |some i=>simp [hu]at h;subst h;simp [sizeOf,typeInfo,hu]
theorem z86{a:AV}(h:z3h C t=some a)(Z:Places)(w:World):∃v,(zeroValue t).run C.P w=.ok v w/\ VR Z w a v:=by
 unfold z3h at h
 cases hu:C.P.info? t with
 |none=>simp [hu]at h
 |some i=>
  cases hz:i.zero with
  |none=>simp [hu,hz]at h
  |some v=>
   simp [hu,hz]at h
   subst h
   exact⟨v,by simp [zeroValue,typeInfo,hu,hz],zf1 Z w v⟩
def Out(C:Ctx)(Z:Places)(w:World)(r:Result Value)(v:AV)(O':Store):Prop:=
 ∃cv Z' w',r=.ok cv w'/\ Step Z w Z' w'/\ Rel C Z' O' w'/\ VR Z' w' v cv
section
variable {C:Ctx} {Z:Places} {O:Store} {w:World}
theorem Out.same(hR:Rel C Z O w){r:Result Value}{v:AV}{cv:Value}(h:r=.ok cv w)(hv:VR Z w v cv):Out C Z w r v O:=⟨cv,Z,w,h,.refl _ _,hR,hv⟩
theorem z3i(b o j:Nat):(⟨b,o,none⟩:Addr).add j=⟨b,o+j,none⟩:=by unfold Addr.add;split<;>simp_all
theorem Seg.cell{b o:Nat}{vals:List Value}(h:Seg w b o vals){j:Nat}{v:Value}(hj:vals[j]? =some v):w.cell? ⟨b,o+j,none⟩=some v:=by
 obtain⟨c,ty,fz,pre,post,h1,h2,h3⟩:=h
 have hjl:j<vals.length:=by
  rcases Nat.lt_or_ge j vals.length with h|h
  ·exact h
  ·simp [List.getElem?_eq_none h]at hj
 have:c.toList[o+j]? =some v:=by
  rw [h2,List.append_assoc,List.getElem?_append_right (by omega),List.getElem?_append_left (by omega),h3]
  rw [show o+j-o=j by omega];exact hj
 simp [World.cell?,h1,<-this]
theorem Seg.sub{b o:Nat}{vals:List Value}(h:Seg w b o vals)(off n:Nat)(ho:off<=vals.length):Seg w b (o+off) ((vals.drop off).take n):=by
 obtain⟨c,ty,fz,pre,post,h1,h2,h3⟩:=h
 refine⟨c,ty,fz,pre++vals.take off,(vals.drop off).drop n++post,h1,?_,by simp [h3,List.length_take];omega⟩
 rw [h2]
 conv=>lhs;rw [<-List.take_append_drop off vals,<-List.take_append_drop n (vals.drop off)]
 simp [List.append_assoc]
theorem zgl{b o:Nat}{vals:List Value}(h:Seg w b o vals):(loadCells ⟨b,o,none⟩ vals.length).run C.P w=.ok vals.toArray w:=
 run_loadCells_list w ⟨b,o,none⟩ vals fun j v hj=>by rw [z3i];exact h.cell hj
def z3v(cs:List AV)(off n:Nat)(ag:Bool):Option AV:=
 if ag then(if off+n<=cs.length then some (.agg ((cs.drop off).take n))else none)else cs[off]?
theorem znq{b o:Nat}{ag:Bool}{vals:List Value}{a:AV}(hag:z2h C t=some ag)(hn:z1j C t=some n)
  (hs:Seg w b o vals) (hv:VRs Z w cs vals) (ha:z3v cs off n ag=some a):∃v,(loadVar t ⟨b,o+off,none⟩).run C.P w=.ok v w/\ VR Z w a v:=by
 unfold z3v at ha
 cases ag with
 |true=>
  simp only [if_true]at ha
  split at ha
  ·rename_i hle
   simp only [Option.some.injEq]at ha
   subst ha
   have hl:=hv.length
   have h1:=hs.sub off n (by omega)
   have h2:=zgl (C:=C) h1
   have h3:((vals.drop off).take n).length=n:=by simp [List.length_take,List.length_drop];omega
   rw [h3]at h2
   refine⟨.agg ((vals.drop off).take n).toArray,?_,?_⟩
   ·simp [loadVar,z85 hag,z22 hn,h2]
   ·simp only [VR]
    exact⟨_,rfl,(hv.drop off).take n⟩
  ·cases ha
 |false=>
  simp only [Bool.false_eq_true,if_false]at ha
  obtain⟨v,h1,h2⟩:=hv.get ha
  refine⟨v,?_,h2.1⟩
  simp [loadVar,z85 hag,hs.cell h1]
theorem ze7{o:AObj}{esz:Nat}(he:∀e ∈ o,e.length=esz)(hi:o[i]? =some cs):
  o.flatten=(o.take i).flatten++cs++(o.drop (i+1)).flatten/\ (o.take i).flatten.length=i*esz/\ cs.length=esz:=by
 have hlt:i<o.length:=by
  rcases Nat.lt_or_ge i o.length with h|h
  ·exact h
  ·simp [List.getElem?_eq_none h]at hi
 have hcs:cs=o[i]:=by rw [List.getElem?_eq_getElem hlt]at hi;exact(Option.some.inj hi).symm
 refine⟨?_,?_,he cs (by rw [hcs];exact List.getElem_mem hlt)⟩
 ·have e:o=o.take i++o[i]::o.drop (i+1):=by rw [<-List.drop_eq_getElem_cons hlt,List.take_append_drop]
  conv=>lhs;rw [e]
  rw [hcs,List.flatten_append,List.flatten_cons,List.append_assoc]
 ·rw [z29 (k:=esz) fun e h=>he e (List.mem_of_mem_take h),List.length_take]
  congr 1;omega
theorem z10c{o:AObj}(hi:i<o.length):(o.set i cs).flatten=(o.take i).flatten++cs++(o.drop (i+1)).flatten:=by
 rw [List.set_eq_take_append_cons_drop,if_pos hi]
 simp
theorem ObjOK.elem{pl:Place}{o:AObj}(h:ObjOK Z w pl o){i:Nat}{cs:List AV}(hi:o[i]? =some cs):∃vals,Seg w pl.b (pl.base+i*pl.esz) vals/\ VRs Z w cs vals:=by
 obtain⟨c,ty,fz,pre,mid,post,h1,h2,h3,h4,h5,h6⟩:=h.ex
 obtain⟨hf,hl,hc⟩:=ze7 h.esz hi
 rw [hf]at h5
 obtain⟨m12,m3,rfl,h7,h8⟩:=h5.append_inv
 obtain⟨m1,m2,rfl,h9,h10⟩:=h7.append_inv
 refine⟨m2,⟨c,ty,fz,pre++m1,m3++post,h1,by simp [h2,List.append_assoc],?_⟩,h10⟩
 simp [h3,<-h9.length,hl]
theorem zcu(b o:Nat)(ty:TypeId)(fz:Nat × Nat):∀(vs:List Value) (i:Nat) (cur:Array Value) (w:World),w.heap[b]? =some (.cells cur ty fz)->o+i+vs.length<=cur.size->
  (∀v ∈ vs,v.oneCell'=true)->(∀k,k<cur.size->(decide (fz.1<=k) && decide (k<fz.2))=false)->
  (storeCells ⟨b,o,none⟩ vs i).run C.P w=.ok () (w.setRow b (cur.toList.take (o+i)++vs++cur.toList.drop (o+i+vs.length)).toArray)
 | [],i,cur,w,hg,_,_,_=>by
  simp only [storeCells,List.append_nil,List.length_nil,Nat.add_zero,List.take_append_drop,Array.toArray_toList]
  rw [setRow_self w b cur ty fz hg]
  rfl
 |v::rest,i,cur,w,hg,hl,h1,hz=>by
  have hi:o+i<cur.size:=by simp at hl;omega
  have hcell:w.cell? ⟨b,o+i,none⟩=some cur[o+i]:=by simp [World.cell?,hg,hi]
  have hfro:w.frozen? ⟨b,o+i,none⟩=false:=by simpa [World.frozen?,hg]using hz (o+i) hi
  have hst:(store ((⟨b,o,none⟩:Addr).add i) v).run C.P w=.ok () (w.setRow b (cur.setIfInBounds (o+i) v)):=by
   rw [z3i,run_store C.P w _ v _ (h1 v (by simp)),hcell]
   simp [hfro,setCell_eq_setRow w b (o+i) cur ty fz v hg]
  have ih:=zcu b o ty fz rest (i+1) (cur.setIfInBounds (o+i) v) (w.setRow b (cur.setIfInBounds (o+i) v)) (setRow_heap w b cur _ ty _ hg) (by simp at hl ⊢;omega)
   (fun x hx=>h1 x (by simp [hx])) (fun k hk=>hz k (by simpa using hk))
  simp only [storeCells,Sem.run_bind,hst,Result.andThen_ok,ih,setRow_setRow]
  congr 3
  have e:=list_seg_step cur.toList (o+i) v rest (by simp at hl ⊢;omega)
  simpa [Array.toList_setIfInBounds,Nat.add_assoc]using e
theorem Rel.storeFlat(h:Rel C Z O w){r:Nat}{pl:Place}{o o':AObj}(hr:O[r]? =some (some o))(hpl:Z[r]? =some (true,pl))(hlen:o'.length=o.length)(he':∀e ∈ o',e.length=pl.esz)
  {p:Nat} {A vs B old:List AV} {vals:List Value} (hf:o.flatten=A++old++B) (hA:A.length=p) (hold:old.length=vs.length) (hf':o'.flatten=A++vs++B) (hv:VRs Z w vs vals):
  ∃w',(storeCells ⟨pl.b,pl.base+p,none⟩ vals).run C.P w=.ok () w'/\ Step Z w Z w'/\ Rel C Z (O.set r (some o')) w':=by
 obtain⟨pl',hpl',hok⟩:=h.alive r o hr
 rw [hpl]at hpl';cases hpl'
 obtain⟨c,ty,fz,pre,mid,post,h1,h2,h3,h4,h5,h6⟩:=hok.ex
 rw [hf]at h5
 obtain⟨m12,m3,rfl,h7,h8⟩:=h5.append_inv
 obtain⟨m1,m2,rfl,h9,h10⟩:=h7.append_inv
 have l1:=h9.length;have l2:=h10.length;have l3:=hv.length
 have hsz:c.size=pre.length+(m1.length+m2.length+m3.length)+post.length:=by
  rw [<-Array.length_toList,h2];simp [Nat.add_assoc]
 have hst:=zcu (C:=C) pl.b (pl.base+p) ty fz vals 0 c w h1 (by omega) hv.one_ h6.1.lt
 have hlist:c.toList.take (pl.base+p+0)++vals++c.toList.drop (pl.base+p+0+vals.length)=pre++(m1++vals++m3)++post:=by
  have e1:c.toList.take (pl.base+p+0)=pre++m1:=by
   rw [h2,show pre++(m1++m2++m3)++post=(pre++m1)++(m2++m3++post)by simp [List.append_assoc]]
   exact List.take_left' (by simp;omega)
  have e2:c.toList.drop (pl.base+p+0+vals.length)=m3++post:=by
   rw [h2,show pre++(m1++m2++m3)++post=(pre++m1++m2)++(m3++post)by simp [List.append_assoc]]
   exact List.drop_left' (by simp;omega)
  rw [e1,e2];simp [List.append_assoc]
 rw [hlist]at hst
 refine⟨_,hst,?_⟩
 have hty:ty=pl.ty:=by
  obtain⟨c0,fz0,h0⟩:=hok.tyk
  rw [h1]at h0;cases h0;rfl
 refine h.write (r:=r) (pl:=pl) (o:=o') (c:=(pre++(m1++vals++m3)++post).toArray) (ty:=ty) (fz:=fz) (pre:=pre) (mid:=m1++vals++m3) (post:=post)
  (by rw [hr];simp) hpl (setRow_size _ _ _) (fun b hb=>setRow_other w pl.b b _ hb) (setRow_heap w pl.b c _ ty fz h1) rfl rfl rfl hty rfl h3 ?_ ?_ (hlen.trans hok.len) he' ?_ ?_
 ·simp;omega
 ·rw [hf'];exact(h9.append hv).append h8
 ·rw [show (pre++(m1++vals++m3)++post).toArray.size=c.size by simp;omega];exact h6.1
 ·intro v hv
  refine h6.2 v ?_
  rw [h2]
  simp only [List.mem_append]at hv ⊢
  rcases hv with h|h
  ·exact .inl (.inl h)
  ·exact .inr h
def z1i(cs:List AV)(off:Nat)(vs:List AV):List AV:=cs.take off++vs++cs.drop (off+vs.length)
theorem zx4{vs:List AV}(h:off+vs.length<=cs.length):(z1i cs off vs).length=cs.length:=by
 simp [z1i,List.length_take,List.length_drop];omega
theorem zx6{vs:List AV}(h:off+vs.length<=cs.length):∃old,cs=cs.take off++old++cs.drop (off+vs.length)/\ old.length=vs.length:=by
 refine⟨(cs.drop off).take vs.length,?_,by simp [List.length_take,List.length_drop];omega⟩
 conv=>lhs;rw [<-List.take_append_drop off cs,<-List.take_append_drop vs.length (cs.drop off),List.drop_drop]
 simp [List.append_assoc]
theorem Rel.storeElem(h:Rel C Z O w){r:Nat}{pl:Place}{o:AObj}(hr:O[r]? =some (some o))(hpl:Z[r]? =some (true,pl)){i off:Nat}{cs vs:List AV}{vals:List Value}
  (hi:o[i]? =some cs) (hfit:off+vs.length<=cs.length) (hv:VRs Z w vs vals):
  ∃w',(storeCells ⟨pl.b,pl.base+i*pl.esz+off,none⟩ vals).run C.P w=.ok () w'/\ Step Z w Z w'/\ Rel C Z (O.set r (some (o.set i (z1i cs off vs)))) w':=by
 obtain⟨pl',hpl',hok⟩:=h.alive r o hr
 rw [hpl]at hpl';cases hpl'
 have hlt:i<o.length:=by
  rcases Nat.lt_or_ge i o.length with h|h
  ·exact h
  ·simp [List.getElem?_eq_none h]at hi
 obtain⟨hf,hl,hc⟩:=ze7 hok.esz hi
 obtain⟨old,ho1,ho2⟩:=zx6 hfit
 have hcl:=zx4 hfit
 rw [Nat.add_assoc]
 refine h.storeFlat hr hpl (o':=o.set i (z1i cs off vs)) (p:=i*pl.esz+off) (A:=(o.take i).flatten++cs.take off) (vs:=vs) (B:=cs.drop (off+vs.length)++(o.drop (i+1)).flatten) (old:=old)
  (by simp) (fun e he=> ?_) ?_ ?_ ho2 ?_ hv
 ·rcases List.mem_or_eq_of_mem_set he with he|rfl
  ·exact hok.esz e he
  ·omega
 ·rw [hf]
  conv=>lhs;rw [ho1]
  simp [List.append_assoc]
 ·simp [hl,List.length_take];omega
 ·rw [z10c hlt];simp [z1i,List.append_assoc]
def cellsOf:AV->Option (List AV)
 | .any=>none
 | .undef=>none
 | .tup _=>none
 | .agg cs=>some cs
 | .bool b=>some [.bool b]
 | .int k n=>some [.int k n]
 | .str s=>some [.str s]
 | .nilp=>some [.nilp]
 | .ptr r i off=>some [.ptr r i off]
 | .vp cs=>some [.vp cs]
 | .nilsl=>some [.nilsl]
 | .vsl esz es ex=>some [.vsl esz es ex]
 | .sl r off len lim esz=>some [.sl r off len lim esz]
 | .asl r i off len cap esz=>some [.asl r i off len cap esz]
 | .fn f caps=>some [.fn f caps]
 | .nilfn=>some [.nilfn]
 | .bld r=>some [.bld r]
 | .bnil=>some [.bnil]
 | .bsl r len=>some [.bsl r len]
theorem zdr{v:Value}(h:v.oneCell'=true):v.cells.toList=[v]:=by
 cases v<;>simp [Value.oneCell',Value.cells]at h ⊢
theorem z54{a:AV}{v:Value}(h:cellsOf a=some cs)(hv:VR Z w a v):VRs Z w cs v.cells.toList:=by
 cases a<;>simp only [cellsOf,Option.some.injEq,reduceCtorEq]at h<;>subst h
 case agg cs=>
  simp only [VR]at hv
  obtain⟨vs,rfl,h2⟩:=hv
  simpa [Value.cells]using h2
 case bld r=>
  have h1:v.oneCell'=true:=by
   simp only [VR]at hv
   obtain⟨_,_,_,_,h|h⟩:=hv
   ·subst h;rfl
   ·subst h;rfl
  rw [zdr h1]
  exact .one ⟨hv,h1⟩
 all_goals
  have h1:v.oneCell'=true:=by
   simp only [VR]at hv
   first
    |(subst hv;rfl)
    |(rcases hv with⟨rfl,_,rfl⟩| ⟨_,_,_,_,rfl,_⟩<;>rfl)
    |(obtain⟨_,_,_,rfl,_⟩:=hv;rfl)
    |(obtain⟨_,_,_,rfl⟩:=hv;rfl)
    |(obtain⟨_,_,_,_,rfl,_⟩:=hv;rfl)
    |(obtain⟨_,_,_,_,_,_,_,rfl,_⟩:=hv;rfl)
    |(obtain⟨_,_,_,_,_,rfl,_⟩:=hv;rfl)
    |(obtain⟨_,rfl,_⟩:=hv;rfl)
    |(obtain⟨_,_,_,_,_,rfl,_⟩:=hv;rfl)
  rw [zdr h1]
  exact .one ⟨hv,h1⟩
def z7d(C:Ctx)(O:Store)(t:TypeId):AV->Option AV
 | .ptr r i off=>(z2h C t).bind fun ag=>(z1j C t).bind fun n=>match O[r]? with|some (some o)=>(o[i]?).bind fun cs=>z3v cs off n ag| _=>none
 | .vp cs=>(z2h C t).bind fun ag=>(z1j C t).bind fun n=>z3v cs 0 n ag
 | _=>none
theorem zl4(hR:Rel C Z O w){t:TypeId}{p a:AV}{cp:Value}(hp:VR Z w p cp)(h:z7d C O t p=some a):∃v,(Instr.loadAt t cp).run C.P w=.ok v w/\ VR Z w a v:=by
 unfold z7d at h
 split at h
 ·rename_i r i off
  simp only [Option.bind_eq_some_iff]at h
  obtain⟨ag,hag,n,hn,h⟩:=h
  split at h
  ·rename_i o ho
   simp only [Option.bind_eq_some_iff]at h
   obtain⟨cs,hcs,h⟩:=h
   obtain⟨pl,hpl,hok⟩:=hR.alive r o ho
   simp only [VR]at hp
   obtain⟨fl,pl',hpl',rfl⟩:=hp
   rw [hpl]at hpl';cases hpl'
   obtain⟨vals,h1,h2⟩:=hok.elem hcs
   obtain⟨v,h3,h4⟩:=znq (C:=C) hag hn h1 h2 h
   exact⟨v,by simp [Instr.loadAt,Instr.sureAddr,h3],h4⟩
  ·cases h
 ·rename_i cs
  simp only [Option.bind_eq_some_iff]at h
  obtain⟨ag,hag,n,hn,h⟩:=h
  simp only [VR]at hp
  obtain⟨b,o,vals,rfl,_,h1,h2⟩:=hp
  obtain⟨v,h3,h4⟩:=znq (C:=C) hag hn h1 h2 h
  simp only [Nat.add_zero]at h3
  exact⟨v,by simp [Instr.loadAt,Instr.sureAddr,h3],h4⟩
 ·cases h
def zap(C:Ctx)(O:Store)(t:TypeId)(p v:AV):Option Store:=
  (z1j C t).bind fun n=>(cellsOf v).bind fun vs=>if vs.length=n then
    (match p with
     | .ptr r i off=>match O[r]? with|some (some o)=>(o[i]?).bind fun cs=>if off+vs.length<=cs.length then some (O.set r (some (o.set i (z1i cs off vs))))else none| _=>none
     | _=>none)else none
theorem z12h(hR:Rel C Z O w){t:TypeId}{p v:AV}{cp cv:Value}{O':Store}(hp:VR Z w p cp)(hv:VR Z w v cv)(h:zap C O t p v=some O'):
  ∃w',(Instr.storeAt t cp cv).run C.P w=.ok () w'/\ Step Z w Z w'/\ Rel C Z O' w':=by
 unfold zap at h
 simp only [Option.bind_eq_some_iff]at h
 obtain⟨n,hn,vs,hvs,h⟩:=h
 split at h
 ·rename_i hlen
  split at h
  ·rename_i r i off
   split at h
   ·rename_i o ho
    simp only [Option.bind_eq_some_iff]at h
    obtain⟨cs,hcs,h⟩:=h
    split at h
    ·rename_i hfit
     simp only [Option.some.injEq]at h
     subst h
     obtain⟨pl,hpl,hok⟩:=hR.alive r o ho
     simp only [VR]at hp
     obtain⟨fl,pl',hpl',rfl⟩:=hp
     rw [hpl]at hpl';cases hpl'
     have hcv:=z54 hvs hv
     obtain⟨w',h1,h2,h3⟩:=hR.storeElem ho hpl hcs hfit hcv
     refine⟨w',?_,h2,h3⟩
     have hsz:cv.cells.size=n:=by rw [<-Array.length_toList,<-hcv.length];exact hlen
     simp [Instr.storeAt,Instr.sureAddr,storeVar,z22 hn,hsz,h1]
    ·cases h
   ·cases h
  ·cases h
 ·cases h
def aBox(O:Store)(v:AV):Option (AV × Store):=(cellsOf v).map fun cs=>(.ptr O.length 0 0,O++ [some [cs]])
theorem zla(hR:Rel C Z O w){t:TypeId}{v a:AV}{cv:Value}{O':Store}(hv:VR Z w v cv)(h:aBox O v=some (a,O')):
  ∃p Z' w',(newVar t cv).run C.P w=.ok p w'/\ Step Z w Z' w'/\ Rel C Z' O' w'/\ VR Z' w' a (.pointer (some p)):=by
 simp only [aBox,Option.map_eq_some_iff,Prod.mk.injEq]at h
 obtain⟨cs,hcs,rfl,rfl⟩:=h
 have hcv:=z54 hcs hv
 obtain⟨h1,h2⟩:=hR.alloc (w':=w.alloc (.cells cv.cells t)) (c:=cv.cells) (ty:=t) (fz:=(0,0)) (o:=[cs]) (esz:=cs.length) (vals:=cv.cells.toList) (rest:=[])
  rfl rfl rfl rfl (by simp) (by simpa using hcv) (by simp) NoSt.zero (by simp)
 refine⟨⟨w.heap.size,0,none⟩,_,_,?_,h1,h2,?_⟩
 ·simp [newVar,newRow]
 ·simp only [VR]
  exact⟨true,_,by rw [<-hR.len,List.getElem?_concat_length],by simp⟩
def aBld(O:Store):AV × Store:=(.ptr O.length 0 0,O++ [some [[.bld O.length,.bnil]]])
def zel:AV->Bool
 | .agg [.nilp,.nilsl]=>true
 | _=>false
def z8n(C:Ctx)(O:Store)(t:TypeId):Option (AV × Store):=(z3h C t).bind fun z=>if t=bldT then(if zel z=true then some (aBld O)else none)else aBox O z
theorem zqy(hR:Rel C Z O w){t:TypeId}{a:AV}{O':Store}(h:z8n C O t=some (a,O')):Out C Z w ((Instr.alloc t true (.tuple #[])).run C.P w) a O':=by
 simp only [z8n,Option.bind_eq_some_iff]at h
 obtain⟨z,hz,h⟩:=h
 obtain⟨v,h1,h2⟩:=z86 hz Z w
 split at h
 ·rename_i ht
  subst ht
  split at h
  ·rename_i hn
   simp only [aBld,Option.some.injEq,Prod.mk.injEq]at h
   obtain⟨rfl,rfl⟩:=h
   have hv:v=.agg #[.pointer none,.slice none 0 0]:=by
    unfold zel at hn
    split at hn
    ·simp only [VR,VRs]at h2
     obtain⟨vs,rfl,_,_,rfl,⟨rfl,_⟩,_,_,rfl,⟨rfl,_⟩,rfl⟩:=h2
     rfl
    ·cases hn
   subst hv
   obtain⟨k1,k2⟩:=hR.allocG (w':=w.alloc (.cells #[.pointer none,.slice none 0 0] bldT)) (c:= #[.pointer none,.slice none 0 0]) (ty:=bldT) (fz:=(0,0)) (o:=[[.bld O.length,.bnil]]) (esz:=2)
    (vals:=[.pointer none,.slice none 0 0]) (rest:=[]) rfl rfl rfl rfl (by simp) (by
     simp only [List.flatten_cons,List.flatten_nil,List.append_nil]
     refine VRs.cons ⟨?_,rfl⟩ (VRs.cons ⟨by simp only [VR],rfl⟩ VRs.nil)
     simp only [VR]
     exact⟨true,_,by rw [<-hR.len,List.getElem?_concat_length],⟨rfl,rfl,rfl,rfl,rfl⟩,.inl (by trivial)⟩) (by simp) NoSt.zero (by simp)
   refine⟨.pointer (some ⟨w.heap.size,0,none⟩),_,_,?_,k1,k2,?_⟩
   ·simp [Instr.alloc,h1,newVar,newRow,Value.cells]
   ·simp only [VR]
    exact⟨true,_,by rw [<-hR.len,List.getElem?_concat_length],by simp⟩
  ·cases h
 obtain⟨p,Z',w',h3,h4,h5,h6⟩:=zla hR (t:=t) h2 h
 exact⟨.pointer (some p),Z',w',by simp [Instr.alloc,h1,h3],h4,h5,h6⟩
theorem box_ok(hR:Rel C Z O w){t:TypeId}{v a:AV}{cv:Value}{O':Store}(hv:VR Z w v cv)(h:aBox O v=some (a,O')):Out C Z w ((Instr.box t cv).run C.P w) a O':=by
 obtain⟨p,Z',w',h3,h4,h5,h6⟩:=zla hR (t:=t) hv h
 exact⟨.pointer (some p),Z',w',by simp [Instr.box,h3],h4,h5,h6⟩
end
end
variable {e:TypeId}{x:AV}
section
section
variable {C:Ctx} {Z:Places} {O:Store} {w:World}
def zhi(C:Ctx)(s:TypeId)(f:Nat):Option (TypeId × Nat):=
 match C.P.underlying s with
 |some (.struct fs)=>match fs[f]? with|some fd=>some (fd.type,fd.offset)|none=>none
 | _=>none
def za2(C:Ctx)(s:TypeId)(f:Nat):Option Nat:=
 match C.P.underlying s with
 |some (.struct fs)=>match fs[f]? with|some fd=>(match z1j C fd.type with|some (_+1)=>some fd.offset| _=>none)|none=>none
 | _=>none
def zai(C:Ctx)(s:TypeId)(f:Nat):AV->Option AV
 | .ptr r i off=>(za2 C s f).map fun k=> .ptr r i (off+k)
 | .vp cs=>(za2 C s f).bind fun k=>if k<=cs.length then some (.vp (cs.drop k))else none
 | _=>none
theorem Seg.drop_{b o:Nat}{vals:List Value}(h:Seg w b o vals)(k:Nat)(hk:k<=vals.length):Seg w b (o+k) (vals.drop k):=by
 have:=h.sub k (vals.length-k) hk
 rwa [List.take_of_length_le (by simp)]at this
theorem zno{s:TypeId}{f:Nat}(h:za2 C s f=some k)(b o:Nat):(Instr.fieldAt s (.pointer (some ⟨b,o,none⟩)) f).run C.P w=.ok (.pointer (some ⟨b,o+k,none⟩)) w:=by
 unfold za2 at h
 cases hu:C.P.underlying s with
 |none=>simp [hu]at h
 |some d=>cases d with
  |struct fs=>
   simp only [hu]at h
   cases hf:fs[f]? with
   |none=>simp [hf]at h
   |some fd=>
    simp only [hf]at h
    cases hs:z1j C fd.type with
    |none=>simp [hs]at h
    |some n=>cases n with
     |zero=>simp [hs]at h
     |succ n=>
      simp [hs]at h;subst h
      simp [Instr.fieldAt,run_underlying hu,hf,Instr.sureAddr,fieldPlace,z22 hs,z3i]
  | _=>simp [hu]at h
theorem zt2{s:TypeId}{f:Nat}{p a:AV}{cp:Value}(hp:VR Z w p cp)(h:zai C s f p=some a):
  ∃v,(Instr.fieldAt s cp f).run C.P w=.ok v w/\ VR Z w a v:=by
 unfold zai at h
 split at h
 ·rename_i r i off
  simp only [Option.map_eq_some_iff]at h
  obtain⟨k,hk,rfl⟩:=h
  simp only [VR]at hp ⊢
  obtain⟨fl,pl,hpl,rfl⟩:=hp
  exact⟨_,zno hk _ _,fl,pl,hpl,by simp [Nat.add_assoc]⟩
 ·rename_i cs
  simp only [Option.bind_eq_some_iff]at h
  obtain⟨k,hk,h⟩:=h
  split at h
  ·rename_i hle
   simp only [Option.some.injEq]at h
   subst h
   simp only [VR]at hp ⊢
   obtain⟨b,o,vals,rfl,h1,h2,h3⟩:=hp
   exact⟨_,zno hk _ _,b,o+k,vals.drop k,rfl,h1,h2.drop_ k (by rw [<-h3.length];exact hle),h3.drop k⟩
  ·cases h
 ·cases h
theorem zlv{ag:Bool}{vals:List Value}{a:AV}(hag:z2h C t=some ag)(hn:z1j C t=some n)(hv:VRs Z w cs vals)
  (ha:z3v cs off n ag=some a):∃v,(part t vals.toArray off).run C.P w=.ok v w/\ VR Z w a v:=by
 unfold z3v at ha
 cases ag with
 |true=>
  simp only [if_true]at ha
  split at ha
  ·simp only [Option.some.injEq]at ha
   subst ha
   refine⟨.agg ((vals.drop off).take n).toArray,?_,?_⟩
   ·simp [part,z85 hag,z22 hn]
   ·simp only [VR];exact⟨_,rfl,(hv.drop off).take n⟩
  ·cases ha
 |false=>
  simp only [Bool.false_eq_true,if_false]at ha
  obtain⟨v,h1,h2⟩:=hv.get ha
  exact⟨v,by simp [part,z85 hag,h1],h2.1⟩
def zah(C:Ctx)(s:TypeId)(f:Nat):AV->Option AV
 | .agg cs=>(zhi C s f).bind fun x=>(z2h C x.1).bind fun ag=>(z1j C x.1).bind fun n=>z3v cs x.2 n ag
 | _=>none
theorem zt3{s:TypeId}{f:Nat}{a:AV}{cx:Value}(hx:VR Z w x cx)(h:zah C s f x=some a):∃v,(Instr.field s cx f).run C.P w=.ok v w/\ VR Z w a v:=by
 unfold zah at h
 split at h
 ·rename_i cs
  simp only [Option.bind_eq_some_iff]at h
  obtain⟨⟨t,off⟩,hf,ag,hag,n,hn,h⟩:=h
  simp only [VR]at hx
  obtain⟨vals,rfl,h2⟩:=hx
  obtain⟨v,h3,h4⟩:=zlv (C:=C) hag hn h2 h
  refine⟨v,?_,h4⟩
  unfold zhi at hf
  cases hu:C.P.underlying s with
  |none=>simp [hu]at hf
  |some d=>cases d with
   |struct fs=>
    simp only [hu]at hf
    cases hff:fs[f]? with
    |none=>simp [hff]at hf
    |some fd=>
     simp [hff]at hf
     obtain⟨rfl,rfl⟩:=hf
     simp only [Instr.field,Sem.run_bind,run_underlying hu,Result.andThen_ok,hff,asAgg,Sem.run_pure,h3]
   | _=>simp [hu]at hf
 ·cases h
def z4i(C:Ctx)(t:TypeId):Option (Nat × TypeId):=match C.P.underlying t with|some (.array n e)=>some (n,e)| _=>none
def tySl(C:Ctx)(t:TypeId):Option TypeId:=match C.P.underlying t with|some (.slice e)=>some e| _=>none
def tyStr(C:Ctx)(t:TypeId):Bool:=match C.P.underlying t with|some .string=>true| _=>false
theorem z8e(h:z4i C t=some (n,e)):C.P.underlying t=some (.array n e):=by
 unfold z4i at h;split at h
 ·rename_i h1;simp at h;obtain⟨rfl,rfl⟩:=h;exact h1
 ·cases h
theorem z27(h:tySl C t=some e):C.P.underlying t=some (.slice e):=by
 unfold tySl at h;split at h
 ·rename_i h1;simp at h;subst h;exact h1
 ·cases h
theorem z5g(h:tyStr C t=true):C.P.underlying t=some .string:=by
 unfold tyStr at h;split at h
 ·assumption
 ·cases h
def zaj(n sz:Nat)(i:Int):AV->Option AV
 | .ptr r j off=>if 0<=i/\ i<n then some (.ptr r j (off+i.toNat*sz))else none
 | .vp cs=>if 0<=i/\ i<n then(if i.toNat*sz<=cs.length then some (.vp (cs.drop (i.toNat*sz)))else none)else none
 | _=>none
def zak(sz:Nat)(i:Int):AV->Option AV
 | .vsl esz es _=>if esz=sz/\ 0<=i then(es[i.toNat]?).map .vp else none
 | .sl r off len _ esz=>if esz=sz/\ 0<=i/\ i<len then some (.ptr r (off+i.toNat) 0)else none
 | .asl r j off len _ esz=>if esz=sz/\ 0<=i/\ i<len then some (.ptr r j (off+i.toNat*sz))else none
 | _=>none
def z8r(C:Ctx)(t:TypeId)(x ix:AV):Option AV:=
 match ix with
 | .int _ i=>match z4i C t with
  |some ne=>(z1j C ne.2).bind fun sz=>zaj ne.1 sz i x
  |none=>(tySl C t).bind fun e=>(z1j C e).bind fun sz=>zak sz i x
 | _=>none
theorem zun{ix a:AV}{cx ci:Value}(hx:VR Z w x cx)(hi:VR Z w ix ci)(h:z8r C t x ix=some a):
  ∃v,(Instr.indexAt t cx ci).run C.P w=.ok v w/\ VR Z w a v:=by
 unfold z8r at h
 split at h
 ·rename_i k i
  simp only [VR]at hi
  subst hi
  split at h
  ·rename_i ne hne
   obtain⟨n,e⟩:=ne
   have hu:=z8e hne
   simp only [Option.bind_eq_some_iff]at h
   obtain⟨sz,hsz,h⟩:=h
   unfold zaj at h
   split at h
   ·rename_i r j off
    split at h
    ·rename_i hin
     simp only [Option.some.injEq]at h;subst h
     simp only [VR]at hx ⊢
     obtain⟨fl,pl,hpl,rfl⟩:=hx
     refine⟨.pointer (some ⟨pl.b,pl.base+j*pl.esz+off+i.toNat*sz,none⟩),?_,fl,pl,hpl,by simp [Nat.add_assoc]⟩
     simp [Instr.indexAt,asIntOf,run_underlying hu,Instr.sureAddr,hin,z22 hsz,z3i]
    ·cases h
   ·rename_i cs
    split at h
    ·rename_i hin
     split at h
     ·rename_i hle
      simp only [Option.some.injEq]at h;subst h
      simp only [VR]at hx ⊢
      obtain⟨b,o,vals,rfl,h1,h2,h3⟩:=hx
      refine⟨.pointer (some ⟨b,o+i.toNat*sz,none⟩),?_,b,o+i.toNat*sz,vals.drop (i.toNat*sz),rfl,h1,h2.drop_ _ (by rw [<-h3.length];exact hle),h3.drop _⟩
      simp [Instr.indexAt,asIntOf,run_underlying hu,Instr.sureAddr,hin,z22 hsz,z3i]
     ·cases h
    ·cases h
   ·cases h
  ·simp only [Option.bind_eq_some_iff]at h
   obtain⟨e,he,sz,hsz,h⟩:=h
   have hu:=z27 he
   unfold zak at h
   split at h
   ·rename_i esz es ex
    split at h
    ·rename_i hin
     simp only [Option.map_eq_some_iff]at h
     obtain⟨cs,hcs,rfl⟩:=h
     obtain⟨rfl,hi0⟩:=hin
     simp only [VR]at hx ⊢
     rcases hx with⟨rfl,_⟩| ⟨b,o,cap,vals,rfl,hc1,hc2,h1,h2,h3,h4⟩
     ·simp at hcs
     have hlt:i.toNat<es.length:=by
      rcases Nat.lt_or_ge i.toNat es.length with h|h
      ·exact h
      ·simp [List.getElem?_eq_none h]at hcs
     have h5:=VRss.flat.1 h4
     obtain⟨hf,hfl,hcl⟩:=ze7 h3 hcs
     rw [hf]at h5
     obtain⟨m12,m3,rfl,h7,h8⟩:=h5.append_inv
     obtain⟨m1,m2,rfl,h9,h10⟩:=h7.append_inv
     have hm1:=h9.length
     refine⟨.pointer (some ⟨b,o+i.toNat*esz,none⟩),?_,b,o+i.toNat*esz,m2,rfl,h1,?_,h10⟩
     ·simp [Instr.indexAt,asIntOf,run_underlying hu,z22 hsz,z3i,hi0]
      intro hge;omega
     ·obtain⟨c,ty,fz,pre,post,k1,k2,k3⟩:=h2
      exact⟨c,ty,fz,pre++m1,m3++post,k1,by simp [k2,List.append_assoc],by simp [k3,<-hm1,hfl]⟩
    ·cases h
   ·rename_i r off len lim esz
    split at h
    ·rename_i hin
     simp only [Option.some.injEq]at h;subst h
     obtain⟨rfl,hi0,hi1⟩:=hin
     simp only [VR]at hx ⊢
     obtain⟨fl,pl,b,o,cap,hpl,he1,rfl,hok⟩:=hx
     have hcap:cap ≠ 0:=by have:=hok.le;omega
     obtain⟨rfl,rfl⟩:=hok.at_ hcap
     refine⟨.pointer (some ⟨pl.b,pl.base+off*pl.esz+i.toNat*esz,none⟩),?_,fl,pl,hpl,by simp [he1,Nat.add_mul,Nat.add_assoc]⟩
     simp [Instr.indexAt,asIntOf,run_underlying hu,z22 hsz,z3i,hi0]
     intro hge;omega
    ·cases h
   ·rename_i r j off len cap esz
    split at h
    ·rename_i hin
     simp only [Option.some.injEq]at h;subst h
     obtain⟨rfl,hi0,hi1⟩:=hin
     simp only [VR]at hx ⊢
     obtain⟨fl,pl,b,o,hpl,rfl,hle,hat⟩:=hx
     have hcap:cap ≠ 0:=by omega
     obtain⟨rfl,rfl⟩:=hat hcap
     refine⟨.pointer (some ⟨pl.b,pl.base+j*pl.esz+off+i.toNat*esz,none⟩),?_,fl,pl,hpl,by simp [Nat.add_assoc]⟩
     simp [Instr.indexAt,asIntOf,run_underlying hu,z22 hsz,z3i,hi0]
     intro hge;omega
    ·cases h
   ·cases h
 ·cases h
def z8q(C:Ctx)(t:TypeId)(x ix:AV):Option AV:=
 match x,ix with
 | .agg cs,.int _ i=>(z4i C t).bind fun ne=>if 0<=i/\ i<(ne.1:Int)then(z2h C ne.2).bind fun ag=>(z1j C ne.2).bind fun sz=>z3v cs (i.toNat*sz) sz ag else none
 | .str s,.int _ i=>if tyStr C t=true then(if 0<=i then(s[i.toNat]?).map fun b=> .int .u8 b.toNat else none)else none
 | _,_=>none
theorem zuo{ix a:AV}{cx ci:Value}(hx:VR Z w x cx)(hi:VR Z w ix ci)(h:z8q C t x ix=some a):∃v,(Instr.index t cx ci).run C.P w=.ok v w/\ VR Z w a v:=by
 unfold z8q at h
 split at h
 ·rename_i cs k i
  simp only [VR]at hi hx
  subst hi
  obtain⟨vals,rfl,hv⟩:=hx
  simp only [Option.bind_eq_some_iff]at h
  obtain⟨⟨n,e⟩,hne,h⟩:=h
  split at h
  ·rename_i hin
   simp only [Option.bind_eq_some_iff]at h
   obtain⟨ag,hag,sz,hsz,h⟩:=h
   obtain⟨v,h3,h4⟩:=zlv (C:=C) hag hsz hv h
   refine⟨v,?_,h4⟩
   simp only at hin
   simp [Instr.index,asIntOf,run_underlying (z8e hne),hin,z22 hsz,h3]
  ·cases h
 ·rename_i s k i
  simp only [VR]at hi hx
  subst hi;subst hx
  split at h
  ·rename_i hst
   split at h
   ·rename_i hi0
    simp only [Option.map_eq_some_iff]at h
    obtain⟨b,hb,rfl⟩:=h
    refine⟨.int .u8 b.toNat,?_,by simp [VR]⟩
    have:(⟨s.toArray⟩:ByteArray)[i.toNat]? =some b:=by
     show (if h:i.toNat<_ then _ else _)=_
     have hlt:i.toNat<s.length:=by
      rcases Nat.lt_or_ge i.toNat s.length with h|h
      ·exact h
      ·simp [List.getElem?_eq_none h]at hb
     rw [dif_pos (by simpa [ByteArray.size]using hlt)]
     rw [List.getElem?_eq_getElem hlt]at hb
     exact hb
    simp [Instr.index,asIntOf,run_underlying (z5g hst),hi0,this]
   ·cases h
  ·cases h
 ·cases h
theorem VR.int{k:IntKind}{n:Int}:VR Z w (.int k n) (.int k n):=by simp only [VR]
theorem VR.bool{b:Bool}:VR Z w (.bool b) (.bool b):=by simp only [VR]
theorem z8w(s:List UInt8):(⟨s.toArray⟩:ByteArray).size=s.length:=by show s.toArray.size=_;simp
def aLen(C:Ctx)(t:TypeId)(x:AV):Option AV:=
 match x with
 | .str s=>if tyStr C t=true then some (.int .i64 s.length)else none
 | .nilsl=>(tySl C t).map fun _=> .int .i64 0
 | .vsl _ es _=>(tySl C t).map fun _=> .int .i64 es.length
 | .sl _ _ len _ _=>(tySl C t).map fun _=> .int .i64 len
 | .asl _ _ _ len _ _=>(tySl C t).map fun _=> .int .i64 len
 | .agg _=>(z4i C t).map fun ne=> .int .i64 ne.1
 | _=>none
theorem len_ok{ty:TypeId}{a:AV}{cx:Value}(hx:VR Z w x cx)(h:aLen C t x=some a):∃v,(Builtin.len_ #[t] ty #[cx]).run C.P w=.ok v w/\ VR Z w a v:=by
 unfold aLen at h
 split at h
 ·rename_i s
  split at h
  ·rename_i hst
   simp only [Option.some.injEq]at h;subst h
   simp only [VR]at hx;subst hx
   exact⟨.int .i64 s.length,by simp [Builtin.len_,run_underlying (z5g hst),goInt,z8w],VR.int⟩
  ·cases h
 ·simp only [Option.map_eq_some_iff]at h
  obtain⟨e,he,rfl⟩:=h
  simp only [VR]at hx;subst hx
  exact⟨.int .i64 0,by simp [Builtin.len_,run_underlying (z27 he),goInt],VR.int⟩
 ·rename_i esz es ex
  simp only [Option.map_eq_some_iff]at h
  obtain⟨e,he,rfl⟩:=h
  simp only [VR]at hx
  rcases hx with⟨rfl,a,rfl⟩| ⟨b,o,cap,vals,rfl,_⟩
  ·exact⟨.int .i64 0,by simp [Builtin.len_,run_underlying (z27 he),goInt],VR.int⟩
  exact⟨.int .i64 es.length,by simp [Builtin.len_,run_underlying (z27 he),goInt],VR.int⟩
 ·rename_i r off len lim esz
  simp only [Option.map_eq_some_iff]at h
  obtain⟨e,he,rfl⟩:=h
  simp only [VR]at hx
  obtain⟨fl,pl,b,o,cap,hpl,_,rfl,_⟩:=hx
  exact⟨.int .i64 len,by simp [Builtin.len_,run_underlying (z27 he),goInt],VR.int⟩
 ·rename_i r i off len cap esz
  simp only [Option.map_eq_some_iff]at h
  obtain⟨e,he,rfl⟩:=h
  simp only [VR]at hx
  obtain⟨fl,pl,b,o,hpl,rfl,_⟩:=hx
  exact⟨.int .i64 len,by simp [Builtin.len_,run_underlying (z27 he),goInt],VR.int⟩
 ·simp only [Option.map_eq_some_iff]at h
  obtain⟨⟨n,e⟩,he,rfl⟩:=h
  simp only [VR]at hx
  obtain⟨vals,rfl,_⟩:=hx
  exact⟨.int .i64 n,by simp [Builtin.len_,run_underlying (z8e he),goInt],VR.int⟩
 ·cases h
end
end
variable {sz:Nat}
section
section
variable {C:Ctx} {Z:Places} {O:Store} {w:World}
theorem zk3(l:List (List AV))(k:Nat)(hl:∀e ∈ l,e.length=sz):(l.take k).flatten=l.flatten.take (k*sz):=by
 induction l generalizing k with
 |nil=>simp
 |cons x l ih=>
  cases k with
  |zero=>simp
  |succ k=>
   rw [List.take_succ_cons,List.flatten_cons,ih k (fun e he=>hl e (by simp [he])),List.flatten_cons,show (k+1)*sz=x.length+k*sz by rw [hl x (by simp),Nat.succ_mul,Nat.add_comm],
    List.take_length_add_append]
theorem ztm(l:List (List AV))(k:Nat)(hl:∀e ∈ l,e.length=sz):(l.drop k).flatten=l.flatten.drop (k*sz):=by
 induction l generalizing k with
 |nil=>simp
 |cons x l ih=>
  cases k with
  |zero=>simp
  |succ k=>
   rw [List.drop_succ_cons,ih k (fun e he=>hl e (by simp [he])),List.flatten_cons,show (k+1)*sz=x.length+k*sz by rw [hl x (by simp),Nat.succ_mul,Nat.add_comm],
    List.drop_length_add_append]
def OV(Z:Places)(w:World):Option AV->Option Value->Prop
 |none,none=>True
 |some a,some v=>VR Z w a v
 | _,_=>False
def bnd(x:Option AV)(d:Nat):Option Nat:=
 match x with
 |none=>some d
 |some (.int _ n)=>if 0<=n then some n.toNat else none
 |some _=>none
theorem z2d{x:Option AV}{v:Option Value}{d l:Nat}(hv:OV Z w x v)(h:bnd x d=some l):(v=none/\ x=none/\ l=d) \/ ∃k,v=some (.int k (l:Int)):=by
 unfold bnd at h
 split at h
 ·cases v with
  |none=>simp at h;exact .inl ⟨rfl,rfl,h.symm⟩
  |some v=>simp [OV]at hv
 ·cases v with
  |none=>simp [OV]at hv
  |some v=>
   simp only [OV,VR]at hv
   subst hv
   rename_i k n
   split at h
   ·simp only [Option.some.injEq]at h
    have:(l:Int)=n:=by omega
    exact .inr ⟨k,by rw [this]⟩
   ·cases h
 ·cases h
theorem znr{k:IntKind}{l y:Nat}{code:BoundsCode}(h:l<=y):(Instr.sliceBound (.int k (l:Int)) y code).run C.P w=.ok l w:=by
 have h1:(0:Int)<=(l:Int)/\ (l:Int)<=(y:Int):=by omega
 simp [Instr.sliceBound,asIntOf,h]
theorem z4u{isSl:Bool}{len cap l h m:Nat}{lo hi mx:Option Value}(hm:(mx=none/\ m=cap) \/((∃k,mx=some (.int k (m:Int)))/\ m<=cap/\ ∃v,hi=some v))
  (hh:(hi=none/\ h=len) \/((∃k,hi=some (.int k (h:Int)))/\ h<=m)) (hl:(lo=none/\ l=0) \/((∃k,lo=some (.int k (l:Int)))/\ l<=h)):
  (Instr.sliceBounds isSl len cap lo hi mx).run C.P w=.ok (l,h,m) w:=by
 rcases hm with⟨rfl,rfl⟩| ⟨⟨k,rfl⟩,hm,v,hv⟩
 ·rcases hh with⟨rfl,rfl⟩| ⟨⟨k',rfl⟩,hh⟩<;>rcases hl with⟨rfl,rfl⟩| ⟨⟨k'',rfl⟩,hl⟩<;>simp [Instr.sliceBounds,znr, *]
 ·rcases hh with⟨rfl,rfl⟩| ⟨⟨k',rfl⟩,hh⟩
  ·cases hv
  ·rcases hl with⟨rfl,rfl⟩| ⟨⟨k'',rfl⟩,hl⟩<;>simp [Instr.sliceBounds,znr, *]
def zan(s:List UInt8)(lo hi mx:Option AV):Option AV:=
 match mx with
 |none=>(bnd hi s.length).bind fun h=>(bnd lo 0).bind fun l=>if l<=h/\ h<=s.length then some (.str ((s.take h).drop l))else none
 |some _=>none
def zao(esz:Nat)(es:List (List AV))(ex:Bool)(lo hi mx:Option AV):Option AV:=
 (bnd hi es.length).bind fun h=>(bnd lo 0).bind fun l=>
  match mx with
  |none=>if l<=h/\ h<=es.length then some (.vsl esz ((es.take h).drop l) (ex && (h==es.length)))else none
  |some _=>(bnd mx 0).bind fun m=>if hi.isSome=true/\ l<=h/\ h<=m/\ m<=es.length then some (.vsl esz ((es.take h).drop l) (m==h))else none
def limN:Option Nat->Nat
 |some c=>c+1
 |none=>0
def zam(n r off len:Nat)(lim:Option Nat)(esz:Nat)(lo hi mx:Option AV):Option AV:=
 (bnd hi len).bind fun h=>(bnd lo 0).bind fun l=>
  match mx with
  |none=>if l<=h/\ (h<=len \/(lim=none/\ off+h<=n) \/h<limN lim)then some (.sl r (off+l) (h-l) (lim.map (· -l)) esz)else none
  |some _=>(bnd mx 0).bind fun m=>if hi.isSome=true/\ l<=h/\ h<=m/\ (m<=len \/(lim=none/\ off+m<=n))then some (.sl r (off+l) (h-l) (some (m-l)) esz)else none
def z6e(r i off len cap esz:Nat)(lo hi mx:Option AV):Option AV:=
 (bnd hi len).bind fun h=>(bnd lo 0).bind fun l=>
  match mx with
  |none=>if l<=h/\ h<=cap then some (.asl r i (off+l*esz) (h-l) (cap-l) esz)else none
  |some _=>(bnd mx 0).bind fun m=>if hi.isSome=true/\ l<=h/\ h<=m/\ m<=cap then some (.asl r i (off+l*esz) (h-l) (m-l) esz)else none
def knownN(O:Store)(r:Nat):Nat:=match O[r]? with|some (some o)=>o.length| _=>0
def z7e(C:Ctx)(O:Store)(t:TypeId)(x:AV)(lo hi mx:Option AV):Option AV:=
 match x with
 | .str s=>if tyStr C t=true then zan s lo hi mx else none
 | .nilsl=>(tySl C t).bind fun e=>(z1j C e).bind fun _=>(bnd hi 0).bind fun h=>(bnd lo 0).bind fun l=>(bnd mx 0).bind fun m=>if h=0/\ l=0/\ m=0/\ (mx.isSome=true->hi.isSome=true)then some .nilsl else none
 | .vsl esz es ex=>(tySl C t).bind fun e=>(z1j C e).bind fun sz=>if sz=esz then zao esz es ex lo hi mx else none
 | .sl r off len lim esz=>(tySl C t).bind fun e=>(z1j C e).bind fun sz=>if sz=esz then zam 0 r off len lim esz lo hi mx else none
 | .asl r i off len cap esz=>(tySl C t).bind fun e=>(z1j C e).bind fun sz=>if sz=esz then z6e r i off len cap esz lo hi mx else none
 | .ptr r i off=>(z4i C t).bind fun ne=>(z1j C ne.2).bind fun sz=>z6e r i off ne.1 ne.1 sz lo hi mx
 | _=>none
theorem zk0(s:List UInt8)(l h:Nat):(⟨s.toArray⟩:ByteArray).extract l h=⟨((s.take h).drop l).toArray⟩:=by
 have e:((⟨s.toArray⟩:ByteArray).extract l h).data=(s.toArray).extract l h:=by simp
 cases hx:(⟨s.toArray⟩:ByteArray).extract l h with
 |mk d=>
  rw [hx]at e
  simp only at e
  rw [e]
  congr 1
  apply Array.ext'
  simp [List.drop_take]
theorem z10x (hR : Rel C Z O w) {t : TypeId} {x a : AV} {cx : Value} {lo hi mx : Option AV} {clo chi cmx : Option Value} (hx : VR Z w x cx) (hlo : OV Z w lo clo) (hhi : OV Z w hi chi) (hmx : OV Z w mx cmx)
    (h:z7e C O t x lo hi mx=some a):∃v,(Instr.sliceAt t cx clo chi cmx).run C.P w=.ok v w/\ VR Z w a v:=by
  unfold z7e at h
  split at h
  · -- a string
    rename_i s
    simp only [VR]at hx;subst hx
    split at h
    · rename_i hst
      have hu:=z5g hst
      unfold zan at h
      split at h
      · simp only [Option.bind_eq_some_iff]at h
        obtain⟨hn,hh,ln,hln,h⟩:=h
        split at h
        · rename_i hle
          simp only [Option.some.injEq]at h;subst h
          have hm0:cmx=none:=by cases cmx<;>simp [OV]at hmx ⊢
          subst hm0
          have hb:=z4u (C:=C) (w:=w) (isSl:=false) (len:=s.length) (cap:=s.length) (l:=ln) (h:=hn) (m:=s.length) (lo:=clo) (hi:=chi) (mx:=none) (.inl ⟨rfl,rfl⟩)
            (by rcases z2d hhi hh with ⟨h1, _, h2⟩ | h1
                · exact .inl ⟨h1,h2⟩
                · exact .inr ⟨h1,hle.2⟩)
            (by rcases z2d hlo hln with ⟨h1, _, h2⟩ | h1
                · exact .inl ⟨h1,h2⟩
                · exact .inr ⟨h1,hle.1⟩)
          refine⟨.string ⟨((s.take hn).drop ln).toArray⟩,?_,by simp only [VR]⟩
          simp [Instr.sliceAt,run_underlying hu,Instr.slice,z8w,hb,zk0]
        · cases h
      · cases h
    · cases h
  · -- nil
    simp only [VR]at hx;subst hx
    simp only [Option.bind_eq_some_iff]at h
    obtain⟨e,he,sz,hsz,hn,hh,ln,hln,mn,hmn,h⟩:=h
    split at h
    · rename_i hz
      obtain⟨rfl,rfl,rfl,hsome⟩:=hz
      simp only [Option.some.injEq]at h;subst h
      have hb:=z4u (C:=C) (w:=w) (isSl:=true) (len:=0) (cap:=0) (l:=0) (h:=0) (m:=0) (lo:=clo) (hi:=chi) (mx:=cmx)
        (by rcases z2d hmx hmn with ⟨h1, _, _⟩ | h1
            · exact .inl ⟨h1,rfl⟩
            · refine .inr ⟨h1,Nat.le_refl _,?_⟩
              obtain⟨k,rfl⟩:=h1
              have:hi.isSome=true:=hsome (by cases mx<;>simp [OV]at hmx ⊢)
              cases chi with
              |none=>cases hi<;>simp [OV]at hhi this
              |some v=>exact⟨v,rfl⟩)
        (by rcases z2d hhi hh with ⟨h1, _, _⟩ | h1
            · exact .inl ⟨h1,rfl⟩
            · exact .inr ⟨h1,Nat.le_refl _⟩)
        (by rcases z2d hlo hln with ⟨h1, _, _⟩ | h1
            · exact .inl ⟨h1,rfl⟩
            · exact .inr ⟨h1,Nat.le_refl _⟩)
      exact⟨.slice none 0 0,by simp [Instr.sliceAt,run_underlying (z27 he),Instr.slice,hb,z22 hsz],by simp only [VR]⟩
    · cases h
  · -- memory that nobody writes
    rename_i esz es ex
    simp only [Option.bind_eq_some_iff]at h
    obtain⟨e,he,sz,hsz,h⟩:=h
    split at h
    · rename_i hez
      subst hez
      unfold zao at h
      simp only [Option.bind_eq_some_iff]at h
      obtain⟨hn,hh,ln,hln,h⟩:=h
      simp only [VR]at hx
      obtain ⟨a, cap, rfl, hc1, hc2, key⟩ : ∃ a cap, cx = .slice (some a) es.length cap /\ es.length <= cap /\ (ex = true -> cap = es.length) ∧
          ∀m,ln<=hn->hn<=es.length->hn<=m->m<=cap->(Instr.sliceBounds true es.length cap clo chi cmx).run C.P w=.ok (ln,hn,m) w->
          ∀ex':Bool,(ex'=true->m=hn)->∃v,(Instr.sliceAt t (.slice (some a) es.length cap) clo chi cmx).run C.P w=.ok v w/\ VR Z w (.vsl sz ((es.take hn).drop ln) ex') v:=by
        rcases hx with⟨rfl,a0,rfl⟩| ⟨b,o,cap,vals,rfl,hc1,hc2,h1,h2,h3,h4⟩
        · refine⟨a0,0,rfl,by simp,fun _=>rfl,fun m hle1 hle2 hle3 hle4 hb ex' hex'=> ?_⟩
          simp only [List.length_nil,Nat.le_zero]at hle2 hle4
          subst hle2 hle4
          simp only [Nat.le_zero]at hle1
          subst hle1
          simp only [List.length_nil]at hb
          exact⟨.slice (some a0) 0 0,by simp [Instr.sliceAt,run_underlying (z27 he),Instr.slice,hb,z22 hsz],by simp only [VR];exact .inl ⟨by simp,a0,rfl⟩⟩
        refine⟨⟨b,o,none⟩,cap,rfl,hc1,hc2,?_⟩
        have hfl:=(VRss.flat.1 h4).length
        rw [z29 h3]at hfl
        intro m hle1 hle2 hle3 hle4 hb ex' hex'
        have hrun:(Instr.sliceAt t (.slice (some ⟨b,o,none⟩) es.length cap) clo chi cmx).run C.P w=.ok (.slice (some ⟨b,(if m=ln then o else o+ln*sz),none⟩) (hn-ln) (m-ln)) w:=by
          by_cases hml:m=ln
          · subst hml
            simp [Instr.sliceAt,run_underlying (z27 he),Instr.slice,hb,z22 hsz]
          · simp [Instr.sliceAt,run_underlying (z27 he),Instr.slice,hb,z22 hsz,hml,z3i]
        refine⟨_,hrun,?_⟩
        simp only [VR]
        right
        have hlen:((es.take hn).drop ln).length=hn-ln:=by simp;omega
        have hmul:ln*sz<=vals.length:=by rw [<-hfl];exact Nat.mul_le_mul_right _ (by omega)
        have hflat:((es.take hn).drop ln).flatten=(es.flatten.take (hn*sz)).drop (ln*sz):=by
          rw [ztm _ _ (fun e h=>h3 e (List.mem_of_mem_take h)),zk3 _ _ h3]
        refine⟨b,_,m-ln,(vals.take (hn*sz)).drop (ln*sz),by rw [hlen],by rw [hlen];omega,fun hx=>by rw [hlen];have:=hex' hx;omega,h1,?_,fun e h=>h3 e (List.mem_of_mem_take (List.mem_of_mem_drop h)),?_⟩
        · by_cases hml:m=ln
          · have hz:(vals.take (hn*sz)).drop (ln*sz)=[]:=by
              apply List.drop_of_length_le
              have:hn=ln:=by omega
              simp [this];omega
            rw [if_pos hml,hz]
            obtain⟨c,ty,fz,pre,post,k1,k2,k3⟩:=h2
            exact⟨c,ty,fz,pre,vals++post,k1,by simp [k2,List.append_assoc],k3⟩
          · rw [if_neg hml]
            have:=h2.sub (ln*sz) (hn*sz-ln*sz) hmul
            rwa [<-List.drop_take]at this
        · rw [VRss.flat,hflat]
          exact((VRss.flat.1 h4).take _).drop _
      split at h
      · split at h
        · rename_i hle
          simp only [Option.some.injEq]at h;subst h
          have hm0:cmx=none:=by cases cmx<;>simp [OV]at hmx ⊢
          subst hm0
          refine key cap hle.1 hle.2 (by omega) (Nat.le_refl _) (z4u (.inl ⟨rfl,rfl⟩) ?_ ?_) _ ?_
          · rcases z2d hhi hh with⟨k1,_,k2⟩|k1
            · exact .inl ⟨k1,k2⟩
            · exact .inr ⟨k1,by omega⟩
          · rcases z2d hlo hln with⟨k1,_,k2⟩|k1
            · exact .inl ⟨k1,k2⟩
            · exact .inr ⟨k1,hle.1⟩
          · intro hx
            simp only [Bool.and_eq_true,beq_iff_eq]at hx
            have:=hc2 hx.1
            omega
        · cases h
      · simp only [Option.bind_eq_some_iff]at h
        obtain⟨mn,hmn,h⟩:=h
        split at h
        · rename_i mx' hle
          simp only [Option.some.injEq]at h;subst h
          have hmm:∃k,cmx=some (.int k (mn:Int)):=by
            rcases z2d hmx hmn with⟨_,k1,_⟩|k1
            · cases k1
            · exact k1
          have hhv:∃v,chi=some v:=by
            cases chi with
            |none=>have:=hle.1;cases hi<;>simp [OV]at hhi this
            |some v=>exact⟨v,rfl⟩
          refine key mn hle.2.1 (by omega) hle.2.2.1 (by omega) (z4u (.inr ⟨hmm,by omega,hhv⟩) ?_ ?_) _ ?_
          · rcases z2d hhi hh with⟨k1,_,k2⟩|k1
            · exact .inl ⟨k1,k2⟩
            · exact .inr ⟨k1,hle.2.2.1⟩
          · rcases z2d hlo hln with⟨k1,_,k2⟩|k1
            · exact .inl ⟨k1,k2⟩
            · exact .inr ⟨k1,hle.2.1⟩
          · intro hx;simpa using hx
        · cases h
    · cases h
  · -- a row of one's own
    rename_i r off len lim esz
    simp only [Option.bind_eq_some_iff]at h
    obtain⟨e,he,sz,hsz,h⟩:=h
    split at h
    · rename_i hez
      subst hez
      unfold zam at h
      simp only [Option.bind_eq_some_iff]at h
      obtain⟨hn,hh,ln,hln,h⟩:=h
      simp only [VR]at hx
      obtain⟨fl,pl,b,o,cap,hpl,he1,rfl,hok⟩:=hx
      have hkn:0<=pl.n:=Nat.zero_le _
      have key : ∀ m, ln <= hn -> hn <= m -> m <= cap -> (Instr.sliceBounds true len cap clo chi cmx).run C.P w = .ok (ln, hn, m) w ->
          ∀lim':Option Nat,(∀c,lim'=some c->m-ln=c)->(lim'=none->pl.n<=off+m)->∃v,(Instr.sliceAt t (.slice (some ⟨b,o,none⟩) len cap) clo chi cmx).run C.P w=.ok v w/\ VR Z w (.sl r (off+ln) (hn-ln) lim' sz) v:=by
        intro m hle1 hle3 hle4 hb lim' hlim1 hlim2
        have hrun:(Instr.sliceAt t (.slice (some ⟨b,o,none⟩) len cap) clo chi cmx).run C.P w=.ok (.slice (some ⟨b,(if m=ln then o else o+ln*sz),none⟩) (hn-ln) (m-ln)) w:=by
          by_cases hml:m=ln
          · subst hml
            simp [Instr.sliceAt,run_underlying (z27 he),Instr.slice,hb,z22 hsz]
          · simp [Instr.sliceAt,run_underlying (z27 he),Instr.slice,hb,z22 hsz,hml,z3i]
        refine⟨_,hrun,?_⟩
        simp only [VR]
        refine⟨fl,pl,b,_,m-ln,hpl,he1,rfl,⟨by omega,hlim1,fun hz=>by have:=hlim2 hz;omega,?_,fun hne=> ?_,hok.blk,?_⟩⟩
        · have:=hok.inside
          have h2:off+ln+(m-ln)<=off+cap:=by omega
          have h3:=Nat.mul_le_mul_right pl.esz h2
          omega
        · have hcap:cap ≠ 0:=by omega
          obtain⟨rfl,rfl⟩:=hok.at_ hcap
          rw [if_neg (by omega),he1]
          exact⟨rfl,by rw [Nat.add_mul,Nat.add_assoc]⟩
        · by_cases hml:m=ln
          · rw [if_pos hml];exact hok.ole
          · rw [if_neg hml]
            obtain⟨rfl,rfl⟩:=hok.at_ (by omega)
            have h2:off+ln<=off+cap:=by omega
            have h3:=Nat.mul_le_mul_right pl.esz h2
            have:=hok.inside
            rw [Nat.add_mul]at h3
            rw [<-he1]
            omega
      split at h
      · split at h
        · rename_i hle
          simp only [Option.some.injEq]at h;subst h
          have hm0:cmx=none:=by cases cmx<;>simp [OV]at hmx ⊢
          subst hm0
          have hcap:hn<=cap:=by
            rcases hle.2 with h1| ⟨h1,h2⟩|h1
            · have:=hok.le;omega
            · have:=hok.room h1;omega
            · cases lim with
              |none=>exact absurd h1 (Nat.not_lt_zero _)
              |some c=>
                have h2:hn<c+1:=h1
                have:=hok.lim_ c rfl
                omega
          refine key cap hle.1 hcap (Nat.le_refl _) (z4u (.inl ⟨rfl,rfl⟩) ?_ ?_) _ ?_ ?_
          · rcases z2d hhi hh with⟨k1,_,k2⟩|k1
            · exact .inl ⟨k1,k2⟩
            · exact .inr ⟨k1,hcap⟩
          · rcases z2d hlo hln with⟨k1,_,k2⟩|k1
            · exact .inl ⟨k1,k2⟩
            · exact .inr ⟨k1,hle.1⟩
          · intro c hc
            simp only [Option.map_eq_some_iff]at hc
            obtain⟨c',hc',rfl⟩:=hc
            rw [hok.lim_ c' hc']
          · intro hc
            simp only [Option.map_eq_none_iff]at hc
            exact hok.room hc
        · cases h
      · simp only [Option.bind_eq_some_iff]at h
        obtain⟨mn,hmn,h⟩:=h
        split at h
        · rename_i mx' hle
          simp only [Option.some.injEq]at h;subst h
          have hmm:∃k,cmx=some (.int k (mn:Int)):=by
            rcases z2d hmx hmn with⟨_,k1,_⟩|k1
            · cases k1
            · exact k1
          have hhv:∃v,chi=some v:=by
            cases chi with
            |none=>have:=hle.1;cases hi<;>simp [OV]at hhi this
            |some v=>exact⟨v,rfl⟩
          have hcap:mn<=cap:=by
            rcases hle.2.2.2 with h1| ⟨h1,h2⟩
            · have:=hok.le;omega
            · have:=hok.room h1;omega
          refine key mn hle.2.1 hle.2.2.1 hcap (z4u (.inr ⟨hmm,hcap,hhv⟩) ?_ ?_) _ ?_ ?_
          · rcases z2d hhi hh with⟨k1,_,k2⟩|k1
            · exact .inl ⟨k1,k2⟩
            · exact .inr ⟨k1,hle.2.2.1⟩
          · rcases z2d hlo hln with⟨k1,_,k2⟩|k1
            · exact .inl ⟨k1,k2⟩
            · exact .inr ⟨k1,hle.2.1⟩
          · intro c hc;simpa using hc
          · intro hc;cases hc
        · cases h
    · cases h
  · -- an array's slice
    rename_i r i off len cap esz
    simp only [Option.bind_eq_some_iff]at h
    obtain⟨e,he,sz,hsz,h⟩:=h
    split at h
    · rename_i hez
      subst hez
      simp only [VR]at hx
      obtain⟨fl,pl,b,o,hpl,rfl,hle0,hat⟩:=hx
      unfold z6e at h
      simp only [Option.bind_eq_some_iff]at h
      obtain⟨hn,hh,ln,hln,h⟩:=h
      have key : ∀ m, ln <= hn -> hn <= m -> m <= cap -> (Instr.sliceBounds true len cap clo chi cmx).run C.P w = .ok (ln, hn, m) w ->
          ∃v,(Instr.sliceAt t (.slice (some ⟨b,o,none⟩) len cap) clo chi cmx).run C.P w=.ok v w/\ VR Z w (.asl r i (off+ln*sz) (hn-ln) (m-ln) sz) v:=by
        intro m hle1 hle3 hle4 hb
        have hrun:(Instr.sliceAt t (.slice (some ⟨b,o,none⟩) len cap) clo chi cmx).run C.P w=.ok (.slice (some ⟨b,(if m=ln then o else o+ln*sz),none⟩) (hn-ln) (m-ln)) w:=by
          by_cases hml:m=ln
          · subst hml
            simp [Instr.sliceAt,run_underlying (z27 he),Instr.slice,hb,z22 hsz]
          · simp [Instr.sliceAt,run_underlying (z27 he),Instr.slice,hb,z22 hsz,hml,z3i]
        refine⟨_,hrun,?_⟩
        simp only [VR]
        refine⟨fl,pl,b,_,hpl,rfl,by omega,fun hne=> ?_⟩
        obtain⟨rfl,rfl⟩:=hat (by omega)
        rw [if_neg (by omega)]
        exact⟨rfl,by rw [Nat.add_assoc]⟩
      split at h
      · split at h
        · rename_i hle
          simp only [Option.some.injEq]at h;subst h
          have hm0:cmx=none:=by cases cmx<;>simp [OV]at hmx ⊢
          subst hm0
          refine key cap hle.1 hle.2 (Nat.le_refl _) (z4u (.inl ⟨rfl,rfl⟩) ?_ ?_)
          · rcases z2d hhi hh with⟨k1,_,k2⟩|k1
            · exact .inl ⟨k1,k2⟩
            · exact .inr ⟨k1,hle.2⟩
          · rcases z2d hlo hln with⟨k1,_,k2⟩|k1
            · exact .inl ⟨k1,k2⟩
            · exact .inr ⟨k1,hle.1⟩
        · cases h
      · simp only [Option.bind_eq_some_iff]at h
        obtain⟨mn,hmn,h⟩:=h
        split at h
        · rename_i mx' hle
          simp only [Option.some.injEq]at h;subst h
          have hmm:∃k,cmx=some (.int k (mn:Int)):=by
            rcases z2d hmx hmn with⟨_,k1,_⟩|k1
            · cases k1
            · exact k1
          have hhv:∃v,chi=some v:=by
            cases chi with
            |none=>have:=hle.1;cases hi<;>simp [OV]at hhi this
            |some v=>exact⟨v,rfl⟩
          refine key mn hle.2.1 hle.2.2.1 hle.2.2.2 (z4u (.inr ⟨hmm,hle.2.2.2,hhv⟩) ?_ ?_)
          · rcases z2d hhi hh with⟨k1,_,k2⟩|k1
            · exact .inl ⟨k1,k2⟩
            · exact .inr ⟨k1,hle.2.2.1⟩
          · rcases z2d hlo hln with⟨k1,_,k2⟩|k1
            · exact .inl ⟨k1,k2⟩
            · exact .inr ⟨k1,hle.2.1⟩
        · cases h
    · cases h
  · -- an array, by its address
    rename_i r i off
    simp only [Option.bind_eq_some_iff]at h
    obtain⟨⟨n,e⟩,he,sz,hsz,h⟩:=h
    simp only [VR]at hx
    obtain⟨fl,pl,hpl,rfl⟩:=hx
    unfold z6e at h
    simp only [Option.bind_eq_some_iff]at h
    obtain⟨hn,hh,ln,hln,h⟩:=h
    have key : ∀ m, ln <= hn -> hn <= m -> m <= n -> (Instr.sliceBounds false n n clo chi cmx).run C.P w = .ok (ln, hn, m) w ->
        ∃v,(Instr.sliceAt t (.pointer (some ⟨pl.b,pl.base+i*pl.esz+off,none⟩)) clo chi cmx).run C.P w=.ok v w/\ VR Z w (.asl r i (off+ln*sz) (hn-ln) (m-ln) sz) v:=by
      intro m hle1 hle3 hle4 hb
      have hrun : (Instr.sliceAt t (.pointer (some ⟨pl.b, pl.base + i * pl.esz + off, none⟩)) clo chi cmx).run C.P w =
          .ok (.slice (some ⟨pl.b,(if m=ln then pl.base+i*pl.esz+off else pl.base+i*pl.esz+off+ln*sz),none⟩) (hn-ln) (m-ln)) w:=by
        by_cases hml:m=ln
        · subst hml
          simp [Instr.sliceAt,run_underlying (z8e he),Instr.sureAddr,hb,z22 hsz]
        · simp [Instr.sliceAt,run_underlying (z8e he),Instr.sureAddr,hb,z22 hsz,hml,z3i]
      refine⟨_,hrun,?_⟩
      simp only [VR]
      refine⟨fl,pl,pl.b,_,hpl,rfl,by omega,fun hne=> ?_⟩
      rw [if_neg (by omega)]
      exact⟨rfl,by rw [Nat.add_assoc]⟩
    split at h
    · split at h
      · rename_i hle
        simp only [Option.some.injEq]at h;subst h
        have hm0:cmx=none:=by cases cmx<;>simp [OV]at hmx ⊢
        subst hm0
        refine key n hle.1 hle.2 (Nat.le_refl _) (z4u (.inl ⟨rfl,rfl⟩) ?_ ?_)
        · rcases z2d hhi hh with⟨k1,_,k2⟩|k1
          · exact .inl ⟨k1,k2⟩
          · exact .inr ⟨k1,hle.2⟩
        · rcases z2d hlo hln with⟨k1,_,k2⟩|k1
          · exact .inl ⟨k1,k2⟩
          · exact .inr ⟨k1,hle.1⟩
      · cases h
    · simp only [Option.bind_eq_some_iff]at h
      obtain⟨mn,hmn,h⟩:=h
      split at h
      · rename_i mx' hle
        simp only [Option.some.injEq]at h;subst h
        have hmm:∃k,cmx=some (.int k (mn:Int)):=by
          rcases z2d hmx hmn with⟨_,k1,_⟩|k1
          · cases k1
          · exact k1
        have hhv:∃v,chi=some v:=by
          cases chi with
          |none=>have:=hle.1;cases hi<;>simp [OV]at hhi this
          |some v=>exact⟨v,rfl⟩
        refine key mn hle.2.1 hle.2.2.1 hle.2.2.2 (z4u (.inr ⟨hmm,hle.2.2.2,hhv⟩) ?_ ?_)
        · rcases z2d hhi hh with⟨k1,_,k2⟩|k1
          · exact .inl ⟨k1,k2⟩
          · exact .inr ⟨k1,hle.2.2.1⟩
        · rcases z2d hlo hln with⟨k1,_,k2⟩|k1
          · exact .inl ⟨k1,k2⟩
          · exact .inr ⟨k1,hle.2.1⟩
      · cases h
  · cases h
def chunk(esz:Nat):Nat->List AV->List (List AV)
 | 0,_=>[]
 |n+1,cs=>cs.take esz::chunk esz n (cs.drop esz)
theorem zjb(esz n:Nat)(cs:List AV)(h:n*esz<=cs.length):(chunk esz n cs).flatten=cs.take (n*esz)/\ (chunk esz n cs).length=n/\ ∀e ∈ chunk esz n cs,e.length=esz:=by
 induction n generalizing cs with
 |zero=>simp [chunk]
 |succ n ih=>
  rw [Nat.succ_mul]at h ⊢
  obtain⟨h1,h2,h3⟩:=ih (cs.drop esz) (by simp;omega)
  refine⟨?_,by simp [chunk,h2],fun e he=> ?_⟩
  ·simp only [chunk,List.flatten_cons,h1]
   rw [Nat.add_comm (n*esz) esz,List.take_add]
  ·simp only [chunk,List.mem_cons]at he
   rcases he with rfl|he
   ·simp;omega
   ·exact h3 e he
def z26(O:Store):AV->Option (List (List AV))
 | .nilsl=>some []
 | .vsl _ es _=>some es
 | .sl r off len _ _=>match O[r]? with|some (some o)=>if off+len<=o.length then some ((o.drop off).take len)else none| _=>none
 | .asl r i off len _ esz=>match O[r]? with|some (some o)=>(o[i]?).bind fun cs=>if off+len*esz<=cs.length then some (chunk esz len (cs.drop off))else none| _=>none
 | _=>none
theorem z5d(hR:Rel C Z O w){x:AV}{v:Value}{es:List (List AV)}(hx:VR Z w x v)(h:z26 O x=some es):
  ∃a cap,v=.slice a es.length cap/\ (es.length ≠ 0->∃b o vals,a=some ⟨b,o,none⟩/\ Seg w b o vals/\ VRs Z w es.flatten vals)/\ (a=none->x=.nilsl):=by
 unfold z26 at h
 split at h
 ·simp only [Option.some.injEq]at h;subst h
  simp only [VR]at hx;subst hx
  exact⟨none,0,rfl,by simp,by simp⟩
 ·simp only [Option.some.injEq]at h;subst h
  simp only [VR]at hx
  rcases hx with⟨rfl,a,rfl⟩| ⟨b,o,cap,vals,rfl,_,_,_,h2,_,h4⟩
  ·exact⟨some a,0,rfl,by simp,by simp⟩
  ·exact⟨_,cap,rfl,fun _=>⟨b,o,vals,rfl,h2,VRss.flat.1 h4⟩,by simp⟩
 ·rename_i r off len lim esz
  split at h
  ·rename_i o ho
   split at h
   ·rename_i hle
    simp only [Option.some.injEq]at h;subst h
    obtain⟨pl,hpl,hok⟩:=hR.alive r o ho
    simp only [VR]at hx
    obtain⟨fl,pl',b,p,cap,hpl',he1,rfl,hso⟩:=hx
    rw [hpl]at hpl';cases hpl'
    have hlen:((o.drop off).take len).length=len:=by simp;omega
    refine⟨some ⟨b,p,none⟩,cap,by rw [hlen],fun hne=> ?_,by simp⟩
    rw [hlen]at hne
    obtain⟨rfl,rfl⟩:=hso.at_ (by have:=hso.le;omega)
    obtain⟨c,ty,fz,pre,mid,post,h1,h2,h3,h4,h5,h6⟩:=hok.ex
    have e:o.flatten=(o.take off).flatten++((o.drop off).take len).flatten++((o.drop off).drop len).flatten:=by
     conv=>lhs;rw [<-List.take_append_drop off o,<-List.take_append_drop len (o.drop off)]
     rw [List.flatten_append,List.flatten_append,List.append_assoc]
    rw [e]at h5
    obtain⟨m12,m3,rfl,h7,h8⟩:=h5.append_inv
    obtain⟨m1,m2,rfl,h9,h10⟩:=h7.append_inv
    have hl1:=h9.length
    rw [z29 (k:=pl.esz) (fun e h=>hok.esz e (List.mem_of_mem_take h)),List.length_take,Nat.min_eq_left (by omega)]at hl1
    exact⟨pl.b,_,m2,rfl,⟨c,ty,fz,pre++m1,m3++post,h1,by simp [h2,List.append_assoc],by simp [h3,<-hl1]⟩,h10⟩
   ·cases h
  ·cases h
 ·rename_i r i off len cap esz
  split at h
  ·rename_i o ho
   simp only [Option.bind_eq_some_iff]at h
   obtain⟨cs,hcs,h⟩:=h
   split at h
   ·rename_i hle
    simp only [Option.some.injEq]at h;subst h
    obtain⟨pl,hpl,hok⟩:=hR.alive r o ho
    simp only [VR]at hx
    obtain⟨fl,pl',b,p,hpl',rfl,hle0,hat⟩:=hx
    rw [hpl]at hpl';cases hpl'
    obtain⟨hf,hl,_⟩:=zjb esz len (cs.drop off) (by simp;omega)
    refine⟨some ⟨b,p,none⟩,cap,by rw [hl],fun hne=> ?_,by simp⟩
    rw [hl]at hne
    obtain⟨rfl,rfl⟩:=hat (by omega)
    obtain⟨vals,h1,h2⟩:=hok.elem hcs
    have:=h1.sub off (len*esz) (by rw [<-h2.length];omega)
    exact⟨pl.b,_,_,rfl,this,by rw [hf];exact(h2.drop _).take _⟩
   ·cases h
  ·cases h
 ·cases h
end
end
section
inductive LK where
 |b
 |i (k:IntKind)
 |s
 deriving DecidableEq
def z9i(rec:TypeId->Option (List LK))(P:Program):List Field->Nat->Option (List LK)
  | [],_=>some []
  | f :: fs, off => if f.name = "_" then none else
      (rec f.type).bind fun l=>if f.offset=off/\ (P.info? f.type).map (·.size)=some l.length then(z9i rec P fs (off+l.length)).map (l++ ·)else none
def leaves(P:Program):Nat->TypeId->Option (List LK)
 | 0,_=>none
 |d+1,t=>
  match P.underlying t with
  |some .bool=>some [.b]
  |some (.int k)=>some [.i k]
  |some .string=>some [.s]
  |some (.struct fs)=>if P.stoodInHeld t then none else z9i (leaves P d) P fs.toList 0
  |some (.array n e)=>(leaves P d e).bind fun l=>if P.cellsOf e=l.length then(if ((P.info? e).map (·.size))=some l.length then some (List.replicate n l).flatten else none)else none
  | _=>none
def z1p:AV->Option LK
 | .bool _=>some .b
 | .int k _=>some (.i k)
 | .str _=>some .s
 | _=>none
def z6k:AV->AV->Bool
 | .bool a,.bool b=>a==b
 | .int _ a,.int _ b=>a==b
 | .str a,.str b=>a==b
 | _,_=>false
def z2c:List AV->List AV->Bool
 | [],[]=>true
 |a::as_,b::bs=>z6k a b && z2c as_ bs
 | _,_=>false
theorem zjp{as_ bs ds:List AV}(h:as_.length=bs.length):z2c (as_++cs) (bs++ds)=(z2c as_ bs && z2c cs ds):=by
 induction as_ generalizing bs with
 |nil=>cases bs<;>simp_all [z2c]
 |cons a as_ ih=>
  cases bs with
  |nil=>simp at h
  |cons b bs=>simp only [List.cons_append,z2c,ih (by simpa using h),Bool.and_assoc]
def mkV(ag:Bool)(vs:List Value):Value:=if ag then .agg vs.toArray else vs.headD undef
section
variable {C:Ctx} {Z:Places} {w:World}
theorem zbs{ag:Bool}{v1 A v2:List Value}(hag:z2h C t=some ag)(hn:(C.P.info? t).map (·.size)=some v1.length)(h1:ag=false->v1.length=1){cs:Array Value}{off:Nat}
  (hcs:cs.toList=A++v1++v2) (hoff:A.length=off):(part t cs off).run C.P w=.ok (mkV ag v1) w:=by
 have hsz:z1j C t=some v1.length:=hn
 obtain⟨l⟩:=cs
 simp only at hcs
 subst hcs
 cases ag with
 |true=>
  simp only [part,Sem.run_bind,z85 hag,Result.andThen_ok,if_true,z22 hsz,Sem.run_pure,mkV]
  congr 2
  apply Array.ext'
  rw [Array.toList_extract]
  simp only [List.extract_eq_take_drop]
  rw [<-hoff,List.append_assoc,List.drop_left,show A.length+v1.length-A.length=v1.length by omega,List.take_left]
 |false=>
  have h1:=h1 rfl
  match v1,h1 with
  | [v],_=>
   have:(A++ [v]++v2)[off]? =some v:=by
    rw [List.append_assoc,List.getElem?_append_right (by omega)]
    simp [hoff]
   have h2:(Array.mk (A++ [v]++v2))[off]? =some v:=by rw [<-this];exact List.getElem?_toArray
   simp only [part,Sem.run_bind,z85 hag,Result.andThen_ok,Bool.false_eq_true,if_false,h2,Sem.run_pure,mkV,List.headD_cons]
theorem zjq{D:Nat}{rec:TypeId->Option (List LK)}
  (ih:∀(t:TypeId) (l:List LK),rec t=some l->∀(xs ys:List AV) (vx vy:List Value),xs.map z1p=l.map some->ys.map z1p=l.map some->VRs Z w xs vx->VRs Z w ys vy->
   ∃ag,z2h C t=some ag/\ (ag=false->l.length=1)/\ (Op.equalIn D t (mkV ag vx) (mkV ag vy)).run C.P w=.ok (z2c xs ys) w):
  ∀(fs:List Field) (off:Nat) (l:List LK),z9i rec C.P fs off=some l->∀(xs ys:List AV) (vx vy A B:List Value) (cx cy:Array Value),xs.map z1p=l.map some->ys.map z1p=l.map some->
   VRs Z w xs vx->VRs Z w ys vy->cx.toList=A++vx->cy.toList=B++vy->A.length=off->B.length=off->(Op.eqFields D cx cy fs).run C.P w=.ok (z2c xs ys) w
 | [],off,l,hl,xs,ys,vx,vy,A,B,cx,cy,hx,hy,hvx,hvy,hcx,hcy,hA,hB=>by
  simp only [z9i,Option.some.injEq]at hl
  subst hl
  simp only [List.map_nil,List.map_eq_nil_iff]at hx hy
  subst hx;subst hy
  simp [Op.eqFields,z2c]
 |f::fs,off,l,hl,xs,ys,vx,vy,A,B,cx,cy,hx,hy,hvx,hvy,hcx,hcy,hA,hB=>by
  simp only [z9i]at hl
  split at hl
  ·cases hl
  ·rename_i hname
   simp only [Option.bind_eq_some_iff]at hl
   obtain⟨l1,hl1,hl⟩:=hl
   split at hl
   ·rename_i hc
    simp only [Option.map_eq_some_iff]at hl
    obtain⟨l2,hl2,rfl⟩:=hl
    have split_:∀(zs:List AV) (vz:List Value),zs.map z1p=(l1++l2).map some->VRs Z w zs vz->∃z1 z2 u1 u2,zs=z1++z2/\ vz=u1++u2/\ z1.map z1p=l1.map some/\ z2.map z1p=l2.map some/\ VRs Z w z1 u1/\ VRs Z w z2 u2/\ z1.length=l1.length:=by
     intro zs vz hz hv
     rw [List.map_append]at hz
     obtain⟨z1,z2,rfl,h1,h2⟩:=List.map_eq_append_iff.1 hz
     obtain⟨u1,u2,rfl,h3,h4⟩:=hv.append_inv
     refine⟨z1,z2,u1,u2,rfl,rfl,h1,h2,h3,h4,?_⟩
     have:=congrArg List.length h1
     simpa using this
    obtain⟨x1,x2,a1,a2,rfl,rfl,px1,px2,qx1,qx2,lx⟩:=split_ xs vx hx hvx
    obtain⟨y1,y2,b1,b2,rfl,rfl,py1,py2,qy1,qy2,ly⟩:=split_ ys vy hy hvy
    obtain⟨ag,hag,hone,heq⟩:=ih f.type l1 hl1 x1 y1 a1 b1 px1 py1 qx1 qy1
    have la:=qx1.length;have lb:=qy1.length
    have e1:=zbs (C:=C) (w:=w) (t:=f.type) (v1:=a1) (A:=A) (v2:=a2) hag (by rw [hc.2,<-la,lx]) (fun h=>by rw [<-la,lx];exact hone h) (cs:=cx) (off:=f.offset) (by rw [hcx,List.append_assoc]) (by rw [hc.1];exact hA)
    have e2:=zbs (C:=C) (w:=w) (t:=f.type) (v1:=b1) (A:=B) (v2:=b2) hag (by rw [hc.2,<-lb,ly]) (fun h=>by rw [<-lb,ly];exact hone h) (cs:=cy) (off:=f.offset) (by rw [hcy,List.append_assoc]) (by rw [hc.1];exact hB)
    have e3:=zjq ih fs (off+l1.length) l2 hl2 x2 y2 a2 b2 (A++a1) (B++b1) cx cy px2 py2 qx2 qy2 (by rw [hcx,List.append_assoc]) (by rw [hcy,List.append_assoc])
     (by rw [List.length_append,hA,<-la,lx]) (by rw [List.length_append,hB,<-lb,ly])
    have hne:(f.name ≠ "_")=True:=by simp [hname]
    simp only [Op.eqFields,hne,if_true,Sem.run_bind,e1,e2,heq,Result.andThen_ok,Sem.run_ite,Sem.run_pure,e3]
    rw [zjp (lx.trans ly.symm)]
    cases z2c x1 y1<;>simp
   ·cases hl
theorem zjr{D:Nat}{e:TypeId}{l1:List LK}{sz:Nat}(hsz:sz=l1.length)(hi:(C.P.info? e).map (·.size)=some l1.length)
  (ih:∀(xs ys:List AV) (vx vy:List Value),xs.map z1p=l1.map some->ys.map z1p=l1.map some->VRs Z w xs vx->VRs Z w ys vy->
   ∃ag,z2h C e=some ag/\ (ag=false->l1.length=1)/\ (Op.equalIn D e (mkV ag vx) (mkV ag vy)).run C.P w=.ok (z2c xs ys) w):
  ∀(n k:Nat) (xs ys:List AV) (vx vy A B:List Value) (cx cy:Array Value),xs.map z1p=(List.replicate n l1).flatten.map some->ys.map z1p=(List.replicate n l1).flatten.map some->
   VRs Z w xs vx->VRs Z w ys vy->cx.toList=A++vx->cy.toList=B++vy->A.length=k*sz->B.length=k*sz->(Op.eqItems D e sz cx cy (List.range' k n)).run C.P w=.ok (z2c xs ys) w
 | 0,k,xs,ys,vx,vy,A,B,cx,cy,hx,hy,hvx,hvy,hcx,hcy,hA,hB=>by
  simp only [List.replicate_zero,List.flatten_nil,List.map_nil,List.map_eq_nil_iff]at hx hy
  subst hx;subst hy
  simp [Op.eqItems,z2c]
 |n+1,k,xs,ys,vx,vy,A,B,cx,cy,hx,hy,hvx,hvy,hcx,hcy,hA,hB=>by
  have split_:∀(zs:List AV) (vz:List Value),zs.map z1p=(List.replicate (n+1) l1).flatten.map some->VRs Z w zs vz->∃z1 z2 u1 u2,zs=z1++z2/\ vz=u1++u2/\ z1.map z1p=l1.map some ∧
    z2.map z1p=(List.replicate n l1).flatten.map some/\ VRs Z w z1 u1/\ VRs Z w z2 u2/\ z1.length=l1.length:=by
   intro zs vz hz hv
   rw [List.replicate_succ,List.flatten_cons,List.map_append]at hz
   obtain⟨z1,z2,rfl,h1,h2⟩:=List.map_eq_append_iff.1 hz
   obtain⟨u1,u2,rfl,h3,h4⟩:=hv.append_inv
   refine⟨z1,z2,u1,u2,rfl,rfl,h1,h2,h3,h4,?_⟩
   have:=congrArg List.length h1
   simpa using this
  obtain⟨x1,x2,a1,a2,rfl,rfl,px1,px2,qx1,qx2,lx⟩:=split_ xs vx hx hvx
  obtain⟨y1,y2,b1,b2,rfl,rfl,py1,py2,qy1,qy2,ly⟩:=split_ ys vy hy hvy
  obtain⟨ag,hag,hone,heq⟩:=ih x1 y1 a1 b1 px1 py1 qx1 qy1
  have la:=qx1.length;have lb:=qy1.length
  have e1:=zbs (C:=C) (w:=w) (t:=e) (v1:=a1) (A:=A) (v2:=a2) hag (by rw [hi,<-la,lx]) (fun h=>by rw [<-la,lx];exact hone h) (cs:=cx) (off:=k*sz) (by rw [hcx,List.append_assoc]) hA
  have e2:=zbs (C:=C) (w:=w) (t:=e) (v1:=b1) (A:=B) (v2:=b2) hag (by rw [hi,<-lb,ly]) (fun h=>by rw [<-lb,ly];exact hone h) (cs:=cy) (off:=k*sz) (by rw [hcy,List.append_assoc]) hB
  have e3:=zjr hsz hi ih n (k+1) x2 y2 a2 b2 (A++a1) (B++b1) cx cy px2 py2 qx2 qy2 (by rw [hcx,List.append_assoc]) (by rw [hcy,List.append_assoc])
   (by rw [List.length_append,hA,<-la,lx,hsz,Nat.succ_mul]) (by rw [List.length_append,hB,<-lb,ly,hsz,Nat.succ_mul])
  simp only [List.range'_succ,Op.eqItems,Sem.run_bind,e1,e2,heq,Result.andThen_ok,Sem.run_ite,Sem.run_pure,e3]
  rw [zjp (lx.trans ly.symm)]
  cases z2c x1 y1<;>simp
theorem ze2:∀(d D:Nat) (t:TypeId) (l:List LK),leaves C.P d t=some l->d<=D->∀(xs ys:List AV) (vx vy:List Value),xs.map z1p=l.map some->ys.map z1p=l.map some->VRs Z w xs vx->VRs Z w ys vy->
  ∃ag,z2h C t=some ag/\ (ag=false->l.length=1)/\ (Op.equalIn D t (mkV ag vx) (mkV ag vy)).run C.P w=.ok (z2c xs ys) w
 | 0,D,t,l,hl,hd,xs,ys,vx,vy,hx,hy,hvx,hvy=>by simp [leaves]at hl
 |d+1,0,t,l,hl,hd,xs,ys,vx,vy,hx,hy,hvx,hvy=>by omega
 |d+1,D+1,t,l,hl,hd,xs,ys,vx,vy,hx,hy,hvx,hvy=>by
  have one:∀(zs:List AV) (vz:List Value) (k:LK),zs.map z1p=[k].map some->VRs Z w zs vz->∃z v,zs=[z]/\ vz=[v]/\ z1p z=some k/\ VR Z w z v:=by
   intro zs vz k hz hv
   match zs,hz,hv with
   | [],hz,_=>simp at hz
   | _::_::_,hz,_=>simp at hz
   | [z],hz,hv=>
    simp only [VRs]at hv
    obtain⟨v,vs',rfl,h2,h3⟩:=hv
    subst h3
    exact⟨z,v,rfl,rfl,by simpa using hz,h2.1⟩
  simp only [leaves]at hl
  split at hl
  ·rename_i hu
   simp only [Option.some.injEq]at hl;subst hl
   obtain⟨x,v,rfl,rfl,kx,rx⟩:=one xs vx _ hx hvx
   obtain⟨y,u,rfl,rfl,ky,ry⟩:=one ys vy _ hy hvy
   cases x<;>simp [z1p]at kx
   cases y<;>simp [z1p]at ky
   simp only [VR]at rx ry;subst rx;subst ry
   exact⟨false,by simp [z2h,hu],by simp,by simp [mkV,run_equalIn_bool' w D t _ _ hu,z2c,z6k]⟩
  ·rename_i k hu
   simp only [Option.some.injEq]at hl;subst hl
   obtain⟨x,v,rfl,rfl,kx,rx⟩:=one xs vx _ hx hvx
   obtain⟨y,u,rfl,rfl,ky,ry⟩:=one ys vy _ hy hvy
   cases x<;>simp [z1p]at kx
   cases y<;>simp [z1p]at ky
   subst kx;subst ky
   simp only [VR]at rx ry;subst rx;subst ry
   exact⟨false,by simp [z2h,hu],by simp,by simp [mkV,run_equalIn_int w D t _ _ _ _ hu,z2c,z6k]⟩
  ·rename_i hu
   simp only [Option.some.injEq]at hl;subst hl
   obtain⟨x,v,rfl,rfl,kx,rx⟩:=one xs vx _ hx hvx
   obtain⟨y,u,rfl,rfl,ky,ry⟩:=one ys vy _ hy hvy
   cases x<;>simp [z1p]at kx
   cases y<;>simp [z1p]at ky
   simp only [VR]at rx ry;subst rx;subst ry
   exact⟨false,by simp [z2h,hu],by simp,by simp [mkV,run_equalIn_string w D t _ _ hu,z2c,z6k,ByteArray.toList_eq]⟩
  ·rename_i fs hu
   split at hl
   ·cases hl
   ·rename_i hs
    have hfo:C.P.fieldsOf t=fs:=by simp [Program.fieldsOf,hu]
    refine⟨true,by simp [z2h,hu],by simp,?_⟩
    simp only [mkV,if_true]
    rw [run_equalIn_struct w D t _ _ (by rw [hfo];exact hu) (by simpa using hs),hfo]
    exact zjq (fun t l h xs ys vx vy h1 h2 h3 h4=>ze2 d D t l h (by omega) xs ys vx vy h1 h2 h3 h4) fs.toList 0 l hl xs ys vx vy [] [] _ _ hx hy hvx hvy (by simp) (by simp) rfl rfl
  ·rename_i n e hu
   simp only [Option.bind_eq_some_iff]at hl
   obtain⟨l1,hl1,hl⟩:=hl
   split at hl
   ·rename_i hc
    split at hl
    ·rename_i hi
     simp only [Option.some.injEq]at hl;subst hl
     refine⟨true,by simp [z2h,hu],by simp,?_⟩
     simp only [mkV,if_true]
     cases hii:C.P.info? e with
     |none=>simp [hii]at hi
     |some i=>
      rw [run_equalIn_array w D _ _ hu hii,List.range_eq_range']
      exact zjr hc hi (fun xs ys vx vy h1 h2 h3 h4=>ze2 d D e l1 hl1 (by omega) xs ys vx vy h1 h2 h3 h4) n 0 xs ys vx vy [] [] _ _ hx hy hvx hvy (by simp) (by simp) (by simp) (by simp)
    ·cases hl
   ·cases hl
  ·cases hl
end
end
variable {a b:Int}
section
section
variable {C:Ctx} {Z:Places} {O:Store} {w:World}
def z1d(op:BinOp)(k:IntKind)(a b:Int):Option AV:=
 match op with
 | .add=>some (.int k (k.wrap (a+b)))
 | .sub=>some (.int k (k.wrap (a-b)))
 | .mul=>some (.int k (k.wrap (a*b)))
 | .quo=>if b=0 then none else some (.int k (k.wrap (a.tdiv b)))
 | .rem=>if b=0 then none else some (.int k (a.tmod b))
 | .and=>some (.int k (k.wrap (BitVec.ofInt k.bits a &&& BitVec.ofInt k.bits b).toNat))
 | .or=>some (.int k (k.wrap (BitVec.ofInt k.bits a |||BitVec.ofInt k.bits b).toNat))
 | .xor=>some (.int k (k.wrap (BitVec.ofInt k.bits a^^^BitVec.ofInt k.bits b).toNat))
 | .andNot=>some (.int k (k.wrap (BitVec.ofInt k.bits a &&& ~~~BitVec.ofInt k.bits b).toNat))
 | .eql=>some (.bool (a==b))
 | .neq=>some (.bool (a !=b))
 | .lss=>some (.bool (decide (a<b)))
 | .leq=>some (.bool (decide (a<=b)))
 | .gtr=>some (.bool (decide (a>b)))
 | .geq=>some (.bool (decide (a>=b)))
 | _=>none
def z25(op:BinOp)(k:IntKind)(a b:Int):Option AV:=
 match op with
 | .shl=>if b<0 then none else some (.int k (k.wrap (a*2^(min b.toNat k.bits))))
 | .shr=>if b<0 then none else some (.int k (a.fdiv (2^(min b.toNat k.bits))))
 | _=>none
def z8b(op:BinOp)(a b:List UInt8):Option AV:=
 match op with
 | .add=>if a.length+b.length<=9223372036854775807 then some (.str (a++b))else none
 | .eql=>some (.bool (a==b))
 | .neq=>some (.bool (!(a==b)))
 | .lss=>some (.bool (Op.bytesLess a b))
 | .leq=>some (.bool (Op.bytesLess a b ||a==b))
 | .gtr=>some (.bool (!(Op.bytesLess a b ||a==b)))
 | .geq=>some (.bool (!Op.bytesLess a b))
 | _=>none
def eqOp(op:BinOp)(b:Bool):Option AV:=
 match op with
 | .eql=>some (.bool b)
 | .neq=>some (.bool (!b))
 | _=>none
def z5f(C:Ctx)(t:TypeId):Bool:=match C.P.underlying t with|some (.pointer _)=>true| _=>false
def zd0(C:Ctx)(t:TypeId):Bool:=match C.P.underlying t with|some .bool=>true| _=>false
def z8f(C:Ctx)(t:TypeId):Bool:=match C.P.underlying t with|some (.func _ _ _)=>true| _=>false
def za4(C:Ctx)(t:TypeId):Option (List LK):=if C.P.eqGuardType C.P.depth t=false then leaves C.P 40 t else none
def aEq(C:Ctx)(t:TypeId)(x y:AV):Option Bool:=
 match x,y with
 | .bool a,.bool b=>if zd0 C t=true then some (a==b)else none
 | .nilp,.nilp=>if z5f C t=true then some true else none
 | .ptr _ _ _,.nilp=>if z5f C t=true then some false else none
 | .vp _,.nilp=>if z5f C t=true then some false else none
 | .nilp,.ptr _ _ _=>if z5f C t=true then some false else none
 | .nilp,.vp _=>if z5f C t=true then some false else none
 | .nilsl,.nilsl=>(tySl C t).map fun _=>true
 | .vsl _ _ _,.nilsl=>(tySl C t).map fun _=>false
 | .sl _ _ _ _ _,.nilsl=>(tySl C t).map fun _=>false
 | .asl _ _ _ _ _ _,.nilsl=>(tySl C t).map fun _=>false
 | .nilfn,.nilfn=>if z8f C t=true then some true else none
 | .fn _ _,.nilfn=>if z8f C t=true then some false else none
 | .agg xs,.agg ys=>(za4 C t).bind fun l=>if xs.map z1p=l.map some/\ ys.map z1p=l.map some/\ z2h C t=some true then some (z2c xs ys)else none
 | _,_=>none
def aBin(C:Ctx)(op:BinOp)(t:TypeId)(x y:AV):Option AV:=
 match x,y with
 | .int k a,.int k' b=>match op with
  | .shl=>z25 .shl k a b
  | .shr=>z25 .shr k a b
  |op=>if k=k' then z1d op k a b else none
 | .str a,.str b=>z8b op a b
 |x,y=>(aEq C t x y).bind (eqOp op)
def asV:AV->Value
 | .int k n=> .int k n
 | .bool b=> .bool b
 | .str s=> .string ⟨s.toArray⟩
 | _=>undef
theorem zuy{op:BinOp}{k:IntKind}{r:AV}(h:z1d op k a b=some r):∃v,(binOp op t (.int k a) (.int k b)).run C.P w=.ok v w/\ VR Z w r v:=by
 refine⟨asV r,?_,?_⟩
 ·cases op<;>simp only [z1d,Option.some.injEq,reduceCtorEq]at h
  case quo=>
   split at h
   ·cases h
   ·rename_i hb
    simp only [Option.some.injEq]at h;subst h
    simp [binOp,Op.intDiv,hb,asV]
  case rem=>
   split at h
   ·cases h
   ·rename_i hb
    simp only [Option.some.injEq]at h;subst h
    simp [binOp,Op.intDiv,hb,asV]
  all_goals subst h
  all_goals simp [binOp,Op.intArith,Op.intBits,Op.intCmp,asV]
 ·cases op<;>simp only [z1d,Option.some.injEq,reduceCtorEq]at h
  case quo=>split at h<;>cases h;simp only [VR,asV]
  case rem=>split at h<;>cases h;simp only [VR,asV]
  all_goals subst h
  all_goals simp only [VR,asV]
theorem zo8{op:BinOp}{k k':IntKind}{r:AV}(h:z25 op k a b=some r):∃v,(binOp op t (.int k a) (.int k' b)).run C.P w=.ok v w/\ VR Z w r v:=by
 refine⟨asV r,?_,?_⟩
 ·cases op<;>simp only [z25,reduceCtorEq]at h
  all_goals (split at h;· cases h)
  all_goals (rename_i hb;simp only [Option.some.injEq]at h;subst h)
  all_goals simp [binOp,Op.shift,hb,asV]
 ·cases op<;>simp only [z25,reduceCtorEq]at h
  all_goals (split at h<;>cases h;simp only [VR,asV])
theorem z12i{op:BinOp}{a b:List UInt8}{r:AV}(h:z8b op a b=some r):∃v,(binOp op t (.string ⟨a.toArray⟩) (.string ⟨b.toArray⟩)).run C.P w=.ok v w/\ VR Z w r v:=by
 have e:binOp op t (.string ⟨a.toArray⟩) (.string ⟨b.toArray⟩)=Op.stringOp op ⟨a.toArray⟩ ⟨b.toArray⟩:=by cases op<;>rfl
 rw [e]
 refine⟨asV r,?_,?_⟩
 ·cases op<;>simp only [z8b,Option.some.injEq,reduceCtorEq]at h
  case add=>
   split at h
   ·rename_i hle
    simp only [Option.some.injEq]at h;subst h
    have h1:¬(((a.length+b.length:Nat):Int)>IntKind.i64.max):=by simp [IntKind.max,IntKind.signed,IntKind.bits];omega
    have h2:(⟨a.toArray⟩:ByteArray)++⟨b.toArray⟩=⟨(a++b).toArray⟩:=by
     apply ByteArray.ext
     simp
    simp only [Op.stringOp,z8w,h1,if_false,h2,Sem.run_pure,asV]
   ·cases h
  all_goals subst h
  all_goals simp [Op.stringOp,ByteArray.toList_eq,asV]
 ·cases op<;>simp only [z8b,Option.some.injEq,reduceCtorEq]at h
  case add=>split at h<;>cases h;simp only [VR,asV]
  all_goals subst h
  all_goals simp only [VR,asV]
theorem zsr{op:BinOp}{b:Bool}{r:AV}{vx vy:Value}(h:eqOp op b=some r)(hi:∀k a,vx ≠ .int k a)(hf:∀k a,vx ≠ .float k a)(hc:∀k a b,vx ≠ .complex k a b)(hs:∀s,vx ≠ .string s)
  (he:(Op.equalIn 10000 t vx vy).run C.P w=.ok b w):∃v,(binOp op t vx vy).run C.P w=.ok v w/\ VR Z w r v:=by
 have he':(Op.equal t vx vy).run C.P w=.ok b w:=he
 cases op<;>simp only [eqOp,Option.some.injEq,reduceCtorEq]at h
 all_goals subst h
 ·have e:binOp .eql t vx vy=(do pure (.bool (<-Op.equal t vx vy))):=by cases vx<;>first|rfl|exact absurd rfl (hi _ _)|exact absurd rfl (hf _ _)|exact absurd rfl (hc _ _ _)|exact absurd rfl (hs _)
  exact⟨.bool b,by rw [e];simp [he'],by simp only [VR]⟩
 ·have e:binOp .neq t vx vy=(do pure (.bool (!(<-Op.equal t vx vy)))):=by cases vx<;>first|rfl|exact absurd rfl (hi _ _)|exact absurd rfl (hf _ _)|exact absurd rfl (hc _ _ _)|exact absurd rfl (hs _)
  exact⟨.bool (!b),by rw [e];simp [he'],by simp only [VR]⟩
theorem eqn_pp{d:Nat}(hu:C.P.underlying t=some (.pointer e)):(Op.equalIn (d+1) t (.pointer none) (.pointer none)).run C.P w=.ok true w:=by simp [Op.equalIn,run_underlying hu]
theorem zjt{d:Nat}{a:Addr}(hu:C.P.underlying t=some (.pointer e)):(Op.equalIn (d+1) t (.pointer (some a)) (.pointer none)).run C.P w=.ok false w:=by simp [Op.equalIn,run_underlying hu]
theorem zju{d:Nat}{a:Addr}(hu:C.P.underlying t=some (.pointer e)):(Op.equalIn (d+1) t (.pointer none) (.pointer (some a))).run C.P w=.ok false w:=by simp [Op.equalIn,run_underlying hu]
theorem eqn_ss{d:Nat}(hu:C.P.underlying t=some (.slice e)):(Op.equalIn (d+1) t (.slice none 0 0) (.slice none 0 0)).run C.P w=.ok true w:=by simp [Op.equalIn,run_underlying hu]
theorem zba{d:Nat}{a:Addr}{c:Nat}(hu:C.P.underlying t=some (.slice e)):(Op.equalIn (d+1) t (.slice (some a) n c) (.slice none 0 0)).run C.P w=.ok false w:=by simp [Op.equalIn,run_underlying hu]
theorem eqn_ff{d:Nat}{p r:Array TypeId}{v:Bool}(hu:C.P.underlying t=some (.func p r v)):(Op.equalIn (d+1) t .nilFunc .nilFunc).run C.P w=.ok true w:=by simp [Op.equalIn,run_underlying hu]
theorem eqn_af{d:Nat}{p r:Array TypeId}{v:Bool}{f:Fn}{x y:Array Value}(hu:C.P.underlying t=some (.func p r v)):(Op.equalIn (d+1) t (.func f x y) .nilFunc).run C.P w=.ok false w:=by simp [Op.equalIn,run_underlying hu]
theorem aEq_ok {t : TypeId} {x y : AV} {vx vy : Value} {b : Bool} (hx : VR Z w x vx) (hy : VR Z w y vy) (h : aEq C t x y = some b) :
    (Op.equalIn 10000 t vx vy).run C.P w=.ok b w/\ (∀k a,vx ≠ .int k a)/\ (∀k a,vx ≠ .float k a)/\ (∀k a b,vx ≠ .complex k a b)/\ (∀s,vx ≠ .string s):=by
  have ptr:z5f C t=true->∃e,C.P.underlying t=some (.pointer e):=fun h=>by
    unfold z5f at h;split at h
    · exact⟨_,by assumption⟩
    · cases h
  have fnc:z8f C t=true->∃p r v,C.P.underlying t=some (.func p r v):=fun h=>by
    unfold z8f at h;split at h
    · exact⟨_,_,_,by assumption⟩
    · cases h
  unfold aEq at h
  split at h
  · split at h
    · rename_i ht
      have hu : C.P.underlying t = some .bool := by unfold zd0 at ht; split at ht; · assumption
                                                    · cases ht
      simp only [Option.some.injEq]at h;subst h
      simp only [VR]at hx hy;subst hx;subst hy
      exact⟨run_equalIn_bool' w 9999 t _ _ hu,by simp,by simp,by simp,by simp⟩
    · cases h
  · split at h
    · rename_i ht
      obtain⟨e,hu⟩:=ptr ht
      simp only [Option.some.injEq]at h;subst h
      simp only [VR]at hx hy;subst hx;subst hy
      exact⟨eqn_pp hu,by simp,by simp,by simp,by simp⟩
    · cases h
  · split at h
    · rename_i ht
      obtain⟨e,hu⟩:=ptr ht
      simp only [Option.some.injEq]at h;subst h
      simp only [VR]at hx hy;subst hy
      obtain⟨fl,pl,hpl,rfl⟩:=hx
      exact⟨zjt hu,by simp,by simp,by simp,by simp⟩
    · cases h
  · split at h
    · rename_i ht
      obtain⟨e,hu⟩:=ptr ht
      simp only [Option.some.injEq]at h;subst h
      simp only [VR]at hx hy;subst hy
      obtain⟨b,o,vals,rfl,_⟩:=hx
      exact⟨zjt hu,by simp,by simp,by simp,by simp⟩
    · cases h
  · split at h
    · rename_i ht
      obtain⟨e,hu⟩:=ptr ht
      simp only [Option.some.injEq]at h;subst h
      simp only [VR]at hx hy;subst hx
      obtain⟨fl,pl,hpl,rfl⟩:=hy
      exact⟨zju hu,by simp,by simp,by simp,by simp⟩
    · cases h
  · split at h
    · rename_i ht
      obtain⟨e,hu⟩:=ptr ht
      simp only [Option.some.injEq]at h;subst h
      simp only [VR]at hx hy;subst hx
      obtain⟨b,o,vals,rfl,_⟩:=hy
      exact⟨zju hu,by simp,by simp,by simp,by simp⟩
    · cases h
  · simp only [Option.map_eq_some_iff]at h
    obtain⟨e,he,rfl⟩:=h
    simp only [VR]at hx hy;subst hx;subst hy
    exact⟨eqn_ss (z27 he),by simp,by simp,by simp,by simp⟩
  · simp only [Option.map_eq_some_iff]at h
    obtain⟨e,he,rfl⟩:=h
    simp only [VR]at hx hy;subst hy
    rcases hx with⟨rfl,a,rfl⟩| ⟨b,o,cap,vals,rfl,_⟩
    · exact⟨zba (z27 he),by simp,by simp,by simp,by simp⟩
    exact⟨zba (z27 he),by simp,by simp,by simp,by simp⟩
  · simp only [Option.map_eq_some_iff]at h
    obtain⟨e,he,rfl⟩:=h
    simp only [VR]at hx hy;subst hy
    obtain⟨fl,pl,b,o,cap,hpl,_,rfl,_⟩:=hx
    exact⟨zba (z27 he),by simp,by simp,by simp,by simp⟩
  · simp only [Option.map_eq_some_iff]at h
    obtain⟨e,he,rfl⟩:=h
    simp only [VR]at hx hy;subst hy
    obtain⟨fl,pl,b,o,hpl,rfl,_⟩:=hx
    exact⟨zba (z27 he),by simp,by simp,by simp,by simp⟩
  · split at h
    · rename_i ht
      obtain⟨p,r,v,hu⟩:=fnc ht
      simp only [Option.some.injEq]at h;subst h
      simp only [VR]at hx hy;subst hx;subst hy
      exact⟨eqn_ff hu,by simp,by simp,by simp,by simp⟩
    · cases h
  · split at h
    · rename_i ht
      obtain⟨p,r,v,hu⟩:=fnc ht
      simp only [Option.some.injEq]at h;subst h
      simp only [VR]at hx hy;subst hy
      obtain⟨vs,rfl,_⟩:=hx
      exact⟨eqn_af hu,by simp,by simp,by simp,by simp⟩
    · cases h
  · rename_i xs ys
    simp only [Option.bind_eq_some_iff]at h
    obtain⟨l,hl,h⟩:=h
    split at h
    · rename_i hk
      simp only [Option.some.injEq]at h;subst h
      simp only [VR]at hx hy
      obtain⟨us,rfl,h1⟩:=hx
      obtain⟨vs,rfl,h2⟩:=hy
      have hl':leaves C.P 40 t=some l:=by
        unfold za4 at hl;split at hl
        · exact hl
        · cases hl
      obtain⟨ag,hag,_,he⟩:=ze2 (C:=C) 40 10000 t l hl' (by omega) xs ys us vs hk.1 hk.2.1 h1 h2
      rw [hk.2.2]at hag;cases hag
      exact⟨by simpa [mkV]using he,by simp,by simp,by simp,by simp⟩
    · cases h
  · cases h
theorem ze1{op:BinOp}{x y:Operand}{a b:Value}(h1:a ≠ .nilIface)(h2:∀cs,a ≠ .agg cs):(eqGuard op t x y a b).run C.P w=.ok () w:=by
 cases op<;>first
  |rfl
  |(cases a<;>first|exact absurd rfl h1|exact absurd rfl (h2 _)|(cases b<;>rfl))
theorem bin_ok{op:BinOp}{y r:AV}{vx vy:Value}{ox oy:Operand}(hx:VR Z w x vx)(hy:VR Z w y vy)(h:aBin C op t x y=some r):
  ∃v,(do eqGuard op t ox oy vx vy;binOp op t vx vy:Sem Value).run C.P w=.ok v w/\ VR Z w r v:=by
 unfold aBin at h
 split at h
 ·rename_i k a k' b
  simp only [VR]at hx hy;subst hx;subst hy
  have hg:=ze1 (C:=C) (w:=w) (op:=op) (t:=t) (x:=ox) (y:=oy) (a:=.int k a) (b:=.int k' b) (by simp) (by simp)
  split at h
  ·obtain⟨v,h1,h2⟩:=zo8 (C:=C) (Z:=Z) (w:=w) (k':=k') (t:=t) h
   exact⟨v,by simp [hg,h1],h2⟩
  ·obtain⟨v,h1,h2⟩:=zo8 (C:=C) (Z:=Z) (w:=w) (k':=k') (t:=t) h
   exact⟨v,by simp [hg,h1],h2⟩
  ·split at h
   ·rename_i hk
    subst hk
    obtain⟨v,h1,h2⟩:=zuy (C:=C) (Z:=Z) (w:=w) (t:=t) h
    exact⟨v,by simp [hg,h1],h2⟩
   ·cases h
 ·rename_i a b
  simp only [VR]at hx hy;subst hx;subst hy
  have hg:=ze1 (C:=C) (w:=w) (op:=op) (t:=t) (x:=ox) (y:=oy) (a:=.string ⟨a.toArray⟩) (b:=.string ⟨b.toArray⟩) (by simp) (by simp)
  obtain⟨v,h1,h2⟩:=z12i (C:=C) (Z:=Z) (w:=w) (t:=t) h
  exact⟨v,by simp [hg,h1],h2⟩
 ·simp only [Option.bind_eq_some_iff]at h
  obtain⟨b,hb,h⟩:=h
  obtain⟨h1,h2,h3,h4,h5⟩:=aEq_ok (C:=C) hx hy hb
  obtain⟨v,h6,h7⟩:=zsr (C:=C) (Z:=Z) (w:=w) h h2 h3 h4 h5 h1
  have hg:(eqGuard op t ox oy vx vy).run C.P w=.ok () w:=by
   by_cases hag:∃cs,vx=.agg cs
   ·obtain⟨cs,rfl⟩:=hag
    unfold aEq at hb
    split at hb
    case h_13 xs ys=>
     simp only [Option.bind_eq_some_iff]at hb
     obtain⟨l,hl,hb⟩:=hb
     have hm:C.P.eqGuardType C.P.depth t=false:=by
      unfold za4 at hl;split at hl
      ·assumption
      ·cases hl
     simp only [VR]at hy
     obtain⟨us,rfl,_⟩:=hy
     exact run_eqGuard_agg w op t ox oy _ _ hm
    case h_14=>cases hb
    all_goals
     exfalso
     first
      |(simp [VR]at hx;done)
      |(simp only [VR]at hx;obtain⟨_,_,_,hx⟩:=hx;simp at hx;done)
      |(simp only [VR]at hx;obtain⟨_,_,_,_,_,_,_,hx,_⟩:=hx;simp at hx;done)
      |(simp only [VR]at hx;obtain⟨_,_,_,_,_,hx,_⟩:=hx;simp at hx;done)
   ·refine ze1 ?_ (fun cs e=>hag ⟨cs,e⟩)
    rintro rfl
    unfold aEq at hb
    split at hb
    case h_14=>cases hb
    all_goals
     exfalso
     first
      |(simp [VR]at hx;done)
      |(simp only [VR]at hx;obtain⟨_,_,_,hx⟩:=hx;simp at hx;done)
      |(simp only [VR]at hx;obtain⟨_,_,_,_,_,_,_,hx,_⟩:=hx;simp at hx;done)
      |(simp only [VR]at hx;obtain⟨_,_,_,_,_,hx,_⟩:=hx;simp at hx;done)
  exact⟨v,by simp [hg,h6],h7⟩
def aUn(op:UnOp)(x:AV):Option AV:=
 match op,x with
 | .neg,.int k n=>some (.int k (k.wrap (0-n)))
 | .xor,.int k n=>some (.int k (k.wrap (BitVec.ofInt k.bits (if k.signed then-1 else k.max)^^^BitVec.ofInt k.bits n).toNat))
 | .not,.bool b=>some (.bool (!b))
 | _,_=>none
theorem un_ok{op:UnOp}{r:AV}{vx:Value}(hx:VR Z w x vx)(h:aUn op x=some r):∃v,(Op.unary op vx).run C.P w=.ok v w/\ VR Z w r v:=by
 refine⟨asV r,?_,?_⟩
 ·unfold aUn at h
  split at h
  ·simp only [VR]at hx;subst hx;simp only [Option.some.injEq]at h;subst h
   simp only [Op.unary,Op.intArith,Sem.run_pure,asV]
  ·simp only [VR]at hx;subst hx;simp only [Option.some.injEq]at h;subst h
   simp only [Op.unary,Op.intBits,Sem.run_pure,asV]
  ·simp only [VR]at hx;subst hx;simp only [Option.some.injEq]at h;subst h
   simp only [Op.unary,Sem.run_pure,asV]
  ·cases h
 ·unfold aUn at h
  split at h<;>cases h<;>simp only [VR,asV]
def aMin(mx:Bool)(x y:AV):Option AV:=
 match x,y with
 | .int k a,.int k' b=>if k=k' then some (.int k (if mx then(if b>a then b else a)else(if b<a then b else a)))else none
 | _,_=>none
end
end
variable {es:List (List AV)}{s:List UInt8}
section
section
variable {C:Ctx} {Z:Places} {O:Store} {w:World}
theorem Rel.kill(h:Rel C Z O w){r:Nat}{pl:Place}(hr:Z[r]? =some (true,pl)):Step Z w (Z.set r (false,pl)) w/\ Rel C (Z.set r (false,pl)) (O.set r none) w:=by
 have hrl:r<Z.length:=(List.getElem?_eq_some_iff.1 hr).1
 have hget:∀(q:Nat) (x:Place),(Z.set r (false,pl))[q]? =some (true,x)->q ≠ r/\ Z[q]? =some (true,x):=fun q x hq=>by
  by_cases e:r=q
  ·subst e;rw [List.getElem?_set_self hrl]at hq;simp at hq
  ·rw [List.getElem?_set_ne e]at hq;exact⟨fun e'=>e e'.symm,hq⟩
 have hs:Step Z w (Z.set r (false,pl)) w:=by
  refine⟨fun q fl x hq=> ?_,Nat.le_refl _,fun _ _ _=>rfl,fun q x hx=> .inl ⟨q,x,(hget q x hx).2,rfl⟩,rfl,rfl,rfl⟩
  by_cases e:r=q
  ·subst e
   rw [hr]at hq
   simp only [Option.some.injEq,Prod.mk.injEq]at hq
   exact⟨false,by rw [List.getElem?_set_self hrl,hq.2]⟩
  ·exact⟨fl,by rw [List.getElem?_set_ne e];exact hq⟩
 refine⟨hs,by simp [h.len],fun q o hq=> ?_,fun q hq=> ?_,fun q q' x x' h1 h2 h3=>h.inj q q' x x' (hget q x h1).2 (hget q' x' h2).2 h3,fun g cs hg=>(h.gl g cs hg).mono hs⟩
 ·by_cases e:r=q
  ·subst e
   rw [List.getElem?_set_self (by rw [<-h.len];exact hrl)]at hq;cases hq
  ·rw [List.getElem?_set_ne e]at hq
   obtain⟨x,h1,h2⟩:=h.alive q o hq
   exact⟨x,by rw [List.getElem?_set_ne e];exact h1,h2.mono hs rfl⟩
 ·by_cases e:r=q
  ·subst e;exact⟨pl,by rw [List.getElem?_set_self hrl]⟩
  ·rw [List.getElem?_set_ne e]at hq
   obtain⟨x,h1⟩:=h.dead q hq
   exact⟨x,by rw [List.getElem?_set_ne e];exact h1⟩
def B8(b:UInt8):AV:=.int .u8 b.toNat
def zy(s:List UInt8):List (List AV):=s.map fun b=>[B8 b]
def z90:List AV->Option UInt8
 | [.int .u8 n]=>some (UInt8.ofNat n.toNat)
 | _=>none
def bytesOf:List (List AV)->Option (List UInt8)
 | []=>some []
 |e::es=>(z90 e).bind fun b=>(bytesOf es).map (b:: ·)
theorem zrg(s:List UInt8):bytesOf (zy s)=some s:=by
 induction s with
 |nil=>rfl
 |cons b s ih=>
  have:UInt8.ofNat (b.toNat:Int).toNat=b:=by simp
  simp only [zy,List.map_cons,bytesOf,z90,B8,this,Option.bind_some]
  have ih':bytesOf (s.map fun b=>[B8 b])=some s:=ih
  simp only [B8]at ih'
  simp [ih']
theorem zay(s:List UInt8):(zy s).flatten=s.map B8:=by
 induction s with
 |nil=>rfl
 |cons b s ih=>simp only [zy,List.map_cons,List.flatten_cons]at ih ⊢;simp [ih]
theorem zhw(s:List UInt8):VRs Z w (s.map B8) (s.map fun b=>Value.int .u8 b.toNat):=by
 induction s with
 |nil=>exact VRs.nil
 |cons b s ih=>exact VRs.cons ⟨by simp [VR,B8],rfl⟩ ih
theorem zrh{vals:List Value}(h:bytesOf es=some s)(hv:VRs Z w es.flatten vals):∃ns:List Int,vals=ns.map (Value.int .u8)/\ s=ns.map fun n=>UInt8.ofNat n.toNat:=by
 induction es generalizing s vals with
 |nil=>
  simp only [bytesOf,Option.some.injEq]at h;subst h
  simp only [List.flatten_nil,VRs]at hv;subst hv
  exact⟨[],rfl,rfl⟩
 |cons e es ih=>
  simp only [bytesOf,Option.bind_eq_some_iff,Option.map_eq_some_iff]at h
  obtain⟨b,hb,s',hs',rfl⟩:=h
  unfold z90 at hb
  split at hb
  ·rename_i n
   simp only [Option.some.injEq]at hb;subst hb
   simp only [List.flatten_cons]at hv
   obtain⟨v1,v2,rfl,h1,h2⟩:=hv.append_inv
   simp only [VRs]at h1
   obtain⟨v,vs',rfl,h3,rfl⟩:=h1
   simp only [VR]at h3
   obtain⟨ns,rfl,rfl⟩:=ih hs' h2
   exact⟨n::ns,by simp [h3.1],by simp⟩
  ·cases hb
theorem z102(f:Value->ByteArray->Sem (ForInStep ByteArray))(hf:∀(n:Int) (acc:ByteArray),f (.int .u8 n) acc=pure (ForInStep.yield (acc.push (UInt8.ofNat n.toNat))))(ns:List Int):
  ∀(acc:ByteArray),(forIn (m:=Sem) (ns.map (Value.int .u8)) acc f).run C.P w=.ok ⟨acc.data++(ns.map fun n=>UInt8.ofNat n.toNat).toArray⟩ w:=by
 induction ns with
 |nil=>intro acc;simp
 |cons n ns ih=>
  intro acc
  simp only [List.map_cons,List.forIn_cons,Sem.run_bind,hf,Sem.run_pure,Result.andThen_ok]
  rw [ih]
  congr 2
  apply Array.ext'
  simp [ByteArray.push]
def z4k(C:Ctx)(t:TypeId):Option IntKind:=match C.P.underlying t with|some (.int k)=>some k| _=>none
def z69(C:Ctx)(t:TypeId):Bool:=match tySl C t with|some e=>(match C.P.underlying e with|some (.int .u8)=>true| _=>false)|none=>false
theorem za3{k:IntKind}(h:z4k C t=some k):C.P.underlying t=some (.int k):=by
 unfold z4k at h;split at h
 ·rename_i h1;simp at h;subst h;exact h1
 ·cases h
theorem zhj(h:z69 C t=true):∃e,C.P.underlying t=some (.slice e)/\ C.P.underlying e=some (.int .u8):=by
 unfold z69 at h
 split at h
 ·rename_i e he
  split at h
  ·exact⟨e,z27 he,by assumption⟩
  ·cases h
 ·cases h
def z5l(C:Ctx)(O:Store)(src dst:TypeId)(x:AV):Option (AV × Store):=
 match x with
 | .int _ n=>(z4k C src).bind fun _=>(z4k C dst).map fun k=>(.int k (k.wrap n),O)
 | .str s=>if tyStr C dst=true/\ (C.P.underlying src).isSome=true then some (.str s,O)else if z69 C dst=true/\ (C.P.underlying src).isSome=true then some (.sl O.length 0 s.length none 1,O++ [some (zy s)])else none
 |x=>if tyStr C dst=true/\ z69 C src=true then(z26 O x).bind fun es=>(bytesOf es).map fun s=>(.str s,O)else none
theorem zij(n o:Nat)(e:TypeId)(t:Nat):n<=(Question.appendCap n o e).cut t:=by simp [Question.cut]
theorem zs9(hR:Rel C Z O w){src dst:TypeId}{x a:AV}{vx:Value}{O':Store}(hx:VR Z w x vx)(hs:tyStr C dst=true)(hu:z69 C src=true){es:List (List AV)}{s:List UInt8}
  (h1:z26 O x=some es) (h2:bytesOf es=some s) (ha:a=.str s) (hσ:O'=O):Out C Z w ((convert src dst vx).run C.P w) a O':=by
 subst ha;subst hσ
 obtain⟨e,hse,hue⟩:=zhj hu
 obtain⟨ad,cap,rfl,hmem,hnil⟩:=z5d (C:=C) hR hx h1
 refine Out.same hR (cv:=.string ⟨s.toArray⟩) ?_ (by simp only [VR])
 have hconv:(convert src dst (.slice ad es.length cap)).run C.P w=(Conv.bytesToString (.slice ad es.length cap)).run C.P w:=by
  simp [convert,run_underlying (z5g hs),run_underlying hse,run_underlying hue]
 rw [hconv]
 cases ad with
 |none=>
  have hx':=hnil rfl
  subst hx'
  simp only [z26,Option.some.injEq]at h1
  subst h1
  simp only [bytesOf,Option.some.injEq]at h2;subst h2
  rfl
 |some ad=>
  by_cases hne:es.length=0
  ·have:es=[]:=List.eq_nil_of_length_eq_zero hne
   subst this
   simp only [bytesOf,Option.some.injEq]at h2;subst h2
   simp [Conv.bytesToString,loadCells,loadCellsFrom]
   rfl
  ·obtain⟨b,o,vals,hb,hseg,hv⟩:=hmem hne
   simp only [Option.some.injEq]at hb;subst hb
   obtain⟨ns,rfl,rfl⟩:=zrh h2 hv
   have hl:(ns.map (Value.int .u8)).length=es.length:=by
    have e1:=hv.length
    have:∀(es:List (List AV)) (s:List UInt8),bytesOf es=some s->es.flatten.length=es.length:=by
     intro es
     induction es with
     |nil=>intro s _;rfl
     |cons e es ih=>
      intro s h
      simp only [bytesOf,Option.bind_eq_some_iff,Option.map_eq_some_iff]at h
      obtain⟨b,hb,s',hs',rfl⟩:=h
      unfold z90 at hb
      split at hb
      ·simp [ih s' hs']
      ·cases hb
    rw [<-this es _ h2];exact e1.symm
   have hload:=zgl (C:=C) hseg
   rw [hl]at hload
   simp only [Conv.bytesToString,Sem.run_bind,hload,Result.andThen_ok,List.forIn_toArray]
   rw [z102 _ (fun _ _=>rfl)]
   simp
theorem zsa(hR:Rel C Z O w){src dst:TypeId}{x a:AV}{vx:Value}{O':Store}(hx:VR Z w x vx)(h:z5l C O src dst x=some (a,O')):Out C Z w ((convert src dst vx).run C.P w) a O':=by
 unfold z5l at h
 split at h
 ·rename_i k n
  simp only [Option.bind_eq_some_iff,Option.map_eq_some_iff,Prod.mk.injEq]at h
  obtain⟨k0,hk0,k',hk,rfl,rfl⟩:=h
  simp only [VR]at hx;subst hx
  exact Out.same hR (cv:=.int k' (k'.wrap n)) (by simp [convert,run_underlying (za3 hk),run_underlying (za3 hk0),Conv.intToInt]) VR.int
 ·rename_i s
  simp only [VR]at hx;subst hx
  split at h
  ·rename_i hc
   simp only [Option.some.injEq,Prod.mk.injEq]at h
   obtain⟨rfl,rfl⟩:=h
   cases hu:C.P.underlying src with
   |none=>simp [hu]at hc
   |some d=>exact Out.same hR (cv:=.string ⟨s.toArray⟩) (by cases d<;>simp [convert,run_underlying (z5g hc.1),run_underlying hu]) (by simp only [VR])
  ·split at h
   ·rename_i hc
    simp only [Option.some.injEq,Prod.mk.injEq]at h
    obtain⟨rfl,rfl⟩:=h
    obtain⟨e,hse,hue⟩:=zhj hc.1
    cases hu:C.P.underlying src with
    |none=>simp [hu]at hc
    |some d=>
     have hconv:(convert src dst (.string ⟨s.toArray⟩)).run C.P w=(Conv.stringToBytes e ⟨s.toArray⟩).run C.P w:=by
      cases d<;>simp [convert,run_underlying hse,run_underlying hu,run_underlying hue]
     rw [hconv]
     let w1:World:={ w with drawn:=w.drawn+1 }
     let cap:=(Question.appendCap s.length 0 e).cut (w.tape w.drawn (Question.appendCap s.length 0 e))
     have hcap:s.length<=cap:=zij _ _ _ _
     let c:Array Value:=(s.map fun b=>Value.int .u8 b.toNat).toArray++Array.replicate (cap-s.length) (.int .u8 0)
     have hsz:c.size=cap:=by simp [c];omega
     let w2:World:={ w1 with heap:=w1.heap.push (.cells c e (cap,cap+1)) }
     obtain⟨h0,h0'⟩:=hR.drawn (w':=w1) rfl rfl rfl rfl
     obtain⟨h1,h2⟩:=h0'.alloc (w':=w2) (c:=c) (ty:=e) (fz:=(cap,cap+1)) (o:=zy s) (esz:=1) (vals:=s.map fun b=>Value.int .u8 b.toNat)
      (rest:=List.replicate (cap-s.length) (.int .u8 0)) rfl rfl rfl rfl (by simp [c]) (by rw [zay];exact zhw s) (by simp [zy])
      (by rw [hsz];exact NoSt.mark) (by intro v hv;rw [List.mem_replicate]at hv;rw [hv.2];rfl)
     refine⟨.slice (some ⟨w.heap.size,0,none⟩) s.length cap,_,w2,?_,h0.trans h1,h2,?_⟩
     ·have hdata:(⟨s.toArray⟩:ByteArray).data.map (fun b=>Value.int .u8 b.toNat)=(s.map fun b=>Value.int .u8 b.toNat).toArray:=by simp
      have hsh:({ w1 with heap:=w1.heap.push (.cells c e) }:World).shape? w.heap.size=some (e,c.size):=by
       simp [World.shape?,w1]
      have hfr:({ w1 with heap:=w1.heap.push (.cells c e) }:World).freeze { block:=w.heap.size,off:=c.size } 1=w2:=by
       have hm:∀f:Obj->Obj,f (.cells c e)=.cells c e (cap,cap+1)->(w.heap.push (Obj.cells c e)).modify w.heap.size f=w.heap.push (.cells c e (cap,cap+1)):=by
        intro f hf
        apply Array.ext_getElem?
        intro i
        rw [Array.getElem?_modify,Array.getElem?_push,Array.getElem?_push]
        by_cases hi:i=w.heap.size
        ·subst hi;simp [hf]
        ·have:¬w.heap.size=i:=fun e=>hi e.symm
         simp [hi,this]
       unfold World.freeze
       rw [if_neg (by decide)]
       simp only [w2,w1,hsz]
       rw [hm _ (by simp)]
      simp only [Conv.stringToBytes,Sem.run_bind,run_choose,Question.forced,Bool.false_eq_true,if_false,Result.andThen_ok,z8w,newRow,run_newObj,Sem.run_pure,hdata]
      have e1:(Question.appendCap s.length 0 e).cut (w.tape w.drawn (Question.appendCap s.length 0 e))=cap:=rfl
      rw [e1]
      have e2:(s.map fun b=>Value.int .u8 b.toNat).toArray++Array.replicate (cap-s.length) (.int .u8 0)=c:=rfl
      simp only [e2]
      have e3:(markStringish ⟨w.heap.size,0,none⟩).run C.P { w1 with heap:=w1.heap.push (.cells c e) }=.ok () w2:=by
       simp only [markStringish,Sem.run_bind,run_shape,Result.andThen_ok,hsh]
       simp only [run_freeze,hfr]
      have e4:({ heap:=w.heap.push (.cells c e),tape:=w.tape,drawn:=w.drawn+1,os:=w.os,output:=w.output }:World)={ w1 with heap:=w1.heap.push (.cells c e) }:=rfl
      rw [e4]
      simp only [e3,Result.andThen_ok]
     ·simp only [VR]
      exact⟨true,_,w.heap.size,0,cap,by rw [<-hR.len,List.getElem?_concat_length],rfl,rfl,hcap,by simp,by simp [zy];omega,by simp [hsz],by simp [w1],by simp [w1],Nat.zero_le _⟩
   ·cases h
 ·rename_i x hni hns
  split at h
  ·rename_i hc
   simp only [Option.bind_eq_some_iff,Option.map_eq_some_iff,Prod.mk.injEq]at h
   obtain⟨es,hes,s,hs,ha,hσ⟩:=h
   exact zs9 hR hx hc.1 hc.2 hes hs ha.symm hσ.symm
  ·cases h
end
end
section
section
variable {C:Ctx} {Z:Places} {O:Store} {w:World}
def z5m(place:Nat->Option (Nat × Nat))(cells:List AV):List (Nat × AV)->Option (List AV)
 | []=>some cells
 |p::rest=>(place p.1).bind fun x=>(cellsOf p.2).bind fun vs=>if vs.length=x.2/\ x.1+x.2<=cells.length then z5m place (z1i cells x.1 vs) rest else none
def VPs(Z:Places)(w:World):List (Nat × AV)->List (Nat × Value)->Prop
 | [],vs=>vs=[]
 |p::ps,vs=>∃v vs',vs=v::vs'/\ v.1=p.1/\ VR Z w p.2 v.2/\ VPs Z w ps vs'
theorem ze6(off:Nat):∀(l:List Value) (k:Nat) (cs:Array Value),off+k+l.length<=cs.size->
  ((l.zipIdx k).foldl (fun(cs:Array Value) (x:Value × Nat)=>cs.setIfInBounds (off+x.2) x.1) cs).toList=cs.toList.take (off+k)++l++cs.toList.drop (off+k+l.length)
 | [],k,cs,h=>by simp
 |v::l,k,cs,h=>by
  simp only [List.length_cons]at h
  have ih:=ze6 off l (k+1) (cs.setIfInBounds (off+k) v) (by simp;omega)
  simp only [List.zipIdx_cons,List.foldl_cons]
  rw [ih]
  have e:=list_seg_step cs.toList (off+k) v l (by simp;omega)
  simpa [Array.toList_setIfInBounds,Nat.add_assoc]using e
theorem ze5{place:Nat->Option (Nat × Nat)}:∀(ps:List (Nat × AV)) (vs:List (Nat × Value)) (cells:List AV) (cc:Array Value) (r:List AV),VPs Z w ps vs->VRs Z w cells cc.toList->z5m place cells ps=some r->
  ∃rc,Instr.fill place cc vs=some rc/\ VRs Z w r rc.toList
 | [],vs,cells,cc,r,h,hc,ha=>by
  simp only [VPs]at h;subst h
  simp only [z5m,Option.some.injEq]at ha;subst ha
  exact⟨cc,rfl,hc⟩
 |p::ps,vs,cells,cc,r,h,hc,ha=>by
  simp only [VPs]at h
  obtain⟨v,vs',rfl,h1,h2,h3⟩:=h
  simp only [z5m,Option.bind_eq_some_iff]at ha
  obtain⟨⟨off,n⟩,hpl,us,hus,ha⟩:=ha
  split at ha
  ·rename_i hcond
   simp only at hcond ha
   have hv:=z54 hus h2
   have hl:=hv.length
   have hcl:=hc.length
   have hsz:v.2.cells.size=n:=by rw [<-Array.length_toList];omega
   have hcs:cc.size=cells.length:=by rw [<-Array.length_toList];omega
   have hfold:(v.2.cells.zipIdx.foldl (fun(cs:Array Value) (x:Value × Nat)=>cs.setIfInBounds (off+x.2) x.1) cc).toList=cc.toList.take off++v.2.cells.toList++cc.toList.drop (off+v.2.cells.toList.length):=by
    rw [<-Array.foldl_toList,Array.toList_zipIdx]
    simpa using ze6 off v.2.cells.toList 0 cc (by rw [Array.length_toList];omega)
   have hov:VRs Z w (z1i cells off us) (v.2.cells.zipIdx.foldl (fun(cs:Array Value) (x:Value × Nat)=>cs.setIfInBounds (off+x.2) x.1) cc).toList:=by
    rw [hfold,<-hl]
    exact((hc.take off).append hv).append (hc.drop _)
   obtain⟨rc,h4,h5⟩:=ze5 ps vs' (z1i cells off us) _ r h3 hov ha
   refine⟨rc,?_,h5⟩
   obtain⟨i,x⟩:=v
   simp only at h1 hsz h4
   subst h1
   simp only [Instr.fill,hpl,hsz]
   rw [if_neg (by simp;omega)]
   exact h4
  ·cases ha
def zh4(C:Ctx)(t:TypeId):Option (List (Nat × Nat)):=
 match C.P.underlying t with
 |some (.struct fs)=>fs.toList.mapM fun f=>(z1j C f.type).map fun n=>(f.offset,n)
 | _=>none
def z8p(C:Ctx)(t:TypeId)(ps:List (Nat × AV)):Option AV:=
 (z3h C t).bind fun z=>(cellsOf z).bind fun zc=>
  match zh4 C t with
  |some pl=>(z5m (pl[·]?) zc ps).map .agg
  |none=>(z4i C t).bind fun ne=>(z1j C ne.2).bind fun n=>(z5m (fun i=>some (i*n,n)) zc ps).map .agg
theorem z101 (fs : Array Field) (pl : List (Nat × Nat)) (h : fs.toList.mapM (fun f => (z1j C f.type).map fun n => (f.offset, n)) = some pl) :
    (fs.mapM (m:=Sem) fun f=>do pure (f.offset,<-sizeOf f.type)).run C.P w=.ok pl.toArray w:=by
  rw [Array.mapM_eq_mapM_toList]
  simp only [Sem.run_map]
  have:(fs.toList.mapM (m:=Sem) fun f=>do pure (f.offset,<-sizeOf f.type)).run C.P w=.ok pl w:=by
    generalize fs.toList=l at h
    induction l generalizing pl with
    |nil=>simp at h;subst h;simp
    |cons f l ih=>
      rw [List.mapM_cons]at h
      simp only [bind,Option.bind_eq_some_iff,Option.map_eq_some_iff,pure,Option.some.injEq]at h
      obtain⟨x,⟨n,hn,rfl⟩,pl',hpl,rfl⟩:=h
      rw [List.mapM_cons]
      simp only [Sem.run_bind,Sem.run_pure,z22 hn,Result.andThen_ok,ih pl' hpl]
  simp only [this,Result.andThen_ok]
theorem zr9{ps:List (Nat × AV)}{parts:Array (Nat × Value)}{a:AV}(hp:VPs Z w ps parts.toList)(h:z8p C t ps=some a):
  ∃v,(Instr.build t parts).run C.P w=.ok v w/\ VR Z w a v:=by
 simp only [z8p,Option.bind_eq_some_iff]at h
 obtain⟨z,hz,zc,hzc,h⟩:=h
 obtain⟨zv,h1,h2⟩:=z86 (C:=C) hz Z w
 have h3:=z54 hzc h2
 split at h
 ·rename_i pl hpl
  simp only [Option.map_eq_some_iff]at h
  obtain⟨r,hr,rfl⟩:=h
  unfold zh4 at hpl
  split at hpl
  ·rename_i fs hu
   obtain⟨rc,h4,h5⟩:=ze5 ps parts.toList zc zv.cells r hp h3 hr
   refine⟨.agg rc,?_,by simp only [VR];exact⟨rc.toList,by simp,h5⟩⟩
   have hpr:=z101 (C:=C) (w:=w) fs pl hpl
   have h4':Instr.fill (pl.toArray[·]?) zv.cells parts.toList=some rc:=by simpa using h4
   simp only [Instr.build,Sem.run_bind,h1,Result.andThen_ok,run_underlying hu,hpr,h4',Sem.run_pure]
  ·cases hpl
 ·simp only [Option.bind_eq_some_iff,Option.map_eq_some_iff]at h
  obtain⟨⟨n,e⟩,hne,sz,hsz,r,hr,rfl⟩:=h
  obtain⟨rc,h4,h5⟩:=ze5 ps parts.toList zc zv.cells r hp h3 hr
  refine⟨.agg rc,?_,by simp only [VR];exact⟨rc.toList,by simp,h5⟩⟩
  simp only [Instr.build,Sem.run_bind,h1,Result.andThen_ok,run_underlying (z8e hne),z22 hsz,h4,Sem.run_pure]
def z6d(sz:Nat):List (Nat × AV)->Nat->Option (List (List AV))
 | [],_=>some []
 |p::ps,k=>if p.1=k then(cellsOf p.2).bind fun vs=>if vs.length=sz then(z6d sz ps (k+1)).map (vs:: ·)else none else none
def zae(C:Ctx)(t:TypeId)(len:Nat)(ps:List (Nat × AV)):Option AV:=
 (tySl C t).bind fun e=>(z1j C e).bind fun sz=>(z3h C e).bind fun _=>if ps.length=len/\ len*sz<=16777216 then(z6d sz ps 0).map fun es=> .vsl sz es true else none
theorem zjo{sz:Nat}:∀(ps:List (Nat × AV)) (vs:List (Nat × Value)) (k:Nat) (es:List (List AV)) (done:List AV) (cc:Array Value),VPs Z w ps vs->z6d sz ps k=some es->done.length=k*sz->
  cc.size=(k+ps.length)*sz->VRs Z w done (cc.toList.take (k*sz))->∃rc,Instr.fill (fun i=>some (i*sz,sz)) cc vs=some rc/\ VRs Z w (done++es.flatten) rc.toList/\ (∀e ∈ es,e.length=sz)/\ es.length=ps.length
 | [],vs,k,es,done,cc,h,he,hd,hc,hv=>by
  simp only [VPs]at h;subst h
  simp only [z6d,Option.some.injEq]at he;subst he
  refine⟨cc,rfl,?_,by simp,rfl⟩
  simp only [List.length_nil,Nat.add_zero]at hc
  rw [List.take_of_length_le (by rw [Array.length_toList,hc];exact Nat.le_refl _)]at hv
  simpa using hv
 |p::ps,vs,k,es,done,cc,h,he,hd,hc,hv=>by
  simp only [VPs]at h
  obtain⟨v,vs',rfl,h1,h2,h3⟩:=h
  simp only [z6d]at he
  split at he
  ·rename_i hpk
   simp only [Option.bind_eq_some_iff]at he
   obtain⟨us,hus,he⟩:=he
   split at he
   ·rename_i hul
    simp only [Option.map_eq_some_iff]at he
    obtain⟨es',hes',rfl⟩:=he
    have hvc:=z54 hus h2
    have hl:=hvc.length
    have hsz:v.2.cells.size=sz:=by rw [<-Array.length_toList];omega
    simp only [List.length_cons]at hc
    have hkc:k*sz+sz<=cc.size:=by
     rw [hc,<-Nat.succ_mul];exact Nat.mul_le_mul_right _ (by omega)
    have hfold:(v.2.cells.zipIdx.foldl (fun(cs:Array Value) (x:Value × Nat)=>cs.setIfInBounds (k*sz+x.2) x.1) cc).toList=cc.toList.take (k*sz)++v.2.cells.toList++cc.toList.drop (k*sz+v.2.cells.toList.length):=by
     rw [<-Array.foldl_toList,Array.toList_zipIdx]
     simpa using ze6 (k*sz) v.2.cells.toList 0 cc (by rw [Array.length_toList,hsz];omega)
    have hvl:v.2.cells.toList.length=sz:=by rw [Array.length_toList];exact hsz
    have htk:(cc.toList.take (k*sz)).length=k*sz:=by rw [List.length_take,Array.length_toList];omega
    obtain⟨rc,h4,h5,h6,h7⟩:=zjo ps vs' (k+1) es' (done++us) (v.2.cells.zipIdx.foldl (fun(cs:Array Value) (x:Value × Nat)=>cs.setIfInBounds (k*sz+x.2) x.1) cc) h3 hes'
     (by rw [List.length_append,hd,hul,Nat.succ_mul])
     (by rw [<-Array.length_toList,hfold];simp only [List.length_append,List.length_take,List.length_drop,Array.length_toList,hsz];rw [show k+1+ps.length=k+(ps.length+1)by omega,<-hc];omega)
     (by rw [hfold,Nat.succ_mul,List.take_append_of_le_length (by rw [List.length_append,htk,hvl];exact Nat.le_refl _),List.take_of_length_le (by rw [List.length_append,htk,hvl];exact Nat.le_refl _)];exact hv.append hvc)
    refine⟨rc,?_,by simpa [List.append_assoc]using h5,fun e he=> ?_,by simp [h7]⟩
    ·obtain⟨i,x⟩:=v
     simp only at h1 hsz h4
     rw [hpk]at h1
     subst h1
     simp only [Instr.fill,hsz]
     rw [if_neg (by simp;omega)]
     exact h4
    ·simp only [List.mem_cons]at he
     rcases he with rfl|he
     ·exact hul
     ·exact h6 e he
   ·cases he
  ·cases he
theorem zr8(hR:Rel C Z O w){t:TypeId}{len:Nat}{ps:List (Nat × AV)}{parts:Array (Nat × Value)}{a:AV}(hp:VPs Z w ps parts.toList)(h:zae C t len ps=some a):
  Out C Z w ((Instr.buildSlice t len parts).run C.P w) a O:=by
 simp only [zae,Option.bind_eq_some_iff]at h
 obtain⟨e,he,sz,hsz,z,hz,h⟩:=h
 split at h
 ·rename_i hc
  simp only [Option.map_eq_some_iff]at h
  obtain⟨es,hes,rfl⟩:=h
  obtain⟨zv,h1,_⟩:=z86 (C:=C) hz Z w
  let zero:Array Value:=if len*sz=0 then #[]else zv.cells
  let cc:Array Value:=(Array.range (len*sz)).map (zero[· %zero.size]!)
  obtain⟨rc,h4,h5,h6,h7⟩:=zjo (Z:=Z) (w:=w) (sz:=sz) ps parts.toList 0 es [] cc hp hes (by simp) (by simp [cc,hc.1]) (by simp [VRs])
  let w':World:=w.alloc (.cells rc e)
  obtain⟨k1,k2,k3⟩:=hR.fresh (w':=w') (ob:=.cells rc e) rfl rfl rfl rfl
  refine⟨.slice (some ⟨w.heap.size,0,none⟩) len len,Z,w',?_,k1,k2,?_⟩
  ·have hle:¬(len*sz>2^24):=by omega
   by_cases h0:len*sz=0
   ·simp only [Instr.buildSlice,Sem.run_bind,run_underlying (z27 he),Result.andThen_ok,z22 hsz,hle,if_false,Sem.run_pure,if_pos h0]
    have:Instr.fill (fun i=>some (i*sz,sz)) ((Array.range (len*sz)).map ((#[]:Array Value)[· %(#[]:Array Value).size]!)) parts.toList=some rc:=by
     have:=h4;simp only [cc,zero,if_pos h0]at this;exact this
    simp only [this,Sem.run_bind,newRow,run_newObj,Result.andThen_ok,Sem.run_pure]
    rfl
   ·simp only [Instr.buildSlice,Sem.run_bind,run_underlying (z27 he),Result.andThen_ok,z22 hsz,hle,if_false,Sem.run_pure,if_neg h0,h1]
    have:Instr.fill (fun i=>some (i*sz,sz)) ((Array.range (len*sz)).map (zv.cells[· %zv.cells.size]!)) parts.toList=some rc:=by
     have:=h4;simp only [cc,zero,if_neg h0]at this;exact this
    simp only [this,Sem.run_bind,newRow,run_newObj,Result.andThen_ok,Sem.run_pure]
    rfl
  ·simp only [VR]
   have hl:es.length=len:=h7.trans hc.1
   right
   refine⟨w.heap.size,0,len,rc.toList,by rw [hl],by omega,fun _=>hl.symm,k3,⟨rc,e,(0,0),[],[],by show (w.heap.push (Obj.cells rc e))[w.heap.size]? =_;rw [Array.getElem?_push_size],by simp only [List.nil_append,List.append_nil],rfl⟩,h6,?_⟩
   rw [VRss.flat]
   exact VRs.mono k1 _ _ (by simpa using h5)
 ·cases h
theorem zd7(z:Array Value):∀(m:Nat),((Array.range (m*z.size)).map (z[· %z.size]!)).toList=(List.replicate m z.toList).flatten
 | 0=>by simp
 |m+1=>by
  have ih:=zd7 z m
  simp only [Array.toList_map,Array.toList_range]at ih ⊢
  rw [Nat.succ_mul,List.range_add,List.map_append,ih,List.replicate_succ',List.flatten_append]
  congr 1
  simp only [List.map_map,List.flatten_cons,List.flatten_nil,List.append_nil]
  apply List.ext_getElem?
  intro i
  simp only [List.getElem?_map]
  by_cases hi:i<z.size
  ·rw [List.getElem?_range hi]
   simp [Nat.mod_eq_of_lt hi,hi]
  ·rw [List.getElem?_eq_none (by simp;omega),List.getElem?_eq_none (by simp;omega)]
   rfl
def zal(C:Ctx)(O:Store)(t:TypeId)(l c:AV):Option (AV × Store):=
  match l,c with
  | .int _ n, .int _ m => (tySl C t).bind fun e => (z1j C e).bind fun sz => (z4j C e).bind fun by_ => (z3h C e).bind fun z => (cellsOf z).bind fun zc =>
      if 0<=n/\ n<=m/\ m<=4294967296/\ by_<=16384/\ zc.length=sz then some (.sl O.length 0 n.toNat (some m.toNat) sz,O++ [some (List.replicate m.toNat zc)])else none
  | _,_=>none
theorem zvp(hR:Rel C Z O w){t:TypeId}{l c a:AV}{vl vc:Value}{O':Store}(hl:VR Z w l vl)(hc:VR Z w c vc)(h:zal C O t l c=some (a,O')):
  Out C Z w ((Instr.makeSlice t vl vc).run C.P w) a O':=by
 unfold zal at h
 split at h
 ·rename_i k n k' m
  simp only [VR]at hl hc;subst hl;subst hc
  simp only [Option.bind_eq_some_iff]at h
  obtain⟨e,he,sz,hsz,by_,hby,z,hz,zc,hzc,h⟩:=h
  split at h
  ·rename_i hcond
   simp only [Option.some.injEq,Prod.mk.injEq]at h
   obtain⟨rfl,rfl⟩:=h
   obtain⟨h0,h1,h2,h3,h4⟩:=hcond
   obtain⟨zv,hzv,hzr⟩:=z86 (C:=C) hz Z w
   have hzcl:=z54 hzc hzr
   have hzsz:zv.cells.size=sz:=by rw [<-Array.length_toList,<-hzcl.length,h4]
   cases hi:C.P.info? e with
   |none=>simp [z4j,hi]at hby
   |some i=>
    have hbyt:i.bytes=by_:=by simpa [z4j,hi]using hby
    have wn:IntKind.i64.wrap n=n:=IntWalk.i64_in n (by omega)
    have wm:IntKind.i64.wrap m=m:=IntWalk.i64_in m (by omega)
    have hmul:(by_:Int)*m<=2^48:=by
     have a1:(by_:Int)*m<=16384*m:=Int.mul_le_mul_of_nonneg_right (by omega) (by omega)
     omega
    let cc:Array Value:=(Array.range (m.toNat*sz)).map (fun j=>(if m.toNat*sz=0 then(#[]:Array Value)else zv.cells)[j%(if m.toNat*sz=0 then(#[]:Array Value)else zv.cells).size]!)
    have hcc:cc.toList=(List.replicate m.toNat zv.cells.toList).flatten:=by
     by_cases hz0:m.toNat*sz=0
     ·have e1:cc= #[]:=by simp [cc,hz0]
      rw [e1]
      rcases Nat.mul_eq_zero.1 hz0 with h5|h5
      ·simp [h5]
      ·have:zv.cells.toList=[]:=List.eq_nil_of_length_eq_zero (by rw [Array.length_toList];omega)
       simp [this]
     ·have:=zd7 zv.cells m.toNat
      rw [hzsz]at this
      simpa [cc,hz0,hzsz]using this
    obtain⟨k1,k2⟩:=hR.alloc (w':=w.alloc (.cells cc e)) (c:=cc) (ty:=e) (fz:=(0,0)) (o:=List.replicate m.toNat zc) (esz:=sz) (vals:=(List.replicate m.toNat zv.cells.toList).flatten) (rest:=[])
     rfl rfl rfl rfl (by simpa using hcc) (by
      clear hcc
      induction m.toNat with
      |zero=>exact VRs.nil
      |succ q ih=>simp only [List.replicate_succ,List.flatten_cons];exact hzcl.append ih) (by intro x hx;rw [List.mem_replicate]at hx;rw [hx.2];exact h4) NoSt.zero (by simp)
    refine⟨.slice (some ⟨w.heap.size,0,none⟩) n.toNat m.toNat,_,_,?_,k1,k2,?_⟩
    ·have e1:decide (m<0)=false:=decide_eq_false (by omega)
     have e2:decide ((by_:Int)*m>2^48)=false:=decide_eq_false (by omega)
     have e3:decide (n<0)=false:=decide_eq_false (by omega)
     have e4:decide (n>m)=false:=decide_eq_false (by omega)
     simp only [Instr.makeSlice,Sem.run_bind,run_underlying (z27 he),Result.andThen_ok,asInt,asIntOf,Sem.run_pure,typeInfo,run_program,hi,hbyt,wn,wm,e1,e2,e3,e4,Bool.or_self,
      Bool.false_eq_true,if_false,Sem.run_bind,run_askRoom,Result.andThen_ok,z22 hsz,Sem.run_ite,Sem.run_pure]
     by_cases hz0:m.toNat*sz=0
     ·simp only [if_pos hz0,Result.andThen_ok,newRow,Sem.run_bind,run_newObj,Sem.run_pure]
      have:cc=(Array.range (m.toNat*sz)).map ((#[]:Array Value)[· %(#[]:Array Value).size]!):=by simp only [cc,if_pos hz0]
      rw [<-this];rfl
     ·simp only [if_neg hz0,hzv,Result.andThen_ok,newRow,Sem.run_bind,run_newObj,Sem.run_pure]
      have:cc=(Array.range (m.toNat*sz)).map (zv.cells[· %zv.cells.size]!):=by simp only [cc,if_neg hz0]
      rw [<-this];rfl
    ·simp only [VR]
     refine⟨true,_,w.heap.size,0,m.toNat,by rw [<-hR.len,List.getElem?_concat_length],rfl,rfl,by omega,by simp,by simp,?_,by simp,rfl,Nat.zero_le _⟩
     have:cc.size=m.toNat*sz:=by simp [cc]
     simp [this]
  ·cases h
 ·cases h
end
end
section
section
variable {C:Ctx} {Z:Places} {O:Store} {w:World}
def z68(O:Store)(sz:Nat)(x:AV):Option (List (List AV)):=
 match x with
 | .str s=>if sz=1 then some (zy s)else none
 | .nilsl=>some []
 | .vsl esz es _=>if esz=sz then some es else none
 | .sl r off len lim esz=>if esz=sz then z26 O (.sl r off len lim esz)else none
 | .asl r i off len cap esz=>if esz=sz then z26 O (.asl r i off len cap esz)else none
 | _=>none
theorem zgy(hR:Rel C Z O w){r off len esz:Nat}{lim:Option Nat}{v:Value}{es:List (List AV)}(hx:VR Z w (.sl r off len lim esz) v)(h:z26 O (.sl r off len lim esz)=some es):∀e ∈ es,e.length=esz:=by
 simp only [z26]at h
 split at h
 ·rename_i o ho
  split at h
  ·simp only [Option.some.injEq]at h;subst h
   obtain⟨pl,hpl,hok⟩:=hR.alive r o ho
   simp only [VR]at hx
   obtain⟨fl,pl',_,_,_,hpl',he1,_⟩:=hx
   rw [hpl]at hpl';cases hpl'
   intro e he
   rw [<-he1]
   exact hok.esz e (List.mem_of_mem_drop (List.mem_of_mem_take he))
  ·cases h
 ·cases h
theorem z98{a:Option Addr}{cap:Nat}(hmem:es.length ≠ 0->∃b o vals,a=some ⟨b,o,none⟩/\ Seg w b o vals/\ VRs Z w es.flatten vals)(hu:∀e ∈ es,e.length=sz)(hk:k<=es.length):
  ∃vals,(Builtin.firstCells sz k (.slice a n cap)).run C.P w=.ok (List.toArray vals) w/\ VRs Z w (es.take k).flatten vals:=by
 by_cases hz:es.length=0
 ·have:es=[]:=List.eq_nil_of_length_eq_zero hz
  subst this
  simp only [List.length_nil,Nat.le_zero]at hk
  subst hk
  refine⟨[],?_,by simp [VRs]⟩
  cases a with
  |none=>rfl
  |some a=>simp [Builtin.firstCells,loadCells,loadCellsFrom]
 ·obtain⟨b,o,vals,rfl,h1,h2⟩:=hmem hz
  have hl:=h2.length
  rw [z29 hu]at hl
  have h3:=h1.sub 0 (k*sz) (Nat.zero_le _)
  simp only [List.drop_zero,Nat.add_zero]at h3
  have h4:=zgl (C:=C) h3
  have h5:(vals.take (k*sz)).length=k*sz:=by
   rw [List.length_take,<-hl];exact Nat.min_eq_left (Nat.mul_le_mul_right _ hk)
  rw [h5]at h4
  exact⟨vals.take (k*sz),by simp only [Builtin.firstCells,h4],by rw [zk3 _ _ hu];exact h2.take _⟩
theorem zh2(hR:Rel C Z O w){x:AV}{v:Value}{sz:Nat}{ys:List (List AV)}(hx:VR Z w x v)(h:z68 O sz x=some ys):
  (Builtin.lenOf v).run C.P w=.ok ys.length w/\ (∀e ∈ ys,e.length=sz)/\ ∀k,k<=ys.length->∃vals,(Builtin.firstCells sz k v).run C.P w=.ok (List.toArray vals) w/\ VRs Z w (ys.take k).flatten vals:=by
 unfold z68 at h
 split at h
 ·rename_i s
  split at h
  ·rename_i hz
   simp only [Option.some.injEq]at h;subst h
   simp only [VR]at hx;subst hx
   refine⟨by simp [Builtin.lenOf,z8w,zy],by intro e he;simp only [zy,List.mem_map]at he;obtain⟨b,_,rfl⟩:=he;simp [hz],fun k hk=> ?_⟩
   have e1:(zy s).take k=zy (s.take k):=by simp [zy,List.map_take]
   refine⟨(s.take k).map fun b=>Value.int .u8 b.toNat,?_,by rw [e1,zay];exact zhw _⟩
   have e2:(⟨s.toArray⟩:ByteArray).extract 0 k=⟨(s.take k).toArray⟩:=by simpa using zk0 s 0 k
   simp only [Builtin.firstCells,e2,Sem.run_pure]
   congr 1
   apply Array.ext'
   simp
  ·cases h
 ·simp only [Option.some.injEq]at h;subst h
  simp only [VR]at hx;subst hx
  refine⟨by simp [Builtin.lenOf],by simp,fun k hk=>⟨[],by rfl,by simp [VRs]⟩⟩
 ·rename_i esz es ex
  split at h
  ·rename_i hz
   subst hz
   simp only [Option.some.injEq]at h;subst h
   obtain⟨a,cap,rfl,hmem,_⟩:=z5d (C:=C) hR hx rfl
   simp only [VR]at hx
   have h6:∀e ∈ es,e.length=esz:=by
    rcases hx with⟨rfl,_⟩| ⟨_,_,_,_,_,_,_,_,_,h6,_⟩
    ·simp
    ·exact h6
   exact⟨by simp [Builtin.lenOf],h6,fun k hk=>z98 hmem h6 hk⟩
  ·cases h
 ·rename_i r off len lim esz
  split at h
  ·rename_i hz
   subst hz
   obtain⟨a,cap,rfl,hmem,_⟩:=z5d (C:=C) hR hx h
   have hu:=zgy hR hx h
   exact⟨by simp [Builtin.lenOf],hu,fun k hk=>z98 hmem hu hk⟩
  ·cases h
 ·rename_i r i off len cap esz
  split at h
  ·rename_i hz
   subst hz
   obtain⟨a,cap',rfl,hmem,_⟩:=z5d (C:=C) hR hx h
   have hu:∀e ∈ ys,e.length=esz:=by
    simp only [z26]at h
    split at h
    ·rename_i o ho
     simp only [Option.bind_eq_some_iff]at h
     obtain⟨cs,hcs,h⟩:=h
     split at h
     ·rename_i hle
      simp only [Option.some.injEq]at h;subst h
      exact(zjb esz len (cs.drop off) (by simp;omega)).2.2
     ·cases h
    ·cases h
   exact⟨by simp [Builtin.lenOf],hu,fun k hk=>z98 hmem hu hk⟩
  ·cases h
 ·cases h
theorem zka(n:Nat):∀(r c B:Nat),c<=B->Builtin.growBy n r c<=B*2^r+192*(2^r-1)
 | 0,c,B,h=>by simp [Builtin.growBy];exact h
 |r+1,c,B,h=>by
  simp only [Builtin.growBy]
  split
  ·have h1:B<=B*2^(r+1):=Nat.le_mul_of_pos_right _ (by exact Nat.pos_of_ne_zero (by simp))
   omega
  ·have ih:=zka n r (c+(c+768)/4) (2*B+192) (by omega)
   have e:(2*B+192)*2^r+192*(2^r-1)=B*2^(r+1)+192*(2^(r+1)-1):=by
    have hp:1<=2^r:=Nat.one_le_two_pow
    rw [Nat.pow_succ,Nat.add_mul,Nat.mul_comm 2 B,Nat.mul_assoc,Nat.mul_comm 2 (2^r)]
    generalize 2^r=q at*
    generalize B*(q*2)=z
    omega
   omega
theorem zle{need old:Nat}(h:old<need)(hn:need<=1073741824):Builtin.nextslicecap need old<=17179872064:=by
 unfold Builtin.nextslicecap
 split
 ·omega
 ·split
  ·omega
  ·have:=zka need 4 old 1073741824 (by omega)
   omega
theorem zpc{z:Array Value}(h:∀v ∈ z.toList,v.oneCell'=true)(k:Nat):∀v ∈ (Builtin.zeroCells z k).toList,v.oneCell'=true:=fun v hv=>by
 simp only [Builtin.zeroCells,Array.toList_map,List.mem_map]at hv
 obtain⟨i,hi,rfl⟩:=hv
 have hi':i<k*z.size:=by simpa using hi
 have h0:0<z.size:=by
  rcases Nat.eq_zero_or_pos z.size with h0|h0
  ·rw [h0]at hi';simp at hi'
  ·exact h0
 have hl:i%z.size<z.size:=Nat.mod_lt _ h0
 rw [getElem!_pos z (i%z.size) hl]
 exact h _ (by simp)
theorem zzy{sT xT ty:TypeId}{d:TypeDesc}{by_ sLen sCap:Nat}{zv vx:Value}{base:Option Addr}{v1 v2:List Value}(hu:C.P.underlying sT=some (.slice e))(hd:C.P.underlying xT=some d)(hdi:∀k,d ≠ .int k)
  (hsz:z1j C e=some sz) (hby:z4j C e=some by_) (hz:∀w,(zeroValue e).run C.P w=.ok zv w) (hzs:zv.cells.size=sz) (hz1:∀v ∈ zv.cells.toList,v.oneCell'=true) (hlen:(Builtin.lenOf vx).run C.P w=.ok n w) (hroom:sCap<sLen+n) (hneed:sLen+n<=1073741824) (hb:by_<=8192)
  (h1:(Builtin.firstCells sz sLen (.slice base sLen sCap)).run C.P { w with drawn:=w.drawn+1 }=.ok v1.toArray { w with drawn:=w.drawn+1 })
  (h2:(Builtin.firstCells sz n vx).run C.P { w with drawn:=w.drawn+1 }=.ok v2.toArray { w with drawn:=w.drawn+1 }):
  ∃(cap:Nat) (rest:List Value),sLen+n<=cap/\ rest.length=(cap-(sLen+n))*sz/\ (∀v ∈ rest,v.oneCell'=true) ∧
   (Builtin.append_ #[sT,xT] ty #[.slice base sLen sCap,vx]).run C.P w=.ok (.slice (some ⟨w.heap.size,0,none⟩) (sLen+n) cap) { { w with drawn:=w.drawn+1 }with heap:=w.heap.push (.cells (v1++v2++rest).toArray e) }:=by
 cases hi:C.P.info? e with
 |none=>simp [z1j,hi]at hsz
 |some i=>
  have hbyt:i.bytes=by_:=by simpa [z4j,hi]using hby
  let cap:=(Question.appendCap (sLen+n) sCap e).cut (w.tape w.drawn (Question.appendCap (sLen+n) sCap e))
  have hcap:sLen+n<=cap:=zij _ _ _ _
  refine⟨cap,(Builtin.zeroCells zv.cells (cap-(sLen+n))).toList,hcap,by simp [Builtin.zeroCells,hzs],zpc hz1 _,?_⟩
  have t2:¬(Builtin.nextslicecap (sLen+n) sCap*i.bytes>2^48):=by
   have:=zle hroom hneed
   rw [hbyt]
   have h3:Builtin.nextslicecap (sLen+n) sCap*by_<=17179872064*8192:=Nat.mul_le_mul this hb
   omega
  have hinfo:∀w,(typeInfo e).run C.P w=.ok i w:=fun w=>by simp [typeInfo,hi]
  have hnr:¬(sLen+n<=sCap):=by omega
  have hq:(choose (.appendCap (sLen+n) sCap e)).run C.P w=.ok cap { w with drawn:=w.drawn+1 }:=by
   rw [run_choose];rfl
  simp only [Builtin.append_,List.getElem?_toArray,List.getElem?_cons_zero,List.getElem?_cons_succ,Sem.run_bind,run_underlying hu,Result.andThen_ok,z22 hsz,run_underlying hd,Sem.run_pure,Bool.false_eq_true,if_false,hlen,hnr]
  have t3:¬(((sLen+n:Nat):Int)>IntKind.i64.max/\ (False \/i.bytes=0)):=by
   rintro⟨h,_⟩
   simp [IntKind.max,IntKind.signed,IntKind.bits]at h
   omega
  simp only [Sem.run_ite,hinfo,t3,t2,if_false,Sem.run_bind,Sem.run_pure,Result.andThen_ok,hq,run_askRoom,h1,Bool.not_false,if_true,h2,hz,newRow,run_newObj]
  have t4:v1.toArray++v2.toArray++Builtin.zeroCells zv.cells (cap-(sLen+n))=(v1++v2++(Builtin.zeroCells zv.cells (cap-(sLen+n))).toList).toArray:=by
   apply Array.ext'
   simp
  rw [t4]
theorem zgk{sT xT ty:TypeId}{d:TypeDesc}{sLen sCap b o:Nat}{vx:Value}{v2:List Value}(hu:C.P.underlying sT=some (.slice e))(hd:C.P.underlying xT=some d)(hdi:∀k,d ≠ .int k)
  (hsz:z1j C e=some sz) (hlen:(Builtin.lenOf vx).run C.P w=.ok n w) (hroom:sLen+n<=sCap) (h2:(Builtin.firstCells sz n vx).run C.P w=.ok v2.toArray w)
  (hst:(storeCells ⟨b,o+sLen*sz,none⟩ v2).run C.P w=.ok () w'):
  (Builtin.append_ #[sT,xT] ty #[.slice (some ⟨b,o,none⟩) sLen sCap,vx]).run C.P w=.ok (.slice (some ⟨b,o,none⟩) (sLen+n) sCap) w':=by
 simp only [Builtin.append_,List.getElem?_toArray,List.getElem?_cons_zero,List.getElem?_cons_succ,Sem.run_bind,run_underlying hu,Result.andThen_ok,z22 hsz,run_underlying hd,Sem.run_pure,Bool.false_eq_true,if_false,hlen,hroom,if_true,
  Bool.not_false,h2,z3i,hst]
theorem zzz{sT xT ty:TypeId}{d:TypeDesc}{sLen sCap:Nat}{base:Option Addr}{vx:Value}(hu:C.P.underlying sT=some (.slice e))(hd:C.P.underlying xT=some d)(hdi:∀k,d ≠ .int k)
  (hsz:z1j C e=some sz) (hlen:(Builtin.lenOf vx).run C.P w=.ok 0 w) (hroom:sLen<=sCap) (h2:(Builtin.firstCells sz 0 vx).run C.P w=.ok #[] w):
  (Builtin.append_ #[sT,xT] ty #[.slice base sLen sCap,vx]).run C.P w=.ok (.slice base sLen sCap) w:=by
 have hst:∀a:Addr,(storeCells a []).run C.P w=.ok () w:=fun a=>rfl
 cases base<;>simp only [Builtin.append_,List.getElem?_toArray,List.getElem?_cons_zero,List.getElem?_cons_succ,Sem.run_bind,run_underlying hu,Result.andThen_ok,z22 hsz,run_underlying hd,Sem.run_pure,Bool.false_eq_true,if_false,hlen,
  Nat.add_zero,hroom,if_true,Bool.not_false,h2,hst]
def aApp(O:Store)(sz:Nat)(s:AV)(ys:List (List AV)):Option (AV × Store):=
  if ys.length=0 then(z26 O s).map fun _=>(s,O)else
  match s with
  | .nilsl=>if ys.length<=1073741824 then some (.sl O.length 0 ys.length none sz,O++ [some ys])else none
  | .vsl esz es ex=>if ex=true/\ esz=sz/\ es.length+ys.length<=1073741824 then some (.sl O.length 0 (es.length+ys.length) none sz,O++ [some (es++ys)])else none
  | .sl r off len lim esz=>match O[r]? with
    | some (some o) => if esz = sz /\ off + len <= o.length /\ len + ys.length <= 1073741824 then
        (match lim with
         | none => if off + len + ys.length <= o.length then some (.sl r off (len + ys.length) none esz, O.set r (some (o.take (off + len) ++ ys ++ o.drop (off + len + ys.length))))
             else some (.sl O.length 0 (len+ys.length) none sz,O.set r none++ [some ((o.drop off).take len++ys)])
         | some c => if len + ys.length <= c then (if off + len + ys.length <= o.length then some (.sl r off (len + ys.length) (some c) esz, O.set r (some (o.take (off + len) ++ ys ++ o.drop (off + len + ys.length)))) else none)
             else some (.sl O.length 0 (len+ys.length) none sz,O++ [some ((o.drop off).take len++ys)]))else none
    | _=>none
  | _=>none
def z4l(O:Store)(s:AV)(ys:List (List AV)):Option (AV × Store):=match s with
 | .bnil=>if ys.length ≠ 0/\ ys.length<=1073741824 then some (.bsl O.length ys.length,O++ [some ys])else none
 | .bsl r len=>match O[r]? with
  |some (some o)=>if ys.length ≠ 0/\ o.length=len/\ len+ys.length<=1073741824 then some (.bsl O.length (len+ys.length),O.set r none++ [some (o++ys)])else none
  | _=>none
 |s=>aApp O 1 s ys
def z8o(C:Ctx)(O:Store)(sT xT:TypeId)(s x:AV):Option (AV × Store):=
 (tySl C sT).bind fun e=>(z1j C e).bind fun sz=>(z4j C e).bind fun by_=>(z3h C e).bind fun z=>(cellsOf z).bind fun zc=>(z68 O sz x).bind fun ys=>
  if by_<=8192/\ zc.length=sz/\ ((tySl C xT).isSome ||tyStr C xT)=true then(if e=u8T/\ sz=1 then z4l O s ys else aApp O sz s ys)else none
theorem zr2 (hR : Rel C Z O w) {sT xT ty : TypeId} {s x a : AV} {vs vx : Value} {O' : Store} (hs : VR Z w s vs) (hx : VR Z w x vx) (h : z8o C O sT xT s x = some (a, O')) :
    Out C Z w ((Builtin.append_ #[sT,xT] ty #[vs,vx]).run C.P w) a O':=by
  simp only [z8o,Option.bind_eq_some_iff]at h
  obtain⟨e,he,sz,hsz,by_,hby,z,hz,zc,hzc,ys,hys,h⟩:=h
  split at h
  · rename_i hcond
    obtain⟨hb,hzl,hxT⟩:=hcond
    have hu:=z27 he
    obtain⟨d,hd,hdi⟩:∃d,C.P.underlying xT=some d/\ ∀k,d ≠ .int k:=by
      cases hq:tySl C xT with
      |some e'=>exact⟨_,z27 hq,by simp⟩
      |none=>simp only [hq,Option.isSome_none,Bool.false_or]at hxT;exact⟨_,z5g hxT,by simp⟩
    obtain⟨zv,hzrun,hzs,hz1⟩:∃zv,(∀w,(zeroValue e).run C.P w=.ok zv w)/\ zv.cells.size=sz/\ ∀v ∈ zv.cells.toList,v.oneCell'=true:=by
      unfold z3h at hz
      cases hi:C.P.info? e with
      |none=>simp [hi]at hz
      |some i=>cases hiz:i.zero with
        |none=>simp [hi,hiz]at hz
        |some v=>
          simp [hi,hiz]at hz
          have:=z54 (Z:=Z) (w:=w) hzc (by rw [<-hz];exact zf1 Z w v)
          exact⟨v,fun w=>by simp [zeroValue,typeInfo,hi,hiz],by rw [<-Array.length_toList,<-this.length,hzl],this.one_⟩
    let w1:World:={ w with drawn:=w.drawn+1 }
    obtain⟨s1,R1⟩:=hR.drawn (w':=w1) rfl rfl rfl rfl
    obtain⟨hlen,huni,hfc⟩:=zh2 (C:=C) hR hx hys
    -- a new row, over whatever elder elements
    have freshP : ∀ (base : Option Addr) (sLen sCap : Nat) (es : List (List AV)) (γk : Places) (σk : Store), Step Z w γk w -> Rel C γk σk w -> es.length = sLen -> (∀ e ∈ es, e.length = sz) -> sCap < sLen + ys.length -> sLen + ys.length <= 1073741824 ->
        (es.length ≠ 0->∃b o vals,base=some ⟨b,o,none⟩/\ Seg w b o vals/\ VRs Z w es.flatten vals)->
        ∃Z' w' cap pl,(Builtin.append_ #[sT,xT] ty #[.slice base sLen sCap,vx]).run C.P w=.ok (.slice (some ⟨pl.b,0,none⟩) (sLen+ys.length) cap) w'/\ Step Z w Z' w'/\ Rel C Z' (σk++ [some (es++ys)]) w' ∧
          Z'[σk.length]? =some (true,pl)/\ pl.esz=sz/\ pl.ty=e/\ pl.base=0/\ SlOK pl 0 (sLen+ys.length) cap none pl.b 0:=by
      intro base sLen sCap es γk σk hsk hRk hel heu hroom hneed hmem
      obtain⟨sk1,Rk1⟩:=hRk.drawn (w':=w1) rfl rfl rfl rfl
      have hmem1:es.length ≠ 0->∃b o vals,base=some ⟨b,o,none⟩/\ Seg w1 b o vals/\ VRs Z w1 es.flatten vals:=fun hne=>by
        obtain⟨b,o,vals,k1,k2,k3⟩:=hmem hne
        exact⟨b,o,vals,k1,k2,k3.mono s1⟩
      obtain⟨v1,h1,r1⟩:=z98 (C:=C) (Z:=Z) (w:=w1) (n:=sLen) (cap:=sCap) (k:=sLen) hmem1 heu (by omega)
      obtain⟨_,_,hfc1⟩:=zh2 (C:=C) R1 (hx.mono s1) hys
      obtain⟨v2,h2,r2⟩:=hfc1 ys.length (Nat.le_refl _)
      rw [List.take_of_length_le (by omega)]at r1
      rw [List.take_of_length_le (Nat.le_refl _)]at r2
      obtain⟨cap,rest,hcap,hrest,hr1,hrun⟩:=zzy (C:=C) (w:=w) (ty:=ty) hu hd hdi hsz hby hzrun hzs hz1 hlen hroom hneed hb h1 h2
      have l1:=r1.length;have l2:=r2.length
      rw [z29 heu]at l1
      rw [z29 huni]at l2
      have hall:∀e ∈ es++ys,e.length=sz:=fun e he=>by
        rcases List.mem_append.1 he with h|h
        · exact heu e h
        · exact huni e h
      obtain⟨k1,k2⟩:=Rk1.alloc (w':={ w1 with heap:=w1.heap.push (.cells (v1++v2++rest).toArray e) }) (c:=(v1++v2++rest).toArray) (ty:=e) (fz:=(0,0)) (o:=es++ys) (esz:=sz) (vals:=v1++v2) (rest:=rest)
        rfl rfl rfl rfl (by simp) (by rw [List.flatten_append];exact(r1.mono (hsk.trans sk1 |>fun t=>⟨t.keep,Nat.le_refl _,fun _ _ _=>rfl,t.new,rfl,rfl,rfl⟩)).append (r2.mono (hsk.trans sk1 |>fun t=>⟨t.keep,Nat.le_refl _,fun _ _ _=>rfl,t.new,rfl,rfl,rfl⟩))) hall NoSt.zero hr1
      refine⟨_,_,cap,_,hrun,(hsk.trans sk1).trans k1,k2,by rw [<-hRk.len,List.getElem?_concat_length],rfl,rfl,rfl,by omega,by simp,by simp [hel];omega,?_,by simp [w1],by simp [w1],Nat.zero_le _⟩
      simp only [List.size_toArray,List.length_append,hrest,<-l1,<-l2,hel,Nat.zero_add]
      rw [<-Nat.add_mul,<-Nat.add_mul]
      exact Nat.mul_le_mul_right _ (by omega)
    have fresh : ∀ (base : Option Addr) (sLen sCap : Nat) (es : List (List AV)) (γk : Places) (σk : Store), Step Z w γk w -> Rel C γk σk w -> es.length = sLen -> (∀ e ∈ es, e.length = sz) -> sCap < sLen + ys.length -> sLen + ys.length <= 1073741824 ->
        (es.length ≠ 0->∃b o vals,base=some ⟨b,o,none⟩/\ Seg w b o vals/\ VRs Z w es.flatten vals)->
        Out C Z w ((Builtin.append_ #[sT,xT] ty #[.slice base sLen sCap,vx]).run C.P w) (.sl σk.length 0 (sLen+ys.length) none sz) (σk++ [some (es++ys)]):=by
      intro base sLen sCap es γk σk a1 a2 a3 a4 a5 a6 a7
      obtain⟨Z',w',cap,pl,q1,q2,q3,q4,q5,q6,q7,q8⟩:=freshP base sLen sCap es γk σk a1 a2 a3 a4 a5 a6 a7
      refine⟨_,Z',w',q1,q2,q3,?_⟩
      simp only [VR]
      exact⟨true,pl,pl.b,0,cap,q4,q5,rfl,q8⟩
    have old:aApp O sz s ys=some (a,O')->Out C Z w ((Builtin.append_ #[sT,xT] ty #[vs,vx]).run C.P w) a O':=by
      clear h
      intro h
      unfold aApp at h
      split at h
      · -- nothing to append
        rename_i hy0
        simp only [Option.map_eq_some_iff,Prod.mk.injEq]at h
        obtain⟨es,hes,rfl,rfl⟩:=h
        have:ys=[]:=List.eq_nil_of_length_eq_zero hy0
        subst this
        obtain⟨v2,h2,r2⟩:=hfc 0 (by simp)
        simp only [List.take_zero,List.flatten_nil,VRs]at r2
        subst r2
        obtain⟨ad,cap,hvs,_,_⟩:=z5d (C:=C) hR hs hes
        have hcap:es.length<=cap:=by
          unfold z26 at hes
          split at hes
          · simp only [Option.some.injEq]at hes;subst hes;simp
          · simp only [Option.some.injEq]at hes;subst hes
            simp only [VR]at hs
            rcases hs with⟨rfl,_⟩| ⟨b,o,cap',vals,hv',hle,_⟩
            · simp
            rw [hvs]at hv';simp only [Value.slice.injEq]at hv';omega
          · split at hes
            · rename_i o ho
              split at hes
              · simp only [Option.some.injEq]at hes
                obtain⟨pl,hpl,_⟩:=hR.alive _ o ho
                simp only [VR]at hs
                obtain⟨_,_,b,p,cap',_,_,hv',hok⟩:=hs
                rw [hvs]at hv';simp only [Value.slice.injEq]at hv'
                have:=hok.le;omega
              · cases hes
            · cases hes
          · split at hes
            · rename_i o ho
              obtain⟨pl,hpl,_⟩:=hR.alive _ o ho
              simp only [VR]at hs
              obtain⟨_,_,b,p,_,hv',hle,_⟩:=hs
              rw [hvs]at hv';simp only [Value.slice.injEq]at hv'
              omega
            · cases hes
          · cases hes
        have hrun:=zzz (C:=C) (w:=w) (ty:=ty) (sz:=sz) (base:=ad) (sLen:=es.length) (sCap:=cap) hu hd hdi hsz (by simpa using hlen) hcap (by simpa using h2)
        rw [<-hvs]at hrun
        exact Out.same hR hrun hs
      · rename_i hyne
        split at h
        · -- onto nil
          split at h
          · rename_i hle
            simp only [Option.some.injEq,Prod.mk.injEq]at h
            obtain⟨rfl,rfl⟩:=h
            simp only [VR]at hs;subst hs
            have:=fresh none 0 0 [] Z O (Step.refl _ _) hR rfl (by simp) (by omega) (by omega) (by simp)
            simpa using this
          · cases h
        · -- onto a slice without room
          rename_i esz es ex
          split at h
          · rename_i hc
            simp only [Option.some.injEq,Prod.mk.injEq]at h
            obtain⟨rfl,rfl⟩:=h
            obtain⟨rfl,rfl,hle⟩:=hc
            obtain⟨ad,cap,rfl,hmem,_⟩:=z5d (C:=C) hR hs rfl
            simp only [VR]at hs
            rcases hs with⟨rfl,a1,hv'⟩| ⟨b,o,cap',vals,hv',_,hex,_,_,h6,_⟩
            · simp only [Value.slice.injEq]at hv'
              exact fresh ad 0 cap [] Z O (Step.refl _ _) hR rfl (by simp) (by omega) hle hmem
            simp only [Value.slice.injEq]at hv'
            exact fresh ad es.length cap es Z O (Step.refl _ _) hR rfl h6 (by have:=hex trivial;omega) hle hmem
          · cases h
        · -- onto a row of one's own
          rename_i r off len lim esz
          split at h
          · rename_i o ho
            split at h
            · rename_i hc
              obtain⟨rfl,hol,hle⟩:=hc
              obtain⟨pl,hpl,hok⟩:=hR.alive r o ho
              have hsl:z26 O (.sl r off len lim esz)=some ((o.drop off).take len):=by simp [z26,ho,hol]
              obtain⟨ad,cap,hvs,hmem,hnil⟩:=z5d (C:=C) hR hs hsl
              clear hnil
              have heu:=zgy hR hs hsl
              have hel:((o.drop off).take len).length=len:=by simp;omega
              have hs':=hs
              simp only [VR]at hs
              obtain⟨fl,pl',b,p,cap',hpl',he1,hvs',hso⟩:=hs
              rw [hpl]at hpl';cases hpl'
              have hvv:=hvs
              rw [hvs']at hvs
              simp only [Value.slice.injEq]at hvs
              obtain⟨hadd,hadd2,hcap⟩:=hvs
              clear hadd2
              subst hcap
              have hrl:r<O.length:=by
                rcases Nat.lt_or_ge r O.length with h|h
                · exact h
                · simp [List.getElem?_eq_none h]at ho
              -- in place
              have inplace : ∀ lim' : Option Nat, off + len + ys.length <= o.length -> len + ys.length <= cap' -> (∀ c, lim' = some c -> cap' = c) -> (lim' = none -> pl.n <= off + cap') ->
                  Out C Z w ((Builtin.append_ #[sT,xT] ty #[vs,vx]).run C.P w) (.sl r off (len+ys.length) lim' esz) (O.set r (some (o.take (off+len)++ys++o.drop (off+len+ys.length)))):=by
                intro lim' hfit hroom hl1 hl2
                obtain⟨v2,h2,r2⟩:=hfc ys.length (Nat.le_refl _)
                rw [List.take_of_length_le (Nat.le_refl _)]at r2
                obtain⟨rfl,rfl⟩:=hso.at_ (by omega)
                have hoe:o=o.take (off+len)++(o.drop (off+len)).take ys.length++o.drop (off+len+ys.length):=by
                  conv=>lhs;rw [<-List.take_append_drop (off+len) o,<-List.take_append_drop ys.length (o.drop (off+len)),List.drop_drop]
                  simp [List.append_assoc]
                obtain⟨w',hst,hst1,hst2⟩:=hR.storeFlat (o':=o.take (off+len)++ys++o.drop (off+len+ys.length)) ho hpl (by simp;omega)
                  (fun e he=>by
                    rcases List.mem_append.1 he with he|he
                    · rcases List.mem_append.1 he with he|he
                      · exact hok.esz e (List.mem_of_mem_take he)
                      · rw [he1];exact huni e he
                    · exact hok.esz e (List.mem_of_mem_drop he))
                  (p:=(off+len)*esz) (A:=(o.take (off+len)).flatten) (vs:=ys.flatten) (B:=(o.drop (off+len+ys.length)).flatten) (old:=((o.drop (off+len)).take ys.length).flatten)
                  (by conv => lhs; rw [hoe]
                      simp [List.append_assoc])
                  (by rw [z29 (k:=esz) (fun e h=>by rw [<-he1];exact hok.esz e (List.mem_of_mem_take h)),List.length_take,Nat.min_eq_left (by omega)])
                  (by rw [z29 (k:=esz) (fun e h=>by rw [<-he1];exact hok.esz e (List.mem_of_mem_drop (List.mem_of_mem_take h))),z29 huni,List.length_take,List.length_drop,Nat.min_eq_left (by omega)])
                  (by simp [List.append_assoc]) r2
                rw [hvs']
                refine⟨_,Z,w',zgk (C:=C) (w:=w) (ty:=ty) hu hd hdi hsz hlen hroom h2 (by rw [he1,Nat.add_assoc,<-Nat.add_mul];exact hst),hst1,hst2,?_⟩
                simp only [VR]
                exact⟨true,pl,pl.b,_,cap',hpl,he1,rfl,hroom,hl1,hl2,hso.inside,fun _=>⟨rfl,rfl⟩,rfl,hso.ole⟩
              split at h
              · split at h
                · rename_i hfit
                  simp only [Option.some.injEq,Prod.mk.injEq]at h
                  obtain⟨rfl,rfl⟩:=h
                  have:=hso.room rfl
                  rw [<-hok.len]at this
                  exact inplace none hfit (by omega) (by simp) (fun _=>hso.room rfl)
                · rename_i hnf
                  simp only [Option.some.injEq,Prod.mk.injEq]at h
                  obtain⟨rfl,rfl⟩:=h
                  obtain⟨kk1,kk2⟩:=hR.kill hpl
                  by_cases hroom:len+ys.length<=cap'
                  · -- it goes into the elder row's room
                    obtain⟨v2,h2,r2⟩:=hfc ys.length (Nat.le_refl _)
                    rw [List.take_of_length_le (Nat.le_refl _)]at r2
                    obtain⟨rfl,rfl⟩:=hso.at_ (by omega)
                    obtain⟨c,cty,fz,pre,mid,post,q1,q2,q3,q4,q5,q6⟩:=hok.ex
                    have hin:=hso.inside
                    have hl2:=r2.length
                    rw [z29 huni]at hl2
                    have e0:(off+len)*esz+ys.length*esz<=(off+cap')*esz:=by rw [<-Nat.add_mul];exact Nat.mul_le_mul_right _ (by omega)
                    rw [he1]at hin
                    have hst:=zcu (C:=C) pl.b (pl.base+(off+len)*esz) cty fz v2 0 c w q1 (by rw [<-hl2,q4];omega) r2.one_ q6.1.lt
                    -- the row's cells behind
                    have hmidl:=q5.length
                    rw [z29 (k:=esz) (fun e h=>by rw [<-he1];exact hok.esz e h)]at hmidl
                    have hsplit:o.flatten=(o.take off).flatten++((o.drop off).take len).flatten++((o.drop off).drop len).flatten:=by
                      conv=>lhs;rw [<-List.take_append_drop off o,<-List.take_append_drop len (o.drop off)]
                      rw [List.flatten_append,List.flatten_append,List.append_assoc]
                    rw [hsplit]at q5
                    obtain⟨m12,m3,rfl,q7,q8⟩:=q5.append_inv
                    obtain⟨m1,m2,rfl,q9,q10⟩:=q7.append_inv
                    have lm1:=q9.length;have lm2:=q10.length
                    rw [z29 (k:=esz) (fun e h=>by rw [<-he1];exact hok.esz e (List.mem_of_mem_take h)),List.length_take,Nat.min_eq_left (by omega)]at lm1
                    rw [z29 heu,hel]at lm2
                    have hcl:c.toList.length=pl.tot:=by rw [Array.length_toList,q4]
                    have htk:c.toList.take (pl.base+(off+len)*esz+0)=pre++m1++m2:=by
                      rw [q2,show pre++(m1++m2++m3)++post=(pre++m1++m2)++(m3++post)by simp [List.append_assoc]]
                      exact List.take_left' (by simp only [List.length_append,q3,<-lm1,<-lm2,Nat.add_mul];omega)
                    rw [htk]at hst
                    have hnew:∀(q:List Value),q=pre++m1++m2++v2++c.toList.drop (pl.base+(off+len)*esz+0+v2.length)->q.length=pl.tot:=by
                      intro q hq
                      have e1:(pre++m1++m2).length=pl.base+(off+len)*esz:=by simp only [List.length_append,q3,<-lm1,<-lm2,Nat.add_mul];omega
                      rw [hq,List.length_append,List.length_append,e1,List.length_drop,hcl];omega
                    obtain⟨g1,g2⟩:=hR.replace (w':=w.setRow pl.b (pre++m1++m2++v2++c.toList.drop (pl.base+(off+len)*esz+0+v2.length)).toArray) (r:=r) (pl:=pl)
                      (pl':=⟨pl.b,pl.base+off*esz,esz,len+ys.length,pl.tot,pl.ty⟩) (o:=(o.drop off).take len++ys) (c:=(pre++m1++m2++v2++c.toList.drop (pl.base+(off+len)*esz+0+v2.length)).toArray) (ty:=cty) (fz:=fz)
                      (pre:=pre++m1) (mid:=m2++v2) (post:=c.toList.drop (pl.base+(off+len)*esz+0+v2.length)) hrl hpl rfl (setRow_size _ _ _) (fun b hb=>setRow_other w pl.b b _ hb) (setRow_heap w pl.b c _ cty fz q1) rfl rfl rfl (by
                        obtain⟨c0,fz0,h0⟩:=hok.tyk
                        rw [q1]at h0;cases h0;rfl)
                      (by simp [List.append_assoc]) (by rw [List.length_append,q3,<-lm1]) (by rw [List.size_toArray];exact hnew _ rfl) (by rw [List.flatten_append];exact q10.append r2) (by rw [List.length_append,hel])
                      (fun e he=>by
                        rcases List.mem_append.1 he with he|he
                        · exact heu e he
                        · exact huni e he)
                      (by rw [List.size_toArray,hnew _ rfl,<-q4];show NoSt c.size esz fz;rw [<-he1];exact q6.1) (fun v hv=>by
                        rcases List.mem_append.1 hv with hv|hv
                        · refine q6.2 v ?_
                          rw [q2]
                          rcases List.mem_append.1 hv with hv|hv<;>simp [hv]
                        · exact q6.2 v (List.mem_of_mem_drop hv))
                    rw [hvs']
                    refine⟨_,_,_,zgk (C:=C) (w:=w) (ty:=ty) hu hd hdi hsz hlen hroom h2 (by rw [he1,Nat.add_assoc,<-Nat.add_mul];exact hst),g1,g2,?_⟩
                    simp only [VR]
                    refine⟨true,⟨pl.b,pl.base+off*esz,esz,len+ys.length,pl.tot,pl.ty⟩,pl.b,pl.base+off*pl.esz,cap',by rw [<-hR.len,List.getElem?_append_right (by simp)];simp,rfl,rfl,hroom,by simp,by simp;omega,?_,fun _=>⟨rfl,by simp [he1]⟩,rfl,hso.ole⟩
                    simp only [Nat.zero_add]
                    have:off*esz+cap'*esz=(off+cap')*esz:=by rw [Nat.add_mul]
                    omega
                  · -- a new row
                    have:=fresh ad len cap' ((o.drop off).take len) (Z.set r (false,pl)) (O.set r none) kk1 kk2 hel heu (by omega) hle hmem
                    rw [hel]at hvv
                    rw [hvv]
                    simpa using this
              · rename_i c
                have hc:=hso.lim_ c rfl
                subst hc
                split at h
                · rename_i hroom
                  split at h
                  · rename_i hfit
                    simp only [Option.some.injEq,Prod.mk.injEq]at h
                    obtain⟨rfl,rfl⟩:=h
                    exact inplace (some cap') hfit hroom (by simp) (by simp)
                  · cases h
                · rename_i hroom
                  simp only [Option.some.injEq,Prod.mk.injEq]at h
                  obtain⟨rfl,rfl⟩:=h
                  have:=fresh ad len cap' ((o.drop off).take len) Z O (Step.refl _ _) hR hel heu (by omega) hle hmem
                  rw [hel]at hvv
                  rw [hvv]
                  exact this
            · cases h
          · cases h
        · cases h
    split at h
    · rename_i hB
      obtain⟨hB1,hB2⟩:=hB
      unfold z4l at h
      split at h
      · -- a builder without bytes
        split at h
        · rename_i hc
          simp only [Option.some.injEq,Prod.mk.injEq]at h
          obtain⟨rfl,rfl⟩:=h
          simp only [VR]at hs;subst hs
          obtain⟨Z',w',cap,pl,q1,q2,q3,q4,q5,q6,q7,q8⟩:=freshP none 0 0 [] Z O (Step.refl _ _) hR rfl (by simp) (by omega) (by omega) (by simp)
          simp only [Nat.zero_add,List.nil_append]at q1 q3 q8
          refine⟨_,Z',w',q1,q2,q3,?_⟩
          simp only [VR]
          exact⟨true,pl,cap,q4,⟨q6.trans hB1,q7,q5.trans hB2⟩,rfl,q8⟩
        · cases h
      · -- a builder with bytes
        rename_i r len
        split at h
        · rename_i o ho
          split at h
          · rename_i hc
            obtain⟨hy0,hol,hle⟩:=hc
            simp only [Option.some.injEq,Prod.mk.injEq]at h
            obtain⟨rfl,rfl⟩:=h
            simp only [VR]at hs
            obtain⟨fl,pl,cap',hpl0,⟨ht1,ht2,ht3⟩,rfl,hso⟩:=hs
            obtain⟨pl',hpl,hok⟩:=hR.alive r o ho
            rw [hpl0]at hpl;cases hpl
            have hpl:=hpl0
            have heu:∀e ∈ o,e.length=sz:=fun e he=>by rw [hok.esz e he,ht3,hB2]
            have hrl:r<O.length:=by
              rcases Nat.lt_or_ge r O.length with h|h
              · exact h
              · simp [List.getElem?_eq_none h]at ho
            obtain⟨kk1,kk2⟩:=hR.kill hpl
            by_cases hroom:len+ys.length<=cap'
            · obtain⟨v2,h2,r2⟩:=hfc ys.length (Nat.le_refl _)
              rw [List.take_of_length_le (Nat.le_refl _)]at r2
              obtain⟨c,cty,fz,pre,mid,post,q1,q2,q3,q4,q5,q6⟩:=hok.ex
              have hin:=hso.inside
              have hl2:=r2.length
              rw [z29 huni]at hl2
              subst hB2
              rw [Nat.mul_one]at hl2
              have hst:=zcu (C:=C) pl.b (pl.base+len*1) cty fz v2 0 c w q1 (by rw [<-hl2,q4];rw [ht3]at hin;omega) r2.one_ q6.1.lt
              have hmidl:=q5.length
              rw [z29 (k:=1) heu,hol]at hmidl
              have hcl:c.toList.length=pl.tot:=by rw [Array.length_toList,q4]
              have htk:c.toList.take (pl.base+len*1+0)=pre++mid:=by
                rw [q2]
                exact List.take_left' (by simp only [List.length_append,q3,<-hmidl];omega)
              rw [htk]at hst
              have hnew:∀(q:List Value),q=pre++mid++v2++c.toList.drop (pl.base+len*1+0+v2.length)->q.length=pl.tot:=by
                intro q hq
                have e1:(pre++mid).length=pl.base+len*1:=by simp only [List.length_append,q3,<-hmidl]
                rw [ht3]at hin
                rw [hq,List.length_append,List.length_append,e1,List.length_drop,hcl];omega
              have hcty:cty=pl.ty:=by
                obtain⟨c0,fz0,h0⟩:=hok.tyk
                rw [q1]at h0;cases h0;rfl
              obtain⟨g1,g2⟩:=hR.replace (w':=w.setRow pl.b (pre++mid++v2++c.toList.drop (pl.base+len*1+0+v2.length)).toArray) (r:=r) (pl:=pl)
                (pl':=⟨pl.b,0,1,len+ys.length,pl.tot,pl.ty⟩) (o:=o++ys) (c:=(pre++mid++v2++c.toList.drop (pl.base+len*1+0+v2.length)).toArray) (ty:=cty) (fz:=fz)
                (pre:=pre) (mid:=mid++v2) (post:=c.toList.drop (pl.base+len*1+0+v2.length)) hrl hpl rfl (setRow_size _ _ _) (fun b hb=>setRow_other w pl.b b _ hb) (setRow_heap w pl.b c _ cty fz q1) rfl rfl rfl hcty
                (by simp [List.append_assoc]) (by rw [q3,ht2]) (by rw [List.size_toArray];exact hnew _ rfl) (by rw [List.flatten_append];exact q5.append r2) (by rw [List.length_append,hol])
                (fun e he=>by
                  rcases List.mem_append.1 he with he|he
                  · exact heu e he
                  · exact huni e he)
                (by rw [List.size_toArray,hnew _ rfl,<-q4];show NoSt c.size 1 fz;rw [<-ht3];exact q6.1) (fun v hv=>by
                  rcases List.mem_append.1 hv with hv|hv
                  · refine q6.2 v ?_
                    rw [q2]
                    simp [hv]
                  · exact q6.2 v (List.mem_of_mem_drop hv))
              refine⟨_,_,_,zgk (C:=C) (w:=w) (ty:=ty) (b:=pl.b) (o:=0) hu hd hdi hsz hlen hroom h2 (by simpa [ht2]using hst),g1,g2,?_⟩
              simp only [VR]
              refine⟨true,⟨pl.b,0,1,len+ys.length,pl.tot,pl.ty⟩,cap',by rw [<-hR.len,List.getElem?_append_right (by simp)];simp,⟨ht1,rfl,rfl⟩,rfl,hroom,by simp,by simp;omega,?_,fun _=>⟨rfl,by simp⟩,rfl,Nat.zero_le _⟩
              rw [ht2,ht3]at hin
              simpa using hin
            · obtain⟨c,cty,fz,pre,mid,post,p1,p2,p3,p4,p5,p6⟩:=hok.ex
              obtain⟨Z',w',cap,pl2,q1,q2,q3,q4,q5,q6,q7,q8⟩:=freshP (some ⟨pl.b,0,none⟩) len cap' o (Z.set r (false,pl)) (O.set r none) kk1 kk2 hol heu (by omega) hle (fun _=>⟨pl.b,0,mid,rfl,⟨c,cty,fz,pre,post,p1,p2,p3.trans ht2⟩,p5⟩)
              refine⟨_,Z',w',q1,q2,q3,?_⟩
              simp only [VR]
              exact⟨true,pl2,cap,by simpa using q4,⟨q6.trans hB1,q7,q5.trans hB2⟩,rfl,q8⟩
          · cases h
        · cases h
      · subst hB2;exact old h
    · exact old h
  · cases h
end
end
variable {r:Nat}
section
section
variable {C:Ctx} {Z:Places} {O:Store} {w:World}
def zag(C:Ctx)(O:Store)(dT:TypeId)(d s:AV):Option (AV × Store):=
 (tySl C dT).bind fun e=>(z1j C e).bind fun sz=>(z68 O sz s).bind fun ys=>
  match d with
  | .nilsl=>some (.int .i64 0,O)
  | .sl r off len _ esz=>match O[r]? with
   |some (some o)=>if esz=sz/\ off+len<=o.length then some (.int .i64 (min ys.length len:Nat),O.set r (some (o.take off++ys.take len++o.drop (off+min ys.length len))))else none
   | _=>none
  | .asl r i off len _ esz=>match O[r]? with
   |some (some o)=>(o[i]?).bind fun cs=>if esz=sz/\ off+len*esz<=cs.length then some (.int .i64 (min ys.length len:Nat),O.set r (some (o.set i (z1i cs off (ys.take len).flatten))))else none
   | _=>none
  | _=>none
theorem zol(b:Addr):(storeCells b []).run C.P w=.ok () w:=rfl
theorem zo0{l:List (Option AObj)}{x:Option AObj}(h:l[r]? =some x):l.set r x=l:=by
 apply List.ext_getElem?
 intro i
 rw [List.getElem?_set]
 by_cases e:r=i
 ·subst e
  rw [if_pos rfl,h]
  split
  ·rfl
  ·rename_i hlt
   have:=List.getElem?_eq_none (l:=l) (i:=r) (by simpa using hlt)
   rw [this]at h;cases h
 ·rw [if_neg e]
theorem zsb (hR : Rel C Z O w) {dT sT ty : TypeId} {d s a : AV} {vd vs : Value} {O' : Store} (hd : VR Z w d vd) (hs : VR Z w s vs) (h : zag C O dT d s = some (a, O')) :
    Out C Z w ((Builtin.copy_ #[dT,sT] ty #[vd,vs]).run C.P w) a O':=by
  simp only [zag,Option.bind_eq_some_iff]at h
  obtain⟨e,he,sz,hsz,ys,hys,h⟩:=h
  have hu:=z27 he
  obtain⟨hlen,huni,hfc⟩:=zh2 (C:=C) hR hs hys
  split at h
  · simp only [Option.some.injEq,Prod.mk.injEq]at h
    obtain⟨rfl,rfl⟩:=h
    simp only [VR]at hd;subst hd
    obtain⟨v2,h2,_⟩:=hfc 0 (Nat.zero_le _)
    refine Out.same hR (cv:=.int .i64 0) ?_ VR.int
    simp only [Builtin.copy_,List.getElem?_toArray,List.getElem?_cons_zero,List.getElem?_cons_succ,Sem.run_bind,run_underlying hu,Result.andThen_ok,hlen,z22 hsz,Nat.min_zero,h2,Sem.run_pure,goInt]
    rfl
  · rename_i r off len lim esz
    split at h
    · rename_i o ho
      split at h
      · rename_i hc
        obtain⟨rfl,hle⟩:=hc
        simp only [Option.some.injEq,Prod.mk.injEq]at h
        obtain⟨rfl,rfl⟩:=h
        obtain⟨pl,hpl,hok⟩:=hR.alive r o ho
        simp only [VR]at hd
        obtain⟨fl,pl',b,p,cap,hpl',he1,rfl,hso⟩:=hd
        rw [hpl]at hpl';cases hpl'
        obtain⟨v2,h2,r2⟩:=hfc (min ys.length len) (Nat.min_le_left _ _)
        have htk:ys.take (min ys.length len)=ys.take len:=by
          rcases Nat.le_total ys.length len with h|h
          · rw [Nat.min_eq_left h,List.take_of_length_le (Nat.le_refl _),List.take_of_length_le h]
          · rw [Nat.min_eq_right h]
        rw [htk]at r2
        have hrun:∀w',(storeCells ⟨b,p,none⟩ v2).run C.P w=.ok () w'->(Builtin.copy_ #[dT,sT] ty #[.slice (some ⟨b,p,none⟩) len cap,vs]).run C.P w=.ok (.int .i64 (min ys.length len:Nat)) w':=by
          intro w' hst
          have hm:Nat.min ys.length len=min ys.length len:=rfl
          simp only [Builtin.copy_,List.getElem?_toArray,List.getElem?_cons_zero,List.getElem?_cons_succ,Sem.run_bind,run_underlying hu,Result.andThen_ok,hlen,z22 hsz,hm,h2,hst,Sem.run_pure,goInt]
        by_cases hz:min ys.length len=0
        · have hv2:v2=[]:=by
            have:=r2.length
            rw [<-htk,hz]at this
            simp only [List.take_zero,List.flatten_nil,List.length_nil]at this
            exact List.eq_nil_of_length_eq_zero this.symm
          subst hv2
          have e1:o.take off++ys.take len++o.drop (off+min ys.length len)=o:=by rw [<-htk,hz];simp
          rw [e1,zo0 ho]
          exact Out.same hR (hrun w (zol _)) VR.int
        · obtain⟨rfl,rfl⟩:=hso.at_ (by have:=hso.le;omega)
          have hyl:(ys.take len).length=min ys.length len:=by rw [List.length_take];exact Nat.min_comm _ _
          have hoe:o=o.take off++(o.drop off).take (min ys.length len)++o.drop (off+min ys.length len):=by
            conv=>lhs;rw [<-List.take_append_drop off o,<-List.take_append_drop (min ys.length len) (o.drop off),List.drop_drop]
            simp [List.append_assoc]
          have huy:∀e ∈ ys.take len,e.length=esz:=fun e h=>huni e (List.mem_of_mem_take h)
          obtain⟨w',hst,hst1,hst2⟩:=hR.storeFlat (o':=o.take off++ys.take len++o.drop (off+min ys.length len)) ho hpl (by simp only [List.length_append,List.length_take,List.length_drop];omega)
            (fun e he=>by
              rcases List.mem_append.1 he with he|he
              · rcases List.mem_append.1 he with he|he
                · exact hok.esz e (List.mem_of_mem_take he)
                · rw [he1];exact huy e he
              · exact hok.esz e (List.mem_of_mem_drop he))
            (p:=off*pl.esz) (A:=(o.take off).flatten) (vs:=(ys.take len).flatten) (B:=(o.drop (off+min ys.length len)).flatten) (old:=((o.drop off).take (min ys.length len)).flatten)
            (by conv => lhs; rw [hoe]
                simp [List.append_assoc])
            (by rw [z29 (k:=pl.esz) (fun e h=>hok.esz e (List.mem_of_mem_take h)),List.length_take,Nat.min_eq_left (by omega)])
            (by rw [z29 (k:=esz) (fun e h=>by rw [<-he1];exact hok.esz e (List.mem_of_mem_drop (List.mem_of_mem_take h))),z29 huy,hyl,List.length_take,List.length_drop,Nat.min_eq_left (by omega)])
            (by simp [List.append_assoc]) r2
          exact⟨_,Z,w',hrun w' hst,hst1,hst2,VR.int⟩
      · cases h
    · cases h
  · rename_i r i off len cap esz
    split at h
    · rename_i o ho
      simp only [Option.bind_eq_some_iff]at h
      obtain⟨cs,hcs,h⟩:=h
      split at h
      · rename_i hc
        obtain⟨rfl,hle⟩:=hc
        simp only [Option.some.injEq,Prod.mk.injEq]at h
        obtain⟨rfl,rfl⟩:=h
        obtain⟨pl,hpl,hok⟩:=hR.alive r o ho
        simp only [VR]at hd
        obtain⟨fl,pl',b,p,hpl',rfl,hle0,hat⟩:=hd
        rw [hpl]at hpl';cases hpl'
        obtain⟨v2,h2,r2⟩:=hfc (min ys.length len) (Nat.min_le_left _ _)
        have htk:ys.take (min ys.length len)=ys.take len:=by
          rcases Nat.le_total ys.length len with h|h
          · rw [Nat.min_eq_left h,List.take_of_length_le (Nat.le_refl _),List.take_of_length_le h]
          · rw [Nat.min_eq_right h]
        rw [htk]at r2
        have hrun:∀w',(storeCells ⟨b,p,none⟩ v2).run C.P w=.ok () w'->(Builtin.copy_ #[dT,sT] ty #[.slice (some ⟨b,p,none⟩) len cap,vs]).run C.P w=.ok (.int .i64 (min ys.length len:Nat)) w':=by
          intro w' hst
          have hm:Nat.min ys.length len=min ys.length len:=rfl
          simp only [Builtin.copy_,List.getElem?_toArray,List.getElem?_cons_zero,List.getElem?_cons_succ,Sem.run_bind,run_underlying hu,Result.andThen_ok,hlen,z22 hsz,hm,h2,hst,Sem.run_pure,goInt]
        have huy:∀e ∈ ys.take len,e.length=esz:=fun e h=>huni e (List.mem_of_mem_take h)
        have hfl:(ys.take len).flatten.length=min ys.length len*esz:=by rw [z29 huy,List.length_take,Nat.min_comm]
        by_cases hz:min ys.length len=0
        · have hyz:ys.take len=[]:=by rw [<-htk,hz];rfl
          have hv2:v2=[]:=by
            have:=r2.length
            rw [hyz]at this
            exact List.eq_nil_of_length_eq_zero this.symm
          subst hv2
          have e1:z1i cs off (ys.take len).flatten=cs:=by rw [hyz];simp [z1i]
          have e2:o.set i cs=o:=by
            apply List.ext_getElem?
            intro j
            rw [List.getElem?_set]
            by_cases e:i=j
            · subst e
              rw [if_pos rfl,hcs]
              split
              · rfl
              · rename_i hlt
                have:=List.getElem?_eq_none (l:=o) (i:=i) (by simpa using hlt)
                rw [this]at hcs;cases hcs
            · rw [if_neg e]
          rw [e1,e2,zo0 ho]
          exact Out.same hR (hrun w (zol _)) VR.int
        · obtain⟨rfl,rfl⟩:=hat (by omega)
          have hfit:off+(ys.take len).flatten.length<=cs.length:=by
            rw [hfl]
            have:min ys.length len*esz<=len*esz:=Nat.mul_le_mul_right _ (Nat.min_le_right _ _)
            omega
          obtain⟨w',hst,hst1,hst2⟩:=hR.storeElem ho hpl hcs hfit r2
          exact⟨_,Z,w',hrun w' hst,hst1,hst2,VR.int⟩
      · cases h
    · cases h
  · cases h
theorem zhz{zc:List AV}{vs:List Value}(h:VRs Z w zc vs):∀n:Nat,VRs Z w (List.replicate n zc).flatten (List.replicate n vs).flatten
 | 0=>VRs.nil
 |n+1=>by simp only [List.replicate_succ,List.flatten_cons];exact h.append (zhz h n)
def zaf(C:Ctx)(O:Store)(t:TypeId)(x:AV):Option (AV × Store):=
 (tySl C t).bind fun e=>
  match x with
  | .nilsl=>some (.tup [],O)
  | .sl r off len _ esz=>if len=0 then some (.tup [],O)else match O[r]? with
   |some (some o)=>(z3h C e).bind fun z=>(cellsOf z).bind fun zc=>if zc.length=esz/\ off+len<=o.length then some (.tup [],O.set r (some (o.take off++List.replicate len zc++o.drop (off+len))))else none
   | _=>none
  | _=>none
theorem zs1 (hR : Rel C Z O w) {t ty : TypeId} {x a : AV} {vx : Value} {O' : Store} (hx : VR Z w x vx) (h : zaf C O t x = some (a, O')) :
    Out C Z w ((Builtin.clear_ #[t] ty #[vx]).run C.P w) a O':=by
  simp only [zaf,Option.bind_eq_some_iff]at h
  obtain⟨e,he,h⟩:=h
  have hu:=z27 he
  have htup:VR Z w (.tup []) (.tuple #[]):=by simp only [VR];exact⟨[],rfl,VRt.nil⟩
  split at h
  · simp only [Option.some.injEq,Prod.mk.injEq]at h
    obtain⟨rfl,rfl⟩:=h
    simp only [VR]at hx;subst hx
    exact Out.same hR (cv:=.tuple #[]) (by simp [Builtin.clear_,run_underlying hu]) htup
  · rename_i r off len lim esz
    simp only [VR]at hx
    obtain⟨fl,pl,b,p,cap,hpl,he1,rfl,hso⟩:=hx
    split at h
    · rename_i hz
      subst hz
      simp only [Option.some.injEq,Prod.mk.injEq]at h
      obtain⟨rfl,rfl⟩:=h
      exact Out.same hR (cv:=.tuple #[]) (by simp [Builtin.clear_,run_underlying hu]) htup
    · rename_i hne
      split at h
      · rename_i o ho
        simp only [Option.bind_eq_some_iff]at h
        obtain⟨z,hz,zc,hzc,h⟩:=h
        split at h
        · rename_i hc
          obtain⟨hzl,hle⟩:=hc
          simp only [Option.some.injEq,Prod.mk.injEq]at h
          obtain⟨rfl,rfl⟩:=h
          obtain⟨pl',hpl',hok⟩:=hR.alive r o ho
          rw [hpl]at hpl';cases hpl'
          obtain⟨zv,hzv,hzr⟩:=z86 (C:=C) hz Z w
          have hzcl:=z54 hzc hzr
          have hzsz:zv.cells.size=esz:=by rw [<-Array.length_toList,<-hzcl.length,hzl]
          have hzeros:(Builtin.zeroCells zv.cells len).toList=(List.replicate len zv.cells.toList).flatten:=by
            have:=zd7 zv.cells len
            simpa [Builtin.zeroCells]using this
          have hrep:VRs Z w (List.replicate len zc).flatten (List.replicate len zv.cells.toList).flatten:=zhz hzcl len
          obtain⟨rfl,rfl⟩:=hso.at_ (by have:=hso.le;omega)
          have hoe:o=o.take off++(o.drop off).take len++o.drop (off+len):=by
            conv=>lhs;rw [<-List.take_append_drop off o,<-List.take_append_drop len (o.drop off),List.drop_drop]
            simp [List.append_assoc]
          have hur:∀e ∈ List.replicate len zc,e.length=esz:=fun e he=>by rw [List.mem_replicate]at he;rw [he.2];exact hzl
          obtain⟨w',hst,hst1,hst2⟩:=hR.storeFlat (o':=o.take off++List.replicate len zc++o.drop (off+len)) ho hpl (by simp;omega)
            (fun e he=>by
              rcases List.mem_append.1 he with he|he
              · rcases List.mem_append.1 he with he|he
                · exact hok.esz e (List.mem_of_mem_take he)
                · rw [he1];exact hur e he
              · exact hok.esz e (List.mem_of_mem_drop he))
            (p:=off*pl.esz) (A:=(o.take off).flatten) (vs:=(List.replicate len zc).flatten) (B:=(o.drop (off+len)).flatten) (old:=((o.drop off).take len).flatten)
            (by conv => lhs; rw [hoe]
                simp [List.append_assoc])
            (by rw [z29 (k:=pl.esz) (fun e h=>hok.esz e (List.mem_of_mem_take h)),List.length_take,Nat.min_eq_left (by omega)])
            (by rw [z29 (k:=esz) (fun e h=>by rw [<-he1];exact hok.esz e (List.mem_of_mem_drop (List.mem_of_mem_take h))),z29 hur,List.length_take,List.length_drop,List.length_replicate,Nat.min_eq_left (by omega)])
            (by simp [List.append_assoc]) hrep
          refine⟨.tuple #[],Z,w',?_,hst1,hst2,by simp only [VR];exact⟨[],rfl,VRt.nil⟩⟩
          cases len with
          |zero=>exact absurd rfl hne
          |succ q=>
            simp only [Builtin.clear_,List.getElem?_toArray,List.getElem?_cons_zero,Sem.run_bind,run_underlying hu,Result.andThen_ok,hzv,hzeros,hst,Sem.run_pure]
        · cases h
      · cases h
  · cases h
end
end
section
section
variable {C:Ctx} {Z:Places} {O O':Store} {w:World}
def rCap:AV->Option AV
 | .sl _ _ _ (some c) _=>some (.int .i64 c)
 | _=>none
def aCap(C:Ctx)(t:TypeId)(x:AV):Option AV:=(tySl C t).bind fun _=>rCap x
theorem cap_ok{ty:TypeId}{a:AV}{cx:Value}(hx:VR Z w x cx)(h:aCap C t x=some a):∃v,(Builtin.cap_ #[t] ty #[cx]).run C.P w=.ok v w/\ VR Z w a v:=by
 simp only [aCap,Option.bind_eq_some_iff]at h
 obtain⟨e,he,h⟩:=h
 unfold rCap at h
 split at h
 ·rename_i r off len c esz
  simp only [Option.some.injEq]at h;subst h
  simp only [VR]at hx
  obtain⟨fl,pl,b,o,cap,hpl,he1,rfl,hok⟩:=hx
  have:=hok.lim_ c rfl
  subst this
  exact⟨.int .i64 cap,by simp [Builtin.cap_,run_underlying (z27 he),goInt],VR.int⟩
 ·cases h
def zcf(sz:Nat)(zc:List AV)(O:Store)(s x:AV):Option (AV × Store):=
 match s,x with
 | .sl r off len (some c) esz,.int _ k=>match O[r]? with
  |some (some o)=>if esz=sz/\ off+len<=o.length/\ 0<k/\ (c:Int)<len+k/\ (len:Int)+k<=1073741824 then some (.sl O.length 0 (len+k.toNat) none sz,O++ [some ((o.drop off).take len++List.replicate k.toNat zc)])else none
  | _=>none
 | _,_=>none
def zad(C:Ctx)(O:Store)(sT xT:TypeId)(s x:AV):Option (AV × Store):=
 (tySl C sT).bind fun e=>(z1j C e).bind fun sz=>(z4j C e).bind fun by_=>(z3h C e).bind fun z=>(cellsOf z).bind fun zc=>
  if by_<=8192/\ zc.length=sz/\ 0<sz/\ (z4k C xT).isSome=true then zcf sz zc O s x else none
theorem zcells(z:Array Value)(k:Nat)(hz:0<z.size):(Builtin.zeroCells z k).toList=(List.replicate k z.toList).flatten:=by
 have:=zd7 z k
 simpa [Builtin.zeroCells]using this
theorem VRs.reps{zc:List AV}{zv:List Value}(h:VRs Z w zc zv):∀k:Nat,VRs Z w (List.replicate k zc).flatten (List.replicate k zv).flatten
 | 0=>VRs.nil
 |k+1=>by
  simp only [List.replicate_succ,List.flatten_cons]
  exact h.append (VRs.reps h k)
theorem zr3(hR:Rel C Z O w){sT xT ty:TypeId}{s x a:AV}{vs vx:Value}(hs:VR Z w s vs)(hx:VR Z w x vx)(h:zad C O sT xT s x=some (a,O')):
  Out C Z w ((Builtin.append_ #[sT,xT] ty #[vs,vx]).run C.P w) a O':=by
 simp only [zad,Option.bind_eq_some_iff]at h
 obtain⟨e,he,sz,hsz,by_,hby,z,hz,zc,hzc,h⟩:=h
 split at h
 ·rename_i hcond
  obtain⟨hb,hzl,hs0,hxT⟩:=hcond
  obtain⟨kn,hkn⟩:=Option.isSome_iff_exists.1 hxT
  unfold zcf at h
  split at h
  ·rename_i r off len c esz kq k
   split at h
   ·rename_i o ho
    split at h
    ·rename_i hc
     obtain⟨rfl,hol,hk0,hroom,hneed⟩:=hc
     simp only [Option.some.injEq,Prod.mk.injEq]at h
     obtain⟨rfl,rfl⟩:=h
     obtain⟨k,rfl⟩:∃n:Nat,k=n:=⟨k.toNat,by omega⟩
     obtain⟨zv,hzrun,hzr⟩:=z86 (C:=C) hz Z w
     have hzcl:=z54 hzc hzr
     have hzsz:zv.cells.size=esz:=by rw [<-Array.length_toList,<-hzcl.length,hzl]
     cases hi:C.P.info? e with
     |none=>simp [z4j,hi]at hby
     |some i=>
      have hbyt:i.bytes=by_:=by simpa [z4j,hi]using hby
      have hisz:i.size=esz:=by simpa [z1j,hi]using hsz
      have hiz:i.zero=some zv:=by
       have:=hzrun
       cases hz0:i.zero with
       |none=>simp [zeroValue,typeInfo,hi,hz0]at this
       |some v=>
        simp [zeroValue,typeInfo,hi,hz0]at this
        rw [this]
      have hsl:z26 O (.sl r off len (some c) esz)=some ((o.drop off).take len):=by simp [z26,ho,hol]
      obtain⟨ad,cap,hvs,hmem,_⟩:=z5d (C:=C) hR hs hsl
      have heu:=zgy hR hs hsl
      have hel:((o.drop off).take len).length=len:=by simp;omega
      simp only [VR]at hs hx
      obtain⟨fl,pl,b,p,cap',hpl,he1,hvs',hso⟩:=hs
      have hcap:=hso.lim_ c rfl
      subst hcap
      rw [hvs']at hvs ⊢
      simp only [Value.slice.injEq]at hvs
      obtain⟨hadd,_,hcap⟩:=hvs
      subst hcap
      subst hx
      let w1:World:=w.drew
      obtain⟨s1,R1⟩:=hR.drawn (w':=w1) rfl rfl rfl rfl
      have hmem1:((o.drop off).take len).length ≠ 0->∃b o' vals,ad=some ⟨b,o',none⟩/\ Seg w1 b o' vals/\ VRs Z w1 ((o.drop off).take len).flatten vals:=fun hne=>by
       obtain⟨b,o',vals,k1,k2,k3⟩:=hmem hne
       exact⟨b,o',vals,k1,k2,k3.mono s1⟩
      obtain⟨v1,h1,r1⟩:=z98 (C:=C) (Z:=Z) (w:=w1) (n:=len) (cap:=cap') (k:=len) hmem1 heu (by omega)
      rw [List.take_of_length_le (by omega)]at r1
      have hn1:=zle (need:=len+k) (old:=cap') (by omega) (by omega)
      have hrun:=Lib.run_append_grow_zeros (P:=C.P) w sT xT ty e i zv kq kn (z27 he) (za3 hkn) hi hiz ad len cap' v1 (by rw [hisz];exact h1) k (by omega) (by omega) (by omega) (by omega)
       (by rw [hbyt];have:k*by_<=1073741824*8192:=Nat.mul_le_mul (by omega) hb;omega)
       (by rw [hbyt];have:Builtin.nextslicecap (len+k) cap'*by_<=17179872064*8192:=Nat.mul_le_mul hn1 hb;omega)
      obtain⟨G,hG⟩:∃G,G=grownCap w (len+k) cap' e:=⟨_,rfl⟩
      have hGn:len+k<=G:=by rw [hG];exact grownCap_ge w _ _ _
      rw [<-hG]at hrun
      rw [hadd]
      have hz1:=hzcl.one_
      have e1:=zcells zv.cells k (by omega)
      have l1:=r1.length
      rw [z29 heu,hel]at l1
      obtain⟨k1,k2⟩:=R1.alloc (w':=w1.alloc (.cells (v1.toArray++Builtin.zeroCells zv.cells k++Builtin.zeroCells zv.cells (G-(len+k))) e)) (c:=v1.toArray++Builtin.zeroCells zv.cells k++Builtin.zeroCells zv.cells (G-(len+k))) (ty:=e) (fz:=(0,0))
       (o:=(o.drop off).take len++List.replicate k zc) (esz:=esz) (vals:=v1++(List.replicate k zv.cells.toList).flatten) (rest:=(Builtin.zeroCells zv.cells (G-(len+k))).toList)
       rfl rfl rfl rfl (by simp [e1]) (by rw [List.flatten_append];exact r1.append ((hzcl.mono s1).reps k)) (fun x hx=>by
        rcases List.mem_append.1 hx with hx|hx
        ·exact heu x hx
        ·rw [List.mem_replicate]at hx;rw [hx.2];exact hzl) NoSt.zero (zpc hz1 _)
      refine⟨_,_,_,hrun,s1.trans k1,k2,?_⟩
      simp only [VR]
      refine⟨true,_,w.heap.size,0,G,by rw [<-hR.len,List.getElem?_concat_length],rfl,by simp,⟨by simp;omega,by simp,fun _=> ?_,?_,fun _=>⟨by simp [w1],by simp⟩,by simp [w1],Nat.zero_le _⟩⟩
      ·simp only [List.length_append,List.length_replicate,hel];omega
      ·have e3:∀k,(Builtin.zeroCells zv.cells k).size=k*esz:=fun k=>by simp [Builtin.zeroCells,hzsz]
       simp only [Array.size_append,List.size_toArray,e3,Nat.zero_add]
       rw [<-l1,<-Nat.add_mul,<-Nat.add_mul]
       exact Nat.mul_le_mul_right _ (by omega)
    ·cases h
   ·cases h
  ·cases h
 ·cases h
end
end
variable {O O':Store}{f:FuncId}{v:AV}
section
def ACallsTo(C:Ctx)(f:FuncId)(args:List AV)(O:Store)(v:AV)(O':Store):Prop:=
 ∀(Z:Places) (w:World) (cargs:List Value),Rel C Z O w->VRt Z w args cargs->
  ((callFunc f cargs.toArray).run C.P w=.ok (.enter f cargs.toArray) w ∧
   Calls C.P f cargs.toArray w fun e w'=>∃cv Z',e=.returned cv/\ Step Z w Z' w'/\ Rel C Z' O' w'/\ VR Z' w' v cv) ∨
  ∃cv Z' w',(callFunc f cargs.toArray).run C.P w=.ok (.value cv) w'/\ Step Z w Z' w'/\ Rel C Z' O' w'/\ VR Z' w' v cv
def ACallsP(C:Ctx)(f:FuncId)(args:List AV)(O:Store)(P:AV->Store->Prop):Prop:=
 ∀(Z:Places) (w:World) (cargs:List Value),Rel C Z O w->VRt Z w args cargs->
  ((callFunc f cargs.toArray).run C.P w=.ok (.enter f cargs.toArray) w ∧
   Calls C.P f cargs.toArray w fun e w'=>∃cv v Z' O',e=.returned cv/\ P v O'/\ Step Z w Z' w'/\ Rel C Z' O' w'/\ VR Z' w' v cv) ∨
  ∃cv v Z' O' w',(callFunc f cargs.toArray).run C.P w=.ok (.value cv) w'/\ P v O'/\ Step Z w Z' w'/\ Rel C Z' O' w'/\ VR Z' w' v cv
theorem ACallsTo.toP{args:List AV}{P:AV->Store->Prop}(h:ACallsTo C f args O v O')(hp:P v O'):ACallsP C f args O P:=by
 intro Z w cargs hR ha
 rcases h Z w cargs hR ha with⟨h1,h2⟩| ⟨cv,Z',w',h1,h2,h3,h4⟩
 ·refine .inl ⟨h1,h2.mono ?_⟩
  rintro e w' ⟨cv,Z',rfl,k1,k2,k3⟩
  exact⟨cv,v,Z',O',rfl,hp,k1,k2,k3⟩
 ·exact .inr ⟨cv,v,Z',O',w',h1,hp,h2,h3,h4⟩
def z3n(C:Ctx)(O:Store)(b:Builtin)(ats:List TypeId)(args:List AV):Option (AV × Store):=
 match b,ats,args with
 | .len,[t],[x]=>(aLen C t x).map fun v=>(v,O)
 | .append,[t,t'],[s,x]=>if (z4k C t').isSome=true then zad C O t t' s x else z8o C O t t' s x
 | .cap,[t],[x]=>(aCap C t x).map fun v=>(v,O)
 | .copy,[t,_],[d,s]=>zag C O t d s
 | .clear,[t],[x]=>zaf C O t x
 | .min,_,[x,y]=>(aMin false x y).map fun v=>(v,O)
 | .max,_,[x,y]=>(aMin true x y).map fun v=>(v,O)
 | _,_,_=>none
def z1z(C:Ctx)(e:Operand->AV)(O:Store):Op->Option (AV × Store)
 | .move x=>some (e x,O)
 | .assign x=>some (e x,O)
 | .pick c a b=>match e c with| .bool t=>some (if t then e a else e b,O)| _=>none
 | .alloc t=>z8n C O t
 | .box _ x=>aBox O (e x)
 | .build t ps=>(z8p C t (ps.toList.map fun p=>(p.1,e p.2))).map fun v=>(v,O)
 | .buildSlice t n ps=>(zae C t n (ps.toList.map fun p=>(p.1,e p.2))).map fun v=>(v,O)
 | .load t x=>(z7d C O t (e x)).map fun v=>(v,O)
 | .store t a x=>(zap C O t (e a) (e x)).map fun O'=>(.undef,O')
 | .nilCheck x=>match e x with
  | .ptr r i off=>some (.ptr r i off,O)
  | .vp cs=>some (.vp cs,O)
  | .fn f caps=>some (.fn f caps,O)
  | _=>none
 | .binOp op t x y _=>(aBin C op t (e x) (e y)).map fun v=>(v,O)
 | .unOp op _ x=>(aUn op (e x)).map fun v=>(v,O)
 | .convert s d x=>z5l C O s d (e x)
 | .makeFunc (.func f) first captured=>if first.size=0 then some (.fn f (captured.toList.map e),O)else none
 | .makeSlice t l c=>zal C O t (e l) (e c)
 | .slice t x lo hi mx=>(z7e C O t (e x) (lo.map e) (hi.map e) (mx.map e)).map fun v=>(v,O)
 | .fieldAddr s x f=>(zai C s f (e x)).map fun v=>(v,O)
 | .field s x f=>(zah C s f (e x)).map fun v=>(v,O)
 | .indexAddr t x i=>(z8r C t (e x) (e i)).map fun v=>(v,O)
 | .index t x i=>(z8q C t (e x) (e i)).map fun v=>(v,O)
 | .extract x i=>match e x with| .tup vs=>(vs[i]?).map fun v=>(v,O)| _=>none
 | .call c=>match c.callee with| .builtin b=>z3n C O b c.argTypes.toList (c.args.toList.map e)| _=>none
 | _=>none
def z2g:Op->Option (Operand × Array Operand)
 | .call c=>match c.callee with| .value f=>some (f,c.args)| _=>none
 | _=>none
def OpP(C:Ctx)(e:Operand->AV)(O:Store)(op:Op)(P:AV->Store->Prop):Prop:=
 ∃fa,z2g op=some fa/\ ∃fid caps,e fa.1=.fn fid caps/\ ACallsP C fid (fa.2.toList.map e++caps) O P
def OpTo(C:Ctx)(e:Operand->AV)(O:Store)(op:Op)(v:AV)(O':Store):Prop:=
 match z2g op with
 |some fa=>∃fid caps,e fa.1=.fn fid caps/\ ACallsTo C fid (fa.2.toList.map e++caps) O v O'
 |none=>z1z C e O op=some (v,O')
section
variable {C:Ctx} {Z:Places} {O O':Store} {w:World}
theorem z8l{J:Operand->AV}{a:Operand->Value}(h:∀x,VR Z w (J x) (a x)):∀l:List Operand,VRt Z w (l.map J) (l.map a)
 | []=>VRt.nil
 |x::l=>VRt.cons (h x) (z8l h l)
theorem zdb{J:Operand->AV}{a:Operand->Value}(h:∀x,VR Z w (J x) (a x)):∀l:List (Nat × Operand),VPs Z w (l.map fun p=>(p.1,J p.2)) (l.map fun p=>(p.1,a p.2))
 | []=>by simp [VPs]
 |p::l=>by simp only [List.map_cons,VPs];exact⟨_,_,rfl,rfl,h p.2,zdb h l⟩
theorem zd9{J:Operand->AV}{a:Operand->Value}(h:∀x,VR Z w (J x) (a x))(x:Option Operand):OV Z w (x.map J) (x.map a):=by
 cases x<;>simp [OV,h]
theorem zl7{mx:Bool}{y:AV}{vx vy:Value}(hx:VR Z w x vx)(hy:VR Z w y vy)(h:aMin mx x y=some v):
  ∃cv,(if mx then Builtin.max_ #[] 0 #[vx,vy]else Builtin.min_ #[] 0 #[vx,vy]).run C.P w=.ok cv w/\ VR Z w v cv:=by
 unfold aMin at h
 split at h
 ·split at h
  ·simp only [Option.some.injEq]at h;subst h
   simp only [VR]at hx hy;subst hx;subst hy
   cases mx
   ·exact⟨_,by simp only [Bool.false_eq_true,if_false];rfl,VR.int⟩
   ·exact⟨_,by simp only [if_true];rfl,VR.int⟩
  ·cases h
 ·cases h
theorem zra(hR:Rel C Z O w){b:Builtin}{ats:Array TypeId}{ty:TypeId}{cs:Array Bool}{args:List AV}{cargs:List Value}{v:AV}(ha:VRt Z w args cargs)(h:z3n C O b ats.toList args=some (v,O')):
  ∃cv Z' w',(builtin b ats ty cs cargs.toArray).run C.P w=.ok (.value cv) w'/\ Step Z w Z' w'/\ Rel C Z' O' w'/\ VR Z' w' v cv:=by
 obtain⟨ats⟩:=ats
 simp only at h
 have lift:∀{s:Sem Value} {v:AV} {O':Store},Out C Z w (s.run C.P w) v O'->∃cv Z' w',((do pure (.value (<-s)):Sem Next)).run C.P w=.ok (.value cv) w'/\ Step Z w Z' w'/\ Rel C Z' O' w'/\ VR Z' w' v cv:=by
  rintro s v O' ⟨cv,Z',w',h1,h2,h3,h4⟩
  exact⟨cv,Z',w',by simp only [Sem.run_bind,h1,Result.andThen_ok,Sem.run_pure],h2,h3,h4⟩
 have two:∀{x y:AV},args=[x,y]->∃vx vy,cargs=[vx,vy]/\ VR Z w x vx/\ VR Z w y vy:=by
  rintro x y rfl
  simp only [VRt]at ha
  obtain⟨vx,_,rfl,h1,vy,_,rfl,h2,rfl⟩:=ha
  exact⟨vx,vy,rfl,h1,h2⟩
 have one:∀{x:AV},args=[x]->∃vx,cargs=[vx]/\ VR Z w x vx:=by
  rintro x rfl
  simp only [VRt]at ha
  obtain⟨vx,_,rfl,h1,rfl⟩:=ha
  exact⟨vx,rfl,h1⟩
 unfold z3n at h
 split at h
 ·simp only [Option.map_eq_some_iff,Prod.mk.injEq]at h
  obtain⟨v',h1,rfl,rfl⟩:=h
  obtain⟨vx,rfl,hx⟩:=one rfl
  obtain⟨cv,h2,h3⟩:=len_ok (C:=C) (ty:=ty) hx h1
  exact lift (Out.same hR h2 h3)
 ·obtain⟨vx,vy,rfl,hx,hy⟩:=two rfl
  split at h
  ·exact lift (zr3 hR (ty:=ty) hx hy h)
  ·exact lift (zr2 hR (ty:=ty) hx hy h)
 ·simp only [Option.map_eq_some_iff,Prod.mk.injEq]at h
  obtain⟨v',h1,rfl,rfl⟩:=h
  obtain⟨vx,rfl,hx⟩:=one rfl
  obtain⟨cv,h2,h3⟩:=cap_ok (C:=C) (ty:=ty) hx h1
  exact lift (Out.same hR h2 h3)
 ·obtain⟨vx,vy,rfl,hx,hy⟩:=two rfl
  exact lift (zsb hR (ty:=ty) hx hy h)
 ·obtain⟨vx,rfl,hx⟩:=one rfl
  exact lift (zs1 hR (ty:=ty) hx h)
 ·simp only [Option.map_eq_some_iff,Prod.mk.injEq]at h
  obtain⟨v',h1,rfl,rfl⟩:=h
  obtain⟨vx,vy,rfl,hx,hy⟩:=two rfl
  obtain⟨cv,h2,h3⟩:=zl7 (C:=C) hx hy h1
  exact lift (Out.same hR h2 h3)
 ·simp only [Option.map_eq_some_iff,Prod.mk.injEq]at h
  obtain⟨v',h1,rfl,rfl⟩:=h
  obtain⟨vx,vy,rfl,hx,hy⟩:=two rfl
  obtain⟨cv,h2,h3⟩:=zl7 (C:=C) hx hy h1
  exact lift (Out.same hR h2 h3)
 ·cases h
theorem op_ok (hR : Rel C Z O w) {J : Env} {a : Act} (hE : EnvR Z w J a.tmps) {o : Oper} {v : AV} (h : OpTo C (ev C J) O o.op v O') {K : Act -> World -> Prop} {Q : Exit -> Act -> World -> Prop}
    (hK:∀cv Z' w',Step Z w Z' w'->Rel C Z' O' w'->VR Z' w' v cv->K (a.put o.dst cv) w'):o.wp C.P a w K Q:=by
  have hv:=fun x=>ze4 hR hE x
  obtain⟨dst,op,ty,pos,after,guard⟩:=o
  simp only at h hK
  -- an operation that yields a value
  have val:∀{s:Sem Value},execOp a.eval ⟨dst,op,ty,pos,after,guard⟩=(do pure (.value (<-s)):Sem Next)->Out C Z w (s.run C.P w) v O'->Oper.wp C.P ⟨dst,op,ty,pos,after,guard⟩ a w K Q:=by
    rintro s he ⟨cv,Z',w',h1,h2,h3,h4⟩
    unfold Oper.wp
    rw [he]
    simp only [Sem.run_bind,h1,Result.andThen_ok,Sem.run_pure,Oper.upon_value]
    exact hK cv Z' w' h2 h3 h4
  have valS : ∀ {s : Sem Value} {r : Option AV}, execOp a.eval ⟨dst, op, ty, pos, after, guard⟩ = (do pure (.value (<- s)) : Sem Next) -> r.map (fun v => (v, O)) = some (v, O') -> (r = some v -> ∃ cv, s.run C.P w = .ok cv w /\ VR Z w v cv) ->
      Oper.wp C.P ⟨dst,op,ty,pos,after,guard⟩ a w K Q:=by
    intro s r he hr hs
    simp only [Option.map_eq_some_iff,Prod.mk.injEq]at hr
    obtain⟨v',h1,rfl,rfl⟩:=hr
    obtain⟨cv,h2,h3⟩:=hs h1
    exact val he (Out.same hR h2 h3)
  unfold OpTo at h
  split at h
  · -- the call of a function
    rename_i fa hfa
    obtain⟨f,args⟩:=fa
    cases op<;>simp only [z2g,reduceCtorEq]at hfa
    rename_i c
    obtain⟨callee,cargs,ats⟩:=c
    cases callee<;>simp only [reduceCtorEq,Option.some.injEq,Prod.mk.injEq]at hfa
    obtain⟨rfl,rfl⟩:=hfa
    obtain⟨fid,caps,hf,hcall⟩:=h
    rename_i fop
    have hfv:=hv fop
    simp only at hf
    rw [hf]at hfv
    simp only [VR]at hfv
    obtain⟨cvs,hfe,hcv⟩:=hfv
    have hargs:VRt Z w (cargs.toList.map (ev C J)++caps) ((cargs.map a.eval).toList++cvs):=by
      rw [Array.toList_map]
      exact(z8l hv cargs.toList).append hcv
    have hex:execOp a.eval ⟨dst,.call ⟨.value fop,cargs,ats⟩,ty,pos,after,guard⟩=callFunc fid (((cargs.map a.eval).toList++cvs).toArray):=by
      simp only [execOp,resolve,hfe,Deferred.ofValue,pure_bind,invoke]
      congr 1
      apply Array.ext'
      simp
    unfold Oper.wp
    rw [hex]
    rcases hcall Z w _ hR hargs with⟨h1,h2⟩| ⟨cv,Z',w',h1,h2,h3,h4⟩
    · rw [h1,Oper.upon_enter]
      refine h2.mono fun e w' he=> ?_
      obtain⟨cv,Z',rfl,k1,k2,k3⟩:=he
      exact hK cv Z' w' k1 k2 k3
    · rw [h1,Oper.upon_value]
      exact hK cv Z' w' h2 h3 h4
  · rename_i hno
    clear hno
    cases op<;>simp only [z1z,reduceCtorEq]at h
    case move x=>
      simp only [Option.some.injEq,Prod.mk.injEq]at h
      obtain⟨rfl,rfl⟩:=h
      exact val (s:=pure (a.eval x)) rfl (Out.same hR rfl (hv x))
    case assign x=>
      simp only [Option.some.injEq,Prod.mk.injEq]at h
      obtain⟨rfl,rfl⟩:=h
      exact val (s:=pure (a.eval x)) rfl (Out.same hR rfl (hv x))
    case pick c x y=>
      split at h
      · rename_i t ht
        simp only [Option.some.injEq,Prod.mk.injEq]at h
        obtain⟨rfl,rfl⟩:=h
        have hc:=hv c
        rw [ht]at hc
        simp only [VR]at hc
        refine val (s:=pure (if t then a.eval x else a.eval y)) (by simp only [execOp,hc,asBool,pure_bind]) (Out.same hR rfl ?_)
        cases t
        · exact hv y
        · exact hv x
      · cases h
    case alloc t=>exact val rfl (zqy hR h)
    case box t x=>exact val rfl (box_ok hR (hv x) h)
    case build t ps=>exact valS rfl h fun h1=>zr9 (C:=C) (by rw [Array.toList_map];exact zdb hv ps.toList) h1
    case buildSlice t n ps=>
      simp only [Option.map_eq_some_iff,Prod.mk.injEq]at h
      obtain⟨v',h1,rfl,rfl⟩:=h
      exact val rfl (zr8 hR (by rw [Array.toList_map];exact zdb hv ps.toList) h1)
    case load t x=>exact valS rfl h fun h1=>zl4 hR (hv x) h1
    case store t p x=>
      simp only [Option.map_eq_some_iff,Prod.mk.injEq]at h
      obtain⟨O1,h1,rfl,rfl⟩:=h
      obtain⟨w',h2,h3,h4⟩:=z12h hR (hv p) (hv x) h1
      unfold Oper.wp
      have:(execOp a.eval ⟨dst,.store t p x,ty,pos,after,guard⟩).run C.P w=.ok .skip w':=by
        simp only [execOp,Sem.run_bind,h2,Result.andThen_ok,Sem.run_pure]
      rw [this,Oper.upon_skip]
      exact hK undef Z w' h3 h4 (by simp only [VR])
    case nilCheck x=>
      have hx:=hv x
      split at h
      · rename_i r i off hq
        simp only [Option.some.injEq,Prod.mk.injEq]at h
        obtain⟨rfl,rfl⟩:=h
        rw [hq]at hx
        have hx':=hx
        simp only [VR]at hx
        obtain⟨fl,pl,hpl,he⟩:=hx
        rw [he]at hx'
        exact val (s:=pure (.pointer (some ⟨pl.b,pl.base+i*pl.esz+off,none⟩))) (by simp only [execOp,he];rfl) (Out.same hR rfl hx')
      · rename_i cs hq
        simp only [Option.some.injEq,Prod.mk.injEq]at h
        obtain⟨rfl,rfl⟩:=h
        rw [hq]at hx
        have hx':=hx
        simp only [VR]at hx
        obtain⟨b,p,vals,he,_⟩:=hx
        rw [he]at hx'
        exact val (s:=pure (.pointer (some ⟨b,p,none⟩))) (by simp only [execOp,he];rfl) (Out.same hR rfl hx')
      · rename_i f caps hq
        simp only [Option.some.injEq,Prod.mk.injEq]at h
        obtain⟨rfl,rfl⟩:=h
        rw [hq]at hx
        have hx':=hx
        simp only [VR]at hx
        obtain⟨vs,he,_⟩:=hx
        rw [he]at hx'
        exact val (s:=pure (.func (.func f) #[] (List.toArray vs))) (by simp only [execOp,he];rfl) (Out.same hR rfl hx')
      · cases h
    case binOp bop t x y yt=>exact valS rfl h fun h1=>bin_ok (hv x) (hv y) h1
    case unOp uop t x=>exact valS rfl h fun h1=>un_ok (hv x) h1
    case convert s d x=>exact val rfl (zsa hR (hv x) h)
    case makeFunc fn first captured=>
      cases fn<;>simp only [reduceCtorEq]at h
      split at h
      · rename_i hz
        simp only [Option.some.injEq,Prod.mk.injEq]at h
        obtain⟨rfl,rfl⟩:=h
        have hf0:first= #[]:=Array.eq_empty_of_size_eq_zero hz
        subst hf0
        refine val (s:=pure _) rfl (Out.same hR rfl ?_)
        simp only [VR]
        have e1:(captured.toList.map a.eval).toArray=captured.map a.eval:=by
          apply Array.ext'
          simp
        exact⟨captured.toList.map a.eval,by rw [e1,Array.map_empty],z8l hv _⟩
      · cases h
    case makeSlice t l c=>exact val rfl (zvp hR (hv l) (hv c) h)
    case slice t x lo hi mx=>exact valS rfl h fun h1=>z10x hR (hv x) (zd9 hv lo) (zd9 hv hi) (zd9 hv mx) h1
    case fieldAddr s x f=>exact valS rfl h fun h1=>zt2 (hv x) h1
    case field s x f=>exact valS rfl h fun h1=>zt3 (hv x) h1
    case indexAddr t x i=>exact valS rfl h fun h1=>zun (hv x) (hv i) h1
    case index t x i=>exact valS rfl h fun h1=>zuo (hv x) (hv i) h1
    case extract x i=>
      split at h
      · rename_i vs hq
        simp only [Option.map_eq_some_iff,Prod.mk.injEq]at h
        obtain⟨v',h1,rfl,rfl⟩:=h
        have hx:=hv x
        rw [hq]at hx
        simp only [VR]at hx
        obtain⟨us,he,hu⟩:=hx
        obtain⟨u,h2,h3⟩:=hu.get h1
        refine val (s:=pure u) ?_ (Out.same hR rfl h3)
        have h4:us.toArray[i]? =some u:=by simpa using h2
        simp only [execOp,he,Instr.extract,h4]
      · cases h
    case call c=>
      obtain⟨callee,cargs,ats⟩:=c
      cases callee<;>simp only [reduceCtorEq]at h
      rename_i b
      obtain⟨cv,Z',w',h1,h2,h3,h4⟩:=zra hR (ty:=ty) (cs:=cargs.map fun| .const _=>true| _=>false) (z8l hv cargs.toList) h
      have hex:execOp a.eval ⟨dst,.call ⟨.builtin b,cargs,ats⟩,ty,pos,after,guard⟩=builtin b ats ty (cargs.map fun| .const _=>true| _=>false) (cargs.toList.map a.eval).toArray:=by
        have:(cargs.toList.map a.eval).toArray=cargs.map a.eval:=by apply Array.ext';simp
        rw [this];rfl
      unfold Oper.wp
      rw [hex,h1,Oper.upon_value]
      exact hK cv Z' w' h2 h3 h4
theorem opP_ok(hR:Rel C Z O w){J:Env}{a:Act}(hE:EnvR Z w J a.tmps){o:Oper}{P:AV->Store->Prop}(h:OpP C (ev C J) O o.op P){K:Act->World->Prop}{Q:Exit->Act->World->Prop}
  (hK:∀v O' cv Z' w',P v O'->Step Z w Z' w'->Rel C Z' O' w'->VR Z' w' v cv->K (a.put o.dst cv) w'):o.wp C.P a w K Q:=by
 have hv:=fun x=>ze4 hR hE x
 obtain⟨dst,op,ty,pos,after,guard⟩:=o
 simp only at h hK
 obtain⟨⟨f,args⟩,hfa,fid,caps,hf,hcall⟩:=h
 cases op<;>simp only [z2g,reduceCtorEq]at hfa
 rename_i c
 obtain⟨callee,cargs,ats⟩:=c
 cases callee<;>simp only [reduceCtorEq,Option.some.injEq,Prod.mk.injEq]at hfa
 obtain⟨rfl,rfl⟩:=hfa
 rename_i fop
 have hfv:=hv fop
 simp only at hf
 rw [hf]at hfv
 simp only [VR]at hfv
 obtain⟨cvs,hfe,hcv⟩:=hfv
 have hargs:VRt Z w (cargs.toList.map (ev C J)++caps) ((cargs.map a.eval).toList++cvs):=by
  rw [Array.toList_map]
  exact(z8l hv cargs.toList).append hcv
 have hex:execOp a.eval ⟨dst,.call ⟨.value fop,cargs,ats⟩,ty,pos,after,guard⟩=callFunc fid (((cargs.map a.eval).toList++cvs).toArray):=by
  simp only [execOp,resolve,hfe,Deferred.ofValue,pure_bind,invoke]
  congr 1
  apply Array.ext'
  simp
 unfold Oper.wp
 rw [hex]
 rcases hcall Z w _ hR hargs with⟨h1,h2⟩| ⟨cv,v,Z',O',w',h1,hp,h2,h3,h4⟩
 ·rw [h1,Oper.upon_enter]
  refine h2.mono fun e w' he=> ?_
  obtain⟨cv,v,Z',O',rfl,hp,k1,k2,k3⟩:=he
  exact hK v O' cv Z' w' hp k1 k2 k3
 ·rw [h1,Oper.upon_value]
  exact hK v O' cv Z' w' hp h2 h3 h4
end
end
variable {J:Env}{K:Env->Store->Prop}{d:Option Nat}{ops:Array Oper}
section
theorem zt1(C:Ctx){e e':Operand->AV}(O:Store)(op:Op)(h:∀x ∈ op.operands,e x=e' x):z1z C e O op=z1z C e' O op:=by
 have pairs:∀ps:Array (Nat × Operand),(∀x ∈ ps.map (·.2),e x=e' x)->(ps.toList.map fun p=>(p.1,e p.2))=(ps.toList.map fun p=>(p.1,e' p.2)):=fun ps hp=>
  List.map_congr_left fun p hm=>by
   rw [hp p.2 (Array.mem_map.2 ⟨p,by simpa using hm,rfl⟩)]
 cases op<;>simp only [Op.operands]at h<;>simp only [z1z]
 case build t ps=>rw [pairs ps fun x hx=>h x (by simpa using hx)]
 case buildSlice t n ps=>rw [pairs ps fun x hx=>h x (by simpa using hx)]
 case makeFunc fn first captured=>
  cases fn<;>simp only [reduceCtorEq]
  rw [List.map_congr_left (l:=captured.toList) fun x hx=>h x (by simp at hx;simp [hx])]
 case call c=>
  obtain⟨callee,args,ats⟩:=c
  cases callee<;>simp only []
  rw [List.map_congr_left (l:=args.toList) fun x hx=>h x (by simp at hx;simp [Call.operands,hx])]
 case slice t x lo hi mx=>cases lo<;>cases hi<;>cases mx<;>simp_all
 all_goals (first|rfl|(simp_all;done))
theorem zj2{op:Op}{f:Operand}{args:Array Operand}(h:z2g op=some (f,args)):f ∈ op.operands/\ ∀x ∈ args,x ∈ op.operands:=by
 cases op<;>simp only [z2g,reduceCtorEq]at h
 rename_i c
 obtain⟨callee,cargs,ats⟩:=c
 cases callee<;>simp only [reduceCtorEq,Option.some.injEq,Prod.mk.injEq]at h
 obtain⟨rfl,rfl⟩:=h
 simp [Op.operands,Call.operands]
 intro x hx
 exact .inr hx
theorem zhr{e e':Operand->AV}{op:Op}(h:∀x ∈ op.operands,e x=e' x)(ho:OpTo C e O op v O'):OpTo C e' O op v O':=by
 unfold OpTo at ho ⊢
 cases hc:z2g op with
 |none=>
  rw [hc]at ho
  simp only at ho ⊢
  rw [<-zt1 C O op h];exact ho
 |some fa=>
  obtain⟨f,args⟩:=fa
  rw [hc]at ho
  simp only at ho ⊢
  obtain⟨h1,h2⟩:=zj2 hc
  obtain⟨fid,caps,h3,h4⟩:=ho
  refine⟨fid,caps,by rw [<-h f h1];exact h3,?_⟩
  rw [<-List.map_congr_left (l:=args.toList) fun x hx=>h x (h2 x (by simpa using hx))]
  exact h4
theorem zhq{e e':Operand->AV}{op:Op}{P:AV->Store->Prop}(h:∀x ∈ op.operands,e x=e' x)(ho:OpP C e O op P):OpP C e' O op P:=by
 obtain⟨⟨f,args⟩,hc,fid,caps,h3,h4⟩:=ho
 obtain⟨h1,h2⟩:=zj2 hc
 refine⟨(f,args),hc,fid,caps,by rw [<-h f h1];exact h3,?_⟩
 rw [<-List.map_congr_left (l:=args.toList) fun x hx=>h x (h2 x (by simpa using hx))]
 exact h4
def opN(C:Ctx):Op->Bool
 | .move _| .assign _| .pick _ _ _| .build _ _| .buildSlice _ _ _| .nilCheck _| .binOp _ _ _ _ _| .unOp _ _ _| .makeFunc _ _ _| .fieldAddr _ _ _| .field _ _ _| .indexAddr _ _ _| .index _ _ _| .extract _ _| .slice _ _ _ _ _=>true
 | .call c=>match c.callee with| .builtin .len=>true| .builtin .min=>true| .builtin .max=>true| _=>false
 | .convert s d _=>(z4k C s).isSome && (z4k C d).isSome
 | _=>false
theorem z7x{e:Operand->AV}{op:Op}(hn:opN C op=true)(h:OpTo C e O op v O'):O'=O/\ ∀O2,OpTo C e O2 op v O2:=by
  have key:z2g op=none:=by
    cases op<;>simp only [opN,Bool.false_eq_true]at hn<;>simp only [z2g]
    rename_i c
    obtain⟨callee,cargs,ats⟩:=c
    cases callee<;>simp_all
  unfold OpTo at h ⊢
  rw [key]at h ⊢
  simp only at h ⊢
  have mp:∀{r:Option AV} {O O':Store} {v:AV},r.map (fun v=>(v,O))=some (v,O')->O'=O/\ ∀O2:Store,r.map (fun v=>(v,O2))=some (v,O2):=by
    intro r O O' v h
    simp only [Option.map_eq_some_iff,Prod.mk.injEq]at h
    obtain⟨v',rfl,rfl,rfl⟩:=h
    exact⟨rfl,fun _=>rfl⟩
  cases op<;>simp only [opN,Bool.false_eq_true]at hn<;>simp only [z1z]at h ⊢
  case move x=>simp only [Option.some.injEq,Prod.mk.injEq]at h ⊢;exact⟨h.2.symm,fun _=>⟨h.1,trivial⟩⟩
  case assign x=>simp only [Option.some.injEq,Prod.mk.injEq]at h ⊢;exact⟨h.2.symm,fun _=>⟨h.1,trivial⟩⟩
  case pick c x y => split at h
                     · simp only [Option.some.injEq,Prod.mk.injEq]at h ⊢;exact⟨h.2.symm,fun _=>⟨h.1,trivial⟩⟩
                     · cases h
  case nilCheck x => split at h
                     · simp only [Option.some.injEq,Prod.mk.injEq]at h ⊢;exact⟨h.2.symm,fun _=>⟨h.1,trivial⟩⟩
                     · simp only [Option.some.injEq,Prod.mk.injEq]at h ⊢;exact⟨h.2.symm,fun _=>⟨h.1,trivial⟩⟩
                     · simp only [Option.some.injEq,Prod.mk.injEq]at h ⊢;exact⟨h.2.symm,fun _=>⟨h.1,trivial⟩⟩
                     · cases h
  case makeFunc fn first captured=>
    cases fn<;>simp only [reduceCtorEq]at h ⊢
    split at h
    · rename_i hz
      simp only [hz,if_true,Option.some.injEq,Prod.mk.injEq]at h ⊢;exact⟨h.2.symm,fun _=>⟨h.1,trivial⟩⟩
    · cases h
  case extract x i => split at h
                      · exact mp h
                      · cases h
  case call c=>
    obtain⟨callee,cargs,ats⟩:=c
    cases callee<;>simp only [Bool.false_eq_true]at hn h ⊢
    rename_i b
    unfold z3n at h ⊢
    split at h<;>simp only [Bool.false_eq_true,reduceCtorEq]at hn h ⊢
    · exact mp h
    · exact mp h
    · exact mp h
  case convert s d x=>
    simp only [Bool.and_eq_true]at hn
    obtain⟨ks,hks⟩:=Option.isSome_iff_exists.1 hn.1
    obtain⟨kd,hkd⟩:=Option.isSome_iff_exists.1 hn.2
    unfold z5l at h ⊢
    simp only [hks,hkd]at h ⊢
    have nostr:¬tyStr C d=true:=by
      intro hh
      have:=z5g hh
      rw [za3 hkd]at this;cases this
    have nou8:¬z69 C d=true:=by
      intro hh
      obtain⟨_,this,_⟩:=zhj hh
      rw [za3 hkd]at this;cases this
    split at h
    · simp only [Option.bind_some,Option.map_some,Option.some.injEq,Prod.mk.injEq]at h ⊢;exact⟨h.2.symm,fun _=>⟨h.1,trivial⟩⟩
    · simp [nostr,nou8]at h
    · simp [nostr]at h
  all_goals exact mp h
def z3l(ops:Array Oper)(J:Env)(o:Oper):Option Bool:=
 match o.guard with
 |none=>some true
 |some g=>match (ops[g.1]?).bind (·.dst)with
  |some d=>(match J d with| .bool b=>some (b==g.2)| .undef=>some false| _=>none)
  |none=>some false
theorem zp9{a:Act}{o:Oper}{b:Bool}(hE:EnvR Z w J a.tmps)(h:z3l ops J o=some b):Region.wanted o (yielded ops a.tmps)=b:=by
 unfold z3l at h
 unfold Region.wanted
 cases hg:o.guard with
 |none=>rw [hg]at h;simp only [Option.some.injEq]at h;simpa using h
 |some g=>
  obtain⟨j,want⟩:=g
  rw [hg]at h
  simp only at h ⊢
  unfold yielded
  cases hd:(ops[j]?).bind (·.dst)with
  |none=>rw [hd]at h;simp only [Option.some.injEq]at h;subst h;simp
  |some d=>
   rw [hd]at h
   simp only at h
   have hr:=hE d
   simp only [Option.bind_some]
   split at h
   ·rename_i b' hb
    rw [hb]at hr
    simp only [VR]at hr
    simp only [Option.some.injEq]at h;subst h
    have:a.tmps[d]? =some (.bool b'):=by
     rw [Array.getD_eq_getD_getElem?]at hr
     cases hq:a.tmps[d]? with
     |none=>rw [hq]at hr;simp [undef]at hr
     |some v=>rw [hq]at hr;simp at hr;rw [hr]
    rw [this]
    cases b'<;>cases want<;>rfl
   ·rename_i hb
    rw [hb]at hr
    simp only [VR]at hr
    simp only [Option.some.injEq]at h;subst h
    rw [Array.getD_eq_getD_getElem?]at hr
    cases hq:a.tmps[d]? with
    |none=>simp
    |some v=>rw [hq]at hr;simp at hr;subst hr;simp [undef]
   ·cases h
def opR:Op->Bool
 | .load _ _=>true
 | _=>false
theorem zlm{op:Op}(hn:opR op=true):z2g op=none:=by
 cases op<;>simp only [opR,Bool.false_eq_true]at hn<;>rfl
theorem z57{e:Operand->AV}{op:Op}(hn:opR op=true)(h:OpTo C e O op v O'):O'=O:=by
 have hc:=zlm hn
 unfold OpTo at h
 rw [hc]at h
 simp only at h
 cases op<;>simp only [opR,Bool.false_eq_true]at hn<;>simp only [z1z,Option.map_eq_some_iff,Prod.mk.injEq]at h<;>obtain⟨_,_,_,rfl⟩:=h<;>rfl
theorem zll{e:Operand->AV}{s1 s2:Store}{op:Op}{v1 v2:AV}(hn:opR op=true)(h1:OpTo C e O op v1 s1)(h2:OpTo C e O op v2 s2):v1=v2:=by
 have hc:=zlm hn
 unfold OpTo at h1 h2
 rw [hc]at h1 h2
 simp only at h1 h2
 rw [h1]at h2
 simp only [Option.some.injEq,Prod.mk.injEq]at h2
 exact h2.1
theorem zf4{e:Operand->AV}{op:Op}{P:AV->Store->Prop}(hn:opN C op=true)(h:OpP C e O op P):False:=by
 obtain⟨⟨f,args⟩,hc,_⟩:=h
 cases op<;>simp only [opN,Bool.false_eq_true]at hn<;>simp only [z2g,reduceCtorEq]at hc
 rename_i c
 obtain⟨callee,cargs,ats⟩:=c
 cases callee<;>simp_all
theorem zwz{e:Operand->AV}{O1 O2 s1 s2:Store}{op:Op}{v1 v2:AV}(hn:opN C op=true)(h1:OpTo C e O1 op v1 s1)(h2:OpTo C e O2 op v2 s2):v1=v2:=by
 obtain⟨rfl,k1⟩:=z7x hn h1
 obtain⟨rfl,k2⟩:=z7x hn h2
 have key:z2g op=none:=by
  cases op<;>simp only [opN,Bool.false_eq_true]at hn<;>simp only [z2g]
  rename_i c
  obtain⟨callee,cargs,ats⟩:=c
  cases callee<;>simp_all
 have q1:=k1 []
 have q2:=k2 []
 unfold OpTo at q1 q2
 rw [key]at q1 q2
 simp only at q1 q2
 rw [q1]at q2
 simp only [Option.some.injEq,Prod.mk.injEq]at q2
 exact q2.1
structure Hist where
 pre:Store->Prop
 rds:Store->Prop
 rd2:Store->Prop
def Hist.none:Hist:=⟨fun _=>False,fun _=>True,fun _=>True⟩
inductive Nd where
 |no
 |same
 |rd
 |ef
 |pu
 |rd2
 |ef2
 deriving DecidableEq,Inhabited
def Nd.ok(n:Nd)(C:Ctx)(e:Operand->AV)(op:Op)(v:AV)(H:Hist)(O O':Store):Prop:=match n with
 | .no=>True
 | .same=>O'=O
 | .rd=>O'=O/\ ∀h,H.pre h->OpTo C e h op v h
 | .ef=>H.rds O'
 | .pu=>O'=O/\ ∀h,H.pre h->OpTo C e h op v h
 | .rd2=>O'=O/\ ∀h,H.pre h->OpTo C e h op v h
 | .ef2=>H.rd2 O'
def Nd.next(n:Nd)(C:Ctx)(e:Operand->AV)(op:Op)(v:AV)(H:Hist)(O:Store):Hist:=match n with
 | .no=>H
 | .same=>H
 | .rd=>⟨H.pre,fun s=>H.rds s/\ OpTo C e s op v s,H.rd2⟩
 | .ef=>⟨fun s=>H.pre s \/s=O,H.rds,H.rd2⟩
 | .pu=>⟨H.pre,fun s=>H.rds s/\ OpTo C e s op v s,H.rd2⟩
 | .rd2=>⟨H.pre,fun s=>H.rds s/\ OpTo C e s op v s,fun s=>H.rd2 s/\ OpTo C e s op v s⟩
 | .ef2=>⟨fun s=>H.pre s \/s=O,H.rds,H.rd2⟩
def zdn(C:Ctx)(need:Nd)(o:Oper)(K:Hist->Env->Store->Prop)(H:Hist)(J:Env)(O:Store):Prop:=
 ∃P:AV->Store->Prop,OpP C (ev C J) O o.op P/\ (∃v O',P v O')/\ ∀v O',P v O'->need.ok C (ev C J) o.op v H O O'/\ K (need.next C (ev C J) o.op v H O) (putE J o.dst v) O'
def z2l(C:Ctx)(ops:Array Oper)(need:Nd)(o:Oper)(K:Hist->Env->Store->Prop)(H:Hist)(J:Env)(O:Store):Prop:=
 match z3l ops J o with
 |some true=>(∃v O',OpTo C (ev C J) O o.op v O'/\ need.ok C (ev C J) o.op v H O O'/\ K (need.next C (ev C J) o.op v H O) (putE J o.dst v) O') \/((need=.no \/need=.ef)/\ zdn C need o K H J O)
 |some false=>K H (putE J o.dst .undef) O
 |none=>False
theorem z79{o:Oper}{need:Nd}{H:Hist}{a:Act}{K:Hist->Env->Store->Prop}{KK:Act->World->Prop}{Q:Exit->Act->World->Prop}(hi:ops[i]? =some o)
  (hd:∀x,o.dst=some x->x<a.tmps.size) (hR:Rel C Z O w) (hE:EnvR Z w J a.tmps) (h:z2l C ops need o K H J O)
  (hK:∀H' J' O' Z' a' w',K H' J' O'->Step Z w Z' w'->Rel C Z' O' w'->EnvR Z' w' J' a'.tmps->a'.defers=a.defers->a'.tmps.size=a.tmps.size->KK a' w'):wpOp C.P ops Q i KK a w:=by
 unfold z2l at h
 unfold wpOp
 rw [hi]
 simp only
 have put_size:∀(d:Option Nat) (v:Value),(a.put d v).tmps.size=a.tmps.size:=by intro d v;cases d<;>simp [Act.put]
 have put_def:∀(d:Option Nat) (v:Value),(a.put d v).defers=a.defers:=by intro d v;cases d<;>rfl
 split at h
 ·rename_i hw
  rw [zp9 hE hw,if_pos rfl]
  left
  rcases h with⟨v,O',h1,_,h2⟩| ⟨_,P,h1,_,h2⟩
  ·refine op_ok hR hE h1 fun cv Z' w' k1 k2 k3=> ?_
   exact hK _ _ _ Z' _ w' h2 k1 k2 ((hE.mono k1).put hd k3) (put_def _ _) (put_size _ _)
  ·refine opP_ok hR hE h1 fun v O' cv Z' w' hp k1 k2 k3=> ?_
   exact hK _ _ _ Z' _ w' (h2 v O' hp).2 k1 k2 ((hE.mono k1).put hd k3) (put_def _ _) (put_size _ _)
 ·rename_i hw
  rw [zp9 hE hw,if_neg (by simp)]
  exact hK _ _ _ Z _ w h (Step.refl _ _) hR (hE.put hd (by simp only [VR])) (put_def _ _) (put_size _ _)
 ·exact h.elim
theorem zjx{x:Operand}(h:∀t,d=some t->x ≠ .tmp t):ev C (putE J d v) x=ev C J x:=by
 cases d with
 |none=>rfl
 |some d=>
  cases x with
  |tmp t=>
   have hne:t ≠ d:=fun e=>h d rfl (by rw [e])
   simp [ev,putE,upd,hne]
  | _=>rfl
theorem zlp{o:Oper}{t:Nat}(h:(Operand.tmp t) ∈ o.op.operands):t ∈ o.looksAt ops:=by
 unfold Oper.looksAt
 exact List.mem_append_left _ (List.mem_filterMap.2 ⟨.tmp t,by simpa using h,rfl⟩)
theorem z43{o:Oper}{u:AV}(h:∀t,d=some t->t ∉ o.looksAt ops):
  OpTo C (ev C (putE J d u)) O o.op v O' ↔ OpTo C (ev C J) O o.op v O':=by
 have e:∀x ∈ o.op.operands,ev C (putE J d u) x=ev C J x:=fun x hx=>zjx fun t ht hxt=>h t ht (zlp (by rw [<-hxt];exact hx))
 exact⟨zhr e,zhr fun x hx=>(e x hx).symm⟩
theorem zab{P:AV->Store->Prop}{o:Oper}{u:AV}(h:∀t,d=some t->t ∉ o.looksAt ops):
  OpP C (ev C (putE J d u)) O o.op P ↔ OpP C (ev C J) O o.op P:=by
 have e:∀x ∈ o.op.operands,ev C (putE J d u) x=ev C J x:=fun x hx=>zjx fun t ht hxt=>h t ht (zlp (by rw [<-hxt];exact hx))
 exact⟨zhq e,zhq fun x hx=>(e x hx).symm⟩
theorem zp8{o:Oper}{u:AV}(h:∀t,d=some t->t ∉ o.looksAt ops):z3l ops (putE J d u) o=z3l ops J o:=by
 cases d with
 |none=>rfl
 |some t=>
  unfold z3l
  cases hg:o.guard with
  |none=>rfl
  |some g=>
   simp only
   cases hd:(ops[g.1]?).bind (·.dst)with
   |none=>rfl
   |some d'=>
    simp only
    have hne:d' ≠ t:=fun e=>h t rfl (by
     unfold Oper.looksAt
     refine List.mem_append_right _ ?_
     rw [hg]
     simp only
     rw [hd,e];simp)
    simp [putE,upd,hne]
theorem zyd{x y:Option Nat}{u:AV}(h:∀d,x=some d->y ≠ some d):putE (putE J x u) y v=putE (putE J y v) x u:=by
 cases x with
 |none=>rfl
 |some d=>
  cases y with
  |none=>rfl
  |some e=>
   have hne:d ≠ e:=fun e'=>h d rfl (by rw [e'])
   funext t
   simp only [putE,upd]
   by_cases h1:t=e
   ·subst h1
    have:¬t=d:=fun e'=>hne e'.symm
    simp [this]
   ·simp [h1]
theorem z5x{o:Oper}{u:AV}{n:Nd}{H:Hist}(h:∀t,d=some t->t ∉ o.looksAt ops):
  n.ok C (ev C (putE J d u)) o.op v H O O' ↔ n.ok C (ev C J) o.op v H O O':=by
 cases n<;>simp only [Nd.ok]
 ·exact⟨fun k=>⟨k.1,fun s hs=>(z43 h).1 (k.2 s hs)⟩,fun k=>⟨k.1,fun s hs=>(z43 h).2 (k.2 s hs)⟩⟩
 ·exact⟨fun k=>⟨k.1,fun s hs=>(z43 h).1 (k.2 s hs)⟩,fun k=>⟨k.1,fun s hs=>(z43 h).2 (k.2 s hs)⟩⟩
 ·exact⟨fun k=>⟨k.1,fun s hs=>(z43 h).1 (k.2 s hs)⟩,fun k=>⟨k.1,fun s hs=>(z43 h).2 (k.2 s hs)⟩⟩
theorem z5w{o:Oper}{u:AV}{n:Nd}{H:Hist}(h:∀t,d=some t->t ∉ o.looksAt ops):
  n.next C (ev C (putE J d u)) o.op v H O=n.next C (ev C J) o.op v H O:=by
 cases n<;>simp only [Nd.next]
 all_goals
  congr 1
  all_goals
   funext s
   exact propext ⟨fun k=>⟨k.1,(z43 h).1 k.2⟩,fun k=>⟨k.1,(z43 h).2 k.2⟩⟩
def rdK(n:Nd)(o:Op):Bool:=(opR o && (n==.rd ||n==.rd2)) ||n==.pu
def matesP(nx ni:Nd)(x i:Op):Bool:=
 (rdK nx x && ni==.ef) ||(rdK nx x && nx==.rd2 && ni==.ef2) ||(rdK ni i && nx==.ef && (z2g x).isNone) ||(rdK ni i && nx==.ef2) ||(rdK nx x && ni==.same) ||(rdK ni i && nx==.same) ||(rdK nx x && rdK ni i) ||(opR i && ni==.rd2 && nx==.ef)
def zer(C:Ctx)(nx ni:Nd)(x i:Op):Bool:=
 (opN C x && nx==.no) ||(opN C i && ni==.no) ||(nx==.same && ni==.same) ||(opR x && nx==.rd && ni==.ef) ||(opR i && ni==.rd && nx==.ef) ||(opR x && opR i && nx==.rd && ni==.rd) ||(opR x && nx==.rd && ni==.same) ||(opR i && ni==.rd && nx==.same) ||matesP nx ni x i
theorem z12a{nx ni:Nd}{x i:Oper}{K:Hist->Env->Store->Prop}{H:Hist}(hap:x.apart ops i=true)(hh:zer C nx ni x.op i.op=true)
  (h:z2l C ops nx x (z2l C ops ni i K) H J O):z2l C ops ni i (z2l C ops nx x K) H J O:=by
 obtain⟨a1,a2,a3⟩:=Oper.apart_spec hap
 have wi:∀u,z3l ops (putE J x.dst u) i=z3l ops J i:=fun u=>zp8 a1
 have wx:∀u,z3l ops (putE J i.dst u) x=z3l ops J x:=fun u=>zp8 a3
 have pc:∀u v,putE (putE J x.dst u) i.dst v=putE (putE J i.dst v) x.dst u:=fun u v=>zyd a2
 -- the second one behind the first, by cases of its guard
 have inner:∀(n:Nd) (o:Oper) (K':Hist->Env->Store->Prop) (H':Hist) (J':Env) (O':Store),z2l C ops n o K' H' J' O'=
  (match z3l ops J' o with
   |some true=>(∃v s,OpTo C (ev C J') O' o.op v s/\ n.ok C (ev C J') o.op v H' O' s/\ K' (n.next C (ev C J') o.op v H' O') (putE J' o.dst v) s) \/((n=.no \/n=.ef)/\ zdn C n o K' H' J' O')
   |some false=>K' H' (putE J' o.dst .undef) O'
   |none=>False):=fun _ _ _ _ _ _=>rfl
 cases hwx:z3l ops J x with
 |none=>rw [inner,hwx]at h;exact h.elim
 |some bx=>
  cases hwi:z3l ops J i with
  |none=>
   exfalso
   rw [inner,hwx]at h
   cases bx with
   |false=>simp only at h;rw [inner,wi,hwi]at h;exact h
   |true=>
    rcases h with⟨v,s,_,_,h3⟩| ⟨_,P,_,⟨v,s,hp⟩,h3⟩
    ·rw [inner,wi,hwi]at h3;exact h3
    ·have h4:=(h3 v s hp).2
     rw [inner,wi,hwi]at h4;exact h4
  |some bi=>
   cases bx with
   |false=>
    rw [inner,hwx]at h
    simp only at h
    rw [inner,wi,hwi]at h
    rw [inner,hwi]
    cases bi with
    |false=>simp only at h ⊢;rw [inner,wx,hwx];simp only;rw [<-pc];exact h
    |true=>
     simp only at h ⊢
     rcases h with⟨v,s,h1,h2,h3⟩| ⟨h0,P,h1,hne,h2⟩
     ·refine .inl ⟨v,s,(z43 a1).1 h1,(z5x a1).1 h2,?_⟩
      rw [inner,wx,hwx];simp only;rw [<-pc]
      rw [z5w a1]at h3;exact h3
     ·refine .inr ⟨h0,P,(zab a1).1 h1,hne,fun v s hp=>⟨(z5x a1).1 (h2 v s hp).1,?_⟩⟩
      rw [inner,wx,hwx];simp only;rw [<-pc]
      have h4:=(h2 v s hp).2
      rw [z5w a1]at h4;exact h4
   |true=>
    rw [inner,hwx]at h
    simp only at h
    rw [inner,hwi]
    cases bi with
    |false=>
     simp only
     rw [inner,wx,hwx];simp only
     rcases h with⟨v,s,h1,h2,h3⟩| ⟨h0,P,h1,hne,h3⟩
     ·rw [inner,wi,hwi]at h3
      exact .inl ⟨v,s,(z43 a3).2 h1,(z5x a3).2 h2,by rw [z5w a3,<-pc];exact h3⟩
     ·refine .inr ⟨h0,P,(zab a3).2 h1,hne,fun v s hp=>⟨(z5x a3).2 (h3 v s hp).1,?_⟩⟩
      have h4:=(h3 v s hp).2
      rw [inner,wi,hwi]at h4
      rw [z5w a3,<-pc];exact h4
    |true=>
     simp only
     -- what x gives; what i gives behind it
     have second:∀{v:AV} {H':Hist} {s:Store},z2l C ops ni i K H' (putE J x.dst v) s->
       (∃v2 s2,OpTo C (ev C J) s i.op v2 s2/\ ni.ok C (ev C J) i.op v2 H' s s2/\ K (ni.next C (ev C J) i.op v2 H' s) (putE (putE J i.dst v2) x.dst v) s2) ∨
       ((ni=.no \/ni=.ef)/\ ∃P,OpP C (ev C J) s i.op P/\ (∃v s,P v s)/\ ∀v2 s2,P v2 s2->ni.ok C (ev C J) i.op v2 H' s s2/\ K (ni.next C (ev C J) i.op v2 H' s) (putE (putE J i.dst v2) x.dst v) s2):=by
      intro v H' s h4
      rw [inner,wi,hwi]at h4
      rcases h4 with⟨v2,s2,k1,k2,k3⟩| ⟨h0,P,k1,k2,k3⟩
      ·rw [z5w a1,pc]at k3
       exact .inl ⟨v2,s2,(z43 a1).1 k1,(z5x a1).1 k2,k3⟩
      ·refine .inr ⟨h0,P,(zab a1).1 k1,k2,fun v2 s2 hp=> ?_⟩
       have k4:=(k3 v2 s2 hp).2
       rw [z5w a1,pc]at k4
       exact⟨(z5x a1).1 (k3 v2 s2 hp).1,k4⟩
     have first:∀{v2:AV} {H':Hist} {s:Store},((∃v s2,OpTo C (ev C J) s x.op v s2/\ nx.ok C (ev C J) x.op v H' s s2/\ K (nx.next C (ev C J) x.op v H' s) (putE (putE J i.dst v2) x.dst v) s2) ∨
       ((nx=.no \/nx=.ef)/\ ∃P,OpP C (ev C J) s x.op P/\ (∃v s,P v s)/\ ∀v s2,P v s2->nx.ok C (ev C J) x.op v H' s s2/\ K (nx.next C (ev C J) x.op v H' s) (putE (putE J i.dst v2) x.dst v) s2))->
       z2l C ops nx x K H' (putE J i.dst v2) s:=by
      intro v2 H' s h4
      rw [inner,wx,hwx]
      rcases h4 with⟨v,s2,k1,k2,k3⟩| ⟨h0,P,k1,k2,k3⟩
      ·exact .inl ⟨v,s2,(z43 a3).2 k1,(z5x a3).2 k2,by rw [z5w a3];exact k3⟩
      ·exact .inr ⟨h0,P,(zab a3).2 k1,k2,fun v s2 hp=>⟨(z5x a3).2 (k3 v s2 hp).1,by rw [z5w a3];exact(k3 v s2 hp).2⟩⟩
     simp only [zer,Bool.or_eq_true,Bool.and_eq_true,beq_iff_eq]at hh
     rcases hh with(((((((⟨hn,rfl⟩| ⟨hn,rfl⟩)| ⟨rfl,rfl⟩)| ⟨⟨hr,rfl⟩,rfl⟩)| ⟨⟨hr,rfl⟩,rfl⟩)| ⟨⟨⟨hrx,hri⟩,rfl⟩,rfl⟩)| ⟨⟨hr,rfl⟩,rfl⟩)| ⟨⟨hr,rfl⟩,rfl⟩)|hh
     ·-- x neither reads nor writes
      rcases h with⟨v,s,h1,_,h3⟩| ⟨_,P,h1,_⟩
      ·obtain⟨rfl,k1⟩:=z7x hn h1
       rcases second h3 with⟨v2,s2,q1,q2,q3⟩| ⟨h0,P,q1,q2,q3⟩
       ·exact .inl ⟨v2,s2,q1,q2,first (.inl ⟨v,s2,k1 s2,trivial,q3⟩)⟩
       ·exact .inr ⟨h0,P,q1,q2,fun v2 s2 hp=>⟨(q3 v2 s2 hp).1,first (.inl ⟨v,s2,k1 s2,trivial,(q3 v2 s2 hp).2⟩)⟩⟩
      ·exact(zf4 hn h1).elim
     ·-- i neither reads nor writes
      rcases h with⟨v,s,h1,h2,h3⟩| ⟨h0,P,h1,⟨v0,s0,hp0⟩,h3⟩
      ·rcases second h3 with⟨v2,s2,q1,_,q3⟩| ⟨_,P,q1,_⟩
       ·obtain⟨rfl,k2⟩:=z7x hn q1
        exact .inl ⟨v2,O,k2 O,trivial,first (.inl ⟨v,s2,h1,h2,q3⟩)⟩
       ·exact(zf4 hn q1).elim
      ·have get:∀v s,P v s->∃v2,OpTo C (ev C J) s i.op v2 s/\ K (nx.next C (ev C J) x.op v H O) (putE (putE J i.dst v2) x.dst v) s:=by
        intro v s hp
        rcases second (h3 v s hp).2 with⟨v2,s2,q1,_,q3⟩| ⟨_,P,q1,_⟩
        ·obtain⟨rfl,_⟩:=z7x hn q1
         exact⟨v2,q1,q3⟩
        ·exact(zf4 hn q1).elim
       obtain⟨v2,q1,_⟩:=get v0 s0 hp0
       obtain⟨_,k2⟩:=z7x hn q1
       refine .inl ⟨v2,O,k2 O,trivial,first (.inr ⟨h0,P,h1,⟨v0,s0,hp0⟩,fun v s hp=>⟨(h3 v s hp).1,?_⟩⟩)⟩
       obtain⟨v2',q2,q3⟩:=get v s hp
       have:=zwz hn q1 q2
       subst this
       exact q3
     ·-- both leave the store
      rcases h with⟨v,s,h1,h2,h3⟩| ⟨h0,_⟩
      ·rcases second h3 with⟨v2,s2,q1,q2,q3⟩| ⟨h0,_⟩
       ·simp only [Nd.ok]at h2 q2
        subst h2;subst q2
        exact .inl ⟨v2,s2,q1,rfl,first (.inl ⟨v,s2,h1,rfl,q3⟩)⟩
       ·rcases h0 with h0|h0<;>cases h0
      ·rcases h0 with h0|h0<;>cases h0
     ·-- a read, an effect
      rcases h with⟨v,s,h1,h2,h3⟩| ⟨h0,_⟩
      ·have:=z57 hr h1
       subst this
       simp only [Nd.ok]at h2
       rcases second h3 with⟨v2,s2,q1,q2,q3⟩| ⟨h0,P,q1,q2,q3⟩
       ·simp only [Nd.ok,Nd.next]at q2 q3
        refine .inl ⟨v2,s2,q1,q2.1,first (.inl ⟨v,s2,q2.2,⟨rfl,fun g hg=> ?_⟩,q3⟩)⟩
        rcases hg with hg|rfl
        ·exact h2.2 g hg
        ·exact h1
       ·refine .inr ⟨h0,P,q1,q2,fun v2 s2 hp=> ?_⟩
        have q4:=q3 v2 s2 hp
        simp only [Nd.ok,Nd.next]at q4
        refine⟨q4.1.1,first (.inl ⟨v,s2,q4.1.2,⟨rfl,fun g hg=> ?_⟩,q4.2⟩)⟩
        rcases hg with hg|rfl
        ·exact h2.2 g hg
        ·exact h1
      ·rcases h0 with h0|h0<;>cases h0
     ·-- an effect, a read
      rcases h with⟨v,s,h1,h2,h3⟩| ⟨h0,P,h1,⟨v0,s0,hp0⟩,h3⟩
      ·rcases second h3 with⟨v2,s2,q1,q2,q3⟩| ⟨h0,_⟩
       ·have:=z57 hr q1
        subst this
        simp only [Nd.ok,Nd.next]at q2 q3 h2
        exact .inl ⟨v2,O,q2.2 O (.inr rfl),⟨rfl,fun g hg=>q2.2 g (.inl hg)⟩,first (.inl ⟨v,s2,h1,⟨h2,q1⟩,q3⟩)⟩
       ·rcases h0 with h0|h0<;>cases h0
      ·have get:∀v s,P v s->∃v2,OpTo C (ev C J) s i.op v2 s/\ OpTo C (ev C J) O i.op v2 O/\ (∀g,H.pre g->OpTo C (ev C J) g i.op v2 g) ∧
         K ⟨fun s=>H.pre s \/s=O,fun s=>H.rds s/\ OpTo C (ev C J) s i.op v2 s,H.rd2⟩ (putE (putE J i.dst v2) x.dst v) s:=by
        intro v s hp
        rcases second (h3 v s hp).2 with⟨v2,s2,q1,q2,q3⟩| ⟨h0,_⟩
        ·have:=z57 hr q1
         subst this
         simp only [Nd.ok,Nd.next]at q2 q3
         exact⟨v2,q1,q2.2 O (.inr rfl),fun g hg=>q2.2 g (.inl hg),q3⟩
        ·rcases h0 with h0|h0<;>cases h0
       obtain⟨v2,_,q2,q3,_⟩:=get v0 s0 hp0
       refine .inl ⟨v2,O,q2,⟨rfl,q3⟩,first (.inr ⟨h0,P,h1,⟨v0,s0,hp0⟩,fun v s hp=> ?_⟩)⟩
       obtain⟨v2',k1,k2,_,k4⟩:=get v s hp
       have:=zll hr q2 k2
       subst this
       have h4:=(h3 v s hp).1
       simp only [Nd.ok]at h4
       exact⟨⟨h4,k1⟩,k4⟩
     ·-- two reads
      rcases h with⟨v,s,h1,h2,h3⟩| ⟨h0,_⟩
      ·have:=z57 hrx h1
       subst this
       rcases second h3 with⟨v2,s2,q1,q2,q3⟩| ⟨h0,_⟩
       ·have:=z57 hri q1
        subst this
        simp only [Nd.ok,Nd.next]at q2 q3 h2
        refine .inl ⟨v2,s2,q1,⟨rfl,q2.2⟩,first (.inl ⟨v,s2,h1,⟨rfl,h2.2⟩,?_⟩)⟩
        simp only [Nd.next]
        have e:(fun s=>(H.rds s/\ OpTo C (ev C J) s i.op v2 s)/\ OpTo C (ev C J) s x.op v s)=(fun s=>(H.rds s/\ OpTo C (ev C J) s x.op v s)/\ OpTo C (ev C J) s i.op v2 s):=by
         funext s
         exact propext ⟨fun k=>⟨⟨k.1.1,k.2⟩,k.1.2⟩,fun k=>⟨⟨k.1.1,k.2⟩,k.1.2⟩⟩
        rw [e];exact q3
       ·rcases h0 with h0|h0<;>cases h0
      ·rcases h0 with h0|h0<;>cases h0
     ·-- a read, what leaves the store
      rcases h with⟨v,s,h1,h2,h3⟩| ⟨h0,_⟩
      ·have:=z57 hr h1
       subst this
       rcases second h3 with⟨v2,s2,q1,q2,q3⟩| ⟨h0,_⟩
       ·simp only [Nd.ok]at q2
        subst q2
        exact .inl ⟨v2,s2,q1,rfl,first (.inl ⟨v,s2,h1,h2,q3⟩)⟩
       ·rcases h0 with h0|h0<;>cases h0
      ·rcases h0 with h0|h0<;>cases h0
     ·-- what leaves the store, a read
      rcases h with⟨v,s,h1,h2,h3⟩| ⟨h0,_⟩
      ·simp only [Nd.ok]at h2
       subst h2
       rcases second h3 with⟨v2,s2,q1,q2,q3⟩| ⟨h0,_⟩
       ·have:=z57 hr q1
        subst this
        exact .inl ⟨v2,s2,q1,q2,first (.inl ⟨v,s2,h1,rfl,q3⟩)⟩
       ·rcases h0 with h0|h0<;>cases h0
      ·rcases h0 with h0|h0<;>cases h0
     ·-- readers
      simp only [matesP,Bool.or_eq_true,Bool.and_eq_true,beq_iff_eq]at hh
      have okR:∀{n:Nd} {o:Op} {v:AV} {H:Hist} {s s':Store},rdK n o=true->n.ok C (ev C J) o v H s s'->s'=s/\ ∀h,H.pre h->OpTo C (ev C J) h o v h:=by
       intro n o v H s s' hk h1
       cases n<;>first|exact h1|(simp [rdK]at hk)
      have mkR:∀{n:Nd} {o:Op} {v:AV} {H:Hist} {s:Store},rdK n o=true->(∀h,H.pre h->OpTo C (ev C J) h o v h)->n.ok C (ev C J) o v H s s:=by
       intro n o v H s hk h1
       cases n<;>first|exact⟨rfl,h1⟩|(simp [rdK]at hk)
      have nxR:∀{n:Nd} {o:Op} {v:AV} {H:Hist} {s:Store},rdK n o=true->n.next C (ev C J) o v H s=⟨H.pre,fun s=>H.rds s/\ OpTo C (ev C J) s o v s,if n=.rd2 then(fun s=>H.rd2 s/\ OpTo C (ev C J) s o v s)else H.rd2⟩:=by
       intro n o v H s hk
       cases n<;>first|rfl|(simp [rdK]at hk)
      have noP:∀{n:Nd} {o:Op},rdK n o=true->n=.no \/n=.ef->False:=by
       intro n o hk h0
       rcases h0 with rfl|rfl<;>simp [rdK]at hk
      rcases hh with((((((⟨hk,rfl⟩| ⟨⟨hk,rfl⟩,rfl⟩)| ⟨⟨hk,rfl⟩,hcn⟩)| ⟨hk,rfl⟩)| ⟨hk,rfl⟩)| ⟨hk,rfl⟩)| ⟨hk,hk2⟩)| ⟨⟨hr,rfl⟩,rfl⟩
      ·-- a reader, an effect
       rcases h with⟨v,s,h1,h2,h3⟩| ⟨h0,_⟩
       ·obtain⟨rfl,h2'⟩:=okR hk h2
        rw [nxR hk]at h3
        rcases second h3 with⟨v2,s2,q1,q2,q3⟩| ⟨h0,P,q1,q2,q3⟩
        ·simp only [Nd.ok,Nd.next]at q2 q3
         refine .inl ⟨v2,s2,q1,q2.1,first (.inl ⟨v,s2,q2.2,mkR hk fun g hg=> ?_,by rw [nxR hk];exact q3⟩)⟩
         rcases hg with hg|rfl
         ·exact h2' g hg
         ·exact h1
        ·refine .inr ⟨h0,P,q1,q2,fun v2 s2 hp=> ?_⟩
         have q4:=q3 v2 s2 hp
         simp only [Nd.ok,Nd.next]at q4
         refine⟨q4.1.1,first (.inl ⟨v,s2,q4.1.2,mkR hk fun g hg=> ?_,by rw [nxR hk];exact q4.2⟩)⟩
         rcases hg with hg|rfl
         ·exact h2' g hg
         ·exact h1
       ·exact(noP hk h0).elim
      ·-- a late reader, an effect that asks those alone
       rcases h with⟨v,s,h1,h2,h3⟩| ⟨h0,_⟩
       ·obtain⟨rfl,h2'⟩:=okR hk h2
        rcases second h3 with⟨v2,s2,q1,q2,q3⟩| ⟨h0,_⟩
        ·simp only [Nd.ok,Nd.next]at q2 q3
         refine .inl ⟨v2,s2,q1,q2.1,first (.inl ⟨v,s2,q2.2,mkR hk fun g hg=> ?_,q3⟩)⟩
         rcases hg with hg|rfl
         ·exact h2' g hg
         ·exact h1
        ·rcases h0 with h0|h0<;>cases h0
       ·exact(noP hk h0).elim
      ·-- an effect that is no call, a reader
       rcases h with⟨v,s,h1,h2,h3⟩| ⟨_,P,h1,_⟩
       ·rcases second h3 with⟨v2,s2,q1,q2,q3⟩| ⟨h0,_⟩
        ·obtain⟨rfl,q2'⟩:=okR hk q2
         rw [nxR hk]at q3
         simp only [Nd.next]at q2' q3
         simp only [Nd.ok]at h2
         exact .inl ⟨v2,O,q2' O (.inr rfl),mkR hk fun g hg=>q2' g (.inl hg),first (.inl ⟨v,s2,h1,by rw [nxR hk];exact⟨h2,q1⟩,by rw [nxR hk];exact q3⟩)⟩
        ·exact(noP hk h0).elim
       ·obtain⟨fa,hc,_⟩:=h1
        rw [hc]at hcn;simp at hcn
      ·-- an effect that asks late readers, a reader
       rcases h with⟨v,s,h1,h2,h3⟩| ⟨h0,_⟩
       ·rcases second h3 with⟨v2,s2,q1,q2,q3⟩| ⟨h0,_⟩
        ·obtain⟨rfl,q2'⟩:=okR hk q2
         rw [nxR hk]at q3
         simp only [Nd.next]at q2' q3
         simp only [Nd.ok]at h2
         refine .inl ⟨v2,O,q2' O (.inr rfl),mkR hk fun g hg=>q2' g (.inl hg),first (.inl ⟨v,s2,h1,?_,by rw [nxR hk];exact q3⟩)⟩
         rw [nxR hk]
         simp only [Nd.ok]
         split
         ·exact⟨h2,q1⟩
         ·exact h2
        ·exact(noP hk h0).elim
       ·rcases h0 with h0|h0<;>cases h0
      ·-- a reader, what leaves the store
       rcases h with⟨v,s,h1,h2,h3⟩| ⟨h0,_⟩
       ·obtain⟨rfl,h2'⟩:=okR hk h2
        rcases second h3 with⟨v2,s2,q1,q2,q3⟩| ⟨h0,_⟩
        ·simp only [Nd.ok]at q2
         subst q2
         exact .inl ⟨v2,s2,q1,rfl,first (.inl ⟨v,s2,h1,h2,q3⟩)⟩
        ·rcases h0 with h0|h0<;>cases h0
       ·exact(noP hk h0).elim
      ·-- what leaves the store, a reader
       rcases h with⟨v,s,h1,h2,h3⟩| ⟨h0,_⟩
       ·simp only [Nd.ok]at h2
        subst h2
        rcases second h3 with⟨v2,s2,q1,q2,q3⟩| ⟨h0,_⟩
        ·obtain⟨rfl,_⟩:=okR hk q2
         exact .inl ⟨v2,s2,q1,q2,first (.inl ⟨v,s2,h1,rfl,q3⟩)⟩
        ·exact(noP hk h0).elim
       ·rcases h0 with h0|h0<;>cases h0
      ·-- two readers
       rcases h with⟨v,s,h1,h2,h3⟩| ⟨h0,_⟩
       ·obtain⟨rfl,h2'⟩:=okR hk h2
        rw [nxR hk]at h3
        rcases second h3 with⟨v2,s2,q1,q2,q3⟩| ⟨h0,_⟩
        ·obtain⟨rfl,q2'⟩:=okR hk2 q2
         rw [nxR hk2]at q3
         refine .inl ⟨v2,s2,q1,mkR hk2 q2',first (.inl ⟨v,s2,h1,mkR hk (by rw [nxR hk2];exact h2'),?_⟩)⟩
         rw [nxR hk2,nxR hk]
         have e:∀R:Store->Prop,(fun s=>(R s/\ OpTo C (ev C J) s i.op v2 s)/\ OpTo C (ev C J) s x.op v s)=(fun s=>(R s/\ OpTo C (ev C J) s x.op v s)/\ OpTo C (ev C J) s i.op v2 s):=fun R=>by
          funext s
          exact propext ⟨fun k=>⟨⟨k.1.1,k.2⟩,k.1.2⟩,fun k=>⟨⟨k.1.1,k.2⟩,k.1.2⟩⟩
         simp only at q3 ⊢
         rw [e]
         by_cases a:nx=.rd2<;>by_cases b:ni=.rd2
         ·simp only [a,b,if_true]at q3 ⊢
          rw [e];exact q3
         ·simp only [if_pos a,if_neg b]at q3 ⊢;exact q3
         ·simp only [if_neg a,if_pos b]at q3 ⊢;exact q3
         ·simp only [if_neg a,if_neg b]at q3 ⊢;exact q3
        ·exact(noP hk2 h0).elim
       ·exact(noP hk h0).elim
      ·-- an effect, a late read
       rcases h with⟨v,s,h1,h2,h3⟩| ⟨h0,P,h1,⟨v0,s0,hp0⟩,h3⟩
       ·rcases second h3 with⟨v2,s2,q1,q2,q3⟩| ⟨h0,_⟩
        ·have:=z57 hr q1
         subst this
         simp only [Nd.ok,Nd.next]at q2 q3 h2
         exact .inl ⟨v2,O,q2.2 O (.inr rfl),⟨rfl,fun g hg=>q2.2 g (.inl hg)⟩,first (.inl ⟨v,s2,h1,⟨h2,q1⟩,q3⟩)⟩
        ·rcases h0 with h0|h0<;>cases h0
       ·have get:∀v s,P v s->∃v2,OpTo C (ev C J) s i.op v2 s/\ OpTo C (ev C J) O i.op v2 O/\ (∀g,H.pre g->OpTo C (ev C J) g i.op v2 g) ∧
          K ⟨fun s=>H.pre s \/s=O,fun s=>H.rds s/\ OpTo C (ev C J) s i.op v2 s,fun s=>H.rd2 s/\ OpTo C (ev C J) s i.op v2 s⟩ (putE (putE J i.dst v2) x.dst v) s:=by
         intro v s hp
         rcases second (h3 v s hp).2 with⟨v2,s2,q1,q2,q3⟩| ⟨h0,_⟩
         ·have:=z57 hr q1
          subst this
          simp only [Nd.ok,Nd.next]at q2 q3
          exact⟨v2,q1,q2.2 O (.inr rfl),fun g hg=>q2.2 g (.inl hg),q3⟩
         ·rcases h0 with h0|h0<;>cases h0
        obtain⟨v2,_,q2,q3,_⟩:=get v0 s0 hp0
        refine .inl ⟨v2,O,q2,⟨rfl,q3⟩,first (.inr ⟨h0,P,h1,⟨v0,s0,hp0⟩,fun v s hp=> ?_⟩)⟩
        obtain⟨v2',k1,k2,_,k4⟩:=get v s hp
        have:=zll hr q2 k2
        subst this
        have h4:=(h3 v s hp).1
        simp only [Nd.ok]at h4
        exact⟨⟨h4,k1⟩,k4⟩
def z2r(C:Ctx)(ops:Array Oper)(need:Nat->Nd)(K:Env->Store->Prop):List Nat->Hist->Env->Store->Prop
 | [],_,J,O=>K J O
 |i::rest,H,J,O=>match ops[i]? with
  |none=>False
  |some o=>z2l C ops (need i) o (z2r C ops need K rest) H J O
theorem zok{n:Nd}{o:Oper}{K K':Hist->Env->Store->Prop}{H:Hist}(hk:∀H J O,K H J O->K' H J O)(h:z2l C ops n o K H J O):z2l C ops n o K' H J O:=by
 unfold z2l at*
 split at h
 ·rcases h with⟨v,O',h1,h2,h3⟩| ⟨h0,P,h1,hne,h3⟩
  ·exact .inl ⟨v,O',h1,h2,hk _ _ _ h3⟩
  ·exact .inr ⟨h0,P,h1,hne,fun v O' hp=>⟨(h3 v O' hp).1,hk _ _ _ (h3 v O' hp).2⟩⟩
 ·exact hk _ _ _ h
 ·exact h.elim
def free2(C:Ctx)(ops:Array Oper)(need:Nat->Nd)(x i:Nat):Bool:=
 match ops[x]?,ops[i]? with
 |some ox,some oi=>ox.apart ops oi && zer C (need x) (need i) ox.op oi.op
 | _,_=>false
theorem z4n{C:Ctx}{ops:Array Oper}{need:Nat->Nd}{K:Env->Store->Prop}{i:Nat}{post:List Nat}:∀(pre:List Nat),(∀x ∈ pre,free2 C ops need x i=true)->∀H J O,z2r C ops need K (pre++i::post) H J O->
  z2r C ops need K (i::(pre++post)) H J O
 | [],_,H,J,O,h=>h
 |x::pre,hf,H,J,O,h=>by
  have hx:=hf x (by simp)
  have ih:=z4n (C:=C) (K:=K) (post:=post) pre (fun y hy=>hf y (by simp [hy]))
  unfold free2 at hx
  cases hox:ops[x]? with
  |none=>simp [hox]at hx
  |some ox=>
   cases hoi:ops[i]? with
   |none=>simp [hox,hoi]at hx
   |some oi=>
    simp only [hox,hoi,Bool.and_eq_true]at hx
    simp only [List.cons_append,z2r,hox,hoi]at h ⊢
    have h':=zok (fun H J O hh=>ih H J O hh) h
    have h'':z2l C ops (need x) ox (z2l C ops (need i) oi (z2r C ops need K (pre++post))) H J O:=zok (fun H J O hh=>by simpa only [z2r,hoi]using hh) h'
    exact z12a hx.1 hx.2 h''
def z39(acc:List Nat):List Oper->List Nat
 | []=>acc
 |o::os=>z39 (acc++ [o.after.toList.foldl (fun s e=>if Region.binds .any e then s ||| 2^e.on |||acc.getD e.on 0 else s) 0]) os
def ahead_(cl:List Nat)(x i:Nat):Bool:=(cl.getD i 0).testBit x
def z6c(ops:Array Oper)(L:Nat->Bool):Prop:=∀(i:Nat) (o:Oper),ops[i]? =some o->L i=true->∀e ∈ o.after,Region.binds .any e=true->L e.on=true
theorem zk4 (acc : List Nat) (x : Nat) : ∀ (l : List Edge) (s : Nat), (l.foldl (fun s e => if Region.binds .any e then s ||| 2 ^ e.on ||| acc.getD e.on 0 else s) s).testBit x = true ->
    s.testBit x=true \/ ∃e ∈ l,Region.binds .any e=true/\ (e.on=x \/(acc.getD e.on 0).testBit x=true)
  | [],s,h=> .inl h
  |e::l,s,h=>by
    simp only [List.foldl_cons]at h
    rcases zk4 acc x l _ h with h1| ⟨e',he',h1⟩
    · split at h1
      · rename_i hb
        simp only [Nat.testBit_or,Bool.or_eq_true,Nat.testBit_two_pow,decide_eq_true_eq]at h1
        rcases h1 with(h1|h1)|h1
        · exact .inl h1
        · exact .inr ⟨e,by simp,hb,.inl h1⟩
        · exact .inr ⟨e,by simp,hb,.inr h1⟩
      · exact .inl h1
    · exact .inr ⟨e',by simp [he'],h1⟩
theorem zjc{ops:Array Oper}{L:Nat->Bool}(hL:z6c ops L):∀(os:List Oper) (acc:List Nat),(∀j,os[j]? =ops[acc.length+j]?)->
  (∀(i x:Nat),i<acc.length->(∀(o:Oper),ops[i]? =some o->∀e ∈ o.after,Region.binds .any e=true->L e.on=true)->(acc.getD i 0).testBit x=true->L x=true)->
  ∀(i x:Nat),(∀(o:Oper),ops[i]? =some o->∀e ∈ o.after,Region.binds .any e=true->L e.on=true)->((z39 acc os).getD i 0).testBit x=true->L x=true
 | [],acc,hs,hacc,i,x,hi,h=>by
  simp only [z39]at h
  rcases Nat.lt_or_ge i acc.length with hl|hl
  ·exact hacc i x hl hi h
  ·rw [List.getD_eq_getElem?_getD,List.getElem?_eq_none hl]at h;simp at h
 |o::os,acc,hs,hacc,i,x,hi,h=>by
  simp only [z39]at h
  have h0:ops[acc.length]? =some o:=by have:=hs 0;simpa using this.symm
  refine zjc hL os _ (fun j=> ?_) (fun k y hk hk2 hb=> ?_) i x hi h
  ·have:=hs (j+1)
   simp only [List.getElem?_cons_succ]at this
   rw [this,List.length_append,List.length_singleton]
   congr 1;omega
  ·rcases Nat.lt_or_ge k acc.length with hl|hl
   ·rw [List.getD_eq_getElem?_getD,List.getElem?_append_left hl,<-List.getD_eq_getElem?_getD]at hb
    exact hacc k y hl hk2 hb
   ·have hke:k=acc.length:=by simp at hk;omega
    subst hke
    rw [List.getD_eq_getElem?_getD,List.getElem?_concat_length]at hb
    simp only [Option.getD_some]at hb
    rcases zk4 acc y _ 0 hb with h1| ⟨e,he,hbd,h1⟩
    ·simp at h1
    ·have hLe:L e.on=true:=hk2 o h0 e (by simpa using he) hbd
     rcases h1 with rfl|h1
     ·exact hLe
     ·rcases Nat.lt_or_ge e.on acc.length with hl2|hl2
      ·exact hacc e.on y hl2 (fun o' ho' e' he' hb'=>hL e.on o' ho' hLe e' he' hb') h1
      ·rw [List.getD_eq_getElem?_getD,List.getElem?_eq_none hl2]at h1;simp at h1
def zf2(C:Ctx)(ops:Array Oper)(need:Nat->Nd):Bool:=
 let cl:=z39 [] ops.toList
 (List.range ops.size).all fun i=>(List.range i).all fun x=>ahead_ cl x i ||free2 C ops need x i
def z56(ops:Array Oper):Bool:=(List.range ops.size).all fun i=>match ops[i]? with|some o=>o.after.toList.all fun e=> !Region.binds .any e ||decide (e.on<i)|none=>true
theorem zn0(hback:z56 ops=true){listed:Array Bool}{i:Nat}{L:List Nat}(hls:listed.size=ops.size)(hL:∀j,j ∈ i::L ↔ j<ops.size/\ listed.getD j true=false)
  (hpw:(i::L).Pairwise (· < ·)):i ∈ Region.ready .any ops listed:=by
 have hi:=(hL i).1 (by simp)
 unfold Region.ready
 simp only [List.mem_filter,List.mem_range,Bool.and_eq_true,Bool.not_eq_true']
 refine⟨hi.1,hi.2,?_⟩
 have ho:ops[i]? =some ops[i]:=Array.getElem?_eq_getElem hi.1
 rw [ho]
 simp only [Option.map_some,Option.getD_some]
 rw [Array.all_eq_true_iff_forall_mem]
 intro e he
 by_cases hb:Region.binds .any e=true
 ·have hb2:=List.all_eq_true.1 hback i (by simpa using hi.1)
  rw [ho]at hb2
  simp only at hb2
  have hb3:=List.all_eq_true.1 hb2 e (by simpa using he)
  simp only [hb,Bool.not_true,Bool.false_or,decide_eq_true_eq]at hb3
  -- what stands ahead of the least one that is left is listed
  have:listed.getD e.on false=true:=by
   rcases hl:listed.getD e.on false with _| _
   ·have hsz:e.on<listed.size:=by omega
    have hf:listed.getD e.on true=false:=by
     simp only [Array.getD_eq_getD_getElem?,Array.getElem?_eq_getElem hsz,Option.getD_some]at hl ⊢
     exact hl
    have hin:=(hL e.on).2 ⟨by omega,hf⟩
    rcases List.mem_cons.1 hin with h1|h1
    ·omega
    ·have:=(List.pairwise_cons.1 hpw).1 e.on h1
     omega
   ·rfl
  simp [this]
 ·simp [hb]
theorem zfw{listed:Array Bool}(hi:i ∈ Region.ready .any ops listed):
  i<ops.size/\ listed.getD i true=false/\ ∀(o:Oper),ops[i]? =some o->∀e ∈ o.after,Region.binds .any e=true->listed.getD e.on false=true:=by
 unfold Region.ready at hi
 simp only [List.mem_filter,List.mem_range,Bool.and_eq_true,Bool.not_eq_true']at hi
 obtain⟨hi1,hi2,hi3⟩:=hi
 have ho:ops[i]? =some ops[i]:=Array.getElem?_eq_getElem hi1
 rw [ho]at hi3
 simp only [Option.map_some,Option.getD_some,Array.all_eq_true_iff_forall_mem]at hi3
 refine⟨hi1,hi2,?_⟩
 intro o ho' e he hb
 rw [ho]at ho';cases ho'
 have:=hi3 e he
 simpa [hb]using this
theorem zck {ops : Array Oper} {listed : Array Bool} {i x : Nat} (hdown : z6c ops (fun i => listed.getD i false)) (hdeps : ∀ (o : Oper), ops[i]? = some o -> ∀ e ∈ o.after, Region.binds .any e = true -> listed.getD e.on false = true)
    (hsz:x<listed.size) (hx:listed.getD x true=false):¬ahead_ (z39 [] ops.toList) x i=true:=by
  intro h1
  have:=zjc (L:=fun i=>listed.getD i false) hdown ops.toList [] (fun j=>by simp) (by simp) i x hdeps h1
  simp only [Array.getD_eq_getD_getElem?,Array.getElem?_eq_getElem hsz,Option.getD_some]at this hx
  rw [this]at hx
  simp at hx
theorem z7u{listed:Array Bool}{L L':List Nat}(hsz:i<listed.size)(hL:∀j,j ∈ L ↔ j<ops.size/\ listed.getD j true=false)(h:∀j,j ∈ L' ↔ j ∈ L/\ j ≠ i):
  ∀j,j ∈ L' ↔ j<ops.size/\ (listed.setIfInBounds i true).getD j true=false:=by
 intro j
 rw [h j,hL j]
 simp only [Array.getD_eq_getD_getElem?,Array.getElem?_setIfInBounds]
 by_cases hji:i=j
 ·subst hji
  simp [hsz]
 ·rw [if_neg hji]
  constructor
  ·rintro⟨h1,_⟩;exact h1
  ·exact fun h1=>⟨h1,fun e=>hji e.symm⟩
theorem z7n {ops : Array Oper} {listed : Array Bool} {i : Nat} (hsz : i < listed.size) (hdown : z6c ops (fun i => listed.getD i false)) (hdeps : ∀ (o : Oper), ops[i]? = some o -> ∀ e ∈ o.after, Region.binds .any e = true -> listed.getD e.on false = true) :
    z6c ops (fun j=>(listed.setIfInBounds i true).getD j false):=by
  intro j o hj hlj e he hbd
  simp only [Array.getD_eq_getD_getElem?,Array.getElem?_setIfInBounds]at hlj ⊢
  by_cases hji:i=j
  · subst hji
    have:=hdeps o hj e he hbd
    simp only [Array.getD_eq_getD_getElem?]at this
    by_cases hie:i=e.on
    · simp [<-hie,hsz]
    · rw [if_neg hie];exact this
  · rw [if_neg hji]at hlj
    have:=hdown j o hj (by simpa [Array.getD_eq_getD_getElem?]using hlj) e he hbd
    simp only [Array.getD_eq_getD_getElem?]at this
    by_cases hie:i=e.on
    · simp [<-hie,hsz]
    · rw [if_neg hie];exact this
theorem z2t{pre post:List Nat}(hpw:(pre++i::post).Pairwise (· < ·))(j:Nat):j ∈ pre++post ↔ j ∈ pre++i::post/\ j ≠ i:=by
 have h1:=List.pairwise_append.1 hpw
 have h2:=List.pairwise_cons.1 h1.2.1
 constructor
 ·intro h
  rcases List.mem_append.1 h with h|h
  ·exact⟨by simp [h],fun e=>by have:=h1.2.2 j h i (by simp);omega⟩
  ·exact⟨by simp [h],fun e=>by have:=h2.1 j h;omega⟩
 ·rintro⟨h,hne⟩
  rcases List.mem_append.1 h with h|h
  ·exact List.mem_append_left _ h
  ·rcases List.mem_cons.1 h with h|h
   ·exact absurd h hne
   ·exact List.mem_append_right _ h
theorem z7z{pre post:List Nat}(hpw:(pre++i::post).Pairwise (· < ·)):(pre++post).Pairwise (· < ·):=
 hpw.sublist (List.Sublist.append (List.Sublist.refl _) (List.sublist_cons_self _ _))
def zbr(C:Ctx)(ops:Array Oper)(need:Nat->Nd)(x i:Nat):Prop:=ahead_ (z39 [] ops.toList) x i=true \/free2 C ops need x i=true
theorem zb9{need:Nat->Nd}{Q:Exit->Act->World->Prop}(hback:z56 ops=true){n:Nat}(hdst:∀o ∈ ops,∀d,o.dst=some d->d<n):
  ∀(fuel:Nat) (listed:Array Bool) (L:List Nat),listed.size=ops.size->(∀i,i ∈ L ↔ i<ops.size/\ listed.getD i true=false)->L.Pairwise (· < ·)->z6c ops (fun i=>listed.getD i false)->L.length<=fuel->
   (∀x i,x ∈ L->i ∈ L->x<i->zbr C ops need x i)->
   ∀(H:Hist) (J:Env) (O:Store) (Z:Places) (a:Act) (w:World),z2r C ops need K L H J O->Rel C Z O w->EnvR Z w J a.tmps->a.tmps.size=n->
    (∀J' O' Z' a' w',K J' O'->Step Z w Z' w'->Rel C Z' O' w'->EnvR Z' w' J' a'.tmps->a'.defers=a.defers->a'.tmps.size=n->Q .normal a' w')->
    wpAny C.P .any ops Q fuel listed a w:=by
 intro fuel
 induction fuel with
 |zero=>
  intro listed L hls hL hpw hdown hlen hok H J O Z a w h hR hE hn hQ
  have:L=[]:=List.eq_nil_of_length_eq_zero (by omega)
  subst this
  simp only [wpAny]
  refine⟨?_,hQ J O Z a w h (Step.refl _ _) hR hE rfl hn⟩
  apply List.eq_nil_iff_forall_not_mem.2
  intro i hi
  obtain⟨k1,k2,_⟩:=zfw hi
  exact absurd ((hL i).2 ⟨k1,k2⟩) (by simp)
 |succ fuel ih=>
  intro listed L hls hL hpw hdown hlen hok H J O Z a w h hR hE hn hQ
  simp only [wpAny]
  refine⟨fun hready=> ?_,fun i hi=> ?_⟩
  ·cases L with
   |nil=>exact hQ J O Z a w h (Step.refl _ _) hR hE rfl hn
   |cons i L=>
    have:=zn0 hback hls hL hpw
    rw [hready]at this
    simp at this
  ·-- one that is ready goes ahead of all that are left
   obtain⟨hi1,hi2,hdeps⟩:=zfw hi
   have hin:=(hL i).2 ⟨hi1,hi2⟩
   obtain⟨pre,post,rfl⟩:=List.append_of_mem hin
   have ho:ops[i]? =some ops[i]:=Array.getElem?_eq_getElem hi1
   have hsizei:i<listed.size:=by omega
   have hfree:∀x ∈ pre,free2 C ops need x i=true:=by
    intro x hx
    have hxi:x<i:=(List.pairwise_append.1 hpw).2.2 x hx i (by simp)
    rcases hok x i (by simp [hx]) hin hxi with h1|h1
    ·have hx2:=(hL x).1 (by simp [hx])
     exact absurd h1 (zck hdown hdeps (by omega) hx2.2)
    ·exact h1
   have hb:=z4n (C:=C) (K:=K) (post:=post) pre hfree H J O h
   simp only [z2r,ho]at hb
   refine z79 ho (fun x hx=>by rw [hn];exact hdst _ (Array.getElem_mem hi1) x hx) hR hE hb fun H' J' O' Z' a' w' hK hst hR' hE' hdf hsz=> ?_
   refine ih (listed.setIfInBounds i true) (pre++post) (by simpa using hls) (z7u hsizei hL (z2t hpw)) (z7z hpw) (z7n hsizei hdown hdeps) (by simp at hlen ⊢;omega)
    (fun x j hx hj=>hok x j ((z2t hpw x).1 hx).1 ((z2t hpw j).1 hj).1) H' J' O' Z' a' w' hK hR' hE' (hsz.trans hn) ?_
   intro J2 O2 Z2 a2 w2 k1 k2 k3 k4 k5 k6
   exact hQ J2 O2 Z2 a2 w2 k1 (hst.trans k2) k3 k4 (k5.trans hdf) k6
theorem zlg{need:Nat->Nd}(hok:zf2 C ops need=true){x i:Nat}(hi:i<ops.size)(hxi:x<i):zbr C ops need x i:=by
 have hok1:=List.all_eq_true.1 hok i (by simpa using hi)
 have hok2:=List.all_eq_true.1 hok1 x (by simpa using hxi)
 simpa only [zbr,Bool.or_eq_true]using hok2
theorem zpt{e:Operand->AV}{s1 s2:Store}{op:Op}{v1 v2:AV}(hn:z2g op=none)(h1:OpTo C e O op v1 s1)(h2:OpTo C e O op v2 s2):v1=v2/\ s1=s2:=by
 unfold OpTo at h1 h2
 rw [hn]at h1 h2
 simp only at h1 h2
 rw [h1]at h2
 simpa using h2
theorem zh6{n:Nd}{o:Oper}{K K':Hist->Env->Store->Prop}{H:Hist}(hn:z2g o.op=none)(h:z2l C ops n o K H J O)(h':z2l C ops n o K' H J O):
  z2l C ops n o (fun H J O=>K H J O/\ K' H J O) H J O:=by
 have nop:∀{P},OpP C (ev C J) O o.op P->False:=fun hp=>by
  obtain⟨⟨f,args⟩,hc,_⟩:=hp
  rw [hn]at hc;cases hc
 unfold z2l at*
 split at h
 ·rename_i hw
  rw [hw]at h'
  simp only at h'
  rcases h with⟨v,s,h1,h2,h3⟩| ⟨_,P,h1,_⟩
  ·rcases h' with⟨v',s',k1,k2,k3⟩| ⟨_,P,k1,_⟩
   ·obtain⟨rfl,rfl⟩:=zpt hn h1 k1
    exact .inl ⟨v,s,h1,h2,h3,k3⟩
   ·exact(nop k1).elim
  ·exact(nop h1).elim
 ·rename_i hw
  rw [hw]at h'
  exact⟨h,h'⟩
 ·exact h.elim
theorem zsn{need:Nat->Nd}{Q:Exit->Act->World->Prop}(hback:z56 ops=true){n:Nat}(hdst:∀o ∈ ops,∀d,o.dst=some d->d<n){p q:Nat}:
  ∀(fuel:Nat) (listed:Array Bool) (A B D:List Nat),listed.size=ops.size->(∀i,i ∈ A++p::(B++q::D) ↔ i<ops.size/\ listed.getD i true=false)->(A++p::(B++q::D)).Pairwise (· < ·)->z6c ops (fun i=>listed.getD i false)->(A++p::(B++q::D)).length<=fuel->
   (∀x i,x ∈ A++p::(B++q::D)->i ∈ A++p::(B++q::D)->x<i->(x=p/\ i=q) \/zbr C ops need x i)->(∀y ∈ B,free2 C ops need q y=true)->
   (∀y ∈ A++(B++D),(∃o,ops[y]? =some o/\ z2g o.op=none) \/ahead_ (z39 [] ops.toList) p y=true \/ahead_ (z39 [] ops.toList) q y=true)->
   ∀(H:Hist) (J:Env) (O:Store) (Z:Places) (a:Act) (w:World),z2r C ops need K (A++p::(B++q::D)) H J O->z2r C ops need K (A++q::p::(B++D)) H J O->Rel C Z O w->EnvR Z w J a.tmps->a.tmps.size=n->
    (∀J' O' Z' a' w',K J' O'->Step Z w Z' w'->Rel C Z' O' w'->EnvR Z' w' J' a'.tmps->a'.defers=a.defers->a'.tmps.size=n->Q .normal a' w')->
    wpAny C.P .any ops Q fuel listed a w:=by
 intro fuel
 induction fuel with
 |zero=>
  intro listed A B D hls hL hpw hdown hlen
  simp at hlen
 |succ fuel ih=>
  intro listed A B D hls hL hpw hdown hlen hok hqB hcall H J O Z a w h h' hR hE hn hQ
  simp only [wpAny]
  refine⟨fun hready=> ?_,fun i hi=> ?_⟩
  ·exfalso
   cases hl:A++p::(B++q::D)with
   |nil=>simp at hl
   |cons i L=>
    rw [hl]at hL hpw
    have:=zn0 hback hls hL hpw
    rw [hready]at this
    simp at this
  ·obtain⟨hi1,hi2,hdeps⟩:=zfw hi
   have hin:=(hL i).2 ⟨hi1,hi2⟩
   have ho:ops[i]? =some ops[i]:=Array.getElem?_eq_getElem hi1
   have hsizei:i<listed.size:=by omega
   have hlt:∀x ∈ A++p::(B++q::D),x<i->¬(x=p/\ i=q)->free2 C ops need x i=true:=by
    intro x hx hxi hne
    rcases hok x i hx hin hxi with h1|h1|h1
    ·exact absurd h1 hne
    ·have hx2:=(hL x).1 hx
     exact absurd h1 (zck hdown hdeps (by omega) hx2.2)
    ·exact h1
   have hp1:=List.pairwise_append.1 hpw
   have hp2:=List.pairwise_cons.1 hp1.2.1
   have hp3:=List.pairwise_append.1 hp2.2
   have hp4:=List.pairwise_cons.1 hp3.2.1
   have hpq:p<q:=hp2.1 q (by simp)
   have hpl:=(hL p).1 (by simp)
   have hql:=(hL q).1 (by simp)
   have nocall:i ∈ A++(B++D)->z2g ops[i].op=none:=by
    intro hm
    rcases hcall i hm with⟨o,h1,h2⟩|h1|h1
    ·rw [ho]at h1;cases h1;exact h2
    ·exact absurd h1 (zck hdown hdeps (by omega) hpl.2)
    ·exact absurd h1 (zck hdown hdeps (by omega) hql.2)
   have hdst':∀x,ops[i].dst=some x->x<a.tmps.size:=fun x hx=>by rw [hn];exact hdst _ (Array.getElem_mem hi1) x hx
   have fin:∀{Z':Places} {a':Act} {w':World},Step Z w Z' w'->a'.defers=a.defers->a'.tmps.size=a.tmps.size->(∀(J2:Env) (O2:Store) (Z2:Places) (a2:Act) (w2:World),K J2 O2->Step Z' w' Z2 w2->Rel C Z2 O2 w2->EnvR Z2 w2 J2 a2.tmps->a2.defers=a'.defers->a2.tmps.size=n->Q .normal a2 w2):=by
    intro Z' a' w' hst hdf _ J2 O2 Z2 a2 w2 k1 k2 k3 k4 k5 k6
    exact hQ J2 O2 Z2 a2 w2 k1 (hst.trans k2) k3 k4 (k5.trans hdf) k6
   rcases List.mem_append.1 hin with hA|hin2
   ·-- ahead of both
    obtain⟨A1,A2,rfl⟩:=List.append_of_mem hA
    have hnc:=nocall (by simp)
    have e1:(A1++i::A2)++p::(B++q::D)=A1++i::(A2++p::(B++q::D)):=by simp
    have e2:(A1++i::A2)++q::p::(B++D)=A1++i::(A2++q::p::(B++D)):=by simp
    have e3:(A1++A2)++p::(B++q::D)=A1++(A2++p::(B++q::D)):=by simp
    have e4:(A1++A2)++q::p::(B++D)=A1++(A2++q::p::(B++D)):=by simp
    rw [e1]at h hL hpw hlen
    rw [e2]at h'
    have hx:∀x ∈ A1,free2 C ops need x i=true:=fun x hx=>hlt x (by simp [hx]) ((List.pairwise_append.1 hpw).2.2 x hx i (by simp)) (fun e=>by
     have:=hp1.2.2 i (by simp) p (by simp);omega)
    have b1:=z4n (C:=C) (K:=K) A1 hx H J O h
    have b2:=z4n (C:=C) (K:=K) A1 hx H J O h'
    simp only [z2r,ho]at b1 b2
    refine z79 ho hdst' hR hE (zh6 hnc b1 b2) fun H' J' O' Z' a' w' hK hst hR' hE' hdf hsz=> ?_
    refine ih (listed.setIfInBounds i true) (A1++A2) B D (by simpa using hls) (by rw [e3];exact z7u hsizei hL (z2t hpw)) (by rw [e3];exact z7z hpw) (z7n hsizei hdown hdeps) (by rw [e3];simp at hlen ⊢;omega)
     (fun x j hx hj=>by rw [e3]at hx hj;exact hok x j (by rw [e1];exact((z2t hpw x).1 hx).1) (by rw [e1];exact((z2t hpw j).1 hj).1)) hqB (fun y hy=>hcall y (by
      simp only [List.mem_append,List.mem_cons]at hy ⊢
      rcases hy with(hy|hy)|hy
      ·exact .inl (.inl hy)
      ·exact .inl (.inr (.inr hy))
      ·exact .inr hy)) H' J' O' Z' a' w' (by rw [e3];exact hK.1) (by rw [e4];exact hK.2) hR' hE' (hsz.trans hn) (fin hst hdf hsz)
   ·rcases List.mem_cons.1 hin2 with rfl|hin3
    ·-- the first one of the two: from here on the text's order
     have hx:∀x ∈ A,free2 C ops need x i=true:=fun x hx=>hlt x (by simp [hx]) (hp1.2.2 x hx i (by simp)) (fun e=>by omega)
     have b1:=z4n (C:=C) (K:=K) A hx H J O h
     simp only [z2r,ho]at b1
     refine z79 ho hdst' hR hE b1 fun H' J' O' Z' a' w' hK hst hR' hE' hdf hsz=> ?_
     refine zb9 hback hdst fuel (listed.setIfInBounds i true) (A++(B++q::D)) (by simpa using hls) (z7u hsizei hL (z2t hpw)) (z7z hpw) (z7n hsizei hdown hdeps) (by simp at hlen ⊢;omega)
      (fun x j hx hj hxj=>(hok x j ((z2t hpw x).1 hx).1 ((z2t hpw j).1 hj).1 hxj).resolve_left (fun e=>((z2t hpw x).1 hx).2 e.1)) H' J' O' Z' a' w' hK hR' hE' (hsz.trans hn) (fin hst hdf hsz)
    ·rcases List.mem_append.1 hin3 with hB|hin4
     ·-- between the two
      obtain⟨B1,B2,rfl⟩:=List.append_of_mem hB
      have hnc:=nocall (by simp)
      have e1:A++p::((B1++i::B2)++q::D)=(A++p::B1)++i::(B2++q::D):=by simp
      have e2:A++q::p::((B1++i::B2)++D)=(A++q::p::B1)++i::(B2++D):=by simp
      have e3:A++p::((B1++B2)++q::D)=(A++p::B1)++(B2++q::D):=by simp
      have e4:A++q::p::((B1++B2)++D)=(A++q::p::B1)++(B2++D):=by simp
      have hiq:i<q:=hp3.2.2 i (by simp) q (by simp)
      rw [e1]at h hL hpw hlen
      rw [e2]at h'
      have hx:∀x ∈ A++p::B1,free2 C ops need x i=true:=fun x hx=>hlt x (by
       rw [e1];exact List.mem_append_left _ hx) ((List.pairwise_append.1 hpw).2.2 x hx i (by simp)) (fun e=>by omega)
      have hx':∀x ∈ A++q::p::B1,free2 C ops need x i=true:=fun x hx2=>by
       simp only [List.mem_append,List.mem_cons]at hx2
       rcases hx2 with h1|rfl|h1|h1
       ·exact hx x (by simp [h1])
       ·exact hqB i (by simp)
       ·exact hx x (by simp [h1])
       ·exact hx x (by simp [h1])
      have b1:=z4n (C:=C) (K:=K) (A++p::B1) hx H J O h
      have b2:=z4n (C:=C) (K:=K) (A++q::p::B1) hx' H J O h'
      simp only [z2r,ho]at b1 b2
      refine z79 ho hdst' hR hE (zh6 hnc b1 b2) fun H' J' O' Z' a' w' hK hst hR' hE' hdf hsz=> ?_
      refine ih (listed.setIfInBounds i true) A (B1++B2) D (by simpa using hls) (by rw [e3];exact z7u hsizei hL (z2t hpw)) (by rw [e3];exact z7z hpw) (z7n hsizei hdown hdeps) (by rw [e3];simp at hlen ⊢;omega)
       (fun x j hx hj=>by rw [e3]at hx hj;exact hok x j (by rw [e1];exact((z2t hpw x).1 hx).1) (by rw [e1];exact((z2t hpw j).1 hj).1)) (fun y hy=>hqB y (by
        simp only [List.mem_append,List.mem_cons]at hy ⊢
        rcases hy with hy|hy
        ·exact .inl hy
        ·exact .inr (.inr hy))) (fun y hy=>hcall y (by
        simp only [List.mem_append,List.mem_cons]at hy ⊢
        rcases hy with hy|(hy|hy)|hy
        ·exact .inl hy
        ·exact .inr (.inl (.inl hy))
        ·exact .inr (.inl (.inr (.inr hy)))
        ·exact .inr (.inr hy))) H' J' O' Z' a' w' (by rw [e3];exact hK.1) (by rw [e4];exact hK.2) hR' hE' (hsz.trans hn) (fin hst hdf hsz)
     ·rcases List.mem_cons.1 hin4 with rfl|hD
      ·-- the second one of the two: from here on the other order, which is the text's for what is left
       have e3:A++p::(B++i::D)=(A++p::B)++i::D:=by simp
       have e5:A++p::(B++D)=(A++p::B)++D:=by simp
       have hx:∀x ∈ A,free2 C ops need x i=true:=fun x hx=>hlt x (by simp [hx]) (hp1.2.2 x hx i (by simp)) (fun e=>by
        have:=hp1.2.2 x hx p (by simp);omega)
       have b1:=z4n (C:=C) (K:=K) A hx H J O h'
       simp only [z2r,ho]at b1
       rw [e3]at hL hpw hlen
       refine z79 ho hdst' hR hE b1 fun H' J' O' Z' a' w' hK hst hR' hE' hdf hsz=> ?_
       refine zb9 hback hdst fuel (listed.setIfInBounds i true) ((A++p::B)++D) (by simpa using hls) (z7u hsizei hL (z2t hpw)) (z7z hpw) (z7n hsizei hdown hdeps) (by simp at hlen ⊢;omega)
        (fun x j hx hj hxj=>(hok x j (by rw [e3];exact((z2t hpw x).1 hx).1) (by rw [e3];exact((z2t hpw j).1 hj).1) hxj).resolve_left (fun e=>((z2t hpw j).1 hj).2 e.2)) H' J' O' Z' a' w' (by rw [<-e5];exact hK) hR' hE' (hsz.trans hn) (fin hst hdf hsz)
      ·-- behind both
       obtain⟨D1,D2,rfl⟩:=List.append_of_mem hD
       have hnc:=nocall (by simp)
       have e1:A++p::(B++q::(D1++i::D2))=(A++p::(B++q::D1))++i::D2:=by simp
       have e2:A++q::p::(B++(D1++i::D2))=(A++q::p::(B++D1))++i::D2:=by simp
       have e3:A++p::(B++q::(D1++D2))=(A++p::(B++q::D1))++D2:=by simp
       have e4:A++q::p::(B++(D1++D2))=(A++q::p::(B++D1))++D2:=by simp
       have hqi:q<i:=hp4.1 i (by simp)
       rw [e1]at h hL hpw hlen
       rw [e2]at h'
       have hx:∀x ∈ A++p::(B++q::D1),free2 C ops need x i=true:=fun x hx=>hlt x (by
        rw [e1];exact List.mem_append_left _ hx) ((List.pairwise_append.1 hpw).2.2 x hx i (by simp)) (fun e=>by omega)
       have hx':∀x ∈ A++q::p::(B++D1),free2 C ops need x i=true:=fun x hx2=>hx x (by
        simp only [List.mem_append,List.mem_cons]at hx2 ⊢
        rcases hx2 with h1|h1|h1|h1|h1
        ·exact .inl h1
        ·exact .inr (.inr (.inr (.inl h1)))
        ·exact .inr (.inl h1)
        ·exact .inr (.inr (.inl h1))
        ·exact .inr (.inr (.inr (.inr h1))))
       have b1:=z4n (C:=C) (K:=K) (A++p::(B++q::D1)) hx H J O h
       have b2:=z4n (C:=C) (K:=K) (A++q::p::(B++D1)) hx' H J O h'
       simp only [z2r,ho]at b1 b2
       refine z79 ho hdst' hR hE (zh6 hnc b1 b2) fun H' J' O' Z' a' w' hK hst hR' hE' hdf hsz=> ?_
       refine ih (listed.setIfInBounds i true) A B (D1++D2) (by simpa using hls) (by rw [e3];exact z7u hsizei hL (z2t hpw)) (by rw [e3];exact z7z hpw) (z7n hsizei hdown hdeps) (by rw [e3];simp at hlen ⊢;omega)
        (fun x j hx hj=>by rw [e3]at hx hj;exact hok x j (by rw [e1];exact((z2t hpw x).1 hx).1) (by rw [e1];exact((z2t hpw j).1 hj).1)) hqB (fun y hy=>hcall y (by
         simp only [List.mem_append,List.mem_cons]at hy ⊢
         rcases hy with hy|hy|(hy|hy)
         ·exact .inl hy
         ·exact .inr (.inl hy)
         ·exact .inr (.inr (.inl hy))
         ·exact .inr (.inr (.inr (.inr hy))))) H' J' O' Z' a' w' (by rw [e3];exact hK.1) (by rw [e4];exact hK.2) hR' hE' (hsz.trans hn) (fin hst hdf hsz)
end
end Am
end Go.Proofs.YtcdcmgjnbjoajaaGreatDoor
