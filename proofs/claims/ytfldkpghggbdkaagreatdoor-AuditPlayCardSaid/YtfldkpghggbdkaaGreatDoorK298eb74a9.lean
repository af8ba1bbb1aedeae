import Derived.Test.YtfldkpghggbdkaaGreatDoorK1b1134eb3
import Derived.Deep.LoopGhost
import Derived.Scope
import Derived.OrdersIn
import Derived.RangeFuncFrom
import Derived.RangeFuncLeaves
import Derived.Test.YtfldkpghggbdkaaGreatDoorRows
import Derived.ProofKit
import Derived.OpenShut
import Derived.JoinedCond
import Derived.Carry
import Derived.LaidMore
import Derived.Stop.Joined
import Derived.KernelRfl
import Derived.RangeFuncBox
import Derived.Shelf.Abstract
import Derived.WalkKit
import Derived.OwnWalkIn
import Derived.TacticsInMore
import Derived.LoopNIn
import Derived.LoopIn
import Derived.Test.YtfldkpghggbdkaaGreatDoorProg
set_option linter.unusedSimpArgs false
set_option linter.unusedVariables false
open Nat (reduceEqDiff reduceAdd reduceMul reduceSub reduceLeDiff)
open Int (reduceToNat reducePow)
open Nat renaming reduceEqDiff -> nQ1, reduceBEq -> nQ2, reduceAdd -> nQ3, reduceMul -> nQ4, reduceSub -> nQ5, reduceLeDiff -> nQ6
open Int renaming reduceToNat -> nQ7, reducePow -> nQ8
open List renaming length_reverse -> lQr, length_map -> lQm, length_take -> lQt, length_drop -> lQd, length_set -> lQs
set_option maxHeartbeats 16000000
attribute [local go_sem_proc] Nat.reduceEqDiff Nat.reduceBEq Nat.reduceAdd Nat.reduceMul Nat.reduceSub Nat.reduceLeDiff Int.reduceToNat Int.reducePow
namespace Go.Proofs.YtfldkpghggbdkaaGreatDoor
namespace Am
section
inductive AX where
 |t (n:Nat)
 |v (a:AV)
 deriving Inhabited
def AX.ev(ρ:Env):AX->AV
 | .t n=>ρ n
 | .v a=>a
inductive BK where
 |none
 |bool
 |ptr
 |slc
 |fn
 |agg (l:List LK)
inductive CK where
 |int (k:IntKind)
 |strId
 |bytes
 |str
inductive SK where
 |str
 |sl (sz:Nat)
 |arr (n sz:Nat)
inductive AOp where
 |mv (x:AX)
 |pick (c a b:AX)
 |alloc (z:List AV)
 |allB
 |box (x:AX)
 |build (z:List AV) (ps:List (Nat × Nat × AX))
 |lit (sz:Nat) (xs:List AX)
 |load (ag:Bool) (n:Nat) (x:AX)
 |store (n:Nat) (a x:AX)
 |nilc (x:AX)
 |bin (op:BinOp) (bk:BK) (x y:AX)
 |un (op:UnOp) (x:AX)
 |conv (c:CK) (x:AX)
 |mkfn (f:FuncId) (caps:List AX)
 |make (sz:Nat) (z:List AV) (l c:AX)
 |slice (k:SK) (x:AX) (lo hi mx:Option AX)
 |fa (k:Nat) (x:AX)
 |fld (ag:Bool) (n off:Nat) (x:AX)
 |iaArr (n sz:Nat) (x i:AX)
 |iaSl (sz:Nat) (x i:AX)
 |ixArr (n:Nat) (ag:Bool) (sz:Nat) (x i:AX)
 |ixStr (x i:AX)
 |ext (i:Nat) (x:AX)
 |lenStr (x:AX)
 |lenSl (x:AX)
 |lenArr (n:Nat)
 |app (sz:Nat) (s x:AX)
 |appB (s x:AX)
 |copy (sz:Nat) (d s:AX)
 |clear (z:List AV) (x:AX)
 |minmax (mx:Bool) (x y:AX)
 |call (f:AX) (xs:List AX)
 |stuck
def z30(ag:Bool)(n:Nat)(J:Store):AV->Option AV
 | .ptr r i off=>match J[r]? with|some (some o)=>(o[i]?).bind fun cs=>z3c cs off n ag| _=>none
 | .vp cs=>z3c cs 0 n ag
 | _=>none
def z41(n:Nat)(J:Store)(p v:AV):Option Store:=
  (cellsOf v).bind fun vs=>if vs.length=n then
    (match p with
     | .ptr r i off=>match J[r]? with|some (some o)=>(o[i]?).bind fun cs=>if off+vs.length<=cs.length then some (J.set r (some (o.set i (z1d cs off vs))))else none| _=>none
     | _=>none)else none
def z19(cells:List AV):List (Nat × Nat × AV)->Option (List AV)
 | []=>some cells
 |p::rest=>(cellsOf p.2.2).bind fun vs=>if vs.length=p.2.1/\ p.1+p.2.1<=cells.length then z19 (z1d cells p.1 vs) rest else none
def z3e(sz:Nat):List AV->Option (List (List AV))
 | []=>some []
 |v::l=>(cellsOf v).bind fun vs=>if vs.length=sz then(z3e sz l).map (vs:: ·)else none
def z40(sz:Nat)(z:List AV)(J:Store)(l c:AV):Option (AV × Store):=
 match l,c with
 | .int _ n,.int _ m=>if 0<=n/\ n<=m/\ m<=4294967296 then some (.sl J.length 0 n.toNat (some m.toNat) sz,J++ [some (List.replicate m.toNat z)])else none
 | _,_=>none
def z3f(k:SK)(J:Store)(x:AV)(lo hi mx:Option AV):Option AV:=
 match k,x with
 | .str,.str s=>za7 s lo hi mx
 | .sl _,.nilsl=>(bnd hi 0).bind fun h=>(bnd lo 0).bind fun l=>(bnd mx 0).bind fun m=>if h=0/\ l=0/\ m=0/\ (mx.isSome=true->hi.isSome=true)then some .nilsl else none
 | .sl sz,.vsl esz es ex=>if sz=esz then za8 esz es ex lo hi mx else none
 | .sl sz,.sl r off len lim esz=>if sz=esz then za6 0 r off len lim esz lo hi mx else none
 | .sl sz,.asl r i off len cap esz=>if sz=esz then z6s r i off len cap esz lo hi mx else none
 | .arr n sz,.ptr r i off=>z6s r i off n n sz lo hi mx
 | _,_=>none
def rFa(k:Nat):AV->Option AV
 | .ptr r i off=>some (.ptr r i (off+k))
 | .vp cs=>if k<=cs.length then some (.vp (cs.drop k))else none
 | _=>none
def rFld(ag:Bool)(n off:Nat):AV->Option AV
 | .agg cs=>z3c cs off n ag
 | _=>none
def z3y(n:Nat)(ag:Bool)(sz:Nat)(x ix:AV):Option AV:=
 match x,ix with
 | .agg cs,.int _ i=>if 0<=i/\ i<(n:Int)then z3c cs (i.toNat*sz) sz ag else none
 | _,_=>none
def z3z(x ix:AV):Option AV:=
 match x,ix with
 | .str s,.int _ i=>if 0<=i then(s[i.toNat]?).map fun b=> .int .u8 b.toNat else none
 | _,_=>none
def z1h:AV->Option AV
 | .nilsl=>some (.int .i64 0)
 | .vsl _ es _=>some (.int .i64 es.length)
 | .sl _ _ len _ _=>some (.int .i64 len)
 | .asl _ _ _ len _ _=>some (.int .i64 len)
 | _=>none
def rEq(bk:BK)(x y:AV):Option Bool:=
 match x,y with
 | .bool a,.bool b=>match bk with| .bool=>some (a==b)| _=>none
 | .nilp,.nilp=>match bk with| .ptr=>some true| _=>none
 | .ptr _ _ _,.nilp=>match bk with| .ptr=>some false| _=>none
 | .vp _,.nilp=>match bk with| .ptr=>some false| _=>none
 | .nilp,.ptr _ _ _=>match bk with| .ptr=>some false| _=>none
 | .nilp,.vp _=>match bk with| .ptr=>some false| _=>none
 | .nilsl,.nilsl=>match bk with| .slc=>some true| _=>none
 | .vsl _ _ _,.nilsl=>match bk with| .slc=>some false| _=>none
 | .sl _ _ _ _ _,.nilsl=>match bk with| .slc=>some false| _=>none
 | .asl _ _ _ _ _ _,.nilsl=>match bk with| .slc=>some false| _=>none
 | .nilfn,.nilfn=>match bk with| .fn=>some true| _=>none
 | .fn _ _,.nilfn=>match bk with| .fn=>some false| _=>none
 | .agg xs,.agg ys=>match bk with| .agg l=>if xs.map z1e=l.map some/\ ys.map z1e=l.map some then some (z23 xs ys)else none| _=>none
 | _,_=>none
def rBin(op:BinOp)(bk:BK)(x y:AV):Option AV:=
 match x,y with
 | .int k a,.int k' b=>match op with
  | .shl=>z1m .shl k a b
  | .shr=>z1m .shr k a b
  |op=>if k=k' then z16 op k a b else none
 | .str a,.str b=>z3b op a b
 |x,y=>(rEq bk x y).bind (eqOp op)
def z38(c:CK)(J:Store)(x:AV):Option (AV × Store):=
 match c,x with
 | .int k,.int _ n=>some (.int k (k.wrap n),J)
 | .strId,.str s=>some (.str s,J)
 | .bytes,.str s=>some (.sl J.length 0 s.length none 1,J++ [some (zn s)])
 | .str,.int _ _=>none
 | .str,.str _=>none
 | .str,x=>(z2h J x).bind fun es=>(z2z es).map fun s=>(.str s,J)
 | _,_=>none
def rCopy(sz:Nat)(J:Store)(d s:AV):Option (AV × Store):=
 (z6l J sz s).bind fun ys=>
  match d with
  | .nilsl=>some (.int .i64 0,J)
  | .sl r off len _ esz=>match J[r]? with
   |some (some o)=>if esz=sz/\ off+len<=o.length then some (.int .i64 (min ys.length len:Nat),J.set r (some (o.take off++ys.take len++o.drop (off+min ys.length len))))else none
   | _=>none
  | .asl r i off len _ esz=>match J[r]? with
   |some (some o)=>(o[i]?).bind fun cs=>if esz=sz/\ off+len*esz<=cs.length then some (.int .i64 (min ys.length len:Nat),J.set r (some (o.set i (z1d cs off (ys.take len).flatten))))else none
   | _=>none
  | _=>none
def zdl(z:List AV)(J:Store):AV->Option (AV × Store)
 | .nilsl=>some (.tup [],J)
 | .sl r off len _ esz=>if len=0 then some (.tup [],J)else match J[r]? with
  |some (some o)=>if z.length=esz/\ off+len<=o.length then some (.tup [],J.set r (some (o.take off++List.replicate len z++o.drop (off+len))))else none
  | _=>none
 | _=>none
def AOp.run(ρ:Env)(J:Store):AOp->Option (AV × Store)
 | .mv x=>some (x.ev ρ,J)
 | .pick c a b=>match c.ev ρ with| .bool t=>some (if t then a.ev ρ else b.ev ρ,J)| _=>none
 | .alloc z=>some (.ptr J.length 0 0,J++ [some [z]])
 | .allB=>some (aBld J)
 | .box x=>aBox J (x.ev ρ)
 | .build z ps=>(z19 z (ps.map fun p=>(p.1,p.2.1,p.2.2.ev ρ))).map fun c=>(.agg c,J)
 | .lit sz xs=>(z3e sz (xs.map (AX.ev ρ))).map fun es=>(.vsl sz es true,J)
 | .load ag n x=>(z30 ag n J (x.ev ρ)).map fun v=>(v,J)
 | .store n a x=>(z41 n J (a.ev ρ) (x.ev ρ)).map fun J'=>(.undef,J')
 | .nilc x=>match x.ev ρ with
  | .ptr r i off=>some (.ptr r i off,J)
  | .vp cs=>some (.vp cs,J)
  | .fn f caps=>some (.fn f caps,J)
  | _=>none
 | .bin op bk x y=>(rBin op bk (x.ev ρ) (y.ev ρ)).map fun v=>(v,J)
 | .un op x=>(aUn op (x.ev ρ)).map fun v=>(v,J)
 | .conv c x=>z38 c J (x.ev ρ)
 | .mkfn f caps=>some (.fn f (caps.map (AX.ev ρ)),J)
 | .make sz z l c=>z40 sz z J (l.ev ρ) (c.ev ρ)
 | .slice k x lo hi mx=>(z3f k J (x.ev ρ) (lo.map (AX.ev ρ)) (hi.map (AX.ev ρ)) (mx.map (AX.ev ρ))).map fun v=>(v,J)
 | .fa k x=>(rFa k (x.ev ρ)).map fun v=>(v,J)
 | .fld ag n off x=>(rFld ag n off (x.ev ρ)).map fun v=>(v,J)
 | .iaArr n sz x i=>(match i.ev ρ with| .int _ k=>za3 n sz k (x.ev ρ)| _=>none).map fun v=>(v,J)
 | .iaSl sz x i=>(match i.ev ρ with| .int _ k=>za4 sz k (x.ev ρ)| _=>none).map fun v=>(v,J)
 | .ixArr n ag sz x i=>(z3y n ag sz (x.ev ρ) (i.ev ρ)).map fun v=>(v,J)
 | .ixStr x i=>(z3z (x.ev ρ) (i.ev ρ)).map fun v=>(v,J)
 | .ext i x=>match x.ev ρ with| .tup vs=>(vs[i]?).map fun v=>(v,J)| _=>none
 | .lenStr x=>match x.ev ρ with| .str s=>some (.int .i64 s.length,J)| _=>none
 | .lenSl x=>(z1h (x.ev ρ)).map fun v=>(v,J)
 | .lenArr n=>some (.int .i64 n,J)
 | .app sz s x=>(z6l J sz (x.ev ρ)).bind fun ys=>aApp J sz (s.ev ρ) ys
 | .appB s x=>(z6l J 1 (x.ev ρ)).bind fun ys=>z45 J (s.ev ρ) ys
 | .copy sz d s=>rCopy sz J (d.ev ρ) (s.ev ρ)
 | .clear z x=>zdl z J (x.ev ρ)
 | .minmax mx x y=>(aMin mx (x.ev ρ) (y.ev ρ)).map fun v=>(v,J)
 | .call _ _=>none
 | .stuck=>none
structure AIns where
 dst:Option Nat
 guard:Option (Nat × Bool)
 need:Nd
 op:AOp
inductive ACode where
 |skip
 |reg (ops:List AIns)
 |reg2 (a b:List AIns)
 |seq (a b:ACode)
 |cond (c:AX) (a b:ACode)
 |block (id:Nat) (a:ACode)
 |loop (a:ACode)
 |exit (id:Nat)
 |ret
 |scope (a:ACode)
 |rangef (g:AX) (ps:List Nat) (a b:ACode)
 |stuck
inductive AExit where
 |normal
 |exit (id:Nat)
 |ret
def z1p(ρ:Env):Option (Nat × Bool)->Option Bool
 |none=>some true
 |some g=>match ρ g.1 with| .bool b=>some (b==g.2)| .undef=>some false| _=>none
/-! From a Go function's code. -/
def cX(C:Ctx):Operand->Option AX
 | .tmp t=>some (.t t)
 | .const v=>some (.v (ofV v))
 | .global g=>(C.gl g).map fun cs=> .v (.vp cs)
 | .func f=>some (.v (.fn f []))
def cXo(C:Ctx):Option Operand->Option (Option AX)
 |none=>some none
 |some x=>(cX C x).map some
theorem z1i{C:Ctx}{x:Operand}{a:AX}(h:cX C x=some a)(ρ:Env):a.ev ρ=ev C ρ x:=by
 cases x<;>simp only [cX,Option.some.injEq,Option.map_eq_some_iff]at h
 ·subst h;rfl
 ·subst h;rfl
 ·obtain⟨cs,h1,rfl⟩:=h;simp [AX.ev,ev,h1]
 ·subst h;rfl
theorem z4m{C:Ctx}{x:Option Operand}{a:Option AX}(h:cXo C x=some a)(ρ:Env):a.map (AX.ev ρ)=x.map (ev C ρ):=by
 cases x with
 |none=>simp only [cXo,Option.some.injEq]at h;subst h;rfl
 |some x=>
  simp only [cXo,Option.map_eq_some_iff]at h
  obtain⟨a,h1,rfl⟩:=h
  simp [z1i h1]
def cXs(C:Ctx):List Operand->Option (List AX)
 | []=>some []
 |x::l=>(cX C x).bind fun a=>(cXs C l).map (a:: ·)
theorem z7n{C:Ctx}{l:List Operand}{as_:List AX}(h:cXs C l=some as_)(ρ:Env):as_.map (AX.ev ρ)=l.map (ev C ρ):=by
 induction l generalizing as_ with
 |nil=>simp only [cXs,Option.some.injEq]at h;subst h;rfl
 |cons x l ih=>
  simp only [cXs,Option.bind_eq_some_iff,Option.map_eq_some_iff]at h
  obtain⟨a,h1,as',h2,rfl⟩:=h
  simp [z1i h1,ih h2]
def z7m(C:Ctx)(place:Nat->Option (Nat × Nat)):List (Nat × Operand)->Option (List (Nat × Nat × AX))
 | []=>some []
 |p::l=>(place p.1).bind fun x=>(cX C p.2).bind fun a=>(z7m C place l).map ((x.1,x.2,a):: ·)
theorem zc8{C:Ctx}{place:Nat->Option (Nat × Nat)}(ρ:Env):∀{l:List (Nat × Operand)} {ps:List (Nat × Nat × AX)} (cells:List AV),z7m C place l=some ps->
  z68 place cells (l.map fun p=>(p.1,ev C ρ p.2))=z19 cells (ps.map fun p=>(p.1,p.2.1,p.2.2.ev ρ))
 | [],ps,cells,h=>by simp only [z7m,Option.some.injEq]at h;subst h;rfl
 |p::l,ps,cells,h=>by
  simp only [z7m,Option.bind_eq_some_iff,Option.map_eq_some_iff]at h
  obtain⟨x,hx,a,ha,ps',hps,rfl⟩:=h
  simp only [List.map_cons,z68,hx,Option.bind_some,z19,z1i ha ρ]
  cases cellsOf (ev C ρ p.2)with
  |none=>rfl
  |some vs=>
   simp only [Option.bind_some]
   rw [zc8 ρ (z1d cells x.1 vs) hps]
def z8l(C:Ctx):List (Nat × Operand)->Nat->Option (List AX)
 | [],_=>some []
 |p::l,k=>if p.1=k then(cX C p.2).bind fun a=>(z8l C l (k+1)).map (a:: ·)else none
theorem zfy{C:Ctx}{sz:Nat}(ρ:Env):∀{l:List (Nat × Operand)} {k:Nat} {as_:List AX},z8l C l k=some as_->z6r sz (l.map fun p=>(p.1,ev C ρ p.2)) k=z3e sz (as_.map (AX.ev ρ))
 | [],k,as_,h=>by simp only [z8l,Option.some.injEq]at h;subst h;rfl
 |p::l,k,as_,h=>by
  simp only [z8l]at h
  split at h
  ·rename_i hk
   simp only [Option.bind_eq_some_iff,Option.map_eq_some_iff]at h
   obtain⟨a,ha,as',has,rfl⟩:=h
   simp only [List.map_cons,z6r,hk,if_true,z3e,z1i ha ρ,zfy ρ has]
  ·cases h
def cBK(C:Ctx)(t:TypeId):BK:=
 if zbn C t then .bool else if z61 C t then .ptr else if (tySl C t).isSome then .slc else if z83 C t then .fn else
  if z29 C t=some true then(match z9s C t with|some l=> .agg l|none=> .none)else .none
theorem zlk{C:Ctx}{t:TypeId}:(cBK C t= .bool->zbn C t=true)/\ (cBK C t= .ptr->z61 C t=true)/\ (cBK C t= .slc->∃e,tySl C t=some e)/\ (cBK C t= .fn->z83 C t=true) ∧
  (∀l,cBK C t= .agg l->z9s C t=some l/\ z29 C t=some true):=by
 unfold cBK
 split
 ·exact⟨fun _=>by assumption,by simp,by simp,by simp,by simp⟩
 ·split
  ·exact⟨by simp,fun _=>by assumption,by simp,by simp,by simp⟩
  ·split
   ·rename_i h;exact⟨by simp,by simp,fun _=>Option.isSome_iff_exists.1 h,by simp,by simp⟩
   ·split
    ·exact⟨by simp,by simp,by simp,fun _=>by assumption,by simp⟩
    ·split
     ·rename_i hag
      split
      ·rename_i l hl
       exact⟨by simp,by simp,by simp,by simp,fun l' h'=>by cases h';exact⟨hl,hag⟩⟩
      ·exact⟨by simp,by simp,by simp,by simp,by simp⟩
     ·exact⟨by simp,by simp,by simp,by simp,by simp⟩
theorem cBK_ok{C:Ctx}{t:TypeId}{x y:AV}{b:Bool}(h:rEq (cBK C t) x y=some b):aEq C t x y=some b:=by
 obtain⟨s1,s2,s3,s4,s5⟩:=zlk (C:=C) (t:=t)
 generalize cBK C t=bk at*
 have hsl:bk= .slc->∀c:Bool,((tySl C t).map fun _=>c)=some c:=fun e c=>by obtain⟨e',h'⟩:=s3 e;rw [h'];rfl
 unfold rEq at h
 split at h<;>simp only [aEq]<;>(try (cases bk<;>simp only [reduceCtorEq]at h))
 case h_1=>rw [if_pos (s1 rfl)];exact h
 case h_2=>rw [if_pos (s2 rfl)];exact h
 case h_3=>rw [if_pos (s2 rfl)];exact h
 case h_4=>rw [if_pos (s2 rfl)];exact h
 case h_5=>rw [if_pos (s2 rfl)];exact h
 case h_6=>rw [if_pos (s2 rfl)];exact h
 case h_7=>simp only [Option.some.injEq]at h;subst h;exact hsl rfl _
 case h_8=>simp only [Option.some.injEq]at h;subst h;exact hsl rfl _
 case h_9=>simp only [Option.some.injEq]at h;subst h;exact hsl rfl _
 case h_10=>simp only [Option.some.injEq]at h;subst h;exact hsl rfl _
 case h_11=>rw [if_pos (s4 rfl)];exact h
 case h_12=>rw [if_pos (s4 rfl)];exact h
 case h_13=>
  rename_i l
  obtain⟨k1,k2⟩:=s5 l rfl
  rw [k1]
  simp only [Option.bind_some]
  split at h
  ·rename_i hc
   rw [if_pos ⟨hc.1,hc.2,k2⟩];exact h
  ·cases h
def cOp(C:Ctx):Op->Option AOp
  | .move x=>(cX C x).map .mv
  | .assign x=>(cX C x).map .mv
  | .pick c a b=>(cX C c).bind fun c=>(cX C a).bind fun a=>(cX C b).map fun b=> .pick c a b
  | .alloc t=>(z33 C t).bind fun z=>if t=bldT then(if zcv z=true then some .allB else none)else(cellsOf z).map .alloc
  | .box _ x=>(cX C x).map .box
  | .build t ps=>(z33 C t).bind fun z=>(cellsOf z).bind fun zc=>match zeh C t with
    |some pl=>(z7m C (pl[·]?) ps.toList).map (.build zc)
    |none=>(z42 C t).bind fun ne=>(z1f C ne.2).bind fun n=>(z7m C (fun i=>some (i*n,n)) ps.toList).map (.build zc)
  | .buildSlice t n ps=>(tySl C t).bind fun e=>(z1f C e).bind fun sz=>(z33 C e).bind fun _=>if ps.toList.length=n/\ n*sz<=16777216 then(z8l C ps.toList 0).map (.lit sz)else none
  | .load t x=>(z29 C t).bind fun ag=>(z1f C t).bind fun n=>(cX C x).map (.load ag n)
  | .store t a x=>(z1f C t).bind fun n=>(cX C a).bind fun a=>(cX C x).map (.store n a)
  | .nilCheck x=>(cX C x).map .nilc
  | .binOp op t x y _=>(cX C x).bind fun x=>(cX C y).map fun y=> .bin op (cBK C t) x y
  | .unOp op _ x=>(cX C x).map (.un op)
  | .convert s d x => (cX C x).bind fun x =>
      match z6p C s,z6p C d with
      |some _,some k=>some (.conv (.int k) x)
      | _, _ => if tyStr C d = true then (if z6q C s = true then some (.conv .str x) else if tyStr C s = true then some (.conv .strId x) else none)
          else if z6q C d=true/\ tyStr C s=true then some (.conv .bytes x)else none
  | .makeFunc (.func f) first captured=>if first.size=0 then(cXs C captured.toList).map (.mkfn f)else none
  | .makeSlice t l c => (tySl C t).bind fun e => (z1f C e).bind fun sz => (z6o C e).bind fun by_ => (z33 C e).bind fun z => (cellsOf z).bind fun zc => (cX C l).bind fun l => (cX C c).bind fun c =>
      if by_<=16384/\ zc.length=sz then some (.make sz zc l c)else none
  | .slice t x lo hi mx => (cX C x).bind fun x => (cXo C lo).bind fun lo => (cXo C hi).bind fun hi => (cXo C mx).bind fun mx =>
      if tyStr C t=true then some (.slice .str x lo hi mx)else match z42 C t with
        |some ne=>(z1f C ne.2).map fun sz=> .slice (.arr ne.1 sz) x lo hi mx
        |none=>(tySl C t).bind fun e=>(z1f C e).map fun sz=> .slice (.sl sz) x lo hi mx
  | .fieldAddr s x f=>(z9r C s f).bind fun k=>(cX C x).map (.fa k)
  | .field s x f=>(zet C s f).bind fun y=>(z29 C y.1).bind fun ag=>(z1f C y.1).bind fun n=>(cX C x).map (.fld ag n y.2)
  | .indexAddr t x i=>(cX C x).bind fun x=>(cX C i).bind fun i=>match z42 C t with
    |some ne=>(z1f C ne.2).map fun sz=> .iaArr ne.1 sz x i
    |none=>(tySl C t).bind fun e=>(z1f C e).map fun sz=> .iaSl sz x i
  | .index t x i => (cX C x).bind fun x => (cX C i).bind fun i => if tyStr C t = true then some (.ixStr x i) else
      (z42 C t).bind fun ne=>(z29 C ne.2).bind fun ag=>(z1f C ne.2).map fun sz=> .ixArr ne.1 ag sz x i
  | .extract x i=>(cX C x).map (.ext i)
  | .call c=>match c.callee with
    | .value f=>(cX C f).bind fun f=>(cXs C c.args.toList).map (.call f)
    | .builtin b=>(cXs C c.args.toList).bind fun xs=>
      match b,c.argTypes.toList,xs with
      | .len,[t],[x]=>if tyStr C t=true then some (.lenStr x)else if (tySl C t).isSome=true then some (.lenSl x)else none
      | .append, [t, t'], [s, x] => (tySl C t).bind fun e => (z1f C e).bind fun sz => (z6o C e).bind fun by_ => (z33 C e).bind fun z => (cellsOf z).bind fun zc =>
          if by_<=8192/\ zc.length=sz/\ ((tySl C t').isSome ||tyStr C t')=true then some (if e=u8T/\ sz=1 then .appB s x else .app sz s x)else none
      | .copy,[t,_],[d,s]=>(tySl C t).bind fun e=>(z1f C e).map fun sz=> .copy sz d s
      | .clear,[t],[x]=>(tySl C t).bind fun e=>(z33 C e).bind fun z=>(cellsOf z).map fun zc=> .clear zc x
      | .min,_,[x,y]=>some (.minmax false x y)
      | .max,_,[x,y]=>some (.minmax true x y)
      | _,_,_=>none
    | _=>none
  | _=>none
end
section
theorem zls{C:Ctx}{op:Op}{a:AOp}(h:cOp C op=some a){ρ:Env}{J:Store}{r:AV × Store}(hr:a.run ρ J=some r):z22 op=none/\ z1q C (ev C ρ) J op=some r:=by
 cases op<;>simp only [cOp,reduceCtorEq,Option.map_eq_some_iff,Option.bind_eq_some_iff]at h
 case move x=>obtain⟨a,ha,rfl⟩:=h;exact⟨rfl,by rw [<-hr];simp only [AOp.run,z1q,z1i ha]⟩
 case assign x=>obtain⟨a,ha,rfl⟩:=h;exact⟨rfl,by rw [<-hr];simp only [AOp.run,z1q,z1i ha]⟩
 case pick c x y=>
  obtain⟨c',hc,x',hx,y',hy,rfl⟩:=h
  refine⟨rfl,?_⟩
  rw [<-hr]
  simp only [AOp.run,z1q,z1i hc,z1i hx,z1i hy]
  rfl
 case alloc t=>
  obtain⟨z,hz,h⟩:=h
  refine⟨rfl,?_⟩
  split at h
  ·rename_i ht
   split at h
   ·rename_i hn
    simp only [Option.some.injEq]at h;subst h
    rw [<-hr]
    simp only [AOp.run,z1q,z88,hz,Option.bind_some,if_pos ht,if_pos hn]
   ·cases h
  ·rename_i ht
   simp only [Option.map_eq_some_iff]at h
   obtain⟨zc,hzc,rfl⟩:=h
   rw [<-hr]
   simp only [AOp.run,z1q,z88,hz,Option.bind_some,if_neg ht,aBox,hzc,Option.map_some]
 case box t x=>obtain⟨a,ha,rfl⟩:=h;exact⟨rfl,by rw [<-hr];simp only [AOp.run,z1q,z1i ha]⟩
 case build t ps=>
  obtain⟨z,hz,zc,hzc,h⟩:=h
  refine⟨rfl,?_⟩
  split at h
  ·rename_i pl hpl
   simp only [Option.map_eq_some_iff]at h
   obtain⟨q,hq,rfl⟩:=h
   rw [<-hr]
   simp only [AOp.run,z1q,z8a,hz,Option.bind_some,hzc,hpl,zc8 ρ zc hq,Option.map_map]
   rfl
  ·rename_i hpl
   simp only [Option.bind_eq_some_iff,Option.map_eq_some_iff]at h
   obtain⟨ne,hne,n,hn,q,hq,rfl⟩:=h
   rw [<-hr]
   simp only [AOp.run,z1q,z8a,hz,Option.bind_some,hzc,hpl,hne,hn,zc8 ρ zc hq,Option.map_map]
   rfl
 case buildSlice t n ps=>
  obtain⟨e,he,sz,hsz,z,hz,h⟩:=h
  refine⟨rfl,?_⟩
  split at h
  ·rename_i hc
   simp only [Option.map_eq_some_iff]at h
   obtain⟨q,hq,rfl⟩:=h
   rw [<-hr]
   have hc':(ps.toList.map fun p=>(p.1,ev C ρ p.2)).length=n/\ n*sz<=16777216:=by rw [List.length_map];exact hc
   simp only [AOp.run,z1q,z9y,he,hsz,hz,Option.bind_some,if_pos hc',zfy ρ hq,Option.map_map]
   rfl
  ·cases h
 case load t x=>
  obtain⟨ag,hag,n,hn,a,ha,rfl⟩:=h
  refine⟨rfl,?_⟩
  rw [<-hr]
  simp only [AOp.run,z1q,z1i ha]
  congr 1
  generalize ev C ρ x=p
  cases p<;>simp only [z7e,z30,hag,hn,Option.bind_some]
  rfl
 case store t p x=>
  obtain⟨n,hn,p',hp,x',hx,rfl⟩:=h
  refine⟨rfl,?_⟩
  rw [<-hr]
  simp only [AOp.run,z1q,z1i hp,z1i hx,za9,z41,hn,Option.bind_some]
  rfl
 case nilCheck x=>obtain⟨a,ha,rfl⟩:=h;exact⟨rfl,by rw [<-hr];simp only [AOp.run,z1q,z1i ha];rfl⟩
 case binOp bop t x y yt=>
  obtain⟨x',hx,y',hy,rfl⟩:=h
  refine⟨rfl,?_⟩
  simp only [AOp.run,Option.map_eq_some_iff]at hr
  obtain⟨v,hv,rfl⟩:=hr
  simp only [z1q,Option.map_eq_some_iff]
  refine⟨v,?_,rfl⟩
  rw [z1i hx,z1i hy]at hv
  generalize ev C ρ x=p at*
  generalize ev C ρ y=q at*
  have hq:∀{p q:AV},(rEq (cBK C t) p q).bind (eqOp bop)=some v->(aEq C t p q).bind (eqOp bop)=some v:=by
   intro p q h
   simp only [Option.bind_eq_some_iff]at h ⊢
   obtain⟨b,hb,h⟩:=h
   exact⟨b,cBK_ok hb,h⟩
  cases p<;>first|exact hq hv|(cases q<;>first|exact hq hv|(cases bop<;>exact hv)|exact hv)
 case unOp uop t x=>obtain⟨a,ha,rfl⟩:=h;exact⟨rfl,by rw [<-hr];simp only [AOp.run,z1q,z1i ha]⟩
 case convert s d x=>
  obtain⟨x',hx,h⟩:=h
  refine⟨rfl,?_⟩
  simp only [z1q]
  split at h
  ·rename_i k0 k h1 h2
   simp only [Option.some.injEq]at h;subst h
   simp only [AOp.run,z1i hx]at hr
   generalize ev C ρ x=p at*
   cases p<;>simp only [z38,reduceCtorEq]at hr
   simp only [z67,h1,h2,Option.bind_some,Option.map_some];exact hr
  ·split at h
   ·rename_i hst
    split at h
    ·rename_i hu
     simp only [Option.some.injEq]at h;subst h
     simp only [AOp.run,z1i hx]at hr
     generalize ev C ρ x=p at*
     unfold z38 at hr
     unfold z67
     cases p<;>simp only [reduceCtorEq]at hr ⊢ <;>(simp only [hst,hu,and_self,if_true];exact hr)
    ·split at h
     ·rename_i hs
      simp only [Option.some.injEq]at h;subst h
      simp only [AOp.run,z1i hx]at hr
      generalize ev C ρ x=p at*
      cases p<;>simp only [z38,reduceCtorEq]at hr
      simp only [z67,hst,z62 hs,Option.isSome_some,and_self,if_true];exact hr
     ·cases h
   ·rename_i hst
    split at h
    ·rename_i hc
     simp only [Option.some.injEq]at h;subst h
     simp only [AOp.run,z1i hx]at hr
     generalize ev C ρ x=p at*
     cases p<;>simp only [z38,reduceCtorEq]at hr
     simp only [z67,hst,hc.1,z62 hc.2,Option.isSome_some,and_true,Bool.false_eq_true,if_false,if_true];exact hr
    ·cases h
 case makeFunc fn first captured=>
  cases fn<;>simp only [reduceCtorEq]at h
  split at h
  ·rename_i hz
   simp only [Option.map_eq_some_iff]at h
   obtain⟨q,hq,rfl⟩:=h
   refine⟨rfl,?_⟩
   rw [<-hr]
   simp only [AOp.run,z1q,hz,if_true,z7n hq]
  ·cases h
 case makeSlice t l c=>
  obtain⟨e,he,sz,hsz,by_,hby,z,hz,zc,hzc,l',hl,c',hc,h⟩:=h
  refine⟨rfl,?_⟩
  split at h
  ·rename_i hcond
   simp only [Option.some.injEq]at h;subst h
   simp only [AOp.run,z1i hl,z1i hc]at hr
   simp only [z1q]
   generalize ev C ρ l=p at*
   generalize ev C ρ c=q at*
   cases p<;>simp only [z40,reduceCtorEq]at hr
   cases q<;>simp only [reduceCtorEq]at hr
   split at hr
   ·rename_i hx
    simp only [za5,he,hsz,hby,hz,hzc,Option.bind_some]
    rw [if_pos ⟨hx.1,hx.2.1,hx.2.2,hcond.1,hcond.2⟩];exact hr
   ·cases hr
  ·cases h
 case slice t x lo hi mx=>
  obtain⟨x',hx,lo',hlo,hi',hhi,mx',hmx,h⟩:=h
  refine⟨rfl,?_⟩
  simp only [z1q]
  split at h
  ·rename_i hst
   simp only [Option.some.injEq]at h;subst h
   simp only [AOp.run,z1i hx,z4m hlo,z4m hhi,z4m hmx,Option.map_eq_some_iff]at hr
   obtain⟨v,hv,rfl⟩:=hr
   generalize ev C ρ x=p at*
   cases p<;>simp only [z3f,reduceCtorEq]at hv
   simp only [z7f,hst,if_true,hv,Option.map_some]
  ·split at h
   ·rename_i ne hne
    simp only [Option.map_eq_some_iff]at h
    obtain⟨sz,hsz,rfl⟩:=h
    simp only [AOp.run,z1i hx,z4m hlo,z4m hhi,z4m hmx,Option.map_eq_some_iff]at hr
    obtain⟨v,hv,rfl⟩:=hr
    generalize ev C ρ x=p at*
    cases p<;>simp only [z3f,reduceCtorEq]at hv
    simp only [z7f,hne,hsz,Option.bind_some,hv,Option.map_some]
   ·simp only [Option.bind_eq_some_iff,Option.map_eq_some_iff]at h
    obtain⟨e,he,sz,hsz,rfl⟩:=h
    simp only [AOp.run,z1i hx,z4m hlo,z4m hhi,z4m hmx,Option.map_eq_some_iff]at hr
    obtain⟨v,hv,rfl⟩:=hr
    generalize ev C ρ x=p at*
    cases p<;>simp only [z3f,reduceCtorEq]at hv<;>simp only [z7f,he,hsz,Option.bind_some,hv,Option.map_some]
 case fieldAddr s x f=>
  obtain⟨k,hk,x',hx,rfl⟩:=h
  refine⟨rfl,?_⟩
  simp only [AOp.run,z1i hx,Option.map_eq_some_iff]at hr
  obtain⟨v,hv,rfl⟩:=hr
  simp only [z1q]
  generalize ev C ρ x=p at*
  cases p<;>simp only [rFa,reduceCtorEq]at hv<;>simp only [za2,hk,Option.map_some,Option.bind_some]
  ·simp only [Option.some.injEq]at hv;subst hv;rfl
  ·rw [hv];rfl
 case field s x f=>
  obtain⟨y,hy,ag,hag,n,hn,x',hx,rfl⟩:=h
  refine⟨rfl,?_⟩
  simp only [AOp.run,z1i hx,Option.map_eq_some_iff]at hr
  obtain⟨v,hv,rfl⟩:=hr
  simp only [z1q]
  generalize ev C ρ x=p at*
  cases p<;>simp only [rFld,reduceCtorEq]at hv
  simp only [za1,hy,hag,hn,Option.bind_some,hv,Option.map_some]
 case indexAddr t x i=>
  obtain⟨x',hx,i',hi,h⟩:=h
  refine⟨rfl,?_⟩
  simp only [z1q]
  split at h
  ·rename_i ne hne
   simp only [Option.map_eq_some_iff]at h
   obtain⟨sz,hsz,rfl⟩:=h
   simp only [AOp.run,z1i hx,z1i hi]at hr
   rw [<-hr]
   congr 1
   generalize ev C ρ i=q
   cases q<;>simp only [z8c,hne,hsz,Option.bind_some]
  ·rename_i hne
   simp only [Option.bind_eq_some_iff,Option.map_eq_some_iff]at h
   obtain⟨e,he,sz,hsz,rfl⟩:=h
   simp only [AOp.run,z1i hx,z1i hi]at hr
   rw [<-hr]
   congr 1
   generalize ev C ρ i=q
   cases q<;>simp only [z8c,hne,he,hsz,Option.bind_some]
 case index t x i=>
  obtain⟨x',hx,i',hi,h⟩:=h
  refine⟨rfl,?_⟩
  simp only [z1q]
  split at h
  ·rename_i hst
   simp only [Option.some.injEq]at h;subst h
   simp only [AOp.run,z1i hx,z1i hi,Option.map_eq_some_iff]at hr
   obtain⟨v,hv,rfl⟩:=hr
   generalize ev C ρ x=p at*
   generalize ev C ρ i=q at*
   cases p<;>simp only [z3z,reduceCtorEq]at hv
   cases q<;>simp only [reduceCtorEq]at hv
   simp only [z8b,hst,if_true,hv,Option.map_some]
  ·simp only [Option.bind_eq_some_iff,Option.map_eq_some_iff]at h
   obtain⟨ne,hne,ag,hag,sz,hsz,rfl⟩:=h
   simp only [AOp.run,z1i hx,z1i hi,Option.map_eq_some_iff]at hr
   obtain⟨v,hv,rfl⟩:=hr
   generalize ev C ρ x=p at*
   generalize ev C ρ i=q at*
   cases p<;>simp only [z3y,reduceCtorEq]at hv
   cases q<;>simp only [reduceCtorEq]at hv
   simp only [z8b,hne,hag,hsz,Option.bind_some]
   split at hv
   ·rename_i hin
    rw [if_pos hin,hv,Option.map_some]
   ·cases hv
 case extract x i=>obtain⟨a,ha,rfl⟩:=h;exact⟨rfl,by rw [<-hr];simp only [AOp.run,z1q,z1i ha];rfl⟩
 case call c=>
  obtain⟨callee,cargs,ats⟩:=c
  cases callee<;>simp only [reduceCtorEq,Option.bind_eq_some_iff,Option.map_eq_some_iff]at h
  ·obtain⟨f,hf,xs,hxs,rfl⟩:=h
   simp [AOp.run]at hr
  ·rename_i b
   obtain⟨xs,hxs,h⟩:=h
   refine⟨rfl,?_⟩
   simp only [z1q]
   have hm:=z7n hxs ρ
   rw [<-hm]
   split at h
   ·rename_i t x hat
    split at h
    ·rename_i hst
     simp only [Option.some.injEq]at h;subst h
     simp only [AOp.run]at hr
     simp only [List.map_cons,List.map_nil,hat,z3i]
     generalize x.ev ρ=p at*
     cases p<;>simp only [reduceCtorEq]at hr
     simp only [aLen,hst,if_true,Option.map_some];exact hr
    ·split at h
     ·rename_i hsl
      obtain⟨e,he⟩:=Option.isSome_iff_exists.1 hsl
      simp only [Option.some.injEq]at h;subst h
      simp only [AOp.run,Option.map_eq_some_iff]at hr
      obtain⟨v,hv,rfl⟩:=hr
      simp only [List.map_cons,List.map_nil,hat,z3i]
      generalize x.ev ρ=p at*
      cases p<;>simp only [z1h,reduceCtorEq]at hv<;>simp only [aLen,he,Option.map_some,hv]
     ·cases h
   ·rename_i t t' s x hat
    simp only [Option.bind_eq_some_iff]at h
    obtain⟨e,he,sz,hsz,by_,hby,z,hz,zc,hzc,h⟩:=h
    split at h
    ·rename_i hcond
     simp only [Option.some.injEq]at h
     by_cases hB:e=u8T/\ sz=1
     ·rw [if_pos hB]at h
      subst h
      obtain⟨_,rfl⟩:=id hB
      simp only [AOp.run,Option.bind_eq_some_iff]at hr
      obtain⟨ys,hys,hr⟩:=hr
      simp only [List.map_cons,List.map_nil,hat,z3i,z89,he,hsz,hby,hz,hzc,hys,Option.bind_some]
      rw [if_pos hcond,if_pos ⟨hB.1,trivial⟩];exact hr
     ·rw [if_neg hB]at h
      subst h
      simp only [AOp.run,Option.bind_eq_some_iff]at hr
      obtain⟨ys,hys,hr⟩:=hr
      simp only [List.map_cons,List.map_nil,hat,z3i,z89,he,hsz,hby,hz,hzc,hys,Option.bind_some]
      rw [if_pos hcond,if_neg hB];exact hr
    ·cases h
   ·rename_i t t' d s hat
    simp only [Option.bind_eq_some_iff,Option.map_eq_some_iff]at h
    obtain⟨e,he,sz,hsz,rfl⟩:=h
    simp only [AOp.run]at hr
    simp only [List.map_cons,List.map_nil,hat,z3i,za0,he,hsz,Option.bind_some]
    exact hr
   ·rename_i t x hat
    simp only [Option.bind_eq_some_iff,Option.map_eq_some_iff]at h
    obtain⟨e,he,z,hz,zc,hzc,rfl⟩:=h
    simp only [AOp.run]at hr
    simp only [List.map_cons,List.map_nil,hat,z3i,z9z,he,Option.bind_some]
    generalize x.ev ρ=p at*
    cases p<;>simp only [zdl,reduceCtorEq]at hr
    ·exact hr
    ·simp only [hz,hzc,Option.bind_some];exact hr
   ·simp only [Option.some.injEq]at h;subst h
    simp only [AOp.run]at hr
    simp only [List.map_cons,List.map_nil,z3i];exact hr
   ·simp only [Option.some.injEq]at h;subst h
    simp only [AOp.run]at hr
    simp only [List.map_cons,List.map_nil,z3i];exact hr
   ·cases h
end
section
/-! A list of operations: what must hold ahead of it. -/
def AOp.isCall:AOp->Bool
 | .call _ _=>true
 | _=>false
def z2v(n:Nd)(H:Hist)(J J':Store):Prop:=match n with
 | .no=>True
 | .same=>J'=J
 | .rd=>False
 | .ef=>H.rds J'
 | _=>False
def z4c(n:Nd)(H:Hist)(J:Store):Hist:=match n with
 | .ef=>⟨fun s=>H.pre s \/s=J,H.rds,H.rd2⟩
 | _=>H
def callW(C:Ctx)(K:Hist->Env->Store->Prop)(H:Hist)(ρ:Env)(d:Option Nat)(need:Nd)(J:Store)(f:AV)(xs:List AV):Prop:=
  match f with
  | .fn fid caps => (∃ v J', ACallsTo C fid (xs ++ caps) J v J' /\ z2v need H J J' /\ K (z4c need H J) (putE ρ d v) J') ∨
      ((need= .no \/need= .ef)/\ ∃P:AV->Store->Prop,ACallsP C fid (xs++caps) J P/\ (∃v J',P v J')/\ ∀v J',P v J'->z2v need H J J'/\ K (z4c need H J) (putE ρ d v) J') ∨
      (need= .pu/\ ∃v,(∀h,ACallsTo C fid (xs++caps) h v h)/\ K H (putE ρ d v) J) ∨
      (need= .pu/\ ∃v,ACallsTo C fid (xs++caps) J v J/\ (∀h,H.pre h->ACallsTo C fid (xs++caps) h v h)/\ K ⟨H.pre,fun s=>H.rds s/\ ACallsTo C fid (xs++caps) s v s,H.rd2⟩ (putE ρ d v) J)
  | _=>False
def z2n(K:Env->Store->Prop)(J:Store):Bool->Option (Env × Store)->Prop
 |false,some r=>K r.1 r.2
 |true,some r=>r.2=J/\ K r.1 r.2
 | _,none=>False
def z2u(i:AIns)(ρ:Env)(J:Store):Option (Env × Store):=
 match z1p ρ i.guard with
 |some true=>(i.op.run ρ J).map fun r=>(putE ρ i.dst r.1,r.2)
 |some false=>some (putE ρ i.dst .undef,J)
 |none=>none
def rdC(K:Hist->Env->Store->Prop)(H:Hist)(d:Option Nat)(op:AOp)(ρ:Env)(J:Store):Option (AV × Store)->Prop
 |some r=>r.2=J/\ (∀h,H.pre h->op.run ρ h=some (r.1,h))/\ K ⟨H.pre,fun s=>H.rds s/\ op.run ρ s=some (r.1,s),H.rd2⟩ (putE ρ d r.1) J
 |none=>False
def rd2C(K:Hist->Env->Store->Prop)(H:Hist)(d:Option Nat)(op:AOp)(ρ:Env)(J:Store):Option (AV × Store)->Prop
 |some r=>r.2=J/\ (∀h,H.pre h->op.run ρ h=some (r.1,h))/\ K ⟨H.pre,fun s=>H.rds s/\ op.run ρ s=some (r.1,s),fun s=>H.rd2 s/\ op.run ρ s=some (r.1,s)⟩ (putE ρ d r.1) J
 |none=>False
def rd2W(K:Hist->Env->Store->Prop)(H:Hist)(d:Option Nat)(op:AOp)(ρ:Env)(J:Store):Option Bool->Prop
 |some true=>rd2C K H d op ρ J (op.run ρ J)
 |some false=>K H (putE ρ d .undef) J
 |none=>False
def ef2C(K:Hist->Env->Store->Prop)(H:Hist)(d:Option Nat)(ρ:Env)(J:Store):Option (AV × Store)->Prop
 |some r=>H.rd2 r.2/\ K ⟨fun s=>H.pre s \/s=J,H.rds,H.rd2⟩ (putE ρ d r.1) r.2
 |none=>False
def ef2W(K:Hist->Env->Store->Prop)(H:Hist)(d:Option Nat)(op:AOp)(ρ:Env)(J:Store):Option Bool->Prop
 |some true=>ef2C K H d ρ J (op.run ρ J)
 |some false=>K H (putE ρ d .undef) J
 |none=>False
def rdW(K:Hist->Env->Store->Prop)(H:Hist)(d:Option Nat)(op:AOp)(ρ:Env)(J:Store):Option Bool->Prop
 |some true=>rdC K H d op ρ J (op.run ρ J)
 |some false=>K H (putE ρ d .undef) J
 |none=>False
def efC(K:Hist->Env->Store->Prop)(H:Hist)(d:Option Nat)(ρ:Env)(J:Store):Option (AV × Store)->Prop
 |some r=>H.rds r.2/\ K ⟨fun s=>H.pre s \/s=J,H.rds,H.rd2⟩ (putE ρ d r.1) r.2
 |none=>False
def efW(K:Hist->Env->Store->Prop)(H:Hist)(d:Option Nat)(op:AOp)(ρ:Env)(J:Store):Option Bool->Prop
 |some true=>efC K H d ρ J (op.run ρ J)
 |some false=>K H (putE ρ d .undef) J
 |none=>False
def Hist.same(J:Store):Hist:=⟨fun s=>s=J,fun s=>s=J,fun s=>s=J⟩
def rdS(K:Hist->Env->Store->Prop)(d:Option Nat)(ρ:Env)(J:Store):Option (AV × Store)->Prop
 |some r=>r.2=J/\ K (Hist.same J) (putE ρ d r.1) J
 |none=>False
theorem zqe{K:Hist->Env->Store->Prop}{d:Option Nat}{op:AOp}{ρ:Env}{J:Store}:rdW K (Hist.same J) d op ρ J (some true)=rdS K d ρ J (op.run ρ J):=by
 simp only [rdW]
 cases hr:op.run ρ J with
 |none=>rfl
 |some r=>
  obtain⟨v,s⟩:=r
  simp only [rdC,rdS,Hist.same,eq_iff_iff]
  constructor
  ·rintro⟨rfl,h1,h2⟩
   refine⟨rfl,?_⟩
   have e:(fun t=>t=s/\ op.run ρ t=some (v,t))=fun t=>t=s:=funext fun t=>propext ⟨fun h=>h.1,fun h=>⟨h,by rw [h];exact hr⟩⟩
   rw [e]at h2;exact h2
  ·rintro⟨rfl,h2⟩
   refine⟨rfl,fun h hh=>by rw [hh];exact hr,?_⟩
   have e:(fun t=>t=s/\ op.run ρ t=some (v,t))=fun t=>t=s:=funext fun t=>propext ⟨fun h=>h.1,fun h=>⟨h,by rw [h];exact hr⟩⟩
   rw [e];exact h2
theorem zme{K:Hist->Env->Store->Prop}{d:Option Nat}{op:AOp}{ρ:Env}{J:Store}:efW K (Hist.same J) d op ρ J (some true)=rdS K d ρ J (op.run ρ J):=by
 simp only [efW]
 cases hr:op.run ρ J with
 |none=>rfl
 |some r=>
  obtain⟨v,s⟩:=r
  simp only [efC,rdS,Hist.same,eq_iff_iff]
  have e:(fun t=>t=J \/t=J)=fun t=>t=J:=funext fun t=>propext ⟨fun h=>h.elim id id,Or.inl⟩
  rw [e]
  constructor
  ·rintro⟨rfl,h2⟩;exact⟨rfl,h2⟩
  ·rintro⟨rfl,h2⟩;exact⟨rfl,h2⟩
theorem zoq{J J':Store}:z2v .ef (Hist.same J) J J'=(J'=J):=rfl
theorem zos{J:Store}:z4c .ef (Hist.same J) J=Hist.same J:=by
 have e:(fun t=>t=J \/t=J)=fun t=>t=J:=funext fun t=>propext ⟨fun h=>h.elim id id,Or.inl⟩
 simp only [z4c,Hist.same,e]
def z12(K:Hist->Env->Store->Prop)(H:Hist)(i:AIns)(ρ:Env)(J:Store):Prop:=
 match i.need with
 | .no=>z2n (K H) J false (z2u i ρ J)
 | .same=>z2n (K H) J true (z2u i ρ J)
 | .rd=>rdW K H i.dst i.op ρ J (z1p ρ i.guard)
 | .ef=>efW K H i.dst i.op ρ J (z1p ρ i.guard)
 | .pu=>False
 | .rd2=>rd2W K H i.dst i.op ρ J (z1p ρ i.guard)
 | .ef2=>ef2W K H i.dst i.op ρ J (z1p ρ i.guard)
def z2c(C:Ctx)(K:Hist->Env->Store->Prop)(H:Hist)(ρ:Env)(J:Store)(d:Option Nat)(need:Nd)(f:AX)(xs:List AX):Option Bool->Prop
 |some true=>callW C K H ρ d need J (f.ev ρ) (xs.map (AX.ev ρ))
 |some false=>K H (putE ρ d .undef) J
 |none=>False
def z10(C:Ctx)(K:Env->Store->Prop):List AIns->Hist->Env->Store->Prop
 | [],_,ρ,J=>K ρ J
 |i::l,H,ρ,J=>match i.op with
  | .call f xs=>z2c C (z10 C K l) H ρ J i.dst i.need f xs (z1p ρ i.guard)
  | _=>z12 (z10 C K l) H i ρ J
def zek(C:Ctx)(F:Hist->Env->Store->Prop)(i:AIns)(H:Hist)(ρ:Env)(J:Store):Prop:=match i.op with
 | .call f xs=>z2c C F H ρ J i.dst i.need f xs (z1p ρ i.guard)
 | _=>z12 F H i ρ J
theorem zs2{C:Ctx}{F:Hist->Env->Store->Prop}{H:Hist}{ρ:Env}{J:Store}{d:Option Nat}{g:Option (Nat × Bool)}{n:Nd}{op:AOp}(h:op.isCall=false):
  zek C F ⟨d,g,n,op⟩ H ρ J=z12 F H ⟨d,g,n,op⟩ ρ J:=by
 cases op<;>first|rfl|simp [AOp.isCall]at h
theorem zs1{C:Ctx}{F:Hist->Env->Store->Prop}{H:Hist}{ρ:Env}{J:Store}{d:Option Nat}{g:Option (Nat × Bool)}{n:Nd}{f:AX}{xs:List AX}:
  zek C F ⟨d,g,n,.call f xs⟩ H ρ J=z2c C F H ρ J d n f xs (z1p ρ g):=rfl
def z14(C:Ctx)(K:Env->Store->Prop)(l m:List AIns):List AIns->Hist->Env->Store->Prop
 | [],H,ρ,J=>z10 C K l H ρ J/\ z10 C K m H ρ J
 |i::a,H,ρ,J=>match i.op with
  | .call f xs=>z2c C (z14 C K l m a) H ρ J i.dst i.need f xs (z1p ρ i.guard)
  | _=>z12 (z14 C K l m a) H i ρ J
theorem z4x{C:Ctx}{K:Env->Store->Prop}{H:Hist}{ρ:Env}{J:Store}:z10 C K [] H ρ J=K ρ J:=rfl
theorem z4w{C:Ctx}{K:Env->Store->Prop}{H:Hist}{ρ:Env}{J:Store}{d:Option Nat}{g:Option (Nat × Bool)}{n:Nd}{f:AX}{xs:List AX}{l:List AIns}:
  z10 C K (⟨d,g,n,.call f xs⟩::l) H ρ J=z2c C (z10 C K l) H ρ J d n f xs (z1p ρ g):=rfl
section
variable {C:Ctx} {K:Hist->Env->Store->Prop} {H:Hist} {ρ:Env} {d:Option Nat} {J J':Store} {fid:FuncId} {caps xs:List AV} {v:AV}
theorem callW.mk(h:ACallsTo C fid (xs++caps) J v J')(hk:K H (putE ρ d v) J'):callW C K H ρ d .no J (.fn fid caps) xs:= .inl ⟨v,J',h,trivial,hk⟩
theorem callW.zp(h:ACallsTo C fid (xs++caps) J v J)(hk:K H (putE ρ d v) J):callW C K H ρ d .no J (.fn fid caps) xs:= .inl ⟨v,J,h,trivial,hk⟩
theorem callW.za{nd:Nd}(h:ACallsTo C fid (xs++caps) J v J')(hn:z2v nd H J J')(hk:K (z4c nd H J) (putE ρ d v) J'):callW C K H ρ d nd J (.fn fid caps) xs:= .inl ⟨v,J',h,hn,hk⟩
theorem callW.mkP{P:AV->Store->Prop}(h:ACallsP C fid (xs++caps) J P)(hne:∃v J',P v J')(hk:∀v J',P v J'->K H (putE ρ d v) J'):callW C K H ρ d .no J (.fn fid caps) xs:=
 .inr (.inl ⟨.inl rfl,P,h,hne,fun v J' hp=>⟨trivial,hk v J' hp⟩⟩)
theorem callW.mkP_ef {P : AV -> Store -> Prop} (h : ACallsP C fid (xs ++ caps) J P) (hne : ∃ v J', P v J') (hk : ∀ v J', P v J' -> H.rds J' /\ K ⟨fun s => H.pre s \/ s = J, H.rds, H.rd2⟩ (putE ρ d v) J') :
    callW C K H ρ d .ef J (.fn fid caps) xs:= .inr (.inl ⟨.inr rfl,P,h,hne,hk⟩)
theorem callW.mk_pu(h:∀h,ACallsTo C fid (xs++caps) h v h)(hk:K H (putE ρ d v) J):callW C K H ρ d .pu J (.fn fid caps) xs:= .inr (.inr (.inl ⟨rfl,v,h,hk⟩))
theorem callW.mk_pu2(h:ACallsTo C fid (xs++caps) J v J)(hp:∀h,H.pre h->ACallsTo C fid (xs++caps) h v h)(hk:K ⟨H.pre,fun s=>H.rds s/\ ACallsTo C fid (xs++caps) s v s,H.rd2⟩ (putE ρ d v) J):callW C K H ρ d .pu J (.fn fid caps) xs:= .inr (.inr (.inr ⟨rfl,v,h,hp,hk⟩))
end
theorem zlr{C:Ctx}{op:Op}{f:AX}{xs:List AX}(h:cOp C op=some (.call f xs)):∃fo args,z22 op=some (fo,args)/\ cX C fo=some f/\ cXs C args.toList=some xs:=by
 cases op
 case call c=>
  obtain⟨callee,cargs,ats⟩:=c
  cases callee
  case value=>
   simp only [cOp,Option.bind_eq_some_iff,Option.map_eq_some_iff,AOp.call.injEq]at h
   obtain⟨f',hf,xs',hxs,rfl,rfl⟩:=h
   exact⟨_,_,rfl,hf,hxs⟩
  case invoke=>simp [cOp]at h
  case builtin b=>
   simp only [cOp,Option.bind_eq_some_iff]at h
   obtain⟨ys,hys,h⟩:=h
   exfalso
   split at h
   ·split at h<;>(try split at h)<;>simp at h
   ·simp only [Option.bind_eq_some_iff]at h
    obtain⟨e,he,sz,hsz,by_,hby,z,hz,zc,hzc,h⟩:=h
    split at h
    ·by_cases hB:e=u8T/\ sz=1
     ·rw [if_pos hB]at h;simp at h
     ·rw [if_neg hB]at h;simp at h
    ·simp at h
   ·simp [Option.bind_eq_some_iff]at h
   ·simp [Option.bind_eq_some_iff]at h
   ·simp at h
   ·simp at h
   ·cases h
 case makeFunc fn first captured=>
  cases fn<;>simp only [cOp,reduceCtorEq]at h
  split at h<;>simp at h
 case build t ps=>
  simp only [cOp,Option.bind_eq_some_iff]at h
  obtain⟨z,hz,zc,hzc,h⟩:=h
  exfalso
  split at h<;>simp [Option.bind_eq_some_iff]at h
 case alloc t=>
  simp only [cOp,Option.bind_eq_some_iff]at h
  obtain⟨z,hz,h⟩:=h
  exfalso
  split at h
  ·split at h<;>simp at h
  ·simp at h
 case buildSlice t n ps=>
  simp only [cOp,Option.bind_eq_some_iff]at h
  obtain⟨e,he,sz,hsz,z,hz,h⟩:=h
  exfalso
  split at h<;>simp at h
 case convert s d x=>
  simp only [cOp,Option.bind_eq_some_iff]at h
  obtain⟨a,ha,h⟩:=h
  exfalso
  split at h
  ·simp at h
  ·split at h
   ·split at h
    ·simp at h
    ·split at h<;>simp at h
   ·split at h<;>simp at h
 case makeSlice t l c=>
  simp only [cOp,Option.bind_eq_some_iff]at h
  obtain⟨e,he,sz,hsz,by_,hby,z,hz,zc,hzc,l',hl,c',hc,h⟩:=h
  exfalso
  split at h<;>simp at h
 case slice t x lo hi mx=>
  simp only [cOp,Option.bind_eq_some_iff]at h
  obtain⟨x',hx,lo',hlo,hi',hhi,mx',hmx,h⟩:=h
  exfalso
  split at h
  ·simp at h
  ·split at h<;>simp [Option.bind_eq_some_iff]at h
 case indexAddr t x i=>
  simp only [cOp,Option.bind_eq_some_iff]at h
  obtain⟨x',hx,i',hi,h⟩:=h
  exfalso
  split at h<;>simp [Option.bind_eq_some_iff]at h
 case index t x i=>
  simp only [cOp,Option.bind_eq_some_iff]at h
  obtain⟨x',hx,i',hi,h⟩:=h
  exfalso
  split at h<;>simp [Option.bind_eq_some_iff]at h
 all_goals simp [cOp,Option.bind_eq_some_iff,Option.map_eq_some_iff]at h
/-! Operations of a region. -/
def zai(ops:Array Oper):Option (Nat × Bool)->Option (Option (Nat × Bool))
 |none=>some none
 |some g=>match (ops[g.1]?).bind (·.dst)with
  |some d=>some (some (d,g.2))
  |none=>none
theorem zlq{ops:Array Oper}{o:Oper}{g:Option (Nat × Bool)}(h:zai ops o.guard=some g)(ρ:Env):z34 ops ρ o=z1p ρ g:=by
 unfold z34
 cases hg:o.guard with
 |none=>rw [hg]at h;simp only [zai,Option.some.injEq]at h;subst h;rfl
 |some k=>
  rw [hg]at h
  simp only [zai]at h
  split at h
  ·rename_i d hd
   simp only [Option.some.injEq]at h;subst h
   simp only [hd,z1p]<;>rfl
  ·cases h
def cIns(C:Ctx)(ops:Array Oper)(need:Nd)(o:Oper):Option AIns:=
 (zai ops o.guard).map fun g=>⟨o.dst,g,need,(cOp C o.op).getD .stuck⟩
def HR(H H':Hist):Prop:=(∀s,H'.pre s->H.pre s)/\ (∀s,H.rds s->H'.rds s)/\ ∀s,H.rd2 s->H'.rd2 s
theorem zg8{C:Ctx}{ops:Array Oper}{need:Nd}{o:Oper}{i:AIns}(h:cIns C ops need o=some i){F:Hist->Env->Store->Prop}{K':Hist->Env->Store->Prop}(hK:∀H H' ρ J,HR H H'->F H ρ J->K' H' ρ J)
  {H H':Hist} (hH:HR H H') {ρ:Env} {J:Store} (hw:zek C F i H ρ J):z27 C ops need o K' H' ρ J:=by
 simp only [cIns,Option.map_eq_some_iff]at h
 obtain⟨g,hg,rfl⟩:=h
 have ha:(cOp C o.op).getD .stuck ≠ .stuck->cOp C o.op=some ((cOp C o.op).getD .stuck):=by
  intro h
  cases hc:cOp C o.op with
  |none=>rw [hc]at h;exact absurd rfl h
  |some a=>rfl
 generalize (cOp C o.op).getD .stuck=a at*
 unfold z27
 rw [zlq hg]
 have nocall:a.isCall=false->(match z1p ρ g with|some true=>(∃v J',OpTo C (ev C ρ) J o.op v J'/\ need.ok C (ev C ρ) o.op v H' J J'/\ K' (need.next C (ev C ρ) o.op v H' J) (putE ρ o.dst v) J') \/((need= .no \/need= .ef)/\ zc9 C need o K' H' ρ J)|some false=>K' H' (putE ρ o.dst .undef) J|none=>False):=by
  intro hc
  rw [zs2 hc]at hw
  have to:∀{s:Store} {r:AV × Store},a.run ρ s=some r->OpTo C (ev C ρ) s o.op r.1 r.2:=by
   intro s r hr
   obtain⟨h1,h2⟩:=zls (ha (by rintro rfl;simp [AOp.run]at hr)) hr
   unfold OpTo;rw [h1];exact h2
  cases need
  ·-- nothing owed
   simp only [z12,z2u]at hw
   cases hgv:z1p ρ g with
   |none=>rw [hgv]at hw;exact hw.elim
   |some b=>
    rw [hgv]at hw
    cases b with
    |false=>exact hK _ _ _ _ hH hw
    |true=>
     simp only at hw ⊢
     cases hr:a.run ρ J with
     |none=>rw [hr]at hw;exact hw.elim
     |some r=>rw [hr]at hw;exact .inl ⟨r.1,r.2,to hr,trivial,hK _ _ _ _ hH hw⟩
  ·simp only [z12,z2u]at hw
   cases hgv:z1p ρ g with
   |none=>rw [hgv]at hw;exact hw.elim
   |some b=>
    rw [hgv]at hw
    cases b with
    |false=>exact hK _ _ _ _ hH hw.2
    |true=>
     simp only at hw ⊢
     cases hr:a.run ρ J with
     |none=>rw [hr]at hw;exact hw.elim
     |some r=>rw [hr]at hw;exact .inl ⟨r.1,r.2,to hr,hw.1,hK _ _ _ _ hH hw.2⟩
  ·simp only [z12]at hw
   cases hgv:z1p ρ g with
   |none=>rw [hgv]at hw;exact hw.elim
   |some b=>
    rw [hgv]at hw
    cases b with
    |false=>exact hK _ _ _ _ hH hw
    |true=>
     simp only [rdW]at hw ⊢
     cases hr:a.run ρ J with
     |none=>rw [hr]at hw;exact hw.elim
     |some r=>
      rw [hr]at hw
      obtain⟨k1,k2,k3⟩:=hw
      obtain⟨v,s⟩:=r
      simp only at k1 k2 k3
      subst k1
      refine .inl ⟨v,s,to hr,⟨rfl,fun h hh=>to (k2 h (hH.1 h hh))⟩,hK ⟨H.pre,fun t=>H.rds t/\ a.run ρ t=some (v,t),H.rd2⟩ _ _ _ ⟨hH.1,fun t ht=>⟨hH.2.1 t ht.1,to ht.2⟩,hH.2.2⟩ k3⟩
  ·simp only [z12]at hw
   cases hgv:z1p ρ g with
   |none=>rw [hgv]at hw;exact hw.elim
   |some b=>
    rw [hgv]at hw
    cases b with
    |false=>exact hK _ _ _ _ hH hw
    |true=>
     simp only [efW]at hw ⊢
     cases hr:a.run ρ J with
     |none=>rw [hr]at hw;exact hw.elim
     |some r=>
      rw [hr]at hw
      exact .inl ⟨r.1,r.2,to hr,hH.2.1 _ hw.1,hK ⟨fun s=>H.pre s \/s=J,H.rds,H.rd2⟩ _ _ _ ⟨fun s hs=>hs.imp (hH.1 s) id,hH.2⟩ hw.2⟩
  ·simp only [z12]at hw
  ·simp only [z12]at hw
   cases hgv:z1p ρ g with
   |none=>rw [hgv]at hw;exact hw.elim
   |some b=>
    rw [hgv]at hw
    cases b with
    |false=>exact hK _ _ _ _ hH hw
    |true=>
     simp only [rd2W]at hw ⊢
     cases hr:a.run ρ J with
     |none=>rw [hr]at hw;exact hw.elim
     |some r=>
      rw [hr]at hw
      obtain⟨k1,k2,k3⟩:=hw
      obtain⟨v,s⟩:=r
      simp only at k1 k2 k3
      subst k1
      refine .inl ⟨v,s,to hr,⟨rfl,fun h hh=>to (k2 h (hH.1 h hh))⟩,hK ⟨H.pre,fun t=>H.rds t/\ a.run ρ t=some (v,t),fun t=>H.rd2 t/\ a.run ρ t=some (v,t)⟩ _ _ _ ⟨hH.1,fun t ht=>⟨hH.2.1 t ht.1,to ht.2⟩,fun t ht=>⟨hH.2.2 t ht.1,to ht.2⟩⟩ k3⟩
  ·simp only [z12]at hw
   cases hgv:z1p ρ g with
   |none=>rw [hgv]at hw;exact hw.elim
   |some b=>
    rw [hgv]at hw
    cases b with
    |false=>exact hK _ _ _ _ hH hw
    |true=>
     simp only [ef2W]at hw ⊢
     cases hr:a.run ρ J with
     |none=>rw [hr]at hw;exact hw.elim
     |some r=>
      rw [hr]at hw
      exact .inl ⟨r.1,r.2,to hr,hH.2.2 _ hw.1,hK ⟨fun s=>H.pre s \/s=J,H.rds,H.rd2⟩ _ _ _ ⟨fun s hs=>hs.imp (hH.1 s) id,hH.2⟩ hw.2⟩
 cases a
 case call f xs=>
  obtain⟨fo,args,h1,h2,h3⟩:=zlr (ha (by simp))
  rw [zs1]at hw
  cases hgv:z1p ρ g with
  |none=>rw [hgv]at hw;exact hw.elim
  |some b=>
   rw [hgv]at hw
   cases b with
   |false=>exact hK _ _ _ _ hH hw
   |true=>
    simp only [z2c,callW,z1i h2]at hw ⊢
    split at hw
    ·rename_i fid caps hf
     have okn:∀{v:AV} {J':Store},z2v need H J J'->need.ok C (ev C ρ) o.op v H' J J':=by
      intro v J' hn
      cases need<;>simp only [z2v,Nd.ok]at hn ⊢
      ·exact hn
      ·exact hH.2.1 _ hn
     have nxt:∀{v:AV},z2v need H J J \/need= .no \/need= .ef \/need= .same->HR (z4c need H J) (need.next C (ev C ρ) o.op v H' J):=by
      intro v hn
      cases need<;>simp only [z4c,Nd.next]
      ·exact hH
      ·exact hH
      ·simp [z2v]at hn
      ·exact⟨fun s hs=>hs.imp (hH.1 s) id,hH.2⟩
      ·simp [z2v]at hn
      ·simp [z2v]at hn
      ·simp [z2v]at hn
     rcases hw with⟨v,J',h4,h5,h6⟩| ⟨h0,P,h4,hne,h6⟩| ⟨rfl,v,h4,h6⟩| ⟨rfl,v,h4,h5,h6⟩
     ·have hn:z2v need H J J \/need= .no \/need= .ef \/need= .same:=by cases need<;>first|exact .inr (.inl rfl)|exact .inr (.inr (.inl rfl))|exact .inr (.inr (.inr rfl))|exact h5.elim
      refine .inl ⟨v,J',?_,okn h5,hK _ _ _ _ (nxt hn) h6⟩
      unfold OpTo
      rw [h1]
      refine⟨fid,caps,hf,?_⟩
      rw [<-z7n h3];exact h4
     ·have hn:z2v need H J J \/need= .no \/need= .ef \/need= .same:= .inr (h0.imp id .inl)
      refine .inr ⟨h0,P,⟨_,h1,fid,caps,hf,?_⟩,hne,fun v J' hp=>⟨okn (h6 v J' hp).1,hK _ _ _ _ (nxt hn) (h6 v J' hp).2⟩⟩
      rw [<-z7n h3];exact h4
     ·have hto:∀s,OpTo C (ev C ρ) s o.op v s:=by
       intro s
       unfold OpTo
       rw [h1]
       refine⟨fid,caps,hf,?_⟩
       rw [<-z7n h3];exact h4 s
      exact .inl ⟨v,J,hto J,⟨rfl,fun s _=>hto s⟩,hK _ _ _ _ ⟨hH.1,fun s hs=>⟨hH.2.1 s hs,hto s⟩,hH.2.2⟩ h6⟩
     ·have hto:∀s,ACallsTo C fid (xs.map (AX.ev ρ)++caps) s v s->OpTo C (ev C ρ) s o.op v s:=by
       intro s hs
       unfold OpTo
       rw [h1]
       refine⟨fid,caps,hf,?_⟩
       rw [<-z7n h3];exact hs
      exact .inl ⟨v,J,hto J h4,⟨rfl,fun s hs=>hto s (h5 s (hH.1 s hs))⟩,hK ⟨H.pre,fun s=>H.rds s/\ ACallsTo C fid (xs.map (AX.ev ρ)++caps) s v s,H.rd2⟩ _ _ _ ⟨hH.1,fun s hs=>⟨hH.2.1 s hs.1,hto s hs.2⟩,hH.2.2⟩ h6⟩
    ·exact hw.elim
 all_goals exact nocall rfl
theorem zfz{C:Ctx}{ops:Array Oper}{need:Nd}{o:Oper}{i:AIns}(h:cIns C ops need o=some i){l:List AIns}{K:Env->Store->Prop}{K':Hist->Env->Store->Prop}(hK:∀H H' ρ J,HR H H'->z10 C K l H ρ J->K' H' ρ J)
  {H H':Hist} (hH:HR H H') {ρ:Env} {J:Store} (hw:z10 C K (i::l) H ρ J):z27 C ops need o K' H' ρ J:=zg8 h (F:=z10 C K l) hK hH hw
def cOps(C:Ctx)(ops:Array Oper)(need:Nat->Nd):List Oper->Nat->Option (List AIns)
 | [],_=>some []
 |o::l,i=>(cIns C ops (need i) o).bind fun a=>(cOps C ops need l (i+1)).map (a:: ·)
theorem z8m{C:Ctx}{ops:Array Oper}{need:Nat->Nd}{K:Env->Store->Prop}:∀(l:List Oper) (i:Nat) (as_:List AIns),(∀j,l[j]? =ops[i+j]?)->cOps C ops need l i=some as_->
  ∀H H' ρ J,HR H H'->z10 C K as_ H ρ J->z1u C ops need K (List.range' i l.length) H' ρ J
 | [],i,as_,_,h,H,H',ρ,J,hH,hw=>by simp only [cOps,Option.some.injEq]at h;subst h;exact hw
 |o::l,i,as_,hl,h,H,H',ρ,J,hH,hw=>by
  simp only [cOps,Option.bind_eq_some_iff,Option.map_eq_some_iff]at h
  obtain⟨a,ha,as',has,rfl⟩:=h
  have h0:ops[i]? =some o:=by have:=hl 0;simpa using this.symm
  simp only [List.length_cons,List.range'_succ,z1u,h0]
  refine zfz ha (l:=as') (K:=K) (fun H H' ρ J hH hk=> ?_) hH hw
  refine z8m l (i+1) as' (fun j=> ?_) has H H' ρ J hH hk
  have:=hl (j+1)
  simp only [List.getElem?_cons_succ]at this
  rw [this];congr 1;omega
def late(C:Ctx)(ops:Array Oper)(nd:List Nd):List Nd:=
 let cl:=z2m [] ops.toList
 let ty (j:Nat):Option (Bool × TypeId):=match ops[j]? with|some p=>(match p.op with| .load t _=>some (false,t)| .store t _ _=>some (true,t)| _=>none)|none=>none
 let two (i:Nat):Bool:=nd.getD i .no== .ef && (match ty i with
  |some (true,t)=>(List.range i).any fun x=>nd.getD x .no== .rd && ty x==some (false,t) && ahead_ cl x i
  | _=>false)
 let ss:=(List.range ops.size).filter two
 if ss.isEmpty then nd else
  (List.range ops.size).map fun i=>match nd.getD i .no with
   | .ef=>if ss.contains i then .ef2 else .ef
   | .rd=>if ss.any fun j=> !ahead_ cl i j && !ahead_ cl j i then .rd2 else .rd
   |n=>n
def z71(C:Ctx)(ops:Array Oper):List Nd:=
  let cl:=z2m [] ops.toList
  let mate (i j:Nat):Bool:=match ops[j]? with
    |some p=> !(j==i) && !opN C p.op && !ahead_ cl j i && !ahead_ cl i j
    |none=>false
  let rdr (j:Nat):Bool:=match ops[j]? with|some p=>opR p.op|none=>false
  (List.range ops.size).map fun i=>match ops[i]? with
    | some o => if opN C o.op then .no else
        let l:=(List.range ops.size).filter (mate i)
        if l.isEmpty then .no else if opR o.op then .rd else if l.all rdr then .ef else .same
    |none=> .no
def zd1(C:Ctx)(ops:Array Oper):List Nd:=
  let cl:=z2m [] ops.toList
  let mate (i j:Nat):Bool:=match ops[j]? with
    |some p=> !(j==i) && !opN C p.op && !ahead_ cl j i && !ahead_ cl i j
    |none=>false
  let rdr (j:Nat):Bool:=match ops[j]? with|some p=>opR p.op|none=>false
  let rdc (j:Nat):Bool:=match ops[j]? with|some p=>opR p.op ||(z22 p.op).isSome|none=>false
  (List.range ops.size).map fun i=>match ops[i]? with
    | some o => if opN C o.op then .no else
        let l:=(List.range ops.size).filter (mate i)
        if l.isEmpty then .no else if opR o.op then .rd else if (z22 o.op).isSome && !l.all rdr then .pu else if l.all rdc then .ef else .same
    |none=> .no
def z8u(n:Nat)(ops:Array Oper):Bool:=ops.all fun o=>match o.dst with|some d=>decide (d<n)|none=>true
theorem zak{n:Nat}{ops:Array Oper}(h:z8u n ops=true):∀o ∈ ops,∀d,o.dst=some d->d<n:=by
 intro o ho d hd
 unfold z8u at h
 rw [Array.all_eq_true_iff_forall_mem]at h
 have:=h o ho
 rw [hd]at this
 simpa using this
theorem zd9{C:Ctx}{ops:Array Oper}{need:Nat->Nd}{K:Env->Store->Prop}{Q:Exit->Act->World->Prop}{n:Nat}(hdst:∀o ∈ ops,∀d,o.dst=some d->d<n):
  ∀(L:List Nat) (H:Hist) (ρ:Env) (J:Store) (γ:Places) (a:Act) (w:World),z1u C ops need K L H ρ J->Rel C γ J w->EnvR γ w ρ a.tmps->a.tmps.size=n->
   (∀ρ' J' γ' a' w',K ρ' J'->Step γ w γ' w'->Rel C γ' J' w'->EnvR γ' w' ρ' a'.tmps->a'.defers=a.defers->a'.tmps.size=n->Q .normal a' w')->wpOps C.P ops Q L a w
 | [],_,ρ,J,γ,a,w,h,hR,hE,hn,hQ=>hQ ρ J γ a w h (Step.refl _ _) hR hE rfl hn
 |i::L,H,ρ,J,γ,a,w,h,hR,hE,hn,hQ=>by
  rw [wpOps_cons]
  simp only [z1u]at h
  cases ho:ops[i]? with
  |none=>rw [ho]at h;exact h.elim
  |some o=>
   rw [ho]at h
   have hmem:o ∈ ops:=by
    obtain⟨hi,rfl⟩:=Array.getElem?_eq_some_iff.1 ho
    exact Array.getElem_mem hi
   refine z3n ho (fun x hx=>by rw [hn];exact hdst o hmem x hx) hR hE h fun H' ρ' J' γ' a' w' hK hst hR' hE' hdf hsz=> ?_
   refine zd9 hdst L H' ρ' J' γ' a' w' hK hR' hE' (hsz.trans hn) fun ρ2 J2 γ2 a2 w2 k1 k2 k3 k4 k5 k6=> ?_
   exact hQ ρ2 J2 γ2 a2 w2 k1 (hst.trans k2) k3 k4 (k5.trans hdf) k6
def makes:Op->Bool
 | .alloc _=>true
 | .box _ _=>true
 | _=>false
def zes(C:Ctx)(ops:Array Oper):List (Nat × Nat):=
  let cl:=z2m [] ops.toList
  let nd:=z71 C ops
  ((List.range ops.size).flatMap fun i => ((List.range i).filter fun x => nd.getD x .no == .same && nd.getD i .no == .same && !ahead_ cl x i &&
      (match ops[x]?,ops[i]? with|some ox,some oi=>makes ox.op ||makes oi.op| _,_=>false)).map fun x=>(x,i))
def zd0(C:Ctx)(ops:Array Oper):List Nd:=match zes C ops with
 | _::_::_=>zd1 C ops
 | _=>late C ops (z71 C ops)
def twinP(C:Ctx)(ops:Array Oper):Option (Nat × Nat):=match zes C ops with
 | [pq]=>some pq
 | _=>none
def z7c(C:Ctx)(ops:Array Oper)(p q:Nat)(i:Nat):Nd:=if i=p \/i=q then .ef else(z71 C ops).getD i .no
def zd6(C:Ctx)(ops:Array Oper)(p q:Nat):Bool:=
 let cl:=z2m [] ops.toList
 let need:=z7c C ops p q
 decide (p<q) && decide (q<ops.size) &&
 ((List.range ops.size).all fun i=>(List.range i).all fun x=>(decide (x=p) && decide (i=q)) ||ahead_ cl x i ||free2 C ops need x i) &&
 ((List.range ops.size).all fun y=> !(decide (p<y) && decide (y<q)) ||free2 C ops need q y) &&
 ((List.range ops.size).all fun y=>decide (y=p) ||decide (y=q) ||(match ops[y]? with|some o=>(z22 o.op).isNone|none=>false) ||ahead_ cl p y ||ahead_ cl q y)
def twinL(p q:Nat)(n:Nat):List Nat:=List.range' 0 p++q::p::(List.range' (p+1) (q-(p+1))++List.range' (q+1) (n-(q+1)))
def cSel(C:Ctx)(ops:Array Oper)(need:Nat->Nd):List Nat->Option (List AIns)
 | []=>some []
 |i::l=>(ops[i]?).bind fun o=>(cIns C ops (need i) o).bind fun a=>(cSel C ops need l).map (a:: ·)
theorem z8n{C:Ctx}{ops:Array Oper}{need:Nat->Nd}{K:Env->Store->Prop}:∀(l:List Nat) (as_:List AIns),cSel C ops need l=some as_->
  ∀H H' ρ J,HR H H'->z10 C K as_ H ρ J->z1u C ops need K l H' ρ J
 | [],as_,h,H,H',ρ,J,hH,hw=>by simp only [cSel,Option.some.injEq]at h;subst h;exact hw
 |i::l,as_,h,H,H',ρ,J,hH,hw=>by
  simp only [cSel,Option.bind_eq_some_iff,Option.map_eq_some_iff]at h
  obtain⟨o,h0,a,ha,as',has,rfl⟩:=h
  simp only [z1u,h0]
  exact zfz ha (l:=as') (K:=K) (fun H H' ρ J hH hk=>z8n l as' has H H' ρ J hH hk) hH hw
def z8o(C:Ctx)(ops:Array Oper)(p q:Nat):Option ACode:=
 if C.P.follows .mixedOrders=true/\ zd6 C ops p q=true/\ z48 ops=true then
  (cSel C ops (z7c C ops p q) (List.range' 0 ops.size)).bind fun a=>(cSel C ops (z7c C ops p q) (twinL p q ops.size)).map fun b=> .reg2 a b
 else none
/-! Two and more pairs of which one makes an object, where the calls among them give the same at every store and one pair is left: both orders, with a common run of what stands ahead. -/
def twinsP(C:Ctx)(ops:Array Oper):List (Nat × Nat):=
  let cl:=z2m [] ops.toList
  let nd:=zd1 C ops
  ((List.range ops.size).flatMap fun i => ((List.range i).filter fun x => nd.getD x .no == .same && nd.getD i .no == .same && !ahead_ cl x i &&
      (match ops[x]?,ops[i]? with|some ox,some oi=>makes ox.op ||makes oi.op| _,_=>false)).map fun x=>(x,i))
def twinPJ(C:Ctx)(ops:Array Oper):Option (Nat × Nat):=match zes C ops with
 | _::_::_=>(match twinsP C ops with
  | [pq]=>some pq
  | _=>none)
 | _=>none
def z9q(C:Ctx)(ops:Array Oper)(p q:Nat)(i:Nat):Nd:=if i=p \/i=q then .ef else(zd1 C ops).getD i .no
def zd7(C:Ctx)(ops:Array Oper)(p q:Nat):Bool:=
 let cl:=z2m [] ops.toList
 let need:=z9q C ops p q
 decide (p<q) && decide (q<ops.size) &&
 ((List.range ops.size).all fun i=>(List.range i).all fun x=>(decide (x=p) && decide (i=q)) ||ahead_ cl x i ||free2 C ops need x i) &&
 ((List.range ops.size).all fun y=> !(decide (p<y) && decide (y<q)) ||free2 C ops need q y) &&
 ((List.range ops.size).all fun y=>decide (y<p) ||decide (y=p) ||decide (y=q) ||(match ops[y]? with|some o=>(z22 o.op).isNone|none=>false) ||ahead_ cl p y ||ahead_ cl q y)
def z95(p:Nat):AIns:=⟨some p,none,.pu,.stuck⟩
def zji(p q:Nat)(n:Nat):List Nat:=q::p::(List.range' (p+1) (q-(p+1))++List.range' (q+1) (n-(q+1)))
def z8p(C:Ctx)(ops:Array Oper)(p q:Nat):Option ACode:=
 if C.P.follows .mixedOrders=true/\ zd7 C ops p q=true/\ z48 ops=true then
  (cSel C ops (z9q C ops p q) (List.range' 0 ops.size)).bind fun a=>(cSel C ops (z9q C ops p q) (zji p q ops.size)).map fun b=> .reg2 a (z95 p::b)
 else none
theorem z8q{C:Ctx}{ops:Array Oper}{p q:Nat}{ac:ACode}(h:z8p C ops p q=some ac):∃a b,ac= .reg2 a (z95 p::b)/\ C.P.follows .mixedOrders=true/\ zd7 C ops p q=true/\ z48 ops=true ∧
  cSel C ops (z9q C ops p q) (List.range' 0 ops.size)=some a/\ cSel C ops (z9q C ops p q) (zji p q ops.size)=some b:=by
 simp only [z8p]at h
 split at h
 ·rename_i hok
  simp only [Option.bind_eq_some_iff,Option.map_eq_some_iff]at h
  obtain⟨a,h1,b,h2,rfl⟩:=h
  exact⟨a,b,rfl,hok.1,hok.2.1,hok.2.2,h1,h2⟩
 ·cases h
theorem zga{C:Ctx}{ops:Array Oper}{need:Nat->Nd}{B:List Nat}:∀(A:List Nat) (as_:List AIns),cSel C ops need (A++B)=some as_->∃a b,as_=a++b/\ a.length=A.length/\ cSel C ops need A=some a/\ cSel C ops need B=some b
 | [],as_,h=>⟨[],as_,rfl,rfl,rfl,h⟩
 |i::A,as_,h=>by
  simp only [List.cons_append,cSel,Option.bind_eq_some_iff,Option.map_eq_some_iff]at h
  obtain⟨o,h0,x,hx,as',has,rfl⟩:=h
  obtain⟨a,b,rfl,h1,h2,h3⟩:=zga A as' has
  exact⟨x::a,b,rfl,by simp [h1],by simp [cSel,h0,hx,h2],h3⟩
theorem zgb{C:Ctx}{ops:Array Oper}{need:Nat->Nd}:∀(A:List Nat) (as_:List AIns),cSel C ops need A=some as_->∀a ∈ as_,∃i,a.need=need i
 | [],as_,h=>by simp only [cSel,Option.some.injEq]at h;subst h;simp
 |i::A,as_,h=>by
  simp only [cSel,Option.bind_eq_some_iff,Option.map_eq_some_iff]at h
  obtain⟨o,h0,x,hx,as',has,rfl⟩:=h
  intro a ha
  rcases List.mem_cons.1 ha with rfl|ha
  ·simp only [cIns,Option.map_eq_some_iff]at hx
   obtain⟨g,_,rfl⟩:=hx
   exact⟨i,rfl⟩
  ·exact zgb A as' has a ha
theorem zoj{C:Ctx}{ops:Array Oper}(i:Nat):(z71 C ops).getD i .no ≠ .pu:=by
 have:∀x ∈ z71 C ops,x ≠ .pu:=by
  intro x hx
  simp only [z71,List.mem_map]at hx
  obtain⟨j,_,rfl⟩:=hx
  split
  ·split
   ·simp
   ·split
    ·simp
    ·split
     ·simp
     ·split<;>simp
  ·simp
 rw [List.getD_eq_getElem?_getD]
 cases h:(z71 C ops)[i]? with
 |none=>simp
 |some x=>exact this x (List.mem_of_getElem? h)
theorem zsp{C:Ctx}{ops:Array Oper}(p q i:Nat):z7c C ops p q i ≠ .pu:=by
 unfold z7c
 split
 ·simp
 ·exact zoj i
theorem zg9{C:Ctx}{ops:Array Oper}{need:Nat->Nd}{K:Env->Store->Prop}{p q:Nat}{B D:List Nat}{l m:List AIns}(hl:cSel C ops need (p::(B++q::D))=some l)(hm:cSel C ops need (q::p::(B++D))=some m):
  ∀(A:List Nat) (as_:List AIns),cSel C ops need A=some as_->∀H H' ρ J,HR H H'->z14 C K l m as_ H ρ J->z25 C ops need (z66 C ops need K p q B D) A H' ρ J
 | [],as_,h,H,H',ρ,J,hH,hw=>by
  simp only [cSel,Option.some.injEq]at h
  subst h
  exact⟨z8n _ _ hl H H' ρ J hH hw.1,z8n _ _ hm H H' ρ J hH hw.2⟩
 |i::A,as_,h,H,H',ρ,J,hH,hw=>by
  simp only [cSel,Option.bind_eq_some_iff,Option.map_eq_some_iff]at h
  obtain⟨o,h0,a,ha,as',has,rfl⟩:=h
  simp only [z25,h0]
  exact zg8 ha (F:=z14 C K l m as') (fun H H' ρ J hH hk=>zg9 hl hm A as' has H H' ρ J hH hk) hH hw
def z7l(C:Ctx)(ops:Array Oper):Option ACode:=
 let nd:=zd0 C ops
 if C.P.follows .mixedOrders=true/\ zd5 C ops (fun i=>nd.getD i .no)=true/\ z48 ops=true then(cOps C ops (fun i=>nd.getD i .no) ops.toList 0).map .reg else none
/-! Code. -/
def z1a(C:Ctx)(n:Nat):Code->Option ACode
  | .skip=>some .skip
  | .region _ ops draw => if z8u n ops = true then
      (match draw with
       |true=>(match twinP C ops with
         |some pq=>(match z8o C ops pq.1 pq.2 with
           |some c=>some c
           |none=>z7l C ops)
         |none=>(match twinPJ C ops with
           |some pq=>(match z8p C ops pq.1 pq.2 with
             |some c=>some c
             |none=>z7l C ops)
           |none=>z7l C ops))
       |false=>(cOps C ops (fun _=> .no) ops.toList 0).map .reg)else none
  | .seq a b=>(z1a C n a).bind fun a=>(z1a C n b).map fun b=> .seq a b
  | .cond c a b=>(cX C c).bind fun c=>(z1a C n a).bind fun a=>(z1a C n b).map fun b=> .cond c a b
  | .block id a=>(z1a C n a).map fun a=> .block id a
  | .loop a=>(z1a C n a).map .loop
  | .exit id=>some (.exit id)
  | .label _=>some .skip
  | .ret=>some .ret
  | .scope a=>(z1a C n a).map .scope
  | .rangeFunc g ps a b=>(cX C g).bind fun g=>(z1a C n a).bind fun a=>(z1a C n b).map fun b=> .rangef g ps.toList a b
  | _=>some .stuck
theorem zah{C:Ctx}{ops:Array Oper}{ac:ACode}(h:z7l C ops=some ac):∃l,ac= .reg l/\ C.P.follows .mixedOrders=true/\ zd5 C ops (fun i=>(zd0 C ops).getD i .no)=true/\ z48 ops=true/\ cOps C ops (fun i=>(zd0 C ops).getD i .no) ops.toList 0=some l:=by
 simp only [z7l]at h
 split at h
 ·rename_i hok
  simp only [Option.map_eq_some_iff]at h
  obtain⟨l,h1,rfl⟩:=h
  exact⟨l,rfl,hok.1,hok.2.1,hok.2.2,h1⟩
 ·cases h
theorem z8r{C:Ctx}{ops:Array Oper}{p q:Nat}{ac:ACode}(h:z8o C ops p q=some ac):∃a b,ac= .reg2 a b/\ C.P.follows .mixedOrders=true/\ zd6 C ops p q=true/\ z48 ops=true ∧
  cSel C ops (z7c C ops p q) (List.range' 0 ops.size)=some a/\ cSel C ops (z7c C ops p q) (twinL p q ops.size)=some b:=by
 simp only [z8o]at h
 split at h
 ·rename_i hok
  simp only [Option.bind_eq_some_iff,Option.map_eq_some_iff]at h
  obtain⟨a,h1,b,h2,rfl⟩:=h
  exact⟨a,b,rfl,hok.1,hok.2.1,hok.2.2,h1,h2⟩
 ·cases h
theorem zag{C:Ctx}{n id:Nat}{ops:Array Oper}{draw:Bool}{ac:ACode}(h:z1a C n (.region id ops draw)=some ac):
  z8u n ops=true/\ ((draw=true/\ z7l C ops=some ac) \/(draw=true/\ ∃p q,z8o C ops p q=some ac \/z8p C ops p q=some ac) \/(draw=false/\ ∃l,ac= .reg l/\ cOps C ops (fun _=> .no) ops.toList 0=some l)):=by
 simp only [z1a]at h
 split at h
 ·rename_i hd
  refine⟨hd,?_⟩
  split at h
  ·split at h
   ·split at h
    ·rename_i hc
     exact .inr (.inl ⟨rfl,_,_,.inl (by rw [hc];exact h)⟩)
    ·exact .inl ⟨rfl,h⟩
   ·split at h
    ·split at h
     ·rename_i hc
      exact .inr (.inl ⟨rfl,_,_,.inr (by rw [hc];exact h)⟩)
     ·exact .inl ⟨rfl,h⟩
    ·exact .inl ⟨rfl,h⟩
  ·simp only [Option.map_eq_some_iff]at h
   obtain⟨l,h1,rfl⟩:=h
   exact .inr (.inr ⟨rfl,l,rfl,h1⟩)
 ·cases h
theorem z69{C:Ctx}{n id:Nat}{ops:Array Oper}{draw:Bool}{ac:ACode}(h:z1a C n (.region id ops draw)=some ac):(∃l,ac= .reg l) \/ ∃a b,ac= .reg2 a b:=by
 rcases(zag h).2 with⟨_,h⟩| ⟨_,p,q,h⟩| ⟨_,l,h,_⟩
 ·obtain⟨l,h,_⟩:=zah h;exact .inl ⟨l,h⟩
 ·rcases h with h|h
  ·obtain⟨a,b,h,_⟩:=z8r h;exact .inr ⟨a,b,h⟩
  ·obtain⟨a,b,h,_⟩:=z8q h;exact .inr ⟨a,_,h⟩
 ·exact .inl ⟨l,h⟩
def AExit.out:AExit->Exit
 | .normal=> .normal
 | .exit id=> .exit id
 | .ret=> .ret
end
section
structure DC where
 J:Store
 n:Nat
 pre:Nat->Nat
 fz:Nat->Bool
mutual
def DR(D:DC):AV->AV->Prop
  | .any,_=>True
  | .undef,a=>a= .undef
  | .bool b,a=>a= .bool b
  | .int k n,a=>a= .int k n
  | .str s,a=>a= .str s
  | .nilp,a=>a= .nilp
  | .ptr r i off,a=>r<D.n/\ a= .ptr (D.pre r) i off
  | .vp cs, a => (∃ cs0, a = .vp cs0 /\ DRs D cs cs0) ∨
      ∃r i off o e,a= .ptr r i off/\ D.fz r=true/\ D.J[r]? =some (some o)/\ o[i]? =some e/\ off<=e.length/\ DRs D cs (e.drop off)
  | .nilsl,a=>a= .nilsl
  | .vsl esz es ex, a => (∃ es0 ex0, a = .vsl esz es0 ex0 /\ (ex = true -> ex0 = true) /\ DRss D es es0) ∨
      (∃r off lim o,a= .sl r off es.length lim esz/\ D.fz r=true/\ D.J[r]? =some (some o)/\ off+es.length<=o.length/\ (ex=true->lim=some es.length)/\ DRss D es ((o.drop off).take es.length)) ∨
      ∃r i off cap o cs es1 rest,a= .asl r i off es.length cap esz/\ D.fz r=true/\ D.J[r]? =some (some o)/\ o[i]? =some cs/\ off<=cs.length/\ cs.drop off=es1.flatten++rest/\ (∀e ∈ es1,e.length=esz)/\ es.length ≠ 0/\ (ex=true->cap=es.length)/\ DRss D es es1
  | .sl r off len lim esz,a=>r<D.n/\ a= .sl (D.pre r) off len lim esz
  | .asl r i off len cap esz,a=>r<D.n/\ a= .asl (D.pre r) i off len cap esz
  | .fn f caps,a=>∃caps0,a= .fn f caps0/\ DRs D caps caps0
  | .nilfn,a=>a= .nilfn
  | .agg cs,a=>∃cs0,a= .agg cs0/\ DRs D cs cs0
  | .tup vs,a=>∃vs0,a= .tup vs0/\ DRs D vs vs0
  | .bld r,a=>r<D.n/\ a= .bld (D.pre r)
  | .bnil,a=>a= .bnil
  | .bsl r len,a=>r<D.n/\ a= .bsl (D.pre r) len
def DRs(D:DC):List AV->List AV->Prop
 | [],as_=>as_=[]
 |x::xs,as_=>∃a as',as_=a::as'/\ DR D x a/\ DRs D xs as'
def DRss(D:DC):List (List AV)->List (List AV)->Prop
 | [],es=>es=[]
 |x::xs,es=>∃e es',es=e::es'/\ DRs D x e/\ DRss D xs es'
end
mutual
def RL(k:Nat):AV->Prop
 | .ptr r _ _=>r<k
 | .sl r _ _ _ _=>r<k
 | .asl r _ _ _ _ _=>r<k
 | .bld r=>r<k
 | .bsl r _=>r<k
 | .vp cs=>RLs k cs
 | .vsl _ es _=>RLss k es
 | .fn _ caps=>RLs k caps
 | .agg cs=>RLs k cs
 | .tup vs=>RLs k vs
 | _=>True
def RLs(k:Nat):List AV->Prop
 | []=>True
 |a::as_=>RL k a/\ RLs k as_
def RLss(k:Nat):List (List AV)->Prop
 | []=>True
 |e::es=>RLs k e/\ RLss k es
end
theorem RLs_iff{k:Nat}:∀{l:List AV},RLs k l ↔ ∀a ∈ l,RL k a
 | []=>by simp [RLs]
 |a::l=>by simp [RLs,RLs_iff (l:=l)]
theorem zf4{k:Nat}:∀{l:List (List AV)},RLss k l ↔ ∀e ∈ l,RLs k e
 | []=>by simp [RLss]
 |a::l=>by simp [RLss,zf4 (l:=l)]
mutual
theorem DR.refl{D:DC}{k:Nat}(hk:∀r,r<k->r<D.n/\ D.pre r=r):∀(a:AV),RL k a->DR D a a
 | .any,_=>by simp only [DR]
 | .undef,_=>by simp only [DR]
 | .bool _,_=>by simp only [DR]
 | .int _ _,_=>by simp only [DR]
 | .str _,_=>by simp only [DR]
 | .nilp,_=>by simp only [DR]
 | .ptr r i off,h=>by simp only [RL]at h;simp only [DR];obtain⟨h1,h2⟩:=hk r h;exact⟨h1,by rw [h2]⟩
 | .vp cs,h=>by simp only [RL]at h;simp only [DR];exact .inl ⟨cs,rfl,DRs.refl hk cs h⟩
 | .nilsl,_=>by simp only [DR]
 | .vsl esz es ex,h=>by simp only [RL]at h;simp only [DR];exact .inl ⟨es,ex,rfl,fun h=>h,DRss.refl hk es h⟩
 | .sl r off len lim esz,h=>by simp only [RL]at h;simp only [DR];obtain⟨h1,h2⟩:=hk r h;exact⟨h1,by rw [h2]⟩
 | .asl r i off len cap esz,h=>by simp only [RL]at h;simp only [DR];obtain⟨h1,h2⟩:=hk r h;exact⟨h1,by rw [h2]⟩
 | .fn f caps,h=>by simp only [RL]at h;simp only [DR];exact⟨caps,rfl,DRs.refl hk caps h⟩
 | .nilfn,_=>by simp only [DR]
 | .agg cs,h=>by simp only [RL]at h;simp only [DR];exact⟨cs,rfl,DRs.refl hk cs h⟩
 | .tup vs,h=>by simp only [RL]at h;simp only [DR];exact⟨vs,rfl,DRs.refl hk vs h⟩
 | .bld r,h=>by simp only [RL]at h;simp only [DR];obtain⟨h1,h2⟩:=hk r h;exact⟨h1,by rw [h2]⟩
 | .bnil,_=>by simp only [DR]
 | .bsl r len,h=>by simp only [RL]at h;simp only [DR];obtain⟨h1,h2⟩:=hk r h;exact⟨h1,by rw [h2]⟩
theorem DRs.refl{D:DC}{k:Nat}(hk:∀r,r<k->r<D.n/\ D.pre r=r):∀(l:List AV),RLs k l->DRs D l l
 | [],_=>by simp only [DRs]
 |a::l,h=>by simp only [RLs]at h;simp only [DRs];exact⟨a,l,rfl,DR.refl hk a h.1,DRs.refl hk l h.2⟩
theorem DRss.refl{D:DC}{k:Nat}(hk:∀r,r<k->r<D.n/\ D.pre r=r):∀(l:List (List AV)),RLss k l->DRss D l l
 | [],_=>by simp only [DRss]
 |a::l,h=>by simp only [RLss]at h;simp only [DRss];exact⟨a,l,rfl,DRs.refl hk a h.1,DRss.refl hk l h.2⟩
end
/-! References of what stands in a world. -/
mutual
theorem VR.rl{γ:Places}{w:World}:∀(a:AV) (v:Value),VR γ w a v->RL γ.length a
 | .any,_,_=>by simp only [RL]
 | .undef,_,_=>by simp only [RL]
 | .bool _,_,_=>by simp only [RL]
 | .int _ _,_,_=>by simp only [RL]
 | .str _,_,_=>by simp only [RL]
 | .nilp,_,_=>by simp only [RL]
 | .ptr r i off,v,h=>by
  simp only [VR]at h;simp only [RL]
  obtain⟨fl,pl,h1,_⟩:=h
  exact(List.getElem?_eq_some_iff.1 h1).1
 | .vp cs,v,h=>by
  simp only [VR]at h;simp only [RL]
  obtain⟨b,o,vals,_,_,_,h4⟩:=h
  exact VRs.rl cs vals h4
 | .nilsl,_,_=>by simp only [RL]
 | .vsl esz es ex,v,h=>by
  simp only [VR]at h;simp only [RL]
  rcases h with⟨rfl,_⟩| ⟨b,o,cap,vals,_,_,_,_,_,_,h7⟩
  ·simp only [RLss]
  ·exact VRss.rl es vals h7
 | .sl r off len lim esz,v,h=>by
  simp only [VR]at h;simp only [RL]
  obtain⟨fl,pl,_,_,_,h1,_⟩:=h
  exact(List.getElem?_eq_some_iff.1 h1).1
 | .asl r i off len cap esz,v,h=>by
  simp only [VR]at h;simp only [RL]
  obtain⟨fl,pl,_,_,h1,_⟩:=h
  exact(List.getElem?_eq_some_iff.1 h1).1
 | .fn f caps,v,h=>by
  simp only [VR]at h;simp only [RL]
  obtain⟨vs,_,h2⟩:=h
  exact VRt.rl caps vs h2
 | .nilfn,_,_=>by simp only [RL]
 | .agg cs,v,h=>by
  simp only [VR]at h;simp only [RL]
  obtain⟨vs,_,h2⟩:=h
  exact VRs.rl cs vs h2
 | .tup cs,v,h=>by
  simp only [VR]at h;simp only [RL]
  obtain⟨vs,_,h2⟩:=h
  exact VRt.rl cs vs h2
 | .bld r,v,h=>by
  simp only [VR]at h;simp only [RL]
  obtain⟨fl,pl,h1,_⟩:=h
  exact(List.getElem?_eq_some_iff.1 h1).1
 | .bnil,_,_=>by simp only [RL]
 | .bsl r len,v,h=>by
  simp only [VR]at h;simp only [RL]
  obtain⟨fl,pl,cap,h1,_⟩:=h
  exact(List.getElem?_eq_some_iff.1 h1).1
theorem VRs.rl{γ:Places}{w:World}:∀(l:List AV) (vs:List Value),VRs γ w l vs->RLs γ.length l
 | [],_,_=>by simp only [RLs]
 |a::l,vs,h=>by
  simp only [VRs]at h;simp only [RLs]
  obtain⟨v,vs',_,h2,h3⟩:=h
  exact⟨VR.rl a v h2.1,VRs.rl l vs' h3⟩
theorem VRt.rl{γ:Places}{w:World}:∀(l:List AV) (vs:List Value),VRt γ w l vs->RLs γ.length l
 | [],_,_=>by simp only [RLs]
 |a::l,vs,h=>by
  simp only [VRt]at h;simp only [RLs]
  obtain⟨v,vs',_,h2,h3⟩:=h
  exact⟨VR.rl a v h2,VRt.rl l vs' h3⟩
theorem VRss.rl{γ:Places}{w:World}:∀(l:List (List AV)) (vs:List Value),VRss γ w l vs->RLss γ.length l
 | [],_,_=>by simp only [RLss]
 |e::l,vs,h=>by
  simp only [VRss]at h;simp only [RLss]
  obtain⟨v1,v2,_,h2,h3⟩:=h
  exact⟨VRs.rl e v1 h2,VRss.rl l v2 h3⟩
end
theorem zkg{k:Nat}{l:List (List AV)}:RLss k l ↔ RLs k l.flatten:=by
 rw [zf4,RLs_iff]
 constructor
 ·intro h a ha
  obtain⟨e,he,hae⟩:=List.mem_flatten.1 ha
  exact RLs_iff.1 (h e he) a hae
 ·intro h e he
  exact RLs_iff.2 fun a ha=>h a (List.mem_flatten.2 ⟨e,he,ha⟩)
def Wf(k:Nat)(J:Store):Prop:=∀(r:Nat) (o:AObj),J[r]? =some (some o)->RLss k o
theorem Rel.wf{C:Ctx}{γ:Places}{J:Store}{w:World}(h:Rel C γ J w):Wf J.length J:=by
 intro r o hr
 obtain⟨pl,h1,h2⟩:=h.alive r o hr
 obtain⟨c,ty,fz,pre,mid,post,_,_,_,_,h5,_⟩:=h2.ex
 rw [zkg,<-h.len]
 exact VRs.rl _ _ h5
/-! Soundness. -/
theorem ObjOK.seg{γ:Places}{w:World}{pl:Place}{o:AObj}(h:ObjOK γ w pl o){A B E:List AV}(he:o.flatten=A++B++E):∃vals,Seg w pl.b (pl.base+A.length) vals/\ VRs γ w B vals:=by
 obtain⟨c,ty,fz,pre,mid,post,h1,h2,h3,h4,h5,_⟩:=h.ex
 rw [he]at h5
 obtain⟨m12,m3,rfl,q1,q2⟩:=h5.append_inv
 obtain⟨m1,m2,rfl,q3,q4⟩:=q1.append_inv
 exact⟨m2,⟨c,ty,fz,pre++m1,m3++post,h1,by simp [h2,List.append_assoc],by rw [List.length_append,h3,q3.length]⟩,q4⟩
theorem ObjOK.none_at{γ:Places}{w:World}{pl:Place}{o:AObj}(h:ObjOK γ w pl o){k:Nat}(hk:k<=pl.tot):Seg w pl.b k []:=by
 obtain⟨c,ty,fz,pre,mid,post,h1,h2,h3,h4,h5,_⟩:=h.ex
 exact⟨c,ty,fz,c.toList.take k,c.toList.drop k,h1,by simp,by simp [h4,hk]⟩
structure DSnd(D:DC)(γ γ':Places)(w:World):Prop where
 ref:∀(r:Nat) (fl:Bool) (pl:Place),r<D.n->γ[D.pre r]? =some (fl,pl)->∃fl',γ'[r]? =some (fl',pl)
 imm:∀b,Imm γ w b->Imm γ' w b
 fz:∀(r:Nat) (pl:Place),D.fz r=true->γ[r]? =some (true,pl)->∀(r':Nat) (pl':Place),γ'[r']? =some (true,pl')->pl'.b ≠ pl.b
mutual
theorem DR.sound{C:Ctx}{D:DC}{γ γ':Places}{w:World}(hR:Rel C γ D.J w)(hs:DSnd D γ γ' w):∀(x a:AV) (v:Value),DR D x a->VR γ w a v->VR γ' w x v
 | .any,_,_,_,_=>by simp only [VR]
 | .undef,a,v,h,hv=>by simp only [DR]at h;subst h;simpa only [VR]using hv
 | .bool _,a,v,h,hv=>by simp only [DR]at h;subst h;simpa only [VR]using hv
 | .int _ _,a,v,h,hv=>by simp only [DR]at h;subst h;simpa only [VR]using hv
 | .str _,a,v,h,hv=>by simp only [DR]at h;subst h;simpa only [VR]using hv
 | .nilp,a,v,h,hv=>by simp only [DR]at h;subst h;simpa only [VR]using hv
 | .ptr r i off,a,v,h,hv=>by
  simp only [DR]at h
  obtain⟨h1,rfl⟩:=h
  simp only [VR]at hv ⊢
  obtain⟨fl,pl,h2,h3⟩:=hv
  obtain⟨fl',h4⟩:=hs.ref r fl pl h1 h2
  exact⟨fl',pl,h4,h3⟩
 | .vp cs,a,v,h,hv=>by
  simp only [DR]at h
  rcases h with⟨cs0,rfl,h⟩| ⟨r,i,off,o,e,rfl,h1,h2,h3,h4,h5⟩
  ·simp only [VR]at hv ⊢
   obtain⟨b,o,vals,k1,k2,k3,k4⟩:=hv
   exact⟨b,o,vals,k1,hs.imm b k2,k3,DRs.sound hR hs cs cs0 vals h k4⟩
  ·simp only [VR]at hv ⊢
   obtain⟨fl,pl,k1,rfl⟩:=hv
   obtain⟨pl',k2,k3⟩:=hR.alive r o h2
   rw [k1]at k2;cases k2
   obtain⟨hi,hei⟩:=List.getElem?_eq_some_iff.1 h3
   have hfl:o.flatten=((o.take i).flatten++e.take off)++e.drop off++(o.drop (i+1)).flatten:=by
    conv=>lhs;rw [<-List.take_append_drop i o,List.drop_eq_getElem_cons hi,hei]
    simp [List.append_assoc]
   obtain⟨vals,q1,q2⟩:=k3.seg hfl
   have hlen:((o.take i).flatten++e.take off).length=i*pl.esz+off:=by
    rw [List.length_append,z24 (k:=pl.esz) (fun e h=>k3.esz e (List.mem_of_mem_take h)),List.length_take,List.length_take,Nat.min_eq_left (by omega),Nat.min_eq_left (by omega)]
   rw [hlen]at q1
   exact⟨pl.b,pl.base+(i*pl.esz+off),vals,by rw [Nat.add_assoc],⟨k3.lt,hs.fz r pl h1 k1⟩,q1,DRs.sound hR hs cs _ vals h5 q2⟩
 | .nilsl,a,v,h,hv=>by simp only [DR]at h;subst h;simpa only [VR]using hv
 | .vsl esz es ex,a,v,h,hv=>by
  simp only [DR]at h
  rcases h with⟨es0,ex0,rfl,hex,h⟩| ⟨r,off,lim,o,rfl,h1,h2,h3,h4,h5⟩| ⟨r,i,off,cap0,o,cs,es1,rest,rfl,h1,h2,h3,h4,h5,h6,h7,h8,h9⟩
  ·simp only [VR]at hv ⊢
   rcases hv with⟨rfl,hv⟩| ⟨b,o,cap,vals,k1,k2,k3,k4,k5,k6,k7⟩
   ·refine .inl ⟨?_,hv⟩
    cases es with
    |nil=>rfl
    |cons e es=>simp [DRss]at h
   obtain⟨q1,q2⟩:=DRss.sound hR hs es es0 vals h k7
   exact .inr ⟨b,o,cap,vals,by rw [q2.1];exact k1,by rw [q2.1];exact k2,fun e=>by rw [q2.1];exact k3 (hex e),hs.imm b k4,k5,q2.2 esz k6,q1⟩
  ·simp only [VR]at hv ⊢
   obtain⟨fl,pl,b,o_,cap,k1,k2,rfl,k3⟩:=hv
   obtain⟨pl',k4,k5⟩:=hR.alive r o h2
   rw [k1]at k4;cases k4
   have hbb:=k3.blk
   subst hbb
   have hfl:o.flatten=(o.take off).flatten++((o.drop off).take es.length).flatten++((o.drop off).drop es.length).flatten:=by
    conv=>lhs;rw [<-List.take_append_drop off o,<-List.take_append_drop es.length (o.drop off)]
    rw [List.flatten_append,List.flatten_append,List.append_assoc]
   obtain⟨vals,q1,q2⟩:=k5.seg hfl
   have hlen:((o.take off).flatten).length=off*pl.esz:=by
    rw [z24 (k:=pl.esz) (fun e h=>k5.esz e (List.mem_of_mem_take h)),List.length_take,Nat.min_eq_left (by omega)]
   rw [hlen]at q1
   obtain⟨q3,q4⟩:=DRss.sound hR hs es _ vals h5 (VRss.flat.2 q2)
   have hseg:Seg w pl.b o_ vals:=by
    by_cases hc:cap=0
    ·have:=k3.le
     have hz:es=[]:=List.eq_nil_of_length_eq_zero (by omega)
     subst hz
     simp only [VRss]at q3
     subst q3
     exact k5.none_at k3.ole
    ·rw [(k3.at_ hc).2];exact q1
   right
   refine⟨pl.b,o_,cap,vals,rfl,k3.le,fun e=>k3.lim_ _ (h4 e),⟨k5.lt,hs.fz r pl h1 k1⟩,hseg,q4.2 esz ?_,q3⟩
   intro e he
   rw [<-k2]
   exact k5.esz e (List.mem_of_mem_drop (List.mem_of_mem_take he))
  ·simp only [VR]at hv ⊢
   obtain⟨fl,pl,b,o_,k1,rfl,k3,k6⟩:=hv
   obtain⟨pl',k4,k5⟩:=hR.alive r o h2
   rw [k1]at k4;cases k4
   obtain⟨rfl,rfl⟩:=k6 (by omega)
   obtain⟨hi,hei⟩:=List.getElem?_eq_some_iff.1 h3
   have hfl:o.flatten=((o.take i).flatten++cs.take off)++es1.flatten++(rest++(o.drop (i+1)).flatten):=by
    conv=>lhs;rw [<-List.take_append_drop i o,List.drop_eq_getElem_cons hi,hei]
    have e2:cs=cs.take off++(es1.flatten++rest):=by rw [<-h5,List.take_append_drop]
    rw [List.flatten_append,List.flatten_cons]
    conv=>lhs;rw [e2]
    simp only [List.append_assoc]
   obtain⟨vals,q1,q2⟩:=k5.seg hfl
   have hlen:((o.take i).flatten++cs.take off).length=i*pl.esz+off:=by
    rw [List.length_append,z24 (k:=pl.esz) (fun e h=>k5.esz e (List.mem_of_mem_take h)),List.length_take,List.length_take,Nat.min_eq_left (by omega),Nat.min_eq_left (by omega)]
   rw [hlen]at q1
   obtain⟨q3,q4⟩:=DRss.sound hR hs es _ vals h9 (VRss.flat.2 q2)
   right
   exact⟨pl.b,pl.base+(i*pl.esz+off),cap0,vals,by rw [Nat.add_assoc],k3,h8,⟨k5.lt,hs.fz r pl h1 k1⟩,q1,q4.2 esz h6,q3⟩
 | .sl r off len lim esz,a,v,h,hv=>by
  simp only [DR]at h
  obtain⟨h1,rfl⟩:=h
  simp only [VR]at hv ⊢
  obtain⟨fl,pl,b,o,cap,h2,h3⟩:=hv
  obtain⟨fl',h4⟩:=hs.ref r fl pl h1 h2
  exact⟨fl',pl,b,o,cap,h4,h3⟩
 | .asl r i off len cap esz,a,v,h,hv=>by
  simp only [DR]at h
  obtain⟨h1,rfl⟩:=h
  simp only [VR]at hv ⊢
  obtain⟨fl,pl,b,o,h2,h3⟩:=hv
  obtain⟨fl',h4⟩:=hs.ref r fl pl h1 h2
  exact⟨fl',pl,b,o,h4,h3⟩
 | .fn f caps,a,v,h,hv=>by
  simp only [DR]at h
  obtain⟨caps0,rfl,h⟩:=h
  simp only [VR]at hv ⊢
  obtain⟨vs,h1,h2⟩:=hv
  exact⟨vs,h1,DRs.soundt hR hs caps caps0 vs h h2⟩
 | .nilfn,a,v,h,hv=>by simp only [DR]at h;subst h;simpa only [VR]using hv
 | .agg cs,a,v,h,hv=>by
  simp only [DR]at h
  obtain⟨cs0,rfl,h⟩:=h
  simp only [VR]at hv ⊢
  obtain⟨vs,h1,h2⟩:=hv
  exact⟨vs,h1,DRs.sound hR hs cs cs0 vs h h2⟩
 | .tup cs,a,v,h,hv=>by
  simp only [DR]at h
  obtain⟨cs0,rfl,h⟩:=h
  simp only [VR]at hv ⊢
  obtain⟨vs,h1,h2⟩:=hv
  exact⟨vs,h1,DRs.soundt hR hs cs cs0 vs h h2⟩
 | .bld r,a,v,h,hv=>by
  simp only [DR]at h
  obtain⟨h1,rfl⟩:=h
  simp only [VR]at hv ⊢
  obtain⟨fl,pl,h2,h3⟩:=hv
  obtain⟨fl',h4⟩:=hs.ref r fl pl h1 h2
  exact⟨fl',pl,h4,h3⟩
 | .bnil,a,v,h,hv=>by simp only [DR]at h;subst h;simpa only [VR]using hv
 | .bsl r len,a,v,h,hv=>by
  simp only [DR]at h
  obtain⟨h1,rfl⟩:=h
  simp only [VR]at hv ⊢
  obtain⟨fl,pl,cap,h2,h3⟩:=hv
  obtain⟨fl',h4⟩:=hs.ref r fl pl h1 h2
  exact⟨fl',pl,cap,h4,h3⟩
theorem DRs.sound{C:Ctx}{D:DC}{γ γ':Places}{w:World}(hR:Rel C γ D.J w)(hs:DSnd D γ γ' w):∀(xs as_:List AV) (vs:List Value),DRs D xs as_->VRs γ w as_ vs->VRs γ' w xs vs
 | [],as_,vs,h,hv=>by simp only [DRs]at h;subst h;simpa only [VRs]using hv
 |x::xs,as_,vs,h,hv=>by
  simp only [DRs]at h
  obtain⟨a,as',rfl,h1,h2⟩:=h
  simp only [VRs]at hv ⊢
  obtain⟨v,vs',k1,k2,k3⟩:=hv
  exact⟨v,vs',k1,⟨DR.sound hR hs x a v h1 k2.1,k2.2⟩,DRs.sound hR hs xs as' vs' h2 k3⟩
theorem DRs.soundt{C:Ctx}{D:DC}{γ γ':Places}{w:World}(hR:Rel C γ D.J w)(hs:DSnd D γ γ' w):∀(xs as_:List AV) (vs:List Value),DRs D xs as_->VRt γ w as_ vs->VRt γ' w xs vs
 | [],as_,vs,h,hv=>by simp only [DRs]at h;subst h;simpa only [VRt]using hv
 |x::xs,as_,vs,h,hv=>by
  simp only [DRs]at h
  obtain⟨a,as',rfl,h1,h2⟩:=h
  simp only [VRt]at hv ⊢
  obtain⟨v,vs',k1,k2,k3⟩:=hv
  exact⟨v,vs',k1,DR.sound hR hs x a v h1 k2,DRs.soundt hR hs xs as' vs' h2 k3⟩
theorem DRss.sound{C:Ctx}{D:DC}{γ γ':Places}{w:World}(hR:Rel C γ D.J w)(hs:DSnd D γ γ' w):∀(xs as_:List (List AV)) (vs:List Value),DRss D xs as_->VRss γ w as_ vs->
  VRss γ' w xs vs/\ xs.length=as_.length/\ ∀k,(∀e ∈ as_,e.length=k)->∀e ∈ xs,e.length=k
 | [],as_,vs,h,hv=>by
  simp only [DRss]at h;subst h
  exact⟨by simpa only [VRss]using hv,rfl,fun _ _ e he=>by simp at he⟩
 |x::xs,as_,vs,h,hv=>by
  simp only [DRss]at h
  obtain⟨a,as',rfl,h1,h2⟩:=h
  simp only [VRss]at hv ⊢
  obtain⟨v1,v2,k1,k2,k3⟩:=hv
  obtain⟨q1,q2,q3⟩:=DRss.sound hR hs xs as' v2 h2 k3
  have q4:=DRs.sound hR hs x a v1 h1 k2
  refine⟨⟨v1,v2,k1,q4,q1⟩,by simp [q2],fun k hk e he=> ?_⟩
  rcases List.mem_cons.1 he with rfl|he
  ·rw [q4.length,<-k2.length];exact hk a (by simp)
  ·exact q3 k (fun e he=>hk e (by simp [he])) e he
end
structure DownS(k:Nat)(D:DC)(J':Store):Prop where
 n:D.n=J'.length
 pin:∀r,r<k->r<J'.length/\ D.pre r=r
 lt:∀r,r<J'.length->D.pre r<D.J.length
 inj:∀r r',r<J'.length->r'<J'.length->D.pre r=D.pre r'->r=r'
 obj:∀(r:Nat) (o':AObj),J'[r]? =some (some o')->∃o,D.J[D.pre r]? =some (some o)/\ DRss D o' o
 fz:∀r,D.fz r=true->∀r',r'<J'.length->D.pre r'=r->J'[r']? =some none
def DownV(k:Nat)(v:AV)(J:Store)(v':AV)(J':Store):Prop:=∃D,D.J=J/\ DownS k D J'/\ DR D v' v
def Down(k:Nat)(ρ:Env)(J:Store)(ρ':Env)(J':Store):Prop:=∃D,D.J=J/\ DownS k D J'/\ ∀t,DR D (ρ' t) (ρ t)
def Glob(C:Ctx)(γ:Places)(w:World):Prop:=∀(g:Nat) (cs:List AV),C.gl g=some cs->VR γ w (.vp cs) (.pointer (some ⟨g,0,none⟩))
theorem DownS.sound{C:Ctx}{k:Nat}{D:DC}{J':Store}{γ0 γ:Places}{w0 w:World}(h:DownS k D J')(hR:Rel C γ D.J w)(hst:Step γ0 w0 γ w)(hgl:Glob C γ0 w0)(hk:γ0.length<=k):
  ∃γ',Step γ0 w0 γ' w/\ Rel C γ' J' w/\ ∀x a v,DR D x a->VR γ w a v->VR γ' w x v:=by
 let f:Nat->Bool × Place:=fun r=>((match J'[r]? with|some (some _)=>true| _=>false),(γ[D.pre r]?.getD (true,⟨0,0,0,0,0,0⟩)).2)
 let γ':Places:=(List.range J'.length).map f
 have hlen:γ'.length=J'.length:=by simp [γ']
 have hget:∀r,r<J'.length->γ'[r]? =some (f r):=fun r hr=>by simp [γ',hr]
 have hold:∀r,r<J'.length->∃fl pl,γ[D.pre r]? =some (fl,pl)/\ (f r).2=pl:=fun r hr=>by
  have h1:=h.lt r hr
  rw [<-hR.len]at h1
  refine⟨γ[D.pre r].1,γ[D.pre r].2,List.getElem?_eq_getElem h1,?_⟩
  simp only [f,List.getElem?_eq_getElem h1,Option.getD_some]
 have live:∀(r:Nat) (pl:Place),γ'[r]? =some (true,pl)->r<J'.length/\ (∃o',J'[r]? =some (some o'))/\ γ[D.pre r]? =some (true,pl):=by
  intro r pl hr
  have hl:r<J'.length:=by rw [<-hlen];exact(List.getElem?_eq_some_iff.1 hr).1
  rw [hget r hl]at hr
  simp only [Option.some.injEq]at hr
  obtain⟨fl,pl',h1,h2⟩:=hold r hl
  have hf1:(f r).1=true:=by rw [hr]
  have hf2:pl=pl':=by rw [<-h2,hr]
  subst hf2
  have ho:∃o',J'[r]? =some (some o'):=by
   simp only [f]at hf1
   split at hf1
   ·rename_i o' ho;exact⟨o',ho⟩
   ·cases hf1
  obtain⟨o',ho'⟩:=ho
  obtain⟨o,h3,h4⟩:=h.obj r o' ho'
  obtain⟨pl2,h5,h6⟩:=hR.alive _ o h3
  rw [h1]at h5;cases h5
  exact⟨hl,⟨o',ho'⟩,h1⟩
 have himm:∀b,Imm γ w b->Imm γ' w b:=fun b hb=>⟨hb.1,fun r pl hr e=>by
  obtain⟨_,_,h3⟩:=live r pl hr
  exact hb.2 _ pl h3 e⟩
 have hs:DSnd D γ γ' w:=by
  refine⟨fun r fl pl hr hg=> ?_,himm,fun r pl hfz hg r' pl' hg' e=> ?_⟩
  ·rw [h.n]at hr
   obtain⟨fl2,pl2,h1,h2⟩:=hold r hr
   rw [hg]at h1;cases h1
   exact⟨(f r).1,by rw [hget r hr,<-h2]⟩
  ·obtain⟨hl,⟨o',ho'⟩,h3⟩:=live r' pl' hg'
   have:=hR.inj _ _ pl' pl h3 hg e
   rw [h.fz r hfz r' hl this]at ho'
   cases ho'
 have key:=fun x a v=>DR.sound hR hs x a v
 have st:Step γ0 w0 γ' w:=by
  refine⟨fun r fl pl hr=> ?_,hst.size,hst.imm,fun r pl hr=> ?_,hst.os,hst.tape,hst.output⟩
  ·have hrk:r<k:=Nat.lt_of_lt_of_le (List.getElem?_eq_some_iff.1 hr).1 hk
   obtain⟨h1,h2⟩:=h.pin r hrk
   obtain⟨fl',h3⟩:=hst.keep r fl pl hr
   exact hs.ref r fl' pl (by rw [h.n];exact h1) (by rw [h2];exact h3)
  ·obtain⟨_,_,h3⟩:=live r pl hr
   exact hst.new _ pl h3
 refine⟨γ',st,⟨hlen,fun r o' hr=> ?_,fun r hr=> ?_,fun r r' pl pl' hr hr' e=> ?_,fun g cs hg=> ?_⟩,key⟩
 ·have hl:r<J'.length:=(List.getElem?_eq_some_iff.1 hr).1
  obtain⟨o,h1,h2⟩:=h.obj r o' hr
  obtain⟨pl,h3,h4⟩:=hR.alive _ o h1
  obtain⟨fl,pl2,h5,h6⟩:=hold r hl
  rw [h3]at h5;cases h5
  obtain⟨c,ty,fz,pre,mid,post,q1,q2,q3,q4,q5,q6⟩:=h4.ex
  obtain⟨k1,k2,k3⟩:=DRss.sound hR hs o' o mid h2 (VRss.flat.2 q5)
  refine⟨pl,?_,⟨by rw [k2];exact h4.len,k3 _ h4.esz,h4.tyk,c,ty,fz,pre,mid,post,q1,q2,q3,q4,VRss.flat.1 k1,q6⟩⟩
  rw [hget r hl]
  congr 1
  exact Prod.ext (by simp only [f,hr]) h6
 ·have hl:r<J'.length:=(List.getElem?_eq_some_iff.1 hr).1
  refine⟨(f r).2,?_⟩
  rw [hget r hl]
  congr 1
  exact Prod.ext (by simp only [f,hr]) rfl
 ·obtain⟨l1,_,h1⟩:=live r pl hr
  obtain⟨l2,_,h2⟩:=live r' pl' hr'
  exact h.inj r r' l1 l2 (hR.inj _ _ pl pl' h1 h2 e)
 ·exact(hgl g cs hg).mono st
theorem Down.sound{C:Ctx}{k:Nat}{ρ ρ':Env}{J J':Store}{γ0 γ:Places}{w0 w:World}{tmps:Array Value}(h:Down k ρ J ρ' J')(hR:Rel C γ J w)(hE:EnvR γ w ρ tmps)(hst:Step γ0 w0 γ w)(hgl:Glob C γ0 w0)(hk:γ0.length<=k):
  ∃γ',Step γ0 w0 γ' w/\ Rel C γ' J' w/\ EnvR γ' w ρ' tmps:=by
 obtain⟨D,rfl,h1,h2⟩:=h
 obtain⟨γ',k1,k2,k3⟩:=h1.sound hR hst hgl hk
 exact⟨γ',k1,k2,fun t=>k3 _ _ _ (h2 t) (hE t)⟩
theorem DownV.sound{C:Ctx}{k:Nat}{v v':AV}{cv:Value}{J J':Store}{γ0 γ:Places}{w0 w:World}(h:DownV k v J v' J')(hR:Rel C γ J w)(hv:VR γ w v cv)(hst:Step γ0 w0 γ w)(hgl:Glob C γ0 w0)(hk:γ0.length<=k):
  ∃γ',Step γ0 w0 γ' w/\ Rel C γ' J' w/\ VR γ' w v' cv:=by
 obtain⟨D,rfl,h1,h2⟩:=h
 obtain⟨γ',k1,k2,k3⟩:=h1.sound hR hst hgl hk
 exact⟨γ',k1,k2,k3 _ _ _ h2 hv⟩
end
section
def zW(C:Ctx)(n k:Nat)(ac:ACode)(Q:AExit->Env->Store->Prop)(ρ:Env)(J:Store):Prop:=
 ∀(c:Code),z1a C n c=some ac->∀(γ0:Places) (w0:World),Glob C γ0 w0->γ0.length=k->∀(γ:Places) (a:Act) (w:World),Step γ0 w0 γ w->Rel C γ J w->EnvR γ w ρ a.tmps->a.tmps.size=n->
  c.wp C.P (fun e a' w'=>∃ae ρ' J' γ',e=AExit.out ae/\ Q ae ρ' J'/\ Step γ0 w0 γ' w'/\ Rel C γ' J' w'/\ EnvR γ' w' ρ' a'.tmps/\ a'.defers=a.defers/\ a'.tmps.size=n) a w
def z2r(K:Env->Store->Prop)(Q:AExit->Env->Store->Prop):AExit->Env->Store->Prop
 | .normal=>K
 |e=>Q e
def blkQ(id:Nat)(Q:AExit->Env->Store->Prop):AExit->Env->Store->Prop
 | .exit i=>if i=id then Q .normal else Q (.exit i)
 |e=>Q e
section inv
variable {C:Ctx} {n:Nat} {c:Code}
theorem zfx(hc:z1a C n c=some .skip):c= .skip \/ ∃l,c= .label l:=by
 cases c
 case skip=>exact .inl rfl
 case label l=>exact .inr ⟨l,rfl⟩
 case region id ops draw=>rcases z69 hc with⟨_,h⟩| ⟨_,_,h⟩<;>cases h
 all_goals simp [z1a,Option.bind_eq_some_iff,Option.map_eq_some_iff]at hc
theorem zlm{id:Nat}(hc:z1a C n c=some (.exit id)):c= .exit id:=by
 cases c
 case exit i=>simp only [z1a,Option.some.injEq,ACode.exit.injEq]at hc;rw [hc]
 case region id ops draw=>rcases z69 hc with⟨_,h⟩| ⟨_,_,h⟩<;>cases h
 all_goals simp [z1a,Option.bind_eq_some_iff,Option.map_eq_some_iff]at hc
theorem zlo(hc:z1a C n c=some .ret):c= .ret:=by
 cases c
 case ret=>rfl
 case region id ops draw=>rcases z69 hc with⟨_,h⟩| ⟨_,_,h⟩<;>cases h
 all_goals simp [z1a,Option.bind_eq_some_iff,Option.map_eq_some_iff]at hc
theorem zfw{x y:ACode}(hc:z1a C n c=some (.seq x y)):∃c1 c2,c= .seq c1 c2/\ z1a C n c1=some x/\ z1a C n c2=some y:=by
 cases c
 case seq a b=>
  simp only [z1a,Option.bind_eq_some_iff,Option.map_eq_some_iff,ACode.seq.injEq]at hc
  obtain⟨a',h1,b',h2,rfl,rfl⟩:=hc
  exact⟨_,_,rfl,h1,h2⟩
 case region id ops draw=>rcases z69 hc with⟨_,h⟩| ⟨_,_,h⟩<;>cases h
 all_goals simp [z1a,Option.bind_eq_some_iff,Option.map_eq_some_iff]at hc
theorem zll{x:AX}{p q:ACode}(hc:z1a C n c=some (.cond x p q)):∃o c1 c2,c= .cond o c1 c2/\ cX C o=some x/\ z1a C n c1=some p/\ z1a C n c2=some q:=by
 cases c
 case cond o a b=>
  simp only [z1a,Option.bind_eq_some_iff,Option.map_eq_some_iff,ACode.cond.injEq]at hc
  obtain⟨o',h0,a',h1,b',h2,rfl,rfl,rfl⟩:=hc
  exact⟨_,_,_,rfl,h0,h1,h2⟩
 case region id ops draw=>rcases z69 hc with⟨_,h⟩| ⟨_,_,h⟩<;>cases h
 all_goals simp [z1a,Option.bind_eq_some_iff,Option.map_eq_some_iff]at hc
theorem zc6{id:Nat}{x:ACode}(hc:z1a C n c=some (.block id x)):∃c1,c= .block id c1/\ z1a C n c1=some x:=by
 cases c
 case block i a=>
  simp only [z1a,Option.map_eq_some_iff,ACode.block.injEq]at hc
  obtain⟨a',h1,rfl,rfl⟩:=hc
  exact⟨_,rfl,h1⟩
 case region id ops draw=>rcases z69 hc with⟨_,h⟩| ⟨_,_,h⟩<;>cases h
 all_goals simp [z1a,Option.bind_eq_some_iff,Option.map_eq_some_iff]at hc
theorem zlp{x:ACode}(hc:z1a C n c=some (.scope x)):∃c1,c= .scope c1/\ z1a C n c1=some x:=by
 cases c
 case scope a=>
  simp only [z1a,Option.map_eq_some_iff,ACode.scope.injEq]at hc
  obtain⟨a',h1,rfl⟩:=hc
  exact⟨_,rfl,h1⟩
 case region id ops draw=>rcases z69 hc with⟨_,h⟩| ⟨_,_,h⟩<;>cases h
 all_goals simp [z1a,Option.bind_eq_some_iff,Option.map_eq_some_iff]at hc
theorem zln{x:ACode}(hc:z1a C n c=some (.loop x)):∃c1,c= .loop c1/\ z1a C n c1=some x:=by
 cases c
 case loop a=>
  simp only [z1a,Option.map_eq_some_iff,ACode.loop.injEq]at hc
  obtain⟨a',h1,rfl⟩:=hc
  exact⟨_,rfl,h1⟩
 case region id ops draw=>rcases z69 hc with⟨_,h⟩| ⟨_,_,h⟩<;>cases h
 all_goals simp [z1a,Option.bind_eq_some_iff,Option.map_eq_some_iff]at hc
theorem zfu{l:List AIns}(hc:z1a C n c=some (.reg l)):∃id os draw,c= .region id os draw:=by
 cases c
 case region id ops draw=>exact⟨_,_,_,rfl⟩
 all_goals simp [z1a,Option.bind_eq_some_iff,Option.map_eq_some_iff]at hc
end inv
section
variable {C:Ctx} {n k:Nat} {Q:AExit->Env->Store->Prop} {ρ:Env} {J:Store}
theorem zk_(h:Q .normal ρ J):zW C n k .skip Q ρ J:=by
 intro c hc γ0 w0 hgl hk γ a w hst hR hE hn
 have:=zfx hc
 rcases this with rfl| ⟨l,rfl⟩
 ·exact wp_skip ⟨.normal,ρ,J,γ,rfl,h,hst,hR,hE,rfl,hn⟩
 ·exact wp_label ⟨.normal,ρ,J,γ,rfl,h,hst,hR,hE,rfl,hn⟩
theorem ze_{id:Nat}(h:Q (.exit id) ρ J):zW C n k (.exit id) Q ρ J:=by
 intro c hc γ0 w0 hgl hk γ a w hst hR hE hn
 have:=zlm hc
 subst this
 exact wp_exit ⟨.exit id,ρ,J,γ,rfl,h,hst,hR,hE,rfl,hn⟩
theorem zq_(h:Q .ret ρ J):zW C n k .ret Q ρ J:=by
 intro c hc γ0 w0 hgl hk γ a w hst hR hE hn
 have:=zlo hc
 subst this
 exact wp_ret ⟨.ret,ρ,J,γ,rfl,h,hst,hR,hE,rfl,hn⟩
theorem zW.mono{ac:ACode}{Q':AExit->Env->Store->Prop}(h:zW C n k ac Q ρ J)(hq:∀e ρ J,Q e ρ J->Q' e ρ J):zW C n k ac Q' ρ J:=by
 intro c hc γ0 w0 hgl hk γ a w hst hR hE hn
 refine wp_mono (h c hc γ0 w0 hgl hk γ a w hst hR hE hn) ?_
 rintro e a' w' ⟨ae,ρ',J',γ',h1,h2,h3⟩
 exact⟨ae,ρ',J',γ',h1,hq _ _ _ h2,h3⟩
theorem zs_{x y:ACode}(h:zW C n k x (z2r (zW C n k y Q) Q) ρ J):zW C n k (.seq x y) Q ρ J:=by
 intro c hc γ0 w0 hgl hk γ a w hst hR hE hn
 have:=zfw hc
 obtain⟨c1,c2,rfl,h1,h2⟩:=this
 refine wp_seq (wp_mono (h c1 h1 γ0 w0 hgl hk γ a w hst hR hE hn) ?_)
 rintro e a' w' ⟨ae,ρ',J',γ',rfl,hq,q1,q2,q3,q4,q5⟩
 cases ae with
 |normal=>
  refine wp_mono (hq c2 h2 γ0 w0 hgl hk γ' a' w' q1 q2 q3 q5) ?_
  rintro e a2 w2 ⟨ae,ρ2,J2,γ2,k1,k2,k3,k4,k5,k6,k7⟩
  exact⟨ae,ρ2,J2,γ2,k1,k2,k3,k4,k5,k6.trans q4,k7⟩
 |exit id=>exact⟨_,ρ',J',γ',rfl,hq,q1,q2,q3,q4,q5⟩
 |ret=>exact⟨_,ρ',J',γ',rfl,hq,q1,q2,q3,q4,q5⟩
theorem zW.cond{x:AX}{p q:ACode}{t:Bool}(hx:x.ev ρ= .bool t)(h1:t=true->zW C n k p Q ρ J)(h2:t=false->zW C n k q Q ρ J):zW C n k (.cond x p q) Q ρ J:=by
 intro c hc γ0 w0 hgl hk γ a w hst hR hE hn
 have:=zll hc
 obtain⟨o,c1,c2,rfl,k1,k2,k3⟩:=this
 have he:=zci hR hE o
 rw [<-z1i k1,hx]at he
 simp only [VR]at he
 refine wp_cond he ?_
 cases t
 ·exact h2 rfl c2 k3 γ0 w0 hgl hk γ a w hst hR hE hn
 ·exact h1 rfl c1 k2 γ0 w0 hgl hk γ a w hst hR hE hn
theorem zb_{id:Nat}{x:ACode}(h:zW C n k x (blkQ id Q) ρ J):zW C n k (.block id x) Q ρ J:=by
 intro c hc γ0 w0 hgl hk γ a w hst hR hE hn
 have:=zc6 hc
 obtain⟨c1,rfl,h1⟩:=this
 refine wp_block (wp_mono (h c1 h1 γ0 w0 hgl hk γ a w hst hR hE hn) ?_)
 rintro e a' w' ⟨ae,ρ',J',γ',rfl,hq,q⟩
 cases ae with
 |normal=>exact⟨.normal,ρ',J',γ',rfl,hq,q⟩
 |exit id'=>
  simp only [AExit.out,Exit.inBlock]
  simp only [blkQ]at hq
  split at hq
  ·rename_i he
   rw [if_pos he]
   exact⟨.normal,ρ',J',γ',rfl,hq,q⟩
  ·rename_i he
   rw [if_neg he]
   exact⟨.exit id',ρ',J',γ',rfl,hq,q⟩
 |ret=>exact⟨.ret,ρ',J',γ',rfl,hq,q⟩
theorem zc_{x:ACode}(h:zW C n k x Q ρ J):zW C n k (.scope x) Q ρ J:=by
 intro c hc γ0 w0 hgl hk γ a w hst hR hE hn
 have:=zlp hc
 obtain⟨c1,rfl,h1⟩:=this
 refine wp_scope_straight (wp_mono (h c1 h1 γ0 w0 hgl hk γ a w hst hR hE hn) ?_)
 rintro e a' w' ⟨ae,ρ',J',γ',rfl,hq,q⟩
 cases ae<;>exact⟨_,ρ',J',γ',rfl,hq,q⟩
theorem zW.loop{x:ACode}(I:Nat->Env->Store->Prop)(m:Nat)(h0:I m ρ J)(h:∀m ρ J,I m ρ J->zW C n k x (z2r (fun ρ' J'=>∃m',m'<m/\ I m' ρ' J') Q) ρ J):zW C n k (.loop x) Q ρ J:=by
 intro c hc γ0 w0 hgl hk γ a w hst hR hE hn
 have:=zln hc
 obtain⟨c1,rfl,h1⟩:=this
 refine wp_loop_ghost (fun m a' w'=>∃ρ' J' γ',I m ρ' J'/\ Step γ0 w0 γ' w'/\ Rel C γ' J' w'/\ EnvR γ' w' ρ' a'.tmps/\ a'.defers=a.defers/\ a'.tmps.size=n) m ⟨ρ,J,γ,h0,hst,hR,hE,rfl,hn⟩ ?_
 rintro m a1 w1 ⟨ρ1,J1,γ1,hI,q1,q2,q3,q4,q5⟩
 refine wp_mono (h m ρ1 J1 hI c1 h1 γ0 w0 hgl hk γ1 a1 w1 q1 q2 q3 q5) ?_
 rintro e a2 w2 ⟨ae,ρ2,J2,γ2,rfl,hq,r1,r2,r3,r4,r5⟩
 cases ae with
 |normal=>
  obtain⟨m',hm,hI'⟩:=hq
  exact⟨m',hm,ρ2,J2,γ2,hI',r1,r2,r3,r4.trans q4,r5⟩
 |exit id=>exact⟨.exit id,ρ2,J2,γ2,rfl,hq,r1,r2,r3,r4.trans q4,r5⟩
 |ret=>exact⟨.ret,ρ2,J2,γ2,rfl,hq,r1,r2,r3,r4.trans q4,r5⟩
theorem z7t{n:Nat}(i:Nat):i ∈ List.range' 0 n ↔ i<n/\ (Array.replicate n false).getD i true=false:=by
 simp only [List.mem_range',Array.getD_eq_getD_getElem?,Array.getElem?_replicate]
 constructor
 ·rintro⟨j,hj,rfl⟩
  have:0+1*j<n:=by omega
  exact⟨this,by simp [hj]⟩
 ·rintro⟨h1,_⟩
  exact⟨i,h1,by omega⟩
theorem zaj(ops:Array Oper):z65 ops (fun i=>(Array.replicate ops.size false).getD i false):=by
 intro i o ho hi
 simp only [Array.getD_eq_getD_getElem?,Array.getElem?_replicate]at hi
 split at hi<;>simp at hi
theorem zW.regH{ops:List AIns}{H:Hist}(h:z10 C (Q .normal) ops H ρ J):zW C n k (.reg ops) Q ρ J:=by
 intro c hc γ0 w0 hgl hk γ a w hst hR hE hn
 have:=zfu hc
 obtain⟨id,os,draw,rfl⟩:=this
 obtain⟨hd,hc'⟩:=zag hc
 clear hc
 have hdst:=zak hd
 rcases hc' with⟨rfl,hc⟩| ⟨rfl,p,q,hc⟩| ⟨rfl,l,hl,h1⟩
 ·obtain⟨as_,e,hf,hok,hb,h1⟩:=zah hc
  cases e
  have hrun:=z8m (K:=Q .normal) os.toList 0 ops (fun j=>by simp) h1 H Hist.none ρ J ⟨fun _ hs=>hs.elim,fun _ _=>trivial,fun _ _=>trivial⟩ h
  obtain⟨s1,R1⟩:=hR.drawn (w':={ w with drawn:=w.drawn+1 }) rfl rfl rfl rfl
  refine wp_region_any hf ?_
  refine z7p hb hdst os.size (Array.replicate os.size false) (List.range' 0 os.size) (by simp) z7t List.pairwise_lt_range' (zaj os) (by simp)
   (fun x i hx hi hxi=>zhq hok ((z7t i).1 hi).1 hxi) Hist.none ρ J γ a _ (by simpa using hrun) R1 (hE.mono s1) hn ?_
  intro ρ' J' γ' a' w' k1 k2 k3 k4 k5 k6
  exact⟨.normal,ρ',J',γ',rfl,k1,hst.trans (s1.trans k2),k3,k4,k5,k6⟩
 ·rcases hc with hc|hc
  ·obtain⟨_,_,e,_⟩:=z8r hc
   cases e
  ·obtain⟨_,_,e,_⟩:=z8q hc
   cases e
 ·cases hl
  have hrun:=z8m (K:=Q .normal) os.toList 0 ops (fun j=>by simp) h1 H Hist.none ρ J ⟨fun _ hs=>hs.elim,fun _ _=>trivial,fun _ _=>trivial⟩ h
  refine wp_region ?_
  refine zd9 hdst (List.range os.size) Hist.none ρ J γ a w (by rw [List.range_eq_range'];simpa using hrun) hR hE hn ?_
  intro ρ' J' γ' a' w' k1 k2 k3 k4 k5 k6
  exact⟨.normal,ρ',J',γ',rfl,k1,hst.trans k2,k3,k4,k5,k6⟩
theorem zfv{c:Code}{l m:List AIns}(hc:z1a C n c=some (.reg2 l m)):∃id os,c= .region id os true/\ z8u n os=true/\ ∃p q,z8o C os p q=some (.reg2 l m) \/z8p C os p q=some (.reg2 l m):=by
 cases c
 case region id ops draw=>
  obtain⟨hd,h⟩:=zag hc
  rcases h with⟨rfl,h⟩| ⟨rfl,p,q,h⟩| ⟨rfl,l,h,_⟩
  ·obtain⟨_,h,_⟩:=zah h;cases h
  ·exact⟨id,ops,rfl,hd,p,q,h⟩
  ·cases h
 all_goals simp [z1a,Option.bind_eq_some_iff,Option.map_eq_some_iff]at hc
theorem zW.reg2H{l m:List AIns}{H H2:Hist}(h:z10 C (Q .normal) l H ρ J)(h2:z10 C (Q .normal) m H2 ρ J):zW C n k (.reg2 l m) Q ρ J:=by
 intro c hc γ0 w0 hgl hk γ a w hst hR hE hn
 obtain⟨id,os,rfl,hd,p,q,hc⟩:=zfv hc
 have hdst:=zak hd
 rcases hc with hc|hc
 rotate_left
 ·obtain⟨as_,bs,e,_⟩:=z8q hc
  cases e
  exact(show False from h2).elim
 obtain⟨as_,bs,e,hf,hok,hb,k1,k2⟩:=z8r hc
 cases e
 simp only [zd6,Bool.and_eq_true,decide_eq_true_eq,List.all_eq_true,List.mem_range]at hok
 obtain⟨⟨⟨⟨hpq,hq⟩,o1⟩,o2⟩,o3⟩:=hok
 have e0:List.range' 0 os.size=List.range' 0 p++p::(List.range' (p+1) (q-(p+1))++q::List.range' (q+1) (os.size-(q+1))):=by
  have a1:List.range' 0 os.size=List.range' 0 p++List.range' p (os.size-p):=by
   have:=List.range'_append (s:=0) (m:=p) (n:=os.size-p) (step:=1)
   rw [show 0+1*p=p by omega,show p+(os.size-p)=os.size by omega]at this
   exact this.symm
  have a2:List.range' p (os.size-p)=p::List.range' (p+1) (os.size-(p+1)):=by
   rw [show os.size-p=(os.size-(p+1))+1 by omega];rfl
  have a3:List.range' (p+1) (os.size-(p+1))=List.range' (p+1) (q-(p+1))++List.range' q (os.size-q):=by
   have:=List.range'_append (s:=p+1) (m:=q-(p+1)) (n:=os.size-q) (step:=1)
   rw [show p+1+1*(q-(p+1))=q by omega,show q-(p+1)+(os.size-q)=os.size-(p+1)by omega]at this
   exact this.symm
  have a4:List.range' q (os.size-q)=q::List.range' (q+1) (os.size-(q+1)):=by
   rw [show os.size-q=(os.size-(q+1))+1 by omega];rfl
  rw [a1,a2,a3,a4]
 have hrun:=z8n (K:=Q .normal) _ _ k1 H Hist.none ρ J ⟨fun _ hs=>hs.elim,fun _ _=>trivial,fun _ _=>trivial⟩ h
 have hrun2:=z8n (K:=Q .normal) _ _ k2 H2 Hist.none ρ J ⟨fun _ hs=>hs.elim,fun _ _=>trivial,fun _ _=>trivial⟩ h2
 rw [e0]at hrun
 have mem0:∀i,i ∈ List.range' 0 p++p::(List.range' (p+1) (q-(p+1))++q::List.range' (q+1) (os.size-(q+1))) ↔ i<os.size/\ (Array.replicate os.size false).getD i true=false:=fun i=>by rw [<-e0];exact z7t i
 obtain⟨s1,R1⟩:=hR.drawn (w':={ w with drawn:=w.drawn+1 }) rfl rfl rfl rfl
 refine wp_region_any hf ?_
 refine zmc (p:=p) (q:=q) hb hdst os.size (Array.replicate os.size false) _ _ _ (by simp) mem0 (by rw [<-e0];exact List.pairwise_lt_range') (zaj os) (by rw [<-e0];simp)
  (fun x i hx hi hxi=> ?_) (fun y hy=> ?_) (fun y hy=> ?_) Hist.none ρ J γ a _ hrun hrun2 R1 (hE.mono s1) hn ?_
 ·have:=o1 i ((mem0 i).1 hi).1 x hxi
  simp only [Bool.or_eq_true,Bool.and_eq_true,decide_eq_true_eq]at this
  rcases this with(h|h)|h
  ·exact .inl h
  ·exact .inr (.inl h)
  ·exact .inr (.inr h)
 ·simp only [List.mem_range']at hy
  obtain⟨j,hj,rfl⟩:=hy
  have:=o2 (p+1+1*j) (by omega)
  have e1:(decide (p<p+1+1*j) && decide (p+1+1*j<q))=true:=by simp;omega
  rw [e1]at this
  simpa using this
 ·have hm:y ∈ List.range' 0 p++p::(List.range' (p+1) (q-(p+1))++q::List.range' (q+1) (os.size-(q+1))):=by
   simp only [List.mem_append,List.mem_cons]at hy ⊢
   rcases hy with h|h|h
   ·exact .inl h
   ·exact .inr (.inr (.inl h))
   ·exact .inr (.inr (.inr (.inr h)))
  have hne:y ≠ p/\ y ≠ q:=by
   simp only [List.mem_append,List.mem_range']at hy
   rcases hy with⟨j,hj,rfl⟩| ⟨j,hj,rfl⟩| ⟨j,hj,rfl⟩<;>omega
  have:=o3 y ((mem0 y).1 hm).1
  simp only [Bool.or_eq_true,decide_eq_true_eq]at this
  rcases this with(((h|h)|h)|h)|h
  ·exact absurd h hne.1
  ·exact absurd h hne.2
  ·split at h
   ·rename_i o ho
    exact .inl ⟨o,ho,by simpa using h⟩
   ·simp at h
  ·exact .inr (.inl h)
  ·exact .inr (.inr h)
 ·intro ρ' J' γ' a' w' k1 k2 k3 k4 k5 k6
  exact⟨.normal,ρ',J',γ',rfl,k1,hst.trans (s1.trans k2),k3,k4,k5,k6⟩
theorem zW.reg2J{l m:List AIns}{p:Nat}(h:z14 C (Q .normal) (l.drop p) m (l.take p) Hist.none ρ J):zW C n k (.reg2 l (z95 p::m)) Q ρ J:=by
 intro c hc γ0 w0 hgl hk γ a w hst hR hE hn
 obtain⟨id,os,rfl,hd,p',q,hc⟩:=zfv hc
 have hdst:=zak hd
 rcases hc with hc|hc
 ·obtain⟨as_,bs,e,_,_,_,_,k2⟩:=z8r hc
  cases e
  obtain⟨i,hi⟩:=zgb _ _ k2 (z95 p) (by simp)
  exact absurd hi.symm (zsp _ _ _)
 obtain⟨as_,bs,e,hf,hok,hb,k1,k2⟩:=z8q hc
 simp only [ACode.reg2.injEq,List.cons.injEq,z95,AIns.mk.injEq,Option.some.injEq,true_and,and_true]at e
 obtain⟨rfl,rfl,rfl⟩:=e
 simp only [zd7,Bool.and_eq_true,decide_eq_true_eq,List.all_eq_true,List.mem_range]at hok
 obtain⟨⟨⟨⟨hpq,hq⟩,o1⟩,o2⟩,o3⟩:=hok
 have e0:List.range' 0 os.size=List.range' 0 p++p::(List.range' (p+1) (q-(p+1))++q::List.range' (q+1) (os.size-(q+1))):=by
  have a1:List.range' 0 os.size=List.range' 0 p++List.range' p (os.size-p):=by
   have:=List.range'_append (s:=0) (m:=p) (n:=os.size-p) (step:=1)
   rw [show 0+1*p=p by omega,show p+(os.size-p)=os.size by omega]at this
   exact this.symm
  have a2:List.range' p (os.size-p)=p::List.range' (p+1) (os.size-(p+1)):=by
   rw [show os.size-p=(os.size-(p+1))+1 by omega];rfl
  have a3:List.range' (p+1) (os.size-(p+1))=List.range' (p+1) (q-(p+1))++List.range' q (os.size-q):=by
   have:=List.range'_append (s:=p+1) (m:=q-(p+1)) (n:=os.size-q) (step:=1)
   rw [show p+1+1*(q-(p+1))=q by omega,show q-(p+1)+(os.size-q)=os.size-(p+1)by omega]at this
   exact this.symm
  have a4:List.range' q (os.size-q)=q::List.range' (q+1) (os.size-(q+1)):=by
   rw [show os.size-q=(os.size-(q+1))+1 by omega];rfl
  rw [a1,a2,a3,a4]
 rw [e0]at k1
 obtain⟨la,lx,rfl,hla,c1,c2⟩:=zga _ _ k1
 simp only [List.length_range']at hla
 rw [List.drop_left' hla,List.take_left' hla]at h
 have hrun:=zg9 (K:=Q .normal) c2 k2 _ _ c1 Hist.none Hist.none ρ J ⟨fun _ hs=>hs,fun _ hs=>hs,fun _ hs=>hs⟩ h
 have mem0:∀i,i ∈ List.range' 0 p++p::(List.range' (p+1) (q-(p+1))++q::List.range' (q+1) (os.size-(q+1))) ↔ i<os.size/\ (Array.replicate os.size false).getD i true=false:=fun i=>by rw [<-e0];exact z7t i
 obtain⟨s1,R1⟩:=hR.drawn (w':={ w with drawn:=w.drawn+1 }) rfl rfl rfl rfl
 refine wp_region_any hf ?_
 refine zmd (p:=p) (q:=q) hb hdst os.size (Array.replicate os.size false) _ _ _ (by simp) mem0 (by rw [<-e0];exact List.pairwise_lt_range') (zaj os) (by rw [<-e0];simp)
  (fun x i hx hi hxi=> ?_) (fun y hy=> ?_) (fun y hy=> ?_) Hist.none ρ J γ a _ hrun R1 (hE.mono s1) hn ?_
 ·have:=o1 i ((mem0 i).1 hi).1 x hxi
  simp only [Bool.or_eq_true,Bool.and_eq_true,decide_eq_true_eq]at this
  rcases this with(h|h)|h
  ·exact .inl h
  ·exact .inr (.inl h)
  ·exact .inr (.inr h)
 ·simp only [List.mem_range']at hy
  obtain⟨j,hj,rfl⟩:=hy
  have:=o2 (p+1+1*j) (by omega)
  have e1:(decide (p<p+1+1*j) && decide (p+1+1*j<q))=true:=by simp;omega
  rw [e1]at this
  simpa using this
 ·have hm:y ∈ List.range' 0 p++p::(List.range' (p+1) (q-(p+1))++q::List.range' (q+1) (os.size-(q+1))):=by
   simp only [List.mem_append,List.mem_cons]at hy ⊢
   rcases hy with h|h
   ·exact .inr (.inr (.inl h))
   ·exact .inr (.inr (.inr (.inr h)))
  have hne:p<y/\ y ≠ q:=by
   simp only [List.mem_append,List.mem_range']at hy
   rcases hy with⟨j,hj,rfl⟩| ⟨j,hj,rfl⟩<;>omega
  have:=o3 y ((mem0 y).1 hm).1
  simp only [Bool.or_eq_true,decide_eq_true_eq]at this
  rcases this with((((h|h)|h)|h)|h)|h
  ·omega
  ·omega
  ·exact absurd h hne.2
  ·split at h
   ·rename_i o ho
    exact .inl ⟨o,ho,by simpa using h⟩
   ·simp at h
  ·exact .inr (.inl h)
  ·exact .inr (.inr h)
 ·intro ρ' J' γ' a' w' k1 k2 k3 k4 k5 k6
  exact⟨.normal,ρ',J',γ',rfl,k1,hst.trans (s1.trans k2),k3,k4,k5,k6⟩
theorem zW.reg2{l m:List AIns}(h:z10 C (Q .normal) l Hist.none ρ J)(h2:z10 C (Q .normal) m Hist.none ρ J):zW C n k (.reg2 l m) Q ρ J:=zW.reg2H h h2
theorem zr_{ops:List AIns}(h:z10 C (Q .normal) ops Hist.none ρ J):zW C n k (.reg ops) Q ρ J:=zW.regH h
theorem zW.regS{ops:List AIns}(h:z10 C (Q .normal) ops (Hist.same J) ρ J):zW C n k (.reg ops) Q ρ J:=zW.regH h
theorem zW.seqReg{ops:List AIns}{y:ACode}(h:z10 C (zW C n k y Q) ops Hist.none ρ J):zW C n k (.seq (.reg ops) y) Q ρ J:=zs_ (zr_ h)
theorem zW.down{ac:ACode}{ρ':Env}{J':Store}(hd:Down k ρ J ρ' J')(h:zW C n k ac Q ρ' J'):zW C n k ac Q ρ J:=by
 intro c hc γ0 w0 hgl hk γ a w hst hR hE hn
 obtain⟨γ',h1,h2,h3⟩:=hd.sound hR hE hst hgl (by omega)
 exact h c hc γ0 w0 hgl hk γ' a w h1 h2 h3 hn
end
end
section
inductive RV where
 |t (n:Nat)
 |c (a:Nat) (ag:Bool) (n:Nat)
def RV.val(ρ:Env)(J:Store):RV->AV
 | .t n=>ρ n
 | .c a ag n=>(z30 ag n J (ρ a)).getD .any
def RV.ok(ρ:Env)(J:Store):RV->Bool
 | .t _=>true
 | .c a ag n=>(z30 ag n J (ρ a)).isSome
def oks(ρ:Env)(J:Store):List RV->Bool
 | []=>true
 |x::l=>x.ok ρ J && oks ρ J l
def z6g(C:Ctx):List ResultVar->Option (List RV)
 | []=>some []
 | .tmp t::l=>(z6g C l).map (.t t:: ·)
 | .cell a t::l=>(z29 C t).bind fun ag=>(z1f C t).bind fun n=>(z6g C l).map (.c a ag n:: ·)
def retV(ts:List RV)(ρ:Env)(J:Store):AV:=match ts with
 | [t]=>t.val ρ J
 |ts=> .tup (ts.map (RV.val ρ J))
def z2t(args:List AV):Env:=fun t=>args.getD t .undef
def cFn(C:Ctx)(f:FuncId):Option (Nat × List RV × ACode):=
 (C.P.funcs[f]?).bind fun fn=>if (fn.name== "runtime.NumGoroutine")=true then none else fn.body.bind fun c=>(z6g C fn.results.toList).bind fun ts=>(z1a C fn.ntmps c).map fun ac=>(fn.ntmps,ts,ac)
def endQ(k:Nat)(ts:List RV)(v:AV)(J':Store):AExit->Env->Store->Prop
 | .exit _=>fun _ _=>False
 | _=>fun ρ J=>oks ρ J ts=true/\ DownV k (retV ts ρ J) J v J'
theorem ze2{C:Ctx}{γ:Places}{J:Store}{w:World}{ρ:Env}{tmps:Array Value}(hR:Rel C γ J w)(hE:EnvR γ w ρ tmps)(g:ResultVar->Sem Value)(hg:∀t,g (.tmp t)=pure (tmps.getD t undef))
  (hg2:∀a t,g (.cell a t)=do loadVar t (<-asAddr (tmps.getD a undef))):∀(l:List ResultVar) (ts:List RV),z6g C l=some ts->oks ρ J ts=true->
  ∃vs,(l.mapM (m:=Sem) g).run C.P w= .ok vs w/\ VRt γ w (ts.map (RV.val ρ J)) vs
 | [],ts,h,_=>by simp only [z6g,Option.some.injEq]at h;subst h;exact⟨[],by simp,VRt.nil⟩
 | .tmp t::l,ts,h,hk=>by
  simp only [z6g,Option.map_eq_some_iff]at h
  obtain⟨ts',h1,rfl⟩:=h
  simp only [oks,Bool.and_eq_true]at hk
  obtain⟨vs,k1,k2⟩:=ze2 hR hE g hg hg2 l ts' h1 hk.2
  exact⟨tmps.getD t undef::vs,by simp only [List.mapM_cons,Sem.run_bind,hg,Sem.run_pure,Result.andThen_ok,k1],VRt.cons (hE t) k2⟩
 | .cell a t::l,ts,h,hk=>by
  simp only [z6g,Option.bind_eq_some_iff,Option.map_eq_some_iff]at h
  obtain⟨ag,hag,n,hn,ts',h1,rfl⟩:=h
  simp only [oks,Bool.and_eq_true,RV.ok]at hk
  obtain⟨vs,k1,k2⟩:=ze2 hR hE g hg hg2 l ts' h1 hk.2
  obtain⟨x,hx⟩:=Option.isSome_iff_exists.1 hk.1
  have hp:=hE a
  have hx':z7e C J t (ρ a)=some x:=by
   rw [<-hx]
   generalize ρ a=p
   cases p<;>simp only [z7e,z30,hag,hn,Option.bind_some]
   rfl
  obtain⟨v,q1,q2⟩:=zhi hR hp hx'
  have hc:(do loadVar t (<-asAddr (tmps.getD a undef)):Sem Value).run C.P w= .ok v w:=by
   rw [<-q1]
   generalize ρ a=p at*
   generalize tmps.getD a undef=cp at*
   cases p<;>simp only [z30,reduceCtorEq]at hx
   ·simp only [VR]at hp
    obtain⟨_,pl,_,rfl⟩:=hp
    simp [Instr.loadAt,Instr.sureAddr,asAddr]
   ·simp only [VR]at hp
    obtain⟨b,o,vals,rfl,_⟩:=hp
    simp [Instr.loadAt,Instr.sureAddr,asAddr]
  refine⟨v::vs,?_,VRt.cons ?_ k2⟩
  ·simp only [List.mapM_cons,Sem.run_bind,hg2]
   simp only [Sem.run_bind]at hc
   rw [hc]
   simp only [Sem.run_pure,Result.andThen_ok,k1]
  ·simp only [RV.val,hx,Option.getD_some];exact q2
theorem zbc{C:Ctx}{γ:Places}{J:Store}{w:World}{ρ:Env}{fn:Func}{tmps:Array Value}{ts:List RV}(hR:Rel C γ J w)(hE:EnvR γ w ρ tmps)(h:z6g C fn.results.toList=some ts)(hk:oks ρ J ts=true):
  ∃cv,(results fn tmps).run C.P w= .ok cv w/\ VR γ w (retV ts ρ J) cv:=by
 unfold results
 rw [Array.mapM_eq_mapM_toList]
 obtain⟨vs,h1,h2⟩:=ze2 hR hE (fun| .tmp t=>pure (tmps.getD t undef)| .cell a t=>do loadVar t (<-asAddr (tmps.getD a undef))) (fun t=>rfl) (fun a t=>rfl) _ _ h hk
 simp only [Sem.run_bind,Sem.run_map]
 erw [h1]
 simp only [Result.andThen_ok,Sem.run_pure]
 unfold retV
 have hl:=h2.length
 match ts with
 | [t]=>
  simp only [List.map_cons,List.map_nil,VRt]at h2
  obtain⟨v,_,rfl,h3,rfl⟩:=h2
  exact⟨v,by simp,h3⟩
 | []=>
  simp only [List.map_nil,VRt]at h2
  subst h2
  exact⟨.tuple #[],by simp,by simp only [VR];exact⟨[],rfl,by simp [VRt]⟩⟩
 |a::b::l=>
  have:¬(vs.toArray.size=1):=by simp at hl ⊢;omega
  exact⟨.tuple vs.toArray,by simp only [this,dif_neg,not_false_eq_true],by simp only [VR];exact⟨vs,rfl,h2⟩⟩
theorem zap{γ:Places}{w:World}{args:List AV}{cargs:List Value}(h:VRt γ w args cargs)(n:Nat):EnvR γ w (z2t args) (cargs.toArray++Array.replicate (n-cargs.toArray.size) undef):=by
 intro t
 have hl:=h.length
 simp only [z2t,Array.getD_eq_getD_getElem?,List.getD_eq_getElem?_getD]
 by_cases ht:t<args.length
 ·obtain⟨v,h1,h2⟩:=h.get (List.getElem?_eq_getElem ht)
  rw [Array.getElem?_append_left (by simp;omega),List.getElem?_toArray,h1,List.getElem?_eq_getElem ht]
  exact h2
 ·rw [List.getElem?_eq_none (by omega),Array.getElem?_append_right (by simp;omega)]
  simp only [Option.getD_none,VR,Array.getElem?_replicate]
  split<;>rfl
theorem ACallsTo.of_body{C:Ctx}{f:FuncId}{n:Nat}{ts:List RV}{ac:ACode}(hc:cFn C f=some (n,ts,ac)){args:List AV}{J J':Store}{v:AV}(hn:args.length<=n)
  (h:Wf J.length J->RLs J.length args->zW C n J.length ac (endQ J.length ts v J') (z2t args) J):ACallsTo C f args J v J':=by
 simp only [cFn,Option.bind_eq_some_iff]at hc
 obtain⟨fn,hf,hc⟩:=hc
 split at hc
 ·cases hc
 ·rename_i hname
  simp only [Option.bind_eq_some_iff,Option.map_eq_some_iff,Prod.mk.injEq]at hc
  obtain⟨c,hb,ts',hts,ac',hac,rfl,rfl,rfl⟩:=hc
  intro γ w cargs hR ha
  left
  constructor
  ·have hname':(fn.name== "runtime.NumGoroutine")=false:=by simpa using hname
   have h1:fn.name ≠ "runtime.NumGoroutine" :=by simpa using hname'
   simp [callFunc,hf,h1,hb]
  ·have hl:=ha.length
   refine calls_of_wp hf hb ?_
   have hw:=h hR.wf (by rw [<-hR.len];exact VRt.rl _ _ ha) c hac γ w hR.gl hR.len γ { tmps:=cargs.toArray++Array.replicate (fn.ntmps-cargs.toArray.size) undef,defers:=[] } w (Step.refl _ _) hR
    (zap ha _) (by simp;omega)
   refine wp_mono hw ?_
   rintro e a' w' ⟨ae,ρ',J2,γ',rfl,hq,q1,q2,q3,q4,q5⟩
   have fin:(oks ρ' J2 ts'=true/\ DownV J.length (retV ts' ρ' J2) J2 v J')->a'.defers=[]/\ ∃v_1,(results fn a'.tmps).run C.P w'= .ok v_1 w'/\ ∃cv γ',Ending.returned v_1= .returned cv/\ Step γ w γ' w'/\ Rel C γ' J' w'/\ VR γ' w' v cv:=by
    rintro⟨hk,hd⟩
    obtain⟨rv,r1,r2⟩:=zbc q2 q3 hts hk
    obtain⟨γ2,k1,k2,k3⟩:=hd.sound q2 r2 q1 hR.gl (by rw [hR.len];exact Nat.le_refl _)
    exact⟨q4,_,r1,_,γ2,rfl,k1,k2,k3⟩
   cases ae with
   |normal=>exact fin hq
   |exit id=>exact hq.elim
   |ret=>exact fin hq
def endP(k:Nat)(ts:List RV)(P:AV->Store->Prop):AExit->Env->Store->Prop
 | .exit _=>fun _ _=>False
 | _=>fun ρ J=>oks ρ J ts=true/\ ∃v J',P v J'/\ DownV k (retV ts ρ J) J v J'
theorem ACallsP.of_body{C:Ctx}{f:FuncId}{n:Nat}{ts:List RV}{ac:ACode}(hc:cFn C f=some (n,ts,ac)){args:List AV}{J:Store}{P:AV->Store->Prop}(hn:args.length<=n)
  (h:Wf J.length J->RLs J.length args->zW C n J.length ac (endP J.length ts P) (z2t args) J):ACallsP C f args J P:=by
 simp only [cFn,Option.bind_eq_some_iff]at hc
 obtain⟨fn,hf,hc⟩:=hc
 split at hc
 ·cases hc
 ·rename_i hname
  simp only [Option.bind_eq_some_iff,Option.map_eq_some_iff,Prod.mk.injEq]at hc
  obtain⟨c,hb,ts',hts,ac',hac,rfl,rfl,rfl⟩:=hc
  intro γ w cargs hR ha
  left
  constructor
  ·have hname':(fn.name== "runtime.NumGoroutine")=false:=by simpa using hname
   have h1:fn.name ≠ "runtime.NumGoroutine" :=by simpa using hname'
   simp [callFunc,hf,h1,hb]
  ·have hl:=ha.length
   refine calls_of_wp hf hb ?_
   have hw:=h hR.wf (by rw [<-hR.len];exact VRt.rl _ _ ha) c hac γ w hR.gl hR.len γ { tmps:=cargs.toArray++Array.replicate (fn.ntmps-cargs.toArray.size) undef,defers:=[] } w (Step.refl _ _) hR
    (zap ha _) (by simp;omega)
   refine wp_mono hw ?_
   rintro e a' w' ⟨ae,ρ',J2,γ',rfl,hq,q1,q2,q3,q4,q5⟩
   have fin:(oks ρ' J2 ts'=true/\ ∃v J',P v J'/\ DownV J.length (retV ts' ρ' J2) J2 v J')->a'.defers=[]/\ ∃v_1,(results fn a'.tmps).run C.P w'= .ok v_1 w'/\ ∃cv v γ' J',Ending.returned v_1= .returned cv/\ P v J'/\ Step γ w γ' w'/\ Rel C γ' J' w'/\ VR γ' w' v cv:=by
    rintro⟨hk,v,J',hp,hd⟩
    obtain⟨rv,r1,r2⟩:=zbc q2 q3 hts hk
    obtain⟨γ2,k1,k2,k3⟩:=hd.sound q2 r2 q1 hR.gl (by rw [hR.len];exact Nat.le_refl _)
    exact⟨q4,_,r1,_,v,γ2,J',rfl,hp,k1,k2,k3⟩
   cases ae with
   |normal=>exact fin hq
   |exit id=>exact hq.elim
   |ret=>exact fin hq
theorem ACallsP.mono{C:Ctx}{f:FuncId}{args:List AV}{J:Store}{P P':AV->Store->Prop}(h:ACallsP C f args J P)(hp:∀v J',P v J'->P' v J'):ACallsP C f args J P':=by
 intro γ w cargs hR ha
 rcases h γ w cargs hR ha with⟨h1,h2⟩| ⟨cv,v,γ',J',w',h1,h2,h3⟩
 ·refine .inl ⟨h1,h2.mono ?_⟩
  rintro e w' ⟨cv,v,γ',J',rfl,k1,k2⟩
  exact⟨cv,v,γ',J',rfl,hp _ _ k1,k2⟩
 ·exact .inr ⟨cv,v,γ',J',w',h1,hp _ _ h2,h3⟩
def z4a(ts:List RV)(v:AV)(J':Store):AExit->Env->Store->Prop
 | .exit _=>fun _ _=>False
 | _=>fun ρ J=>oks ρ J ts=true/\ retV ts ρ J=v/\ J=J'
theorem ACallsTo.of_body_keep{C:Ctx}{f:FuncId}{n:Nat}{ts:List RV}{ac:ACode}(hc:cFn C f=some (n,ts,ac)){args:List AV}{J J':Store}{v:AV}(hn:args.length<=n)
  (h:zW C n J.length ac (z4a ts v J') (z2t args) J):ACallsTo C f args J v J':=by
 simp only [cFn,Option.bind_eq_some_iff]at hc
 obtain⟨fn,hf,hc⟩:=hc
 split at hc
 ·cases hc
 ·rename_i hname
  simp only [Option.bind_eq_some_iff,Option.map_eq_some_iff,Prod.mk.injEq]at hc
  obtain⟨c,hb,ts',hts,ac',hac,rfl,rfl,rfl⟩:=hc
  intro γ w cargs hR ha
  left
  constructor
  ·have hname':(fn.name== "runtime.NumGoroutine")=false:=by simpa using hname
   have h1:fn.name ≠ "runtime.NumGoroutine" :=by simpa using hname'
   simp [callFunc,hf,h1,hb]
  ·have hl:=ha.length
   refine calls_of_wp hf hb ?_
   have hw:=h c hac γ w hR.gl hR.len γ { tmps:=cargs.toArray++Array.replicate (fn.ntmps-cargs.toArray.size) undef,defers:=[] } w (Step.refl _ _) hR
    (zap ha _) (by simp;omega)
   refine wp_mono hw ?_
   rintro e a' w' ⟨ae,ρ',J2,γ',rfl,hq,q1,q2,q3,q4,q5⟩
   have fin:oks ρ' J2 ts'=true/\ retV ts' ρ' J2=v/\ J2=J'->a'.defers=[]/\ ∃v_1,(results fn a'.tmps).run C.P w'= .ok v_1 w'/\ ∃cv γ',Ending.returned v_1= .returned cv/\ Step γ w γ' w'/\ Rel C γ' J' w'/\ VR γ' w' v cv:=by
    rintro⟨hk,rfl,rfl⟩
    obtain⟨rv,r1,r2⟩:=zbc q2 q3 hts hk
    exact⟨q4,_,r1,_,γ',rfl,q1,q2,r2⟩
   cases ae with
   |normal=>exact fin hq
   |exit id=>exact hq.elim
   |ret=>exact fin hq
/-! Letting go at a function's end. -/
section
variable {τ news:Store}
def z2j(τ news kept:Store)(idx:Nat->Nat)(fzl:Nat->Bool):DC:=
 ⟨τ++news,τ.length+kept.length,fun r=>if r<τ.length then r else τ.length+idx (r-τ.length),fun r=>decide (τ.length<=r) && fzl (r-τ.length)⟩
theorem z6c(kept:Store)(idx:Nat->Nat)(fzl:Nat->Bool):∀r,r<τ.length->r<(z2j τ news kept idx fzl).n/\ (z2j τ news kept idx fzl).pre r=r:=fun r hr=>by
 exact⟨by show r<τ.length+kept.length;omega,by simp [z2j,hr]⟩
theorem zaq{kept:Store}{idx:Nat->Nat}{fzl:Nat->Bool}(hτ:Wf τ.length τ)(h1:∀j,j<kept.length->idx j<news.length)(h2:∀i j,i<kept.length->j<kept.length->idx i=idx j->i=j)
  (h3:∀(j:Nat) (o':AObj),kept[j]? =some (some o')->∃o,news[idx j]? =some (some o)/\ DRss (z2j τ news kept idx fzl) o' o) (h4:∀j,j<kept.length->fzl (idx j)=true->kept[j]? =some none):
  DownS τ.length (z2j τ news kept idx fzl) (τ++kept):=by
 refine⟨by simp [z2j],fun r hr=>⟨by simp;omega,(z6c kept idx fzl r hr).2⟩,fun r hr=> ?_,fun r r' hr hr' e=> ?_,fun r o' hr=> ?_,fun r hr r' hr' e=> ?_⟩
 ·simp only [z2j,List.length_append]at hr ⊢
  split
  ·omega
  ·have:=h1 (r-τ.length) (by omega);omega
 ·simp only [z2j,List.length_append]at hr hr' e
  split at e<;>split at e
  ·exact e
  ·omega
  ·omega
  ·have:=h2 (r-τ.length) (r'-τ.length) (by omega) (by omega) (by omega);omega
 ·by_cases hl:r<τ.length
  ·rw [List.getElem?_append_left hl]at hr
   refine⟨o',?_,DRss.refl (z6c kept idx fzl) o' (hτ r o' hr)⟩
   simp only [z2j,hl,if_true]
   rw [List.getElem?_append_left hl];exact hr
  ·rw [List.getElem?_append_right (by omega)]at hr
   obtain⟨o,q1,q2⟩:=h3 _ o' hr
   refine⟨o,?_,q2⟩
   simp only [z2j,hl,if_false]
   rw [List.getElem?_append_right (by omega),Nat.add_sub_cancel_left];exact q1
 ·simp only [z2j,Bool.and_eq_true,decide_eq_true_eq,List.length_append]at hr hr' e
  split at e
  ·omega
  ·subst e
   rw [List.getElem?_append_right (by omega)]
   rw [Nat.add_sub_cancel_left]at hr
   exact h4 _ (by omega) hr.2
theorem DownV.pure{v:AV}(hτ:Wf τ.length τ)(hv:RL τ.length v):DownV τ.length v (τ++news) v τ:=by
 refine⟨z2j τ news [] id (fun _=>true),rfl,by simpa using zaq (kept:=[]) (idx:=id) (fzl:=fun _=>true) (news:=news) hτ (by simp) (by simp) (by simp) (by simp),DR.refl (z6c _ _ _) v hv⟩
theorem DownV.same{v:AV}(hτ:Wf τ.length τ)(hv:RL τ.length v):DownV τ.length v τ v τ:=by
 simpa using DownV.pure (news:=[]) hτ hv
theorem DownV.froze{j off len esz:Nat}{lim:Option Nat}{o:AObj}(hτ:Wf τ.length τ)(ho:news[j]? =some (some o))(hl:off+len<=o.length)(hr:RLss τ.length ((o.drop off).take len)):
  DownV τ.length (.sl (τ.length+j) off len lim esz) (τ++news) (.vsl esz ((o.drop off).take len) false) τ:=by
 refine⟨z2j τ news [] id (fun _=>true),rfl,by simpa using zaq (kept:=[]) (idx:=id) (fzl:=fun _=>true) (news:=news) hτ (by simp) (by simp) (by simp) (by simp),?_⟩
 have e:((o.drop off).take len).length=len:=by simp;omega
 simp only [DR,z2j]
 right
 left
 refine⟨τ.length+j,off,lim,o,by rw [e],by simp,?_,by rw [e];exact hl,by simp,?_⟩
 ·rw [List.getElem?_append_right (by omega),Nat.add_sub_cancel_left];exact ho
 ·rw [e];exact DRss.refl (z6c [] id (fun _=>true)) _ hr
theorem DownV.own{j off len esz:Nat}{lim:Option Nat}{o:AObj}(hτ:Wf τ.length τ)(ho:news[j]? =some (some o))(hr:RLss τ.length o):
  DownV τ.length (.sl (τ.length+j) off len lim esz) (τ++news) (.sl τ.length off len lim esz) (τ++ [some o]):=by
 have hj:j<news.length:=(List.getElem?_eq_some_iff.1 ho).1
 refine⟨z2j τ news [some o] (fun _=>j) (fun i=> !decide (i=j)),rfl,zaq hτ (by simp [hj]) (fun a b h1 h2 _=>by simp at h1 h2;omega) (fun i o' hi=> ?_) (fun i hi h=>by simp at h),?_⟩
 ·cases i with
  |zero=>
   simp at hi;subst hi
   exact⟨o,ho,DRss.refl (z6c _ _ _) _ hr⟩
  |succ i=>simp at hi
 ·simp only [DR,z2j]
  simp
end
end
section
open Go.RowKit
/-! Where only what is no cells turns, all values stay. -/
structure Book(w w':World):Prop where
 size:w.heap.size<=w'.heap.size
 cells:∀(b:Nat) (c:Array Value) (ty:TypeId) (fz:Nat × Nat),w.heap[b]? =some (Obj.cells c ty fz)->w'.heap[b]? =some (Obj.cells c ty fz)
 os:w'.os=w.os
 tape:w'.tape=w.tape
 output:w'.output=w.output
theorem Book.trans{a b c:World}(h:Book a b)(k:Book b c):Book a c:=
 ⟨Nat.le_trans h.size k.size,fun i x ty fz hi=>k.cells i x ty fz (h.cells i x ty fz hi),k.os.trans h.os,k.tape.trans h.tape,k.output.trans h.output⟩
theorem Book.alloc(w:World)(o:Obj):Book w (w.alloc o):=
 ⟨by simp,fun b c ty fz hb=>(Below.heap_alloc w o b (Array.getElem?_eq_some_iff.1 hb).1).trans hb,rfl,rfl,rfl⟩
theorem Book.drew(w:World):Book w w.drew:=⟨Nat.le_refl _,fun _ _ _ _ h=>h,rfl,rfl,rfl⟩
section
variable {γ:Places} {w w':World}
end
section
variable {C:Ctx} {γ γ0:Places} {J:Store} {w w' w0:World}
theorem Step.other{γ':Places}(h:Step γ w γ' w')(hR:Rel C γ J w){l:Nat}{o:Obj}(hl:w.heap[l]? =some o)(ho:o.isCells=false):w'.heap[l]? =some o:=by
 rw [h.imm l (Array.getElem?_eq_some_iff.1 hl).1,hl]
 intro r pl hr e
 subst e
 have hrl:r<J.length:=by rw [<-hR.len];exact(List.getElem?_eq_some_iff.1 hr).1
 cases hq:J[r]with
 |none=>
  obtain⟨pl',h1⟩:=hR.dead r (by rw [List.getElem?_eq_getElem hrl,hq])
  rw [h1]at hr;cases hr
 |some ob=>
  obtain⟨pl',h1,h2⟩:=hR.alive r ob (by rw [List.getElem?_eq_getElem hrl,hq])
  rw [h1]at hr;cases hr
  obtain⟨c0,fz0,h0⟩:=h2.tyk
  rw [hl]at h0;cases h0;cases ho
end
/-! Code within a round. -/
def z64(rd:Option Nat):Fence:={ Fence.wide with round:=rd }
theorem zlt{rd:Option Nat}{n:Nat}{P:Program}{f:FuncId}{args:Array Value}{w:World}{R:Ending->World->Prop}(h:Calls P f args w R):CallsIn (z64 rd) n P f args w R:=
 (callsIn_wide (n:=n)).2 h
theorem zr3{rd:Option Nat}{n:Nat}{P:Program}{r:String}{args:Array Value}{w:World}{R:Value->World->Prop}(h:Rows P r args w R):RowsIn (z64 rd) n P r args w R:=
 fun c cs _=>let ⟨v,w',q,s⟩:=h c cs;⟨v,w',q,(stepsIn_wide (P:=P)).2 s⟩
theorem zhu{rd:Option Nat}{m:Nat}{P:Program}{o:Oper}{a:Act}{w:World}{K:Act->World->Prop}{Q:Exit->Act->World->Prop}(hd:∀c,o.op ≠ .defer c)(h:o.wp P a w K Q):o.wpIn (z64 rd) m P a w K Q:=by
 refine⟨fun _ _=>trivial,?_⟩
 rw [Oper.semAt_eq _ _ _ hd]
 unfold Oper.wp at h
 generalize (execOp a.eval o).run P w=r at h ⊢
 have dn:(z64 rd).depth.isSome=true->1<=m:=fun h=>by simp [z64,Fence.wide]at h
 cases r with
 |ok x w'=>
  cases x<;>simp only [Oper.upon,Oper.uponIn]at h ⊢ <;>
   first
    |exact h
    |exact h.elim
    |exact⟨dn,(zlt h).mono fun e w'' he=>by cases e<;>exact he⟩
    |exact⟨dn,zr3 h⟩
 |halt x w'=>cases x<;>simp only [Oper.upon,Oper.uponIn]at h ⊢ <;>first|exact h|exact h.elim
theorem zbt{rd:Option Nat}{m:Nat}{P:Program}{ops:Array Oper}{Q:Exit->Act->World->Prop}(hnd:∀o ∈ ops,∀c,o.op ≠ .defer c)(hq:¬LetsOut Q):∀(L:List Nat) (a:Act) (w:World),wpOps P ops Q L a w->wpOpsIn (z64 rd) m P ops Q L a w
 | [],_,_,h=>h
 |i::L,a,w,h=>by
  simp only [wpOps,wpOpsIn]at h ⊢
  cases ho:ops[i]? with
  |none=>rw [ho]at h;exact zbt hnd hq L a w h
  |some o=>
   rw [ho]at h
   simp only at h ⊢
   have hm:o ∈ ops:=by
    obtain⟨hi,rfl⟩:=Array.getElem?_eq_some_iff.1 ho
    exact Array.getElem_mem hi
   split at h
   ·rename_i hw
    rw [if_pos hw]
    exact Oper.wpIn_mono (fun a w hh=>zbt hnd hq L a w hh) (zhu (hnd o hm) (h.resolve_right fun k=>hq k.2))
   ·rename_i hw
    rw [if_neg hw]
    exact⟨fun _ _=>trivial,zbt hnd hq L _ w h⟩
theorem zsz{rd:Option Nat}{m:Nat}{P:Program}{ops:Array Oper}{Q:Exit->Act->World->Prop}(hnd:∀o ∈ ops,∀c,o.op ≠ .defer c)(hq:¬LetsOut Q){i:Nat}{K:Act->World->Prop}{a:Act}{w:World}(h:wpOp P ops Q i K a w):wpOpIn (z64 rd) m P ops Q i K a w:=by
 unfold wpOp at h
 unfold wpOpIn
 cases ho:ops[i]? with
 |none=>rw [ho]at h;exact h
 |some o=>
  rw [ho]at h
  simp only at h ⊢
  have hm:o ∈ ops:=by
   obtain⟨hi,rfl⟩:=Array.getElem?_eq_some_iff.1 ho
   exact Array.getElem_mem hi
  split at h
  ·rename_i hw
   rw [if_pos hw]
   exact zhu (hnd o hm) (h.resolve_right fun k=>hq k.2)
  ·rename_i hw
   rw [if_neg hw]
   exact⟨fun _ _=>trivial,h⟩
theorem zjr{rd:Option Nat}{m:Nat}{P:Program}{md:Region.Mode}{ops:Array Oper}{Q:Exit->Act->World->Prop}(hnd:∀o ∈ ops,∀c,o.op ≠ .defer c)(hq:¬LetsOut Q):∀(fuel:Nat) (listed:Array Bool) (a:Act) (w:World),wpAny P md ops Q fuel listed a w->
  wpAnyIn (z64 rd) m P md ops Q fuel listed a w
 | 0,_,_,_,h=>h
 |fuel+1,listed,a,w,h=>⟨h.1,fun i hi=>wpOpIn_mono (fun a w hh=>zjr hnd hq fuel _ a w hh) (zsz hnd hq (h.2 i hi))⟩
def AOp.stk:AOp->Bool
 | .stuck=>true
 | _=>false
def zd2(l:List AIns):Bool:=l.all fun i=> !i.op.stk
theorem zc7{C:Ctx}{ops:Array Oper}{need:Nat->Nd}:∀(l:List Oper) (i:Nat) (as_:List AIns),cOps C ops need l i=some as_->zd2 as_=true->∀o ∈ l,∀c,o.op ≠ .defer c
 | [],_,_,_,_,o,ho,_=>by simp at ho
 |x::l,i,as_,h,hn,o,ho,c=>by
  simp only [cOps,Option.bind_eq_some_iff,Option.map_eq_some_iff]at h
  obtain⟨a,ha,as',has,rfl⟩:=h
  simp only [zd2,List.all_cons,Bool.and_eq_true]at hn
  rcases List.mem_cons.1 ho with rfl|ho
  ·intro e
   simp only [cIns,Option.map_eq_some_iff]at ha
   obtain⟨g,hg,rfl⟩:=ha
   have h1:=hn.1
   rw [e]at h1
   simp [cOp,AOp.stk]at h1
  ·exact zc7 l (i+1) as' has hn.2 o ho c
def PostI(n:Nat)(Q:AExit->Env->Store->Prop)(γ0:Places)(w0:World)(C:Ctx)(a:Act):Exit->Act->World->Prop:=
 fun e a' w'=>∃ae ρ' J' γ',e=AExit.out ae/\ Q ae ρ' J'/\ Step γ0 w0 γ' w'/\ Rel C γ' J' w'/\ EnvR γ' w' ρ' a'.tmps/\ a'.defers=a.defers/\ a'.tmps.size=n
theorem PostI.tight{n:Nat}{Q:AExit->Env->Store->Prop}{γ0:Places}{w0:World}{C:Ctx}{a:Act}:¬LetsOut (PostI n Q γ0 w0 C a):=by
 rintro⟨a',w',ae,ρ',J',γ',h,_⟩
 cases ae<;>cases h
def SWpI(rd:Option Nat)(C:Ctx)(n k:Nat)(ac:ACode)(Q:AExit->Env->Store->Prop)(ρ:Env)(J:Store):Prop:=
 ∀(c:Code),z1a C n c=some ac->∀(m:Nat) (γ0:Places) (w0:World),Glob C γ0 w0->γ0.length=k->∀(γ:Places) (a:Act) (w:World),Step γ0 w0 γ w->Rel C γ J w->EnvR γ w ρ a.tmps->a.tmps.size=n->
  c.wpIn (z64 rd) m C.P (PostI n Q γ0 w0 C a) a w
section
variable {rd:Option Nat} {C:Ctx} {n k:Nat} {Q:AExit->Env->Store->Prop} {ρ:Env} {J:Store}
theorem SWpI.skip(h:Q .normal ρ J):SWpI rd C n k .skip Q ρ J:=by
 intro c hc m γ0 w0 hgl hk γ a w hst hR hE hn
 rcases zfx hc with rfl| ⟨l,rfl⟩
 ·exact wpIn_skip ⟨.normal,ρ,J,γ,rfl,h,hst,hR,hE,rfl,hn⟩
 ·exact wpIn_label ⟨.normal,ρ,J,γ,rfl,h,hst,hR,hE,rfl,hn⟩
theorem SWpI.seq{x y:ACode}(h:SWpI rd C n k x (z2r (SWpI rd C n k y Q) Q) ρ J):SWpI rd C n k (.seq x y) Q ρ J:=by
 intro c hc m γ0 w0 hgl hk γ a w hst hR hE hn
 obtain⟨c1,c2,rfl,h1,h2⟩:=zfw hc
 refine wpIn_seq (wpIn_mono (h c1 h1 m γ0 w0 hgl hk γ a w hst hR hE hn) ?_)
 rintro e a' w' ⟨ae,ρ',J',γ',rfl,hq,q1,q2,q3,q4,q5⟩
 cases ae with
 |normal=>
  refine wpIn_mono (hq c2 h2 m γ0 w0 hgl hk γ' a' w' q1 q2 q3 q5) ?_
  rintro e a2 w2 ⟨ae,ρ2,J2,γ2,k1,k2,k3,k4,k5,k6,k7⟩
  exact⟨ae,ρ2,J2,γ2,k1,k2,k3,k4,k5,k6.trans q4,k7⟩
 |exit id=>exact⟨_,ρ',J',γ',rfl,hq,q1,q2,q3,q4,q5⟩
 |ret=>exact⟨_,ρ',J',γ',rfl,hq,q1,q2,q3,q4,q5⟩
theorem SWpI.block{id:Nat}{x:ACode}(h:SWpI rd C n k x (blkQ id Q) ρ J):SWpI rd C n k (.block id x) Q ρ J:=by
 intro c hc m γ0 w0 hgl hk γ a w hst hR hE hn
 obtain⟨c1,rfl,h1⟩:=zc6 hc
 refine wpIn_block (wpIn_mono (h c1 h1 m γ0 w0 hgl hk γ a w hst hR hE hn) ?_)
 rintro e a' w' ⟨ae,ρ',J',γ',rfl,hq,q⟩
 cases ae with
 |normal=>exact⟨.normal,ρ',J',γ',rfl,hq,q⟩
 |exit id'=>
  simp only [AExit.out,Exit.inBlock]
  simp only [blkQ]at hq
  split at hq
  ·rename_i he
   rw [if_pos he]
   exact⟨.normal,ρ',J',γ',rfl,hq,q⟩
  ·rename_i he
   rw [if_neg he]
   exact⟨.exit id',ρ',J',γ',rfl,hq,q⟩
 |ret=>exact⟨.ret,ρ',J',γ',rfl,hq,q⟩
theorem SWpI.reg{ops:List AIns}(hs:zd2 ops=true)(h:z10 C (Q .normal) ops Hist.none ρ J):SWpI rd C n k (.reg ops) Q ρ J:=by
 intro c hc m γ0 w0 hgl hk γ a w hst hR hE hn
 obtain⟨id,os,draw,rfl⟩:=zfu hc
 obtain⟨hd,hc'⟩:=zag hc
 clear hc
 have hdst:=zak hd
 rcases hc' with⟨rfl,hc⟩| ⟨rfl,p,q,hc⟩| ⟨rfl,l,hl,h1⟩
 ·obtain⟨as_,e,hf,hok,hb,h1⟩:=zah hc
  cases e
  have hnd:∀o ∈ os,∀c,o.op ≠ .defer c:=fun o ho=>zc7 os.toList 0 ops h1 hs o (by simpa using ho)
  have hrun:=z8m (K:=Q .normal) os.toList 0 ops (fun j=>by simp) h1 Hist.none Hist.none ρ J ⟨fun _ hs=>hs.elim,fun _ _=>trivial,fun _ _=>trivial⟩ h
  obtain⟨s1,R1⟩:=hR.drawn (w':={ w with drawn:=w.drawn+1 }) rfl rfl rfl rfl
  refine wpIn_region_any hf (zjr hnd PostI.tight _ _ _ _ ?_)
  refine z7p hb hdst os.size (Array.replicate os.size false) (List.range' 0 os.size) (by simp) z7t List.pairwise_lt_range' (zaj os) (by simp)
   (fun x i hx hi hxi=>zhq hok ((z7t i).1 hi).1 hxi) Hist.none ρ J γ a _ (by simpa using hrun) R1 (hE.mono s1) hn ?_
  intro ρ' J' γ' a' w' k1 k2 k3 k4 k5 k6
  exact⟨.normal,ρ',J',γ',rfl,k1,hst.trans (s1.trans k2),k3,k4,k5,k6⟩
 ·rcases hc with hc|hc
  ·obtain⟨_,_,e,_⟩:=z8r hc
   cases e
  ·obtain⟨_,_,e,_⟩:=z8q hc
   cases e
 ·cases hl
  have hnd:∀o ∈ os,∀c,o.op ≠ .defer c:=fun o ho=>zc7 os.toList 0 ops h1 hs o (by simpa using ho)
  have hrun:=z8m (K:=Q .normal) os.toList 0 ops (fun j=>by simp) h1 Hist.none Hist.none ρ J ⟨fun _ hs=>hs.elim,fun _ _=>trivial,fun _ _=>trivial⟩ h
  refine wpIn_region (zbt hnd PostI.tight _ _ _ ?_)
  refine zd9 hdst (List.range os.size) Hist.none ρ J γ a w (by rw [List.range_eq_range'];simpa using hrun) hR hE hn ?_
  intro ρ' J' γ' a' w' k1 k2 k3 k4 k5 k6
  exact⟨.normal,ρ',J',γ',rfl,k1,hst.trans k2,k3,k4,k5,k6⟩
end
end
section
open Go.RowKit
def DefOK(w:World)(a:Act)(w':World)(a':Act):Prop:=
 a'.defers=a.defers \/ ∃D,w.heap.size<=D/\ a'.defers={ target:= .collected D,args:= #[] }::a.defers/\ w'.heap[D]? =some (.deferred (some []))
def PostD(n:Nat)(Q:AExit->Env->Store->Prop)(γ0:Places)(w0:World)(C:Ctx)(a:Act):Exit->Act->World->Prop:=
 fun e a' w'=>∃ae ρ' J' γ',e=AExit.out ae/\ Q ae ρ' J'/\ Step γ0 w0 γ' w'/\ Rel C γ' J' w'/\ EnvR γ' w' ρ' a'.tmps/\ DefOK w0 a w' a'/\ a'.tmps.size=n
def SWpD(C:Ctx)(n k:Nat)(ac:ACode)(Q:AExit->Env->Store->Prop)(ρ:Env)(J:Store):Prop:=
 ∀(c:Code),z1a C n c=some ac->∀(γ0:Places) (w0:World),Glob C γ0 w0->γ0.length=k->∀(γ:Places) (a:Act) (w:World),Step γ0 w0 γ w->Rel C γ J w->EnvR γ w ρ a.tmps->a.tmps.size=n->
  c.wpIn Fence.wide 2 C.P (PostD n Q γ0 w0 C a) a w
section
variable {C:Ctx} {n k:Nat} {Q:AExit->Env->Store->Prop} {ρ:Env} {J:Store}
theorem SWpD.of{ac:ACode}(h:zW C n k ac Q ρ J):SWpD C n k ac Q ρ J:=by
 intro c hc γ0 w0 hgl hk γ a w hst hR hE hn
 refine wpIn_mono (wpIn_wide.2 (h c hc γ0 w0 hgl hk γ a w hst hR hE hn)) ?_
 rintro e a' w' ⟨ae,ρ',J',γ',h1,h2,h3,h4,h5,h6,h7⟩
 exact⟨ae,ρ',J',γ',h1,h2,h3,h4,h5,.inl h6,h7⟩
theorem SWpD.block{id:Nat}{x:ACode}(h:SWpD C n k x (blkQ id Q) ρ J):SWpD C n k (.block id x) Q ρ J:=by
 intro c hc γ0 w0 hgl hk γ a w hst hR hE hn
 obtain⟨c1,rfl,h1⟩:=zc6 hc
 refine wpIn_block (wpIn_mono (h c1 h1 γ0 w0 hgl hk γ a w hst hR hE hn) ?_)
 rintro e a' w' ⟨ae,ρ',J',γ',rfl,hq,q⟩
 cases ae with
 |normal=>exact⟨.normal,ρ',J',γ',rfl,hq,q⟩
 |exit id'=>
  simp only [AExit.out,Exit.inBlock]
  simp only [blkQ]at hq
  split at hq
  ·rename_i he
   rw [if_pos he]
   exact⟨.normal,ρ',J',γ',rfl,hq,q⟩
  ·rename_i he
   rw [if_neg he]
   exact⟨.exit id',ρ',J',γ',rfl,hq,q⟩
 |ret=>exact⟨.ret,ρ',J',γ',rfl,hq,q⟩
end
theorem VRss.elem{γ:Places}{w:World}{k:Nat}:∀{es:List (List AV)} {vals:List Value},VRss γ w es vals->(∀e ∈ es,e.length=k)->∀{i:Nat} {e:List AV},es[i]? =some e->∃A v B,vals=A++v++B/\ A.length=i*k/\ VRs γ w e v
 | [],vals,h,_,i,e,hi=>by simp at hi
 |x::es,vals,h,hu,i,e,hi=>by
  simp only [VRss]at h
  obtain⟨v1,v2,rfl,h1,h2⟩:=h
  cases i with
  |zero=>
   simp at hi;subst hi
   exact⟨[],v1,v2,by simp,by simp,h1⟩
  |succ i=>
   simp at hi
   obtain⟨A,v,B,rfl,h3,h4⟩:=VRss.elem h2 (fun e he=>hu e (by simp [he])) hi
   refine⟨v1++A,v,B,by simp [List.append_assoc],?_,h4⟩
   rw [List.length_append,h3,<-h1.length,hu x (by simp),Nat.succ_mul,Nat.add_comm]
end
section
/-! A number of rounds. -/
def zc0(C:Ctx)(n k:Nat)(x:ACode)(Q:AExit->Env->Store->Prop):Nat->Env->Store->Prop
 | 0,_,_=>False
 |m+1,ρ,J=>zW C n k x (z2r (zc0 C n k x Q m) Q) ρ J
theorem zsj{K K':Env->Store->Prop}{Q Q':AExit->Env->Store->Prop}(hk:∀ρ J,K ρ J->K' ρ J)(hq:∀e ρ J,Q e ρ J->Q' e ρ J)(e:AExit)(ρ:Env)(J:Store)(h:z2r K Q e ρ J):z2r K' Q' e ρ J:=by
 cases e with
 |normal=>exact hk _ _ h
 |exit id=>exact hq _ _ _ h
 |ret=>exact hq _ _ _ h
theorem zW.rounds{C:Ctx}{n k m:Nat}{x:ACode}{Q:AExit->Env->Store->Prop}{ρ:Env}{J:Store}(h:zc0 C n k x Q m ρ J):zW C n k (.loop x) Q ρ J:=by
 refine zW.loop (fun m ρ J=>zc0 C n k x Q m ρ J) m h ?_
 intro m ρ J hm
 cases m with
 |zero=>exact hm.elim
 |succ m=>exact zW.mono hm (zsj (fun ρ J h=>⟨m,Nat.lt_succ_self m,h⟩) fun _ _ _ h=>h)
/-! The machine. -/
mutual
def rlB(k:Nat):AV->Bool
 | .ptr r _ _=>Nat.blt r k
 | .sl r _ _ _ _=>Nat.blt r k
 | .asl r _ _ _ _ _=>Nat.blt r k
 | .bld r=>Nat.blt r k
 | .bsl r _=>Nat.blt r k
 | .vp cs=>rlsB k cs
 | .vsl _ es _=>zb8 k es
 | .fn _ caps=>rlsB k caps
 | .agg cs=>rlsB k cs
 | .tup vs=>rlsB k vs
 | _=>true
def rlsB(k:Nat):List AV->Bool
 | []=>true
 |a::as_=>rlB k a && rlsB k as_
def zb8(k:Nat):List (List AV)->Bool
 | []=>true
 |e::es=>rlsB k e && zb8 k es
end
mutual
theorem zz{k:Nat}:∀(a:AV),rlB k a=true->RL k a
 | .ptr r _ _,h=>by simpa [rlB,RL]using h
 | .sl r _ _ _ _,h=>by simpa [rlB,RL]using h
 | .asl r _ _ _ _ _,h=>by simpa [rlB,RL]using h
 | .bld r,h=>by simpa [rlB,RL]using h
 | .bsl r _,h=>by simpa [rlB,RL]using h
 | .vp cs,h=>by simp only [rlB]at h;simp only [RL];exact z7u cs h
 | .vsl _ es _,h=>by simp only [rlB]at h;simp only [RL];exact zik es h
 | .fn _ caps,h=>by simp only [rlB]at h;simp only [RL];exact z7u caps h
 | .agg cs,h=>by simp only [rlB]at h;simp only [RL];exact z7u cs h
 | .tup vs,h=>by simp only [rlB]at h;simp only [RL];exact z7u vs h
 | .bnil,_=>by simp only [RL]
 | .any,_=>by simp only [RL]
 | .undef,_=>by simp only [RL]
 | .bool _,_=>by simp only [RL]
 | .int _ _,_=>by simp only [RL]
 | .str _,_=>by simp only [RL]
 | .nilp,_=>by simp only [RL]
 | .nilsl,_=>by simp only [RL]
 | .nilfn,_=>by simp only [RL]
theorem z7u{k:Nat}:∀(l:List AV),rlsB k l=true->RLs k l
 | [],_=>by simp only [RLs]
 |a::l,h=>by simp only [rlsB,Bool.and_eq_true]at h;simp only [RLs];exact⟨zz a h.1,z7u l h.2⟩
theorem zik{k:Nat}:∀(l:List (List AV)),zb8 k l=true->RLss k l
 | [],_=>by simp only [RLss]
 |a::l,h=>by simp only [zb8,Bool.and_eq_true]at h;simp only [RLss];exact⟨z7u a h.1,zik l h.2⟩
end
/-! Soundness. -/
section
variable {C:Ctx}
end
end
section
open Go.ChangeShapes Go.WideShapes Go.ChangeAt Go.RowKit
theorem Rel.empty{C:Ctx}(hg:∀g,C.gl g=none)(w:World):Rel C [] [] w:=
 ⟨rfl,by simp,by simp,by simp,fun g cs h=>by rw [hg]at h;cases h⟩
theorem ACallsTo.calls{C:Ctx}{f:FuncId}{e:Nat × List RV × ACode}(hc:cFn C f=some e){args:List AV}{J':Store}{b:Bool}(h:ACallsTo C f args [] (.bool b) J'){W:World}(hR:Rel C [] [] W){cargs:List Value}(ha:VRt [] W args cargs):
  Calls C.P f cargs.toArray W fun e w'=>e= .returned (.bool b)/\ Below W.heap.size W w':=by
 rcases h [] W cargs hR ha with⟨_,h⟩| ⟨cv,γ',w',h,_⟩
 ·refine h.mono ?_
  rintro e w' ⟨cv,γ',rfl,hs,_,hv⟩
  simp only [VR]at hv
  subst hv
  exact⟨rfl,hs.os,hs.tape,hs.output,hs.size,fun k hk=>hs.imm k hk (by simp)⟩
 ·exfalso
  simp only [cFn,Option.bind_eq_some_iff]at hc
  obtain⟨fn,hf,hc⟩:=hc
  split at hc
  ·cases hc
  ·rename_i hname
   simp only [Option.bind_eq_some_iff]at hc
   obtain⟨c,hb,_⟩:=hc
   have h1:fn.name ≠ "runtime.NumGoroutine" :=by simpa using hname
   simp [callFunc,hf,h1,hb]at h
section
variable {H:Type} {enc:TypeId × Value->H} {P:Program}
theorem zjg (hl : laidOutB P = true) {W W' : World} (hb : Below W.heap.size W W') : ∀ {ts : List TypeId} {vs : List Value} {ds : List (DataW H)} {ps : List MemPlace}, (ts.all fun t => P.readableRec t && decide (t < P.types.size)) = true ->
    DataW.TrodAll enc P W 0 (fun _=>true) true ts vs ds ps->(∀x ∈ ps,x.block<W.heap.size)->DataW.TrodAll enc P W' 0 (fun b=>decide (b<W.heap.size)) true ts vs ds ps
  | [],[],[],_,_,h,_=>h
  |t::ts,v::vs,d::ds,ps,ht,h,hlt=>by
    obtain⟨p,q,h1,h2,rfl⟩:=h
    simp only [List.all_cons,Bool.and_eq_true,decide_eq_true_eq]at ht
    exact⟨p,q,Below.trod hl ht.1.1 ht.1.2 h1 hb (fun x hx=>hlt x (by simp [hx])),zjg hl hb ht.2 h2 (fun x hx=>hlt x (by simp [hx])),rfl⟩
  | [],[],_::_,_,_,h,_=>h.elim
  | [],_::_,_,_,_,h,_=>h.elim
  | _::_,[],_,_,_,h,_=>h.elim
  | _::_,_::_,[],_,_,h,_=>h.elim
theorem zog{f:Func}{s:ChangeSpec}{W W':World}{args:Array Value}{ds gs:List (DataW H)}{before:List MemPlace}{tb:TypeId}
  (hW:DataW.Whole enc P f.params.toList s.vars false W args.toList ds gs before) (hvars:s.vars=[]) (hfn:∀gs,gs=[]->(s.fn H (ds++gs)).results=[.lit (.bool true)]/\ (s.fn H (ds++gs)).args=ds/\ (s.fn H (ds++gs)).vars=[])
  (hres:f.resultTypes= #[tb]) (htb:P.underlying tb=some .bool) (hl:laidOutB P=true) (hpar:(f.params.toList.all fun t=>P.readableRec t && decide (t<P.types.size))=true) (hb:Below W.heap.size W W'):
  s.post enc P f false true false false W args (.bool true) W':=by
 have hlt:∀p ∈ before,p.block<W.heap.size:=fun p hp=>hW.lt p hp
 have hW0:=hW
 obtain⟨p,q,hA,hV,rfl,hfz,hnd⟩:=hW
 have hgs:gs=[]/\ q=[]:=by
  rw [hvars]at hV
  cases gs with
  |nil=>exact⟨rfl,hV⟩
  |cons a l=>exact hV.elim
 obtain⟨rfl,rfl⟩:=hgs
 obtain⟨k1,k2,k3⟩:=hfn [] rfl
 refine⟨ds,[],_,[],p,[],hW0,?_,?_,?_,hb.frame _,fun h=>by cases h⟩
 ·rw [k1,hres]
  exact trodAll_cons_mk (shut_bool htb _) trodAll_mk0
 ·rw [k2]
  exact zjg hl hb hpar hA (fun x hx=>hlt x (by simp [hx]))
 ·rw [k3,hvars];rfl
end
end
section
section
variable {C:Ctx} {K:Env->Store->Prop} {ρ:Env} {J:Store} {d:Option Nat} {g:Option (Nat × Bool)} {nd:Nd} {is:List AIns} {H:Hist}
theorem z5o{x}:z10 C K (⟨d,g,nd,.mv x⟩::is) H ρ J=z12 (z10 C K is) H ⟨d,g,nd,.mv x⟩ ρ J:=rfl
theorem z5q{c}{a}{b}:z10 C K (⟨d,g,nd,.pick c a b⟩::is) H ρ J=z12 (z10 C K is) H ⟨d,g,nd,.pick c a b⟩ ρ J:=rfl
theorem z4z{z}:z10 C K (⟨d,g,nd,.alloc z⟩::is) H ρ J=z12 (z10 C K is) H ⟨d,g,nd,.alloc z⟩ ρ J:=rfl
theorem zq0:z10 C K (⟨d,g,nd,.allB⟩::is) H ρ J=z12 (z10 C K is) H ⟨d,g,nd,.allB⟩ ρ J:=rfl
theorem zq1{s}{x}:z10 C K (⟨d,g,nd,.appB s x⟩::is) H ρ J=z12 (z10 C K is) H ⟨d,g,nd,.appB s x⟩ ρ J:=rfl
theorem z54{x}:z10 C K (⟨d,g,nd,.box x⟩::is) H ρ J=z12 (z10 C K is) H ⟨d,g,nd,.box x⟩ ρ J:=rfl
theorem z55{z}{ps}:z10 C K (⟨d,g,nd,.build z ps⟩::is) H ρ J=z12 (z10 C K is) H ⟨d,g,nd,.build z ps⟩ ρ J:=rfl
theorem z5j{sz}{xs}:z10 C K (⟨d,g,nd,.lit sz xs⟩::is) H ρ J=z12 (z10 C K is) H ⟨d,g,nd,.lit sz xs⟩ ρ J:=rfl
theorem z5k{ag}{n}{x}:z10 C K (⟨d,g,nd,.load ag n x⟩::is) H ρ J=z12 (z10 C K is) H ⟨d,g,nd,.load ag n x⟩ ρ J:=rfl
theorem z5s{n}{a}{x}:z10 C K (⟨d,g,nd,.store n a x⟩::is) H ρ J=z12 (z10 C K is) H ⟨d,g,nd,.store n a x⟩ ρ J:=rfl
theorem z5p{x}:z10 C K (⟨d,g,nd,.nilc x⟩::is) H ρ J=z12 (z10 C K is) H ⟨d,g,nd,.nilc x⟩ ρ J:=rfl
theorem z52{op}{bk}{x}{y}:z10 C K (⟨d,g,nd,.bin op bk x y⟩::is) H ρ J=z12 (z10 C K is) H ⟨d,g,nd,.bin op bk x y⟩ ρ J:=rfl
theorem z5t{op}{x}:z10 C K (⟨d,g,nd,.un op x⟩::is) H ρ J=z12 (z10 C K is) H ⟨d,g,nd,.un op x⟩ ρ J:=rfl
theorem z57{c}{x}:z10 C K (⟨d,g,nd,.conv c x⟩::is) H ρ J=z12 (z10 C K is) H ⟨d,g,nd,.conv c x⟩ ρ J:=rfl
theorem z5n{f}{caps}:z10 C K (⟨d,g,nd,.mkfn f caps⟩::is) H ρ J=z12 (z10 C K is) H ⟨d,g,nd,.mkfn f caps⟩ ρ J:=rfl
theorem z5l{sz}{z}{l}{c}:z10 C K (⟨d,g,nd,.make sz z l c⟩::is) H ρ J=z12 (z10 C K is) H ⟨d,g,nd,.make sz z l c⟩ ρ J:=rfl
theorem z5r{k}{x}{lo}{hi}{mx}:z10 C K (⟨d,g,nd,.slice k x lo hi mx⟩::is) H ρ J=z12 (z10 C K is) H ⟨d,g,nd,.slice k x lo hi mx⟩ ρ J:=rfl
theorem z5a{k}{x}:z10 C K (⟨d,g,nd,.fa k x⟩::is) H ρ J=z12 (z10 C K is) H ⟨d,g,nd,.fa k x⟩ ρ J:=rfl
theorem z5b{ag}{n}{off}{x}:z10 C K (⟨d,g,nd,.fld ag n off x⟩::is) H ρ J=z12 (z10 C K is) H ⟨d,g,nd,.fld ag n off x⟩ ρ J:=rfl
theorem z5c{n}{sz}{x}{i}:z10 C K (⟨d,g,nd,.iaArr n sz x i⟩::is) H ρ J=z12 (z10 C K is) H ⟨d,g,nd,.iaArr n sz x i⟩ ρ J:=rfl
theorem z5d{sz}{x}{i}:z10 C K (⟨d,g,nd,.iaSl sz x i⟩::is) H ρ J=z12 (z10 C K is) H ⟨d,g,nd,.iaSl sz x i⟩ ρ J:=rfl
theorem z5e{n}{ag}{sz}{x}{i}:z10 C K (⟨d,g,nd,.ixArr n ag sz x i⟩::is) H ρ J=z12 (z10 C K is) H ⟨d,g,nd,.ixArr n ag sz x i⟩ ρ J:=rfl
theorem z5f{x}{i}:z10 C K (⟨d,g,nd,.ixStr x i⟩::is) H ρ J=z12 (z10 C K is) H ⟨d,g,nd,.ixStr x i⟩ ρ J:=rfl
theorem z59{i}{x}:z10 C K (⟨d,g,nd,.ext i x⟩::is) H ρ J=z12 (z10 C K is) H ⟨d,g,nd,.ext i x⟩ ρ J:=rfl
theorem z5i{x}:z10 C K (⟨d,g,nd,.lenStr x⟩::is) H ρ J=z12 (z10 C K is) H ⟨d,g,nd,.lenStr x⟩ ρ J:=rfl
theorem z5h{x}:z10 C K (⟨d,g,nd,.lenSl x⟩::is) H ρ J=z12 (z10 C K is) H ⟨d,g,nd,.lenSl x⟩ ρ J:=rfl
theorem z5g{n}:z10 C K (⟨d,g,nd,.lenArr n⟩::is) H ρ J=z12 (z10 C K is) H ⟨d,g,nd,.lenArr n⟩ ρ J:=rfl
theorem z50{sz}{s}{x}:z10 C K (⟨d,g,nd,.app sz s x⟩::is) H ρ J=z12 (z10 C K is) H ⟨d,g,nd,.app sz s x⟩ ρ J:=rfl
theorem z58{sz}{e}{s}:z10 C K (⟨d,g,nd,.copy sz e s⟩::is) H ρ J=z12 (z10 C K is) H ⟨d,g,nd,.copy sz e s⟩ ρ J:=rfl
theorem z56{z}{x}:z10 C K (⟨d,g,nd,.clear z x⟩::is) H ρ J=z12 (z10 C K is) H ⟨d,g,nd,.clear z x⟩ ρ J:=rfl
theorem z5m{mx}{x}{y}:z10 C K (⟨d,g,nd,.minmax mx x y⟩::is) H ρ J=z12 (z10 C K is) H ⟨d,g,nd,.minmax mx x y⟩ ρ J:=rfl
variable {lj mj:List AIns}
theorem oj_mv{x}:z14 C K lj mj (⟨d,g,nd,.mv x⟩::is) H ρ J=z12 (z14 C K lj mj is) H ⟨d,g,nd,.mv x⟩ ρ J:=rfl
theorem zpm{c}{a}{b}:z14 C K lj mj (⟨d,g,nd,.pick c a b⟩::is) H ρ J=z12 (z14 C K lj mj is) H ⟨d,g,nd,.pick c a b⟩ ρ J:=rfl
theorem zp3{z}:z14 C K lj mj (⟨d,g,nd,.alloc z⟩::is) H ρ J=z12 (z14 C K lj mj is) H ⟨d,g,nd,.alloc z⟩ ρ J:=rfl
theorem zp2:z14 C K lj mj (⟨d,g,nd,.allB⟩::is) H ρ J=z12 (z14 C K lj mj is) H ⟨d,g,nd,.allB⟩ ρ J:=rfl
theorem zp4{s}{x}:z14 C K lj mj (⟨d,g,nd,.appB s x⟩::is) H ρ J=z12 (z14 C K lj mj is) H ⟨d,g,nd,.appB s x⟩ ρ J:=rfl
theorem oj_box{x}:z14 C K lj mj (⟨d,g,nd,.box x⟩::is) H ρ J=z12 (z14 C K lj mj is) H ⟨d,g,nd,.box x⟩ ρ J:=rfl
theorem zp5{z}{ps}:z14 C K lj mj (⟨d,g,nd,.build z ps⟩::is) H ρ J=z12 (z14 C K lj mj is) H ⟨d,g,nd,.build z ps⟩ ρ J:=rfl
theorem oj_lit{sz}{xs}:z14 C K lj mj (⟨d,g,nd,.lit sz xs⟩::is) H ρ J=z12 (z14 C K lj mj is) H ⟨d,g,nd,.lit sz xs⟩ ρ J:=rfl
theorem zph{ag}{n}{x}:z14 C K lj mj (⟨d,g,nd,.load ag n x⟩::is) H ρ J=z12 (z14 C K lj mj is) H ⟨d,g,nd,.load ag n x⟩ ρ J:=rfl
theorem zpo{n}{a}{x}:z14 C K lj mj (⟨d,g,nd,.store n a x⟩::is) H ρ J=z12 (z14 C K lj mj is) H ⟨d,g,nd,.store n a x⟩ ρ J:=rfl
theorem zpl{x}:z14 C K lj mj (⟨d,g,nd,.nilc x⟩::is) H ρ J=z12 (z14 C K lj mj is) H ⟨d,g,nd,.nilc x⟩ ρ J:=rfl
theorem oj_bin{op}{bk}{x}{y}:z14 C K lj mj (⟨d,g,nd,.bin op bk x y⟩::is) H ρ J=z12 (z14 C K lj mj is) H ⟨d,g,nd,.bin op bk x y⟩ ρ J:=rfl
theorem oj_un{op}{x}:z14 C K lj mj (⟨d,g,nd,.un op x⟩::is) H ρ J=z12 (z14 C K lj mj is) H ⟨d,g,nd,.un op x⟩ ρ J:=rfl
theorem zp8{c}{x}:z14 C K lj mj (⟨d,g,nd,.conv c x⟩::is) H ρ J=z12 (z14 C K lj mj is) H ⟨d,g,nd,.conv c x⟩ ρ J:=rfl
theorem zpk{f}{caps}:z14 C K lj mj (⟨d,g,nd,.mkfn f caps⟩::is) H ρ J=z12 (z14 C K lj mj is) H ⟨d,g,nd,.mkfn f caps⟩ ρ J:=rfl
theorem zpi{sz}{z}{l}{c}:z14 C K lj mj (⟨d,g,nd,.make sz z l c⟩::is) H ρ J=z12 (z14 C K lj mj is) H ⟨d,g,nd,.make sz z l c⟩ ρ J:=rfl
theorem zpn{k}{x}{lo}{hi}{mx}:z14 C K lj mj (⟨d,g,nd,.slice k x lo hi mx⟩::is) H ρ J=z12 (z14 C K lj mj is) H ⟨d,g,nd,.slice k x lo hi mx⟩ ρ J:=rfl
theorem oj_fa{k}{x}:z14 C K lj mj (⟨d,g,nd,.fa k x⟩::is) H ρ J=z12 (z14 C K lj mj is) H ⟨d,g,nd,.fa k x⟩ ρ J:=rfl
theorem oj_fld{ag}{n}{off}{x}:z14 C K lj mj (⟨d,g,nd,.fld ag n off x⟩::is) H ρ J=z12 (z14 C K lj mj is) H ⟨d,g,nd,.fld ag n off x⟩ ρ J:=rfl
theorem zpa{n}{sz}{x}{i}:z14 C K lj mj (⟨d,g,nd,.iaArr n sz x i⟩::is) H ρ J=z12 (z14 C K lj mj is) H ⟨d,g,nd,.iaArr n sz x i⟩ ρ J:=rfl
theorem zpb{sz}{x}{i}:z14 C K lj mj (⟨d,g,nd,.iaSl sz x i⟩::is) H ρ J=z12 (z14 C K lj mj is) H ⟨d,g,nd,.iaSl sz x i⟩ ρ J:=rfl
theorem zpc{n}{ag}{sz}{x}{i}:z14 C K lj mj (⟨d,g,nd,.ixArr n ag sz x i⟩::is) H ρ J=z12 (z14 C K lj mj is) H ⟨d,g,nd,.ixArr n ag sz x i⟩ ρ J:=rfl
theorem zpd{x}{i}:z14 C K lj mj (⟨d,g,nd,.ixStr x i⟩::is) H ρ J=z12 (z14 C K lj mj is) H ⟨d,g,nd,.ixStr x i⟩ ρ J:=rfl
theorem oj_ext{i}{x}:z14 C K lj mj (⟨d,g,nd,.ext i x⟩::is) H ρ J=z12 (z14 C K lj mj is) H ⟨d,g,nd,.ext i x⟩ ρ J:=rfl
theorem zpg{x}:z14 C K lj mj (⟨d,g,nd,.lenStr x⟩::is) H ρ J=z12 (z14 C K lj mj is) H ⟨d,g,nd,.lenStr x⟩ ρ J:=rfl
theorem zpf{x}:z14 C K lj mj (⟨d,g,nd,.lenSl x⟩::is) H ρ J=z12 (z14 C K lj mj is) H ⟨d,g,nd,.lenSl x⟩ ρ J:=rfl
theorem zpe{n}:z14 C K lj mj (⟨d,g,nd,.lenArr n⟩::is) H ρ J=z12 (z14 C K lj mj is) H ⟨d,g,nd,.lenArr n⟩ ρ J:=rfl
theorem oj_app{sz}{s}{x}:z14 C K lj mj (⟨d,g,nd,.app sz s x⟩::is) H ρ J=z12 (z14 C K lj mj is) H ⟨d,g,nd,.app sz s x⟩ ρ J:=rfl
theorem zp9{sz}{e}{s}:z14 C K lj mj (⟨d,g,nd,.copy sz e s⟩::is) H ρ J=z12 (z14 C K lj mj is) H ⟨d,g,nd,.copy sz e s⟩ ρ J:=rfl
theorem zp7{z}{x}:z14 C K lj mj (⟨d,g,nd,.clear z x⟩::is) H ρ J=z12 (z14 C K lj mj is) H ⟨d,g,nd,.clear z x⟩ ρ J:=rfl
theorem zpj{mx}{x}{y}:z14 C K lj mj (⟨d,g,nd,.minmax mx x y⟩::is) H ρ J=z12 (z14 C K lj mj is) H ⟨d,g,nd,.minmax mx x y⟩ ρ J:=rfl
theorem oj_nil:z14 C K lj mj [] H ρ J=(z10 C K lj H ρ J/\ z10 C K mj H ρ J):=rfl
theorem zp6{f}{xs}:z14 C K lj mj (⟨d,g,nd,.call f xs⟩::is) H ρ J=z2c C (z14 C K lj mj is) H ρ J d nd f xs (z1p ρ g):=rfl
/-! Unsigned numbers as_ bit rows. -/
theorem zbu{k:IntKind}(hk:k.signed=false)(n:Int):k.wrap n=n%2^k.bits:=by simp [IntKind.wrap,hk]
theorem u_nat{k:IntKind}(hk:k.signed=false)(x:BitVec k.bits):k.wrap (x.toNat:Int)=x.toNat:=by
 rw [zbu hk]
 have:=x.isLt
 rw [Int.emod_eq_of_lt (by omega)]
 exact_mod_cast this
theorem getElem?_app{J l:Store}{k:Nat}:(J++l)[J.length+k]? =l[k]?:=by rw [List.getElem?_append_right (by omega),Nat.add_sub_cancel_left]
theorem getElem?_app0{J l:Store}:(J++l)[J.length]? =l[0]?:=getElem?_app (k:=0)
theorem z4i{J l:Store}{k:Nat}{x:Option AObj}:(J++l).set (J.length+k) x=J++l.set k x:=by rw [List.set_append_right _ _ (by omega),Nat.add_sub_cancel_left]
theorem z5w{J l:Store}{x:Option AObj}:(J++l).set J.length x=J++l.set 0 x:=z4i (k:=0)
end
end
section
open Go.ChangeShapes Go.WideShapes Go.ChangeAt Go.RowKit
inductive Ty where
 |int (k:IntKind)
 |bool
 |str
 |sl (sz:Nat) (e:Ty)
 |row (ts:List Ty)
 deriving Inhabited
def tile(P:Program):List Field->Nat->Option Nat
 | [],n=>some n
 |f::l,n=>if f.offset=n then tile P l (n+P.cellsOf f.type)else none
def tyOf(P:Program):Nat->TypeId->Option Ty
 | 0,_=>none
 |d+1,t=>match P.underlying t with
  |some .bool=>some .bool
  |some (.int k)=>some (.int k)
  |some .string=>some .str
  |some (.slice e)=>if 0<P.cellsOf e then(tyOf P d e).map (.sl (P.cellsOf e))else none
  |some (.struct fs)=>if tile P fs.toList 0=some (P.cellsOf t)then(fs.toList.mapM fun f=>tyOf P d f.type).map .row else none
  |some (.array n e)=>if P.cellsOf t=n*P.cellsOf e then(tyOf P d e).map fun ty=> .row (List.replicate n ty)else none
  | _=>none
mutual
def ShC:Ty->List AV->Prop
 | .int k,cs=>∃n,cs=[.int k n]/\ k.min<=n/\ n<=k.max
 | .bool,cs=>∃b,cs=[.bool b]
 | .str,cs=>∃s:List UInt8,cs=[.str s]/\ s.length<=maxLen
 | .sl sz e,cs=>cs=[.nilsl] \/ ∃es,cs=[.vsl sz es false]/\ es.length<=maxLen/\ (∀x ∈ es,x.length=sz)/\ ∀x ∈ es,ShC e x
 | .row ts,cs=>z3p ts cs
def z3p:List Ty->List AV->Prop
 | [],cs=>cs=[]
 |t::ts,cs=>∃a b,cs=a++b/\ ShC t a/\ z3p ts b
end
def Sh:Ty->AV->Prop
 | .row ts,a=>∃cs,a= .agg cs/\ z3p ts cs
 |t,a=>ShC t [a]
def z86:List Ty->List AV->Prop
 | [],avs=>avs=[]
 |t::ts,avs=>∃a avs',avs=a::avs'/\ Sh t a/\ z86 ts avs'
section
variable {H:Type} {enc:TypeId × Value->H} {P:Program} {w:World}
theorem zca{base:Nat}{a:Addr}{n:Nat}{cs:List Value}(h:w.cells? base a n=some cs):cs.length=n/\ ∀i,i<n->w.cell? (a.add i)=cs[i]?:=
 ⟨(World.cells?_some h).2.1,(World.cells?_some h).2.2⟩
theorem zge{a:Addr}{v:Value}(h:w.cell? a=some v):a.spot=none/\ ∃c ty fz,w.heap[a.block]? =some (.cells c ty fz)/\ c[a.off]? =some v:=by
 unfold World.cell? at h
 split at h
 ·rename_i c ty fz hh
  split at h
  ·cases h
  ·rename_i hs
   exact⟨by simpa using hs,c,ty,fz,hh,h⟩
 ·cases h
theorem seg_of{b o n:Nat}{vals:List Value}(hn:0<n)(hl:vals.length<=n)(hall:∀k,k<n->∃v,w.cell? ⟨b,o+k,none⟩=some v)(hv:∀k,k<vals.length->w.cell? ⟨b,o+k,none⟩=vals[k]?):
  b<w.heap.size/\ Seg w b o vals:=by
 obtain⟨v0,h0⟩:=hall 0 hn
 obtain⟨_,c,ty,fz,hc,h0'⟩:=zge h0
 simp only [Nat.add_zero]at hc h0'
 have hget:∀k,w.cell? ⟨b,k,none⟩=c[k]?:=fun k=>by simp [World.cell?,hc]
 have ho:o+vals.length<=c.size:=by
  by_cases hz:vals.length=0
  ·have:=(Array.getElem?_eq_some_iff.1 h0').1;omega
  ·have:=hv (vals.length-1) (by omega)
   rw [hget,List.getElem?_eq_getElem (by omega)]at this
   have:=(Array.getElem?_eq_some_iff.1 this).1;omega
 refine⟨?_,c,ty,fz,c.toList.take o,c.toList.drop (o+vals.length),hc,?_,by simp;omega⟩
 ·rcases Nat.lt_or_ge b w.heap.size with h|h
  ·exact h
  ·simp [Array.getElem?_eq_none h]at hc
 ·have e:vals=(c.toList.drop o).take vals.length:=by
   apply List.ext_getElem?
   intro k
   simp only [List.getElem?_take,List.getElem?_drop]
   by_cases hk:k<vals.length
   ·rw [if_pos hk,<-hv k hk,hget];simp
   ·rw [if_neg hk,List.getElem?_eq_none (by omega)]
  conv=>lhs;rw [<-List.take_append_drop o c.toList,<-List.take_append_drop vals.length (c.toList.drop o),<-e]
  simp [List.append_assoc]
theorem zid {n : Nat} {spare : Nat -> Bool} {held : Bool} {base : Nat} {cs : List Value} {d : Nat}
    (ih:∀(t:TypeId) (ty:Ty) (cs:List Value) (x:DataW H × List MemPlace),tyOf P d t=some ty->DataW.trod enc P w base spare held n t cs=some x->cs.length=P.cellsOf t->∃avs,VRs [] w avs cs/\ ShC ty avs):
    ∀(l:List Field) (k:Nat) (tys:List Ty),tile P l k=some cs.length->l.mapM (fun f=>tyOf P d f.type)=some tys->
      (∀f ∈ l,∃x,DataW.trod enc P w base spare held n f.type ((cs.drop f.offset).take (P.cellsOf f.type))=some x)->k<=cs.length->∃avs,VRs [] w avs (cs.drop k)/\ z3p tys avs
  | [],k,tys,hk,ht,_,_=>by
    simp only [tile,Option.some.injEq]at hk
    simp at ht
    subst ht
    exact⟨[],by rw [hk];simp [VRs],by simp [z3p]⟩
  |f::l,k,tys,hk,ht,hx,hle=>by
    simp only [tile]at hk
    split at hk
    · rename_i hf
      simp only [List.mapM_cons,Option.bind_eq_bind,Option.bind_eq_some_iff,Option.pure_def,Option.some.injEq]at ht
      obtain⟨ty,hty,tys',htys,rfl⟩:=ht
      have hle2:k+P.cellsOf f.type<=cs.length:=by
        have:∀(l:List Field) (a b:Nat),tile P l a=some b->a<=b:=by
          intro l
          induction l with
          |nil=>intro a b h;simp [tile]at h;omega
          | cons f l ih => intro a b h; simp only [tile] at h; split at h; · have := ih _ _ h; omega
                           · cases h
        exact this l _ _ hk
      obtain⟨x,hx1⟩:=hx f (by simp)
      obtain⟨avs,h1,h2⟩:=ih f.type ty _ x hty hx1 (by simp;omega)
      obtain⟨bs,h3,h4⟩:=zid ih l (k+P.cellsOf f.type) tys' hk htys (fun g hg=>hx g (by simp [hg])) hle2
      refine⟨avs++bs,?_,avs,bs,rfl,h2,h4⟩
      have e:cs.drop k=(cs.drop k).take (P.cellsOf f.type)++cs.drop (k+P.cellsOf f.type):=by
        rw [<-List.drop_drop,List.take_append_drop]
      rw [e]
      rw [hf]at h1
      exact h1.append h3
    · cases hk
theorem zic{n:Nat}{spare:Nat->Bool}{held:Bool}{base:Nat}{d:Nat}{e:TypeId}{ty:Ty}(hty:tyOf P d e=some ty)
  (ih:∀(t:TypeId) (ty:Ty) (cs:List Value) (x:DataW H × List MemPlace),tyOf P d t=some ty->DataW.trod enc P w base spare held n t cs=some x->cs.length=P.cellsOf t->∃avs,VRs [] w avs cs/\ ShC ty avs):
  ∀(m:Nat) (cs:List Value),cs.length=m*P.cellsOf e->(∀i,i<m->∃x,DataW.trod enc P w base spare held n e ((cs.drop (i*P.cellsOf e)).take (P.cellsOf e))=some x)->
   ∃avs,VRs [] w avs cs/\ z3p (List.replicate m ty) avs
 | 0,cs,hl,_=>by
  have:cs=[]:=List.eq_nil_of_length_eq_zero (by simpa using hl)
  subst this
  exact⟨[],by simp [VRs],by simp [z3p]⟩
 |m+1,cs,hl,hx=>by
  rw [Nat.succ_mul]at hl
  obtain⟨x,h0⟩:=hx 0 (by omega)
  simp only [Nat.zero_mul,List.drop_zero]at h0
  obtain⟨avs,h1,h2⟩:=ih e ty _ x hty h0 (by simp;omega)
  obtain⟨bs,h3,h4⟩:=zic hty ih m (cs.drop (P.cellsOf e)) (by simp;omega) (fun i hi=>by
   obtain⟨y,hy⟩:=hx (i+1) (by omega)
   refine⟨y,?_⟩
   rw [List.drop_drop,Nat.add_comm,<-Nat.succ_mul];exact hy)
  refine⟨avs++bs,?_,avs,bs,rfl,h2,h4⟩
  rw [<-List.take_append_drop (P.cellsOf e) cs]
  exact h1.append h3
theorem zdn{base:Nat}{held:Bool}:∀(fuel d:Nat) (t:TypeId) (ty:Ty) (cs:List Value) (x:DataW H × List MemPlace),tyOf P d t=some ty->
  DataW.trod enc P w base (fun _=>true) held fuel t cs=some x->∃avs,VRs [] w avs cs/\ ShC ty avs
 | 0,_,_,_,_,_,_,h=>by simp [DataW.trod]at h
 | _+1,0,_,_,_,_,ht,_=>by simp [tyOf]at ht
 |fuel+1,d+1,t,ty,cs,x,ht,h=>by
  have ih:=fun(t:TypeId) (ty:Ty) (cs:List Value) (x:DataW H × List MemPlace) (h1:tyOf P d t=some ty) (h2:DataW.trod enc P w base (fun _=>true) held fuel t cs=some x) (_:cs.length=P.cellsOf t)=>zdn fuel d t ty cs x h1 h2
  unfold tyOf at ht
  split at ht
  ·rename_i hu
   simp only [Option.some.injEq]at ht;subst ht
   obtain⟨b,rfl,_⟩:=DataW.trod_bool hu h
   exact⟨[.bool b],.one ⟨VR.bool,rfl⟩,by simp [ShC]⟩
  ·rename_i k hu
   simp only [Option.some.injEq]at ht;subst ht
   obtain⟨n,rfl,_,hw⟩:=DataW.trod_int hu h
   simp only [Lit.wf,Bool.and_eq_true,decide_eq_true_eq]at hw
   exact⟨[.int k n],.one ⟨VR.int,rfl⟩,by simp only [ShC];exact⟨n,rfl,hw.1,hw.2⟩⟩
  ·rename_i hu
   simp only [Option.some.injEq]at ht;subst ht
   obtain⟨s,rfl,_,hs⟩:=DataW.trod_string hu h
   refine⟨[.str s.data.toList],.one ⟨by simp [VR],rfl⟩,by simp only [ShC];exact⟨_,rfl,by simpa using hs⟩⟩
  ·rename_i e hu
   split at ht
   ·rename_i hpos
    simp only [Option.map_eq_some_iff]at ht
    obtain⟨te,hte,rfl⟩:=ht
    rcases DataW.trod_slice hu h with⟨rfl,_⟩| ⟨a,len,cap,elems,rest,n,hn,rfl,_,hb,hl,hm,hlen,hel,hsp,_⟩
    ·exact⟨[.nilsl],.one ⟨by simp [VR],rfl⟩,by simp [ShC]⟩
    ·obtain⟨hrl,hr⟩:=hsp rfl
     have hn':n=fuel:=by omega
     subst hn'
     -- each element's cells
     have each:∀i,i<cap->∃cs y,w.cells? base (a.add (i*P.cellsOf e)) (P.cellsOf e)=some cs/\ DataW.trod enc P w base (fun _=>true) held n e cs=some y:=by
      intro i hi
      have:∃y,(w.cells? base (a.add (i*P.cellsOf e)) (P.cellsOf e)).bind (DataW.trod enc P w base (fun _=>true) held n e)=some y:=by
       by_cases hil:i<len
       ·rw [hel i hil];exact⟨_,List.getElem?_eq_getElem (by omega)⟩
       ·have:=hr (i-len) (by omega)
        rw [show len+(i-len)=i by omega]at this
        rw [this];exact⟨_,List.getElem?_eq_getElem (by omega)⟩
      obtain⟨y,hy⟩:=this
      rw [Option.bind_eq_some_iff]at hy
      obtain⟨cs,h1,h2⟩:=hy
      exact⟨cs,y,h1,h2⟩
     by_cases hc0:cap=0
     ·subst hc0
      have:len=0:=by omega
      subst this
      exact⟨[.vsl (P.cellsOf e) [] false],.one ⟨by simp only [VR];exact .inl ⟨by simp,a,rfl⟩,rfl⟩,by simp [ShC]⟩
     ·have hspot:a.spot=none:=by
       obtain⟨cs,y,h1,_⟩:=each 0 (by omega)
       obtain⟨hl1,hc1⟩:=zca h1
       have:=hc1 0 hpos
       rw [List.getElem?_eq_getElem (by omega)]at this
       have:=(zge this).1
       simpa [Addr.add]using this
      obtain⟨b,o,spot⟩:=a
      simp only at hspot
      subst hspot
      have cellAt:∀i j,i<cap->j<P.cellsOf e->∃v,w.cell? ⟨b,o+(i*P.cellsOf e+j),none⟩=some v:=by
       intro i j hi hj
       obtain⟨cs,y,h1,_⟩:=each i hi
       obtain⟨hl1,hc1⟩:=zca h1
       have:=hc1 j hj
       rw [List.getElem?_eq_getElem (by omega)]at this
       rw [add_plain,add_plain,Nat.add_assoc]at this
       exact⟨_,this⟩
      -- the first m elements
      have firsts:∀m,m<=cap->∃(es:List (List AV)) (vals:List Value),es.length=m/\ vals.length=m*P.cellsOf e/\ (∀x ∈ es,x.length=P.cellsOf e)/\ (∀x ∈ es,ShC te x)/\ VRss [] w es vals ∧
        ∀k,k<vals.length->w.cell? ⟨b,o+k,none⟩=vals[k]?:=by
       intro m
       induction m with
       |zero=>intro _;exact⟨[],[],rfl,by simp,by simp,by simp,by simp [VRss],by simp⟩
       |succ m ihm=>
        intro hm'
        obtain⟨es,vals,k1,k2,k3,k4,k5,k6⟩:=ihm (by omega)
        obtain⟨cs,y,h1,h2⟩:=each m (by omega)
        obtain⟨hl1,hc1⟩:=zca h1
        obtain⟨avs,q1,q2⟩:=zdn n d e te cs y hte h2
        refine⟨es++ [avs],vals++cs,by simp [k1],by simp [k2,hl1,Nat.succ_mul],?_,?_,?_,?_⟩
        ·intro x hx
         simp only [List.mem_append,List.mem_singleton]at hx
         rcases hx with hx|rfl
         ·exact k3 x hx
         ·rw [q1.length,hl1]
        ·intro x hx
         simp only [List.mem_append,List.mem_singleton]at hx
         rcases hx with hx|rfl
         ·exact k4 x hx
         ·exact q2
        ·rw [VRss.flat,List.flatten_append]
         refine(VRss.flat.1 k5).append ?_
         simpa using q1
        ·intro k hk
         by_cases hk1:k<vals.length
         ·rw [List.getElem?_append_left hk1];exact k6 k hk1
         ·rw [List.getElem?_append_right (by omega)]
          simp only [List.length_append]at hk
          have:=hc1 (k-vals.length) (by omega)
          rw [add_plain,add_plain]at this
          rw [<-this,k2]
          congr 2
          omega
      obtain⟨es,vals,k1,k2,k3,k4,k5,k6⟩:=firsts len hl
      have hmul:len*P.cellsOf e<=cap*P.cellsOf e:=Nat.mul_le_mul_right _ hl
      obtain⟨hbl,hseg⟩:=seg_of (w:=w) (b:=b) (o:=o) (n:=cap*P.cellsOf e) (vals:=vals) (Nat.mul_pos (by omega) hpos) (by omega) (by
       intro k hk
       have h1:k/P.cellsOf e<cap:=Nat.div_lt_of_lt_mul (by rw [Nat.mul_comm];exact hk)
       obtain⟨v,hv⟩:=cellAt (k/P.cellsOf e) (k%P.cellsOf e) h1 (Nat.mod_lt _ hpos)
       rw [Nat.mul_comm,Nat.div_add_mod]at hv
       exact⟨v,hv⟩) k6
      refine⟨[.vsl (P.cellsOf e) es false],.one ⟨?_,rfl⟩,?_⟩
      ·simp only [VR]
       right
       exact⟨b,o,cap,vals,by rw [k1],by omega,by simp,⟨hbl,by simp⟩,hseg,k3,k5⟩
      ·simp only [ShC]
       right
       exact⟨es,rfl,by omega,k3,k4⟩
   ·cases ht
  ·rename_i fs hu
   split at ht
   ·rename_i htile
    simp only [Option.map_eq_some_iff]at ht
    obtain⟨tys,htys,rfl⟩:=ht
    obtain⟨xs,n,hn,_,hcl,hxl,hxs⟩:=DataW.trod_struct hu h
    have hn':n=fuel:=by omega
    subst hn'
    obtain⟨avs,h1,h2⟩:=zid (cs:=cs) ih fs.toList 0 tys (by rw [hcl];exact htile) htys (fun f hf=>by
     obtain⟨i,hi⟩:=List.getElem?_of_mem hf
     have hi':fs[i]? =some f:=by simpa using hi
     rw [hxs i f hi']
     have:i<xs.length:=by rw [hxl];exact(Array.getElem?_eq_some_iff.1 hi').1
     exact⟨_,List.getElem?_eq_getElem this⟩) (Nat.zero_le _)
    exact⟨avs,by simpa using h1,by simpa only [ShC]using h2⟩
   ·cases ht
  ·rename_i n e hu
   split at ht
   ·rename_i hsz
    simp only [Option.map_eq_some_iff]at ht
    obtain⟨te,hte,rfl⟩:=ht
    obtain⟨xs,m,hm,_,hcl,hxl,hxs⟩:=DataW.trod_array hu h
    have hm':m=fuel:=by omega
    subst hm'
    obtain⟨avs,h1,h2⟩:=zic hte ih n cs (by rw [hcl,hsz]) (fun i hi=>by
     rw [hxs i hi];exact⟨_,List.getElem?_eq_getElem (by omega)⟩)
    exact⟨avs,h1,by simpa only [ShC]using h2⟩
   ·cases ht
  ·cases ht
theorem zpq{r:Reach}{b0 base:Nat}{held:Bool}{d:Nat}{t:TypeId}{ty:Ty}{v:Value}{x:DataW H}{ps:List MemPlace}(ht:tyOf P d t=some ty)(hval:Value.okWide P w r b0 t v)
  (hd:DataW.Trod enc P w base (fun _=>true) held t v x ps):∃a,VR [] w a v/\ Sh ty a:=by
 obtain⟨fuel,hf⟩:=hd
 obtain⟨avs,h1,h2⟩:=zdn fuel d t ty _ _ ht hf
 have one:v.oneCell'=true->(∀ts,ty ≠ .row ts)->∃a,VR [] w a v/\ Sh ty a:=by
  intro hv hr
  rw [zcb hv]at h1
  cases avs with
  |nil=>simp [VRs]at h1
  |cons a avs=>
   simp only [VRs]at h1
   obtain⟨v',vs',he,h3,h4⟩:=h1
   simp only [List.cons.injEq]at he
   obtain⟨rfl,rfl⟩:=he
   have:avs=[]:=by cases avs<;>simp [VRs]at h4 ⊢
   subst this
   refine⟨a,h3.1,?_⟩
   cases ty<;>first|exact h2|exact absurd rfl (hr _)
 have agg:(∃cs,v= .agg cs)->(∃ts,ty= .row ts)->∃a,VR [] w a v/\ Sh ty a:=by
  rintro⟨cs,rfl⟩ ⟨ts,rfl⟩
  simp only [ShC]at h2
  refine⟨.agg avs,?_,avs,rfl,h2⟩
  simp only [VR]
  exact⟨cs.toList,by simp,by simpa [Value.cells]using h1⟩
 cases d with
 |zero=>simp [tyOf]at ht
 |succ d=>
  unfold tyOf at ht
  unfold Value.okWide at hval
  split at ht
  ·rename_i hu
   simp only [Option.some.injEq]at ht;subst ht
   simp only [hu,Cell.okWide,Cell.ok]at hval
   refine one ?_ (by simp)
   cases v<;>simp_all<;>rfl
  ·rename_i k hu
   simp only [Option.some.injEq]at ht;subst ht
   simp only [hu,Cell.okWide,Cell.ok]at hval
   refine one ?_ (by simp)
   cases v<;>simp_all<;>rfl
  ·rename_i hu
   simp only [Option.some.injEq]at ht;subst ht
   simp only [hu,Cell.okWide,Cell.ok]at hval
   refine one ?_ (by simp)
   cases v<;>simp_all<;>rfl
  ·rename_i e hu
   split at ht
   ·simp only [Option.map_eq_some_iff]at ht
    obtain⟨te,_,rfl⟩:=ht
    simp only [hu,Cell.okWide,Cell.ok]at hval
    refine one ?_ (by simp)
    cases v<;>simp_all<;>rfl
   ·cases ht
  ·rename_i fs hu
   split at ht
   ·simp only [Option.map_eq_some_iff]at ht
    obtain⟨te,_,rfl⟩:=ht
    simp only [hu]at hval
    obtain⟨cs,hcs,_⟩:=hval
    exact agg ⟨cs,hcs⟩ ⟨_,rfl⟩
   ·cases ht
  ·rename_i n e hu
   split at ht
   ·simp only [Option.map_eq_some_iff]at ht
    obtain⟨te,_,rfl⟩:=ht
    simp only [hu]at hval
    obtain⟨cs,hcs,_⟩:=hval
    exact agg ⟨cs,hcs⟩ ⟨_,rfl⟩
   ·cases ht
  ·cases ht
def z9t(P:Program)(d:Nat):List TypeId->Option (List Ty)
 | []=>some []
 |t::ts=>(tyOf P d t).bind fun ty=>(z9t P d ts).map (ty:: ·)
theorem zht{r:Reach}{b0 base:Nat}{held:Bool}{d:Nat}:∀{ts:List TypeId} {tys:List Ty} {vs:List Value} {xs:List (DataW H)} {ps:List MemPlace},z9t P d ts=some tys->
  (∀(j:Nat) t v,ts[j]? =some t->vs[j]? =some v->Value.okWide P w r b0 t v)->DataW.TrodAll enc P w base (fun _=>true) held ts vs xs ps->∃avs,VRt [] w avs vs/\ z86 tys avs
 | [],tys,vs,xs,ps,ht,_,h=>by
  simp only [z9t,Option.some.injEq]at ht;subst ht
  obtain⟨rfl,_⟩:=trodAll_nil h
  exact⟨[],VRt.nil,rfl⟩
 |t::ts,tys,vs,xs,ps,ht,hval,h=>by
  simp only [z9t,Option.bind_eq_some_iff,Option.map_eq_some_iff]at ht
  obtain⟨ty,h1,tys',h2,rfl⟩:=ht
  obtain⟨v,vs',x,xs',p,q,rfl,rfl,rfl,h3,h4⟩:=trodAll_cons h
  obtain⟨a,k1,k2⟩:=zpq h1 (hval 0 t v rfl rfl) h3
  obtain⟨avs,k3,k4⟩:=zht h2 (fun j t' v' hj hv=>hval (j+1) t' v' (by simpa using hj) (by simpa using hv)) h4
  exact⟨a::avs,VRt.cons k1 k3,a,avs,rfl,k2,k4⟩
end
end
section
open Go.ChangeShapes Go.WideShapes Go.ChangeAt Go.RowKit
section
variable {H:Type} {enc:TypeId × Value->H} {P:Program} {w:World}
theorem zjh{base:Nat}{spare:Nat->Bool}{held:Bool}:∀{ts:List TypeId} {vs:List Value} {ds:List (DataW H)} {ps:List MemPlace},DataW.TrodAll enc P w base spare held ts vs ds ps->ds.length=ts.length
 | [],[],[],_,_=>rfl
 |t::ts,v::vs,d::ds,ps,h=>by
  obtain⟨p,q,h1,h2,rfl⟩:=h
  simp [zjh h2]
 | [],[],_::_,_,h=>h.elim
 | [],_::_,_,_,h=>h.elim
 | _::_,[],_,_,h=>h.elim
 | _::_,_::_,[],_,h=>h.elim
end
end
section
mutual
def sh(k:Nat):AV->AV
 | .ptr r i off=> .ptr (k+r) i off
 | .sl r off len lim esz=> .sl (k+r) off len lim esz
 | .asl r i off len cap esz=> .asl (k+r) i off len cap esz
 | .fn f caps=> .fn f (shs k caps)
 | .agg cs=> .agg (shs k cs)
 | .tup vs=> .tup (shs k vs)
 | .any=> .any
 | .undef=> .undef
 | .bool b=> .bool b
 | .int i n=> .int i n
 | .str s=> .str s
 | .nilp=> .nilp
 | .vp _=> .any
 | .nilsl=> .nilsl
 | .vsl _ _ _=> .any
 | .nilfn=> .nilfn
 | .bld r=> .bld (k+r)
 | .bnil=> .bnil
 | .bsl r len=> .bsl (k+r) len
def shs(k:Nat):List AV->List AV
 | []=>[]
 |a::l=>sh k a::shs k l
end
def shss(k:Nat)(es:List (List AV)):List (List AV):=es.map (shs k)
def shS(k:Nat)(J:Store):Store:=J.map (·.map (shss k))
theorem zj2(k:Nat):∀l,(shs k l).length=l.length
 | []=>rfl
 | _::l=>by simp [shs,zj2 k l]
theorem zj1(k:Nat):∀l m,shs k (l++m)=shs k l++shs k m
 | [],_=>rfl
 |a::l,m=>by simp [shs,zj1 k l m]
theorem zj3(k:Nat):∀es:List (List AV),(shss k es).flatten=shs k es.flatten
 | []=>rfl
 |e::es=>by
  have:=zj3 k es
  simp only [shss]at this
  simp only [shss,List.map_cons,List.flatten_cons,zj1,this]
mutual
theorem zbf{γ γ':Places}{w:World}:∀(a:AV) (v:Value),VR γ' w a v->VR (γ++γ') w (sh γ.length a) v
 | .any,_,_=>by simp only [sh,VR]
 | .undef,_,h=>by simpa only [sh,VR]using h
 | .bool _,_,h=>by simpa only [sh,VR]using h
 | .int _ _,_,h=>by simpa only [sh,VR]using h
 | .str _,_,h=>by simpa only [sh,VR]using h
 | .nilp,_,h=>by simpa only [sh,VR]using h
 | .nilsl,_,h=>by simpa only [sh,VR]using h
 | .nilfn,_,h=>by simpa only [sh,VR]using h
 | .vp _,_,_=>by simp only [sh,VR]
 | .vsl _ _ _,_,_=>by simp only [sh,VR]
 | .ptr r i off,v,h=>by
  simp only [sh,VR]at h ⊢
  obtain⟨fl,pl,h1,h2⟩:=h
  exact⟨fl,pl,by rw [List.getElem?_append_right (by omega),Nat.add_sub_cancel_left];exact h1,h2⟩
 | .sl r off len lim esz,v,h=>by
  simp only [sh,VR]at h ⊢
  obtain⟨fl,pl,b,o,cap,h1,h2⟩:=h
  exact⟨fl,pl,b,o,cap,by rw [List.getElem?_append_right (by omega),Nat.add_sub_cancel_left];exact h1,h2⟩
 | .asl r i off len cap esz,v,h=>by
  simp only [sh,VR]at h ⊢
  obtain⟨fl,pl,b,o,h1,h2⟩:=h
  exact⟨fl,pl,b,o,by rw [List.getElem?_append_right (by omega),Nat.add_sub_cancel_left];exact h1,h2⟩
 | .fn f caps,v,h=>by
  simp only [sh,VR]at h ⊢
  obtain⟨vs,h1,h2⟩:=h
  exact⟨vs,h1,zeb caps vs h2⟩
 | .agg cs,v,h=>by
  simp only [sh,VR]at h ⊢
  obtain⟨vs,h1,h2⟩:=h
  exact⟨vs,h1,zea cs vs h2⟩
 | .tup cs,v,h=>by
  simp only [sh,VR]at h ⊢
  obtain⟨vs,h1,h2⟩:=h
  exact⟨vs,h1,zeb cs vs h2⟩
 | .bld r,v,h=>by
  simp only [sh,VR]at h ⊢
  obtain⟨fl,pl,h1,h2⟩:=h
  exact⟨fl,pl,by rw [List.getElem?_append_right (by omega),Nat.add_sub_cancel_left];exact h1,h2⟩
 | .bnil,_,h=>by simpa only [sh,VR]using h
 | .bsl r len,v,h=>by
  simp only [sh,VR]at h ⊢
  obtain⟨fl,pl,cap,h1,h2⟩:=h
  exact⟨fl,pl,cap,by rw [List.getElem?_append_right (by omega),Nat.add_sub_cancel_left];exact h1,h2⟩
theorem zea{γ γ':Places}{w:World}:∀(l:List AV) (vs:List Value),VRs γ' w l vs->VRs (γ++γ') w (shs γ.length l) vs
 | [],vs,h=>by simpa only [shs,VRs]using h
 |a::l,vs,h=>by
  simp only [shs,VRs]at h ⊢
  obtain⟨v,vs',h1,h2,h3⟩:=h
  exact⟨v,vs',h1,⟨zbf a v h2.1,h2.2⟩,zea l vs' h3⟩
theorem zeb{γ γ':Places}{w:World}:∀(l:List AV) (vs:List Value),VRt γ' w l vs->VRt (γ++γ') w (shs γ.length l) vs
 | [],vs,h=>by simpa only [shs,VRt]using h
 |a::l,vs,h=>by
  simp only [shs,VRt]at h ⊢
  obtain⟨v,vs',h1,h2,h3⟩:=h
  exact⟨v,vs',h1,zbf a v h2,zeb l vs' h3⟩
end
def z3t(J:Store):DC:=⟨J,0,id,fun _=>true⟩
theorem zhh{J:Store}{γ:Places}{w:World}:DSnd (z3t J) γ [] w where
 ref r _ _ h:=by simp [z3t]at h
 imm b h:=⟨h.1,by simp⟩
 fz r pl _ _ r' pl' h:=by simp at h
theorem zel{γ γ':Places}{w w':World}(h:Step [] w γ' w')(hlt:∀(r:Nat) (pl:Place),γ[r]? =some (true,pl)->pl.b<w.heap.size):Step γ w (γ++γ') w' where
 keep r fl pl hr:=⟨fl,by rw [List.getElem?_append_left (List.getElem?_eq_some_iff.1 hr).1];exact hr⟩
 size:=h.size
 imm b hb _:=h.imm b hb (by simp)
 new r pl hr:=by
  by_cases hl:r<γ.length
  ·rw [List.getElem?_append_left hl]at hr
   exact .inl ⟨r,pl,hr,rfl⟩
  ·rw [List.getElem?_append_right (by omega)]at hr
   rcases h.new _ pl hr with⟨r',pl',h1,_⟩|h1
   ·simp at h1
   ·exact .inr h1
 os:=h.os
 tape:=h.tape
 output:=h.output
def GlOK(C:Ctx):Prop:=∀g cs,C.gl g=some cs->RLs 0 cs
theorem Rel.lent{C:Ctx}{γ:Places}{J:Store}{w:World}(hg:GlOK C)(hR:Rel C γ J w):Rel C [] [] w:=
 ⟨rfl,by simp,by simp,by simp,fun g cs h=>DR.sound hR zhh (.vp cs) (.vp cs) _ (DR.refl (D:=z3t J) (k:=0) (by omega) _ (by simpa only [RL]using hg g cs h)) (hR.gl g cs h)⟩
theorem Rel.back{C:Ctx}{γ γ':Places}{J J1:Store}{w w':World}(hR:Rel C γ J w)(hst:Step [] w γ' w')(h:Rel C γ' J1 w'):Rel C (γ++γ') (J++shS J.length J1) w':=by
 have hlt:∀(r:Nat) (pl:Place),γ[r]? =some (true,pl)->pl.b<w.heap.size:=fun r pl hr=>hR.place_lt hr
 have hs:=zel (γ:=γ) hst hlt
 have hge:∀(r:Nat) (pl:Place),γ'[r]? =some (true,pl)->w.heap.size<=pl.b:=fun r pl hr=>by
  rcases hst.new r pl hr with⟨r',pl',h1,_⟩|h1
  ·simp at h1
  ·exact h1
 refine⟨by simp [shS,hR.len,h.len],fun r o hr=> ?_,fun r hr=> ?_,fun r r' pl pl' h1 h2 h3=> ?_,fun g cs hg=>(hR.gl g cs hg).mono hs⟩
 ·by_cases hl:r<J.length
  ·rw [List.getElem?_append_left hl]at hr
   obtain⟨pl,h1,h2⟩:=hR.alive r o hr
   exact⟨pl,by rw [List.getElem?_append_left (by rw [hR.len];exact hl)];exact h1,h2.mono hs (hst.imm _ h2.lt (by simp))⟩
  ·rw [List.getElem?_append_right (by omega)]at hr
   simp only [shS,List.getElem?_map,Option.map_eq_some_iff]at hr
   obtain⟨x,hx,he⟩:=hr
   cases x with
   |none=>simp at he
   |some o0=>
    simp only [Option.map_some,Option.some.injEq]at he
    obtain⟨_,rfl,rfl⟩:=he
    obtain⟨pl,h1,h2⟩:=h.alive _ o0 hx
    refine⟨pl,by rw [List.getElem?_append_right (by rw [hR.len];omega),hR.len];exact h1,?_⟩
    obtain⟨c,ty,fz,pre,mid,post,k1,k2,k3,k4,k5,k6⟩:=h2.ex
    refine⟨by simp [shss,h2.len],fun e he=> ?_,h2.tyk,c,ty,fz,pre,mid,post,k1,k2,k3,k4,?_,k6⟩
    ·simp only [shss,List.mem_map]at he
     obtain⟨e0,he0,rfl⟩:=he
     rw [zj2];exact h2.esz e0 he0
    ·rw [zj3,<-hR.len]
     exact zea _ _ k5
 ·by_cases hl:r<J.length
  ·rw [List.getElem?_append_left hl]at hr
   obtain⟨pl,h1⟩:=hR.dead r hr
   exact⟨pl,by rw [List.getElem?_append_left (by rw [hR.len];exact hl)];exact h1⟩
  ·rw [List.getElem?_append_right (by omega)]at hr
   simp only [shS,List.getElem?_map,Option.map_eq_some_iff]at hr
   obtain⟨x,hx,he⟩:=hr
   cases x with
   |some o0=>simp at he
   |none=>
    obtain⟨pl,h1⟩:=h.dead _ hx
    exact⟨pl,by rw [List.getElem?_append_right (by rw [hR.len];omega),hR.len];exact h1⟩
 ·have get:∀(r:Nat) (pl:Place),(γ++γ')[r]? =some (true,pl)->(r<γ.length/\ γ[r]? =some (true,pl)) \/(γ.length<=r/\ γ'[r-γ.length]? =some (true,pl)):=fun r pl hr=>by
   by_cases hl:r<γ.length
   ·rw [List.getElem?_append_left hl]at hr;exact .inl ⟨hl,hr⟩
   ·rw [List.getElem?_append_right (by omega)]at hr;exact .inr ⟨by omega,hr⟩
  rcases get r pl h1 with⟨k1,k2⟩| ⟨k1,k2⟩<;>rcases get r' pl' h2 with⟨q1,q2⟩| ⟨q1,q2⟩
  ·exact hR.inj r r' pl pl' k2 q2 h3
  ·have:=hlt r pl k2;have:=hge _ pl' q2;omega
  ·have:=hge _ pl k2;have:=hlt r' pl' q2;omega
  ·have:=h.inj _ _ pl pl' k2 q2 h3;omega
theorem ACallsTo.lend{C:Ctx}(hg:GlOK C){f:FuncId}{xs args:List AV}{v:AV}{J J1:Store}(h:ACallsTo C f xs [] v J1)(hd:DRs (z3t J) xs args):ACallsTo C f args J (sh J.length v) (J++shS J.length J1):=by
 intro γ w cargs hR ha
 have hx:VRt [] w xs cargs:=DRs.soundt hR zhh xs args cargs hd ha
 have hlt:∀(r:Nat) (pl:Place),γ[r]? =some (true,pl)->pl.b<w.heap.size:=fun r pl hr=>hR.place_lt hr
 rcases h [] w cargs (hR.lent hg) hx with⟨h1,h2⟩| ⟨cv,γ',w',h1,h2,h3,h4⟩
 ·refine .inl ⟨h1,h2.mono ?_⟩
  rintro e w' ⟨cv,γ',rfl,k1,k2,k3⟩
  exact⟨cv,γ++γ',rfl,zel k1 hlt,hR.back k1 k2,by rw [<-hR.len];exact zbf v cv k3⟩
 ·exact .inr ⟨cv,γ++γ',w',h1,zel h2 hlt,hR.back h2 h3,by rw [<-hR.len];exact zbf v cv h4⟩
theorem ACallsTo.frame{C:Ctx}(hg:GlOK C){f:FuncId}{xs:List AV}{v:AV}(h:ACallsTo C f xs [] v [])(hx:RLs 0 xs)(J:Store):ACallsTo C f xs J (sh J.length v) J:=by
 have:=ACallsTo.lend hg (J:=J) h (DRs.refl (D:=z3t J) (k:=0) (by omega) xs hx)
 simpa [shS]using this
end
section
theorem lens:(∀{α:Type} {l:List α} {i:Nat} {a:α},(l.set i a).length=l.length)/\ (∀{α:Type} {l m:List α},(l++m).length=l.length+m.length)/\ (∀{α:Type} {a:α} {l:List α},(a::l).length=l.length+1)/\ (∀{α:Type},([]:List α).length=0)/\ (∀{α β:Type} {f:α->β} {l:List α},(l.map f).length=l.length):=
 ⟨List.length_set,List.length_append,List.length_cons,List.length_nil,List.length_map _⟩
section
variable {C:Ctx} {n k:Nat} {Q:AExit->Env->Store->Prop} {ρ:Env} {J:Store}
theorem zd_{x:AX}{p q:ACode}{P:Prop}[hd:Decidable P](hx:x.ev ρ= .bool (@decide P hd))(h1:P->zW C n k p Q ρ J)(h2:¬P->zW C n k q Q ρ J):zW C n k (.cond x p q) Q ρ J:=
 zW.cond hx (fun h=>h1 (of_decide_eq_true h)) (fun h=>h2 (of_decide_eq_false h))
theorem zt_{x:AX}{p q:ACode}(hx:x.ev ρ= .bool true)(h1:zW C n k p Q ρ J):zW C n k (.cond x p q) Q ρ J:=
 zW.cond hx (fun _=>h1) (fun h=>by cases h)
theorem zf_{x:AX}{p q:ACode}(hx:x.ev ρ= .bool false)(h1:zW C n k q Q ρ J):zW C n k (.cond x p q) Q ρ J:=
 zW.cond hx (fun h=>by cases h) (fun _=>h1)
theorem z9u{n:Int}(h: -9223372036854775808<=n/\ n<9223372036854775808):IntKind.i64.wrap n=n:=by
 simp [IntKind.wrap,IntKind.signed,IntKind.bits];omega
theorem zbs{n:Int}(h:0<=n/\ n<18446744073709551616):IntKind.u64.wrap n=n:=by
 simp [IntKind.wrap,IntKind.signed,IntKind.bits];omega
theorem z9v{n:Int}(h:0<=n/\ n<4294967296):IntKind.u32.wrap n=n:=by
 simp [IntKind.wrap,IntKind.signed,IntKind.bits];omega
theorem zbr{n:Int}(h:0<=n/\ n<65536):IntKind.u16.wrap n=n:=by
 simp [IntKind.wrap,IntKind.signed,IntKind.bits];omega
theorem w_u8{n:Int}(h:0<=n/\ n<256):IntKind.u8.wrap n=n:=by
 simp [IntKind.wrap,IntKind.signed,IntKind.bits];omega
theorem shr_u8{a b:Int}(h:0<=b/\ b<8):z1m .shr .u8 a b=some (.int .u8 (a/2^b.toNat)):=by
 simp only [z1m,IntKind.bits]
 rw [if_neg (by omega),Nat.min_eq_left (by omega),Int.fdiv_eq_ediv_of_nonneg _ (Int.pow_nonneg (by decide))]
theorem shl_u8{a b:Int}(h:0<=b/\ b<8):z1m .shl .u8 a b=some (.int .u8 (IntKind.u8.wrap (a*2^b.toNat))):=by
 simp only [z1m,IntKind.bits]
 rw [if_neg (by omega),Nat.min_eq_left (by omega)]
theorem zrr{a b:Int}(h:0<=b/\ b<16):z1m .shr .u16 a b=some (.int .u16 (a/2^b.toNat)):=by
 simp only [z1m,IntKind.bits]
 rw [if_neg (by omega),Nat.min_eq_left (by omega),Int.fdiv_eq_ediv_of_nonneg _ (Int.pow_nonneg (by decide))]
theorem zro{a b:Int}(h:0<=b/\ b<16):z1m .shl .u16 a b=some (.int .u16 (IntKind.u16.wrap (a*2^b.toNat))):=by
 simp only [z1m,IntKind.bits]
 rw [if_neg (by omega),Nat.min_eq_left (by omega)]
theorem zj0{a b:Int}(h:0<=b/\ b<32):z1m .shr .u32 a b=some (.int .u32 (a/2^b.toNat)):=by
 simp only [z1m,IntKind.bits]
 rw [if_neg (by omega),Nat.min_eq_left (by omega),Int.fdiv_eq_ediv_of_nonneg _ (Int.pow_nonneg (by decide))]
theorem ziy{a b:Int}(h:0<=b/\ b<32):z1m .shl .u32 a b=some (.int .u32 (IntKind.u32.wrap (a*2^b.toNat))):=by
 simp only [z1m,IntKind.bits]
 rw [if_neg (by omega),Nat.min_eq_left (by omega)]
theorem zrs{a b:Int}(h:0<=b/\ b<64):z1m .shr .u64 a b=some (.int .u64 (a/2^b.toNat)):=by
 simp only [z1m,IntKind.bits]
 rw [if_neg (by omega),Nat.min_eq_left (by omega),Int.fdiv_eq_ediv_of_nonneg _ (Int.pow_nonneg (by decide))]
theorem zrp{a b:Int}(h:0<=b/\ b<64):z1m .shl .u64 a b=some (.int .u64 (IntKind.u64.wrap (a*2^b.toNat))):=by
 simp only [z1m,IntKind.bits]
 rw [if_neg (by omega),Nat.min_eq_left (by omega)]
theorem zrq{a b:Int}(h:0<=b/\ b<64):z1m .shr .i64 a b=some (.int .i64 (a/2^b.toNat)):=by
 simp only [z1m,IntKind.bits]
 rw [if_neg (by omega),Nat.min_eq_left (by omega),Int.fdiv_eq_ediv_of_nonneg _ (Int.pow_nonneg (by decide))]
theorem zrn{a b:Int}(h:0<=b/\ b<64):z1m .shl .i64 a b=some (.int .i64 (IntKind.i64.wrap (a*2^b.toNat))):=by
 simp only [z1m,IntKind.bits]
 rw [if_neg (by omega),Nat.min_eq_left (by omega)]
theorem zh9{k:IntKind}{a b:Int}:z16 .add k a b=some (.int k (k.wrap (a+b))):=rfl
theorem ib_sub{k:IntKind}{a b:Int}:z16 .sub k a b=some (.int k (k.wrap (a-b))):=rfl
theorem ib_mul{k:IntKind}{a b:Int}:z16 .mul k a b=some (.int k (k.wrap (a*b))):=rfl
theorem ib_quo{k:IntKind}{a b:Int}:z16 .quo k a b=if b=0 then none else some (.int k (k.wrap (a.tdiv b))):=rfl
theorem ib_rem{k:IntKind}{a b:Int}:z16 .rem k a b=if b=0 then none else some (.int k (a.tmod b)):=rfl
theorem ib_eql{k:IntKind}{a b:Int}:z16 .eql k a b=some (.bool (a==b)):=rfl
theorem ib_neq{k:IntKind}{a b:Int}:z16 .neq k a b=some (.bool (a !=b)):=rfl
theorem ib_lss{k:IntKind}{a b:Int}:z16 .lss k a b=some (.bool (decide (a<b))):=rfl
theorem ib_leq{k:IntKind}{a b:Int}:z16 .leq k a b=some (.bool (decide (a<=b))):=rfl
theorem ib_gtr{k:IntKind}{a b:Int}:z16 .gtr k a b=some (.bool (decide (a>b))):=rfl
theorem ib_geq{k:IntKind}{a b:Int}:z16 .geq k a b=some (.bool (decide (a>=b))):=rfl
theorem zns{a b:Int}(ha:0<=a/\ a<256)(hb:0<=b/\ b<256):z16 .and .u8 a b=some (.int .u8 ((a.toNat &&& b.toNat:Nat):Int)):=by
 have h:(BitVec.ofInt IntKind.u8.bits a &&& BitVec.ofInt IntKind.u8.bits b).toNat=a.toNat &&& b.toNat:=by
  rw [BitVec.toNat_and,BitVec.toNat_ofInt,BitVec.toNat_ofInt]
  simp only [IntKind.bits]
  rw [Int.emod_eq_of_lt (by omega) (by omega),Int.emod_eq_of_lt (by omega) (by omega)]
 have h1:a.toNat<2^8:=by omega
 have h2:b.toNat<2^8:=by omega
 have h3:a.toNat &&& b.toNat<2^8:=Nat.and_lt_two_pow _ h2
 simp only [z16]
 rw [h,w_u8 ⟨by omega,by omega⟩]
theorem znw{a b:Int}(ha:0<=a/\ a<256)(hb:0<=b/\ b<256):z16 .or .u8 a b=some (.int .u8 ((a.toNat |||b.toNat:Nat):Int)):=by
 have h:(BitVec.ofInt IntKind.u8.bits a |||BitVec.ofInt IntKind.u8.bits b).toNat=a.toNat |||b.toNat:=by
  rw [BitVec.toNat_or,BitVec.toNat_ofInt,BitVec.toNat_ofInt]
  simp only [IntKind.bits]
  rw [Int.emod_eq_of_lt (by omega) (by omega),Int.emod_eq_of_lt (by omega) (by omega)]
 have h1:a.toNat<2^8:=by omega
 have h2:b.toNat<2^8:=by omega
 have h3:a.toNat |||b.toNat<2^8:=Nat.or_lt_two_pow h1 h2
 simp only [z16]
 rw [h,w_u8 ⟨by omega,by omega⟩]
theorem zhd{a b:Int}(ha:0<=a/\ a<256)(hb:0<=b/\ b<256):z16 .xor .u8 a b=some (.int .u8 ((a.toNat^^^b.toNat:Nat):Int)):=by
 have h:(BitVec.ofInt IntKind.u8.bits a^^^BitVec.ofInt IntKind.u8.bits b).toNat=a.toNat^^^b.toNat:=by
  rw [BitVec.toNat_xor,BitVec.toNat_ofInt,BitVec.toNat_ofInt]
  simp only [IntKind.bits]
  rw [Int.emod_eq_of_lt (by omega) (by omega),Int.emod_eq_of_lt (by omega) (by omega)]
 have h1:a.toNat<2^8:=by omega
 have h2:b.toNat<2^8:=by omega
 have h3:a.toNat^^^b.toNat<2^8:=Nat.xor_lt_two_pow h1 h2
 simp only [z16]
 rw [h,w_u8 ⟨by omega,by omega⟩]
theorem znq{a b:Int}(ha:0<=a/\ a<65536)(hb:0<=b/\ b<65536):z16 .and .u16 a b=some (.int .u16 ((a.toNat &&& b.toNat:Nat):Int)):=by
 have h:(BitVec.ofInt IntKind.u16.bits a &&& BitVec.ofInt IntKind.u16.bits b).toNat=a.toNat &&& b.toNat:=by
  rw [BitVec.toNat_and,BitVec.toNat_ofInt,BitVec.toNat_ofInt]
  simp only [IntKind.bits]
  rw [Int.emod_eq_of_lt (by omega) (by omega),Int.emod_eq_of_lt (by omega) (by omega)]
 have h1:a.toNat<2^16:=by omega
 have h2:b.toNat<2^16:=by omega
 have h3:a.toNat &&& b.toNat<2^16:=Nat.and_lt_two_pow _ h2
 simp only [z16]
 rw [h,zbr ⟨by omega,by omega⟩]
theorem znu{a b:Int}(ha:0<=a/\ a<65536)(hb:0<=b/\ b<65536):z16 .or .u16 a b=some (.int .u16 ((a.toNat |||b.toNat:Nat):Int)):=by
 have h:(BitVec.ofInt IntKind.u16.bits a |||BitVec.ofInt IntKind.u16.bits b).toNat=a.toNat |||b.toNat:=by
  rw [BitVec.toNat_or,BitVec.toNat_ofInt,BitVec.toNat_ofInt]
  simp only [IntKind.bits]
  rw [Int.emod_eq_of_lt (by omega) (by omega),Int.emod_eq_of_lt (by omega) (by omega)]
 have h1:a.toNat<2^16:=by omega
 have h2:b.toNat<2^16:=by omega
 have h3:a.toNat |||b.toNat<2^16:=Nat.or_lt_two_pow h1 h2
 simp only [z16]
 rw [h,zbr ⟨by omega,by omega⟩]
theorem zny{a b:Int}(ha:0<=a/\ a<65536)(hb:0<=b/\ b<65536):z16 .xor .u16 a b=some (.int .u16 ((a.toNat^^^b.toNat:Nat):Int)):=by
 have h:(BitVec.ofInt IntKind.u16.bits a^^^BitVec.ofInt IntKind.u16.bits b).toNat=a.toNat^^^b.toNat:=by
  rw [BitVec.toNat_xor,BitVec.toNat_ofInt,BitVec.toNat_ofInt]
  simp only [IntKind.bits]
  rw [Int.emod_eq_of_lt (by omega) (by omega),Int.emod_eq_of_lt (by omega) (by omega)]
 have h1:a.toNat<2^16:=by omega
 have h2:b.toNat<2^16:=by omega
 have h3:a.toNat^^^b.toNat<2^16:=Nat.xor_lt_two_pow h1 h2
 simp only [z16]
 rw [h,zbr ⟨by omega,by omega⟩]
theorem zha{a b:Int}(ha:0<=a/\ a<4294967296)(hb:0<=b/\ b<4294967296):z16 .and .u32 a b=some (.int .u32 ((a.toNat &&& b.toNat:Nat):Int)):=by
 have h:(BitVec.ofInt IntKind.u32.bits a &&& BitVec.ofInt IntKind.u32.bits b).toNat=a.toNat &&& b.toNat:=by
  rw [BitVec.toNat_and,BitVec.toNat_ofInt,BitVec.toNat_ofInt]
  simp only [IntKind.bits]
  rw [Int.emod_eq_of_lt (by omega) (by omega),Int.emod_eq_of_lt (by omega) (by omega)]
 have h1:a.toNat<2^32:=by omega
 have h2:b.toNat<2^32:=by omega
 have h3:a.toNat &&& b.toNat<2^32:=Nat.and_lt_two_pow _ h2
 simp only [z16]
 rw [h,z9v ⟨by omega,by omega⟩]
theorem zhb{a b:Int}(ha:0<=a/\ a<4294967296)(hb:0<=b/\ b<4294967296):z16 .or .u32 a b=some (.int .u32 ((a.toNat |||b.toNat:Nat):Int)):=by
 have h:(BitVec.ofInt IntKind.u32.bits a |||BitVec.ofInt IntKind.u32.bits b).toNat=a.toNat |||b.toNat:=by
  rw [BitVec.toNat_or,BitVec.toNat_ofInt,BitVec.toNat_ofInt]
  simp only [IntKind.bits]
  rw [Int.emod_eq_of_lt (by omega) (by omega),Int.emod_eq_of_lt (by omega) (by omega)]
 have h1:a.toNat<2^32:=by omega
 have h2:b.toNat<2^32:=by omega
 have h3:a.toNat |||b.toNat<2^32:=Nat.or_lt_two_pow h1 h2
 simp only [z16]
 rw [h,z9v ⟨by omega,by omega⟩]
theorem zhc{a b:Int}(ha:0<=a/\ a<4294967296)(hb:0<=b/\ b<4294967296):z16 .xor .u32 a b=some (.int .u32 ((a.toNat^^^b.toNat:Nat):Int)):=by
 have h:(BitVec.ofInt IntKind.u32.bits a^^^BitVec.ofInt IntKind.u32.bits b).toNat=a.toNat^^^b.toNat:=by
  rw [BitVec.toNat_xor,BitVec.toNat_ofInt,BitVec.toNat_ofInt]
  simp only [IntKind.bits]
  rw [Int.emod_eq_of_lt (by omega) (by omega),Int.emod_eq_of_lt (by omega) (by omega)]
 have h1:a.toNat<2^32:=by omega
 have h2:b.toNat<2^32:=by omega
 have h3:a.toNat^^^b.toNat<2^32:=Nat.xor_lt_two_pow h1 h2
 simp only [z16]
 rw [h,z9v ⟨by omega,by omega⟩]
theorem znr{a b:Int}(ha:0<=a/\ a<18446744073709551616)(hb:0<=b/\ b<18446744073709551616):z16 .and .u64 a b=some (.int .u64 ((a.toNat &&& b.toNat:Nat):Int)):=by
 have h:(BitVec.ofInt IntKind.u64.bits a &&& BitVec.ofInt IntKind.u64.bits b).toNat=a.toNat &&& b.toNat:=by
  rw [BitVec.toNat_and,BitVec.toNat_ofInt,BitVec.toNat_ofInt]
  simp only [IntKind.bits]
  rw [Int.emod_eq_of_lt (by omega) (by omega),Int.emod_eq_of_lt (by omega) (by omega)]
 have h1:a.toNat<2^64:=by omega
 have h2:b.toNat<2^64:=by omega
 have h3:a.toNat &&& b.toNat<2^64:=Nat.and_lt_two_pow _ h2
 simp only [z16]
 rw [h,zbs ⟨by omega,by omega⟩]
theorem znv{a b:Int}(ha:0<=a/\ a<18446744073709551616)(hb:0<=b/\ b<18446744073709551616):z16 .or .u64 a b=some (.int .u64 ((a.toNat |||b.toNat:Nat):Int)):=by
 have h:(BitVec.ofInt IntKind.u64.bits a |||BitVec.ofInt IntKind.u64.bits b).toNat=a.toNat |||b.toNat:=by
  rw [BitVec.toNat_or,BitVec.toNat_ofInt,BitVec.toNat_ofInt]
  simp only [IntKind.bits]
  rw [Int.emod_eq_of_lt (by omega) (by omega),Int.emod_eq_of_lt (by omega) (by omega)]
 have h1:a.toNat<2^64:=by omega
 have h2:b.toNat<2^64:=by omega
 have h3:a.toNat |||b.toNat<2^64:=Nat.or_lt_two_pow h1 h2
 simp only [z16]
 rw [h,zbs ⟨by omega,by omega⟩]
theorem znz{a b:Int}(ha:0<=a/\ a<18446744073709551616)(hb:0<=b/\ b<18446744073709551616):z16 .xor .u64 a b=some (.int .u64 ((a.toNat^^^b.toNat:Nat):Int)):=by
 have h:(BitVec.ofInt IntKind.u64.bits a^^^BitVec.ofInt IntKind.u64.bits b).toNat=a.toNat^^^b.toNat:=by
  rw [BitVec.toNat_xor,BitVec.toNat_ofInt,BitVec.toNat_ofInt]
  simp only [IntKind.bits]
  rw [Int.emod_eq_of_lt (by omega) (by omega),Int.emod_eq_of_lt (by omega) (by omega)]
 have h1:a.toNat<2^64:=by omega
 have h2:b.toNat<2^64:=by omega
 have h3:a.toNat^^^b.toNat<2^64:=Nat.xor_lt_two_pow h1 h2
 simp only [z16]
 rw [h,zbs ⟨by omega,by omega⟩]
theorem znp{a b:Int}(ha:0<=a/\ a<9223372036854775808)(hb:0<=b/\ b<9223372036854775808):z16 .and .i64 a b=some (.int .i64 ((a.toNat &&& b.toNat:Nat):Int)):=by
 have h:(BitVec.ofInt IntKind.i64.bits a &&& BitVec.ofInt IntKind.i64.bits b).toNat=a.toNat &&& b.toNat:=by
  rw [BitVec.toNat_and,BitVec.toNat_ofInt,BitVec.toNat_ofInt]
  simp only [IntKind.bits]
  rw [Int.emod_eq_of_lt (by omega) (by omega),Int.emod_eq_of_lt (by omega) (by omega)]
 have h1:a.toNat<2^63:=by omega
 have h2:b.toNat<2^63:=by omega
 have h3:a.toNat &&& b.toNat<2^63:=Nat.and_lt_two_pow _ h2
 simp only [z16]
 rw [h,z9u ⟨by omega,by omega⟩]
theorem znt{a b:Int}(ha:0<=a/\ a<9223372036854775808)(hb:0<=b/\ b<9223372036854775808):z16 .or .i64 a b=some (.int .i64 ((a.toNat |||b.toNat:Nat):Int)):=by
 have h:(BitVec.ofInt IntKind.i64.bits a |||BitVec.ofInt IntKind.i64.bits b).toNat=a.toNat |||b.toNat:=by
  rw [BitVec.toNat_or,BitVec.toNat_ofInt,BitVec.toNat_ofInt]
  simp only [IntKind.bits]
  rw [Int.emod_eq_of_lt (by omega) (by omega),Int.emod_eq_of_lt (by omega) (by omega)]
 have h1:a.toNat<2^63:=by omega
 have h2:b.toNat<2^63:=by omega
 have h3:a.toNat |||b.toNat<2^63:=Nat.or_lt_two_pow h1 h2
 simp only [z16]
 rw [h,z9u ⟨by omega,by omega⟩]
theorem znx{a b:Int}(ha:0<=a/\ a<9223372036854775808)(hb:0<=b/\ b<9223372036854775808):z16 .xor .i64 a b=some (.int .i64 ((a.toNat^^^b.toNat:Nat):Int)):=by
 have h:(BitVec.ofInt IntKind.i64.bits a^^^BitVec.ofInt IntKind.i64.bits b).toNat=a.toNat^^^b.toNat:=by
  rw [BitVec.toNat_xor,BitVec.toNat_ofInt,BitVec.toNat_ofInt]
  simp only [IntKind.bits]
  rw [Int.emod_eq_of_lt (by omega) (by omega),Int.emod_eq_of_lt (by omega) (by omega)]
 have h1:a.toNat<2^63:=by omega
 have h2:b.toNat<2^63:=by omega
 have h3:a.toNat^^^b.toNat<2^63:=Nat.xor_lt_two_pow h1 h2
 simp only [z16]
 rw [h,z9u ⟨by omega,by omega⟩]
theorem mask1(a:Nat):a &&& 1=a%2:=Nat.and_two_pow_sub_one_eq_mod a 1
theorem mask2(a:Nat):a &&& 3=a%4:=Nat.and_two_pow_sub_one_eq_mod a 2
theorem mask3(a:Nat):a &&& 7=a%8:=Nat.and_two_pow_sub_one_eq_mod a 3
theorem mask4(a:Nat):a &&& 15=a%16:=Nat.and_two_pow_sub_one_eq_mod a 4
theorem mask5(a:Nat):a &&& 31=a%32:=Nat.and_two_pow_sub_one_eq_mod a 5
theorem mask6(a:Nat):a &&& 63=a%64:=Nat.and_two_pow_sub_one_eq_mod a 6
theorem mask7(a:Nat):a &&& 127=a%128:=Nat.and_two_pow_sub_one_eq_mod a 7
theorem mask8(a:Nat):a &&& 255=a%256:=Nat.and_two_pow_sub_one_eq_mod a 8
theorem mask12(a:Nat):a &&& 4095=a%4096:=Nat.and_two_pow_sub_one_eq_mod a 12
theorem zo5(a b:Int):(a==b)=decide (a=b):=by
 by_cases h:a=b<;>simp [h]
theorem zo6(a b:Int):(a !=b)=decide (¬a=b):=by
 by_cases h:a=b<;>simp [h]
theorem zow(p:Prop)[Decidable p]:(!decide p)=decide (¬p):=by simp
theorem zsi{a b:Int}(h:0<=a):a.tdiv b=a/b:=Int.tdiv_eq_ediv_of_nonneg h
theorem zsk{a b:Int}(h:0<=a):a.tmod b=a%b:=Int.tmod_eq_emod_of_nonneg h
theorem getQ{α:Type}(l:List α)(i:Nat)(d:α)(h:i<l.length):l[i]? =some (l.getD i d):=by
 simp [List.getD_eq_getElem?_getD,List.getElem?_eq_getElem h]
theorem upd_b{d t:Nat}{v:AV}:upd ρ d v t=bif t==d then v else ρ t:=by
 unfold upd
 by_cases h:t=d
 ·simp [h]
 ·have:(t==d)=false:=by simpa using h
  rw [if_neg h,this];rfl
theorem z4q{K:Env->Store->Prop}{ρ':Env}{J':Store}:z2n K J false (some (ρ',J'))=K ρ' J':=Eq.trans rfl rfl
theorem z4r{K:Env->Store->Prop}{ρ':Env}{J':Store}:z2n K J true (some (ρ',J'))=(J'=J/\ K ρ' J'):=Eq.trans rfl rfl
section
variable {K:Hist->Env->Store->Prop} {H:Hist} {d:Option Nat} {g:Option (Nat × Bool)} {op:AOp} {nd:Nd} {f:AX} {xs:List AX} {v:AV} {s:Store}
theorem z5z:z12 K H ⟨d,g,.no,op⟩ ρ J=z2n (K H) J false (z2u ⟨d,g,.no,op⟩ ρ J):=Eq.trans rfl rfl
theorem z60:z12 K H ⟨d,g,.same,op⟩ ρ J=z2n (K H) J true (z2u ⟨d,g,.same,op⟩ ρ J):=Eq.trans rfl rfl
theorem zs5:z12 K H ⟨d,g,.rd,op⟩ ρ J=rdW K H d op ρ J (z1p ρ g):=Eq.trans rfl rfl
theorem zs3:z12 K H ⟨d,g,.ef,op⟩ ρ J=efW K H d op ρ J (z1p ρ g):=Eq.trans rfl rfl
theorem rdW_t:rdW K H d op ρ J (some true)=rdC K H d op ρ J (op.run ρ J):=Eq.trans rfl rfl
theorem rdW_f:rdW K H d op ρ J (some false)=K H (putE ρ d .undef) J:=Eq.trans rfl rfl
theorem efW_t:efW K H d op ρ J (some true)=efC K H d ρ J (op.run ρ J):=Eq.trans rfl rfl
theorem efW_f:efW K H d op ρ J (some false)=K H (putE ρ d .undef) J:=Eq.trans rfl rfl
theorem rdC_s:rdC K H d op ρ J (some (v,s))=(s=J/\ (∀h,H.pre h->op.run ρ h=some (v,h))/\ K ⟨H.pre,fun s=>H.rds s/\ op.run ρ s=some (v,s),H.rd2⟩ (putE ρ d v) J):=Eq.trans rfl rfl
theorem zs6:z12 K H ⟨d,g,.rd2,op⟩ ρ J=rd2W K H d op ρ J (z1p ρ g):=Eq.trans rfl rfl
theorem zs4:z12 K H ⟨d,g,.ef2,op⟩ ρ J=ef2W K H d op ρ J (z1p ρ g):=Eq.trans rfl rfl
theorem rd2W_t:rd2W K H d op ρ J (some true)=rd2C K H d op ρ J (op.run ρ J):=Eq.trans rfl rfl
theorem rd2W_f:rd2W K H d op ρ J (some false)=K H (putE ρ d .undef) J:=Eq.trans rfl rfl
theorem ef2W_t:ef2W K H d op ρ J (some true)=ef2C K H d ρ J (op.run ρ J):=Eq.trans rfl rfl
theorem ef2W_f:ef2W K H d op ρ J (some false)=K H (putE ρ d .undef) J:=Eq.trans rfl rfl
theorem rd2C_s:rd2C K H d op ρ J (some (v,s))=(s=J/\ (∀h,H.pre h->op.run ρ h=some (v,h))/\ K ⟨H.pre,fun s=>H.rds s/\ op.run ρ s=some (v,s),fun s=>H.rd2 s/\ op.run ρ s=some (v,s)⟩ (putE ρ d v) J):=Eq.trans rfl rfl
theorem ef2C_s:ef2C K H d ρ J (some (v,s))=(H.rd2 s/\ K ⟨fun t=>H.pre t \/t=J,H.rds,H.rd2⟩ (putE ρ d v) s):=Eq.trans rfl rfl
theorem zou{h:Store}:Hist.none.rd2 h=True:=Eq.trans rfl rfl
theorem zra{h:Store}:(Hist.same J).rd2 h=(h=J):=Eq.trans rfl rfl
theorem efC_s:efC K H d ρ J (some (v,s))=(H.rds s/\ K ⟨fun t=>H.pre t \/t=J,H.rds,H.rd2⟩ (putE ρ d v) s):=Eq.trans rfl rfl
theorem z4o:z2c C K H ρ J d nd f xs (some true)=callW C K H ρ d nd J (f.ev ρ) (xs.map (AX.ev ρ)):=Eq.trans rfl rfl
theorem z4n:z2c C K H ρ J d nd f xs (some false)=K H (putE ρ d .undef) J:=Eq.trans rfl rfl
theorem zoo{J':Store}:z2v .no H J J'=True:=Eq.trans rfl rfl
theorem zop{J':Store}:z2v .same H J J'=(J'=J):=Eq.trans rfl rfl
theorem zon{J':Store}:z2v .ef H J J'=H.rds J':=Eq.trans rfl rfl
theorem zol:z4c .no H J=H:=Eq.trans rfl rfl
theorem zom:z4c .same H J=H:=Eq.trans rfl rfl
theorem zok:z4c .ef H J=⟨fun s=>H.pre s \/s=J,H.rds,H.rd2⟩:=Eq.trans rfl rfl
theorem un_not{b:Bool}:aUn .not (.bool b)=some (.bool (!b)):=Eq.trans rfl rfl
theorem un_neg{k:IntKind}{n:Int}:aUn .neg (.int k n)=some (.int k (k.wrap (0-n))):=Eq.trans rfl rfl
theorem un_xor{k:IntKind}{n:Int}:aUn .xor (.int k n)=some (.int k (k.wrap (BitVec.ofInt k.bits (if k.signed then-1 else k.max)^^^BitVec.ofInt k.bits n).toNat)):=Eq.trans rfl rfl
theorem rdS_s{s:Store}:rdS K d ρ J (some (v,s))=(s=J/\ K (Hist.same J) (putE ρ d v) J):=Eq.trans rfl rfl
theorem zr9{h:Store}:(Hist.same J).pre h=(h=J):=Eq.trans rfl rfl
theorem zrb{h:Store}:(Hist.same J).rds h=(h=J):=Eq.trans rfl rfl
theorem zot{h:Store}:Hist.none.pre h=False:=Eq.trans rfl rfl
theorem zov{h:Store}:Hist.none.rds h=True:=Eq.trans rfl rfl
end
theorem zmo{k:IntKind}{m:Int}{cells:List AV}{off:Nat}{rest:List (Nat × Nat × AV)}(h:off+1<=cells.length):z19 cells ((off,1,(.int k m))::rest)=z19 (z1d cells off [(.int k m)]) rest:=by
 simp [z19,cellsOf,h]
theorem zmv{s:List UInt8}{cells:List AV}{off:Nat}{rest:List (Nat × Nat × AV)}(h:off+1<=cells.length):z19 cells ((off,1,(.str s))::rest)=z19 (z1d cells off [(.str s)]) rest:=by
 simp [z19,cellsOf,h]
theorem zmm{b:Bool}{cells:List AV}{off:Nat}{rest:List (Nat × Nat × AV)}(h:off+1<=cells.length):z19 cells ((off,1,(.bool b))::rest)=z19 (z1d cells off [(.bool b)]) rest:=by
 simp [z19,cellsOf,h]
theorem zmt{r i o:Nat}{cells:List AV}{off:Nat}{rest:List (Nat × Nat × AV)}(h:off+1<=cells.length):z19 cells ((off,1,(.ptr r i o))::rest)=z19 (z1d cells off [(.ptr r i o)]) rest:=by
 simp [z19,cellsOf,h]
theorem zmr{cells:List AV}{off:Nat}{rest:List (Nat × Nat × AV)}(h:off+1<=cells.length):z19 cells ((off,1,.nilp)::rest)=z19 (z1d cells off [.nilp]) rest:=by
 simp [z19,cellsOf,h]
theorem zms{cells:List AV}{off:Nat}{rest:List (Nat × Nat × AV)}(h:off+1<=cells.length):z19 cells ((off,1,.nilsl)::rest)=z19 (z1d cells off [.nilsl]) rest:=by
 simp [z19,cellsOf,h]
theorem zmx{z:Nat}{es:List (List AV)}{x:Bool}{cells:List AV}{off:Nat}{rest:List (Nat × Nat × AV)}(h:off+1<=cells.length):z19 cells ((off,1,(.vsl z es x))::rest)=z19 (z1d cells off [(.vsl z es x)]) rest:=by
 simp [z19,cellsOf,h]
theorem zmu{r o len z:Nat}{lim:Option Nat}{cells:List AV}{off:Nat}{rest:List (Nat × Nat × AV)}(h:off+1<=cells.length):z19 cells ((off,1,(.sl r o len lim z))::rest)=z19 (z1d cells off [(.sl r o len lim z)]) rest:=by
 simp [z19,cellsOf,h]
theorem zml{r i o len cap z:Nat}{cells:List AV}{off:Nat}{rest:List (Nat × Nat × AV)}(h:off+1<=cells.length):z19 cells ((off,1,(.asl r i o len cap z))::rest)=z19 (z1d cells off [(.asl r i o len cap z)]) rest:=by
 simp [z19,cellsOf,h]
theorem zmw{cs:List AV}{cells:List AV}{off:Nat}{rest:List (Nat × Nat × AV)}(h:off+1<=cells.length):z19 cells ((off,1,(.vp cs))::rest)=z19 (z1d cells off [(.vp cs)]) rest:=by
 simp [z19,cellsOf,h]
theorem zmn{f:FuncId}{caps:List AV}{cells:List AV}{off:Nat}{rest:List (Nat × Nat × AV)}(h:off+1<=cells.length):z19 cells ((off,1,(.fn f caps))::rest)=z19 (z1d cells off [(.fn f caps)]) rest:=by
 simp [z19,cellsOf,h]
theorem zmq{cells:List AV}{off:Nat}{rest:List (Nat × Nat × AV)}(h:off+1<=cells.length):z19 cells ((off,1,.nilfn)::rest)=z19 (z1d cells off [.nilfn]) rest:=by
 simp [z19,cellsOf,h]
theorem zmk{cs cells:List AV}{off n:Nat}{rest:List (Nat × Nat × AV)}(h0:cs.length=n)(h:off+n<=cells.length):z19 cells ((off,n,.agg cs)::rest)=z19 (z1d cells off cs) rest:=by
 simp [z19,cellsOf,h0,h]
theorem appB_n{ys:List (List AV)}:z45 J .nilsl ys=aApp J 1 .nilsl ys:=rfl
theorem appB_v{esz:Nat}{es ys:List (List AV)}{ex:Bool}:z45 J (.vsl esz es ex) ys=aApp J 1 (.vsl esz es ex) ys:=rfl
theorem appB_s{r off len esz:Nat}{lim:Option Nat}{ys:List (List AV)}:z45 J (.sl r off len lim esz) ys=aApp J 1 (.sl r off len lim esz) ys:=rfl
theorem zkx{ys:List (List AV)}:z45 J .bnil ys=if ys.length ≠ 0/\ ys.length<=1073741824 then some (.bsl J.length ys.length,J++ [some ys])else none:=rfl
theorem zky{r len:Nat}{ys:List (List AV)}:z45 J (.bsl r len) ys=match J[r]? with
  |some (some o)=>if ys.length ≠ 0/\ o.length=len/\ len+ys.length<=1073741824 then some (.bsl J.length (len+ys.length),J.set r none++ [some (o++ys)])else none
  | _=>none:=rfl
theorem zc2{sz:Nat}{ys:List (List AV)}:aApp J sz .nilsl ys=if ys.length=0 then(z2h J .nilsl).map fun _=>(.nilsl,J)else if ys.length<=1073741824 then some (.sl J.length 0 ys.length none sz,J++ [some ys])else none:=Eq.trans rfl rfl
theorem z8e{sz esz:Nat}{es ys:List (List AV)}{ex:Bool}:aApp J sz (.vsl esz es ex) ys=if ys.length=0 then(z2h J (.vsl esz es ex)).map fun _=>(.vsl esz es ex,J)else if ex=true/\ esz=sz/\ es.length+ys.length<=1073741824 then some (.sl J.length 0 (es.length+ys.length) none sz,J++ [some (es++ys)])else none:=Eq.trans rfl rfl
theorem zab {sz r off len esz : Nat} {lim : Option Nat} {ys : List (List AV)} : aApp J sz (.sl r off len lim esz) ys = if ys.length = 0 then (z2h J (.sl r off len lim esz)).map fun _ => (.sl r off len lim esz, J) else match J[r]? with
    | some (some o) => if esz = sz /\ off + len <= o.length /\ len + ys.length <= 1073741824 then
        (match lim with
         | none => if off + len + ys.length <= o.length then some (.sl r off (len + ys.length) none esz, J.set r (some (o.take (off + len) ++ ys ++ o.drop (off + len + ys.length))))
             else some (.sl J.length 0 (len+ys.length) none sz,J.set r none++ [some ((o.drop off).take len++ys)])
         | some c => if len + ys.length <= c then (if off + len + ys.length <= o.length then some (.sl r off (len + ys.length) (some c) esz, J.set r (some (o.take (off + len) ++ ys ++ o.drop (off + len + ys.length)))) else none)
             else some (.sl J.length 0 (len+ys.length) none sz,J++ [some ((o.drop off).take len++ys)]))else none
    | _=>none:=Eq.trans rfl rfl
theorem zmp{cells:List AV}:z19 cells []=some cells:=rfl
theorem zpw{c:AV}{cs vs:List AV}{n:Nat}:z1d (c::cs) (n+1) vs=c::z1d cs n vs:=by
 have e:n+1+vs.length=(n+vs.length)+1:=by omega
 simp [z1d,e]
theorem zpz{c v:AV}{cs vs:List AV}:z1d (c::cs) 0 (v::vs)=v::z1d cs 0 vs:=by
 simp [z1d]
theorem zpu{cs:List AV}:z1d cs 0 []=cs:=by simp [z1d]
theorem zpy{cs vs:List AV}{n:Nat}:z1d cs n vs=cs.take n++vs++cs.drop (n+vs.length):=Eq.trans rfl rfl
theorem overw1{c v:AV}:z1d [c] 0 [v]=[v]:=by simp [z1d]
theorem zx(s:List UInt8):(zn s).length=s.length:=by simp [zn]
theorem z7k{s:List UInt8}{i:Nat}(h:i<s.length):(zn s)[i]? =some [.int .u8 (s.getD i 0).toNat]:=by
 simp [zn,B8,List.getD_eq_getElem?_getD,List.getElem?_eq_getElem h]
theorem zlf{s:List UInt8}{i:Nat}{n:Int}(h:0<=n/\ n<256):(zn s).set i [.int .u8 n]=zn (s.set i (UInt8.ofNat n.toNat)):=by
 have e:((n.toNat%256:Nat):Int)=n:=by omega
 simp [zn,B8,List.map_set,e]
theorem zle(n:Nat):List.replicate n [AV.int .u8 0]=zn (List.replicate n 0):=by simp [zn,B8]
theorem zh0{s:List UInt8}{i:Nat}(h:i<s.length):s[i]? =some (s.getD i 0):=getQ s i 0 h
theorem zec{r off len esz:Nat}{lim:Option Nat}:z2h J (.sl r off len lim esz)=match J[r]? with|some (some o)=>if off+len<=o.length then some ((o.drop off).take len)else none| _=>none:=Eq.trans rfl rfl
theorem z3l{k:IntKind}{a b:Int}(h:a=b):AV.int k a=AV.int k b:=by rw [h]
theorem str_eq{a b:List UInt8}(h:a=b):AV.str a=AV.str b:=by rw [h]
theorem wm_u8{n:Int}:IntKind.u8.wrap n=n%256:=by simp [IntKind.wrap,IntKind.signed,IntKind.bits]
theorem wm_u16{n:Int}:IntKind.u16.wrap n=n%65536:=by simp [IntKind.wrap,IntKind.signed,IntKind.bits]
theorem z9w{n:Int}:IntKind.u32.wrap n=n%4294967296:=by simp [IntKind.wrap,IntKind.signed,IntKind.bits]
theorem wm_u64{n:Int}:IntKind.u64.wrap n=n%18446744073709551616:=by simp [IntKind.wrap,IntKind.signed,IntKind.bits]
theorem zlh{s:List UInt8}{i:Nat}:(zn s).take i=zn (s.take i):=by simp [zn,List.map_take]
theorem zld{s:List UInt8}{i:Nat}:(zn s).drop i=zn (s.drop i):=by simp [zn,List.map_drop]
theorem zaf{s t:List UInt8}:zn s++zn t=zn (s++t):=by simp [zn]
theorem zse{cs:List AV}{off n:Nat}:z3c cs off n false=cs[off]?:=Eq.trans rfl rfl
theorem zsf{cs:List AV}{off n:Nat}:z3c cs off n true=if off+n<=cs.length then some (.agg ((cs.drop off).take n))else none:=Eq.trans rfl rfl
/-! Guards. -/
def gv(v:AV)(b:Bool):Option Bool:=match v with
 | .bool x=>some (x==b)
 | .undef=>some false
 | _=>none
def insG(g:Option Bool)(d:Option Nat)(op:AOp)(ρ:Env)(J:Store):Option (Env × Store):=match g with
 |some true=>(op.run ρ J).map fun r=>(putE ρ d r.1,r.2)
 |some false=>some (putE ρ d .undef,J)
 |none=>none
theorem zo2{d:Option Nat}{nd:Nd}{op:AOp}:z2u ⟨d,none,nd,op⟩ ρ J=(op.run ρ J).map fun r=>(putE ρ d r.1,r.2):=rfl
theorem zo3{d:Option Nat}{nd:Nd}{b:Bool}{s:Nat}{op:AOp}:z2u ⟨d,some (s,b),nd,op⟩ ρ J=insG (gv (ρ s) b) d op ρ J:=rfl
theorem zn4:z1p ρ none=some true:=rfl
theorem zn5{s:Nat}{b:Bool}:z1p ρ (some (s,b))=gv (ρ s) b:=rfl
theorem gv_tt:gv (.bool true) true=some true:=rfl
theorem gv_tf:gv (.bool true) false=some false:=rfl
theorem gv_ft:gv (.bool false) true=some false:=rfl
theorem gv_ff:gv (.bool false) false=some true:=rfl
theorem zn6{b:Bool}:gv .undef b=some false:=rfl
theorem insG_t{d:Option Nat}{op:AOp}:insG (some true) d op ρ J=(op.run ρ J).map fun r=>(putE ρ d r.1,r.2):=rfl
theorem insG_f{d:Option Nat}{op:AOp}:insG (some false) d op ρ J=some (putE ρ d .undef,J):=rfl
section
variable {K:Hist->Env->Store->Prop} {K1:Env->Store->Prop} {H:Hist} {d:Option Nat} {op:AOp} {nd:Nd} {b x m:Bool} {P:Prop} {f:AX} {xs:List AX}
theorem zg0[hd:Decidable P](h1:P->z2n K1 J m (insG (gv (.bool true) b) d op ρ J))(h2:¬P->z2n K1 J m (insG (gv (.bool false) b) d op ρ J)):z2n K1 J m (insG (gv (.bool (@decide P hd)) b) d op ρ J):=by
 by_cases h:P
 ·simpa [h]using h1 h
 ·simpa [h]using h2 h
theorem zg1(h1:x=true->z2n K1 J m (insG (gv (.bool true) b) d op ρ J))(h2:x=false->z2n K1 J m (insG (gv (.bool false) b) d op ρ J)):z2n K1 J m (insG (gv (.bool x) b) d op ρ J):=by
 cases x
 ·exact h2 rfl
 ·exact h1 rfl
theorem zg2[hd:Decidable P](h1:P->rdW K H d op ρ J (gv (.bool true) b))(h2:¬P->rdW K H d op ρ J (gv (.bool false) b)):rdW K H d op ρ J (gv (.bool (@decide P hd)) b):=by
 by_cases h:P
 ·simpa [h]using h1 h
 ·simpa [h]using h2 h
theorem zg3(h1:x=true->rdW K H d op ρ J (gv (.bool true) b))(h2:x=false->rdW K H d op ρ J (gv (.bool false) b)):rdW K H d op ρ J (gv (.bool x) b):=by
 cases x
 ·exact h2 rfl
 ·exact h1 rfl
theorem zg4[hd:Decidable P](h1:P->efW K H d op ρ J (gv (.bool true) b))(h2:¬P->efW K H d op ρ J (gv (.bool false) b)):efW K H d op ρ J (gv (.bool (@decide P hd)) b):=by
 by_cases h:P
 ·simpa [h]using h1 h
 ·simpa [h]using h2 h
theorem zg5(h1:x=true->efW K H d op ρ J (gv (.bool true) b))(h2:x=false->efW K H d op ρ J (gv (.bool false) b)):efW K H d op ρ J (gv (.bool x) b):=by
 cases x
 ·exact h2 rfl
 ·exact h1 rfl
theorem zg6[hd:Decidable P](h1:P->z2c C K H ρ J d nd f xs (gv (.bool true) b))(h2:¬P->z2c C K H ρ J d nd f xs (gv (.bool false) b)):z2c C K H ρ J d nd f xs (gv (.bool (@decide P hd)) b):=by
 by_cases h:P
 ·simpa [h]using h1 h
 ·simpa [h]using h2 h
theorem zg7(h1:x=true->z2c C K H ρ J d nd f xs (gv (.bool true) b))(h2:x=false->z2c C K H ρ J d nd f xs (gv (.bool false) b)):z2c C K H ρ J d nd f xs (gv (.bool x) b):=by
 cases x
 ·exact h2 rfl
 ·exact h1 rfl
class ZSp (G:Prop) (A B X Y:outParam Prop):Prop where
 zim:(A->X)->(B->Y)->G
theorem zG{G A B X Y:Prop}[h:ZSp G A B X Y](h1:A->X)(h2:B->Y):G:=h.zim h1 h2
instance zi0:ZSp (z2n K1 J m (insG (gv (.bool x) b) d op ρ J)) (x=true) (x=false) (z2n K1 J m (insG (gv (.bool true) b) d op ρ J)) (z2n K1 J m (insG (gv (.bool false) b) d op ρ J)):=⟨zg1⟩
instance zi1:ZSp (rdW K H d op ρ J (gv (.bool x) b)) (x=true) (x=false) (rdW K H d op ρ J (gv (.bool true) b)) (rdW K H d op ρ J (gv (.bool false) b)):=⟨zg3⟩
instance zi2:ZSp (efW K H d op ρ J (gv (.bool x) b)) (x=true) (x=false) (efW K H d op ρ J (gv (.bool true) b)) (efW K H d op ρ J (gv (.bool false) b)):=⟨zg5⟩
instance zi3:ZSp (z2c C K H ρ J d nd f xs (gv (.bool x) b)) (x=true) (x=false) (z2c C K H ρ J d nd f xs (gv (.bool true) b)) (z2c C K H ρ J d nd f xs (gv (.bool false) b)):=⟨zg7⟩
instance zi4[hd:Decidable P]:ZSp (z2n K1 J m (insG (gv (.bool (@decide P hd)) b) d op ρ J)) P (¬P) (z2n K1 J m (insG (gv (.bool true) b) d op ρ J)) (z2n K1 J m (insG (gv (.bool false) b) d op ρ J)):=⟨zg0⟩
instance zi5[hd:Decidable P]:ZSp (rdW K H d op ρ J (gv (.bool (@decide P hd)) b)) P (¬P) (rdW K H d op ρ J (gv (.bool true) b)) (rdW K H d op ρ J (gv (.bool false) b)):=⟨zg2⟩
instance zi6[hd:Decidable P]:ZSp (efW K H d op ρ J (gv (.bool (@decide P hd)) b)) P (¬P) (efW K H d op ρ J (gv (.bool true) b)) (efW K H d op ρ J (gv (.bool false) b)):=⟨zg4⟩
instance zi7[hd:Decidable P]:ZSp (z2c C K H ρ J d nd f xs (gv (.bool (@decide P hd)) b)) P (¬P) (z2c C K H ρ J d nd f xs (gv (.bool true) b)) (z2c C K H ρ J d nd f xs (gv (.bool false) b)):=⟨zg6⟩
end
end
attribute [go_sem] z4x z4w z4q z4r z5z z60 zs5 zs3 rdW_t rdW_f efW_t efW_f rdC_s efC_s zs6 zs4 rd2W_t rd2W_f ef2W_t ef2W_f rd2C_s ef2C_s zou zra z4o z4n zoo zop zon zol zom zok zot zov false_or or_imp forall_and forall_eq false_implies implies_true zo2 zo3 zn4 zn5 gv_tt gv_tf gv_ft gv_ff zn6 insG_t insG_f AOp.run AX.ev putE upd_b cond_true cond_false z2t Option.map_some Option.bind_some Option.map_none rBin rEq z3b eqOp aMin z38 z30 z41 z40 z3f rFa rFld z3y z3z z1h z3e
 z2r blkQ endQ endP retV oks Bool.and_true Bool.true_and RV.val RV.ok Option.getD_some Option.isSome_some List.map_cons List.map_nil List.getD_cons_zero List.getD_cons_succ List.getD_nil if_true if_false ite_true ite_false reduceCtorEq Bool.false_eq_true Bool.true_eq_false beq_true beq_false Bool.not_true Bool.not_false BEq.rfl beq_self_eq_true
 List.nil_append List.cons_append List.append_nil
 oj_mv zpm zp3 zp2 zp4 oj_box zp5 oj_lit zph zpo zpl oj_bin oj_un zp8 zpk zpi zpn oj_fa oj_fld zpa zpb zpc zpd oj_ext zpg zpf zpe oj_app zp9 zp7 zpj oj_nil zp6
 z5o z5q z4z zq0 zq1 aBld appB_n appB_v appB_s zkx zky z54 z55 z5j z5k z5s z5p z52 z5t z57 z5n z5l z5r z5a z5b z5c z5d z5e z5f z59 z5i z5h z5g z50 z58 z56 z5m
 getElem?_app getElem?_app0 z4i z5w
 shr_u8 shl_u8 zrr zro zj0 ziy zrs zrp zrq zrn zh9 ib_sub ib_mul ib_quo ib_rem ib_eql ib_neq ib_lss ib_leq ib_gtr ib_geq zns znw zhd znq znu zny zha zhb zhc znr znv znz znp znt znx mask1 mask2 mask3 mask4 mask5 mask6 mask7 mask8 mask12
 cellsOf z2h z6l z2z z8k zli za4 za3 bnd za7 za8 za6 z6s knownN zc2 z8e zab aBox rCopy zdl List.length_cons List.length_nil Option.bind_none overw1 zpw zpz zpu zx z7k zlf zle zlh zld zaf zh0
 List.getElem?_cons_zero List.getElem?_cons_succ List.set_cons_zero List.set_cons_succ List.drop_zero Nat.add_zero Nat.zero_add
 zse zsf List.drop_succ_cons List.take_succ_cons List.take_zero Nat.zero_mul Nat.mul_one true_and and_true eq_self List.take_of_length_le
 z9u zbs z9v zbr w_u8 zo5 zo6 zow zsi zsk if_pos if_neg decide_eq_true decide_eq_false Int.toNat_natCast
attribute [go_sem low] un_xor zpy
def zaa(ρ' ρ:Env):List Nat->Prop
 | []=>True
 |j::l=>ρ' j=ρ j/\ zaa ρ' ρ l
theorem zfh(ρ:Env):∀l,zaa ρ ρ l
 | []=>trivial
 | _::l=>⟨rfl,zfh ρ l⟩
theorem zW.slots{C:Ctx}{n k:Nat}{ac:ACode}{Q:AExit->Env->Store->Prop}{ρ:Env}{J:Store}(l:List Nat)(h:∀ρ',zaa ρ' ρ l->zW C n k ac Q ρ' J):zW C n k ac Q ρ J:=h ρ (zfh ρ l)
attribute [go_sem] zmo zmv zmm zmt zmr zms zmx zmu zml zmw zmn zmq zmk zmp zaa un_not un_neg rdS_s zr9 zrb
attribute [go_sem high] zqe zme zoq zos
attribute [go_sem low] wm_u8 wm_u16 z9w wm_u64
end
section
section
variable {α:Type} {l m:List α} {r s:Nat} {x:α}
theorem z2e(h:r<l.length):(l.set r x)[r]? =some x:=List.getElem?_set_self h
theorem z1c(h:r ≠ s):(l.set r x)[s]? =l[s]?:=List.getElem?_set_ne h
theorem gapp(h:r<l.length):(l++m)[r]? =l[r]?:=List.getElem?_append_left h
theorem z1j(h:l.length<=r):(l++m)[r]? =m[r-l.length]?:=List.getElem?_append_right h
theorem sappr(h:l.length<=r):(l++m).set r x=l++m.set (r-l.length) x:=List.set_append_right _ _ h
theorem sapp(h:r<l.length):(l++m).set r x=l.set r x++m:=List.set_append_left _ _ h
end
def z92(ts:List RV)(P:AV->Store->Prop):AExit->Env->Store->Prop
 | .exit _=>fun _ _=>False
 | _=>fun ρ J=>oks ρ J ts=true/\ P (retV ts ρ J) J
theorem ACallsP.of_keep{C:Ctx}{f:FuncId}{n:Nat}{ts:List RV}{ac:ACode}(hc:cFn C f=some (n,ts,ac)){args:List AV}{J:Store}{P:AV->Store->Prop}(hn:args.length<=n)
  (h:zW C n J.length ac (z92 ts P) (z2t args) J):ACallsP C f args J P:=by
 simp only [cFn,Option.bind_eq_some_iff]at hc
 obtain⟨fn,hf,hc⟩:=hc
 split at hc
 ·cases hc
 ·rename_i hname
  simp only [Option.bind_eq_some_iff,Option.map_eq_some_iff,Prod.mk.injEq]at hc
  obtain⟨c,hb,ts',hts,ac',hac,rfl,rfl,rfl⟩:=hc
  intro γ w cargs hR ha
  left
  constructor
  ·have hname':(fn.name== "runtime.NumGoroutine")=false:=by simpa using hname
   have h1:fn.name ≠ "runtime.NumGoroutine" :=by simpa using hname'
   simp [callFunc,hf,h1,hb]
  ·have hl:=ha.length
   refine calls_of_wp hf hb ?_
   have hw:=h c hac γ w hR.gl hR.len γ { tmps:=cargs.toArray++Array.replicate (fn.ntmps-cargs.toArray.size) undef,defers:=[] } w (Step.refl _ _) hR
    (zap ha _) (by simp;omega)
   refine wp_mono hw ?_
   rintro e a' w' ⟨ae,ρ',J2,γ',rfl,hq,q1,q2,q3,q4,q5⟩
   have fin:(oks ρ' J2 ts'=true/\ P (retV ts' ρ' J2) J2)->a'.defers=[]/\ ∃v_1,(results fn a'.tmps).run C.P w'= .ok v_1 w'/\ ∃cv v γ' J',Ending.returned v_1= .returned cv/\ P v J'/\ Step γ w γ' w'/\ Rel C γ' J' w'/\ VR γ' w' v cv:=by
    rintro⟨hk,hp⟩
    obtain⟨rv,r1,r2⟩:=zbc q2 q3 hts hk
    exact⟨q4,_,r1,_,_,γ',J2,rfl,hp,q1,q2,r2⟩
   cases ae with
   |normal=>exact fin hq
   |exit id=>exact hq.elim
   |ret=>exact fin hq
attribute [go_sem] z2e z1c gapp z92 z4a not_true_eq_false not_false_eq_true decide_false decide_true List.set_set List.append_assoc z1j sapp sappr List.length_set Nat.sub_self Nat.add_sub_cancel_left List.length_append List.length_map
@[go_sem] def zZ0:List AV:=[.int .u8 0,.int .u8 0,.int .u8 0,.int .u8 0,.int .u8 0,.int .u8 0,.int .u8 0,.int .u8 0,.int .u8 0,.int .u8 0,.int .u8 0,.int .u8 0,.int .u8 0,.int .u8 0,.int .u8 0,.int .u8 0,.int .u8 0,.int .u8 0,.int .u8 0,.int .u8 0,.int .u8 0,.int .u8 0,.int .u8 0,.int .u8 0,.int .u8 0,.int .u8 0,.int .u8 0,.int .u8 0,.int .u8 0,.int .u8 0,.int .u8 0,.int .u8 0]
@[go_sem] def yI (d:Nat) (o:AOp):AIns:=⟨some d,none,.no,o⟩
@[go_sem] def yM (d s:Nat):AIns:=⟨some d,none,.no,.mv (.t s)⟩
@[go_sem] def yG (d g:Nat) (b:Bool) (o:AOp):AIns:=⟨some d,some (g,b),.no,o⟩
end
section
open Go.ChangeShapes Go.WideShapes Go.ChangeAt Go.RowKit
section
variable {H:Type} {enc:TypeId × Value->H} {P:Program} {w:World}
theorem zo7{base:Nat}{spare:Nat->Bool}{held:Bool}{fuel:Nat}{t e:TypeId}{n:Nat}{k:IntKind}{cs:List Value}{p:List MemPlace}(ns:List Int)
  (ht:P.underlying t=some (.array n e)) (he:P.underlying e=some (.int k)) (hc:P.cellsOf e=1) (hct:P.cellsOf t=n)
  (h:DataW.trod enc P w base spare held fuel t cs=some (.agg (ns.map fun i=> .lit (.int k i)),p)):cs=ns.map (Value.int k):=by
 obtain⟨xs,m,rfl,hx,hl,hn,hel⟩:=DataW.trod_array ht h
 simp only [Prod.mk.injEq,DataW.agg.injEq]at hx
 have hx1:=hx.1
 have hlen:ns.length=n:=by
  have:=congrArg List.length hx1
  simp only [List.length_map]at this
  omega
 rw [hct]at hl
 refine List.ext_getElem? fun i=> ?_
 by_cases hi:i<n
 ·have h1:=hel i hi
  rw [hc,Nat.mul_one]at h1
  obtain⟨x,hxi⟩:∃x,xs[i]? =some x:=⟨xs[i]'(by omega),List.getElem?_eq_getElem (by omega)⟩
  rw [hxi]at h1
  obtain⟨v,e1,e2,_⟩:=DataW.trod_int he h1
  subst e2
  have h2:=congrArg (fun l=>l[i]?) hx1
  simp only [List.getElem?_map,hxi,Option.map_some]at h2
  rw [List.getElem?_map]
  cases hns:ns[i]? with
  |none=>rw [hns]at h2;simp at h2
  |some z=>
   rw [hns]at h2
   simp only [Option.map_some,Option.some.injEq,DataW.lit.injEq,Lit.int.injEq,true_and]at h2
   subst h2
   have h3:=congrArg (fun l=>l[0]?) e1
   simp only [List.getElem?_take,List.getElem?_drop]at h3
   simpa using h3
 ·rw [List.getElem?_eq_none (by omega),List.getElem?_eq_none (by simp;omega)]
theorem zre{n:String}{g:Nat}{cs:Array Value}(hg:P.globalNamed n=some g)(h:w.var? P n=some cs):Imm [] w g/\ Seg w g 0 cs.toList:=by
 unfold World.var? at h
 rw [hg,Option.bind_some]at h
 split at h
 ·rename_i c ty fz hb
  simp only [Option.some.injEq]at h;subst h
  refine⟨⟨?_,by simp⟩,c,ty,fz,[],[],hb,by simp,rfl⟩
  rcases Nat.lt_or_ge g w.heap.size with h2|h2
  ·exact h2
  ·simp [Array.getElem?_eq_none h2]at hb
 ·cases h
theorem zf7{γ:Places}{k:IntKind}:∀(ns:List Int),VRs γ w (ns.map (AV.int k)) (ns.map (Value.int k))
 | []=>VRs.nil
 | _::ns=>VRs.cons ⟨VR.int,rfl⟩ (zf7 ns)
theorem vp_of_var{n:String}{g:Nat}{t e:TypeId}{m:Nat}{k:IntKind}{g':Nat}{t':TypeId}{cs:Array Value}{fuel:Nat}{p:List MemPlace}(ns:List Int)
  (hg:P.globalNamed n=some g) (htg:(P.globals[g]?).map (·.type)=some t) (ht:P.underlying t=some (.array m e)) (he:P.underlying e=some (.int k)) (hc:P.cellsOf e=1) (hct:P.cellsOf t=m)
  (k1:P.globalNamed n=some g') (k2:(P.globals[g']?).map (·.type)=some t') (k3:w.var? P n=some cs)
  (k4:DataW.trod enc P w 0 (fun _=>true) false fuel t' cs.toList=some (.agg (ns.map fun i=> .lit (.int k i)),p)):VR [] w (.vp (ns.map (AV.int k))) (.pointer (some ⟨g,0,none⟩)):=by
 obtain rfl:=Option.some.inj (hg.symm.trans k1)
 obtain rfl:=Option.some.inj (htg.symm.trans k2)
 obtain⟨h1,h2⟩:=zre hg k3
 rw [zo7 ns ht he hc hct k4]at h2
 exact⟨g,0,_,rfl,h1,h2,zf7 ns⟩
theorem law_contract_at{C:Ctx}{f:FuncId}{fn:Func}{e:Nat × List RV × ACode}(hc:cFn C f=some e){d:Nat}{tys:List Ty}(htys:z9t C.P d fn.params.toList=some tys)
  (hlaw:∀avs,z86 tys avs->ACallsTo C f avs [] (.bool true) []) {s:ChangeSpec} (hvars:s.vars=[])
  (hspec:∀ds:List (DataW H),ds.length=fn.params.toList.length->(s.fn H ds).results=[.lit (.bool true)]/\ (s.fn H ds).args=ds/\ (s.fn H ds).vars=[]) {tb:TypeId} (hres:fn.resultTypes= #[tb]) (htb:C.P.underlying tb=some .bool)
  (hl:laidOutB C.P=true) (hpar:(fn.params.toList.all fun t=>C.P.readableRec t && decide (t<C.P.types.size))=true)
  {W:World} (hR:Rel C [] [] W) {base:Nat} {args:Array Value} {ds gs:List (DataW H)} {before:List MemPlace} (hval:∀(j:Nat) t v,fn.params[j]? =some t->args[j]? =some v->Value.okWide C.P W .any base t v)
  (hW:DataW.Whole enc C.P fn.params.toList s.vars false W args.toList ds gs before):
  Calls C.P f args W fun e W'=>∃v,e= .returned v/\ s.post enc C.P fn false true false false W args v W':=by
 have hW':=hW
 obtain⟨p,q,hA,hV,rfl,hfz,hnd⟩:=hW
 obtain⟨avs,h1,h2⟩:=zht (r:= .any) (b0:=base) htys (fun j t v hj hv=>hval j t v (by simpa using hj) (by simpa using hv)) hA
 have hcall:=(hlaw avs h2).calls hc hR h1
 have ea:args.toList.toArray=args:=by simp
 rw [ea]at hcall
 refine hcall.mono ?_
 rintro x w' ⟨rfl,hb⟩
 refine⟨_,rfl,zog hW' hvars (fun gs hgs=> ?_) hres htb hl hpar hb⟩
 subst hgs
 rw [List.append_nil]
 exact hspec ds (zjh hA)
end
end
section
def shaFirst:List Int:=[1779033703,3144134277,1013904242,2773480762,1359893119,2600822924,528734635,1541459225]
def shaRounds:List Int:=[1116352408,1899447441,3049323471,3921009573,961987163,1508970993,2453635748,2870763221,3624381080,310598401,607225278,1426881987,1925078388,2162078206,2614888103,3248222580,3835390401,4022224774,264347078,604807628,770255983,1249150122,1555081692,1996064986,2554220882,2821834349,2952996808,3210313671,3336571891,3584528711,113926993,338241895,666307205,773529912,1294757372,1396182291,1695183700,1986661051,2177026350,2456956037,2730485921,2820302411,3259730800,3345764771,3516065817,3600352804,4094571909,275423344,430227734,506948616,659060556,883997877,958139571,1322822218,1537002063,1747873779,1955562222,2024104815,2227730452,2361852424,2428436474,2756734187,3204031479,3329325298]
def zcn:List AV:=shaFirst.map (AV.int .u32)
def gl_sha_rounds:List AV:=shaRounds.map (AV.int .u32)
noncomputable def TC:Ctx:=⟨Tryz.prog,fun g=>if g=0 then some zcn else if g=1 then some gl_sha_rounds else none⟩
theorem zdu{k:Nat}{i:IntKind}:∀(l:List Int),RLs k (l.map (AV.int i))
 | []=>by simp [RLs]
 | _::l=>by simp [RLs,RL];exact zdu l
theorem glok:GlOK TC:=by
 intro g cs h
 simp only [TC]at h
 split at h
 ·cases h;exact zdu _
 ·split at h
  ·cases h;exact zdu _
  ·cases h
end
end Am
end Go.Proofs.YtfldkpghggbdkaaGreatDoor
section
/- slices.Backward over hashes: its iterator, walked once. -/
namespace Go.Proofs
open Go.RowKit Go.Shelf
attribute [local go_sem] Oper.semAt_some
end Go.Proofs
end
namespace Go.Proofs.YtfldkpghggbdkaaGreatDoor
namespace Am
section
open Go.RowKit
end
section
@[go_sem] def q0r0:List AIns:=[
 yI 4 (.mv (.v (.str [])))]
@[go_sem] def q0r1:List AIns:=[
 yM 7 1,
 yI 8 (.bin .lss .none (.t 7) (.v (.int .i64 1))),
 yM 9 8,
 yG 10 9 false (.mv (.t 1)),
 yG 11 9 false (.bin .gtr .none (.t 10) (.v (.int .i64 8))),
 yI 12 (.pick (.t 9) (.v (.bool true)) (.t 11))]
@[go_sem] def q0r2:List AIns:=[
 yI 4 (.mv (.v (.str [])))]
def q0c3:ACode:= .seq (.reg q0r2) .ret
def q0c4:ACode:= .cond (.t 12) q0c3 .skip
def q0c5:ACode:= .seq (.reg q0r1) q0c4
@[go_sem] def q0r6:List AIns:=[
 yM 13 1,
 yI 14 (.make 1 [(.int .u8 0)] (.t 13) (.t 13)),
 yM 5 14]
@[go_sem] def q0r7:List AIns:=[
 yM 15 1,
 yI 16 (.mv (.v (.int .i64 0)))]
@[go_sem] def q0r8:List AIns:=[
 yI 17 (.bin .lss .none (.t 16) (.t 15))]
@[go_sem] def q0r9:List AIns:=[
 yM 18 16,
 yM 6 18]
@[go_sem] def q0r10:List AIns:=[
 yM 19 5,
 yM 20 1,
 yI 21 (.bin .sub .none (.t 20) (.v (.int .i64 1))),
 yM 22 6,
 yI 23 (.bin .sub .none (.t 21) (.t 22)),
 yM 24 0,
 yI 25 (.conv (.int .u8) (.t 24)),
 yI 26 (.iaSl 1 (.t 19) (.t 23)),
 ⟨none,none,.no,.store 1 (.t 26) (.t 25)⟩]
@[go_sem] def q0r11:List AIns:=[
 yM 27 0,
 yI 28 (.bin .shr .none (.t 27) (.v (.int .u64 8))),
 yM 0 28]
def q0c12:ACode:= .seq (.reg q0r10) (.reg q0r11)
def q0c13:ACode:= .seq (.reg q0r9) q0c12
@[go_sem] def q0r14:List AIns:=[
 yI 29 (.bin .add .none (.t 16) (.v (.int .i64 1))),
 yM 16 29]
def q0c15:ACode:= .seq (.block 1 q0c13) (.reg q0r14)
def q0c16:ACode:= .seq (.cond (.t 17) .skip (.exit 0)) q0c15
def q0c17:ACode:= .seq (.reg q0r8) q0c16
def q0c18:ACode:= .loop q0c17
def q0c19:ACode:= .block 0 q0c18
def q0c20:ACode:= .seq (.reg q0r7) q0c19
@[go_sem] def q0r21:List AIns:=[
 yM 30 5,
 yI 31 (.conv .str (.t 30)),
 yM 4 31]
def q0c22:ACode:= .seq (.reg q0r21) .ret
def q0c23:ACode:= .seq q0c20 q0c22
def q0c24:ACode:= .seq (.reg q0r6) q0c23
def q0c25:ACode:= .seq q0c5 q0c24
def q0c26:ACode:= .seq (.reg q0r0) q0c25
theorem q0ok:cFn TC 114=some (32,[.t 4],q0c26):=by kernel_rfl
@[go_sem] def q1r0:List AIns:=[
 yI 4 (.mv (.v (.str [])))]
@[go_sem] def q1r1:List AIns:=[
 yI 5 (.mv (.v (.str [])))]
@[go_sem] def q1r2:List AIns:=[
 yI 6 (.mv (.v (.int .i64 0)))]
@[go_sem] def q1r3:List AIns:=[
 yM 7 6,
 yM 8 1,
 yI 9 (.bin .lss .none (.t 7) (.t 8)),
 yM 10 9,
 yG 11 10 true (.mv (.t 1)),
 yG 12 10 true (.bin .lss .none (.t 11) (.v (.int .i64 9))),
 yI 13 (.pick (.t 10) (.t 12) (.v (.bool false)))]
def q1c4:ACode:= .cond (.t 13) .skip (.exit 0)
def q1c5:ACode:= .seq (.reg q1r3) q1c4
@[go_sem] def q1r6:List AIns:=[
 yM 16 0,
 yI 17 (.bin .rem .none (.t 16) (.v (.int .u64 256))),
 yI 18 (.conv (.int .u8) (.t 17)),
 yI 19 (.lit 1 [(.t 18)]),
 yI 20 (.conv .str (.t 19)),
 yM 21 5,
 yI 22 (.bin .add .none (.t 20) (.t 21)),
 yM 5 22]
@[go_sem] def q1r7:List AIns:=[
 yM 23 0,
 yI 24 (.bin .quo .none (.t 23) (.v (.int .u64 256))),
 yM 0 24]
def q1c8:ACode:= .seq (.reg q1r6) (.reg q1r7)
@[go_sem] def q1r9:List AIns:=[
 yM 14 6,
 yI 15 (.bin .add .none (.t 14) (.v (.int .i64 1))),
 yM 6 15]
def q1c10:ACode:= .seq (.block 1 q1c8) (.reg q1r9)
def q1c11:ACode:= .seq q1c5 q1c10
def q1c12:ACode:= .loop q1c11
def q1c13:ACode:= .block 0 q1c12
def q1c14:ACode:= .seq (.reg q1r2) q1c13
@[go_sem] def q1r15:List AIns:=[
 yM 25 5,
 yM 4 25]
def q1c16:ACode:= .seq (.reg q1r15) .ret
def q1c17:ACode:= .seq q1c14 q1c16
def q1c18:ACode:= .seq (.reg q1r1) q1c17
def q1c19:ACode:= .seq (.reg q1r0) q1c18
theorem q1ok:cFn TC 116=some (26,[.t 4],q1c19):=by kernel_rfl
@[go_sem] def q2r0:List AIns:=[
 yI 4 (.mv (.v (.int .u32 0)))]
@[go_sem] def q2r1:List AIns:=[
 yM 5 0,
 yM 6 1,
 yI 7 (.bin .rem .none (.t 6) (.v (.int .i64 32))),
 yI 8 (.un .neg (.t 7)),
 yI 9 (.call (.v (.fn 139 [])) [(.t 5),(.t 8)]),
 yM 4 9]
def q2c2:ACode:= .seq (.reg q2r1) .ret
def q2c3:ACode:= .seq (.reg q2r0) q2c2
theorem q2ok:cFn TC 129=some (10,[.t 4],q2c3):=by kernel_rfl
@[go_sem] def q3r0:List AIns:=[
 yI 4 (.mv (.v (.int .i64 0)))]
@[go_sem] def q3r1:List AIns:=[
 yM 5 1,
 yI 6 (.bin .lss .none (.t 5) (.v (.int .i64 0))),
 yM 7 6,
 yG 8 7 false (.mv (.t 1)),
 yG 9 7 false (.bin .quo .none (.t 8) (.v (.int .i64 8))),
 yG 10 7 false (.mv (.t 0)),
 yG 11 7 false (.lenStr (.t 10)),
 yG 12 7 false (.bin .geq .none (.t 9) (.t 11)),
 yI 13 (.pick (.t 7) (.v (.bool true)) (.t 12))]
@[go_sem] def q3r2:List AIns:=[
 yI 4 (.mv (.v (.int .i64 0)))]
def q3c3:ACode:= .seq (.reg q3r2) .ret
def q3c4:ACode:= .cond (.t 13) q3c3 .skip
def q3c5:ACode:= .seq (.reg q3r1) q3c4
@[go_sem] def q3r6:List AIns:=[
 yM 14 0,
 yM 15 1,
 yI 16 (.bin .quo .none (.t 15) (.v (.int .i64 8))),
 yI 17 (.ixStr (.t 14) (.t 16)),
 yM 18 1,
 yI 19 (.bin .rem .none (.t 18) (.v (.int .i64 8))),
 yI 20 (.bin .sub .none (.v (.int .i64 7)) (.t 19)),
 yI 21 (.bin .shr .none (.t 17) (.t 20)),
 yI 22 (.bin .and .none (.t 21) (.v (.int .u8 1))),
 yI 23 (.conv (.int .i64) (.t 22)),
 yM 4 23]
def q3c7:ACode:= .seq (.reg q3r6) .ret
def q3c8:ACode:= .seq q3c5 q3c7
def q3c9:ACode:= .seq (.reg q3r0) q3c8
theorem q3ok:cFn TC 130=some (24,[.t 4],q3c9):=by kernel_rfl
@[go_sem] def q4r0:List AIns:=[
 yI 4 (.mv (.v (.int .i64 0)))]
@[go_sem] def q4r1:List AIns:=[
 yM 7 1,
 yI 8 (.bin .lss .none (.t 7) (.v (.int .i64 0))),
 yM 9 8,
 yG 10 9 false (.mv (.t 1)),
 yG 11 9 false (.bin .quo .none (.t 10) (.v (.int .i64 8))),
 yG 12 9 false (.mv (.t 0)),
 yG 13 9 false (.lenStr (.t 12)),
 yG 14 9 false (.bin .geq .none (.t 11) (.t 13)),
 yI 15 (.pick (.t 9) (.v (.bool true)) (.t 14))]
@[go_sem] def q4r2:List AIns:=[
 yI 4 (.mv (.v (.int .i64 0)))]
def q4c3:ACode:= .seq (.reg q4r2) .ret
def q4c4:ACode:= .cond (.t 15) q4c3 .skip
def q4c5:ACode:= .seq (.reg q4r1) q4c4
@[go_sem] def q4r6:List AIns:=[
 yM 16 0,
 yM 17 1,
 yI 18 (.bin .quo .none (.t 17) (.v (.int .i64 8))),
 yI 19 (.ixStr (.t 16) (.t 18)),
 yM 5 19]
@[go_sem] def q4r7:List AIns:=[
 yM 20 1,
 yI 21 (.bin .rem .none (.t 20) (.v (.int .i64 8))),
 yM 6 21]
@[go_sem] def q4r8:List AIns:=[
 yM 22 6,
 yI 23 (.bin .lss .none (.t 22) (.v (.int .i64 7)))]
def q4c9:ACode:= .cond (.t 23) .skip (.exit 0)
def q4c10:ACode:= .seq (.reg q4r8) q4c9
@[go_sem] def q4r11:List AIns:=[
 yM 26 5,
 yI 27 (.bin .quo .none (.t 26) (.v (.int .u8 2))),
 yM 5 27]
@[go_sem] def q4r12:List AIns:=[
 yM 24 6,
 yI 25 (.bin .add .none (.t 24) (.v (.int .i64 1))),
 yM 6 25]
def q4c13:ACode:= .seq (.block 1 (.reg q4r11)) (.reg q4r12)
def q4c14:ACode:= .seq q4c10 q4c13
def q4c15:ACode:= .loop q4c14
def q4c16:ACode:= .block 0 q4c15
def q4c17:ACode:= .seq (.reg q4r7) q4c16
@[go_sem] def q4r18:List AIns:=[
 yM 28 5,
 yI 29 (.bin .rem .none (.t 28) (.v (.int .u8 2))),
 yI 30 (.conv (.int .i64) (.t 29)),
 yM 4 30]
def q4c19:ACode:= .seq (.reg q4r18) .ret
def q4c20:ACode:= .seq q4c17 q4c19
def q4c21:ACode:= .seq (.reg q4r6) q4c20
def q4c22:ACode:= .seq q4c5 q4c21
def q4c23:ACode:= .seq (.reg q4r0) q4c22
theorem q4ok:cFn TC 131=some (31,[.t 4],q4c23):=by kernel_rfl
@[go_sem] def q5r0:List AIns:=[
 yI 2 (.mv (.v (.int .u64 0)))]
@[go_sem] def q5r1:List AIns:=[
 yI 3 (.mv (.v (.int .u64 0)))]
@[go_sem] def q5r2:List AIns:=[
 yM 5 0,
 yI 6 (.lenStr (.t 5)),
 yI 7 (.minmax false (.t 6) (.v (.int .i64 8))),
 yI 8 (.mv (.v (.int .i64 0)))]
@[go_sem] def q5r3:List AIns:=[
 yI 9 (.bin .lss .none (.t 8) (.t 7))]
@[go_sem] def q5r4:List AIns:=[
 yM 10 8,
 yM 4 10]
@[go_sem] def q5r5:List AIns:=[
 yM 11 3,
 yI 12 (.bin .shl .none (.t 11) (.v (.int .u64 8))),
 yM 13 0,
 yM 14 4,
 yI 15 (.ixStr (.t 13) (.t 14)),
 yI 16 (.conv (.int .u64) (.t 15)),
 yI 17 (.bin .add .none (.t 12) (.t 16)),
 yM 3 17]
def q5c6:ACode:= .seq (.reg q5r4) (.reg q5r5)
@[go_sem] def q5r7:List AIns:=[
 yI 18 (.bin .add .none (.t 8) (.v (.int .i64 1))),
 yM 8 18]
def q5c8:ACode:= .seq (.block 1 q5c6) (.reg q5r7)
def q5c9:ACode:= .seq (.cond (.t 9) .skip (.exit 0)) q5c8
def q5c10:ACode:= .seq (.reg q5r3) q5c9
def q5c11:ACode:= .loop q5c10
def q5c12:ACode:= .block 0 q5c11
def q5c13:ACode:= .seq (.reg q5r2) q5c12
@[go_sem] def q5r14:List AIns:=[
 yM 19 3,
 yM 2 19]
def q5c15:ACode:= .seq (.reg q5r14) .ret
def q5c16:ACode:= .seq q5c13 q5c15
def q5c17:ACode:= .seq (.reg q5r1) q5c16
def q5c18:ACode:= .seq (.reg q5r0) q5c17
theorem q5ok:cFn TC 138=some (20,[.t 2],q5c18):=by kernel_rfl
@[go_sem] def q6r0:List AIns:=[
 yI 4 (.mv (.v (.int .u32 0)))]
@[go_sem] def q6r1:List AIns:=[
 yM 6 1,
 yI 7 (.conv (.int .u64) (.t 6)),
 yI 8 (.bin .and .none (.t 7) (.v (.int .u64 31))),
 yM 5 8]
@[go_sem] def q6r2:List AIns:=[
 yM 9 0,
 yM 10 5,
 yI 11 (.bin .shl .none (.t 9) (.t 10)),
 yM 12 0,
 yM 13 5,
 yI 14 (.bin .sub .none (.v (.int .u64 32)) (.t 13)),
 yI 15 (.bin .shr .none (.t 12) (.t 14)),
 yI 16 (.bin .or .none (.t 11) (.t 15)),
 yM 4 16]
def q6c3:ACode:= .seq (.reg q6r2) .ret
def q6c4:ACode:= .seq (.reg q6r1) q6c3
def q6c5:ACode:= .seq (.reg q6r0) q6c4
theorem q6ok:cFn TC 139=some (17,[.t 4],q6c5):=by kernel_rfl
end
section

end
section
theorem and31(k:Int):IntKind.u64.wrap ((BitVec.ofInt IntKind.u64.bits (IntKind.u64.wrap k) &&& BitVec.ofInt IntKind.u64.bits 31).toNat:Int)=((k%32).toNat:Int):=by
 rw [u_nat (by rfl),BitVec.toNat_and]
 have h1:(BitVec.ofInt IntKind.u64.bits 31).toNat=2^5-1:=by decide
 have h2:((BitVec.ofInt IntKind.u64.bits (IntKind.u64.wrap k)).toNat:Int)=k%18446744073709551616:=by
  rw [BitVec.toNat_ofInt,zbu (by rfl)]
  simp only [IntKind.bits]
  omega
 rw [h1,Nat.and_two_pow_sub_one_eq_mod]
 omega
theorem zsq(x:BitVec 32):IntKind.u32.wrap (x.toNat:Int)=x.toNat:=u_nat (k:= .u32) (by rfl) x
theorem rot_or(x:BitVec 32)(s:Nat)(hs:s<32):
  IntKind.u32.wrap ((BitVec.ofInt 32 (IntKind.u32.wrap ((x.toNat:Int)*2^min s 32)) |||BitVec.ofInt 32 ((x.toNat:Int).fdiv (2^min (32-s) 32))).toNat:Int)=((x.rotateLeft s).toNat:Int):=by
 rw [zsq]
 have h1:BitVec.ofInt 32 (IntKind.u32.wrap ((x.toNat:Int)*2^min s 32))=x<<<s:=by
  apply BitVec.eq_of_toNat_eq
  rw [BitVec.toNat_ofInt,zbu (by rfl),Nat.min_eq_left (by omega),BitVec.toNat_shiftLeft,Nat.shiftLeft_eq]
  simp only [IntKind.bits]
  have:((x.toNat:Int)*2^s)=((x.toNat*2^s:Nat):Int):=by simp
  rw [this]
  omega
 have h2:BitVec.ofInt 32 ((x.toNat:Int).fdiv (2^min (32-s) 32))=x>>>(32-s):=by
  apply BitVec.eq_of_toNat_eq
  have hx:=x.isLt
  rw [BitVec.toNat_ofInt,Nat.min_eq_left (by omega),BitVec.toNat_ushiftRight,Nat.shiftRight_eq_div_pow,Int.fdiv_eq_ediv_of_nonneg _ (by exact_mod_cast Nat.zero_le _)]
  have:((x.toNat:Int)/2^(32-s))=((x.toNat/2^(32-s):Nat):Int):=by simp
  rw [this]
  have h3:x.toNat/2^(32-s)<=x.toNat:=Nat.div_le_self _ _
  generalize x.toNat/2^(32-s)=y at*
  omega
 rw [h1,h2,BitVec.rotateLeft_def]
 simp only [Nat.mod_eq_of_lt hs]
theorem zl7(J:Store)(x:BitVec 32)(k:Int):ACallsTo TC 139 [.int .u32 x.toNat,.int .i64 k] J (.int .u32 (x.rotateLeft (k%32).toNat).toNat) J:=by
 refine ACallsTo.of_body q6ok (by simp) fun hw _=> ?_
 have hs:(k%32).toNat<32:=by omega
 generalize hk:(k%32).toNat=s at*
 have h31:=and31 k
 rw [hk]at h31
 have e1:¬((s:Int)<0):=by omega
 have e2:IntKind.u64.wrap (32-(s:Int))=((32-s:Nat):Int):=by
  rw [zbu (by rfl)];simp only [IntKind.bits];omega
 have e3:¬(((32-s:Nat):Int)<0):=by omega
 unfold q6c5
 refine zW.seqReg ?_
 simp only [q6r0,yM,yI,yG,z4x,z4w,z4q,z4r,z5z,z60,z4o,z4n,z2u,z1p,AOp.run,AX.ev,putE,upd,z2t,Option.map_some,Option.bind_some,Option.map_none,rBin,rEq,z16,z1m,z3b,eqOp,aUn,aMin,z38,z30,z41,z40,z3f,rFa,rFld,z3y,z3z,z1h,z3e,z19,z2r,blkQ,endQ,retV,oks,RV.ok,RV.val,Bool.and_true,Bool.true_and,List.map_cons,List.map_nil,List.getD_cons_zero,List.getD_cons_succ,List.getD_nil,if_true,if_false,ite_true,ite_false,reduceCtorEq,Nat.reduceEqDiff,Nat.reduceAdd,Bool.false_eq_true,Bool.true_eq_false,beq_true,beq_false,Bool.not_true,Bool.not_false,BEq.rfl,beq_self_eq_true,List.nil_append,List.cons_append,List.append_nil,z5o,z5q,z4z,z54,z55,z5j,z5k,z5s,z5p,z52,z5t,z57,z5n,z5l,z5r,z5a,z5b,z5c,z5d,z5e,z5f,z59,z5i,z5h,z5g,z50,z58,z56,z5m,getElem?_app,getElem?_app0,z4i,z5w]
 unfold q6c4
 refine zW.seqReg ?_
 simp only [q6r1,yM,yI,yG,z4x,z4w,z4q,z4r,z5z,z60,z4o,z4n,z2u,z1p,AOp.run,AX.ev,putE,upd,z2t,Option.map_some,Option.bind_some,Option.map_none,rBin,rEq,z16,z1m,z3b,eqOp,aUn,aMin,z38,z30,z41,z40,z3f,rFa,rFld,z3y,z3z,z1h,z3e,z19,z2r,blkQ,endQ,retV,oks,RV.ok,RV.val,Bool.and_true,Bool.true_and,List.map_cons,List.map_nil,List.getD_cons_zero,List.getD_cons_succ,List.getD_nil,if_true,if_false,ite_true,ite_false,reduceCtorEq,Nat.reduceEqDiff,Nat.reduceAdd,Bool.false_eq_true,Bool.true_eq_false,beq_true,beq_false,Bool.not_true,Bool.not_false,BEq.rfl,beq_self_eq_true,List.nil_append,List.cons_append,List.append_nil,z5o,z5q,z4z,z54,z55,z5j,z5k,z5s,z5p,z52,z5t,z57,z5n,z5l,z5r,z5a,z5b,z5c,z5d,z5e,z5f,z59,z5i,z5h,z5g,z50,z58,z56,z5m,getElem?_app,getElem?_app0,z4i,z5w]
 unfold q6c3
 refine zW.seqReg ?_
 simp only [q6r2,yM,yI,yG,h31,e1,e2,e3,Int.toNat_natCast,z4x,z4w,z4q,z4r,z5z,z60,z4o,z4n,z2u,z1p,AOp.run,AX.ev,putE,upd,z2t,Option.map_some,Option.bind_some,Option.map_none,rBin,rEq,z16,z1m,z3b,eqOp,aUn,aMin,z38,z30,z41,z40,z3f,rFa,rFld,z3y,z3z,z1h,z3e,z19,z2r,blkQ,endQ,retV,oks,RV.ok,RV.val,Bool.and_true,Bool.true_and,List.map_cons,List.map_nil,List.getD_cons_zero,List.getD_cons_succ,List.getD_nil,if_true,if_false,ite_true,ite_false,reduceCtorEq,Nat.reduceEqDiff,Nat.reduceAdd,Bool.false_eq_true,Bool.true_eq_false,beq_true,beq_false,Bool.not_true,Bool.not_false,BEq.rfl,beq_self_eq_true,List.nil_append,List.cons_append,List.append_nil,z5o,z5q,z4z,z54,z55,z5j,z5k,z5s,z5p,z52,z5t,z57,z5n,z5l,z5r,z5a,z5b,z5c,z5d,z5e,z5f,z59,z5i,z5h,z5g,z50,z58,z56,z5m,getElem?_app,getElem?_app0,z4i,z5w]
 refine zq_ ?_
 have h:=rot_or x s hs
 simp only [IntKind.bits,h,z4x,z4w,z4q,z4r,z5z,z60,z4o,z4n,z2u,z1p,AOp.run,AX.ev,putE,upd,z2t,Option.map_some,Option.bind_some,Option.map_none,rBin,rEq,z16,z1m,z3b,eqOp,aUn,aMin,z38,z30,z41,z40,z3f,rFa,rFld,z3y,z3z,z1h,z3e,z19,z2r,blkQ,endQ,retV,oks,RV.ok,RV.val,Bool.and_true,Bool.true_and,List.map_cons,List.map_nil,List.getD_cons_zero,List.getD_cons_succ,List.getD_nil,if_true,if_false,ite_true,ite_false,reduceCtorEq,Nat.reduceEqDiff,Nat.reduceAdd,Bool.false_eq_true,Bool.true_eq_false,beq_true,beq_false,Bool.not_true,Bool.not_false,BEq.rfl,beq_self_eq_true,List.nil_append,List.cons_append,List.append_nil,z5o,z5q,z4z,z54,z55,z5j,z5k,z5s,z5p,z52,z5t,z57,z5n,z5l,z5r,z5a,z5b,z5c,z5d,z5e,z5f,z59,z5i,z5h,z5g,z50,z58,z56,z5m,getElem?_app,getElem?_app0,z4i,z5w]
 exact⟨trivial,(congrArg (fun z=>DownV J.length (.int .u32 z) J (.int .u32 (x.rotateLeft s).toNat) J) h).mpr (DownV.same hw (zz _ rfl))⟩
theorem wrap64{n:Int}(h1: -9223372036854775808<=n)(h2:n<9223372036854775808):IntKind.i64.wrap n=n:=by
 simp [IntKind.wrap,IntKind.signed,IntKind.bits]
 omega
theorem zor(k:Int):(IntKind.i64.wrap (0-k.tmod 32))%32=(-k)%32:=by
 have h: -31<=k.tmod 32/\ k.tmod 32<=31:=by
  rw [Int.tmod_eq_emod];split<;>simp<;>omega
 rw [wrap64 (by omega) (by omega),Int.tmod_eq_emod]
 split
 ·omega
 ·simp;omega
theorem zad(J:Store)(x:BitVec 32)(k:Int):ACallsTo TC 129 [.int .u32 x.toNat,.int .i64 k] J (.int .u32 (x.rotateLeft ((-k)%32).toNat).toNat) J:=by
 refine ACallsTo.of_body q2ok (by simp) fun hw _=> ?_
 refine zW.seqReg ?_
 simp only [q2r0,yM,yI,yG,q2r1,z4x,z4w,z4q,z4r,z5z,z60,z4o,z4n,z2u,z1p,AOp.run,AX.ev,putE,upd,z2t,Option.map_some,Option.bind_some,Option.map_none,rBin,rEq,z16,z1m,z3b,eqOp,aUn,aMin,z38,z30,z41,z40,z3f,rFa,rFld,z3y,z3z,z1h,z3e,z19,z2r,blkQ,endQ,retV,oks,RV.ok,RV.val,Bool.and_true,Bool.true_and,List.map_cons,List.map_nil,List.getD_cons_zero,List.getD_cons_succ,List.getD_nil,if_true,if_false,ite_true,ite_false,reduceCtorEq,Nat.reduceEqDiff,Nat.reduceAdd,Bool.false_eq_true,Bool.true_eq_false,beq_true,beq_false,Bool.not_true,Bool.not_false,BEq.rfl,beq_self_eq_true,List.nil_append,List.cons_append,List.append_nil,z5o,z5q,z4z,z54,z55,z5j,z5k,z5s,z5p,z52,z5t,z57,z5n,z5l,z5r,z5a,z5b,z5c,z5d,z5e,z5f,z59,z5i,z5h,z5g,z50,z58,z56,z5m,getElem?_app,getElem?_app0,z4i,z5w]
 refine zW.seqReg ?_
 simp only [q2r0,yM,yI,yG,q2r1,show ¬((32:Int)=0)by decide,z4x,z4w,z4q,z4r,z5z,z60,z4o,z4n,z2u,z1p,AOp.run,AX.ev,putE,upd,z2t,Option.map_some,Option.bind_some,Option.map_none,rBin,rEq,z16,z1m,z3b,eqOp,aUn,aMin,z38,z30,z41,z40,z3f,rFa,rFld,z3y,z3z,z1h,z3e,z19,z2r,blkQ,endQ,retV,oks,RV.ok,RV.val,Bool.and_true,Bool.true_and,List.map_cons,List.map_nil,List.getD_cons_zero,List.getD_cons_succ,List.getD_nil,if_true,if_false,ite_true,ite_false,reduceCtorEq,Nat.reduceEqDiff,Nat.reduceAdd,Bool.false_eq_true,Bool.true_eq_false,beq_true,beq_false,Bool.not_true,Bool.not_false,BEq.rfl,beq_self_eq_true,List.nil_append,List.cons_append,List.append_nil,z5o,z5q,z4z,z54,z55,z5j,z5k,z5s,z5p,z52,z5t,z57,z5n,z5l,z5r,z5a,z5b,z5c,z5d,z5e,z5f,z59,z5i,z5h,z5g,z50,z58,z56,z5m,getElem?_app,getElem?_app0,z4i,z5w]
 have h:=zl7 J x (IntKind.i64.wrap (0-k.tmod 32))
 rw [zor]at h
 refine callW.zp h ?_
 simp only [z4x,z4w,z4q,z4r,z5z,z60,z4o,z4n,z2u,z1p,AOp.run,AX.ev,putE,upd,z2t,Option.map_some,Option.bind_some,Option.map_none,rBin,rEq,z16,z1m,z3b,eqOp,aUn,aMin,z38,z30,z41,z40,z3f,rFa,rFld,z3y,z3z,z1h,z3e,z19,z2r,blkQ,endQ,retV,oks,RV.ok,RV.val,Bool.and_true,Bool.true_and,List.map_cons,List.map_nil,List.getD_cons_zero,List.getD_cons_succ,List.getD_nil,if_true,if_false,ite_true,ite_false,reduceCtorEq,Nat.reduceEqDiff,Nat.reduceAdd,Bool.false_eq_true,Bool.true_eq_false,beq_true,beq_false,Bool.not_true,Bool.not_false,BEq.rfl,beq_self_eq_true,List.nil_append,List.cons_append,List.append_nil,z5o,z5q,z4z,z54,z55,z5j,z5k,z5s,z5p,z52,z5t,z57,z5n,z5l,z5r,z5a,z5b,z5c,z5d,z5e,z5f,z59,z5i,z5h,z5g,z50,z58,z56,z5m,getElem?_app,getElem?_app0,z4i,z5w]
 refine zq_ ?_
 simp only [z4x,z4w,z4q,z4r,z5z,z60,z4o,z4n,z2u,z1p,AOp.run,AX.ev,putE,upd,z2t,Option.map_some,Option.bind_some,Option.map_none,rBin,rEq,z16,z1m,z3b,eqOp,aUn,aMin,z38,z30,z41,z40,z3f,rFa,rFld,z3y,z3z,z1h,z3e,z19,z2r,blkQ,endQ,retV,oks,RV.ok,RV.val,Bool.and_true,Bool.true_and,List.map_cons,List.map_nil,List.getD_cons_zero,List.getD_cons_succ,List.getD_nil,if_true,if_false,ite_true,ite_false,reduceCtorEq,Nat.reduceEqDiff,Nat.reduceAdd,Bool.false_eq_true,Bool.true_eq_false,beq_true,beq_false,Bool.not_true,Bool.not_false,BEq.rfl,beq_self_eq_true,List.nil_append,List.cons_append,List.append_nil,z5o,z5q,z4z,z54,z55,z5j,z5k,z5s,z5p,z52,z5t,z57,z5n,z5l,z5r,z5a,z5b,z5c,z5d,z5e,z5f,z59,z5i,z5h,z5g,z50,z58,z56,z5m,getElem?_app,getElem?_app0,z4i,z5w]
 exact⟨trivial,DownV.same hw (zz _ rfl)⟩
def pc:Nat->Nat->Nat
 | 0,_=>0
 |w+1,n=>n%2+pc w (n/2)
end
section
def lg:Nat->Nat->Nat
 | 0,_=>0
 |w+1,n=>if n=0 then 0 else 1+lg w (n/2)
end
section

end
section

end
section

end
section
theorem z4f{k:Nat}{i:IntKind}{n:Int}:RL k (.int i n):=zz _ rfl
theorem z78{k:Nat}{s:List UInt8}:RL k (.str s):=zz _ rfl
theorem z1v{k:Nat}{b:Bool}:RL k (.bool b):=zz _ rfl
def be:Nat->Nat->List UInt8
 | 0,_=>[]
 |n+1,x=>be n (x/256)++ [UInt8.ofNat x]
theorem z3j:∀n x,(be n x).length=n
 | 0,_=>rfl
 |n+1,x=>by simp [be,z3j n]
theorem z8i:∀n x,be (n+1) x=UInt8.ofNat (x/256^n)::be n x
 | 0,x=>by simp [be]
 |n+1,x=>by
  rw [be,z8i n (x/256),Nat.div_div_eq_div_mul,Nat.pow_succ,Nat.mul_comm 256,be]
  rfl
def putS(x n:Int):List UInt8:=if 1<=n/\ n<=8 then be n.toNat x.toNat else []
theorem zry(J:Store)(x n:Int)(h:0<=x/\ x<18446744073709551616)(hn:n<9223372036854775808):ACallsTo TC 116 [.int .u64 x,.int .i64 n] J (.str (putS x n)) J:=by
 refine ACallsTo.of_body q1ok (by simp) fun hw _=> ?_
 repeat' (first|apply zs_|apply zb_|apply zc_|apply zt_ rfl|apply zf_ rfl|(refine zd_ rfl ?_ ?_<;>intro ht<;>try omega)|((first|apply zr_|apply zk_|apply ze_|apply zq_|(apply zG<;>intro ht));all_goals try simp (disch:=first|omega|(simp only [lens];first|done|omega)) only [go_sem]))
 refine zW.loop (fun m ρ J'=>J'=J/\ ∃(i:Nat) (y:Nat),ρ 0= .int .u64 y/\ ρ 1= .int .i64 n/\ ρ 6= .int .i64 i/\ ρ 5= .str (be i x.toNat)/\ m+i=9/\ (i:Int)<=max n 0/\ y=x.toNat/256^i/\ (0<i->n<9)) 9 ?_ ?_
 ·refine⟨rfl,0,x.toNat,?_,?_,?_,?_,by omega,by omega,by simp,by omega⟩<;>simp (disch:=first|omega|(simp only [lens];first|done|omega)) only [go_sem,be]
  ·exact z3l (by omega)
  ·rfl
 ·rintro m ρ _ ⟨rfl,i,y,q0,q1,q6,q5,hm,hi,hy,h9⟩
  have hl:=z3j i x.toNat
  have hy2:y<18446744073709551616:=by
   have:=Nat.div_le_self x.toNat (256^i)
   omega
  repeat' (first|apply zs_|apply zb_|apply zc_|apply zt_ rfl|apply zf_ rfl|(refine zd_ rfl ?_ ?_<;>intro ht<;>try omega)|((first|apply zr_|apply zk_|apply ze_|apply zq_|(apply zG<;>intro ht));all_goals try simp (disch:=first|omega|(simp only [lens];first|done|omega)) only [go_sem,q0,q1,q6,q5]))
  ·refine⟨m-1,by omega,i+1,y/256,z3l (by omega),z3l (by omega),str_eq ?_,by omega,by omega,?_,by omega⟩
   ·rw [z8i,<-hy]
    congr 1
    apply UInt8.toNat_inj.1
    simp;omega
   ·rw [hy,Nat.div_div_eq_div_mul,Nat.pow_succ]
  ·have e:i=0:=by omega
   subst e
   rw [putS,if_neg (by omega)]
   exact DownV.same hw z78
  ·by_cases h8:1<=n/\ n<=8
   ·have e:i=n.toNat:=by omega
    rw [putS,if_pos h8,e]
    exact DownV.same hw z78
   ·have e:i=0:=by omega
    subst e
    rw [putS,if_neg h8]
    exact DownV.same hw z78
theorem z6t(J:Store)(x n:Int)(h:0<=x/\ x<18446744073709551616)(hn:n<9223372036854775808):ACallsTo TC 114 [.int .u64 x,.int .i64 n] J (.str (putS x n)) J:=by
 refine ACallsTo.of_body q0ok (by simp) fun hw _=> ?_
 repeat' (first|apply zs_|apply zb_|apply zc_|apply zt_ rfl|apply zf_ rfl|(refine zd_ rfl ?_ ?_<;>intro ht<;>try omega)|((first|apply zr_|apply zk_|apply ze_|apply zq_|(apply zG<;>intro ht));all_goals try simp (disch:=first|omega|(simp only [lens];first|done|omega)) only [go_sem]))
 ·rw [putS,if_neg (by omega)]
  exact DownV.same hw z78
 ·rw [putS,if_neg (by omega)]
  exact DownV.same hw z78
 rw [putS,if_pos (by omega)]
 obtain⟨k,hk⟩:∃k:Nat,n=k:=⟨n.toNat,by omega⟩
 subst hk
 rw [Int.toNat_natCast]
 refine zW.loop (fun m ρ J'=>∃(i:Nat) (y:Nat) (s:List UInt8),J'=J++ [some (zn s)]/\ s.length=k/\ s.drop (k-i)=be i x.toNat/\ ρ 0= .int .u64 y/\ ρ 1= .int .i64 k/\ ρ 15= .int .i64 k/\ ρ 5= .sl J.length 0 k (some k) 1/\ ρ 16= .int .i64 i/\ m+i=k/\ y=x.toNat/256^i) k ?_ ?_
 ·refine⟨0,x.toNat,List.replicate k 0,?_,by simp,by simp [be],?_,?_,?_,?_,?_,by omega,by simp⟩<;>try simp (disch:=first|omega|(simp only [lens];first|done|omega)) only [go_sem,be]
  ·exact z3l (by omega)
  ·exact z3l (by omega)
 ·rintro m ρ _ ⟨i,y,s,rfl,hs,hd,q0,q1,q15,q5,q16,hm,hy⟩
  have hy2:y<18446744073709551616:=by
   have:=Nat.div_le_self x.toNat (256^i)
   omega
  repeat' (first|apply zs_|apply zb_|apply zc_|apply zt_ rfl|apply zf_ rfl|(refine zd_ rfl ?_ ?_<;>intro ht<;>try omega)|((first|apply zr_|apply zk_|apply ze_|apply zq_|(apply zG<;>intro ht));all_goals try simp (disch:=first|omega|(simp only [lens];first|done|omega)) only [go_sem,q0,q1,q15,q5,q16]))
  ·refine⟨m-1,by omega,i+1,y/256,_,rfl,by simp [hs],?_,z3l (by omega),z3l (by omega),by omega,?_⟩
   ·rw [z8i,<-hy,<-hd]
    have e1:((k:Int)-1-i).toNat=k-(i+1):=by omega
    have e2:UInt8.ofNat ((y:Int)%256).toNat=UInt8.ofNat y:=by
     apply UInt8.toNat_inj.1
     simp;omega
    rw [e1,e2,List.drop_set]
    simp only [Nat.lt_irrefl,if_false,Nat.sub_self]
    rw [List.drop_eq_getElem_cons (by omega),List.set_cons_zero,show k-(i+1)+1=k-i by omega]
   ·rw [hy,Nat.div_div_eq_div_mul,Nat.pow_succ]
  ·have e:i=k:=by omega
   subst e
   rw [Nat.sub_self,List.drop_zero]at hd
   rw [<-hd]
   exact DownV.pure hw z78
end
section
def val(s:List UInt8):Nat:=s.foldl (fun n b=>256*n+b.toNat) 0
theorem zsu(s:List UInt8)(b:UInt8):val (s++ [b])=256*val s+b.toNat:=by simp [val]
theorem zsg{α:Type}(s:List α)(i:Nat)(d:α)(h:i<s.length):s.take (i+1)=s.take i++ [s.getD i d]:=by
 rw [List.take_add_one,getQ s i d h];rfl
theorem zjo(s:List UInt8)(i:Nat)(h:i<s.length):val (s.take (i+1))=256*val (s.take i)+(s.getD i 0).toNat:=by
 rw [zsg s i 0 h,zsu]
theorem zjn:∀(i:Nat) (s:List UInt8),i<=s.length->val (s.take i)<256^i
 | 0,s,_=>by simp [val]
 |i+1,s,h=>by
  have:=zjn i s (by omega)
  have hb:=(s.getD i 0).toNat_lt
  rw [zjo s i (by omega),Nat.pow_succ]
  omega
def getS(s:List UInt8):Nat:=val (s.take 8)
theorem zfq(J:Store)(s:List UInt8)(hs:s.length<9223372036854775808):ACallsTo TC 138 [.str s] J (.int .u64 (getS s)) J:=by
 refine ACallsTo.of_body q5ok (by simp) fun hw _=> ?_
 obtain⟨k,hk,hk2⟩:∃k:Nat,(k:Int)=(if (8:Int)<s.length then(8:Int)else(s.length:Int))/\ k=min 8 s.length:=⟨min 8 s.length,by split<;>omega,rfl⟩
 have hgs:getS s=val (s.take k):=by
  rw [hk2,getS]
  by_cases h:8<=s.length
  ·rw [Nat.min_eq_left h]
  ·rw [Nat.min_eq_right (by omega),List.take_of_length_le (by omega),List.take_length]
 rw [hgs]
 repeat' (first|apply zs_|apply zb_|apply zc_|apply zt_ rfl|apply zf_ rfl|(refine zd_ rfl ?_ ?_<;>intro ht<;>try omega)|((first|apply zr_|apply zk_|apply ze_|apply zq_|(apply zG<;>intro ht));all_goals try simp (disch:=first|omega|(simp only [lens];first|done|omega)) only [go_sem,<-hk]))
 refine zW.loop (fun m ρ J'=>J'=J/\ ∃(i:Nat),ρ 0= .str s/\ ρ 7= .int .i64 k/\ ρ 8= .int .i64 i/\ ρ 3= .int .u64 (val (s.take i))/\ m+i=k) k ?_ ?_
 ·refine⟨rfl,0,?_,?_,?_,?_,by omega⟩<;>simp (disch:=first|omega|(simp only [lens];first|done|omega)) only [go_sem,<-hk]<;>rfl
 ·rintro m ρ _ ⟨rfl,i,q0,q7,q8,q3,hm⟩
  have hv:=zjn i s (by omega)
  have hp:i<k->256*256^i<=18446744073709551616:=by
   intro h
   have:256^(i+1)<=256^8:=Nat.pow_le_pow_right (by decide) (by omega)
   rw [Nat.pow_succ]at this
   omega
  have hb:=(s.getD i 0).toNat_lt
  repeat' (first|apply zs_|apply zb_|apply zc_|apply zt_ rfl|apply zf_ rfl|(refine zd_ rfl ?_ ?_<;>intro ht<;>try omega)|((first|apply zr_|apply zk_|apply ze_|apply zq_|(apply zG<;>intro ht));all_goals try simp (disch:=first|omega|(simp only [lens];first|done|omega)) only [go_sem,q0,q7,q8,q3]))
  ·have hp':=hp (by omega)
   have hvt:=zjo s i (by omega)
   refine⟨m-1,by omega,i+1,z3l (by omega),?_,by omega⟩
   rw [hvt]
   exact z3l (by omega)
  ·have e:i=k:=by omega
   subst e
   exact DownV.same hw z4f
def bitS(s:List UInt8)(i:Int):Nat:=if 0<=i/\ i/8<s.length then(s.getD (i/8).toNat 0).toNat/2^(7-i%8).toNat%2 else 0
theorem zgl(c n:Nat):c/2^n<=c:=Nat.div_le_self _ _
theorem zfp(J:Store)(s:List UInt8)(i:Int)(hs:s.length<9223372036854775808)(hi: -9223372036854775808<=i/\ i<9223372036854775808):ACallsTo TC 130 [.str s,.int .i64 i] J (.int .i64 (bitS s i)) J:=by
 refine ACallsTo.of_body q3ok (by simp) fun hw _=> ?_
 have hb:=(s.getD (i/8).toNat 0).toNat_lt
 have hd:=zgl (s.getD (i/8).toNat 0).toNat (7-i%8).toNat
 obtain⟨q,hq⟩:∃q,q=(s.getD (i/8).toNat 0).toNat/2^(7-i%8).toNat:=⟨_,rfl⟩
 have hc:((s.getD (i/8).toNat 0).toNat:Int)/2^(7-i%8).toNat=(q:Int):=by rw [hq];simp
 rw [<-hq]at hd
 repeat' (first|apply zs_|apply zb_|apply zc_|apply zt_ rfl|apply zf_ rfl|(refine zd_ rfl ?_ ?_<;>intro ht<;>try omega)|((first|apply zr_|apply zk_|apply ze_|apply zq_|(apply zG<;>intro ht));all_goals try simp (disch:=first|omega|(simp only [lens];first|done|omega)) only [go_sem,hc]))
 ·rw [bitS,if_neg (by omega)]
  exact DownV.same hw z4f
 ·rw [bitS,if_neg (by omega)]
  exact DownV.same hw z4f
 ·rw [bitS,if_pos (by omega),<-hq]
  exact DownV.same hw z4f
theorem zrx(J:Store)(s:List UInt8)(i:Int)(hs:s.length<9223372036854775808)(hi: -9223372036854775808<=i/\ i<9223372036854775808):ACallsTo TC 131 [.str s,.int .i64 i] J (.int .i64 (bitS s i)) J:=by
 refine ACallsTo.of_body q4ok (by simp) fun hw _=> ?_
 have hb:=(s.getD (i/8).toNat 0).toNat_lt
 repeat' (first|apply zs_|apply zb_|apply zc_|apply zt_ rfl|apply zf_ rfl|(refine zd_ rfl ?_ ?_<;>intro ht<;>try omega)|((first|apply zr_|apply zk_|apply ze_|apply zq_|(apply zG<;>intro ht));all_goals try simp (disch:=first|omega|(simp only [lens];first|done|omega)) only [go_sem]))
 ·rw [bitS,if_neg (by omega)]
  exact DownV.same hw z4f
 ·rw [bitS,if_neg (by omega)]
  exact DownV.same hw z4f
 rw [bitS,if_pos (by omega)]
 refine zW.loop (fun m ρ J'=>J'=J/\ ∃(k q:Nat),ρ 5= .int .u8 q/\ q=(s.getD (i/8).toNat 0).toNat/2^k/\ ρ 6= .int .i64 (i%8+k)/\ m+k=(7-i%8).toNat) (7-i%8).toNat ?_ ?_
 ·refine⟨rfl,0,(s.getD (i/8).toNat 0).toNat,?_,by simp,?_,by omega⟩<;>simp (disch:=first|omega|(simp only [lens];first|done|omega)) only [go_sem]
  exact z3l (by simp)
 ·rintro m ρ _ ⟨rfl,k,q,q5,hq,q6,hm⟩
  have hd:=zgl (s.getD (i/8).toNat 0).toNat k
  rw [<-hq]at hd
  repeat' (first|apply zs_|apply zb_|apply zc_|apply zt_ rfl|apply zf_ rfl|(refine zd_ rfl ?_ ?_<;>intro ht<;>try omega)|((first|apply zr_|apply zk_|apply ze_|apply zq_|(apply zG<;>intro ht));all_goals try simp (disch:=first|omega|(simp only [lens];first|done|omega)) only [go_sem,q5,q6]))
  ·refine⟨m-1,by omega,k+1,q/2,z3l (by omega),?_,z3l (by omega),by omega⟩
   rw [Nat.pow_succ,<-Nat.div_div_eq_div_mul,hq]
  ·have e:k=(7-i%8).toNat:=by omega
   rw [<-e,<-hq]
   exact DownV.same hw z4f
end
section
/-! Turning. -/
/-! Bits of a sum. -/
/-! What is put is got. -/
theorem zib(x n:Int):(putS x n).length<=8:=by
 unfold putS
 split
 ·rw [z3j];omega
 ·simp
/-! The highest bit. -/
end
end Am
end Go.Proofs.YtfldkpghggbdkaaGreatDoor
