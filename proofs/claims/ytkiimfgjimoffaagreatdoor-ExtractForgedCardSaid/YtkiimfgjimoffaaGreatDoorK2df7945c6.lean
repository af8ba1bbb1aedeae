import Derived.Test.YtkiimfgjimoffaaGreatDoorK1d3a3fb90
import Derived.Deep.LoopGhost
import Derived.Scope
import Derived.OrdersIn
import Derived.RangeFuncFrom
import Derived.RangeFuncLeaves
import Derived.Test.YtkiimfgjimoffaaGreatDoorRows
import Derived.ProofKit
import Derived.OpenShut
import Derived.JoinedCond
import Derived.Carry
import Derived.LaidMore
import Derived.Stop.Joined
import Derived.KernelRfl
import Derived.RangeFuncBox
import Derived.Shelf.Abstract
import Derived.WalkKit
import Derived.OwnWalkIn
import Derived.TacticsInMore
import Derived.LoopNIn
import Derived.LoopIn
import Derived.Test.YtkiimfgjimoffaaGreatDoorProg
set_option linter.unusedSimpArgs false
set_option linter.unusedVariables false
open Nat (reduceEqDiff reduceAdd reduceMul reduceSub reduceLeDiff)
open Int (reduceToNat reducePow)
open Nat renaming reduceEqDiff -> nQ1, reduceBEq -> nQ2, reduceAdd -> nQ3, reduceMul -> nQ4, reduceSub -> nQ5, reduceLeDiff -> nQ6
open Int renaming reduceToNat -> nQ7, reducePow -> nQ8
open List renaming length_reverse -> lQr, length_map -> lQm, length_take -> lQt, length_drop -> lQd, length_set -> lQs
set_option maxHeartbeats 16000000
attribute [local go_sem_proc] Nat.reduceEqDiff Nat.reduceBEq Nat.reduceAdd Nat.reduceMul Nat.reduceSub Nat.reduceLeDiff Int.reduceToNat Int.reducePow
namespace Go.Proofs.YtkiimfgjimoffaaGreatDoor
namespace Am
section
inductive AX where
 |t (n:Nat)
 |v (a:AV)
 deriving Inhabited
def AX.ev(Z:Env):AX->AV
 | .t n=>Z n
 | .v a=>a
inductive BK where
 |none
 |bool
 |ptr
 |slc
 |fn
 |agg (l:List LK)
inductive CK where
 |int (k:IntKind)
 |strId
 |bytes
 |str
inductive SK where
 |str
 |sl (sz:Nat)
 |arr (n sz:Nat)
inductive AOp where
 |mv (x:AX)
 |pick (c a b:AX)
 |alloc (z:List AV)
 |allB
 |box (x:AX)
 |build (z:List AV) (ps:List (Nat × Nat × AX))
 |lit (sz:Nat) (xs:List AX)
 |load (ag:Bool) (n:Nat) (x:AX)
 |store (n:Nat) (a x:AX)
 |nilc (x:AX)
 |bin (op:BinOp) (bk:BK) (x y:AX)
 |un (op:UnOp) (x:AX)
 |conv (c:CK) (x:AX)
 |mkfn (f:FuncId) (caps:List AX)
 |make (sz:Nat) (z:List AV) (l c:AX)
 |slice (k:SK) (x:AX) (lo hi mx:Option AX)
 |fa (k:Nat) (x:AX)
 |fld (ag:Bool) (n off:Nat) (x:AX)
 |iaArr (n sz:Nat) (x i:AX)
 |iaSl (sz:Nat) (x i:AX)
 |ixArr (n:Nat) (ag:Bool) (sz:Nat) (x i:AX)
 |ixStr (x i:AX)
 |ext (i:Nat) (x:AX)
 |lenStr (x:AX)
 |lenSl (x:AX)
 |lenArr (n:Nat)
 |app (sz:Nat) (s x:AX)
 |appB (s x:AX)
 |copy (sz:Nat) (d s:AX)
 |clear (z:List AV) (x:AX)
 |minmax (mx:Bool) (x y:AX)
 |capSl (x:AX)
 |appZ (sz:Nat) (z:List AV) (s n:AX)
 |call (f:AX) (xs:List AX)
 |stuck
def z2v(ag:Bool)(n:Nat)(O:Store):AV->Option AV
 | .ptr r i off=>match O[r]? with|some (some o)=>(o[i]?).bind fun cs=>z2w cs off n ag| _=>none
 | .vp cs=>z2w cs 0 n ag
 | _=>none
def z3o(n:Nat)(O:Store)(p v:AV):Option Store:=
  (cellsOf v).bind fun vs=>if vs.length=n then
    (match p with
     | .ptr r i off=>match O[r]? with|some (some o)=>(o[i]?).bind fun cs=>if off+vs.length<=cs.length then some (O.set r (some (o.set i (z19 cs off vs))))else none| _=>none
     | _=>none)else none
def z17(cells:List AV):List (Nat × Nat × AV)->Option (List AV)
 | []=>some cells
 |p::rest=>(cellsOf p.2.2).bind fun vs=>if vs.length=p.2.1/\ p.1+p.2.1<=cells.length then z17 (z19 cells p.1 vs) rest else none
def z39(sz:Nat):List AV->Option (List (List AV))
 | []=>some []
 |v::l=>(cellsOf v).bind fun vs=>if vs.length=sz then(z39 sz l).map (vs:: ·)else none
def z3n(sz:Nat)(z:List AV)(O:Store)(l c:AV):Option (AV × Store):=
 match l,c with
 | .int _ n,.int _ m=>if 0<=n/\ n<=m/\ m<=4294967296 then some (.sl O.length 0 n.toNat (some m.toNat) sz,O++ [some (List.replicate m.toNat z)])else none
 | _,_=>none
def z3a(k:SK)(O:Store)(x:AV)(lo hi mx:Option AV):Option AV:=
 match k,x with
 | .str,.str s=>z9w s lo hi mx
 | .sl _,.nilsl=>(bnd hi 0).bind fun h=>(bnd lo 0).bind fun l=>(bnd mx 0).bind fun m=>if h=0/\ l=0/\ m=0/\ (mx.isSome=true->hi.isSome=true)then some .nilsl else none
 | .sl sz,.vsl esz es ex=>if sz=esz then z9x esz es ex lo hi mx else none
 | .sl sz,.sl r off len lim esz=>if sz=esz then z9v 0 r off len lim esz lo hi mx else none
 | .sl sz,.asl r i off len cap esz=>if sz=esz then z6g r i off len cap esz lo hi mx else none
 | .arr n sz,.ptr r i off=>z6g r i off n n sz lo hi mx
 | _,_=>none
def rFa(k:Nat):AV->Option AV
 | .ptr r i off=>some (.ptr r i (off+k))
 | .vp cs=>if k<=cs.length then some (.vp (cs.drop k))else none
 | _=>none
def rFld(ag:Bool)(n off:Nat):AV->Option AV
 | .agg cs=>z2w cs off n ag
 | _=>none
def z3l(n:Nat)(ag:Bool)(sz:Nat)(x ix:AV):Option AV:=
 match x,ix with
 | .agg cs,.int _ i=>if 0<=i/\ i<(n:Int)then z2w cs (i.toNat*sz) sz ag else none
 | _,_=>none
def z3m(x ix:AV):Option AV:=
 match x,ix with
 | .str s,.int _ i=>if 0<=i then(s[i.toNat]?).map fun b=> .int .u8 b.toNat else none
 | _,_=>none
def z1c:AV->Option AV
 | .nilsl=>some (.int .i64 0)
 | .vsl _ es _=>some (.int .i64 es.length)
 | .sl _ _ len _ _=>some (.int .i64 len)
 | .asl _ _ _ len _ _=>some (.int .i64 len)
 | _=>none
def rEq(bk:BK)(x y:AV):Option Bool:=
 match x,y with
 | .bool a,.bool b=>match bk with| .bool=>some (a==b)| _=>none
 | .nilp,.nilp=>match bk with| .ptr=>some true| _=>none
 | .ptr _ _ _,.nilp=>match bk with| .ptr=>some false| _=>none
 | .vp _,.nilp=>match bk with| .ptr=>some false| _=>none
 | .nilp,.ptr _ _ _=>match bk with| .ptr=>some false| _=>none
 | .nilp,.vp _=>match bk with| .ptr=>some false| _=>none
 | .nilsl,.nilsl=>match bk with| .slc=>some true| _=>none
 | .vsl _ _ _,.nilsl=>match bk with| .slc=>some false| _=>none
 | .sl _ _ _ _ _,.nilsl=>match bk with| .slc=>some false| _=>none
 | .asl _ _ _ _ _ _,.nilsl=>match bk with| .slc=>some false| _=>none
 | .nilfn,.nilfn=>match bk with| .fn=>some true| _=>none
 | .fn _ _,.nilfn=>match bk with| .fn=>some false| _=>none
 | .agg xs,.agg ys=>match bk with| .agg l=>if xs.map z1k=l.map some/\ ys.map z1k=l.map some then some (z1q xs ys)else none| _=>none
 | _,_=>none
def rBin(op:BinOp)(bk:BK)(x y:AV):Option AV:=
 match x,y with
 | .int k a,.int k' b=>match op with
  | .shl=>z1e .shl k a b
  | .shr=>z1e .shr k a b
  |op=>if k=k' then z14 op k a b else none
 | .str a,.str b=>z35 op a b
 |x,y=>(rEq bk x y).bind (eqOp op)
def z2z(c:CK)(O:Store)(x:AV):Option (AV × Store):=
 match c,x with
 | .int k,.int _ n=>some (.int k (k.wrap n),O)
 | .strId,.str s=>some (.str s,O)
 | .bytes,.str s=>some (.sl O.length 0 s.length none 1,O++ [some (zh s)])
 | .str,.int _ _=>none
 | .str,.str _=>none
 | .str,x=>(z22 O x).bind fun es=>(z2t es).map fun s=>(.str s,O)
 | _,_=>none
def rCopy(sz:Nat)(O:Store)(d s:AV):Option (AV × Store):=
 (z3q O sz s).bind fun ys=>
  match d with
  | .nilsl=>some (.int .i64 0,O)
  | .sl r off len _ esz=>match O[r]? with
   |some (some o)=>if esz=sz/\ off+len<=o.length then some (.int .i64 (min ys.length len:Nat),O.set r (some (o.take off++ys.take len++o.drop (off+min ys.length len))))else none
   | _=>none
  | .asl r i off len _ esz=>match O[r]? with
   |some (some o)=>(o[i]?).bind fun cs=>if esz=sz/\ off+len*esz<=cs.length then some (.int .i64 (min ys.length len:Nat),O.set r (some (o.set i (z19 cs off (ys.take len).flatten))))else none
   | _=>none
  | _=>none
def zdi(z:List AV)(O:Store):AV->Option (AV × Store)
 | .nilsl=>some (.tup [],O)
 | .sl r off len _ esz=>if len=0 then some (.tup [],O)else match O[r]? with
  |some (some o)=>if z.length=esz/\ off+len<=o.length then some (.tup [],O.set r (some (o.take off++List.replicate len z++o.drop (off+len))))else none
  | _=>none
 | _=>none
def AOp.run(Z:Env)(O:Store):AOp->Option (AV × Store)
 | .mv x=>some (x.ev Z,O)
 | .pick c a b=>match c.ev Z with| .bool t=>some (if t then a.ev Z else b.ev Z,O)| _=>none
 | .alloc z=>some (.ptr O.length 0 0,O++ [some [z]])
 | .allB=>some (aBld O)
 | .box x=>aBox O (x.ev Z)
 | .build z ps=>(z17 z (ps.map fun p=>(p.1,p.2.1,p.2.2.ev Z))).map fun c=>(.agg c,O)
 | .lit sz xs=>(z39 sz (xs.map (AX.ev Z))).map fun es=>(.vsl sz es true,O)
 | .load ag n x=>(z2v ag n O (x.ev Z)).map fun v=>(v,O)
 | .store n a x=>(z3o n O (a.ev Z) (x.ev Z)).map fun O'=>(.undef,O')
 | .nilc x=>match x.ev Z with
  | .ptr r i off=>some (.ptr r i off,O)
  | .vp cs=>some (.vp cs,O)
  | .fn f caps=>some (.fn f caps,O)
  | _=>none
 | .bin op bk x y=>(rBin op bk (x.ev Z) (y.ev Z)).map fun v=>(v,O)
 | .un op x=>(aUn op (x.ev Z)).map fun v=>(v,O)
 | .conv c x=>z2z c O (x.ev Z)
 | .mkfn f caps=>some (.fn f (caps.map (AX.ev Z)),O)
 | .make sz z l c=>z3n sz z O (l.ev Z) (c.ev Z)
 | .slice k x lo hi mx=>(z3a k O (x.ev Z) (lo.map (AX.ev Z)) (hi.map (AX.ev Z)) (mx.map (AX.ev Z))).map fun v=>(v,O)
 | .fa k x=>(rFa k (x.ev Z)).map fun v=>(v,O)
 | .fld ag n off x=>(rFld ag n off (x.ev Z)).map fun v=>(v,O)
 | .iaArr n sz x i=>(match i.ev Z with| .int _ k=>z9s n sz k (x.ev Z)| _=>none).map fun v=>(v,O)
 | .iaSl sz x i=>(match i.ev Z with| .int _ k=>z9t sz k (x.ev Z)| _=>none).map fun v=>(v,O)
 | .ixArr n ag sz x i=>(z3l n ag sz (x.ev Z) (i.ev Z)).map fun v=>(v,O)
 | .ixStr x i=>(z3m (x.ev Z) (i.ev Z)).map fun v=>(v,O)
 | .ext i x=>match x.ev Z with| .tup vs=>(vs[i]?).map fun v=>(v,O)| _=>none
 | .lenStr x=>match x.ev Z with| .str s=>some (.int .i64 s.length,O)| _=>none
 | .lenSl x=>(z1c (x.ev Z)).map fun v=>(v,O)
 | .lenArr n=>some (.int .i64 n,O)
 | .app sz s x=>(z3q O sz (x.ev Z)).bind fun ys=>aApp O sz (s.ev Z) ys
 | .appB s x=>(z3q O 1 (x.ev Z)).bind fun ys=>z2j O (s.ev Z) ys
 | .copy sz d s=>rCopy sz O (d.ev Z) (s.ev Z)
 | .clear z x=>zdi z O (x.ev Z)
 | .minmax mx x y=>(aMin mx (x.ev Z) (y.ev Z)).map fun v=>(v,O)
 | .capSl x=>(rCap (x.ev Z)).map fun v=>(v,O)
 | .appZ sz z s n=>zay sz z O (s.ev Z) (n.ev Z)
 | .call _ _=>none
 | .stuck=>none
structure AIns where
 dst:Option Nat
 guard:Option (Nat × Bool)
 need:Nd
 op:AOp
inductive ACode where
 |skip
 |reg (ops:List AIns)
 |reg2 (a b:List AIns)
 |seq (a b:ACode)
 |cond (c:AX) (a b:ACode)
 |block (id:Nat) (a:ACode)
 |loop (a:ACode)
 |exit (id:Nat)
 |ret
 |scope (a:ACode)
 |rangef (g:AX) (ps:List Nat) (a b:ACode)
 |stuck
inductive AExit where
 |normal
 |exit (id:Nat)
 |ret
def z1g(Z:Env):Option (Nat × Bool)->Option Bool
 |none=>some true
 |some g=>match Z g.1 with| .bool b=>some (b==g.2)| .undef=>some false| _=>none
/-! From a Go function's code. -/
def cX(C:Ctx):Operand->Option AX
 | .tmp t=>some (.t t)
 | .const v=>some (.v (ofV v))
 | .global g=>(C.gl g).map fun cs=> .v (.vp cs)
 | .func f=>some (.v (.fn f []))
def cXo(C:Ctx):Option Operand->Option (Option AX)
 |none=>some none
 |some x=>(cX C x).map some
theorem z1d{C:Ctx}{x:Operand}{a:AX}(h:cX C x=some a)(Z:Env):a.ev Z=ev C Z x:=by
 cases x<;>simp only [cX,Option.some.injEq,Option.map_eq_some_iff]at h
 ·subst h;rfl
 ·subst h;rfl
 ·obtain⟨cs,h1,rfl⟩:=h;simp [AX.ev,ev,h1]
 ·subst h;rfl
theorem z4d{C:Ctx}{x:Option Operand}{a:Option AX}(h:cXo C x=some a)(Z:Env):a.map (AX.ev Z)=x.map (ev C Z):=by
 cases x with
 |none=>simp only [cXo,Option.some.injEq]at h;subst h;rfl
 |some x=>
  simp only [cXo,Option.map_eq_some_iff]at h
  obtain⟨a,h1,rfl⟩:=h
  simp [z1d h1]
def cXs(C:Ctx):List Operand->Option (List AX)
 | []=>some []
 |x::l=>(cX C x).bind fun a=>(cXs C l).map (a:: ·)
theorem z71{C:Ctx}{l:List Operand}{as_:List AX}(h:cXs C l=some as_)(Z:Env):as_.map (AX.ev Z)=l.map (ev C Z):=by
 induction l generalizing as_ with
 |nil=>simp only [cXs,Option.some.injEq]at h;subst h;rfl
 |cons x l ih=>
  simp only [cXs,Option.bind_eq_some_iff,Option.map_eq_some_iff]at h
  obtain⟨a,h1,as',h2,rfl⟩:=h
  simp [z1d h1,ih h2]
def z6z(C:Ctx)(place:Nat->Option (Nat × Nat)):List (Nat × Operand)->Option (List (Nat × Nat × AX))
 | []=>some []
 |p::l=>(place p.1).bind fun x=>(cX C p.2).bind fun a=>(z6z C place l).map ((x.1,x.2,a):: ·)
theorem zc3{C:Ctx}{place:Nat->Option (Nat × Nat)}(Z:Env):∀{l:List (Nat × Operand)} {ps:List (Nat × Nat × AX)} (cells:List AV),z6z C place l=some ps->
  z5x place cells (l.map fun p=>(p.1,ev C Z p.2))=z17 cells (ps.map fun p=>(p.1,p.2.1,p.2.2.ev Z))
 | [],ps,cells,h=>by simp only [z6z,Option.some.injEq]at h;subst h;rfl
 |p::l,ps,cells,h=>by
  simp only [z6z,Option.bind_eq_some_iff,Option.map_eq_some_iff]at h
  obtain⟨x,hx,a,ha,ps',hps,rfl⟩:=h
  simp only [List.map_cons,z5x,hx,Option.bind_some,z17,z1d ha Z]
  cases cellsOf (ev C Z p.2)with
  |none=>rfl
  |some vs=>
   simp only [Option.bind_some]
   rw [zc3 Z (z19 cells x.1 vs) hps]
def z8g(C:Ctx):List (Nat × Operand)->Nat->Option (List AX)
 | [],_=>some []
 |p::l,k=>if p.1=k then(cX C p.2).bind fun a=>(z8g C l (k+1)).map (a:: ·)else none
theorem zfe{C:Ctx}{sz:Nat}(Z:Env):∀{l:List (Nat × Operand)} {k:Nat} {as_:List AX},z8g C l k=some as_->z6f sz (l.map fun p=>(p.1,ev C Z p.2)) k=z39 sz (as_.map (AX.ev Z))
 | [],k,as_,h=>by simp only [z8g,Option.some.injEq]at h;subst h;rfl
 |p::l,k,as_,h=>by
  simp only [z8g]at h
  split at h
  ·rename_i hk
   simp only [Option.bind_eq_some_iff,Option.map_eq_some_iff]at h
   obtain⟨a,ha,as',has,rfl⟩:=h
   simp only [List.map_cons,z6f,hk,if_true,z39,z1d ha Z,zfe Z has]
  ·cases h
def cBK(C:Ctx)(t:TypeId):BK:=
 if zbk C t then .bool else if z5r C t then .ptr else if (tySl C t).isSome then .slc else if z7t C t then .fn else
  if z1w C t=some true then(match z9f C t with|some l=> .agg l|none=> .none)else .none
theorem zl5{C:Ctx}{t:TypeId}:(cBK C t=.bool->zbk C t=true)/\ (cBK C t=.ptr->z5r C t=true)/\ (cBK C t=.slc->∃e,tySl C t=some e)/\ (cBK C t=.fn->z7t C t=true) ∧
  (∀l,cBK C t=.agg l->z9f C t=some l/\ z1w C t=some true):=by
 unfold cBK
 split
 ·exact⟨fun _=>by assumption,by simp,by simp,by simp,by simp⟩
 ·split
  ·exact⟨by simp,fun _=>by assumption,by simp,by simp,by simp⟩
  ·split
   ·rename_i h;exact⟨by simp,by simp,fun _=>Option.isSome_iff_exists.1 h,by simp,by simp⟩
   ·split
    ·exact⟨by simp,by simp,by simp,fun _=>by assumption,by simp⟩
    ·split
     ·rename_i hag
      split
      ·rename_i l hl
       exact⟨by simp,by simp,by simp,by simp,fun l' h'=>by cases h';exact⟨hl,hag⟩⟩
      ·exact⟨by simp,by simp,by simp,by simp,by simp⟩
     ·exact⟨by simp,by simp,by simp,by simp,by simp⟩
theorem cBK_ok{C:Ctx}{t:TypeId}{x y:AV}{b:Bool}(h:rEq (cBK C t) x y=some b):aEq C t x y=some b:=by
 obtain⟨s1,s2,s3,s4,s5⟩:=zl5 (C:=C) (t:=t)
 generalize cBK C t=bk at*
 have hsl:bk=.slc->∀c:Bool,((tySl C t).map fun _=>c)=some c:=fun e c=>by obtain⟨e',h'⟩:=s3 e;rw [h'];rfl
 unfold rEq at h
 split at h<;>simp only [aEq]<;>(try (cases bk<;>simp only [reduceCtorEq]at h))
 case h_1=>rw [if_pos (s1 rfl)];exact h
 case h_2=>rw [if_pos (s2 rfl)];exact h
 case h_3=>rw [if_pos (s2 rfl)];exact h
 case h_4=>rw [if_pos (s2 rfl)];exact h
 case h_5=>rw [if_pos (s2 rfl)];exact h
 case h_6=>rw [if_pos (s2 rfl)];exact h
 case h_7=>simp only [Option.some.injEq]at h;subst h;exact hsl rfl _
 case h_8=>simp only [Option.some.injEq]at h;subst h;exact hsl rfl _
 case h_9=>simp only [Option.some.injEq]at h;subst h;exact hsl rfl _
 case h_10=>simp only [Option.some.injEq]at h;subst h;exact hsl rfl _
 case h_11=>rw [if_pos (s4 rfl)];exact h
 case h_12=>rw [if_pos (s4 rfl)];exact h
 case h_13=>
  rename_i l
  obtain⟨k1,k2⟩:=s5 l rfl
  rw [k1]
  simp only [Option.bind_some]
  split at h
  ·rename_i hc
   rw [if_pos ⟨hc.1,hc.2,k2⟩];exact h
  ·cases h
def cOp(C:Ctx):Op->Option AOp
  | .move x=>(cX C x).map .mv
  | .assign x=>(cX C x).map .mv
  | .pick c a b=>(cX C c).bind fun c=>(cX C a).bind fun a=>(cX C b).map fun b=> .pick c a b
  | .alloc t=>(z2q C t).bind fun z=>if t=bldT then(if zcx z=true then some .allB else none)else(cellsOf z).map .alloc
  | .box _ x=>(cX C x).map .box
  | .build t ps=>(z2q C t).bind fun z=>(cellsOf z).bind fun zc=>match ze8 C t with
    |some pl=>(z6z C (pl[·]?) ps.toList).map (.build zc)
    |none=>(z3r C t).bind fun ne=>(z1a C ne.2).bind fun n=>(z6z C (fun i=>some (i*n,n)) ps.toList).map (.build zc)
  | .buildSlice t n ps=>(tySl C t).bind fun e=>(z1a C e).bind fun sz=>(z2q C e).bind fun _=>if ps.toList.length=n/\ n*sz<=16777216 then(z8g C ps.toList 0).map (.lit sz)else none
  | .load t x=>(z1w C t).bind fun ag=>(z1a C t).bind fun n=>(cX C x).map (.load ag n)
  | .store t a x=>(z1a C t).bind fun n=>(cX C a).bind fun a=>(cX C x).map (.store n a)
  | .nilCheck x=>(cX C x).map .nilc
  | .binOp op t x y _=>(cX C x).bind fun x=>(cX C y).map fun y=> .bin op (cBK C t) x y
  | .unOp op _ x=>(cX C x).map (.un op)
  | .convert s d x => (cX C x).bind fun x =>
      match z3t C s,z3t C d with
      |some _,some k=>some (.conv (.int k) x)
      | _, _ => if tyStr C d = true then (if z6b C s = true then some (.conv .str x) else if tyStr C s = true then some (.conv .strId x) else none)
          else if z6b C d=true/\ tyStr C s=true then some (.conv .bytes x)else none
  | .makeFunc (.func f) first captured=>if first.size=0 then(cXs C captured.toList).map (.mkfn f)else none
  | .makeSlice t l c => (tySl C t).bind fun e => (z1a C e).bind fun sz => (z3s C e).bind fun by_ => (z2q C e).bind fun z => (cellsOf z).bind fun zc => (cX C l).bind fun l => (cX C c).bind fun c =>
      if by_<=16384/\ zc.length=sz then some (.make sz zc l c)else none
  | .slice t x lo hi mx => (cX C x).bind fun x => (cXo C lo).bind fun lo => (cXo C hi).bind fun hi => (cXo C mx).bind fun mx =>
      if tyStr C t=true then some (.slice .str x lo hi mx)else match z3r C t with
        |some ne=>(z1a C ne.2).map fun sz=> .slice (.arr ne.1 sz) x lo hi mx
        |none=>(tySl C t).bind fun e=>(z1a C e).map fun sz=> .slice (.sl sz) x lo hi mx
  | .fieldAddr s x f=>(z9d C s f).bind fun k=>(cX C x).map (.fa k)
  | .field s x f=>(zeg C s f).bind fun y=>(z1w C y.1).bind fun ag=>(z1a C y.1).bind fun n=>(cX C x).map (.fld ag n y.2)
  | .indexAddr t x i=>(cX C x).bind fun x=>(cX C i).bind fun i=>match z3r C t with
    |some ne=>(z1a C ne.2).map fun sz=> .iaArr ne.1 sz x i
    |none=>(tySl C t).bind fun e=>(z1a C e).map fun sz=> .iaSl sz x i
  | .index t x i => (cX C x).bind fun x => (cX C i).bind fun i => if tyStr C t = true then some (.ixStr x i) else
      (z3r C t).bind fun ne=>(z1w C ne.2).bind fun ag=>(z1a C ne.2).map fun sz=> .ixArr ne.1 ag sz x i
  | .extract x i=>(cX C x).map (.ext i)
  | .call c=>match c.callee with
    | .value f=>(cX C f).bind fun f=>(cXs C c.args.toList).map (.call f)
    | .builtin b=>(cXs C c.args.toList).bind fun xs=>
      match b,c.argTypes.toList,xs with
      | .len,[t],[x]=>if tyStr C t=true then some (.lenStr x)else if (tySl C t).isSome=true then some (.lenSl x)else none
      | .append, [t, t'], [s, x] => (tySl C t).bind fun e => (z1a C e).bind fun sz => (z3s C e).bind fun by_ => (z2q C e).bind fun z => (cellsOf z).bind fun zc =>
          if (z3t C t').isSome=true then(if by_<=8192/\ zc.length=sz/\ 0<sz then some (.appZ sz zc s x)else none)else if by_<=8192/\ zc.length=sz/\ ((tySl C t').isSome ||tyStr C t')=true then some (if e=u8T/\ sz=1 then .appB s x else .app sz s x)else none
      | .cap,[t],[x]=>if (tySl C t).isSome=true then some (.capSl x)else none
      | .copy,[t,_],[d,s]=>(tySl C t).bind fun e=>(z1a C e).map fun sz=> .copy sz d s
      | .clear,[t],[x]=>(tySl C t).bind fun e=>(z2q C e).bind fun z=>(cellsOf z).map fun zc=> .clear zc x
      | .min,_,[x,y]=>some (.minmax false x y)
      | .max,_,[x,y]=>some (.minmax true x y)
      | _,_,_=>none
    | _=>none
  | _=>none
end
section
theorem zlg{C:Ctx}{op:Op}{a:AOp}(h:cOp C op=some a){Z:Env}{O:Store}{r:AV × Store}(hr:a.run Z O=some r):z1v op=none/\ z1j C (ev C Z) O op=some r:=by
 cases op<;>simp only [cOp,reduceCtorEq,Option.map_eq_some_iff,Option.bind_eq_some_iff]at h
 case move x=>obtain⟨a,ha,rfl⟩:=h;exact⟨rfl,by rw [<-hr];simp only [AOp.run,z1j,z1d ha]⟩
 case assign x=>obtain⟨a,ha,rfl⟩:=h;exact⟨rfl,by rw [<-hr];simp only [AOp.run,z1j,z1d ha]⟩
 case pick c x y=>
  obtain⟨c',hc,x',hx,y',hy,rfl⟩:=h
  refine⟨rfl,?_⟩
  rw [<-hr]
  simp only [AOp.run,z1j,z1d hc,z1d hx,z1d hy]
  rfl
 case alloc t=>
  obtain⟨z,hz,h⟩:=h
  refine⟨rfl,?_⟩
  split at h
  ·rename_i ht
   split at h
   ·rename_i hn
    simp only [Option.some.injEq]at h;subst h
    rw [<-hr]
    simp only [AOp.run,z1j,z84,hz,Option.bind_some,if_pos ht,if_pos hn]
   ·cases h
  ·rename_i ht
   simp only [Option.map_eq_some_iff]at h
   obtain⟨zc,hzc,rfl⟩:=h
   rw [<-hr]
   simp only [AOp.run,z1j,z84,hz,Option.bind_some,if_neg ht,aBox,hzc,Option.map_some]
 case box t x=>obtain⟨a,ha,rfl⟩:=h;exact⟨rfl,by rw [<-hr];simp only [AOp.run,z1j,z1d ha]⟩
 case build t ps=>
  obtain⟨z,hz,zc,hzc,h⟩:=h
  refine⟨rfl,?_⟩
  split at h
  ·rename_i pl hpl
   simp only [Option.map_eq_some_iff]at h
   obtain⟨q,hq,rfl⟩:=h
   rw [<-hr]
   simp only [AOp.run,z1j,z86,hz,Option.bind_some,hzc,hpl,zc3 Z zc hq,Option.map_map]
   rfl
  ·rename_i hpl
   simp only [Option.bind_eq_some_iff,Option.map_eq_some_iff]at h
   obtain⟨ne,hne,n,hn,q,hq,rfl⟩:=h
   rw [<-hr]
   simp only [AOp.run,z1j,z86,hz,Option.bind_some,hzc,hpl,hne,hn,zc3 Z zc hq,Option.map_map]
   rfl
 case buildSlice t n ps=>
  obtain⟨e,he,sz,hsz,z,hz,h⟩:=h
  refine⟨rfl,?_⟩
  split at h
  ·rename_i hc
   simp only [Option.map_eq_some_iff]at h
   obtain⟨q,hq,rfl⟩:=h
   rw [<-hr]
   have hc':(ps.toList.map fun p=>(p.1,ev C Z p.2)).length=n/\ n*sz<=16777216:=by rw [List.length_map];exact hc
   simp only [AOp.run,z1j,z9n,he,hsz,hz,Option.bind_some,if_pos hc',zfe Z hq,Option.map_map]
   rfl
  ·cases h
 case load t x=>
  obtain⟨ag,hag,n,hn,a,ha,rfl⟩:=h
  refine⟨rfl,?_⟩
  rw [<-hr]
  simp only [AOp.run,z1j,z1d ha]
  congr 1
  generalize ev C Z x=p
  cases p<;>simp only [z6w,z2v,hag,hn,Option.bind_some]
  rfl
 case store t p x=>
  obtain⟨n,hn,p',hp,x',hx,rfl⟩:=h
  refine⟨rfl,?_⟩
  rw [<-hr]
  simp only [AOp.run,z1j,z1d hp,z1d hx,z9y,z3o,hn,Option.bind_some]
  rfl
 case nilCheck x=>obtain⟨a,ha,rfl⟩:=h;exact⟨rfl,by rw [<-hr];simp only [AOp.run,z1j,z1d ha];rfl⟩
 case binOp bop t x y yt=>
  obtain⟨x',hx,y',hy,rfl⟩:=h
  refine⟨rfl,?_⟩
  simp only [AOp.run,Option.map_eq_some_iff]at hr
  obtain⟨v,hv,rfl⟩:=hr
  simp only [z1j,Option.map_eq_some_iff]
  refine⟨v,?_,rfl⟩
  rw [z1d hx,z1d hy]at hv
  generalize ev C Z x=p at*
  generalize ev C Z y=q at*
  have hq:∀{p q:AV},(rEq (cBK C t) p q).bind (eqOp bop)=some v->(aEq C t p q).bind (eqOp bop)=some v:=by
   intro p q h
   simp only [Option.bind_eq_some_iff]at h ⊢
   obtain⟨b,hb,h⟩:=h
   exact⟨b,cBK_ok hb,h⟩
  cases p<;>first|exact hq hv|(cases q<;>first|exact hq hv|(cases bop<;>exact hv)|exact hv)
 case unOp uop t x=>obtain⟨a,ha,rfl⟩:=h;exact⟨rfl,by rw [<-hr];simp only [AOp.run,z1j,z1d ha]⟩
 case convert s d x=>
  obtain⟨x',hx,h⟩:=h
  refine⟨rfl,?_⟩
  simp only [z1j]
  split at h
  ·rename_i k0 k h1 h2
   simp only [Option.some.injEq]at h;subst h
   simp only [AOp.run,z1d hx]at hr
   generalize ev C Z x=p at*
   cases p<;>simp only [z2z,reduceCtorEq]at hr
   simp only [z5w,h1,h2,Option.bind_some,Option.map_some];exact hr
  ·split at h
   ·rename_i hst
    split at h
    ·rename_i hu
     simp only [Option.some.injEq]at h;subst h
     simp only [AOp.run,z1d hx]at hr
     generalize ev C Z x=p at*
     unfold z2z at hr
     unfold z5w
     cases p<;>simp only [reduceCtorEq]at hr ⊢ <;>(simp only [hst,hu,and_self,if_true];exact hr)
    ·split at h
     ·rename_i hs
      simp only [Option.some.injEq]at h;subst h
      simp only [AOp.run,z1d hx]at hr
      generalize ev C Z x=p at*
      cases p<;>simp only [z2z,reduceCtorEq]at hr
      simp only [z5w,hst,z5s hs,Option.isSome_some,and_self,if_true];exact hr
     ·cases h
   ·rename_i hst
    split at h
    ·rename_i hc
     simp only [Option.some.injEq]at h;subst h
     simp only [AOp.run,z1d hx]at hr
     generalize ev C Z x=p at*
     cases p<;>simp only [z2z,reduceCtorEq]at hr
     simp only [z5w,hst,hc.1,z5s hc.2,Option.isSome_some,and_true,Bool.false_eq_true,if_false,if_true];exact hr
    ·cases h
 case makeFunc fn first captured=>
  cases fn<;>simp only [reduceCtorEq]at h
  split at h
  ·rename_i hz
   simp only [Option.map_eq_some_iff]at h
   obtain⟨q,hq,rfl⟩:=h
   refine⟨rfl,?_⟩
   rw [<-hr]
   simp only [AOp.run,z1j,hz,if_true,z71 hq]
  ·cases h
 case makeSlice t l c=>
  obtain⟨e,he,sz,hsz,by_,hby,z,hz,zc,hzc,l',hl,c',hc,h⟩:=h
  refine⟨rfl,?_⟩
  split at h
  ·rename_i hcond
   simp only [Option.some.injEq]at h;subst h
   simp only [AOp.run,z1d hl,z1d hc]at hr
   simp only [z1j]
   generalize ev C Z l=p at*
   generalize ev C Z c=q at*
   cases p<;>simp only [z3n,reduceCtorEq]at hr
   cases q<;>simp only [reduceCtorEq]at hr
   split at hr
   ·rename_i hx
    simp only [z9u,he,hsz,hby,hz,hzc,Option.bind_some]
    rw [if_pos ⟨hx.1,hx.2.1,hx.2.2,hcond.1,hcond.2⟩];exact hr
   ·cases hr
  ·cases h
 case slice t x lo hi mx=>
  obtain⟨x',hx,lo',hlo,hi',hhi,mx',hmx,h⟩:=h
  refine⟨rfl,?_⟩
  simp only [z1j]
  split at h
  ·rename_i hst
   simp only [Option.some.injEq]at h;subst h
   simp only [AOp.run,z1d hx,z4d hlo,z4d hhi,z4d hmx,Option.map_eq_some_iff]at hr
   obtain⟨v,hv,rfl⟩:=hr
   generalize ev C Z x=p at*
   cases p<;>simp only [z3a,reduceCtorEq]at hv
   simp only [z6x,hst,if_true,hv,Option.map_some]
  ·split at h
   ·rename_i ne hne
    simp only [Option.map_eq_some_iff]at h
    obtain⟨sz,hsz,rfl⟩:=h
    simp only [AOp.run,z1d hx,z4d hlo,z4d hhi,z4d hmx,Option.map_eq_some_iff]at hr
    obtain⟨v,hv,rfl⟩:=hr
    generalize ev C Z x=p at*
    cases p<;>simp only [z3a,reduceCtorEq]at hv
    simp only [z6x,hne,hsz,Option.bind_some,hv,Option.map_some]
   ·simp only [Option.bind_eq_some_iff,Option.map_eq_some_iff]at h
    obtain⟨e,he,sz,hsz,rfl⟩:=h
    simp only [AOp.run,z1d hx,z4d hlo,z4d hhi,z4d hmx,Option.map_eq_some_iff]at hr
    obtain⟨v,hv,rfl⟩:=hr
    generalize ev C Z x=p at*
    cases p<;>simp only [z3a,reduceCtorEq]at hv<;>simp only [z6x,he,hsz,Option.bind_some,hv,Option.map_some]
 case fieldAddr s x f=>
  obtain⟨k,hk,x',hx,rfl⟩:=h
  refine⟨rfl,?_⟩
  simp only [AOp.run,z1d hx,Option.map_eq_some_iff]at hr
  obtain⟨v,hv,rfl⟩:=hr
  simp only [z1j]
  generalize ev C Z x=p at*
  cases p<;>simp only [rFa,reduceCtorEq]at hv<;>simp only [z9r,hk,Option.map_some,Option.bind_some]
  ·simp only [Option.some.injEq]at hv;subst hv;rfl
  ·rw [hv];rfl
 case field s x f=>
  obtain⟨y,hy,ag,hag,n,hn,x',hx,rfl⟩:=h
  refine⟨rfl,?_⟩
  simp only [AOp.run,z1d hx,Option.map_eq_some_iff]at hr
  obtain⟨v,hv,rfl⟩:=hr
  simp only [z1j]
  generalize ev C Z x=p at*
  cases p<;>simp only [rFld,reduceCtorEq]at hv
  simp only [z9q,hy,hag,hn,Option.bind_some,hv,Option.map_some]
 case indexAddr t x i=>
  obtain⟨x',hx,i',hi,h⟩:=h
  refine⟨rfl,?_⟩
  simp only [z1j]
  split at h
  ·rename_i ne hne
   simp only [Option.map_eq_some_iff]at h
   obtain⟨sz,hsz,rfl⟩:=h
   simp only [AOp.run,z1d hx,z1d hi]at hr
   rw [<-hr]
   congr 1
   generalize ev C Z i=q
   cases q<;>simp only [z88,hne,hsz,Option.bind_some]
  ·rename_i hne
   simp only [Option.bind_eq_some_iff,Option.map_eq_some_iff]at h
   obtain⟨e,he,sz,hsz,rfl⟩:=h
   simp only [AOp.run,z1d hx,z1d hi]at hr
   rw [<-hr]
   congr 1
   generalize ev C Z i=q
   cases q<;>simp only [z88,hne,he,hsz,Option.bind_some]
 case index t x i=>
  obtain⟨x',hx,i',hi,h⟩:=h
  refine⟨rfl,?_⟩
  simp only [z1j]
  split at h
  ·rename_i hst
   simp only [Option.some.injEq]at h;subst h
   simp only [AOp.run,z1d hx,z1d hi,Option.map_eq_some_iff]at hr
   obtain⟨v,hv,rfl⟩:=hr
   generalize ev C Z x=p at*
   generalize ev C Z i=q at*
   cases p<;>simp only [z3m,reduceCtorEq]at hv
   cases q<;>simp only [reduceCtorEq]at hv
   simp only [z87,hst,if_true,hv,Option.map_some]
  ·simp only [Option.bind_eq_some_iff,Option.map_eq_some_iff]at h
   obtain⟨ne,hne,ag,hag,sz,hsz,rfl⟩:=h
   simp only [AOp.run,z1d hx,z1d hi,Option.map_eq_some_iff]at hr
   obtain⟨v,hv,rfl⟩:=hr
   generalize ev C Z x=p at*
   generalize ev C Z i=q at*
   cases p<;>simp only [z3l,reduceCtorEq]at hv
   cases q<;>simp only [reduceCtorEq]at hv
   simp only [z87,hne,hag,hsz,Option.bind_some]
   split at hv
   ·rename_i hin
    rw [if_pos hin,hv,Option.map_some]
   ·cases hv
 case extract x i=>obtain⟨a,ha,rfl⟩:=h;exact⟨rfl,by rw [<-hr];simp only [AOp.run,z1j,z1d ha];rfl⟩
 case call c=>
  obtain⟨callee,cargs,ats⟩:=c
  cases callee<;>simp only [reduceCtorEq,Option.bind_eq_some_iff,Option.map_eq_some_iff]at h
  ·obtain⟨f,hf,xs,hxs,rfl⟩:=h
   simp [AOp.run]at hr
  ·rename_i b
   obtain⟨xs,hxs,h⟩:=h
   refine⟨rfl,?_⟩
   simp only [z1j]
   have hm:=z71 hxs Z
   rw [<-hm]
   split at h
   ·rename_i t x hat
    split at h
    ·rename_i hst
     simp only [Option.some.injEq]at h;subst h
     simp only [AOp.run]at hr
     simp only [List.map_cons,List.map_nil,hat,z2y]
     generalize x.ev Z=p at*
     cases p<;>simp only [reduceCtorEq]at hr
     simp only [aLen,hst,if_true,Option.map_some];exact hr
    ·split at h
     ·rename_i hsl
      obtain⟨e,he⟩:=Option.isSome_iff_exists.1 hsl
      simp only [Option.some.injEq]at h;subst h
      simp only [AOp.run,Option.map_eq_some_iff]at hr
      obtain⟨v,hv,rfl⟩:=hr
      simp only [List.map_cons,List.map_nil,hat,z2y]
      generalize x.ev Z=p at*
      cases p<;>simp only [z1c,reduceCtorEq]at hv<;>simp only [aLen,he,Option.map_some,hv]
     ·cases h
   ·rename_i t t' s x hat
    simp only [Option.bind_eq_some_iff]at h
    obtain⟨e,he,sz,hsz,by_,hby,z,hz,zc,hzc,h⟩:=h
    split at h
    ·rename_i hint
     split at h
     ·rename_i hcond
      simp only [Option.some.injEq]at h
      subst h
      simp only [AOp.run]at hr
      simp only [List.map_cons,List.map_nil,hat,z2y]
      rw [if_pos hint]
      simp only [z9m,he,hsz,hby,hz,hzc,Option.bind_some]
      rw [if_pos ⟨hcond.1,hcond.2.1,hcond.2.2,hint⟩];exact hr
     ·cases h
    rename_i hint
    split at h
    ·rename_i hcond
     simp only [Option.some.injEq]at h
     by_cases hB:e=u8T/\ sz=1
     ·rw [if_pos hB]at h
      subst h
      obtain⟨_,rfl⟩:=id hB
      simp only [AOp.run,Option.bind_eq_some_iff]at hr
      obtain⟨ys,hys,hr⟩:=hr
      simp only [List.map_cons,List.map_nil,hat,z2y]
      rw [if_neg hint]
      simp only [z85,he,hsz,hby,hz,hzc,hys,Option.bind_some]
      rw [if_pos hcond,if_pos ⟨hB.1,trivial⟩];exact hr
     ·rw [if_neg hB]at h
      subst h
      simp only [AOp.run,Option.bind_eq_some_iff]at hr
      obtain⟨ys,hys,hr⟩:=hr
      simp only [List.map_cons,List.map_nil,hat,z2y]
      rw [if_neg hint]
      simp only [z85,he,hsz,hby,hz,hzc,hys,Option.bind_some]
      rw [if_pos hcond,if_neg hB];exact hr
    ·cases h
   ·rename_i t x hat
    split at h
    ·rename_i hsl
     obtain⟨e,he⟩:=Option.isSome_iff_exists.1 hsl
     simp only [Option.some.injEq]at h;subst h
     simp only [AOp.run]at hr
     simp only [List.map_cons,List.map_nil,hat,z2y,aCap,he,Option.bind_some]
     exact hr
    ·cases h
   ·rename_i t t' d s hat
    simp only [Option.bind_eq_some_iff,Option.map_eq_some_iff]at h
    obtain⟨e,he,sz,hsz,rfl⟩:=h
    simp only [AOp.run]at hr
    simp only [List.map_cons,List.map_nil,hat,z2y,z9p,he,hsz,Option.bind_some]
    exact hr
   ·rename_i t x hat
    simp only [Option.bind_eq_some_iff,Option.map_eq_some_iff]at h
    obtain⟨e,he,z,hz,zc,hzc,rfl⟩:=h
    simp only [AOp.run]at hr
    simp only [List.map_cons,List.map_nil,hat,z2y,z9o,he,Option.bind_some]
    generalize x.ev Z=p at*
    cases p<;>simp only [zdi,reduceCtorEq]at hr
    ·exact hr
    ·simp only [hz,hzc,Option.bind_some];exact hr
   ·simp only [Option.some.injEq]at h;subst h
    simp only [AOp.run]at hr
    simp only [List.map_cons,List.map_nil,z2y];exact hr
   ·simp only [Option.some.injEq]at h;subst h
    simp only [AOp.run]at hr
    simp only [List.map_cons,List.map_nil,z2y];exact hr
   ·cases h
end
section
/-! A list of operations: what must hold ahead of it. -/
def AOp.isCall:AOp->Bool
 | .call _ _=>true
 | _=>false
def z2m(n:Nd)(H:Hist)(O O':Store):Prop:=match n with
 | .no=>True
 | .same=>O'=O
 | .rd=>False
 | .ef=>H.rds O'
 | _=>False
def z40(n:Nd)(H:Hist)(O:Store):Hist:=match n with
 | .ef=>⟨fun s=>H.pre s \/s=O,H.rds,H.rd2⟩
 | _=>H
def callW(C:Ctx)(K:Hist->Env->Store->Prop)(H:Hist)(Z:Env)(d:Option Nat)(need:Nd)(O:Store)(f:AV)(xs:List AV):Prop:=
  match f with
  | .fn fid caps => (∃ v O', ACallsTo C fid (xs ++ caps) O v O' /\ z2m need H O O' /\ K (z40 need H O) (putE Z d v) O') ∨
      ((need=.no \/need=.ef)/\ ∃P:AV->Store->Prop,ACallsP C fid (xs++caps) O P/\ (∃v O',P v O')/\ ∀v O',P v O'->z2m need H O O'/\ K (z40 need H O) (putE Z d v) O') ∨
      (need=.pu/\ ∃v,(∀h,ACallsTo C fid (xs++caps) h v h)/\ K H (putE Z d v) O) ∨
      (need=.pu/\ ∃v,ACallsTo C fid (xs++caps) O v O/\ (∀h,H.pre h->ACallsTo C fid (xs++caps) h v h)/\ K ⟨H.pre,fun s=>H.rds s/\ ACallsTo C fid (xs++caps) s v s,H.rd2⟩ (putE Z d v) O)
  | _=>False
def z2g(K:Env->Store->Prop)(O:Store):Bool->Option (Env × Store)->Prop
 |false,some r=>K r.1 r.2
 |true,some r=>r.2=O/\ K r.1 r.2
 | _,none=>False
def z2l(i:AIns)(Z:Env)(O:Store):Option (Env × Store):=
 match z1g Z i.guard with
 |some true=>(i.op.run Z O).map fun r=>(putE Z i.dst r.1,r.2)
 |some false=>some (putE Z i.dst .undef,O)
 |none=>none
def rdC(K:Hist->Env->Store->Prop)(H:Hist)(d:Option Nat)(op:AOp)(Z:Env)(O:Store):Option (AV × Store)->Prop
 |some r=>r.2=O/\ (∀h,H.pre h->op.run Z h=some (r.1,h))/\ K ⟨H.pre,fun s=>H.rds s/\ op.run Z s=some (r.1,s),H.rd2⟩ (putE Z d r.1) O
 |none=>False
def rd2C(K:Hist->Env->Store->Prop)(H:Hist)(d:Option Nat)(op:AOp)(Z:Env)(O:Store):Option (AV × Store)->Prop
 |some r=>r.2=O/\ (∀h,H.pre h->op.run Z h=some (r.1,h))/\ K ⟨H.pre,fun s=>H.rds s/\ op.run Z s=some (r.1,s),fun s=>H.rd2 s/\ op.run Z s=some (r.1,s)⟩ (putE Z d r.1) O
 |none=>False
def rd2W(K:Hist->Env->Store->Prop)(H:Hist)(d:Option Nat)(op:AOp)(Z:Env)(O:Store):Option Bool->Prop
 |some true=>rd2C K H d op Z O (op.run Z O)
 |some false=>K H (putE Z d .undef) O
 |none=>False
def ef2C(K:Hist->Env->Store->Prop)(H:Hist)(d:Option Nat)(Z:Env)(O:Store):Option (AV × Store)->Prop
 |some r=>H.rd2 r.2/\ K ⟨fun s=>H.pre s \/s=O,H.rds,H.rd2⟩ (putE Z d r.1) r.2
 |none=>False
def ef2W(K:Hist->Env->Store->Prop)(H:Hist)(d:Option Nat)(op:AOp)(Z:Env)(O:Store):Option Bool->Prop
 |some true=>ef2C K H d Z O (op.run Z O)
 |some false=>K H (putE Z d .undef) O
 |none=>False
def rdW(K:Hist->Env->Store->Prop)(H:Hist)(d:Option Nat)(op:AOp)(Z:Env)(O:Store):Option Bool->Prop
 |some true=>rdC K H d op Z O (op.run Z O)
 |some false=>K H (putE Z d .undef) O
 |none=>False
def efC(K:Hist->Env->Store->Prop)(H:Hist)(d:Option Nat)(Z:Env)(O:Store):Option (AV × Store)->Prop
 |some r=>H.rds r.2/\ K ⟨fun s=>H.pre s \/s=O,H.rds,H.rd2⟩ (putE Z d r.1) r.2
 |none=>False
def efW(K:Hist->Env->Store->Prop)(H:Hist)(d:Option Nat)(op:AOp)(Z:Env)(O:Store):Option Bool->Prop
 |some true=>efC K H d Z O (op.run Z O)
 |some false=>K H (putE Z d .undef) O
 |none=>False
def Hist.same(O:Store):Hist:=⟨fun s=>s=O,fun s=>s=O,fun s=>s=O⟩
def rdS(K:Hist->Env->Store->Prop)(d:Option Nat)(Z:Env)(O:Store):Option (AV × Store)->Prop
 |some r=>r.2=O/\ K (Hist.same O) (putE Z d r.1) O
 |none=>False
theorem zqq{K:Hist->Env->Store->Prop}{d:Option Nat}{op:AOp}{Z:Env}{O:Store}:rdW K (Hist.same O) d op Z O (some true)=rdS K d Z O (op.run Z O):=by
 simp only [rdW]
 cases hr:op.run Z O with
 |none=>rfl
 |some r=>
  obtain⟨v,s⟩:=r
  simp only [rdC,rdS,Hist.same,eq_iff_iff]
  constructor
  ·rintro⟨rfl,h1,h2⟩
   refine⟨rfl,?_⟩
   have e:(fun t=>t=s/\ op.run Z t=some (v,t))=fun t=>t=s:=funext fun t=>propext ⟨fun h=>h.1,fun h=>⟨h,by rw [h];exact hr⟩⟩
   rw [e]at h2;exact h2
  ·rintro⟨rfl,h2⟩
   refine⟨rfl,fun h hh=>by rw [hh];exact hr,?_⟩
   have e:(fun t=>t=s/\ op.run Z t=some (v,t))=fun t=>t=s:=funext fun t=>propext ⟨fun h=>h.1,fun h=>⟨h,by rw [h];exact hr⟩⟩
   rw [e];exact h2
theorem zlz{K:Hist->Env->Store->Prop}{d:Option Nat}{op:AOp}{Z:Env}{O:Store}:efW K (Hist.same O) d op Z O (some true)=rdS K d Z O (op.run Z O):=by
 simp only [efW]
 cases hr:op.run Z O with
 |none=>rfl
 |some r=>
  obtain⟨v,s⟩:=r
  simp only [efC,rdS,Hist.same,eq_iff_iff]
  have e:(fun t=>t=O \/t=O)=fun t=>t=O:=funext fun t=>propext ⟨fun h=>h.elim id id,Or.inl⟩
  rw [e]
  constructor
  ·rintro⟨rfl,h2⟩;exact⟨rfl,h2⟩
  ·rintro⟨rfl,h2⟩;exact⟨rfl,h2⟩
theorem zoo{O O':Store}:z2m .ef (Hist.same O) O O'=(O'=O):=rfl
theorem zoq{O:Store}:z40 .ef (Hist.same O) O=Hist.same O:=by
 have e:(fun t=>t=O \/t=O)=fun t=>t=O:=funext fun t=>propext ⟨fun h=>h.elim id id,Or.inl⟩
 simp only [z40,Hist.same,e]
def zw(K:Hist->Env->Store->Prop)(H:Hist)(i:AIns)(Z:Env)(O:Store):Prop:=
 match i.need with
 | .no=>z2g (K H) O false (z2l i Z O)
 | .same=>z2g (K H) O true (z2l i Z O)
 | .rd=>rdW K H i.dst i.op Z O (z1g Z i.guard)
 | .ef=>efW K H i.dst i.op Z O (z1g Z i.guard)
 | .pu=>False
 | .rd2=>rd2W K H i.dst i.op Z O (z1g Z i.guard)
 | .ef2=>ef2W K H i.dst i.op Z O (z1g Z i.guard)
def z25(C:Ctx)(K:Hist->Env->Store->Prop)(H:Hist)(Z:Env)(O:Store)(d:Option Nat)(need:Nd)(f:AX)(xs:List AX):Option Bool->Prop
 |some true=>callW C K H Z d need O (f.ev Z) (xs.map (AX.ev Z))
 |some false=>K H (putE Z d .undef) O
 |none=>False
def zn(C:Ctx)(K:Env->Store->Prop):List AIns->Hist->Env->Store->Prop
 | [],_,Z,O=>K Z O
 |i::l,H,Z,O=>match i.op with
  | .call f xs=>z25 C (zn C K l) H Z O i.dst i.need f xs (z1g Z i.guard)
  | _=>zw (zn C K l) H i Z O
def ze9(C:Ctx)(F:Hist->Env->Store->Prop)(i:AIns)(H:Hist)(Z:Env)(O:Store):Prop:=match i.op with
 | .call f xs=>z25 C F H Z O i.dst i.need f xs (z1g Z i.guard)
 | _=>zw F H i Z O
theorem zsj{C:Ctx}{F:Hist->Env->Store->Prop}{H:Hist}{Z:Env}{O:Store}{d:Option Nat}{g:Option (Nat × Bool)}{n:Nd}{op:AOp}(h:op.isCall=false):
  ze9 C F ⟨d,g,n,op⟩ H Z O=zw F H ⟨d,g,n,op⟩ Z O:=by
 cases op<;>first|rfl|simp [AOp.isCall]at h
theorem zsi{C:Ctx}{F:Hist->Env->Store->Prop}{H:Hist}{Z:Env}{O:Store}{d:Option Nat}{g:Option (Nat × Bool)}{n:Nd}{f:AX}{xs:List AX}:
  ze9 C F ⟨d,g,n,.call f xs⟩ H Z O=z25 C F H Z O d n f xs (z1g Z g):=rfl
def z11(C:Ctx)(K:Env->Store->Prop)(l m:List AIns):List AIns->Hist->Env->Store->Prop
 | [],H,Z,O=>zn C K l H Z O/\ zn C K m H Z O
 |i::a,H,Z,O=>match i.op with
  | .call f xs=>z25 C (z11 C K l m a) H Z O i.dst i.need f xs (z1g Z i.guard)
  | _=>zw (z11 C K l m a) H i Z O
theorem z4o{C:Ctx}{K:Env->Store->Prop}{H:Hist}{Z:Env}{O:Store}:zn C K [] H Z O=K Z O:=rfl
theorem z4n{C:Ctx}{K:Env->Store->Prop}{H:Hist}{Z:Env}{O:Store}{d:Option Nat}{g:Option (Nat × Bool)}{n:Nd}{f:AX}{xs:List AX}{l:List AIns}:
  zn C K (⟨d,g,n,.call f xs⟩::l) H Z O=z25 C (zn C K l) H Z O d n f xs (z1g Z g):=rfl
section
variable {C:Ctx} {K:Hist->Env->Store->Prop} {H:Hist} {Z:Env} {d:Option Nat} {O O':Store} {fid:FuncId} {caps xs:List AV} {v:AV}
theorem callW.mk(h:ACallsTo C fid (xs++caps) O v O')(hk:K H (putE Z d v) O'):callW C K H Z d .no O (.fn fid caps) xs:=.inl ⟨v,O',h,trivial,hk⟩
theorem callW.zp(h:ACallsTo C fid (xs++caps) O v O)(hk:K H (putE Z d v) O):callW C K H Z d .no O (.fn fid caps) xs:=.inl ⟨v,O,h,trivial,hk⟩
theorem callW.za{nd:Nd}(h:ACallsTo C fid (xs++caps) O v O')(hn:z2m nd H O O')(hk:K (z40 nd H O) (putE Z d v) O'):callW C K H Z d nd O (.fn fid caps) xs:=.inl ⟨v,O',h,hn,hk⟩
theorem callW.mkP{P:AV->Store->Prop}(h:ACallsP C fid (xs++caps) O P)(hne:∃v O',P v O')(hk:∀v O',P v O'->K H (putE Z d v) O'):callW C K H Z d .no O (.fn fid caps) xs:=
 .inr (.inl ⟨.inl rfl,P,h,hne,fun v O' hp=>⟨trivial,hk v O' hp⟩⟩)
theorem callW.mk_pu(h:∀h,ACallsTo C fid (xs++caps) h v h)(hk:K H (putE Z d v) O):callW C K H Z d .pu O (.fn fid caps) xs:=.inr (.inr (.inl ⟨rfl,v,h,hk⟩))
end
theorem zlf{C:Ctx}{op:Op}{f:AX}{xs:List AX}(h:cOp C op=some (.call f xs)):∃fo args,z1v op=some (fo,args)/\ cX C fo=some f/\ cXs C args.toList=some xs:=by
 cases op
 case call c=>
  obtain⟨callee,cargs,ats⟩:=c
  cases callee
  case value=>
   simp only [cOp,Option.bind_eq_some_iff,Option.map_eq_some_iff,AOp.call.injEq]at h
   obtain⟨f',hf,xs',hxs,rfl,rfl⟩:=h
   exact⟨_,_,rfl,hf,hxs⟩
  case invoke=>simp [cOp]at h
  case builtin b=>
   simp only [cOp,Option.bind_eq_some_iff]at h
   obtain⟨ys,hys,h⟩:=h
   exfalso
   split at h
   ·split at h<;>(try split at h)<;>simp at h
   ·simp only [Option.bind_eq_some_iff]at h
    obtain⟨e,he,sz,hsz,by_,hby,z,hz,zc,hzc,h⟩:=h
    split at h
    ·split at h<;>simp at h
    split at h
    ·by_cases hB:e=u8T/\ sz=1
     ·rw [if_pos hB]at h;simp at h
     ·rw [if_neg hB]at h;simp at h
    ·simp at h
   ·split at h<;>simp at h
   ·simp [Option.bind_eq_some_iff]at h
   ·simp [Option.bind_eq_some_iff]at h
   ·simp at h
   ·simp at h
   ·cases h
 case makeFunc fn first captured=>
  cases fn<;>simp only [cOp,reduceCtorEq]at h
  split at h<;>simp at h
 case build t ps=>
  simp only [cOp,Option.bind_eq_some_iff]at h
  obtain⟨z,hz,zc,hzc,h⟩:=h
  exfalso
  split at h<;>simp [Option.bind_eq_some_iff]at h
 case alloc t=>
  simp only [cOp,Option.bind_eq_some_iff]at h
  obtain⟨z,hz,h⟩:=h
  exfalso
  split at h
  ·split at h<;>simp at h
  ·simp at h
 case buildSlice t n ps=>
  simp only [cOp,Option.bind_eq_some_iff]at h
  obtain⟨e,he,sz,hsz,z,hz,h⟩:=h
  exfalso
  split at h<;>simp at h
 case convert s d x=>
  simp only [cOp,Option.bind_eq_some_iff]at h
  obtain⟨a,ha,h⟩:=h
  exfalso
  split at h
  ·simp at h
  ·split at h
   ·split at h
    ·simp at h
    ·split at h<;>simp at h
   ·split at h<;>simp at h
 case makeSlice t l c=>
  simp only [cOp,Option.bind_eq_some_iff]at h
  obtain⟨e,he,sz,hsz,by_,hby,z,hz,zc,hzc,l',hl,c',hc,h⟩:=h
  exfalso
  split at h<;>simp at h
 case slice t x lo hi mx=>
  simp only [cOp,Option.bind_eq_some_iff]at h
  obtain⟨x',hx,lo',hlo,hi',hhi,mx',hmx,h⟩:=h
  exfalso
  split at h
  ·simp at h
  ·split at h<;>simp [Option.bind_eq_some_iff]at h
 case indexAddr t x i=>
  simp only [cOp,Option.bind_eq_some_iff]at h
  obtain⟨x',hx,i',hi,h⟩:=h
  exfalso
  split at h<;>simp [Option.bind_eq_some_iff]at h
 case index t x i=>
  simp only [cOp,Option.bind_eq_some_iff]at h
  obtain⟨x',hx,i',hi,h⟩:=h
  exfalso
  split at h<;>simp [Option.bind_eq_some_iff]at h
 all_goals simp [cOp,Option.bind_eq_some_iff,Option.map_eq_some_iff]at h
/-! Operations of a region. -/
def za7(ops:Array Oper):Option (Nat × Bool)->Option (Option (Nat × Bool))
 |none=>some none
 |some g=>match (ops[g.1]?).bind (·.dst)with
  |some d=>some (some (d,g.2))
  |none=>none
theorem zld{ops:Array Oper}{o:Oper}{g:Option (Nat × Bool)}(h:za7 ops o.guard=some g)(Z:Env):z2x ops Z o=z1g Z g:=by
 unfold z2x
 cases hg:o.guard with
 |none=>rw [hg]at h;simp only [za7,Option.some.injEq]at h;subst h;rfl
 |some k=>
  rw [hg]at h
  simp only [za7]at h
  split at h
  ·rename_i d hd
   simp only [Option.some.injEq]at h;subst h
   simp only [hd,z1g]<;>rfl
  ·cases h
def cIns(C:Ctx)(ops:Array Oper)(need:Nd)(o:Oper):Option AIns:=
 (za7 ops o.guard).map fun g=>⟨o.dst,g,need,(cOp C o.op).getD .stuck⟩
def HR(H H':Hist):Prop:=(∀s,H'.pre s->H.pre s)/\ (∀s,H.rds s->H'.rds s)/\ ∀s,H.rd2 s->H'.rd2 s
theorem zle{C:Ctx}{ops:Array Oper}{need:Nd}{o:Oper}{i:AIns}(h:cIns C ops need o=some i){F:Hist->Env->Store->Prop}{K':Hist->Env->Store->Prop}(hK:∀H H' Z O,HR H H'->F H Z O->K' H' Z O)
  {H H':Hist} (hH:HR H H') {Z:Env} {O:Store} (hw:ze9 C F i H Z O):z24 C ops need o K' H' Z O:=by
 simp only [cIns,Option.map_eq_some_iff]at h
 obtain⟨g,hg,rfl⟩:=h
 have ha:(cOp C o.op).getD .stuck ≠ .stuck->cOp C o.op=some ((cOp C o.op).getD .stuck):=by
  intro h
  cases hc:cOp C o.op with
  |none=>rw [hc]at h;exact absurd rfl h
  |some a=>rfl
 generalize (cOp C o.op).getD .stuck=a at*
 unfold z24
 rw [zld hg]
 have nocall:a.isCall=false->(match z1g Z g with|some true=>(∃v O',OpTo C (ev C Z) O o.op v O'/\ need.ok C (ev C Z) o.op v H' O O'/\ K' (need.next C (ev C Z) o.op v H' O) (putE Z o.dst v) O') \/((need=.no \/need=.ef)/\ zc5 C need o K' H' Z O)|some false=>K' H' (putE Z o.dst .undef) O|none=>False):=by
  intro hc
  rw [zsj hc]at hw
  have to:∀{s:Store} {r:AV × Store},a.run Z s=some r->OpTo C (ev C Z) s o.op r.1 r.2:=by
   intro s r hr
   obtain⟨h1,h2⟩:=zlg (ha (by rintro rfl;simp [AOp.run]at hr)) hr
   unfold OpTo;rw [h1];exact h2
  cases need
  ·-- nothing owed
   simp only [zw,z2l]at hw
   cases hgv:z1g Z g with
   |none=>rw [hgv]at hw;exact hw.elim
   |some b=>
    rw [hgv]at hw
    cases b with
    |false=>exact hK _ _ _ _ hH hw
    |true=>
     simp only at hw ⊢
     cases hr:a.run Z O with
     |none=>rw [hr]at hw;exact hw.elim
     |some r=>rw [hr]at hw;exact .inl ⟨r.1,r.2,to hr,trivial,hK _ _ _ _ hH hw⟩
  ·simp only [zw,z2l]at hw
   cases hgv:z1g Z g with
   |none=>rw [hgv]at hw;exact hw.elim
   |some b=>
    rw [hgv]at hw
    cases b with
    |false=>exact hK _ _ _ _ hH hw.2
    |true=>
     simp only at hw ⊢
     cases hr:a.run Z O with
     |none=>rw [hr]at hw;exact hw.elim
     |some r=>rw [hr]at hw;exact .inl ⟨r.1,r.2,to hr,hw.1,hK _ _ _ _ hH hw.2⟩
  ·simp only [zw]at hw
   cases hgv:z1g Z g with
   |none=>rw [hgv]at hw;exact hw.elim
   |some b=>
    rw [hgv]at hw
    cases b with
    |false=>exact hK _ _ _ _ hH hw
    |true=>
     simp only [rdW]at hw ⊢
     cases hr:a.run Z O with
     |none=>rw [hr]at hw;exact hw.elim
     |some r=>
      rw [hr]at hw
      obtain⟨k1,k2,k3⟩:=hw
      obtain⟨v,s⟩:=r
      simp only at k1 k2 k3
      subst k1
      refine .inl ⟨v,s,to hr,⟨rfl,fun h hh=>to (k2 h (hH.1 h hh))⟩,hK ⟨H.pre,fun t=>H.rds t/\ a.run Z t=some (v,t),H.rd2⟩ _ _ _ ⟨hH.1,fun t ht=>⟨hH.2.1 t ht.1,to ht.2⟩,hH.2.2⟩ k3⟩
  ·simp only [zw]at hw
   cases hgv:z1g Z g with
   |none=>rw [hgv]at hw;exact hw.elim
   |some b=>
    rw [hgv]at hw
    cases b with
    |false=>exact hK _ _ _ _ hH hw
    |true=>
     simp only [efW]at hw ⊢
     cases hr:a.run Z O with
     |none=>rw [hr]at hw;exact hw.elim
     |some r=>
      rw [hr]at hw
      exact .inl ⟨r.1,r.2,to hr,hH.2.1 _ hw.1,hK ⟨fun s=>H.pre s \/s=O,H.rds,H.rd2⟩ _ _ _ ⟨fun s hs=>hs.imp (hH.1 s) id,hH.2⟩ hw.2⟩
  ·simp only [zw]at hw
  ·simp only [zw]at hw
   cases hgv:z1g Z g with
   |none=>rw [hgv]at hw;exact hw.elim
   |some b=>
    rw [hgv]at hw
    cases b with
    |false=>exact hK _ _ _ _ hH hw
    |true=>
     simp only [rd2W]at hw ⊢
     cases hr:a.run Z O with
     |none=>rw [hr]at hw;exact hw.elim
     |some r=>
      rw [hr]at hw
      obtain⟨k1,k2,k3⟩:=hw
      obtain⟨v,s⟩:=r
      simp only at k1 k2 k3
      subst k1
      refine .inl ⟨v,s,to hr,⟨rfl,fun h hh=>to (k2 h (hH.1 h hh))⟩,hK ⟨H.pre,fun t=>H.rds t/\ a.run Z t=some (v,t),fun t=>H.rd2 t/\ a.run Z t=some (v,t)⟩ _ _ _ ⟨hH.1,fun t ht=>⟨hH.2.1 t ht.1,to ht.2⟩,fun t ht=>⟨hH.2.2 t ht.1,to ht.2⟩⟩ k3⟩
  ·simp only [zw]at hw
   cases hgv:z1g Z g with
   |none=>rw [hgv]at hw;exact hw.elim
   |some b=>
    rw [hgv]at hw
    cases b with
    |false=>exact hK _ _ _ _ hH hw
    |true=>
     simp only [ef2W]at hw ⊢
     cases hr:a.run Z O with
     |none=>rw [hr]at hw;exact hw.elim
     |some r=>
      rw [hr]at hw
      exact .inl ⟨r.1,r.2,to hr,hH.2.2 _ hw.1,hK ⟨fun s=>H.pre s \/s=O,H.rds,H.rd2⟩ _ _ _ ⟨fun s hs=>hs.imp (hH.1 s) id,hH.2⟩ hw.2⟩
 cases a
 case call f xs=>
  obtain⟨fo,args,h1,h2,h3⟩:=zlf (ha (by simp))
  rw [zsi]at hw
  cases hgv:z1g Z g with
  |none=>rw [hgv]at hw;exact hw.elim
  |some b=>
   rw [hgv]at hw
   cases b with
   |false=>exact hK _ _ _ _ hH hw
   |true=>
    simp only [z25,callW,z1d h2]at hw ⊢
    split at hw
    ·rename_i fid caps hf
     have okn:∀{v:AV} {O':Store},z2m need H O O'->need.ok C (ev C Z) o.op v H' O O':=by
      intro v O' hn
      cases need<;>simp only [z2m,Nd.ok]at hn ⊢
      ·exact hn
      ·exact hH.2.1 _ hn
     have nxt:∀{v:AV},z2m need H O O \/need=.no \/need=.ef \/need=.same->HR (z40 need H O) (need.next C (ev C Z) o.op v H' O):=by
      intro v hn
      cases need<;>simp only [z40,Nd.next]
      ·exact hH
      ·exact hH
      ·simp [z2m]at hn
      ·exact⟨fun s hs=>hs.imp (hH.1 s) id,hH.2⟩
      ·simp [z2m]at hn
      ·simp [z2m]at hn
      ·simp [z2m]at hn
     rcases hw with⟨v,O',h4,h5,h6⟩| ⟨h0,P,h4,hne,h6⟩| ⟨rfl,v,h4,h6⟩| ⟨rfl,v,h4,h5,h6⟩
     ·have hn:z2m need H O O \/need=.no \/need=.ef \/need=.same:=by cases need<;>first|exact .inr (.inl rfl)|exact .inr (.inr (.inl rfl))|exact .inr (.inr (.inr rfl))|exact h5.elim
      refine .inl ⟨v,O',?_,okn h5,hK _ _ _ _ (nxt hn) h6⟩
      unfold OpTo
      rw [h1]
      refine⟨fid,caps,hf,?_⟩
      rw [<-z71 h3];exact h4
     ·have hn:z2m need H O O \/need=.no \/need=.ef \/need=.same:=.inr (h0.imp id .inl)
      refine .inr ⟨h0,P,⟨_,h1,fid,caps,hf,?_⟩,hne,fun v O' hp=>⟨okn (h6 v O' hp).1,hK _ _ _ _ (nxt hn) (h6 v O' hp).2⟩⟩
      rw [<-z71 h3];exact h4
     ·have hto:∀s,OpTo C (ev C Z) s o.op v s:=by
       intro s
       unfold OpTo
       rw [h1]
       refine⟨fid,caps,hf,?_⟩
       rw [<-z71 h3];exact h4 s
      exact .inl ⟨v,O,hto O,⟨rfl,fun s _=>hto s⟩,hK _ _ _ _ ⟨hH.1,fun s hs=>⟨hH.2.1 s hs,hto s⟩,hH.2.2⟩ h6⟩
     ·have hto:∀s,ACallsTo C fid (xs.map (AX.ev Z)++caps) s v s->OpTo C (ev C Z) s o.op v s:=by
       intro s hs
       unfold OpTo
       rw [h1]
       refine⟨fid,caps,hf,?_⟩
       rw [<-z71 h3];exact hs
      exact .inl ⟨v,O,hto O h4,⟨rfl,fun s hs=>hto s (h5 s (hH.1 s hs))⟩,hK ⟨H.pre,fun s=>H.rds s/\ ACallsTo C fid (xs.map (AX.ev Z)++caps) s v s,H.rd2⟩ _ _ _ ⟨hH.1,fun s hs=>⟨hH.2.1 s hs.1,hto s hs.2⟩,hH.2.2⟩ h6⟩
    ·exact hw.elim
 all_goals exact nocall rfl
theorem zff{C:Ctx}{ops:Array Oper}{need:Nd}{o:Oper}{i:AIns}(h:cIns C ops need o=some i){l:List AIns}{K:Env->Store->Prop}{K':Hist->Env->Store->Prop}(hK:∀H H' Z O,HR H H'->zn C K l H Z O->K' H' Z O)
  {H H':Hist} (hH:HR H H') {Z:Env} {O:Store} (hw:zn C K (i::l) H Z O):z24 C ops need o K' H' Z O:=zle h (F:=zn C K l) hK hH hw
def cOps(C:Ctx)(ops:Array Oper)(need:Nat->Nd):List Oper->Nat->Option (List AIns)
 | [],_=>some []
 |o::l,i=>(cIns C ops (need i) o).bind fun a=>(cOps C ops need l (i+1)).map (a:: ·)
theorem z8h{C:Ctx}{ops:Array Oper}{need:Nat->Nd}{K:Env->Store->Prop}:∀(l:List Oper) (i:Nat) (as_:List AIns),(∀j,l[j]? =ops[i+j]?)->cOps C ops need l i=some as_->
  ∀H H' Z O,HR H H'->zn C K as_ H Z O->z28 C ops need K (List.range' i l.length) H' Z O
 | [],i,as_,_,h,H,H',Z,O,hH,hw=>by simp only [cOps,Option.some.injEq]at h;subst h;exact hw
 |o::l,i,as_,hl,h,H,H',Z,O,hH,hw=>by
  simp only [cOps,Option.bind_eq_some_iff,Option.map_eq_some_iff]at h
  obtain⟨a,ha,as',has,rfl⟩:=h
  have h0:ops[i]? =some o:=by have:=hl 0;simpa using this.symm
  simp only [List.length_cons,List.range'_succ,z28,h0]
  refine zff ha (l:=as') (K:=K) (fun H H' Z O hH hk=> ?_) hH hw
  refine z8h l (i+1) as' (fun j=> ?_) has H H' Z O hH hk
  have:=hl (j+1)
  simp only [List.getElem?_cons_succ]at this
  rw [this];congr 1;omega
def late(C:Ctx)(ops:Array Oper)(nd:List Nd):List Nd:=
 let cl:=z2k [] ops.toList
 let ty (j:Nat):Option (Bool × TypeId):=match ops[j]? with|some p=>(match p.op with| .load t _=>some (false,t)| .store t _ _=>some (true,t)| _=>none)|none=>none
 let two (i:Nat):Bool:=nd.getD i .no==.ef && (match ty i with
  |some (true,t)=>(List.range i).any fun x=>nd.getD x .no==.rd && ty x==some (false,t) && ahead_ cl x i
  | _=>false)
 let ss:=(List.range ops.size).filter two
 if ss.isEmpty then nd else
  (List.range ops.size).map fun i=>match nd.getD i .no with
   | .ef=>if ss.contains i then .ef2 else .ef
   | .rd=>if ss.any fun j=> !ahead_ cl i j && !ahead_ cl j i then .rd2 else .rd
   |n=>n
def zd4(C:Ctx)(ops:Array Oper):List Nd:=
  let cl:=z2k [] ops.toList
  let mate (i j:Nat):Bool:=match ops[j]? with
    |some p=> !(j==i) && !opN C p.op && !ahead_ cl j i && !ahead_ cl i j
    |none=>false
  let rdr (j:Nat):Bool:=match ops[j]? with|some p=>opR p.op|none=>false
  (List.range ops.size).map fun i=>match ops[i]? with
    | some o => if opN C o.op then .no else
        let l:=(List.range ops.size).filter (mate i)
        if l.isEmpty then .no else if opR o.op then .rd else if l.all rdr then .ef else .same
    |none=> .no
def zd5(C:Ctx)(ops:Array Oper):List Nd:=
  let cl:=z2k [] ops.toList
  let mate (i j:Nat):Bool:=match ops[j]? with
    |some p=> !(j==i) && !opN C p.op && !ahead_ cl j i && !ahead_ cl i j
    |none=>false
  let rdr (j:Nat):Bool:=match ops[j]? with|some p=>opR p.op|none=>false
  let rdc (j:Nat):Bool:=match ops[j]? with|some p=>opR p.op ||(z1v p.op).isSome|none=>false
  (List.range ops.size).map fun i=>match ops[i]? with
    | some o => if opN C o.op then .no else
        let l:=(List.range ops.size).filter (mate i)
        if l.isEmpty then .no else if opR o.op then .rd else if (z1v o.op).isSome && !l.all rdr then .pu else if l.all rdc then .ef else .same
    |none=> .no
def z8l(n:Nat)(ops:Array Oper):Bool:=ops.all fun o=>match o.dst with|some d=>decide (d<n)|none=>true
theorem zce{n:Nat}{ops:Array Oper}(h:z8l n ops=true):∀o ∈ ops,∀d,o.dst=some d->d<n:=by
 intro o ho d hd
 unfold z8l at h
 rw [Array.all_eq_true_iff_forall_mem]at h
 have:=h o ho
 rw [hd]at this
 simpa using this
theorem zdd{C:Ctx}{ops:Array Oper}{need:Nat->Nd}{K:Env->Store->Prop}{Q:Exit->Act->World->Prop}{n:Nat}(hdst:∀o ∈ ops,∀d,o.dst=some d->d<n):
  ∀(L:List Nat) (H:Hist) (Z:Env) (O:Store) (γ:Places) (a:Act) (w:World),z28 C ops need K L H Z O->Rel C γ O w->EnvR γ w Z a.tmps->a.tmps.size=n->
   (∀Z' O' γ' a' w',K Z' O'->Step γ w γ' w'->Rel C γ' O' w'->EnvR γ' w' Z' a'.tmps->a'.defers=a.defers->a'.tmps.size=n->Q .normal a' w')->wpOps C.P ops Q L a w
 | [],_,Z,O,γ,a,w,h,hR,hE,hn,hQ=>hQ Z O γ a w h (Step.refl _ _) hR hE rfl hn
 |i::L,H,Z,O,γ,a,w,h,hR,hE,hn,hQ=>by
  rw [wpOps_cons]
  simp only [z28]at h
  cases ho:ops[i]? with
  |none=>rw [ho]at h;exact h.elim
  |some o=>
   rw [ho]at h
   have hmem:o ∈ ops:=by
    obtain⟨hi,rfl⟩:=Array.getElem?_eq_some_iff.1 ho
    exact Array.getElem_mem hi
   refine z6t ho (fun x hx=>by rw [hn];exact hdst o hmem x hx) hR hE h fun H' Z' O' γ' a' w' hK hst hR' hE' hdf hsz=> ?_
   refine zdd hdst L H' Z' O' γ' a' w' hK hR' hE' (hsz.trans hn) fun Z2 O2 γ2 a2 w2 k1 k2 k3 k4 k5 k6=> ?_
   exact hQ Z2 O2 γ2 a2 w2 k1 (hst.trans k2) k3 k4 (k5.trans hdf) k6
def makes:Op->Bool
 | .alloc _=>true
 | .box _ _=>true
 | _=>false
def zef(C:Ctx)(ops:Array Oper):List (Nat × Nat):=
  let cl:=z2k [] ops.toList
  let nd:=zd4 C ops
  ((List.range ops.size).flatMap fun i => ((List.range i).filter fun x => nd.getD x .no == .same && nd.getD i .no == .same && !ahead_ cl x i &&
      (match ops[x]?,ops[i]? with|some ox,some oi=>makes ox.op ||makes oi.op| _,_=>false)).map fun x=>(x,i))
def zd3(C:Ctx)(ops:Array Oper):List Nd:=match zef C ops with
 | _::_::_=>zd5 C ops
 | _=>late C ops (zd4 C ops)
def twinP(C:Ctx)(ops:Array Oper):Option (Nat × Nat):=match zef C ops with
 | [pq]=>some pq
 | _=>none
def z9b(C:Ctx)(ops:Array Oper)(p q:Nat)(i:Nat):Nd:=if i=p \/i=q then .ef else(zd4 C ops).getD i .no
def zdb(C:Ctx)(ops:Array Oper)(p q:Nat):Bool:=
 let cl:=z2k [] ops.toList
 let need:=z9b C ops p q
 decide (p<q) && decide (q<ops.size) &&
 ((List.range ops.size).all fun i=>(List.range i).all fun x=>(decide (x=p) && decide (i=q)) ||ahead_ cl x i ||free2 C ops need x i) &&
 ((List.range ops.size).all fun y=> !(decide (p<y) && decide (y<q)) ||free2 C ops need q y) &&
 ((List.range ops.size).all fun y=>decide (y=p) ||decide (y=q) ||(match ops[y]? with|some o=>(z1v o.op).isNone|none=>false) ||ahead_ cl p y ||ahead_ cl q y)
def twinL(p q:Nat)(n:Nat):List Nat:=List.range' 0 p++q::p::(List.range' (p+1) (q-(p+1))++List.range' (q+1) (n-(q+1)))
def cSel(C:Ctx)(ops:Array Oper)(need:Nat->Nd):List Nat->Option (List AIns)
 | []=>some []
 |i::l=>(ops[i]?).bind fun o=>(cIns C ops (need i) o).bind fun a=>(cSel C ops need l).map (a:: ·)
theorem zc4{C:Ctx}{ops:Array Oper}{need:Nat->Nd}{K:Env->Store->Prop}:∀(l:List Nat) (as_:List AIns),cSel C ops need l=some as_->
  ∀H H' Z O,HR H H'->zn C K as_ H Z O->z28 C ops need K l H' Z O
 | [],as_,h,H,H',Z,O,hH,hw=>by simp only [cSel,Option.some.injEq]at h;subst h;exact hw
 |i::l,as_,h,H,H',Z,O,hH,hw=>by
  simp only [cSel,Option.bind_eq_some_iff,Option.map_eq_some_iff]at h
  obtain⟨o,h0,a,ha,as',has,rfl⟩:=h
  simp only [z28,h0]
  exact zff ha (l:=as') (K:=K) (fun H H' Z O hH hk=>zc4 l as' has H H' Z O hH hk) hH hw
def z8i(C:Ctx)(ops:Array Oper)(p q:Nat):Option ACode:=
 if C.P.follows .mixedOrders=true/\ zdb C ops p q=true/\ z4k ops=true then
  (cSel C ops (z9b C ops p q) (List.range' 0 ops.size)).bind fun a=>(cSel C ops (z9b C ops p q) (twinL p q ops.size)).map fun b=> .reg2 a b
 else none
/-! Two and more pairs of which one makes an object, where the calls among them give the same at every store and one pair is left: both orders, with a common run of what stands ahead. -/
def twinsP(C:Ctx)(ops:Array Oper):List (Nat × Nat):=
  let cl:=z2k [] ops.toList
  let nd:=zd5 C ops
  ((List.range ops.size).flatMap fun i => ((List.range i).filter fun x => nd.getD x .no == .same && nd.getD i .no == .same && !ahead_ cl x i &&
      (match ops[x]?,ops[i]? with|some ox,some oi=>makes ox.op ||makes oi.op| _,_=>false)).map fun x=>(x,i))
def twinPJ(C:Ctx)(ops:Array Oper):Option (Nat × Nat):=match zef C ops with
 | _::_::_=>(match twinsP C ops with
  | [pq]=>some pq
  | _=>none)
 | _=>none
def z9c(C:Ctx)(ops:Array Oper)(p q:Nat)(i:Nat):Nd:=if i=p \/i=q then .ef else(zd5 C ops).getD i .no
def zhd(C:Ctx)(ops:Array Oper)(p q:Nat):Bool:=
 let cl:=z2k [] ops.toList
 let need:=z9c C ops p q
 decide (p<q) && decide (q<ops.size) &&
 ((List.range ops.size).all fun i=>(List.range i).all fun x=>(decide (x=p) && decide (i=q)) ||ahead_ cl x i ||free2 C ops need x i) &&
 ((List.range ops.size).all fun y=> !(decide (p<y) && decide (y<q)) ||free2 C ops need q y) &&
 ((List.range ops.size).all fun y=>decide (y<p) ||decide (y=p) ||decide (y=q) ||(match ops[y]? with|some o=>(z1v o.op).isNone|none=>false) ||ahead_ cl p y ||ahead_ cl q y)
def markJ(p:Nat):AIns:=⟨some p,none,.pu,.stuck⟩
def zji(p q:Nat)(n:Nat):List Nat:=q::p::(List.range' (p+1) (q-(p+1))++List.range' (q+1) (n-(q+1)))
def z8j(C:Ctx)(ops:Array Oper)(p q:Nat):Option ACode:=
 if C.P.follows .mixedOrders=true/\ zhd C ops p q=true/\ z4k ops=true then
  (cSel C ops (z9c C ops p q) (List.range' 0 ops.size)).bind fun a=>(cSel C ops (z9c C ops p q) (zji p q ops.size)).map fun b=> .reg2 a (markJ p::b)
 else none
theorem za8{C:Ctx}{ops:Array Oper}{p q:Nat}{ac:ACode}(h:z8j C ops p q=some ac):∃a b,ac=.reg2 a (markJ p::b)/\ C.P.follows .mixedOrders=true/\ zhd C ops p q=true/\ z4k ops=true ∧
  cSel C ops (z9c C ops p q) (List.range' 0 ops.size)=some a/\ cSel C ops (z9c C ops p q) (zji p q ops.size)=some b:=by
 simp only [z8j]at h
 split at h
 ·rename_i hok
  simp only [Option.bind_eq_some_iff,Option.map_eq_some_iff]at h
  obtain⟨a,h1,b,h2,rfl⟩:=h
  exact⟨a,b,rfl,hok.1,hok.2.1,hok.2.2,h1,h2⟩
 ·cases h
def z6y(C:Ctx)(ops:Array Oper):Option ACode:=
 let nd:=zd3 C ops
 if C.P.follows .mixedOrders=true/\ zda C ops (fun i=>nd.getD i .no)=true/\ z4k ops=true then(cOps C ops (fun i=>nd.getD i .no) ops.toList 0).map .reg else none
/-! Code. -/
def z16(C:Ctx)(n:Nat):Code->Option ACode
  | .skip=>some .skip
  | .region _ ops draw => if z8l n ops = true then
      (match draw with
       |true=>(match twinP C ops with
         |some pq=>(match z8i C ops pq.1 pq.2 with
           |some c=>some c
           |none=>z6y C ops)
         |none=>(match twinPJ C ops with
           |some pq=>(match z8j C ops pq.1 pq.2 with
             |some c=>some c
             |none=>z6y C ops)
           |none=>z6y C ops))
       |false=>(cOps C ops (fun _=> .no) ops.toList 0).map .reg)else none
  | .seq a b=>(z16 C n a).bind fun a=>(z16 C n b).map fun b=> .seq a b
  | .cond c a b=>(cX C c).bind fun c=>(z16 C n a).bind fun a=>(z16 C n b).map fun b=> .cond c a b
  | .block id a=>(z16 C n a).map fun a=> .block id a
  | .loop a=>(z16 C n a).map .loop
  | .exit id=>some (.exit id)
  | .label _=>some .skip
  | .ret=>some .ret
  | .scope a=>(z16 C n a).map .scope
  | .rangeFunc g ps a b=>(cX C g).bind fun g=>(z16 C n a).bind fun a=>(z16 C n b).map fun b=> .rangef g ps.toList a b
  | _=>some .stuck
theorem za6{C:Ctx}{ops:Array Oper}{ac:ACode}(h:z6y C ops=some ac):∃l,ac=.reg l/\ C.P.follows .mixedOrders=true/\ zda C ops (fun i=>(zd3 C ops).getD i .no)=true/\ z4k ops=true/\ cOps C ops (fun i=>(zd3 C ops).getD i .no) ops.toList 0=some l:=by
 simp only [z6y]at h
 split at h
 ·rename_i hok
  simp only [Option.map_eq_some_iff]at h
  obtain⟨l,h1,rfl⟩:=h
  exact⟨l,rfl,hok.1,hok.2.1,hok.2.2,h1⟩
 ·cases h
theorem za9{C:Ctx}{ops:Array Oper}{p q:Nat}{ac:ACode}(h:z8i C ops p q=some ac):∃a b,ac=.reg2 a b/\ C.P.follows .mixedOrders=true/\ zdb C ops p q=true/\ z4k ops=true ∧
  cSel C ops (z9b C ops p q) (List.range' 0 ops.size)=some a/\ cSel C ops (z9b C ops p q) (twinL p q ops.size)=some b:=by
 simp only [z8i]at h
 split at h
 ·rename_i hok
  simp only [Option.bind_eq_some_iff,Option.map_eq_some_iff]at h
  obtain⟨a,h1,b,h2,rfl⟩:=h
  exact⟨a,b,rfl,hok.1,hok.2.1,hok.2.2,h1,h2⟩
 ·cases h
theorem za4{C:Ctx}{n id:Nat}{ops:Array Oper}{draw:Bool}{ac:ACode}(h:z16 C n (.region id ops draw)=some ac):
  z8l n ops=true/\ ((draw=true/\ z6y C ops=some ac) \/(draw=true/\ ∃p q,z8i C ops p q=some ac \/z8j C ops p q=some ac) \/(draw=false/\ ∃l,ac=.reg l/\ cOps C ops (fun _=> .no) ops.toList 0=some l)):=by
 simp only [z16]at h
 split at h
 ·rename_i hd
  refine⟨hd,?_⟩
  split at h
  ·split at h
   ·split at h
    ·rename_i hc
     exact .inr (.inl ⟨rfl,_,_,.inl (by rw [hc];exact h)⟩)
    ·exact .inl ⟨rfl,h⟩
   ·split at h
    ·split at h
     ·rename_i hc
      exact .inr (.inl ⟨rfl,_,_,.inr (by rw [hc];exact h)⟩)
     ·exact .inl ⟨rfl,h⟩
    ·exact .inl ⟨rfl,h⟩
  ·simp only [Option.map_eq_some_iff]at h
   obtain⟨l,h1,rfl⟩:=h
   exact .inr (.inr ⟨rfl,l,rfl,h1⟩)
 ·cases h
theorem z4c{C:Ctx}{n id:Nat}{ops:Array Oper}{draw:Bool}{ac:ACode}(h:z16 C n (.region id ops draw)=some ac):(∃l,ac=.reg l) \/ ∃a b,ac=.reg2 a b:=by
 rcases(za4 h).2 with⟨_,h⟩| ⟨_,p,q,h⟩| ⟨_,l,h,_⟩
 ·obtain⟨l,h,_⟩:=za6 h;exact .inl ⟨l,h⟩
 ·rcases h with h|h
  ·obtain⟨a,b,h,_⟩:=za9 h;exact .inr ⟨a,b,h⟩
  ·obtain⟨a,b,h,_⟩:=za8 h;exact .inr ⟨a,_,h⟩
 ·exact .inl ⟨l,h⟩
def AExit.out:AExit->Exit
 | .normal=> .normal
 | .exit id=> .exit id
 | .ret=> .ret
end
section
structure DC where
 O:Store
 n:Nat
 pre:Nat->Nat
 fz:Nat->Bool
mutual
def DR(D:DC):AV->AV->Prop
  | .any,_=>True
  | .undef,a=>a=.undef
  | .bool b,a=>a=.bool b
  | .int k n,a=>a=.int k n
  | .str s,a=>a=.str s
  | .nilp,a=>a=.nilp
  | .ptr r i off,a=>r<D.n/\ a=.ptr (D.pre r) i off
  | .vp cs, a => (∃ cs0, a = .vp cs0 /\ DRs D cs cs0) ∨
      ∃r i off o e,a=.ptr r i off/\ D.fz r=true/\ D.O[r]? =some (some o)/\ o[i]? =some e/\ off<=e.length/\ DRs D cs (e.drop off)
  | .nilsl,a=>a=.nilsl
  | .vsl esz es ex, a => (∃ es0 ex0, a = .vsl esz es0 ex0 /\ (ex = true -> ex0 = true) /\ DRss D es es0) ∨
      (∃r off lim o,a=.sl r off es.length lim esz/\ D.fz r=true/\ D.O[r]? =some (some o)/\ off+es.length<=o.length/\ (ex=true->lim=some es.length)/\ DRss D es ((o.drop off).take es.length)) ∨
      ∃r i off cap o cs es1 rest,a=.asl r i off es.length cap esz/\ D.fz r=true/\ D.O[r]? =some (some o)/\ o[i]? =some cs/\ off<=cs.length/\ cs.drop off=es1.flatten++rest/\ (∀e ∈ es1,e.length=esz)/\ es.length ≠ 0/\ (ex=true->cap=es.length)/\ DRss D es es1
  | .sl r off len lim esz,a=>r<D.n/\ a=.sl (D.pre r) off len lim esz
  | .asl r i off len cap esz,a=>r<D.n/\ a=.asl (D.pre r) i off len cap esz
  | .fn f caps,a=>∃caps0,a=.fn f caps0/\ DRs D caps caps0
  | .nilfn,a=>a=.nilfn
  | .agg cs,a=>∃cs0,a=.agg cs0/\ DRs D cs cs0
  | .tup vs,a=>∃vs0,a=.tup vs0/\ DRs D vs vs0
  | .bld r,a=>r<D.n/\ a=.bld (D.pre r)
  | .bnil,a=>a=.bnil
  | .bsl r len,a=>r<D.n/\ a=.bsl (D.pre r) len
def DRs(D:DC):List AV->List AV->Prop
 | [],as_=>as_=[]
 |x::xs,as_=>∃a as',as_=a::as'/\ DR D x a/\ DRs D xs as'
def DRss(D:DC):List (List AV)->List (List AV)->Prop
 | [],es=>es=[]
 |x::xs,es=>∃e es',es=e::es'/\ DRs D x e/\ DRss D xs es'
end
mutual
def RL(k:Nat):AV->Prop
 | .ptr r _ _=>r<k
 | .sl r _ _ _ _=>r<k
 | .asl r _ _ _ _ _=>r<k
 | .bld r=>r<k
 | .bsl r _=>r<k
 | .vp cs=>RLs k cs
 | .vsl _ es _=>RLss k es
 | .fn _ caps=>RLs k caps
 | .agg cs=>RLs k cs
 | .tup vs=>RLs k vs
 | _=>True
def RLs(k:Nat):List AV->Prop
 | []=>True
 |a::as_=>RL k a/\ RLs k as_
def RLss(k:Nat):List (List AV)->Prop
 | []=>True
 |e::es=>RLs k e/\ RLss k es
end
theorem RLs_iff{k:Nat}:∀{l:List AV},RLs k l ↔ ∀a ∈ l,RL k a
 | []=>by simp [RLs]
 |a::l=>by simp [RLs,RLs_iff (l:=l)]
theorem zer{k:Nat}:∀{l:List (List AV)},RLss k l ↔ ∀e ∈ l,RLs k e
 | []=>by simp [RLss]
 |a::l=>by simp [RLss,zer (l:=l)]
mutual
theorem DR.refl{D:DC}{k:Nat}(hk:∀r,r<k->r<D.n/\ D.pre r=r):∀(a:AV),RL k a->DR D a a
 | .any,_=>by simp only [DR]
 | .undef,_=>by simp only [DR]
 | .bool _,_=>by simp only [DR]
 | .int _ _,_=>by simp only [DR]
 | .str _,_=>by simp only [DR]
 | .nilp,_=>by simp only [DR]
 | .ptr r i off,h=>by simp only [RL]at h;simp only [DR];obtain⟨h1,h2⟩:=hk r h;exact⟨h1,by rw [h2]⟩
 | .vp cs,h=>by simp only [RL]at h;simp only [DR];exact .inl ⟨cs,rfl,DRs.refl hk cs h⟩
 | .nilsl,_=>by simp only [DR]
 | .vsl esz es ex,h=>by simp only [RL]at h;simp only [DR];exact .inl ⟨es,ex,rfl,fun h=>h,DRss.refl hk es h⟩
 | .sl r off len lim esz,h=>by simp only [RL]at h;simp only [DR];obtain⟨h1,h2⟩:=hk r h;exact⟨h1,by rw [h2]⟩
 | .asl r i off len cap esz,h=>by simp only [RL]at h;simp only [DR];obtain⟨h1,h2⟩:=hk r h;exact⟨h1,by rw [h2]⟩
 | .fn f caps,h=>by simp only [RL]at h;simp only [DR];exact⟨caps,rfl,DRs.refl hk caps h⟩
 | .nilfn,_=>by simp only [DR]
 | .agg cs,h=>by simp only [RL]at h;simp only [DR];exact⟨cs,rfl,DRs.refl hk cs h⟩
 | .tup vs,h=>by simp only [RL]at h;simp only [DR];exact⟨vs,rfl,DRs.refl hk vs h⟩
 | .bld r,h=>by simp only [RL]at h;simp only [DR];obtain⟨h1,h2⟩:=hk r h;exact⟨h1,by rw [h2]⟩
 | .bnil,_=>by simp only [DR]
 | .bsl r len,h=>by simp only [RL]at h;simp only [DR];obtain⟨h1,h2⟩:=hk r h;exact⟨h1,by rw [h2]⟩
theorem DRs.refl{D:DC}{k:Nat}(hk:∀r,r<k->r<D.n/\ D.pre r=r):∀(l:List AV),RLs k l->DRs D l l
 | [],_=>by simp only [DRs]
 |a::l,h=>by simp only [RLs]at h;simp only [DRs];exact⟨a,l,rfl,DR.refl hk a h.1,DRs.refl hk l h.2⟩
theorem DRss.refl{D:DC}{k:Nat}(hk:∀r,r<k->r<D.n/\ D.pre r=r):∀(l:List (List AV)),RLss k l->DRss D l l
 | [],_=>by simp only [DRss]
 |a::l,h=>by simp only [RLss]at h;simp only [DRss];exact⟨a,l,rfl,DRs.refl hk a h.1,DRss.refl hk l h.2⟩
end
/-! References of what stands in a world. -/
mutual
theorem VR.rl{γ:Places}{w:World}:∀(a:AV) (v:Value),VR γ w a v->RL γ.length a
 | .any,_,_=>by simp only [RL]
 | .undef,_,_=>by simp only [RL]
 | .bool _,_,_=>by simp only [RL]
 | .int _ _,_,_=>by simp only [RL]
 | .str _,_,_=>by simp only [RL]
 | .nilp,_,_=>by simp only [RL]
 | .ptr r i off,v,h=>by
  simp only [VR]at h;simp only [RL]
  obtain⟨fl,pl,h1,_⟩:=h
  exact(List.getElem?_eq_some_iff.1 h1).1
 | .vp cs,v,h=>by
  simp only [VR]at h;simp only [RL]
  obtain⟨b,o,vals,_,_,_,h4⟩:=h
  exact VRs.rl cs vals h4
 | .nilsl,_,_=>by simp only [RL]
 | .vsl esz es ex,v,h=>by
  simp only [VR]at h;simp only [RL]
  rcases h with⟨rfl,_⟩| ⟨b,o,cap,vals,_,_,_,_,_,_,h7⟩
  ·simp only [RLss]
  ·exact VRss.rl es vals h7
 | .sl r off len lim esz,v,h=>by
  simp only [VR]at h;simp only [RL]
  obtain⟨fl,pl,_,_,_,h1,_⟩:=h
  exact(List.getElem?_eq_some_iff.1 h1).1
 | .asl r i off len cap esz,v,h=>by
  simp only [VR]at h;simp only [RL]
  obtain⟨fl,pl,_,_,h1,_⟩:=h
  exact(List.getElem?_eq_some_iff.1 h1).1
 | .fn f caps,v,h=>by
  simp only [VR]at h;simp only [RL]
  obtain⟨vs,_,h2⟩:=h
  exact VRt.rl caps vs h2
 | .nilfn,_,_=>by simp only [RL]
 | .agg cs,v,h=>by
  simp only [VR]at h;simp only [RL]
  obtain⟨vs,_,h2⟩:=h
  exact VRs.rl cs vs h2
 | .tup cs,v,h=>by
  simp only [VR]at h;simp only [RL]
  obtain⟨vs,_,h2⟩:=h
  exact VRt.rl cs vs h2
 | .bld r,v,h=>by
  simp only [VR]at h;simp only [RL]
  obtain⟨fl,pl,h1,_⟩:=h
  exact(List.getElem?_eq_some_iff.1 h1).1
 | .bnil,_,_=>by simp only [RL]
 | .bsl r len,v,h=>by
  simp only [VR]at h;simp only [RL]
  obtain⟨fl,pl,cap,h1,_⟩:=h
  exact(List.getElem?_eq_some_iff.1 h1).1
theorem VRs.rl{γ:Places}{w:World}:∀(l:List AV) (vs:List Value),VRs γ w l vs->RLs γ.length l
 | [],_,_=>by simp only [RLs]
 |a::l,vs,h=>by
  simp only [VRs]at h;simp only [RLs]
  obtain⟨v,vs',_,h2,h3⟩:=h
  exact⟨VR.rl a v h2.1,VRs.rl l vs' h3⟩
theorem VRt.rl{γ:Places}{w:World}:∀(l:List AV) (vs:List Value),VRt γ w l vs->RLs γ.length l
 | [],_,_=>by simp only [RLs]
 |a::l,vs,h=>by
  simp only [VRt]at h;simp only [RLs]
  obtain⟨v,vs',_,h2,h3⟩:=h
  exact⟨VR.rl a v h2,VRt.rl l vs' h3⟩
theorem VRss.rl{γ:Places}{w:World}:∀(l:List (List AV)) (vs:List Value),VRss γ w l vs->RLss γ.length l
 | [],_,_=>by simp only [RLss]
 |e::l,vs,h=>by
  simp only [VRss]at h;simp only [RLss]
  obtain⟨v1,v2,_,h2,h3⟩:=h
  exact⟨VRs.rl e v1 h2,VRss.rl l v2 h3⟩
end
theorem zk9{k:Nat}{l:List (List AV)}:RLss k l ↔ RLs k l.flatten:=by
 rw [zer,RLs_iff]
 constructor
 ·intro h a ha
  obtain⟨e,he,hae⟩:=List.mem_flatten.1 ha
  exact RLs_iff.1 (h e he) a hae
 ·intro h e he
  exact RLs_iff.2 fun a ha=>h a (List.mem_flatten.2 ⟨e,he,ha⟩)
def Wf(k:Nat)(O:Store):Prop:=∀(r:Nat) (o:AObj),O[r]? =some (some o)->RLss k o
theorem Rel.wf{C:Ctx}{γ:Places}{O:Store}{w:World}(h:Rel C γ O w):Wf O.length O:=by
 intro r o hr
 obtain⟨pl,h1,h2⟩:=h.alive r o hr
 obtain⟨c,ty,fz,pre,mid,post,_,_,_,_,h5,_⟩:=h2.ex
 rw [zk9,<-h.len]
 exact VRs.rl _ _ h5
/-! Soundness. -/
theorem ObjOK.seg{γ:Places}{w:World}{pl:Place}{o:AObj}(h:ObjOK γ w pl o){A B E:List AV}(he:o.flatten=A++B++E):∃vals,Seg w pl.b (pl.base+A.length) vals/\ VRs γ w B vals:=by
 obtain⟨c,ty,fz,pre,mid,post,h1,h2,h3,h4,h5,_⟩:=h.ex
 rw [he]at h5
 obtain⟨m12,m3,rfl,q1,q2⟩:=h5.append_inv
 obtain⟨m1,m2,rfl,q3,q4⟩:=q1.append_inv
 exact⟨m2,⟨c,ty,fz,pre++m1,m3++post,h1,by simp [h2,List.append_assoc],by rw [List.length_append,h3,q3.length]⟩,q4⟩
theorem ObjOK.none_at{γ:Places}{w:World}{pl:Place}{o:AObj}(h:ObjOK γ w pl o){k:Nat}(hk:k<=pl.tot):Seg w pl.b k []:=by
 obtain⟨c,ty,fz,pre,mid,post,h1,h2,h3,h4,h5,_⟩:=h.ex
 exact⟨c,ty,fz,c.toList.take k,c.toList.drop k,h1,by simp,by simp [h4,hk]⟩
structure DSnd(D:DC)(γ γ':Places)(w:World):Prop where
 ref:∀(r:Nat) (fl:Bool) (pl:Place),r<D.n->γ[D.pre r]? =some (fl,pl)->∃fl',γ'[r]? =some (fl',pl)
 imm:∀b,Imm γ w b->Imm γ' w b
 fz:∀(r:Nat) (pl:Place),D.fz r=true->γ[r]? =some (true,pl)->∀(r':Nat) (pl':Place),γ'[r']? =some (true,pl')->pl'.b ≠ pl.b
mutual
theorem DR.sound{C:Ctx}{D:DC}{γ γ':Places}{w:World}(hR:Rel C γ D.O w)(hs:DSnd D γ γ' w):∀(x a:AV) (v:Value),DR D x a->VR γ w a v->VR γ' w x v
 | .any,_,_,_,_=>by simp only [VR]
 | .undef,a,v,h,hv=>by simp only [DR]at h;subst h;simpa only [VR]using hv
 | .bool _,a,v,h,hv=>by simp only [DR]at h;subst h;simpa only [VR]using hv
 | .int _ _,a,v,h,hv=>by simp only [DR]at h;subst h;simpa only [VR]using hv
 | .str _,a,v,h,hv=>by simp only [DR]at h;subst h;simpa only [VR]using hv
 | .nilp,a,v,h,hv=>by simp only [DR]at h;subst h;simpa only [VR]using hv
 | .ptr r i off,a,v,h,hv=>by
  simp only [DR]at h
  obtain⟨h1,rfl⟩:=h
  simp only [VR]at hv ⊢
  obtain⟨fl,pl,h2,h3⟩:=hv
  obtain⟨fl',h4⟩:=hs.ref r fl pl h1 h2
  exact⟨fl',pl,h4,h3⟩
 | .vp cs,a,v,h,hv=>by
  simp only [DR]at h
  rcases h with⟨cs0,rfl,h⟩| ⟨r,i,off,o,e,rfl,h1,h2,h3,h4,h5⟩
  ·simp only [VR]at hv ⊢
   obtain⟨b,o,vals,k1,k2,k3,k4⟩:=hv
   exact⟨b,o,vals,k1,hs.imm b k2,k3,DRs.sound hR hs cs cs0 vals h k4⟩
  ·simp only [VR]at hv ⊢
   obtain⟨fl,pl,k1,rfl⟩:=hv
   obtain⟨pl',k2,k3⟩:=hR.alive r o h2
   rw [k1]at k2;cases k2
   obtain⟨hi,hei⟩:=List.getElem?_eq_some_iff.1 h3
   have hfl:o.flatten=((o.take i).flatten++e.take off)++e.drop off++(o.drop (i+1)).flatten:=by
    conv=>lhs;rw [<-List.take_append_drop i o,List.drop_eq_getElem_cons hi,hei]
    simp [List.append_assoc]
   obtain⟨vals,q1,q2⟩:=k3.seg hfl
   have hlen:((o.take i).flatten++e.take off).length=i*pl.esz+off:=by
    rw [List.length_append,z1p (k:=pl.esz) (fun e h=>k3.esz e (List.mem_of_mem_take h)),List.length_take,List.length_take,Nat.min_eq_left (by omega),Nat.min_eq_left (by omega)]
   rw [hlen]at q1
   exact⟨pl.b,pl.base+(i*pl.esz+off),vals,by rw [Nat.add_assoc],⟨k3.lt,hs.fz r pl h1 k1⟩,q1,DRs.sound hR hs cs _ vals h5 q2⟩
 | .nilsl,a,v,h,hv=>by simp only [DR]at h;subst h;simpa only [VR]using hv
 | .vsl esz es ex,a,v,h,hv=>by
  simp only [DR]at h
  rcases h with⟨es0,ex0,rfl,hex,h⟩| ⟨r,off,lim,o,rfl,h1,h2,h3,h4,h5⟩| ⟨r,i,off,cap0,o,cs,es1,rest,rfl,h1,h2,h3,h4,h5,h6,h7,h8,h9⟩
  ·simp only [VR]at hv ⊢
   rcases hv with⟨rfl,hv⟩| ⟨b,o,cap,vals,k1,k2,k3,k4,k5,k6,k7⟩
   ·refine .inl ⟨?_,hv⟩
    cases es with
    |nil=>rfl
    |cons e es=>simp [DRss]at h
   obtain⟨q1,q2⟩:=DRss.sound hR hs es es0 vals h k7
   exact .inr ⟨b,o,cap,vals,by rw [q2.1];exact k1,by rw [q2.1];exact k2,fun e=>by rw [q2.1];exact k3 (hex e),hs.imm b k4,k5,q2.2 esz k6,q1⟩
  ·simp only [VR]at hv ⊢
   obtain⟨fl,pl,b,o_,cap,k1,k2,rfl,k3⟩:=hv
   obtain⟨pl',k4,k5⟩:=hR.alive r o h2
   rw [k1]at k4;cases k4
   have hbb:=k3.blk
   subst hbb
   have hfl:o.flatten=(o.take off).flatten++((o.drop off).take es.length).flatten++((o.drop off).drop es.length).flatten:=by
    conv=>lhs;rw [<-List.take_append_drop off o,<-List.take_append_drop es.length (o.drop off)]
    rw [List.flatten_append,List.flatten_append,List.append_assoc]
   obtain⟨vals,q1,q2⟩:=k5.seg hfl
   have hlen:((o.take off).flatten).length=off*pl.esz:=by
    rw [z1p (k:=pl.esz) (fun e h=>k5.esz e (List.mem_of_mem_take h)),List.length_take,Nat.min_eq_left (by omega)]
   rw [hlen]at q1
   obtain⟨q3,q4⟩:=DRss.sound hR hs es _ vals h5 (VRss.flat.2 q2)
   have hseg:Seg w pl.b o_ vals:=by
    by_cases hc:cap=0
    ·have:=k3.le
     have hz:es=[]:=List.eq_nil_of_length_eq_zero (by omega)
     subst hz
     simp only [VRss]at q3
     subst q3
     exact k5.none_at k3.ole
    ·rw [(k3.at_ hc).2];exact q1
   right
   refine⟨pl.b,o_,cap,vals,rfl,k3.le,fun e=>k3.lim_ _ (h4 e),⟨k5.lt,hs.fz r pl h1 k1⟩,hseg,q4.2 esz ?_,q3⟩
   intro e he
   rw [<-k2]
   exact k5.esz e (List.mem_of_mem_drop (List.mem_of_mem_take he))
  ·simp only [VR]at hv ⊢
   obtain⟨fl,pl,b,o_,k1,rfl,k3,k6⟩:=hv
   obtain⟨pl',k4,k5⟩:=hR.alive r o h2
   rw [k1]at k4;cases k4
   obtain⟨rfl,rfl⟩:=k6 (by omega)
   obtain⟨hi,hei⟩:=List.getElem?_eq_some_iff.1 h3
   have hfl:o.flatten=((o.take i).flatten++cs.take off)++es1.flatten++(rest++(o.drop (i+1)).flatten):=by
    conv=>lhs;rw [<-List.take_append_drop i o,List.drop_eq_getElem_cons hi,hei]
    have e2:cs=cs.take off++(es1.flatten++rest):=by rw [<-h5,List.take_append_drop]
    rw [List.flatten_append,List.flatten_cons]
    conv=>lhs;rw [e2]
    simp only [List.append_assoc]
   obtain⟨vals,q1,q2⟩:=k5.seg hfl
   have hlen:((o.take i).flatten++cs.take off).length=i*pl.esz+off:=by
    rw [List.length_append,z1p (k:=pl.esz) (fun e h=>k5.esz e (List.mem_of_mem_take h)),List.length_take,List.length_take,Nat.min_eq_left (by omega),Nat.min_eq_left (by omega)]
   rw [hlen]at q1
   obtain⟨q3,q4⟩:=DRss.sound hR hs es _ vals h9 (VRss.flat.2 q2)
   right
   exact⟨pl.b,pl.base+(i*pl.esz+off),cap0,vals,by rw [Nat.add_assoc],k3,h8,⟨k5.lt,hs.fz r pl h1 k1⟩,q1,q4.2 esz h6,q3⟩
 | .sl r off len lim esz,a,v,h,hv=>by
  simp only [DR]at h
  obtain⟨h1,rfl⟩:=h
  simp only [VR]at hv ⊢
  obtain⟨fl,pl,b,o,cap,h2,h3⟩:=hv
  obtain⟨fl',h4⟩:=hs.ref r fl pl h1 h2
  exact⟨fl',pl,b,o,cap,h4,h3⟩
 | .asl r i off len cap esz,a,v,h,hv=>by
  simp only [DR]at h
  obtain⟨h1,rfl⟩:=h
  simp only [VR]at hv ⊢
  obtain⟨fl,pl,b,o,h2,h3⟩:=hv
  obtain⟨fl',h4⟩:=hs.ref r fl pl h1 h2
  exact⟨fl',pl,b,o,h4,h3⟩
 | .fn f caps,a,v,h,hv=>by
  simp only [DR]at h
  obtain⟨caps0,rfl,h⟩:=h
  simp only [VR]at hv ⊢
  obtain⟨vs,h1,h2⟩:=hv
  exact⟨vs,h1,DRs.soundt hR hs caps caps0 vs h h2⟩
 | .nilfn,a,v,h,hv=>by simp only [DR]at h;subst h;simpa only [VR]using hv
 | .agg cs,a,v,h,hv=>by
  simp only [DR]at h
  obtain⟨cs0,rfl,h⟩:=h
  simp only [VR]at hv ⊢
  obtain⟨vs,h1,h2⟩:=hv
  exact⟨vs,h1,DRs.sound hR hs cs cs0 vs h h2⟩
 | .tup cs,a,v,h,hv=>by
  simp only [DR]at h
  obtain⟨cs0,rfl,h⟩:=h
  simp only [VR]at hv ⊢
  obtain⟨vs,h1,h2⟩:=hv
  exact⟨vs,h1,DRs.soundt hR hs cs cs0 vs h h2⟩
 | .bld r,a,v,h,hv=>by
  simp only [DR]at h
  obtain⟨h1,rfl⟩:=h
  simp only [VR]at hv ⊢
  obtain⟨fl,pl,h2,h3⟩:=hv
  obtain⟨fl',h4⟩:=hs.ref r fl pl h1 h2
  exact⟨fl',pl,h4,h3⟩
 | .bnil,a,v,h,hv=>by simp only [DR]at h;subst h;simpa only [VR]using hv
 | .bsl r len,a,v,h,hv=>by
  simp only [DR]at h
  obtain⟨h1,rfl⟩:=h
  simp only [VR]at hv ⊢
  obtain⟨fl,pl,cap,h2,h3⟩:=hv
  obtain⟨fl',h4⟩:=hs.ref r fl pl h1 h2
  exact⟨fl',pl,cap,h4,h3⟩
theorem DRs.sound{C:Ctx}{D:DC}{γ γ':Places}{w:World}(hR:Rel C γ D.O w)(hs:DSnd D γ γ' w):∀(xs as_:List AV) (vs:List Value),DRs D xs as_->VRs γ w as_ vs->VRs γ' w xs vs
 | [],as_,vs,h,hv=>by simp only [DRs]at h;subst h;simpa only [VRs]using hv
 |x::xs,as_,vs,h,hv=>by
  simp only [DRs]at h
  obtain⟨a,as',rfl,h1,h2⟩:=h
  simp only [VRs]at hv ⊢
  obtain⟨v,vs',k1,k2,k3⟩:=hv
  exact⟨v,vs',k1,⟨DR.sound hR hs x a v h1 k2.1,k2.2⟩,DRs.sound hR hs xs as' vs' h2 k3⟩
theorem DRs.soundt{C:Ctx}{D:DC}{γ γ':Places}{w:World}(hR:Rel C γ D.O w)(hs:DSnd D γ γ' w):∀(xs as_:List AV) (vs:List Value),DRs D xs as_->VRt γ w as_ vs->VRt γ' w xs vs
 | [],as_,vs,h,hv=>by simp only [DRs]at h;subst h;simpa only [VRt]using hv
 |x::xs,as_,vs,h,hv=>by
  simp only [DRs]at h
  obtain⟨a,as',rfl,h1,h2⟩:=h
  simp only [VRt]at hv ⊢
  obtain⟨v,vs',k1,k2,k3⟩:=hv
  exact⟨v,vs',k1,DR.sound hR hs x a v h1 k2,DRs.soundt hR hs xs as' vs' h2 k3⟩
theorem DRss.sound{C:Ctx}{D:DC}{γ γ':Places}{w:World}(hR:Rel C γ D.O w)(hs:DSnd D γ γ' w):∀(xs as_:List (List AV)) (vs:List Value),DRss D xs as_->VRss γ w as_ vs->
  VRss γ' w xs vs/\ xs.length=as_.length/\ ∀k,(∀e ∈ as_,e.length=k)->∀e ∈ xs,e.length=k
 | [],as_,vs,h,hv=>by
  simp only [DRss]at h;subst h
  exact⟨by simpa only [VRss]using hv,rfl,fun _ _ e he=>by simp at he⟩
 |x::xs,as_,vs,h,hv=>by
  simp only [DRss]at h
  obtain⟨a,as',rfl,h1,h2⟩:=h
  simp only [VRss]at hv ⊢
  obtain⟨v1,v2,k1,k2,k3⟩:=hv
  obtain⟨q1,q2,q3⟩:=DRss.sound hR hs xs as' v2 h2 k3
  have q4:=DRs.sound hR hs x a v1 h1 k2
  refine⟨⟨v1,v2,k1,q4,q1⟩,by simp [q2],fun k hk e he=> ?_⟩
  rcases List.mem_cons.1 he with rfl|he
  ·rw [q4.length,<-k2.length];exact hk a (by simp)
  ·exact q3 k (fun e he=>hk e (by simp [he])) e he
end
structure DownS(k:Nat)(D:DC)(O':Store):Prop where
 n:D.n=O'.length
 pin:∀r,r<k->r<O'.length/\ D.pre r=r
 lt:∀r,r<O'.length->D.pre r<D.O.length
 inj:∀r r',r<O'.length->r'<O'.length->D.pre r=D.pre r'->r=r'
 obj:∀(r:Nat) (o':AObj),O'[r]? =some (some o')->∃o,D.O[D.pre r]? =some (some o)/\ DRss D o' o
 fz:∀r,D.fz r=true->∀r',r'<O'.length->D.pre r'=r->O'[r']? =some none
def DownV(k:Nat)(v:AV)(O:Store)(v':AV)(O':Store):Prop:=∃D,D.O=O/\ DownS k D O'/\ DR D v' v
def Down(k:Nat)(Z:Env)(O:Store)(Z':Env)(O':Store):Prop:=∃D,D.O=O/\ DownS k D O'/\ ∀t,DR D (Z' t) (Z t)
def Glob(C:Ctx)(γ:Places)(w:World):Prop:=∀(g:Nat) (cs:List AV),C.gl g=some cs->VR γ w (.vp cs) (.pointer (some ⟨g,0,none⟩))
theorem DownS.sound{C:Ctx}{k:Nat}{D:DC}{O':Store}{γ0 γ:Places}{w0 w:World}(h:DownS k D O')(hR:Rel C γ D.O w)(hst:Step γ0 w0 γ w)(hgl:Glob C γ0 w0)(hk:γ0.length<=k):
  ∃γ',Step γ0 w0 γ' w/\ Rel C γ' O' w/\ ∀x a v,DR D x a->VR γ w a v->VR γ' w x v:=by
 let f:Nat->Bool × Place:=fun r=>((match O'[r]? with|some (some _)=>true| _=>false),(γ[D.pre r]?.getD (true,⟨0,0,0,0,0,0⟩)).2)
 let γ':Places:=(List.range O'.length).map f
 have hlen:γ'.length=O'.length:=by simp [γ']
 have hget:∀r,r<O'.length->γ'[r]? =some (f r):=fun r hr=>by simp [γ',hr]
 have hold:∀r,r<O'.length->∃fl pl,γ[D.pre r]? =some (fl,pl)/\ (f r).2=pl:=fun r hr=>by
  have h1:=h.lt r hr
  rw [<-hR.len]at h1
  refine⟨γ[D.pre r].1,γ[D.pre r].2,List.getElem?_eq_getElem h1,?_⟩
  simp only [f,List.getElem?_eq_getElem h1,Option.getD_some]
 have live:∀(r:Nat) (pl:Place),γ'[r]? =some (true,pl)->r<O'.length/\ (∃o',O'[r]? =some (some o'))/\ γ[D.pre r]? =some (true,pl):=by
  intro r pl hr
  have hl:r<O'.length:=by rw [<-hlen];exact(List.getElem?_eq_some_iff.1 hr).1
  rw [hget r hl]at hr
  simp only [Option.some.injEq]at hr
  obtain⟨fl,pl',h1,h2⟩:=hold r hl
  have hf1:(f r).1=true:=by rw [hr]
  have hf2:pl=pl':=by rw [<-h2,hr]
  subst hf2
  have ho:∃o',O'[r]? =some (some o'):=by
   simp only [f]at hf1
   split at hf1
   ·rename_i o' ho;exact⟨o',ho⟩
   ·cases hf1
  obtain⟨o',ho'⟩:=ho
  obtain⟨o,h3,h4⟩:=h.obj r o' ho'
  obtain⟨pl2,h5,h6⟩:=hR.alive _ o h3
  rw [h1]at h5;cases h5
  exact⟨hl,⟨o',ho'⟩,h1⟩
 have himm:∀b,Imm γ w b->Imm γ' w b:=fun b hb=>⟨hb.1,fun r pl hr e=>by
  obtain⟨_,_,h3⟩:=live r pl hr
  exact hb.2 _ pl h3 e⟩
 have hs:DSnd D γ γ' w:=by
  refine⟨fun r fl pl hr hg=> ?_,himm,fun r pl hfz hg r' pl' hg' e=> ?_⟩
  ·rw [h.n]at hr
   obtain⟨fl2,pl2,h1,h2⟩:=hold r hr
   rw [hg]at h1;cases h1
   exact⟨(f r).1,by rw [hget r hr,<-h2]⟩
  ·obtain⟨hl,⟨o',ho'⟩,h3⟩:=live r' pl' hg'
   have:=hR.inj _ _ pl' pl h3 hg e
   rw [h.fz r hfz r' hl this]at ho'
   cases ho'
 have key:=fun x a v=>DR.sound hR hs x a v
 have st:Step γ0 w0 γ' w:=by
  refine⟨fun r fl pl hr=> ?_,hst.size,hst.imm,fun r pl hr=> ?_,hst.os,hst.tape,hst.output⟩
  ·have hrk:r<k:=Nat.lt_of_lt_of_le (List.getElem?_eq_some_iff.1 hr).1 hk
   obtain⟨h1,h2⟩:=h.pin r hrk
   obtain⟨fl',h3⟩:=hst.keep r fl pl hr
   exact hs.ref r fl' pl (by rw [h.n];exact h1) (by rw [h2];exact h3)
  ·obtain⟨_,_,h3⟩:=live r pl hr
   exact hst.new _ pl h3
 refine⟨γ',st,⟨hlen,fun r o' hr=> ?_,fun r hr=> ?_,fun r r' pl pl' hr hr' e=> ?_,fun g cs hg=> ?_⟩,key⟩
 ·have hl:r<O'.length:=(List.getElem?_eq_some_iff.1 hr).1
  obtain⟨o,h1,h2⟩:=h.obj r o' hr
  obtain⟨pl,h3,h4⟩:=hR.alive _ o h1
  obtain⟨fl,pl2,h5,h6⟩:=hold r hl
  rw [h3]at h5;cases h5
  obtain⟨c,ty,fz,pre,mid,post,q1,q2,q3,q4,q5,q6⟩:=h4.ex
  obtain⟨k1,k2,k3⟩:=DRss.sound hR hs o' o mid h2 (VRss.flat.2 q5)
  refine⟨pl,?_,⟨by rw [k2];exact h4.len,k3 _ h4.esz,h4.tyk,c,ty,fz,pre,mid,post,q1,q2,q3,q4,VRss.flat.1 k1,q6⟩⟩
  rw [hget r hl]
  congr 1
  exact Prod.ext (by simp only [f,hr]) h6
 ·have hl:r<O'.length:=(List.getElem?_eq_some_iff.1 hr).1
  refine⟨(f r).2,?_⟩
  rw [hget r hl]
  congr 1
  exact Prod.ext (by simp only [f,hr]) rfl
 ·obtain⟨l1,_,h1⟩:=live r pl hr
  obtain⟨l2,_,h2⟩:=live r' pl' hr'
  exact h.inj r r' l1 l2 (hR.inj _ _ pl pl' h1 h2 e)
 ·exact(hgl g cs hg).mono st
theorem Down.sound{C:Ctx}{k:Nat}{Z Z':Env}{O O':Store}{γ0 γ:Places}{w0 w:World}{tmps:Array Value}(h:Down k Z O Z' O')(hR:Rel C γ O w)(hE:EnvR γ w Z tmps)(hst:Step γ0 w0 γ w)(hgl:Glob C γ0 w0)(hk:γ0.length<=k):
  ∃γ',Step γ0 w0 γ' w/\ Rel C γ' O' w/\ EnvR γ' w Z' tmps:=by
 obtain⟨D,rfl,h1,h2⟩:=h
 obtain⟨γ',k1,k2,k3⟩:=h1.sound hR hst hgl hk
 exact⟨γ',k1,k2,fun t=>k3 _ _ _ (h2 t) (hE t)⟩
theorem DownV.sound{C:Ctx}{k:Nat}{v v':AV}{cv:Value}{O O':Store}{γ0 γ:Places}{w0 w:World}(h:DownV k v O v' O')(hR:Rel C γ O w)(hv:VR γ w v cv)(hst:Step γ0 w0 γ w)(hgl:Glob C γ0 w0)(hk:γ0.length<=k):
  ∃γ',Step γ0 w0 γ' w/\ Rel C γ' O' w/\ VR γ' w v' cv:=by
 obtain⟨D,rfl,h1,h2⟩:=h
 obtain⟨γ',k1,k2,k3⟩:=h1.sound hR hst hgl hk
 exact⟨γ',k1,k2,k3 _ _ _ h2 hv⟩
end
section
def zW(C:Ctx)(n k:Nat)(ac:ACode)(Q:AExit->Env->Store->Prop)(Z:Env)(O:Store):Prop:=
 ∀(c:Code),z16 C n c=some ac->∀(γ0:Places) (w0:World),Glob C γ0 w0->γ0.length=k->∀(γ:Places) (a:Act) (w:World),Step γ0 w0 γ w->Rel C γ O w->EnvR γ w Z a.tmps->a.tmps.size=n->
  c.wp C.P (fun e a' w'=>∃ae Z' O' γ',e=AExit.out ae/\ Q ae Z' O'/\ Step γ0 w0 γ' w'/\ Rel C γ' O' w'/\ EnvR γ' w' Z' a'.tmps/\ a'.defers=a.defers/\ a'.tmps.size=n) a w
def z2b(K:Env->Store->Prop)(Q:AExit->Env->Store->Prop):AExit->Env->Store->Prop
 | .normal=>K
 |e=>Q e
def blkQ(id:Nat)(Q:AExit->Env->Store->Prop):AExit->Env->Store->Prop
 | .exit i=>if i=id then Q .normal else Q (.exit i)
 |e=>Q e
section inv
variable {C:Ctx} {n:Nat} {c:Code}
theorem zfc(hc:z16 C n c=some .skip):c=.skip \/ ∃l,c=.label l:=by
 cases c
 case skip=>exact .inl rfl
 case label l=>exact .inr ⟨l,rfl⟩
 case region id ops draw=>rcases z4c hc with⟨_,h⟩| ⟨_,_,h⟩<;>cases h
 all_goals simp [z16,Option.bind_eq_some_iff,Option.map_eq_some_iff]at hc
theorem zl7{id:Nat}(hc:z16 C n c=some (.exit id)):c=.exit id:=by
 cases c
 case exit i=>simp only [z16,Option.some.injEq,ACode.exit.injEq]at hc;rw [hc]
 case region id ops draw=>rcases z4c hc with⟨_,h⟩| ⟨_,_,h⟩<;>cases h
 all_goals simp [z16,Option.bind_eq_some_iff,Option.map_eq_some_iff]at hc
theorem zlb(hc:z16 C n c=some .ret):c=.ret:=by
 cases c
 case ret=>rfl
 case region id ops draw=>rcases z4c hc with⟨_,h⟩| ⟨_,_,h⟩<;>cases h
 all_goals simp [z16,Option.bind_eq_some_iff,Option.map_eq_some_iff]at hc
theorem za5{x y:ACode}(hc:z16 C n c=some (.seq x y)):∃c1 c2,c=.seq c1 c2/\ z16 C n c1=some x/\ z16 C n c2=some y:=by
 cases c
 case seq a b=>
  simp only [z16,Option.bind_eq_some_iff,Option.map_eq_some_iff,ACode.seq.injEq]at hc
  obtain⟨a',h1,b',h2,rfl,rfl⟩:=hc
  exact⟨_,_,rfl,h1,h2⟩
 case region id ops draw=>rcases z4c hc with⟨_,h⟩| ⟨_,_,h⟩<;>cases h
 all_goals simp [z16,Option.bind_eq_some_iff,Option.map_eq_some_iff]at hc
theorem zl6{x:AX}{p q:ACode}(hc:z16 C n c=some (.cond x p q)):∃o c1 c2,c=.cond o c1 c2/\ cX C o=some x/\ z16 C n c1=some p/\ z16 C n c2=some q:=by
 cases c
 case cond o a b=>
  simp only [z16,Option.bind_eq_some_iff,Option.map_eq_some_iff,ACode.cond.injEq]at hc
  obtain⟨o',h0,a',h1,b',h2,rfl,rfl,rfl⟩:=hc
  exact⟨_,_,_,rfl,h0,h1,h2⟩
 case region id ops draw=>rcases z4c hc with⟨_,h⟩| ⟨_,_,h⟩<;>cases h
 all_goals simp [z16,Option.bind_eq_some_iff,Option.map_eq_some_iff]at hc
theorem zc0{id:Nat}{x:ACode}(hc:z16 C n c=some (.block id x)):∃c1,c=.block id c1/\ z16 C n c1=some x:=by
 cases c
 case block i a=>
  simp only [z16,Option.map_eq_some_iff,ACode.block.injEq]at hc
  obtain⟨a',h1,rfl,rfl⟩:=hc
  exact⟨_,rfl,h1⟩
 case region id ops draw=>rcases z4c hc with⟨_,h⟩| ⟨_,_,h⟩<;>cases h
 all_goals simp [z16,Option.bind_eq_some_iff,Option.map_eq_some_iff]at hc
theorem zlc{x:ACode}(hc:z16 C n c=some (.scope x)):∃c1,c=.scope c1/\ z16 C n c1=some x:=by
 cases c
 case scope a=>
  simp only [z16,Option.map_eq_some_iff,ACode.scope.injEq]at hc
  obtain⟨a',h1,rfl⟩:=hc
  exact⟨_,rfl,h1⟩
 case region id ops draw=>rcases z4c hc with⟨_,h⟩| ⟨_,_,h⟩<;>cases h
 all_goals simp [z16,Option.bind_eq_some_iff,Option.map_eq_some_iff]at hc
theorem zl8{x:ACode}(hc:z16 C n c=some (.loop x)):∃c1,c=.loop c1/\ z16 C n c1=some x:=by
 cases c
 case loop a=>
  simp only [z16,Option.map_eq_some_iff,ACode.loop.injEq]at hc
  obtain⟨a',h1,rfl⟩:=hc
  exact⟨_,rfl,h1⟩
 case region id ops draw=>rcases z4c hc with⟨_,h⟩| ⟨_,_,h⟩<;>cases h
 all_goals simp [z16,Option.bind_eq_some_iff,Option.map_eq_some_iff]at hc
theorem zfb{l:List AIns}(hc:z16 C n c=some (.reg l)):∃id os draw,c=.region id os draw:=by
 cases c
 case region id ops draw=>exact⟨_,_,_,rfl⟩
 all_goals simp [z16,Option.bind_eq_some_iff,Option.map_eq_some_iff]at hc
end inv
section
variable {C:Ctx} {n k:Nat} {Q:AExit->Env->Store->Prop} {Z:Env} {O:Store}
theorem zk_(h:Q .normal Z O):zW C n k .skip Q Z O:=by
 intro c hc γ0 w0 hgl hk γ a w hst hR hE hn
 have:=zfc hc
 rcases this with rfl| ⟨l,rfl⟩
 ·exact wp_skip ⟨.normal,Z,O,γ,rfl,h,hst,hR,hE,rfl,hn⟩
 ·exact wp_label ⟨.normal,Z,O,γ,rfl,h,hst,hR,hE,rfl,hn⟩
theorem ze_{id:Nat}(h:Q (.exit id) Z O):zW C n k (.exit id) Q Z O:=by
 intro c hc γ0 w0 hgl hk γ a w hst hR hE hn
 have:=zl7 hc
 subst this
 exact wp_exit ⟨.exit id,Z,O,γ,rfl,h,hst,hR,hE,rfl,hn⟩
theorem zq_(h:Q .ret Z O):zW C n k .ret Q Z O:=by
 intro c hc γ0 w0 hgl hk γ a w hst hR hE hn
 have:=zlb hc
 subst this
 exact wp_ret ⟨.ret,Z,O,γ,rfl,h,hst,hR,hE,rfl,hn⟩
theorem zW.mono{ac:ACode}{Q':AExit->Env->Store->Prop}(h:zW C n k ac Q Z O)(hq:∀e Z O,Q e Z O->Q' e Z O):zW C n k ac Q' Z O:=by
 intro c hc γ0 w0 hgl hk γ a w hst hR hE hn
 refine wp_mono (h c hc γ0 w0 hgl hk γ a w hst hR hE hn) ?_
 rintro e a' w' ⟨ae,Z',O',γ',h1,h2,h3⟩
 exact⟨ae,Z',O',γ',h1,hq _ _ _ h2,h3⟩
theorem zs_{x y:ACode}(h:zW C n k x (z2b (zW C n k y Q) Q) Z O):zW C n k (.seq x y) Q Z O:=by
 intro c hc γ0 w0 hgl hk γ a w hst hR hE hn
 have:=za5 hc
 obtain⟨c1,c2,rfl,h1,h2⟩:=this
 refine wp_seq (wp_mono (h c1 h1 γ0 w0 hgl hk γ a w hst hR hE hn) ?_)
 rintro e a' w' ⟨ae,Z',O',γ',rfl,hq,q1,q2,q3,q4,q5⟩
 cases ae with
 |normal=>
  refine wp_mono (hq c2 h2 γ0 w0 hgl hk γ' a' w' q1 q2 q3 q5) ?_
  rintro e a2 w2 ⟨ae,Z2,O2,γ2,k1,k2,k3,k4,k5,k6,k7⟩
  exact⟨ae,Z2,O2,γ2,k1,k2,k3,k4,k5,k6.trans q4,k7⟩
 |exit id=>exact⟨_,Z',O',γ',rfl,hq,q1,q2,q3,q4,q5⟩
 |ret=>exact⟨_,Z',O',γ',rfl,hq,q1,q2,q3,q4,q5⟩
theorem zW.cond{x:AX}{p q:ACode}{t:Bool}(hx:x.ev Z=.bool t)(h1:t=true->zW C n k p Q Z O)(h2:t=false->zW C n k q Q Z O):zW C n k (.cond x p q) Q Z O:=by
 intro c hc γ0 w0 hgl hk γ a w hst hR hE hn
 have:=zl6 hc
 obtain⟨o,c1,c2,rfl,k1,k2,k3⟩:=this
 have he:=zaf hR hE o
 rw [<-z1d k1,hx]at he
 simp only [VR]at he
 refine wp_cond he ?_
 cases t
 ·exact h2 rfl c2 k3 γ0 w0 hgl hk γ a w hst hR hE hn
 ·exact h1 rfl c1 k2 γ0 w0 hgl hk γ a w hst hR hE hn
theorem zb_{id:Nat}{x:ACode}(h:zW C n k x (blkQ id Q) Z O):zW C n k (.block id x) Q Z O:=by
 intro c hc γ0 w0 hgl hk γ a w hst hR hE hn
 have:=zc0 hc
 obtain⟨c1,rfl,h1⟩:=this
 refine wp_block (wp_mono (h c1 h1 γ0 w0 hgl hk γ a w hst hR hE hn) ?_)
 rintro e a' w' ⟨ae,Z',O',γ',rfl,hq,q⟩
 cases ae with
 |normal=>exact⟨.normal,Z',O',γ',rfl,hq,q⟩
 |exit id'=>
  simp only [AExit.out,Exit.inBlock]
  simp only [blkQ]at hq
  split at hq
  ·rename_i he
   rw [if_pos he]
   exact⟨.normal,Z',O',γ',rfl,hq,q⟩
  ·rename_i he
   rw [if_neg he]
   exact⟨.exit id',Z',O',γ',rfl,hq,q⟩
 |ret=>exact⟨.ret,Z',O',γ',rfl,hq,q⟩
theorem zc_{x:ACode}(h:zW C n k x Q Z O):zW C n k (.scope x) Q Z O:=by
 intro c hc γ0 w0 hgl hk γ a w hst hR hE hn
 have:=zlc hc
 obtain⟨c1,rfl,h1⟩:=this
 refine wp_scope_straight (wp_mono (h c1 h1 γ0 w0 hgl hk γ a w hst hR hE hn) ?_)
 rintro e a' w' ⟨ae,Z',O',γ',rfl,hq,q⟩
 cases ae<;>exact⟨_,Z',O',γ',rfl,hq,q⟩
theorem zW.loop{x:ACode}(I:Nat->Env->Store->Prop)(m:Nat)(h0:I m Z O)(h:∀m Z O,I m Z O->zW C n k x (z2b (fun Z' O'=>∃m',m'<m/\ I m' Z' O') Q) Z O):zW C n k (.loop x) Q Z O:=by
 intro c hc γ0 w0 hgl hk γ a w hst hR hE hn
 have:=zl8 hc
 obtain⟨c1,rfl,h1⟩:=this
 refine wp_loop_ghost (fun m a' w'=>∃Z' O' γ',I m Z' O'/\ Step γ0 w0 γ' w'/\ Rel C γ' O' w'/\ EnvR γ' w' Z' a'.tmps/\ a'.defers=a.defers/\ a'.tmps.size=n) m ⟨Z,O,γ,h0,hst,hR,hE,rfl,hn⟩ ?_
 rintro m a1 w1 ⟨Z1,O1,γ1,hI,q1,q2,q3,q4,q5⟩
 refine wp_mono (h m Z1 O1 hI c1 h1 γ0 w0 hgl hk γ1 a1 w1 q1 q2 q3 q5) ?_
 rintro e a2 w2 ⟨ae,Z2,O2,γ2,rfl,hq,r1,r2,r3,r4,r5⟩
 cases ae with
 |normal=>
  obtain⟨m',hm,hI'⟩:=hq
  exact⟨m',hm,Z2,O2,γ2,hI',r1,r2,r3,r4.trans q4,r5⟩
 |exit id=>exact⟨.exit id,Z2,O2,γ2,rfl,hq,r1,r2,r3,r4.trans q4,r5⟩
 |ret=>exact⟨.ret,Z2,O2,γ2,rfl,hq,r1,r2,r3,r4.trans q4,r5⟩
theorem z92{n:Nat}(i:Nat):i ∈ List.range' 0 n ↔ i<n/\ (Array.replicate n false).getD i true=false:=by
 simp only [List.mem_range',Array.getD_eq_getD_getElem?,Array.getElem?_replicate]
 constructor
 ·rintro⟨j,hj,rfl⟩
  have:0+1*j<n:=by omega
  exact⟨this,by simp [hj]⟩
 ·rintro⟨h1,_⟩
  exact⟨i,h1,by omega⟩
theorem zcd(ops:Array Oper):z6e ops (fun i=>(Array.replicate ops.size false).getD i false):=by
 intro i o ho hi
 simp only [Array.getD_eq_getD_getElem?,Array.getElem?_replicate]at hi
 split at hi<;>simp at hi
theorem zW.regH{ops:List AIns}{H:Hist}(h:zn C (Q .normal) ops H Z O):zW C n k (.reg ops) Q Z O:=by
 intro c hc γ0 w0 hgl hk γ a w hst hR hE hn
 have:=zfb hc
 obtain⟨id,os,draw,rfl⟩:=this
 obtain⟨hd,hc'⟩:=za4 hc
 clear hc
 have hdst:=zce hd
 rcases hc' with⟨rfl,hc⟩| ⟨rfl,p,q,hc⟩| ⟨rfl,l,hl,h1⟩
 ·obtain⟨as_,e,hf,hok,hb,h1⟩:=za6 hc
  cases e
  have hrun:=z8h (K:=Q .normal) os.toList 0 ops (fun j=>by simp) h1 H Hist.none Z O ⟨fun _ hs=>hs.elim,fun _ _=>trivial,fun _ _=>trivial⟩ h
  obtain⟨s1,R1⟩:=hR.drawn (w':={ w with drawn:=w.drawn+1 }) rfl rfl rfl rfl
  refine wp_region_any hf ?_
  refine zad hb hdst os.size (Array.replicate os.size false) (List.range' 0 os.size) (by simp) z92 List.pairwise_lt_range' (zcd os) (by simp)
   (fun x i hx hi hxi=>zhc hok ((z92 i).1 hi).1 hxi) Hist.none Z O γ a _ (by simpa using hrun) R1 (hE.mono s1) hn ?_
  intro Z' O' γ' a' w' k1 k2 k3 k4 k5 k6
  exact⟨.normal,Z',O',γ',rfl,k1,hst.trans (s1.trans k2),k3,k4,k5,k6⟩
 ·rcases hc with hc|hc
  ·obtain⟨_,_,e,_⟩:=za9 hc
   cases e
  ·obtain⟨_,_,e,_⟩:=za8 hc
   cases e
 ·cases hl
  have hrun:=z8h (K:=Q .normal) os.toList 0 ops (fun j=>by simp) h1 H Hist.none Z O ⟨fun _ hs=>hs.elim,fun _ _=>trivial,fun _ _=>trivial⟩ h
  refine wp_region ?_
  refine zdd hdst (List.range os.size) Hist.none Z O γ a w (by rw [List.range_eq_range'];simpa using hrun) hR hE hn ?_
  intro Z' O' γ' a' w' k1 k2 k3 k4 k5 k6
  exact⟨.normal,Z',O',γ',rfl,k1,hst.trans k2,k3,k4,k5,k6⟩
theorem zla{c:Code}{l m:List AIns}(hc:z16 C n c=some (.reg2 l m)):∃id os,c=.region id os true/\ z8l n os=true/\ ∃p q,z8i C os p q=some (.reg2 l m) \/z8j C os p q=some (.reg2 l m):=by
 cases c
 case region id ops draw=>
  obtain⟨hd,h⟩:=za4 hc
  rcases h with⟨rfl,h⟩| ⟨rfl,p,q,h⟩| ⟨rfl,l,h,_⟩
  ·obtain⟨_,h,_⟩:=za6 h;cases h
  ·exact⟨id,ops,rfl,hd,p,q,h⟩
  ·cases h
 all_goals simp [z16,Option.bind_eq_some_iff,Option.map_eq_some_iff]at hc
theorem zW.reg2H{l m:List AIns}{H H2:Hist}(h:zn C (Q .normal) l H Z O)(h2:zn C (Q .normal) m H2 Z O):zW C n k (.reg2 l m) Q Z O:=by
 intro c hc γ0 w0 hgl hk γ a w hst hR hE hn
 obtain⟨id,os,rfl,hd,p,q,hc⟩:=zla hc
 have hdst:=zce hd
 rcases hc with hc|hc
 rotate_left
 ·obtain⟨as_,bs,e,_⟩:=za8 hc
  cases e
  exact(show False from h2).elim
 obtain⟨as_,bs,e,hf,hok,hb,k1,k2⟩:=za9 hc
 cases e
 simp only [zdb,Bool.and_eq_true,decide_eq_true_eq,List.all_eq_true,List.mem_range]at hok
 obtain⟨⟨⟨⟨hpq,hq⟩,o1⟩,o2⟩,o3⟩:=hok
 have e0:List.range' 0 os.size=List.range' 0 p++p::(List.range' (p+1) (q-(p+1))++q::List.range' (q+1) (os.size-(q+1))):=by
  have a1:List.range' 0 os.size=List.range' 0 p++List.range' p (os.size-p):=by
   have:=List.range'_append (s:=0) (m:=p) (n:=os.size-p) (step:=1)
   rw [show 0+1*p=p by omega,show p+(os.size-p)=os.size by omega]at this
   exact this.symm
  have a2:List.range' p (os.size-p)=p::List.range' (p+1) (os.size-(p+1)):=by
   rw [show os.size-p=(os.size-(p+1))+1 by omega];rfl
  have a3:List.range' (p+1) (os.size-(p+1))=List.range' (p+1) (q-(p+1))++List.range' q (os.size-q):=by
   have:=List.range'_append (s:=p+1) (m:=q-(p+1)) (n:=os.size-q) (step:=1)
   rw [show p+1+1*(q-(p+1))=q by omega,show q-(p+1)+(os.size-q)=os.size-(p+1)by omega]at this
   exact this.symm
  have a4:List.range' q (os.size-q)=q::List.range' (q+1) (os.size-(q+1)):=by
   rw [show os.size-q=(os.size-(q+1))+1 by omega];rfl
  rw [a1,a2,a3,a4]
 have hrun:=zc4 (K:=Q .normal) _ _ k1 H Hist.none Z O ⟨fun _ hs=>hs.elim,fun _ _=>trivial,fun _ _=>trivial⟩ h
 have hrun2:=zc4 (K:=Q .normal) _ _ k2 H2 Hist.none Z O ⟨fun _ hs=>hs.elim,fun _ _=>trivial,fun _ _=>trivial⟩ h2
 rw [e0]at hrun
 have mem0:∀i,i ∈ List.range' 0 p++p::(List.range' (p+1) (q-(p+1))++q::List.range' (q+1) (os.size-(q+1))) ↔ i<os.size/\ (Array.replicate os.size false).getD i true=false:=fun i=>by rw [<-e0];exact z92 i
 obtain⟨s1,R1⟩:=hR.drawn (w':={ w with drawn:=w.drawn+1 }) rfl rfl rfl rfl
 refine wp_region_any hf ?_
 refine zly (p:=p) (q:=q) hb hdst os.size (Array.replicate os.size false) _ _ _ (by simp) mem0 (by rw [<-e0];exact List.pairwise_lt_range') (zcd os) (by rw [<-e0];simp)
  (fun x i hx hi hxi=> ?_) (fun y hy=> ?_) (fun y hy=> ?_) Hist.none Z O γ a _ hrun hrun2 R1 (hE.mono s1) hn ?_
 ·have:=o1 i ((mem0 i).1 hi).1 x hxi
  simp only [Bool.or_eq_true,Bool.and_eq_true,decide_eq_true_eq]at this
  rcases this with(h|h)|h
  ·exact .inl h
  ·exact .inr (.inl h)
  ·exact .inr (.inr h)
 ·simp only [List.mem_range']at hy
  obtain⟨j,hj,rfl⟩:=hy
  have:=o2 (p+1+1*j) (by omega)
  have e1:(decide (p<p+1+1*j) && decide (p+1+1*j<q))=true:=by simp;omega
  rw [e1]at this
  simpa using this
 ·have hm:y ∈ List.range' 0 p++p::(List.range' (p+1) (q-(p+1))++q::List.range' (q+1) (os.size-(q+1))):=by
   simp only [List.mem_append,List.mem_cons]at hy ⊢
   rcases hy with h|h|h
   ·exact .inl h
   ·exact .inr (.inr (.inl h))
   ·exact .inr (.inr (.inr (.inr h)))
  have hne:y ≠ p/\ y ≠ q:=by
   simp only [List.mem_append,List.mem_range']at hy
   rcases hy with⟨j,hj,rfl⟩| ⟨j,hj,rfl⟩| ⟨j,hj,rfl⟩<;>omega
  have:=o3 y ((mem0 y).1 hm).1
  simp only [Bool.or_eq_true,decide_eq_true_eq]at this
  rcases this with(((h|h)|h)|h)|h
  ·exact absurd h hne.1
  ·exact absurd h hne.2
  ·split at h
   ·rename_i o ho
    exact .inl ⟨o,ho,by simpa using h⟩
   ·simp at h
  ·exact .inr (.inl h)
  ·exact .inr (.inr h)
 ·intro Z' O' γ' a' w' k1 k2 k3 k4 k5 k6
  exact⟨.normal,Z',O',γ',rfl,k1,hst.trans (s1.trans k2),k3,k4,k5,k6⟩
theorem zW.reg2{l m:List AIns}(h:zn C (Q .normal) l Hist.none Z O)(h2:zn C (Q .normal) m Hist.none Z O):zW C n k (.reg2 l m) Q Z O:=zW.reg2H h h2
theorem zr_{ops:List AIns}(h:zn C (Q .normal) ops Hist.none Z O):zW C n k (.reg ops) Q Z O:=zW.regH h
theorem zW.regS{ops:List AIns}(h:zn C (Q .normal) ops (Hist.same O) Z O):zW C n k (.reg ops) Q Z O:=zW.regH h
theorem zW.seqReg{ops:List AIns}{y:ACode}(h:zn C (zW C n k y Q) ops Hist.none Z O):zW C n k (.seq (.reg ops) y) Q Z O:=zs_ (zr_ h)
theorem zW.down{ac:ACode}{Z':Env}{O':Store}(hd:Down k Z O Z' O')(h:zW C n k ac Q Z' O'):zW C n k ac Q Z O:=by
 intro c hc γ0 w0 hgl hk γ a w hst hR hE hn
 obtain⟨γ',h1,h2,h3⟩:=hd.sound hR hE hst hgl (by omega)
 exact h c hc γ0 w0 hgl hk γ' a w h1 h2 h3 hn
end
end
section
inductive RV where
 |t (n:Nat)
 |c (a:Nat) (ag:Bool) (n:Nat)
def RV.val(Z:Env)(O:Store):RV->AV
 | .t n=>Z n
 | .c a ag n=>(z2v ag n O (Z a)).getD .any
def RV.ok(Z:Env)(O:Store):RV->Bool
 | .t _=>true
 | .c a ag n=>(z2v ag n O (Z a)).isSome
def oks(Z:Env)(O:Store):List RV->Bool
 | []=>true
 |x::l=>x.ok Z O && oks Z O l
def z64(C:Ctx):List ResultVar->Option (List RV)
 | []=>some []
 | .tmp t::l=>(z64 C l).map (.t t:: ·)
 | .cell a t::l=>(z1w C t).bind fun ag=>(z1a C t).bind fun n=>(z64 C l).map (.c a ag n:: ·)
def retV(ts:List RV)(Z:Env)(O:Store):AV:=match ts with
 | [t]=>t.val Z O
 |ts=> .tup (ts.map (RV.val Z O))
def z2h(args:List AV):Env:=fun t=>args.getD t .undef
def cFn(C:Ctx)(f:FuncId):Option (Nat × List RV × ACode):=
 (C.P.funcs[f]?).bind fun fn=>if (fn.name== "runtime.NumGoroutine")=true then none else fn.body.bind fun c=>(z64 C fn.results.toList).bind fun ts=>(z16 C fn.ntmps c).map fun ac=>(fn.ntmps,ts,ac)
def endQ(k:Nat)(ts:List RV)(v:AV)(O':Store):AExit->Env->Store->Prop
 | .exit _=>fun _ _=>False
 | _=>fun Z O=>oks Z O ts=true/\ DownV k (retV ts Z O) O v O'
theorem zdw{C:Ctx}{γ:Places}{O:Store}{w:World}{Z:Env}{tmps:Array Value}(hR:Rel C γ O w)(hE:EnvR γ w Z tmps)(g:ResultVar->Sem Value)(hg:∀t,g (.tmp t)=pure (tmps.getD t undef))
  (hg2:∀a t,g (.cell a t)=do loadVar t (<-asAddr (tmps.getD a undef))):∀(l:List ResultVar) (ts:List RV),z64 C l=some ts->oks Z O ts=true->
  ∃vs,(l.mapM (m:=Sem) g).run C.P w=.ok vs w/\ VRt γ w (ts.map (RV.val Z O)) vs
 | [],ts,h,_=>by simp only [z64,Option.some.injEq]at h;subst h;exact⟨[],by simp,VRt.nil⟩
 | .tmp t::l,ts,h,hk=>by
  simp only [z64,Option.map_eq_some_iff]at h
  obtain⟨ts',h1,rfl⟩:=h
  simp only [oks,Bool.and_eq_true]at hk
  obtain⟨vs,k1,k2⟩:=zdw hR hE g hg hg2 l ts' h1 hk.2
  exact⟨tmps.getD t undef::vs,by simp only [List.mapM_cons,Sem.run_bind,hg,Sem.run_pure,Result.andThen_ok,k1],VRt.cons (hE t) k2⟩
 | .cell a t::l,ts,h,hk=>by
  simp only [z64,Option.bind_eq_some_iff,Option.map_eq_some_iff]at h
  obtain⟨ag,hag,n,hn,ts',h1,rfl⟩:=h
  simp only [oks,Bool.and_eq_true,RV.ok]at hk
  obtain⟨vs,k1,k2⟩:=zdw hR hE g hg hg2 l ts' h1 hk.2
  obtain⟨x,hx⟩:=Option.isSome_iff_exists.1 hk.1
  have hp:=hE a
  have hx':z6w C O t (Z a)=some x:=by
   rw [<-hx]
   generalize Z a=p
   cases p<;>simp only [z6w,z2v,hag,hn,Option.bind_some]
   rfl
  obtain⟨v,q1,q2⟩:=zh0 hR hp hx'
  have hc:(do loadVar t (<-asAddr (tmps.getD a undef)):Sem Value).run C.P w=.ok v w:=by
   rw [<-q1]
   generalize Z a=p at*
   generalize tmps.getD a undef=cp at*
   cases p<;>simp only [z2v,reduceCtorEq]at hx
   ·simp only [VR]at hp
    obtain⟨_,pl,_,rfl⟩:=hp
    simp [Instr.loadAt,Instr.sureAddr,asAddr]
   ·simp only [VR]at hp
    obtain⟨b,o,vals,rfl,_⟩:=hp
    simp [Instr.loadAt,Instr.sureAddr,asAddr]
  refine⟨v::vs,?_,VRt.cons ?_ k2⟩
  ·simp only [List.mapM_cons,Sem.run_bind,hg2]
   simp only [Sem.run_bind]at hc
   rw [hc]
   simp only [Sem.run_pure,Result.andThen_ok,k1]
  ·simp only [RV.val,hx,Option.getD_some];exact q2
theorem z7n{C:Ctx}{γ:Places}{O:Store}{w:World}{Z:Env}{fn:Func}{tmps:Array Value}{ts:List RV}(hR:Rel C γ O w)(hE:EnvR γ w Z tmps)(h:z64 C fn.results.toList=some ts)(hk:oks Z O ts=true):
  ∃cv,(results fn tmps).run C.P w=.ok cv w/\ VR γ w (retV ts Z O) cv:=by
 unfold results
 rw [Array.mapM_eq_mapM_toList]
 obtain⟨vs,h1,h2⟩:=zdw hR hE (fun| .tmp t=>pure (tmps.getD t undef)| .cell a t=>do loadVar t (<-asAddr (tmps.getD a undef))) (fun t=>rfl) (fun a t=>rfl) _ _ h hk
 simp only [Sem.run_bind,Sem.run_map]
 erw [h1]
 simp only [Result.andThen_ok,Sem.run_pure]
 unfold retV
 have hl:=h2.length
 match ts with
 | [t]=>
  simp only [List.map_cons,List.map_nil,VRt]at h2
  obtain⟨v,_,rfl,h3,rfl⟩:=h2
  exact⟨v,by simp,h3⟩
 | []=>
  simp only [List.map_nil,VRt]at h2
  subst h2
  exact⟨.tuple #[],by simp,by simp only [VR];exact⟨[],rfl,by simp [VRt]⟩⟩
 |a::b::l=>
  have:¬(vs.toArray.size=1):=by simp at hl ⊢;omega
  exact⟨.tuple vs.toArray,by simp only [this,dif_neg,not_false_eq_true],by simp only [VR];exact⟨vs,rfl,h2⟩⟩
theorem z8t{γ:Places}{w:World}{args:List AV}{cargs:List Value}(h:VRt γ w args cargs)(n:Nat):EnvR γ w (z2h args) (cargs.toArray++Array.replicate (n-cargs.toArray.size) undef):=by
 intro t
 have hl:=h.length
 simp only [z2h,Array.getD_eq_getD_getElem?,List.getD_eq_getElem?_getD]
 by_cases ht:t<args.length
 ·obtain⟨v,h1,h2⟩:=h.get (List.getElem?_eq_getElem ht)
  rw [Array.getElem?_append_left (by simp;omega),List.getElem?_toArray,h1,List.getElem?_eq_getElem ht]
  exact h2
 ·rw [List.getElem?_eq_none (by omega),Array.getElem?_append_right (by simp;omega)]
  simp only [Option.getD_none,VR,Array.getElem?_replicate]
  split<;>rfl
theorem ACallsTo.of_body{C:Ctx}{f:FuncId}{n:Nat}{ts:List RV}{ac:ACode}(hc:cFn C f=some (n,ts,ac)){args:List AV}{O O':Store}{v:AV}(hn:args.length<=n)
  (h:Wf O.length O->RLs O.length args->zW C n O.length ac (endQ O.length ts v O') (z2h args) O):ACallsTo C f args O v O':=by
 simp only [cFn,Option.bind_eq_some_iff]at hc
 obtain⟨fn,hf,hc⟩:=hc
 split at hc
 ·cases hc
 ·rename_i hname
  simp only [Option.bind_eq_some_iff,Option.map_eq_some_iff,Prod.mk.injEq]at hc
  obtain⟨c,hb,ts',hts,ac',hac,rfl,rfl,rfl⟩:=hc
  intro γ w cargs hR ha
  left
  constructor
  ·have hname':(fn.name== "runtime.NumGoroutine")=false:=by simpa using hname
   have h1:fn.name ≠ "runtime.NumGoroutine" :=by simpa using hname'
   simp [callFunc,hf,h1,hb]
  ·have hl:=ha.length
   refine calls_of_wp hf hb ?_
   have hw:=h hR.wf (by rw [<-hR.len];exact VRt.rl _ _ ha) c hac γ w hR.gl hR.len γ { tmps:=cargs.toArray++Array.replicate (fn.ntmps-cargs.toArray.size) undef,defers:=[] } w (Step.refl _ _) hR
    (z8t ha _) (by simp;omega)
   refine wp_mono hw ?_
   rintro e a' w' ⟨ae,Z',O2,γ',rfl,hq,q1,q2,q3,q4,q5⟩
   have fin:(oks Z' O2 ts'=true/\ DownV O.length (retV ts' Z' O2) O2 v O')->a'.defers=[]/\ ∃v_1,(results fn a'.tmps).run C.P w'=.ok v_1 w'/\ ∃cv γ',Ending.returned v_1=.returned cv/\ Step γ w γ' w'/\ Rel C γ' O' w'/\ VR γ' w' v cv:=by
    rintro⟨hk,hd⟩
    obtain⟨rv,r1,r2⟩:=z7n q2 q3 hts hk
    obtain⟨γ2,k1,k2,k3⟩:=hd.sound q2 r2 q1 hR.gl (by rw [hR.len];exact Nat.le_refl _)
    exact⟨q4,_,r1,_,γ2,rfl,k1,k2,k3⟩
   cases ae with
   |normal=>exact fin hq
   |exit id=>exact hq.elim
   |ret=>exact fin hq
def endP(k:Nat)(ts:List RV)(P:AV->Store->Prop):AExit->Env->Store->Prop
 | .exit _=>fun _ _=>False
 | _=>fun Z O=>oks Z O ts=true/\ ∃v O',P v O'/\ DownV k (retV ts Z O) O v O'
theorem ACallsP.of_body{C:Ctx}{f:FuncId}{n:Nat}{ts:List RV}{ac:ACode}(hc:cFn C f=some (n,ts,ac)){args:List AV}{O:Store}{P:AV->Store->Prop}(hn:args.length<=n)
  (h:Wf O.length O->RLs O.length args->zW C n O.length ac (endP O.length ts P) (z2h args) O):ACallsP C f args O P:=by
 simp only [cFn,Option.bind_eq_some_iff]at hc
 obtain⟨fn,hf,hc⟩:=hc
 split at hc
 ·cases hc
 ·rename_i hname
  simp only [Option.bind_eq_some_iff,Option.map_eq_some_iff,Prod.mk.injEq]at hc
  obtain⟨c,hb,ts',hts,ac',hac,rfl,rfl,rfl⟩:=hc
  intro γ w cargs hR ha
  left
  constructor
  ·have hname':(fn.name== "runtime.NumGoroutine")=false:=by simpa using hname
   have h1:fn.name ≠ "runtime.NumGoroutine" :=by simpa using hname'
   simp [callFunc,hf,h1,hb]
  ·have hl:=ha.length
   refine calls_of_wp hf hb ?_
   have hw:=h hR.wf (by rw [<-hR.len];exact VRt.rl _ _ ha) c hac γ w hR.gl hR.len γ { tmps:=cargs.toArray++Array.replicate (fn.ntmps-cargs.toArray.size) undef,defers:=[] } w (Step.refl _ _) hR
    (z8t ha _) (by simp;omega)
   refine wp_mono hw ?_
   rintro e a' w' ⟨ae,Z',O2,γ',rfl,hq,q1,q2,q3,q4,q5⟩
   have fin:(oks Z' O2 ts'=true/\ ∃v O',P v O'/\ DownV O.length (retV ts' Z' O2) O2 v O')->a'.defers=[]/\ ∃v_1,(results fn a'.tmps).run C.P w'=.ok v_1 w'/\ ∃cv v γ' O',Ending.returned v_1=.returned cv/\ P v O'/\ Step γ w γ' w'/\ Rel C γ' O' w'/\ VR γ' w' v cv:=by
    rintro⟨hk,v,O',hp,hd⟩
    obtain⟨rv,r1,r2⟩:=z7n q2 q3 hts hk
    obtain⟨γ2,k1,k2,k3⟩:=hd.sound q2 r2 q1 hR.gl (by rw [hR.len];exact Nat.le_refl _)
    exact⟨q4,_,r1,_,v,γ2,O',rfl,hp,k1,k2,k3⟩
   cases ae with
   |normal=>exact fin hq
   |exit id=>exact hq.elim
   |ret=>exact fin hq
theorem ACallsP.mono{C:Ctx}{f:FuncId}{args:List AV}{O:Store}{P P':AV->Store->Prop}(h:ACallsP C f args O P)(hp:∀v O',P v O'->P' v O'):ACallsP C f args O P':=by
 intro γ w cargs hR ha
 rcases h γ w cargs hR ha with⟨h1,h2⟩| ⟨cv,v,γ',O',w',h1,h2,h3⟩
 ·refine .inl ⟨h1,h2.mono ?_⟩
  rintro e w' ⟨cv,v,γ',O',rfl,k1,k2⟩
  exact⟨cv,v,γ',O',rfl,hp _ _ k1,k2⟩
 ·exact .inr ⟨cv,v,γ',O',w',h1,hp _ _ h2,h3⟩
def z4l(ts:List RV)(v:AV)(O':Store):AExit->Env->Store->Prop
 | .exit _=>fun _ _=>False
 | _=>fun Z O=>oks Z O ts=true/\ retV ts Z O=v/\ O=O'
theorem ACallsTo.of_body_keep{C:Ctx}{f:FuncId}{n:Nat}{ts:List RV}{ac:ACode}(hc:cFn C f=some (n,ts,ac)){args:List AV}{O O':Store}{v:AV}(hn:args.length<=n)
  (h:zW C n O.length ac (z4l ts v O') (z2h args) O):ACallsTo C f args O v O':=by
 simp only [cFn,Option.bind_eq_some_iff]at hc
 obtain⟨fn,hf,hc⟩:=hc
 split at hc
 ·cases hc
 ·rename_i hname
  simp only [Option.bind_eq_some_iff,Option.map_eq_some_iff,Prod.mk.injEq]at hc
  obtain⟨c,hb,ts',hts,ac',hac,rfl,rfl,rfl⟩:=hc
  intro γ w cargs hR ha
  left
  constructor
  ·have hname':(fn.name== "runtime.NumGoroutine")=false:=by simpa using hname
   have h1:fn.name ≠ "runtime.NumGoroutine" :=by simpa using hname'
   simp [callFunc,hf,h1,hb]
  ·have hl:=ha.length
   refine calls_of_wp hf hb ?_
   have hw:=h c hac γ w hR.gl hR.len γ { tmps:=cargs.toArray++Array.replicate (fn.ntmps-cargs.toArray.size) undef,defers:=[] } w (Step.refl _ _) hR
    (z8t ha _) (by simp;omega)
   refine wp_mono hw ?_
   rintro e a' w' ⟨ae,Z',O2,γ',rfl,hq,q1,q2,q3,q4,q5⟩
   have fin:oks Z' O2 ts'=true/\ retV ts' Z' O2=v/\ O2=O'->a'.defers=[]/\ ∃v_1,(results fn a'.tmps).run C.P w'=.ok v_1 w'/\ ∃cv γ',Ending.returned v_1=.returned cv/\ Step γ w γ' w'/\ Rel C γ' O' w'/\ VR γ' w' v cv:=by
    rintro⟨hk,rfl,rfl⟩
    obtain⟨rv,r1,r2⟩:=z7n q2 q3 hts hk
    exact⟨q4,_,r1,_,γ',rfl,q1,q2,r2⟩
   cases ae with
   |normal=>exact fin hq
   |exit id=>exact hq.elim
   |ret=>exact fin hq
/-! Letting go at a function's end. -/
section
variable {τ news:Store}
def z2c(τ news kept:Store)(idx:Nat->Nat)(fzl:Nat->Bool):DC:=
 ⟨τ++news,τ.length+kept.length,fun r=>if r<τ.length then r else τ.length+idx (r-τ.length),fun r=>decide (τ.length<=r) && fzl (r-τ.length)⟩
theorem z6l(kept:Store)(idx:Nat->Nat)(fzl:Nat->Bool):∀r,r<τ.length->r<(z2c τ news kept idx fzl).n/\ (z2c τ news kept idx fzl).pre r=r:=fun r hr=>by
 exact⟨by show r<τ.length+kept.length;omega,by simp [z2c,hr]⟩
theorem zaj{kept:Store}{idx:Nat->Nat}{fzl:Nat->Bool}(hτ:Wf τ.length τ)(h1:∀j,j<kept.length->idx j<news.length)(h2:∀i j,i<kept.length->j<kept.length->idx i=idx j->i=j)
  (h3:∀(j:Nat) (o':AObj),kept[j]? =some (some o')->∃o,news[idx j]? =some (some o)/\ DRss (z2c τ news kept idx fzl) o' o) (h4:∀j,j<kept.length->fzl (idx j)=true->kept[j]? =some none):
  DownS τ.length (z2c τ news kept idx fzl) (τ++kept):=by
 refine⟨by simp [z2c],fun r hr=>⟨by simp;omega,(z6l kept idx fzl r hr).2⟩,fun r hr=> ?_,fun r r' hr hr' e=> ?_,fun r o' hr=> ?_,fun r hr r' hr' e=> ?_⟩
 ·simp only [z2c,List.length_append]at hr ⊢
  split
  ·omega
  ·have:=h1 (r-τ.length) (by omega);omega
 ·simp only [z2c,List.length_append]at hr hr' e
  split at e<;>split at e
  ·exact e
  ·omega
  ·omega
  ·have:=h2 (r-τ.length) (r'-τ.length) (by omega) (by omega) (by omega);omega
 ·by_cases hl:r<τ.length
  ·rw [List.getElem?_append_left hl]at hr
   refine⟨o',?_,DRss.refl (z6l kept idx fzl) o' (hτ r o' hr)⟩
   simp only [z2c,hl,if_true]
   rw [List.getElem?_append_left hl];exact hr
  ·rw [List.getElem?_append_right (by omega)]at hr
   obtain⟨o,q1,q2⟩:=h3 _ o' hr
   refine⟨o,?_,q2⟩
   simp only [z2c,hl,if_false]
   rw [List.getElem?_append_right (by omega),Nat.add_sub_cancel_left];exact q1
 ·simp only [z2c,Bool.and_eq_true,decide_eq_true_eq,List.length_append]at hr hr' e
  split at e
  ·omega
  ·subst e
   rw [List.getElem?_append_right (by omega)]
   rw [Nat.add_sub_cancel_left]at hr
   exact h4 _ (by omega) hr.2
theorem DownV.pure{v:AV}(hτ:Wf τ.length τ)(hv:RL τ.length v):DownV τ.length v (τ++news) v τ:=by
 refine⟨z2c τ news [] id (fun _=>true),rfl,by simpa using zaj (kept:=[]) (idx:=id) (fzl:=fun _=>true) (news:=news) hτ (by simp) (by simp) (by simp) (by simp),DR.refl (z6l _ _ _) v hv⟩
theorem DownV.same{v:AV}(hτ:Wf τ.length τ)(hv:RL τ.length v):DownV τ.length v τ v τ:=by
 simpa using DownV.pure (news:=[]) hτ hv
theorem DownV.froze{j off len esz:Nat}{lim:Option Nat}{o:AObj}(hτ:Wf τ.length τ)(ho:news[j]? =some (some o))(hl:off+len<=o.length)(hr:RLss τ.length ((o.drop off).take len)):
  DownV τ.length (.sl (τ.length+j) off len lim esz) (τ++news) (.vsl esz ((o.drop off).take len) false) τ:=by
 refine⟨z2c τ news [] id (fun _=>true),rfl,by simpa using zaj (kept:=[]) (idx:=id) (fzl:=fun _=>true) (news:=news) hτ (by simp) (by simp) (by simp) (by simp),?_⟩
 have e:((o.drop off).take len).length=len:=by simp;omega
 simp only [DR,z2c]
 right
 left
 refine⟨τ.length+j,off,lim,o,by rw [e],by simp,?_,by rw [e];exact hl,by simp,?_⟩
 ·rw [List.getElem?_append_right (by omega),Nat.add_sub_cancel_left];exact ho
 ·rw [e];exact DRss.refl (z6l [] id (fun _=>true)) _ hr
theorem DownV.own{j off len esz:Nat}{lim:Option Nat}{o:AObj}(hτ:Wf τ.length τ)(ho:news[j]? =some (some o))(hr:RLss τ.length o):
  DownV τ.length (.sl (τ.length+j) off len lim esz) (τ++news) (.sl τ.length off len lim esz) (τ++ [some o]):=by
 have hj:j<news.length:=(List.getElem?_eq_some_iff.1 ho).1
 refine⟨z2c τ news [some o] (fun _=>j) (fun i=> !decide (i=j)),rfl,zaj hτ (by simp [hj]) (fun a b h1 h2 _=>by simp at h1 h2;omega) (fun i o' hi=> ?_) (fun i hi h=>by simp at h),?_⟩
 ·cases i with
  |zero=>
   simp at hi;subst hi
   exact⟨o,ho,DRss.refl (z6l _ _ _) _ hr⟩
  |succ i=>simp at hi
 ·simp only [DR,z2c]
  simp
end
end
section
open Go.RowKit
/-! Where only what is no cells turns, all values stay. -/
structure Book(w w':World):Prop where
 size:w.heap.size<=w'.heap.size
 cells:∀(b:Nat) (c:Array Value) (ty:TypeId) (fz:Nat × Nat),w.heap[b]? =some (Obj.cells c ty fz)->w'.heap[b]? =some (Obj.cells c ty fz)
 os:w'.os=w.os
 tape:w'.tape=w.tape
 output:w'.output=w.output
theorem Book.trans{a b c:World}(h:Book a b)(k:Book b c):Book a c:=
 ⟨Nat.le_trans h.size k.size,fun i x ty fz hi=>k.cells i x ty fz (h.cells i x ty fz hi),k.os.trans h.os,k.tape.trans h.tape,k.output.trans h.output⟩
theorem Book.putObj{w:World}{l:Nat}{o:Obj}(o':Obj)(h:w.heap[l]? =some o)(ho:o.isCells=false):Book w (w.putObj l o'):=
 ⟨by simp,fun b c ty fz hb=>(by
  rw [World.putObj_heap_other]
  ·exact hb
  ·rintro rfl
   rw [h]at hb;cases hb
   cases ho),rfl,rfl,rfl⟩
theorem Book.alloc(w:World)(o:Obj):Book w (w.alloc o):=
 ⟨by simp,fun b c ty fz hb=>(Below.heap_alloc w o b (Array.getElem?_eq_some_iff.1 hb).1).trans hb,rfl,rfl,rfl⟩
theorem Book.drew(w:World):Book w w.drew:=⟨Nat.le_refl _,fun _ _ _ _ h=>h,rfl,rfl,rfl⟩
section
variable {γ:Places} {w w':World}
theorem Imm.book(h:Book w w'){b:Nat}(hb:Imm γ w b):Imm γ w' b:=⟨Nat.lt_of_lt_of_le hb.1 h.size,hb.2⟩
theorem Seg.book(h:Book w w'){b o:Nat}{vals:List Value}(hs:Seg w b o vals):Seg w' b o vals:=by
 obtain⟨c,ty,fz,pre,post,h1,h2⟩:=hs
 exact⟨c,ty,fz,pre,post,h.cells _ _ _ _ h1,h2⟩
end
mutual
theorem VR.book{γ:Places}{w w':World}(h:Book w w'):∀(a:AV) (v:Value),VR γ w a v->VR γ w' a v
 | .any,_,_=>by simp only [VR]
 | .undef,_,hv=>by simpa only [VR]using hv
 | .bool _,_,hv=>by simpa only [VR]using hv
 | .int _ _,_,hv=>by simpa only [VR]using hv
 | .str _,_,hv=>by simpa only [VR]using hv
 | .nilp,_,hv=>by simpa only [VR]using hv
 | .ptr r i off,v,hv=>by simpa only [VR]using hv
 | .vp cs,v,hv=>by
  simp only [VR]at hv ⊢
  obtain⟨b,o,vals,h1,h2,h3,h4⟩:=hv
  exact⟨b,o,vals,h1,h2.book h,h3.book h,VRs.book h cs vals h4⟩
 | .nilsl,_,hv=>by simpa only [VR]using hv
 | .vsl esz es ex,v,hv=>by
  simp only [VR]at hv ⊢
  rcases hv with hv| ⟨b,o,cap,vals,h1,h2,h3,h4,h5,h6,h7⟩
  ·exact .inl hv
  ·exact .inr ⟨b,o,cap,vals,h1,h2,h3,h4.book h,h5.book h,h6,VRss.book h es vals h7⟩
 | .sl r off len lim esz,v,hv=>by simpa only [VR]using hv
 | .asl r i off len cap esz,v,hv=>by simpa only [VR]using hv
 | .fn f caps,v,hv=>by
  simp only [VR]at hv ⊢
  obtain⟨vs,h1,h2⟩:=hv
  exact⟨vs,h1,VRt.book h caps vs h2⟩
 | .nilfn,_,hv=>by simpa only [VR]using hv
 | .agg cs,v,hv=>by
  simp only [VR]at hv ⊢
  obtain⟨vs,h1,h2⟩:=hv
  exact⟨vs,h1,VRs.book h cs vs h2⟩
 | .tup cs,v,hv=>by
  simp only [VR]at hv ⊢
  obtain⟨vs,h1,h2⟩:=hv
  exact⟨vs,h1,VRt.book h cs vs h2⟩
 | .bld r,v,hv=>by simpa only [VR]using hv
 | .bnil,_,hv=>by simpa only [VR]using hv
 | .bsl r len,v,hv=>by simpa only [VR]using hv
theorem VRs.book{γ:Places}{w w':World}(h:Book w w'):∀(as_:List AV) (vs:List Value),VRs γ w as_ vs->VRs γ w' as_ vs
 | [],_,hv=>by simpa only [VRs]using hv
 |a::as_,vs,hv=>by
  simp only [VRs]at hv ⊢
  obtain⟨v,vs',h1,h2,h3⟩:=hv
  exact⟨v,vs',h1,⟨VR.book h a v h2.1,h2.2⟩,VRs.book h as_ vs' h3⟩
theorem VRt.book{γ:Places}{w w':World}(h:Book w w'):∀(as_:List AV) (vs:List Value),VRt γ w as_ vs->VRt γ w' as_ vs
 | [],_,hv=>by simpa only [VRt]using hv
 |a::as_,vs,hv=>by
  simp only [VRt]at hv ⊢
  obtain⟨v,vs',h1,h2,h3⟩:=hv
  exact⟨v,vs',h1,VR.book h a v h2,VRt.book h as_ vs' h3⟩
theorem VRss.book{γ:Places}{w w':World}(h:Book w w'):∀(es:List (List AV)) (vs:List Value),VRss γ w es vs->VRss γ w' es vs
 | [],_,hv=>by simpa only [VRss]using hv
 |e::es,vs,hv=>by
  simp only [VRss]at hv ⊢
  obtain⟨v1,v2,h1,h2,h3⟩:=hv
  exact⟨v1,v2,h1,VRs.book h e v1 h2,VRss.book h es v2 h3⟩
end
section
variable {C:Ctx} {γ γ0:Places} {O:Store} {w w' w0:World}
theorem ObjOK.book{pl:Place}{o:AObj}(h:ObjOK γ w pl o)(hb:Book w w'):ObjOK γ w' pl o:=by
 obtain⟨c,ty,fz,pre,mid,post,h1,h2,h3,h4,h5,h6⟩:=h.ex
 obtain⟨c0,fz0,h0⟩:=h.tyk
 exact⟨h.len,h.esz,⟨c0,fz0,hb.cells _ _ _ _ h0⟩,c,ty,fz,pre,mid,post,hb.cells _ _ _ _ h1,h2,h3,h4,VRs.book hb _ _ h5,h6⟩
theorem Rel.book(h:Rel C γ O w)(hb:Book w w'):Rel C γ O w':=
 ⟨h.len,fun r o hr=>by obtain⟨pl,h1,h2⟩:=h.alive r o hr;exact⟨pl,h1,h2.book hb⟩,h.dead,h.inj,fun g cs hg=>VR.book hb _ _ (h.gl g cs hg)⟩
theorem Step.book(h:Step γ0 w0 γ w)(hb:Book w w')(hlow:∀b,b<w0.heap.size->w'.heap[b]? =w.heap[b]?):Step γ0 w0 γ w':=
 ⟨h.keep,Nat.le_trans h.size hb.size,fun b hb' hn=>(hlow b hb').trans (h.imm b hb' hn),h.new,hb.os.trans h.os,hb.tape.trans h.tape,hb.output.trans h.output⟩
theorem Step.other{γ':Places}(h:Step γ w γ' w')(hR:Rel C γ O w){l:Nat}{o:Obj}(hl:w.heap[l]? =some o)(ho:o.isCells=false):w'.heap[l]? =some o:=by
 rw [h.imm l (Array.getElem?_eq_some_iff.1 hl).1,hl]
 intro r pl hr e
 subst e
 have hrl:r<O.length:=by rw [<-hR.len];exact(List.getElem?_eq_some_iff.1 hr).1
 cases hq:O[r]with
 |none=>
  obtain⟨pl',h1⟩:=hR.dead r (by rw [List.getElem?_eq_getElem hrl,hq])
  rw [h1]at hr;cases hr
 |some ob=>
  obtain⟨pl',h1,h2⟩:=hR.alive r ob (by rw [List.getElem?_eq_getElem hrl,hq])
  rw [h1]at hr;cases hr
  obtain⟨c0,fz0,h0⟩:=h2.tyk
  rw [hl]at h0;cases h0;cases ho
end
/-! Code within a round. -/
def z5u(rd:Option Nat):Fence:={ Fence.wide with round:=rd }
theorem zlh{rd:Option Nat}{n:Nat}{P:Program}{f:FuncId}{args:Array Value}{w:World}{R:Ending->World->Prop}(h:Calls P f args w R):CallsIn (z5u rd) n P f args w R:=
 (callsIn_wide (n:=n)).2 h
theorem zrh{rd:Option Nat}{n:Nat}{P:Program}{r:String}{args:Array Value}{w:World}{R:Value->World->Prop}(h:Rows P r args w R):RowsIn (z5u rd) n P r args w R:=
 fun c cs _=>let ⟨v,w',q,s⟩:=h c cs;⟨v,w',q,(stepsIn_wide (P:=P)).2 s⟩
theorem zhj{rd:Option Nat}{m:Nat}{P:Program}{o:Oper}{a:Act}{w:World}{K:Act->World->Prop}{Q:Exit->Act->World->Prop}(hd:∀c,o.op ≠ .defer c)(h:o.wp P a w K Q):o.wpIn (z5u rd) m P a w K Q:=by
 refine⟨fun _ _=>trivial,?_⟩
 rw [Oper.semAt_eq _ _ _ hd]
 unfold Oper.wp at h
 generalize (execOp a.eval o).run P w=r at h ⊢
 have dn:(z5u rd).depth.isSome=true->1<=m:=fun h=>by simp [z5u,Fence.wide]at h
 cases r with
 |ok x w'=>
  cases x<;>simp only [Oper.upon,Oper.uponIn]at h ⊢ <;>
   first
    |exact h
    |exact h.elim
    |exact⟨dn,(zlh h).mono fun e w'' he=>by cases e<;>exact he⟩
    |exact⟨dn,zrh h⟩
 |halt x w'=>cases x<;>simp only [Oper.upon,Oper.uponIn]at h ⊢ <;>first|exact h|exact h.elim
theorem zbq{rd:Option Nat}{m:Nat}{P:Program}{ops:Array Oper}{Q:Exit->Act->World->Prop}(hnd:∀o ∈ ops,∀c,o.op ≠ .defer c)(hq:¬LetsOut Q):∀(L:List Nat) (a:Act) (w:World),wpOps P ops Q L a w->wpOpsIn (z5u rd) m P ops Q L a w
 | [],_,_,h=>h
 |i::L,a,w,h=>by
  simp only [wpOps,wpOpsIn]at h ⊢
  cases ho:ops[i]? with
  |none=>rw [ho]at h;exact zbq hnd hq L a w h
  |some o=>
   rw [ho]at h
   simp only at h ⊢
   have hm:o ∈ ops:=by
    obtain⟨hi,rfl⟩:=Array.getElem?_eq_some_iff.1 ho
    exact Array.getElem_mem hi
   split at h
   ·rename_i hw
    rw [if_pos hw]
    exact Oper.wpIn_mono (fun a w hh=>zbq hnd hq L a w hh) (zhj (hnd o hm) (h.resolve_right fun k=>hq k.2))
   ·rename_i hw
    rw [if_neg hw]
    exact⟨fun _ _=>trivial,zbq hnd hq L _ w h⟩
theorem ztp{rd:Option Nat}{m:Nat}{P:Program}{ops:Array Oper}{Q:Exit->Act->World->Prop}(hnd:∀o ∈ ops,∀c,o.op ≠ .defer c)(hq:¬LetsOut Q){i:Nat}{K:Act->World->Prop}{a:Act}{w:World}(h:wpOp P ops Q i K a w):wpOpIn (z5u rd) m P ops Q i K a w:=by
 unfold wpOp at h
 unfold wpOpIn
 cases ho:ops[i]? with
 |none=>rw [ho]at h;exact h
 |some o=>
  rw [ho]at h
  simp only at h ⊢
  have hm:o ∈ ops:=by
   obtain⟨hi,rfl⟩:=Array.getElem?_eq_some_iff.1 ho
   exact Array.getElem_mem hi
  split at h
  ·rename_i hw
   rw [if_pos hw]
   exact zhj (hnd o hm) (h.resolve_right fun k=>hq k.2)
  ·rename_i hw
   rw [if_neg hw]
   exact⟨fun _ _=>trivial,h⟩
theorem zjq{rd:Option Nat}{m:Nat}{P:Program}{md:Region.Mode}{ops:Array Oper}{Q:Exit->Act->World->Prop}(hnd:∀o ∈ ops,∀c,o.op ≠ .defer c)(hq:¬LetsOut Q):∀(fuel:Nat) (listed:Array Bool) (a:Act) (w:World),wpAny P md ops Q fuel listed a w->
  wpAnyIn (z5u rd) m P md ops Q fuel listed a w
 | 0,_,_,_,h=>h
 |fuel+1,listed,a,w,h=>⟨h.1,fun i hi=>wpOpIn_mono (fun a w hh=>zjq hnd hq fuel _ a w hh) (ztp hnd hq (h.2 i hi))⟩
def AOp.stk:AOp->Bool
 | .stuck=>true
 | _=>false
def zd7(l:List AIns):Bool:=l.all fun i=> !i.op.stk
theorem zc1{C:Ctx}{ops:Array Oper}{need:Nat->Nd}:∀(l:List Oper) (i:Nat) (as_:List AIns),cOps C ops need l i=some as_->zd7 as_=true->∀o ∈ l,∀c,o.op ≠ .defer c
 | [],_,_,_,_,o,ho,_=>by simp at ho
 |x::l,i,as_,h,hn,o,ho,c=>by
  simp only [cOps,Option.bind_eq_some_iff,Option.map_eq_some_iff]at h
  obtain⟨a,ha,as',has,rfl⟩:=h
  simp only [zd7,List.all_cons,Bool.and_eq_true]at hn
  rcases List.mem_cons.1 ho with rfl|ho
  ·intro e
   simp only [cIns,Option.map_eq_some_iff]at ha
   obtain⟨g,hg,rfl⟩:=ha
   have h1:=hn.1
   rw [e]at h1
   simp [cOp,AOp.stk]at h1
  ·exact zc1 l (i+1) as' has hn.2 o ho c
def PostI(n:Nat)(Q:AExit->Env->Store->Prop)(γ0:Places)(w0:World)(C:Ctx)(a:Act):Exit->Act->World->Prop:=
 fun e a' w'=>∃ae Z' O' γ',e=AExit.out ae/\ Q ae Z' O'/\ Step γ0 w0 γ' w'/\ Rel C γ' O' w'/\ EnvR γ' w' Z' a'.tmps/\ a'.defers=a.defers/\ a'.tmps.size=n
theorem PostI.tight{n:Nat}{Q:AExit->Env->Store->Prop}{γ0:Places}{w0:World}{C:Ctx}{a:Act}:¬LetsOut (PostI n Q γ0 w0 C a):=by
 rintro⟨a',w',ae,Z',O',γ',h,_⟩
 cases ae<;>cases h
def SWpI(rd:Option Nat)(C:Ctx)(n k:Nat)(ac:ACode)(Q:AExit->Env->Store->Prop)(Z:Env)(O:Store):Prop:=
 ∀(c:Code),z16 C n c=some ac->∀(m:Nat) (γ0:Places) (w0:World),Glob C γ0 w0->γ0.length=k->∀(γ:Places) (a:Act) (w:World),Step γ0 w0 γ w->Rel C γ O w->EnvR γ w Z a.tmps->a.tmps.size=n->
  c.wpIn (z5u rd) m C.P (PostI n Q γ0 w0 C a) a w
section
variable {rd:Option Nat} {C:Ctx} {n k:Nat} {Q:AExit->Env->Store->Prop} {Z:Env} {O:Store}
theorem SWpI.skip(h:Q .normal Z O):SWpI rd C n k .skip Q Z O:=by
 intro c hc m γ0 w0 hgl hk γ a w hst hR hE hn
 rcases zfc hc with rfl| ⟨l,rfl⟩
 ·exact wpIn_skip ⟨.normal,Z,O,γ,rfl,h,hst,hR,hE,rfl,hn⟩
 ·exact wpIn_label ⟨.normal,Z,O,γ,rfl,h,hst,hR,hE,rfl,hn⟩
theorem SWpI.seq{x y:ACode}(h:SWpI rd C n k x (z2b (SWpI rd C n k y Q) Q) Z O):SWpI rd C n k (.seq x y) Q Z O:=by
 intro c hc m γ0 w0 hgl hk γ a w hst hR hE hn
 obtain⟨c1,c2,rfl,h1,h2⟩:=za5 hc
 refine wpIn_seq (wpIn_mono (h c1 h1 m γ0 w0 hgl hk γ a w hst hR hE hn) ?_)
 rintro e a' w' ⟨ae,Z',O',γ',rfl,hq,q1,q2,q3,q4,q5⟩
 cases ae with
 |normal=>
  refine wpIn_mono (hq c2 h2 m γ0 w0 hgl hk γ' a' w' q1 q2 q3 q5) ?_
  rintro e a2 w2 ⟨ae,Z2,O2,γ2,k1,k2,k3,k4,k5,k6,k7⟩
  exact⟨ae,Z2,O2,γ2,k1,k2,k3,k4,k5,k6.trans q4,k7⟩
 |exit id=>exact⟨_,Z',O',γ',rfl,hq,q1,q2,q3,q4,q5⟩
 |ret=>exact⟨_,Z',O',γ',rfl,hq,q1,q2,q3,q4,q5⟩
theorem SWpI.block{id:Nat}{x:ACode}(h:SWpI rd C n k x (blkQ id Q) Z O):SWpI rd C n k (.block id x) Q Z O:=by
 intro c hc m γ0 w0 hgl hk γ a w hst hR hE hn
 obtain⟨c1,rfl,h1⟩:=zc0 hc
 refine wpIn_block (wpIn_mono (h c1 h1 m γ0 w0 hgl hk γ a w hst hR hE hn) ?_)
 rintro e a' w' ⟨ae,Z',O',γ',rfl,hq,q⟩
 cases ae with
 |normal=>exact⟨.normal,Z',O',γ',rfl,hq,q⟩
 |exit id'=>
  simp only [AExit.out,Exit.inBlock]
  simp only [blkQ]at hq
  split at hq
  ·rename_i he
   rw [if_pos he]
   exact⟨.normal,Z',O',γ',rfl,hq,q⟩
  ·rename_i he
   rw [if_neg he]
   exact⟨.exit id',Z',O',γ',rfl,hq,q⟩
 |ret=>exact⟨.ret,Z',O',γ',rfl,hq,q⟩
theorem SWpI.reg{ops:List AIns}(hs:zd7 ops=true)(h:zn C (Q .normal) ops Hist.none Z O):SWpI rd C n k (.reg ops) Q Z O:=by
 intro c hc m γ0 w0 hgl hk γ a w hst hR hE hn
 obtain⟨id,os,draw,rfl⟩:=zfb hc
 obtain⟨hd,hc'⟩:=za4 hc
 clear hc
 have hdst:=zce hd
 rcases hc' with⟨rfl,hc⟩| ⟨rfl,p,q,hc⟩| ⟨rfl,l,hl,h1⟩
 ·obtain⟨as_,e,hf,hok,hb,h1⟩:=za6 hc
  cases e
  have hnd:∀o ∈ os,∀c,o.op ≠ .defer c:=fun o ho=>zc1 os.toList 0 ops h1 hs o (by simpa using ho)
  have hrun:=z8h (K:=Q .normal) os.toList 0 ops (fun j=>by simp) h1 Hist.none Hist.none Z O ⟨fun _ hs=>hs.elim,fun _ _=>trivial,fun _ _=>trivial⟩ h
  obtain⟨s1,R1⟩:=hR.drawn (w':={ w with drawn:=w.drawn+1 }) rfl rfl rfl rfl
  refine wpIn_region_any hf (zjq hnd PostI.tight _ _ _ _ ?_)
  refine zad hb hdst os.size (Array.replicate os.size false) (List.range' 0 os.size) (by simp) z92 List.pairwise_lt_range' (zcd os) (by simp)
   (fun x i hx hi hxi=>zhc hok ((z92 i).1 hi).1 hxi) Hist.none Z O γ a _ (by simpa using hrun) R1 (hE.mono s1) hn ?_
  intro Z' O' γ' a' w' k1 k2 k3 k4 k5 k6
  exact⟨.normal,Z',O',γ',rfl,k1,hst.trans (s1.trans k2),k3,k4,k5,k6⟩
 ·rcases hc with hc|hc
  ·obtain⟨_,_,e,_⟩:=za9 hc
   cases e
  ·obtain⟨_,_,e,_⟩:=za8 hc
   cases e
 ·cases hl
  have hnd:∀o ∈ os,∀c,o.op ≠ .defer c:=fun o ho=>zc1 os.toList 0 ops h1 hs o (by simpa using ho)
  have hrun:=z8h (K:=Q .normal) os.toList 0 ops (fun j=>by simp) h1 Hist.none Hist.none Z O ⟨fun _ hs=>hs.elim,fun _ _=>trivial,fun _ _=>trivial⟩ h
  refine wpIn_region (zbq hnd PostI.tight _ _ _ ?_)
  refine zdd hdst (List.range os.size) Hist.none Z O γ a w (by rw [List.range_eq_range'];simpa using hrun) hR hE hn ?_
  intro Z' O' γ' a' w' k1 k2 k3 k4 k5 k6
  exact⟨.normal,Z',O',γ',rfl,k1,hst.trans k2,k3,k4,k5,k6⟩
end
end
section
open Go.RowKit
def DefOK(w:World)(a:Act)(w':World)(a':Act):Prop:=
 a'.defers=a.defers \/ ∃D,w.heap.size<=D/\ a'.defers={ target:=.collected D,args:= #[] }::a.defers/\ w'.heap[D]? =some (.deferred (some []))
def PostD(n:Nat)(Q:AExit->Env->Store->Prop)(γ0:Places)(w0:World)(C:Ctx)(a:Act):Exit->Act->World->Prop:=
 fun e a' w'=>∃ae Z' O' γ',e=AExit.out ae/\ Q ae Z' O'/\ Step γ0 w0 γ' w'/\ Rel C γ' O' w'/\ EnvR γ' w' Z' a'.tmps/\ DefOK w0 a w' a'/\ a'.tmps.size=n
def SWpD(C:Ctx)(n k:Nat)(ac:ACode)(Q:AExit->Env->Store->Prop)(Z:Env)(O:Store):Prop:=
 ∀(c:Code),z16 C n c=some ac->∀(γ0:Places) (w0:World),Glob C γ0 w0->γ0.length=k->∀(γ:Places) (a:Act) (w:World),Step γ0 w0 γ w->Rel C γ O w->EnvR γ w Z a.tmps->a.tmps.size=n->
  c.wpIn Fence.wide 2 C.P (PostD n Q γ0 w0 C a) a w
section
variable {C:Ctx} {n k:Nat} {Q:AExit->Env->Store->Prop} {Z:Env} {O:Store}
theorem SWpD.of{ac:ACode}(h:zW C n k ac Q Z O):SWpD C n k ac Q Z O:=by
 intro c hc γ0 w0 hgl hk γ a w hst hR hE hn
 refine wpIn_mono (wpIn_wide.2 (h c hc γ0 w0 hgl hk γ a w hst hR hE hn)) ?_
 rintro e a' w' ⟨ae,Z',O',γ',h1,h2,h3,h4,h5,h6,h7⟩
 exact⟨ae,Z',O',γ',h1,h2,h3,h4,h5,.inl h6,h7⟩
theorem SWpD.seqS{x y:ACode}(h:zW C n k x (z2b (SWpD C n k y Q) Q) Z O):SWpD C n k (.seq x y) Q Z O:=by
 intro c hc γ0 w0 hgl hk γ a w hst hR hE hn
 obtain⟨c1,c2,rfl,h1,h2⟩:=za5 hc
 refine wpIn_seq (wpIn_mono (wpIn_wide.2 (h c1 h1 γ0 w0 hgl hk γ a w hst hR hE hn)) ?_)
 rintro e a' w' ⟨ae,Z',O',γ',rfl,hq,q1,q2,q3,q4,q5⟩
 cases ae with
 |normal=>
  refine wpIn_mono (hq c2 h2 γ0 w0 hgl hk γ' a' w' q1 q2 q3 q5) ?_
  rintro e a2 w2 ⟨ae,Z2,O2,γ2,k1,k2,k3,k4,k5,k6,k7⟩
  refine⟨ae,Z2,O2,γ2,k1,k2,k3,k4,k5,?_,k7⟩
  rcases k6 with k6| ⟨D,d1,d2,d3⟩
  ·exact .inl (k6.trans q4)
  ·exact .inr ⟨D,d1,by rw [d2,q4],d3⟩
 |exit id=>exact⟨_,Z',O',γ',rfl,hq,q1,q2,q3,.inl q4,q5⟩
 |ret=>exact⟨_,Z',O',γ',rfl,hq,q1,q2,q3,.inl q4,q5⟩
theorem SWpD.seqR{x y:ACode}(h:SWpD C n k x (z2b (fun Z' O'=>zW C n O'.length y Q Z' O') Q) Z O):SWpD C n k (.seq x y) Q Z O:=by
 intro c hc γ0 w0 hgl hk γ a w hst hR hE hn
 obtain⟨c1,c2,rfl,h1,h2⟩:=za5 hc
 refine wpIn_seq (wpIn_mono (h c1 h1 γ0 w0 hgl hk γ a w hst hR hE hn) ?_)
 rintro e a' w' ⟨ae,Z',O',γ',rfl,hq,q1,q2,q3,q4,q5⟩
 cases ae with
 |normal=>
  refine wpIn_mono (wpIn_wide.2 (hq c2 h2 γ' w' q2.gl q2.len γ' a' w' (Step.refl _ _) q2 q3 q5)) ?_
  rintro e a2 w2 ⟨ae,Z2,O2,γ2,k1,k2,k3,k4,k5,k6,k7⟩
  refine⟨ae,Z2,O2,γ2,k1,k2,q1.trans k3,k4,k5,?_,k7⟩
  rcases q4 with q4| ⟨D,d1,d2,d3⟩
  ·exact .inl (k6.trans q4)
  ·exact .inr ⟨D,d1,k6.trans d2,k3.other q2 d3 rfl⟩
 |exit id=>exact⟨_,Z',O',γ',rfl,hq,q1,q2,q3,q4,q5⟩
 |ret=>exact⟨_,Z',O',γ',rfl,hq,q1,q2,q3,q4,q5⟩
theorem SWpD.block{id:Nat}{x:ACode}(h:SWpD C n k x (blkQ id Q) Z O):SWpD C n k (.block id x) Q Z O:=by
 intro c hc γ0 w0 hgl hk γ a w hst hR hE hn
 obtain⟨c1,rfl,h1⟩:=zc0 hc
 refine wpIn_block (wpIn_mono (h c1 h1 γ0 w0 hgl hk γ a w hst hR hE hn) ?_)
 rintro e a' w' ⟨ae,Z',O',γ',rfl,hq,q⟩
 cases ae with
 |normal=>exact⟨.normal,Z',O',γ',rfl,hq,q⟩
 |exit id'=>
  simp only [AExit.out,Exit.inBlock]
  simp only [blkQ]at hq
  split at hq
  ·rename_i he
   rw [if_pos he]
   exact⟨.normal,Z',O',γ',rfl,hq,q⟩
  ·rename_i he
   rw [if_neg he]
   exact⟨.exit id',Z',O',γ',rfl,hq,q⟩
 |ret=>exact⟨.ret,Z',O',γ',rfl,hq,q⟩
end
theorem zl9{C:Ctx}{n:Nat}{c:Code}{g:AX}{ps:List Nat}{xa xb:ACode}(hc:z16 C n c=some (.rangef g ps xa xb)):∃go p ca cb,c=.rangeFunc go p ca cb/\ cX C go=some g/\ p.toList=ps/\ z16 C n ca=some xa/\ z16 C n cb=some xb:=by
 cases c
 case rangeFunc go p ca cb=>
  simp only [z16,Option.bind_eq_some_iff,Option.map_eq_some_iff,ACode.rangef.injEq]at hc
  obtain⟨g',h1,a',h2,b',h3,rfl,rfl,rfl,rfl⟩:=hc
  exact⟨_,_,_,_,rfl,h1,rfl,h2,h3⟩
 case region id ops draw=>rcases z4c hc with⟨_,h⟩| ⟨_,_,h⟩<;>cases h
 all_goals simp [z16,Option.bind_eq_some_iff,Option.map_eq_some_iff]at hc
theorem ACallsTo.of_bodyD{C:Ctx}{f:FuncId}{n:Nat}{ts:List RV}{ac:ACode}(hc:cFn C f=some (n,ts,ac)){args:List AV}{O O':Store}{v:AV}(hn:args.length<=n)
  (h:Wf O.length O->RLs O.length args->SWpD C n O.length ac (endQ O.length ts v O') (z2h args) O):ACallsTo C f args O v O':=by
 simp only [cFn,Option.bind_eq_some_iff]at hc
 obtain⟨fn,hf,hc⟩:=hc
 split at hc
 ·cases hc
 ·rename_i hname
  simp only [Option.bind_eq_some_iff,Option.map_eq_some_iff,Prod.mk.injEq]at hc
  obtain⟨c,hb,ts',hts,ac',hac,rfl,rfl,rfl⟩:=hc
  intro γ w cargs hR ha
  left
  constructor
  ·have h1:fn.name ≠ "runtime.NumGoroutine" :=by simpa using hname
   simp [callFunc,hf,h1,hb]
  ·have hl:=ha.length
   refine(callsIn_wide (n:=2)).1 (callsIn_of_wp_marks hf hb trivial ?_)
   have hw:=h hR.wf (by rw [<-hR.len];exact VRt.rl _ _ ha) c hac γ w hR.gl hR.len γ { tmps:=cargs.toArray++Array.replicate (fn.ntmps-cargs.toArray.size) undef,defers:=[] } w (Step.refl _ _) hR
    (z8t ha _) (by simp;omega)
   refine wpIn_mono hw ?_
   rintro e a' w' ⟨ae,Z',O2,γ',rfl,hq,q1,q2,q3,q4,q5⟩
   have fin:(oks Z' O2 ts'=true/\ DownV O.length (retV ts' Z' O2) O2 v O')->LeavesInM Fence.wide 2 C.P fn a'.tmps (fun e w'=>∃cv γ',e=.returned cv/\ Step γ w γ' w'/\ Rel C γ' O' w'/\ VR γ' w' v cv) a'.defers .returning w':=by
    rintro⟨hk,hd⟩
    rcases q4 with q4| ⟨D,d1,d2,d3⟩
    ·simp only at q4
     rw [q4]
     obtain⟨rv,r1,r2⟩:=z7n q2 q3 hts hk
     obtain⟨γ2,k1,k2,k3⟩:=hd.sound q2 r2 q1 hR.gl (by rw [hR.len];exact Nat.le_refl _)
     exact⟨_,r1,_,γ2,rfl,k1,k2,k3⟩
    ·simp only at d2
     rw [d2]
     have hbk:=Book.putObj (.deferred none) d3 rfl
     have R2:=q2.book hbk
     have E2:EnvR γ' (w'.putObj D (.deferred none)) Z' a'.tmps:=fun t=>VR.book hbk _ _ (q3 t)
     have S2:Step γ w γ' (w'.putObj D (.deferred none)):=q1.book hbk fun b hb=>World.putObj_heap_other (by omega)
     obtain⟨rv,r1,r2⟩:=z7n R2 E2 hts hk
     obtain⟨γ2,k1,k2,k3⟩:=hd.sound R2 r2 S2 hR.gl (by rw [hR.len];exact Nat.le_refl _)
     exact⟨by simp,.inl ⟨D,_,rfl,run_takeDeferred d3,⟨_,r1,_,γ2,rfl,k1,k2,k3⟩⟩⟩
   cases ae with
   |normal=>exact fin hq
   |exit id=>exact hq.elim
   |ret=>exact fin hq
theorem VRss.elem{γ:Places}{w:World}{k:Nat}:∀{es:List (List AV)} {vals:List Value},VRss γ w es vals->(∀e ∈ es,e.length=k)->∀{i:Nat} {e:List AV},es[i]? =some e->∃A v B,vals=A++v++B/\ A.length=i*k/\ VRs γ w e v
 | [],vals,h,_,i,e,hi=>by simp at hi
 |x::es,vals,h,hu,i,e,hi=>by
  simp only [VRss]at h
  obtain⟨v1,v2,rfl,h1,h2⟩:=h
  cases i with
  |zero=>
   simp at hi;subst hi
   exact⟨[],v1,v2,by simp,by simp,h1⟩
  |succ i=>
   simp at hi
   obtain⟨A,v,B,rfl,h3,h4⟩:=VRss.elem h2 (fun e he=>hu e (by simp [he])) hi
   refine⟨v1++A,v,B,by simp [List.append_assoc],?_,h4⟩
   rw [List.length_append,h3,<-h1.length,hu x (by simp),Nat.succ_mul,Nat.add_comm]
end
section
/-! A number of rounds. -/
def zbu(C:Ctx)(n k:Nat)(x:ACode)(Q:AExit->Env->Store->Prop):Nat->Env->Store->Prop
 | 0,_,_=>False
 |m+1,Z,O=>zW C n k x (z2b (zbu C n k x Q m) Q) Z O
theorem zt2{K K':Env->Store->Prop}{Q Q':AExit->Env->Store->Prop}(hk:∀Z O,K Z O->K' Z O)(hq:∀e Z O,Q e Z O->Q' e Z O)(e:AExit)(Z:Env)(O:Store)(h:z2b K Q e Z O):z2b K' Q' e Z O:=by
 cases e with
 |normal=>exact hk _ _ h
 |exit id=>exact hq _ _ _ h
 |ret=>exact hq _ _ _ h
theorem zW.rounds{C:Ctx}{n k m:Nat}{x:ACode}{Q:AExit->Env->Store->Prop}{Z:Env}{O:Store}(h:zbu C n k x Q m Z O):zW C n k (.loop x) Q Z O:=by
 refine zW.loop (fun m Z O=>zbu C n k x Q m Z O) m h ?_
 intro m Z O hm
 cases m with
 |zero=>exact hm.elim
 |succ m=>exact zW.mono hm (zt2 (fun Z O h=>⟨m,Nat.lt_succ_self m,h⟩) fun _ _ _ h=>h)
/-! The machine. -/
mutual
def rlB(k:Nat):AV->Bool
 | .ptr r _ _=>Nat.blt r k
 | .sl r _ _ _ _=>Nat.blt r k
 | .asl r _ _ _ _ _=>Nat.blt r k
 | .bld r=>Nat.blt r k
 | .bsl r _=>Nat.blt r k
 | .vp cs=>rlsB k cs
 | .vsl _ es _=>zb4 k es
 | .fn _ caps=>rlsB k caps
 | .agg cs=>rlsB k cs
 | .tup vs=>rlsB k vs
 | _=>true
def rlsB(k:Nat):List AV->Bool
 | []=>true
 |a::as_=>rlB k a && rlsB k as_
def zb4(k:Nat):List (List AV)->Bool
 | []=>true
 |e::es=>rlsB k e && zb4 k es
end
mutual
theorem z13{k:Nat}:∀(a:AV),rlB k a=true->RL k a
 | .ptr r _ _,h=>by simpa [rlB,RL]using h
 | .sl r _ _ _ _,h=>by simpa [rlB,RL]using h
 | .asl r _ _ _ _ _,h=>by simpa [rlB,RL]using h
 | .bld r,h=>by simpa [rlB,RL]using h
 | .bsl r _,h=>by simpa [rlB,RL]using h
 | .vp cs,h=>by simp only [rlB]at h;simp only [RL];exact z7k cs h
 | .vsl _ es _,h=>by simp only [rlB]at h;simp only [RL];exact zif es h
 | .fn _ caps,h=>by simp only [rlB]at h;simp only [RL];exact z7k caps h
 | .agg cs,h=>by simp only [rlB]at h;simp only [RL];exact z7k cs h
 | .tup vs,h=>by simp only [rlB]at h;simp only [RL];exact z7k vs h
 | .bnil,_=>by simp only [RL]
 | .any,_=>by simp only [RL]
 | .undef,_=>by simp only [RL]
 | .bool _,_=>by simp only [RL]
 | .int _ _,_=>by simp only [RL]
 | .str _,_=>by simp only [RL]
 | .nilp,_=>by simp only [RL]
 | .nilsl,_=>by simp only [RL]
 | .nilfn,_=>by simp only [RL]
theorem z7k{k:Nat}:∀(l:List AV),rlsB k l=true->RLs k l
 | [],_=>by simp only [RLs]
 |a::l,h=>by simp only [rlsB,Bool.and_eq_true]at h;simp only [RLs];exact⟨z13 a h.1,z7k l h.2⟩
theorem zif{k:Nat}:∀(l:List (List AV)),zb4 k l=true->RLss k l
 | [],_=>by simp only [RLss]
 |a::l,h=>by simp only [zb4,Bool.and_eq_true]at h;simp only [RLss];exact⟨z7k a h.1,zif l h.2⟩
end
/-! Soundness. -/
section
variable {C:Ctx}
end
end
section
open Go.ChangeShapes Go.WideShapes Go.ChangeAt Go.RowKit
theorem Rel.empty{C:Ctx}(hg:∀g,C.gl g=none)(w:World):Rel C [] [] w:=
 ⟨rfl,by simp,by simp,by simp,fun g cs h=>by rw [hg]at h;cases h⟩
theorem ACallsTo.calls{C:Ctx}{f:FuncId}{e:Nat × List RV × ACode}(hc:cFn C f=some e){args:List AV}{O':Store}{b:Bool}(h:ACallsTo C f args [] (.bool b) O'){W:World}(hR:Rel C [] [] W){cargs:List Value}(ha:VRt [] W args cargs):
  Calls C.P f cargs.toArray W fun e w'=>e=.returned (.bool b)/\ Below W.heap.size W w':=by
 rcases h [] W cargs hR ha with⟨_,h⟩| ⟨cv,γ',w',h,_⟩
 ·refine h.mono ?_
  rintro e w' ⟨cv,γ',rfl,hs,_,hv⟩
  simp only [VR]at hv
  subst hv
  exact⟨rfl,hs.os,hs.tape,hs.output,hs.size,fun k hk=>hs.imm k hk (by simp)⟩
 ·exfalso
  simp only [cFn,Option.bind_eq_some_iff]at hc
  obtain⟨fn,hf,hc⟩:=hc
  split at hc
  ·cases hc
  ·rename_i hname
   simp only [Option.bind_eq_some_iff]at hc
   obtain⟨c,hb,_⟩:=hc
   have h1:fn.name ≠ "runtime.NumGoroutine" :=by simpa using hname
   simp [callFunc,hf,h1,hb]at h
section
variable {H:Type} {enc:TypeId × Value->H} {P:Program}
theorem zjg (hl : laidOutB P = true) {W W' : World} (hb : Below W.heap.size W W') : ∀ {ts : List TypeId} {vs : List Value} {ds : List (DataW H)} {ps : List MemPlace}, (ts.all fun t => P.readableRec t && decide (t < P.types.size)) = true ->
    DataW.TrodAll enc P W 0 (fun _=>true) true ts vs ds ps->(∀x ∈ ps,x.block<W.heap.size)->DataW.TrodAll enc P W' 0 (fun b=>decide (b<W.heap.size)) true ts vs ds ps
  | [],[],[],_,_,h,_=>h
  |t::ts,v::vs,d::ds,ps,ht,h,hlt=>by
    obtain⟨p,q,h1,h2,rfl⟩:=h
    simp only [List.all_cons,Bool.and_eq_true,decide_eq_true_eq]at ht
    exact⟨p,q,Below.trod hl ht.1.1 ht.1.2 h1 hb (fun x hx=>hlt x (by simp [hx])),zjg hl hb ht.2 h2 (fun x hx=>hlt x (by simp [hx])),rfl⟩
  | [],[],_::_,_,_,h,_=>h.elim
  | [],_::_,_,_,_,h,_=>h.elim
  | _::_,[],_,_,_,h,_=>h.elim
  | _::_,_::_,[],_,_,h,_=>h.elim
theorem zo6{f:Func}{s:ChangeSpec}{W W':World}{args:Array Value}{ds gs:List (DataW H)}{before:List MemPlace}{tb:TypeId}
  (hW:DataW.Whole enc P f.params.toList s.vars false W args.toList ds gs before) (hvars:s.vars=[]) (hfn:∀gs,gs=[]->(s.fn H (ds++gs)).results=[.lit (.bool true)]/\ (s.fn H (ds++gs)).args=ds/\ (s.fn H (ds++gs)).vars=[])
  (hres:f.resultTypes= #[tb]) (htb:P.underlying tb=some .bool) (hl:laidOutB P=true) (hpar:(f.params.toList.all fun t=>P.readableRec t && decide (t<P.types.size))=true) (hb:Below W.heap.size W W'):
  s.post enc P f false true false false W args (.bool true) W':=by
 have hlt:∀p ∈ before,p.block<W.heap.size:=fun p hp=>hW.lt p hp
 have hW0:=hW
 obtain⟨p,q,hA,hV,rfl,hfz,hnd⟩:=hW
 have hgs:gs=[]/\ q=[]:=by
  rw [hvars]at hV
  cases gs with
  |nil=>exact⟨rfl,hV⟩
  |cons a l=>exact hV.elim
 obtain⟨rfl,rfl⟩:=hgs
 obtain⟨k1,k2,k3⟩:=hfn [] rfl
 refine⟨ds,[],_,[],p,[],hW0,?_,?_,?_,hb.frame _,fun h=>by cases h⟩
 ·rw [k1,hres]
  exact trodAll_cons_mk (shut_bool htb _) trodAll_mk0
 ·rw [k2]
  exact zjg hl hb hpar hA (fun x hx=>hlt x (by simp [hx]))
 ·rw [k3,hvars];rfl
end
end
section
section
variable {C:Ctx} {K:Env->Store->Prop} {Z:Env} {O:Store} {d:Option Nat} {g:Option (Nat × Bool)} {nd:Nd} {is:List AIns} {H:Hist}
theorem z5f{x}:zn C K (⟨d,g,nd,.mv x⟩::is) H Z O=zw (zn C K is) H ⟨d,g,nd,.mv x⟩ Z O:=rfl
theorem z5h{c}{a}{b}:zn C K (⟨d,g,nd,.pick c a b⟩::is) H Z O=zw (zn C K is) H ⟨d,g,nd,.pick c a b⟩ Z O:=rfl
theorem z4q{z}:zn C K (⟨d,g,nd,.alloc z⟩::is) H Z O=zw (zn C K is) H ⟨d,g,nd,.alloc z⟩ Z O:=rfl
theorem zpy:zn C K (⟨d,g,nd,.allB⟩::is) H Z O=zw (zn C K is) H ⟨d,g,nd,.allB⟩ Z O:=rfl
theorem zpz{s}{x}:zn C K (⟨d,g,nd,.appB s x⟩::is) H Z O=zw (zn C K is) H ⟨d,g,nd,.appB s x⟩ Z O:=rfl
theorem z4t{x}:zn C K (⟨d,g,nd,.box x⟩::is) H Z O=zw (zn C K is) H ⟨d,g,nd,.box x⟩ Z O:=rfl
theorem z4u{z}{ps}:zn C K (⟨d,g,nd,.build z ps⟩::is) H Z O=zw (zn C K is) H ⟨d,g,nd,.build z ps⟩ Z O:=rfl
theorem z5a{sz}{xs}:zn C K (⟨d,g,nd,.lit sz xs⟩::is) H Z O=zw (zn C K is) H ⟨d,g,nd,.lit sz xs⟩ Z O:=rfl
theorem z5b{ag}{n}{x}:zn C K (⟨d,g,nd,.load ag n x⟩::is) H Z O=zw (zn C K is) H ⟨d,g,nd,.load ag n x⟩ Z O:=rfl
theorem z5j{n}{a}{x}:zn C K (⟨d,g,nd,.store n a x⟩::is) H Z O=zw (zn C K is) H ⟨d,g,nd,.store n a x⟩ Z O:=rfl
theorem z5g{x}:zn C K (⟨d,g,nd,.nilc x⟩::is) H Z O=zw (zn C K is) H ⟨d,g,nd,.nilc x⟩ Z O:=rfl
theorem z4s{op}{bk}{x}{y}:zn C K (⟨d,g,nd,.bin op bk x y⟩::is) H Z O=zw (zn C K is) H ⟨d,g,nd,.bin op bk x y⟩ Z O:=rfl
theorem z5k{op}{x}:zn C K (⟨d,g,nd,.un op x⟩::is) H Z O=zw (zn C K is) H ⟨d,g,nd,.un op x⟩ Z O:=rfl
theorem z4w{c}{x}:zn C K (⟨d,g,nd,.conv c x⟩::is) H Z O=zw (zn C K is) H ⟨d,g,nd,.conv c x⟩ Z O:=rfl
theorem z5e{f}{caps}:zn C K (⟨d,g,nd,.mkfn f caps⟩::is) H Z O=zw (zn C K is) H ⟨d,g,nd,.mkfn f caps⟩ Z O:=rfl
theorem z5c{sz}{z}{l}{c}:zn C K (⟨d,g,nd,.make sz z l c⟩::is) H Z O=zw (zn C K is) H ⟨d,g,nd,.make sz z l c⟩ Z O:=rfl
theorem z5i{k}{x}{lo}{hi}{mx}:zn C K (⟨d,g,nd,.slice k x lo hi mx⟩::is) H Z O=zw (zn C K is) H ⟨d,g,nd,.slice k x lo hi mx⟩ Z O:=rfl
theorem z4z{k}{x}:zn C K (⟨d,g,nd,.fa k x⟩::is) H Z O=zw (zn C K is) H ⟨d,g,nd,.fa k x⟩ Z O:=rfl
theorem z50{ag}{n}{off}{x}:zn C K (⟨d,g,nd,.fld ag n off x⟩::is) H Z O=zw (zn C K is) H ⟨d,g,nd,.fld ag n off x⟩ Z O:=rfl
theorem z52{n}{sz}{x}{i}:zn C K (⟨d,g,nd,.iaArr n sz x i⟩::is) H Z O=zw (zn C K is) H ⟨d,g,nd,.iaArr n sz x i⟩ Z O:=rfl
theorem z54{sz}{x}{i}:zn C K (⟨d,g,nd,.iaSl sz x i⟩::is) H Z O=zw (zn C K is) H ⟨d,g,nd,.iaSl sz x i⟩ Z O:=rfl
theorem z55{n}{ag}{sz}{x}{i}:zn C K (⟨d,g,nd,.ixArr n ag sz x i⟩::is) H Z O=zw (zn C K is) H ⟨d,g,nd,.ixArr n ag sz x i⟩ Z O:=rfl
theorem z56{x}{i}:zn C K (⟨d,g,nd,.ixStr x i⟩::is) H Z O=zw (zn C K is) H ⟨d,g,nd,.ixStr x i⟩ Z O:=rfl
theorem z4y{i}{x}:zn C K (⟨d,g,nd,.ext i x⟩::is) H Z O=zw (zn C K is) H ⟨d,g,nd,.ext i x⟩ Z O:=rfl
theorem z59{x}:zn C K (⟨d,g,nd,.lenStr x⟩::is) H Z O=zw (zn C K is) H ⟨d,g,nd,.lenStr x⟩ Z O:=rfl
theorem z58{x}:zn C K (⟨d,g,nd,.lenSl x⟩::is) H Z O=zw (zn C K is) H ⟨d,g,nd,.lenSl x⟩ Z O:=rfl
theorem z57{n}:zn C K (⟨d,g,nd,.lenArr n⟩::is) H Z O=zw (zn C K is) H ⟨d,g,nd,.lenArr n⟩ Z O:=rfl
theorem z4r{sz}{s}{x}:zn C K (⟨d,g,nd,.app sz s x⟩::is) H Z O=zw (zn C K is) H ⟨d,g,nd,.app sz s x⟩ Z O:=rfl
theorem z4x{sz}{e}{s}:zn C K (⟨d,g,nd,.copy sz e s⟩::is) H Z O=zw (zn C K is) H ⟨d,g,nd,.copy sz e s⟩ Z O:=rfl
theorem z4v{z}{x}:zn C K (⟨d,g,nd,.clear z x⟩::is) H Z O=zw (zn C K is) H ⟨d,g,nd,.clear z x⟩ Z O:=rfl
theorem zq1{x}:zn C K (⟨d,g,nd,.capSl x⟩::is) H Z O=zw (zn C K is) H ⟨d,g,nd,.capSl x⟩ Z O:=rfl
theorem zq0{sz}{z}{s}{n}:zn C K (⟨d,g,nd,.appZ sz z s n⟩::is) H Z O=zw (zn C K is) H ⟨d,g,nd,.appZ sz z s n⟩ Z O:=rfl
theorem z5d{mx}{x}{y}:zn C K (⟨d,g,nd,.minmax mx x y⟩::is) H Z O=zw (zn C K is) H ⟨d,g,nd,.minmax mx x y⟩ Z O:=rfl
variable {lj mj:List AIns}
theorem oj_mv{x}:z11 C K lj mj (⟨d,g,nd,.mv x⟩::is) H Z O=zw (z11 C K lj mj is) H ⟨d,g,nd,.mv x⟩ Z O:=rfl
theorem zpm{c}{a}{b}:z11 C K lj mj (⟨d,g,nd,.pick c a b⟩::is) H Z O=zw (z11 C K lj mj is) H ⟨d,g,nd,.pick c a b⟩ Z O:=rfl
theorem zp1{z}:z11 C K lj mj (⟨d,g,nd,.alloc z⟩::is) H Z O=zw (z11 C K lj mj is) H ⟨d,g,nd,.alloc z⟩ Z O:=rfl
theorem zp0:z11 C K lj mj (⟨d,g,nd,.allB⟩::is) H Z O=zw (z11 C K lj mj is) H ⟨d,g,nd,.allB⟩ Z O:=rfl
theorem zp2{s}{x}:z11 C K lj mj (⟨d,g,nd,.appB s x⟩::is) H Z O=zw (z11 C K lj mj is) H ⟨d,g,nd,.appB s x⟩ Z O:=rfl
theorem oj_box{x}:z11 C K lj mj (⟨d,g,nd,.box x⟩::is) H Z O=zw (z11 C K lj mj is) H ⟨d,g,nd,.box x⟩ Z O:=rfl
theorem zp4{z}{ps}:z11 C K lj mj (⟨d,g,nd,.build z ps⟩::is) H Z O=zw (z11 C K lj mj is) H ⟨d,g,nd,.build z ps⟩ Z O:=rfl
theorem oj_lit{sz}{xs}:z11 C K lj mj (⟨d,g,nd,.lit sz xs⟩::is) H Z O=zw (z11 C K lj mj is) H ⟨d,g,nd,.lit sz xs⟩ Z O:=rfl
theorem zph{ag}{n}{x}:z11 C K lj mj (⟨d,g,nd,.load ag n x⟩::is) H Z O=zw (z11 C K lj mj is) H ⟨d,g,nd,.load ag n x⟩ Z O:=rfl
theorem zpo{n}{a}{x}:z11 C K lj mj (⟨d,g,nd,.store n a x⟩::is) H Z O=zw (z11 C K lj mj is) H ⟨d,g,nd,.store n a x⟩ Z O:=rfl
theorem zpl{x}:z11 C K lj mj (⟨d,g,nd,.nilc x⟩::is) H Z O=zw (z11 C K lj mj is) H ⟨d,g,nd,.nilc x⟩ Z O:=rfl
theorem oj_bin{op}{bk}{x}{y}:z11 C K lj mj (⟨d,g,nd,.bin op bk x y⟩::is) H Z O=zw (z11 C K lj mj is) H ⟨d,g,nd,.bin op bk x y⟩ Z O:=rfl
theorem oj_un{op}{x}:z11 C K lj mj (⟨d,g,nd,.un op x⟩::is) H Z O=zw (z11 C K lj mj is) H ⟨d,g,nd,.un op x⟩ Z O:=rfl
theorem zp8{c}{x}:z11 C K lj mj (⟨d,g,nd,.conv c x⟩::is) H Z O=zw (z11 C K lj mj is) H ⟨d,g,nd,.conv c x⟩ Z O:=rfl
theorem zpk{f}{caps}:z11 C K lj mj (⟨d,g,nd,.mkfn f caps⟩::is) H Z O=zw (z11 C K lj mj is) H ⟨d,g,nd,.mkfn f caps⟩ Z O:=rfl
theorem zpi{sz}{z}{l}{c}:z11 C K lj mj (⟨d,g,nd,.make sz z l c⟩::is) H Z O=zw (z11 C K lj mj is) H ⟨d,g,nd,.make sz z l c⟩ Z O:=rfl
theorem zpn{k}{x}{lo}{hi}{mx}:z11 C K lj mj (⟨d,g,nd,.slice k x lo hi mx⟩::is) H Z O=zw (z11 C K lj mj is) H ⟨d,g,nd,.slice k x lo hi mx⟩ Z O:=rfl
theorem oj_fa{k}{x}:z11 C K lj mj (⟨d,g,nd,.fa k x⟩::is) H Z O=zw (z11 C K lj mj is) H ⟨d,g,nd,.fa k x⟩ Z O:=rfl
theorem oj_fld{ag}{n}{off}{x}:z11 C K lj mj (⟨d,g,nd,.fld ag n off x⟩::is) H Z O=zw (z11 C K lj mj is) H ⟨d,g,nd,.fld ag n off x⟩ Z O:=rfl
theorem zpa{n}{sz}{x}{i}:z11 C K lj mj (⟨d,g,nd,.iaArr n sz x i⟩::is) H Z O=zw (z11 C K lj mj is) H ⟨d,g,nd,.iaArr n sz x i⟩ Z O:=rfl
theorem zpb{sz}{x}{i}:z11 C K lj mj (⟨d,g,nd,.iaSl sz x i⟩::is) H Z O=zw (z11 C K lj mj is) H ⟨d,g,nd,.iaSl sz x i⟩ Z O:=rfl
theorem zpc{n}{ag}{sz}{x}{i}:z11 C K lj mj (⟨d,g,nd,.ixArr n ag sz x i⟩::is) H Z O=zw (z11 C K lj mj is) H ⟨d,g,nd,.ixArr n ag sz x i⟩ Z O:=rfl
theorem zpd{x}{i}:z11 C K lj mj (⟨d,g,nd,.ixStr x i⟩::is) H Z O=zw (z11 C K lj mj is) H ⟨d,g,nd,.ixStr x i⟩ Z O:=rfl
theorem oj_ext{i}{x}:z11 C K lj mj (⟨d,g,nd,.ext i x⟩::is) H Z O=zw (z11 C K lj mj is) H ⟨d,g,nd,.ext i x⟩ Z O:=rfl
theorem zpg{x}:z11 C K lj mj (⟨d,g,nd,.lenStr x⟩::is) H Z O=zw (z11 C K lj mj is) H ⟨d,g,nd,.lenStr x⟩ Z O:=rfl
theorem zpf{x}:z11 C K lj mj (⟨d,g,nd,.lenSl x⟩::is) H Z O=zw (z11 C K lj mj is) H ⟨d,g,nd,.lenSl x⟩ Z O:=rfl
theorem zpe{n}:z11 C K lj mj (⟨d,g,nd,.lenArr n⟩::is) H Z O=zw (z11 C K lj mj is) H ⟨d,g,nd,.lenArr n⟩ Z O:=rfl
theorem oj_app{sz}{s}{x}:z11 C K lj mj (⟨d,g,nd,.app sz s x⟩::is) H Z O=zw (z11 C K lj mj is) H ⟨d,g,nd,.app sz s x⟩ Z O:=rfl
theorem zp9{sz}{e}{s}:z11 C K lj mj (⟨d,g,nd,.copy sz e s⟩::is) H Z O=zw (z11 C K lj mj is) H ⟨d,g,nd,.copy sz e s⟩ Z O:=rfl
theorem zp7{z}{x}:z11 C K lj mj (⟨d,g,nd,.clear z x⟩::is) H Z O=zw (z11 C K lj mj is) H ⟨d,g,nd,.clear z x⟩ Z O:=rfl
theorem zp6{x}:z11 C K lj mj (⟨d,g,nd,.capSl x⟩::is) H Z O=zw (z11 C K lj mj is) H ⟨d,g,nd,.capSl x⟩ Z O:=rfl
theorem zp3{sz}{z}{s}{n}:z11 C K lj mj (⟨d,g,nd,.appZ sz z s n⟩::is) H Z O=zw (z11 C K lj mj is) H ⟨d,g,nd,.appZ sz z s n⟩ Z O:=rfl
theorem zpj{mx}{x}{y}:z11 C K lj mj (⟨d,g,nd,.minmax mx x y⟩::is) H Z O=zw (z11 C K lj mj is) H ⟨d,g,nd,.minmax mx x y⟩ Z O:=rfl
theorem oj_nil:z11 C K lj mj [] H Z O=(zn C K lj H Z O/\ zn C K mj H Z O):=rfl
theorem zp5{f}{xs}:z11 C K lj mj (⟨d,g,nd,.call f xs⟩::is) H Z O=z25 C (z11 C K lj mj is) H Z O d nd f xs (z1g Z g):=rfl
/-! Unsigned numbers as_ bit rows. -/
theorem zbr{k:IntKind}(hk:k.signed=false)(n:Int):k.wrap n=n%2^k.bits:=by simp [IntKind.wrap,hk]
theorem u_nat{k:IntKind}(hk:k.signed=false)(x:BitVec k.bits):k.wrap (x.toNat:Int)=x.toNat:=by
 rw [zbr hk]
 have:=x.isLt
 rw [Int.emod_eq_of_lt (by omega)]
 exact_mod_cast this
theorem getElem?_app{O l:Store}{k:Nat}:(O++l)[O.length+k]? =l[k]?:=by rw [List.getElem?_append_right (by omega),Nat.add_sub_cancel_left]
theorem getElem?_app0{O l:Store}:(O++l)[O.length]? =l[0]?:=getElem?_app (k:=0)
theorem z47{O l:Store}{k:Nat}{x:Option AObj}:(O++l).set (O.length+k) x=O++l.set k x:=by rw [List.set_append_right _ _ (by omega),Nat.add_sub_cancel_left]
theorem z5m{O l:Store}{x:Option AObj}:(O++l).set O.length x=O++l.set 0 x:=z47 (k:=0)
end
end
section
open Go.ChangeShapes Go.WideShapes Go.ChangeAt Go.RowKit
inductive Ty where
 |int (k:IntKind)
 |bool
 |str
 |sl (sz:Nat) (e:Ty)
 |row (ts:List Ty)
 deriving Inhabited
def tile(P:Program):List Field->Nat->Option Nat
 | [],n=>some n
 |f::l,n=>if f.offset=n then tile P l (n+P.cellsOf f.type)else none
def tyOf(P:Program):Nat->TypeId->Option Ty
 | 0,_=>none
 |d+1,t=>match P.underlying t with
  |some .bool=>some .bool
  |some (.int k)=>some (.int k)
  |some .string=>some .str
  |some (.slice e)=>if 0<P.cellsOf e then(tyOf P d e).map (.sl (P.cellsOf e))else none
  |some (.struct fs)=>if tile P fs.toList 0=some (P.cellsOf t)then(fs.toList.mapM fun f=>tyOf P d f.type).map .row else none
  |some (.array n e)=>if P.cellsOf t=n*P.cellsOf e then(tyOf P d e).map fun ty=> .row (List.replicate n ty)else none
  | _=>none
mutual
def ShC:Ty->List AV->Prop
 | .int k,cs=>∃n,cs=[.int k n]/\ k.min<=n/\ n<=k.max
 | .bool,cs=>∃b,cs=[.bool b]
 | .str,cs=>∃s:List UInt8,cs=[.str s]/\ s.length<=maxLen
 | .sl sz e,cs=>cs=[.nilsl] \/ ∃es,cs=[.vsl sz es false]/\ es.length<=maxLen/\ (∀x ∈ es,x.length=sz)/\ ∀x ∈ es,ShC e x
 | .row ts,cs=>z3h ts cs
def z3h:List Ty->List AV->Prop
 | [],cs=>cs=[]
 |t::ts,cs=>∃a b,cs=a++b/\ ShC t a/\ z3h ts b
end
def Sh:Ty->AV->Prop
 | .row ts,a=>∃cs,a=.agg cs/\ z3h ts cs
 |t,a=>ShC t [a]
def z82:List Ty->List AV->Prop
 | [],avs=>avs=[]
 |t::ts,avs=>∃a avs',avs=a::avs'/\ Sh t a/\ z82 ts avs'
section
variable {H:Type} {enc:TypeId × Value->H} {P:Program} {w:World}
theorem zc6{base:Nat}{a:Addr}{n:Nat}{cs:List Value}(h:w.cells? base a n=some cs):cs.length=n/\ ∀i,i<n->w.cell? (a.add i)=cs[i]?:=
 ⟨(World.cells?_some h).2.1,(World.cells?_some h).2.2⟩
theorem zfj{a:Addr}{v:Value}(h:w.cell? a=some v):a.spot=none/\ ∃c ty fz,w.heap[a.block]? =some (.cells c ty fz)/\ c[a.off]? =some v:=by
 unfold World.cell? at h
 split at h
 ·rename_i c ty fz hh
  split at h
  ·cases h
  ·rename_i hs
   exact⟨by simpa using hs,c,ty,fz,hh,h⟩
 ·cases h
theorem seg_of{b o n:Nat}{vals:List Value}(hn:0<n)(hl:vals.length<=n)(hall:∀k,k<n->∃v,w.cell? ⟨b,o+k,none⟩=some v)(hv:∀k,k<vals.length->w.cell? ⟨b,o+k,none⟩=vals[k]?):
  b<w.heap.size/\ Seg w b o vals:=by
 obtain⟨v0,h0⟩:=hall 0 hn
 obtain⟨_,c,ty,fz,hc,h0'⟩:=zfj h0
 simp only [Nat.add_zero]at hc h0'
 have hget:∀k,w.cell? ⟨b,k,none⟩=c[k]?:=fun k=>by simp [World.cell?,hc]
 have ho:o+vals.length<=c.size:=by
  by_cases hz:vals.length=0
  ·have:=(Array.getElem?_eq_some_iff.1 h0').1;omega
  ·have:=hv (vals.length-1) (by omega)
   rw [hget,List.getElem?_eq_getElem (by omega)]at this
   have:=(Array.getElem?_eq_some_iff.1 this).1;omega
 refine⟨?_,c,ty,fz,c.toList.take o,c.toList.drop (o+vals.length),hc,?_,by simp;omega⟩
 ·rcases Nat.lt_or_ge b w.heap.size with h|h
  ·exact h
  ·simp [Array.getElem?_eq_none h]at hc
 ·have e:vals=(c.toList.drop o).take vals.length:=by
   apply List.ext_getElem?
   intro k
   simp only [List.getElem?_take,List.getElem?_drop]
   by_cases hk:k<vals.length
   ·rw [if_pos hk,<-hv k hk,hget];simp
   ·rw [if_neg hk,List.getElem?_eq_none (by omega)]
  conv=>lhs;rw [<-List.take_append_drop o c.toList,<-List.take_append_drop vals.length (c.toList.drop o),<-e]
  simp [List.append_assoc]
theorem zi8 {n : Nat} {spare : Nat -> Bool} {held : Bool} {base : Nat} {cs : List Value} {d : Nat}
    (ih:∀(t:TypeId) (ty:Ty) (cs:List Value) (x:DataW H × List MemPlace),tyOf P d t=some ty->DataW.trod enc P w base spare held n t cs=some x->cs.length=P.cellsOf t->∃avs,VRs [] w avs cs/\ ShC ty avs):
    ∀(l:List Field) (k:Nat) (tys:List Ty),tile P l k=some cs.length->l.mapM (fun f=>tyOf P d f.type)=some tys->
      (∀f ∈ l,∃x,DataW.trod enc P w base spare held n f.type ((cs.drop f.offset).take (P.cellsOf f.type))=some x)->k<=cs.length->∃avs,VRs [] w avs (cs.drop k)/\ z3h tys avs
  | [],k,tys,hk,ht,_,_=>by
    simp only [tile,Option.some.injEq]at hk
    simp at ht
    subst ht
    exact⟨[],by rw [hk];simp [VRs],by simp [z3h]⟩
  |f::l,k,tys,hk,ht,hx,hle=>by
    simp only [tile]at hk
    split at hk
    · rename_i hf
      simp only [List.mapM_cons,Option.bind_eq_bind,Option.bind_eq_some_iff,Option.pure_def,Option.some.injEq]at ht
      obtain⟨ty,hty,tys',htys,rfl⟩:=ht
      have hle2:k+P.cellsOf f.type<=cs.length:=by
        have:∀(l:List Field) (a b:Nat),tile P l a=some b->a<=b:=by
          intro l
          induction l with
          |nil=>intro a b h;simp [tile]at h;omega
          | cons f l ih => intro a b h; simp only [tile] at h; split at h; · have := ih _ _ h; omega
                           · cases h
        exact this l _ _ hk
      obtain⟨x,hx1⟩:=hx f (by simp)
      obtain⟨avs,h1,h2⟩:=ih f.type ty _ x hty hx1 (by simp;omega)
      obtain⟨bs,h3,h4⟩:=zi8 ih l (k+P.cellsOf f.type) tys' hk htys (fun g hg=>hx g (by simp [hg])) hle2
      refine⟨avs++bs,?_,avs,bs,rfl,h2,h4⟩
      have e:cs.drop k=(cs.drop k).take (P.cellsOf f.type)++cs.drop (k+P.cellsOf f.type):=by
        rw [<-List.drop_drop,List.take_append_drop]
      rw [e]
      rw [hf]at h1
      exact h1.append h3
    · cases hk
theorem zhz{n:Nat}{spare:Nat->Bool}{held:Bool}{base:Nat}{d:Nat}{e:TypeId}{ty:Ty}(hty:tyOf P d e=some ty)
  (ih:∀(t:TypeId) (ty:Ty) (cs:List Value) (x:DataW H × List MemPlace),tyOf P d t=some ty->DataW.trod enc P w base spare held n t cs=some x->cs.length=P.cellsOf t->∃avs,VRs [] w avs cs/\ ShC ty avs):
  ∀(m:Nat) (cs:List Value),cs.length=m*P.cellsOf e->(∀i,i<m->∃x,DataW.trod enc P w base spare held n e ((cs.drop (i*P.cellsOf e)).take (P.cellsOf e))=some x)->
   ∃avs,VRs [] w avs cs/\ z3h (List.replicate m ty) avs
 | 0,cs,hl,_=>by
  have:cs=[]:=List.eq_nil_of_length_eq_zero (by simpa using hl)
  subst this
  exact⟨[],by simp [VRs],by simp [z3h]⟩
 |m+1,cs,hl,hx=>by
  rw [Nat.succ_mul]at hl
  obtain⟨x,h0⟩:=hx 0 (by omega)
  simp only [Nat.zero_mul,List.drop_zero]at h0
  obtain⟨avs,h1,h2⟩:=ih e ty _ x hty h0 (by simp;omega)
  obtain⟨bs,h3,h4⟩:=zhz hty ih m (cs.drop (P.cellsOf e)) (by simp;omega) (fun i hi=>by
   obtain⟨y,hy⟩:=hx (i+1) (by omega)
   refine⟨y,?_⟩
   rw [List.drop_drop,Nat.add_comm,<-Nat.succ_mul];exact hy)
  refine⟨avs++bs,?_,avs,bs,rfl,h2,h4⟩
  rw [<-List.take_append_drop (P.cellsOf e) cs]
  exact h1.append h3
theorem zdj{base:Nat}{held:Bool}:∀(fuel d:Nat) (t:TypeId) (ty:Ty) (cs:List Value) (x:DataW H × List MemPlace),tyOf P d t=some ty->
  DataW.trod enc P w base (fun _=>true) held fuel t cs=some x->∃avs,VRs [] w avs cs/\ ShC ty avs
 | 0,_,_,_,_,_,_,h=>by simp [DataW.trod]at h
 | _+1,0,_,_,_,_,ht,_=>by simp [tyOf]at ht
 |fuel+1,d+1,t,ty,cs,x,ht,h=>by
  have ih:=fun(t:TypeId) (ty:Ty) (cs:List Value) (x:DataW H × List MemPlace) (h1:tyOf P d t=some ty) (h2:DataW.trod enc P w base (fun _=>true) held fuel t cs=some x) (_:cs.length=P.cellsOf t)=>zdj fuel d t ty cs x h1 h2
  unfold tyOf at ht
  split at ht
  ·rename_i hu
   simp only [Option.some.injEq]at ht;subst ht
   obtain⟨b,rfl,_⟩:=DataW.trod_bool hu h
   exact⟨[.bool b],.one ⟨VR.bool,rfl⟩,by simp [ShC]⟩
  ·rename_i k hu
   simp only [Option.some.injEq]at ht;subst ht
   obtain⟨n,rfl,_,hw⟩:=DataW.trod_int hu h
   simp only [Lit.wf,Bool.and_eq_true,decide_eq_true_eq]at hw
   exact⟨[.int k n],.one ⟨VR.int,rfl⟩,by simp only [ShC];exact⟨n,rfl,hw.1,hw.2⟩⟩
  ·rename_i hu
   simp only [Option.some.injEq]at ht;subst ht
   obtain⟨s,rfl,_,hs⟩:=DataW.trod_string hu h
   refine⟨[.str s.data.toList],.one ⟨by simp [VR],rfl⟩,by simp only [ShC];exact⟨_,rfl,by simpa using hs⟩⟩
  ·rename_i e hu
   split at ht
   ·rename_i hpos
    simp only [Option.map_eq_some_iff]at ht
    obtain⟨te,hte,rfl⟩:=ht
    rcases DataW.trod_slice hu h with⟨rfl,_⟩| ⟨a,len,cap,elems,rest,n,hn,rfl,_,hb,hl,hm,hlen,hel,hsp,_⟩
    ·exact⟨[.nilsl],.one ⟨by simp [VR],rfl⟩,by simp [ShC]⟩
    ·obtain⟨hrl,hr⟩:=hsp rfl
     have hn':n=fuel:=by omega
     subst hn'
     -- each element's cells
     have each:∀i,i<cap->∃cs y,w.cells? base (a.add (i*P.cellsOf e)) (P.cellsOf e)=some cs/\ DataW.trod enc P w base (fun _=>true) held n e cs=some y:=by
      intro i hi
      have:∃y,(w.cells? base (a.add (i*P.cellsOf e)) (P.cellsOf e)).bind (DataW.trod enc P w base (fun _=>true) held n e)=some y:=by
       by_cases hil:i<len
       ·rw [hel i hil];exact⟨_,List.getElem?_eq_getElem (by omega)⟩
       ·have:=hr (i-len) (by omega)
        rw [show len+(i-len)=i by omega]at this
        rw [this];exact⟨_,List.getElem?_eq_getElem (by omega)⟩
      obtain⟨y,hy⟩:=this
      rw [Option.bind_eq_some_iff]at hy
      obtain⟨cs,h1,h2⟩:=hy
      exact⟨cs,y,h1,h2⟩
     by_cases hc0:cap=0
     ·subst hc0
      have:len=0:=by omega
      subst this
      exact⟨[.vsl (P.cellsOf e) [] false],.one ⟨by simp only [VR];exact .inl ⟨by simp,a,rfl⟩,rfl⟩,by simp [ShC]⟩
     ·have hspot:a.spot=none:=by
       obtain⟨cs,y,h1,_⟩:=each 0 (by omega)
       obtain⟨hl1,hc1⟩:=zc6 h1
       have:=hc1 0 hpos
       rw [List.getElem?_eq_getElem (by omega)]at this
       have:=(zfj this).1
       simpa [Addr.add]using this
      obtain⟨b,o,spot⟩:=a
      simp only at hspot
      subst hspot
      have cellAt:∀i j,i<cap->j<P.cellsOf e->∃v,w.cell? ⟨b,o+(i*P.cellsOf e+j),none⟩=some v:=by
       intro i j hi hj
       obtain⟨cs,y,h1,_⟩:=each i hi
       obtain⟨hl1,hc1⟩:=zc6 h1
       have:=hc1 j hj
       rw [List.getElem?_eq_getElem (by omega)]at this
       rw [add_plain,add_plain,Nat.add_assoc]at this
       exact⟨_,this⟩
      -- the first m elements
      have firsts:∀m,m<=cap->∃(es:List (List AV)) (vals:List Value),es.length=m/\ vals.length=m*P.cellsOf e/\ (∀x ∈ es,x.length=P.cellsOf e)/\ (∀x ∈ es,ShC te x)/\ VRss [] w es vals ∧
        ∀k,k<vals.length->w.cell? ⟨b,o+k,none⟩=vals[k]?:=by
       intro m
       induction m with
       |zero=>intro _;exact⟨[],[],rfl,by simp,by simp,by simp,by simp [VRss],by simp⟩
       |succ m ihm=>
        intro hm'
        obtain⟨es,vals,k1,k2,k3,k4,k5,k6⟩:=ihm (by omega)
        obtain⟨cs,y,h1,h2⟩:=each m (by omega)
        obtain⟨hl1,hc1⟩:=zc6 h1
        obtain⟨avs,q1,q2⟩:=zdj n d e te cs y hte h2
        refine⟨es++ [avs],vals++cs,by simp [k1],by simp [k2,hl1,Nat.succ_mul],?_,?_,?_,?_⟩
        ·intro x hx
         simp only [List.mem_append,List.mem_singleton]at hx
         rcases hx with hx|rfl
         ·exact k3 x hx
         ·rw [q1.length,hl1]
        ·intro x hx
         simp only [List.mem_append,List.mem_singleton]at hx
         rcases hx with hx|rfl
         ·exact k4 x hx
         ·exact q2
        ·rw [VRss.flat,List.flatten_append]
         refine(VRss.flat.1 k5).append ?_
         simpa using q1
        ·intro k hk
         by_cases hk1:k<vals.length
         ·rw [List.getElem?_append_left hk1];exact k6 k hk1
         ·rw [List.getElem?_append_right (by omega)]
          simp only [List.length_append]at hk
          have:=hc1 (k-vals.length) (by omega)
          rw [add_plain,add_plain]at this
          rw [<-this,k2]
          congr 2
          omega
      obtain⟨es,vals,k1,k2,k3,k4,k5,k6⟩:=firsts len hl
      have hmul:len*P.cellsOf e<=cap*P.cellsOf e:=Nat.mul_le_mul_right _ hl
      obtain⟨hbl,hseg⟩:=seg_of (w:=w) (b:=b) (o:=o) (n:=cap*P.cellsOf e) (vals:=vals) (Nat.mul_pos (by omega) hpos) (by omega) (by
       intro k hk
       have h1:k/P.cellsOf e<cap:=Nat.div_lt_of_lt_mul (by rw [Nat.mul_comm];exact hk)
       obtain⟨v,hv⟩:=cellAt (k/P.cellsOf e) (k%P.cellsOf e) h1 (Nat.mod_lt _ hpos)
       rw [Nat.mul_comm,Nat.div_add_mod]at hv
       exact⟨v,hv⟩) k6
      refine⟨[.vsl (P.cellsOf e) es false],.one ⟨?_,rfl⟩,?_⟩
      ·simp only [VR]
       right
       exact⟨b,o,cap,vals,by rw [k1],by omega,by simp,⟨hbl,by simp⟩,hseg,k3,k5⟩
      ·simp only [ShC]
       right
       exact⟨es,rfl,by omega,k3,k4⟩
   ·cases ht
  ·rename_i fs hu
   split at ht
   ·rename_i htile
    simp only [Option.map_eq_some_iff]at ht
    obtain⟨tys,htys,rfl⟩:=ht
    obtain⟨xs,n,hn,_,hcl,hxl,hxs⟩:=DataW.trod_struct hu h
    have hn':n=fuel:=by omega
    subst hn'
    obtain⟨avs,h1,h2⟩:=zi8 (cs:=cs) ih fs.toList 0 tys (by rw [hcl];exact htile) htys (fun f hf=>by
     obtain⟨i,hi⟩:=List.getElem?_of_mem hf
     have hi':fs[i]? =some f:=by simpa using hi
     rw [hxs i f hi']
     have:i<xs.length:=by rw [hxl];exact(Array.getElem?_eq_some_iff.1 hi').1
     exact⟨_,List.getElem?_eq_getElem this⟩) (Nat.zero_le _)
    exact⟨avs,by simpa using h1,by simpa only [ShC]using h2⟩
   ·cases ht
  ·rename_i n e hu
   split at ht
   ·rename_i hsz
    simp only [Option.map_eq_some_iff]at ht
    obtain⟨te,hte,rfl⟩:=ht
    obtain⟨xs,m,hm,_,hcl,hxl,hxs⟩:=DataW.trod_array hu h
    have hm':m=fuel:=by omega
    subst hm'
    obtain⟨avs,h1,h2⟩:=zhz hte ih n cs (by rw [hcl,hsz]) (fun i hi=>by
     rw [hxs i hi];exact⟨_,List.getElem?_eq_getElem (by omega)⟩)
    exact⟨avs,h1,by simpa only [ShC]using h2⟩
   ·cases ht
  ·cases ht
theorem zpq{r:Reach}{b0 base:Nat}{held:Bool}{d:Nat}{t:TypeId}{ty:Ty}{v:Value}{x:DataW H}{ps:List MemPlace}(ht:tyOf P d t=some ty)(hval:Value.okWide P w r b0 t v)
  (hd:DataW.Trod enc P w base (fun _=>true) held t v x ps):∃a,VR [] w a v/\ Sh ty a:=by
 obtain⟨fuel,hf⟩:=hd
 obtain⟨avs,h1,h2⟩:=zdj fuel d t ty _ _ ht hf
 have one:v.oneCell'=true->(∀ts,ty ≠ .row ts)->∃a,VR [] w a v/\ Sh ty a:=by
  intro hv hr
  rw [zc7 hv]at h1
  cases avs with
  |nil=>simp [VRs]at h1
  |cons a avs=>
   simp only [VRs]at h1
   obtain⟨v',vs',he,h3,h4⟩:=h1
   simp only [List.cons.injEq]at he
   obtain⟨rfl,rfl⟩:=he
   have:avs=[]:=by cases avs<;>simp [VRs]at h4 ⊢
   subst this
   refine⟨a,h3.1,?_⟩
   cases ty<;>first|exact h2|exact absurd rfl (hr _)
 have agg:(∃cs,v=.agg cs)->(∃ts,ty=.row ts)->∃a,VR [] w a v/\ Sh ty a:=by
  rintro⟨cs,rfl⟩ ⟨ts,rfl⟩
  simp only [ShC]at h2
  refine⟨.agg avs,?_,avs,rfl,h2⟩
  simp only [VR]
  exact⟨cs.toList,by simp,by simpa [Value.cells]using h1⟩
 cases d with
 |zero=>simp [tyOf]at ht
 |succ d=>
  unfold tyOf at ht
  unfold Value.okWide at hval
  split at ht
  ·rename_i hu
   simp only [Option.some.injEq]at ht;subst ht
   simp only [hu,Cell.okWide,Cell.ok]at hval
   refine one ?_ (by simp)
   cases v<;>simp_all<;>rfl
  ·rename_i k hu
   simp only [Option.some.injEq]at ht;subst ht
   simp only [hu,Cell.okWide,Cell.ok]at hval
   refine one ?_ (by simp)
   cases v<;>simp_all<;>rfl
  ·rename_i hu
   simp only [Option.some.injEq]at ht;subst ht
   simp only [hu,Cell.okWide,Cell.ok]at hval
   refine one ?_ (by simp)
   cases v<;>simp_all<;>rfl
  ·rename_i e hu
   split at ht
   ·simp only [Option.map_eq_some_iff]at ht
    obtain⟨te,_,rfl⟩:=ht
    simp only [hu,Cell.okWide,Cell.ok]at hval
    refine one ?_ (by simp)
    cases v<;>simp_all<;>rfl
   ·cases ht
  ·rename_i fs hu
   split at ht
   ·simp only [Option.map_eq_some_iff]at ht
    obtain⟨te,_,rfl⟩:=ht
    simp only [hu]at hval
    obtain⟨cs,hcs,_⟩:=hval
    exact agg ⟨cs,hcs⟩ ⟨_,rfl⟩
   ·cases ht
  ·rename_i n e hu
   split at ht
   ·simp only [Option.map_eq_some_iff]at ht
    obtain⟨te,_,rfl⟩:=ht
    simp only [hu]at hval
    obtain⟨cs,hcs,_⟩:=hval
    exact agg ⟨cs,hcs⟩ ⟨_,rfl⟩
   ·cases ht
  ·cases ht
def z9g(P:Program)(d:Nat):List TypeId->Option (List Ty)
 | []=>some []
 |t::ts=>(tyOf P d t).bind fun ty=>(z9g P d ts).map (ty:: ·)
theorem zhi{r:Reach}{b0 base:Nat}{held:Bool}{d:Nat}:∀{ts:List TypeId} {tys:List Ty} {vs:List Value} {xs:List (DataW H)} {ps:List MemPlace},z9g P d ts=some tys->
  (∀(j:Nat) t v,ts[j]? =some t->vs[j]? =some v->Value.okWide P w r b0 t v)->DataW.TrodAll enc P w base (fun _=>true) held ts vs xs ps->∃avs,VRt [] w avs vs/\ z82 tys avs
 | [],tys,vs,xs,ps,ht,_,h=>by
  simp only [z9g,Option.some.injEq]at ht;subst ht
  obtain⟨rfl,_⟩:=trodAll_nil h
  exact⟨[],VRt.nil,rfl⟩
 |t::ts,tys,vs,xs,ps,ht,hval,h=>by
  simp only [z9g,Option.bind_eq_some_iff,Option.map_eq_some_iff]at ht
  obtain⟨ty,h1,tys',h2,rfl⟩:=ht
  obtain⟨v,vs',x,xs',p,q,rfl,rfl,rfl,h3,h4⟩:=trodAll_cons h
  obtain⟨a,k1,k2⟩:=zpq h1 (hval 0 t v rfl rfl) h3
  obtain⟨avs,k3,k4⟩:=zhi h2 (fun j t' v' hj hv=>hval (j+1) t' v' (by simpa using hj) (by simpa using hv)) h4
  exact⟨a::avs,VRt.cons k1 k3,a,avs,rfl,k2,k4⟩
end
end
section
open Go.ChangeShapes Go.WideShapes Go.ChangeAt Go.RowKit
section
variable {H:Type} {enc:TypeId × Value->H} {P:Program} {w:World}
theorem zjh{base:Nat}{spare:Nat->Bool}{held:Bool}:∀{ts:List TypeId} {vs:List Value} {ds:List (DataW H)} {ps:List MemPlace},DataW.TrodAll enc P w base spare held ts vs ds ps->ds.length=ts.length
 | [],[],[],_,_=>rfl
 |t::ts,v::vs,d::ds,ps,h=>by
  obtain⟨p,q,h1,h2,rfl⟩:=h
  simp [zjh h2]
 | [],[],_::_,_,h=>h.elim
 | [],_::_,_,_,h=>h.elim
 | _::_,[],_,_,h=>h.elim
 | _::_,_::_,[],_,h=>h.elim
end
end
section
mutual
def sh(k:Nat):AV->AV
 | .ptr r i off=> .ptr (k+r) i off
 | .sl r off len lim esz=> .sl (k+r) off len lim esz
 | .asl r i off len cap esz=> .asl (k+r) i off len cap esz
 | .fn f caps=> .fn f (shs k caps)
 | .agg cs=> .agg (shs k cs)
 | .tup vs=> .tup (shs k vs)
 | .any=> .any
 | .undef=> .undef
 | .bool b=> .bool b
 | .int i n=> .int i n
 | .str s=> .str s
 | .nilp=> .nilp
 | .vp _=> .any
 | .nilsl=> .nilsl
 | .vsl _ _ _=> .any
 | .nilfn=> .nilfn
 | .bld r=> .bld (k+r)
 | .bnil=> .bnil
 | .bsl r len=> .bsl (k+r) len
def shs(k:Nat):List AV->List AV
 | []=>[]
 |a::l=>sh k a::shs k l
end
def shss(k:Nat)(es:List (List AV)):List (List AV):=es.map (shs k)
def shS(k:Nat)(O:Store):Store:=O.map (·.map (shss k))
theorem zj4(k:Nat):∀l,(shs k l).length=l.length
 | []=>rfl
 | _::l=>by simp [shs,zj4 k l]
theorem zj3(k:Nat):∀l m,shs k (l++m)=shs k l++shs k m
 | [],_=>rfl
 |a::l,m=>by simp [shs,zj3 k l m]
theorem zj5(k:Nat):∀es:List (List AV),(shss k es).flatten=shs k es.flatten
 | []=>rfl
 |e::es=>by
  have:=zj5 k es
  simp only [shss]at this
  simp only [shss,List.map_cons,List.flatten_cons,zj3,this]
mutual
theorem zb8{γ γ':Places}{w:World}:∀(a:AV) (v:Value),VR γ' w a v->VR (γ++γ') w (sh γ.length a) v
 | .any,_,_=>by simp only [sh,VR]
 | .undef,_,h=>by simpa only [sh,VR]using h
 | .bool _,_,h=>by simpa only [sh,VR]using h
 | .int _ _,_,h=>by simpa only [sh,VR]using h
 | .str _,_,h=>by simpa only [sh,VR]using h
 | .nilp,_,h=>by simpa only [sh,VR]using h
 | .nilsl,_,h=>by simpa only [sh,VR]using h
 | .nilfn,_,h=>by simpa only [sh,VR]using h
 | .vp _,_,_=>by simp only [sh,VR]
 | .vsl _ _ _,_,_=>by simp only [sh,VR]
 | .ptr r i off,v,h=>by
  simp only [sh,VR]at h ⊢
  obtain⟨fl,pl,h1,h2⟩:=h
  exact⟨fl,pl,by rw [List.getElem?_append_right (by omega),Nat.add_sub_cancel_left];exact h1,h2⟩
 | .sl r off len lim esz,v,h=>by
  simp only [sh,VR]at h ⊢
  obtain⟨fl,pl,b,o,cap,h1,h2⟩:=h
  exact⟨fl,pl,b,o,cap,by rw [List.getElem?_append_right (by omega),Nat.add_sub_cancel_left];exact h1,h2⟩
 | .asl r i off len cap esz,v,h=>by
  simp only [sh,VR]at h ⊢
  obtain⟨fl,pl,b,o,h1,h2⟩:=h
  exact⟨fl,pl,b,o,by rw [List.getElem?_append_right (by omega),Nat.add_sub_cancel_left];exact h1,h2⟩
 | .fn f caps,v,h=>by
  simp only [sh,VR]at h ⊢
  obtain⟨vs,h1,h2⟩:=h
  exact⟨vs,h1,ze3 caps vs h2⟩
 | .agg cs,v,h=>by
  simp only [sh,VR]at h ⊢
  obtain⟨vs,h1,h2⟩:=h
  exact⟨vs,h1,ze2 cs vs h2⟩
 | .tup cs,v,h=>by
  simp only [sh,VR]at h ⊢
  obtain⟨vs,h1,h2⟩:=h
  exact⟨vs,h1,ze3 cs vs h2⟩
 | .bld r,v,h=>by
  simp only [sh,VR]at h ⊢
  obtain⟨fl,pl,h1,h2⟩:=h
  exact⟨fl,pl,by rw [List.getElem?_append_right (by omega),Nat.add_sub_cancel_left];exact h1,h2⟩
 | .bnil,_,h=>by simpa only [sh,VR]using h
 | .bsl r len,v,h=>by
  simp only [sh,VR]at h ⊢
  obtain⟨fl,pl,cap,h1,h2⟩:=h
  exact⟨fl,pl,cap,by rw [List.getElem?_append_right (by omega),Nat.add_sub_cancel_left];exact h1,h2⟩
theorem ze2{γ γ':Places}{w:World}:∀(l:List AV) (vs:List Value),VRs γ' w l vs->VRs (γ++γ') w (shs γ.length l) vs
 | [],vs,h=>by simpa only [shs,VRs]using h
 |a::l,vs,h=>by
  simp only [shs,VRs]at h ⊢
  obtain⟨v,vs',h1,h2,h3⟩:=h
  exact⟨v,vs',h1,⟨zb8 a v h2.1,h2.2⟩,ze2 l vs' h3⟩
theorem ze3{γ γ':Places}{w:World}:∀(l:List AV) (vs:List Value),VRt γ' w l vs->VRt (γ++γ') w (shs γ.length l) vs
 | [],vs,h=>by simpa only [shs,VRt]using h
 |a::l,vs,h=>by
  simp only [shs,VRt]at h ⊢
  obtain⟨v,vs',h1,h2,h3⟩:=h
  exact⟨v,vs',h1,zb8 a v h2,ze3 l vs' h3⟩
end
def z3j(O:Store):DC:=⟨O,0,id,fun _=>true⟩
theorem zgz{O:Store}{γ:Places}{w:World}:DSnd (z3j O) γ [] w where
 ref r _ _ h:=by simp [z3j]at h
 imm b h:=⟨h.1,by simp⟩
 fz r pl _ _ r' pl' h:=by simp at h
theorem zeb{γ γ':Places}{w w':World}(h:Step [] w γ' w')(hlt:∀(r:Nat) (pl:Place),γ[r]? =some (true,pl)->pl.b<w.heap.size):Step γ w (γ++γ') w' where
 keep r fl pl hr:=⟨fl,by rw [List.getElem?_append_left (List.getElem?_eq_some_iff.1 hr).1];exact hr⟩
 size:=h.size
 imm b hb _:=h.imm b hb (by simp)
 new r pl hr:=by
  by_cases hl:r<γ.length
  ·rw [List.getElem?_append_left hl]at hr
   exact .inl ⟨r,pl,hr,rfl⟩
  ·rw [List.getElem?_append_right (by omega)]at hr
   rcases h.new _ pl hr with⟨r',pl',h1,_⟩|h1
   ·simp at h1
   ·exact .inr h1
 os:=h.os
 tape:=h.tape
 output:=h.output
def GlOK(C:Ctx):Prop:=∀g cs,C.gl g=some cs->RLs 0 cs
theorem Rel.lent{C:Ctx}{γ:Places}{O:Store}{w:World}(hg:GlOK C)(hR:Rel C γ O w):Rel C [] [] w:=
 ⟨rfl,by simp,by simp,by simp,fun g cs h=>DR.sound hR zgz (.vp cs) (.vp cs) _ (DR.refl (D:=z3j O) (k:=0) (by omega) _ (by simpa only [RL]using hg g cs h)) (hR.gl g cs h)⟩
theorem Rel.back{C:Ctx}{γ γ':Places}{O O1:Store}{w w':World}(hR:Rel C γ O w)(hst:Step [] w γ' w')(h:Rel C γ' O1 w'):Rel C (γ++γ') (O++shS O.length O1) w':=by
 have hlt:∀(r:Nat) (pl:Place),γ[r]? =some (true,pl)->pl.b<w.heap.size:=fun r pl hr=>hR.place_lt hr
 have hs:=zeb (γ:=γ) hst hlt
 have hge:∀(r:Nat) (pl:Place),γ'[r]? =some (true,pl)->w.heap.size<=pl.b:=fun r pl hr=>by
  rcases hst.new r pl hr with⟨r',pl',h1,_⟩|h1
  ·simp at h1
  ·exact h1
 refine⟨by simp [shS,hR.len,h.len],fun r o hr=> ?_,fun r hr=> ?_,fun r r' pl pl' h1 h2 h3=> ?_,fun g cs hg=>(hR.gl g cs hg).mono hs⟩
 ·by_cases hl:r<O.length
  ·rw [List.getElem?_append_left hl]at hr
   obtain⟨pl,h1,h2⟩:=hR.alive r o hr
   exact⟨pl,by rw [List.getElem?_append_left (by rw [hR.len];exact hl)];exact h1,h2.mono hs (hst.imm _ h2.lt (by simp))⟩
  ·rw [List.getElem?_append_right (by omega)]at hr
   simp only [shS,List.getElem?_map,Option.map_eq_some_iff]at hr
   obtain⟨x,hx,he⟩:=hr
   cases x with
   |none=>simp at he
   |some o0=>
    simp only [Option.map_some,Option.some.injEq]at he
    obtain⟨_,rfl,rfl⟩:=he
    obtain⟨pl,h1,h2⟩:=h.alive _ o0 hx
    refine⟨pl,by rw [List.getElem?_append_right (by rw [hR.len];omega),hR.len];exact h1,?_⟩
    obtain⟨c,ty,fz,pre,mid,post,k1,k2,k3,k4,k5,k6⟩:=h2.ex
    refine⟨by simp [shss,h2.len],fun e he=> ?_,h2.tyk,c,ty,fz,pre,mid,post,k1,k2,k3,k4,?_,k6⟩
    ·simp only [shss,List.mem_map]at he
     obtain⟨e0,he0,rfl⟩:=he
     rw [zj4];exact h2.esz e0 he0
    ·rw [zj5,<-hR.len]
     exact ze2 _ _ k5
 ·by_cases hl:r<O.length
  ·rw [List.getElem?_append_left hl]at hr
   obtain⟨pl,h1⟩:=hR.dead r hr
   exact⟨pl,by rw [List.getElem?_append_left (by rw [hR.len];exact hl)];exact h1⟩
  ·rw [List.getElem?_append_right (by omega)]at hr
   simp only [shS,List.getElem?_map,Option.map_eq_some_iff]at hr
   obtain⟨x,hx,he⟩:=hr
   cases x with
   |some o0=>simp at he
   |none=>
    obtain⟨pl,h1⟩:=h.dead _ hx
    exact⟨pl,by rw [List.getElem?_append_right (by rw [hR.len];omega),hR.len];exact h1⟩
 ·have get:∀(r:Nat) (pl:Place),(γ++γ')[r]? =some (true,pl)->(r<γ.length/\ γ[r]? =some (true,pl)) \/(γ.length<=r/\ γ'[r-γ.length]? =some (true,pl)):=fun r pl hr=>by
   by_cases hl:r<γ.length
   ·rw [List.getElem?_append_left hl]at hr;exact .inl ⟨hl,hr⟩
   ·rw [List.getElem?_append_right (by omega)]at hr;exact .inr ⟨by omega,hr⟩
  rcases get r pl h1 with⟨k1,k2⟩| ⟨k1,k2⟩<;>rcases get r' pl' h2 with⟨q1,q2⟩| ⟨q1,q2⟩
  ·exact hR.inj r r' pl pl' k2 q2 h3
  ·have:=hlt r pl k2;have:=hge _ pl' q2;omega
  ·have:=hge _ pl k2;have:=hlt r' pl' q2;omega
  ·have:=h.inj _ _ pl pl' k2 q2 h3;omega
theorem ACallsTo.lend{C:Ctx}(hg:GlOK C){f:FuncId}{xs args:List AV}{v:AV}{O O1:Store}(h:ACallsTo C f xs [] v O1)(hd:DRs (z3j O) xs args):ACallsTo C f args O (sh O.length v) (O++shS O.length O1):=by
 intro γ w cargs hR ha
 have hx:VRt [] w xs cargs:=DRs.soundt hR zgz xs args cargs hd ha
 have hlt:∀(r:Nat) (pl:Place),γ[r]? =some (true,pl)->pl.b<w.heap.size:=fun r pl hr=>hR.place_lt hr
 rcases h [] w cargs (hR.lent hg) hx with⟨h1,h2⟩| ⟨cv,γ',w',h1,h2,h3,h4⟩
 ·refine .inl ⟨h1,h2.mono ?_⟩
  rintro e w' ⟨cv,γ',rfl,k1,k2,k3⟩
  exact⟨cv,γ++γ',rfl,zeb k1 hlt,hR.back k1 k2,by rw [<-hR.len];exact zb8 v cv k3⟩
 ·exact .inr ⟨cv,γ++γ',w',h1,zeb h2 hlt,hR.back h2 h3,by rw [<-hR.len];exact zb8 v cv h4⟩
theorem ACallsTo.frame{C:Ctx}(hg:GlOK C){f:FuncId}{xs:List AV}{v:AV}(h:ACallsTo C f xs [] v [])(hx:RLs 0 xs)(O:Store):ACallsTo C f xs O (sh O.length v) O:=by
 have:=ACallsTo.lend hg (O:=O) h (DRs.refl (D:=z3j O) (k:=0) (by omega) xs hx)
 simpa [shS]using this
end
section
theorem lens:(∀{α:Type} {l:List α} {i:Nat} {a:α},(l.set i a).length=l.length)/\ (∀{α:Type} {l m:List α},(l++m).length=l.length+m.length)/\ (∀{α:Type} {a:α} {l:List α},(a::l).length=l.length+1)/\ (∀{α:Type},([]:List α).length=0)/\ (∀{α β:Type} {f:α->β} {l:List α},(l.map f).length=l.length):=
 ⟨List.length_set,List.length_append,List.length_cons,List.length_nil,List.length_map _⟩
section
variable {C:Ctx} {n k:Nat} {Q:AExit->Env->Store->Prop} {Z:Env} {O:Store}
theorem zd_{x:AX}{p q:ACode}{P:Prop}[hd:Decidable P](hx:x.ev Z=.bool (@decide P hd))(h1:P->zW C n k p Q Z O)(h2:¬P->zW C n k q Q Z O):zW C n k (.cond x p q) Q Z O:=
 zW.cond hx (fun h=>h1 (of_decide_eq_true h)) (fun h=>h2 (of_decide_eq_false h))
theorem zt_{x:AX}{p q:ACode}(hx:x.ev Z=.bool true)(h1:zW C n k p Q Z O):zW C n k (.cond x p q) Q Z O:=
 zW.cond hx (fun _=>h1) (fun h=>by cases h)
theorem zf_{x:AX}{p q:ACode}(hx:x.ev Z=.bool false)(h1:zW C n k q Q Z O):zW C n k (.cond x p q) Q Z O:=
 zW.cond hx (fun h=>by cases h) (fun _=>h1)
theorem z9h{n:Int}(h: -9223372036854775808<=n/\ n<9223372036854775808):IntKind.i64.wrap n=n:=by
 simp [IntKind.wrap,IntKind.signed,IntKind.bits];omega
theorem zbo{n:Int}(h:0<=n/\ n<18446744073709551616):IntKind.u64.wrap n=n:=by
 simp [IntKind.wrap,IntKind.signed,IntKind.bits];omega
theorem z9i{n:Int}(h:0<=n/\ n<4294967296):IntKind.u32.wrap n=n:=by
 simp [IntKind.wrap,IntKind.signed,IntKind.bits];omega
theorem zbn{n:Int}(h:0<=n/\ n<65536):IntKind.u16.wrap n=n:=by
 simp [IntKind.wrap,IntKind.signed,IntKind.bits];omega
theorem w_u8{n:Int}(h:0<=n/\ n<256):IntKind.u8.wrap n=n:=by
 simp [IntKind.wrap,IntKind.signed,IntKind.bits];omega
theorem shr_u8{a b:Int}(h:0<=b/\ b<8):z1e .shr .u8 a b=some (.int .u8 (a/2^b.toNat)):=by
 simp only [z1e,IntKind.bits]
 rw [if_neg (by omega),Nat.min_eq_left (by omega),Int.fdiv_eq_ediv_of_nonneg _ (Int.pow_nonneg (by decide))]
theorem shl_u8{a b:Int}(h:0<=b/\ b<8):z1e .shl .u8 a b=some (.int .u8 (IntKind.u8.wrap (a*2^b.toNat))):=by
 simp only [z1e,IntKind.bits]
 rw [if_neg (by omega),Nat.min_eq_left (by omega)]
theorem zs8{a b:Int}(h:0<=b/\ b<16):z1e .shr .u16 a b=some (.int .u16 (a/2^b.toNat)):=by
 simp only [z1e,IntKind.bits]
 rw [if_neg (by omega),Nat.min_eq_left (by omega),Int.fdiv_eq_ediv_of_nonneg _ (Int.pow_nonneg (by decide))]
theorem zs3{a b:Int}(h:0<=b/\ b<16):z1e .shl .u16 a b=some (.int .u16 (IntKind.u16.wrap (a*2^b.toNat))):=by
 simp only [z1e,IntKind.bits]
 rw [if_neg (by omega),Nat.min_eq_left (by omega)]
theorem zj2{a b:Int}(h:0<=b/\ b<32):z1e .shr .u32 a b=some (.int .u32 (a/2^b.toNat)):=by
 simp only [z1e,IntKind.bits]
 rw [if_neg (by omega),Nat.min_eq_left (by omega),Int.fdiv_eq_ediv_of_nonneg _ (Int.pow_nonneg (by decide))]
theorem ziz{a b:Int}(h:0<=b/\ b<32):z1e .shl .u32 a b=some (.int .u32 (IntKind.u32.wrap (a*2^b.toNat))):=by
 simp only [z1e,IntKind.bits]
 rw [if_neg (by omega),Nat.min_eq_left (by omega)]
theorem zs9{a b:Int}(h:0<=b/\ b<64):z1e .shr .u64 a b=some (.int .u64 (a/2^b.toNat)):=by
 simp only [z1e,IntKind.bits]
 rw [if_neg (by omega),Nat.min_eq_left (by omega),Int.fdiv_eq_ediv_of_nonneg _ (Int.pow_nonneg (by decide))]
theorem zs4{a b:Int}(h:0<=b/\ b<64):z1e .shl .u64 a b=some (.int .u64 (IntKind.u64.wrap (a*2^b.toNat))):=by
 simp only [z1e,IntKind.bits]
 rw [if_neg (by omega),Nat.min_eq_left (by omega)]
theorem zs7{a b:Int}(h:0<=b/\ b<64):z1e .shr .i64 a b=some (.int .i64 (a/2^b.toNat)):=by
 simp only [z1e,IntKind.bits]
 rw [if_neg (by omega),Nat.min_eq_left (by omega),Int.fdiv_eq_ediv_of_nonneg _ (Int.pow_nonneg (by decide))]
theorem zs2{a b:Int}(h:0<=b/\ b<64):z1e .shl .i64 a b=some (.int .i64 (IntKind.i64.wrap (a*2^b.toNat))):=by
 simp only [z1e,IntKind.bits]
 rw [if_neg (by omega),Nat.min_eq_left (by omega)]
theorem zgq{k:IntKind}{a b:Int}:z14 .add k a b=some (.int k (k.wrap (a+b))):=rfl
theorem ib_sub{k:IntKind}{a b:Int}:z14 .sub k a b=some (.int k (k.wrap (a-b))):=rfl
theorem ib_mul{k:IntKind}{a b:Int}:z14 .mul k a b=some (.int k (k.wrap (a*b))):=rfl
theorem ib_quo{k:IntKind}{a b:Int}:z14 .quo k a b=if b=0 then none else some (.int k (k.wrap (a.tdiv b))):=rfl
theorem ib_rem{k:IntKind}{a b:Int}:z14 .rem k a b=if b=0 then none else some (.int k (a.tmod b)):=rfl
theorem ib_eql{k:IntKind}{a b:Int}:z14 .eql k a b=some (.bool (a==b)):=rfl
theorem ib_neq{k:IntKind}{a b:Int}:z14 .neq k a b=some (.bool (a !=b)):=rfl
theorem ib_lss{k:IntKind}{a b:Int}:z14 .lss k a b=some (.bool (decide (a<b))):=rfl
theorem ib_leq{k:IntKind}{a b:Int}:z14 .leq k a b=some (.bool (decide (a<=b))):=rfl
theorem ib_gtr{k:IntKind}{a b:Int}:z14 .gtr k a b=some (.bool (decide (a>b))):=rfl
theorem ib_geq{k:IntKind}{a b:Int}:z14 .geq k a b=some (.bool (decide (a>=b))):=rfl
theorem znd{a b:Int}(ha:0<=a/\ a<256)(hb:0<=b/\ b<256):z14 .and .u8 a b=some (.int .u8 ((a.toNat &&& b.toNat:Nat):Int)):=by
 have h:(BitVec.ofInt IntKind.u8.bits a &&& BitVec.ofInt IntKind.u8.bits b).toNat=a.toNat &&& b.toNat:=by
  rw [BitVec.toNat_and,BitVec.toNat_ofInt,BitVec.toNat_ofInt]
  simp only [IntKind.bits]
  rw [Int.emod_eq_of_lt (by omega) (by omega),Int.emod_eq_of_lt (by omega) (by omega)]
 have h1:a.toNat<2^8:=by omega
 have h2:b.toNat<2^8:=by omega
 have h3:a.toNat &&& b.toNat<2^8:=Nat.and_lt_two_pow _ h2
 simp only [z14]
 rw [h,w_u8 ⟨by omega,by omega⟩]
theorem znh{a b:Int}(ha:0<=a/\ a<256)(hb:0<=b/\ b<256):z14 .or .u8 a b=some (.int .u8 ((a.toNat |||b.toNat:Nat):Int)):=by
 have h:(BitVec.ofInt IntKind.u8.bits a |||BitVec.ofInt IntKind.u8.bits b).toNat=a.toNat |||b.toNat:=by
  rw [BitVec.toNat_or,BitVec.toNat_ofInt,BitVec.toNat_ofInt]
  simp only [IntKind.bits]
  rw [Int.emod_eq_of_lt (by omega) (by omega),Int.emod_eq_of_lt (by omega) (by omega)]
 have h1:a.toNat<2^8:=by omega
 have h2:b.toNat<2^8:=by omega
 have h3:a.toNat |||b.toNat<2^8:=Nat.or_lt_two_pow h1 h2
 simp only [z14]
 rw [h,w_u8 ⟨by omega,by omega⟩]
theorem znl{a b:Int}(ha:0<=a/\ a<256)(hb:0<=b/\ b<256):z14 .xor .u8 a b=some (.int .u8 ((a.toNat^^^b.toNat:Nat):Int)):=by
 have h:(BitVec.ofInt IntKind.u8.bits a^^^BitVec.ofInt IntKind.u8.bits b).toNat=a.toNat^^^b.toNat:=by
  rw [BitVec.toNat_xor,BitVec.toNat_ofInt,BitVec.toNat_ofInt]
  simp only [IntKind.bits]
  rw [Int.emod_eq_of_lt (by omega) (by omega),Int.emod_eq_of_lt (by omega) (by omega)]
 have h1:a.toNat<2^8:=by omega
 have h2:b.toNat<2^8:=by omega
 have h3:a.toNat^^^b.toNat<2^8:=Nat.xor_lt_two_pow h1 h2
 simp only [z14]
 rw [h,w_u8 ⟨by omega,by omega⟩]
theorem znb{a b:Int}(ha:0<=a/\ a<65536)(hb:0<=b/\ b<65536):z14 .and .u16 a b=some (.int .u16 ((a.toNat &&& b.toNat:Nat):Int)):=by
 have h:(BitVec.ofInt IntKind.u16.bits a &&& BitVec.ofInt IntKind.u16.bits b).toNat=a.toNat &&& b.toNat:=by
  rw [BitVec.toNat_and,BitVec.toNat_ofInt,BitVec.toNat_ofInt]
  simp only [IntKind.bits]
  rw [Int.emod_eq_of_lt (by omega) (by omega),Int.emod_eq_of_lt (by omega) (by omega)]
 have h1:a.toNat<2^16:=by omega
 have h2:b.toNat<2^16:=by omega
 have h3:a.toNat &&& b.toNat<2^16:=Nat.and_lt_two_pow _ h2
 simp only [z14]
 rw [h,zbn ⟨by omega,by omega⟩]
theorem znf{a b:Int}(ha:0<=a/\ a<65536)(hb:0<=b/\ b<65536):z14 .or .u16 a b=some (.int .u16 ((a.toNat |||b.toNat:Nat):Int)):=by
 have h:(BitVec.ofInt IntKind.u16.bits a |||BitVec.ofInt IntKind.u16.bits b).toNat=a.toNat |||b.toNat:=by
  rw [BitVec.toNat_or,BitVec.toNat_ofInt,BitVec.toNat_ofInt]
  simp only [IntKind.bits]
  rw [Int.emod_eq_of_lt (by omega) (by omega),Int.emod_eq_of_lt (by omega) (by omega)]
 have h1:a.toNat<2^16:=by omega
 have h2:b.toNat<2^16:=by omega
 have h3:a.toNat |||b.toNat<2^16:=Nat.or_lt_two_pow h1 h2
 simp only [z14]
 rw [h,zbn ⟨by omega,by omega⟩]
theorem znj{a b:Int}(ha:0<=a/\ a<65536)(hb:0<=b/\ b<65536):z14 .xor .u16 a b=some (.int .u16 ((a.toNat^^^b.toNat:Nat):Int)):=by
 have h:(BitVec.ofInt IntKind.u16.bits a^^^BitVec.ofInt IntKind.u16.bits b).toNat=a.toNat^^^b.toNat:=by
  rw [BitVec.toNat_xor,BitVec.toNat_ofInt,BitVec.toNat_ofInt]
  simp only [IntKind.bits]
  rw [Int.emod_eq_of_lt (by omega) (by omega),Int.emod_eq_of_lt (by omega) (by omega)]
 have h1:a.toNat<2^16:=by omega
 have h2:b.toNat<2^16:=by omega
 have h3:a.toNat^^^b.toNat<2^16:=Nat.xor_lt_two_pow h1 h2
 simp only [z14]
 rw [h,zbn ⟨by omega,by omega⟩]
theorem zgr{a b:Int}(ha:0<=a/\ a<4294967296)(hb:0<=b/\ b<4294967296):z14 .and .u32 a b=some (.int .u32 ((a.toNat &&& b.toNat:Nat):Int)):=by
 have h:(BitVec.ofInt IntKind.u32.bits a &&& BitVec.ofInt IntKind.u32.bits b).toNat=a.toNat &&& b.toNat:=by
  rw [BitVec.toNat_and,BitVec.toNat_ofInt,BitVec.toNat_ofInt]
  simp only [IntKind.bits]
  rw [Int.emod_eq_of_lt (by omega) (by omega),Int.emod_eq_of_lt (by omega) (by omega)]
 have h1:a.toNat<2^32:=by omega
 have h2:b.toNat<2^32:=by omega
 have h3:a.toNat &&& b.toNat<2^32:=Nat.and_lt_two_pow _ h2
 simp only [z14]
 rw [h,z9i ⟨by omega,by omega⟩]
theorem zgs{a b:Int}(ha:0<=a/\ a<4294967296)(hb:0<=b/\ b<4294967296):z14 .or .u32 a b=some (.int .u32 ((a.toNat |||b.toNat:Nat):Int)):=by
 have h:(BitVec.ofInt IntKind.u32.bits a |||BitVec.ofInt IntKind.u32.bits b).toNat=a.toNat |||b.toNat:=by
  rw [BitVec.toNat_or,BitVec.toNat_ofInt,BitVec.toNat_ofInt]
  simp only [IntKind.bits]
  rw [Int.emod_eq_of_lt (by omega) (by omega),Int.emod_eq_of_lt (by omega) (by omega)]
 have h1:a.toNat<2^32:=by omega
 have h2:b.toNat<2^32:=by omega
 have h3:a.toNat |||b.toNat<2^32:=Nat.or_lt_two_pow h1 h2
 simp only [z14]
 rw [h,z9i ⟨by omega,by omega⟩]
theorem zgt{a b:Int}(ha:0<=a/\ a<4294967296)(hb:0<=b/\ b<4294967296):z14 .xor .u32 a b=some (.int .u32 ((a.toNat^^^b.toNat:Nat):Int)):=by
 have h:(BitVec.ofInt IntKind.u32.bits a^^^BitVec.ofInt IntKind.u32.bits b).toNat=a.toNat^^^b.toNat:=by
  rw [BitVec.toNat_xor,BitVec.toNat_ofInt,BitVec.toNat_ofInt]
  simp only [IntKind.bits]
  rw [Int.emod_eq_of_lt (by omega) (by omega),Int.emod_eq_of_lt (by omega) (by omega)]
 have h1:a.toNat<2^32:=by omega
 have h2:b.toNat<2^32:=by omega
 have h3:a.toNat^^^b.toNat<2^32:=Nat.xor_lt_two_pow h1 h2
 simp only [z14]
 rw [h,z9i ⟨by omega,by omega⟩]
theorem znc{a b:Int}(ha:0<=a/\ a<18446744073709551616)(hb:0<=b/\ b<18446744073709551616):z14 .and .u64 a b=some (.int .u64 ((a.toNat &&& b.toNat:Nat):Int)):=by
 have h:(BitVec.ofInt IntKind.u64.bits a &&& BitVec.ofInt IntKind.u64.bits b).toNat=a.toNat &&& b.toNat:=by
  rw [BitVec.toNat_and,BitVec.toNat_ofInt,BitVec.toNat_ofInt]
  simp only [IntKind.bits]
  rw [Int.emod_eq_of_lt (by omega) (by omega),Int.emod_eq_of_lt (by omega) (by omega)]
 have h1:a.toNat<2^64:=by omega
 have h2:b.toNat<2^64:=by omega
 have h3:a.toNat &&& b.toNat<2^64:=Nat.and_lt_two_pow _ h2
 simp only [z14]
 rw [h,zbo ⟨by omega,by omega⟩]
theorem zng{a b:Int}(ha:0<=a/\ a<18446744073709551616)(hb:0<=b/\ b<18446744073709551616):z14 .or .u64 a b=some (.int .u64 ((a.toNat |||b.toNat:Nat):Int)):=by
 have h:(BitVec.ofInt IntKind.u64.bits a |||BitVec.ofInt IntKind.u64.bits b).toNat=a.toNat |||b.toNat:=by
  rw [BitVec.toNat_or,BitVec.toNat_ofInt,BitVec.toNat_ofInt]
  simp only [IntKind.bits]
  rw [Int.emod_eq_of_lt (by omega) (by omega),Int.emod_eq_of_lt (by omega) (by omega)]
 have h1:a.toNat<2^64:=by omega
 have h2:b.toNat<2^64:=by omega
 have h3:a.toNat |||b.toNat<2^64:=Nat.or_lt_two_pow h1 h2
 simp only [z14]
 rw [h,zbo ⟨by omega,by omega⟩]
theorem znk{a b:Int}(ha:0<=a/\ a<18446744073709551616)(hb:0<=b/\ b<18446744073709551616):z14 .xor .u64 a b=some (.int .u64 ((a.toNat^^^b.toNat:Nat):Int)):=by
 have h:(BitVec.ofInt IntKind.u64.bits a^^^BitVec.ofInt IntKind.u64.bits b).toNat=a.toNat^^^b.toNat:=by
  rw [BitVec.toNat_xor,BitVec.toNat_ofInt,BitVec.toNat_ofInt]
  simp only [IntKind.bits]
  rw [Int.emod_eq_of_lt (by omega) (by omega),Int.emod_eq_of_lt (by omega) (by omega)]
 have h1:a.toNat<2^64:=by omega
 have h2:b.toNat<2^64:=by omega
 have h3:a.toNat^^^b.toNat<2^64:=Nat.xor_lt_two_pow h1 h2
 simp only [z14]
 rw [h,zbo ⟨by omega,by omega⟩]
theorem zna{a b:Int}(ha:0<=a/\ a<9223372036854775808)(hb:0<=b/\ b<9223372036854775808):z14 .and .i64 a b=some (.int .i64 ((a.toNat &&& b.toNat:Nat):Int)):=by
 have h:(BitVec.ofInt IntKind.i64.bits a &&& BitVec.ofInt IntKind.i64.bits b).toNat=a.toNat &&& b.toNat:=by
  rw [BitVec.toNat_and,BitVec.toNat_ofInt,BitVec.toNat_ofInt]
  simp only [IntKind.bits]
  rw [Int.emod_eq_of_lt (by omega) (by omega),Int.emod_eq_of_lt (by omega) (by omega)]
 have h1:a.toNat<2^63:=by omega
 have h2:b.toNat<2^63:=by omega
 have h3:a.toNat &&& b.toNat<2^63:=Nat.and_lt_two_pow _ h2
 simp only [z14]
 rw [h,z9h ⟨by omega,by omega⟩]
theorem zne{a b:Int}(ha:0<=a/\ a<9223372036854775808)(hb:0<=b/\ b<9223372036854775808):z14 .or .i64 a b=some (.int .i64 ((a.toNat |||b.toNat:Nat):Int)):=by
 have h:(BitVec.ofInt IntKind.i64.bits a |||BitVec.ofInt IntKind.i64.bits b).toNat=a.toNat |||b.toNat:=by
  rw [BitVec.toNat_or,BitVec.toNat_ofInt,BitVec.toNat_ofInt]
  simp only [IntKind.bits]
  rw [Int.emod_eq_of_lt (by omega) (by omega),Int.emod_eq_of_lt (by omega) (by omega)]
 have h1:a.toNat<2^63:=by omega
 have h2:b.toNat<2^63:=by omega
 have h3:a.toNat |||b.toNat<2^63:=Nat.or_lt_two_pow h1 h2
 simp only [z14]
 rw [h,z9h ⟨by omega,by omega⟩]
theorem zni{a b:Int}(ha:0<=a/\ a<9223372036854775808)(hb:0<=b/\ b<9223372036854775808):z14 .xor .i64 a b=some (.int .i64 ((a.toNat^^^b.toNat:Nat):Int)):=by
 have h:(BitVec.ofInt IntKind.i64.bits a^^^BitVec.ofInt IntKind.i64.bits b).toNat=a.toNat^^^b.toNat:=by
  rw [BitVec.toNat_xor,BitVec.toNat_ofInt,BitVec.toNat_ofInt]
  simp only [IntKind.bits]
  rw [Int.emod_eq_of_lt (by omega) (by omega),Int.emod_eq_of_lt (by omega) (by omega)]
 have h1:a.toNat<2^63:=by omega
 have h2:b.toNat<2^63:=by omega
 have h3:a.toNat^^^b.toNat<2^63:=Nat.xor_lt_two_pow h1 h2
 simp only [z14]
 rw [h,z9h ⟨by omega,by omega⟩]
theorem mask1(a:Nat):a &&& 1=a%2:=Nat.and_two_pow_sub_one_eq_mod a 1
theorem mask2(a:Nat):a &&& 3=a%4:=Nat.and_two_pow_sub_one_eq_mod a 2
theorem mask3(a:Nat):a &&& 7=a%8:=Nat.and_two_pow_sub_one_eq_mod a 3
theorem mask4(a:Nat):a &&& 15=a%16:=Nat.and_two_pow_sub_one_eq_mod a 4
theorem mask5(a:Nat):a &&& 31=a%32:=Nat.and_two_pow_sub_one_eq_mod a 5
theorem mask6(a:Nat):a &&& 63=a%64:=Nat.and_two_pow_sub_one_eq_mod a 6
theorem mask7(a:Nat):a &&& 127=a%128:=Nat.and_two_pow_sub_one_eq_mod a 7
theorem mask8(a:Nat):a &&& 255=a%256:=Nat.and_two_pow_sub_one_eq_mod a 8
theorem mask12(a:Nat):a &&& 4095=a%4096:=Nat.and_two_pow_sub_one_eq_mod a 12
theorem znt(a b:Int):(a==b)=decide (a=b):=by
 by_cases h:a=b<;>simp [h]
theorem znu(a b:Int):(a !=b)=decide (¬a=b):=by
 by_cases h:a=b<;>simp [h]
theorem zou(p:Prop)[Decidable p]:(!decide p)=decide (¬p):=by simp
theorem zt0{a b:Int}(h:0<=a):a.tdiv b=a/b:=Int.tdiv_eq_ediv_of_nonneg h
theorem zt3{a b:Int}(h:0<=a):a.tmod b=a%b:=Int.tmod_eq_emod_of_nonneg h
theorem getQ{α:Type}(l:List α)(i:Nat)(d:α)(h:i<l.length):l[i]? =some (l.getD i d):=by
 simp [List.getD_eq_getElem?_getD,List.getElem?_eq_getElem h]
theorem upd_b{d t:Nat}{v:AV}:upd Z d v t=bif t==d then v else Z t:=by
 unfold upd
 by_cases h:t=d
 ·simp [h]
 ·have:(t==d)=false:=by simpa using h
  rw [if_neg h,this];rfl
theorem z4i{K:Env->Store->Prop}{Z':Env}{O':Store}:z2g K O false (some (Z',O'))=K Z' O':=Eq.trans rfl rfl
theorem z4j{K:Env->Store->Prop}{Z':Env}{O':Store}:z2g K O true (some (Z',O'))=(O'=O/\ K Z' O'):=Eq.trans rfl rfl
section
variable {K:Hist->Env->Store->Prop} {H:Hist} {d:Option Nat} {g:Option (Nat × Bool)} {op:AOp} {nd:Nd} {f:AX} {xs:List AX} {v:AV} {s:Store}
theorem z5o:zw K H ⟨d,g,.no,op⟩ Z O=z2g (K H) O false (z2l ⟨d,g,.no,op⟩ Z O):=Eq.trans rfl rfl
theorem z5p:zw K H ⟨d,g,.same,op⟩ Z O=z2g (K H) O true (z2l ⟨d,g,.same,op⟩ Z O):=Eq.trans rfl rfl
theorem zsn:zw K H ⟨d,g,.rd,op⟩ Z O=rdW K H d op Z O (z1g Z g):=Eq.trans rfl rfl
theorem zsl:zw K H ⟨d,g,.ef,op⟩ Z O=efW K H d op Z O (z1g Z g):=Eq.trans rfl rfl
theorem rdW_t:rdW K H d op Z O (some true)=rdC K H d op Z O (op.run Z O):=Eq.trans rfl rfl
theorem rdW_f:rdW K H d op Z O (some false)=K H (putE Z d .undef) O:=Eq.trans rfl rfl
theorem efW_t:efW K H d op Z O (some true)=efC K H d Z O (op.run Z O):=Eq.trans rfl rfl
theorem efW_f:efW K H d op Z O (some false)=K H (putE Z d .undef) O:=Eq.trans rfl rfl
theorem rdC_s:rdC K H d op Z O (some (v,s))=(s=O/\ (∀h,H.pre h->op.run Z h=some (v,h))/\ K ⟨H.pre,fun s=>H.rds s/\ op.run Z s=some (v,s),H.rd2⟩ (putE Z d v) O):=Eq.trans rfl rfl
theorem zso:zw K H ⟨d,g,.rd2,op⟩ Z O=rd2W K H d op Z O (z1g Z g):=Eq.trans rfl rfl
theorem zsm:zw K H ⟨d,g,.ef2,op⟩ Z O=ef2W K H d op Z O (z1g Z g):=Eq.trans rfl rfl
theorem rd2W_t:rd2W K H d op Z O (some true)=rd2C K H d op Z O (op.run Z O):=Eq.trans rfl rfl
theorem rd2W_f:rd2W K H d op Z O (some false)=K H (putE Z d .undef) O:=Eq.trans rfl rfl
theorem ef2W_t:ef2W K H d op Z O (some true)=ef2C K H d Z O (op.run Z O):=Eq.trans rfl rfl
theorem ef2W_f:ef2W K H d op Z O (some false)=K H (putE Z d .undef) O:=Eq.trans rfl rfl
theorem rd2C_s:rd2C K H d op Z O (some (v,s))=(s=O/\ (∀h,H.pre h->op.run Z h=some (v,h))/\ K ⟨H.pre,fun s=>H.rds s/\ op.run Z s=some (v,s),fun s=>H.rd2 s/\ op.run Z s=some (v,s)⟩ (putE Z d v) O):=Eq.trans rfl rfl
theorem ef2C_s:ef2C K H d Z O (some (v,s))=(H.rd2 s/\ K ⟨fun t=>H.pre t \/t=O,H.rds,H.rd2⟩ (putE Z d v) s):=Eq.trans rfl rfl
theorem zos{h:Store}:Hist.none.rd2 h=True:=Eq.trans rfl rfl
theorem zrn{h:Store}:(Hist.same O).rd2 h=(h=O):=Eq.trans rfl rfl
theorem efC_s:efC K H d Z O (some (v,s))=(H.rds s/\ K ⟨fun t=>H.pre t \/t=O,H.rds,H.rd2⟩ (putE Z d v) s):=Eq.trans rfl rfl
theorem z4f:z25 C K H Z O d nd f xs (some true)=callW C K H Z d nd O (f.ev Z) (xs.map (AX.ev Z)):=Eq.trans rfl rfl
theorem z4e:z25 C K H Z O d nd f xs (some false)=K H (putE Z d .undef) O:=Eq.trans rfl rfl
theorem zom{O':Store}:z2m .no H O O'=True:=Eq.trans rfl rfl
theorem zon{O':Store}:z2m .same H O O'=(O'=O):=Eq.trans rfl rfl
theorem zol{O':Store}:z2m .ef H O O'=H.rds O':=Eq.trans rfl rfl
theorem zoj:z40 .no H O=H:=Eq.trans rfl rfl
theorem zok:z40 .same H O=H:=Eq.trans rfl rfl
theorem zoi:z40 .ef H O=⟨fun s=>H.pre s \/s=O,H.rds,H.rd2⟩:=Eq.trans rfl rfl
theorem un_not{b:Bool}:aUn .not (.bool b)=some (.bool (!b)):=Eq.trans rfl rfl
theorem un_neg{k:IntKind}{n:Int}:aUn .neg (.int k n)=some (.int k (k.wrap (0-n))):=Eq.trans rfl rfl
theorem un_xor{k:IntKind}{n:Int}:aUn .xor (.int k n)=some (.int k (k.wrap (BitVec.ofInt k.bits (if k.signed then-1 else k.max)^^^BitVec.ofInt k.bits n).toNat)):=Eq.trans rfl rfl
theorem rdS_s{s:Store}:rdS K d Z O (some (v,s))=(s=O/\ K (Hist.same O) (putE Z d v) O):=Eq.trans rfl rfl
theorem zrm{h:Store}:(Hist.same O).pre h=(h=O):=Eq.trans rfl rfl
theorem zro{h:Store}:(Hist.same O).rds h=(h=O):=Eq.trans rfl rfl
theorem zor{h:Store}:Hist.none.pre h=False:=Eq.trans rfl rfl
theorem zot{h:Store}:Hist.none.rds h=True:=Eq.trans rfl rfl
end
theorem zm9{k:IntKind}{m:Int}{cells:List AV}{off:Nat}{rest:List (Nat × Nat × AV)}(h:off+1<=cells.length):z17 cells ((off,1,(.int k m))::rest)=z17 (z19 cells off [(.int k m)]) rest:=by
 simp [z17,cellsOf,h]
theorem zmg{s:List UInt8}{cells:List AV}{off:Nat}{rest:List (Nat × Nat × AV)}(h:off+1<=cells.length):z17 cells ((off,1,(.str s))::rest)=z17 (z19 cells off [(.str s)]) rest:=by
 simp [z17,cellsOf,h]
theorem zm7{b:Bool}{cells:List AV}{off:Nat}{rest:List (Nat × Nat × AV)}(h:off+1<=cells.length):z17 cells ((off,1,(.bool b))::rest)=z17 (z19 cells off [(.bool b)]) rest:=by
 simp [z17,cellsOf,h]
theorem zme{r i o:Nat}{cells:List AV}{off:Nat}{rest:List (Nat × Nat × AV)}(h:off+1<=cells.length):z17 cells ((off,1,(.ptr r i o))::rest)=z17 (z19 cells off [(.ptr r i o)]) rest:=by
 simp [z17,cellsOf,h]
theorem zmc{cells:List AV}{off:Nat}{rest:List (Nat × Nat × AV)}(h:off+1<=cells.length):z17 cells ((off,1,.nilp)::rest)=z17 (z19 cells off [.nilp]) rest:=by
 simp [z17,cellsOf,h]
theorem zmd{cells:List AV}{off:Nat}{rest:List (Nat × Nat × AV)}(h:off+1<=cells.length):z17 cells ((off,1,.nilsl)::rest)=z17 (z19 cells off [.nilsl]) rest:=by
 simp [z17,cellsOf,h]
theorem zmi{z:Nat}{es:List (List AV)}{x:Bool}{cells:List AV}{off:Nat}{rest:List (Nat × Nat × AV)}(h:off+1<=cells.length):z17 cells ((off,1,(.vsl z es x))::rest)=z17 (z19 cells off [(.vsl z es x)]) rest:=by
 simp [z17,cellsOf,h]
theorem zmf{r o len z:Nat}{lim:Option Nat}{cells:List AV}{off:Nat}{rest:List (Nat × Nat × AV)}(h:off+1<=cells.length):z17 cells ((off,1,(.sl r o len lim z))::rest)=z17 (z19 cells off [(.sl r o len lim z)]) rest:=by
 simp [z17,cellsOf,h]
theorem zm6{r i o len cap z:Nat}{cells:List AV}{off:Nat}{rest:List (Nat × Nat × AV)}(h:off+1<=cells.length):z17 cells ((off,1,(.asl r i o len cap z))::rest)=z17 (z19 cells off [(.asl r i o len cap z)]) rest:=by
 simp [z17,cellsOf,h]
theorem zmh{cs:List AV}{cells:List AV}{off:Nat}{rest:List (Nat × Nat × AV)}(h:off+1<=cells.length):z17 cells ((off,1,(.vp cs))::rest)=z17 (z19 cells off [(.vp cs)]) rest:=by
 simp [z17,cellsOf,h]
theorem zm8{f:FuncId}{caps:List AV}{cells:List AV}{off:Nat}{rest:List (Nat × Nat × AV)}(h:off+1<=cells.length):z17 cells ((off,1,(.fn f caps))::rest)=z17 (z19 cells off [(.fn f caps)]) rest:=by
 simp [z17,cellsOf,h]
theorem zmb{cells:List AV}{off:Nat}{rest:List (Nat × Nat × AV)}(h:off+1<=cells.length):z17 cells ((off,1,.nilfn)::rest)=z17 (z19 cells off [.nilfn]) rest:=by
 simp [z17,cellsOf,h]
theorem zm5{cs cells:List AV}{off n:Nat}{rest:List (Nat × Nat × AV)}(h0:cs.length=n)(h:off+n<=cells.length):z17 cells ((off,n,.agg cs)::rest)=z17 (z19 cells off cs) rest:=by
 simp [z17,cellsOf,h0,h]
theorem appB_n{ys:List (List AV)}:z2j O .nilsl ys=aApp O 1 .nilsl ys:=rfl
theorem appB_v{esz:Nat}{es ys:List (List AV)}{ex:Bool}:z2j O (.vsl esz es ex) ys=aApp O 1 (.vsl esz es ex) ys:=rfl
theorem appB_s{r off len esz:Nat}{lim:Option Nat}{ys:List (List AV)}:z2j O (.sl r off len lim esz) ys=aApp O 1 (.sl r off len lim esz) ys:=rfl
theorem zkm{ys:List (List AV)}:z2j O .bnil ys=if ys.length ≠ 0/\ ys.length<=1073741824 then some (.bsl O.length ys.length,O++ [some ys])else none:=rfl
theorem zkn{r len:Nat}{ys:List (List AV)}:z2j O (.bsl r len) ys=match O[r]? with
  |some (some o)=>if ys.length ≠ 0/\ o.length=len/\ len+ys.length<=1073741824 then some (.bsl O.length (len+ys.length),O.set r none++ [some (o++ys)])else none
  | _=>none:=rfl
theorem za0{sz:Nat}{ys:List (List AV)}:aApp O sz .nilsl ys=if ys.length=0 then(z22 O .nilsl).map fun _=>(.nilsl,O)else if ys.length<=1073741824 then some (.sl O.length 0 ys.length none sz,O++ [some ys])else none:=Eq.trans rfl rfl
theorem z89{sz esz:Nat}{es ys:List (List AV)}{ex:Bool}:aApp O sz (.vsl esz es ex) ys=if ys.length=0 then(z22 O (.vsl esz es ex)).map fun _=>(.vsl esz es ex,O)else if ex=true/\ esz=sz/\ es.length+ys.length<=1073741824 then some (.sl O.length 0 (es.length+ys.length) none sz,O++ [some (es++ys)])else none:=Eq.trans rfl rfl
theorem za1 {sz r off len esz : Nat} {lim : Option Nat} {ys : List (List AV)} : aApp O sz (.sl r off len lim esz) ys = if ys.length = 0 then (z22 O (.sl r off len lim esz)).map fun _ => (.sl r off len lim esz, O) else match O[r]? with
    | some (some o) => if esz = sz /\ off + len <= o.length /\ len + ys.length <= 1073741824 then
        (match lim with
         | none => if off + len + ys.length <= o.length then some (.sl r off (len + ys.length) none esz, O.set r (some (o.take (off + len) ++ ys ++ o.drop (off + len + ys.length))))
             else some (.sl O.length 0 (len+ys.length) none sz,O.set r none++ [some ((o.drop off).take len++ys)])
         | some c => if len + ys.length <= c then (if off + len + ys.length <= o.length then some (.sl r off (len + ys.length) (some c) esz, O.set r (some (o.take (off + len) ++ ys ++ o.drop (off + len + ys.length)))) else none)
             else some (.sl O.length 0 (len+ys.length) none sz,O++ [some ((o.drop off).take len++ys)]))else none
    | _=>none:=Eq.trans rfl rfl
theorem zma{cells:List AV}:z17 cells []=some cells:=rfl
theorem zpu{c:AV}{cs vs:List AV}{n:Nat}:z19 (c::cs) (n+1) vs=c::z19 cs n vs:=by
 have e:n+1+vs.length=(n+vs.length)+1:=by omega
 simp [z19,e]
theorem zpx{c v:AV}{cs vs:List AV}:z19 (c::cs) 0 (v::vs)=v::z19 cs 0 vs:=by
 simp [z19]
theorem zps{cs:List AV}:z19 cs 0 []=cs:=by simp [z19]
theorem zpw{cs vs:List AV}{n:Nat}:z19 cs n vs=cs.take n++vs++cs.drop (n+vs.length):=Eq.trans rfl rfl
theorem overw1{c v:AV}:z19 [c] 0 [v]=[v]:=by simp [z19]
theorem z8(s:List UInt8):(zh s).length=s.length:=by simp [zh]
theorem z8e{s:List UInt8}{i:Nat}(h:i<s.length):(zh s)[i]? =some [.int .u8 (s.getD i 0).toNat]:=by
 simp [zh,B8,List.getD_eq_getElem?_getD,List.getElem?_eq_getElem h]
theorem zl1{s:List UInt8}{i:Nat}{n:Int}(h:0<=n/\ n<256):(zh s).set i [.int .u8 n]=zh (s.set i (UInt8.ofNat n.toNat)):=by
 have e:((n.toNat%256:Nat):Int)=n:=by omega
 simp [zh,B8,List.map_set,e]
theorem zl0(n:Nat):List.replicate n [AV.int .u8 0]=zh (List.replicate n 0):=by simp [zh,B8]
theorem zgf{s:List UInt8}{i:Nat}(h:i<s.length):s[i]? =some (s.getD i 0):=getQ s i 0 h
theorem zbb{r off len esz:Nat}{lim:Option Nat}:z22 O (.sl r off len lim esz)=match O[r]? with|some (some o)=>if off+len<=o.length then some ((o.drop off).take len)else none| _=>none:=Eq.trans rfl rfl
theorem z3f{k:IntKind}{a b:Int}(h:a=b):AV.int k a=AV.int k b:=by rw [h]
theorem str_eq{a b:List UInt8}(h:a=b):AV.str a=AV.str b:=by rw [h]
theorem wm_u8{n:Int}:IntKind.u8.wrap n=n%256:=by simp [IntKind.wrap,IntKind.signed,IntKind.bits]
theorem wm_u16{n:Int}:IntKind.u16.wrap n=n%65536:=by simp [IntKind.wrap,IntKind.signed,IntKind.bits]
theorem z9j{n:Int}:IntKind.u32.wrap n=n%4294967296:=by simp [IntKind.wrap,IntKind.signed,IntKind.bits]
theorem wm_u64{n:Int}:IntKind.u64.wrap n=n%18446744073709551616:=by simp [IntKind.wrap,IntKind.signed,IntKind.bits]
theorem zl2{s:List UInt8}{i:Nat}:(zh s).take i=zh (s.take i):=by simp [zh,List.map_take]
theorem zkz{s:List UInt8}{i:Nat}:(zh s).drop i=zh (s.drop i):=by simp [zh,List.map_drop]
theorem z8d{s t:List UInt8}:zh s++zh t=zh (s++t):=by simp [zh]
theorem zsu{cs:List AV}{off n:Nat}:z2w cs off n false=cs[off]?:=Eq.trans rfl rfl
theorem zsv{cs:List AV}{off n:Nat}:z2w cs off n true=if off+n<=cs.length then some (.agg ((cs.drop off).take n))else none:=Eq.trans rfl rfl
/-! Guards. -/
def gv(v:AV)(b:Bool):Option Bool:=match v with
 | .bool x=>some (x==b)
 | .undef=>some false
 | _=>none
def insG(g:Option Bool)(d:Option Nat)(op:AOp)(Z:Env)(O:Store):Option (Env × Store):=match g with
 |some true=>(op.run Z O).map fun r=>(putE Z d r.1,r.2)
 |some false=>some (putE Z d .undef,O)
 |none=>none
theorem znq{d:Option Nat}{nd:Nd}{op:AOp}:z2l ⟨d,none,nd,op⟩ Z O=(op.run Z O).map fun r=>(putE Z d r.1,r.2):=rfl
theorem znr{d:Option Nat}{nd:Nd}{b:Bool}{s:Nat}{op:AOp}:z2l ⟨d,some (s,b),nd,op⟩ Z O=insG (gv (Z s) b) d op Z O:=rfl
theorem zmy:z1g Z none=some true:=rfl
theorem zmz{s:Nat}{b:Bool}:z1g Z (some (s,b))=gv (Z s) b:=rfl
theorem gv_tt:gv (.bool true) true=some true:=rfl
theorem gv_tf:gv (.bool true) false=some false:=rfl
theorem gv_ft:gv (.bool false) true=some false:=rfl
theorem gv_ff:gv (.bool false) false=some true:=rfl
theorem zn0{b:Bool}:gv .undef b=some false:=rfl
theorem insG_t{d:Option Nat}{op:AOp}:insG (some true) d op Z O=(op.run Z O).map fun r=>(putE Z d r.1,r.2):=rfl
theorem insG_f{d:Option Nat}{op:AOp}:insG (some false) d op Z O=some (putE Z d .undef,O):=rfl
section
variable {K:Hist->Env->Store->Prop} {K1:Env->Store->Prop} {H:Hist} {d:Option Nat} {op:AOp} {nd:Nd} {b x m:Bool} {P:Prop} {f:AX} {xs:List AX}
theorem zg0[hd:Decidable P](h1:P->z2g K1 O m (insG (gv (.bool true) b) d op Z O))(h2:¬P->z2g K1 O m (insG (gv (.bool false) b) d op Z O)):z2g K1 O m (insG (gv (.bool (@decide P hd)) b) d op Z O):=by
 by_cases h:P
 ·simpa [h]using h1 h
 ·simpa [h]using h2 h
theorem zg1(h1:x=true->z2g K1 O m (insG (gv (.bool true) b) d op Z O))(h2:x=false->z2g K1 O m (insG (gv (.bool false) b) d op Z O)):z2g K1 O m (insG (gv (.bool x) b) d op Z O):=by
 cases x
 ·exact h2 rfl
 ·exact h1 rfl
theorem zg2[hd:Decidable P](h1:P->rdW K H d op Z O (gv (.bool true) b))(h2:¬P->rdW K H d op Z O (gv (.bool false) b)):rdW K H d op Z O (gv (.bool (@decide P hd)) b):=by
 by_cases h:P
 ·simpa [h]using h1 h
 ·simpa [h]using h2 h
theorem zg3(h1:x=true->rdW K H d op Z O (gv (.bool true) b))(h2:x=false->rdW K H d op Z O (gv (.bool false) b)):rdW K H d op Z O (gv (.bool x) b):=by
 cases x
 ·exact h2 rfl
 ·exact h1 rfl
theorem zg4[hd:Decidable P](h1:P->efW K H d op Z O (gv (.bool true) b))(h2:¬P->efW K H d op Z O (gv (.bool false) b)):efW K H d op Z O (gv (.bool (@decide P hd)) b):=by
 by_cases h:P
 ·simpa [h]using h1 h
 ·simpa [h]using h2 h
theorem zg5(h1:x=true->efW K H d op Z O (gv (.bool true) b))(h2:x=false->efW K H d op Z O (gv (.bool false) b)):efW K H d op Z O (gv (.bool x) b):=by
 cases x
 ·exact h2 rfl
 ·exact h1 rfl
theorem zg6[hd:Decidable P](h1:P->z25 C K H Z O d nd f xs (gv (.bool true) b))(h2:¬P->z25 C K H Z O d nd f xs (gv (.bool false) b)):z25 C K H Z O d nd f xs (gv (.bool (@decide P hd)) b):=by
 by_cases h:P
 ·simpa [h]using h1 h
 ·simpa [h]using h2 h
theorem zg7(h1:x=true->z25 C K H Z O d nd f xs (gv (.bool true) b))(h2:x=false->z25 C K H Z O d nd f xs (gv (.bool false) b)):z25 C K H Z O d nd f xs (gv (.bool x) b):=by
 cases x
 ·exact h2 rfl
 ·exact h1 rfl
class ZSp (G:Prop) (A B X Y:outParam Prop):Prop where
 zim:(A->X)->(B->Y)->G
theorem zG{G A B X Y:Prop}[h:ZSp G A B X Y](h1:A->X)(h2:B->Y):G:=h.zim h1 h2
instance zi0:ZSp (z2g K1 O m (insG (gv (.bool x) b) d op Z O)) (x=true) (x=false) (z2g K1 O m (insG (gv (.bool true) b) d op Z O)) (z2g K1 O m (insG (gv (.bool false) b) d op Z O)):=⟨zg1⟩
instance zi1:ZSp (rdW K H d op Z O (gv (.bool x) b)) (x=true) (x=false) (rdW K H d op Z O (gv (.bool true) b)) (rdW K H d op Z O (gv (.bool false) b)):=⟨zg3⟩
instance zi2:ZSp (efW K H d op Z O (gv (.bool x) b)) (x=true) (x=false) (efW K H d op Z O (gv (.bool true) b)) (efW K H d op Z O (gv (.bool false) b)):=⟨zg5⟩
instance zi3:ZSp (z25 C K H Z O d nd f xs (gv (.bool x) b)) (x=true) (x=false) (z25 C K H Z O d nd f xs (gv (.bool true) b)) (z25 C K H Z O d nd f xs (gv (.bool false) b)):=⟨zg7⟩
instance zi4[hd:Decidable P]:ZSp (z2g K1 O m (insG (gv (.bool (@decide P hd)) b) d op Z O)) P (¬P) (z2g K1 O m (insG (gv (.bool true) b) d op Z O)) (z2g K1 O m (insG (gv (.bool false) b) d op Z O)):=⟨zg0⟩
instance zi5[hd:Decidable P]:ZSp (rdW K H d op Z O (gv (.bool (@decide P hd)) b)) P (¬P) (rdW K H d op Z O (gv (.bool true) b)) (rdW K H d op Z O (gv (.bool false) b)):=⟨zg2⟩
instance zi6[hd:Decidable P]:ZSp (efW K H d op Z O (gv (.bool (@decide P hd)) b)) P (¬P) (efW K H d op Z O (gv (.bool true) b)) (efW K H d op Z O (gv (.bool false) b)):=⟨zg4⟩
instance zi7[hd:Decidable P]:ZSp (z25 C K H Z O d nd f xs (gv (.bool (@decide P hd)) b)) P (¬P) (z25 C K H Z O d nd f xs (gv (.bool true) b)) (z25 C K H Z O d nd f xs (gv (.bool false) b)):=⟨zg6⟩
end
end
attribute [go_sem] z4o z4n z4i z4j z5o z5p zsn zsl rdW_t rdW_f efW_t efW_f rdC_s efC_s zso zsm rd2W_t rd2W_f ef2W_t ef2W_f rd2C_s ef2C_s zos zrn z4f z4e zom zon zol zoj zok zoi zor zot false_or or_imp forall_and forall_eq false_implies implies_true znq znr zmy zmz gv_tt gv_tf gv_ft gv_ff zn0 insG_t insG_f AOp.run AX.ev putE upd_b cond_true cond_false z2h Option.map_some Option.bind_some Option.map_none rBin rEq z35 eqOp aMin z2z z2v z3o z3n z3a rFa rFld z3l z3m z1c z39
 z2b blkQ endQ endP retV oks Bool.and_true Bool.true_and RV.val RV.ok Option.getD_some Option.isSome_some List.map_cons List.map_nil List.getD_cons_zero List.getD_cons_succ List.getD_nil if_true if_false ite_true ite_false reduceCtorEq Bool.false_eq_true Bool.true_eq_false beq_true beq_false Bool.not_true Bool.not_false BEq.rfl beq_self_eq_true
 List.nil_append List.cons_append List.append_nil
 oj_mv zpm zp1 zp0 zp2 oj_box zp4 oj_lit zph zpo zpl oj_bin oj_un zp8 zpk zpi zpn oj_fa oj_fld zpa zpb zpc zpd oj_ext zpg zpf zpe oj_app zp9 zp7 zp6 zp3 zpj oj_nil zp5
 z5f z5h z4q zpy zpz aBld appB_n appB_v appB_s zkm zkn z4t z4u z5a z5b z5j z5g z4s z5k z4w z5e z5c z5i z4z z50 z52 z54 z55 z56 z4y z59 z58 z57 z4r z4x z4v zq1 zq0 rCap zay limN z5d
 getElem?_app getElem?_app0 z47 z5m
 shr_u8 shl_u8 zs8 zs3 zj2 ziz zs9 zs4 zs7 zs2 zgq ib_sub ib_mul ib_quo ib_rem ib_eql ib_neq ib_lss ib_leq ib_gtr ib_geq znd znh znl znb znf znj zgr zgs zgt znc zng znk zna zne zni mask1 mask2 mask3 mask4 mask5 mask6 mask7 mask8 mask12
 cellsOf z22 z3q z2t z8f zl3 z9t z9s bnd z9w z9x z9v z6g knownN za0 z89 za1 aBox rCopy zdi List.length_cons List.length_nil Option.bind_none overw1 zpu zpx zps z8 z8e zl1 zl0 zl2 zkz z8d zgf
 List.getElem?_cons_zero List.getElem?_cons_succ List.set_cons_zero List.set_cons_succ List.drop_zero Nat.add_zero Nat.zero_add
 zsu zsv List.drop_succ_cons List.take_succ_cons List.take_zero Nat.zero_mul Nat.mul_one true_and and_true eq_self List.take_of_length_le
 z9h zbo z9i zbn w_u8 znt znu zou zt0 zt3 if_pos if_neg decide_eq_true decide_eq_false Int.toNat_natCast
attribute [go_sem low] un_xor zpw
def z9z(Z' Z:Env):List Nat->Prop
 | []=>True
 |j::l=>Z' j=Z j/\ z9z Z' Z l
theorem zey(Z:Env):∀l,z9z Z Z l
 | []=>trivial
 | _::l=>⟨rfl,zey Z l⟩
theorem zW.slots{C:Ctx}{n k:Nat}{ac:ACode}{Q:AExit->Env->Store->Prop}{Z:Env}{O:Store}(l:List Nat)(h:∀Z',z9z Z' Z l->zW C n k ac Q Z' O):zW C n k ac Q Z O:=h Z (zey Z l)
attribute [go_sem] zm9 zmg zm7 zme zmc zmd zmi zmf zm6 zmh zm8 zmb zm5 zma z9z un_not un_neg rdS_s zrm zro
attribute [go_sem high] zqq zlz zoo zoq
attribute [go_sem low] wm_u8 wm_u16 z9j wm_u64
end
section
section
variable {α:Type} {l m:List α} {r s:Nat} {x:α}
theorem z38(h:r<l.length):(l.set r x)[r]? =some x:=List.getElem?_set_self h
theorem z1r(h:r ≠ s):(l.set r x)[s]? =l[s]?:=List.getElem?_set_ne h
theorem gapp(h:r<l.length):(l++m)[r]? =l[r]?:=List.getElem?_append_left h
theorem z1i(h:l.length<=r):(l++m)[r]? =m[r-l.length]?:=List.getElem?_append_right h
theorem sappr(h:l.length<=r):(l++m).set r x=l++m.set (r-l.length) x:=List.set_append_right _ _ h
theorem sapp(h:r<l.length):(l++m).set r x=l.set r x++m:=List.set_append_left _ _ h
end
def zcy(ts:List RV)(P:AV->Store->Prop):AExit->Env->Store->Prop
 | .exit _=>fun _ _=>False
 | _=>fun Z O=>oks Z O ts=true/\ P (retV ts Z O) O
theorem ACallsP.of_keep{C:Ctx}{f:FuncId}{n:Nat}{ts:List RV}{ac:ACode}(hc:cFn C f=some (n,ts,ac)){args:List AV}{O:Store}{P:AV->Store->Prop}(hn:args.length<=n)
  (h:zW C n O.length ac (zcy ts P) (z2h args) O):ACallsP C f args O P:=by
 simp only [cFn,Option.bind_eq_some_iff]at hc
 obtain⟨fn,hf,hc⟩:=hc
 split at hc
 ·cases hc
 ·rename_i hname
  simp only [Option.bind_eq_some_iff,Option.map_eq_some_iff,Prod.mk.injEq]at hc
  obtain⟨c,hb,ts',hts,ac',hac,rfl,rfl,rfl⟩:=hc
  intro γ w cargs hR ha
  left
  constructor
  ·have hname':(fn.name== "runtime.NumGoroutine")=false:=by simpa using hname
   have h1:fn.name ≠ "runtime.NumGoroutine" :=by simpa using hname'
   simp [callFunc,hf,h1,hb]
  ·have hl:=ha.length
   refine calls_of_wp hf hb ?_
   have hw:=h c hac γ w hR.gl hR.len γ { tmps:=cargs.toArray++Array.replicate (fn.ntmps-cargs.toArray.size) undef,defers:=[] } w (Step.refl _ _) hR
    (z8t ha _) (by simp;omega)
   refine wp_mono hw ?_
   rintro e a' w' ⟨ae,Z',O2,γ',rfl,hq,q1,q2,q3,q4,q5⟩
   have fin:(oks Z' O2 ts'=true/\ P (retV ts' Z' O2) O2)->a'.defers=[]/\ ∃v_1,(results fn a'.tmps).run C.P w'=.ok v_1 w'/\ ∃cv v γ' O',Ending.returned v_1=.returned cv/\ P v O'/\ Step γ w γ' w'/\ Rel C γ' O' w'/\ VR γ' w' v cv:=by
    rintro⟨hk,hp⟩
    obtain⟨rv,r1,r2⟩:=z7n q2 q3 hts hk
    exact⟨q4,_,r1,_,_,γ',O2,rfl,hp,q1,q2,r2⟩
   cases ae with
   |normal=>exact fin hq
   |exit id=>exact hq.elim
   |ret=>exact fin hq
attribute [go_sem] z38 z1r gapp zcy z4l not_true_eq_false not_false_eq_true decide_false decide_true List.set_set List.append_assoc z1i sapp sappr List.length_set Nat.sub_self Nat.add_sub_cancel_left List.length_append List.length_map
@[go_sem] def zZ0:List AV:=[.int .u8 0,.int .u8 0,.int .u8 0,.int .u8 0,.int .u8 0,.int .u8 0,.int .u8 0,.int .u8 0,.int .u8 0,.int .u8 0,.int .u8 0,.int .u8 0,.int .u8 0,.int .u8 0,.int .u8 0,.int .u8 0,.int .u8 0,.int .u8 0,.int .u8 0,.int .u8 0,.int .u8 0,.int .u8 0,.int .u8 0,.int .u8 0,.int .u8 0,.int .u8 0,.int .u8 0,.int .u8 0,.int .u8 0,.int .u8 0,.int .u8 0,.int .u8 0]
@[go_sem] def yI (d:Nat) (o:AOp):AIns:=⟨some d,none,.no,o⟩
@[go_sem] def yM (d s:Nat):AIns:=⟨some d,none,.no,.mv (.t s)⟩
@[go_sem] def yG (d g:Nat) (b:Bool) (o:AOp):AIns:=⟨some d,some (g,b),.no,o⟩
@[go_sem] def yS (n a b:Nat):AIns:=⟨none,none,.no,.store n (.t a) (.t b)⟩
@[go_sem] def yC (d f a:Nat):AIns:=⟨some d,none,.no,.call (.v (.fn f [])) [.t a]⟩
@[go_sem] def yD (d f a b:Nat):AIns:=⟨some d,none,.no,.call (.v (.fn f [])) [.t a,.t b]⟩
@[go_sem] def yK (d:Nat) (k:IntKind) (n:Int):AIns:=⟨some d,none,.no,.mv (.v (.int k n))⟩
@[go_sem] def yP (d a b:Nat):AIns:=⟨some d,none,.no,.pick (.t a) (.v (.bool true)) (.t b)⟩
@[go_sem] def yQ (d a b:Nat):AIns:=⟨some d,none,.no,.pick (.t a) (.t b) (.v (.bool false))⟩
@[go_sem] def yE (d k a:Nat):AIns:=⟨some d,none,.no,.ext k (.t a)⟩
@[go_sem] def yF (d k a:Nat):AIns:=⟨some d,none,.no,.fa k (.t a)⟩
@[go_sem] def yL (d:Nat) (b:Bool) (n a:Nat):AIns:=⟨some d,none,.no,.load b n (.t a)⟩
@[go_sem] def yR (d:Nat) (b:Bool) (n a:Nat):AIns:=⟨some d,none,.rd,.load b n (.t a)⟩
@[go_sem] def yB (d:Nat) (o:BinOp) (a b:Nat):AIns:=⟨some d,none,.no,.bin o .none (.t a) (.t b)⟩
@[go_sem] def yJ (d:Nat) (o:BinOp) (a:Nat) (k:IntKind) (n:Int):AIns:=⟨some d,none,.no,.bin o .none (.t a) (.v (.int k n))⟩
@[go_sem] def yT (d g:Nat) (b:Bool) (k a:Nat):AIns:=⟨some d,some (g,b),.no,.fa k (.t a)⟩
@[go_sem] def yU (d g:Nat) (b c:Bool) (n a:Nat):AIns:=⟨some d,some (g,b),.no,.load c n (.t a)⟩
@[go_sem] def yV (d g:Nat) (b:Bool) (a:Nat):AIns:=⟨some d,some (g,b),.no,.mv (.t a)⟩
abbrev yW:=List AIns
abbrev yX:=ACode
abbrev yq(r:List AIns)(c:ACode):ACode:=.seq (.reg r) c
end
section
open Go.ChangeShapes Go.WideShapes Go.ChangeAt Go.RowKit
section
variable {H:Type} {enc:TypeId × Value->H} {P:Program} {w:World}
theorem znv{base:Nat}{spare:Nat->Bool}{held:Bool}{fuel:Nat}{t e:TypeId}{n:Nat}{k:IntKind}{cs:List Value}{p:List MemPlace}(ns:List Int)
  (ht:P.underlying t=some (.array n e)) (he:P.underlying e=some (.int k)) (hc:P.cellsOf e=1) (hct:P.cellsOf t=n)
  (h:DataW.trod enc P w base spare held fuel t cs=some (.agg (ns.map fun i=> .lit (.int k i)),p)):cs=ns.map (Value.int k):=by
 obtain⟨xs,m,rfl,hx,hl,hn,hel⟩:=DataW.trod_array ht h
 simp only [Prod.mk.injEq,DataW.agg.injEq]at hx
 have hx1:=hx.1
 have hlen:ns.length=n:=by
  have:=congrArg List.length hx1
  simp only [List.length_map]at this
  omega
 rw [hct]at hl
 refine List.ext_getElem? fun i=> ?_
 by_cases hi:i<n
 ·have h1:=hel i hi
  rw [hc,Nat.mul_one]at h1
  obtain⟨x,hxi⟩:∃x,xs[i]? =some x:=⟨xs[i]'(by omega),List.getElem?_eq_getElem (by omega)⟩
  rw [hxi]at h1
  obtain⟨v,e1,e2,_⟩:=DataW.trod_int he h1
  subst e2
  have h2:=congrArg (fun l=>l[i]?) hx1
  simp only [List.getElem?_map,hxi,Option.map_some]at h2
  rw [List.getElem?_map]
  cases hns:ns[i]? with
  |none=>rw [hns]at h2;simp at h2
  |some z=>
   rw [hns]at h2
   simp only [Option.map_some,Option.some.injEq,DataW.lit.injEq,Lit.int.injEq,true_and]at h2
   subst h2
   have h3:=congrArg (fun l=>l[0]?) e1
   simp only [List.getElem?_take,List.getElem?_drop]at h3
   simpa using h3
 ·rw [List.getElem?_eq_none (by omega),List.getElem?_eq_none (by simp;omega)]
theorem zrt{n:String}{g:Nat}{cs:Array Value}(hg:P.globalNamed n=some g)(h:w.var? P n=some cs):Imm [] w g/\ Seg w g 0 cs.toList:=by
 unfold World.var? at h
 rw [hg,Option.bind_some]at h
 split at h
 ·rename_i c ty fz hb
  simp only [Option.some.injEq]at h;subst h
  refine⟨⟨?_,by simp⟩,c,ty,fz,[],[],hb,by simp,rfl⟩
  rcases Nat.lt_or_ge g w.heap.size with h2|h2
  ·exact h2
  ·simp [Array.getElem?_eq_none h2]at hb
 ·cases h
theorem zeu{γ:Places}{k:IntKind}:∀(ns:List Int),VRs γ w (ns.map (AV.int k)) (ns.map (Value.int k))
 | []=>VRs.nil
 | _::ns=>VRs.cons ⟨VR.int,rfl⟩ (zeu ns)
theorem vp_of_var{n:String}{g:Nat}{t e:TypeId}{m:Nat}{k:IntKind}{g':Nat}{t':TypeId}{cs:Array Value}{fuel:Nat}{p:List MemPlace}(ns:List Int)
  (hg:P.globalNamed n=some g) (htg:(P.globals[g]?).map (·.type)=some t) (ht:P.underlying t=some (.array m e)) (he:P.underlying e=some (.int k)) (hc:P.cellsOf e=1) (hct:P.cellsOf t=m)
  (k1:P.globalNamed n=some g') (k2:(P.globals[g']?).map (·.type)=some t') (k3:w.var? P n=some cs)
  (k4:DataW.trod enc P w 0 (fun _=>true) false fuel t' cs.toList=some (.agg (ns.map fun i=> .lit (.int k i)),p)):VR [] w (.vp (ns.map (AV.int k))) (.pointer (some ⟨g,0,none⟩)):=by
 obtain rfl:=Option.some.inj (hg.symm.trans k1)
 obtain rfl:=Option.some.inj (htg.symm.trans k2)
 obtain⟨h1,h2⟩:=zrt hg k3
 rw [znv ns ht he hc hct k4]at h2
 exact⟨g,0,_,rfl,h1,h2,zeu ns⟩
theorem law_contract_at{C:Ctx}{f:FuncId}{fn:Func}{e:Nat × List RV × ACode}(hc:cFn C f=some e){d:Nat}{tys:List Ty}(htys:z9g C.P d fn.params.toList=some tys)
  (hlaw:∀avs,z82 tys avs->ACallsTo C f avs [] (.bool true) []) {s:ChangeSpec} (hvars:s.vars=[])
  (hspec:∀ds:List (DataW H),ds.length=fn.params.toList.length->(s.fn H ds).results=[.lit (.bool true)]/\ (s.fn H ds).args=ds/\ (s.fn H ds).vars=[]) {tb:TypeId} (hres:fn.resultTypes= #[tb]) (htb:C.P.underlying tb=some .bool)
  (hl:laidOutB C.P=true) (hpar:(fn.params.toList.all fun t=>C.P.readableRec t && decide (t<C.P.types.size))=true)
  {W:World} (hR:Rel C [] [] W) {base:Nat} {args:Array Value} {ds gs:List (DataW H)} {before:List MemPlace} (hval:∀(j:Nat) t v,fn.params[j]? =some t->args[j]? =some v->Value.okWide C.P W .any base t v)
  (hW:DataW.Whole enc C.P fn.params.toList s.vars false W args.toList ds gs before):
  Calls C.P f args W fun e W'=>∃v,e=.returned v/\ s.post enc C.P fn false true false false W args v W':=by
 have hW':=hW
 obtain⟨p,q,hA,hV,rfl,hfz,hnd⟩:=hW
 obtain⟨avs,h1,h2⟩:=zhi (r:=.any) (b0:=base) htys (fun j t v hj hv=>hval j t v (by simpa using hj) (by simpa using hv)) hA
 have hcall:=(hlaw avs h2).calls hc hR h1
 have ea:args.toList.toArray=args:=by simp
 rw [ea]at hcall
 refine hcall.mono ?_
 rintro x w' ⟨rfl,hb⟩
 refine⟨_,rfl,zo6 hW' hvars (fun gs hgs=> ?_) hres htb hl hpar hb⟩
 subst hgs
 rw [List.append_nil]
 exact hspec ds (zjh hA)
end
end
section
def shaFirst:List Int:=[1779033703,3144134277,1013904242,2773480762,1359893119,2600822924,528734635,1541459225]
def shaRounds:List Int:=[1116352408,1899447441,3049323471,3921009573,961987163,1508970993,2453635748,2870763221,3624381080,310598401,607225278,1426881987,1925078388,2162078206,2614888103,3248222580,3835390401,4022224774,264347078,604807628,770255983,1249150122,1555081692,1996064986,2554220882,2821834349,2952996808,3210313671,3336571891,3584528711,113926993,338241895,666307205,773529912,1294757372,1396182291,1695183700,1986661051,2177026350,2456956037,2730485921,2820302411,3259730800,3345764771,3516065817,3600352804,4094571909,275423344,430227734,506948616,659060556,883997877,958139571,1322822218,1537002063,1747873779,1955562222,2024104815,2227730452,2361852424,2428436474,2756734187,3204031479,3329325298]
def zcn:List AV:=shaFirst.map (AV.int .u32)
def gl_sha_rounds:List AV:=shaRounds.map (AV.int .u32)
noncomputable def TC:Ctx:=⟨Tryz.prog,fun g=>if g=0 then some zcn else if g=1 then some gl_sha_rounds else none⟩
theorem zdn{k:Nat}{i:IntKind}:∀(l:List Int),RLs k (l.map (AV.int i))
 | []=>by simp [RLs]
 | _::l=>by simp [RLs,RL];exact zdn l
theorem glok:GlOK TC:=by
 intro g cs h
 simp only [TC]at h
 split at h
 ·cases h;exact zdn _
 ·split at h
  ·cases h;exact zdn _
  ·cases h
end
end Am
end Go.Proofs.YtkiimfgjimoffaaGreatDoor
section
/- slices.Backward over hashes: its iterator, walked once. -/
namespace Go.Proofs
open Go.RowKit Go.Shelf
attribute [local go_sem] Oper.semAt_some
theorem zto{F:Fence}{n:Nat}{P:Program}{ops:Array Oper}{Q:Exit->Act->World->Prop}{a:Act}{w:World}{rest:List Oper}{o:Oper}(t:TypeId){x:Operand}{ad:Addr}{v:Value}
  (hg:o.guard=none) (hop:o.op=.load t x) (hl:(loadVar t ad).run P w=.ok v w) (hx:a.eval x=.pointer (some ad)) (h:wpListIn F n P ops Q rest (a.put o.dst v) w):wpListIn F n P ops Q (o::rest) a w:=by
 refine wpListIn_plain hg fun K hK'=> ?_
 unfold Oper.wpIn
 refine⟨?_,?_⟩
 ·simp [Oper.about,hop]
 ·rw [Oper.semAt_plain F _ _ (by rw [hop];intro c hc';cases hc')]
  have e:(execOp a.eval o).run P w=.ok (.value v) w:=by
   simp only [execOp,hop,hx,Sem.run_bind,Instr.loadAt,Instr.sureAddr,Sem.run_pure,Result.andThen_ok,hl]
  rw [e]
  exact hK' _ _ h
set_option maxRecDepth 100000 in
theorem Tryz.back1_in(l B o0 N:Nat)(hN:N<1000000)(J:Nat->World->Prop)(hd:∀j W,J j W->J j W.drew)
  (hR:∀j W,J j W->∃a cap,W.cell? ⟨B,o0,none⟩=some (.slice a N cap)/\ (j<N->∃(b o:Nat) (v:Value),a=some ⟨b,o,none⟩/\ (loadVar 23 ⟨b,o+(N-1-j)*32,none⟩).run Tryz.prog W=.ok v W ∧
   YieldAt Fence.wide 0 Tryz.prog l #[.int .i64 ((N:Int)-1-j),v] W fun e W'=>e=.returned (.bool true)/\ J (j+1) W'))
  (W:World) (h0:J 0 W):
  CallsIn Fence.wide 1 Tryz.prog 71 #[.func (.yield l) #[] #[],.pointer (some ⟨B,o0,none⟩)] W fun e W'=>(∃v,e=.returned v)/\ J N W':=by
 obtain⟨a0,cap0,hc0,_⟩:=hR 0 W h0
 refine callsIn_of_wp Tryz.func71 rfl trivial ?_ rfl
 simp only [Tryz.ntmps71,List.size_toArray,List.length_cons,List.length_nil,Nat.reduceAdd,Nat.reduceSub,Array.replicate_succ,Array.replicate_zero,List.push_toArray,List.append_toArray,List.nil_append,List.cons_append]
 gi_wp2
 gi_loopw [3] (fun i wr=>∃j:Nat,j<=N/\ i=.int .i64 ((N:Int)-1-j)/\ J j wr)
  (fun i _=>(intOf i+1).toNat)
 case atStart=>exact⟨0,Nat.zero_le _,by simp,h0⟩
 case round=>
  obtain⟨k,hk,rfl,hJs⟩:=hrel
  obtain⟨a,cap,hc,hy⟩:=hR k wr hJs
  by_cases hlt:k<N
  ·obtain⟨b,o,v,rfl,hl,fn,tmps,assign,body,hy,hRd⟩:=hy hlt
   clear hR hd
   gi_wp2_with (refine zto 23 rfl rfl hl rfl ?_)
   refine hRd.mono ?_
   rintro e W3 ⟨rfl,hJ3⟩
   gi_wp2
   go_roundw
   case rel=>exact⟨k+1,by omega,by simp;omega,hJ3⟩
   case measure=>simp [intOf];omega
  ·obtain rfl:k=N:=by omega
   gi_wp2
   go_end0
   exact⟨⟨_,rfl⟩,hJs⟩
end Go.Proofs
end
namespace Go.Proofs.YtkiimfgjimoffaaGreatDoor
namespace Am
section
open Go.RowKit
theorem zqp{n k:Nat}{g:AX}{p0 p1:Nat}{xa xb:ACode}{Q:AExit->Env->Store->Prop}{Z:Env}{O:Store}{rB:Nat}{es:List (List AV)}
  (hg:g.ev Z=.fn 71 [.ptr rB 0 0]) (hN:es.length<1000000) (hp0:p0<n) (hp1:p1<n) (hu:∀e ∈ es,e.length=32)
  (I:Nat->Store->Prop) (h0:I 0 O) (hbox:∀j O',I j O'->∃x,O'[rB]? =some (some [[x]])/\ ((x=.nilsl/\ es=[]) \/ ∃ex,x=.vsl 32 es ex))
  (hround:∀(l j:Nat) (O':Store) (cs:List AV),I j O'->j<es.length->es[es.length-1-j]? =some cs->
   SWpI (some l) TC n O'.length xa (z2b (fun Z2 O2=>SWpI (some l) TC n O2.length xb (fun e _ O3=>e=.normal/\ I (j+1) O3) Z2 O2) (fun _ _ _=>False))
    (upd (upd Z p0 (.int .i64 ((es.length:Int)-1-j))) p1 (.agg cs)) O')
  (hend:∀O',I es.length O'->Q .normal Z O'):SWpD TC n k (.rangef g [p0,p1] xa xb) Q Z O:=by
 intro c hc γ0 w0 hgl hk γ a w hst hR hE hn
 obtain⟨go,ps,ca,cb,rfl,hgx,hps,ha,hb⟩:=zl9 hc
 have hpsA:ps= #[p0,p1]:=by
  apply Array.ext'
  rw [hps]
 subst hpsA
 have hgv:VR γ w (.fn 71 [.ptr rB 0 0]) (a.eval go):=by
  have:=zaf hR hE go
  rwa [<-z1d hgx,hg]at this
 simp only [VR,VRt]at hgv
 obtain⟨vs,hge,_,_,rfl,⟨fl,plB,hplB,rfl⟩,rfl⟩:=hgv
 refine wpIn_rangeFunc ?_
 intro fn hfn
 rw [Fence.wide_round]
 obtain⟨rec,hrec⟩:∃rec:LoopState->Option Code->Loop,rec=fun st pe=>{ state:=st,pending:=pe,fn,tmps:=a.tmps,params:= #[p0,p1],assign:=ca,body:=cb,defers:=w.heap.size }:=⟨_,rfl⟩
 obtain⟨W1,hW1⟩:∃W1,(w.alloc (.deferred (some []))).alloc (.loop (rec .ready none))=W1:=⟨_,rfl⟩
 have hL1:W1.heap[w.heap.size+1]? =some (.loop (rec .ready none)):=by
  rw [<-hW1];have:=World.alloc_heap_new (w.alloc (.deferred (some []))) (.loop (rec .ready none));rwa [World.size_alloc]at this
 have hK1:W1.heap[w.heap.size]? =some (.deferred (some [])):=by
  rw [<-hW1];exact(Below.heap_alloc _ _ _ (by simp)).trans (World.alloc_heap_new w _)
 have hbk1:Book w W1:=by rw [<-hW1];exact(Book.alloc w _).trans (Book.alloc _ _)
 have hlow1:∀b,b<w.heap.size->W1.heap[b]? =w.heap[b]?:=fun b hb=>by
  rw [<-hW1,Below.heap_alloc _ _ _ (by simp;omega),Below.heap_alloc _ _ _ hb]
 let J:Nat->World->Prop:=fun j W=>∃γ' O',I j O'/\ Step γ w γ' W/\ Rel TC γ' O' W/\ W.heap[w.heap.size+1]? =some (.loop (rec .ready none))/\ W.heap[w.heap.size]? =some (.deferred (some []))
 have hJ0:J 0 W1:=⟨γ,O,h0,(Step.refl γ w).book hbk1 hlow1,hR.book hbk1,hL1,hK1⟩
 have hJd:∀j W,J j W->J j W.drew:=by
  rintro j W ⟨γ',O',i1,i2,i3,i4,i5⟩
  exact⟨γ',O',i1,i2.book (Book.drew W) (fun _ _=>rfl),i3.book (Book.drew W),i4,i5⟩
 refine⟨w.heap.size+1,[{ target:=.collected w.heap.size,args:= #[] }],W1,{ target:=.fn (.func 71) #[.pointer (some ⟨plB.b,plB.base+0*plB.esz+0,none⟩)],args:= #[.func (.yield (w.heap.size+1)) #[] #[]] },W1,71,
  #[.func (.yield (w.heap.size+1)) #[] #[],.pointer (some ⟨plB.b,plB.base+0*plB.esz+0,none⟩)],W1,?_,?_,fun _ _=>trivial,?_,fun h=>by simp [Fence.wide]at h,?_⟩
 ·rw [<-hW1,hrec];exact run_enterLoop_outer _ _ _ _ _
 ·simp only [resolve,hge]
  simp [go_sem]
 ·have eg:∀args w,(callFunc 71 args).run TC.P w=.ok (.enter 71 args) w:=enters_of Tryz.func71 (by kernel_rfl) rfl
  simp [invoke,go_sem,eg]
 ·refine(Tryz.back1_in (w.heap.size+1) plB.b (plB.base+0*plB.esz+0) es.length hN J hJd ?_ W1 hJ0).mono ?_
  ·-- what is read, and a round
   rintro j W ⟨γ',O',i1,i2,i3,i4,i5⟩
   obtain⟨x,hx,hxs⟩:=hbox j O' i1
   obtain⟨pl,hpl,hok⟩:=i3.alive rB _ hx
   obtain⟨fl',hkp⟩:=i2.keep rB fl plB hplB
   rw [hpl]at hkp;cases hkp
   obtain⟨vals,hsg,hvs⟩:=hok.elem (i:=0) (cs:=[x]) rfl
   simp only [VRs]at hvs
   obtain⟨v,_,rfl,⟨hv,_⟩,rfl⟩:=hvs
   have hcell:=hsg.cell (j:=0) (v:=v) rfl
   rcases hxs with⟨rfl,rfl⟩| ⟨ex,rfl⟩
   ·simp only [VR]at hv
    subst hv
    exact⟨none,0,hcell,fun h=>by simp at h⟩
   ·simp only [VR]at hv
    rcases hv with⟨rfl,ad,rfl⟩| ⟨b,o,cap,vals,rfl,q2,q3,q4,q5,q6,q7⟩
    ·exact⟨some ad,0,hcell,fun h=>by simp at h⟩
    ·refine⟨some ⟨b,o,none⟩,cap,hcell,fun hj=> ?_⟩
     have hi:es.length-1-j<es.length:=by omega
     obtain⟨A,ev,B,rfl,e2,e3⟩:=q7.elem hu (List.getElem?_eq_getElem hi)
     have hseg:Seg W b (o+(es.length-1-j)*32) ev:=by
      obtain⟨c,ty,fz,pre,post,s1,s2,s3⟩:=q5
      exact⟨c,ty,fz,pre++A,B++post,s1,by rw [s2];simp [List.append_assoc],by rw [List.length_append,s3,e2]⟩
     have hel:(es[es.length-1-j]).length=32:=hu _ (List.getElem_mem hi)
     obtain⟨cv,hrun,hcv⟩:=zdv (C:=TC) (t:=23) (off:=0) (n:=32) (ag:=true) (a:=.agg es[es.length-1-j]) (by kernel_rfl) (by kernel_rfl) hseg e3 (by
      unfold z2w
      rw [if_pos rfl,if_pos (by omega),List.drop_zero,List.take_of_length_le (by omega)])
     refine⟨b,o,cv,rfl,hrun,?_⟩
     have hy:=run_yield (P:=Tryz.prog) (args:= #[.int .i64 ((es.length:Int)-1-j),cv]) i4 (by rw [hrec];rfl)
     rw [hrec]at hy
     have hz:((#[p0,p1]:Array Nat).zip #[Value.int .i64 ((es.length:Int)-1-j),cv]).foldl (fun tmps (x:Nat × Value)=>match x with|(t,a)=>tmps.setIfInBounds t a) a.tmps=(a.tmps.setIfInBounds p0 (.int .i64 ((es.length:Int)-1-j))).setIfInBounds p1 cv:=by simp
     dsimp only at hy
     rw [hz]at hy
     refine⟨fn,_,ca,cb,hy,roundIn_of_wpIn trivial ?_⟩
     have hEj:EnvR γ' W Z a.tmps:=hE.mono i2
     have hE2:EnvR γ' W (upd (upd Z p0 (.int .i64 ((es.length:Int)-1-j))) p1 (.agg es[es.length-1-j])) ((a.tmps.setIfInBounds p0 (.int .i64 ((es.length:Int)-1-j))).setIfInBounds p1 cv):=by
      have e1:=EnvR.put (a:=a) hEj (d:=some p0) (v:=.int .i64 ((es.length:Int)-1-j)) (cv:=.int .i64 ((es.length:Int)-1-j)) (by rintro x ⟨⟩;rw [hn];exact hp0) (by simp only [VR])
      have e2:=EnvR.put (a:=a.put (some p0) (.int .i64 ((es.length:Int)-1-j))) e1 (d:=some p1) (cv:=cv) (by rintro x ⟨⟩;simp [Act.put,hn,hp1]) hcv
      exact e2
     refine wpIn_mono ((hround (w.heap.size+1) j O' _ i1 hj (List.getElem?_eq_getElem hi)) ca ha 0 γ' W i3.gl i3.len γ' { tmps:=(a.tmps.setIfInBounds p0 (.int .i64 ((es.length:Int)-1-j))).setIfInBounds p1 cv,defers:=[] } W (Step.refl _ _) i3 hE2 (by simp [hn])) ?_
     rintro e a2 w2 ⟨ae,Z2,O2,γ2,rfl,hq,t1,t2,t3,t4,t5⟩
     cases ae with
     |exit id=>exact hq.elim
     |ret=>exact hq.elim
     |normal=>
      have l2:=t1.other i3 i4 rfl
      have d2:=t1.other i3 i5 rfl
      have S2:=i2.trans t1
      have bk2:=Book.putObj (.loop { rec .ready none with state:=.busy }) l2 rfl
      refine⟨_,run_beginRound l2 (by rw [hrec]),?_⟩
      have R2:=t2.book bk2
      have E2:EnvR γ2 (w2.putObj (w.heap.size+1) (.loop { rec .ready none with state:=.busy })) Z2 a2.tmps:=fun t=>VR.book bk2 _ _ (t3 t)
      have S2':=S2.book bk2 fun b hb=>World.putObj_heap_other (by omega)
      have hlt2:w.heap.size+1<w2.heap.size:=(Array.getElem?_eq_some_iff.1 l2).1
      have l3:(w2.putObj (w.heap.size+1) (.loop { rec .ready none with state:=.busy })).heap[w.heap.size+1]? =some (.loop { rec .ready none with state:=.busy }):=World.putObj_heap_same hlt2
      have d3:(w2.putObj (w.heap.size+1) (.loop { rec .ready none with state:=.busy })).heap[w.heap.size]? =some (.deferred (some [])):=(World.putObj_heap_other (by omega)).trans d2
      refine wpIn_mono (hq cb hb 0 γ2 _ R2.gl R2.len γ2 a2 _ (Step.refl _ _) R2 E2 t5) ?_
      rintro e a3 w3 ⟨ae,Z3,O3,γ3,rfl,⟨rfl,hI⟩,u1,u2,u3,u4,u5⟩
      have l4:=u1.other R2 l3 rfl
      have d4:=u1.other R2 d3 rfl
      have S3:=S2'.trans u1
      have bk3:=Book.putObj (.loop (rec .ready none)) l4 rfl
      have hend:=run_endRound (P:=Tryz.prog) none l4
      refine⟨_,_,hend,rfl,γ3,O3,hI,?_,?_,?_,?_⟩
      ·exact S3.book (by simpa [hrec]using bk3) fun b hb=>World.putObj_heap_other (by omega)
      ·exact u2.book (by simpa [hrec]using bk3)
      ·rw [World.putObj_heap_same (Array.getElem?_eq_some_iff.1 l4).1,hrec];rfl
      ·exact(World.putObj_heap_other (by omega)).trans d4
  ·-- behind the iterator
   rintro e W2 ⟨⟨v,rfl⟩,γ',O',i1,i2,i3,i4,i5⟩
   have hel:=run_endLoop (P:=Tryz.prog) i4 (by rw [hrec];simp)
   refine⟨none,_,by rw [hrec]at hel;exact hel,?_⟩
   refine⟨.normal,Z,O',γ',rfl,hend O' i1,(hst.trans i2).book (Book.putObj _ i4 rfl) fun b hb=>World.putObj_heap_other (by have:=hst.size;omega),i3.book (Book.putObj _ i4 rfl),fun t=>VR.book (Book.putObj _ i4 rfl) _ _ ((hE.mono i2) t),.inr ⟨w.heap.size,hst.size,rfl,(World.putObj_heap_other (by omega)).trans i5⟩,hn⟩
end
section
def q0r0:yW:=[
 yI 4 (.mv (.v (.str [])))]
def q0r1:yW:=[
 yM 7 1,
 yJ 8 .lss 7 .i64 1,
 yM 9 8,
 yV 10 9 false 1,
 yG 11 9 false (.bin .gtr .none (.t 10) (.v (.int .i64 8))),
 yP 12 9 11]
def q0r2:yW:=[
 yI 4 (.mv (.v (.str [])))]
def q0c3:yX:=yq q0r2 .ret
def q0c4:yX:=.cond (.t 12) q0c3 .skip
def q0c5:yX:=yq q0r1 q0c4
def q0r6:yW:=[
 yM 13 1,
 yI 14 (.make 1 [(.int .u8 0)] (.t 13) (.t 13)),
 yM 5 14]
def q0r7:yW:=[
 yM 15 1,
 yK 16 .i64 0]
def q0r8:yW:=[
 yB 17 .lss 16 15]
def q0r9:yW:=[
 yM 18 16,
 yM 6 18]
def q0r10:yW:=[
 yM 19 5,
 yM 20 1,
 yJ 21 .sub 20 .i64 1,
 yM 22 6,
 yB 23 .sub 21 22,
 yM 24 0,
 yI 25 (.conv (.int .u8) (.t 24)),
 yI 26 (.iaSl 1 (.t 19) (.t 23)),
 yS 1 26 25]
def q0r11:yW:=[
 yM 27 0,
 yJ 28 .shr 27 .u64 8,
 yM 0 28]
def q0c12:yX:=yq q0r10 (.reg q0r11)
def q0c13:yX:=yq q0r9 q0c12
def q0r14:yW:=[
 yJ 29 .add 16 .i64 1,
 yM 16 29]
def q0c15:yX:=.seq (.block 1 q0c13) (.reg q0r14)
def q0c16:yX:=.seq (.cond (.t 17) .skip (.exit 0)) q0c15
def q0c17:yX:=yq q0r8 q0c16
def q0c18:yX:=.loop q0c17
def q0c19:yX:=.block 0 q0c18
def q0c20:yX:=yq q0r7 q0c19
def q0r21:yW:=[
 yM 30 5,
 yI 31 (.conv .str (.t 30)),
 yM 4 31]
def q0c22:yX:=yq q0r21 .ret
def q0c23:yX:=.seq q0c20 q0c22
def q0c24:yX:=yq q0r6 q0c23
def q0c25:yX:=.seq q0c5 q0c24
def q0c26:yX:=yq q0r0 q0c25
attribute [go_sem] q0r0 q0r1 q0r2 q0r6 q0r7 q0r8 q0r9 q0r10 q0r11 q0r14 q0r21
theorem q0ok:cFn TC 41=some (32,[.t 4],q0c26):=by kernel_rfl
def q1r0:yW:=[
 yI 4 (.mv (.v (.str [])))]
def q1r1:yW:=[
 yI 5 (.mv (.v (.str [])))]
def q1r2:yW:=[
 yK 6 .i64 0]
def q1r3:yW:=[
 yM 7 6,
 yM 8 1,
 yB 9 .lss 7 8,
 yM 10 9,
 yV 11 10 true 1,
 yG 12 10 true (.bin .lss .none (.t 11) (.v (.int .i64 9))),
 yQ 13 10 12]
def q1c4:yX:=.cond (.t 13) .skip (.exit 0)
def q1c5:yX:=yq q1r3 q1c4
def q1r6:yW:=[
 yM 16 0,
 yJ 17 .rem 16 .u64 256,
 yI 18 (.conv (.int .u8) (.t 17)),
 yI 19 (.lit 1 [(.t 18)]),
 yI 20 (.conv .str (.t 19)),
 yM 21 5,
 yB 22 .add 20 21,
 yM 5 22]
def q1r7:yW:=[
 yM 23 0,
 yJ 24 .quo 23 .u64 256,
 yM 0 24]
def q1c8:yX:=yq q1r6 (.reg q1r7)
def q1r9:yW:=[
 yM 14 6,
 yJ 15 .add 14 .i64 1,
 yM 6 15]
def q1c10:yX:=.seq (.block 1 q1c8) (.reg q1r9)
def q1c11:yX:=.seq q1c5 q1c10
def q1c12:yX:=.loop q1c11
def q1c13:yX:=.block 0 q1c12
def q1c14:yX:=yq q1r2 q1c13
def q1r15:yW:=[
 yM 25 5,
 yM 4 25]
def q1c16:yX:=yq q1r15 .ret
def q1c17:yX:=.seq q1c14 q1c16
def q1c18:yX:=yq q1r1 q1c17
def q1c19:yX:=yq q1r0 q1c18
attribute [go_sem] q1r0 q1r1 q1r2 q1r3 q1r6 q1r7 q1r9 q1r15
theorem q1ok:cFn TC 55=some (26,[.t 4],q1c19):=by kernel_rfl
def q2r0:yW:=[
 yK 4 .u32 0]
def q2r1:yW:=[
 yM 5 0,
 yM 6 1,
 yJ 7 .rem 6 .i64 32,
 yI 8 (.un .neg (.t 7)),
 yD 9 86 5 8,
 yM 4 9]
def q2c2:yX:=yq q2r1 .ret
def q2c3:yX:=yq q2r0 q2c2
attribute [go_sem] q2r0 q2r1
theorem q2ok:cFn TC 61=some (10,[.t 4],q2c3):=by kernel_rfl
def q3r0:yW:=[
 yK 2 .i64 0]
def q3r1:yW:=[
 yM 3 0,
 yI 4 (.minmax true (.t 3) (.v (.int .i64 0))),
 yI 5 (.conv (.int .u64) (.t 4)),
 yC 6 89 5,
 yM 2 6]
def q3c2:yX:=yq q3r1 .ret
def q3c3:yX:=yq q3r0 q3c2
attribute [go_sem] q3r0 q3r1
theorem q3ok:cFn TC 69=some (7,[.t 2],q3c3):=by kernel_rfl
def q4r0:yW:=[
 yK 4 .i64 0]
def q4r1:yW:=[
 yM 5 1,
 yJ 6 .lss 5 .i64 0,
 yM 7 6,
 yV 8 7 false 1,
 yG 9 7 false (.bin .quo .none (.t 8) (.v (.int .i64 8))),
 yV 10 7 false 0,
 yG 11 7 false (.lenStr (.t 10)),
 yG 12 7 false (.bin .geq .none (.t 9) (.t 11)),
 yP 13 7 12]
def q4r2:yW:=[
 yK 4 .i64 0]
def q4c3:yX:=yq q4r2 .ret
def q4c4:yX:=.cond (.t 13) q4c3 .skip
def q4c5:yX:=yq q4r1 q4c4
def q4r6:yW:=[
 yM 14 0,
 yM 15 1,
 yJ 16 .quo 15 .i64 8,
 yI 17 (.ixStr (.t 14) (.t 16)),
 yM 18 1,
 yJ 19 .rem 18 .i64 8,
 yI 20 (.bin .sub .none (.v (.int .i64 7)) (.t 19)),
 yB 21 .shr 17 20,
 yJ 22 .and 21 .u8 1,
 yI 23 (.conv (.int .i64) (.t 22)),
 yM 4 23]
def q4c7:yX:=yq q4r6 .ret
def q4c8:yX:=.seq q4c5 q4c7
def q4c9:yX:=yq q4r0 q4c8
attribute [go_sem] q4r0 q4r1 q4r2 q4r6
theorem q4ok:cFn TC 73=some (24,[.t 4],q4c9):=by kernel_rfl
def q5r0:yW:=[
 yK 4 .i64 0]
def q5r1:yW:=[
 yM 7 1,
 yJ 8 .lss 7 .i64 0,
 yM 9 8,
 yV 10 9 false 1,
 yG 11 9 false (.bin .quo .none (.t 10) (.v (.int .i64 8))),
 yV 12 9 false 0,
 yG 13 9 false (.lenStr (.t 12)),
 yG 14 9 false (.bin .geq .none (.t 11) (.t 13)),
 yP 15 9 14]
def q5r2:yW:=[
 yK 4 .i64 0]
def q5c3:yX:=yq q5r2 .ret
def q5c4:yX:=.cond (.t 15) q5c3 .skip
def q5c5:yX:=yq q5r1 q5c4
def q5r6:yW:=[
 yM 16 0,
 yM 17 1,
 yJ 18 .quo 17 .i64 8,
 yI 19 (.ixStr (.t 16) (.t 18)),
 yM 5 19]
def q5r7:yW:=[
 yM 20 1,
 yJ 21 .rem 20 .i64 8,
 yM 6 21]
def q5r8:yW:=[
 yM 22 6,
 yJ 23 .lss 22 .i64 7]
def q5c9:yX:=.cond (.t 23) .skip (.exit 0)
def q5c10:yX:=yq q5r8 q5c9
def q5r11:yW:=[
 yM 26 5,
 yJ 27 .quo 26 .u8 2,
 yM 5 27]
def q5r12:yW:=[
 yM 24 6,
 yJ 25 .add 24 .i64 1,
 yM 6 25]
def q5c13:yX:=.seq (.block 1 (.reg q5r11)) (.reg q5r12)
def q5c14:yX:=.seq q5c10 q5c13
def q5c15:yX:=.loop q5c14
def q5c16:yX:=.block 0 q5c15
def q5c17:yX:=yq q5r7 q5c16
def q5r18:yW:=[
 yM 28 5,
 yJ 29 .rem 28 .u8 2,
 yI 30 (.conv (.int .i64) (.t 29)),
 yM 4 30]
def q5c19:yX:=yq q5r18 .ret
def q5c20:yX:=.seq q5c17 q5c19
def q5c21:yX:=yq q5r6 q5c20
def q5c22:yX:=.seq q5c5 q5c21
def q5c23:yX:=yq q5r0 q5c22
attribute [go_sem] q5r0 q5r1 q5r2 q5r6 q5r7 q5r8 q5r11 q5r12 q5r18
theorem q5ok:cFn TC 74=some (31,[.t 4],q5c23):=by kernel_rfl
def q6r0:yW:=[
 yK 2 .u64 0]
def q6r1:yW:=[
 yK 3 .u64 0]
def q6r2:yW:=[
 yM 5 0,
 yI 6 (.lenStr (.t 5)),
 yI 7 (.minmax false (.t 6) (.v (.int .i64 8))),
 yK 8 .i64 0]
def q6r3:yW:=[
 yB 9 .lss 8 7]
def q6r4:yW:=[
 yM 10 8,
 yM 4 10]
def q6r5:yW:=[
 yM 11 3,
 yJ 12 .shl 11 .u64 8,
 yM 13 0,
 yM 14 4,
 yI 15 (.ixStr (.t 13) (.t 14)),
 yI 16 (.conv (.int .u64) (.t 15)),
 yB 17 .add 12 16,
 yM 3 17]
def q6c6:yX:=yq q6r4 (.reg q6r5)
def q6r7:yW:=[
 yJ 18 .add 8 .i64 1,
 yM 8 18]
def q6c8:yX:=.seq (.block 1 q6c6) (.reg q6r7)
def q6c9:yX:=.seq (.cond (.t 9) .skip (.exit 0)) q6c8
def q6c10:yX:=yq q6r3 q6c9
def q6c11:yX:=.loop q6c10
def q6c12:yX:=.block 0 q6c11
def q6c13:yX:=yq q6r2 q6c12
def q6r14:yW:=[
 yM 19 3,
 yM 2 19]
def q6c15:yX:=yq q6r14 .ret
def q6c16:yX:=.seq q6c13 q6c15
def q6c17:yX:=yq q6r1 q6c16
def q6c18:yX:=yq q6r0 q6c17
attribute [go_sem] q6r0 q6r1 q6r2 q6r3 q6r4 q6r5 q6r7 q6r14
theorem q6ok:cFn TC 85=some (20,[.t 2],q6c18):=by kernel_rfl
def q7r0:yW:=[
 yK 4 .u32 0]
def q7r1:yW:=[
 yM 6 1,
 yI 7 (.conv (.int .u64) (.t 6)),
 yJ 8 .and 7 .u64 31,
 yM 5 8]
def q7r2:yW:=[
 yM 9 0,
 yM 10 5,
 yB 11 .shl 9 10,
 yM 12 0,
 yM 13 5,
 yI 14 (.bin .sub .none (.v (.int .u64 32)) (.t 13)),
 yB 15 .shr 12 14,
 yB 16 .or 11 15,
 yM 4 16]
def q7c3:yX:=yq q7r2 .ret
def q7c4:yX:=yq q7r1 q7c3
def q7c5:yX:=yq q7r0 q7c4
attribute [go_sem] q7r0 q7r1 q7r2
theorem q7ok:cFn TC 86=some (17,[.t 4],q7c5):=by kernel_rfl
def q8r0:yW:=[
 yK 2 .i64 0]
def q8r1:yW:=[
 yM 3 0,
 yI 4 (.conv (.int .u32) (.t 3)),
 yC 5 99 4,
 yM 2 5]
def q8c2:yX:=yq q8r1 .ret
def q8r3:yW:=[
 yM 6 0,
 yC 7 100 6,
 yM 2 7]
def q8c4:yX:=yq q8r3 .ret
def q8c5:yX:=.seq (.cond (.v (.bool false)) q8c2 .skip) q8c4
def q8c6:yX:=yq q8r0 q8c5
attribute [go_sem] q8r0 q8r1 q8r3
theorem q8ok:cFn TC 89=some (8,[.t 2],q8c6):=by kernel_rfl
def q9r0:yW:=[
 yK 2 .i64 0]
def q9r1:yW:=[
 yM 3 0,
 yJ 4 .shr 3 .u64 1,
 yJ 5 .and 4 .u64 6148914691236517205,
 yM 6 0,
 yJ 7 .and 6 .u64 6148914691236517205,
 yB 8 .add 5 7,
 yM 0 8]
def q9r2:yW:=[
 yM 9 0,
 yJ 10 .shr 9 .u64 2,
 yJ 11 .and 10 .u64 3689348814741910323,
 yM 12 0,
 yJ 13 .and 12 .u64 3689348814741910323,
 yB 14 .add 11 13,
 yM 0 14]
def q9r3:yW:=[
 yM 15 0,
 yJ 16 .shr 15 .u64 4,
 yM 17 0,
 yB 18 .add 16 17,
 yJ 19 .and 18 .u64 1085102592571150095,
 yM 0 19]
def q9r4:yW:=[
 yM 20 0,
 yM 21 0,
 yJ 22 .shr 21 .u64 8,
 yB 23 .add 20 22,
 yM 0 23]
def q9r5:yW:=[
 yM 24 0,
 yM 25 0,
 yJ 26 .shr 25 .u64 16,
 yB 27 .add 24 26,
 yM 0 27]
def q9r6:yW:=[
 yM 28 0,
 yM 29 0,
 yJ 30 .shr 29 .u64 32,
 yB 31 .add 28 30,
 yM 0 31]
def q9r7:yW:=[
 yM 32 0,
 yI 33 (.conv (.int .i64) (.t 32)),
 yJ 34 .and 33 .i64 127,
 yM 2 34]
def q9c8:yX:=yq q9r7 .ret
def q9c9:yX:=yq q9r6 q9c8
def q9c10:yX:=yq q9r5 q9c9
def q9c11:yX:=yq q9r4 q9c10
def q9c12:yX:=yq q9r3 q9c11
def q9c13:yX:=yq q9r2 q9c12
def q9c14:yX:=yq q9r1 q9c13
def q9c15:yX:=yq q9r0 q9c14
attribute [go_sem] q9r0 q9r1 q9r2 q9r3 q9r4 q9r5 q9r6 q9r7
theorem q9ok:cFn TC 100=some (35,[.t 2],q9c15):=by kernel_rfl
end
section

end
section
theorem and31(k:Int):IntKind.u64.wrap ((BitVec.ofInt IntKind.u64.bits (IntKind.u64.wrap k) &&& BitVec.ofInt IntKind.u64.bits 31).toNat:Int)=((k%32).toNat:Int):=by
 rw [u_nat (by rfl),BitVec.toNat_and]
 have h1:(BitVec.ofInt IntKind.u64.bits 31).toNat=2^5-1:=by decide
 have h2:((BitVec.ofInt IntKind.u64.bits (IntKind.u64.wrap k)).toNat:Int)=k%18446744073709551616:=by
  rw [BitVec.toNat_ofInt,zbr (by rfl)]
  simp only [IntKind.bits]
  omega
 rw [h1,Nat.and_two_pow_sub_one_eq_mod]
 omega
theorem zte(x:BitVec 32):IntKind.u32.wrap (x.toNat:Int)=x.toNat:=u_nat (k:=.u32) (by rfl) x
theorem rot_or(x:BitVec 32)(s:Nat)(hs:s<32):
  IntKind.u32.wrap ((BitVec.ofInt 32 (IntKind.u32.wrap ((x.toNat:Int)*2^min s 32)) |||BitVec.ofInt 32 ((x.toNat:Int).fdiv (2^min (32-s) 32))).toNat:Int)=((x.rotateLeft s).toNat:Int):=by
 rw [zte]
 have h1:BitVec.ofInt 32 (IntKind.u32.wrap ((x.toNat:Int)*2^min s 32))=x<<<s:=by
  apply BitVec.eq_of_toNat_eq
  rw [BitVec.toNat_ofInt,zbr (by rfl),Nat.min_eq_left (by omega),BitVec.toNat_shiftLeft,Nat.shiftLeft_eq]
  simp only [IntKind.bits]
  have:((x.toNat:Int)*2^s)=((x.toNat*2^s:Nat):Int):=by simp
  rw [this]
  omega
 have h2:BitVec.ofInt 32 ((x.toNat:Int).fdiv (2^min (32-s) 32))=x>>>(32-s):=by
  apply BitVec.eq_of_toNat_eq
  have hx:=x.isLt
  rw [BitVec.toNat_ofInt,Nat.min_eq_left (by omega),BitVec.toNat_ushiftRight,Nat.shiftRight_eq_div_pow,Int.fdiv_eq_ediv_of_nonneg _ (by exact_mod_cast Nat.zero_le _)]
  have:((x.toNat:Int)/2^(32-s))=((x.toNat/2^(32-s):Nat):Int):=by simp
  rw [this]
  have h3:x.toNat/2^(32-s)<=x.toNat:=Nat.div_le_self _ _
  generalize x.toNat/2^(32-s)=y at*
  omega
 rw [h1,h2,BitVec.rotateLeft_def]
 simp only [Nat.mod_eq_of_lt hs]
theorem zkt(O:Store)(x:BitVec 32)(k:Int):ACallsTo TC 86 [.int .u32 x.toNat,.int .i64 k] O (.int .u32 (x.rotateLeft (k%32).toNat).toNat) O:=by
 refine ACallsTo.of_body q7ok (by simp) fun hw _=> ?_
 have hs:(k%32).toNat<32:=by omega
 generalize hk:(k%32).toNat=s at*
 have h31:=and31 k
 rw [hk]at h31
 have e1:¬((s:Int)<0):=by omega
 have e2:IntKind.u64.wrap (32-(s:Int))=((32-s:Nat):Int):=by
  rw [zbr (by rfl)];simp only [IntKind.bits];omega
 have e3:¬(((32-s:Nat):Int)<0):=by omega
 unfold q7c5
 refine zW.seqReg ?_
 simp only [q7r0,yM,yI,yG,yS,yC,yD,yK,yP,yQ,yE,yF,yL,yR,yB,yJ,yT,yU,yV,z4o,z4n,z4i,z4j,z5o,z5p,z4f,z4e,z2l,z1g,AOp.run,AX.ev,putE,upd,z2h,Option.map_some,Option.bind_some,Option.map_none,rBin,rEq,z14,z1e,z35,eqOp,aUn,aMin,z2z,z2v,z3o,z3n,z3a,rFa,rFld,z3l,z3m,z1c,z39,z17,z2b,blkQ,endQ,retV,oks,RV.ok,RV.val,Bool.and_true,Bool.true_and,List.map_cons,List.map_nil,List.getD_cons_zero,List.getD_cons_succ,List.getD_nil,if_true,if_false,ite_true,ite_false,reduceCtorEq,Nat.reduceEqDiff,Nat.reduceAdd,Bool.false_eq_true,Bool.true_eq_false,beq_true,beq_false,Bool.not_true,Bool.not_false,BEq.rfl,beq_self_eq_true,List.nil_append,List.cons_append,List.append_nil,z5f,z5h,z4q,z4t,z4u,z5a,z5b,z5j,z5g,z4s,z5k,z4w,z5e,z5c,z5i,z4z,z50,z52,z54,z55,z56,z4y,z59,z58,z57,z4r,z4x,z4v,z5d,getElem?_app,getElem?_app0,z47,z5m]
 unfold q7c4
 refine zW.seqReg ?_
 simp only [q7r1,yM,yI,yG,yS,yC,yD,yK,yP,yQ,yE,yF,yL,yR,yB,yJ,yT,yU,yV,z4o,z4n,z4i,z4j,z5o,z5p,z4f,z4e,z2l,z1g,AOp.run,AX.ev,putE,upd,z2h,Option.map_some,Option.bind_some,Option.map_none,rBin,rEq,z14,z1e,z35,eqOp,aUn,aMin,z2z,z2v,z3o,z3n,z3a,rFa,rFld,z3l,z3m,z1c,z39,z17,z2b,blkQ,endQ,retV,oks,RV.ok,RV.val,Bool.and_true,Bool.true_and,List.map_cons,List.map_nil,List.getD_cons_zero,List.getD_cons_succ,List.getD_nil,if_true,if_false,ite_true,ite_false,reduceCtorEq,Nat.reduceEqDiff,Nat.reduceAdd,Bool.false_eq_true,Bool.true_eq_false,beq_true,beq_false,Bool.not_true,Bool.not_false,BEq.rfl,beq_self_eq_true,List.nil_append,List.cons_append,List.append_nil,z5f,z5h,z4q,z4t,z4u,z5a,z5b,z5j,z5g,z4s,z5k,z4w,z5e,z5c,z5i,z4z,z50,z52,z54,z55,z56,z4y,z59,z58,z57,z4r,z4x,z4v,z5d,getElem?_app,getElem?_app0,z47,z5m]
 unfold q7c3
 refine zW.seqReg ?_
 simp only [q7r2,yM,yI,yG,yS,yC,yD,yK,yP,yQ,yE,yF,yL,yR,yB,yJ,yT,yU,yV,h31,e1,e2,e3,Int.toNat_natCast,z4o,z4n,z4i,z4j,z5o,z5p,z4f,z4e,z2l,z1g,AOp.run,AX.ev,putE,upd,z2h,Option.map_some,Option.bind_some,Option.map_none,rBin,rEq,z14,z1e,z35,eqOp,aUn,aMin,z2z,z2v,z3o,z3n,z3a,rFa,rFld,z3l,z3m,z1c,z39,z17,z2b,blkQ,endQ,retV,oks,RV.ok,RV.val,Bool.and_true,Bool.true_and,List.map_cons,List.map_nil,List.getD_cons_zero,List.getD_cons_succ,List.getD_nil,if_true,if_false,ite_true,ite_false,reduceCtorEq,Nat.reduceEqDiff,Nat.reduceAdd,Bool.false_eq_true,Bool.true_eq_false,beq_true,beq_false,Bool.not_true,Bool.not_false,BEq.rfl,beq_self_eq_true,List.nil_append,List.cons_append,List.append_nil,z5f,z5h,z4q,z4t,z4u,z5a,z5b,z5j,z5g,z4s,z5k,z4w,z5e,z5c,z5i,z4z,z50,z52,z54,z55,z56,z4y,z59,z58,z57,z4r,z4x,z4v,z5d,getElem?_app,getElem?_app0,z47,z5m]
 refine zq_ ?_
 have h:=rot_or x s hs
 simp only [IntKind.bits,h,z4o,z4n,z4i,z4j,z5o,z5p,z4f,z4e,z2l,z1g,AOp.run,AX.ev,putE,upd,z2h,Option.map_some,Option.bind_some,Option.map_none,rBin,rEq,z14,z1e,z35,eqOp,aUn,aMin,z2z,z2v,z3o,z3n,z3a,rFa,rFld,z3l,z3m,z1c,z39,z17,z2b,blkQ,endQ,retV,oks,RV.ok,RV.val,Bool.and_true,Bool.true_and,List.map_cons,List.map_nil,List.getD_cons_zero,List.getD_cons_succ,List.getD_nil,if_true,if_false,ite_true,ite_false,reduceCtorEq,Nat.reduceEqDiff,Nat.reduceAdd,Bool.false_eq_true,Bool.true_eq_false,beq_true,beq_false,Bool.not_true,Bool.not_false,BEq.rfl,beq_self_eq_true,List.nil_append,List.cons_append,List.append_nil,z5f,z5h,z4q,z4t,z4u,z5a,z5b,z5j,z5g,z4s,z5k,z4w,z5e,z5c,z5i,z4z,z50,z52,z54,z55,z56,z4y,z59,z58,z57,z4r,z4x,z4v,z5d,getElem?_app,getElem?_app0,z47,z5m]
 exact⟨trivial,(congrArg (fun z=>DownV O.length (.int .u32 z) O (.int .u32 (x.rotateLeft s).toNat) O) h).mpr (DownV.same hw (z13 _ rfl))⟩
theorem wrap64{n:Int}(h1: -9223372036854775808<=n)(h2:n<9223372036854775808):IntKind.i64.wrap n=n:=by
 simp [IntKind.wrap,IntKind.signed,IntKind.bits]
 omega
theorem zop(k:Int):(IntKind.i64.wrap (0-k.tmod 32))%32=(-k)%32:=by
 have h: -31<=k.tmod 32/\ k.tmod 32<=31:=by
  rw [Int.tmod_eq_emod];split<;>simp<;>omega
 rw [wrap64 (by omega) (by omega),Int.tmod_eq_emod]
 split
 ·omega
 ·simp;omega
theorem za3(O:Store)(x:BitVec 32)(k:Int):ACallsTo TC 61 [.int .u32 x.toNat,.int .i64 k] O (.int .u32 (x.rotateLeft ((-k)%32).toNat).toNat) O:=by
 refine ACallsTo.of_body q2ok (by simp) fun hw _=> ?_
 refine zW.seqReg ?_
 simp only [q2r0,yM,yI,yG,yS,yC,yD,yK,yP,yQ,yE,yF,yL,yR,yB,yJ,yT,yU,yV,q2r1,z4o,z4n,z4i,z4j,z5o,z5p,z4f,z4e,z2l,z1g,AOp.run,AX.ev,putE,upd,z2h,Option.map_some,Option.bind_some,Option.map_none,rBin,rEq,z14,z1e,z35,eqOp,aUn,aMin,z2z,z2v,z3o,z3n,z3a,rFa,rFld,z3l,z3m,z1c,z39,z17,z2b,blkQ,endQ,retV,oks,RV.ok,RV.val,Bool.and_true,Bool.true_and,List.map_cons,List.map_nil,List.getD_cons_zero,List.getD_cons_succ,List.getD_nil,if_true,if_false,ite_true,ite_false,reduceCtorEq,Nat.reduceEqDiff,Nat.reduceAdd,Bool.false_eq_true,Bool.true_eq_false,beq_true,beq_false,Bool.not_true,Bool.not_false,BEq.rfl,beq_self_eq_true,List.nil_append,List.cons_append,List.append_nil,z5f,z5h,z4q,z4t,z4u,z5a,z5b,z5j,z5g,z4s,z5k,z4w,z5e,z5c,z5i,z4z,z50,z52,z54,z55,z56,z4y,z59,z58,z57,z4r,z4x,z4v,z5d,getElem?_app,getElem?_app0,z47,z5m]
 refine zW.seqReg ?_
 simp only [q2r0,yM,yI,yG,yS,yC,yD,yK,yP,yQ,yE,yF,yL,yR,yB,yJ,yT,yU,yV,q2r1,show ¬((32:Int)=0)by decide,z4o,z4n,z4i,z4j,z5o,z5p,z4f,z4e,z2l,z1g,AOp.run,AX.ev,putE,upd,z2h,Option.map_some,Option.bind_some,Option.map_none,rBin,rEq,z14,z1e,z35,eqOp,aUn,aMin,z2z,z2v,z3o,z3n,z3a,rFa,rFld,z3l,z3m,z1c,z39,z17,z2b,blkQ,endQ,retV,oks,RV.ok,RV.val,Bool.and_true,Bool.true_and,List.map_cons,List.map_nil,List.getD_cons_zero,List.getD_cons_succ,List.getD_nil,if_true,if_false,ite_true,ite_false,reduceCtorEq,Nat.reduceEqDiff,Nat.reduceAdd,Bool.false_eq_true,Bool.true_eq_false,beq_true,beq_false,Bool.not_true,Bool.not_false,BEq.rfl,beq_self_eq_true,List.nil_append,List.cons_append,List.append_nil,z5f,z5h,z4q,z4t,z4u,z5a,z5b,z5j,z5g,z4s,z5k,z4w,z5e,z5c,z5i,z4z,z50,z52,z54,z55,z56,z4y,z59,z58,z57,z4r,z4x,z4v,z5d,getElem?_app,getElem?_app0,z47,z5m]
 have h:=zkt O x (IntKind.i64.wrap (0-k.tmod 32))
 rw [zop]at h
 refine callW.zp h ?_
 simp only [z4o,z4n,z4i,z4j,z5o,z5p,z4f,z4e,z2l,z1g,AOp.run,AX.ev,putE,upd,z2h,Option.map_some,Option.bind_some,Option.map_none,rBin,rEq,z14,z1e,z35,eqOp,aUn,aMin,z2z,z2v,z3o,z3n,z3a,rFa,rFld,z3l,z3m,z1c,z39,z17,z2b,blkQ,endQ,retV,oks,RV.ok,RV.val,Bool.and_true,Bool.true_and,List.map_cons,List.map_nil,List.getD_cons_zero,List.getD_cons_succ,List.getD_nil,if_true,if_false,ite_true,ite_false,reduceCtorEq,Nat.reduceEqDiff,Nat.reduceAdd,Bool.false_eq_true,Bool.true_eq_false,beq_true,beq_false,Bool.not_true,Bool.not_false,BEq.rfl,beq_self_eq_true,List.nil_append,List.cons_append,List.append_nil,z5f,z5h,z4q,z4t,z4u,z5a,z5b,z5j,z5g,z4s,z5k,z4w,z5e,z5c,z5i,z4z,z50,z52,z54,z55,z56,z4y,z59,z58,z57,z4r,z4x,z4v,z5d,getElem?_app,getElem?_app0,z47,z5m]
 refine zq_ ?_
 simp only [z4o,z4n,z4i,z4j,z5o,z5p,z4f,z4e,z2l,z1g,AOp.run,AX.ev,putE,upd,z2h,Option.map_some,Option.bind_some,Option.map_none,rBin,rEq,z14,z1e,z35,eqOp,aUn,aMin,z2z,z2v,z3o,z3n,z3a,rFa,rFld,z3l,z3m,z1c,z39,z17,z2b,blkQ,endQ,retV,oks,RV.ok,RV.val,Bool.and_true,Bool.true_and,List.map_cons,List.map_nil,List.getD_cons_zero,List.getD_cons_succ,List.getD_nil,if_true,if_false,ite_true,ite_false,reduceCtorEq,Nat.reduceEqDiff,Nat.reduceAdd,Bool.false_eq_true,Bool.true_eq_false,beq_true,beq_false,Bool.not_true,Bool.not_false,BEq.rfl,beq_self_eq_true,List.nil_append,List.cons_append,List.append_nil,z5f,z5h,z4q,z4t,z4u,z5a,z5b,z5j,z5g,z4s,z5k,z4w,z5e,z5c,z5i,z4z,z50,z52,z54,z55,z56,z4y,z59,z58,z57,z4r,z4x,z4v,z5d,getElem?_app,getElem?_app0,z47,z5m]
 exact⟨trivial,DownV.same hw (z13 _ rfl)⟩
def pc:Nat->Nat->Nat
 | 0,_=>0
 |w+1,n=>n%2+pc w (n/2)
theorem zat(w:Nat):pc w 0=0:=by induction w with
 |zero=>rfl
 |succ w ih=>simp [pc,ih]
end
section
def lg:Nat->Nat->Nat
 | 0,_=>0
 |w+1,n=>if n=0 then 0 else 1+lg w (n/2)
end
section

end
section
theorem z8v(a b c d:Nat)(hb:b<256)(hd:d<256):(256*a+b) &&& (256*c+d)=256*(a &&& c)+(b &&& d):=by
 apply Nat.eq_of_testBit_eq
 intro i
 have e:∀x y:Nat,y<256->(256*x+y).testBit i=if i<8 then y.testBit i else x.testBit (i-8):=by
  intro x y hy
  have:=Nat.testBit_two_pow_mul_add x (i:=8) (b:=y) (by simpa using hy) i
  simpa using this
 have hbd:b &&& d<256:=Nat.lt_of_le_of_lt Nat.and_le_left hb
 rw [Nat.testBit_and,e a b hb,e c d hd,e _ _ hbd]
 split<;>simp [Nat.testBit_and]
def rep(m:Nat):Nat->Nat
 | 0=>0
 |n+1=>256*rep m n+m
def byB(g:Nat->Nat):Nat->Nat->Nat
 | 0,_=>0
 |n+1,x=>256*byB g n (x/256)+g (x%256)
def st1(x:Nat):Nat:=(x/2 &&& 85)+(x &&& 85)
def st2(x:Nat):Nat:=(x/4 &&& 51)+(x &&& 51)
def st3(x:Nat):Nat:=x/16+x%16
theorem st1_lo:∀p:Fin 2,∀r:Fin 256,((128*p.val+r.val/2) &&& 85)=(r.val/2 &&& 85):=by decide+kernel
theorem st2_lo:∀p:Fin 4,∀r:Fin 256,((64*p.val+r.val/4) &&& 51)=(r.val/4 &&& 51):=by decide+kernel
theorem step1:∀(n x:Nat),x<256^n->((x/2) &&& rep 85 n)+(x &&& rep 85 n)=byB st1 n x
 | 0,x,h=>by simp [rep,byB]
 |n+1,x,h=>by
  have ih:=step1 n (x/256) (by rw [Nat.pow_succ]at h;omega)
  have e1:x/2=256*(x/256/2)+(128*(x/256%2)+x%256/2):=by omega
  have e2:x=256*(x/256)+x%256:=by omega
  have l1:=st1_lo ⟨x/256%2,by omega⟩ ⟨x%256,by omega⟩
  simp only at l1
  rw [rep,byB,e1,z8v _ _ _ _ (by omega) (by decide),l1]
  conv=>lhs;rhs;rw [e2]
  rw [z8v _ _ _ _ (by omega) (by decide),st1]
  omega
theorem step2:∀(n x:Nat),x<256^n->((x/4) &&& rep 51 n)+(x &&& rep 51 n)=byB st2 n x
 | 0,x,h=>by simp [rep,byB]
 |n+1,x,h=>by
  have ih:=step2 n (x/256) (by rw [Nat.pow_succ]at h;omega)
  have e1:x/4=256*(x/256/4)+(64*(x/256%4)+x%256/4):=by omega
  have e2:x=256*(x/256)+x%256:=by omega
  have l1:=st2_lo ⟨x/256%4,by omega⟩ ⟨x%256,by omega⟩
  simp only at l1
  rw [rep,byB,e1,z8v _ _ _ _ (by omega) (by decide),l1]
  conv=>lhs;rhs;rw [e2]
  rw [z8v _ _ _ _ (by omega) (by decide),st2]
  omega
def nib4:Nat->Nat->Prop
 | 0,x=>x=0
 |n+1,x=>x%256/16<=4/\ x%16<=4/\ nib4 n (x/256)
theorem step3:∀(n x:Nat),nib4 n x->((x/16+x) &&& rep 15 n)=byB st3 n x
 | 0,x,h=>by simp [rep,byB]
 |n+1,x,h=>by
  obtain⟨h1,h2,h3⟩:=h
  have ih:=step3 n (x/256) h3
  have hq:x/256%16<=4:=by
   cases n with
   |zero=>simp only [nib4]at h3;omega
   |succ n=>exact h3.2.1
  have e1:x/16+x=256*(x/256/16+x/256)+(16*(x/256%16)+x%256/16+x%256):=by omega
  rw [rep,byB,e1,z8v _ _ _ _ (by omega) (by decide),ih,st3]
  have e2:(16*(x/256%16)+x%256/16+x%256) &&& 15=(16*(x/256%16)+x%256/16+x%256)%16:=Nat.and_two_pow_sub_one_eq_mod _ 4
  rw [e2]
  omega
theorem zbx{f g:Nat->Nat}(hg:∀b,b<256->g b<256):∀(n x:Nat),byB f n (byB g n x)=byB (fun b=>f (g b)) n x
 | 0,x=>by simp [byB]
 |n+1,x=>by
  have hb:=hg (x%256) (by omega)
  have e1:(256*byB g n (x/256)+g (x%256))/256=byB g n (x/256):=by omega
  have e2:(256*byB g n (x/256)+g (x%256))%256=g (x%256):=by omega
  simp only [byB,e1,e2,zbx hg n]
theorem zby{g:Nat->Nat}(hg:∀b,b<256->g b<256):∀(n x:Nat),byB g n x<256^n
 | 0,x=>by simp [byB]
 |n+1,x=>by
  have:=zby hg n (x/256)
  have:=hg (x%256) (by omega)
  rw [byB,Nat.pow_succ];omega
theorem st12:∀b:Fin 256,st1 b.val<256/\ st2 (st1 b.val)<256/\ st2 (st1 b.val)/16<=4/\ st2 (st1 b.val)%16<=4/\ st3 (st2 (st1 b.val))=pc 8 b.val/\ pc 8 b.val<=8:=by decide+kernel
theorem zd6:∀(n x:Nat),nib4 n (byB (fun b=>st2 (st1 b)) n x)
 | 0,x=>by simp [nib4,byB]
 |n+1,x=>by
  obtain⟨h1,h2,h3,h4,_⟩:=st12 ⟨x%256,by omega⟩
  simp only at h1 h2 h3 h4
  have e1:(256*byB (fun b=>st2 (st1 b)) n (x/256)+st2 (st1 (x%256)))/256=byB (fun b=>st2 (st1 b)) n (x/256):=by omega
  have ih:=zd6 n (x/256)
  rw [byB,nib4,e1]
  exact⟨by omega,by omega,ih⟩
theorem z62(w x:Nat):pc (8+w) x=pc 8 (x%256)+pc w (x/256):=by
 have e:∀k,k<8->x/2^k%2=(x%256)/2^k%2:=by
  intro k hk
  have:k=0 \/k=1 \/k=2 \/k=3 \/k=4 \/k=5 \/k=6 \/k=7:=by omega
  rcases this with rfl|rfl|rfl|rfl|rfl|rfl|rfl|rfl<;>simp<;>omega
 rw [show 8+w=w+8 by omega]
 simp only [pc,Nat.div_div_eq_div_mul]
 simp
 omega
end
section
theorem byB8(g:Nat->Nat)(x:Nat):byB g 8 x=g (x%256)+256*(g (x/256%256)+256*(g (x/65536%256)+256*(g (x/16777216%256)+256*(g (x/4294967296%256)+256*(g (x/1099511627776%256)+256*(g (x/281474976710656%256)+256*g (x/72057594037927936%256))))))):=by
 simp only [byB,Nat.div_div_eq_div_mul,Nat.reduceMul]
 omega
theorem pc64(x:Nat)(_:x<18446744073709551616):pc 64 x=pc 8 (x%256)+pc 8 (x/256%256)+pc 8 (x/65536%256)+pc 8 (x/16777216%256)+pc 8 (x/4294967296%256)+pc 8 (x/1099511627776%256)+pc 8 (x/281474976710656%256)+pc 8 (x/72057594037927936%256):=by
 have e0:=z62 56 x
 have e1:=z62 48 (x/256)
 have e2:=z62 40 (x/256/256)
 have e3:=z62 32 (x/256/256/256)
 have e4:=z62 24 (x/256/256/256/256)
 have e5:=z62 16 (x/256/256/256/256/256)
 have e6:=z62 8 (x/256/256/256/256/256/256)
 have e7:=z62 0 (x/256/256/256/256/256/256/256)
 have e8:pc 0 (x/256/256/256/256/256/256/256/256)=0:=rfl
 rw [e8]at e7
 simp only [Nat.reduceAdd,Nat.div_div_eq_div_mul,Nat.reduceMul,Nat.add_zero]at e0 e1 e2 e3 e4 e5 e6 e7
 rw [e0,e1,e2,e3,e4,e5,e6,e7]
 simp only [Nat.add_assoc]
theorem z2n(x:Nat):pc 8 (x%256)<=8:=(st12 ⟨x%256,by omega⟩).2.2.2.2.2
theorem sum8 (b0 b1 b2 b3 b4 b5 b6 b7 : Nat) (h0 : b0 <= 8) (h1 : b1 <= 8) (h2 : b2 <= 8) (h3 : b3 <= 8) (h4 : b4 <= 8) (h5 : b5 <= 8) (h6 : b6 <= 8) (h7 : b7 <= 8) (y y1 y2 y3 : Nat) 
   (hy:y=b0+256*(b1+256*(b2+256*(b3+256*(b4+256*(b5+256*(b6+256*b7)))))))
    (hy1:y1=y+y/256)
    (hy2:y2=y1+y1/65536) (hy3:y3=y2+y2/4294967296):
    y3<18446744073709551616/\ y3%128=b0+b1+b2+b3+b4+b5+b6+b7:=by
  have e1:y/256=b1+256*(b2+256*(b3+256*(b4+256*(b5+256*(b6+256*b7))))):=by clear hy1 hy2 hy3;omega
  have e2:y1=(b0+b1)+256*((b1+b2)+256*((b2+b3)+256*((b3+b4)+256*((b4+b5)+256*((b5+b6)+256*((b6+b7)+256*b7)))))):=by rw [hy1,e1,hy];clear e1 hy hy1 hy2 hy3;omega
  clear e1 hy hy1
  have e3:y1/65536=(b2+b3)+256*((b3+b4)+256*((b4+b5)+256*((b5+b6)+256*((b6+b7)+256*b7)))):=by clear hy2 hy3;omega
  have e4:y2=(b0+b1+b2+b3)+256*((b1+b2+b3+b4)+256*((b2+b3+b4+b5)+256*((b3+b4+b5+b6)+256*((b4+b5+b6+b7)+256*((b5+b6+b7)+256*((b6+b7)+256*b7)))))):=by
    rw [hy2,e3,e2];clear e3 e2 hy2 hy3;omega
  clear e2 e3 hy2
  have e5:y2/4294967296=(b4+b5+b6+b7)+256*((b5+b6+b7)+256*((b6+b7)+256*b7)):=by clear hy3;omega
  rw [e5,e4]at hy3
  clear e4 e5
  omega
theorem zh8:∀(n x:Nat),nib4 n x->x<=rep 68 n
 | 0,x,h=>by simp only [nib4]at h;simp [rep,h]
 |n+1,x,h=>by
  obtain⟨h1,h2,h3⟩:=h
  have:=zh8 n (x/256) h3
  simp only [rep]
  omega
theorem zlt(z:Nat)(hz:z<18446744073709551616):z14 .and .i64 (IntKind.i64.wrap (z:Int)) 127=some (.int .i64 ((z%128:Nat):Int)):=by
 have ew:(BitVec.ofInt IntKind.i64.bits (IntKind.i64.wrap (z:Int))).toNat=z:=by
  rw [BitVec.toNat_ofInt]
  simp only [IntKind.wrap,IntKind.signed,IntKind.bits]
  simp
  split<;>omega
 have e7:(BitVec.ofInt IntKind.i64.bits 127).toNat=2^7-1:=by decide
 have ea:(BitVec.ofInt IntKind.i64.bits (IntKind.i64.wrap (z:Int)) &&& BitVec.ofInt IntKind.i64.bits 127).toNat=z%128:=by
  rw [BitVec.toNat_and,ew,e7]
  exact Nat.and_two_pow_sub_one_eq_mod z 7
 simp only [z14]
 rw [ea,z9h ⟨by omega,by omega⟩]
theorem zf5(O:Store)(x:Int)(h:0<=x/\ x<18446744073709551616):ACallsTo TC 100 [.int .u64 x] O (.int .i64 (pc 64 x.toNat)) O:=by
 refine ACallsTo.of_body q9ok (by simp) fun hw _=> ?_
 obtain⟨x,rfl⟩:∃n:Nat,x=n:=⟨x.toNat,by omega⟩
 rw [Int.toNat_natCast]
 have hx:x<256^8:=by omega
 have h1:=step1 8 x hx
 have h2:=step2 8 (byB st1 8 x) (zby (fun b hb=>(st12 ⟨b,hb⟩).1) 8 x)
 rw [zbx (fun b hb=>(st12 ⟨b,hb⟩).1)]at h2
 have h3:=step3 8 (byB (fun b=>st2 (st1 b)) 8 x) (zd6 8 x)
 rw [zbx (fun b hb=>(st12 ⟨b,hb⟩).2.1)]at h3
 have e3:byB (fun b=>st3 (st2 (st1 b))) 8 x=byB (pc 8) 8 x:=by
  simp only [byB8]
  have:∀y,st3 (st2 (st1 (y%256)))=pc 8 (y%256):=fun y=>(st12 ⟨y%256,by omega⟩).2.2.2.2.1
  simp only [this]
 rw [e3]at h3
 have k1:rep 85 8=6148914691236517205:=by simp only [rep]
 have k2:rep 51 8=3689348814741910323:=by simp only [rep]
 have k3:rep 15 8=1085102592571150095:=by simp only [rep]
 rw [k1]at h1;rw [k2]at h2;rw [k3]at h3
 have l1:byB st1 8 x<18446744073709551616:=by
  have h:=zby (g:=st1) (fun b hb=>(st12 ⟨b,hb⟩).1) 8 x
  omega
 have l2:byB (fun b=>st2 (st1 b)) 8 x<=4919131752989213764:=by
  have h:=zh8 8 _ (zd6 8 x)
  simp only [rep]at h
  omega
 have hs:=sum8 _ _ _ _ _ _ _ _ (z2n x) (z2n (x/256)) (z2n (x/65536)) (z2n (x/16777216)) (z2n (x/4294967296)) (z2n (x/1099511627776)) (z2n (x/281474976710656)) (z2n (x/72057594037927936)) _ _ _ _ rfl rfl rfl rfl
 rw [<-byB8,<-pc64 x (by omega)]at hs
 generalize byB (pc 8) 8 x=y3 at*
 generalize byB (fun b=>st2 (st1 b)) 8 x=y2 at*
 generalize byB st1 8 x=y1 at*
 clear e3
 try simp only at hs l2
 have hle:pc 64 x<=64:=by
  rw [pc64 x (by omega)]
  have:=z2n x;have:=z2n (x/256);have:=z2n (x/65536);have:=z2n (x/16777216);have:=z2n (x/4294967296);have:=z2n (x/1099511627776);have:=z2n (x/281474976710656);have:=z2n (x/72057594037927936)
  omega
 generalize pc 64 x=p at*
 have hy3:y3<18446744073709551616:=by omega
 have t6:∀(Z:Env) (z:Nat),z<18446744073709551616->z%128=p->Z 0=.int .u64 (z:Int)->zW TC 35 O.length q9c8 (endQ O.length [.t 2] (.int .i64 p) O) Z O:=by
  intro Z z hs1 hs2 q0
  have e6:=zlt z hs1
  rw [hs2]at e6
  repeat' (first|apply zs_|apply zb_|apply zc_|apply zt_ rfl|apply zf_ rfl|(apply zd_ rfl<;>intro ht<;>try omega)|((first|apply zr_|apply zk_|apply ze_|apply zq_|(apply zG<;>intro ht));all_goals try simp (disch:=first|omega|(simp only [lens];first|done|omega)) only [go_sem,q0,e6]))
  exact DownV.same hw (z13 _ rfl)
 have t5:∀Z:Env,Z 0=.int .u64 ((y3+y3/256+(y3+y3/256)/65536:Nat):Int)->zW TC 35 O.length q9c9 (endQ O.length [.t 2] (.int .i64 p) O) Z O:=by
  intro Z q0
  refine zW.seqReg ?_
  simp (disch:=first|omega|(simp only [lens];first|done|omega)) only [go_sem,q0]
  exact t6 _ _ hs.1 hs.2 (by simp (disch:=first|omega|(simp only [lens];first|done|omega)) only [go_sem,Int.natCast_add,Int.natCast_ediv,Int.cast_ofNat_Int])
 have t4:∀Z:Env,Z 0=.int .u64 ((y3+y3/256:Nat):Int)->zW TC 35 O.length q9c10 (endQ O.length [.t 2] (.int .i64 p) O) Z O:=by
  intro Z q0
  refine zW.seqReg ?_
  simp (disch:=first|omega|(simp only [lens];first|done|omega)) only [go_sem,q0]
  exact t5 _ (by simp (disch:=first|omega|(simp only [lens];first|done|omega)) only [go_sem,Int.natCast_add,Int.natCast_ediv,Int.cast_ofNat_Int])
 have t3:∀Z:Env,Z 0=.int .u64 (y3:Int)->zW TC 35 O.length q9c11 (endQ O.length [.t 2] (.int .i64 p) O) Z O:=by
  intro Z q0
  refine zW.seqReg ?_
  simp (disch:=first|omega|(simp only [lens];first|done|omega)) only [go_sem,q0]
  exact t4 _ (by simp (disch:=first|omega|(simp only [lens];first|done|omega)) only [go_sem,Int.natCast_add,Int.natCast_ediv,Int.cast_ofNat_Int])
 have t2:∀Z:Env,Z 0=.int .u64 (y2:Int)->zW TC 35 O.length q9c12 (endQ O.length [.t 2] (.int .i64 p) O) Z O:=by
  intro Z q0
  refine zW.seqReg ?_
  have e:((y2:Int)/16+(y2:Int)).toNat=y2/16+y2:=by omega
  simp (disch:=first|omega|(simp only [lens];first|done|omega)) only [go_sem,q0,e,h3]
  exact t3 _ (by simp (disch:=first|omega|(simp only [lens];first|done|omega)) only [go_sem])
 have t1:∀Z:Env,Z 0=.int .u64 (y1:Int)->zW TC 35 O.length q9c13 (endQ O.length [.t 2] (.int .i64 p) O) Z O:=by
  intro Z q0
  refine zW.seqReg ?_
  have e:((y1:Int)/4).toNat=y1/4:=by omega
  have e':((y1/4 &&& 3689348814741910323:Nat):Int)+((y1 &&& 3689348814741910323:Nat):Int)=(y2:Int):=by omega
  simp (disch:=first|omega|(simp only [lens];first|done|omega)) only [go_sem,q0,e,e']
  exact t2 _ (by simp (disch:=first|omega|(simp only [lens];first|done|omega)) only [go_sem])
 refine zW.seqReg ?_
 simp (disch:=first|omega|(simp only [lens];first|done|omega)) only [go_sem]
 refine zW.seqReg ?_
 have e:((x:Int)/2).toNat=x/2:=by omega
 have e':((x/2 &&& 6148914691236517205:Nat):Int)+((x &&& 6148914691236517205:Nat):Int)=(y1:Int):=by omega
 simp (disch:=first|omega|(simp only [lens];first|done|omega)) only [go_sem,e,e']
 refine t1 _ ?_
 simp (disch:=first|omega|(simp only [lens];first|done|omega)) only [go_sem]
end
section
theorem z31{k:Nat}{i:IntKind}{n:Int}:RL k (.int i n):=z13 _ rfl
theorem z6o{k:Nat}{s:List UInt8}:RL k (.str s):=z13 _ rfl
theorem z1z{k:Nat}{b:Bool}:RL k (.bool b):=z13 _ rfl
theorem za2(O:Store)(x:Int)(h:0<=x/\ x<18446744073709551616):ACallsTo TC 89 [.int .u64 x] O (.int .i64 (pc 64 x.toNat)) O:=by
 refine ACallsTo.of_body q8ok (by simp) fun hw _=> ?_
 repeat' (first|apply zs_|apply zb_|apply zc_|apply zt_ rfl|apply zf_ rfl|(apply zd_ rfl<;>intro ht<;>try omega)|((first|apply zr_|apply zk_|apply ze_|apply zq_|(apply callW.mk_pu;(first|exact(fun _=>zf5 _ _ (by omega))))|(apply callW.za;(first|exact(zf5 _ _ (by omega))))|(apply zG<;>intro ht));all_goals try simp (disch:=first|omega|(simp only [lens];first|done|omega)) only [go_sem]))
 exact DownV.same hw z31
theorem zks(O:Store)(x:Int)(h: -9223372036854775808<=x/\ x<9223372036854775808):ACallsTo TC 69 [.int .i64 x] O (.int .i64 (pc 64 x.toNat)) O:=by
 refine ACallsTo.of_body q3ok (by simp) fun hw _=> ?_
 by_cases hx:0>x
 ·have e:x.toNat=(0:Int).toNat:=by omega
  rw [e]
  repeat' (first|apply zs_|apply zb_|apply zc_|apply zt_ rfl|apply zf_ rfl|(apply zd_ rfl<;>intro ht<;>try omega)|((first|apply zr_|apply zk_|apply ze_|apply zq_|(apply callW.mk_pu;(first|exact(fun _=>za2 _ _ (by omega))))|(apply callW.za;(first|exact(za2 _ _ (by omega))))|(apply zG<;>intro ht));all_goals try simp (disch:=first|omega|(simp only [lens];first|done|omega)) only [go_sem]))
  exact DownV.same hw z31
 ·repeat' (first|apply zs_|apply zb_|apply zc_|apply zt_ rfl|apply zf_ rfl|(apply zd_ rfl<;>intro ht<;>try omega)|((first|apply zr_|apply zk_|apply ze_|apply zq_|(apply callW.mk_pu;(first|exact(fun _=>za2 _ _ (by omega))))|(apply callW.za;(first|exact(za2 _ _ (by omega))))|(apply zG<;>intro ht));all_goals try simp (disch:=first|omega|(simp only [lens];first|done|omega)) only [go_sem]))
  exact DownV.same hw z31
def be:Nat->Nat->List UInt8
 | 0,_=>[]
 |n+1,x=>be n (x/256)++ [UInt8.ofNat x]
theorem z3c:∀n x,(be n x).length=n
 | 0,_=>rfl
 |n+1,x=>by simp [be,z3c n]
theorem z8b:∀n x,be (n+1) x=UInt8.ofNat (x/256^n)::be n x
 | 0,x=>by simp [be]
 |n+1,x=>by
  rw [be,z8b n (x/256),Nat.div_div_eq_div_mul,Nat.pow_succ,Nat.mul_comm 256,be]
  rfl
def putS(x n:Int):List UInt8:=if 1<=n/\ n<=8 then be n.toNat x.toNat else []
theorem zsf(O:Store)(x n:Int)(h:0<=x/\ x<18446744073709551616)(hn:n<9223372036854775808):ACallsTo TC 55 [.int .u64 x,.int .i64 n] O (.str (putS x n)) O:=by
 refine ACallsTo.of_body q1ok (by simp) fun hw _=> ?_
 repeat' (first|apply zs_|apply zb_|apply zc_|apply zt_ rfl|apply zf_ rfl|(apply zd_ rfl<;>intro ht<;>try omega)|((first|apply zr_|apply zk_|apply ze_|apply zq_|(apply zG<;>intro ht));all_goals try simp (disch:=first|omega|(simp only [lens];first|done|omega)) only [go_sem]))
 refine zW.loop (fun m Z O'=>O'=O/\ ∃(i:Nat) (y:Nat),Z 0=.int .u64 y/\ Z 1=.int .i64 n/\ Z 6=.int .i64 i/\ Z 5=.str (be i x.toNat)/\ m+i=9/\ (i:Int)<=max n 0/\ y=x.toNat/256^i/\ (0<i->n<9)) 9 ?_ ?_
 ·refine⟨rfl,0,x.toNat,?_,?_,?_,?_,by omega,by omega,by simp,by omega⟩<;>simp (disch:=first|omega|(simp only [lens];first|done|omega)) only [go_sem,be]
  ·exact z3f (by omega)
  ·rfl
 ·rintro m Z _ ⟨rfl,i,y,q0,q1,q6,q5,hm,hi,hy,h9⟩
  have hl:=z3c i x.toNat
  have hy2:y<18446744073709551616:=by
   have:=Nat.div_le_self x.toNat (256^i)
   omega
  repeat' (first|apply zs_|apply zb_|apply zc_|apply zt_ rfl|apply zf_ rfl|(apply zd_ rfl<;>intro ht<;>try omega)|((first|apply zr_|apply zk_|apply ze_|apply zq_|(apply zG<;>intro ht));all_goals try simp (disch:=first|omega|(simp only [lens];first|done|omega)) only [go_sem,q0,q1,q6,q5]))
  ·refine⟨m-1,by omega,i+1,y/256,z3f (by omega),z3f (by omega),str_eq ?_,by omega,by omega,?_,by omega⟩
   ·rw [z8b,<-hy]
    congr 1
    apply UInt8.toNat_inj.1
    simp;omega
   ·rw [hy,Nat.div_div_eq_div_mul,Nat.pow_succ]
  ·have e:i=0:=by omega
   subst e
   rw [putS,if_neg (by omega)]
   exact DownV.same hw z6o
  ·by_cases h8:1<=n/\ n<=8
   ·have e:i=n.toNat:=by omega
    rw [putS,if_pos h8,e]
    exact DownV.same hw z6o
   ·have e:i=0:=by omega
    subst e
    rw [putS,if_neg h8]
    exact DownV.same hw z6o
theorem z6h(O:Store)(x n:Int)(h:0<=x/\ x<18446744073709551616)(hn:n<9223372036854775808):ACallsTo TC 41 [.int .u64 x,.int .i64 n] O (.str (putS x n)) O:=by
 refine ACallsTo.of_body q0ok (by simp) fun hw _=> ?_
 repeat' (first|apply zs_|apply zb_|apply zc_|apply zt_ rfl|apply zf_ rfl|(apply zd_ rfl<;>intro ht<;>try omega)|((first|apply zr_|apply zk_|apply ze_|apply zq_|(apply zG<;>intro ht));all_goals try simp (disch:=first|omega|(simp only [lens];first|done|omega)) only [go_sem]))
 ·rw [putS,if_neg (by omega)]
  exact DownV.same hw z6o
 ·rw [putS,if_neg (by omega)]
  exact DownV.same hw z6o
 rw [putS,if_pos (by omega)]
 obtain⟨k,hk⟩:∃k:Nat,n=k:=⟨n.toNat,by omega⟩
 subst hk
 rw [Int.toNat_natCast]
 refine zW.loop (fun m Z O'=>∃(i:Nat) (y:Nat) (s:List UInt8),O'=O++ [some (zh s)]/\ s.length=k/\ s.drop (k-i)=be i x.toNat/\ Z 0=.int .u64 y/\ Z 1=.int .i64 k/\ Z 15=.int .i64 k/\ Z 5=.sl O.length 0 k (some k) 1/\ Z 16=.int .i64 i/\ m+i=k/\ y=x.toNat/256^i) k ?_ ?_
 ·refine⟨0,x.toNat,List.replicate k 0,?_,by simp,by simp [be],?_,?_,?_,?_,?_,by omega,by simp⟩<;>try simp (disch:=first|omega|(simp only [lens];first|done|omega)) only [go_sem,be]
  ·exact z3f (by omega)
  ·exact z3f (by omega)
 ·rintro m Z _ ⟨i,y,s,rfl,hs,hd,q0,q1,q15,q5,q16,hm,hy⟩
  have hy2:y<18446744073709551616:=by
   have:=Nat.div_le_self x.toNat (256^i)
   omega
  repeat' (first|apply zs_|apply zb_|apply zc_|apply zt_ rfl|apply zf_ rfl|(apply zd_ rfl<;>intro ht<;>try omega)|((first|apply zr_|apply zk_|apply ze_|apply zq_|(apply zG<;>intro ht));all_goals try simp (disch:=first|omega|(simp only [lens];first|done|omega)) only [go_sem,q0,q1,q15,q5,q16]))
  ·refine⟨m-1,by omega,i+1,y/256,_,rfl,by simp [hs],?_,z3f (by omega),z3f (by omega),by omega,?_⟩
   ·rw [z8b,<-hy,<-hd]
    have e1:((k:Int)-1-i).toNat=k-(i+1):=by omega
    have e2:UInt8.ofNat ((y:Int)%256).toNat=UInt8.ofNat y:=by
     apply UInt8.toNat_inj.1
     simp;omega
    rw [e1,e2,List.drop_set]
    simp only [Nat.lt_irrefl,if_false,Nat.sub_self]
    rw [List.drop_eq_getElem_cons (by omega),List.set_cons_zero,show k-(i+1)+1=k-i by omega]
   ·rw [hy,Nat.div_div_eq_div_mul,Nat.pow_succ]
  ·have e:i=k:=by omega
   subst e
   rw [Nat.sub_self,List.drop_zero]at hd
   rw [<-hd]
   exact DownV.pure hw z6o
end
section
def val(s:List UInt8):Nat:=s.foldl (fun n b=>256*n+b.toNat) 0
theorem zti(s:List UInt8)(b:UInt8):val (s++ [b])=256*val s+b.toNat:=by simp [val]
theorem zsy{α:Type}(s:List α)(i:Nat)(d:α)(h:i<s.length):s.take (i+1)=s.take i++ [s.getD i d]:=by
 rw [List.take_add_one,getQ s i d h];rfl
theorem zjn(s:List UInt8)(i:Nat)(h:i<s.length):val (s.take (i+1))=256*val (s.take i)+(s.getD i 0).toNat:=by
 rw [zsy s i 0 h,zti]
theorem zjm:∀(i:Nat) (s:List UInt8),i<=s.length->val (s.take i)<256^i
 | 0,s,_=>by simp [val]
 |i+1,s,h=>by
  have:=zjm i s (by omega)
  have hb:=(s.getD i 0).toNat_lt
  rw [zjn s i (by omega),Nat.pow_succ]
  omega
def getS(s:List UInt8):Nat:=val (s.take 8)
theorem zf4(O:Store)(s:List UInt8)(hs:s.length<9223372036854775808):ACallsTo TC 85 [.str s] O (.int .u64 (getS s)) O:=by
 refine ACallsTo.of_body q6ok (by simp) fun hw _=> ?_
 obtain⟨k,hk,hk2⟩:∃k:Nat,(k:Int)=(if (8:Int)<s.length then(8:Int)else(s.length:Int))/\ k=min 8 s.length:=⟨min 8 s.length,by split<;>omega,rfl⟩
 have hgs:getS s=val (s.take k):=by
  rw [hk2,getS]
  by_cases h:8<=s.length
  ·rw [Nat.min_eq_left h]
  ·rw [Nat.min_eq_right (by omega),List.take_of_length_le (by omega),List.take_length]
 rw [hgs]
 repeat' (first|apply zs_|apply zb_|apply zc_|apply zt_ rfl|apply zf_ rfl|(apply zd_ rfl<;>intro ht<;>try omega)|((first|apply zr_|apply zk_|apply ze_|apply zq_|(apply zG<;>intro ht));all_goals try simp (disch:=first|omega|(simp only [lens];first|done|omega)) only [go_sem,<-hk]))
 refine zW.loop (fun m Z O'=>O'=O/\ ∃(i:Nat),Z 0=.str s/\ Z 7=.int .i64 k/\ Z 8=.int .i64 i/\ Z 3=.int .u64 (val (s.take i))/\ m+i=k) k ?_ ?_
 ·refine⟨rfl,0,?_,?_,?_,?_,by omega⟩<;>simp (disch:=first|omega|(simp only [lens];first|done|omega)) only [go_sem,<-hk]<;>rfl
 ·rintro m Z _ ⟨rfl,i,q0,q7,q8,q3,hm⟩
  have hv:=zjm i s (by omega)
  have hp:i<k->256*256^i<=18446744073709551616:=by
   intro h
   have:256^(i+1)<=256^8:=Nat.pow_le_pow_right (by decide) (by omega)
   rw [Nat.pow_succ]at this
   omega
  have hb:=(s.getD i 0).toNat_lt
  repeat' (first|apply zs_|apply zb_|apply zc_|apply zt_ rfl|apply zf_ rfl|(apply zd_ rfl<;>intro ht<;>try omega)|((first|apply zr_|apply zk_|apply ze_|apply zq_|(apply zG<;>intro ht));all_goals try simp (disch:=first|omega|(simp only [lens];first|done|omega)) only [go_sem,q0,q7,q8,q3]))
  ·have hp':=hp (by omega)
   have hvt:=zjn s i (by omega)
   refine⟨m-1,by omega,i+1,z3f (by omega),?_,by omega⟩
   rw [hvt]
   exact z3f (by omega)
  ·have e:i=k:=by omega
   subst e
   exact DownV.same hw z31
def bitS(s:List UInt8)(i:Int):Nat:=if 0<=i/\ i/8<s.length then(s.getD (i/8).toNat 0).toNat/2^(7-i%8).toNat%2 else 0
theorem zfr(c n:Nat):c/2^n<=c:=Nat.div_le_self _ _
theorem zf3(O:Store)(s:List UInt8)(i:Int)(hs:s.length<9223372036854775808)(hi: -9223372036854775808<=i/\ i<9223372036854775808):ACallsTo TC 73 [.str s,.int .i64 i] O (.int .i64 (bitS s i)) O:=by
 refine ACallsTo.of_body q4ok (by simp) fun hw _=> ?_
 have hb:=(s.getD (i/8).toNat 0).toNat_lt
 have hd:=zfr (s.getD (i/8).toNat 0).toNat (7-i%8).toNat
 obtain⟨q,hq⟩:∃q,q=(s.getD (i/8).toNat 0).toNat/2^(7-i%8).toNat:=⟨_,rfl⟩
 have hc:((s.getD (i/8).toNat 0).toNat:Int)/2^(7-i%8).toNat=(q:Int):=by rw [hq];simp
 rw [<-hq]at hd
 repeat' (first|apply zs_|apply zb_|apply zc_|apply zt_ rfl|apply zf_ rfl|(apply zd_ rfl<;>intro ht<;>try omega)|((first|apply zr_|apply zk_|apply ze_|apply zq_|(apply zG<;>intro ht));all_goals try simp (disch:=first|omega|(simp only [lens];first|done|omega)) only [go_sem,hc]))
 ·rw [bitS,if_neg (by omega)]
  exact DownV.same hw z31
 ·rw [bitS,if_neg (by omega)]
  exact DownV.same hw z31
 ·rw [bitS,if_pos (by omega),<-hq]
  exact DownV.same hw z31
theorem zse(O:Store)(s:List UInt8)(i:Int)(hs:s.length<9223372036854775808)(hi: -9223372036854775808<=i/\ i<9223372036854775808):ACallsTo TC 74 [.str s,.int .i64 i] O (.int .i64 (bitS s i)) O:=by
 refine ACallsTo.of_body q5ok (by simp) fun hw _=> ?_
 have hb:=(s.getD (i/8).toNat 0).toNat_lt
 repeat' (first|apply zs_|apply zb_|apply zc_|apply zt_ rfl|apply zf_ rfl|(apply zd_ rfl<;>intro ht<;>try omega)|((first|apply zr_|apply zk_|apply ze_|apply zq_|(apply zG<;>intro ht));all_goals try simp (disch:=first|omega|(simp only [lens];first|done|omega)) only [go_sem]))
 ·rw [bitS,if_neg (by omega)]
  exact DownV.same hw z31
 ·rw [bitS,if_neg (by omega)]
  exact DownV.same hw z31
 rw [bitS,if_pos (by omega)]
 refine zW.loop (fun m Z O'=>O'=O/\ ∃(k q:Nat),Z 5=.int .u8 q/\ q=(s.getD (i/8).toNat 0).toNat/2^k/\ Z 6=.int .i64 (i%8+k)/\ m+k=(7-i%8).toNat) (7-i%8).toNat ?_ ?_
 ·refine⟨rfl,0,(s.getD (i/8).toNat 0).toNat,?_,by simp,?_,by omega⟩<;>simp (disch:=first|omega|(simp only [lens];first|done|omega)) only [go_sem]
  exact z3f (by simp)
 ·rintro m Z _ ⟨rfl,k,q,q5,hq,q6,hm⟩
  have hd:=zfr (s.getD (i/8).toNat 0).toNat k
  rw [<-hq]at hd
  repeat' (first|apply zs_|apply zb_|apply zc_|apply zt_ rfl|apply zf_ rfl|(apply zd_ rfl<;>intro ht<;>try omega)|((first|apply zr_|apply zk_|apply ze_|apply zq_|(apply zG<;>intro ht));all_goals try simp (disch:=first|omega|(simp only [lens];first|done|omega)) only [go_sem,q5,q6]))
  ·refine⟨m-1,by omega,k+1,q/2,z3f (by omega),?_,z3f (by omega),by omega⟩
   rw [Nat.pow_succ,<-Nat.div_div_eq_div_mul,hq]
  ·have e:k=(7-i%8).toNat:=by omega
   rw [<-e,<-hq]
   exact DownV.same hw z31
end
section
/-! Turning. -/
/-! Bits of a sum. -/
/-! What is put is got. -/
theorem zhx(x n:Int):(putS x n).length<=8:=by
 unfold putS
 split
 ·rw [z3c];omega
 ·simp
/-! The highest bit. -/
theorem zhr:∀(w x:Nat),x<2^w->∀v,pc (w+v) x=pc w x
 | 0,x,h,v=>by simp at h;subst h;simp [zat]
 |w+1,x,h,v=>by
  rw [show w+1+v=(w+v)+1 by omega]
  simp only [pc]
  rw [zhr w (x/2) (by rw [Nat.pow_succ]at h;omega) v]
end
end Am
end Go.Proofs.YtkiimfgjimoffaaGreatDoor
