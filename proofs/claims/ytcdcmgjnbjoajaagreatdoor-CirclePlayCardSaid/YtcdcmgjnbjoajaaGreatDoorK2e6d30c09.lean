import Derived.Test.YtcdcmgjnbjoajaaGreatDoorK113809ecb
import Derived.Deep.LoopGhost
import Derived.Scope
import Derived.OrdersIn
import Derived.RangeFuncFrom
import Derived.RangeFuncLeaves
import Derived.Test.YtcdcmgjnbjoajaaGreatDoorRows
import Derived.ProofKit
import Derived.OpenShut
import Derived.JoinedCond
import Derived.Carry
import Derived.LaidMore
import Derived.Stop.Joined
import Derived.KernelRfl
import Derived.RangeFuncBox
import Derived.Shelf.Abstract
import Derived.WalkKit
import Derived.OwnWalkIn
import Derived.TacticsInMore
import Derived.LoopNIn
import Derived.LoopIn
import Derived.Test.YtcdcmgjnbjoajaaGreatDoorProg
set_option linter.unusedSimpArgs false
set_option linter.unusedVariables false
open Nat (reduceEqDiff reduceAdd reduceMul reduceSub reduceLeDiff)
open Int (reduceToNat reducePow)
open Nat renaming reduceEqDiff -> nQ1, reduceBEq -> nQ2, reduceAdd -> nQ3, reduceMul -> nQ4, reduceSub -> nQ5, reduceLeDiff -> nQ6
open Int renaming reduceToNat -> nQ7, reducePow -> nQ8
open List renaming length_reverse -> lQr, length_map -> lQm, length_take -> lQt, length_drop -> lQd, length_set -> lQs
set_option maxHeartbeats 16000000
attribute [local go_sem_proc] Nat.reduceEqDiff Nat.reduceBEq Nat.reduceAdd Nat.reduceMul Nat.reduceSub Nat.reduceLeDiff Int.reduceToNat Int.reducePow
namespace Go.Proofs.YtcdcmgjnbjoajaaGreatDoor
namespace Am
variable {vs:List Value}{w w':World}{Z Z':Places}{k n i off sz r:Nat}{C:Ctx}{cs:List AV}{t e:TypeId}{x v:AV}{a b:Int}{es:List (List AV)}{s:List UInt8}{O O':Store}{f:FuncId}{J:Env}{K:Env->Store->Prop}{d:Option Nat}{ops:Array Oper}
section
inductive AX where
 |t (n:Nat)
 |v (a:AV)
 deriving Inhabited
def AX.ev(J:Env):AX->AV
 | .t n=>J n
 | .v a=>a
inductive BK where
 |none
 |bool
 |ptr
 |slc
 |fn
 |agg (l:List LK)
inductive CK where
 |int (k:IntKind)
 |strId
 |bytes
 |str
inductive SK where
 |str
 |sl (sz:Nat)
 |arr (n sz:Nat)
inductive AOp where
 |mv (x:AX)
 |pick (c a b:AX)
 |alloc (z:List AV)
 |allB
 |box (x:AX)
 |build (z:List AV) (ps:List (Nat × Nat × AX))
 |lit (sz:Nat) (xs:List AX)
 |load (ag:Bool) (n:Nat) (x:AX)
 |store (n:Nat) (a x:AX)
 |nilc (x:AX)
 |bin (op:BinOp) (bk:BK) (x y:AX)
 |un (op:UnOp) (x:AX)
 |conv (c:CK) (x:AX)
 |mkfn (f:FuncId) (caps:List AX)
 |make (sz:Nat) (z:List AV) (l c:AX)
 |slice (k:SK) (x:AX) (lo hi mx:Option AX)
 |fa (k:Nat) (x:AX)
 |fld (ag:Bool) (n off:Nat) (x:AX)
 |iaArr (n sz:Nat) (x i:AX)
 |iaSl (sz:Nat) (x i:AX)
 |ixArr (n:Nat) (ag:Bool) (sz:Nat) (x i:AX)
 |ixStr (x i:AX)
 |ext (i:Nat) (x:AX)
 |lenStr (x:AX)
 |lenSl (x:AX)
 |lenArr (n:Nat)
 |app (sz:Nat) (s x:AX)
 |appB (s x:AX)
 |copy (sz:Nat) (d s:AX)
 |clear (z:List AV) (x:AX)
 |minmax (mx:Bool) (x y:AX)
 |capSl (x:AX)
 |appZ (sz:Nat) (z:List AV) (s n:AX)
 |call (f:AX) (xs:List AX)
 |stuck
def z6z(ag:Bool)(n:Nat)(O:Store):AV->Option AV
 | .ptr r i off=>match O[r]? with|some (some o)=>(o[i]?).bind fun cs=>z3v cs off n ag| _=>none
 | .vp cs=>z3v cs 0 n ag
 | _=>none
def zfo(n:Nat)(O:Store)(p v:AV):Option Store:=
  (cellsOf v).bind fun vs=>if vs.length=n then
    (match p with
     | .ptr r i off=>match O[r]? with|some (some o)=>(o[i]?).bind fun cs=>if off+vs.length<=cs.length then some (O.set r (some (o.set i (z1i cs off vs))))else none| _=>none
     | _=>none)else none
def z1e(cells:List AV):List (Nat × Nat × AV)->Option (List AV)
 | []=>some cells
 |p::rest=>(cellsOf p.2.2).bind fun vs=>if vs.length=p.2.1/\ p.1+p.2.1<=cells.length then z1e (z1i cells p.1 vs) rest else none
def z9q(sz:Nat):List AV->Option (List (List AV))
 | []=>some []
 |v::l=>(cellsOf v).bind fun vs=>if vs.length=sz then(z9q sz l).map (vs:: ·)else none
def zfn(sz:Nat)(z:List AV)(O:Store)(l c:AV):Option (AV × Store):=
 match l,c with
 | .int _ n,.int _ m=>if 0<=n/\ n<=m/\ m<=4294967296 then some (.sl O.length 0 n.toNat (some m.toNat) sz,O++ [some (List.replicate m.toNat z)])else none
 | _,_=>none
def z9r(k:SK)(O:Store)(x:AV)(lo hi mx:Option AV):Option AV:=
 match k,x with
 | .str,.str s=>zan s lo hi mx
 | .sl _,.nilsl=>(bnd hi 0).bind fun h=>(bnd lo 0).bind fun l=>(bnd mx 0).bind fun m=>if h=0/\ l=0/\ m=0/\ (mx.isSome=true->hi.isSome=true)then some .nilsl else none
 | .sl sz,.vsl esz es ex=>if sz=esz then zao esz es ex lo hi mx else none
 | .sl sz,.sl r off len lim esz=>if sz=esz then zam 0 r off len lim esz lo hi mx else none
 | .sl sz,.asl r i off len cap esz=>if sz=esz then z6e r i off len cap esz lo hi mx else none
 | .arr n sz,.ptr r i off=>z6e r i off n n sz lo hi mx
 | _,_=>none
def rFa(k:Nat):AV->Option AV
 | .ptr r i off=>some (.ptr r i (off+k))
 | .vp cs=>if k<=cs.length then some (.vp (cs.drop k))else none
 | _=>none
def rFld(ag:Bool)(n off:Nat):AV->Option AV
 | .agg cs=>z3v cs off n ag
 | _=>none
def zfl(n:Nat)(ag:Bool)(sz:Nat)(x ix:AV):Option AV:=
 match x,ix with
 | .agg cs,.int _ i=>if 0<=i/\ i<(n:Int)then z3v cs (i.toNat*sz) sz ag else none
 | _,_=>none
def zfm(x ix:AV):Option AV:=
 match x,ix with
 | .str s,.int _ i=>if 0<=i then(s[i.toNat]?).map fun b=> .int .u8 b.toNat else none
 | _,_=>none
def z1f:AV->Option AV
 | .nilsl=>some (.int .i64 0)
 | .vsl _ es _=>some (.int .i64 es.length)
 | .sl _ _ len _ _=>some (.int .i64 len)
 | .asl _ _ _ len _ _=>some (.int .i64 len)
 | _=>none
def rEq(bk:BK)(x y:AV):Option Bool:=
 match x,y with
 | .bool a,.bool b=>match bk with| .bool=>some (a==b)| _=>none
 | .nilp,.nilp=>match bk with| .ptr=>some true| _=>none
 | .ptr _ _ _,.nilp=>match bk with| .ptr=>some false| _=>none
 | .vp _,.nilp=>match bk with| .ptr=>some false| _=>none
 | .nilp,.ptr _ _ _=>match bk with| .ptr=>some false| _=>none
 | .nilp,.vp _=>match bk with| .ptr=>some false| _=>none
 | .nilsl,.nilsl=>match bk with| .slc=>some true| _=>none
 | .vsl _ _ _,.nilsl=>match bk with| .slc=>some false| _=>none
 | .sl _ _ _ _ _,.nilsl=>match bk with| .slc=>some false| _=>none
 | .asl _ _ _ _ _ _,.nilsl=>match bk with| .slc=>some false| _=>none
 | .nilfn,.nilfn=>match bk with| .fn=>some true| _=>none
 | .fn _ _,.nilfn=>match bk with| .fn=>some false| _=>none
 | .agg xs,.agg ys=>match bk with| .agg l=>if xs.map z1p=l.map some/\ ys.map z1p=l.map some then some (z2c xs ys)else none| _=>none
 | _,_=>none
def rBin(op:BinOp)(bk:BK)(x y:AV):Option AV:=
 match x,y with
 | .int k a,.int k' b=>match op with
  | .shl=>z25 .shl k a b
  | .shr=>z25 .shr k a b
  |op=>if k=k' then z1d op k a b else none
 | .str a,.str b=>z8b op a b
 |x,y=>(rEq bk x y).bind (eqOp op)
def z6y(c:CK)(O:Store)(x:AV):Option (AV × Store):=
 match c,x with
 | .int k,.int _ n=>some (.int k (k.wrap n),O)
 | .strId,.str s=>some (.str s,O)
 | .bytes,.str s=>some (.sl O.length 0 s.length none 1,O++ [some (zy s)])
 | .str,.int _ _=>none
 | .str,.str _=>none
 | .str,x=>(z26 O x).bind fun es=>(bytesOf es).map fun s=>(.str s,O)
 | _,_=>none
def rCopy(sz:Nat)(O:Store)(d s:AV):Option (AV × Store):=
 (z68 O sz s).bind fun ys=>
  match d with
  | .nilsl=>some (.int .i64 0,O)
  | .sl r off len _ esz=>match O[r]? with
   |some (some o)=>if esz=sz/\ off+len<=o.length then some (.int .i64 (min ys.length len:Nat),O.set r (some (o.take off++ys.take len++o.drop (off+min ys.length len))))else none
   | _=>none
  | .asl r i off len _ esz=>match O[r]? with
   |some (some o)=>(o[i]?).bind fun cs=>if esz=sz/\ off+len*esz<=cs.length then some (.int .i64 (min ys.length len:Nat),O.set r (some (o.set i (z1i cs off (ys.take len).flatten))))else none
   | _=>none
  | _=>none
def zfk(z:List AV)(O:Store):AV->Option (AV × Store)
 | .nilsl=>some (.tup [],O)
 | .sl r off len _ esz=>if len=0 then some (.tup [],O)else match O[r]? with
  |some (some o)=>if z.length=esz/\ off+len<=o.length then some (.tup [],O.set r (some (o.take off++List.replicate len z++o.drop (off+len))))else none
  | _=>none
 | _=>none
def AOp.run(J:Env)(O:Store):AOp->Option (AV × Store)
 | .mv x=>some (x.ev J,O)
 | .pick c a b=>match c.ev J with| .bool t=>some (if t then a.ev J else b.ev J,O)| _=>none
 | .alloc z=>some (.ptr O.length 0 0,O++ [some [z]])
 | .allB=>some (aBld O)
 | .box x=>aBox O (x.ev J)
 | .build z ps=>(z1e z (ps.map fun p=>(p.1,p.2.1,p.2.2.ev J))).map fun c=>(.agg c,O)
 | .lit sz xs=>(z9q sz (xs.map (AX.ev J))).map fun es=>(.vsl sz es true,O)
 | .load ag n x=>(z6z ag n O (x.ev J)).map fun v=>(v,O)
 | .store n a x=>(zfo n O (a.ev J) (x.ev J)).map fun O'=>(.undef,O')
 | .nilc x=>match x.ev J with
  | .ptr r i off=>some (.ptr r i off,O)
  | .vp cs=>some (.vp cs,O)
  | .fn f caps=>some (.fn f caps,O)
  | _=>none
 | .bin op bk x y=>(rBin op bk (x.ev J) (y.ev J)).map fun v=>(v,O)
 | .un op x=>(aUn op (x.ev J)).map fun v=>(v,O)
 | .conv c x=>z6y c O (x.ev J)
 | .mkfn f caps=>some (.fn f (caps.map (AX.ev J)),O)
 | .make sz z l c=>zfn sz z O (l.ev J) (c.ev J)
 | .slice k x lo hi mx=>(z9r k O (x.ev J) (lo.map (AX.ev J)) (hi.map (AX.ev J)) (mx.map (AX.ev J))).map fun v=>(v,O)
 | .fa k x=>(rFa k (x.ev J)).map fun v=>(v,O)
 | .fld ag n off x=>(rFld ag n off (x.ev J)).map fun v=>(v,O)
 | .iaArr n sz x i=>(match i.ev J with| .int _ k=>zaj n sz k (x.ev J)| _=>none).map fun v=>(v,O)
 | .iaSl sz x i=>(match i.ev J with| .int _ k=>zak sz k (x.ev J)| _=>none).map fun v=>(v,O)
 | .ixArr n ag sz x i=>(zfl n ag sz (x.ev J) (i.ev J)).map fun v=>(v,O)
 | .ixStr x i=>(zfm (x.ev J) (i.ev J)).map fun v=>(v,O)
 | .ext i x=>match x.ev J with| .tup vs=>(vs[i]?).map fun v=>(v,O)| _=>none
 | .lenStr x=>match x.ev J with| .str s=>some (.int .i64 s.length,O)| _=>none
 | .lenSl x=>(z1f (x.ev J)).map fun v=>(v,O)
 | .lenArr n=>some (.int .i64 n,O)
 | .app sz s x=>(z68 O sz (x.ev J)).bind fun ys=>aApp O sz (s.ev J) ys
 | .appB s x=>(z68 O 1 (x.ev J)).bind fun ys=>z4l O (s.ev J) ys
 | .copy sz d s=>rCopy sz O (d.ev J) (s.ev J)
 | .clear z x=>zfk z O (x.ev J)
 | .minmax mx x y=>(aMin mx (x.ev J) (y.ev J)).map fun v=>(v,O)
 | .capSl x=>(rCap (x.ev J)).map fun v=>(v,O)
 | .appZ sz z s n=>zcf sz z O (s.ev J) (n.ev J)
 | .call _ _=>none
 | .stuck=>none
structure AIns where
 dst:Option Nat
 guard:Option (Nat × Bool)
 need:Nd
 op:AOp
inductive ACode where
 |skip
 |reg (ops:List AIns)
 |reg2 (a b:List AIns)
 |seq (a b:ACode)
 |cond (c:AX) (a b:ACode)
 |block (id:Nat) (a:ACode)
 |loop (a:ACode)
 |exit (id:Nat)
 |ret
 |scope (a:ACode)
 |rangef (g:AX) (ps:List Nat) (a b:ACode)
 |stuck
inductive AExit where
 |normal
 |exit (id:Nat)
 |ret
def z1x(J:Env):Option (Nat × Bool)->Option Bool
 |none=>some true
 |some g=>match J g.1 with| .bool b=>some (b==g.2)| .undef=>some false| _=>none
def cX(C:Ctx):Operand->Option AX
 | .tmp t=>some (.t t)
 | .const v=>some (.v (ofV v))
 | .global g=>(C.gl g).map fun cs=> .v (.vp cs)
 | .func f=>some (.v (.fn f []))
def cXo(C:Ctx):Option Operand->Option (Option AX)
 |none=>some none
 |some x=>(cX C x).map some
theorem z1n{x:Operand}{a:AX}(h:cX C x=some a)(J:Env):a.ev J=ev C J x:=by
 cases x<;>simp only [cX,Option.some.injEq,Option.map_eq_some_iff]at h
 ·subst h;rfl
 ·subst h;rfl
 ·obtain⟨cs,h1,rfl⟩:=h;simp [AX.ev,ev,h1]
 ·subst h;rfl
theorem z52{x:Option Operand}{a:Option AX}(h:cXo C x=some a)(J:Env):a.map (AX.ev J)=x.map (ev C J):=by
 cases x with
 |none=>simp only [cXo,Option.some.injEq]at h;subst h;rfl
 |some x=>
  simp only [cXo,Option.map_eq_some_iff]at h
  obtain⟨a,h1,rfl⟩:=h
  simp [z1n h1]
def cXs(C:Ctx):List Operand->Option (List AX)
 | []=>some []
 |x::l=>(cX C x).bind fun a=>(cXs C l).map (a:: ·)
theorem z7i{l:List Operand}{as_:List AX}(h:cXs C l=some as_)(J:Env):as_.map (AX.ev J)=l.map (ev C J):=by
 induction l generalizing as_ with
 |nil=>simp only [cXs,Option.some.injEq]at h;subst h;rfl
 |cons x l ih=>
  simp only [cXs,Option.bind_eq_some_iff,Option.map_eq_some_iff]at h
  obtain⟨a,h1,as',h2,rfl⟩:=h
  simp [z1n h1,ih h2]
def z7h(C:Ctx)(place:Nat->Option (Nat × Nat)):List (Nat × Operand)->Option (List (Nat × Nat × AX))
 | []=>some []
 |p::l=>(place p.1).bind fun x=>(cX C p.2).bind fun a=>(z7h C place l).map ((x.1,x.2,a):: ·)
theorem zdj{C:Ctx}{place:Nat->Option (Nat × Nat)}(J:Env):∀{l:List (Nat × Operand)} {ps:List (Nat × Nat × AX)} (cells:List AV),z7h C place l=some ps->
  z5m place cells (l.map fun p=>(p.1,ev C J p.2))=z1e cells (ps.map fun p=>(p.1,p.2.1,p.2.2.ev J))
 | [],ps,cells,h=>by simp only [z7h,Option.some.injEq]at h;subst h;rfl
 |p::l,ps,cells,h=>by
  simp only [z7h,Option.bind_eq_some_iff,Option.map_eq_some_iff]at h
  obtain⟨x,hx,a,ha,ps',hps,rfl⟩:=h
  simp only [List.map_cons,z5m,hx,Option.bind_some,z1e,z1n ha J]
  cases cellsOf (ev C J p.2)with
  |none=>rfl
  |some vs=>
   simp only [Option.bind_some]
   rw [zdj J (z1i cells x.1 vs) hps]
def z91(C:Ctx):List (Nat × Operand)->Nat->Option (List AX)
 | [],_=>some []
 |p::l,k=>if p.1=k then(cX C p.2).bind fun a=>(z91 C l (k+1)).map (a:: ·)else none
theorem ziw{C:Ctx}{sz:Nat}(J:Env):∀{l:List (Nat × Operand)} {k:Nat} {as_:List AX},z91 C l k=some as_->z6d sz (l.map fun p=>(p.1,ev C J p.2)) k=z9q sz (as_.map (AX.ev J))
 | [],k,as_,h=>by simp only [z91,Option.some.injEq]at h;subst h;rfl
 |p::l,k,as_,h=>by
  simp only [z91]at h
  split at h
  ·rename_i hk
   simp only [Option.bind_eq_some_iff,Option.map_eq_some_iff]at h
   obtain⟨a,ha,as',has,rfl⟩:=h
   simp only [List.map_cons,z6d,hk,if_true,z9q,z1n ha J,ziw J has]
  ·cases h
def cBK(C:Ctx)(t:TypeId):BK:=
 if zd0 C t then .bool else if z5f C t then .ptr else if (tySl C t).isSome then .slc else if z8f C t then .fn else
  if z2h C t=some true then(match za4 C t with|some l=> .agg l|none=> .none)else .none
theorem zrj:(cBK C t=.bool->zd0 C t=true)/\ (cBK C t=.ptr->z5f C t=true)/\ (cBK C t=.slc->∃e,tySl C t=some e)/\ (cBK C t=.fn->z8f C t=true) ∧
  (∀l,cBK C t=.agg l->za4 C t=some l/\ z2h C t=some true):=by
 unfold cBK
 split
 ·exact⟨fun _=>by assumption,by simp,by simp,by simp,by simp⟩
 ·split
  ·exact⟨by simp,fun _=>by assumption,by simp,by simp,by simp⟩
  ·split
   ·rename_i h;exact⟨by simp,by simp,fun _=>Option.isSome_iff_exists.1 h,by simp,by simp⟩
   ·split
    ·exact⟨by simp,by simp,by simp,fun _=>by assumption,by simp⟩
    ·split
     ·rename_i hag
      split
      ·rename_i l hl
       exact⟨by simp,by simp,by simp,by simp,fun l' h'=>by cases h';exact⟨hl,hag⟩⟩
      ·exact⟨by simp,by simp,by simp,by simp,by simp⟩
     ·exact⟨by simp,by simp,by simp,by simp,by simp⟩
theorem cBK_ok{y:AV}{b:Bool}(h:rEq (cBK C t) x y=some b):aEq C t x y=some b:=by
 obtain⟨s1,s2,s3,s4,s5⟩:=zrj (C:=C) (t:=t)
 generalize cBK C t=bk at*
 have hsl:bk=.slc->∀c:Bool,((tySl C t).map fun _=>c)=some c:=fun e c=>by obtain⟨e',h'⟩:=s3 e;rw [h'];rfl
 unfold rEq at h
 split at h<;>simp only [aEq]<;>(try (cases bk<;>simp only [reduceCtorEq]at h))
 case h_1=>rw [if_pos (s1 rfl)];exact h
 case h_2=>rw [if_pos (s2 rfl)];exact h
 case h_3=>rw [if_pos (s2 rfl)];exact h
 case h_4=>rw [if_pos (s2 rfl)];exact h
 case h_5=>rw [if_pos (s2 rfl)];exact h
 case h_6=>rw [if_pos (s2 rfl)];exact h
 case h_7=>simp only [Option.some.injEq]at h;subst h;exact hsl rfl _
 case h_8=>simp only [Option.some.injEq]at h;subst h;exact hsl rfl _
 case h_9=>simp only [Option.some.injEq]at h;subst h;exact hsl rfl _
 case h_10=>simp only [Option.some.injEq]at h;subst h;exact hsl rfl _
 case h_11=>rw [if_pos (s4 rfl)];exact h
 case h_12=>rw [if_pos (s4 rfl)];exact h
 case h_13=>
  rename_i l
  obtain⟨k1,k2⟩:=s5 l rfl
  rw [k1]
  simp only [Option.bind_some]
  split at h
  ·rename_i hc
   rw [if_pos ⟨hc.1,hc.2,k2⟩];exact h
  ·cases h
def cOp(C:Ctx):Op->Option AOp
  | .move x=>(cX C x).map .mv
  | .assign x=>(cX C x).map .mv
  | .pick c a b=>(cX C c).bind fun c=>(cX C a).bind fun a=>(cX C b).map fun b=> .pick c a b
  | .alloc t=>(z3h C t).bind fun z=>if t=bldT then(if zel z=true then some .allB else none)else(cellsOf z).map .alloc
  | .box _ x=>(cX C x).map .box
  | .build t ps=>(z3h C t).bind fun z=>(cellsOf z).bind fun zc=>match zh4 C t with
    |some pl=>(z7h C (pl[·]?) ps.toList).map (.build zc)
    |none=>(z4i C t).bind fun ne=>(z1j C ne.2).bind fun n=>(z7h C (fun i=>some (i*n,n)) ps.toList).map (.build zc)
  | .buildSlice t n ps=>(tySl C t).bind fun e=>(z1j C e).bind fun sz=>(z3h C e).bind fun _=>if ps.toList.length=n/\ n*sz<=16777216 then(z91 C ps.toList 0).map (.lit sz)else none
  | .load t x=>(z2h C t).bind fun ag=>(z1j C t).bind fun n=>(cX C x).map (.load ag n)
  | .store t a x=>(z1j C t).bind fun n=>(cX C a).bind fun a=>(cX C x).map (.store n a)
  | .nilCheck x=>(cX C x).map .nilc
  | .binOp op t x y _=>(cX C x).bind fun x=>(cX C y).map fun y=> .bin op (cBK C t) x y
  | .unOp op _ x=>(cX C x).map (.un op)
  | .convert s d x => (cX C x).bind fun x =>
      match z4k C s,z4k C d with
      |some _,some k=>some (.conv (.int k) x)
      | _, _ => if tyStr C d = true then (if z69 C s = true then some (.conv .str x) else if tyStr C s = true then some (.conv .strId x) else none)
          else if z69 C d=true/\ tyStr C s=true then some (.conv .bytes x)else none
  | .makeFunc (.func f) first captured=>if first.size=0 then(cXs C captured.toList).map (.mkfn f)else none
  | .makeSlice t l c => (tySl C t).bind fun e => (z1j C e).bind fun sz => (z4j C e).bind fun by_ => (z3h C e).bind fun z => (cellsOf z).bind fun zc => (cX C l).bind fun l => (cX C c).bind fun c =>
      if by_<=16384/\ zc.length=sz then some (.make sz zc l c)else none
  | .slice t x lo hi mx => (cX C x).bind fun x => (cXo C lo).bind fun lo => (cXo C hi).bind fun hi => (cXo C mx).bind fun mx =>
      if tyStr C t=true then some (.slice .str x lo hi mx)else match z4i C t with
        |some ne=>(z1j C ne.2).map fun sz=> .slice (.arr ne.1 sz) x lo hi mx
        |none=>(tySl C t).bind fun e=>(z1j C e).map fun sz=> .slice (.sl sz) x lo hi mx
  | .fieldAddr s x f=>(za2 C s f).bind fun k=>(cX C x).map (.fa k)
  | .field s x f=>(zhi C s f).bind fun y=>(z2h C y.1).bind fun ag=>(z1j C y.1).bind fun n=>(cX C x).map (.fld ag n y.2)
  | .indexAddr t x i=>(cX C x).bind fun x=>(cX C i).bind fun i=>match z4i C t with
    |some ne=>(z1j C ne.2).map fun sz=> .iaArr ne.1 sz x i
    |none=>(tySl C t).bind fun e=>(z1j C e).map fun sz=> .iaSl sz x i
  | .index t x i => (cX C x).bind fun x => (cX C i).bind fun i => if tyStr C t = true then some (.ixStr x i) else
      (z4i C t).bind fun ne=>(z2h C ne.2).bind fun ag=>(z1j C ne.2).map fun sz=> .ixArr ne.1 ag sz x i
  | .extract x i=>(cX C x).map (.ext i)
  | .call c=>match c.callee with
    | .value f=>(cX C f).bind fun f=>(cXs C c.args.toList).map (.call f)
    | .builtin b=>(cXs C c.args.toList).bind fun xs=>
      match b,c.argTypes.toList,xs with
      | .len,[t],[x]=>if tyStr C t=true then some (.lenStr x)else if (tySl C t).isSome=true then some (.lenSl x)else none
      | .append, [t, t'], [s, x] => (tySl C t).bind fun e => (z1j C e).bind fun sz => (z4j C e).bind fun by_ => (z3h C e).bind fun z => (cellsOf z).bind fun zc =>
          if (z4k C t').isSome=true then(if by_<=8192/\ zc.length=sz/\ 0<sz then some (.appZ sz zc s x)else none)else if by_<=8192/\ zc.length=sz/\ ((tySl C t').isSome ||tyStr C t')=true then some (if e=u8T/\ sz=1 then .appB s x else .app sz s x)else none
      | .cap,[t],[x]=>if (tySl C t).isSome=true then some (.capSl x)else none
      | .copy,[t,_],[d,s]=>(tySl C t).bind fun e=>(z1j C e).map fun sz=> .copy sz d s
      | .clear,[t],[x]=>(tySl C t).bind fun e=>(z3h C e).bind fun z=>(cellsOf z).map fun zc=> .clear zc x
      | .min,_,[x,y]=>some (.minmax false x y)
      | .max,_,[x,y]=>some (.minmax true x y)
      | _,_,_=>none
    | _=>none
  | _=>none
end
section
theorem zrw{op:Op}{a:AOp}(h:cOp C op=some a){J:Env}{O:Store}{r:AV × Store}(hr:a.run J O=some r):z2g op=none/\ z1z C (ev C J) O op=some r:=by
 cases op<;>simp only [cOp,reduceCtorEq,Option.map_eq_some_iff,Option.bind_eq_some_iff]at h
 case move x=>obtain⟨a,ha,rfl⟩:=h;exact⟨rfl,by rw [<-hr];simp only [AOp.run,z1z,z1n ha]⟩
 case assign x=>obtain⟨a,ha,rfl⟩:=h;exact⟨rfl,by rw [<-hr];simp only [AOp.run,z1z,z1n ha]⟩
 case pick c x y=>
  obtain⟨c',hc,x',hx,y',hy,rfl⟩:=h
  refine⟨rfl,?_⟩
  rw [<-hr]
  simp only [AOp.run,z1z,z1n hc,z1n hx,z1n hy]
  rfl
 case alloc t=>
  obtain⟨z,hz,h⟩:=h
  refine⟨rfl,?_⟩
  split at h
  ·rename_i ht
   split at h
   ·rename_i hn
    simp only [Option.some.injEq]at h;subst h
    rw [<-hr]
    simp only [AOp.run,z1z,z8n,hz,Option.bind_some,if_pos ht,if_pos hn]
   ·cases h
  ·rename_i ht
   simp only [Option.map_eq_some_iff]at h
   obtain⟨zc,hzc,rfl⟩:=h
   rw [<-hr]
   simp only [AOp.run,z1z,z8n,hz,Option.bind_some,if_neg ht,aBox,hzc,Option.map_some]
 case box t x=>obtain⟨a,ha,rfl⟩:=h;exact⟨rfl,by rw [<-hr];simp only [AOp.run,z1z,z1n ha]⟩
 case build t ps=>
  obtain⟨z,hz,zc,hzc,h⟩:=h
  refine⟨rfl,?_⟩
  split at h
  ·rename_i pl hpl
   simp only [Option.map_eq_some_iff]at h
   obtain⟨q,hq,rfl⟩:=h
   rw [<-hr]
   simp only [AOp.run,z1z,z8p,hz,Option.bind_some,hzc,hpl,zdj J zc hq,Option.map_map]
   rfl
  ·rename_i hpl
   simp only [Option.bind_eq_some_iff,Option.map_eq_some_iff]at h
   obtain⟨ne,hne,n,hn,q,hq,rfl⟩:=h
   rw [<-hr]
   simp only [AOp.run,z1z,z8p,hz,Option.bind_some,hzc,hpl,hne,hn,zdj J zc hq,Option.map_map]
   rfl
 case buildSlice t n ps=>
  obtain⟨e,he,sz,hsz,z,hz,h⟩:=h
  refine⟨rfl,?_⟩
  split at h
  ·rename_i hc
   simp only [Option.map_eq_some_iff]at h
   obtain⟨q,hq,rfl⟩:=h
   rw [<-hr]
   have hc':(ps.toList.map fun p=>(p.1,ev C J p.2)).length=n/\ n*sz<=16777216:=by rw [List.length_map];exact hc
   simp only [AOp.run,z1z,zae,he,hsz,hz,Option.bind_some,if_pos hc',ziw J hq,Option.map_map]
   rfl
  ·cases h
 case load t x=>
  obtain⟨ag,hag,n,hn,a,ha,rfl⟩:=h
  refine⟨rfl,?_⟩
  rw [<-hr]
  simp only [AOp.run,z1z,z1n ha]
  congr 1
  generalize ev C J x=p
  cases p<;>simp only [z7d,z6z,hag,hn,Option.bind_some]
  rfl
 case store t p x=>
  obtain⟨n,hn,p',hp,x',hx,rfl⟩:=h
  refine⟨rfl,?_⟩
  rw [<-hr]
  simp only [AOp.run,z1z,z1n hp,z1n hx,zap,zfo,hn,Option.bind_some]
  rfl
 case nilCheck x=>obtain⟨a,ha,rfl⟩:=h;exact⟨rfl,by rw [<-hr];simp only [AOp.run,z1z,z1n ha];rfl⟩
 case binOp bop t x y yt=>
  obtain⟨x',hx,y',hy,rfl⟩:=h
  refine⟨rfl,?_⟩
  simp only [AOp.run,Option.map_eq_some_iff]at hr
  obtain⟨v,hv,rfl⟩:=hr
  simp only [z1z,Option.map_eq_some_iff]
  refine⟨v,?_,rfl⟩
  rw [z1n hx,z1n hy]at hv
  generalize ev C J x=p at*
  generalize ev C J y=q at*
  have hq:∀{p q:AV},(rEq (cBK C t) p q).bind (eqOp bop)=some v->(aEq C t p q).bind (eqOp bop)=some v:=by
   intro p q h
   simp only [Option.bind_eq_some_iff]at h ⊢
   obtain⟨b,hb,h⟩:=h
   exact⟨b,cBK_ok hb,h⟩
  cases p<;>first|exact hq hv|(cases q<;>first|exact hq hv|(cases bop<;>exact hv)|exact hv)
 case unOp uop t x=>obtain⟨a,ha,rfl⟩:=h;exact⟨rfl,by rw [<-hr];simp only [AOp.run,z1z,z1n ha]⟩
 case convert s d x=>
  obtain⟨x',hx,h⟩:=h
  refine⟨rfl,?_⟩
  simp only [z1z]
  split at h
  ·rename_i k0 k h1 h2
   simp only [Option.some.injEq]at h;subst h
   simp only [AOp.run,z1n hx]at hr
   generalize ev C J x=p at*
   cases p<;>simp only [z6y,reduceCtorEq]at hr
   simp only [z5l,h1,h2,Option.bind_some,Option.map_some];exact hr
  ·split at h
   ·rename_i hst
    split at h
    ·rename_i hu
     simp only [Option.some.injEq]at h;subst h
     simp only [AOp.run,z1n hx]at hr
     generalize ev C J x=p at*
     unfold z6y at hr
     unfold z5l
     cases p<;>simp only [reduceCtorEq]at hr ⊢ <;>(simp only [hst,hu,and_self,if_true];exact hr)
    ·split at h
     ·rename_i hs
      simp only [Option.some.injEq]at h;subst h
      simp only [AOp.run,z1n hx]at hr
      generalize ev C J x=p at*
      cases p<;>simp only [z6y,reduceCtorEq]at hr
      simp only [z5l,hst,z5g hs,Option.isSome_some,and_self,if_true];exact hr
     ·cases h
   ·rename_i hst
    split at h
    ·rename_i hc
     simp only [Option.some.injEq]at h;subst h
     simp only [AOp.run,z1n hx]at hr
     generalize ev C J x=p at*
     cases p<;>simp only [z6y,reduceCtorEq]at hr
     simp only [z5l,hst,hc.1,z5g hc.2,Option.isSome_some,and_true,Bool.false_eq_true,if_false,if_true];exact hr
    ·cases h
 case makeFunc fn first captured=>
  cases fn<;>simp only [reduceCtorEq]at h
  split at h
  ·rename_i hz
   simp only [Option.map_eq_some_iff]at h
   obtain⟨q,hq,rfl⟩:=h
   refine⟨rfl,?_⟩
   rw [<-hr]
   simp only [AOp.run,z1z,hz,if_true,z7i hq]
  ·cases h
 case makeSlice t l c=>
  obtain⟨e,he,sz,hsz,by_,hby,z,hz,zc,hzc,l',hl,c',hc,h⟩:=h
  refine⟨rfl,?_⟩
  split at h
  ·rename_i hcond
   simp only [Option.some.injEq]at h;subst h
   simp only [AOp.run,z1n hl,z1n hc]at hr
   simp only [z1z]
   generalize ev C J l=p at*
   generalize ev C J c=q at*
   cases p<;>simp only [zfn,reduceCtorEq]at hr
   cases q<;>simp only [reduceCtorEq]at hr
   split at hr
   ·rename_i hx
    simp only [zal,he,hsz,hby,hz,hzc,Option.bind_some]
    rw [if_pos ⟨hx.1,hx.2.1,hx.2.2,hcond.1,hcond.2⟩];exact hr
   ·cases hr
  ·cases h
 case slice t x lo hi mx=>
  obtain⟨x',hx,lo',hlo,hi',hhi,mx',hmx,h⟩:=h
  refine⟨rfl,?_⟩
  simp only [z1z]
  split at h
  ·rename_i hst
   simp only [Option.some.injEq]at h;subst h
   simp only [AOp.run,z1n hx,z52 hlo,z52 hhi,z52 hmx,Option.map_eq_some_iff]at hr
   obtain⟨v,hv,rfl⟩:=hr
   generalize ev C J x=p at*
   cases p<;>simp only [z9r,reduceCtorEq]at hv
   simp only [z7e,hst,if_true,hv,Option.map_some]
  ·split at h
   ·rename_i ne hne
    simp only [Option.map_eq_some_iff]at h
    obtain⟨sz,hsz,rfl⟩:=h
    simp only [AOp.run,z1n hx,z52 hlo,z52 hhi,z52 hmx,Option.map_eq_some_iff]at hr
    obtain⟨v,hv,rfl⟩:=hr
    generalize ev C J x=p at*
    cases p<;>simp only [z9r,reduceCtorEq]at hv
    simp only [z7e,hne,hsz,Option.bind_some,hv,Option.map_some]
   ·simp only [Option.bind_eq_some_iff,Option.map_eq_some_iff]at h
    obtain⟨e,he,sz,hsz,rfl⟩:=h
    simp only [AOp.run,z1n hx,z52 hlo,z52 hhi,z52 hmx,Option.map_eq_some_iff]at hr
    obtain⟨v,hv,rfl⟩:=hr
    generalize ev C J x=p at*
    cases p<;>simp only [z9r,reduceCtorEq]at hv<;>simp only [z7e,he,hsz,Option.bind_some,hv,Option.map_some]
 case fieldAddr s x f=>
  obtain⟨k,hk,x',hx,rfl⟩:=h
  refine⟨rfl,?_⟩
  simp only [AOp.run,z1n hx,Option.map_eq_some_iff]at hr
  obtain⟨v,hv,rfl⟩:=hr
  simp only [z1z]
  generalize ev C J x=p at*
  cases p<;>simp only [rFa,reduceCtorEq]at hv<;>simp only [zai,hk,Option.map_some,Option.bind_some]
  ·simp only [Option.some.injEq]at hv;subst hv;rfl
  ·rw [hv];rfl
 case field s x f=>
  obtain⟨y,hy,ag,hag,n,hn,x',hx,rfl⟩:=h
  refine⟨rfl,?_⟩
  simp only [AOp.run,z1n hx,Option.map_eq_some_iff]at hr
  obtain⟨v,hv,rfl⟩:=hr
  simp only [z1z]
  generalize ev C J x=p at*
  cases p<;>simp only [rFld,reduceCtorEq]at hv
  simp only [zah,hy,hag,hn,Option.bind_some,hv,Option.map_some]
 case indexAddr t x i=>
  obtain⟨x',hx,i',hi,h⟩:=h
  refine⟨rfl,?_⟩
  simp only [z1z]
  split at h
  ·rename_i ne hne
   simp only [Option.map_eq_some_iff]at h
   obtain⟨sz,hsz,rfl⟩:=h
   simp only [AOp.run,z1n hx,z1n hi]at hr
   rw [<-hr]
   congr 1
   generalize ev C J i=q
   cases q<;>simp only [z8r,hne,hsz,Option.bind_some]
  ·rename_i hne
   simp only [Option.bind_eq_some_iff,Option.map_eq_some_iff]at h
   obtain⟨e,he,sz,hsz,rfl⟩:=h
   simp only [AOp.run,z1n hx,z1n hi]at hr
   rw [<-hr]
   congr 1
   generalize ev C J i=q
   cases q<;>simp only [z8r,hne,he,hsz,Option.bind_some]
 case index t x i=>
  obtain⟨x',hx,i',hi,h⟩:=h
  refine⟨rfl,?_⟩
  simp only [z1z]
  split at h
  ·rename_i hst
   simp only [Option.some.injEq]at h;subst h
   simp only [AOp.run,z1n hx,z1n hi,Option.map_eq_some_iff]at hr
   obtain⟨v,hv,rfl⟩:=hr
   generalize ev C J x=p at*
   generalize ev C J i=q at*
   cases p<;>simp only [zfm,reduceCtorEq]at hv
   cases q<;>simp only [reduceCtorEq]at hv
   simp only [z8q,hst,if_true,hv,Option.map_some]
  ·simp only [Option.bind_eq_some_iff,Option.map_eq_some_iff]at h
   obtain⟨ne,hne,ag,hag,sz,hsz,rfl⟩:=h
   simp only [AOp.run,z1n hx,z1n hi,Option.map_eq_some_iff]at hr
   obtain⟨v,hv,rfl⟩:=hr
   generalize ev C J x=p at*
   generalize ev C J i=q at*
   cases p<;>simp only [zfl,reduceCtorEq]at hv
   cases q<;>simp only [reduceCtorEq]at hv
   simp only [z8q,hne,hag,hsz,Option.bind_some]
   split at hv
   ·rename_i hin
    rw [if_pos hin,hv,Option.map_some]
   ·cases hv
 case extract x i=>obtain⟨a,ha,rfl⟩:=h;exact⟨rfl,by rw [<-hr];simp only [AOp.run,z1z,z1n ha];rfl⟩
 case call c=>
  obtain⟨callee,cargs,ats⟩:=c
  cases callee<;>simp only [reduceCtorEq,Option.bind_eq_some_iff,Option.map_eq_some_iff]at h
  ·obtain⟨f,hf,xs,hxs,rfl⟩:=h
   simp [AOp.run]at hr
  ·rename_i b
   obtain⟨xs,hxs,h⟩:=h
   refine⟨rfl,?_⟩
   simp only [z1z]
   have hm:=z7i hxs J
   rw [<-hm]
   split at h
   ·rename_i t x hat
    split at h
    ·rename_i hst
     simp only [Option.some.injEq]at h;subst h
     simp only [AOp.run]at hr
     simp only [List.map_cons,List.map_nil,hat,z3n]
     generalize x.ev J=p at*
     cases p<;>simp only [reduceCtorEq]at hr
     simp only [aLen,hst,if_true,Option.map_some];exact hr
    ·split at h
     ·rename_i hsl
      obtain⟨e,he⟩:=Option.isSome_iff_exists.1 hsl
      simp only [Option.some.injEq]at h;subst h
      simp only [AOp.run,Option.map_eq_some_iff]at hr
      obtain⟨v,hv,rfl⟩:=hr
      simp only [List.map_cons,List.map_nil,hat,z3n]
      generalize x.ev J=p at*
      cases p<;>simp only [z1f,reduceCtorEq]at hv<;>simp only [aLen,he,Option.map_some,hv]
     ·cases h
   ·rename_i t t' s x hat
    simp only [Option.bind_eq_some_iff]at h
    obtain⟨e,he,sz,hsz,by_,hby,z,hz,zc,hzc,h⟩:=h
    split at h
    ·rename_i hint
     split at h
     ·rename_i hcond
      simp only [Option.some.injEq]at h
      subst h
      simp only [AOp.run]at hr
      simp only [List.map_cons,List.map_nil,hat,z3n]
      rw [if_pos hint]
      simp only [zad,he,hsz,hby,hz,hzc,Option.bind_some]
      rw [if_pos ⟨hcond.1,hcond.2.1,hcond.2.2,hint⟩];exact hr
     ·cases h
    rename_i hint
    split at h
    ·rename_i hcond
     simp only [Option.some.injEq]at h
     by_cases hB:e=u8T/\ sz=1
     ·rw [if_pos hB]at h
      subst h
      obtain⟨_,rfl⟩:=id hB
      simp only [AOp.run,Option.bind_eq_some_iff]at hr
      obtain⟨ys,hys,hr⟩:=hr
      simp only [List.map_cons,List.map_nil,hat,z3n]
      rw [if_neg hint]
      simp only [z8o,he,hsz,hby,hz,hzc,hys,Option.bind_some]
      rw [if_pos hcond,if_pos ⟨hB.1,trivial⟩];exact hr
     ·rw [if_neg hB]at h
      subst h
      simp only [AOp.run,Option.bind_eq_some_iff]at hr
      obtain⟨ys,hys,hr⟩:=hr
      simp only [List.map_cons,List.map_nil,hat,z3n]
      rw [if_neg hint]
      simp only [z8o,he,hsz,hby,hz,hzc,hys,Option.bind_some]
      rw [if_pos hcond,if_neg hB];exact hr
    ·cases h
   ·rename_i t x hat
    split at h
    ·rename_i hsl
     obtain⟨e,he⟩:=Option.isSome_iff_exists.1 hsl
     simp only [Option.some.injEq]at h;subst h
     simp only [AOp.run]at hr
     simp only [List.map_cons,List.map_nil,hat,z3n,aCap,he,Option.bind_some]
     exact hr
    ·cases h
   ·rename_i t t' d s hat
    simp only [Option.bind_eq_some_iff,Option.map_eq_some_iff]at h
    obtain⟨e,he,sz,hsz,rfl⟩:=h
    simp only [AOp.run]at hr
    simp only [List.map_cons,List.map_nil,hat,z3n,zag,he,hsz,Option.bind_some]
    exact hr
   ·rename_i t x hat
    simp only [Option.bind_eq_some_iff,Option.map_eq_some_iff]at h
    obtain⟨e,he,z,hz,zc,hzc,rfl⟩:=h
    simp only [AOp.run]at hr
    simp only [List.map_cons,List.map_nil,hat,z3n,zaf,he,Option.bind_some]
    generalize x.ev J=p at*
    cases p<;>simp only [zfk,reduceCtorEq]at hr
    ·exact hr
    ·simp only [hz,hzc,Option.bind_some];exact hr
   ·simp only [Option.some.injEq]at h;subst h
    simp only [AOp.run]at hr
    simp only [List.map_cons,List.map_nil,z3n];exact hr
   ·simp only [Option.some.injEq]at h;subst h
    simp only [AOp.run]at hr
    simp only [List.map_cons,List.map_nil,z3n];exact hr
   ·cases h
end
variable {ac:ACode}{p:Nat}
section
def AOp.isCall:AOp->Bool
 | .call _ _=>true
 | _=>false
def z3b(n:Nd)(H:Hist)(O O':Store):Prop:=match n with
 | .no=>True
 | .same=>O'=O
 | .rd=>False
 | .ef=>H.rds O'
 | _=>False
def z4q(n:Nd)(H:Hist)(O:Store):Hist:=match n with
 | .ef=>⟨fun s=>H.pre s \/s=O,H.rds,H.rd2⟩
 | _=>H
def callW(C:Ctx)(K:Hist->Env->Store->Prop)(H:Hist)(J:Env)(d:Option Nat)(need:Nd)(O:Store)(f:AV)(xs:List AV):Prop:=
  match f with
  | .fn fid caps => (∃ v O', ACallsTo C fid (xs ++ caps) O v O' /\ z3b need H O O' /\ K (z4q need H O) (putE J d v) O') ∨
      ((need=.no \/need=.ef)/\ ∃P:AV->Store->Prop,ACallsP C fid (xs++caps) O P/\ (∃v O',P v O')/\ ∀v O',P v O'->z3b need H O O'/\ K (z4q need H O) (putE J d v) O') ∨
      (need=.pu/\ ∃v,(∀h,ACallsTo C fid (xs++caps) h v h)/\ K H (putE J d v) O) ∨
      (need=.pu/\ ∃v,ACallsTo C fid (xs++caps) O v O/\ (∀h,H.pre h->ACallsTo C fid (xs++caps) h v h)/\ K ⟨H.pre,fun s=>H.rds s/\ ACallsTo C fid (xs++caps) s v s,H.rd2⟩ (putE J d v) O)
  | _=>False
def z2z(K:Env->Store->Prop)(O:Store):Bool->Option (Env × Store)->Prop
 |false,some r=>K r.1 r.2
 |true,some r=>r.2=O/\ K r.1 r.2
 | _,none=>False
def z3q(i:AIns)(J:Env)(O:Store):Option (Env × Store):=
 match z1x J i.guard with
 |some true=>(i.op.run J O).map fun r=>(putE J i.dst r.1,r.2)
 |some false=>some (putE J i.dst .undef,O)
 |none=>none
def rdC(K:Hist->Env->Store->Prop)(H:Hist)(d:Option Nat)(op:AOp)(J:Env)(O:Store):Option (AV × Store)->Prop
 |some r=>r.2=O/\ (∀h,H.pre h->op.run J h=some (r.1,h))/\ K ⟨H.pre,fun s=>H.rds s/\ op.run J s=some (r.1,s),H.rd2⟩ (putE J d r.1) O
 |none=>False
def rd2C(K:Hist->Env->Store->Prop)(H:Hist)(d:Option Nat)(op:AOp)(J:Env)(O:Store):Option (AV × Store)->Prop
 |some r=>r.2=O/\ (∀h,H.pre h->op.run J h=some (r.1,h))/\ K ⟨H.pre,fun s=>H.rds s/\ op.run J s=some (r.1,s),fun s=>H.rd2 s/\ op.run J s=some (r.1,s)⟩ (putE J d r.1) O
 |none=>False
def rd2W(K:Hist->Env->Store->Prop)(H:Hist)(d:Option Nat)(op:AOp)(J:Env)(O:Store):Option Bool->Prop
 |some true=>rd2C K H d op J O (op.run J O)
 |some false=>K H (putE J d .undef) O
 |none=>False
def ef2C(K:Hist->Env->Store->Prop)(H:Hist)(d:Option Nat)(J:Env)(O:Store):Option (AV × Store)->Prop
 |some r=>H.rd2 r.2/\ K ⟨fun s=>H.pre s \/s=O,H.rds,H.rd2⟩ (putE J d r.1) r.2
 |none=>False
def ef2W(K:Hist->Env->Store->Prop)(H:Hist)(d:Option Nat)(op:AOp)(J:Env)(O:Store):Option Bool->Prop
 |some true=>ef2C K H d J O (op.run J O)
 |some false=>K H (putE J d .undef) O
 |none=>False
def rdW(K:Hist->Env->Store->Prop)(H:Hist)(d:Option Nat)(op:AOp)(J:Env)(O:Store):Option Bool->Prop
 |some true=>rdC K H d op J O (op.run J O)
 |some false=>K H (putE J d .undef) O
 |none=>False
def efC(K:Hist->Env->Store->Prop)(H:Hist)(d:Option Nat)(J:Env)(O:Store):Option (AV × Store)->Prop
 |some r=>H.rds r.2/\ K ⟨fun s=>H.pre s \/s=O,H.rds,H.rd2⟩ (putE J d r.1) r.2
 |none=>False
def efW(K:Hist->Env->Store->Prop)(H:Hist)(d:Option Nat)(op:AOp)(J:Env)(O:Store):Option Bool->Prop
 |some true=>efC K H d J O (op.run J O)
 |some false=>K H (putE J d .undef) O
 |none=>False
def Hist.same(O:Store):Hist:=⟨fun s=>s=O,fun s=>s=O,fun s=>s=O⟩
def rdS(K:Hist->Env->Store->Prop)(d:Option Nat)(J:Env)(O:Store):Option (AV × Store)->Prop
 |some r=>r.2=O/\ K (Hist.same O) (putE J d r.1) O
 |none=>False
theorem zz4{K:Hist->Env->Store->Prop}{op:AOp}:rdW K (Hist.same O) d op J O (some true)=rdS K d J O (op.run J O):=by
 simp only [rdW]
 cases hr:op.run J O with
 |none=>rfl
 |some r=>
  obtain⟨v,s⟩:=r
  simp only [rdC,rdS,Hist.same,eq_iff_iff]
  constructor
  ·rintro⟨rfl,h1,h2⟩
   refine⟨rfl,?_⟩
   have e:(fun t=>t=s/\ op.run J t=some (v,t))=fun t=>t=s:=funext fun t=>propext ⟨fun h=>h.1,fun h=>⟨h,by rw [h];exact hr⟩⟩
   rw [e]at h2;exact h2
  ·rintro⟨rfl,h2⟩
   refine⟨rfl,fun h hh=>by rw [hh];exact hr,?_⟩
   have e:(fun t=>t=s/\ op.run J t=some (v,t))=fun t=>t=s:=funext fun t=>propext ⟨fun h=>h.1,fun h=>⟨h,by rw [h];exact hr⟩⟩
   rw [e];exact h2
theorem zsq{K:Hist->Env->Store->Prop}{op:AOp}:efW K (Hist.same O) d op J O (some true)=rdS K d J O (op.run J O):=by
 simp only [efW]
 cases hr:op.run J O with
 |none=>rfl
 |some r=>
  obtain⟨v,s⟩:=r
  simp only [efC,rdS,Hist.same,eq_iff_iff]
  have e:(fun t=>t=O \/t=O)=fun t=>t=O:=funext fun t=>propext ⟨fun h=>h.elim id id,Or.inl⟩
  rw [e]
  constructor
  ·rintro⟨rfl,h2⟩;exact⟨rfl,h2⟩
  ·rintro⟨rfl,h2⟩;exact⟨rfl,h2⟩
theorem zvz:z3b .ef (Hist.same O) O O'=(O'=O):=rfl
theorem zw1:z4q .ef (Hist.same O) O=Hist.same O:=by
 have e:(fun t=>t=O \/t=O)=fun t=>t=O:=funext fun t=>propext ⟨fun h=>h.elim id id,Or.inl⟩
 simp only [z4q,Hist.same,e]
def z13(K:Hist->Env->Store->Prop)(H:Hist)(i:AIns)(J:Env)(O:Store):Prop:=
 match i.need with
 | .no=>z2z (K H) O false (z3q i J O)
 | .same=>z2z (K H) O true (z3q i J O)
 | .rd=>rdW K H i.dst i.op J O (z1x J i.guard)
 | .ef=>efW K H i.dst i.op J O (z1x J i.guard)
 | .pu=>False
 | .rd2=>rd2W K H i.dst i.op J O (z1x J i.guard)
 | .ef2=>ef2W K H i.dst i.op J O (z1x J i.guard)
def z2n(C:Ctx)(K:Hist->Env->Store->Prop)(H:Hist)(J:Env)(O:Store)(d:Option Nat)(need:Nd)(f:AX)(xs:List AX):Option Bool->Prop
 |some true=>callW C K H J d need O (f.ev J) (xs.map (AX.ev J))
 |some false=>K H (putE J d .undef) O
 |none=>False
def z10(C:Ctx)(K:Env->Store->Prop):List AIns->Hist->Env->Store->Prop
 | [],_,J,O=>K J O
 |i::l,H,J,O=>match i.op with
  | .call f xs=>z2n C (z10 C K l) H J O i.dst i.need f xs (z1x J i.guard)
  | _=>z13 (z10 C K l) H i J O
def zh5(C:Ctx)(F:Hist->Env->Store->Prop)(i:AIns)(H:Hist)(J:Env)(O:Store):Prop:=match i.op with
 | .call f xs=>z2n C F H J O i.dst i.need f xs (z1x J i.guard)
 | _=>z13 F H i J O
theorem z129{F:Hist->Env->Store->Prop}{H:Hist}{g:Option (Nat × Bool)}{n:Nd}{op:AOp}(h:op.isCall=false):
  zh5 C F ⟨d,g,n,op⟩ H J O=z13 F H ⟨d,g,n,op⟩ J O:=by
 cases op<;>first|rfl|simp [AOp.isCall]at h
theorem z128{F:Hist->Env->Store->Prop}{H:Hist}{g:Option (Nat × Bool)}{n:Nd}{f:AX}{xs:List AX}:
  zh5 C F ⟨d,g,n,.call f xs⟩ H J O=z2n C F H J O d n f xs (z1x J g):=rfl
def z14(C:Ctx)(K:Env->Store->Prop)(l m:List AIns):List AIns->Hist->Env->Store->Prop
 | [],H,J,O=>z10 C K l H J O/\ z10 C K m H J O
 |i::a,H,J,O=>match i.op with
  | .call f xs=>z2n C (z14 C K l m a) H J O i.dst i.need f xs (z1x J i.guard)
  | _=>z13 (z14 C K l m a) H i J O
theorem z7y{H:Hist}:z10 C K [] H J O=K J O:=rfl
theorem zlq{H:Hist}{g:Option (Nat × Bool)}{n:Nd}{f:AX}{xs:List AX}{l:List AIns}:
  z10 C K (⟨d,g,n,.call f xs⟩::l) H J O=z2n C (z10 C K l) H J O d n f xs (z1x J g):=rfl
section
variable {C:Ctx} {K:Hist->Env->Store->Prop} {H:Hist} {J:Env} {d:Option Nat} {O O':Store} {fid:FuncId} {caps xs:List AV} {v:AV}
theorem callW.mk(h:ACallsTo C fid (xs++caps) O v O')(hk:K H (putE J d v) O'):callW C K H J d .no O (.fn fid caps) xs:=.inl ⟨v,O',h,trivial,hk⟩
theorem callW.zp(h:ACallsTo C fid (xs++caps) O v O)(hk:K H (putE J d v) O):callW C K H J d .no O (.fn fid caps) xs:=.inl ⟨v,O,h,trivial,hk⟩
theorem callW.za{nd:Nd}(h:ACallsTo C fid (xs++caps) O v O')(hn:z3b nd H O O')(hk:K (z4q nd H O) (putE J d v) O'):callW C K H J d nd O (.fn fid caps) xs:=.inl ⟨v,O',h,hn,hk⟩
theorem callW.mkP{P:AV->Store->Prop}(h:ACallsP C fid (xs++caps) O P)(hne:∃v O',P v O')(hk:∀v O',P v O'->K H (putE J d v) O'):callW C K H J d .no O (.fn fid caps) xs:=
 .inr (.inl ⟨.inl rfl,P,h,hne,fun v O' hp=>⟨trivial,hk v O' hp⟩⟩)
theorem callW.mkP_ef {P : AV -> Store -> Prop} (h : ACallsP C fid (xs ++ caps) O P) (hne : ∃ v O', P v O') (hk : ∀ v O', P v O' -> H.rds O' /\ K ⟨fun s => H.pre s \/ s = O, H.rds, H.rd2⟩ (putE J d v) O') :
    callW C K H J d .ef O (.fn fid caps) xs:=.inr (.inl ⟨.inr rfl,P,h,hne,hk⟩)
theorem callW.mk_pu(h:∀h,ACallsTo C fid (xs++caps) h v h)(hk:K H (putE J d v) O):callW C K H J d .pu O (.fn fid caps) xs:=.inr (.inr (.inl ⟨rfl,v,h,hk⟩))
theorem callW.mk_pu2(h:ACallsTo C fid (xs++caps) O v O)(hp:∀h,H.pre h->ACallsTo C fid (xs++caps) h v h)(hk:K ⟨H.pre,fun s=>H.rds s/\ ACallsTo C fid (xs++caps) s v s,H.rd2⟩ (putE J d v) O):callW C K H J d .pu O (.fn fid caps) xs:=.inr (.inr (.inr ⟨rfl,v,h,hp,hk⟩))
end
theorem zrv{op:Op}{f:AX}{xs:List AX}(h:cOp C op=some (.call f xs)):∃fo args,z2g op=some (fo,args)/\ cX C fo=some f/\ cXs C args.toList=some xs:=by
 cases op
 case call c=>
  obtain⟨callee,cargs,ats⟩:=c
  cases callee
  case value=>
   simp only [cOp,Option.bind_eq_some_iff,Option.map_eq_some_iff,AOp.call.injEq]at h
   obtain⟨f',hf,xs',hxs,rfl,rfl⟩:=h
   exact⟨_,_,rfl,hf,hxs⟩
  case invoke=>simp [cOp]at h
  case builtin b=>
   simp only [cOp,Option.bind_eq_some_iff]at h
   obtain⟨ys,hys,h⟩:=h
   exfalso
   split at h
   ·split at h<;>(try split at h)<;>simp at h
   ·simp only [Option.bind_eq_some_iff]at h
    obtain⟨e,he,sz,hsz,by_,hby,z,hz,zc,hzc,h⟩:=h
    split at h
    ·split at h<;>simp at h
    split at h
    ·by_cases hB:e=u8T/\ sz=1
     ·rw [if_pos hB]at h;simp at h
     ·rw [if_neg hB]at h;simp at h
    ·simp at h
   ·split at h<;>simp at h
   ·simp [Option.bind_eq_some_iff]at h
   ·simp [Option.bind_eq_some_iff]at h
   ·simp at h
   ·simp at h
   ·cases h
 case makeFunc fn first captured=>
  cases fn<;>simp only [cOp,reduceCtorEq]at h
  split at h<;>simp at h
 case build t ps=>
  simp only [cOp,Option.bind_eq_some_iff]at h
  obtain⟨z,hz,zc,hzc,h⟩:=h
  exfalso
  split at h<;>simp [Option.bind_eq_some_iff]at h
 case alloc t=>
  simp only [cOp,Option.bind_eq_some_iff]at h
  obtain⟨z,hz,h⟩:=h
  exfalso
  split at h
  ·split at h<;>simp at h
  ·simp at h
 case buildSlice t n ps=>
  simp only [cOp,Option.bind_eq_some_iff]at h
  obtain⟨e,he,sz,hsz,z,hz,h⟩:=h
  exfalso
  split at h<;>simp at h
 case convert s d x=>
  simp only [cOp,Option.bind_eq_some_iff]at h
  obtain⟨a,ha,h⟩:=h
  exfalso
  split at h
  ·simp at h
  ·split at h
   ·split at h
    ·simp at h
    ·split at h<;>simp at h
   ·split at h<;>simp at h
 case makeSlice t l c=>
  simp only [cOp,Option.bind_eq_some_iff]at h
  obtain⟨e,he,sz,hsz,by_,hby,z,hz,zc,hzc,l',hl,c',hc,h⟩:=h
  exfalso
  split at h<;>simp at h
 case slice t x lo hi mx=>
  simp only [cOp,Option.bind_eq_some_iff]at h
  obtain⟨x',hx,lo',hlo,hi',hhi,mx',hmx,h⟩:=h
  exfalso
  split at h
  ·simp at h
  ·split at h<;>simp [Option.bind_eq_some_iff]at h
 case indexAddr t x i=>
  simp only [cOp,Option.bind_eq_some_iff]at h
  obtain⟨x',hx,i',hi,h⟩:=h
  exfalso
  split at h<;>simp [Option.bind_eq_some_iff]at h
 case index t x i=>
  simp only [cOp,Option.bind_eq_some_iff]at h
  obtain⟨x',hx,i',hi,h⟩:=h
  exfalso
  split at h<;>simp [Option.bind_eq_some_iff]at h
 all_goals simp [cOp,Option.bind_eq_some_iff,Option.map_eq_some_iff]at h
def zb2(ops:Array Oper):Option (Nat × Bool)->Option (Option (Nat × Bool))
 |none=>some none
 |some g=>match (ops[g.1]?).bind (·.dst)with
  |some d=>some (some (d,g.2))
  |none=>none
theorem zrs{o:Oper}{g:Option (Nat × Bool)}(h:zb2 ops o.guard=some g)(J:Env):z3l ops J o=z1x J g:=by
 unfold z3l
 cases hg:o.guard with
 |none=>rw [hg]at h;simp only [zb2,Option.some.injEq]at h;subst h;rfl
 |some k=>
  rw [hg]at h
  simp only [zb2]at h
  split at h
  ·rename_i d hd
   simp only [Option.some.injEq]at h;subst h
   simp only [hd,z1x]<;>rfl
  ·cases h
def cIns(C:Ctx)(ops:Array Oper)(need:Nd)(o:Oper):Option AIns:=
 (zb2 ops o.guard).map fun g=>⟨o.dst,g,need,(cOp C o.op).getD .stuck⟩
def HR(H H':Hist):Prop:=(∀s,H'.pre s->H.pre s)/\ (∀s,H.rds s->H'.rds s)/\ ∀s,H.rd2 s->H'.rd2 s
theorem zrt{need:Nd}{o:Oper}{i:AIns}(h:cIns C ops need o=some i){F:Hist->Env->Store->Prop}{K':Hist->Env->Store->Prop}(hK:∀H H' J O,HR H H'->F H J O->K' H' J O)
  {H H':Hist} (hH:HR H H') {J:Env} {O:Store} (hw:zh5 C F i H J O):z2l C ops need o K' H' J O:=by
 simp only [cIns,Option.map_eq_some_iff]at h
 obtain⟨g,hg,rfl⟩:=h
 have ha:(cOp C o.op).getD .stuck ≠ .stuck->cOp C o.op=some ((cOp C o.op).getD .stuck):=by
  intro h
  cases hc:cOp C o.op with
  |none=>rw [hc]at h;exact absurd rfl h
  |some a=>rfl
 generalize (cOp C o.op).getD .stuck=a at*
 unfold z2l
 rw [zrs hg]
 have nocall:a.isCall=false->(match z1x J g with|some true=>(∃v O',OpTo C (ev C J) O o.op v O'/\ need.ok C (ev C J) o.op v H' O O'/\ K' (need.next C (ev C J) o.op v H' O) (putE J o.dst v) O') \/((need=.no \/need=.ef)/\ zdn C need o K' H' J O)|some false=>K' H' (putE J o.dst .undef) O|none=>False):=by
  intro hc
  rw [z129 hc]at hw
  have to:∀{s:Store} {r:AV × Store},a.run J s=some r->OpTo C (ev C J) s o.op r.1 r.2:=by
   intro s r hr
   obtain⟨h1,h2⟩:=zrw (ha (by rintro rfl;simp [AOp.run]at hr)) hr
   unfold OpTo;rw [h1];exact h2
  cases need
  ·-- nothing owed
   simp only [z13,z3q]at hw
   cases hgv:z1x J g with
   |none=>rw [hgv]at hw;exact hw.elim
   |some b=>
    rw [hgv]at hw
    cases b with
    |false=>exact hK _ _ _ _ hH hw
    |true=>
     simp only at hw ⊢
     cases hr:a.run J O with
     |none=>rw [hr]at hw;exact hw.elim
     |some r=>rw [hr]at hw;exact .inl ⟨r.1,r.2,to hr,trivial,hK _ _ _ _ hH hw⟩
  ·simp only [z13,z3q]at hw
   cases hgv:z1x J g with
   |none=>rw [hgv]at hw;exact hw.elim
   |some b=>
    rw [hgv]at hw
    cases b with
    |false=>exact hK _ _ _ _ hH hw.2
    |true=>
     simp only at hw ⊢
     cases hr:a.run J O with
     |none=>rw [hr]at hw;exact hw.elim
     |some r=>rw [hr]at hw;exact .inl ⟨r.1,r.2,to hr,hw.1,hK _ _ _ _ hH hw.2⟩
  ·simp only [z13]at hw
   cases hgv:z1x J g with
   |none=>rw [hgv]at hw;exact hw.elim
   |some b=>
    rw [hgv]at hw
    cases b with
    |false=>exact hK _ _ _ _ hH hw
    |true=>
     simp only [rdW]at hw ⊢
     cases hr:a.run J O with
     |none=>rw [hr]at hw;exact hw.elim
     |some r=>
      rw [hr]at hw
      obtain⟨k1,k2,k3⟩:=hw
      obtain⟨v,s⟩:=r
      simp only at k1 k2 k3
      subst k1
      refine .inl ⟨v,s,to hr,⟨rfl,fun h hh=>to (k2 h (hH.1 h hh))⟩,hK ⟨H.pre,fun t=>H.rds t/\ a.run J t=some (v,t),H.rd2⟩ _ _ _ ⟨hH.1,fun t ht=>⟨hH.2.1 t ht.1,to ht.2⟩,hH.2.2⟩ k3⟩
  ·simp only [z13]at hw
   cases hgv:z1x J g with
   |none=>rw [hgv]at hw;exact hw.elim
   |some b=>
    rw [hgv]at hw
    cases b with
    |false=>exact hK _ _ _ _ hH hw
    |true=>
     simp only [efW]at hw ⊢
     cases hr:a.run J O with
     |none=>rw [hr]at hw;exact hw.elim
     |some r=>
      rw [hr]at hw
      exact .inl ⟨r.1,r.2,to hr,hH.2.1 _ hw.1,hK ⟨fun s=>H.pre s \/s=O,H.rds,H.rd2⟩ _ _ _ ⟨fun s hs=>hs.imp (hH.1 s) id,hH.2⟩ hw.2⟩
  ·simp only [z13]at hw
  ·simp only [z13]at hw
   cases hgv:z1x J g with
   |none=>rw [hgv]at hw;exact hw.elim
   |some b=>
    rw [hgv]at hw
    cases b with
    |false=>exact hK _ _ _ _ hH hw
    |true=>
     simp only [rd2W]at hw ⊢
     cases hr:a.run J O with
     |none=>rw [hr]at hw;exact hw.elim
     |some r=>
      rw [hr]at hw
      obtain⟨k1,k2,k3⟩:=hw
      obtain⟨v,s⟩:=r
      simp only at k1 k2 k3
      subst k1
      refine .inl ⟨v,s,to hr,⟨rfl,fun h hh=>to (k2 h (hH.1 h hh))⟩,hK ⟨H.pre,fun t=>H.rds t/\ a.run J t=some (v,t),fun t=>H.rd2 t/\ a.run J t=some (v,t)⟩ _ _ _ ⟨hH.1,fun t ht=>⟨hH.2.1 t ht.1,to ht.2⟩,fun t ht=>⟨hH.2.2 t ht.1,to ht.2⟩⟩ k3⟩
  ·simp only [z13]at hw
   cases hgv:z1x J g with
   |none=>rw [hgv]at hw;exact hw.elim
   |some b=>
    rw [hgv]at hw
    cases b with
    |false=>exact hK _ _ _ _ hH hw
    |true=>
     simp only [ef2W]at hw ⊢
     cases hr:a.run J O with
     |none=>rw [hr]at hw;exact hw.elim
     |some r=>
      rw [hr]at hw
      exact .inl ⟨r.1,r.2,to hr,hH.2.2 _ hw.1,hK ⟨fun s=>H.pre s \/s=O,H.rds,H.rd2⟩ _ _ _ ⟨fun s hs=>hs.imp (hH.1 s) id,hH.2⟩ hw.2⟩
 cases a
 case call f xs=>
  obtain⟨fo,args,h1,h2,h3⟩:=zrv (ha (by simp))
  rw [z128]at hw
  cases hgv:z1x J g with
  |none=>rw [hgv]at hw;exact hw.elim
  |some b=>
   rw [hgv]at hw
   cases b with
   |false=>exact hK _ _ _ _ hH hw
   |true=>
    simp only [z2n,callW,z1n h2]at hw ⊢
    split at hw
    ·rename_i fid caps hf
     have okn:∀{v:AV} {O':Store},z3b need H O O'->need.ok C (ev C J) o.op v H' O O':=by
      intro v O' hn
      cases need<;>simp only [z3b,Nd.ok]at hn ⊢
      ·exact hn
      ·exact hH.2.1 _ hn
     have nxt:∀{v:AV},z3b need H O O \/need=.no \/need=.ef \/need=.same->HR (z4q need H O) (need.next C (ev C J) o.op v H' O):=by
      intro v hn
      cases need<;>simp only [z4q,Nd.next]
      ·exact hH
      ·exact hH
      ·simp [z3b]at hn
      ·exact⟨fun s hs=>hs.imp (hH.1 s) id,hH.2⟩
      ·simp [z3b]at hn
      ·simp [z3b]at hn
      ·simp [z3b]at hn
     rcases hw with⟨v,O',h4,h5,h6⟩| ⟨h0,P,h4,hne,h6⟩| ⟨rfl,v,h4,h6⟩| ⟨rfl,v,h4,h5,h6⟩
     ·have hn:z3b need H O O \/need=.no \/need=.ef \/need=.same:=by cases need<;>first|exact .inr (.inl rfl)|exact .inr (.inr (.inl rfl))|exact .inr (.inr (.inr rfl))|exact h5.elim
      refine .inl ⟨v,O',?_,okn h5,hK _ _ _ _ (nxt hn) h6⟩
      unfold OpTo
      rw [h1]
      refine⟨fid,caps,hf,?_⟩
      rw [<-z7i h3];exact h4
     ·have hn:z3b need H O O \/need=.no \/need=.ef \/need=.same:=.inr (h0.imp id .inl)
      refine .inr ⟨h0,P,⟨_,h1,fid,caps,hf,?_⟩,hne,fun v O' hp=>⟨okn (h6 v O' hp).1,hK _ _ _ _ (nxt hn) (h6 v O' hp).2⟩⟩
      rw [<-z7i h3];exact h4
     ·have hto:∀s,OpTo C (ev C J) s o.op v s:=by
       intro s
       unfold OpTo
       rw [h1]
       refine⟨fid,caps,hf,?_⟩
       rw [<-z7i h3];exact h4 s
      exact .inl ⟨v,O,hto O,⟨rfl,fun s _=>hto s⟩,hK _ _ _ _ ⟨hH.1,fun s hs=>⟨hH.2.1 s hs,hto s⟩,hH.2.2⟩ h6⟩
     ·have hto:∀s,ACallsTo C fid (xs.map (AX.ev J)++caps) s v s->OpTo C (ev C J) s o.op v s:=by
       intro s hs
       unfold OpTo
       rw [h1]
       refine⟨fid,caps,hf,?_⟩
       rw [<-z7i h3];exact hs
      exact .inl ⟨v,O,hto O h4,⟨rfl,fun s hs=>hto s (h5 s (hH.1 s hs))⟩,hK ⟨H.pre,fun s=>H.rds s/\ ACallsTo C fid (xs.map (AX.ev J)++caps) s v s,H.rd2⟩ _ _ _ ⟨hH.1,fun s hs=>⟨hH.2.1 s hs.1,hto s hs.2⟩,hH.2.2⟩ h6⟩
    ·exact hw.elim
 all_goals exact nocall rfl
theorem zix{need:Nd}{o:Oper}{i:AIns}(h:cIns C ops need o=some i){l:List AIns}{K:Env->Store->Prop}{K':Hist->Env->Store->Prop}(hK:∀H H' J O,HR H H'->z10 C K l H J O->K' H' J O)
  {H H':Hist} (hH:HR H H') {J:Env} {O:Store} (hw:z10 C K (i::l) H J O):z2l C ops need o K' H' J O:=zrt h (F:=z10 C K l) hK hH hw
def cOps(C:Ctx)(ops:Array Oper)(need:Nat->Nd):List Oper->Nat->Option (List AIns)
 | [],_=>some []
 |o::l,i=>(cIns C ops (need i) o).bind fun a=>(cOps C ops need l (i+1)).map (a:: ·)
theorem z92{C:Ctx}{ops:Array Oper}{need:Nat->Nd}{K:Env->Store->Prop}:∀(l:List Oper) (i:Nat) (as_:List AIns),(∀j,l[j]? =ops[i+j]?)->cOps C ops need l i=some as_->
  ∀H H' J O,HR H H'->z10 C K as_ H J O->z2r C ops need K (List.range' i l.length) H' J O
 | [],i,as_,_,h,H,H',J,O,hH,hw=>by simp only [cOps,Option.some.injEq]at h;subst h;exact hw
 |o::l,i,as_,hl,h,H,H',J,O,hH,hw=>by
  simp only [cOps,Option.bind_eq_some_iff,Option.map_eq_some_iff]at h
  obtain⟨a,ha,as',has,rfl⟩:=h
  have h0:ops[i]? =some o:=by have:=hl 0;simpa using this.symm
  simp only [List.length_cons,List.range'_succ,z2r,h0]
  refine zix ha (l:=as') (K:=K) (fun H H' J O hH hk=> ?_) hH hw
  refine z92 l (i+1) as' (fun j=> ?_) has H H' J O hH hk
  have:=hl (j+1)
  simp only [List.getElem?_cons_succ]at this
  rw [this];congr 1;omega
def late(C:Ctx)(ops:Array Oper)(nd:List Nd):List Nd:=
 let cl:=z39 [] ops.toList
 let ty (j:Nat):Option (Bool × TypeId):=match ops[j]? with|some p=>(match p.op with| .load t _=>some (false,t)| .store t _ _=>some (true,t)| _=>none)|none=>none
 let two (i:Nat):Bool:=nd.getD i .no==.ef && (match ty i with
  |some (true,t)=>(List.range i).any fun x=>nd.getD x .no==.rd && ty x==some (false,t) && ahead_ cl x i
  | _=>false)
 let ss:=(List.range ops.size).filter two
 if ss.isEmpty then nd else
  (List.range ops.size).map fun i=>match nd.getD i .no with
   | .ef=>if ss.contains i then .ef2 else .ef
   | .rd=>if ss.any fun j=> !ahead_ cl i j && !ahead_ cl j i then .rd2 else .rd
   |n=>n
def zev(C:Ctx)(ops:Array Oper):List Nd:=
  let cl:=z39 [] ops.toList
  let mate (i j:Nat):Bool:=match ops[j]? with
    |some p=> !(j==i) && !opN C p.op && !ahead_ cl j i && !ahead_ cl i j
    |none=>false
  let rdr (j:Nat):Bool:=match ops[j]? with|some p=>opR p.op|none=>false
  (List.range ops.size).map fun i=>match ops[i]? with
    | some o => if opN C o.op then .no else
        let l:=(List.range ops.size).filter (mate i)
        if l.isEmpty then .no else if opR o.op then .rd else if l.all rdr then .ef else .same
    |none=> .no
def zew(C:Ctx)(ops:Array Oper):List Nd:=
  let cl:=z39 [] ops.toList
  let mate (i j:Nat):Bool:=match ops[j]? with
    |some p=> !(j==i) && !opN C p.op && !ahead_ cl j i && !ahead_ cl i j
    |none=>false
  let rdr (j:Nat):Bool:=match ops[j]? with|some p=>opR p.op|none=>false
  let rdc (j:Nat):Bool:=match ops[j]? with|some p=>opR p.op ||(z2g p.op).isSome|none=>false
  (List.range ops.size).map fun i=>match ops[i]? with
    | some o => if opN C o.op then .no else
        let l:=(List.range ops.size).filter (mate i)
        if l.isEmpty then .no else if opR o.op then .rd else if (z2g o.op).isSome && !l.all rdr then .pu else if l.all rdc then .ef else .same
    |none=> .no
def z96(n:Nat)(ops:Array Oper):Bool:=ops.all fun o=>match o.dst with|some d=>decide (d<n)|none=>true
theorem zdz(h:z96 n ops=true):∀o ∈ ops,∀d,o.dst=some d->d<n:=by
 intro o ho d hd
 unfold z96 at h
 rw [Array.all_eq_true_iff_forall_mem]at h
 have:=h o ho
 rw [hd]at this
 simpa using this
theorem zf5{C:Ctx}{ops:Array Oper}{need:Nat->Nd}{K:Env->Store->Prop}{Q:Exit->Act->World->Prop}{n:Nat}(hdst:∀o ∈ ops,∀d,o.dst=some d->d<n):
  ∀(L:List Nat) (H:Hist) (J:Env) (O:Store) (Z:Places) (a:Act) (w:World),z2r C ops need K L H J O->Rel C Z O w->EnvR Z w J a.tmps->a.tmps.size=n->
   (∀J' O' Z' a' w',K J' O'->Step Z w Z' w'->Rel C Z' O' w'->EnvR Z' w' J' a'.tmps->a'.defers=a.defers->a'.tmps.size=n->Q .normal a' w')->wpOps C.P ops Q L a w
 | [],_,J,O,Z,a,w,h,hR,hE,hn,hQ=>hQ J O Z a w h (Step.refl _ _) hR hE rfl hn
 |i::L,H,J,O,Z,a,w,h,hR,hE,hn,hQ=>by
  rw [wpOps_cons]
  simp only [z2r]at h
  cases ho:ops[i]? with
  |none=>rw [ho]at h;exact h.elim
  |some o=>
   rw [ho]at h
   have hmem:o ∈ ops:=by
    obtain⟨hi,rfl⟩:=Array.getElem?_eq_some_iff.1 ho
    exact Array.getElem_mem hi
   refine z79 ho (fun x hx=>by rw [hn];exact hdst o hmem x hx) hR hE h fun H' J' O' Z' a' w' hK hst hR' hE' hdf hsz=> ?_
   refine zf5 hdst L H' J' O' Z' a' w' hK hR' hE' (hsz.trans hn) fun J2 O2 Z2 a2 w2 k1 k2 k3 k4 k5 k6=> ?_
   exact hQ J2 O2 Z2 a2 w2 k1 (hst.trans k2) k3 k4 (k5.trans hdf) k6
def makes:Op->Bool
 | .alloc _=>true
 | .box _ _=>true
 | _=>false
def zhh(C:Ctx)(ops:Array Oper):List (Nat × Nat):=
  let cl:=z39 [] ops.toList
  let nd:=zev C ops
  ((List.range ops.size).flatMap fun i => ((List.range i).filter fun x => nd.getD x .no == .same && nd.getD i .no == .same && !ahead_ cl x i &&
      (match ops[x]?,ops[i]? with|some ox,some oi=>makes ox.op ||makes oi.op| _,_=>false)).map fun x=>(x,i))
def zeu(C:Ctx)(ops:Array Oper):List Nd:=match zhh C ops with
 | _::_::_=>zew C ops
 | _=>late C ops (zev C ops)
def twinP(C:Ctx)(ops:Array Oper):Option (Nat × Nat):=match zhh C ops with
 | [pq]=>some pq
 | _=>none
def za0(C:Ctx)(ops:Array Oper)(p q:Nat)(i:Nat):Nd:=if i=p \/i=q then .ef else(zev C ops).getD i .no
def zf3(C:Ctx)(ops:Array Oper)(p q:Nat):Bool:=
 let cl:=z39 [] ops.toList
 let need:=za0 C ops p q
 decide (p<q) && decide (q<ops.size) &&
 ((List.range ops.size).all fun i=>(List.range i).all fun x=>(decide (x=p) && decide (i=q)) ||ahead_ cl x i ||free2 C ops need x i) &&
 ((List.range ops.size).all fun y=> !(decide (p<y) && decide (y<q)) ||free2 C ops need q y) &&
 ((List.range ops.size).all fun y=>decide (y=p) ||decide (y=q) ||(match ops[y]? with|some o=>(z2g o.op).isNone|none=>false) ||ahead_ cl p y ||ahead_ cl q y)
def twinL(p q:Nat)(n:Nat):List Nat:=List.range' 0 p++q::p::(List.range' (p+1) (q-(p+1))++List.range' (q+1) (n-(q+1)))
def cSel(C:Ctx)(ops:Array Oper)(need:Nat->Nd):List Nat->Option (List AIns)
 | []=>some []
 |i::l=>(ops[i]?).bind fun o=>(cIns C ops (need i) o).bind fun a=>(cSel C ops need l).map (a:: ·)
theorem zdl{C:Ctx}{ops:Array Oper}{need:Nat->Nd}{K:Env->Store->Prop}:∀(l:List Nat) (as_:List AIns),cSel C ops need l=some as_->
  ∀H H' J O,HR H H'->z10 C K as_ H J O->z2r C ops need K l H' J O
 | [],as_,h,H,H',J,O,hH,hw=>by simp only [cSel,Option.some.injEq]at h;subst h;exact hw
 |i::l,as_,h,H,H',J,O,hH,hw=>by
  simp only [cSel,Option.bind_eq_some_iff,Option.map_eq_some_iff]at h
  obtain⟨o,h0,a,ha,as',has,rfl⟩:=h
  simp only [z2r,h0]
  exact zix ha (l:=as') (K:=K) (fun H H' J O hH hk=>zdl l as' has H H' J O hH hk) hH hw
def z93(C:Ctx)(ops:Array Oper)(p q:Nat):Option ACode:=
 if C.P.follows .mixedOrders=true/\ zf3 C ops p q=true/\ z56 ops=true then
  (cSel C ops (za0 C ops p q) (List.range' 0 ops.size)).bind fun a=>(cSel C ops (za0 C ops p q) (twinL p q ops.size)).map fun b=> .reg2 a b
 else none
def twinsP(C:Ctx)(ops:Array Oper):List (Nat × Nat):=
  let cl:=z39 [] ops.toList
  let nd:=zew C ops
  ((List.range ops.size).flatMap fun i => ((List.range i).filter fun x => nd.getD x .no == .same && nd.getD i .no == .same && !ahead_ cl x i &&
      (match ops[x]?,ops[i]? with|some ox,some oi=>makes ox.op ||makes oi.op| _,_=>false)).map fun x=>(x,i))
def twinPJ(C:Ctx)(ops:Array Oper):Option (Nat × Nat):=match zhh C ops with
 | _::_::_=>(match twinsP C ops with
  | [pq]=>some pq
  | _=>none)
 | _=>none
def za1(C:Ctx)(ops:Array Oper)(p q:Nat)(i:Nat):Nd:=if i=p \/i=q then .ef else(zew C ops).getD i .no
def zlh(C:Ctx)(ops:Array Oper)(p q:Nat):Bool:=
 let cl:=z39 [] ops.toList
 let need:=za1 C ops p q
 decide (p<q) && decide (q<ops.size) &&
 ((List.range ops.size).all fun i=>(List.range i).all fun x=>(decide (x=p) && decide (i=q)) ||ahead_ cl x i ||free2 C ops need x i) &&
 ((List.range ops.size).all fun y=> !(decide (p<y) && decide (y<q)) ||free2 C ops need q y) &&
 ((List.range ops.size).all fun y=>decide (y<p) ||decide (y=p) ||decide (y=q) ||(match ops[y]? with|some o=>(z2g o.op).isNone|none=>false) ||ahead_ cl p y ||ahead_ cl q y)
def markJ(p:Nat):AIns:=⟨some p,none,.pu,.stuck⟩
def zoz(p q:Nat)(n:Nat):List Nat:=q::p::(List.range' (p+1) (q-(p+1))++List.range' (q+1) (n-(q+1)))
def z94(C:Ctx)(ops:Array Oper)(p q:Nat):Option ACode:=
 if C.P.follows .mixedOrders=true/\ zlh C ops p q=true/\ z56 ops=true then
  (cSel C ops (za1 C ops p q) (List.range' 0 ops.size)).bind fun a=>(cSel C ops (za1 C ops p q) (zoz p q ops.size)).map fun b=> .reg2 a (markJ p::b)
 else none
theorem zb5{q:Nat}(h:z94 C ops p q=some ac):∃a b,ac=.reg2 a (markJ p::b)/\ C.P.follows .mixedOrders=true/\ zlh C ops p q=true/\ z56 ops=true ∧
  cSel C ops (za1 C ops p q) (List.range' 0 ops.size)=some a/\ cSel C ops (za1 C ops p q) (zoz p q ops.size)=some b:=by
 simp only [z94]at h
 split at h
 ·rename_i hok
  simp only [Option.bind_eq_some_iff,Option.map_eq_some_iff]at h
  obtain⟨a,h1,b,h2,rfl⟩:=h
  exact⟨a,b,rfl,hok.1,hok.2.1,hok.2.2,h1,h2⟩
 ·cases h
def z7g(C:Ctx)(ops:Array Oper):Option ACode:=
 let nd:=zeu C ops
 if C.P.follows .mixedOrders=true/\ zf2 C ops (fun i=>nd.getD i .no)=true/\ z56 ops=true then(cOps C ops (fun i=>nd.getD i .no) ops.toList 0).map .reg else none
def z1g(C:Ctx)(n:Nat):Code->Option ACode
  | .skip=>some .skip
  | .region _ ops draw => if z96 n ops = true then
      (match draw with
       |true=>(match twinP C ops with
         |some pq=>(match z93 C ops pq.1 pq.2 with
           |some c=>some c
           |none=>z7g C ops)
         |none=>(match twinPJ C ops with
           |some pq=>(match z94 C ops pq.1 pq.2 with
             |some c=>some c
             |none=>z7g C ops)
           |none=>z7g C ops))
       |false=>(cOps C ops (fun _=> .no) ops.toList 0).map .reg)else none
  | .seq a b=>(z1g C n a).bind fun a=>(z1g C n b).map fun b=> .seq a b
  | .cond c a b=>(cX C c).bind fun c=>(z1g C n a).bind fun a=>(z1g C n b).map fun b=> .cond c a b
  | .block id a=>(z1g C n a).map fun a=> .block id a
  | .loop a=>(z1g C n a).map .loop
  | .exit id=>some (.exit id)
  | .label _=>some .skip
  | .ret=>some .ret
  | .scope a=>(z1g C n a).map .scope
  | .rangeFunc g ps a b=>(cX C g).bind fun g=>(z1g C n a).bind fun a=>(z1g C n b).map fun b=> .rangef g ps.toList a b
  | _=>some .stuck
theorem zb1(h:z7g C ops=some ac):∃l,ac=.reg l/\ C.P.follows .mixedOrders=true/\ zf2 C ops (fun i=>(zeu C ops).getD i .no)=true/\ z56 ops=true/\ cOps C ops (fun i=>(zeu C ops).getD i .no) ops.toList 0=some l:=by
 simp only [z7g]at h
 split at h
 ·rename_i hok
  simp only [Option.map_eq_some_iff]at h
  obtain⟨l,h1,rfl⟩:=h
  exact⟨l,rfl,hok.1,hok.2.1,hok.2.2,h1⟩
 ·cases h
theorem zb6{q:Nat}(h:z93 C ops p q=some ac):∃a b,ac=.reg2 a b/\ C.P.follows .mixedOrders=true/\ zf3 C ops p q=true/\ z56 ops=true ∧
  cSel C ops (za0 C ops p q) (List.range' 0 ops.size)=some a/\ cSel C ops (za0 C ops p q) (twinL p q ops.size)=some b:=by
 simp only [z93]at h
 split at h
 ·rename_i hok
  simp only [Option.bind_eq_some_iff,Option.map_eq_some_iff]at h
  obtain⟨a,h1,b,h2,rfl⟩:=h
  exact⟨a,b,rfl,hok.1,hok.2.1,hok.2.2,h1,h2⟩
 ·cases h
theorem zaz{id:Nat}{draw:Bool}(h:z1g C n (.region id ops draw)=some ac):
  z96 n ops=true/\ ((draw=true/\ z7g C ops=some ac) \/(draw=true/\ ∃p q,z93 C ops p q=some ac \/z94 C ops p q=some ac) \/(draw=false/\ ∃l,ac=.reg l/\ cOps C ops (fun _=> .no) ops.toList 0=some l)):=by
 simp only [z1g]at h
 split at h
 ·rename_i hd
  refine⟨hd,?_⟩
  split at h
  ·split at h
   ·split at h
    ·rename_i hc
     exact .inr (.inl ⟨rfl,_,_,.inl (by rw [hc];exact h)⟩)
    ·exact .inl ⟨rfl,h⟩
   ·split at h
    ·split at h
     ·rename_i hc
      exact .inr (.inl ⟨rfl,_,_,.inr (by rw [hc];exact h)⟩)
     ·exact .inl ⟨rfl,h⟩
    ·exact .inl ⟨rfl,h⟩
  ·simp only [Option.map_eq_some_iff]at h
   obtain⟨l,h1,rfl⟩:=h
   exact .inr (.inr ⟨rfl,l,rfl,h1⟩)
 ·cases h
theorem z5n{id:Nat}{draw:Bool}(h:z1g C n (.region id ops draw)=some ac):(∃l,ac=.reg l) \/ ∃a b,ac=.reg2 a b:=by
 rcases(zaz h).2 with⟨_,h⟩| ⟨_,p,q,h⟩| ⟨_,l,h,_⟩
 ·obtain⟨l,h,_⟩:=zb1 h;exact .inl ⟨l,h⟩
 ·rcases h with h|h
  ·obtain⟨a,b,h,_⟩:=zb6 h;exact .inr ⟨a,b,h⟩
  ·obtain⟨a,b,h,_⟩:=zb5 h;exact .inr ⟨a,_,h⟩
 ·exact .inl ⟨l,h⟩
def AExit.out:AExit->Exit
 | .normal=> .normal
 | .exit id=> .exit id
 | .ret=> .ret
end
section
structure DC where
 O:Store
 n:Nat
 pre:Nat->Nat
 fz:Nat->Bool
mutual
def DR(D:DC):AV->AV->Prop
  | .any,_=>True
  | .undef,a=>a=.undef
  | .bool b,a=>a=.bool b
  | .int k n,a=>a=.int k n
  | .str s,a=>a=.str s
  | .nilp,a=>a=.nilp
  | .ptr r i off,a=>r<D.n/\ a=.ptr (D.pre r) i off
  | .vp cs, a => (∃ cs0, a = .vp cs0 /\ DRs D cs cs0) ∨
      ∃r i off o e,a=.ptr r i off/\ D.fz r=true/\ D.O[r]? =some (some o)/\ o[i]? =some e/\ off<=e.length/\ DRs D cs (e.drop off)
  | .nilsl,a=>a=.nilsl
  | .vsl esz es ex, a => (∃ es0 ex0, a = .vsl esz es0 ex0 /\ (ex = true -> ex0 = true) /\ DRss D es es0) ∨
      (∃r off lim o,a=.sl r off es.length lim esz/\ D.fz r=true/\ D.O[r]? =some (some o)/\ off+es.length<=o.length/\ (ex=true->lim=some es.length)/\ DRss D es ((o.drop off).take es.length)) ∨
      ∃r i off cap o cs es1 rest,a=.asl r i off es.length cap esz/\ D.fz r=true/\ D.O[r]? =some (some o)/\ o[i]? =some cs/\ off<=cs.length/\ cs.drop off=es1.flatten++rest/\ (∀e ∈ es1,e.length=esz)/\ es.length ≠ 0/\ (ex=true->cap=es.length)/\ DRss D es es1
  | .sl r off len lim esz,a=>r<D.n/\ a=.sl (D.pre r) off len lim esz
  | .asl r i off len cap esz,a=>r<D.n/\ a=.asl (D.pre r) i off len cap esz
  | .fn f caps,a=>∃caps0,a=.fn f caps0/\ DRs D caps caps0
  | .nilfn,a=>a=.nilfn
  | .agg cs,a=>∃cs0,a=.agg cs0/\ DRs D cs cs0
  | .tup vs,a=>∃vs0,a=.tup vs0/\ DRs D vs vs0
  | .bld r,a=>r<D.n/\ a=.bld (D.pre r)
  | .bnil,a=>a=.bnil
  | .bsl r len,a=>r<D.n/\ a=.bsl (D.pre r) len
def DRs(D:DC):List AV->List AV->Prop
 | [],as_=>as_=[]
 |x::xs,as_=>∃a as',as_=a::as'/\ DR D x a/\ DRs D xs as'
def DRss(D:DC):List (List AV)->List (List AV)->Prop
 | [],es=>es=[]
 |x::xs,es=>∃e es',es=e::es'/\ DRs D x e/\ DRss D xs es'
end
mutual
def RL(k:Nat):AV->Prop
 | .ptr r _ _=>r<k
 | .sl r _ _ _ _=>r<k
 | .asl r _ _ _ _ _=>r<k
 | .bld r=>r<k
 | .bsl r _=>r<k
 | .vp cs=>RLs k cs
 | .vsl _ es _=>RLss k es
 | .fn _ caps=>RLs k caps
 | .agg cs=>RLs k cs
 | .tup vs=>RLs k vs
 | _=>True
def RLs(k:Nat):List AV->Prop
 | []=>True
 |a::as_=>RL k a/\ RLs k as_
def RLss(k:Nat):List (List AV)->Prop
 | []=>True
 |e::es=>RLs k e/\ RLss k es
end
theorem RLs_iff{k:Nat}:∀{l:List AV},RLs k l ↔ ∀a ∈ l,RL k a
 | []=>by simp [RLs]
 |a::l=>by simp [RLs,RLs_iff (l:=l)]
theorem zht{k:Nat}:∀{l:List (List AV)},RLss k l ↔ ∀e ∈ l,RLs k e
 | []=>by simp [RLss]
 |a::l=>by simp [RLss,zht (l:=l)]
mutual
theorem DR.refl{D:DC}{k:Nat}(hk:∀r,r<k->r<D.n/\ D.pre r=r):∀(a:AV),RL k a->DR D a a
 | .any,_=>by simp only [DR]
 | .undef,_=>by simp only [DR]
 | .bool _,_=>by simp only [DR]
 | .int _ _,_=>by simp only [DR]
 | .str _,_=>by simp only [DR]
 | .nilp,_=>by simp only [DR]
 | .ptr r i off,h=>by simp only [RL]at h;simp only [DR];obtain⟨h1,h2⟩:=hk r h;exact⟨h1,by rw [h2]⟩
 | .vp cs,h=>by simp only [RL]at h;simp only [DR];exact .inl ⟨cs,rfl,DRs.refl hk cs h⟩
 | .nilsl,_=>by simp only [DR]
 | .vsl esz es ex,h=>by simp only [RL]at h;simp only [DR];exact .inl ⟨es,ex,rfl,fun h=>h,DRss.refl hk es h⟩
 | .sl r off len lim esz,h=>by simp only [RL]at h;simp only [DR];obtain⟨h1,h2⟩:=hk r h;exact⟨h1,by rw [h2]⟩
 | .asl r i off len cap esz,h=>by simp only [RL]at h;simp only [DR];obtain⟨h1,h2⟩:=hk r h;exact⟨h1,by rw [h2]⟩
 | .fn f caps,h=>by simp only [RL]at h;simp only [DR];exact⟨caps,rfl,DRs.refl hk caps h⟩
 | .nilfn,_=>by simp only [DR]
 | .agg cs,h=>by simp only [RL]at h;simp only [DR];exact⟨cs,rfl,DRs.refl hk cs h⟩
 | .tup vs,h=>by simp only [RL]at h;simp only [DR];exact⟨vs,rfl,DRs.refl hk vs h⟩
 | .bld r,h=>by simp only [RL]at h;simp only [DR];obtain⟨h1,h2⟩:=hk r h;exact⟨h1,by rw [h2]⟩
 | .bnil,_=>by simp only [DR]
 | .bsl r len,h=>by simp only [RL]at h;simp only [DR];obtain⟨h1,h2⟩:=hk r h;exact⟨h1,by rw [h2]⟩
theorem DRs.refl{D:DC}{k:Nat}(hk:∀r,r<k->r<D.n/\ D.pre r=r):∀(l:List AV),RLs k l->DRs D l l
 | [],_=>by simp only [DRs]
 |a::l,h=>by simp only [RLs]at h;simp only [DRs];exact⟨a,l,rfl,DR.refl hk a h.1,DRs.refl hk l h.2⟩
theorem DRss.refl{D:DC}{k:Nat}(hk:∀r,r<k->r<D.n/\ D.pre r=r):∀(l:List (List AV)),RLss k l->DRss D l l
 | [],_=>by simp only [DRss]
 |a::l,h=>by simp only [RLss]at h;simp only [DRss];exact⟨a,l,rfl,DRs.refl hk a h.1,DRss.refl hk l h.2⟩
end
mutual
theorem VR.rl{Z:Places}{w:World}:∀(a:AV) (v:Value),VR Z w a v->RL Z.length a
 | .any,_,_=>by simp only [RL]
 | .undef,_,_=>by simp only [RL]
 | .bool _,_,_=>by simp only [RL]
 | .int _ _,_,_=>by simp only [RL]
 | .str _,_,_=>by simp only [RL]
 | .nilp,_,_=>by simp only [RL]
 | .ptr r i off,v,h=>by
  simp only [VR]at h;simp only [RL]
  obtain⟨fl,pl,h1,_⟩:=h
  exact(List.getElem?_eq_some_iff.1 h1).1
 | .vp cs,v,h=>by
  simp only [VR]at h;simp only [RL]
  obtain⟨b,o,vals,_,_,_,h4⟩:=h
  exact VRs.rl cs vals h4
 | .nilsl,_,_=>by simp only [RL]
 | .vsl esz es ex,v,h=>by
  simp only [VR]at h;simp only [RL]
  rcases h with⟨rfl,_⟩| ⟨b,o,cap,vals,_,_,_,_,_,_,h7⟩
  ·simp only [RLss]
  ·exact VRss.rl es vals h7
 | .sl r off len lim esz,v,h=>by
  simp only [VR]at h;simp only [RL]
  obtain⟨fl,pl,_,_,_,h1,_⟩:=h
  exact(List.getElem?_eq_some_iff.1 h1).1
 | .asl r i off len cap esz,v,h=>by
  simp only [VR]at h;simp only [RL]
  obtain⟨fl,pl,_,_,h1,_⟩:=h
  exact(List.getElem?_eq_some_iff.1 h1).1
 | .fn f caps,v,h=>by
  simp only [VR]at h;simp only [RL]
  obtain⟨vs,_,h2⟩:=h
  exact VRt.rl caps vs h2
 | .nilfn,_,_=>by simp only [RL]
 | .agg cs,v,h=>by
  simp only [VR]at h;simp only [RL]
  obtain⟨vs,_,h2⟩:=h
  exact VRs.rl cs vs h2
 | .tup cs,v,h=>by
  simp only [VR]at h;simp only [RL]
  obtain⟨vs,_,h2⟩:=h
  exact VRt.rl cs vs h2
 | .bld r,v,h=>by
  simp only [VR]at h;simp only [RL]
  obtain⟨fl,pl,h1,_⟩:=h
  exact(List.getElem?_eq_some_iff.1 h1).1
 | .bnil,_,_=>by simp only [RL]
 | .bsl r len,v,h=>by
  simp only [VR]at h;simp only [RL]
  obtain⟨fl,pl,cap,h1,_⟩:=h
  exact(List.getElem?_eq_some_iff.1 h1).1
theorem VRs.rl{Z:Places}{w:World}:∀(l:List AV) (vs:List Value),VRs Z w l vs->RLs Z.length l
 | [],_,_=>by simp only [RLs]
 |a::l,vs,h=>by
  simp only [VRs]at h;simp only [RLs]
  obtain⟨v,vs',_,h2,h3⟩:=h
  exact⟨VR.rl a v h2.1,VRs.rl l vs' h3⟩
theorem VRt.rl{Z:Places}{w:World}:∀(l:List AV) (vs:List Value),VRt Z w l vs->RLs Z.length l
 | [],_,_=>by simp only [RLs]
 |a::l,vs,h=>by
  simp only [VRt]at h;simp only [RLs]
  obtain⟨v,vs',_,h2,h3⟩:=h
  exact⟨VR.rl a v h2,VRt.rl l vs' h3⟩
theorem VRss.rl{Z:Places}{w:World}:∀(l:List (List AV)) (vs:List Value),VRss Z w l vs->RLss Z.length l
 | [],_,_=>by simp only [RLss]
 |e::l,vs,h=>by
  simp only [VRss]at h;simp only [RLss]
  obtain⟨v1,v2,_,h2,h3⟩:=h
  exact⟨VRs.rl e v1 h2,VRss.rl l v2 h3⟩
end
theorem zpx{k:Nat}{l:List (List AV)}:RLss k l ↔ RLs k l.flatten:=by
 rw [zht,RLs_iff]
 constructor
 ·intro h a ha
  obtain⟨e,he,hae⟩:=List.mem_flatten.1 ha
  exact RLs_iff.1 (h e he) a hae
 ·intro h e he
  exact RLs_iff.2 fun a ha=>h a (List.mem_flatten.2 ⟨e,he,ha⟩)
def Wf(k:Nat)(O:Store):Prop:=∀(r:Nat) (o:AObj),O[r]? =some (some o)->RLss k o
theorem Rel.wf{C:Ctx}{Z:Places}{O:Store}{w:World}(h:Rel C Z O w):Wf O.length O:=by
 intro r o hr
 obtain⟨pl,h1,h2⟩:=h.alive r o hr
 obtain⟨c,ty,fz,pre,mid,post,_,_,_,_,h5,_⟩:=h2.ex
 rw [zpx,<-h.len]
 exact VRs.rl _ _ h5
theorem ObjOK.seg{Z:Places}{w:World}{pl:Place}{o:AObj}(h:ObjOK Z w pl o){A B E:List AV}(he:o.flatten=A++B++E):∃vals,Seg w pl.b (pl.base+A.length) vals/\ VRs Z w B vals:=by
 obtain⟨c,ty,fz,pre,mid,post,h1,h2,h3,h4,h5,_⟩:=h.ex
 rw [he]at h5
 obtain⟨m12,m3,rfl,q1,q2⟩:=h5.append_inv
 obtain⟨m1,m2,rfl,q3,q4⟩:=q1.append_inv
 exact⟨m2,⟨c,ty,fz,pre++m1,m3++post,h1,by simp [h2,List.append_assoc],by rw [List.length_append,h3,q3.length]⟩,q4⟩
theorem ObjOK.none_at{Z:Places}{w:World}{pl:Place}{o:AObj}(h:ObjOK Z w pl o){k:Nat}(hk:k<=pl.tot):Seg w pl.b k []:=by
 obtain⟨c,ty,fz,pre,mid,post,h1,h2,h3,h4,h5,_⟩:=h.ex
 exact⟨c,ty,fz,c.toList.take k,c.toList.drop k,h1,by simp,by simp [h4,hk]⟩
structure DSnd(D:DC)(Z Z':Places)(w:World):Prop where
 ref:∀(r:Nat) (fl:Bool) (pl:Place),r<D.n->Z[D.pre r]? =some (fl,pl)->∃fl',Z'[r]? =some (fl',pl)
 imm:∀b,Imm Z w b->Imm Z' w b
 fz:∀(r:Nat) (pl:Place),D.fz r=true->Z[r]? =some (true,pl)->∀(r':Nat) (pl':Place),Z'[r']? =some (true,pl')->pl'.b ≠ pl.b
mutual
theorem DR.sound{C:Ctx}{D:DC}{Z Z':Places}{w:World}(hR:Rel C Z D.O w)(hs:DSnd D Z Z' w):∀(x a:AV) (v:Value),DR D x a->VR Z w a v->VR Z' w x v
 | .any,_,_,_,_=>by simp only [VR]
 | .undef,a,v,h,hv=>by simp only [DR]at h;subst h;simpa only [VR]using hv
 | .bool _,a,v,h,hv=>by simp only [DR]at h;subst h;simpa only [VR]using hv
 | .int _ _,a,v,h,hv=>by simp only [DR]at h;subst h;simpa only [VR]using hv
 | .str _,a,v,h,hv=>by simp only [DR]at h;subst h;simpa only [VR]using hv
 | .nilp,a,v,h,hv=>by simp only [DR]at h;subst h;simpa only [VR]using hv
 | .ptr r i off,a,v,h,hv=>by
  simp only [DR]at h
  obtain⟨h1,rfl⟩:=h
  simp only [VR]at hv ⊢
  obtain⟨fl,pl,h2,h3⟩:=hv
  obtain⟨fl',h4⟩:=hs.ref r fl pl h1 h2
  exact⟨fl',pl,h4,h3⟩
 | .vp cs,a,v,h,hv=>by
  simp only [DR]at h
  rcases h with⟨cs0,rfl,h⟩| ⟨r,i,off,o,e,rfl,h1,h2,h3,h4,h5⟩
  ·simp only [VR]at hv ⊢
   obtain⟨b,o,vals,k1,k2,k3,k4⟩:=hv
   exact⟨b,o,vals,k1,hs.imm b k2,k3,DRs.sound hR hs cs cs0 vals h k4⟩
  ·simp only [VR]at hv ⊢
   obtain⟨fl,pl,k1,rfl⟩:=hv
   obtain⟨pl',k2,k3⟩:=hR.alive r o h2
   rw [k1]at k2;cases k2
   obtain⟨hi,hei⟩:=List.getElem?_eq_some_iff.1 h3
   have hfl:o.flatten=((o.take i).flatten++e.take off)++e.drop off++(o.drop (i+1)).flatten:=by
    conv=>lhs;rw [<-List.take_append_drop i o,List.drop_eq_getElem_cons hi,hei]
    simp [List.append_assoc]
   obtain⟨vals,q1,q2⟩:=k3.seg hfl
   have hlen:((o.take i).flatten++e.take off).length=i*pl.esz+off:=by
    rw [List.length_append,z29 (k:=pl.esz) (fun e h=>k3.esz e (List.mem_of_mem_take h)),List.length_take,List.length_take,Nat.min_eq_left (by omega),Nat.min_eq_left (by omega)]
   rw [hlen]at q1
   exact⟨pl.b,pl.base+(i*pl.esz+off),vals,by rw [Nat.add_assoc],⟨k3.lt,hs.fz r pl h1 k1⟩,q1,DRs.sound hR hs cs _ vals h5 q2⟩
 | .nilsl,a,v,h,hv=>by simp only [DR]at h;subst h;simpa only [VR]using hv
 | .vsl esz es ex,a,v,h,hv=>by
  simp only [DR]at h
  rcases h with⟨es0,ex0,rfl,hex,h⟩| ⟨r,off,lim,o,rfl,h1,h2,h3,h4,h5⟩| ⟨r,i,off,cap0,o,cs,es1,rest,rfl,h1,h2,h3,h4,h5,h6,h7,h8,h9⟩
  ·simp only [VR]at hv ⊢
   rcases hv with⟨rfl,hv⟩| ⟨b,o,cap,vals,k1,k2,k3,k4,k5,k6,k7⟩
   ·refine .inl ⟨?_,hv⟩
    cases es with
    |nil=>rfl
    |cons e es=>simp [DRss]at h
   obtain⟨q1,q2⟩:=DRss.sound hR hs es es0 vals h k7
   exact .inr ⟨b,o,cap,vals,by rw [q2.1];exact k1,by rw [q2.1];exact k2,fun e=>by rw [q2.1];exact k3 (hex e),hs.imm b k4,k5,q2.2 esz k6,q1⟩
  ·simp only [VR]at hv ⊢
   obtain⟨fl,pl,b,o_,cap,k1,k2,rfl,k3⟩:=hv
   obtain⟨pl',k4,k5⟩:=hR.alive r o h2
   rw [k1]at k4;cases k4
   have hbb:=k3.blk
   subst hbb
   have hfl:o.flatten=(o.take off).flatten++((o.drop off).take es.length).flatten++((o.drop off).drop es.length).flatten:=by
    conv=>lhs;rw [<-List.take_append_drop off o,<-List.take_append_drop es.length (o.drop off)]
    rw [List.flatten_append,List.flatten_append,List.append_assoc]
   obtain⟨vals,q1,q2⟩:=k5.seg hfl
   have hlen:((o.take off).flatten).length=off*pl.esz:=by
    rw [z29 (k:=pl.esz) (fun e h=>k5.esz e (List.mem_of_mem_take h)),List.length_take,Nat.min_eq_left (by omega)]
   rw [hlen]at q1
   obtain⟨q3,q4⟩:=DRss.sound hR hs es _ vals h5 (VRss.flat.2 q2)
   have hseg:Seg w pl.b o_ vals:=by
    by_cases hc:cap=0
    ·have:=k3.le
     have hz:es=[]:=List.eq_nil_of_length_eq_zero (by omega)
     subst hz
     simp only [VRss]at q3
     subst q3
     exact k5.none_at k3.ole
    ·rw [(k3.at_ hc).2];exact q1
   right
   refine⟨pl.b,o_,cap,vals,rfl,k3.le,fun e=>k3.lim_ _ (h4 e),⟨k5.lt,hs.fz r pl h1 k1⟩,hseg,q4.2 esz ?_,q3⟩
   intro e he
   rw [<-k2]
   exact k5.esz e (List.mem_of_mem_drop (List.mem_of_mem_take he))
  ·simp only [VR]at hv ⊢
   obtain⟨fl,pl,b,o_,k1,rfl,k3,k6⟩:=hv
   obtain⟨pl',k4,k5⟩:=hR.alive r o h2
   rw [k1]at k4;cases k4
   obtain⟨rfl,rfl⟩:=k6 (by omega)
   obtain⟨hi,hei⟩:=List.getElem?_eq_some_iff.1 h3
   have hfl:o.flatten=((o.take i).flatten++cs.take off)++es1.flatten++(rest++(o.drop (i+1)).flatten):=by
    conv=>lhs;rw [<-List.take_append_drop i o,List.drop_eq_getElem_cons hi,hei]
    have e2:cs=cs.take off++(es1.flatten++rest):=by rw [<-h5,List.take_append_drop]
    rw [List.flatten_append,List.flatten_cons]
    conv=>lhs;rw [e2]
    simp only [List.append_assoc]
   obtain⟨vals,q1,q2⟩:=k5.seg hfl
   have hlen:((o.take i).flatten++cs.take off).length=i*pl.esz+off:=by
    rw [List.length_append,z29 (k:=pl.esz) (fun e h=>k5.esz e (List.mem_of_mem_take h)),List.length_take,List.length_take,Nat.min_eq_left (by omega),Nat.min_eq_left (by omega)]
   rw [hlen]at q1
   obtain⟨q3,q4⟩:=DRss.sound hR hs es _ vals h9 (VRss.flat.2 q2)
   right
   exact⟨pl.b,pl.base+(i*pl.esz+off),cap0,vals,by rw [Nat.add_assoc],k3,h8,⟨k5.lt,hs.fz r pl h1 k1⟩,q1,q4.2 esz h6,q3⟩
 | .sl r off len lim esz,a,v,h,hv=>by
  simp only [DR]at h
  obtain⟨h1,rfl⟩:=h
  simp only [VR]at hv ⊢
  obtain⟨fl,pl,b,o,cap,h2,h3⟩:=hv
  obtain⟨fl',h4⟩:=hs.ref r fl pl h1 h2
  exact⟨fl',pl,b,o,cap,h4,h3⟩
 | .asl r i off len cap esz,a,v,h,hv=>by
  simp only [DR]at h
  obtain⟨h1,rfl⟩:=h
  simp only [VR]at hv ⊢
  obtain⟨fl,pl,b,o,h2,h3⟩:=hv
  obtain⟨fl',h4⟩:=hs.ref r fl pl h1 h2
  exact⟨fl',pl,b,o,h4,h3⟩
 | .fn f caps,a,v,h,hv=>by
  simp only [DR]at h
  obtain⟨caps0,rfl,h⟩:=h
  simp only [VR]at hv ⊢
  obtain⟨vs,h1,h2⟩:=hv
  exact⟨vs,h1,DRs.soundt hR hs caps caps0 vs h h2⟩
 | .nilfn,a,v,h,hv=>by simp only [DR]at h;subst h;simpa only [VR]using hv
 | .agg cs,a,v,h,hv=>by
  simp only [DR]at h
  obtain⟨cs0,rfl,h⟩:=h
  simp only [VR]at hv ⊢
  obtain⟨vs,h1,h2⟩:=hv
  exact⟨vs,h1,DRs.sound hR hs cs cs0 vs h h2⟩
 | .tup cs,a,v,h,hv=>by
  simp only [DR]at h
  obtain⟨cs0,rfl,h⟩:=h
  simp only [VR]at hv ⊢
  obtain⟨vs,h1,h2⟩:=hv
  exact⟨vs,h1,DRs.soundt hR hs cs cs0 vs h h2⟩
 | .bld r,a,v,h,hv=>by
  simp only [DR]at h
  obtain⟨h1,rfl⟩:=h
  simp only [VR]at hv ⊢
  obtain⟨fl,pl,h2,h3⟩:=hv
  obtain⟨fl',h4⟩:=hs.ref r fl pl h1 h2
  exact⟨fl',pl,h4,h3⟩
 | .bnil,a,v,h,hv=>by simp only [DR]at h;subst h;simpa only [VR]using hv
 | .bsl r len,a,v,h,hv=>by
  simp only [DR]at h
  obtain⟨h1,rfl⟩:=h
  simp only [VR]at hv ⊢
  obtain⟨fl,pl,cap,h2,h3⟩:=hv
  obtain⟨fl',h4⟩:=hs.ref r fl pl h1 h2
  exact⟨fl',pl,cap,h4,h3⟩
theorem DRs.sound{C:Ctx}{D:DC}{Z Z':Places}{w:World}(hR:Rel C Z D.O w)(hs:DSnd D Z Z' w):∀(xs as_:List AV) (vs:List Value),DRs D xs as_->VRs Z w as_ vs->VRs Z' w xs vs
 | [],as_,vs,h,hv=>by simp only [DRs]at h;subst h;simpa only [VRs]using hv
 |x::xs,as_,vs,h,hv=>by
  simp only [DRs]at h
  obtain⟨a,as',rfl,h1,h2⟩:=h
  simp only [VRs]at hv ⊢
  obtain⟨v,vs',k1,k2,k3⟩:=hv
  exact⟨v,vs',k1,⟨DR.sound hR hs x a v h1 k2.1,k2.2⟩,DRs.sound hR hs xs as' vs' h2 k3⟩
theorem DRs.soundt{C:Ctx}{D:DC}{Z Z':Places}{w:World}(hR:Rel C Z D.O w)(hs:DSnd D Z Z' w):∀(xs as_:List AV) (vs:List Value),DRs D xs as_->VRt Z w as_ vs->VRt Z' w xs vs
 | [],as_,vs,h,hv=>by simp only [DRs]at h;subst h;simpa only [VRt]using hv
 |x::xs,as_,vs,h,hv=>by
  simp only [DRs]at h
  obtain⟨a,as',rfl,h1,h2⟩:=h
  simp only [VRt]at hv ⊢
  obtain⟨v,vs',k1,k2,k3⟩:=hv
  exact⟨v,vs',k1,DR.sound hR hs x a v h1 k2,DRs.soundt hR hs xs as' vs' h2 k3⟩
theorem DRss.sound{C:Ctx}{D:DC}{Z Z':Places}{w:World}(hR:Rel C Z D.O w)(hs:DSnd D Z Z' w):∀(xs as_:List (List AV)) (vs:List Value),DRss D xs as_->VRss Z w as_ vs->
  VRss Z' w xs vs/\ xs.length=as_.length/\ ∀k,(∀e ∈ as_,e.length=k)->∀e ∈ xs,e.length=k
 | [],as_,vs,h,hv=>by
  simp only [DRss]at h;subst h
  exact⟨by simpa only [VRss]using hv,rfl,fun _ _ e he=>by simp at he⟩
 |x::xs,as_,vs,h,hv=>by
  simp only [DRss]at h
  obtain⟨a,as',rfl,h1,h2⟩:=h
  simp only [VRss]at hv ⊢
  obtain⟨v1,v2,k1,k2,k3⟩:=hv
  obtain⟨q1,q2,q3⟩:=DRss.sound hR hs xs as' v2 h2 k3
  have q4:=DRs.sound hR hs x a v1 h1 k2
  refine⟨⟨v1,v2,k1,q4,q1⟩,by simp [q2],fun k hk e he=> ?_⟩
  rcases List.mem_cons.1 he with rfl|he
  ·rw [q4.length,<-k2.length];exact hk a (by simp)
  ·exact q3 k (fun e he=>hk e (by simp [he])) e he
end
structure DownS(k:Nat)(D:DC)(O':Store):Prop where
 n:D.n=O'.length
 pin:∀r,r<k->r<O'.length/\ D.pre r=r
 lt:∀r,r<O'.length->D.pre r<D.O.length
 inj:∀r r',r<O'.length->r'<O'.length->D.pre r=D.pre r'->r=r'
 obj:∀(r:Nat) (o':AObj),O'[r]? =some (some o')->∃o,D.O[D.pre r]? =some (some o)/\ DRss D o' o
 fz:∀r,D.fz r=true->∀r',r'<O'.length->D.pre r'=r->O'[r']? =some none
def DownV(k:Nat)(v:AV)(O:Store)(v':AV)(O':Store):Prop:=∃D,D.O=O/\ DownS k D O'/\ DR D v' v
def Down(k:Nat)(J:Env)(O:Store)(J':Env)(O':Store):Prop:=∃D,D.O=O/\ DownS k D O'/\ ∀t,DR D (J' t) (J t)
def Glob(C:Ctx)(Z:Places)(w:World):Prop:=∀(g:Nat) (cs:List AV),C.gl g=some cs->VR Z w (.vp cs) (.pointer (some ⟨g,0,none⟩))
theorem DownS.sound{C:Ctx}{k:Nat}{D:DC}{O':Store}{Z0 Z:Places}{w0 w:World}(h:DownS k D O')(hR:Rel C Z D.O w)(hst:Step Z0 w0 Z w)(hgl:Glob C Z0 w0)(hk:Z0.length<=k):
  ∃Z',Step Z0 w0 Z' w/\ Rel C Z' O' w/\ ∀x a v,DR D x a->VR Z w a v->VR Z' w x v:=by
 let f:Nat->Bool × Place:=fun r=>((match O'[r]? with|some (some _)=>true| _=>false),(Z[D.pre r]?.getD (true,⟨0,0,0,0,0,0⟩)).2)
 let Z':Places:=(List.range O'.length).map f
 have hlen:Z'.length=O'.length:=by simp [Z']
 have hget:∀r,r<O'.length->Z'[r]? =some (f r):=fun r hr=>by simp [Z',hr]
 have hold:∀r,r<O'.length->∃fl pl,Z[D.pre r]? =some (fl,pl)/\ (f r).2=pl:=fun r hr=>by
  have h1:=h.lt r hr
  rw [<-hR.len]at h1
  refine⟨Z[D.pre r].1,Z[D.pre r].2,List.getElem?_eq_getElem h1,?_⟩
  simp only [f,List.getElem?_eq_getElem h1,Option.getD_some]
 have live:∀(r:Nat) (pl:Place),Z'[r]? =some (true,pl)->r<O'.length/\ (∃o',O'[r]? =some (some o'))/\ Z[D.pre r]? =some (true,pl):=by
  intro r pl hr
  have hl:r<O'.length:=by rw [<-hlen];exact(List.getElem?_eq_some_iff.1 hr).1
  rw [hget r hl]at hr
  simp only [Option.some.injEq]at hr
  obtain⟨fl,pl',h1,h2⟩:=hold r hl
  have hf1:(f r).1=true:=by rw [hr]
  have hf2:pl=pl':=by rw [<-h2,hr]
  subst hf2
  have ho:∃o',O'[r]? =some (some o'):=by
   simp only [f]at hf1
   split at hf1
   ·rename_i o' ho;exact⟨o',ho⟩
   ·cases hf1
  obtain⟨o',ho'⟩:=ho
  obtain⟨o,h3,h4⟩:=h.obj r o' ho'
  obtain⟨pl2,h5,h6⟩:=hR.alive _ o h3
  rw [h1]at h5;cases h5
  exact⟨hl,⟨o',ho'⟩,h1⟩
 have himm:∀b,Imm Z w b->Imm Z' w b:=fun b hb=>⟨hb.1,fun r pl hr e=>by
  obtain⟨_,_,h3⟩:=live r pl hr
  exact hb.2 _ pl h3 e⟩
 have hs:DSnd D Z Z' w:=by
  refine⟨fun r fl pl hr hg=> ?_,himm,fun r pl hfz hg r' pl' hg' e=> ?_⟩
  ·rw [h.n]at hr
   obtain⟨fl2,pl2,h1,h2⟩:=hold r hr
   rw [hg]at h1;cases h1
   exact⟨(f r).1,by rw [hget r hr,<-h2]⟩
  ·obtain⟨hl,⟨o',ho'⟩,h3⟩:=live r' pl' hg'
   have:=hR.inj _ _ pl' pl h3 hg e
   rw [h.fz r hfz r' hl this]at ho'
   cases ho'
 have key:=fun x a v=>DR.sound hR hs x a v
 have st:Step Z0 w0 Z' w:=by
  refine⟨fun r fl pl hr=> ?_,hst.size,hst.imm,fun r pl hr=> ?_,hst.os,hst.tape,hst.output⟩
  ·have hrk:r<k:=Nat.lt_of_lt_of_le (List.getElem?_eq_some_iff.1 hr).1 hk
   obtain⟨h1,h2⟩:=h.pin r hrk
   obtain⟨fl',h3⟩:=hst.keep r fl pl hr
   exact hs.ref r fl' pl (by rw [h.n];exact h1) (by rw [h2];exact h3)
  ·obtain⟨_,_,h3⟩:=live r pl hr
   exact hst.new _ pl h3
 refine⟨Z',st,⟨hlen,fun r o' hr=> ?_,fun r hr=> ?_,fun r r' pl pl' hr hr' e=> ?_,fun g cs hg=> ?_⟩,key⟩
 ·have hl:r<O'.length:=(List.getElem?_eq_some_iff.1 hr).1
  obtain⟨o,h1,h2⟩:=h.obj r o' hr
  obtain⟨pl,h3,h4⟩:=hR.alive _ o h1
  obtain⟨fl,pl2,h5,h6⟩:=hold r hl
  rw [h3]at h5;cases h5
  obtain⟨c,ty,fz,pre,mid,post,q1,q2,q3,q4,q5,q6⟩:=h4.ex
  obtain⟨k1,k2,k3⟩:=DRss.sound hR hs o' o mid h2 (VRss.flat.2 q5)
  refine⟨pl,?_,⟨by rw [k2];exact h4.len,k3 _ h4.esz,h4.tyk,c,ty,fz,pre,mid,post,q1,q2,q3,q4,VRss.flat.1 k1,q6⟩⟩
  rw [hget r hl]
  congr 1
  exact Prod.ext (by simp only [f,hr]) h6
 ·have hl:r<O'.length:=(List.getElem?_eq_some_iff.1 hr).1
  refine⟨(f r).2,?_⟩
  rw [hget r hl]
  congr 1
  exact Prod.ext (by simp only [f,hr]) rfl
 ·obtain⟨l1,_,h1⟩:=live r pl hr
  obtain⟨l2,_,h2⟩:=live r' pl' hr'
  exact h.inj r r' l1 l2 (hR.inj _ _ pl pl' h1 h2 e)
 ·exact(hgl g cs hg).mono st
theorem Down.sound{C:Ctx}{k:Nat}{J J':Env}{O O':Store}{Z0 Z:Places}{w0 w:World}{tmps:Array Value}(h:Down k J O J' O')(hR:Rel C Z O w)(hE:EnvR Z w J tmps)(hst:Step Z0 w0 Z w)(hgl:Glob C Z0 w0)(hk:Z0.length<=k):
  ∃Z',Step Z0 w0 Z' w/\ Rel C Z' O' w/\ EnvR Z' w J' tmps:=by
 obtain⟨D,rfl,h1,h2⟩:=h
 obtain⟨Z',k1,k2,k3⟩:=h1.sound hR hst hgl hk
 exact⟨Z',k1,k2,fun t=>k3 _ _ _ (h2 t) (hE t)⟩
theorem DownV.sound{C:Ctx}{k:Nat}{v v':AV}{cv:Value}{O O':Store}{Z0 Z:Places}{w0 w:World}(h:DownV k v O v' O')(hR:Rel C Z O w)(hv:VR Z w v cv)(hst:Step Z0 w0 Z w)(hgl:Glob C Z0 w0)(hk:Z0.length<=k):
  ∃Z',Step Z0 w0 Z' w/\ Rel C Z' O' w/\ VR Z' w v' cv:=by
 obtain⟨D,rfl,h1,h2⟩:=h
 obtain⟨Z',k1,k2,k3⟩:=h1.sound hR hst hgl hk
 exact⟨Z',k1,k2,k3 _ _ _ h2 hv⟩
end
section
def zW(C:Ctx)(n k:Nat)(ac:ACode)(Q:AExit->Env->Store->Prop)(J:Env)(O:Store):Prop:=
 ∀(c:Code),z1g C n c=some ac->∀(Z0:Places) (w0:World),Glob C Z0 w0->Z0.length=k->∀(Z:Places) (a:Act) (w:World),Step Z0 w0 Z w->Rel C Z O w->EnvR Z w J a.tmps->a.tmps.size=n->
  c.wp C.P (fun e a' w'=>∃ae J' O' Z',e=AExit.out ae/\ Q ae J' O'/\ Step Z0 w0 Z' w'/\ Rel C Z' O' w'/\ EnvR Z' w' J' a'.tmps/\ a'.defers=a.defers/\ a'.tmps.size=n) a w
def z4x(K:Env->Store->Prop)(Q:AExit->Env->Store->Prop):AExit->Env->Store->Prop
 | .normal=>K
 |e=>Q e
def blkQ(id:Nat)(Q:AExit->Env->Store->Prop):AExit->Env->Store->Prop
 | .exit i=>if i=id then Q .normal else Q (.exit i)
 |e=>Q e
section inv
variable {C:Ctx} {n:Nat} {c:Code}
theorem ziv(hc:z1g C n c=some .skip):c=.skip \/ ∃l,c=.label l:=by
 cases c
 case skip=>exact .inl rfl
 case label l=>exact .inr ⟨l,rfl⟩
 case region id ops draw=>rcases z5n hc with⟨_,h⟩| ⟨_,_,h⟩<;>cases h
 all_goals simp [z1g,Option.bind_eq_some_iff,Option.map_eq_some_iff]at hc
theorem zrl{id:Nat}(hc:z1g C n c=some (.exit id)):c=.exit id:=by
 cases c
 case exit i=>simp only [z1g,Option.some.injEq,ACode.exit.injEq]at hc;rw [hc]
 case region id ops draw=>rcases z5n hc with⟨_,h⟩| ⟨_,_,h⟩<;>cases h
 all_goals simp [z1g,Option.bind_eq_some_iff,Option.map_eq_some_iff]at hc
theorem zro(hc:z1g C n c=some .ret):c=.ret:=by
 cases c
 case ret=>rfl
 case region id ops draw=>rcases z5n hc with⟨_,h⟩| ⟨_,_,h⟩<;>cases h
 all_goals simp [z1g,Option.bind_eq_some_iff,Option.map_eq_some_iff]at hc
theorem ziu{x y:ACode}(hc:z1g C n c=some (.seq x y)):∃c1 c2,c=.seq c1 c2/\ z1g C n c1=some x/\ z1g C n c2=some y:=by
 cases c
 case seq a b=>
  simp only [z1g,Option.bind_eq_some_iff,Option.map_eq_some_iff,ACode.seq.injEq]at hc
  obtain⟨a',h1,b',h2,rfl,rfl⟩:=hc
  exact⟨_,_,rfl,h1,h2⟩
 case region id ops draw=>rcases z5n hc with⟨_,h⟩| ⟨_,_,h⟩<;>cases h
 all_goals simp [z1g,Option.bind_eq_some_iff,Option.map_eq_some_iff]at hc
theorem zrk{x:AX}{p q:ACode}(hc:z1g C n c=some (.cond x p q)):∃o c1 c2,c=.cond o c1 c2/\ cX C o=some x/\ z1g C n c1=some p/\ z1g C n c2=some q:=by
 cases c
 case cond o a b=>
  simp only [z1g,Option.bind_eq_some_iff,Option.map_eq_some_iff,ACode.cond.injEq]at hc
  obtain⟨o',h0,a',h1,b',h2,rfl,rfl,rfl⟩:=hc
  exact⟨_,_,_,rfl,h0,h1,h2⟩
 case region id ops draw=>rcases z5n hc with⟨_,h⟩| ⟨_,_,h⟩<;>cases h
 all_goals simp [z1g,Option.bind_eq_some_iff,Option.map_eq_some_iff]at hc
theorem zdh{id:Nat}{x:ACode}(hc:z1g C n c=some (.block id x)):∃c1,c=.block id c1/\ z1g C n c1=some x:=by
 cases c
 case block i a=>
  simp only [z1g,Option.map_eq_some_iff,ACode.block.injEq]at hc
  obtain⟨a',h1,rfl,rfl⟩:=hc
  exact⟨_,rfl,h1⟩
 case region id ops draw=>rcases z5n hc with⟨_,h⟩| ⟨_,_,h⟩<;>cases h
 all_goals simp [z1g,Option.bind_eq_some_iff,Option.map_eq_some_iff]at hc
theorem zrp{x:ACode}(hc:z1g C n c=some (.scope x)):∃c1,c=.scope c1/\ z1g C n c1=some x:=by
 cases c
 case scope a=>
  simp only [z1g,Option.map_eq_some_iff,ACode.scope.injEq]at hc
  obtain⟨a',h1,rfl⟩:=hc
  exact⟨_,rfl,h1⟩
 case region id ops draw=>rcases z5n hc with⟨_,h⟩| ⟨_,_,h⟩<;>cases h
 all_goals simp [z1g,Option.bind_eq_some_iff,Option.map_eq_some_iff]at hc
theorem zrm{x:ACode}(hc:z1g C n c=some (.loop x)):∃c1,c=.loop c1/\ z1g C n c1=some x:=by
 cases c
 case loop a=>
  simp only [z1g,Option.map_eq_some_iff,ACode.loop.injEq]at hc
  obtain⟨a',h1,rfl⟩:=hc
  exact⟨_,rfl,h1⟩
 case region id ops draw=>rcases z5n hc with⟨_,h⟩| ⟨_,_,h⟩<;>cases h
 all_goals simp [z1g,Option.bind_eq_some_iff,Option.map_eq_some_iff]at hc
theorem zit{l:List AIns}(hc:z1g C n c=some (.reg l)):∃id os draw,c=.region id os draw:=by
 cases c
 case region id ops draw=>exact⟨_,_,_,rfl⟩
 all_goals simp [z1g,Option.bind_eq_some_iff,Option.map_eq_some_iff]at hc
end inv
section
variable {C:Ctx} {n k:Nat} {Q:AExit->Env->Store->Prop} {J:Env} {O:Store}
theorem zk_(h:Q .normal J O):zW C n k .skip Q J O:=by
 intro c hc Z0 w0 hgl hk Z a w hst hR hE hn
 have:=ziv hc
 rcases this with rfl| ⟨l,rfl⟩
 ·exact wp_skip ⟨.normal,J,O,Z,rfl,h,hst,hR,hE,rfl,hn⟩
 ·exact wp_label ⟨.normal,J,O,Z,rfl,h,hst,hR,hE,rfl,hn⟩
theorem ze_{id:Nat}(h:Q (.exit id) J O):zW C n k (.exit id) Q J O:=by
 intro c hc Z0 w0 hgl hk Z a w hst hR hE hn
 have:=zrl hc
 subst this
 exact wp_exit ⟨.exit id,J,O,Z,rfl,h,hst,hR,hE,rfl,hn⟩
theorem zq_(h:Q .ret J O):zW C n k .ret Q J O:=by
 intro c hc Z0 w0 hgl hk Z a w hst hR hE hn
 have:=zro hc
 subst this
 exact wp_ret ⟨.ret,J,O,Z,rfl,h,hst,hR,hE,rfl,hn⟩
theorem zW.mono{Q':AExit->Env->Store->Prop}(h:zW C n k ac Q J O)(hq:∀e J O,Q e J O->Q' e J O):zW C n k ac Q' J O:=by
 intro c hc Z0 w0 hgl hk Z a w hst hR hE hn
 refine wp_mono (h c hc Z0 w0 hgl hk Z a w hst hR hE hn) ?_
 rintro e a' w' ⟨ae,J',O',Z',h1,h2,h3⟩
 exact⟨ae,J',O',Z',h1,hq _ _ _ h2,h3⟩
theorem zs_{x y:ACode}(h:zW C n k x (z4x (zW C n k y Q) Q) J O):zW C n k (.seq x y) Q J O:=by
 intro c hc Z0 w0 hgl hk Z a w hst hR hE hn
 have:=ziu hc
 obtain⟨c1,c2,rfl,h1,h2⟩:=this
 refine wp_seq (wp_mono (h c1 h1 Z0 w0 hgl hk Z a w hst hR hE hn) ?_)
 rintro e a' w' ⟨ae,J',O',Z',rfl,hq,q1,q2,q3,q4,q5⟩
 cases ae with
 |normal=>
  refine wp_mono (hq c2 h2 Z0 w0 hgl hk Z' a' w' q1 q2 q3 q5) ?_
  rintro e a2 w2 ⟨ae,J2,O2,Z2,k1,k2,k3,k4,k5,k6,k7⟩
  exact⟨ae,J2,O2,Z2,k1,k2,k3,k4,k5,k6.trans q4,k7⟩
 |exit id=>exact⟨_,J',O',Z',rfl,hq,q1,q2,q3,q4,q5⟩
 |ret=>exact⟨_,J',O',Z',rfl,hq,q1,q2,q3,q4,q5⟩
theorem zW.cond{x:AX}{p q:ACode}{t:Bool}(hx:x.ev J=.bool t)(h1:t=true->zW C n k p Q J O)(h2:t=false->zW C n k q Q J O):zW C n k (.cond x p q) Q J O:=by
 intro c hc Z0 w0 hgl hk Z a w hst hR hE hn
 have:=zrk hc
 obtain⟨o,c1,c2,rfl,k1,k2,k3⟩:=this
 have he:=ze4 hR hE o
 rw [<-z1n k1,hx]at he
 simp only [VR]at he
 refine wp_cond he ?_
 cases t
 ·exact h2 rfl c2 k3 Z0 w0 hgl hk Z a w hst hR hE hn
 ·exact h1 rfl c1 k2 Z0 w0 hgl hk Z a w hst hR hE hn
theorem zb_{id:Nat}{x:ACode}(h:zW C n k x (blkQ id Q) J O):zW C n k (.block id x) Q J O:=by
 intro c hc Z0 w0 hgl hk Z a w hst hR hE hn
 have:=zdh hc
 obtain⟨c1,rfl,h1⟩:=this
 refine wp_block (wp_mono (h c1 h1 Z0 w0 hgl hk Z a w hst hR hE hn) ?_)
 rintro e a' w' ⟨ae,J',O',Z',rfl,hq,q⟩
 cases ae with
 |normal=>exact⟨.normal,J',O',Z',rfl,hq,q⟩
 |exit id'=>
  simp only [AExit.out,Exit.inBlock]
  simp only [blkQ]at hq
  split at hq
  ·rename_i he
   rw [if_pos he]
   exact⟨.normal,J',O',Z',rfl,hq,q⟩
  ·rename_i he
   rw [if_neg he]
   exact⟨.exit id',J',O',Z',rfl,hq,q⟩
 |ret=>exact⟨.ret,J',O',Z',rfl,hq,q⟩
theorem zc_{x:ACode}(h:zW C n k x Q J O):zW C n k (.scope x) Q J O:=by
 intro c hc Z0 w0 hgl hk Z a w hst hR hE hn
 have:=zrp hc
 obtain⟨c1,rfl,h1⟩:=this
 refine wp_scope_straight (wp_mono (h c1 h1 Z0 w0 hgl hk Z a w hst hR hE hn) ?_)
 rintro e a' w' ⟨ae,J',O',Z',rfl,hq,q⟩
 cases ae<;>exact⟨_,J',O',Z',rfl,hq,q⟩
theorem zW.loop{x:ACode}(I:Nat->Env->Store->Prop)(m:Nat)(h0:I m J O)(h:∀m J O,I m J O->zW C n k x (z4x (fun J' O'=>∃m',m'<m/\ I m' J' O') Q) J O):zW C n k (.loop x) Q J O:=by
 intro c hc Z0 w0 hgl hk Z a w hst hR hE hn
 have:=zrm hc
 obtain⟨c1,rfl,h1⟩:=this
 refine wp_loop_ghost (fun m a' w'=>∃J' O' Z',I m J' O'/\ Step Z0 w0 Z' w'/\ Rel C Z' O' w'/\ EnvR Z' w' J' a'.tmps/\ a'.defers=a.defers/\ a'.tmps.size=n) m ⟨J,O,Z,h0,hst,hR,hE,rfl,hn⟩ ?_
 rintro m a1 w1 ⟨J1,O1,Z1,hI,q1,q2,q3,q4,q5⟩
 refine wp_mono (h m J1 O1 hI c1 h1 Z0 w0 hgl hk Z1 a1 w1 q1 q2 q3 q5) ?_
 rintro e a2 w2 ⟨ae,J2,O2,Z2,rfl,hq,r1,r2,r3,r4,r5⟩
 cases ae with
 |normal=>
  obtain⟨m',hm,hI'⟩:=hq
  exact⟨m',hm,J2,O2,Z2,hI',r1,r2,r3,r4.trans q4,r5⟩
 |exit id=>exact⟨.exit id,J2,O2,Z2,rfl,hq,r1,r2,r3,r4.trans q4,r5⟩
 |ret=>exact⟨.ret,J2,O2,Z2,rfl,hq,r1,r2,r3,r4.trans q4,r5⟩
theorem z9s(i:Nat):i ∈ List.range' 0 n ↔ i<n/\ (Array.replicate n false).getD i true=false:=by
 simp only [List.mem_range',Array.getD_eq_getD_getElem?,Array.getElem?_replicate]
 constructor
 ·rintro⟨j,hj,rfl⟩
  have:0+1*j<n:=by omega
  exact⟨this,by simp [hj]⟩
 ·rintro⟨h1,_⟩
  exact⟨i,h1,by omega⟩
theorem zdy(ops:Array Oper):z6c ops (fun i=>(Array.replicate ops.size false).getD i false):=by
 intro i o ho hi
 simp only [Array.getD_eq_getD_getElem?,Array.getElem?_replicate]at hi
 split at hi<;>simp at hi
theorem zW.regH{ops:List AIns}{H:Hist}(h:z10 C (Q .normal) ops H J O):zW C n k (.reg ops) Q J O:=by
 intro c hc Z0 w0 hgl hk Z a w hst hR hE hn
 have:=zit hc
 obtain⟨id,os,draw,rfl⟩:=this
 obtain⟨hd,hc'⟩:=zaz hc
 clear hc
 have hdst:=zdz hd
 rcases hc' with⟨rfl,hc⟩| ⟨rfl,p,q,hc⟩| ⟨rfl,l,hl,h1⟩
 ·obtain⟨as_,e,hf,hok,hb,h1⟩:=zb1 hc
  cases e
  have hrun:=z92 (K:=Q .normal) os.toList 0 ops (fun j=>by simp) h1 H Hist.none J O ⟨fun _ hs=>hs.elim,fun _ _=>trivial,fun _ _=>trivial⟩ h
  obtain⟨s1,R1⟩:=hR.drawn (w':={ w with drawn:=w.drawn+1 }) rfl rfl rfl rfl
  refine wp_region_any hf ?_
  refine zb9 hb hdst os.size (Array.replicate os.size false) (List.range' 0 os.size) (by simp) z9s List.pairwise_lt_range' (zdy os) (by simp)
   (fun x i hx hi hxi=>zlg hok ((z9s i).1 hi).1 hxi) Hist.none J O Z a _ (by simpa using hrun) R1 (hE.mono s1) hn ?_
  intro J' O' Z' a' w' k1 k2 k3 k4 k5 k6
  exact⟨.normal,J',O',Z',rfl,k1,hst.trans (s1.trans k2),k3,k4,k5,k6⟩
 ·rcases hc with hc|hc
  ·obtain⟨_,_,e,_⟩:=zb6 hc
   cases e
  ·obtain⟨_,_,e,_⟩:=zb5 hc
   cases e
 ·cases hl
  have hrun:=z92 (K:=Q .normal) os.toList 0 ops (fun j=>by simp) h1 H Hist.none J O ⟨fun _ hs=>hs.elim,fun _ _=>trivial,fun _ _=>trivial⟩ h
  refine wp_region ?_
  refine zf5 hdst (List.range os.size) Hist.none J O Z a w (by rw [List.range_eq_range'];simpa using hrun) hR hE hn ?_
  intro J' O' Z' a' w' k1 k2 k3 k4 k5 k6
  exact⟨.normal,J',O',Z',rfl,k1,hst.trans k2,k3,k4,k5,k6⟩
theorem zrn{c:Code}{l m:List AIns}(hc:z1g C n c=some (.reg2 l m)):∃id os,c=.region id os true/\ z96 n os=true/\ ∃p q,z93 C os p q=some (.reg2 l m) \/z94 C os p q=some (.reg2 l m):=by
 cases c
 case region id ops draw=>
  obtain⟨hd,h⟩:=zaz hc
  rcases h with⟨rfl,h⟩| ⟨rfl,p,q,h⟩| ⟨rfl,l,h,_⟩
  ·obtain⟨_,h,_⟩:=zb1 h;cases h
  ·exact⟨id,ops,rfl,hd,p,q,h⟩
  ·cases h
 all_goals simp [z1g,Option.bind_eq_some_iff,Option.map_eq_some_iff]at hc
theorem zW.reg2H{l m:List AIns}{H H2:Hist}(h:z10 C (Q .normal) l H J O)(h2:z10 C (Q .normal) m H2 J O):zW C n k (.reg2 l m) Q J O:=by
 intro c hc Z0 w0 hgl hk Z a w hst hR hE hn
 obtain⟨id,os,rfl,hd,p,q,hc⟩:=zrn hc
 have hdst:=zdz hd
 rcases hc with hc|hc
 rotate_left
 ·obtain⟨as_,bs,e,_⟩:=zb5 hc
  cases e
  exact(show False from h2).elim
 obtain⟨as_,bs,e,hf,hok,hb,k1,k2⟩:=zb6 hc
 cases e
 simp only [zf3,Bool.and_eq_true,decide_eq_true_eq,List.all_eq_true,List.mem_range]at hok
 obtain⟨⟨⟨⟨hpq,hq⟩,o1⟩,o2⟩,o3⟩:=hok
 have e0:List.range' 0 os.size=List.range' 0 p++p::(List.range' (p+1) (q-(p+1))++q::List.range' (q+1) (os.size-(q+1))):=by
  have a1:List.range' 0 os.size=List.range' 0 p++List.range' p (os.size-p):=by
   have:=List.range'_append (s:=0) (m:=p) (n:=os.size-p) (step:=1)
   rw [show 0+1*p=p by omega,show p+(os.size-p)=os.size by omega]at this
   exact this.symm
  have a2:List.range' p (os.size-p)=p::List.range' (p+1) (os.size-(p+1)):=by
   rw [show os.size-p=(os.size-(p+1))+1 by omega];rfl
  have a3:List.range' (p+1) (os.size-(p+1))=List.range' (p+1) (q-(p+1))++List.range' q (os.size-q):=by
   have:=List.range'_append (s:=p+1) (m:=q-(p+1)) (n:=os.size-q) (step:=1)
   rw [show p+1+1*(q-(p+1))=q by omega,show q-(p+1)+(os.size-q)=os.size-(p+1)by omega]at this
   exact this.symm
  have a4:List.range' q (os.size-q)=q::List.range' (q+1) (os.size-(q+1)):=by
   rw [show os.size-q=(os.size-(q+1))+1 by omega];rfl
  rw [a1,a2,a3,a4]
 have hrun:=zdl (K:=Q .normal) _ _ k1 H Hist.none J O ⟨fun _ hs=>hs.elim,fun _ _=>trivial,fun _ _=>trivial⟩ h
 have hrun2:=zdl (K:=Q .normal) _ _ k2 H2 Hist.none J O ⟨fun _ hs=>hs.elim,fun _ _=>trivial,fun _ _=>trivial⟩ h2
 rw [e0]at hrun
 have mem0:∀i,i ∈ List.range' 0 p++p::(List.range' (p+1) (q-(p+1))++q::List.range' (q+1) (os.size-(q+1))) ↔ i<os.size/\ (Array.replicate os.size false).getD i true=false:=fun i=>by rw [<-e0];exact z9s i
 obtain⟨s1,R1⟩:=hR.drawn (w':={ w with drawn:=w.drawn+1 }) rfl rfl rfl rfl
 refine wp_region_any hf ?_
 refine zsn (p:=p) (q:=q) hb hdst os.size (Array.replicate os.size false) _ _ _ (by simp) mem0 (by rw [<-e0];exact List.pairwise_lt_range') (zdy os) (by rw [<-e0];simp)
  (fun x i hx hi hxi=> ?_) (fun y hy=> ?_) (fun y hy=> ?_) Hist.none J O Z a _ hrun hrun2 R1 (hE.mono s1) hn ?_
 ·have:=o1 i ((mem0 i).1 hi).1 x hxi
  simp only [Bool.or_eq_true,Bool.and_eq_true,decide_eq_true_eq]at this
  rcases this with(h|h)|h
  ·exact .inl h
  ·exact .inr (.inl h)
  ·exact .inr (.inr h)
 ·simp only [List.mem_range']at hy
  obtain⟨j,hj,rfl⟩:=hy
  have:=o2 (p+1+1*j) (by omega)
  have e1:(decide (p<p+1+1*j) && decide (p+1+1*j<q))=true:=by simp;omega
  rw [e1]at this
  simpa using this
 ·have hm:y ∈ List.range' 0 p++p::(List.range' (p+1) (q-(p+1))++q::List.range' (q+1) (os.size-(q+1))):=by
   simp only [List.mem_append,List.mem_cons]at hy ⊢
   rcases hy with h|h|h
   ·exact .inl h
   ·exact .inr (.inr (.inl h))
   ·exact .inr (.inr (.inr (.inr h)))
  have hne:y ≠ p/\ y ≠ q:=by
   simp only [List.mem_append,List.mem_range']at hy
   rcases hy with⟨j,hj,rfl⟩| ⟨j,hj,rfl⟩| ⟨j,hj,rfl⟩<;>omega
  have:=o3 y ((mem0 y).1 hm).1
  simp only [Bool.or_eq_true,decide_eq_true_eq]at this
  rcases this with(((h|h)|h)|h)|h
  ·exact absurd h hne.1
  ·exact absurd h hne.2
  ·split at h
   ·rename_i o ho
    exact .inl ⟨o,ho,by simpa using h⟩
   ·simp at h
  ·exact .inr (.inl h)
  ·exact .inr (.inr h)
 ·intro J' O' Z' a' w' k1 k2 k3 k4 k5 k6
  exact⟨.normal,J',O',Z',rfl,k1,hst.trans (s1.trans k2),k3,k4,k5,k6⟩
theorem zW.reg2{l m:List AIns}(h:z10 C (Q .normal) l Hist.none J O)(h2:z10 C (Q .normal) m Hist.none J O):zW C n k (.reg2 l m) Q J O:=zW.reg2H h h2
theorem zr_{ops:List AIns}(h:z10 C (Q .normal) ops Hist.none J O):zW C n k (.reg ops) Q J O:=zW.regH h
theorem zW.regS{ops:List AIns}(h:z10 C (Q .normal) ops (Hist.same O) J O):zW C n k (.reg ops) Q J O:=zW.regH h
theorem zW.seqReg{ops:List AIns}{y:ACode}(h:z10 C (zW C n k y Q) ops Hist.none J O):zW C n k (.seq (.reg ops) y) Q J O:=zs_ (zr_ h)
theorem zW.down{J':Env}(hd:Down k J O J' O')(h:zW C n k ac Q J' O'):zW C n k ac Q J O:=by
 intro c hc Z0 w0 hgl hk Z a w hst hR hE hn
 obtain⟨Z',h1,h2,h3⟩:=hd.sound hR hE hst hgl (by omega)
 exact h c hc Z0 w0 hgl hk Z' a w h1 h2 h3 hn
end
end
section
section
variable {C:Ctx} {n k:Nat} {ac:ACode} {Q:AExit->Env->Store->Prop} {J:Env} {O:Store}
theorem EnvR.upd_{tmps:Array Value}(h:EnvR Z w J tmps){t:Nat}{v:AV}(hv:VR Z w v (tmps.getD t undef)):EnvR Z w (upd J t v) tmps:=fun s=>by
 unfold upd
 by_cases e:s=t
 ·subst e;rw [if_pos rfl];exact hv
 ·rw [if_neg e];exact h s
theorem zW.limit{t len esz:Nat}(ht:J t=.sl r off len none esz)(h:∀c,len<=c->zW C n k ac Q (upd J t (.sl r off len (some c) esz)) O):zW C n k ac Q J O:=by
 intro code hc Z0 w0 hgl hk Z a w hst hR hE hn
 have hv:=hE t
 rw [ht]at hv
 simp only [VR]at hv
 obtain⟨fl,pl,b,o,cap,hpl,he,hval,hso⟩:=hv
 refine h cap hso.le code hc Z0 w0 hgl hk Z a w hst hR (hE.upd_ ?_) hn
 rw [hval]
 simp only [VR]
 exact⟨fl,pl,b,o,cap,hpl,he,rfl,hso.le,by simp,by simp,hso.inside,hso.at_,hso.blk,hso.ole⟩
theorem zW.unlim{t len c esz:Nat}{o:AObj}(ht:J t=.sl r off len (some c) esz)(hr:O[r]? =some (some o))(hl:o.length<=off+c)(h:zW C n k ac Q (upd J t (.sl r off len none esz)) O):zW C n k ac Q J O:=by
 intro code hc Z0 w0 hgl hk Z a w hst hR hE hn
 have hv:=hE t
 rw [ht]at hv
 simp only [VR]at hv
 obtain⟨fl,pl,b,p,cap,hpl,he,hval,hso⟩:=hv
 obtain⟨pl',hpl',hok⟩:=hR.alive r o hr
 rw [hpl]at hpl';cases hpl'
 have hcap:=hso.lim_ c rfl
 refine h code hc Z0 w0 hgl hk Z a w hst hR (hE.upd_ ?_) hn
 rw [hval]
 simp only [VR]
 exact⟨_,pl,b,p,cap,hpl,he,rfl,hso.le,by simp,fun _=>by rw [<-hok.len,hcap];exact hl,hso.inside,hso.at_,hso.blk,hso.ole⟩
theorem zhv{Z:Places}{w:World}:∀{l:List Value} {m:Nat},l.length=m->(∀v ∈ l,v.oneCell'=true)->VRs Z w (List.replicate m .any) l
 | [],m,h,_=>by subst h;exact VRs.nil
 |v::l,m,h,h1=>by
  subst h
  exact VRs.cons ⟨by simp only [VR],h1 v (by simp)⟩ (zhv rfl fun x hx=>h1 x (by simp [hx]))
theorem ztl(m k:Nat):(List.replicate m (List.replicate k AV.any)).flatten=List.replicate (m*k) .any:=by
 induction m with
 |zero=>simp
 |succ m ih=>rw [List.replicate_succ,List.flatten_cons,ih,List.replicate_append_replicate];congr 1;rw [Nat.succ_mul];omega
theorem zW.widen{t len c esz m:Nat}{o:AObj}(ht:J t=.sl r 0 len (some c) esz)(hr:O[r]? =some (some o))(hlen:o.length=len)(hm:len+m<=c)
  (h:zW C n k ac Q (upd J t (.sl O.length 0 len (some c) esz)) (O.set r none++ [some (o++List.replicate m (List.replicate esz .any))])):zW C n k ac Q J O:=by
 intro code hc Z0 w0 hgl hk Z a w hst hR hE hn
 have hv:=hE t
 rw [ht]at hv
 simp only [VR]at hv
 obtain⟨fl,pl,b,p,cap,hpl,he,hval,hso⟩:=hv
 obtain⟨pl',hpl',hok⟩:=hR.alive r o hr
 rw [hpl]at hpl';cases hpl'
 have hcap:=hso.lim_ c rfl
 subst hcap
 have hrl:r<O.length:=by
  rcases Nat.lt_or_ge r O.length with h|h
  ·exact h
  ·simp [List.getElem?_eq_none h]at hr
 obtain⟨cs,ty,fz,pre,mid,post,q1,q2,q3,q4,q5,q6,q7⟩:=hok.ex
 have hty:ty=pl.ty:=by
  obtain⟨c0,fz0,h0⟩:=hok.tyk
  rw [q1]at h0;cases h0;rfl
 have hml:=q5.length
 rw [z29 hok.esz,hlen,he]at hml
 have hin:=hso.inside
 rw [he,Nat.zero_add]at hin
 have hsz:cs.size=pre.length+mid.length+post.length:=by
  rw [<-Array.length_toList,q2];simp [Nat.add_assoc]
 have hmc:(len+m)*esz<=cap*esz:=Nat.mul_le_mul_right _ hm
 rw [Nat.add_mul]at hmc
 have hpost:m*esz<=post.length:=by omega
 have hpo:∀v ∈ post,v.oneCell'=true:=fun v hv=>q7 v (by rw [q2];simp [hv])
 have hpr:∀v ∈ pre,v.oneCell'=true:=fun v hv=>q7 v (by rw [q2];simp [hv])
 obtain⟨g1,g2⟩:=hR.replace (w':=w) (r:=r) (pl:=pl) (pl':=⟨pl.b,pl.base,esz,len+m,pl.tot,pl.ty⟩) (o:=o++List.replicate m (List.replicate esz .any)) (c:=cs) (ty:=ty) (fz:=fz)
  (pre:=pre) (mid:=mid++post.take (m*esz)) (post:=post.drop (m*esz)) hrl hpl rfl rfl (fun _ _=>rfl) q1 rfl rfl rfl hty
  (by rw [q2];simp only [List.append_assoc,List.take_append_drop]) q3 q4
  (by rw [List.flatten_append,ztl];exact q5.append (zhv (by rw [List.length_take];omega) fun v hv=>hpo v (List.mem_of_mem_take hv)))
  (by rw [List.length_append,List.length_replicate,hlen])
  (fun x hx=>by
   rcases List.mem_append.1 hx with hx|hx
   ·rw [<-he];exact hok.esz x hx
   ·rw [List.mem_replicate]at hx;rw [hx.2,List.length_replicate])
  (by show NoSt cs.size esz fz;rw [<-he];exact q6)
  (fun v hv=>by
   rcases List.mem_append.1 hv with hv|hv
   ·exact hpr v hv
   ·exact hpo v (List.mem_of_mem_drop hv))
 refine h code hc Z0 w0 hgl hk _ a w (hst.trans g1) g2 ((hE.mono g1).upd_ ?_) hn
 rw [hval]
 simp only [VR]
 refine⟨true,⟨pl.b,pl.base,esz,len+m,pl.tot,pl.ty⟩,b,p,cap,?_,rfl,rfl,hso.le,by simp,by simp,?_,fun hne=> ?_,hso.blk,hso.ole⟩
 ·rw [<-hR.len,List.getElem?_append_right (by simp)];simp
 ·show pl.base+(0+cap)*esz<=pl.tot
  rw [Nat.zero_add];exact hin
 ·have:=hso.at_ hne
  exact⟨this.1,by rw [this.2];simp⟩
end
end
section
inductive RV where
 |t (n:Nat)
 |c (a:Nat) (ag:Bool) (n:Nat)
def RV.val(J:Env)(O:Store):RV->AV
 | .t n=>J n
 | .c a ag n=>(z6z ag n O (J a)).getD .any
def RV.ok(J:Env)(O:Store):RV->Bool
 | .t _=>true
 | .c a ag n=>(z6z ag n O (J a)).isSome
def oks(J:Env)(O:Store):List RV->Bool
 | []=>true
 |x::l=>x.ok J O && oks J O l
def z64(C:Ctx):List ResultVar->Option (List RV)
 | []=>some []
 | .tmp t::l=>(z64 C l).map (.t t:: ·)
 | .cell a t::l=>(z2h C t).bind fun ag=>(z1j C t).bind fun n=>(z64 C l).map (.c a ag n:: ·)
def retV(ts:List RV)(J:Env)(O:Store):AV:=match ts with
 | [t]=>t.val J O
 |ts=> .tup (ts.map (RV.val J O))
def z3w(args:List AV):Env:=fun t=>args.getD t .undef
def cFn(C:Ctx)(f:FuncId):Option (Nat × List RV × ACode):=
 (C.P.funcs[f]?).bind fun fn=>if (fn.name== "runtime.NumGoroutine")=true then none else fn.body.bind fun c=>(z64 C fn.results.toList).bind fun ts=>(z1g C fn.ntmps c).map fun ac=>(fn.ntmps,ts,ac)
def endQ(k:Nat)(ts:List RV)(v:AV)(O':Store):AExit->Env->Store->Prop
 | .exit _=>fun _ _=>False
 | _=>fun J O=>oks J O ts=true/\ DownV k (retV ts J O) O v O'
theorem zgm{C:Ctx}{Z:Places}{O:Store}{w:World}{J:Env}{tmps:Array Value}(hR:Rel C Z O w)(hE:EnvR Z w J tmps)(g:ResultVar->Sem Value)(hg:∀t,g (.tmp t)=pure (tmps.getD t undef))
  (hg2:∀a t,g (.cell a t)=do loadVar t (<-asAddr (tmps.getD a undef))):∀(l:List ResultVar) (ts:List RV),z64 C l=some ts->oks J O ts=true->
  ∃vs,(l.mapM (m:=Sem) g).run C.P w=.ok vs w/\ VRt Z w (ts.map (RV.val J O)) vs
 | [],ts,h,_=>by simp only [z64,Option.some.injEq]at h;subst h;exact⟨[],by simp,VRt.nil⟩
 | .tmp t::l,ts,h,hk=>by
  simp only [z64,Option.map_eq_some_iff]at h
  obtain⟨ts',h1,rfl⟩:=h
  simp only [oks,Bool.and_eq_true]at hk
  obtain⟨vs,k1,k2⟩:=zgm hR hE g hg hg2 l ts' h1 hk.2
  exact⟨tmps.getD t undef::vs,by simp only [List.mapM_cons,Sem.run_bind,hg,Sem.run_pure,Result.andThen_ok,k1],VRt.cons (hE t) k2⟩
 | .cell a t::l,ts,h,hk=>by
  simp only [z64,Option.bind_eq_some_iff,Option.map_eq_some_iff]at h
  obtain⟨ag,hag,n,hn,ts',h1,rfl⟩:=h
  simp only [oks,Bool.and_eq_true,RV.ok]at hk
  obtain⟨vs,k1,k2⟩:=zgm hR hE g hg hg2 l ts' h1 hk.2
  obtain⟨x,hx⟩:=Option.isSome_iff_exists.1 hk.1
  have hp:=hE a
  have hx':z7d C O t (J a)=some x:=by
   rw [<-hx]
   generalize J a=p
   cases p<;>simp only [z7d,z6z,hag,hn,Option.bind_some]
   rfl
  obtain⟨v,q1,q2⟩:=zl4 hR hp hx'
  have hc:(do loadVar t (<-asAddr (tmps.getD a undef)):Sem Value).run C.P w=.ok v w:=by
   rw [<-q1]
   generalize J a=p at*
   generalize tmps.getD a undef=cp at*
   cases p<;>simp only [z6z,reduceCtorEq]at hx
   ·simp only [VR]at hp
    obtain⟨_,pl,_,rfl⟩:=hp
    simp [Instr.loadAt,Instr.sureAddr,asAddr]
   ·simp only [VR]at hp
    obtain⟨b,o,vals,rfl,_⟩:=hp
    simp [Instr.loadAt,Instr.sureAddr,asAddr]
  refine⟨v::vs,?_,VRt.cons ?_ k2⟩
  ·simp only [List.mapM_cons,Sem.run_bind,hg2]
   simp only [Sem.run_bind]at hc
   rw [hc]
   simp only [Sem.run_pure,Result.andThen_ok,k1]
  ·simp only [RV.val,hx,Option.getD_some];exact q2
theorem zct{fn:Func}{tmps:Array Value}{ts:List RV}(hR:Rel C Z O w)(hE:EnvR Z w J tmps)(h:z64 C fn.results.toList=some ts)(hk:oks J O ts=true):
  ∃cv,(results fn tmps).run C.P w=.ok cv w/\ VR Z w (retV ts J O) cv:=by
 unfold results
 rw [Array.mapM_eq_mapM_toList]
 obtain⟨vs,h1,h2⟩:=zgm hR hE (fun| .tmp t=>pure (tmps.getD t undef)| .cell a t=>do loadVar t (<-asAddr (tmps.getD a undef))) (fun t=>rfl) (fun a t=>rfl) _ _ h hk
 simp only [Sem.run_bind,Sem.run_map]
 erw [h1]
 simp only [Result.andThen_ok,Sem.run_pure]
 unfold retV
 have hl:=h2.length
 match ts with
 | [t]=>
  simp only [List.map_cons,List.map_nil,VRt]at h2
  obtain⟨v,_,rfl,h3,rfl⟩:=h2
  exact⟨v,by simp,h3⟩
 | []=>
  simp only [List.map_nil,VRt]at h2
  subst h2
  exact⟨.tuple #[],by simp,by simp only [VR];exact⟨[],rfl,by simp [VRt]⟩⟩
 |a::b::l=>
  have:¬(vs.toArray.size=1):=by simp at hl ⊢;omega
  exact⟨.tuple vs.toArray,by simp only [this,dif_neg,not_false_eq_true],by simp only [VR];exact⟨vs,rfl,h2⟩⟩
theorem zbi{args:List AV}{cargs:List Value}(h:VRt Z w args cargs)(n:Nat):EnvR Z w (z3w args) (cargs.toArray++Array.replicate (n-cargs.toArray.size) undef):=by
 intro t
 have hl:=h.length
 simp only [z3w,Array.getD_eq_getD_getElem?,List.getD_eq_getElem?_getD]
 by_cases ht:t<args.length
 ·obtain⟨v,h1,h2⟩:=h.get (List.getElem?_eq_getElem ht)
  rw [Array.getElem?_append_left (by simp;omega),List.getElem?_toArray,h1,List.getElem?_eq_getElem ht]
  exact h2
 ·rw [List.getElem?_eq_none (by omega),Array.getElem?_append_right (by simp;omega)]
  simp only [Option.getD_none,VR,Array.getElem?_replicate]
  split<;>rfl
theorem ACallsTo.of_body{ts:List RV}(hc:cFn C f=some (n,ts,ac)){args:List AV}{O O':Store}{v:AV}(hn:args.length<=n)
  (h:Wf O.length O->RLs O.length args->zW C n O.length ac (endQ O.length ts v O') (z3w args) O):ACallsTo C f args O v O':=by
 simp only [cFn,Option.bind_eq_some_iff]at hc
 obtain⟨fn,hf,hc⟩:=hc
 split at hc
 ·cases hc
 ·rename_i hname
  simp only [Option.bind_eq_some_iff,Option.map_eq_some_iff,Prod.mk.injEq]at hc
  obtain⟨c,hb,ts',hts,ac',hac,rfl,rfl,rfl⟩:=hc
  intro Z w cargs hR ha
  left
  constructor
  ·have hname':(fn.name== "runtime.NumGoroutine")=false:=by simpa using hname
   have h1:fn.name ≠ "runtime.NumGoroutine" :=by simpa using hname'
   simp [callFunc,hf,h1,hb]
  ·have hl:=ha.length
   refine calls_of_wp hf hb ?_
   have hw:=h hR.wf (by rw [<-hR.len];exact VRt.rl _ _ ha) c hac Z w hR.gl hR.len Z { tmps:=cargs.toArray++Array.replicate (fn.ntmps-cargs.toArray.size) undef,defers:=[] } w (Step.refl _ _) hR
    (zbi ha _) (by simp;omega)
   refine wp_mono hw ?_
   rintro e a' w' ⟨ae,J',O2,Z',rfl,hq,q1,q2,q3,q4,q5⟩
   have fin:(oks J' O2 ts'=true/\ DownV O.length (retV ts' J' O2) O2 v O')->a'.defers=[]/\ ∃v_1,(results fn a'.tmps).run C.P w'=.ok v_1 w'/\ ∃cv Z',Ending.returned v_1=.returned cv/\ Step Z w Z' w'/\ Rel C Z' O' w'/\ VR Z' w' v cv:=by
    rintro⟨hk,hd⟩
    obtain⟨rv,r1,r2⟩:=zct q2 q3 hts hk
    obtain⟨Z2,k1,k2,k3⟩:=hd.sound q2 r2 q1 hR.gl (by rw [hR.len];exact Nat.le_refl _)
    exact⟨q4,_,r1,_,Z2,rfl,k1,k2,k3⟩
   cases ae with
   |normal=>exact fin hq
   |exit id=>exact hq.elim
   |ret=>exact fin hq
def endP(k:Nat)(ts:List RV)(P:AV->Store->Prop):AExit->Env->Store->Prop
 | .exit _=>fun _ _=>False
 | _=>fun J O=>oks J O ts=true/\ ∃v O',P v O'/\ DownV k (retV ts J O) O v O'
theorem ACallsP.of_body{ts:List RV}(hc:cFn C f=some (n,ts,ac)){args:List AV}{O:Store}{P:AV->Store->Prop}(hn:args.length<=n)
  (h:Wf O.length O->RLs O.length args->zW C n O.length ac (endP O.length ts P) (z3w args) O):ACallsP C f args O P:=by
 simp only [cFn,Option.bind_eq_some_iff]at hc
 obtain⟨fn,hf,hc⟩:=hc
 split at hc
 ·cases hc
 ·rename_i hname
  simp only [Option.bind_eq_some_iff,Option.map_eq_some_iff,Prod.mk.injEq]at hc
  obtain⟨c,hb,ts',hts,ac',hac,rfl,rfl,rfl⟩:=hc
  intro Z w cargs hR ha
  left
  constructor
  ·have hname':(fn.name== "runtime.NumGoroutine")=false:=by simpa using hname
   have h1:fn.name ≠ "runtime.NumGoroutine" :=by simpa using hname'
   simp [callFunc,hf,h1,hb]
  ·have hl:=ha.length
   refine calls_of_wp hf hb ?_
   have hw:=h hR.wf (by rw [<-hR.len];exact VRt.rl _ _ ha) c hac Z w hR.gl hR.len Z { tmps:=cargs.toArray++Array.replicate (fn.ntmps-cargs.toArray.size) undef,defers:=[] } w (Step.refl _ _) hR
    (zbi ha _) (by simp;omega)
   refine wp_mono hw ?_
   rintro e a' w' ⟨ae,J',O2,Z',rfl,hq,q1,q2,q3,q4,q5⟩
   have fin:(oks J' O2 ts'=true/\ ∃v O',P v O'/\ DownV O.length (retV ts' J' O2) O2 v O')->a'.defers=[]/\ ∃v_1,(results fn a'.tmps).run C.P w'=.ok v_1 w'/\ ∃cv v Z' O',Ending.returned v_1=.returned cv/\ P v O'/\ Step Z w Z' w'/\ Rel C Z' O' w'/\ VR Z' w' v cv:=by
    rintro⟨hk,v,O',hp,hd⟩
    obtain⟨rv,r1,r2⟩:=zct q2 q3 hts hk
    obtain⟨Z2,k1,k2,k3⟩:=hd.sound q2 r2 q1 hR.gl (by rw [hR.len];exact Nat.le_refl _)
    exact⟨q4,_,r1,_,v,Z2,O',rfl,hp,k1,k2,k3⟩
   cases ae with
   |normal=>exact fin hq
   |exit id=>exact hq.elim
   |ret=>exact fin hq
theorem ACallsP.mono{args:List AV}{P P':AV->Store->Prop}(h:ACallsP C f args O P)(hp:∀v O',P v O'->P' v O'):ACallsP C f args O P':=by
 intro Z w cargs hR ha
 rcases h Z w cargs hR ha with⟨h1,h2⟩| ⟨cv,v,Z',O',w',h1,h2,h3⟩
 ·refine .inl ⟨h1,h2.mono ?_⟩
  rintro e w' ⟨cv,v,Z',O',rfl,k1,k2⟩
  exact⟨cv,v,Z',O',rfl,hp _ _ k1,k2⟩
 ·exact .inr ⟨cv,v,Z',O',w',h1,hp _ _ h2,h3⟩
def z5u(ts:List RV)(v:AV)(O':Store):AExit->Env->Store->Prop
 | .exit _=>fun _ _=>False
 | _=>fun J O=>oks J O ts=true/\ retV ts J O=v/\ O=O'
theorem ACallsTo.of_body_keep{ts:List RV}(hc:cFn C f=some (n,ts,ac)){args:List AV}{O O':Store}{v:AV}(hn:args.length<=n)
  (h:zW C n O.length ac (z5u ts v O') (z3w args) O):ACallsTo C f args O v O':=by
 simp only [cFn,Option.bind_eq_some_iff]at hc
 obtain⟨fn,hf,hc⟩:=hc
 split at hc
 ·cases hc
 ·rename_i hname
  simp only [Option.bind_eq_some_iff,Option.map_eq_some_iff,Prod.mk.injEq]at hc
  obtain⟨c,hb,ts',hts,ac',hac,rfl,rfl,rfl⟩:=hc
  intro Z w cargs hR ha
  left
  constructor
  ·have hname':(fn.name== "runtime.NumGoroutine")=false:=by simpa using hname
   have h1:fn.name ≠ "runtime.NumGoroutine" :=by simpa using hname'
   simp [callFunc,hf,h1,hb]
  ·have hl:=ha.length
   refine calls_of_wp hf hb ?_
   have hw:=h c hac Z w hR.gl hR.len Z { tmps:=cargs.toArray++Array.replicate (fn.ntmps-cargs.toArray.size) undef,defers:=[] } w (Step.refl _ _) hR
    (zbi ha _) (by simp;omega)
   refine wp_mono hw ?_
   rintro e a' w' ⟨ae,J',O2,Z',rfl,hq,q1,q2,q3,q4,q5⟩
   have fin:oks J' O2 ts'=true/\ retV ts' J' O2=v/\ O2=O'->a'.defers=[]/\ ∃v_1,(results fn a'.tmps).run C.P w'=.ok v_1 w'/\ ∃cv Z',Ending.returned v_1=.returned cv/\ Step Z w Z' w'/\ Rel C Z' O' w'/\ VR Z' w' v cv:=by
    rintro⟨hk,rfl,rfl⟩
    obtain⟨rv,r1,r2⟩:=zct q2 q3 hts hk
    exact⟨q4,_,r1,_,Z',rfl,q1,q2,r2⟩
   cases ae with
   |normal=>exact fin hq
   |exit id=>exact hq.elim
   |ret=>exact fin hq
section
variable {τ news:Store}
def z2x(τ news kept:Store)(idx:Nat->Nat)(fzl:Nat->Bool):DC:=
 ⟨τ++news,τ.length+kept.length,fun r=>if r<τ.length then r else τ.length+idx (r-τ.length),fun r=>decide (τ.length<=r) && fzl (r-τ.length)⟩
theorem z6q(kept:Store)(idx:Nat->Nat)(fzl:Nat->Bool):∀r,r<τ.length->r<(z2x τ news kept idx fzl).n/\ (z2x τ news kept idx fzl).pre r=r:=fun r hr=>by
 exact⟨by show r<τ.length+kept.length;omega,by simp [z2x,hr]⟩
theorem zbj{kept:Store}{idx:Nat->Nat}{fzl:Nat->Bool}(hτ:Wf τ.length τ)(h1:∀j,j<kept.length->idx j<news.length)(h2:∀i j,i<kept.length->j<kept.length->idx i=idx j->i=j)
  (h3:∀(j:Nat) (o':AObj),kept[j]? =some (some o')->∃o,news[idx j]? =some (some o)/\ DRss (z2x τ news kept idx fzl) o' o) (h4:∀j,j<kept.length->fzl (idx j)=true->kept[j]? =some none):
  DownS τ.length (z2x τ news kept idx fzl) (τ++kept):=by
 refine⟨by simp [z2x],fun r hr=>⟨by simp;omega,(z6q kept idx fzl r hr).2⟩,fun r hr=> ?_,fun r r' hr hr' e=> ?_,fun r o' hr=> ?_,fun r hr r' hr' e=> ?_⟩
 ·simp only [z2x,List.length_append]at hr ⊢
  split
  ·omega
  ·have:=h1 (r-τ.length) (by omega);omega
 ·simp only [z2x,List.length_append]at hr hr' e
  split at e<;>split at e
  ·exact e
  ·omega
  ·omega
  ·have:=h2 (r-τ.length) (r'-τ.length) (by omega) (by omega) (by omega);omega
 ·by_cases hl:r<τ.length
  ·rw [List.getElem?_append_left hl]at hr
   refine⟨o',?_,DRss.refl (z6q kept idx fzl) o' (hτ r o' hr)⟩
   simp only [z2x,hl,if_true]
   rw [List.getElem?_append_left hl];exact hr
  ·rw [List.getElem?_append_right (by omega)]at hr
   obtain⟨o,q1,q2⟩:=h3 _ o' hr
   refine⟨o,?_,q2⟩
   simp only [z2x,hl,if_false]
   rw [List.getElem?_append_right (by omega),Nat.add_sub_cancel_left];exact q1
 ·simp only [z2x,Bool.and_eq_true,decide_eq_true_eq,List.length_append]at hr hr' e
  split at e
  ·omega
  ·subst e
   rw [List.getElem?_append_right (by omega)]
   rw [Nat.add_sub_cancel_left]at hr
   exact h4 _ (by omega) hr.2
theorem DownV.pure(hτ:Wf τ.length τ)(hv:RL τ.length v):DownV τ.length v (τ++news) v τ:=by
 refine⟨z2x τ news [] id (fun _=>true),rfl,by simpa using zbj (kept:=[]) (idx:=id) (fzl:=fun _=>true) (news:=news) hτ (by simp) (by simp) (by simp) (by simp),DR.refl (z6q _ _ _) v hv⟩
theorem DownV.same(hτ:Wf τ.length τ)(hv:RL τ.length v):DownV τ.length v τ v τ:=by
 simpa using DownV.pure (news:=[]) hτ hv
theorem DownV.froze{j len esz:Nat}{lim:Option Nat}{o:AObj}(hτ:Wf τ.length τ)(ho:news[j]? =some (some o))(hl:off+len<=o.length)(hr:RLss τ.length ((o.drop off).take len)):
  DownV τ.length (.sl (τ.length+j) off len lim esz) (τ++news) (.vsl esz ((o.drop off).take len) false) τ:=by
 refine⟨z2x τ news [] id (fun _=>true),rfl,by simpa using zbj (kept:=[]) (idx:=id) (fzl:=fun _=>true) (news:=news) hτ (by simp) (by simp) (by simp) (by simp),?_⟩
 have e:((o.drop off).take len).length=len:=by simp;omega
 simp only [DR,z2x]
 right
 left
 refine⟨τ.length+j,off,lim,o,by rw [e],by simp,?_,by rw [e];exact hl,by simp,?_⟩
 ·rw [List.getElem?_append_right (by omega),Nat.add_sub_cancel_left];exact ho
 ·rw [e];exact DRss.refl (z6q [] id (fun _=>true)) _ hr
theorem DownV.own{j len esz:Nat}{lim:Option Nat}{o:AObj}(hτ:Wf τ.length τ)(ho:news[j]? =some (some o))(hr:RLss τ.length o):
  DownV τ.length (.sl (τ.length+j) off len lim esz) (τ++news) (.sl τ.length off len lim esz) (τ++ [some o]):=by
 have hj:j<news.length:=(List.getElem?_eq_some_iff.1 ho).1
 refine⟨z2x τ news [some o] (fun _=>j) (fun i=> !decide (i=j)),rfl,zbj hτ (by simp [hj]) (fun a b h1 h2 _=>by simp at h1 h2;omega) (fun i o' hi=> ?_) (fun i hi h=>by simp at h),?_⟩
 ·cases i with
  |zero=>
   simp at hi;subst hi
   exact⟨o,ho,DRss.refl (z6q _ _ _) _ hr⟩
  |succ i=>simp at hi
 ·simp only [DR,z2x]
  simp
end
end
section
open Go.RowKit
structure Book(w w':World):Prop where
 size:w.heap.size<=w'.heap.size
 cells:∀(b:Nat) (c:Array Value) (ty:TypeId) (fz:Nat × Nat),w.heap[b]? =some (Obj.cells c ty fz)->w'.heap[b]? =some (Obj.cells c ty fz)
 os:w'.os=w.os
 tape:w'.tape=w.tape
 output:w'.output=w.output
theorem Book.trans{a b c:World}(h:Book a b)(k:Book b c):Book a c:=
 ⟨Nat.le_trans h.size k.size,fun i x ty fz hi=>k.cells i x ty fz (h.cells i x ty fz hi),k.os.trans h.os,k.tape.trans h.tape,k.output.trans h.output⟩
theorem Book.alloc(w:World)(o:Obj):Book w (w.alloc o):=
 ⟨by simp,fun b c ty fz hb=>(Below.heap_alloc w o b (Array.getElem?_eq_some_iff.1 hb).1).trans hb,rfl,rfl,rfl⟩
theorem Book.drew(w:World):Book w w.drew:=⟨Nat.le_refl _,fun _ _ _ _ h=>h,rfl,rfl,rfl⟩
section
variable {Z:Places} {w w':World}
end
section
variable {C:Ctx} {Z Z0:Places} {O:Store} {w w' w0:World}
theorem Step.other(h:Step Z w Z' w')(hR:Rel C Z O w){l:Nat}{o:Obj}(hl:w.heap[l]? =some o)(ho:o.isCells=false):w'.heap[l]? =some o:=by
 rw [h.imm l (Array.getElem?_eq_some_iff.1 hl).1,hl]
 intro r pl hr e
 subst e
 have hrl:r<O.length:=by rw [<-hR.len];exact(List.getElem?_eq_some_iff.1 hr).1
 cases hq:O[r]with
 |none=>
  obtain⟨pl',h1⟩:=hR.dead r (by rw [List.getElem?_eq_getElem hrl,hq])
  rw [h1]at hr;cases hr
 |some ob=>
  obtain⟨pl',h1,h2⟩:=hR.alive r ob (by rw [List.getElem?_eq_getElem hrl,hq])
  rw [h1]at hr;cases hr
  obtain⟨c0,fz0,h0⟩:=h2.tyk
  rw [hl]at h0;cases h0;cases ho
end
def z5i(rd:Option Nat):Fence:={ Fence.wide with round:=rd }
theorem zry{rd:Option Nat}{P:Program}{args:Array Value}{R:Ending->World->Prop}(h:Calls P f args w R):CallsIn (z5i rd) n P f args w R:=
 (callsIn_wide (n:=n)).2 h
theorem zzx{rd:Option Nat}{P:Program}{r:String}{args:Array Value}{R:Value->World->Prop}(h:Rows P r args w R):RowsIn (z5i rd) n P r args w R:=
 fun c cs _=>let ⟨v,w',q,s⟩:=h c cs;⟨v,w',q,(stepsIn_wide (P:=P)).2 s⟩
theorem zlo{rd:Option Nat}{m:Nat}{P:Program}{o:Oper}{a:Act}{K:Act->World->Prop}{Q:Exit->Act->World->Prop}(hd:∀c,o.op ≠ .defer c)(h:o.wp P a w K Q):o.wpIn (z5i rd) m P a w K Q:=by
 refine⟨fun _ _=>trivial,?_⟩
 rw [Oper.semAt_eq _ _ _ hd]
 unfold Oper.wp at h
 generalize (execOp a.eval o).run P w=r at h ⊢
 have dn:(z5i rd).depth.isSome=true->1<=m:=fun h=>by simp [z5i,Fence.wide]at h
 cases r with
 |ok x w'=>
  cases x<;>simp only [Oper.upon,Oper.uponIn]at h ⊢ <;>
   first
    |exact h
    |exact h.elim
    |exact⟨dn,(zry h).mono fun e w'' he=>by cases e<;>exact he⟩
    |exact⟨dn,zzx h⟩
 |halt x w'=>cases x<;>simp only [Oper.upon,Oper.uponIn]at h ⊢ <;>first|exact h|exact h.elim
theorem zd5{rd:Option Nat}{m:Nat}{P:Program}{ops:Array Oper}{Q:Exit->Act->World->Prop}(hnd:∀o ∈ ops,∀c,o.op ≠ .defer c)(hq:¬LetsOut Q):∀(L:List Nat) (a:Act) (w:World),wpOps P ops Q L a w->wpOpsIn (z5i rd) m P ops Q L a w
 | [],_,_,h=>h
 |i::L,a,w,h=>by
  simp only [wpOps,wpOpsIn]at h ⊢
  cases ho:ops[i]? with
  |none=>rw [ho]at h;exact zd5 hnd hq L a w h
  |some o=>
   rw [ho]at h
   simp only at h ⊢
   have hm:o ∈ ops:=by
    obtain⟨hi,rfl⟩:=Array.getElem?_eq_some_iff.1 ho
    exact Array.getElem_mem hi
   split at h
   ·rename_i hw
    rw [if_pos hw]
    exact Oper.wpIn_mono (fun a w hh=>zd5 hnd hq L a w hh) (zlo (hnd o hm) (h.resolve_right fun k=>hq k.2))
   ·rename_i hw
    rw [if_neg hw]
    exact⟨fun _ _=>trivial,zd5 hnd hq L _ w h⟩
theorem z13e{rd:Option Nat}{m:Nat}{P:Program}{Q:Exit->Act->World->Prop}(hnd:∀o ∈ ops,∀c,o.op ≠ .defer c)(hq:¬LetsOut Q){i:Nat}{K:Act->World->Prop}{a:Act}{w:World}(h:wpOp P ops Q i K a w):wpOpIn (z5i rd) m P ops Q i K a w:=by
 unfold wpOp at h
 unfold wpOpIn
 cases ho:ops[i]? with
 |none=>rw [ho]at h;exact h
 |some o=>
  rw [ho]at h
  simp only at h ⊢
  have hm:o ∈ ops:=by
   obtain⟨hi,rfl⟩:=Array.getElem?_eq_some_iff.1 ho
   exact Array.getElem_mem hi
  split at h
  ·rename_i hw
   rw [if_pos hw]
   exact zlo (hnd o hm) (h.resolve_right fun k=>hq k.2)
  ·rename_i hw
   rw [if_neg hw]
   exact⟨fun _ _=>trivial,h⟩
theorem zpa{rd:Option Nat}{m:Nat}{P:Program}{md:Region.Mode}{ops:Array Oper}{Q:Exit->Act->World->Prop}(hnd:∀o ∈ ops,∀c,o.op ≠ .defer c)(hq:¬LetsOut Q):∀(fuel:Nat) (listed:Array Bool) (a:Act) (w:World),wpAny P md ops Q fuel listed a w->
  wpAnyIn (z5i rd) m P md ops Q fuel listed a w
 | 0,_,_,_,h=>h
 |fuel+1,listed,a,w,h=>⟨h.1,fun i hi=>wpOpIn_mono (fun a w hh=>zpa hnd hq fuel _ a w hh) (z13e hnd hq (h.2 i hi))⟩
def AOp.stk:AOp->Bool
 | .stuck=>true
 | _=>false
def zey(l:List AIns):Bool:=l.all fun i=> !i.op.stk
theorem zdi{C:Ctx}{ops:Array Oper}{need:Nat->Nd}:∀(l:List Oper) (i:Nat) (as_:List AIns),cOps C ops need l i=some as_->zey as_=true->∀o ∈ l,∀c,o.op ≠ .defer c
 | [],_,_,_,_,o,ho,_=>by simp at ho
 |x::l,i,as_,h,hn,o,ho,c=>by
  simp only [cOps,Option.bind_eq_some_iff,Option.map_eq_some_iff]at h
  obtain⟨a,ha,as',has,rfl⟩:=h
  simp only [zey,List.all_cons,Bool.and_eq_true]at hn
  rcases List.mem_cons.1 ho with rfl|ho
  ·intro e
   simp only [cIns,Option.map_eq_some_iff]at ha
   obtain⟨g,hg,rfl⟩:=ha
   have h1:=hn.1
   rw [e]at h1
   simp [cOp,AOp.stk]at h1
  ·exact zdi l (i+1) as' has hn.2 o ho c
def PostI(n:Nat)(Q:AExit->Env->Store->Prop)(Z0:Places)(w0:World)(C:Ctx)(a:Act):Exit->Act->World->Prop:=
 fun e a' w'=>∃ae J' O' Z',e=AExit.out ae/\ Q ae J' O'/\ Step Z0 w0 Z' w'/\ Rel C Z' O' w'/\ EnvR Z' w' J' a'.tmps/\ a'.defers=a.defers/\ a'.tmps.size=n
theorem PostI.tight{Q:AExit->Env->Store->Prop}{Z0:Places}{w0:World}{a:Act}:¬LetsOut (PostI n Q Z0 w0 C a):=by
 rintro⟨a',w',ae,J',O',Z',h,_⟩
 cases ae<;>cases h
def SWpI(rd:Option Nat)(C:Ctx)(n k:Nat)(ac:ACode)(Q:AExit->Env->Store->Prop)(J:Env)(O:Store):Prop:=
 ∀(c:Code),z1g C n c=some ac->∀(m:Nat) (Z0:Places) (w0:World),Glob C Z0 w0->Z0.length=k->∀(Z:Places) (a:Act) (w:World),Step Z0 w0 Z w->Rel C Z O w->EnvR Z w J a.tmps->a.tmps.size=n->
  c.wpIn (z5i rd) m C.P (PostI n Q Z0 w0 C a) a w
section
variable {rd:Option Nat} {C:Ctx} {n k:Nat} {Q:AExit->Env->Store->Prop} {J:Env} {O:Store}
theorem SWpI.skip(h:Q .normal J O):SWpI rd C n k .skip Q J O:=by
 intro c hc m Z0 w0 hgl hk Z a w hst hR hE hn
 rcases ziv hc with rfl| ⟨l,rfl⟩
 ·exact wpIn_skip ⟨.normal,J,O,Z,rfl,h,hst,hR,hE,rfl,hn⟩
 ·exact wpIn_label ⟨.normal,J,O,Z,rfl,h,hst,hR,hE,rfl,hn⟩
theorem SWpI.seq{x y:ACode}(h:SWpI rd C n k x (z4x (SWpI rd C n k y Q) Q) J O):SWpI rd C n k (.seq x y) Q J O:=by
 intro c hc m Z0 w0 hgl hk Z a w hst hR hE hn
 obtain⟨c1,c2,rfl,h1,h2⟩:=ziu hc
 refine wpIn_seq (wpIn_mono (h c1 h1 m Z0 w0 hgl hk Z a w hst hR hE hn) ?_)
 rintro e a' w' ⟨ae,J',O',Z',rfl,hq,q1,q2,q3,q4,q5⟩
 cases ae with
 |normal=>
  refine wpIn_mono (hq c2 h2 m Z0 w0 hgl hk Z' a' w' q1 q2 q3 q5) ?_
  rintro e a2 w2 ⟨ae,J2,O2,Z2,k1,k2,k3,k4,k5,k6,k7⟩
  exact⟨ae,J2,O2,Z2,k1,k2,k3,k4,k5,k6.trans q4,k7⟩
 |exit id=>exact⟨_,J',O',Z',rfl,hq,q1,q2,q3,q4,q5⟩
 |ret=>exact⟨_,J',O',Z',rfl,hq,q1,q2,q3,q4,q5⟩
theorem SWpI.block{id:Nat}{x:ACode}(h:SWpI rd C n k x (blkQ id Q) J O):SWpI rd C n k (.block id x) Q J O:=by
 intro c hc m Z0 w0 hgl hk Z a w hst hR hE hn
 obtain⟨c1,rfl,h1⟩:=zdh hc
 refine wpIn_block (wpIn_mono (h c1 h1 m Z0 w0 hgl hk Z a w hst hR hE hn) ?_)
 rintro e a' w' ⟨ae,J',O',Z',rfl,hq,q⟩
 cases ae with
 |normal=>exact⟨.normal,J',O',Z',rfl,hq,q⟩
 |exit id'=>
  simp only [AExit.out,Exit.inBlock]
  simp only [blkQ]at hq
  split at hq
  ·rename_i he
   rw [if_pos he]
   exact⟨.normal,J',O',Z',rfl,hq,q⟩
  ·rename_i he
   rw [if_neg he]
   exact⟨.exit id',J',O',Z',rfl,hq,q⟩
 |ret=>exact⟨.ret,J',O',Z',rfl,hq,q⟩
theorem SWpI.reg{ops:List AIns}(hs:zey ops=true)(h:z10 C (Q .normal) ops Hist.none J O):SWpI rd C n k (.reg ops) Q J O:=by
 intro c hc m Z0 w0 hgl hk Z a w hst hR hE hn
 obtain⟨id,os,draw,rfl⟩:=zit hc
 obtain⟨hd,hc'⟩:=zaz hc
 clear hc
 have hdst:=zdz hd
 rcases hc' with⟨rfl,hc⟩| ⟨rfl,p,q,hc⟩| ⟨rfl,l,hl,h1⟩
 ·obtain⟨as_,e,hf,hok,hb,h1⟩:=zb1 hc
  cases e
  have hnd:∀o ∈ os,∀c,o.op ≠ .defer c:=fun o ho=>zdi os.toList 0 ops h1 hs o (by simpa using ho)
  have hrun:=z92 (K:=Q .normal) os.toList 0 ops (fun j=>by simp) h1 Hist.none Hist.none J O ⟨fun _ hs=>hs.elim,fun _ _=>trivial,fun _ _=>trivial⟩ h
  obtain⟨s1,R1⟩:=hR.drawn (w':={ w with drawn:=w.drawn+1 }) rfl rfl rfl rfl
  refine wpIn_region_any hf (zpa hnd PostI.tight _ _ _ _ ?_)
  refine zb9 hb hdst os.size (Array.replicate os.size false) (List.range' 0 os.size) (by simp) z9s List.pairwise_lt_range' (zdy os) (by simp)
   (fun x i hx hi hxi=>zlg hok ((z9s i).1 hi).1 hxi) Hist.none J O Z a _ (by simpa using hrun) R1 (hE.mono s1) hn ?_
  intro J' O' Z' a' w' k1 k2 k3 k4 k5 k6
  exact⟨.normal,J',O',Z',rfl,k1,hst.trans (s1.trans k2),k3,k4,k5,k6⟩
 ·rcases hc with hc|hc
  ·obtain⟨_,_,e,_⟩:=zb6 hc
   cases e
  ·obtain⟨_,_,e,_⟩:=zb5 hc
   cases e
 ·cases hl
  have hnd:∀o ∈ os,∀c,o.op ≠ .defer c:=fun o ho=>zdi os.toList 0 ops h1 hs o (by simpa using ho)
  have hrun:=z92 (K:=Q .normal) os.toList 0 ops (fun j=>by simp) h1 Hist.none Hist.none J O ⟨fun _ hs=>hs.elim,fun _ _=>trivial,fun _ _=>trivial⟩ h
  refine wpIn_region (zd5 hnd PostI.tight _ _ _ ?_)
  refine zf5 hdst (List.range os.size) Hist.none J O Z a w (by rw [List.range_eq_range'];simpa using hrun) hR hE hn ?_
  intro J' O' Z' a' w' k1 k2 k3 k4 k5 k6
  exact⟨.normal,J',O',Z',rfl,k1,hst.trans k2,k3,k4,k5,k6⟩
end
end
section
open Go.RowKit
def DefOK(w:World)(a:Act)(w':World)(a':Act):Prop:=
 a'.defers=a.defers \/ ∃D,w.heap.size<=D/\ a'.defers={ target:=.collected D,args:= #[] }::a.defers/\ w'.heap[D]? =some (.deferred (some []))
def PostD(n:Nat)(Q:AExit->Env->Store->Prop)(Z0:Places)(w0:World)(C:Ctx)(a:Act):Exit->Act->World->Prop:=
 fun e a' w'=>∃ae J' O' Z',e=AExit.out ae/\ Q ae J' O'/\ Step Z0 w0 Z' w'/\ Rel C Z' O' w'/\ EnvR Z' w' J' a'.tmps/\ DefOK w0 a w' a'/\ a'.tmps.size=n
def SWpD(C:Ctx)(n k:Nat)(ac:ACode)(Q:AExit->Env->Store->Prop)(J:Env)(O:Store):Prop:=
 ∀(c:Code),z1g C n c=some ac->∀(Z0:Places) (w0:World),Glob C Z0 w0->Z0.length=k->∀(Z:Places) (a:Act) (w:World),Step Z0 w0 Z w->Rel C Z O w->EnvR Z w J a.tmps->a.tmps.size=n->
  c.wpIn Fence.wide 2 C.P (PostD n Q Z0 w0 C a) a w
section
variable {C:Ctx} {n k:Nat} {Q:AExit->Env->Store->Prop} {J:Env} {O:Store}
theorem SWpD.of(h:zW C n k ac Q J O):SWpD C n k ac Q J O:=by
 intro c hc Z0 w0 hgl hk Z a w hst hR hE hn
 refine wpIn_mono (wpIn_wide.2 (h c hc Z0 w0 hgl hk Z a w hst hR hE hn)) ?_
 rintro e a' w' ⟨ae,J',O',Z',h1,h2,h3,h4,h5,h6,h7⟩
 exact⟨ae,J',O',Z',h1,h2,h3,h4,h5,.inl h6,h7⟩
theorem SWpD.block{id:Nat}{x:ACode}(h:SWpD C n k x (blkQ id Q) J O):SWpD C n k (.block id x) Q J O:=by
 intro c hc Z0 w0 hgl hk Z a w hst hR hE hn
 obtain⟨c1,rfl,h1⟩:=zdh hc
 refine wpIn_block (wpIn_mono (h c1 h1 Z0 w0 hgl hk Z a w hst hR hE hn) ?_)
 rintro e a' w' ⟨ae,J',O',Z',rfl,hq,q⟩
 cases ae with
 |normal=>exact⟨.normal,J',O',Z',rfl,hq,q⟩
 |exit id'=>
  simp only [AExit.out,Exit.inBlock]
  simp only [blkQ]at hq
  split at hq
  ·rename_i he
   rw [if_pos he]
   exact⟨.normal,J',O',Z',rfl,hq,q⟩
  ·rename_i he
   rw [if_neg he]
   exact⟨.exit id',J',O',Z',rfl,hq,q⟩
 |ret=>exact⟨.ret,J',O',Z',rfl,hq,q⟩
end
theorem VRss.elem{Z:Places}{w:World}{k:Nat}:∀{es:List (List AV)} {vals:List Value},VRss Z w es vals->(∀e ∈ es,e.length=k)->∀{i:Nat} {e:List AV},es[i]? =some e->∃A v B,vals=A++v++B/\ A.length=i*k/\ VRs Z w e v
 | [],vals,h,_,i,e,hi=>by simp at hi
 |x::es,vals,h,hu,i,e,hi=>by
  simp only [VRss]at h
  obtain⟨v1,v2,rfl,h1,h2⟩:=h
  cases i with
  |zero=>
   simp at hi;subst hi
   exact⟨[],v1,v2,by simp,by simp,h1⟩
  |succ i=>
   simp at hi
   obtain⟨A,v,B,rfl,h3,h4⟩:=VRss.elem h2 (fun e he=>hu e (by simp [he])) hi
   refine⟨v1++A,v,B,by simp [List.append_assoc],?_,h4⟩
   rw [List.length_append,h3,<-h1.length,hu x (by simp),Nat.succ_mul,Nat.add_comm]
end
section
def zda(C:Ctx)(n k:Nat)(x:ACode)(Q:AExit->Env->Store->Prop):Nat->Env->Store->Prop
 | 0,_,_=>False
 |m+1,J,O=>zW C n k x (z4x (zda C n k x Q m) Q) J O
theorem z12t{K K':Env->Store->Prop}{Q Q':AExit->Env->Store->Prop}(hk:∀J O,K J O->K' J O)(hq:∀e J O,Q e J O->Q' e J O)(e:AExit)(J:Env)(O:Store)(h:z4x K Q e J O):z4x K' Q' e J O:=by
 cases e with
 |normal=>exact hk _ _ h
 |exit id=>exact hq _ _ _ h
 |ret=>exact hq _ _ _ h
theorem zW.rounds{C:Ctx}{n k m:Nat}{x:ACode}{Q:AExit->Env->Store->Prop}{J:Env}{O:Store}(h:zda C n k x Q m J O):zW C n k (.loop x) Q J O:=by
 refine zW.loop (fun m J O=>zda C n k x Q m J O) m h ?_
 intro m J O hm
 cases m with
 |zero=>exact hm.elim
 |succ m=>exact zW.mono hm (z12t (fun J O h=>⟨m,Nat.lt_succ_self m,h⟩) fun _ _ _ h=>h)
mutual
def rlB(k:Nat):AV->Bool
 | .ptr r _ _=>Nat.blt r k
 | .sl r _ _ _ _=>Nat.blt r k
 | .asl r _ _ _ _ _=>Nat.blt r k
 | .bld r=>Nat.blt r k
 | .bsl r _=>Nat.blt r k
 | .vp cs=>rlsB k cs
 | .vsl _ es _=>zcr k es
 | .fn _ caps=>rlsB k caps
 | .agg cs=>rlsB k cs
 | .tup vs=>rlsB k vs
 | _=>true
def rlsB(k:Nat):List AV->Bool
 | []=>true
 |a::as_=>rlB k a && rlsB k as_
def zcr(k:Nat):List (List AV)->Bool
 | []=>true
 |e::es=>rlsB k e && zcr k es
end
mutual
theorem z15{k:Nat}:∀(a:AV),rlB k a=true->RL k a
 | .ptr r _ _,h=>by simpa [rlB,RL]using h
 | .sl r _ _ _ _,h=>by simpa [rlB,RL]using h
 | .asl r _ _ _ _ _,h=>by simpa [rlB,RL]using h
 | .bld r,h=>by simpa [rlB,RL]using h
 | .bsl r _,h=>by simpa [rlB,RL]using h
 | .vp cs,h=>by simp only [rlB]at h;simp only [RL];exact z83 cs h
 | .vsl _ es _,h=>by simp only [rlB]at h;simp only [RL];exact znh es h
 | .fn _ caps,h=>by simp only [rlB]at h;simp only [RL];exact z83 caps h
 | .agg cs,h=>by simp only [rlB]at h;simp only [RL];exact z83 cs h
 | .tup vs,h=>by simp only [rlB]at h;simp only [RL];exact z83 vs h
 | .bnil,_=>by simp only [RL]
 | .any,_=>by simp only [RL]
 | .undef,_=>by simp only [RL]
 | .bool _,_=>by simp only [RL]
 | .int _ _,_=>by simp only [RL]
 | .str _,_=>by simp only [RL]
 | .nilp,_=>by simp only [RL]
 | .nilsl,_=>by simp only [RL]
 | .nilfn,_=>by simp only [RL]
theorem z83{k:Nat}:∀(l:List AV),rlsB k l=true->RLs k l
 | [],_=>by simp only [RLs]
 |a::l,h=>by simp only [rlsB,Bool.and_eq_true]at h;simp only [RLs];exact⟨z15 a h.1,z83 l h.2⟩
theorem znh{k:Nat}:∀(l:List (List AV)),zcr k l=true->RLss k l
 | [],_=>by simp only [RLss]
 |a::l,h=>by simp only [zcr,Bool.and_eq_true]at h;simp only [RLss];exact⟨z83 a h.1,znh l h.2⟩
end
section
variable {C:Ctx}
end
end
section
open Go.ChangeShapes Go.WideShapes Go.ChangeAt Go.RowKit
theorem Rel.empty(hg:∀g,C.gl g=none)(w:World):Rel C [] [] w:=
 ⟨rfl,by simp,by simp,by simp,fun g cs h=>by rw [hg]at h;cases h⟩
theorem ACallsTo.calls{e:Nat × List RV × ACode}(hc:cFn C f=some e){args:List AV}{O':Store}{b:Bool}(h:ACallsTo C f args [] (.bool b) O'){W:World}(hR:Rel C [] [] W){cargs:List Value}(ha:VRt [] W args cargs):
  Calls C.P f cargs.toArray W fun e w'=>e=.returned (.bool b)/\ Below W.heap.size W w':=by
 rcases h [] W cargs hR ha with⟨_,h⟩| ⟨cv,Z',w',h,_⟩
 ·refine h.mono ?_
  rintro e w' ⟨cv,Z',rfl,hs,_,hv⟩
  simp only [VR]at hv
  subst hv
  exact⟨rfl,hs.os,hs.tape,hs.output,hs.size,fun k hk=>hs.imm k hk (by simp)⟩
 ·exfalso
  simp only [cFn,Option.bind_eq_some_iff]at hc
  obtain⟨fn,hf,hc⟩:=hc
  split at hc
  ·cases hc
  ·rename_i hname
   simp only [Option.bind_eq_some_iff]at hc
   obtain⟨c,hb,_⟩:=hc
   have h1:fn.name ≠ "runtime.NumGoroutine" :=by simpa using hname
   simp [callFunc,hf,h1,hb]at h
section
variable {H:Type} {enc:TypeId × Value->H} {P:Program}
theorem zox (hl : laidOutB P = true) {W W' : World} (hb : Below W.heap.size W W') : ∀ {ts : List TypeId} {vs : List Value} {ds : List (DataW H)} {ps : List MemPlace}, (ts.all fun t => P.readableRec t && decide (t < P.types.size)) = true ->
    DataW.TrodAll enc P W 0 (fun _=>true) true ts vs ds ps->(∀x ∈ ps,x.block<W.heap.size)->DataW.TrodAll enc P W' 0 (fun b=>decide (b<W.heap.size)) true ts vs ds ps
  | [],[],[],_,_,h,_=>h
  |t::ts,v::vs,d::ds,ps,ht,h,hlt=>by
    obtain⟨p,q,h1,h2,rfl⟩:=h
    simp only [List.all_cons,Bool.and_eq_true,decide_eq_true_eq]at ht
    exact⟨p,q,Below.trod hl ht.1.1 ht.1.2 h1 hb (fun x hx=>hlt x (by simp [hx])),zox hl hb ht.2 h2 (fun x hx=>hlt x (by simp [hx])),rfl⟩
  | [],[],_::_,_,_,h,_=>h.elim
  | [],_::_,_,_,_,h,_=>h.elim
  | _::_,[],_,_,_,h,_=>h.elim
  | _::_,_::_,[],_,_,h,_=>h.elim
theorem zva{f:Func}{s:ChangeSpec}{W W':World}{args:Array Value}{ds gs:List (DataW H)}{before:List MemPlace}{tb:TypeId}
  (hW:DataW.Whole enc P f.params.toList s.vars false W args.toList ds gs before) (hvars:s.vars=[]) (hfn:∀gs,gs=[]->(s.fn H (ds++gs)).results=[.lit (.bool true)]/\ (s.fn H (ds++gs)).args=ds/\ (s.fn H (ds++gs)).vars=[])
  (hres:f.resultTypes= #[tb]) (htb:P.underlying tb=some .bool) (hl:laidOutB P=true) (hpar:(f.params.toList.all fun t=>P.readableRec t && decide (t<P.types.size))=true) (hb:Below W.heap.size W W'):
  s.post enc P f false true false false W args (.bool true) W':=by
 have hlt:∀p ∈ before,p.block<W.heap.size:=fun p hp=>hW.lt p hp
 have hW0:=hW
 obtain⟨p,q,hA,hV,rfl,hfz,hnd⟩:=hW
 have hgs:gs=[]/\ q=[]:=by
  rw [hvars]at hV
  cases gs with
  |nil=>exact⟨rfl,hV⟩
  |cons a l=>exact hV.elim
 obtain⟨rfl,rfl⟩:=hgs
 obtain⟨k1,k2,k3⟩:=hfn [] rfl
 refine⟨ds,[],_,[],p,[],hW0,?_,?_,?_,hb.frame _,fun h=>by cases h⟩
 ·rw [k1,hres]
  exact trodAll_cons_mk (shut_bool htb _) trodAll_mk0
 ·rw [k2]
  exact zox hl hb hpar hA (fun x hx=>hlt x (by simp [hx]))
 ·rw [k3,hvars];rfl
end
end
section
section
variable {C:Ctx} {K:Env->Store->Prop} {J:Env} {O:Store} {d:Option Nat} {g:Option (Nat × Bool)} {nd:Nd} {is:List AIns} {H:Hist}
theorem z6x{x}:z10 C K (⟨d,g,nd,.mv x⟩::is) H J O=z13 (z10 C K is) H ⟨d,g,nd,.mv x⟩ J O:=rfl
theorem zxt{c}{a}{b}:z10 C K (⟨d,g,nd,.pick c a b⟩::is) H J O=z13 (z10 C K is) H ⟨d,g,nd,.pick c a b⟩ J O:=rfl
theorem zxa{z}:z10 C K (⟨d,g,nd,.alloc z⟩::is) H J O=z13 (z10 C K is) H ⟨d,g,nd,.alloc z⟩ J O:=rfl
theorem zx9:z10 C K (⟨d,g,nd,.allB⟩::is) H J O=z13 (z10 C K is) H ⟨d,g,nd,.allB⟩ J O:=rfl
theorem zxb{s}{x}:z10 C K (⟨d,g,nd,.appB s x⟩::is) H J O=z13 (z10 C K is) H ⟨d,g,nd,.appB s x⟩ J O:=rfl
theorem ow_box{x}:z10 C K (⟨d,g,nd,.box x⟩::is) H J O=z13 (z10 C K is) H ⟨d,g,nd,.box x⟩ J O:=rfl
theorem zxd{z}{ps}:z10 C K (⟨d,g,nd,.build z ps⟩::is) H J O=z13 (z10 C K is) H ⟨d,g,nd,.build z ps⟩ J O:=rfl
theorem ow_lit{sz}{xs}:z10 C K (⟨d,g,nd,.lit sz xs⟩::is) H J O=z13 (z10 C K is) H ⟨d,g,nd,.lit sz xs⟩ J O:=rfl
theorem zxo{ag}{n}{x}:z10 C K (⟨d,g,nd,.load ag n x⟩::is) H J O=z13 (z10 C K is) H ⟨d,g,nd,.load ag n x⟩ J O:=rfl
theorem zxv{n}{a}{x}:z10 C K (⟨d,g,nd,.store n a x⟩::is) H J O=z13 (z10 C K is) H ⟨d,g,nd,.store n a x⟩ J O:=rfl
theorem zxs{x}:z10 C K (⟨d,g,nd,.nilc x⟩::is) H J O=z13 (z10 C K is) H ⟨d,g,nd,.nilc x⟩ J O:=rfl
theorem zbq{op}{bk}{x}{y}:z10 C K (⟨d,g,nd,.bin op bk x y⟩::is) H J O=z13 (z10 C K is) H ⟨d,g,nd,.bin op bk x y⟩ J O:=rfl
theorem ow_un{op}{x}:z10 C K (⟨d,g,nd,.un op x⟩::is) H J O=z13 (z10 C K is) H ⟨d,g,nd,.un op x⟩ J O:=rfl
theorem zls{c}{x}:z10 C K (⟨d,g,nd,.conv c x⟩::is) H J O=z13 (z10 C K is) H ⟨d,g,nd,.conv c x⟩ J O:=rfl
theorem zxr{f}{caps}:z10 C K (⟨d,g,nd,.mkfn f caps⟩::is) H J O=z13 (z10 C K is) H ⟨d,g,nd,.mkfn f caps⟩ J O:=rfl
theorem zxp{sz}{z}{l}{c}:z10 C K (⟨d,g,nd,.make sz z l c⟩::is) H J O=z13 (z10 C K is) H ⟨d,g,nd,.make sz z l c⟩ J O:=rfl
theorem zxu{k}{x}{lo}{hi}{mx}:z10 C K (⟨d,g,nd,.slice k x lo hi mx⟩::is) H J O=z13 (z10 C K is) H ⟨d,g,nd,.slice k x lo hi mx⟩ J O:=rfl
theorem ow_fa{k}{x}:z10 C K (⟨d,g,nd,.fa k x⟩::is) H J O=z13 (z10 C K is) H ⟨d,g,nd,.fa k x⟩ J O:=rfl
theorem ow_fld{ag}{n}{off}{x}:z10 C K (⟨d,g,nd,.fld ag n off x⟩::is) H J O=z13 (z10 C K is) H ⟨d,g,nd,.fld ag n off x⟩ J O:=rfl
theorem zxh{n}{sz}{x}{i}:z10 C K (⟨d,g,nd,.iaArr n sz x i⟩::is) H J O=z13 (z10 C K is) H ⟨d,g,nd,.iaArr n sz x i⟩ J O:=rfl
theorem zxi{sz}{x}{i}:z10 C K (⟨d,g,nd,.iaSl sz x i⟩::is) H J O=z13 (z10 C K is) H ⟨d,g,nd,.iaSl sz x i⟩ J O:=rfl
theorem zxj{n}{ag}{sz}{x}{i}:z10 C K (⟨d,g,nd,.ixArr n ag sz x i⟩::is) H J O=z13 (z10 C K is) H ⟨d,g,nd,.ixArr n ag sz x i⟩ J O:=rfl
theorem zxk{x}{i}:z10 C K (⟨d,g,nd,.ixStr x i⟩::is) H J O=z13 (z10 C K is) H ⟨d,g,nd,.ixStr x i⟩ J O:=rfl
theorem ow_ext{i}{x}:z10 C K (⟨d,g,nd,.ext i x⟩::is) H J O=z13 (z10 C K is) H ⟨d,g,nd,.ext i x⟩ J O:=rfl
theorem zxn{x}:z10 C K (⟨d,g,nd,.lenStr x⟩::is) H J O=z13 (z10 C K is) H ⟨d,g,nd,.lenStr x⟩ J O:=rfl
theorem zxm{x}:z10 C K (⟨d,g,nd,.lenSl x⟩::is) H J O=z13 (z10 C K is) H ⟨d,g,nd,.lenSl x⟩ J O:=rfl
theorem zxl{n}:z10 C K (⟨d,g,nd,.lenArr n⟩::is) H J O=z13 (z10 C K is) H ⟨d,g,nd,.lenArr n⟩ J O:=rfl
theorem ow_app{sz}{s}{x}:z10 C K (⟨d,g,nd,.app sz s x⟩::is) H J O=z13 (z10 C K is) H ⟨d,g,nd,.app sz s x⟩ J O:=rfl
theorem zxg{sz}{e}{s}:z10 C K (⟨d,g,nd,.copy sz e s⟩::is) H J O=z13 (z10 C K is) H ⟨d,g,nd,.copy sz e s⟩ J O:=rfl
theorem zxf{z}{x}:z10 C K (⟨d,g,nd,.clear z x⟩::is) H J O=z13 (z10 C K is) H ⟨d,g,nd,.clear z x⟩ J O:=rfl
theorem zxe{x}:z10 C K (⟨d,g,nd,.capSl x⟩::is) H J O=z13 (z10 C K is) H ⟨d,g,nd,.capSl x⟩ J O:=rfl
theorem zxc{sz}{z}{s}{n}:z10 C K (⟨d,g,nd,.appZ sz z s n⟩::is) H J O=z13 (z10 C K is) H ⟨d,g,nd,.appZ sz z s n⟩ J O:=rfl
theorem zxq{mx}{x}{y}:z10 C K (⟨d,g,nd,.minmax mx x y⟩::is) H J O=z13 (z10 C K is) H ⟨d,g,nd,.minmax mx x y⟩ J O:=rfl
variable {lj mj:List AIns}
theorem oj_mv{x}:z14 C K lj mj (⟨d,g,nd,.mv x⟩::is) H J O=z13 (z14 C K lj mj is) H ⟨d,g,nd,.mv x⟩ J O:=rfl
theorem zww{c}{a}{b}:z14 C K lj mj (⟨d,g,nd,.pick c a b⟩::is) H J O=z13 (z14 C K lj mj is) H ⟨d,g,nd,.pick c a b⟩ J O:=rfl
theorem zwb{z}:z14 C K lj mj (⟨d,g,nd,.alloc z⟩::is) H J O=z13 (z14 C K lj mj is) H ⟨d,g,nd,.alloc z⟩ J O:=rfl
theorem zwa:z14 C K lj mj (⟨d,g,nd,.allB⟩::is) H J O=z13 (z14 C K lj mj is) H ⟨d,g,nd,.allB⟩ J O:=rfl
theorem zwc{s}{x}:z14 C K lj mj (⟨d,g,nd,.appB s x⟩::is) H J O=z13 (z14 C K lj mj is) H ⟨d,g,nd,.appB s x⟩ J O:=rfl
theorem oj_box{x}:z14 C K lj mj (⟨d,g,nd,.box x⟩::is) H J O=z13 (z14 C K lj mj is) H ⟨d,g,nd,.box x⟩ J O:=rfl
theorem zwe{z}{ps}:z14 C K lj mj (⟨d,g,nd,.build z ps⟩::is) H J O=z13 (z14 C K lj mj is) H ⟨d,g,nd,.build z ps⟩ J O:=rfl
theorem oj_lit{sz}{xs}:z14 C K lj mj (⟨d,g,nd,.lit sz xs⟩::is) H J O=z13 (z14 C K lj mj is) H ⟨d,g,nd,.lit sz xs⟩ J O:=rfl
theorem zwr{ag}{n}{x}:z14 C K lj mj (⟨d,g,nd,.load ag n x⟩::is) H J O=z13 (z14 C K lj mj is) H ⟨d,g,nd,.load ag n x⟩ J O:=rfl
theorem zwy{n}{a}{x}:z14 C K lj mj (⟨d,g,nd,.store n a x⟩::is) H J O=z13 (z14 C K lj mj is) H ⟨d,g,nd,.store n a x⟩ J O:=rfl
theorem zwv{x}:z14 C K lj mj (⟨d,g,nd,.nilc x⟩::is) H J O=z13 (z14 C K lj mj is) H ⟨d,g,nd,.nilc x⟩ J O:=rfl
theorem oj_bin{op}{bk}{x}{y}:z14 C K lj mj (⟨d,g,nd,.bin op bk x y⟩::is) H J O=z13 (z14 C K lj mj is) H ⟨d,g,nd,.bin op bk x y⟩ J O:=rfl
theorem oj_un{op}{x}:z14 C K lj mj (⟨d,g,nd,.un op x⟩::is) H J O=z13 (z14 C K lj mj is) H ⟨d,g,nd,.un op x⟩ J O:=rfl
theorem zwi{c}{x}:z14 C K lj mj (⟨d,g,nd,.conv c x⟩::is) H J O=z13 (z14 C K lj mj is) H ⟨d,g,nd,.conv c x⟩ J O:=rfl
theorem zwu{f}{caps}:z14 C K lj mj (⟨d,g,nd,.mkfn f caps⟩::is) H J O=z13 (z14 C K lj mj is) H ⟨d,g,nd,.mkfn f caps⟩ J O:=rfl
theorem zws{sz}{z}{l}{c}:z14 C K lj mj (⟨d,g,nd,.make sz z l c⟩::is) H J O=z13 (z14 C K lj mj is) H ⟨d,g,nd,.make sz z l c⟩ J O:=rfl
theorem zwx{k}{x}{lo}{hi}{mx}:z14 C K lj mj (⟨d,g,nd,.slice k x lo hi mx⟩::is) H J O=z13 (z14 C K lj mj is) H ⟨d,g,nd,.slice k x lo hi mx⟩ J O:=rfl
theorem oj_fa{k}{x}:z14 C K lj mj (⟨d,g,nd,.fa k x⟩::is) H J O=z13 (z14 C K lj mj is) H ⟨d,g,nd,.fa k x⟩ J O:=rfl
theorem oj_fld{ag}{n}{off}{x}:z14 C K lj mj (⟨d,g,nd,.fld ag n off x⟩::is) H J O=z13 (z14 C K lj mj is) H ⟨d,g,nd,.fld ag n off x⟩ J O:=rfl
theorem zwk{n}{sz}{x}{i}:z14 C K lj mj (⟨d,g,nd,.iaArr n sz x i⟩::is) H J O=z13 (z14 C K lj mj is) H ⟨d,g,nd,.iaArr n sz x i⟩ J O:=rfl
theorem zwl{sz}{x}{i}:z14 C K lj mj (⟨d,g,nd,.iaSl sz x i⟩::is) H J O=z13 (z14 C K lj mj is) H ⟨d,g,nd,.iaSl sz x i⟩ J O:=rfl
theorem zwm{n}{ag}{sz}{x}{i}:z14 C K lj mj (⟨d,g,nd,.ixArr n ag sz x i⟩::is) H J O=z13 (z14 C K lj mj is) H ⟨d,g,nd,.ixArr n ag sz x i⟩ J O:=rfl
theorem zwn{x}{i}:z14 C K lj mj (⟨d,g,nd,.ixStr x i⟩::is) H J O=z13 (z14 C K lj mj is) H ⟨d,g,nd,.ixStr x i⟩ J O:=rfl
theorem oj_ext{i}{x}:z14 C K lj mj (⟨d,g,nd,.ext i x⟩::is) H J O=z13 (z14 C K lj mj is) H ⟨d,g,nd,.ext i x⟩ J O:=rfl
theorem zwq{x}:z14 C K lj mj (⟨d,g,nd,.lenStr x⟩::is) H J O=z13 (z14 C K lj mj is) H ⟨d,g,nd,.lenStr x⟩ J O:=rfl
theorem zwp{x}:z14 C K lj mj (⟨d,g,nd,.lenSl x⟩::is) H J O=z13 (z14 C K lj mj is) H ⟨d,g,nd,.lenSl x⟩ J O:=rfl
theorem zwo{n}:z14 C K lj mj (⟨d,g,nd,.lenArr n⟩::is) H J O=z13 (z14 C K lj mj is) H ⟨d,g,nd,.lenArr n⟩ J O:=rfl
theorem oj_app{sz}{s}{x}:z14 C K lj mj (⟨d,g,nd,.app sz s x⟩::is) H J O=z13 (z14 C K lj mj is) H ⟨d,g,nd,.app sz s x⟩ J O:=rfl
theorem zwj{sz}{e}{s}:z14 C K lj mj (⟨d,g,nd,.copy sz e s⟩::is) H J O=z13 (z14 C K lj mj is) H ⟨d,g,nd,.copy sz e s⟩ J O:=rfl
theorem zwh{z}{x}:z14 C K lj mj (⟨d,g,nd,.clear z x⟩::is) H J O=z13 (z14 C K lj mj is) H ⟨d,g,nd,.clear z x⟩ J O:=rfl
theorem zwg{x}:z14 C K lj mj (⟨d,g,nd,.capSl x⟩::is) H J O=z13 (z14 C K lj mj is) H ⟨d,g,nd,.capSl x⟩ J O:=rfl
theorem zwd{sz}{z}{s}{n}:z14 C K lj mj (⟨d,g,nd,.appZ sz z s n⟩::is) H J O=z13 (z14 C K lj mj is) H ⟨d,g,nd,.appZ sz z s n⟩ J O:=rfl
theorem zwt{mx}{x}{y}:z14 C K lj mj (⟨d,g,nd,.minmax mx x y⟩::is) H J O=z13 (z14 C K lj mj is) H ⟨d,g,nd,.minmax mx x y⟩ J O:=rfl
theorem oj_nil:z14 C K lj mj [] H J O=(z10 C K lj H J O/\ z10 C K mj H J O):=rfl
theorem zwf{f}{xs}:z14 C K lj mj (⟨d,g,nd,.call f xs⟩::is) H J O=z2n C (z14 C K lj mj is) H J O d nd f xs (z1x J g):=rfl
theorem zd6{k:IntKind}(hk:k.signed=false)(n:Int):k.wrap n=n%2^k.bits:=by simp [IntKind.wrap,hk]
theorem u_nat{k:IntKind}(hk:k.signed=false)(x:BitVec k.bits):k.wrap (x.toNat:Int)=x.toNat:=by
 rw [zd6 hk]
 have:=x.isLt
 rw [Int.emod_eq_of_lt (by omega)]
 exact_mod_cast this
theorem getElem?_app{l:Store}:(O++l)[O.length+k]? =l[k]?:=by rw [List.getElem?_append_right (by omega),Nat.add_sub_cancel_left]
theorem getElem?_app0{l:Store}:(O++l)[O.length]? =l[0]?:=getElem?_app (k:=0)
theorem zny{l:Store}{x:Option AObj}:(O++l).set (O.length+k) x=O++l.set k x:=by rw [List.set_append_right _ _ (by omega),Nat.add_sub_cancel_left]
theorem z10b{l:Store}{x:Option AObj}:(O++l).set O.length x=O++l.set 0 x:=zny (k:=0)
end
end
section
open Go.ChangeShapes Go.WideShapes Go.ChangeAt Go.RowKit
inductive Ty where
 |int (k:IntKind)
 |bool
 |str
 |sl (sz:Nat) (e:Ty)
 |row (ts:List Ty)
 deriving Inhabited
def tile(P:Program):List Field->Nat->Option Nat
 | [],n=>some n
 |f::l,n=>if f.offset=n then tile P l (n+P.cellsOf f.type)else none
def tyOf(P:Program):Nat->TypeId->Option Ty
 | 0,_=>none
 |d+1,t=>match P.underlying t with
  |some .bool=>some .bool
  |some (.int k)=>some (.int k)
  |some .string=>some .str
  |some (.slice e)=>if 0<P.cellsOf e then(tyOf P d e).map (.sl (P.cellsOf e))else none
  |some (.struct fs)=>if tile P fs.toList 0=some (P.cellsOf t)then(fs.toList.mapM fun f=>tyOf P d f.type).map .row else none
  |some (.array n e)=>if P.cellsOf t=n*P.cellsOf e then(tyOf P d e).map fun ty=> .row (List.replicate n ty)else none
  | _=>none
mutual
def ShC:Ty->List AV->Prop
 | .int k,cs=>∃n,cs=[.int k n]/\ k.min<=n/\ n<=k.max
 | .bool,cs=>∃b,cs=[.bool b]
 | .str,cs=>∃s:List UInt8,cs=[.str s]/\ s.length<=maxLen
 | .sl sz e,cs=>cs=[.nilsl] \/ ∃es,cs=[.vsl sz es false]/\ es.length<=maxLen/\ (∀x ∈ es,x.length=sz)/\ ∀x ∈ es,ShC e x
 | .row ts,cs=>z3m ts cs
def z3m:List Ty->List AV->Prop
 | [],cs=>cs=[]
 |t::ts,cs=>∃a b,cs=a++b/\ ShC t a/\ z3m ts b
end
def Sh:Ty->AV->Prop
 | .row ts,a=>∃cs,a=.agg cs/\ z3m ts cs
 |t,a=>ShC t [a]
def z8k:List Ty->List AV->Prop
 | [],avs=>avs=[]
 |t::ts,avs=>∃a avs',avs=a::avs'/\ Sh t a/\ z8k ts avs'
section
variable {H:Type} {enc:TypeId × Value->H} {P:Program} {w:World}
theorem zdq{base:Nat}{a:Addr}{n:Nat}{cs:List Value}(h:w.cells? base a n=some cs):cs.length=n/\ ∀i,i<n->w.cell? (a.add i)=cs[i]?:=
 ⟨(World.cells?_some h).2.1,(World.cells?_some h).2.2⟩
theorem zj7{a:Addr}{v:Value}(h:w.cell? a=some v):a.spot=none/\ ∃c ty fz,w.heap[a.block]? =some (.cells c ty fz)/\ c[a.off]? =some v:=by
 unfold World.cell? at h
 split at h
 ·rename_i c ty fz hh
  split at h
  ·cases h
  ·rename_i hs
   exact⟨by simpa using hs,c,ty,fz,hh,h⟩
 ·cases h
theorem seg_of{b o n:Nat}{vals:List Value}(hn:0<n)(hl:vals.length<=n)(hall:∀k,k<n->∃v,w.cell? ⟨b,o+k,none⟩=some v)(hv:∀k,k<vals.length->w.cell? ⟨b,o+k,none⟩=vals[k]?):
  b<w.heap.size/\ Seg w b o vals:=by
 obtain⟨v0,h0⟩:=hall 0 hn
 obtain⟨_,c,ty,fz,hc,h0'⟩:=zj7 h0
 simp only [Nat.add_zero]at hc h0'
 have hget:∀k,w.cell? ⟨b,k,none⟩=c[k]?:=fun k=>by simp [World.cell?,hc]
 have ho:o+vals.length<=c.size:=by
  by_cases hz:vals.length=0
  ·have:=(Array.getElem?_eq_some_iff.1 h0').1;omega
  ·have:=hv (vals.length-1) (by omega)
   rw [hget,List.getElem?_eq_getElem (by omega)]at this
   have:=(Array.getElem?_eq_some_iff.1 this).1;omega
 refine⟨?_,c,ty,fz,c.toList.take o,c.toList.drop (o+vals.length),hc,?_,by simp;omega⟩
 ·rcases Nat.lt_or_ge b w.heap.size with h|h
  ·exact h
  ·simp [Array.getElem?_eq_none h]at hc
 ·have e:vals=(c.toList.drop o).take vals.length:=by
   apply List.ext_getElem?
   intro k
   simp only [List.getElem?_take,List.getElem?_drop]
   by_cases hk:k<vals.length
   ·rw [if_pos hk,<-hv k hk,hget];simp
   ·rw [if_neg hk,List.getElem?_eq_none (by omega)]
  conv=>lhs;rw [<-List.take_append_drop o c.toList,<-List.take_append_drop vals.length (c.toList.drop o),<-e]
  simp [List.append_assoc]
theorem zmz {n : Nat} {spare : Nat -> Bool} {held : Bool} {base : Nat} {cs : List Value} {d : Nat}
    (ih:∀(t:TypeId) (ty:Ty) (cs:List Value) (x:DataW H × List MemPlace),tyOf P d t=some ty->DataW.trod enc P w base spare held n t cs=some x->cs.length=P.cellsOf t->∃avs,VRs [] w avs cs/\ ShC ty avs):
    ∀(l:List Field) (k:Nat) (tys:List Ty),tile P l k=some cs.length->l.mapM (fun f=>tyOf P d f.type)=some tys->
      (∀f ∈ l,∃x,DataW.trod enc P w base spare held n f.type ((cs.drop f.offset).take (P.cellsOf f.type))=some x)->k<=cs.length->∃avs,VRs [] w avs (cs.drop k)/\ z3m tys avs
  | [],k,tys,hk,ht,_,_=>by
    simp only [tile,Option.some.injEq]at hk
    simp at ht
    subst ht
    exact⟨[],by rw [hk];simp [VRs],by simp [z3m]⟩
  |f::l,k,tys,hk,ht,hx,hle=>by
    simp only [tile]at hk
    split at hk
    · rename_i hf
      simp only [List.mapM_cons,Option.bind_eq_bind,Option.bind_eq_some_iff,Option.pure_def,Option.some.injEq]at ht
      obtain⟨ty,hty,tys',htys,rfl⟩:=ht
      have hle2:k+P.cellsOf f.type<=cs.length:=by
        have:∀(l:List Field) (a b:Nat),tile P l a=some b->a<=b:=by
          intro l
          induction l with
          |nil=>intro a b h;simp [tile]at h;omega
          | cons f l ih => intro a b h; simp only [tile] at h; split at h; · have := ih _ _ h; omega
                           · cases h
        exact this l _ _ hk
      obtain⟨x,hx1⟩:=hx f (by simp)
      obtain⟨avs,h1,h2⟩:=ih f.type ty _ x hty hx1 (by simp;omega)
      obtain⟨bs,h3,h4⟩:=zmz ih l (k+P.cellsOf f.type) tys' hk htys (fun g hg=>hx g (by simp [hg])) hle2
      refine⟨avs++bs,?_,avs,bs,rfl,h2,h4⟩
      have e:cs.drop k=(cs.drop k).take (P.cellsOf f.type)++cs.drop (k+P.cellsOf f.type):=by
        rw [<-List.drop_drop,List.take_append_drop]
      rw [e]
      rw [hf]at h1
      exact h1.append h3
    · cases hk
theorem zmy{n:Nat}{spare:Nat->Bool}{held:Bool}{base:Nat}{d:Nat}{e:TypeId}{ty:Ty}(hty:tyOf P d e=some ty)
  (ih:∀(t:TypeId) (ty:Ty) (cs:List Value) (x:DataW H × List MemPlace),tyOf P d t=some ty->DataW.trod enc P w base spare held n t cs=some x->cs.length=P.cellsOf t->∃avs,VRs [] w avs cs/\ ShC ty avs):
  ∀(m:Nat) (cs:List Value),cs.length=m*P.cellsOf e->(∀i,i<m->∃x,DataW.trod enc P w base spare held n e ((cs.drop (i*P.cellsOf e)).take (P.cellsOf e))=some x)->
   ∃avs,VRs [] w avs cs/\ z3m (List.replicate m ty) avs
 | 0,cs,hl,_=>by
  have:cs=[]:=List.eq_nil_of_length_eq_zero (by simpa using hl)
  subst this
  exact⟨[],by simp [VRs],by simp [z3m]⟩
 |m+1,cs,hl,hx=>by
  rw [Nat.succ_mul]at hl
  obtain⟨x,h0⟩:=hx 0 (by omega)
  simp only [Nat.zero_mul,List.drop_zero]at h0
  obtain⟨avs,h1,h2⟩:=ih e ty _ x hty h0 (by simp;omega)
  obtain⟨bs,h3,h4⟩:=zmy hty ih m (cs.drop (P.cellsOf e)) (by simp;omega) (fun i hi=>by
   obtain⟨y,hy⟩:=hx (i+1) (by omega)
   refine⟨y,?_⟩
   rw [List.drop_drop,Nat.add_comm,<-Nat.succ_mul];exact hy)
  refine⟨avs++bs,?_,avs,bs,rfl,h2,h4⟩
  rw [<-List.take_append_drop (P.cellsOf e) cs]
  exact h1.append h3
theorem zfv{base:Nat}{held:Bool}:∀(fuel d:Nat) (t:TypeId) (ty:Ty) (cs:List Value) (x:DataW H × List MemPlace),tyOf P d t=some ty->
  DataW.trod enc P w base (fun _=>true) held fuel t cs=some x->∃avs,VRs [] w avs cs/\ ShC ty avs
 | 0,_,_,_,_,_,_,h=>by simp [DataW.trod]at h
 | _+1,0,_,_,_,_,ht,_=>by simp [tyOf]at ht
 |fuel+1,d+1,t,ty,cs,x,ht,h=>by
  have ih:=fun(t:TypeId) (ty:Ty) (cs:List Value) (x:DataW H × List MemPlace) (h1:tyOf P d t=some ty) (h2:DataW.trod enc P w base (fun _=>true) held fuel t cs=some x) (_:cs.length=P.cellsOf t)=>zfv fuel d t ty cs x h1 h2
  unfold tyOf at ht
  split at ht
  ·rename_i hu
   simp only [Option.some.injEq]at ht;subst ht
   obtain⟨b,rfl,_⟩:=DataW.trod_bool hu h
   exact⟨[.bool b],.one ⟨VR.bool,rfl⟩,by simp [ShC]⟩
  ·rename_i k hu
   simp only [Option.some.injEq]at ht;subst ht
   obtain⟨n,rfl,_,hw⟩:=DataW.trod_int hu h
   simp only [Lit.wf,Bool.and_eq_true,decide_eq_true_eq]at hw
   exact⟨[.int k n],.one ⟨VR.int,rfl⟩,by simp only [ShC];exact⟨n,rfl,hw.1,hw.2⟩⟩
  ·rename_i hu
   simp only [Option.some.injEq]at ht;subst ht
   obtain⟨s,rfl,_,hs⟩:=DataW.trod_string hu h
   refine⟨[.str s.data.toList],.one ⟨by simp [VR],rfl⟩,by simp only [ShC];exact⟨_,rfl,by simpa using hs⟩⟩
  ·rename_i e hu
   split at ht
   ·rename_i hpos
    simp only [Option.map_eq_some_iff]at ht
    obtain⟨te,hte,rfl⟩:=ht
    rcases DataW.trod_slice hu h with⟨rfl,_⟩| ⟨a,len,cap,elems,rest,n,hn,rfl,_,hb,hl,hm,hlen,hel,hsp,_⟩
    ·exact⟨[.nilsl],.one ⟨by simp [VR],rfl⟩,by simp [ShC]⟩
    ·obtain⟨hrl,hr⟩:=hsp rfl
     have hn':n=fuel:=by omega
     subst hn'
     -- each element's cells
     have each:∀i,i<cap->∃cs y,w.cells? base (a.add (i*P.cellsOf e)) (P.cellsOf e)=some cs/\ DataW.trod enc P w base (fun _=>true) held n e cs=some y:=by
      intro i hi
      have:∃y,(w.cells? base (a.add (i*P.cellsOf e)) (P.cellsOf e)).bind (DataW.trod enc P w base (fun _=>true) held n e)=some y:=by
       by_cases hil:i<len
       ·rw [hel i hil];exact⟨_,List.getElem?_eq_getElem (by omega)⟩
       ·have:=hr (i-len) (by omega)
        rw [show len+(i-len)=i by omega]at this
        rw [this];exact⟨_,List.getElem?_eq_getElem (by omega)⟩
      obtain⟨y,hy⟩:=this
      rw [Option.bind_eq_some_iff]at hy
      obtain⟨cs,h1,h2⟩:=hy
      exact⟨cs,y,h1,h2⟩
     by_cases hc0:cap=0
     ·subst hc0
      have:len=0:=by omega
      subst this
      exact⟨[.vsl (P.cellsOf e) [] false],.one ⟨by simp only [VR];exact .inl ⟨by simp,a,rfl⟩,rfl⟩,by simp [ShC]⟩
     ·have hspot:a.spot=none:=by
       obtain⟨cs,y,h1,_⟩:=each 0 (by omega)
       obtain⟨hl1,hc1⟩:=zdq h1
       have:=hc1 0 hpos
       rw [List.getElem?_eq_getElem (by omega)]at this
       have:=(zj7 this).1
       simpa [Addr.add]using this
      obtain⟨b,o,spot⟩:=a
      simp only at hspot
      subst hspot
      have cellAt:∀i j,i<cap->j<P.cellsOf e->∃v,w.cell? ⟨b,o+(i*P.cellsOf e+j),none⟩=some v:=by
       intro i j hi hj
       obtain⟨cs,y,h1,_⟩:=each i hi
       obtain⟨hl1,hc1⟩:=zdq h1
       have:=hc1 j hj
       rw [List.getElem?_eq_getElem (by omega)]at this
       rw [add_plain,add_plain,Nat.add_assoc]at this
       exact⟨_,this⟩
      -- the first m elements
      have firsts:∀m,m<=cap->∃(es:List (List AV)) (vals:List Value),es.length=m/\ vals.length=m*P.cellsOf e/\ (∀x ∈ es,x.length=P.cellsOf e)/\ (∀x ∈ es,ShC te x)/\ VRss [] w es vals ∧
        ∀k,k<vals.length->w.cell? ⟨b,o+k,none⟩=vals[k]?:=by
       intro m
       induction m with
       |zero=>intro _;exact⟨[],[],rfl,by simp,by simp,by simp,by simp [VRss],by simp⟩
       |succ m ihm=>
        intro hm'
        obtain⟨es,vals,k1,k2,k3,k4,k5,k6⟩:=ihm (by omega)
        obtain⟨cs,y,h1,h2⟩:=each m (by omega)
        obtain⟨hl1,hc1⟩:=zdq h1
        obtain⟨avs,q1,q2⟩:=zfv n d e te cs y hte h2
        refine⟨es++ [avs],vals++cs,by simp [k1],by simp [k2,hl1,Nat.succ_mul],?_,?_,?_,?_⟩
        ·intro x hx
         simp only [List.mem_append,List.mem_singleton]at hx
         rcases hx with hx|rfl
         ·exact k3 x hx
         ·rw [q1.length,hl1]
        ·intro x hx
         simp only [List.mem_append,List.mem_singleton]at hx
         rcases hx with hx|rfl
         ·exact k4 x hx
         ·exact q2
        ·rw [VRss.flat,List.flatten_append]
         refine(VRss.flat.1 k5).append ?_
         simpa using q1
        ·intro k hk
         by_cases hk1:k<vals.length
         ·rw [List.getElem?_append_left hk1];exact k6 k hk1
         ·rw [List.getElem?_append_right (by omega)]
          simp only [List.length_append]at hk
          have:=hc1 (k-vals.length) (by omega)
          rw [add_plain,add_plain]at this
          rw [<-this,k2]
          congr 2
          omega
      obtain⟨es,vals,k1,k2,k3,k4,k5,k6⟩:=firsts len hl
      have hmul:len*P.cellsOf e<=cap*P.cellsOf e:=Nat.mul_le_mul_right _ hl
      obtain⟨hbl,hseg⟩:=seg_of (w:=w) (b:=b) (o:=o) (n:=cap*P.cellsOf e) (vals:=vals) (Nat.mul_pos (by omega) hpos) (by omega) (by
       intro k hk
       have h1:k/P.cellsOf e<cap:=Nat.div_lt_of_lt_mul (by rw [Nat.mul_comm];exact hk)
       obtain⟨v,hv⟩:=cellAt (k/P.cellsOf e) (k%P.cellsOf e) h1 (Nat.mod_lt _ hpos)
       rw [Nat.mul_comm,Nat.div_add_mod]at hv
       exact⟨v,hv⟩) k6
      refine⟨[.vsl (P.cellsOf e) es false],.one ⟨?_,rfl⟩,?_⟩
      ·simp only [VR]
       right
       exact⟨b,o,cap,vals,by rw [k1],by omega,by simp,⟨hbl,by simp⟩,hseg,k3,k5⟩
      ·simp only [ShC]
       right
       exact⟨es,rfl,by omega,k3,k4⟩
   ·cases ht
  ·rename_i fs hu
   split at ht
   ·rename_i htile
    simp only [Option.map_eq_some_iff]at ht
    obtain⟨tys,htys,rfl⟩:=ht
    obtain⟨xs,n,hn,_,hcl,hxl,hxs⟩:=DataW.trod_struct hu h
    have hn':n=fuel:=by omega
    subst hn'
    obtain⟨avs,h1,h2⟩:=zmz (cs:=cs) ih fs.toList 0 tys (by rw [hcl];exact htile) htys (fun f hf=>by
     obtain⟨i,hi⟩:=List.getElem?_of_mem hf
     have hi':fs[i]? =some f:=by simpa using hi
     rw [hxs i f hi']
     have:i<xs.length:=by rw [hxl];exact(Array.getElem?_eq_some_iff.1 hi').1
     exact⟨_,List.getElem?_eq_getElem this⟩) (Nat.zero_le _)
    exact⟨avs,by simpa using h1,by simpa only [ShC]using h2⟩
   ·cases ht
  ·rename_i n e hu
   split at ht
   ·rename_i hsz
    simp only [Option.map_eq_some_iff]at ht
    obtain⟨te,hte,rfl⟩:=ht
    obtain⟨xs,m,hm,_,hcl,hxl,hxs⟩:=DataW.trod_array hu h
    have hm':m=fuel:=by omega
    subst hm'
    obtain⟨avs,h1,h2⟩:=zmy hte ih n cs (by rw [hcl,hsz]) (fun i hi=>by
     rw [hxs i hi];exact⟨_,List.getElem?_eq_getElem (by omega)⟩)
    exact⟨avs,h1,by simpa only [ShC]using h2⟩
   ·cases ht
  ·cases ht
theorem zx0{r:Reach}{b0 base:Nat}{held:Bool}{d:Nat}{t:TypeId}{ty:Ty}{v:Value}{x:DataW H}{ps:List MemPlace}(ht:tyOf P d t=some ty)(hval:Value.okWide P w r b0 t v)
  (hd:DataW.Trod enc P w base (fun _=>true) held t v x ps):∃a,VR [] w a v/\ Sh ty a:=by
 obtain⟨fuel,hf⟩:=hd
 obtain⟨avs,h1,h2⟩:=zfv fuel d t ty _ _ ht hf
 have one:v.oneCell'=true->(∀ts,ty ≠ .row ts)->∃a,VR [] w a v/\ Sh ty a:=by
  intro hv hr
  rw [zdr hv]at h1
  cases avs with
  |nil=>simp [VRs]at h1
  |cons a avs=>
   simp only [VRs]at h1
   obtain⟨v',vs',he,h3,h4⟩:=h1
   simp only [List.cons.injEq]at he
   obtain⟨rfl,rfl⟩:=he
   have:avs=[]:=by cases avs<;>simp [VRs]at h4 ⊢
   subst this
   refine⟨a,h3.1,?_⟩
   cases ty<;>first|exact h2|exact absurd rfl (hr _)
 have agg:(∃cs,v=.agg cs)->(∃ts,ty=.row ts)->∃a,VR [] w a v/\ Sh ty a:=by
  rintro⟨cs,rfl⟩ ⟨ts,rfl⟩
  simp only [ShC]at h2
  refine⟨.agg avs,?_,avs,rfl,h2⟩
  simp only [VR]
  exact⟨cs.toList,by simp,by simpa [Value.cells]using h1⟩
 cases d with
 |zero=>simp [tyOf]at ht
 |succ d=>
  unfold tyOf at ht
  unfold Value.okWide at hval
  split at ht
  ·rename_i hu
   simp only [Option.some.injEq]at ht;subst ht
   simp only [hu,Cell.okWide,Cell.ok]at hval
   refine one ?_ (by simp)
   cases v<;>simp_all<;>rfl
  ·rename_i k hu
   simp only [Option.some.injEq]at ht;subst ht
   simp only [hu,Cell.okWide,Cell.ok]at hval
   refine one ?_ (by simp)
   cases v<;>simp_all<;>rfl
  ·rename_i hu
   simp only [Option.some.injEq]at ht;subst ht
   simp only [hu,Cell.okWide,Cell.ok]at hval
   refine one ?_ (by simp)
   cases v<;>simp_all<;>rfl
  ·rename_i e hu
   split at ht
   ·simp only [Option.map_eq_some_iff]at ht
    obtain⟨te,_,rfl⟩:=ht
    simp only [hu,Cell.okWide,Cell.ok]at hval
    refine one ?_ (by simp)
    cases v<;>simp_all<;>rfl
   ·cases ht
  ·rename_i fs hu
   split at ht
   ·simp only [Option.map_eq_some_iff]at ht
    obtain⟨te,_,rfl⟩:=ht
    simp only [hu]at hval
    obtain⟨cs,hcs,_⟩:=hval
    exact agg ⟨cs,hcs⟩ ⟨_,rfl⟩
   ·cases ht
  ·rename_i n e hu
   split at ht
   ·simp only [Option.map_eq_some_iff]at ht
    obtain⟨te,_,rfl⟩:=ht
    simp only [hu]at hval
    obtain⟨cs,hcs,_⟩:=hval
    exact agg ⟨cs,hcs⟩ ⟨_,rfl⟩
   ·cases ht
  ·cases ht
def za5(P:Program)(d:Nat):List TypeId->Option (List Ty)
 | []=>some []
 |t::ts=>(tyOf P d t).bind fun ty=>(za5 P d ts).map (ty:: ·)
theorem zln{r:Reach}{b0 base:Nat}{held:Bool}{d:Nat}:∀{ts:List TypeId} {tys:List Ty} {vs:List Value} {xs:List (DataW H)} {ps:List MemPlace},za5 P d ts=some tys->
  (∀(j:Nat) t v,ts[j]? =some t->vs[j]? =some v->Value.okWide P w r b0 t v)->DataW.TrodAll enc P w base (fun _=>true) held ts vs xs ps->∃avs,VRt [] w avs vs/\ z8k tys avs
 | [],tys,vs,xs,ps,ht,_,h=>by
  simp only [za5,Option.some.injEq]at ht;subst ht
  obtain⟨rfl,_⟩:=trodAll_nil h
  exact⟨[],VRt.nil,rfl⟩
 |t::ts,tys,vs,xs,ps,ht,hval,h=>by
  simp only [za5,Option.bind_eq_some_iff,Option.map_eq_some_iff]at ht
  obtain⟨ty,h1,tys',h2,rfl⟩:=ht
  obtain⟨v,vs',x,xs',p,q,rfl,rfl,rfl,h3,h4⟩:=trodAll_cons h
  obtain⟨a,k1,k2⟩:=zx0 h1 (hval 0 t v rfl rfl) h3
  obtain⟨avs,k3,k4⟩:=zln h2 (fun j t' v' hj hv=>hval (j+1) t' v' (by simpa using hj) (by simpa using hv)) h4
  exact⟨a::avs,VRt.cons k1 k3,a,avs,rfl,k2,k4⟩
end
end
section
open Go.ChangeShapes Go.WideShapes Go.ChangeAt Go.RowKit
section
variable {H:Type} {enc:TypeId × Value->H} {P:Program} {w:World}
theorem zoy{base:Nat}{spare:Nat->Bool}{held:Bool}:∀{ts:List TypeId} {vs:List Value} {ds:List (DataW H)} {ps:List MemPlace},DataW.TrodAll enc P w base spare held ts vs ds ps->ds.length=ts.length
 | [],[],[],_,_=>rfl
 |t::ts,v::vs,d::ds,ps,h=>by
  obtain⟨p,q,h1,h2,rfl⟩:=h
  simp [zoy h2]
 | [],[],_::_,_,h=>h.elim
 | [],_::_,_,_,h=>h.elim
 | _::_,[],_,_,h=>h.elim
 | _::_,_::_,[],_,h=>h.elim
end
end
section
mutual
def sh(k:Nat):AV->AV
 | .ptr r i off=> .ptr (k+r) i off
 | .sl r off len lim esz=> .sl (k+r) off len lim esz
 | .asl r i off len cap esz=> .asl (k+r) i off len cap esz
 | .fn f caps=> .fn f (shs k caps)
 | .agg cs=> .agg (shs k cs)
 | .tup vs=> .tup (shs k vs)
 | .any=> .any
 | .undef=> .undef
 | .bool b=> .bool b
 | .int i n=> .int i n
 | .str s=> .str s
 | .nilp=> .nilp
 | .vp _=> .any
 | .nilsl=> .nilsl
 | .vsl _ _ _=> .any
 | .nilfn=> .nilfn
 | .bld r=> .bld (k+r)
 | .bnil=> .bnil
 | .bsl r len=> .bsl (k+r) len
def shs(k:Nat):List AV->List AV
 | []=>[]
 |a::l=>sh k a::shs k l
end
def shss(k:Nat)(es:List (List AV)):List (List AV):=es.map (shs k)
def shS(k:Nat)(O:Store):Store:=O.map (·.map (shss k))
theorem zod(k:Nat):∀l,(shs k l).length=l.length
 | []=>rfl
 | _::l=>by simp [shs,zod k l]
theorem zoc(k:Nat):∀l m,shs k (l++m)=shs k l++shs k m
 | [],_=>rfl
 |a::l,m=>by simp [shs,zoc k l m]
theorem zoe(k:Nat):∀es:List (List AV),(shss k es).flatten=shs k es.flatten
 | []=>rfl
 |e::es=>by
  have:=zoe k es
  simp only [shss]at this
  simp only [shss,List.map_cons,List.flatten_cons,zoc,this]
mutual
theorem zcv{Z Z':Places}{w:World}:∀(a:AV) (v:Value),VR Z' w a v->VR (Z++Z') w (sh Z.length a) v
 | .any,_,_=>by simp only [sh,VR]
 | .undef,_,h=>by simpa only [sh,VR]using h
 | .bool _,_,h=>by simpa only [sh,VR]using h
 | .int _ _,_,h=>by simpa only [sh,VR]using h
 | .str _,_,h=>by simpa only [sh,VR]using h
 | .nilp,_,h=>by simpa only [sh,VR]using h
 | .nilsl,_,h=>by simpa only [sh,VR]using h
 | .nilfn,_,h=>by simpa only [sh,VR]using h
 | .vp _,_,_=>by simp only [sh,VR]
 | .vsl _ _ _,_,_=>by simp only [sh,VR]
 | .ptr r i off,v,h=>by
  simp only [sh,VR]at h ⊢
  obtain⟨fl,pl,h1,h2⟩:=h
  exact⟨fl,pl,by rw [List.getElem?_append_right (by omega),Nat.add_sub_cancel_left];exact h1,h2⟩
 | .sl r off len lim esz,v,h=>by
  simp only [sh,VR]at h ⊢
  obtain⟨fl,pl,b,o,cap,h1,h2⟩:=h
  exact⟨fl,pl,b,o,cap,by rw [List.getElem?_append_right (by omega),Nat.add_sub_cancel_left];exact h1,h2⟩
 | .asl r i off len cap esz,v,h=>by
  simp only [sh,VR]at h ⊢
  obtain⟨fl,pl,b,o,h1,h2⟩:=h
  exact⟨fl,pl,b,o,by rw [List.getElem?_append_right (by omega),Nat.add_sub_cancel_left];exact h1,h2⟩
 | .fn f caps,v,h=>by
  simp only [sh,VR]at h ⊢
  obtain⟨vs,h1,h2⟩:=h
  exact⟨vs,h1,zgx caps vs h2⟩
 | .agg cs,v,h=>by
  simp only [sh,VR]at h ⊢
  obtain⟨vs,h1,h2⟩:=h
  exact⟨vs,h1,zgw cs vs h2⟩
 | .tup cs,v,h=>by
  simp only [sh,VR]at h ⊢
  obtain⟨vs,h1,h2⟩:=h
  exact⟨vs,h1,zgx cs vs h2⟩
 | .bld r,v,h=>by
  simp only [sh,VR]at h ⊢
  obtain⟨fl,pl,h1,h2⟩:=h
  exact⟨fl,pl,by rw [List.getElem?_append_right (by omega),Nat.add_sub_cancel_left];exact h1,h2⟩
 | .bnil,_,h=>by simpa only [sh,VR]using h
 | .bsl r len,v,h=>by
  simp only [sh,VR]at h ⊢
  obtain⟨fl,pl,cap,h1,h2⟩:=h
  exact⟨fl,pl,cap,by rw [List.getElem?_append_right (by omega),Nat.add_sub_cancel_left];exact h1,h2⟩
theorem zgw{Z Z':Places}{w:World}:∀(l:List AV) (vs:List Value),VRs Z' w l vs->VRs (Z++Z') w (shs Z.length l) vs
 | [],vs,h=>by simpa only [shs,VRs]using h
 |a::l,vs,h=>by
  simp only [shs,VRs]at h ⊢
  obtain⟨v,vs',h1,h2,h3⟩:=h
  exact⟨v,vs',h1,⟨zcv a v h2.1,h2.2⟩,zgw l vs' h3⟩
theorem zgx{Z Z':Places}{w:World}:∀(l:List AV) (vs:List Value),VRt Z' w l vs->VRt (Z++Z') w (shs Z.length l) vs
 | [],vs,h=>by simpa only [shs,VRt]using h
 |a::l,vs,h=>by
  simp only [shs,VRt]at h ⊢
  obtain⟨v,vs',h1,h2,h3⟩:=h
  exact⟨v,vs',h1,zcv a v h2,zgx l vs' h3⟩
end
def z4d(O:Store):DC:=⟨O,0,id,fun _=>true⟩
theorem zkz{O:Store}{Z:Places}{w:World}:DSnd (z4d O) Z [] w where
 ref r _ _ h:=by simp [z4d]at h
 imm b h:=⟨h.1,by simp⟩
 fz r pl _ _ r' pl' h:=by simp at h
theorem zh7{Z Z':Places}{w w':World}(h:Step [] w Z' w')(hlt:∀(r:Nat) (pl:Place),Z[r]? =some (true,pl)->pl.b<w.heap.size):Step Z w (Z++Z') w' where
 keep r fl pl hr:=⟨fl,by rw [List.getElem?_append_left (List.getElem?_eq_some_iff.1 hr).1];exact hr⟩
 size:=h.size
 imm b hb _:=h.imm b hb (by simp)
 new r pl hr:=by
  by_cases hl:r<Z.length
  ·rw [List.getElem?_append_left hl]at hr
   exact .inl ⟨r,pl,hr,rfl⟩
  ·rw [List.getElem?_append_right (by omega)]at hr
   rcases h.new _ pl hr with⟨r',pl',h1,_⟩|h1
   ·simp at h1
   ·exact .inr h1
 os:=h.os
 tape:=h.tape
 output:=h.output
def GlOK(C:Ctx):Prop:=∀g cs,C.gl g=some cs->RLs 0 cs
theorem Rel.lent{C:Ctx}{Z:Places}{O:Store}{w:World}(hg:GlOK C)(hR:Rel C Z O w):Rel C [] [] w:=
 ⟨rfl,by simp,by simp,by simp,fun g cs h=>DR.sound hR zkz (.vp cs) (.vp cs) _ (DR.refl (D:=z4d O) (k:=0) (by omega) _ (by simpa only [RL]using hg g cs h)) (hR.gl g cs h)⟩
theorem Rel.back{C:Ctx}{Z Z':Places}{O O1:Store}{w w':World}(hR:Rel C Z O w)(hst:Step [] w Z' w')(h:Rel C Z' O1 w'):Rel C (Z++Z') (O++shS O.length O1) w':=by
 have hlt:∀(r:Nat) (pl:Place),Z[r]? =some (true,pl)->pl.b<w.heap.size:=fun r pl hr=>hR.place_lt hr
 have hs:=zh7 (Z:=Z) hst hlt
 have hge:∀(r:Nat) (pl:Place),Z'[r]? =some (true,pl)->w.heap.size<=pl.b:=fun r pl hr=>by
  rcases hst.new r pl hr with⟨r',pl',h1,_⟩|h1
  ·simp at h1
  ·exact h1
 refine⟨by simp [shS,hR.len,h.len],fun r o hr=> ?_,fun r hr=> ?_,fun r r' pl pl' h1 h2 h3=> ?_,fun g cs hg=>(hR.gl g cs hg).mono hs⟩
 ·by_cases hl:r<O.length
  ·rw [List.getElem?_append_left hl]at hr
   obtain⟨pl,h1,h2⟩:=hR.alive r o hr
   exact⟨pl,by rw [List.getElem?_append_left (by rw [hR.len];exact hl)];exact h1,h2.mono hs (hst.imm _ h2.lt (by simp))⟩
  ·rw [List.getElem?_append_right (by omega)]at hr
   simp only [shS,List.getElem?_map,Option.map_eq_some_iff]at hr
   obtain⟨x,hx,he⟩:=hr
   cases x with
   |none=>simp at he
   |some o0=>
    simp only [Option.some.injEq]at he
    obtain⟨_,rfl,rfl⟩:=he
    obtain⟨pl,h1,h2⟩:=h.alive _ o0 hx
    refine⟨pl,by rw [List.getElem?_append_right (by rw [hR.len];omega),hR.len];exact h1,?_⟩
    obtain⟨c,ty,fz,pre,mid,post,k1,k2,k3,k4,k5,k6⟩:=h2.ex
    refine⟨by simp [shss,h2.len],fun e he=> ?_,h2.tyk,c,ty,fz,pre,mid,post,k1,k2,k3,k4,?_,k6⟩
    ·simp only [shss,List.mem_map]at he
     obtain⟨e0,he0,rfl⟩:=he
     rw [zod];exact h2.esz e0 he0
    ·rw [zoe,<-hR.len]
     exact zgw _ _ k5
 ·by_cases hl:r<O.length
  ·rw [List.getElem?_append_left hl]at hr
   obtain⟨pl,h1⟩:=hR.dead r hr
   exact⟨pl,by rw [List.getElem?_append_left (by rw [hR.len];exact hl)];exact h1⟩
  ·rw [List.getElem?_append_right (by omega)]at hr
   simp only [shS,List.getElem?_map,Option.map_eq_some_iff]at hr
   obtain⟨x,hx,he⟩:=hr
   cases x with
   |some o0=>simp at he
   |none=>
    obtain⟨pl,h1⟩:=h.dead _ hx
    exact⟨pl,by rw [List.getElem?_append_right (by rw [hR.len];omega),hR.len];exact h1⟩
 ·have get:∀(r:Nat) (pl:Place),(Z++Z')[r]? =some (true,pl)->(r<Z.length/\ Z[r]? =some (true,pl)) \/(Z.length<=r/\ Z'[r-Z.length]? =some (true,pl)):=fun r pl hr=>by
   by_cases hl:r<Z.length
   ·rw [List.getElem?_append_left hl]at hr;exact .inl ⟨hl,hr⟩
   ·rw [List.getElem?_append_right (by omega)]at hr;exact .inr ⟨by omega,hr⟩
  rcases get r pl h1 with⟨k1,k2⟩| ⟨k1,k2⟩<;>rcases get r' pl' h2 with⟨q1,q2⟩| ⟨q1,q2⟩
  ·exact hR.inj r r' pl pl' k2 q2 h3
  ·have:=hlt r pl k2;have:=hge _ pl' q2;omega
  ·have:=hge _ pl k2;have:=hlt r' pl' q2;omega
  ·have:=h.inj _ _ pl pl' k2 q2 h3;omega
theorem ACallsTo.lend{C:Ctx}(hg:GlOK C){f:FuncId}{xs args:List AV}{v:AV}{O O1:Store}(h:ACallsTo C f xs [] v O1)(hd:DRs (z4d O) xs args):ACallsTo C f args O (sh O.length v) (O++shS O.length O1):=by
 intro Z w cargs hR ha
 have hx:VRt [] w xs cargs:=DRs.soundt hR zkz xs args cargs hd ha
 have hlt:∀(r:Nat) (pl:Place),Z[r]? =some (true,pl)->pl.b<w.heap.size:=fun r pl hr=>hR.place_lt hr
 rcases h [] w cargs (hR.lent hg) hx with⟨h1,h2⟩| ⟨cv,Z',w',h1,h2,h3,h4⟩
 ·refine .inl ⟨h1,h2.mono ?_⟩
  rintro e w' ⟨cv,Z',rfl,k1,k2,k3⟩
  exact⟨cv,Z++Z',rfl,zh7 k1 hlt,hR.back k1 k2,by rw [<-hR.len];exact zcv v cv k3⟩
 ·exact .inr ⟨cv,Z++Z',w',h1,zh7 h2 hlt,hR.back h2 h3,by rw [<-hR.len];exact zcv v cv h4⟩
theorem ACallsTo.frame{C:Ctx}(hg:GlOK C){f:FuncId}{xs:List AV}{v:AV}(h:ACallsTo C f xs [] v [])(hx:RLs 0 xs)(O:Store):ACallsTo C f xs O (sh O.length v) O:=by
 have:=ACallsTo.lend hg (O:=O) h (DRs.refl (D:=z4d O) (k:=0) (by omega) xs hx)
 simpa [shS]using this
end
variable {rest:List (Nat × Nat × AV)}{ys:List (List AV)}
section
theorem lz:(∀{α:Type} {l:List α} {i:Nat} {a:α},(l.set i a).length=l.length)/\ (∀{α:Type} {l m:List α},(l++m).length=l.length+m.length)/\ (∀{α:Type} {a:α} {l:List α},(a::l).length=l.length+1)/\ (∀{α:Type},([]:List α).length=0)/\ (∀{α β:Type} {f:α->β} {l:List α},(l.map f).length=l.length):=
 ⟨List.length_set,List.length_append,List.length_cons,List.length_nil,List.length_map _⟩
section
variable {C:Ctx} {n k:Nat} {Q:AExit->Env->Store->Prop} {J:Env} {O:Store}
theorem zd_{x:AX}{p q:ACode}{P:Prop}[hd:Decidable P](hx:x.ev J=.bool (@decide P hd))(h1:P->zW C n k p Q J O)(h2:¬P->zW C n k q Q J O):zW C n k (.cond x p q) Q J O:=
 zW.cond hx (fun h=>h1 (of_decide_eq_true h)) (fun h=>h2 (of_decide_eq_false h))
theorem zt_{x:AX}{p q:ACode}(hx:x.ev J=.bool true)(h1:zW C n k p Q J O):zW C n k (.cond x p q) Q J O:=
 zW.cond hx (fun _=>h1) (fun h=>by cases h)
theorem zf_{x:AX}{p q:ACode}(hx:x.ev J=.bool false)(h1:zW C n k q Q J O):zW C n k (.cond x p q) Q J O:=
 zW.cond hx (fun h=>by cases h) (fun _=>h1)
def zAf(C:Ctx)(n k:Nat)(Q:AExit->Env->Store->Prop)(J:Env)(O:Store):ACode->Option Prop
 | .seq x y=>some (zW C n k x (z4x (zW C n k y Q) Q) J O)
 | .block id x=>some (zW C n k x (blkQ id Q) J O)
 | .scope x=>some (zW C n k x Q J O)
 | .cond x p q=>match x.ev J with
  | .bool true=>some (zW C n k p Q J O)
  | .bool false=>some (zW C n k q Q J O)
  | _=>none
 | _=>none
theorem zA{c:ACode}{P:Prop}(h:zAf C n k Q J O c=some P)(hp:P):zW C n k c Q J O:=by
 cases c with
 |seq x y=>cases h;exact zs_ hp
 |block id x=>cases h;exact zb_ hp
 |scope x=>cases h;exact zc_ hp
 |cond x p q=>
  simp only [zAf]at h
  split at h
  ·rename_i e;cases h;exact zt_ e hp
  ·rename_i e;cases h;exact zf_ e hp
  ·cases h
 | _=>cases h
def zBf(C:Ctx)(n k:Nat)(Q:AExit->Env->Store->Prop)(J:Env)(O:Store):ACode->Option Prop
 | .reg l=>some (z10 C (Q .normal) l Hist.none J O)
 | .skip=>some (Q .normal J O)
 | .exit id=>some (Q (.exit id) J O)
 | .ret=>some (Q .ret J O)
 | _=>none
theorem zB{c:ACode}{P:Prop}(h:zBf C n k Q J O c=some P)(hp:P):zW C n k c Q J O:=by
 cases c with
 |reg l=>cases h;exact zr_ hp
 |skip=>cases h;exact zk_ hp
 |exit id=>cases h;exact ze_ hp
 |ret=>cases h;exact zq_ hp
 | _=>cases h
theorem zd2{n:Int}(h: -9223372036854775808<=n/\ n<9223372036854775808):IntKind.i64.wrap n=n:=by
 simp [IntKind.wrap,IntKind.signed,IntKind.bits];omega
theorem zd4{n:Int}(h:0<=n/\ n<18446744073709551616):IntKind.u64.wrap n=n:=by
 simp [IntKind.wrap,IntKind.signed,IntKind.bits];omega
theorem za8{n:Int}(h:0<=n/\ n<4294967296):IntKind.u32.wrap n=n:=by
 simp [IntKind.wrap,IntKind.signed,IntKind.bits];omega
theorem zd3{n:Int}(h:0<=n/\ n<65536):IntKind.u16.wrap n=n:=by
 simp [IntKind.wrap,IntKind.signed,IntKind.bits];omega
theorem w_u8{n:Int}(h:0<=n/\ n<256):IntKind.u8.wrap n=n:=by
 simp [IntKind.wrap,IntKind.signed,IntKind.bits];omega
theorem shr_u8(h:0<=b/\ b<8):z25 .shr .u8 a b=some (.int .u8 (a/2^b.toNat)):=by
 simp only [z25,IntKind.bits]
 rw [if_neg (by omega),Nat.min_eq_left (by omega),Int.fdiv_eq_ediv_of_nonneg _ (Int.pow_nonneg (by decide))]
theorem shl_u8(h:0<=b/\ b<8):z25 .shl .u8 a b=some (.int .u8 (IntKind.u8.wrap (a*2^b.toNat))):=by
 simp only [z25,IntKind.bits]
 rw [if_neg (by omega),Nat.min_eq_left (by omega)]
theorem z10r(h:0<=b/\ b<16):z25 .shr .u16 a b=some (.int .u16 (a/2^b.toNat)):=by
 simp only [z25,IntKind.bits]
 rw [if_neg (by omega),Nat.min_eq_left (by omega),Int.fdiv_eq_ediv_of_nonneg _ (Int.pow_nonneg (by decide))]
theorem z10o(h:0<=b/\ b<16):z25 .shl .u16 a b=some (.int .u16 (IntKind.u16.wrap (a*2^b.toNat))):=by
 simp only [z25,IntKind.bits]
 rw [if_neg (by omega),Nat.min_eq_left (by omega)]
theorem zob(h:0<=b/\ b<32):z25 .shr .u32 a b=some (.int .u32 (a/2^b.toNat)):=by
 simp only [z25,IntKind.bits]
 rw [if_neg (by omega),Nat.min_eq_left (by omega),Int.fdiv_eq_ediv_of_nonneg _ (Int.pow_nonneg (by decide))]
theorem zo9(h:0<=b/\ b<32):z25 .shl .u32 a b=some (.int .u32 (IntKind.u32.wrap (a*2^b.toNat))):=by
 simp only [z25,IntKind.bits]
 rw [if_neg (by omega),Nat.min_eq_left (by omega)]
theorem z10s(h:0<=b/\ b<64):z25 .shr .u64 a b=some (.int .u64 (a/2^b.toNat)):=by
 simp only [z25,IntKind.bits]
 rw [if_neg (by omega),Nat.min_eq_left (by omega),Int.fdiv_eq_ediv_of_nonneg _ (Int.pow_nonneg (by decide))]
theorem z10p(h:0<=b/\ b<64):z25 .shl .u64 a b=some (.int .u64 (IntKind.u64.wrap (a*2^b.toNat))):=by
 simp only [z25,IntKind.bits]
 rw [if_neg (by omega),Nat.min_eq_left (by omega)]
theorem z10q(h:0<=b/\ b<64):z25 .shr .i64 a b=some (.int .i64 (a/2^b.toNat)):=by
 simp only [z25,IntKind.bits]
 rw [if_neg (by omega),Nat.min_eq_left (by omega),Int.fdiv_eq_ediv_of_nonneg _ (Int.pow_nonneg (by decide))]
theorem z10n(h:0<=b/\ b<64):z25 .shl .i64 a b=some (.int .i64 (IntKind.i64.wrap (a*2^b.toNat))):=by
 simp only [z25,IntKind.bits]
 rw [if_neg (by omega),Nat.min_eq_left (by omega)]
theorem zko{k:IntKind}:z1d .add k a b=some (.int k (k.wrap (a+b))):=rfl
theorem ib_sub{k:IntKind}:z1d .sub k a b=some (.int k (k.wrap (a-b))):=rfl
theorem ib_mul{k:IntKind}:z1d .mul k a b=some (.int k (k.wrap (a*b))):=rfl
theorem ib_quo{k:IntKind}:z1d .quo k a b=if b=0 then none else some (.int k (k.wrap (a.tdiv b))):=rfl
theorem ib_rem{k:IntKind}:z1d .rem k a b=if b=0 then none else some (.int k (a.tmod b)):=rfl
theorem ib_eql{k:IntKind}:z1d .eql k a b=some (.bool (a==b)):=rfl
theorem ib_neq{k:IntKind}:z1d .neq k a b=some (.bool (a !=b)):=rfl
theorem ib_lss{k:IntKind}:z1d .lss k a b=some (.bool (decide (a<b))):=rfl
theorem ib_leq{k:IntKind}:z1d .leq k a b=some (.bool (decide (a<=b))):=rfl
theorem ib_gtr{k:IntKind}:z1d .gtr k a b=some (.bool (decide (a>b))):=rfl
theorem ib_geq{k:IntKind}:z1d .geq k a b=some (.bool (decide (a>=b))):=rfl
theorem zuc(ha:0<=a/\ a<256)(hb:0<=b/\ b<256):z1d .and .u8 a b=some (.int .u8 ((a.toNat &&& b.toNat:Nat):Int)):=by
 have h:(BitVec.ofInt IntKind.u8.bits a &&& BitVec.ofInt IntKind.u8.bits b).toNat=a.toNat &&& b.toNat:=by
  rw [BitVec.toNat_and,BitVec.toNat_ofInt,BitVec.toNat_ofInt]
  simp only [IntKind.bits]
  rw [Int.emod_eq_of_lt (by omega) (by omega),Int.emod_eq_of_lt (by omega) (by omega)]
 have h1:a.toNat<2^8:=by omega
 have h2:b.toNat<2^8:=by omega
 have h3:a.toNat &&& b.toNat<2^8:=Nat.and_lt_two_pow _ h2
 simp only [z1d]
 rw [h,w_u8 ⟨by omega,by omega⟩]
theorem zug(ha:0<=a/\ a<256)(hb:0<=b/\ b<256):z1d .or .u8 a b=some (.int .u8 ((a.toNat |||b.toNat:Nat):Int)):=by
 have h:(BitVec.ofInt IntKind.u8.bits a |||BitVec.ofInt IntKind.u8.bits b).toNat=a.toNat |||b.toNat:=by
  rw [BitVec.toNat_or,BitVec.toNat_ofInt,BitVec.toNat_ofInt]
  simp only [IntKind.bits]
  rw [Int.emod_eq_of_lt (by omega) (by omega),Int.emod_eq_of_lt (by omega) (by omega)]
 have h1:a.toNat<2^8:=by omega
 have h2:b.toNat<2^8:=by omega
 have h3:a.toNat |||b.toNat<2^8:=Nat.or_lt_two_pow h1 h2
 simp only [z1d]
 rw [h,w_u8 ⟨by omega,by omega⟩]
theorem zks(ha:0<=a/\ a<256)(hb:0<=b/\ b<256):z1d .xor .u8 a b=some (.int .u8 ((a.toNat^^^b.toNat:Nat):Int)):=by
 have h:(BitVec.ofInt IntKind.u8.bits a^^^BitVec.ofInt IntKind.u8.bits b).toNat=a.toNat^^^b.toNat:=by
  rw [BitVec.toNat_xor,BitVec.toNat_ofInt,BitVec.toNat_ofInt]
  simp only [IntKind.bits]
  rw [Int.emod_eq_of_lt (by omega) (by omega),Int.emod_eq_of_lt (by omega) (by omega)]
 have h1:a.toNat<2^8:=by omega
 have h2:b.toNat<2^8:=by omega
 have h3:a.toNat^^^b.toNat<2^8:=Nat.xor_lt_two_pow h1 h2
 simp only [z1d]
 rw [h,w_u8 ⟨by omega,by omega⟩]
theorem zua(ha:0<=a/\ a<65536)(hb:0<=b/\ b<65536):z1d .and .u16 a b=some (.int .u16 ((a.toNat &&& b.toNat:Nat):Int)):=by
 have h:(BitVec.ofInt IntKind.u16.bits a &&& BitVec.ofInt IntKind.u16.bits b).toNat=a.toNat &&& b.toNat:=by
  rw [BitVec.toNat_and,BitVec.toNat_ofInt,BitVec.toNat_ofInt]
  simp only [IntKind.bits]
  rw [Int.emod_eq_of_lt (by omega) (by omega),Int.emod_eq_of_lt (by omega) (by omega)]
 have h1:a.toNat<2^16:=by omega
 have h2:b.toNat<2^16:=by omega
 have h3:a.toNat &&& b.toNat<2^16:=Nat.and_lt_two_pow _ h2
 simp only [z1d]
 rw [h,zd3 ⟨by omega,by omega⟩]
theorem zue(ha:0<=a/\ a<65536)(hb:0<=b/\ b<65536):z1d .or .u16 a b=some (.int .u16 ((a.toNat |||b.toNat:Nat):Int)):=by
 have h:(BitVec.ofInt IntKind.u16.bits a |||BitVec.ofInt IntKind.u16.bits b).toNat=a.toNat |||b.toNat:=by
  rw [BitVec.toNat_or,BitVec.toNat_ofInt,BitVec.toNat_ofInt]
  simp only [IntKind.bits]
  rw [Int.emod_eq_of_lt (by omega) (by omega),Int.emod_eq_of_lt (by omega) (by omega)]
 have h1:a.toNat<2^16:=by omega
 have h2:b.toNat<2^16:=by omega
 have h3:a.toNat |||b.toNat<2^16:=Nat.or_lt_two_pow h1 h2
 simp only [z1d]
 rw [h,zd3 ⟨by omega,by omega⟩]
theorem zui(ha:0<=a/\ a<65536)(hb:0<=b/\ b<65536):z1d .xor .u16 a b=some (.int .u16 ((a.toNat^^^b.toNat:Nat):Int)):=by
 have h:(BitVec.ofInt IntKind.u16.bits a^^^BitVec.ofInt IntKind.u16.bits b).toNat=a.toNat^^^b.toNat:=by
  rw [BitVec.toNat_xor,BitVec.toNat_ofInt,BitVec.toNat_ofInt]
  simp only [IntKind.bits]
  rw [Int.emod_eq_of_lt (by omega) (by omega),Int.emod_eq_of_lt (by omega) (by omega)]
 have h1:a.toNat<2^16:=by omega
 have h2:b.toNat<2^16:=by omega
 have h3:a.toNat^^^b.toNat<2^16:=Nat.xor_lt_two_pow h1 h2
 simp only [z1d]
 rw [h,zd3 ⟨by omega,by omega⟩]
theorem zkp(ha:0<=a/\ a<4294967296)(hb:0<=b/\ b<4294967296):z1d .and .u32 a b=some (.int .u32 ((a.toNat &&& b.toNat:Nat):Int)):=by
 have h:(BitVec.ofInt IntKind.u32.bits a &&& BitVec.ofInt IntKind.u32.bits b).toNat=a.toNat &&& b.toNat:=by
  rw [BitVec.toNat_and,BitVec.toNat_ofInt,BitVec.toNat_ofInt]
  simp only [IntKind.bits]
  rw [Int.emod_eq_of_lt (by omega) (by omega),Int.emod_eq_of_lt (by omega) (by omega)]
 have h1:a.toNat<2^32:=by omega
 have h2:b.toNat<2^32:=by omega
 have h3:a.toNat &&& b.toNat<2^32:=Nat.and_lt_two_pow _ h2
 simp only [z1d]
 rw [h,za8 ⟨by omega,by omega⟩]
theorem zkq(ha:0<=a/\ a<4294967296)(hb:0<=b/\ b<4294967296):z1d .or .u32 a b=some (.int .u32 ((a.toNat |||b.toNat:Nat):Int)):=by
 have h:(BitVec.ofInt IntKind.u32.bits a |||BitVec.ofInt IntKind.u32.bits b).toNat=a.toNat |||b.toNat:=by
  rw [BitVec.toNat_or,BitVec.toNat_ofInt,BitVec.toNat_ofInt]
  simp only [IntKind.bits]
  rw [Int.emod_eq_of_lt (by omega) (by omega),Int.emod_eq_of_lt (by omega) (by omega)]
 have h1:a.toNat<2^32:=by omega
 have h2:b.toNat<2^32:=by omega
 have h3:a.toNat |||b.toNat<2^32:=Nat.or_lt_two_pow h1 h2
 simp only [z1d]
 rw [h,za8 ⟨by omega,by omega⟩]
theorem zkr(ha:0<=a/\ a<4294967296)(hb:0<=b/\ b<4294967296):z1d .xor .u32 a b=some (.int .u32 ((a.toNat^^^b.toNat:Nat):Int)):=by
 have h:(BitVec.ofInt IntKind.u32.bits a^^^BitVec.ofInt IntKind.u32.bits b).toNat=a.toNat^^^b.toNat:=by
  rw [BitVec.toNat_xor,BitVec.toNat_ofInt,BitVec.toNat_ofInt]
  simp only [IntKind.bits]
  rw [Int.emod_eq_of_lt (by omega) (by omega),Int.emod_eq_of_lt (by omega) (by omega)]
 have h1:a.toNat<2^32:=by omega
 have h2:b.toNat<2^32:=by omega
 have h3:a.toNat^^^b.toNat<2^32:=Nat.xor_lt_two_pow h1 h2
 simp only [z1d]
 rw [h,za8 ⟨by omega,by omega⟩]
theorem zub(ha:0<=a/\ a<18446744073709551616)(hb:0<=b/\ b<18446744073709551616):z1d .and .u64 a b=some (.int .u64 ((a.toNat &&& b.toNat:Nat):Int)):=by
 have h:(BitVec.ofInt IntKind.u64.bits a &&& BitVec.ofInt IntKind.u64.bits b).toNat=a.toNat &&& b.toNat:=by
  rw [BitVec.toNat_and,BitVec.toNat_ofInt,BitVec.toNat_ofInt]
  simp only [IntKind.bits]
  rw [Int.emod_eq_of_lt (by omega) (by omega),Int.emod_eq_of_lt (by omega) (by omega)]
 have h1:a.toNat<2^64:=by omega
 have h2:b.toNat<2^64:=by omega
 have h3:a.toNat &&& b.toNat<2^64:=Nat.and_lt_two_pow _ h2
 simp only [z1d]
 rw [h,zd4 ⟨by omega,by omega⟩]
theorem zuf(ha:0<=a/\ a<18446744073709551616)(hb:0<=b/\ b<18446744073709551616):z1d .or .u64 a b=some (.int .u64 ((a.toNat |||b.toNat:Nat):Int)):=by
 have h:(BitVec.ofInt IntKind.u64.bits a |||BitVec.ofInt IntKind.u64.bits b).toNat=a.toNat |||b.toNat:=by
  rw [BitVec.toNat_or,BitVec.toNat_ofInt,BitVec.toNat_ofInt]
  simp only [IntKind.bits]
  rw [Int.emod_eq_of_lt (by omega) (by omega),Int.emod_eq_of_lt (by omega) (by omega)]
 have h1:a.toNat<2^64:=by omega
 have h2:b.toNat<2^64:=by omega
 have h3:a.toNat |||b.toNat<2^64:=Nat.or_lt_two_pow h1 h2
 simp only [z1d]
 rw [h,zd4 ⟨by omega,by omega⟩]
theorem zuj(ha:0<=a/\ a<18446744073709551616)(hb:0<=b/\ b<18446744073709551616):z1d .xor .u64 a b=some (.int .u64 ((a.toNat^^^b.toNat:Nat):Int)):=by
 have h:(BitVec.ofInt IntKind.u64.bits a^^^BitVec.ofInt IntKind.u64.bits b).toNat=a.toNat^^^b.toNat:=by
  rw [BitVec.toNat_xor,BitVec.toNat_ofInt,BitVec.toNat_ofInt]
  simp only [IntKind.bits]
  rw [Int.emod_eq_of_lt (by omega) (by omega),Int.emod_eq_of_lt (by omega) (by omega)]
 have h1:a.toNat<2^64:=by omega
 have h2:b.toNat<2^64:=by omega
 have h3:a.toNat^^^b.toNat<2^64:=Nat.xor_lt_two_pow h1 h2
 simp only [z1d]
 rw [h,zd4 ⟨by omega,by omega⟩]
theorem zu9(ha:0<=a/\ a<9223372036854775808)(hb:0<=b/\ b<9223372036854775808):z1d .and .i64 a b=some (.int .i64 ((a.toNat &&& b.toNat:Nat):Int)):=by
 have h:(BitVec.ofInt IntKind.i64.bits a &&& BitVec.ofInt IntKind.i64.bits b).toNat=a.toNat &&& b.toNat:=by
  rw [BitVec.toNat_and,BitVec.toNat_ofInt,BitVec.toNat_ofInt]
  simp only [IntKind.bits]
  rw [Int.emod_eq_of_lt (by omega) (by omega),Int.emod_eq_of_lt (by omega) (by omega)]
 have h1:a.toNat<2^63:=by omega
 have h2:b.toNat<2^63:=by omega
 have h3:a.toNat &&& b.toNat<2^63:=Nat.and_lt_two_pow _ h2
 simp only [z1d]
 rw [h,zd2 ⟨by omega,by omega⟩]
theorem zud(ha:0<=a/\ a<9223372036854775808)(hb:0<=b/\ b<9223372036854775808):z1d .or .i64 a b=some (.int .i64 ((a.toNat |||b.toNat:Nat):Int)):=by
 have h:(BitVec.ofInt IntKind.i64.bits a |||BitVec.ofInt IntKind.i64.bits b).toNat=a.toNat |||b.toNat:=by
  rw [BitVec.toNat_or,BitVec.toNat_ofInt,BitVec.toNat_ofInt]
  simp only [IntKind.bits]
  rw [Int.emod_eq_of_lt (by omega) (by omega),Int.emod_eq_of_lt (by omega) (by omega)]
 have h1:a.toNat<2^63:=by omega
 have h2:b.toNat<2^63:=by omega
 have h3:a.toNat |||b.toNat<2^63:=Nat.or_lt_two_pow h1 h2
 simp only [z1d]
 rw [h,zd2 ⟨by omega,by omega⟩]
theorem zuh(ha:0<=a/\ a<9223372036854775808)(hb:0<=b/\ b<9223372036854775808):z1d .xor .i64 a b=some (.int .i64 ((a.toNat^^^b.toNat:Nat):Int)):=by
 have h:(BitVec.ofInt IntKind.i64.bits a^^^BitVec.ofInt IntKind.i64.bits b).toNat=a.toNat^^^b.toNat:=by
  rw [BitVec.toNat_xor,BitVec.toNat_ofInt,BitVec.toNat_ofInt]
  simp only [IntKind.bits]
  rw [Int.emod_eq_of_lt (by omega) (by omega),Int.emod_eq_of_lt (by omega) (by omega)]
 have h1:a.toNat<2^63:=by omega
 have h2:b.toNat<2^63:=by omega
 have h3:a.toNat^^^b.toNat<2^63:=Nat.xor_lt_two_pow h1 h2
 simp only [z1d]
 rw [h,zd2 ⟨by omega,by omega⟩]
theorem mask1(a:Nat):a &&& 1=a%2:=Nat.and_two_pow_sub_one_eq_mod a 1
theorem mask2(a:Nat):a &&& 3=a%4:=Nat.and_two_pow_sub_one_eq_mod a 2
theorem mask3(a:Nat):a &&& 7=a%8:=Nat.and_two_pow_sub_one_eq_mod a 3
theorem mask4(a:Nat):a &&& 15=a%16:=Nat.and_two_pow_sub_one_eq_mod a 4
theorem mask5(a:Nat):a &&& 31=a%32:=Nat.and_two_pow_sub_one_eq_mod a 5
theorem mask6(a:Nat):a &&& 63=a%64:=Nat.and_two_pow_sub_one_eq_mod a 6
theorem mask7(a:Nat):a &&& 127=a%128:=Nat.and_two_pow_sub_one_eq_mod a 7
theorem mask8(a:Nat):a &&& 255=a%256:=Nat.and_two_pow_sub_one_eq_mod a 8
theorem mask12(a:Nat):a &&& 4095=a%4096:=Nat.and_two_pow_sub_one_eq_mod a 12
theorem zuz(a b:Int):(a==b)=decide (a=b):=by
 by_cases h:a=b<;>simp [h]
theorem zv0(a b:Int):(a !=b)=decide (¬a=b):=by
 by_cases h:a=b<;>simp [h]
theorem zw5(p:Prop)[Decidable p]:(!decide p)=decide (¬p):=by simp
theorem z12r(h:0<=a):a.tdiv b=a/b:=Int.tdiv_eq_ediv_of_nonneg h
theorem z12u(h:0<=a):a.tmod b=a%b:=Int.tmod_eq_emod_of_nonneg h
theorem getQ{α:Type}(l:List α)(i:Nat)(d:α)(h:i<l.length):l[i]? =some (l.getD i d):=by
 simp [List.getD_eq_getElem?_getD,List.getElem?_eq_getElem h]
theorem upd_b{d t:Nat}:upd J d v t=bif t==d then v else J t:=by
 unfold upd
 by_cases h:t=d
 ·simp [h]
 ·have:(t==d)=false:=by simpa using h
  rw [if_neg h,this];rfl
theorem z6j{J':Env}:z2z K O false (some (J',O'))=K J' O':=Eq.trans rfl rfl
theorem zs8{J':Env}:z2z K O true (some (J',O'))=(O'=O/\ K J' O'):=Eq.trans rfl rfl
section
variable {K:Hist->Env->Store->Prop} {H:Hist} {d:Option Nat} {g:Option (Nat × Bool)} {op:AOp} {nd:Nd} {f:AX} {xs:List AX} {v:AV} {s:Store}
theorem z78:z13 K H ⟨d,g,.no,op⟩ J O=z2z (K H) O false (z3q ⟨d,g,.no,op⟩ J O):=Eq.trans rfl rfl
theorem z12f:z13 K H ⟨d,g,.same,op⟩ J O=z2z (K H) O true (z3q ⟨d,g,.same,op⟩ J O):=Eq.trans rfl rfl
theorem z12d:z13 K H ⟨d,g,.rd,op⟩ J O=rdW K H d op J O (z1x J g):=Eq.trans rfl rfl
theorem z12b:z13 K H ⟨d,g,.ef,op⟩ J O=efW K H d op J O (z1x J g):=Eq.trans rfl rfl
theorem rdW_t:rdW K H d op J O (some true)=rdC K H d op J O (op.run J O):=Eq.trans rfl rfl
theorem rdW_f:rdW K H d op J O (some false)=K H (putE J d .undef) O:=Eq.trans rfl rfl
theorem efW_t:efW K H d op J O (some true)=efC K H d J O (op.run J O):=Eq.trans rfl rfl
theorem efW_f:efW K H d op J O (some false)=K H (putE J d .undef) O:=Eq.trans rfl rfl
theorem rdC_s:rdC K H d op J O (some (v,s))=(s=O/\ (∀h,H.pre h->op.run J h=some (v,h))/\ K ⟨H.pre,fun s=>H.rds s/\ op.run J s=some (v,s),H.rd2⟩ (putE J d v) O):=Eq.trans rfl rfl
theorem z12e:z13 K H ⟨d,g,.rd2,op⟩ J O=rd2W K H d op J O (z1x J g):=Eq.trans rfl rfl
theorem z12c:z13 K H ⟨d,g,.ef2,op⟩ J O=ef2W K H d op J O (z1x J g):=Eq.trans rfl rfl
theorem rd2W_t:rd2W K H d op J O (some true)=rd2C K H d op J O (op.run J O):=Eq.trans rfl rfl
theorem rd2W_f:rd2W K H d op J O (some false)=K H (putE J d .undef) O:=Eq.trans rfl rfl
theorem ef2W_t:ef2W K H d op J O (some true)=ef2C K H d J O (op.run J O):=Eq.trans rfl rfl
theorem ef2W_f:ef2W K H d op J O (some false)=K H (putE J d .undef) O:=Eq.trans rfl rfl
theorem rd2C_s:rd2C K H d op J O (some (v,s))=(s=O/\ (∀h,H.pre h->op.run J h=some (v,h))/\ K ⟨H.pre,fun s=>H.rds s/\ op.run J s=some (v,s),fun s=>H.rd2 s/\ op.run J s=some (v,s)⟩ (putE J d v) O):=Eq.trans rfl rfl
theorem ef2C_s:ef2C K H d J O (some (v,s))=(H.rd2 s/\ K ⟨fun t=>H.pre t \/t=O,H.rds,H.rd2⟩ (putE J d v) s):=Eq.trans rfl rfl
theorem zw3{h:Store}:Hist.none.rd2 h=True:=Eq.trans rfl rfl
theorem z104{h:Store}:(Hist.same O).rd2 h=(h=O):=Eq.trans rfl rfl
theorem efC_s:efC K H d J O (some (v,s))=(H.rds s/\ K ⟨fun t=>H.pre t \/t=O,H.rds,H.rd2⟩ (putE J d v) s):=Eq.trans rfl rfl
theorem zj1:z2n C K H J O d nd f xs (some true)=callW C K H J d nd O (f.ev J) (xs.map (AX.ev J)):=Eq.trans rfl rfl
theorem zrx:z2n C K H J O d nd f xs (some false)=K H (putE J d .undef) O:=Eq.trans rfl rfl
theorem zvx:z3b .no H O O'=True:=Eq.trans rfl rfl
theorem zvy:z3b .same H O O'=(O'=O):=Eq.trans rfl rfl
theorem zvw:z3b .ef H O O'=H.rds O':=Eq.trans rfl rfl
theorem zvu:z4q .no H O=H:=Eq.trans rfl rfl
theorem zvv:z4q .same H O=H:=Eq.trans rfl rfl
theorem zvt:z4q .ef H O=⟨fun s=>H.pre s \/s=O,H.rds,H.rd2⟩:=Eq.trans rfl rfl
theorem un_not{b:Bool}:aUn .not (.bool b)=some (.bool (!b)):=Eq.trans rfl rfl
theorem un_neg{k:IntKind}{n:Int}:aUn .neg (.int k n)=some (.int k (k.wrap (0-n))):=Eq.trans rfl rfl
theorem un_xor{k:IntKind}{n:Int}:aUn .xor (.int k n)=some (.int k (k.wrap (BitVec.ofInt k.bits (if k.signed then-1 else k.max)^^^BitVec.ofInt k.bits n).toNat)):=Eq.trans rfl rfl
theorem rdS_s{s:Store}:rdS K d J O (some (v,s))=(s=O/\ K (Hist.same O) (putE J d v) O):=Eq.trans rfl rfl
theorem z103{h:Store}:(Hist.same O).pre h=(h=O):=Eq.trans rfl rfl
theorem z105{h:Store}:(Hist.same O).rds h=(h=O):=Eq.trans rfl rfl
theorem zw2{h:Store}:Hist.none.pre h=False:=Eq.trans rfl rfl
theorem zw4{h:Store}:Hist.none.rds h=True:=Eq.trans rfl rfl
end
theorem zt8{k:IntKind}{m:Int}{cells:List AV}(h:off+1<=cells.length):z1e cells ((off,1,(.int k m))::rest)=z1e (z1i cells off [(.int k m)]) rest:=by
 simp [z1e,cellsOf,h]
theorem ztf{cells:List AV}(h:off+1<=cells.length):z1e cells ((off,1,(.str s))::rest)=z1e (z1i cells off [(.str s)]) rest:=by
 simp [z1e,cellsOf,h]
theorem zt6{b:Bool}{cells:List AV}(h:off+1<=cells.length):z1e cells ((off,1,(.bool b))::rest)=z1e (z1i cells off [(.bool b)]) rest:=by
 simp [z1e,cellsOf,h]
theorem ztd{o:Nat}{cells:List AV}(h:off+1<=cells.length):z1e cells ((off,1,(.ptr r i o))::rest)=z1e (z1i cells off [(.ptr r i o)]) rest:=by
 simp [z1e,cellsOf,h]
theorem ztb{cells:List AV}(h:off+1<=cells.length):z1e cells ((off,1,.nilp)::rest)=z1e (z1i cells off [.nilp]) rest:=by
 simp [z1e,cellsOf,h]
theorem ztc{cells:List AV}(h:off+1<=cells.length):z1e cells ((off,1,.nilsl)::rest)=z1e (z1i cells off [.nilsl]) rest:=by
 simp [z1e,cellsOf,h]
theorem zth{z:Nat}{x:Bool}{cells:List AV}(h:off+1<=cells.length):z1e cells ((off,1,(.vsl z es x))::rest)=z1e (z1i cells off [(.vsl z es x)]) rest:=by
 simp [z1e,cellsOf,h]
theorem zte{o len z:Nat}{lim:Option Nat}{cells:List AV}(h:off+1<=cells.length):z1e cells ((off,1,(.sl r o len lim z))::rest)=z1e (z1i cells off [(.sl r o len lim z)]) rest:=by
 simp [z1e,cellsOf,h]
theorem zt5{o len cap z:Nat}{cells:List AV}(h:off+1<=cells.length):z1e cells ((off,1,(.asl r i o len cap z))::rest)=z1e (z1i cells off [(.asl r i o len cap z)]) rest:=by
 simp [z1e,cellsOf,h]
theorem ztg{cells:List AV}(h:off+1<=cells.length):z1e cells ((off,1,(.vp cs))::rest)=z1e (z1i cells off [(.vp cs)]) rest:=by
 simp [z1e,cellsOf,h]
theorem zt7{caps:List AV}{cells:List AV}(h:off+1<=cells.length):z1e cells ((off,1,(.fn f caps))::rest)=z1e (z1i cells off [(.fn f caps)]) rest:=by
 simp [z1e,cellsOf,h]
theorem zta{cells:List AV}(h:off+1<=cells.length):z1e cells ((off,1,.nilfn)::rest)=z1e (z1i cells off [.nilfn]) rest:=by
 simp [z1e,cellsOf,h]
theorem zt4{cells:List AV}(h0:cs.length=n)(h:off+n<=cells.length):z1e cells ((off,n,.agg cs)::rest)=z1e (z1i cells off cs) rest:=by
 simp [z1e,cellsOf,h0,h]
theorem appB_n:z4l O .nilsl ys=aApp O 1 .nilsl ys:=rfl
theorem appB_v{esz:Nat}{ex:Bool}:z4l O (.vsl esz es ex) ys=aApp O 1 (.vsl esz es ex) ys:=rfl
theorem appB_s{len esz:Nat}{lim:Option Nat}:z4l O (.sl r off len lim esz) ys=aApp O 1 (.sl r off len lim esz) ys:=rfl
theorem zr0:z4l O .bnil ys=if ys.length ≠ 0/\ ys.length<=1073741824 then some (.bsl O.length ys.length,O++ [some ys])else none:=rfl
theorem zr1{len:Nat}:z4l O (.bsl r len) ys=match O[r]? with
  |some (some o)=>if ys.length ≠ 0/\ o.length=len/\ len+ys.length<=1073741824 then some (.bsl O.length (len+ys.length),O.set r none++ [some (o++ys)])else none
  | _=>none:=rfl
theorem zde:aApp O sz .nilsl ys=if ys.length=0 then(z26 O .nilsl).map fun _=>(.nilsl,O)else if ys.length<=1073741824 then some (.sl O.length 0 ys.length none sz,O++ [some ys])else none:=Eq.trans rfl rfl
theorem z8v{esz:Nat}{ex:Bool}:aApp O sz (.vsl esz es ex) ys=if ys.length=0 then(z26 O (.vsl esz es ex)).map fun _=>(.vsl esz es ex,O)else if ex=true/\ esz=sz/\ es.length+ys.length<=1073741824 then some (.sl O.length 0 (es.length+ys.length) none sz,O++ [some (es++ys)])else none:=Eq.trans rfl rfl
theorem zdf {sz r off len esz : Nat} {lim : Option Nat} {ys : List (List AV)} : aApp O sz (.sl r off len lim esz) ys = if ys.length = 0 then (z26 O (.sl r off len lim esz)).map fun _ => (.sl r off len lim esz, O) else match O[r]? with
    | some (some o) => if esz = sz /\ off + len <= o.length /\ len + ys.length <= 1073741824 then
        (match lim with
         | none => if off + len + ys.length <= o.length then some (.sl r off (len + ys.length) none esz, O.set r (some (o.take (off + len) ++ ys ++ o.drop (off + len + ys.length))))
             else some (.sl O.length 0 (len+ys.length) none sz,O.set r none++ [some ((o.drop off).take len++ys)])
         | some c => if len + ys.length <= c then (if off + len + ys.length <= o.length then some (.sl r off (len + ys.length) (some c) esz, O.set r (some (o.take (off + len) ++ ys ++ o.drop (off + len + ys.length)))) else none)
             else some (.sl O.length 0 (len+ys.length) none sz,O++ [some ((o.drop off).take len++ys)]))else none
    | _=>none:=Eq.trans rfl rfl
theorem zt9{cells:List AV}:z1e cells []=some cells:=rfl
theorem zx5{c:AV}{vs:List AV}:z1i (c::cs) (n+1) vs=c::z1i cs n vs:=by
 have e:n+1+vs.length=(n+vs.length)+1:=by omega
 simp [z1i,e]
theorem zx8{c:AV}{vs:List AV}:z1i (c::cs) 0 (v::vs)=v::z1i cs 0 vs:=by
 simp [z1i]
theorem zx3:z1i cs 0 []=cs:=by simp [z1i]
theorem zx7{vs:List AV}:z1i cs n vs=cs.take n++vs++cs.drop (n+vs.length):=Eq.trans rfl rfl
theorem overw1{c:AV}:z1i [c] 0 [v]=[v]:=by simp [z1i]
theorem zo(s:List UInt8):(zy s).length=s.length:=by simp [zy]
theorem z8z(h:i<s.length):(zy s)[i]? =some [.int .u8 (s.getD i 0).toNat]:=by
 simp [zy,B8,List.getD_eq_getElem?_getD,List.getElem?_eq_getElem h]
theorem zir{n:Int}(h:0<=n/\ n<256):(zy s).set i [.int .u8 n]=zy (s.set i (UInt8.ofNat n.toNat)):=by
 have e:((n.toNat%256:Nat):Int)=n:=by omega
 simp [zy,B8,List.map_set,e]
theorem zrd(n:Nat):List.replicate n [AV.int .u8 0]=zy (List.replicate n 0):=by simp [zy,B8]
theorem zk7(h:i<s.length):s[i]? =some (s.getD i 0):=getQ s i 0 h
theorem z10v{len esz:Nat}{lim:Option Nat}:z26 O (.sl r off len lim esz)=match O[r]? with|some (some o)=>if off+len<=o.length then some ((o.drop off).take len)else none| _=>none:=Eq.trans rfl rfl
theorem z47{k:IntKind}(h:a=b):AV.int k a=AV.int k b:=by rw [h]
theorem str_eq{a b:List UInt8}(h:a=b):AV.str a=AV.str b:=by rw [h]
theorem wm_u8{n:Int}:IntKind.u8.wrap n=n%256:=by simp [IntKind.wrap,IntKind.signed,IntKind.bits]
theorem wm_u16{n:Int}:IntKind.u16.wrap n=n%65536:=by simp [IntKind.wrap,IntKind.signed,IntKind.bits]
theorem za9{n:Int}:IntKind.u32.wrap n=n%4294967296:=by simp [IntKind.wrap,IntKind.signed,IntKind.bits]
theorem wm_u64{n:Int}:IntKind.u64.wrap n=n%18446744073709551616:=by simp [IntKind.wrap,IntKind.signed,IntKind.bits]
theorem zrf:(zy s).take i=zy (s.take i):=by simp [zy,List.map_take]
theorem zrc:(zy s).drop i=zy (s.drop i):=by simp [zy,List.map_drop]
theorem zax{t:List UInt8}:zy s++zy t=zy (s++t):=by simp [zy]
theorem z12l:z3v cs off n false=cs[off]?:=Eq.trans rfl rfl
theorem z12m:z3v cs off n true=if off+n<=cs.length then some (.agg ((cs.drop off).take n))else none:=Eq.trans rfl rfl
def gv(v:AV)(b:Bool):Option Bool:=match v with
 | .bool x=>some (x==b)
 | .undef=>some false
 | _=>none
def insG(g:Option Bool)(d:Option Nat)(op:AOp)(J:Env)(O:Store):Option (Env × Store):=match g with
 |some true=>(op.run J O).map fun r=>(putE J d r.1,r.2)
 |some false=>some (putE J d .undef,O)
 |none=>none
theorem zut{nd:Nd}{op:AOp}:z3q ⟨d,none,nd,op⟩ J O=(op.run J O).map fun r=>(putE J d r.1,r.2):=rfl
theorem zuu{nd:Nd}{b:Bool}{s:Nat}{op:AOp}:z3q ⟨d,some (s,b),nd,op⟩ J O=insG (gv (J s) b) d op J O:=rfl
theorem ztx:z1x J none=some true:=rfl
theorem zty{s:Nat}{b:Bool}:z1x J (some (s,b))=gv (J s) b:=rfl
theorem gv_tt:gv (.bool true) true=some true:=rfl
theorem gv_tf:gv (.bool true) false=some false:=rfl
theorem gv_ft:gv (.bool false) true=some false:=rfl
theorem gv_ff:gv (.bool false) false=some true:=rfl
theorem ztz{b:Bool}:gv .undef b=some false:=rfl
theorem insG_t{op:AOp}:insG (some true) d op J O=(op.run J O).map fun r=>(putE J d r.1,r.2):=rfl
theorem insG_f{op:AOp}:insG (some false) d op J O=some (putE J d .undef,O):=rfl
section
variable {K:Hist->Env->Store->Prop} {K1:Env->Store->Prop} {H:Hist} {d:Option Nat} {op:AOp} {nd:Nd} {b x m:Bool} {P:Prop} {f:AX} {xs:List AX}
theorem zg0[hd:Decidable P](h1:P->z2z K1 O m (insG (gv (.bool true) b) d op J O))(h2:¬P->z2z K1 O m (insG (gv (.bool false) b) d op J O)):z2z K1 O m (insG (gv (.bool (@decide P hd)) b) d op J O):=by
 by_cases h:P
 ·simpa [h]using h1 h
 ·simpa [h]using h2 h
theorem zg1(h1:x=true->z2z K1 O m (insG (gv (.bool true) b) d op J O))(h2:x=false->z2z K1 O m (insG (gv (.bool false) b) d op J O)):z2z K1 O m (insG (gv (.bool x) b) d op J O):=by
 cases x
 ·exact h2 rfl
 ·exact h1 rfl
theorem zg2[hd:Decidable P](h1:P->rdW K H d op J O (gv (.bool true) b))(h2:¬P->rdW K H d op J O (gv (.bool false) b)):rdW K H d op J O (gv (.bool (@decide P hd)) b):=by
 by_cases h:P
 ·simpa [h]using h1 h
 ·simpa [h]using h2 h
theorem zg3(h1:x=true->rdW K H d op J O (gv (.bool true) b))(h2:x=false->rdW K H d op J O (gv (.bool false) b)):rdW K H d op J O (gv (.bool x) b):=by
 cases x
 ·exact h2 rfl
 ·exact h1 rfl
theorem zg4[hd:Decidable P](h1:P->efW K H d op J O (gv (.bool true) b))(h2:¬P->efW K H d op J O (gv (.bool false) b)):efW K H d op J O (gv (.bool (@decide P hd)) b):=by
 by_cases h:P
 ·simpa [h]using h1 h
 ·simpa [h]using h2 h
theorem zg5(h1:x=true->efW K H d op J O (gv (.bool true) b))(h2:x=false->efW K H d op J O (gv (.bool false) b)):efW K H d op J O (gv (.bool x) b):=by
 cases x
 ·exact h2 rfl
 ·exact h1 rfl
theorem zg6[hd:Decidable P](h1:P->z2n C K H J O d nd f xs (gv (.bool true) b))(h2:¬P->z2n C K H J O d nd f xs (gv (.bool false) b)):z2n C K H J O d nd f xs (gv (.bool (@decide P hd)) b):=by
 by_cases h:P
 ·simpa [h]using h1 h
 ·simpa [h]using h2 h
theorem zg7(h1:x=true->z2n C K H J O d nd f xs (gv (.bool true) b))(h2:x=false->z2n C K H J O d nd f xs (gv (.bool false) b)):z2n C K H J O d nd f xs (gv (.bool x) b):=by
 cases x
 ·exact h2 rfl
 ·exact h1 rfl
class ZSp (G:Prop) (A B X Y:outParam Prop):Prop where
 zim:(A->X)->(B->Y)->G
theorem zG{G A B X Y:Prop}[h:ZSp G A B X Y](h1:A->X)(h2:B->Y):G:=h.zim h1 h2
instance zi0:ZSp (z2z K1 O m (insG (gv (.bool x) b) d op J O)) (x=true) (x=false) (z2z K1 O m (insG (gv (.bool true) b) d op J O)) (z2z K1 O m (insG (gv (.bool false) b) d op J O)):=⟨zg1⟩
instance zi1:ZSp (rdW K H d op J O (gv (.bool x) b)) (x=true) (x=false) (rdW K H d op J O (gv (.bool true) b)) (rdW K H d op J O (gv (.bool false) b)):=⟨zg3⟩
instance zi2:ZSp (efW K H d op J O (gv (.bool x) b)) (x=true) (x=false) (efW K H d op J O (gv (.bool true) b)) (efW K H d op J O (gv (.bool false) b)):=⟨zg5⟩
instance zi3:ZSp (z2n C K H J O d nd f xs (gv (.bool x) b)) (x=true) (x=false) (z2n C K H J O d nd f xs (gv (.bool true) b)) (z2n C K H J O d nd f xs (gv (.bool false) b)):=⟨zg7⟩
instance zi4[hd:Decidable P]:ZSp (z2z K1 O m (insG (gv (.bool (@decide P hd)) b) d op J O)) P (¬P) (z2z K1 O m (insG (gv (.bool true) b) d op J O)) (z2z K1 O m (insG (gv (.bool false) b) d op J O)):=⟨zg0⟩
instance zi5[hd:Decidable P]:ZSp (rdW K H d op J O (gv (.bool (@decide P hd)) b)) P (¬P) (rdW K H d op J O (gv (.bool true) b)) (rdW K H d op J O (gv (.bool false) b)):=⟨zg2⟩
instance zi6[hd:Decidable P]:ZSp (efW K H d op J O (gv (.bool (@decide P hd)) b)) P (¬P) (efW K H d op J O (gv (.bool true) b)) (efW K H d op J O (gv (.bool false) b)):=⟨zg4⟩
instance zi7[hd:Decidable P]:ZSp (z2n C K H J O d nd f xs (gv (.bool (@decide P hd)) b)) P (¬P) (z2n C K H J O d nd f xs (gv (.bool true) b)) (z2n C K H J O d nd f xs (gv (.bool false) b)):=⟨zg6⟩
end
end
attribute [go_sem] z7y zlq z6j zs8 z78 z12f z12d z12b rdW_t rdW_f efW_t efW_f rdC_s efC_s z12e z12c rd2W_t rd2W_f ef2W_t ef2W_f rd2C_s ef2C_s zw3 z104 zj1 zrx zvx zvy zvw zvu zvv zvt zw2 zw4 false_or or_imp forall_and forall_eq false_implies implies_true zut zuu ztx zty gv_tt gv_tf gv_ft gv_ff ztz insG_t insG_f AOp.run AX.ev putE upd_b cond_true cond_false z3w Option.map_some Option.bind_some Option.map_none rBin rEq z8b eqOp aMin z6y z6z zfo zfn z9r rFa rFld zfl zfm z1f z9q
 z4x blkQ endQ endP retV oks Bool.and_true Bool.true_and RV.val RV.ok Option.getD_some Option.isSome_some List.map_cons List.map_nil List.getD_cons_zero List.getD_cons_succ List.getD_nil if_true if_false ite_true ite_false reduceCtorEq Bool.false_eq_true Bool.true_eq_false beq_true beq_false Bool.not_true Bool.not_false BEq.rfl beq_self_eq_true
 List.nil_append List.cons_append List.append_nil
 oj_mv zww zwb zwa zwc oj_box zwe oj_lit zwr zwy zwv oj_bin oj_un zwi zwu zws zwx oj_fa oj_fld zwk zwl zwm zwn oj_ext zwq zwp zwo oj_app zwj zwh zwg zwd zwt oj_nil zwf
 z6x zxt zxa zx9 zxb aBld appB_n appB_v appB_s zr0 zr1 ow_box zxd ow_lit zxo zxv zxs zbq ow_un zls zxr zxp zxu ow_fa ow_fld zxh zxi zxj zxk ow_ext zxn zxm zxl ow_app zxg zxf zxe zxc rCap zcf limN zxq
 getElem?_app getElem?_app0 zny z10b
 shr_u8 shl_u8 z10r z10o zob zo9 z10s z10p z10q z10n zko ib_sub ib_mul ib_quo ib_rem ib_eql ib_neq ib_lss ib_leq ib_gtr ib_geq zuc zug zks zua zue zui zkp zkq zkr zub zuf zuj zu9 zud zuh mask1 mask2 mask3 mask4 mask5 mask6 mask7 mask8 mask12
 cellsOf z26 z68 bytesOf z90 zrg zak zaj bnd zan zao zam z6e knownN zde z8v zdf aBox rCopy zfk List.length_cons List.length_nil Option.bind_none overw1 zx5 zx8 zx3 zo z8z zir zrd zrf zrc zax zk7
 List.getElem?_cons_zero List.getElem?_cons_succ List.set_cons_zero List.set_cons_succ List.drop_zero Nat.add_zero Nat.zero_add
 z12l z12m List.drop_succ_cons List.take_succ_cons List.take_zero Nat.zero_mul Nat.mul_one true_and and_true eq_self List.take_of_length_le
 zd2 zd4 za8 zd3 w_u8 zuz zv0 zw5 z12r z12u if_pos if_neg decide_eq_true decide_eq_false Int.toNat_natCast
attribute [go_sem low] un_xor zx7
def zas(J' J:Env):List Nat->Prop
 | []=>True
 |j::l=>J' j=J j/\ zas J' J l
theorem zii(J:Env):∀l,zas J J l
 | []=>trivial
 | _::l=>⟨rfl,zii J l⟩
theorem zW.slots{Q:AExit->Env->Store->Prop}(l:List Nat)(h:∀J',zas J' J l->zW C n k ac Q J' O):zW C n k ac Q J O:=h J (zii J l)
attribute [go_sem] zt8 ztf zt6 ztd ztb ztc zth zte zt5 ztg zt7 zta zt4 zt9 zas un_not un_neg rdS_s z103 z105
attribute [go_sem high] zz4 zsq zvz zw1
attribute [go_sem low] wm_u8 wm_u16 za9 wm_u64
end
section
section
variable {α:Type} {l m:List α} {r s:Nat} {x:α}
theorem z2a(h:r<l.length):(l.set r x)[r]? =some x:=List.getElem?_set_self h
theorem z1h(h:r ≠ s):(l.set r x)[s]? =l[s]?:=List.getElem?_set_ne h
theorem gapp(h:r<l.length):(l++m)[r]? =l[r]?:=List.getElem?_append_left h
theorem z18(h:l.length<=r):(l++m)[r]? =m[r-l.length]?:=List.getElem?_append_right h
theorem sappr(h:l.length<=r):(l++m).set r x=l++m.set (r-l.length) x:=List.set_append_right _ _ h
theorem sapp(h:r<l.length):(l++m).set r x=l.set r x++m:=List.set_append_left _ _ h
end
def z5t(ts:List RV)(P:AV->Store->Prop):AExit->Env->Store->Prop
 | .exit _=>fun _ _=>False
 | _=>fun J O=>oks J O ts=true/\ P (retV ts J O) O
theorem ACallsP.of_keep{ts:List RV}(hc:cFn C f=some (n,ts,ac)){args:List AV}{O:Store}{P:AV->Store->Prop}(hn:args.length<=n)
  (h:zW C n O.length ac (z5t ts P) (z3w args) O):ACallsP C f args O P:=by
 simp only [cFn,Option.bind_eq_some_iff]at hc
 obtain⟨fn,hf,hc⟩:=hc
 split at hc
 ·cases hc
 ·rename_i hname
  simp only [Option.bind_eq_some_iff,Option.map_eq_some_iff,Prod.mk.injEq]at hc
  obtain⟨c,hb,ts',hts,ac',hac,rfl,rfl,rfl⟩:=hc
  intro Z w cargs hR ha
  left
  constructor
  ·have hname':(fn.name== "runtime.NumGoroutine")=false:=by simpa using hname
   have h1:fn.name ≠ "runtime.NumGoroutine" :=by simpa using hname'
   simp [callFunc,hf,h1,hb]
  ·have hl:=ha.length
   refine calls_of_wp hf hb ?_
   have hw:=h c hac Z w hR.gl hR.len Z { tmps:=cargs.toArray++Array.replicate (fn.ntmps-cargs.toArray.size) undef,defers:=[] } w (Step.refl _ _) hR
    (zbi ha _) (by simp;omega)
   refine wp_mono hw ?_
   rintro e a' w' ⟨ae,J',O2,Z',rfl,hq,q1,q2,q3,q4,q5⟩
   have fin:(oks J' O2 ts'=true/\ P (retV ts' J' O2) O2)->a'.defers=[]/\ ∃v_1,(results fn a'.tmps).run C.P w'=.ok v_1 w'/\ ∃cv v Z' O',Ending.returned v_1=.returned cv/\ P v O'/\ Step Z w Z' w'/\ Rel C Z' O' w'/\ VR Z' w' v cv:=by
    rintro⟨hk,hp⟩
    obtain⟨rv,r1,r2⟩:=zct q2 q3 hts hk
    exact⟨q4,_,r1,_,_,Z',O2,rfl,hp,q1,q2,r2⟩
   cases ae with
   |normal=>exact fin hq
   |exit id=>exact hq.elim
   |ret=>exact fin hq
attribute [go_sem] z2a z1h gapp z5t z5u not_true_eq_false not_false_eq_true decide_false decide_true List.set_set List.append_assoc z18 sapp sappr List.length_set Nat.sub_self Nat.add_sub_cancel_left List.length_append List.length_map
@[go_sem] def zZ0:List AV:=[.int .u8 0,.int .u8 0,.int .u8 0,.int .u8 0,.int .u8 0,.int .u8 0,.int .u8 0,.int .u8 0,.int .u8 0,.int .u8 0,.int .u8 0,.int .u8 0,.int .u8 0,.int .u8 0,.int .u8 0,.int .u8 0,.int .u8 0,.int .u8 0,.int .u8 0,.int .u8 0,.int .u8 0,.int .u8 0,.int .u8 0,.int .u8 0,.int .u8 0,.int .u8 0,.int .u8 0,.int .u8 0,.int .u8 0,.int .u8 0,.int .u8 0,.int .u8 0]
@[go_sem] def yI (d:Nat) (o:AOp):AIns:=⟨some d,none,.no,o⟩
@[go_sem] def yM (d s:Nat):AIns:=⟨some d,none,.no,.mv (.t s)⟩
@[go_sem] def yG (d g:Nat) (b:Bool) (o:AOp):AIns:=⟨some d,some (g,b),.no,o⟩
@[go_sem] def yS (n a b:Nat):AIns:=⟨none,none,.no,.store n (.t a) (.t b)⟩
@[go_sem] def yC (d f a:Nat):AIns:=⟨some d,none,.no,.call (.v (.fn f [])) [.t a]⟩
@[go_sem] def yD (d f a b:Nat):AIns:=⟨some d,none,.no,.call (.v (.fn f [])) [.t a,.t b]⟩
@[go_sem] def yK (d:Nat) (k:IntKind) (n:Int):AIns:=⟨some d,none,.no,.mv (.v (.int k n))⟩
@[go_sem] def yP (d a b:Nat):AIns:=⟨some d,none,.no,.pick (.t a) (.v (.bool true)) (.t b)⟩
@[go_sem] def yQ (d a b:Nat):AIns:=⟨some d,none,.no,.pick (.t a) (.t b) (.v (.bool false))⟩
@[go_sem] def yE (d k a:Nat):AIns:=⟨some d,none,.no,.ext k (.t a)⟩
@[go_sem] def yF (d k a:Nat):AIns:=⟨some d,none,.no,.fa k (.t a)⟩
@[go_sem] def yL (d:Nat) (b:Bool) (n a:Nat):AIns:=⟨some d,none,.no,.load b n (.t a)⟩
@[go_sem] def yR (d:Nat) (b:Bool) (n a:Nat):AIns:=⟨some d,none,.rd,.load b n (.t a)⟩
@[go_sem] def yB (d:Nat) (o:BinOp) (a b:Nat):AIns:=⟨some d,none,.no,.bin o .none (.t a) (.t b)⟩
@[go_sem] def yJ (d:Nat) (o:BinOp) (a:Nat) (k:IntKind) (n:Int):AIns:=⟨some d,none,.no,.bin o .none (.t a) (.v (.int k n))⟩
@[go_sem] def yT (d g:Nat) (b:Bool) (k a:Nat):AIns:=⟨some d,some (g,b),.no,.fa k (.t a)⟩
@[go_sem] def yU (d g:Nat) (b c:Bool) (n a:Nat):AIns:=⟨some d,some (g,b),.no,.load c n (.t a)⟩
@[go_sem] def yV (d g:Nat) (b:Bool) (a:Nat):AIns:=⟨some d,some (g,b),.no,.mv (.t a)⟩
abbrev yW:=List AIns
abbrev yX:=ACode
abbrev yq(r:List AIns)(c:ACode):ACode:=.seq (.reg r) c
@[go_sem] def yN (d n a b:Nat):AIns:=⟨some d,none,.no,.iaSl n (.t a) (.t b)⟩
@[go_sem] def yO (d a:Nat):AIns:=⟨some d,none,.no,.nilc (.t a)⟩
@[go_sem] def yZ (d a:Nat):AIns:=⟨some d,none,.no,.lenSl (.t a)⟩
@[go_sem] def yY (d:Nat) (k:IntKind) (a:Nat):AIns:=⟨some d,none,.no,.conv (.int k) (.t a)⟩
@[go_sem] def yA (d n m a:Nat) (i:Int):AIns:=⟨some d,none,.no,.iaArr n m (.t a) (.v (.int .i64 i))⟩
@[go_sem] def yb (d:Nat) (b:Bool):AIns:=⟨some d,none,.no,.mv (.v (.bool b))⟩
@[go_sem] def ye (d:Nat):AIns:=⟨some d,none,.no,.mv (.v (.str []))⟩
@[go_sem] def yx (d a:Nat):AIns:=⟨some d,none,.no,.box (.t a)⟩
@[go_sem] def yc (d f a b c:Nat):AIns:=⟨some d,none,.no,.call (.v (.fn f [])) [.t a,.t b,.t c]⟩
@[go_sem] def yf (d f a:Nat):AIns:=⟨some d,none,.ef,.call (.v (.fn f [])) [.t a]⟩
@[go_sem] def yg (d f a b:Nat):AIns:=⟨some d,none,.ef,.call (.v (.fn f [])) [.t a,.t b]⟩
@[go_sem] def yu (d a:Nat):AIns:=⟨some d,none,.no,.un .not (.t a)⟩
@[go_sem] def zZ1:List AV:=[.int .i64 0,.int .u8 0,.int .u8 0,.int .u8 0,.int .u8 0,.int .u8 0,.int .u8 0,.int .u8 0,.int .u8 0,.int .u8 0,.int .u8 0,.int .u8 0,.int .u8 0,.int .u8 0,.int .u8 0,.int .u8 0,.int .u8 0,.int .u8 0,.int .u8 0,.int .u8 0,.int .u8 0,.int .u8 0,.int .u8 0,.int .u8 0,.int .u8 0,.int .u8 0,.int .u8 0,.int .u8 0,.int .u8 0,.int .u8 0,.int .u8 0,.int .u8 0,.int .u8 0,.int .i64 0,.str [],.nilsl]
end
section
open Go.ChangeShapes Go.WideShapes Go.ChangeAt Go.RowKit
section
variable {H:Type} {enc:TypeId × Value->H} {P:Program} {w:World}
theorem zv1{base:Nat}{spare:Nat->Bool}{held:Bool}{fuel:Nat}{k:IntKind}{cs:List Value}{p:List MemPlace}(ns:List Int)
  (ht:P.underlying t=some (.array n e)) (he:P.underlying e=some (.int k)) (hc:P.cellsOf e=1) (hct:P.cellsOf t=n)
  (h:DataW.trod enc P w base spare held fuel t cs=some (.agg (ns.map fun i=> .lit (.int k i)),p)):cs=ns.map (Value.int k):=by
 obtain⟨xs,m,rfl,hx,hl,hn,hel⟩:=DataW.trod_array ht h
 simp only [Prod.mk.injEq,DataW.agg.injEq]at hx
 have hx1:=hx.1
 have hlen:ns.length=n:=by
  have:=congrArg List.length hx1
  simp only [List.length_map]at this
  omega
 rw [hct]at hl
 refine List.ext_getElem? fun i=> ?_
 by_cases hi:i<n
 ·have h1:=hel i hi
  rw [hc,Nat.mul_one]at h1
  obtain⟨x,hxi⟩:∃x,xs[i]? =some x:=⟨xs[i]'(by omega),List.getElem?_eq_getElem (by omega)⟩
  rw [hxi]at h1
  obtain⟨v,e1,e2,_⟩:=DataW.trod_int he h1
  subst e2
  have h2:=congrArg (fun l=>l[i]?) hx1
  simp only [List.getElem?_map,hxi,Option.map_some]at h2
  rw [List.getElem?_map]
  cases hns:ns[i]? with
  |none=>rw [hns]at h2;simp at h2
  |some z=>
   rw [hns]at h2
   simp only [Option.map_some,Option.some.injEq,DataW.lit.injEq,Lit.int.injEq,true_and]at h2
   subst h2
   have h3:=congrArg (fun l=>l[0]?) e1
   simp only [List.getElem?_take,List.getElem?_drop]at h3
   simpa using h3
 ·rw [List.getElem?_eq_none (by omega),List.getElem?_eq_none (by simp;omega)]
theorem z10a{n:String}{g:Nat}{cs:Array Value}(hg:P.globalNamed n=some g)(h:w.var? P n=some cs):Imm [] w g/\ Seg w g 0 cs.toList:=by
 unfold World.var? at h
 rw [hg,Option.bind_some]at h
 split at h
 ·rename_i c ty fz hb
  simp only [Option.some.injEq]at h;subst h
  refine⟨⟨?_,by simp⟩,c,ty,fz,[],[],hb,by simp,rfl⟩
  rcases Nat.lt_or_ge g w.heap.size with h2|h2
  ·exact h2
  ·simp [Array.getElem?_eq_none h2]at hb
 ·cases h
theorem zhy{Z:Places}{k:IntKind}:∀(ns:List Int),VRs Z w (ns.map (AV.int k)) (ns.map (Value.int k))
 | []=>VRs.nil
 | _::ns=>VRs.cons ⟨VR.int,rfl⟩ (zhy ns)
theorem vp_of_var{n:String}{g:Nat}{m:Nat}{k:IntKind}{g':Nat}{t':TypeId}{cs:Array Value}{fuel:Nat}{p:List MemPlace}(ns:List Int)
  (hg:P.globalNamed n=some g) (htg:(P.globals[g]?).map (·.type)=some t) (ht:P.underlying t=some (.array m e)) (he:P.underlying e=some (.int k)) (hc:P.cellsOf e=1) (hct:P.cellsOf t=m)
  (k1:P.globalNamed n=some g') (k2:(P.globals[g']?).map (·.type)=some t') (k3:w.var? P n=some cs)
  (k4:DataW.trod enc P w 0 (fun _=>true) false fuel t' cs.toList=some (.agg (ns.map fun i=> .lit (.int k i)),p)):VR [] w (.vp (ns.map (AV.int k))) (.pointer (some ⟨g,0,none⟩)):=by
 obtain rfl:=Option.some.inj (hg.symm.trans k1)
 obtain rfl:=Option.some.inj (htg.symm.trans k2)
 obtain⟨h1,h2⟩:=z10a hg k3
 rw [zv1 ns ht he hc hct k4]at h2
 exact⟨g,0,_,rfl,h1,h2,zhy ns⟩
theorem law_contract_at{fn:Func}{e:Nat × List RV × ACode}(hc:cFn C f=some e){d:Nat}{tys:List Ty}(htys:za5 C.P d fn.params.toList=some tys)
  (hlaw:∀avs,z8k tys avs->ACallsTo C f avs [] (.bool true) []) {s:ChangeSpec} (hvars:s.vars=[])
  (hspec:∀ds:List (DataW H),ds.length=fn.params.toList.length->(s.fn H ds).results=[.lit (.bool true)]/\ (s.fn H ds).args=ds/\ (s.fn H ds).vars=[]) {tb:TypeId} (hres:fn.resultTypes= #[tb]) (htb:C.P.underlying tb=some .bool)
  (hl:laidOutB C.P=true) (hpar:(fn.params.toList.all fun t=>C.P.readableRec t && decide (t<C.P.types.size))=true)
  {W:World} (hR:Rel C [] [] W) {base:Nat} {args:Array Value} {ds gs:List (DataW H)} {before:List MemPlace} (hval:∀(j:Nat) t v,fn.params[j]? =some t->args[j]? =some v->Value.okWide C.P W .any base t v)
  (hW:DataW.Whole enc C.P fn.params.toList s.vars false W args.toList ds gs before):
  Calls C.P f args W fun e W'=>∃v,e=.returned v/\ s.post enc C.P fn false true false false W args v W':=by
 have hW':=hW
 obtain⟨p,q,hA,hV,rfl,hfz,hnd⟩:=hW
 obtain⟨avs,h1,h2⟩:=zln (r:=.any) (b0:=base) htys (fun j t v hj hv=>hval j t v (by simpa using hj) (by simpa using hv)) hA
 have hcall:=(hlaw avs h2).calls hc hR h1
 have ea:args.toList.toArray=args:=by simp
 rw [ea]at hcall
 refine hcall.mono ?_
 rintro x w' ⟨rfl,hb⟩
 refine⟨_,rfl,zva hW' hvars (fun gs hgs=> ?_) hres htb hl hpar hb⟩
 subst hgs
 rw [List.append_nil]
 exact hspec ds (zoy hA)
end
end
section
def shaFirst:List Int:=[1779033703,3144134277,1013904242,2773480762,1359893119,2600822924,528734635,1541459225]
def shaRounds:List Int:=[1116352408,1899447441,3049323471,3921009573,961987163,1508970993,2453635748,2870763221,3624381080,310598401,607225278,1426881987,1925078388,2162078206,2614888103,3248222580,3835390401,4022224774,264347078,604807628,770255983,1249150122,1555081692,1996064986,2554220882,2821834349,2952996808,3210313671,3336571891,3584528711,113926993,338241895,666307205,773529912,1294757372,1396182291,1695183700,1986661051,2177026350,2456956037,2730485921,2820302411,3259730800,3345764771,3516065817,3600352804,4094571909,275423344,430227734,506948616,659060556,883997877,958139571,1322822218,1537002063,1747873779,1955562222,2024104815,2227730452,2361852424,2428436474,2756734187,3204031479,3329325298]
def zea:List AV:=shaFirst.map (AV.int .u32)
def gl_sha_rounds:List AV:=shaRounds.map (AV.int .u32)
noncomputable def TC:Ctx:=⟨Tryz.prog,fun g=>if g=0 then some zea else if g=1 then some gl_sha_rounds else none⟩
theorem zge{k:Nat}{i:IntKind}:∀(l:List Int),RLs k (l.map (AV.int i))
 | []=>by simp [RLs]
 | _::l=>by simp [RLs,RL];exact zge l
theorem glok:GlOK TC:=by
 intro g cs h
 simp only [TC]at h
 split at h
 ·cases h;exact zge _
 ·split at h
  ·cases h;exact zge _
  ·cases h
end
end Am
end Go.Proofs.YtcdcmgjnbjoajaaGreatDoor
section
namespace Go.Proofs
open Go.RowKit Go.Shelf
attribute [local go_sem] Oper.semAt_some
end Go.Proofs
end
namespace Go.Proofs.YtcdcmgjnbjoajaaGreatDoor
namespace Am
variable {vs:List Value}{w w':World}{Z Z':Places}{k n i off sz r p:Nat}{C:Ctx}{cs:List AV}{t e:TypeId}{x v:AV}{a b:Int}{es ys:List (List AV)}{s:List UInt8}{O O':Store}{f:FuncId}{J:Env}{K:Env->Store->Prop}{d:Option Nat}{ops:Array Oper}{ac:ACode}{rest:List (Nat × Nat × AV)}
section
def q0c23:yX:=.seq (yq [yM 15 1,yK 16 .i64 0] (.block 0 (.loop (yq [yB 17 .lss 16 15] (.seq (.cond (.t 17) .skip (.exit 0)) (.seq (.block 1 (yq [yM 18 16,yM 6 18] (yq [yM 19 5,yM 20 1,yJ 21 .sub 20 .i64 1,yM 22 6,yB 23 .sub 21 22,yM 24 0,yY 25 .u8 24,yN 26 1 19 23,yS 1 26 25] (.reg [yM 27 0,yJ 28 .shr 27 .u64 8,yM 0 28])))) (.reg [yJ 29 .add 16 .i64 1,yM 16 29]))))))) (yq [yM 30 5,yI 31 (.conv .str (.t 30)),yM 4 31] .ret)
def q0c26:yX:=yq [ye 4] (.seq (yq [yM 7 1,yJ 8 .lss 7 .i64 1,yM 9 8,yV 10 9 false 1,yG 11 9 false (.bin .gtr .none (.t 10) (.v (.int .i64 8))),yP 12 9 11] (.cond (.t 12) (yq [ye 4] .ret) .skip)) (yq [yM 13 1,yI 14 (.make 1 [(.int .u8 0)] (.t 13) (.t 13)),yM 5 14] q0c23))
theorem q0ok:cFn TC 128=some (32,[.t 4],q0c26):=by kernel_rfl
def q1c11:yX:=.seq (yq [yM 7 6,yM 8 1,yB 9 .lss 7 8,yM 10 9,yV 11 10 true 1,yG 12 10 true (.bin .lss .none (.t 11) (.v (.int .i64 9))),yQ 13 10 12] (.cond (.t 13) .skip (.exit 0))) (.seq (.block 1 (yq [yM 16 0,yJ 17 .rem 16 .u64 256,yY 18 .u8 17,yI 19 (.lit 1 [(.t 18)]),yI 20 (.conv .str (.t 19)),yM 21 5,yB 22 .add 20 21,yM 5 22] (.reg [yM 23 0,yJ 24 .quo 23 .u64 256,yM 0 24]))) (.reg [yM 14 6,yJ 15 .add 14 .i64 1,yM 6 15]))
def q1c19:yX:=yq [ye 4] (yq [ye 5] (.seq (yq [yK 6 .i64 0] (.block 0 (.loop q1c11))) (yq [yM 25 5,yM 4 25] .ret)))
theorem q1ok:cFn TC 95=some (26,[.t 4],q1c19):=by kernel_rfl
def q2r0:yW:=[
 yK 4 .u32 0]
def q2r1:yW:=[
 yM 5 0,
 yM 6 1,
 yJ 7 .rem 6 .i64 32,
 yI 8 (.un .neg (.t 7)),
 yD 9 170 5 8,
 yM 4 9]
def q2c2:yX:=yq q2r1 .ret
def q2c3:yX:=yq q2r0 q2c2
attribute [go_sem] q2r0 q2r1
theorem q2ok:cFn TC 154=some (10,[.t 4],q2c3):=by kernel_rfl
def q3c8:yX:=.seq (yq [yM 5 1,yJ 6 .lss 5 .i64 0,yM 7 6,yV 8 7 false 1,yG 9 7 false (.bin .quo .none (.t 8) (.v (.int .i64 8))),yV 10 7 false 0,yG 11 7 false (.lenStr (.t 10)),yG 12 7 false (.bin .geq .none (.t 9) (.t 11)),yP 13 7 12] (.cond (.t 13) (yq [yK 4 .i64 0] .ret) .skip)) (yq [yM 14 0,yM 15 1,yJ 16 .quo 15 .i64 8,yI 17 (.ixStr (.t 14) (.t 16)),yM 18 1,yJ 19 .rem 18 .i64 8,yI 20 (.bin .sub .none (.v (.int .i64 7)) (.t 19)),yB 21 .shr 17 20,yJ 22 .and 21 .u8 1,yY 23 .i64 22,yM 4 23] .ret)
def q3c9:yX:=yq [yK 4 .i64 0] q3c8
theorem q3ok:cFn TC 131=some (24,[.t 4],q3c9):=by kernel_rfl
def q4c22:yX:=.seq (yq [yM 7 1,yJ 8 .lss 7 .i64 0,yM 9 8,yV 10 9 false 1,yG 11 9 false (.bin .quo .none (.t 10) (.v (.int .i64 8))),yV 12 9 false 0,yG 13 9 false (.lenStr (.t 12)),yG 14 9 false (.bin .geq .none (.t 11) (.t 13)),yP 15 9 14] (.cond (.t 15) (yq [yK 4 .i64 0] .ret) .skip)) (yq [yM 16 0,yM 17 1,yJ 18 .quo 17 .i64 8,yI 19 (.ixStr (.t 16) (.t 18)),yM 5 19] (.seq (yq [yM 20 1,yJ 21 .rem 20 .i64 8,yM 6 21] (.block 0 (.loop (.seq (yq [yM 22 6,yJ 23 .lss 22 .i64 7] (.cond (.t 23) .skip (.exit 0))) (.seq (.block 1 (.reg [yM 26 5,yJ 27 .quo 26 .u8 2,yM 5 27])) (.reg [yM 24 6,yJ 25 .add 24 .i64 1,yM 6 25])))))) (yq [yM 28 5,yJ 29 .rem 28 .u8 2,yY 30 .i64 29,yM 4 30] .ret)))
def q4c23:yX:=yq [yK 4 .i64 0] q4c22
theorem q4ok:cFn TC 156=some (31,[.t 4],q4c23):=by kernel_rfl
def q5c16:yX:=.seq (yq [yM 5 0,yI 6 (.lenStr (.t 5)),yI 7 (.minmax false (.t 6) (.v (.int .i64 8))),yK 8 .i64 0] (.block 0 (.loop (yq [yB 9 .lss 8 7] (.seq (.cond (.t 9) .skip (.exit 0)) (.seq (.block 1 (yq [yM 10 8,yM 4 10] (.reg [yM 11 3,yJ 12 .shl 11 .u64 8,yM 13 0,yM 14 4,yI 15 (.ixStr (.t 13) (.t 14)),yY 16 .u64 15,yB 17 .add 12 16,yM 3 17]))) (.reg [yJ 18 .add 8 .i64 1,yM 8 18]))))))) (yq [yM 19 3,yM 2 19] .ret)
def q5c18:yX:=yq [yK 2 .u64 0] (yq [yK 3 .u64 0] q5c16)
theorem q5ok:cFn TC 169=some (20,[.t 2],q5c18):=by kernel_rfl
def q6r0:yW:=[
 yK 4 .u32 0]
def q6r1:yW:=[
 yM 6 1,
 yY 7 .u64 6,
 yJ 8 .and 7 .u64 31,
 yM 5 8]
def q6r2:yW:=[
 yM 9 0,
 yM 10 5,
 yB 11 .shl 9 10,
 yM 12 0,
 yM 13 5,
 yI 14 (.bin .sub .none (.v (.int .u64 32)) (.t 13)),
 yB 15 .shr 12 14,
 yB 16 .or 11 15,
 yM 4 16]
def q6c3:yX:=yq q6r2 .ret
def q6c4:yX:=yq q6r1 q6c3
def q6c5:yX:=yq q6r0 q6c4
attribute [go_sem] q6r0 q6r1 q6r2
theorem q6ok:cFn TC 170=some (17,[.t 4],q6c5):=by kernel_rfl
end
section
theorem and31(k:Int):IntKind.u64.wrap ((BitVec.ofInt IntKind.u64.bits (IntKind.u64.wrap k) &&& BitVec.ofInt IntKind.u64.bits 31).toNat:Int)=((k%32).toNat:Int):=by
 rw [u_nat (by rfl),BitVec.toNat_and]
 have h1:(BitVec.ofInt IntKind.u64.bits 31).toNat=2^5-1:=by decide
 have h2:((BitVec.ofInt IntKind.u64.bits (IntKind.u64.wrap k)).toNat:Int)=k%18446744073709551616:=by
  rw [BitVec.toNat_ofInt,zd6 (by rfl)]
  simp only [IntKind.bits]
  omega
 rw [h1,Nat.and_two_pow_sub_one_eq_mod]
 omega
theorem z131(x:BitVec 32):IntKind.u32.wrap (x.toNat:Int)=x.toNat:=u_nat (k:=.u32) (by rfl) x
theorem rot_or(x:BitVec 32)(s:Nat)(hs:s<32):
  IntKind.u32.wrap ((BitVec.ofInt 32 (IntKind.u32.wrap ((x.toNat:Int)*2^min s 32)) |||BitVec.ofInt 32 ((x.toNat:Int).fdiv (2^min (32-s) 32))).toNat:Int)=((x.rotateLeft s).toNat:Int):=by
 rw [z131]
 have h1:BitVec.ofInt 32 (IntKind.u32.wrap ((x.toNat:Int)*2^min s 32))=x<<<s:=by
  apply BitVec.eq_of_toNat_eq
  rw [BitVec.toNat_ofInt,zd6 (by rfl),Nat.min_eq_left (by omega),BitVec.toNat_shiftLeft,Nat.shiftLeft_eq]
  simp only [IntKind.bits]
  have:((x.toNat:Int)*2^s)=((x.toNat*2^s:Nat):Int):=by simp
  rw [this]
  omega
 have h2:BitVec.ofInt 32 ((x.toNat:Int).fdiv (2^min (32-s) 32))=x>>>(32-s):=by
  apply BitVec.eq_of_toNat_eq
  have hx:=x.isLt
  rw [BitVec.toNat_ofInt,Nat.min_eq_left (by omega),BitVec.toNat_ushiftRight,Nat.shiftRight_eq_div_pow,Int.fdiv_eq_ediv_of_nonneg _ (by exact_mod_cast Nat.zero_le _)]
  have:((x.toNat:Int)/2^(32-s))=((x.toNat/2^(32-s):Nat):Int):=by simp
  rw [this]
  have h3:x.toNat/2^(32-s)<=x.toNat:=Nat.div_le_self _ _
  generalize x.toNat/2^(32-s)=y at*
  omega
 rw [h1,h2,BitVec.rotateLeft_def]
 simp only [Nat.mod_eq_of_lt hs]
theorem zr7(O:Store)(x:BitVec 32)(k:Int):ACallsTo TC 170 [.int .u32 x.toNat,.int .i64 k] O (.int .u32 (x.rotateLeft (k%32).toNat).toNat) O:=by
 refine ACallsTo.of_body q6ok (by simp) fun hw _=> ?_
 have hs:(k%32).toNat<32:=by omega
 generalize hk:(k%32).toNat=s at*
 have h31:=and31 k
 rw [hk]at h31
 have e1:¬((s:Int)<0):=by omega
 have e2:IntKind.u64.wrap (32-(s:Int))=((32-s:Nat):Int):=by
  rw [zd6 (by rfl)];simp only [IntKind.bits];omega
 have e3:¬(((32-s:Nat):Int)<0):=by omega
 unfold q6c5
 refine zW.seqReg ?_
 simp only [q6r0,yM,yI,yG,yS,yC,yD,yK,yP,yQ,yE,yF,yL,yR,yB,yJ,yT,yU,yV,yN,yO,yZ,yY,yA,yb,ye,yx,yc,yf,yg,yu,z7y,z6j,z78,z3q,z1x,AOp.run,AX.ev,putE,Option.map_some,Nat.reduceEqDiff,Nat.reduceAdd,z6x]
 unfold q6c4
 refine zW.seqReg ?_
 simp only [q6r1,yM,yI,yG,yS,yC,yD,yK,yP,yQ,yE,yF,yL,yR,yB,yJ,yT,yU,yV,yN,yO,yZ,yY,yA,yb,ye,yx,yc,yf,yg,yu,z7y,z6j,z78,z3q,z1x,AOp.run,AX.ev,putE,upd,z3w,Option.map_some,rBin,z1d,z6y,List.getD_cons_zero,List.getD_cons_succ,List.getD_nil,if_true,if_false,Nat.reduceEqDiff,Nat.reduceAdd,z6x,zbq,zls]
 unfold q6c3
 refine zW.seqReg ?_
 simp only [q6r2,yM,yI,yG,yS,yC,yD,yK,yP,yQ,yE,yF,yL,yR,yB,yJ,yT,yU,yV,yN,yO,yZ,yY,yA,yb,ye,yx,yc,yf,yg,yu,h31,e1,e2,e3,Int.toNat_natCast,z7y,z6j,z78,z3q,z1x,AOp.run,AX.ev,putE,upd,z3w,Option.map_some,rBin,z1d,z25,List.getD_cons_zero,List.getD_cons_succ,List.getD_nil,if_true,if_false,reduceCtorEq,Nat.reduceEqDiff,Nat.reduceAdd,z6x,zbq]
 refine zq_ ?_
 have h:=rot_or x s hs
 simp only [IntKind.bits,upd,z3w,endQ,retV,oks,RV.ok,RV.val,Bool.and_true,List.getD_cons_succ,List.getD_nil,if_true,if_false,Nat.reduceEqDiff,Nat.reduceAdd]
 exact⟨trivial,(congrArg (fun z=>DownV O.length (.int .u32 z) O (.int .u32 (x.rotateLeft s).toNat) O) h).mpr (DownV.same hw (z15 _ rfl))⟩
theorem wrap64{n:Int}(h1: -9223372036854775808<=n)(h2:n<9223372036854775808):IntKind.i64.wrap n=n:=by
 simp [IntKind.wrap,IntKind.signed,IntKind.bits]
 omega
theorem zw0(k:Int):(IntKind.i64.wrap (0-k.tmod 32))%32=(-k)%32:=by
 have h: -31<=k.tmod 32/\ k.tmod 32<=31:=by
  rw [Int.tmod_eq_emod];split<;>simp<;>omega
 rw [wrap64 (by omega) (by omega),Int.tmod_eq_emod]
 split
 ·omega
 ·simp;omega
theorem zaw(O:Store)(x:BitVec 32)(k:Int):ACallsTo TC 154 [.int .u32 x.toNat,.int .i64 k] O (.int .u32 (x.rotateLeft ((-k)%32).toNat).toNat) O:=by
 refine ACallsTo.of_body q2ok (by simp) fun hw _=> ?_
 refine zW.seqReg ?_
 simp only [q2r0,yM,yI,yG,yS,yC,yD,yK,yP,yQ,yE,yF,yL,yR,yB,yJ,yT,yU,yV,yN,yO,yZ,yY,yA,yb,ye,yx,yc,yf,yg,yu,z7y,z6j,z78,z3q,z1x,AOp.run,AX.ev,putE,Option.map_some,Nat.reduceEqDiff,Nat.reduceAdd,z6x]
 refine zW.seqReg ?_
 simp only [q2r1,yM,yI,yG,yS,yC,yD,yK,yP,yQ,yE,yF,yL,yR,yB,yJ,yT,yU,yV,yN,yO,yZ,yY,yA,yb,ye,yx,yc,yf,yg,yu,show ¬((32:Int)=0)by decide,zlq,z6j,z78,zj1,z3q,z1x,AOp.run,AX.ev,putE,upd,z3w,Option.map_some,rBin,z1d,aUn,List.map_cons,List.map_nil,List.getD_cons_zero,List.getD_cons_succ,List.getD_nil,if_true,if_false,reduceCtorEq,Nat.reduceEqDiff,Nat.reduceAdd,z6x,zbq,ow_un]
 have h:=zr7 O x (IntKind.i64.wrap (0-k.tmod 32))
 rw [zw0]at h
 refine callW.zp h ?_
 simp only [z7y,z6j,z78,z3q,z1x,AOp.run,AX.ev,putE,upd,z3w,Option.map_some,List.getD_cons_succ,List.getD_nil,if_true,if_false,Nat.reduceEqDiff,Nat.reduceAdd,z6x]
 refine zq_ ?_
 simp only [upd,z3w,endQ,retV,oks,RV.ok,RV.val,Bool.and_true,List.getD_cons_succ,List.getD_nil,if_true,if_false,Nat.reduceEqDiff,Nat.reduceAdd]
 exact⟨trivial,DownV.same hw (z15 _ rfl)⟩
def pc:Nat->Nat->Nat
 | 0,_=>0
 |w+1,n=>n%2+pc w (n/2)
end
section
def lg:Nat->Nat->Nat
 | 0,_=>0
 |w+1,n=>if n=0 then 0 else 1+lg w (n/2)
end
section
def rep(m:Nat):Nat->Nat
 | 0=>0
 |n+1=>256*rep m n+m
end
section
theorem z2b{i:IntKind}{n:Int}:RL k (.int i n):=z15 _ rfl
theorem z40:RL k (.str s):=z15 _ rfl
theorem z1k{b:Bool}:RL k (.bool b):=z15 _ rfl
def be:Nat->Nat->List UInt8
 | 0,_=>[]
 |n+1,x=>be n (x/256)++ [UInt8.ofNat x]
theorem z44:∀n x,(be n x).length=n
 | 0,_=>rfl
 |n+1,x=>by simp [be,z44 n]
theorem z8x:∀n x,be (n+1) x=UInt8.ofNat (x/256^n)::be n x
 | 0,x=>by simp [be]
 |n+1,x=>by
  rw [be,z8x n (x/256),Nat.div_div_eq_div_mul,Nat.pow_succ,Nat.mul_comm 256,be]
  rfl
def putS(x n:Int):List UInt8:=if 1<=n/\ n<=8 then be n.toNat x.toNat else []
theorem z123(O:Store)(x n:Int)(h:0<=x/\ x<18446744073709551616)(hn:n<9223372036854775808):ACallsTo TC 95 [.int .u64 x,.int .i64 n] O (.str (putS x n)) O:=by
 refine ACallsTo.of_body q1ok (by simp) fun hw _=> ?_
 repeat' (first|apply zA rfl|(apply zd_ rfl<;>intro ht<;>try omega)|((first|apply zB rfl|(apply zG<;>intro ht))<;>try simp (disch:=first|omega|simp only [lz];try omega) only [go_sem]))
 refine zW.loop (fun m J O'=>O'=O/\ ∃(i:Nat) (y:Nat),J 0=.int .u64 y/\ J 1=.int .i64 n/\ J 6=.int .i64 i/\ J 5=.str (be i x.toNat)/\ m+i=9/\ (i:Int)<=max n 0/\ y=x.toNat/256^i/\ (0<i->n<9)) 9 ?_ ?_
 ·refine⟨rfl,0,x.toNat,?_,?_,?_,?_,by omega,by omega,by simp,by omega⟩<;>simp (disch:=first|omega|simp only [lz];try omega) only [go_sem,be]
  ·exact z47 (by omega)
  ·rfl
 ·rintro m J _ ⟨rfl,i,y,q0,q1,q6,q5,hm,hi,hy,h9⟩
  have hl:=z44 i x.toNat
  have hy2:y<18446744073709551616:=by
   have:=Nat.div_le_self x.toNat (256^i)
   omega
  repeat' (first|apply zA rfl|(apply zd_ rfl<;>intro ht<;>try omega)|((first|apply zB rfl|(apply zG<;>intro ht))<;>try simp (disch:=first|omega|simp only [lz];try omega) only [go_sem,q0,q1,q6,q5]))
  ·refine⟨m-1,by omega,i+1,y/256,z47 (by omega),z47 (by omega),str_eq ?_,by omega,by omega,?_,by omega⟩
   ·rw [z8x,<-hy]
    congr 1
    apply UInt8.toNat_inj.1
    simp;omega
   ·rw [hy,Nat.div_div_eq_div_mul,Nat.pow_succ]
  ·have e:i=0:=by omega
   subst e
   rw [putS,if_neg (by omega)]
   exact DownV.same hw z40
  ·by_cases h8:1<=n/\ n<=8
   ·have e:i=n.toNat:=by omega
    rw [putS,if_pos h8,e]
    exact DownV.same hw z40
   ·have e:i=0:=by omega
    subst e
    rw [putS,if_neg h8]
    exact DownV.same hw z40
theorem z6g(O:Store)(x n:Int)(h:0<=x/\ x<18446744073709551616)(hn:n<9223372036854775808):ACallsTo TC 128 [.int .u64 x,.int .i64 n] O (.str (putS x n)) O:=by
 refine ACallsTo.of_body q0ok (by simp) fun hw _=> ?_
 repeat' (first|apply zA rfl|(apply zd_ rfl<;>intro ht<;>try omega)|((first|apply zB rfl|(apply zG<;>intro ht))<;>try simp (disch:=first|omega|simp only [lz];try omega) only [go_sem]))
 ·rw [putS,if_neg (by omega)]
  exact DownV.same hw z40
 ·rw [putS,if_neg (by omega)]
  exact DownV.same hw z40
 rw [putS,if_pos (by omega)]
 obtain⟨k,hk⟩:∃k:Nat,n=k:=⟨n.toNat,by omega⟩
 subst hk
 rw [Int.toNat_natCast]
 refine zW.loop (fun m J O'=>∃(i:Nat) (y:Nat) (s:List UInt8),O'=O++ [some (zy s)]/\ s.length=k/\ s.drop (k-i)=be i x.toNat/\ J 0=.int .u64 y/\ J 1=.int .i64 k/\ J 15=.int .i64 k/\ J 5=.sl O.length 0 k (some k) 1/\ J 16=.int .i64 i/\ m+i=k/\ y=x.toNat/256^i) k ?_ ?_
 ·refine⟨0,x.toNat,List.replicate k 0,?_,by simp,by simp [be],?_,?_,?_,?_,?_,by omega,by simp⟩<;>try simp (disch:=first|omega|simp only [lz];try omega) only [go_sem]
  ·exact z47 (by omega)
  ·exact z47 (by omega)
 ·rintro m J _ ⟨i,y,s,rfl,hs,hd,q0,q1,q15,q5,q16,hm,hy⟩
  have hy2:y<18446744073709551616:=by
   have:=Nat.div_le_self x.toNat (256^i)
   omega
  repeat' (first|apply zA rfl|(apply zd_ rfl<;>intro ht<;>try omega)|((first|apply zB rfl|(apply zG<;>intro ht))<;>try simp (disch:=first|omega|simp only [lz];try omega) only [go_sem,q0,q1,q15,q5,q16]))
  ·refine⟨m-1,by omega,i+1,y/256,_,rfl,by simp [hs],?_,z47 (by omega),z47 (by omega),by omega,?_⟩
   ·rw [z8x,<-hy,<-hd]
    have e1:((k:Int)-1-i).toNat=k-(i+1):=by omega
    have e2:UInt8.ofNat ((y:Int)%256).toNat=UInt8.ofNat y:=by
     apply UInt8.toNat_inj.1
     simp;omega
    rw [e1,e2,List.drop_set]
    simp only [Nat.lt_irrefl,if_false,Nat.sub_self]
    rw [List.drop_eq_getElem_cons (by omega),List.set_cons_zero,show k-(i+1)+1=k-i by omega]
   ·rw [hy,Nat.div_div_eq_div_mul,Nat.pow_succ]
  ·have e:i=k:=by omega
   subst e
   rw [Nat.sub_self,List.drop_zero]at hd
   rw [<-hd]
   exact DownV.pure hw z40
end
section
def val(s:List UInt8):Nat:=s.foldl (fun n b=>256*n+b.toNat) 0
theorem z138(s:List UInt8)(b:UInt8):val (s++ [b])=256*val s+b.toNat:=by simp [val]
theorem z12q{α:Type}(s:List α)(i:Nat)(d:α)(h:i<s.length):s.take (i+1)=s.take i++ [s.getD i d]:=by
 rw [List.take_add_one,getQ s i d h];rfl
theorem zp7(s:List UInt8)(i:Nat)(h:i<s.length):val (s.take (i+1))=256*val (s.take i)+(s.getD i 0).toNat:=by
 rw [z12q s i 0 h,z138]
theorem zp4:∀(i:Nat) (s:List UInt8),i<=s.length->val (s.take i)<256^i
 | 0,s,_=>by simp [val]
 |i+1,s,h=>by
  have:=zp4 i s (by omega)
  have hb:=(s.getD i 0).toNat_lt
  rw [zp7 s i (by omega),Nat.pow_succ]
  omega
def getS(s:List UInt8):Nat:=val (s.take 8)
theorem zin(O:Store)(s:List UInt8)(hs:s.length<9223372036854775808):ACallsTo TC 169 [.str s] O (.int .u64 (getS s)) O:=by
 refine ACallsTo.of_body q5ok (by simp) fun hw _=> ?_
 obtain⟨k,hk,hk2⟩:∃k:Nat,(k:Int)=(if (8:Int)<s.length then(8:Int)else(s.length:Int))/\ k=min 8 s.length:=⟨min 8 s.length,by split<;>omega,rfl⟩
 have hgs:getS s=val (s.take k):=by
  rw [hk2,getS]
  by_cases h:8<=s.length
  ·rw [Nat.min_eq_left h]
  ·rw [Nat.min_eq_right (by omega),List.take_of_length_le (by omega),List.take_length]
 rw [hgs]
 repeat' (first|apply zA rfl|(apply zd_ rfl<;>intro ht<;>try omega)|((first|apply zB rfl|(apply zG<;>intro ht))<;>try simp (disch:=first|omega|simp only [lz];try omega) only [go_sem,<-hk]))
 refine zW.loop (fun m J O'=>O'=O/\ ∃(i:Nat),J 0=.str s/\ J 7=.int .i64 k/\ J 8=.int .i64 i/\ J 3=.int .u64 (val (s.take i))/\ m+i=k) k ?_ ?_
 ·refine⟨rfl,0,?_,?_,?_,?_,by omega⟩<;>simp (disch:=first|omega|simp only [lz];try omega) only [go_sem]<;>rfl
 ·rintro m J _ ⟨rfl,i,q0,q7,q8,q3,hm⟩
  have hv:=zp4 i s (by omega)
  have hp:i<k->256*256^i<=18446744073709551616:=by
   intro h
   have:256^(i+1)<=256^8:=Nat.pow_le_pow_right (by decide) (by omega)
   rw [Nat.pow_succ]at this
   omega
  have hb:=(s.getD i 0).toNat_lt
  repeat' (first|apply zA rfl|(apply zd_ rfl<;>intro ht<;>try omega)|((first|apply zB rfl|(apply zG<;>intro ht))<;>try simp (disch:=first|omega|simp only [lz];try omega) only [go_sem,q0,q7,q8,q3]))
  ·have hp':=hp (by omega)
   have hvt:=zp7 s i (by omega)
   refine⟨m-1,by omega,i+1,z47 (by omega),?_,by omega⟩
   rw [hvt]
   exact z47 (by omega)
  ·have e:i=k:=by omega
   subst e
   exact DownV.same hw z2b
def bitS(s:List UInt8)(i:Int):Nat:=if 0<=i/\ i/8<s.length then(s.getD (i/8).toNat 0).toNat/2^(7-i%8).toNat%2 else 0
theorem zjk(c n:Nat):c/2^n<=c:=Nat.div_le_self _ _
theorem zil(O:Store)(s:List UInt8)(i:Int)(hs:s.length<9223372036854775808)(hi: -9223372036854775808<=i/\ i<9223372036854775808):ACallsTo TC 131 [.str s,.int .i64 i] O (.int .i64 (bitS s i)) O:=by
 refine ACallsTo.of_body q3ok (by simp) fun hw _=> ?_
 have hb:=(s.getD (i/8).toNat 0).toNat_lt
 have hd:=zjk (s.getD (i/8).toNat 0).toNat (7-i%8).toNat
 obtain⟨q,hq⟩:∃q,q=(s.getD (i/8).toNat 0).toNat/2^(7-i%8).toNat:=⟨_,rfl⟩
 have hc:((s.getD (i/8).toNat 0).toNat:Int)/2^(7-i%8).toNat=(q:Int):=by rw [hq];simp
 rw [<-hq]at hd
 repeat' (first|apply zA rfl|(apply zd_ rfl<;>intro ht<;>try omega)|((first|apply zB rfl|(apply zG<;>intro ht))<;>try simp (disch:=first|omega|simp only [lz];try omega) only [go_sem,hc]))
 ·rw [bitS,if_neg (by omega)]
  exact DownV.same hw z2b
 ·rw [bitS,if_neg (by omega)]
  exact DownV.same hw z2b
 ·rw [bitS,if_pos (by omega),<-hq]
  exact DownV.same hw z2b
theorem z122(O:Store)(s:List UInt8)(i:Int)(hs:s.length<9223372036854775808)(hi: -9223372036854775808<=i/\ i<9223372036854775808):ACallsTo TC 156 [.str s,.int .i64 i] O (.int .i64 (bitS s i)) O:=by
 refine ACallsTo.of_body q4ok (by simp) fun hw _=> ?_
 have hb:=(s.getD (i/8).toNat 0).toNat_lt
 repeat' (first|apply zA rfl|(apply zd_ rfl<;>intro ht<;>try omega)|((first|apply zB rfl|(apply zG<;>intro ht))<;>try simp (disch:=first|omega|simp only [lz];try omega) only [go_sem]))
 ·rw [bitS,if_neg (by omega)]
  exact DownV.same hw z2b
 ·rw [bitS,if_neg (by omega)]
  exact DownV.same hw z2b
 rw [bitS,if_pos (by omega)]
 refine zW.loop (fun m J O'=>O'=O/\ ∃(k q:Nat),J 5=.int .u8 q/\ q=(s.getD (i/8).toNat 0).toNat/2^k/\ J 6=.int .i64 (i%8+k)/\ m+k=(7-i%8).toNat) (7-i%8).toNat ?_ ?_
 ·refine⟨rfl,0,(s.getD (i/8).toNat 0).toNat,?_,by simp,?_,by omega⟩<;>simp (disch:=first|omega|simp only [lz];try omega) only [go_sem]
  exact z47 (by simp)
 ·rintro m J _ ⟨rfl,k,q,q5,hq,q6,hm⟩
  have hd:=zjk (s.getD (i/8).toNat 0).toNat k
  rw [<-hq]at hd
  repeat' (first|apply zA rfl|(apply zd_ rfl<;>intro ht<;>try omega)|((first|apply zB rfl|(apply zG<;>intro ht))<;>try simp (disch:=first|omega|simp only [lz];try omega) only [go_sem,q5,q6]))
  ·refine⟨m-1,by omega,k+1,q/2,z47 (by omega),?_,z47 (by omega),by omega⟩
   rw [Nat.pow_succ,<-Nat.div_div_eq_div_mul,hq]
  ·have e:k=(7-i%8).toNat:=by omega
   rw [<-e,<-hq]
   exact DownV.same hw z2b
end
section
theorem zm3(x n:Int):(putS x n).length<=8:=by
 unfold putS
 split
 ·rw [z44];omega
 ·simp
end
section
set_option maxRecDepth 10000
def q7r1:yW:=[
 yI 26 (.build [(.int .u32 0),(.int .u32 0),(.int .u32 0),(.int .u32 0),(.int .u32 0),(.int .u32 0),(.int .u32 0),(.int .u32 0),(.int .u32 0),(.int .u32 0),(.int .u32 0),(.int .u32 0),(.int .u32 0),(.int .u32 0),(.int .u32 0),(.int .u32 0),(.int .u32 0),(.int .u32 0),(.int .u32 0),(.int .u32 0),(.int .u32 0),(.int .u32 0),(.int .u32 0),(.int .u32 0),(.int .u32 0),(.int .u32 0),(.int .u32 0),(.int .u32 0),(.int .u32 0),(.int .u32 0),(.int .u32 0),(.int .u32 0),(.int .u32 0),(.int .u32 0),(.int .u32 0),(.int .u32 0),(.int .u32 0),(.int .u32 0),(.int .u32 0),(.int .u32 0),(.int .u32 0),(.int .u32 0),(.int .u32 0),(.int .u32 0),(.int .u32 0),(.int .u32 0),(.int .u32 0),(.int .u32 0),(.int .u32 0),(.int .u32 0),(.int .u32 0),(.int .u32 0),(.int .u32 0),(.int .u32 0),(.int .u32 0),(.int .u32 0),(.int .u32 0),(.int .u32 0),(.int .u32 0),(.int .u32 0),(.int .u32 0),(.int .u32 0),(.int .u32 0),(.int .u32 0)] [(0,1,(.v (.int .u32 1116352408))),(1,1,(.v (.int .u32 1899447441))),(2,1,(.v (.int .u32 3049323471))),(3,1,(.v (.int .u32 3921009573))),(4,1,(.v (.int .u32 961987163))),(5,1,(.v (.int .u32 1508970993))),(6,1,(.v (.int .u32 2453635748))),(7,1,(.v (.int .u32 2870763221))),(8,1,(.v (.int .u32 3624381080))),(9,1,(.v (.int .u32 310598401))),(10,1,(.v (.int .u32 607225278))),(11,1,(.v (.int .u32 1426881987))),(12,1,(.v (.int .u32 1925078388))),(13,1,(.v (.int .u32 2162078206))),(14,1,(.v (.int .u32 2614888103))),(15,1,(.v (.int .u32 3248222580))),(16,1,(.v (.int .u32 3835390401))),(17,1,(.v (.int .u32 4022224774))),(18,1,(.v (.int .u32 264347078))),(19,1,(.v (.int .u32 604807628))),(20,1,(.v (.int .u32 770255983))),(21,1,(.v (.int .u32 1249150122))),(22,1,(.v (.int .u32 1555081692))),(23,1,(.v (.int .u32 1996064986))),(24,1,(.v (.int .u32 2554220882))),(25,1,(.v (.int .u32 2821834349))),(26,1,(.v (.int .u32 2952996808))),(27,1,(.v (.int .u32 3210313671))),(28,1,(.v (.int .u32 3336571891))),(29,1,(.v (.int .u32 3584528711))),(30,1,(.v (.int .u32 113926993))),(31,1,(.v (.int .u32 338241895))),(32,1,(.v (.int .u32 666307205))),(33,1,(.v (.int .u32 773529912))),(34,1,(.v (.int .u32 1294757372))),(35,1,(.v (.int .u32 1396182291))),(36,1,(.v (.int .u32 1695183700))),(37,1,(.v (.int .u32 1986661051))),(38,1,(.v (.int .u32 2177026350))),(39,1,(.v (.int .u32 2456956037))),(40,1,(.v (.int .u32 2730485921))),(41,1,(.v (.int .u32 2820302411))),(42,1,(.v (.int .u32 3259730800))),(43,1,(.v (.int .u32 3345764771))),(44,1,(.v (.int .u32 3516065817))),(45,1,(.v (.int .u32 3600352804))),(46,1,(.v (.int .u32 4094571909))),(47,1,(.v (.int .u32 275423344))),(48,1,(.v (.int .u32 430227734))),(49,1,(.v (.int .u32 506948616))),(50,1,(.v (.int .u32 659060556))),(51,1,(.v (.int .u32 883997877))),(52,1,(.v (.int .u32 958139571))),(53,1,(.v (.int .u32 1322822218))),(54,1,(.v (.int .u32 1537002063))),(55,1,(.v (.int .u32 1747873779))),(56,1,(.v (.int .u32 1955562222))),(57,1,(.v (.int .u32 2024104815))),(58,1,(.v (.int .u32 2227730452))),(59,1,(.v (.int .u32 2361852424))),(60,1,(.v (.int .u32 2428436474))),(61,1,(.v (.int .u32 2756734187))),(62,1,(.v (.int .u32 3204031479))),(63,1,(.v (.int .u32 3329325298)))]),
 yI 3 (.alloc [(.int .u32 0),(.int .u32 0),(.int .u32 0),(.int .u32 0),(.int .u32 0),(.int .u32 0),(.int .u32 0),(.int .u32 0),(.int .u32 0),(.int .u32 0),(.int .u32 0),(.int .u32 0),(.int .u32 0),(.int .u32 0),(.int .u32 0),(.int .u32 0),(.int .u32 0),(.int .u32 0),(.int .u32 0),(.int .u32 0),(.int .u32 0),(.int .u32 0),(.int .u32 0),(.int .u32 0),(.int .u32 0),(.int .u32 0),(.int .u32 0),(.int .u32 0),(.int .u32 0),(.int .u32 0),(.int .u32 0),(.int .u32 0),(.int .u32 0),(.int .u32 0),(.int .u32 0),(.int .u32 0),(.int .u32 0),(.int .u32 0),(.int .u32 0),(.int .u32 0),(.int .u32 0),(.int .u32 0),(.int .u32 0),(.int .u32 0),(.int .u32 0),(.int .u32 0),(.int .u32 0),(.int .u32 0),(.int .u32 0),(.int .u32 0),(.int .u32 0),(.int .u32 0),(.int .u32 0),(.int .u32 0),(.int .u32 0),(.int .u32 0),(.int .u32 0),(.int .u32 0),(.int .u32 0),(.int .u32 0),(.int .u32 0),(.int .u32 0),(.int .u32 0),(.int .u32 0)]),
 yS 64 3 26]
def q7r2:yW:=[
 yI 27 (.build [(.int .u32 0),(.int .u32 0),(.int .u32 0),(.int .u32 0),(.int .u32 0),(.int .u32 0),(.int .u32 0),(.int .u32 0)] [(0,1,(.v (.int .u32 1779033703))),(1,1,(.v (.int .u32 3144134277))),(2,1,(.v (.int .u32 1013904242))),(3,1,(.v (.int .u32 2773480762))),(4,1,(.v (.int .u32 1359893119))),(5,1,(.v (.int .u32 2600822924))),(6,1,(.v (.int .u32 528734635))),(7,1,(.v (.int .u32 1541459225)))]),
 yI 4 (.alloc [(.int .u32 0),(.int .u32 0),(.int .u32 0),(.int .u32 0),(.int .u32 0),(.int .u32 0),(.int .u32 0),(.int .u32 0)]),
 yS 8 4 27]
def q7r4:yW:=[
 yI 6 (.alloc [(.int .u32 0),(.int .u32 0),(.int .u32 0),(.int .u32 0),(.int .u32 0),(.int .u32 0),(.int .u32 0),(.int .u32 0),(.int .u32 0),(.int .u32 0),(.int .u32 0),(.int .u32 0),(.int .u32 0),(.int .u32 0),(.int .u32 0),(.int .u32 0),(.int .u32 0),(.int .u32 0),(.int .u32 0),(.int .u32 0),(.int .u32 0),(.int .u32 0),(.int .u32 0),(.int .u32 0),(.int .u32 0),(.int .u32 0),(.int .u32 0),(.int .u32 0),(.int .u32 0),(.int .u32 0),(.int .u32 0),(.int .u32 0),(.int .u32 0),(.int .u32 0),(.int .u32 0),(.int .u32 0),(.int .u32 0),(.int .u32 0),(.int .u32 0),(.int .u32 0),(.int .u32 0),(.int .u32 0),(.int .u32 0),(.int .u32 0),(.int .u32 0),(.int .u32 0),(.int .u32 0),(.int .u32 0),(.int .u32 0),(.int .u32 0),(.int .u32 0),(.int .u32 0),(.int .u32 0),(.int .u32 0),(.int .u32 0),(.int .u32 0),(.int .u32 0),(.int .u32 0),(.int .u32 0),(.int .u32 0),(.int .u32 0),(.int .u32 0),(.int .u32 0),(.int .u32 0)])]
def q7r14:yW:=[
 yM 44 8,
 yM 45 5,
 yM 46 9,
 yN 47 1 45 46,
 yR 48 false 1 47,
 yY 49 .u32 48,
 yJ 50 .shl 49 .u64 24,
 yM 51 5,
 yM 52 9,
 yJ 53 .add 52 .i64 1,
 yN 54 1 51 53,
 yR 55 false 1 54,
 yY 56 .u32 55,
 yJ 57 .shl 56 .u64 16,
 yB 58 .add 50 57,
 yM 59 5,
 yM 60 9,
 yJ 61 .add 60 .i64 2,
 yN 62 1 59 61,
 yR 63 false 1 62,
 yY 64 .u32 63,
 yJ 65 .shl 64 .u64 8,
 yB 66 .add 58 65,
 yM 67 5,
 yM 68 9,
 yJ 69 .add 68 .i64 3,
 yN 70 1 67 69,
 yR 71 false 1 70,
 yY 72 .u32 71,
 yB 73 .add 66 72,
 yI 74 (.iaArr 64 1 (.t 6) (.t 44)),
 yS 1 74 73]
def q7c21:yX:=yq [yK 8 .i64 0] (.block 2 (.loop (.seq (yq [yM 36 8,yJ 37 .lss 36 .i64 16] (.cond (.t 37) .skip (.exit 2))) (.seq (.block 3 (yq [yM 40 7,yM 41 8,yI 42 (.bin .mul .none (.v (.int .i64 4)) (.t 41)),yB 43 .add 40 42,yM 9 43] (.reg q7r14))) (.reg [yM 38 8,yJ 39 .add 38 .i64 1,yM 8 39])))))
def q7r27:yW:=[
 yM 87 10,
 yM 88 10,
 yJ 89 .sub 88 .i64 16,
 yI 90 (.iaArr 64 1 (.t 6) (.t 89)),
 yR 91 false 1 90,
 yM 92 11,
 ⟨some 93,none,.ef,.call (.v (.fn 133 [])) [(.t 92),(.v (.int .u32 7))]⟩,
 yM 94 11,
 ⟨some 95,none,.ef,.call (.v (.fn 133 [])) [(.t 94),(.v (.int .u32 18))]⟩,
 yB 96 .xor 93 95,
 yM 97 11,
 yJ 98 .shr 97 .u64 3,
 yB 99 .xor 96 98,
 yB 100 .add 91 99,
 yM 101 10,
 yJ 102 .sub 101 .i64 7,
 yI 103 (.iaArr 64 1 (.t 6) (.t 102)),
 yR 104 false 1 103,
 yB 105 .add 100 104,
 yM 106 12,
 ⟨some 107,none,.ef,.call (.v (.fn 133 [])) [(.t 106),(.v (.int .u32 17))]⟩,
 yM 108 12,
 ⟨some 109,none,.ef,.call (.v (.fn 133 [])) [(.t 108),(.v (.int .u32 19))]⟩,
 yB 110 .xor 107 109,
 yM 111 12,
 yJ 112 .shr 111 .u64 10,
 yB 113 .xor 110 112,
 yB 114 .add 105 113,
 yI 115 (.iaArr 64 1 (.t 6) (.t 87)),
 yS 1 115 114]
def q7c34:yX:=yq [yK 10 .i64 16] (.block 4 (.loop (.seq (yq [yM 75 10,yJ 76 .lss 75 .i64 64] (.cond (.t 76) .skip (.exit 4))) (.seq (.block 5 (yq [yM 79 10,yJ 80 .sub 79 .i64 15,yI 81 (.iaArr 64 1 (.t 6) (.t 80)),yR 82 false 1 81,yM 83 10,yJ 84 .sub 83 .i64 2,yI 85 (.iaArr 64 1 (.t 6) (.t 84)),yR 86 false 1 85,yM 11 82,yM 12 86] (.reg q7r27))) (.reg [yM 77 10,yJ 78 .add 77 .i64 1,yM 10 78])))))
def q7r40:yW:=[
 yM 136 20,
 yM 137 17,
 ⟨some 138,none,.ef,.call (.v (.fn 133 [])) [(.t 137),(.v (.int .u32 6))]⟩,
 yM 139 17,
 ⟨some 140,none,.ef,.call (.v (.fn 133 [])) [(.t 139),(.v (.int .u32 11))]⟩,
 yB 141 .xor 138 140,
 yM 142 17,
 ⟨some 143,none,.ef,.call (.v (.fn 133 [])) [(.t 142),(.v (.int .u32 25))]⟩,
 yB 144 .xor 141 143,
 yB 145 .add 136 144,
 yM 146 17,
 yM 147 18,
 yB 148 .and 146 147,
 yM 149 17,
 yI 150 (.un .xor (.t 149)),
 yM 151 19,
 yB 152 .and 150 151,
 yB 153 .xor 148 152,
 yB 154 .add 145 153,
 yM 155 21,
 yI 156 (.iaArr 64 1 (.t 3) (.t 155)),
 yR 157 false 1 156,
 yB 158 .add 154 157,
 yM 159 21,
 yI 160 (.iaArr 64 1 (.t 6) (.t 159)),
 yR 161 false 1 160,
 yB 162 .add 158 161,
 yM 22 162]
def q7r41:yW:=[
 yM 163 13,
 yI 164 (.call (.v (.fn 133 [])) [(.t 163),(.v (.int .u32 2))]),
 yM 165 13,
 yI 166 (.call (.v (.fn 133 [])) [(.t 165),(.v (.int .u32 13))]),
 yB 167 .xor 164 166,
 yM 168 13,
 yI 169 (.call (.v (.fn 133 [])) [(.t 168),(.v (.int .u32 22))]),
 yB 170 .xor 167 169,
 yM 171 13,
 yM 172 14,
 yB 173 .and 171 172,
 yM 174 13,
 yM 175 15,
 yB 176 .and 174 175,
 yB 177 .xor 173 176,
 yM 178 14,
 yM 179 15,
 yB 180 .and 178 179,
 yB 181 .xor 177 180,
 yB 182 .add 170 181,
 yM 23 182]
def q7c48:yX:=.loop (.seq (yq [yM 132 21,yJ 133 .lss 132 .i64 64] (.cond (.t 133) .skip (.exit 6))) (.seq (.block 7 (yq q7r40 (yq q7r41 (.reg [yM 183 19,yM 184 18,yM 185 17,yM 186 16,yM 187 22,yB 188 .add 186 187,yM 189 15,yM 190 14,yM 191 13,yM 192 22,yM 193 23,yB 194 .add 192 193,yM 20 183,yM 19 184,yM 18 185,yM 17 188,yM 16 189,yM 15 190,yM 14 191,yM 13 194])))) (.reg [yM 134 21,yJ 135 .add 134 .i64 1,yM 21 135])))
def q7r51:yW:=[
 yA 195 8 1 4 0,
 yL 196 false 1 195,
 yM 197 13,
 yB 198 .add 196 197,
 yA 199 8 1 4 1,
 yL 200 false 1 199,
 yM 201 14,
 yB 202 .add 200 201,
 yA 203 8 1 4 2,
 yL 204 false 1 203,
 yM 205 15,
 yB 206 .add 204 205,
 yA 207 8 1 4 3,
 yL 208 false 1 207,
 yM 209 16,
 yB 210 .add 208 209,
 yA 211 8 1 4 4,
 yL 212 false 1 211,
 yM 213 17,
 yB 214 .add 212 213,
 yA 215 8 1 4 5,
 yL 216 false 1 215,
 yM 217 18,
 yB 218 .add 216 217,
 yA 219 8 1 4 6,
 yL 220 false 1 219,
 yM 221 19,
 yB 222 .add 220 221,
 yA 223 8 1 4 7,
 yL 224 false 1 223,
 yM 225 20,
 yB 226 .add 224 225,
 yA 227 8 1 4 0,
 yS 1 227 198,
 yA 228 8 1 4 1,
 yS 1 228 202,
 yA 229 8 1 4 2,
 yS 1 229 206,
 yA 230 8 1 4 3,
 yS 1 230 210,
 yA 231 8 1 4 4,
 yS 1 231 214,
 yA 232 8 1 4 5,
 yS 1 232 218,
 yA 233 8 1 4 6,
 yS 1 233 222,
 yA 234 8 1 4 7,
 yS 1 234 226]
def q7c53:yX:=yq [yA 116 8 1 4 0,yR 117 false 1 116,yA 118 8 1 4 1,yR 119 false 1 118,yA 120 8 1 4 2,yR 121 false 1 120,yA 122 8 1 4 3,yR 123 false 1 122,yA 124 8 1 4 4,yR 125 false 1 124,yA 126 8 1 4 5,yR 127 false 1 126,yA 128 8 1 4 6,yR 129 false 1 128,yA 130 8 1 4 7,yR 131 false 1 130,yM 13 117,yM 14 119,yM 15 121,yM 16 123,yM 17 125,yM 18 127,yM 19 129,yM 20 131] (.seq (yq [yK 21 .i64 0] (.block 6 q7c48)) (.reg q7r51))
def q7c54:yX:=.seq q7c34 q7c53
def q7c55:yX:=.seq q7c21 q7c54
def q7c70:yX:=.seq (yq [yM 235 25,yJ 236 .lss 235 .i64 32] (.cond (.t 236) .skip (.exit 8))) (.seq (.block 9 (.reg [yM 239 25,yM 240 25,yJ 241 .quo 240 .i64 4,yI 242 (.iaArr 8 1 (.t 4) (.t 241)),yL 243 false 1 242,yM 244 25,yJ 245 .rem 244 .i64 4,yI 246 (.bin .mul .none (.v (.int .i64 8)) (.t 245)),yI 247 (.bin .sub .none (.v (.int .i64 24)) (.t 246)),yB 248 .shr 243 247,yY 249 .u8 248,yI 250 (.iaArr 32 1 (.t 24) (.t 239)),yS 1 250 249])) (.reg [yM 237 25,yJ 238 .add 237 .i64 1,yM 25 238]))
def q7c82:yX:=yq q7r1 (yq q7r2 (yq [yM 28 0,yC 29 132 28,yM 5 29] (yq q7r4 (.seq (yq [yK 7 .i64 0] (.block 0 (.loop (.seq (yq [yM 30 7,yM 31 5,yZ 32 31,yB 33 .lss 30 32] (.cond (.t 33) .skip (.exit 0))) (.seq (.block 1 q7c55) (.reg [yM 34 7,yJ 35 .add 34 .i64 64,yM 7 35])))))) (yq [yI 24 (.alloc zZ0)] (.seq (yq [yK 25 .i64 0] (.block 8 (.loop q7c70))) (yq [yL 251 true 32 24,yS 32 2 251] .ret)))))))
def q7c83:yX:=yq [yI 2 (.alloc zZ0)] q7c82
attribute [go_sem] q7r1 q7r2 q7r4 q7r14 q7r27 q7r40 q7r41 q7r51
theorem q7ok:cFn TC 94=some (252,[.c 2 true 32],q7c83):=by kernel_rfl
def q8c21:yX:=.seq (.cond (.t 21) .skip (.exit 2)) (.seq (.block 3 (yq [yM 22 20,yI 23 (.ixArr 8 false 1 (.t 19) (.t 20)),yM 6 22,yM 7 23] (.reg [yM 24 6,yI 25 (.bin .mul .none (.v (.int .i64 4)) (.t 24)),yI 26 (.slice (.arr 32 1) (.t 5) (some (.t 25)) none none),yM 27 7,yY 28 .u64 27,yI 29 (.call (.v (.fn 128 [])) [(.t 28),(.v (.int .i64 4))]),yI 30 (.copy 1 (.t 26) (.t 29))]))) (.reg [yJ 31 .add 20 .i64 1,yM 20 31]))
def q8c30:yX:=.seq (yq [yM 9 0,yC 10 126 9,yM 4 10] (.block 0 (.loop (.seq (yq [yM 11 4,yI 12 (.bin .neq .none (.t 11) (.v (.str [])))] (.cond (.t 12) .skip (.exit 0))) (.seq (.block 1 (.reg [yL 15 true 8 3,yM 16 4,yI 17 (.slice .str (.t 16) none (some (.v (.int .i64 64))) none),yD 18 127 15 17,yS 8 3 18])) (.reg [yM 13 4,yI 14 (.slice .str (.t 13) (some (.v (.int .i64 64))) none none),yM 4 14])))))) (yq [yI 5 (.alloc zZ0)] (.seq (yq [yL 19 true 8 3,yK 20 .i64 0] (.block 2 (.loop (yq [yJ 21 .lss 20 .i64 8] q8c21)))) (yq [yL 32 true 32 5,yS 32 2 32] .ret)))
def q8c32:yX:=yq [yI 2 (.alloc zZ0)] (yq [yI 8 (.load true 8 (.v (.vp zea))),yI 3 (.alloc [(.int .u32 0),(.int .u32 0),(.int .u32 0),(.int .u32 0),(.int .u32 0),(.int .u32 0),(.int .u32 0),(.int .u32 0)]),yS 8 3 8] q8c30)
theorem q8ok:cFn TC 85=some (33,[.c 2 true 32],q8c32):=by kernel_rfl
def q9c24:yX:=yq [yM 17 0,yI 18 (.lenStr (.t 17)),yY 19 .u64 18,yJ 20 .mul 19 .u64 8,yM 4 20] (.seq (yq [yK 5 .i64 7] (.block 2 (.loop (.seq (yq [yM 21 5,yJ 22 .geq 21 .i64 0] (.cond (.t 22) .skip (.exit 2))) (.seq (.block 3 (.reg [yM 25 3,yM 26 4,yM 27 5,yI 28 (.bin .mul .none (.v (.int .i64 8)) (.t 27)),yB 29 .shr 26 28,yY 30 .u8 29,yI 31 (.lit 1 [(.t 30)]),yI 32 (.appB (.t 25) (.t 31)),yM 3 32])) (.reg [yM 23 5,yJ 24 .sub 23 .i64 1,yM 5 24])))))) (yq [yM 33 3,yM 2 33] .ret))
def q9c27:yX:=yq [yI 2 (.mv (.v .nilsl))] (yq [yM 6 0,yI 7 (.conv .bytes (.t 6)),yI 8 (.lit 1 [(.v (.int .u8 128))]),yI 9 (.appB (.t 7) (.t 8)),yM 3 9] (.seq (.block 0 (.loop (.seq (yq [yM 10 3,yZ 11 10,yJ 12 .rem 11 .i64 64,yJ 13 .neq 12 .i64 56] (.cond (.t 13) .skip (.exit 0))) (.block 1 (.reg [yM 14 3,yI 15 (.lit 1 [(.v (.int .u8 0))]),yI 16 (.appB (.t 14) (.t 15)),yM 3 16]))))) q9c24))
theorem q9ok:cFn TC 132=some (34,[.t 2],q9c27):=by kernel_rfl
def qac3:yX:=yq [yK 4 .u32 0] (yq [yM 5 0,yM 6 1,yB 7 .shr 5 6,yM 8 0,yM 9 1,yI 10 (.bin .sub .none (.v (.int .u32 32)) (.t 9)),yB 11 .shl 8 10,yB 12 .or 7 11,yM 4 12] .ret)
theorem qaok:cFn TC 133=some (13,[.t 4],qac3):=by kernel_rfl
def qbc4:yX:=yq [yM 4 0,yI 5 (.lenStr (.t 4)),yJ 6 .rem 5 .i64 64,yI 7 (.bin .sub .none (.v (.int .i64 119)) (.t 6)),yJ 8 .rem 7 .i64 64,yM 3 8] (yq [yM 9 0,yI 10 (.bin .add .none (.t 9) (.v (.str [128]))),yM 11 3,yI 12 (.call (.v (.fn 152 [])) [(.v (.str [0])),(.t 11)]),yB 13 .add 10 12,yM 14 0,yI 15 (.lenStr (.t 14)),yY 16 .u64 15,yJ 17 .mul 16 .u64 8,yI 18 (.call (.v (.fn 128 [])) [(.t 17),(.v (.int .i64 8))]),yB 19 .add 13 18,yM 2 19] .ret)
def qbc5:yX:=yq [ye 2] qbc4
theorem qbok:cFn TC 126=some (20,[.t 2],qbc5):=by kernel_rfl
def qcr6:yW:=[
 yA 24 8 1 5 7,
 yR 25 false 1 24,
 yM 26 9,
 ⟨some 27,none,.ef,.call (.v (.fn 154 [])) [(.t 26),(.v (.int .i64 6))]⟩,
 yM 28 9,
 ⟨some 29,none,.ef,.call (.v (.fn 154 [])) [(.t 28),(.v (.int .i64 11))]⟩,
 yB 30 .xor 27 29,
 yM 31 9,
 ⟨some 32,none,.ef,.call (.v (.fn 154 [])) [(.t 31),(.v (.int .i64 25))]⟩,
 yB 33 .xor 30 32,
 yB 34 .add 25 33,
 yM 35 9,
 yA 36 8 1 5 5,
 yR 37 false 1 36,
 yB 38 .and 35 37,
 yM 39 9,
 yI 40 (.un .xor (.t 39)),
 yA 41 8 1 5 6,
 yR 42 false 1 41,
 yB 43 .and 40 42,
 yB 44 .xor 38 43,
 yB 45 .add 34 44,
 yM 46 6,
 yI 47 (.iaArr 64 1 (.v (.vp gl_sha_rounds)) (.t 46)),
 yR 48 false 1 47,
 yB 49 .add 45 48,
 yM 50 7,
 yB 51 .add 49 50,
 yM 10 51]
def qcr7:yW:=[
 yM 52 8,
 ⟨some 53,none,.ef,.call (.v (.fn 154 [])) [(.t 52),(.v (.int .i64 2))]⟩,
 yM 54 8,
 ⟨some 55,none,.ef,.call (.v (.fn 154 [])) [(.t 54),(.v (.int .i64 13))]⟩,
 yB 56 .xor 53 55,
 yM 57 8,
 ⟨some 58,none,.ef,.call (.v (.fn 154 [])) [(.t 57),(.v (.int .i64 22))]⟩,
 yB 59 .xor 56 58,
 yM 60 8,
 yA 61 8 1 5 1,
 yR 62 false 1 61,
 yB 63 .and 60 62,
 yM 64 8,
 yA 65 8 1 5 2,
 yR 66 false 1 65,
 yB 67 .and 64 66,
 yB 68 .xor 63 67,
 yA 69 8 1 5 1,
 yR 70 false 1 69,
 yA 71 8 1 5 2,
 yR 72 false 1 71,
 yB 73 .and 70 72,
 yB 74 .xor 68 73,
 yB 75 .add 59 74,
 yM 11 75]
def qcr8:yW:=[
 yM 76 10,
 yM 77 11,
 yB 78 .add 76 77,
 yM 79 8,
 yA 80 8 1 5 1,
 yL 81 false 1 80,
 yA 82 8 1 5 2,
 yL 83 false 1 82,
 yA 84 8 1 5 3,
 yL 85 false 1 84,
 yM 86 10,
 yB 87 .add 85 86,
 yM 88 9,
 yA 89 8 1 5 5,
 yL 90 false 1 89,
 yA 91 8 1 5 6,
 yL 92 false 1 91,
 yI 93 (.build [(.int .u32 0),(.int .u32 0),(.int .u32 0),(.int .u32 0),(.int .u32 0),(.int .u32 0),(.int .u32 0),(.int .u32 0)] [(0,1,(.t 78)),(1,1,(.t 79)),(2,1,(.t 81)),(3,1,(.t 83)),(4,1,(.t 87)),(5,1,(.t 88)),(6,1,(.t 90)),(7,1,(.t 92))]),
 yS 8 5 93]
def qcc34:yX:=.seq (yq [yK 95 .i64 0] (.block 2 (.loop (yq [yJ 96 .lss 95 .i64 8] (.seq (.cond (.t 96) .skip (.exit 2)) (.seq (.block 3 (yq [yM 97 95,yM 12 97] (.reg [yM 98 12,yI 99 (.iaArr 8 1 (.t 5) (.t 98)),yR 100 false 1 99,yM 101 12,yI 102 (.iaArr 8 1 (.t 2) (.t 101)),yR 103 false 1 102,yB 104 .add 100 103,yI 105 (.iaArr 8 1 (.t 5) (.t 98)),yS 1 105 104]))) (.reg [yJ 106 .add 95 .i64 1,yM 95 106]))))))) (yq [yL 107 true 8 5,yS 8 4 107] .ret)
def qcc36:yX:=yq [yL 13 true 8 2,yI 5 (.alloc [(.int .u32 0),(.int .u32 0),(.int .u32 0),(.int .u32 0),(.int .u32 0),(.int .u32 0),(.int .u32 0),(.int .u32 0)]),yS 8 5 13] (.seq (yq [yM 14 1,yC 15 153 14,yK 16 .i64 0] (.block 0 (.loop (yq [yJ 17 .lss 16 .i64 64] (.seq (.cond (.t 17) .skip (.exit 0)) (.seq (.block 1 (yq [yM 18 16,yI 19 (.ixArr 64 false 1 (.t 15) (.t 16)),yM 6 18,yM 7 19] (yq [yA 20 8 1 5 0,yR 21 false 1 20,yA 22 8 1 5 4,yR 23 false 1 22,yM 8 21,yM 9 23] (yq qcr6 (yq qcr7 (.reg qcr8)))))) (.reg [yJ 94 .add 16 .i64 1,yM 16 94]))))))) qcc34)
def qcc37:yX:=yq [yx 2 0,yI 4 (.alloc [(.int .u32 0),(.int .u32 0),(.int .u32 0),(.int .u32 0),(.int .u32 0),(.int .u32 0),(.int .u32 0),(.int .u32 0)])] qcc36
attribute [go_sem] qcr6 qcr7 qcr8
theorem qcok:cFn TC 127=some (108,[.c 4 true 8],qcc37):=by kernel_rfl
def qdr0:yW:=[
 yI 2 (.alloc [(.int .u32 0),(.int .u32 0),(.int .u32 0),(.int .u32 0),(.int .u32 0),(.int .u32 0),(.int .u32 0),(.int .u32 0),(.int .u32 0),(.int .u32 0),(.int .u32 0),(.int .u32 0),(.int .u32 0),(.int .u32 0),(.int .u32 0),(.int .u32 0),(.int .u32 0),(.int .u32 0),(.int .u32 0),(.int .u32 0),(.int .u32 0),(.int .u32 0),(.int .u32 0),(.int .u32 0),(.int .u32 0),(.int .u32 0),(.int .u32 0),(.int .u32 0),(.int .u32 0),(.int .u32 0),(.int .u32 0),(.int .u32 0),(.int .u32 0),(.int .u32 0),(.int .u32 0),(.int .u32 0),(.int .u32 0),(.int .u32 0),(.int .u32 0),(.int .u32 0),(.int .u32 0),(.int .u32 0),(.int .u32 0),(.int .u32 0),(.int .u32 0),(.int .u32 0),(.int .u32 0),(.int .u32 0),(.int .u32 0),(.int .u32 0),(.int .u32 0),(.int .u32 0),(.int .u32 0),(.int .u32 0),(.int .u32 0),(.int .u32 0),(.int .u32 0),(.int .u32 0),(.int .u32 0),(.int .u32 0),(.int .u32 0),(.int .u32 0),(.int .u32 0),(.int .u32 0)])]
def qdr10:yW:=[
 yM 30 3,
 yM 31 3,
 yJ 32 .sub 31 .i64 16,
 yI 33 (.iaArr 64 1 (.t 2) (.t 32)),
 yR 34 false 1 33,
 yM 35 3,
 yJ 36 .sub 35 .i64 7,
 yI 37 (.iaArr 64 1 (.t 2) (.t 36)),
 yR 38 false 1 37,
 yB 39 .add 34 38,
 yM 40 4,
 ⟨some 41,none,.ef,.call (.v (.fn 154 [])) [(.t 40),(.v (.int .i64 7))]⟩,
 yM 42 4,
 ⟨some 43,none,.ef,.call (.v (.fn 154 [])) [(.t 42),(.v (.int .i64 18))]⟩,
 yB 44 .xor 41 43,
 yM 45 4,
 yJ 46 .shr 45 .u64 3,
 yB 47 .xor 44 46,
 yB 48 .add 39 47,
 yM 49 5,
 ⟨some 50,none,.ef,.call (.v (.fn 154 [])) [(.t 49),(.v (.int .i64 17))]⟩,
 yM 51 5,
 ⟨some 52,none,.ef,.call (.v (.fn 154 [])) [(.t 51),(.v (.int .i64 19))]⟩,
 yB 53 .xor 50 52,
 yM 54 5,
 yJ 55 .shr 54 .u64 10,
 yB 56 .xor 53 55,
 yB 57 .add 48 56,
 yI 58 (.iaArr 64 1 (.t 2) (.t 30)),
 yS 1 58 57]
def qdc12:yX:=.seq (yq [yM 9 3,yJ 10 .lss 9 .i64 16] (.cond (.t 10) (yq [yM 11 3,yM 12 0,yM 13 3,yI 14 (.bin .mul .none (.v (.int .i64 4)) (.t 13)),yM 15 3,yI 16 (.bin .mul .none (.v (.int .i64 4)) (.t 15)),yJ 17 .add 16 .i64 4,yI 18 (.slice .str (.t 12) (some (.t 14)) (some (.t 17)) none),yC 19 169 18,yY 20 .u32 19,yI 21 (.iaArr 64 1 (.t 2) (.t 11)),yS 1 21 20] (.exit 1)) .skip)) (yq [yM 22 3,yJ 23 .sub 22 .i64 15,yI 24 (.iaArr 64 1 (.t 2) (.t 23)),yR 25 false 1 24,yM 26 3,yJ 27 .sub 26 .i64 2,yI 28 (.iaArr 64 1 (.t 2) (.t 27)),yR 29 false 1 28,yM 4 25,yM 5 29] (.reg qdr10))
def qdc24:yX:=yq qdr0 (.seq (yq [yK 6 .i64 0] (.block 0 (.loop (yq [yJ 7 .lss 6 .i64 64] (.seq (.cond (.t 7) .skip (.exit 0)) (.seq (.block 1 (yq [yM 8 6,yM 3 8] qdc12)) (.reg [yJ 59 .add 6 .i64 1,yM 6 59]))))))) (yq [yL 60 true 64 2,yS 64 2 60] .ret))
attribute [go_sem] qdr0 qdr10
theorem qdok:cFn TC 153=some (61,[.c 2 true 64],qdc24):=by kernel_rfl
end
section
abbrev W:=BitVec 32
def wc(x:W):AV:=.int .u32 x.toNat
def ws(l:List W):List AV:=l.map wc
def ss0(x:W):W:=(x.rotateLeft 25^^^x.rotateLeft 14)^^^x>>>3
def ss1(y:W):W:=(y.rotateLeft 15^^^y.rotateLeft 13)^^^y>>>10
def bs1(e:W):W:=(e.rotateLeft 26^^^e.rotateLeft 21)^^^e.rotateLeft 7
def bs0(a:W):W:=(a.rotateLeft 30^^^a.rotateLeft 19)^^^a.rotateLeft 10
def chW(e f g:W):W:=(e &&& f)^^^(~~~e &&& g)
def majW(a b c:W):W:=((a &&& b)^^^(a &&& c))^^^(b &&& c)
def z7a(s:List UInt8)(i:Nat):W:=BitVec.ofNat 32 (getS ((s.drop (4*i)).take 4))
def wat(w:List W)(i:Nat):W:=w.getD i 0
def z41(s:List UInt8)(w:List W):W:=
 if w.length<16 then z7a s w.length else wat w (w.length-16)+wat w (w.length-7)+ss0 (wat w (w.length-15))+ss1 (wat w (w.length-2))
def z17(s:List UInt8):Nat->List W
 | 0=>[]
 |n+1=>z17 s n++ [z41 s (z17 s n)]
structure V8 where
 a:W
 b:W
 c:W
 d:W
 e:W
 f:W
 g:W
 h:W
def V8.l(v:V8):List W:=[v.a,v.b,v.c,v.d,v.e,v.f,v.g,v.h]
def rnd(v:V8)(k w:W):V8:=
 ⟨(v.h+bs1 v.e+chW v.e v.f v.g+k+w)+(bs0 v.a+majW v.a v.b v.c),v.a,v.b,v.c,v.d+(v.h+bs1 v.e+chW v.e v.f v.g+k+w),v.e,v.f,v.g⟩
def kAt(n:Nat):W:=BitVec.ofInt 32 (shaRounds.getD n 0)
def rnds(s:List UInt8)(v:V8):Nat->V8
 | 0=>v
 |n+1=>rnd (rnds s v n) (kAt n) (wat (z17 s 64) n)
def V8.add(v u:V8):V8:=⟨v.a+u.a,v.b+u.b,v.c+u.c,v.d+u.d,v.e+u.e,v.f+u.f,v.g+u.g,v.h+u.h⟩
def mixS(v:V8)(s:List UInt8):V8:=(rnds s v 64).add v
def blocks:Nat->V8->List UInt8->V8
 | 0,v,_=>v
 |n+1,v,s=>blocks n (mixS v (s.take 64)) (s.drop 64)
def v0:V8:=⟨1779033703#32,3144134277#32,1013904242#32,2773480762#32,1359893119#32,2600822924#32,528734635#32,1541459225#32⟩
def padS(s:List UInt8):List UInt8:=s++128::(List.replicate ((119-s.length%64)%64) 0++be 8 (s.length*8))
def outV(v:V8):List UInt8:=v.l.flatMap fun x=>be 4 x.toNat
def shaS(s:List UInt8):List UInt8:=outV (blocks ((padS s).length/64) v0 (padS s))
theorem z4v(s:List UInt8):∀n,(z17 s n).length=n
 | 0=>rfl
 |n+1=>by simp [z17,z4v s n]
theorem z8j{w:List W}(h:i<w.length):(ws w)[i]? =some (.int .u32 (wat w i).toNat):=by
 simp [ws,wc,wat,List.getElem?_map,List.getD_eq_getElem?_getD,List.getElem?_eq_getElem h]
theorem z5j(w:List W):(ws w).length=w.length:=by simp [ws]
section
theorem wr32(x:BitVec 32):IntKind.u32.wrap (x.toNat:Int)=x.toNat:=za8 ⟨by omega,by have:=x.isLt;omega⟩
theorem bw_add(a b:BitVec 32):z1d .add .u32 (a.toNat:Int) (b.toNat:Int)=some (.int .u32 ((a+b).toNat:Int)):=by
 rw [zko,za9,BitVec.toNat_add];rfl
theorem bw_xor(a b:BitVec 32):z1d .xor .u32 (a.toNat:Int) (b.toNat:Int)=some (.int .u32 ((a^^^b).toNat:Int)):=by
 rw [zkr ⟨by omega,by have:=a.isLt;omega⟩ ⟨by omega,by have:=b.isLt;omega⟩,BitVec.toNat_xor];rfl
theorem bw_and(a b:BitVec 32):z1d .and .u32 (a.toNat:Int) (b.toNat:Int)=some (.int .u32 ((a &&& b).toNat:Int)):=by
 rw [zkp ⟨by omega,by have:=a.isLt;omega⟩ ⟨by omega,by have:=b.isLt;omega⟩,BitVec.toNat_and];rfl
theorem bw_or(a b:BitVec 32):z1d .or .u32 (a.toNat:Int) (b.toNat:Int)=some (.int .u32 ((a |||b).toNat:Int)):=by
 rw [zkq ⟨by omega,by have:=a.isLt;omega⟩ ⟨by omega,by have:=b.isLt;omega⟩,BitVec.toNat_or];rfl
theorem bw_shr{a:BitVec 32}{n:Int}(h:0<=n/\ n<32):z25 .shr .u32 (a.toNat:Int) n=some (.int .u32 ((a>>>n.toNat).toNat:Int)):=by
 rw [zob h,BitVec.toNat_ushiftRight,Nat.shiftRight_eq_div_pow,Int.natCast_ediv,Int.natCast_pow];rfl
theorem bw_shl{a:BitVec 32}{n:Int}(h:0<=n/\ n<32):z25 .shl .u32 (a.toNat:Int) n=some (.int .u32 ((a<<<n.toNat).toNat:Int)):=by
 rw [zo9 h,BitVec.toNat_shiftLeft,Nat.shiftLeft_eq,za9]
 rw [Int.natCast_emod,Int.natCast_mul,Int.natCast_pow];rfl
theorem bw_not(a:BitVec 32):aUn .xor (.int .u32 (a.toNat:Int))=some (.int .u32 ((~~~a).toNat:Int)):=by
 have e1:BitVec.ofInt IntKind.u32.bits (a.toNat:Int)=a:=by
  apply BitVec.eq_of_toNat_eq
  have:=a.isLt
  rw [BitVec.toNat_ofInt]
  simp only [IntKind.bits]
  omega
 have e2:BitVec.ofInt IntKind.u32.bits (if IntKind.u32.signed=true then-1 else IntKind.u32.max)=BitVec.allOnes 32:=by rfl
 have e3:aUn .xor (.int .u32 (a.toNat:Int))=some (.int .u32 (IntKind.u32.wrap (((BitVec.ofInt IntKind.u32.bits (if IntKind.u32.signed=true then-1 else IntKind.u32.max)^^^BitVec.ofInt IntKind.u32.bits (a.toNat:Int)).toNat:Nat):Int))):=rfl
 rw [e3,e1,e2]
 have e4:BitVec.allOnes 32^^^a= ~~~a:=BitVec.allOnes_xor
 show some (AV.int .u32 (IntKind.u32.wrap ((BitVec.allOnes 32^^^a).toNat:Int)))=_
 rw [e4,wr32]
end
attribute [go_sem high] bw_add bw_xor bw_and bw_or bw_shr bw_shl bw_not
end
end Am
end Go.Proofs.YtcdcmgjnbjoajaaGreatDoor
section
namespace Go.Proofs.YtcdcmgjnbjoajaaGreatDoor
namespace Pk
def pkN:List Nat->Nat
 | []=>0
 |x::l=>2^64*pkN l+x
section
variable {ι:Type} (L:List ι)
def P(f:ι->Nat):Nat:=pkN (L.map f)
abbrev W:=BitVec 32
def Q(f:ι->W):Nat:=P L (fun i=>(f i).toNat)
def M:Nat:=P L (fun _=>4294967295)
def one:Nat:=P L (fun _=>1)
def cD:Nat:=2^32+1
def dbl(x:Nat):Nat:=x*cD
end
end Pk
end Go.Proofs.YtcdcmgjnbjoajaaGreatDoor
end
namespace Go.Proofs.YtcdcmgjnbjoajaaGreatDoor
namespace Am
variable {vs:List Value}{w w':World}{Z Z':Places}{k n i off sz r p:Nat}{C:Ctx}{cs:List AV}{t e:TypeId}{x v:AV}{a b:Int}{es ys:List (List AV)}{s:List UInt8}{O O':Store}{f:FuncId}{J:Env}{K:Env->Store->Prop}{d:Option Nat}{ops:Array Oper}{ac:ACode}{rest:List (Nat × Nat × AV)}
section
set_option maxRecDepth 4000
open Pk (P Q M one pkN dbl cD)
structure S8 where
 a:Nat
 b:Nat
 c:Nat
 d:Nat
 e:Nat
 f:Nat
 g:Nat
 h:Nat
section
variable {ι:Type} (L:List ι)
end
def wx(s:List UInt8)(t:Nat):W:=z41 s (z17 s t)
section
variable {ι:Type} (L:List ι)
end
end
section
set_option maxRecDepth 4000
open Pk (P Q M one pkN)
def k64:List Nat:=[1116352408,1899447441,3049323471,3921009573,961987163,1508970993,2453635748,2870763221,3624381080,310598401,607225278,1426881987,1925078388,2162078206,2614888103,3248222580,3835390401,4022224774,264347078,604807628,770255983,1249150122,1555081692,1996064986,2554220882,2821834349,2952996808,3210313671,3336571891,3584528711,113926993,338241895,666307205,773529912,1294757372,1396182291,1695183700,1986661051,2177026350,2456956037,2730485921,2820302411,3259730800,3345764771,3516065817,3600352804,4094571909,275423344,430227734,506948616,659060556,883997877,958139571,1322822218,1537002063,1747873779,1955562222,2024104815,2227730452,2361852424,2428436474,2756734187,3204031479,3329325298]
def r64(v:V8)(s:List UInt8):V8:=rnds s v 64
section
variable {ι:Type} (L:List ι)
attribute [local irreducible] r64 k64
end
end
section
set_option maxRecDepth 4000
open Pk (P Q M one pkN)
def ones(n:Nat):Nat:=Nat.div (Nat.sub (Nat.pow 2 (Nat.mul 64 n)) 1) 18446744073709551615
section
variable {ι:Type} (L:List ι)
end
end
section
set_option maxRecDepth 4000
open Pk (P Q M one pkN)
def enc(ws:List W):List UInt8:=ws.flatMap fun x=>be 4 x.toNat
def lb(x:W):UInt8:=UInt8.ofNat x.toNat
end
section
theorem rl_c{k:Nat}:∀(l:List W),RLs k (ws l)
 | []=>by simp [ws,RLs]
 | _::l=>by have:=rl_c (k:=k) l;simp only [ws]at this;simp [ws,wc,RLs,RL,this]
theorem z4t{l:List AV}(h:RLs k l):RL k (.agg l):=by simpa only [RL]using h
theorem zcz(O:Store)(x:W)(k:Int)(h:0<k/\ k<32):ACallsTo TC 133 [.int .u32 x.toNat,.int .u32 k] O (.int .u32 (x.rotateLeft (32-k.toNat)).toNat) O:=by
 refine ACallsTo.of_body qaok (by simp) fun hw _=> ?_
 repeat' (first|apply zA rfl|(apply zd_ rfl<;>intro ht<;>try omega)|((first|apply zB rfl|(apply zG<;>intro ht))<;>try simp (disch:=first|omega|simp only [lz];try omega) only [go_sem]))
 have e:(x>>>k.toNat |||x<<<(32-k).toNat)=x.rotateLeft (32-k.toNat):=by
  obtain⟨n,rfl⟩:∃n:Nat,k=n:=⟨k.toNat,by omega⟩
  have e1:((32:Int)-n).toNat=32-n:=by omega
  rw [e1,Int.toNat_natCast,BitVec.rotateLeft_def,BitVec.or_comm]
  have:(32-n)%32=32-n:=Nat.mod_eq_of_lt (by omega)
  rw [this]
  congr 2
  omega
 rw [e]
 exact DownV.same hw (z15 _ rfl)
theorem z13c(s:List UInt8)(i:Nat):IntKind.u32.wrap ((getS ((s.drop (4*i)).take 4):Nat):Int)=((z7a s i).toNat:Int):=by
 rw [za9,z7a,BitVec.toNat_ofNat];rfl
theorem zrz{w:List W}{x:W}(h:w.length=n)(hn:n<64):(ws w++List.replicate (64-n) (AV.int .u32 0)).take n++AV.int .u32 x.toNat::(ws w++List.replicate (64-n) (AV.int .u32 0)).drop (n+1)=ws (w++ [x])++List.replicate (64-(n+1)) (AV.int .u32 0):=by
 have hl:(ws w).length=n:=by rw [z5j,h]
 have e:64-n=(64-(n+1))+1:=by omega
 rw [List.take_append_of_le_length (by omega),List.take_of_length_le (by omega),List.drop_append,List.drop_of_length_le (by omega),hl]
 rw [show n+1-n=1 by omega,e,List.replicate_succ,List.drop_succ_cons,List.drop_zero,List.nil_append]
 simp [ws,wc]
theorem z124(O:Store)(s:List UInt8)(h:64<=s.length)(hs:s.length<9223372036854775808):ACallsTo TC 153 [.str s] O (.agg (ws (z17 s 64))) O:=by
 obtain⟨R,hR⟩:∃R,R=z17 s 64:=⟨_,rfl⟩
 rw [<-hR]
 refine ACallsTo.of_body qdok (by simp) fun hw _=> ?_
 repeat' (first|apply zA rfl|(apply zd_ rfl<;>intro ht<;>try omega)|((first|apply zB rfl|(apply zG<;>intro ht))<;>try simp (disch:=first|omega|simp only [lz];try omega) only [go_sem]))
 refine zW.loop (fun m J O'=>∃i:Nat,m+i=64/\ J 0=.str s/\ J 2=.ptr O.length 0 0/\ J 6=.int .i64 i/\ O'=O++ [some [ws (z17 s i)++List.replicate (64-i) (AV.int .u32 0)]]) 64 ?_ ?_
 ·exact⟨0,by omega,by simp only [go_sem],by simp only [go_sem],by simp only [go_sem];rfl,rfl⟩
 ·rintro m J O' ⟨i,hm,q0,q2,q6,rfl⟩
  have hsl:=z4v s i
  have hset:=fun x=>zrz (x:=x) hsl
  have hwi:∀j,j<i->(ws (z17 s i)++List.replicate (64-i) (AV.int .u32 0))[j]? =some (.int .u32 (wat (z17 s i) j).toNat):=by
   intro j hj
   rw [List.getElem?_append_left (by rw [z5j];omega),z8j (by omega)]
  have hlen:(ws (z17 s i)++List.replicate (64-i) (AV.int .u32 0)).length=64 \/64<i:=by
   simp [z5j,hsl];omega
  by_cases hi:i<64
  ·have hlen:(ws (z17 s i)++List.replicate (64-i) (AV.int .u32 0)).length=64:=by omega
   generalize hcc:ws (z17 s i)++List.replicate (64-i) (AV.int .u32 0)=cc at*
   by_cases h16:i<16
   ·have hd1:(s.take (4*i+4)).length=4*i+4:=by rw [List.length_take];omega
    repeat' (first|apply zA rfl|(apply zd_ rfl<;>intro ht<;>try omega)|((first|apply zB rfl|(apply callW.mk_pu;exact(fun _=>zin _ _ (by simp;omega)))|(apply callW.za;exact(zin _ _ (by simp;omega)))|(apply zG<;>intro ht))<;>try simp (disch:=first|omega|simp only [lz];try omega) only [go_sem,q0,q2,q6,hlen]))
    have ev:((getS ((s.take (4*(i:Int)+4).toNat).drop (4*(i:Int)).toNat):Nat):Int)%4294967296=((z41 s (z17 s i)).toNat:Int):=by
     rw [show (4*(i:Int)+4).toNat=4*i+4 by omega,show (4*(i:Int)).toNat=4*i by omega,List.drop_take,show 4*i+4-4*i=4 by omega]
     have:=z13c s i
     rw [za9]at this
     rw [this,z41,if_pos (by omega),hsl]
    refine⟨64-(i+1),by omega,i+1,by omega,by simp,?_⟩
    rw [ev,hset _ hi,z17]
   ·have en:z41 s (z17 s i)=wat (z17 s i) (i-16)+wat (z17 s i) (i-7)+ss0 (wat (z17 s i) (i-15))+ss1 (wat (z17 s i) (i-2)):=by rw [z41,if_neg (by omega),hsl]
    have g16:=hwi (i-16) (by omega)
    have g7:=hwi (i-7) (by omega)
    have g15:=hwi (i-15) (by omega)
    have g2:=hwi (i-2) (by omega)
    have t16:((i:Int)-16).toNat=i-16:=by omega
    have t7:((i:Int)-7).toNat=i-7:=by omega
    have t15:((i:Int)-15).toNat=i-15:=by omega
    have t2:((i:Int)-2).toNat=i-2:=by omega
    generalize wat (z17 s i) (i-16)=w16 at*
    generalize wat (z17 s i) (i-7)=w7 at*
    generalize wat (z17 s i) (i-15)=w15 at*
    generalize wat (z17 s i) (i-2)=w2 at*
    have r7:((-7:Int)%32).toNat=25:=rfl
    have r18:((-18:Int)%32).toNat=14:=rfl
    have r17:((-17:Int)%32).toNat=15:=rfl
    have r19:((-19:Int)%32).toNat=13:=rfl
    have en2:=hset (z41 s (z17 s i)) hi
    rw [en]at en2
    simp only [ss0,ss1]at en2
    repeat' (first|apply zA rfl|(apply zd_ rfl<;>intro ht<;>try omega)|((first|apply zB rfl|(apply callW.mk_pu;exact(fun _=>zaw _ _ _))|(apply callW.za;exact(zaw _ _ _))|(apply zG<;>intro ht))<;>try simp (disch:=first|omega|simp only [lz];try omega) only [go_sem,q0,q2,q6,hlen,g16,g7,g15,g2,t16,t7,t15,t2,r7,r18,r17,r19]))
    refine⟨64-(i+1),by omega,i+1,by omega,by simp,?_⟩
    rw [en2,z17,en]
    simp only [ss0,ss1]
  ·have e:i=64:=by omega
   have eR:z17 s i=R:=by rw [hR,e]
   have hsR:R.length=64:=by rw [<-eR,hsl,e]
   have hl64:(ws R).length=64:=by rw [z5j,hsR]
   have e0:List.replicate (64-i) (AV.int .u32 0)=[]:=by rw [e];rfl
   rw [eR,e0,List.append_nil]at*
   clear hwi hset hlen hR
   have hd:(ws R).drop 64=[]:=List.drop_of_length_le (by omega)
   repeat' (first|apply zA rfl|(apply zd_ rfl<;>intro ht<;>try omega)|((first|apply zB rfl|(apply zG<;>intro ht))<;>try simp (disch:=first|omega|simp only [lz];try omega) only [go_sem,q2,q6,hl64,hd]))
   exact DownV.pure hw (z4t (rl_c _))
end
end Am
end Go.Proofs.YtcdcmgjnbjoajaaGreatDoor
