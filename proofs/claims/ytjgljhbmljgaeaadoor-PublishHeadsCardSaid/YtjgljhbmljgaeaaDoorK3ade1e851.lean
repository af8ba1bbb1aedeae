import Derived.Test.YtjgljhbmljgaeaaDoorK2ca09bd5c
import Derived.LaidMore
import Derived.Stop.Joined
import Derived.Test.YtjgljhbmljgaeaaDoorRows
import Derived.KernelRfl
import Derived.RangeFuncBox
import Derived.RangeFuncLeaves
import Derived.Shelf.Abstract
import Derived.WalkKit
import Derived.OwnWalkIn
import Derived.TacticsInMore
import Derived.LoopNIn
import Derived.LoopIn
import Derived.Test.YtjgljhbmljgaeaaDoorProg
set_option linter.unusedSimpArgs false
set_option linter.unusedVariables false
open Nat (reduceEqDiff reduceAdd reduceMul reduceSub reduceLeDiff)
open Int (reduceToNat reducePow)
section
/- THE ABSTRACT MACHINE, part 22: its steps as_ equations for simp. -/
namespace Go.Proofs.YtjgljhbmljgaeaaDoor
namespace Am
section
variable {C : Ctx} {K : Env -> Store -> Prop} {O : Env} {Y : Store} {d : Option Nat} {g : Option (Nat × Bool)} {nd : Nd} {is : List AIns} {H : Hist}
theorem z4u {x} : zi C K (⟨d, g, nd, .mv x⟩ :: is) H O Y = zj (zi C K is) H ⟨d, g, nd, .mv x⟩ O Y := rfl
theorem z4w {c} {a} {b} : zi C K (⟨d, g, nd, .pick c a b⟩ :: is) H O Y = zj (zi C K is) H ⟨d, g, nd, .pick c a b⟩ O Y := rfl
theorem z47 {z} : zi C K (⟨d, g, nd, .alloc z⟩ :: is) H O Y = zj (zi C K is) H ⟨d, g, nd, .alloc z⟩ O Y := rfl
theorem zoc : zi C K (⟨d, g, nd, .allB⟩ :: is) H O Y = zj (zi C K is) H ⟨d, g, nd, .allB⟩ O Y := rfl
theorem zod {s} {x} : zi C K (⟨d, g, nd, .appB s x⟩ :: is) H O Y = zj (zi C K is) H ⟨d, g, nd, .appB s x⟩ O Y := rfl
theorem z4a {x} : zi C K (⟨d, g, nd, .box x⟩ :: is) H O Y = zj (zi C K is) H ⟨d, g, nd, .box x⟩ O Y := rfl
theorem z4b {z} {ps} : zi C K (⟨d, g, nd, .build z ps⟩ :: is) H O Y = zj (zi C K is) H ⟨d, g, nd, .build z ps⟩ O Y := rfl
theorem z4p {sz} {xs} : zi C K (⟨d, g, nd, .lit sz xs⟩ :: is) H O Y = zj (zi C K is) H ⟨d, g, nd, .lit sz xs⟩ O Y := rfl
theorem z4q {ag} {n} {x} : zi C K (⟨d, g, nd, .load ag n x⟩ :: is) H O Y = zj (zi C K is) H ⟨d, g, nd, .load ag n x⟩ O Y := rfl
theorem z4y {n} {a} {x} : zi C K (⟨d, g, nd, .store n a x⟩ :: is) H O Y = zj (zi C K is) H ⟨d, g, nd, .store n a x⟩ O Y := rfl
theorem z4v {x} : zi C K (⟨d, g, nd, .nilc x⟩ :: is) H O Y = zj (zi C K is) H ⟨d, g, nd, .nilc x⟩ O Y := rfl
theorem z49 {op} {bk} {x} {y} : zi C K (⟨d, g, nd, .bin op bk x y⟩ :: is) H O Y = zj (zi C K is) H ⟨d, g, nd, .bin op bk x y⟩ O Y := rfl
theorem z4z {op} {x} : zi C K (⟨d, g, nd, .un op x⟩ :: is) H O Y = zj (zi C K is) H ⟨d, g, nd, .un op x⟩ O Y := rfl
theorem z4d {c} {x} : zi C K (⟨d, g, nd, .conv c x⟩ :: is) H O Y = zj (zi C K is) H ⟨d, g, nd, .conv c x⟩ O Y := rfl
theorem z4t {f} {caps} : zi C K (⟨d, g, nd, .mkfn f caps⟩ :: is) H O Y = zj (zi C K is) H ⟨d, g, nd, .mkfn f caps⟩ O Y := rfl
theorem z4r {sz} {z} {l} {c} : zi C K (⟨d, g, nd, .make sz z l c⟩ :: is) H O Y = zj (zi C K is) H ⟨d, g, nd, .make sz z l c⟩ O Y := rfl
theorem z4x {k} {x} {lo} {hi} {mx} : zi C K (⟨d, g, nd, .slice k x lo hi mx⟩ :: is) H O Y = zj (zi C K is) H ⟨d, g, nd, .slice k x lo hi mx⟩ O Y := rfl
theorem z4g {k} {x} : zi C K (⟨d, g, nd, .fa k x⟩ :: is) H O Y = zj (zi C K is) H ⟨d, g, nd, .fa k x⟩ O Y := rfl
theorem z4h {ag} {n} {off} {x} : zi C K (⟨d, g, nd, .fld ag n off x⟩ :: is) H O Y = zj (zi C K is) H ⟨d, g, nd, .fld ag n off x⟩ O Y := rfl
theorem z4i {n} {sz} {x} {i} : zi C K (⟨d, g, nd, .iaArr n sz x i⟩ :: is) H O Y = zj (zi C K is) H ⟨d, g, nd, .iaArr n sz x i⟩ O Y := rfl
theorem z4j {sz} {x} {i} : zi C K (⟨d, g, nd, .iaSl sz x i⟩ :: is) H O Y = zj (zi C K is) H ⟨d, g, nd, .iaSl sz x i⟩ O Y := rfl
theorem z4k {n} {ag} {sz} {x} {i} : zi C K (⟨d, g, nd, .ixArr n ag sz x i⟩ :: is) H O Y = zj (zi C K is) H ⟨d, g, nd, .ixArr n ag sz x i⟩ O Y := rfl
theorem z4l {x} {i} : zi C K (⟨d, g, nd, .ixStr x i⟩ :: is) H O Y = zj (zi C K is) H ⟨d, g, nd, .ixStr x i⟩ O Y := rfl
theorem z4f {i} {x} : zi C K (⟨d, g, nd, .ext i x⟩ :: is) H O Y = zj (zi C K is) H ⟨d, g, nd, .ext i x⟩ O Y := rfl
theorem z4o {x} : zi C K (⟨d, g, nd, .lenStr x⟩ :: is) H O Y = zj (zi C K is) H ⟨d, g, nd, .lenStr x⟩ O Y := rfl
theorem z4n {x} : zi C K (⟨d, g, nd, .lenSl x⟩ :: is) H O Y = zj (zi C K is) H ⟨d, g, nd, .lenSl x⟩ O Y := rfl
theorem z4m {n} : zi C K (⟨d, g, nd, .lenArr n⟩ :: is) H O Y = zj (zi C K is) H ⟨d, g, nd, .lenArr n⟩ O Y := rfl
theorem z48 {sz} {s} {x} : zi C K (⟨d, g, nd, .app sz s x⟩ :: is) H O Y = zj (zi C K is) H ⟨d, g, nd, .app sz s x⟩ O Y := rfl
theorem z4e {sz} {e} {s} : zi C K (⟨d, g, nd, .copy sz e s⟩ :: is) H O Y = zj (zi C K is) H ⟨d, g, nd, .copy sz e s⟩ O Y := rfl
theorem z4c {z} {x} : zi C K (⟨d, g, nd, .clear z x⟩ :: is) H O Y = zj (zi C K is) H ⟨d, g, nd, .clear z x⟩ O Y := rfl
theorem z4s {mx} {x} {y} : zi C K (⟨d, g, nd, .minmax mx x y⟩ :: is) H O Y = zj (zi C K is) H ⟨d, g, nd, .minmax mx x y⟩ O Y := rfl
variable {lj mj : List AIns}
theorem oj_mv {x} : zw C K lj mj (⟨d, g, nd, .mv x⟩ :: is) H O Y = zj (zw C K lj mj is) H ⟨d, g, nd, .mv x⟩ O Y := rfl
theorem zo1 {c} {a} {b} : zw C K lj mj (⟨d, g, nd, .pick c a b⟩ :: is) H O Y = zj (zw C K lj mj is) H ⟨d, g, nd, .pick c a b⟩ O Y := rfl
theorem zni {z} : zw C K lj mj (⟨d, g, nd, .alloc z⟩ :: is) H O Y = zj (zw C K lj mj is) H ⟨d, g, nd, .alloc z⟩ O Y := rfl
theorem znh : zw C K lj mj (⟨d, g, nd, .allB⟩ :: is) H O Y = zj (zw C K lj mj is) H ⟨d, g, nd, .allB⟩ O Y := rfl
theorem znj {s} {x} : zw C K lj mj (⟨d, g, nd, .appB s x⟩ :: is) H O Y = zj (zw C K lj mj is) H ⟨d, g, nd, .appB s x⟩ O Y := rfl
theorem oj_box {x} : zw C K lj mj (⟨d, g, nd, .box x⟩ :: is) H O Y = zj (zw C K lj mj is) H ⟨d, g, nd, .box x⟩ O Y := rfl
theorem znk {z} {ps} : zw C K lj mj (⟨d, g, nd, .build z ps⟩ :: is) H O Y = zj (zw C K lj mj is) H ⟨d, g, nd, .build z ps⟩ O Y := rfl
theorem oj_lit {sz} {xs} : zw C K lj mj (⟨d, g, nd, .lit sz xs⟩ :: is) H O Y = zj (zw C K lj mj is) H ⟨d, g, nd, .lit sz xs⟩ O Y := rfl
theorem znw {ag} {n} {x} : zw C K lj mj (⟨d, g, nd, .load ag n x⟩ :: is) H O Y = zj (zw C K lj mj is) H ⟨d, g, nd, .load ag n x⟩ O Y := rfl
theorem zo3 {n} {a} {x} : zw C K lj mj (⟨d, g, nd, .store n a x⟩ :: is) H O Y = zj (zw C K lj mj is) H ⟨d, g, nd, .store n a x⟩ O Y := rfl
theorem zo0 {x} : zw C K lj mj (⟨d, g, nd, .nilc x⟩ :: is) H O Y = zj (zw C K lj mj is) H ⟨d, g, nd, .nilc x⟩ O Y := rfl
theorem oj_bin {op} {bk} {x} {y} : zw C K lj mj (⟨d, g, nd, .bin op bk x y⟩ :: is) H O Y = zj (zw C K lj mj is) H ⟨d, g, nd, .bin op bk x y⟩ O Y := rfl
theorem oj_un {op} {x} : zw C K lj mj (⟨d, g, nd, .un op x⟩ :: is) H O Y = zj (zw C K lj mj is) H ⟨d, g, nd, .un op x⟩ O Y := rfl
theorem znn {c} {x} : zw C K lj mj (⟨d, g, nd, .conv c x⟩ :: is) H O Y = zj (zw C K lj mj is) H ⟨d, g, nd, .conv c x⟩ O Y := rfl
theorem znz {f} {caps} : zw C K lj mj (⟨d, g, nd, .mkfn f caps⟩ :: is) H O Y = zj (zw C K lj mj is) H ⟨d, g, nd, .mkfn f caps⟩ O Y := rfl
theorem znx {sz} {z} {l} {c} : zw C K lj mj (⟨d, g, nd, .make sz z l c⟩ :: is) H O Y = zj (zw C K lj mj is) H ⟨d, g, nd, .make sz z l c⟩ O Y := rfl
theorem zo2 {k} {x} {lo} {hi} {mx} : zw C K lj mj (⟨d, g, nd, .slice k x lo hi mx⟩ :: is) H O Y = zj (zw C K lj mj is) H ⟨d, g, nd, .slice k x lo hi mx⟩ O Y := rfl
theorem oj_fa {k} {x} : zw C K lj mj (⟨d, g, nd, .fa k x⟩ :: is) H O Y = zj (zw C K lj mj is) H ⟨d, g, nd, .fa k x⟩ O Y := rfl
theorem oj_fld {ag} {n} {off} {x} : zw C K lj mj (⟨d, g, nd, .fld ag n off x⟩ :: is) H O Y = zj (zw C K lj mj is) H ⟨d, g, nd, .fld ag n off x⟩ O Y := rfl
theorem znp {n} {sz} {x} {i} : zw C K lj mj (⟨d, g, nd, .iaArr n sz x i⟩ :: is) H O Y = zj (zw C K lj mj is) H ⟨d, g, nd, .iaArr n sz x i⟩ O Y := rfl
theorem znq {sz} {x} {i} : zw C K lj mj (⟨d, g, nd, .iaSl sz x i⟩ :: is) H O Y = zj (zw C K lj mj is) H ⟨d, g, nd, .iaSl sz x i⟩ O Y := rfl
theorem znr {n} {ag} {sz} {x} {i} : zw C K lj mj (⟨d, g, nd, .ixArr n ag sz x i⟩ :: is) H O Y = zj (zw C K lj mj is) H ⟨d, g, nd, .ixArr n ag sz x i⟩ O Y := rfl
theorem zns {x} {i} : zw C K lj mj (⟨d, g, nd, .ixStr x i⟩ :: is) H O Y = zj (zw C K lj mj is) H ⟨d, g, nd, .ixStr x i⟩ O Y := rfl
theorem oj_ext {i} {x} : zw C K lj mj (⟨d, g, nd, .ext i x⟩ :: is) H O Y = zj (zw C K lj mj is) H ⟨d, g, nd, .ext i x⟩ O Y := rfl
theorem znv {x} : zw C K lj mj (⟨d, g, nd, .lenStr x⟩ :: is) H O Y = zj (zw C K lj mj is) H ⟨d, g, nd, .lenStr x⟩ O Y := rfl
theorem znu {x} : zw C K lj mj (⟨d, g, nd, .lenSl x⟩ :: is) H O Y = zj (zw C K lj mj is) H ⟨d, g, nd, .lenSl x⟩ O Y := rfl
theorem znt {n} : zw C K lj mj (⟨d, g, nd, .lenArr n⟩ :: is) H O Y = zj (zw C K lj mj is) H ⟨d, g, nd, .lenArr n⟩ O Y := rfl
theorem oj_app {sz} {s} {x} : zw C K lj mj (⟨d, g, nd, .app sz s x⟩ :: is) H O Y = zj (zw C K lj mj is) H ⟨d, g, nd, .app sz s x⟩ O Y := rfl
theorem zno {sz} {e} {s} : zw C K lj mj (⟨d, g, nd, .copy sz e s⟩ :: is) H O Y = zj (zw C K lj mj is) H ⟨d, g, nd, .copy sz e s⟩ O Y := rfl
theorem znm {z} {x} : zw C K lj mj (⟨d, g, nd, .clear z x⟩ :: is) H O Y = zj (zw C K lj mj is) H ⟨d, g, nd, .clear z x⟩ O Y := rfl
theorem zny {mx} {x} {y} : zw C K lj mj (⟨d, g, nd, .minmax mx x y⟩ :: is) H O Y = zj (zw C K lj mj is) H ⟨d, g, nd, .minmax mx x y⟩ O Y := rfl
theorem oj_nil : zw C K lj mj [] H O Y = (zi C K lj H O Y /\ zi C K mj H O Y) := rfl
theorem znl {f} {xs} : zw C K lj mj (⟨d, g, nd, .call f xs⟩ :: is) H O Y = z2b C (zw C K lj mj is) H O Y d nd f xs (z1b O g) := rfl
/-! Unsigned numbers as_ bit rows. -/
theorem zaw {k : IntKind} (hk : k.signed = false) (n : Int) : k.wrap n = n % 2 ^ k.bits := by simp [IntKind.wrap, hk]
theorem u_nat {k : IntKind} (hk : k.signed = false) (x : BitVec k.bits) : k.wrap (x.toNat : Int) = x.toNat := by
  rw [zaw hk]
  have := x.isLt
  rw [Int.emod_eq_of_lt (by omega)]
  exact_mod_cast this
theorem u_ofInt {w : Nat} (x : BitVec w) : BitVec.ofInt w (x.toNat : Int) = x := by
  apply BitVec.eq_of_toNat_eq
  rw [BitVec.toNat_ofInt]
  have := x.isLt
  have e : ((x.toNat : Int) % ((2 ^ w : Nat) : Int)) = x.toNat := Int.emod_eq_of_lt (by omega) (by exact_mod_cast this)
  rw [e]; simp
theorem getElem?_app {Y l : Store} {k : Nat} : (Y ++ l)[Y.length + k]? = l[k]? := by rw [List.getElem?_append_right (by omega), Nat.add_sub_cancel_left]
theorem getElem?_app0 {Y l : Store} : (Y ++ l)[Y.length]? = l[0]? := getElem?_app (k := 0)
theorem z3u {Y l : Store} {k : Nat} {x : Option AObj} : (Y ++ l).set (Y.length + k) x = Y ++ l.set k x := by rw [List.set_append_right _ _ (by omega), Nat.add_sub_cancel_left]
theorem z55 {Y l : Store} {x : Option AObj} : (Y ++ l).set Y.length x = Y ++ l.set 0 x := z3u (k := 0)
end
end Am
end Go.Proofs.YtjgljhbmljgaeaaDoor
end
section
/- THE ABSTRACT MACHINE, part 23: what comes in, by its type, as_ abstract values. -/
namespace Go.Proofs.YtjgljhbmljgaeaaDoor
namespace Am
open Go.ChangeShapes Go.WideShapes Go.ChangeAt Go.RowKit

/-- Types of plain data. -/
inductive Ty where
  | int (k : IntKind)
  | bool
  | str
  | sl (sz : Nat) (e : Ty)
  | row (ts : List Ty)
  deriving Inhabited
def tile (P : Program) : List Field -> Nat -> Option Nat
  | [], n => some n
  | f :: l, n => if f.offset = n then tile P l (n + P.cellsOf f.type) else none
def tyOf (P : Program) : Nat -> TypeId -> Option Ty
  | 0, _ => none
  | d + 1, t => match P.underlying t with
    | some .bool => some .bool
    | some (.int k) => some (.int k)
    | some .string => some .str
    | some (.slice e) => if 0 < P.cellsOf e then (tyOf P d e).map (.sl (P.cellsOf e)) else none
    | some (.struct fs) => if tile P fs.toList 0 = some (P.cellsOf t) then (fs.toList.mapM fun f => tyOf P d f.type).map .row else none
    | some (.array n e) => if P.cellsOf t = n * P.cellsOf e then (tyOf P d e).map fun ty => .row (List.replicate n ty) else none
    | _ => none
mutual
/-- The cells of a value of a type. -/
def ShC : Ty -> List AV -> Prop
  | .int k, cs => ∃ n, cs = [.int k n] /\ k.min <= n /\ n <= k.max
  | .bool, cs => ∃ b, cs = [.bool b]
  | .str, cs => ∃ s : List UInt8, cs = [.str s] /\ s.length <= maxLen
  | .sl sz e, cs => cs = [.nilsl] \/ ∃ es, cs = [.vsl sz es false] /\ es.length <= maxLen /\ (∀ x ∈ es, x.length = sz) /\ ∀ x ∈ es, ShC e x
  | .row ts, cs => z5f ts cs
def z5f : List Ty -> List AV -> Prop
  | [], cs => cs = []
  | t :: ts, cs => ∃ a b, cs = a ++ b /\ ShC t a /\ z5f ts b
end
/-- An argument of a type. -/
def Sh : Ty -> AV -> Prop
  | .row ts, a => ∃ cs, a = .agg cs /\ z5f ts cs
  | t, a => ShC t [a]
def z6f : List Ty -> List AV -> Prop
  | [], avs => avs = []
  | t :: ts, avs => ∃ a avs', avs = a :: avs' /\ Sh t a /\ z6f ts avs'

section
variable {H : Type} {enc : TypeId × Value -> H} {P : Program} {w : World}

theorem zba {base : Nat} {a : Addr} {n : Nat} {cs : List Value} (h : w.cells? base a n = some cs) : cs.length = n /\ ∀ i, i < n -> w.cell? (a.add i) = cs[i]? :=
  ⟨(World.cells?_some h).2.1, (World.cells?_some h).2.2⟩
theorem zf0 {a : Addr} {v : Value} (h : w.cell? a = some v) : a.spot = none /\ ∃ c ty fz, w.heap[a.block]? = some (.cells c ty fz) /\ c[a.off]? = some v := by
  unfold World.cell? at h
  split at h
  · rename_i c ty fz hh
    split at h
    · cases h
    · rename_i hs
      exact ⟨by simpa using hs, c, ty, fz, hh, h⟩
  · cases h
theorem seg_of {b o n : Nat} {vals : List Value} (hn : 0 < n) (hl : vals.length <= n) (hall : ∀ k, k < n -> ∃ v, w.cell? ⟨b, o + k, none⟩ = some v) (hv : ∀ k, k < vals.length -> w.cell? ⟨b, o + k, none⟩ = vals[k]?) :
    b < w.heap.size /\ Seg w b o vals := by
  obtain ⟨v0, h0⟩ := hall 0 hn
  obtain ⟨_, c, ty, fz, hc, h0'⟩ := zf0 h0
  simp only [Nat.add_zero] at hc h0'
  have hget : ∀ k, w.cell? ⟨b, k, none⟩ = c[k]? := fun k => by simp [World.cell?, hc]
  have ho : o + vals.length <= c.size := by
    by_cases hz : vals.length = 0
    · have := (Array.getElem?_eq_some_iff.1 h0').1; omega
    · have := hv (vals.length - 1) (by omega)
      rw [hget, List.getElem?_eq_getElem (by omega)] at this
      have := (Array.getElem?_eq_some_iff.1 this).1; omega
  refine ⟨?_, c, ty, fz, c.toList.take o, c.toList.drop (o + vals.length), hc, ?_, by simp; omega⟩
  · rcases Nat.lt_or_ge b w.heap.size with h | h
    · exact h
    · simp [Array.getElem?_eq_none h] at hc
  · have e : vals = (c.toList.drop o).take vals.length := by
      apply List.ext_getElem?
      intro k
      simp only [List.getElem?_take, List.getElem?_drop]
      by_cases hk : k < vals.length
      · rw [if_pos hk, <- hv k hk, hget]; simp
      · rw [if_neg hk, List.getElem?_eq_none (by omega)]
    conv => lhs; rw [<- List.take_append_drop o c.toList, <- List.take_append_drop vals.length (c.toList.drop o), <- e]
    simp [List.append_assoc]

theorem zmx {α β : Type} {f : α -> Option β} : ∀ {l : List α} {r : List β}, l.mapM f = some r -> r.length = l.length /\ ∀ (i : Nat) (x : α), l[i]? = some x -> f x = r[i]?
  | [], r, h => by simp at h; subst h; simp
  | x :: l, r, h => by
    simp only [List.mapM_cons, Option.bind_eq_bind, Option.bind_eq_some_iff, Option.pure_def, Option.some.injEq] at h
    obtain ⟨y, hy, r', hr, rfl⟩ := h
    obtain ⟨h1, h2⟩ := zmx hr
    refine ⟨by simp [h1], fun i z hz => ?_⟩
    cases i with
    | zero => simp at hz; subst hz; simp [hy]
    | succ i => simp at hz; simpa using h2 i z hz

theorem zh9 {n : Nat} {spare : Nat -> Bool} {held : Bool} {base : Nat} {cs : List Value} {d : Nat}
    (ih : ∀ (t : TypeId) (ty : Ty) (cs : List Value) (x : DataW H × List MemPlace), tyOf P d t = some ty -> DataW.trod enc P w base spare held n t cs = some x -> cs.length = P.cellsOf t -> ∃ avs, VRs [] w avs cs /\ ShC ty avs) :
    ∀ (l : List Field) (k : Nat) (tys : List Ty), tile P l k = some cs.length -> l.mapM (fun f => tyOf P d f.type) = some tys ->
      (∀ f ∈ l, ∃ x, DataW.trod enc P w base spare held n f.type ((cs.drop f.offset).take (P.cellsOf f.type)) = some x) -> k <= cs.length -> ∃ avs, VRs [] w avs (cs.drop k) /\ z5f tys avs
  | [], k, tys, hk, ht, _, _ => by
    simp only [tile, Option.some.injEq] at hk
    simp at ht
    subst ht
    exact ⟨[], by rw [hk]; simp [VRs], by simp [z5f]⟩
  | f :: l, k, tys, hk, ht, hx, hle => by
    simp only [tile] at hk
    split at hk
    · rename_i hf
      simp only [List.mapM_cons, Option.bind_eq_bind, Option.bind_eq_some_iff, Option.pure_def, Option.some.injEq] at ht
      obtain ⟨ty, hty, tys', htys, rfl⟩ := ht
      have hle2 : k + P.cellsOf f.type <= cs.length := by
        have : ∀ (l : List Field) (a b : Nat), tile P l a = some b -> a <= b := by
          intro l
          induction l with
          | nil => intro a b h; simp [tile] at h; omega
          | cons f l ih => intro a b h; simp only [tile] at h; split at h; · have := ih _ _ h; omega
                           · cases h
        exact this l _ _ hk
      obtain ⟨x, hx1⟩ := hx f (by simp)
      obtain ⟨avs, h1, h2⟩ := ih f.type ty _ x hty hx1 (by simp; omega)
      obtain ⟨bs, h3, h4⟩ := zh9 ih l (k + P.cellsOf f.type) tys' hk htys (fun g hg => hx g (by simp [hg])) hle2
      refine ⟨avs ++ bs, ?_, avs, bs, rfl, h2, h4⟩
      have e : cs.drop k = (cs.drop k).take (P.cellsOf f.type) ++ cs.drop (k + P.cellsOf f.type) := by
        rw [<- List.drop_drop, List.take_append_drop]
      rw [e]
      rw [hf] at h1
      exact h1.append h3
    · cases hk
theorem zh8 {n : Nat} {spare : Nat -> Bool} {held : Bool} {base : Nat} {d : Nat} {e : TypeId} {ty : Ty} (hty : tyOf P d e = some ty)
    (ih : ∀ (t : TypeId) (ty : Ty) (cs : List Value) (x : DataW H × List MemPlace), tyOf P d t = some ty -> DataW.trod enc P w base spare held n t cs = some x -> cs.length = P.cellsOf t -> ∃ avs, VRs [] w avs cs /\ ShC ty avs) :
    ∀ (m : Nat) (cs : List Value), cs.length = m * P.cellsOf e -> (∀ i, i < m -> ∃ x, DataW.trod enc P w base spare held n e ((cs.drop (i * P.cellsOf e)).take (P.cellsOf e)) = some x) ->
      ∃ avs, VRs [] w avs cs /\ z5f (List.replicate m ty) avs
  | 0, cs, hl, _ => by
    have : cs = [] := List.eq_nil_of_length_eq_zero (by simpa using hl)
    subst this
    exact ⟨[], by simp [VRs], by simp [z5f]⟩
  | m + 1, cs, hl, hx => by
    rw [Nat.succ_mul] at hl
    obtain ⟨x, h0⟩ := hx 0 (by omega)
    simp only [Nat.zero_mul, List.drop_zero] at h0
    obtain ⟨avs, h1, h2⟩ := ih e ty _ x hty h0 (by simp; omega)
    obtain ⟨bs, h3, h4⟩ := zh8 hty ih m (cs.drop (P.cellsOf e)) (by simp; omega) (fun i hi => by
      obtain ⟨y, hy⟩ := hx (i + 1) (by omega)
      refine ⟨y, ?_⟩
      rw [List.drop_drop, Nat.add_comm, <- Nat.succ_mul]; exact hy)
    refine ⟨avs ++ bs, ?_, avs, bs, rfl, h2, h4⟩
    rw [<- List.take_append_drop (P.cellsOf e) cs]
    exact h1.append h3

theorem zcq {base : Nat} {held : Bool} : ∀ (fuel d : Nat) (t : TypeId) (ty : Ty) (cs : List Value) (x : DataW H × List MemPlace), tyOf P d t = some ty ->
    DataW.trod enc P w base (fun _ => true) held fuel t cs = some x -> ∃ avs, VRs [] w avs cs /\ ShC ty avs
  | 0, _, _, _, _, _, _, h => by simp [DataW.trod] at h
  | _ + 1, 0, _, _, _, _, ht, _ => by simp [tyOf] at ht
  | fuel + 1, d + 1, t, ty, cs, x, ht, h => by
    have ih := fun (t : TypeId) (ty : Ty) (cs : List Value) (x : DataW H × List MemPlace) (h1 : tyOf P d t = some ty) (h2 : DataW.trod enc P w base (fun _ => true) held fuel t cs = some x) (_ : cs.length = P.cellsOf t) => zcq fuel d t ty cs x h1 h2
    unfold tyOf at ht
    split at ht
    · rename_i hu
      simp only [Option.some.injEq] at ht; subst ht
      obtain ⟨b, rfl, _⟩ := DataW.trod_bool hu h
      exact ⟨[.bool b], .one ⟨VR.bool, rfl⟩, by simp [ShC]⟩
    · rename_i k hu
      simp only [Option.some.injEq] at ht; subst ht
      obtain ⟨n, rfl, _, hw⟩ := DataW.trod_int hu h
      simp only [Lit.wf, Bool.and_eq_true, decide_eq_true_eq] at hw
      exact ⟨[.int k n], .one ⟨VR.int, rfl⟩, by simp only [ShC]; exact ⟨n, rfl, hw.1, hw.2⟩⟩
    · rename_i hu
      simp only [Option.some.injEq] at ht; subst ht
      obtain ⟨s, rfl, _, hs⟩ := DataW.trod_string hu h
      refine ⟨[.str s.data.toList], .one ⟨by simp [VR], rfl⟩, by simp only [ShC]; exact ⟨_, rfl, by simpa using hs⟩⟩
    · rename_i e hu
      split at ht
      · rename_i hpos
        simp only [Option.map_eq_some_iff] at ht
        obtain ⟨te, hte, rfl⟩ := ht
        rcases DataW.trod_slice hu h with ⟨rfl, _⟩ | ⟨a, len, cap, elems, rest, n, hn, rfl, _, hb, hl, hm, hlen, hel, hsp, _⟩
        · exact ⟨[.nilsl], .one ⟨by simp [VR], rfl⟩, by simp [ShC]⟩
        · obtain ⟨hrl, hr⟩ := hsp rfl
          have hn' : n = fuel := by omega
          subst hn'
          -- each element's cells
          have each : ∀ i, i < cap -> ∃ cs y, w.cells? base (a.add (i * P.cellsOf e)) (P.cellsOf e) = some cs /\ DataW.trod enc P w base (fun _ => true) held n e cs = some y := by
            intro i hi
            have : ∃ y, (w.cells? base (a.add (i * P.cellsOf e)) (P.cellsOf e)).bind (DataW.trod enc P w base (fun _ => true) held n e) = some y := by
              by_cases hil : i < len
              · rw [hel i hil]; exact ⟨_, List.getElem?_eq_getElem (by omega)⟩
              · have := hr (i - len) (by omega)
                rw [show len + (i - len) = i by omega] at this
                rw [this]; exact ⟨_, List.getElem?_eq_getElem (by omega)⟩
            obtain ⟨y, hy⟩ := this
            rw [Option.bind_eq_some_iff] at hy
            obtain ⟨cs, h1, h2⟩ := hy
            exact ⟨cs, y, h1, h2⟩
          by_cases hc0 : cap = 0
          · subst hc0
            have : len = 0 := by omega
            subst this
            exact ⟨[.vsl (P.cellsOf e) [] false], .one ⟨by simp only [VR]; exact .inl ⟨by simp, a, rfl⟩, rfl⟩, by simp [ShC]⟩
          · have hspot : a.spot = none := by
              obtain ⟨cs, y, h1, _⟩ := each 0 (by omega)
              obtain ⟨hl1, hc1⟩ := zba h1
              have := hc1 0 hpos
              rw [List.getElem?_eq_getElem (by omega)] at this
              have := (zf0 this).1
              simpa [Addr.add] using this
            obtain ⟨b, o, spot⟩ := a
            simp only at hspot
            subst hspot
            have cellAt : ∀ i j, i < cap -> j < P.cellsOf e -> ∃ v, w.cell? ⟨b, o + (i * P.cellsOf e + j), none⟩ = some v := by
              intro i j hi hj
              obtain ⟨cs, y, h1, _⟩ := each i hi
              obtain ⟨hl1, hc1⟩ := zba h1
              have := hc1 j hj
              rw [List.getElem?_eq_getElem (by omega)] at this
              rw [add_plain, add_plain, Nat.add_assoc] at this
              exact ⟨_, this⟩
            -- the first m elements
            have firsts : ∀ m, m <= cap -> ∃ (es : List (List AV)) (vals : List Value), es.length = m /\ vals.length = m * P.cellsOf e /\ (∀ x ∈ es, x.length = P.cellsOf e) /\ (∀ x ∈ es, ShC te x) /\ VRss [] w es vals ∧
                ∀ k, k < vals.length -> w.cell? ⟨b, o + k, none⟩ = vals[k]? := by
              intro m
              induction m with
              | zero => intro _; exact ⟨[], [], rfl, by simp, by simp, by simp, by simp [VRss], by simp⟩
              | succ m ihm =>
                intro hm'
                obtain ⟨es, vals, k1, k2, k3, k4, k5, k6⟩ := ihm (by omega)
                obtain ⟨cs, y, h1, h2⟩ := each m (by omega)
                obtain ⟨hl1, hc1⟩ := zba h1
                obtain ⟨avs, q1, q2⟩ := zcq n d e te cs y hte h2
                refine ⟨es ++ [avs], vals ++ cs, by simp [k1], by simp [k2, hl1, Nat.succ_mul], ?_, ?_, ?_, ?_⟩
                · intro x hx
                  simp only [List.mem_append, List.mem_singleton] at hx
                  rcases hx with hx | rfl
                  · exact k3 x hx
                  · rw [q1.length, hl1]
                · intro x hx
                  simp only [List.mem_append, List.mem_singleton] at hx
                  rcases hx with hx | rfl
                  · exact k4 x hx
                  · exact q2
                · rw [VRss.flat, List.flatten_append]
                  refine (VRss.flat.1 k5).append ?_
                  simpa using q1
                · intro k hk
                  by_cases hk1 : k < vals.length
                  · rw [List.getElem?_append_left hk1]; exact k6 k hk1
                  · rw [List.getElem?_append_right (by omega)]
                    simp only [List.length_append] at hk
                    have := hc1 (k - vals.length) (by omega)
                    rw [add_plain, add_plain] at this
                    rw [<- this, k2]
                    congr 2
                    omega
            obtain ⟨es, vals, k1, k2, k3, k4, k5, k6⟩ := firsts len hl
            have hmul : len * P.cellsOf e <= cap * P.cellsOf e := Nat.mul_le_mul_right _ hl
            obtain ⟨hbl, hseg⟩ := seg_of (w := w) (b := b) (o := o) (n := cap * P.cellsOf e) (vals := vals) (Nat.mul_pos (by omega) hpos) (by omega) (by
              intro k hk
              have h1 : k / P.cellsOf e < cap := Nat.div_lt_of_lt_mul (by rw [Nat.mul_comm]; exact hk)
              obtain ⟨v, hv⟩ := cellAt (k / P.cellsOf e) (k % P.cellsOf e) h1 (Nat.mod_lt _ hpos)
              rw [Nat.mul_comm, Nat.div_add_mod] at hv
              exact ⟨v, hv⟩) k6
            refine ⟨[.vsl (P.cellsOf e) es false], .one ⟨?_, rfl⟩, ?_⟩
            · simp only [VR]
              right
              exact ⟨b, o, cap, vals, by rw [k1], by omega, by simp, ⟨hbl, by simp⟩, hseg, k3, k5⟩
            · simp only [ShC]
              right
              exact ⟨es, rfl, by omega, k3, k4⟩
      · cases ht
    · rename_i fs hu
      split at ht
      · rename_i htile
        simp only [Option.map_eq_some_iff] at ht
        obtain ⟨tys, htys, rfl⟩ := ht
        obtain ⟨xs, n, hn, _, hcl, hxl, hxs⟩ := DataW.trod_struct hu h
        have hn' : n = fuel := by omega
        subst hn'
        obtain ⟨avs, h1, h2⟩ := zh9 (cs := cs) ih fs.toList 0 tys (by rw [hcl]; exact htile) htys (fun f hf => by
          obtain ⟨i, hi⟩ := List.getElem?_of_mem hf
          have hi' : fs[i]? = some f := by simpa using hi
          rw [hxs i f hi']
          have : i < xs.length := by rw [hxl]; exact (Array.getElem?_eq_some_iff.1 hi').1
          exact ⟨_, List.getElem?_eq_getElem this⟩) (Nat.zero_le _)
        exact ⟨avs, by simpa using h1, by simpa only [ShC] using h2⟩
      · cases ht
    · rename_i n e hu
      split at ht
      · rename_i hsz
        simp only [Option.map_eq_some_iff] at ht
        obtain ⟨te, hte, rfl⟩ := ht
        obtain ⟨xs, m, hm, _, hcl, hxl, hxs⟩ := DataW.trod_array hu h
        have hm' : m = fuel := by omega
        subst hm'
        obtain ⟨avs, h1, h2⟩ := zh8 hte ih n cs (by rw [hcl, hsz]) (fun i hi => by
          rw [hxs i hi]; exact ⟨_, List.getElem?_eq_getElem (by omega)⟩)
        exact ⟨avs, h1, by simpa only [ShC] using h2⟩
      · cases ht
    · cases ht

theorem zo5 {r : Reach} {b0 base : Nat} {held : Bool} {d : Nat} {t : TypeId} {ty : Ty} {v : Value} {x : DataW H} {ps : List MemPlace} (ht : tyOf P d t = some ty) (hval : Value.okWide P w r b0 t v)
    (hd : DataW.Trod enc P w base (fun _ => true) held t v x ps) : ∃ a, VR [] w a v /\ Sh ty a := by
  obtain ⟨fuel, hf⟩ := hd
  obtain ⟨avs, h1, h2⟩ := zcq fuel d t ty _ _ ht hf
  have one : v.oneCell' = true -> (∀ ts, ty ≠ .row ts) -> ∃ a, VR [] w a v /\ Sh ty a := by
    intro hv hr
    rw [zbb hv] at h1
    cases avs with
    | nil => simp [VRs] at h1
    | cons a avs =>
      simp only [VRs] at h1
      obtain ⟨v', vs', he, h3, h4⟩ := h1
      simp only [List.cons.injEq] at he
      obtain ⟨rfl, rfl⟩ := he
      have : avs = [] := by cases avs <;> simp [VRs] at h4 ⊢
      subst this
      refine ⟨a, h3.1, ?_⟩
      cases ty <;> first | exact h2 | exact absurd rfl (hr _)
  have agg : (∃ cs, v = .agg cs) -> (∃ ts, ty = .row ts) -> ∃ a, VR [] w a v /\ Sh ty a := by
    rintro ⟨cs, rfl⟩ ⟨ts, rfl⟩
    simp only [ShC] at h2
    refine ⟨.agg avs, ?_, avs, rfl, h2⟩
    simp only [VR]
    exact ⟨cs.toList, by simp, by simpa [Value.cells] using h1⟩
  cases d with
  | zero => simp [tyOf] at ht
  | succ d =>
    unfold tyOf at ht
    unfold Value.okWide at hval
    split at ht
    · rename_i hu
      simp only [Option.some.injEq] at ht; subst ht
      simp only [hu, Cell.okWide, Cell.ok] at hval
      refine one ?_ (by simp)
      cases v <;> simp_all <;> rfl
    · rename_i k hu
      simp only [Option.some.injEq] at ht; subst ht
      simp only [hu, Cell.okWide, Cell.ok] at hval
      refine one ?_ (by simp)
      cases v <;> simp_all <;> rfl
    · rename_i hu
      simp only [Option.some.injEq] at ht; subst ht
      simp only [hu, Cell.okWide, Cell.ok] at hval
      refine one ?_ (by simp)
      cases v <;> simp_all <;> rfl
    · rename_i e hu
      split at ht
      · simp only [Option.map_eq_some_iff] at ht
        obtain ⟨te, _, rfl⟩ := ht
        simp only [hu, Cell.okWide, Cell.ok] at hval
        refine one ?_ (by simp)
        cases v <;> simp_all <;> rfl
      · cases ht
    · rename_i fs hu
      split at ht
      · simp only [Option.map_eq_some_iff] at ht
        obtain ⟨te, _, rfl⟩ := ht
        simp only [hu] at hval
        obtain ⟨cs, hcs, _⟩ := hval
        exact agg ⟨cs, hcs⟩ ⟨_, rfl⟩
      · cases ht
    · rename_i n e hu
      split at ht
      · simp only [Option.map_eq_some_iff] at ht
        obtain ⟨te, _, rfl⟩ := ht
        simp only [hu] at hval
        obtain ⟨cs, hcs, _⟩ := hval
        exact agg ⟨cs, hcs⟩ ⟨_, rfl⟩
      · cases ht
    · cases ht

def z79 (P : Program) (d : Nat) : List TypeId -> Option (List Ty)
  | [] => some []
  | t :: ts => (tyOf P d t).bind fun ty => (z79 P d ts).map (ty :: ·)
theorem zcg {r : Reach} {b0 base : Nat} {held : Bool} {d : Nat} : ∀ {ts : List TypeId} {tys : List Ty} {vs : List Value} {xs : List (DataW H)} {ps : List MemPlace}, z79 P d ts = some tys ->
    (∀ (j : Nat) t v, ts[j]? = some t -> vs[j]? = some v -> Value.okWide P w r b0 t v) -> DataW.TrodAll enc P w base (fun _ => true) held ts vs xs ps -> ∃ avs, VRt [] w avs vs /\ z6f tys avs
  | [], tys, vs, xs, ps, ht, _, h => by
    simp only [z79, Option.some.injEq] at ht; subst ht
    obtain ⟨rfl, _⟩ := trodAll_nil h
    exact ⟨[], VRt.nil, rfl⟩
  | t :: ts, tys, vs, xs, ps, ht, hval, h => by
    simp only [z79, Option.bind_eq_some_iff, Option.map_eq_some_iff] at ht
    obtain ⟨ty, h1, tys', h2, rfl⟩ := ht
    obtain ⟨v, vs', x, xs', p, q, rfl, rfl, rfl, h3, h4⟩ := trodAll_cons h
    obtain ⟨a, k1, k2⟩ := zo5 h1 (hval 0 t v rfl rfl) h3
    obtain ⟨avs, k3, k4⟩ := zcg h2 (fun j t' v' hj hv => hval (j + 1) t' v' (by simpa using hj) (by simpa using hv)) h4
    exact ⟨a :: avs, VRt.cons k1 k3, a, avs, rfl, k2, k4⟩
end
end Am
end Go.Proofs.YtjgljhbmljgaeaaDoor
end
section
/- THE ABSTRACT MACHINE, part 24: a law's contract at the empty store gives its row's. -/
namespace Go.Proofs.YtjgljhbmljgaeaaDoor
namespace Am
open Go.ChangeShapes Go.WideShapes Go.ChangeAt Go.RowKit
section
variable {H : Type} {enc : TypeId × Value -> H} {P : Program} {w : World}
theorem zdq {base : Nat} {spare : Nat -> Bool} {held : Bool} : ∀ {ts : List TypeId} {vs : List Value} {ds : List (DataW H)} {ps : List MemPlace}, DataW.TrodAll enc P w base spare held ts vs ds ps -> ds.length = ts.length
  | [], [], [], _, _ => rfl
  | t :: ts, v :: vs, d :: ds, ps, h => by
    obtain ⟨p, q, h1, h2, rfl⟩ := h
    simp [zdq h2]
  | [], [], _ :: _, _, h => h.elim
  | [], _ :: _, _, _, h => h.elim
  | _ :: _, [], _, _, h => h.elim
  | _ :: _, _ :: _, [], _, h => h.elim

theorem zsd {C : Ctx} (hg : ∀ g, C.gl g = none) {f : FuncId} {fn : Func} {e : Nat × List RV × ACode} (hc : cFn C f = some e) {d : Nat} {tys : List Ty} (htys : z79 C.P d fn.params.toList = some tys)
    (hlaw : ∀ avs, z6f tys avs -> ACallsTo C f avs [] (.bool true) []) {s : ChangeSpec} (hvars : s.vars = [])
    (hspec : ∀ ds : List (DataW H), ds.length = fn.params.toList.length -> (s.fn H ds).results = [.lit (.bool true)] /\ (s.fn H ds).args = ds /\ (s.fn H ds).vars = []) {tb : TypeId} (hres : fn.resultTypes = #[tb]) (htb : C.P.underlying tb = some .bool)
    (hl : laidOutB C.P = true) (hpar : (fn.params.toList.all fun t => C.P.readableRec t && decide (t < C.P.types.size)) = true)
    {W : World} {base : Nat} {args : Array Value} {ds gs : List (DataW H)} {before : List MemPlace} (hval : ∀ (j : Nat) t v, fn.params[j]? = some t -> args[j]? = some v -> Value.okWide C.P W .any base t v)
    (hW : DataW.Whole enc C.P fn.params.toList s.vars false W args.toList ds gs before) :
    Calls C.P f args W fun e W' => ∃ v, e = .returned v /\ s.post enc C.P fn false true false false W args v W' := by
  have hW' := hW
  obtain ⟨p, q, hA, hV, rfl, hfz, hnd⟩ := hW
  obtain ⟨avs, h1, h2⟩ := zcg (r := .any) (b0 := base) htys (fun j t v hj hv => hval j t v (by simpa using hj) (by simpa using hv)) hA
  have hcall := (hlaw avs h2).calls hc (Rel.empty hg W) h1
  have ea : args.toList.toArray = args := by simp
  rw [ea] at hcall
  refine hcall.mono ?_
  rintro x w' ⟨rfl, hb⟩
  refine ⟨_, rfl, zg9 hW' hvars (fun gs hgs => ?_) hres htb hl hpar hb⟩
  subst hgs
  rw [List.append_nil]
  exact hspec ds (zdq hA)
end
end Am
end Go.Proofs.YtjgljhbmljgaeaaDoor
end
section
/- THE ABSTRACT MACHINE, part 26: a contract at the empty store serves at every store: rows are lent as_ values, new objects lie behind the others. -/
namespace Go.Proofs.YtjgljhbmljgaeaaDoor
namespace Am

mutual
/-- References are counted from k on. -/
def sh (k : Nat) : AV -> AV
  | .ptr r i off => .ptr (k + r) i off
  | .sl r off len lim esz => .sl (k + r) off len lim esz
  | .asl r i off len cap esz => .asl (k + r) i off len cap esz
  | .fn f caps => .fn f (shs k caps)
  | .agg cs => .agg (shs k cs)
  | .tup vs => .tup (shs k vs)
  | .any => .any
  | .undef => .undef
  | .bool b => .bool b
  | .int i n => .int i n
  | .str s => .str s
  | .nilp => .nilp
  | .vp _ => .any
  | .nilsl => .nilsl
  | .vsl _ _ _ => .any
  | .nilfn => .nilfn
  | .bld r => .bld (k + r)
  | .bnil => .bnil
  | .bsl r len => .bsl (k + r) len
def shs (k : Nat) : List AV -> List AV
  | [] => []
  | a :: l => sh k a :: shs k l
end
def shss (k : Nat) (es : List (List AV)) : List (List AV) := es.map (shs k)
def shS (k : Nat) (Y : Store) : Store := Y.map (·.map (shss k))
theorem zhz (k : Nat) : ∀ l, (shs k l).length = l.length
  | [] => rfl
  | _ :: l => by simp [shs, zhz k l]
theorem zhy (k : Nat) : ∀ l m, shs k (l ++ m) = shs k l ++ shs k m
  | [], _ => rfl
  | a :: l, m => by simp [shs, zhy k l m]
theorem zi0 (k : Nat) : ∀ es : List (List AV), (shss k es).flatten = shs k es.flatten
  | [] => rfl
  | e :: es => by
    have := zi0 k es
    simp only [shss] at this
    simp only [shss, List.map_cons, List.flatten_cons, zhy, this]
mutual
theorem zaj {Z Z' : Places} {w : World} : ∀ (a : AV) (v : Value), VR Z' w a v -> VR (Z ++ Z') w (sh Z.length a) v
  | .any, _, _ => by simp only [sh, VR]
  | .undef, _, h => by simpa only [sh, VR] using h
  | .bool _, _, h => by simpa only [sh, VR] using h
  | .int _ _, _, h => by simpa only [sh, VR] using h
  | .str _, _, h => by simpa only [sh, VR] using h
  | .nilp, _, h => by simpa only [sh, VR] using h
  | .nilsl, _, h => by simpa only [sh, VR] using h
  | .nilfn, _, h => by simpa only [sh, VR] using h
  | .vp _, _, _ => by simp only [sh, VR]
  | .vsl _ _ _, _, _ => by simp only [sh, VR]
  | .ptr r i off, v, h => by
    simp only [sh, VR] at h ⊢
    obtain ⟨fl, pl, h1, h2⟩ := h
    exact ⟨fl, pl, by rw [List.getElem?_append_right (by omega), Nat.add_sub_cancel_left]; exact h1, h2⟩
  | .sl r off len lim esz, v, h => by
    simp only [sh, VR] at h ⊢
    obtain ⟨fl, pl, b, o, cap, h1, h2⟩ := h
    exact ⟨fl, pl, b, o, cap, by rw [List.getElem?_append_right (by omega), Nat.add_sub_cancel_left]; exact h1, h2⟩
  | .asl r i off len cap esz, v, h => by
    simp only [sh, VR] at h ⊢
    obtain ⟨fl, pl, b, o, h1, h2⟩ := h
    exact ⟨fl, pl, b, o, by rw [List.getElem?_append_right (by omega), Nat.add_sub_cancel_left]; exact h1, h2⟩
  | .fn f caps, v, h => by
    simp only [sh, VR] at h ⊢
    obtain ⟨vs, h1, h2⟩ := h
    exact ⟨vs, h1, zdd caps vs h2⟩
  | .agg cs, v, h => by
    simp only [sh, VR] at h ⊢
    obtain ⟨vs, h1, h2⟩ := h
    exact ⟨vs, h1, zdc cs vs h2⟩
  | .tup cs, v, h => by
    simp only [sh, VR] at h ⊢
    obtain ⟨vs, h1, h2⟩ := h
    exact ⟨vs, h1, zdd cs vs h2⟩
  | .bld r, v, h => by
    simp only [sh, VR] at h ⊢
    obtain ⟨fl, pl, h1, h2⟩ := h
    exact ⟨fl, pl, by rw [List.getElem?_append_right (by omega), Nat.add_sub_cancel_left]; exact h1, h2⟩
  | .bnil, _, h => by simpa only [sh, VR] using h
  | .bsl r len, v, h => by
    simp only [sh, VR] at h ⊢
    obtain ⟨fl, pl, cap, h1, h2⟩ := h
    exact ⟨fl, pl, cap, by rw [List.getElem?_append_right (by omega), Nat.add_sub_cancel_left]; exact h1, h2⟩
theorem zdc {Z Z' : Places} {w : World} : ∀ (l : List AV) (vs : List Value), VRs Z' w l vs -> VRs (Z ++ Z') w (shs Z.length l) vs
  | [], vs, h => by simpa only [shs, VRs] using h
  | a :: l, vs, h => by
    simp only [shs, VRs] at h ⊢
    obtain ⟨v, vs', h1, h2, h3⟩ := h
    exact ⟨v, vs', h1, ⟨zaj a v h2.1, h2.2⟩, zdc l vs' h3⟩
theorem zdd {Z Z' : Places} {w : World} : ∀ (l : List AV) (vs : List Value), VRt Z' w l vs -> VRt (Z ++ Z') w (shs Z.length l) vs
  | [], vs, h => by simpa only [shs, VRt] using h
  | a :: l, vs, h => by
    simp only [shs, VRt] at h ⊢
    obtain ⟨v, vs', h1, h2, h3⟩ := h
    exact ⟨v, vs', h1, zaj a v h2, zdd l vs' h3⟩
end

/-- All objects are lent. -/
def z34 (Y : Store) : DC := ⟨Y, 0, id, fun _ => true⟩
theorem zgc {Y : Store} {Z : Places} {w : World} : DSnd (z34 Y) Z [] w where
  ref r _ _ h := by simp [z34] at h
  imm b h := ⟨h.1, by simp⟩
  fz r pl _ _ r' pl' h := by simp at h
theorem zdk {Z Z' : Places} {w w' : World} (h : Step [] w Z' w') (hlt : ∀ (r : Nat) (pl : Place), Z[r]? = some (true, pl) -> pl.b < w.heap.size) : Step Z w (Z ++ Z') w' where
  keep r fl pl hr := ⟨fl, by rw [List.getElem?_append_left (List.getElem?_eq_some_iff.1 hr).1]; exact hr⟩
  size := h.size
  imm b hb _ := h.imm b hb (by simp)
  new r pl hr := by
    by_cases hl : r < Z.length
    · rw [List.getElem?_append_left hl] at hr
      exact .inl ⟨r, pl, hr, rfl⟩
    · rw [List.getElem?_append_right (by omega)] at hr
      rcases h.new _ pl hr with ⟨r', pl', h1, _⟩ | h1
      · simp at h1
      · exact .inr h1
  os := h.os
  tape := h.tape
  output := h.output

def GlOK (C : Ctx) : Prop := ∀ g cs, C.gl g = some cs -> RLs 0 cs
theorem Rel.lent {C : Ctx} {Z : Places} {Y : Store} {w : World} (hg : GlOK C) (hR : Rel C Z Y w) : Rel C [] [] w :=
  ⟨rfl, by simp, by simp, by simp, fun g cs h => DR.sound hR zgc (.vp cs) (.vp cs) _ (DR.refl (D := z34 Y) (k := 0) (by omega) _ (by simpa only [RL] using hg g cs h)) (hR.gl g cs h)⟩
theorem Rel.back {C : Ctx} {Z Z' : Places} {Y Y1 : Store} {w w' : World} (hR : Rel C Z Y w) (hst : Step [] w Z' w') (h : Rel C Z' Y1 w') : Rel C (Z ++ Z') (Y ++ shS Y.length Y1) w' := by
  have hlt : ∀ (r : Nat) (pl : Place), Z[r]? = some (true, pl) -> pl.b < w.heap.size := fun r pl hr => hR.place_lt hr
  have hs := zdk (Z := Z) hst hlt
  have hge : ∀ (r : Nat) (pl : Place), Z'[r]? = some (true, pl) -> w.heap.size <= pl.b := fun r pl hr => by
    rcases hst.new r pl hr with ⟨r', pl', h1, _⟩ | h1
    · simp at h1
    · exact h1
  refine ⟨by simp [shS, hR.len, h.len], fun r o hr => ?_, fun r hr => ?_, fun r r' pl pl' h1 h2 h3 => ?_, fun g cs hg => (hR.gl g cs hg).mono hs⟩
  · by_cases hl : r < Y.length
    · rw [List.getElem?_append_left hl] at hr
      obtain ⟨pl, h1, h2⟩ := hR.alive r o hr
      exact ⟨pl, by rw [List.getElem?_append_left (by rw [hR.len]; exact hl)]; exact h1, h2.mono hs (hst.imm _ h2.lt (by simp))⟩
    · rw [List.getElem?_append_right (by omega)] at hr
      simp only [shS, List.getElem?_map, Option.map_eq_some_iff] at hr
      obtain ⟨x, hx, he⟩ := hr
      cases x with
      | none => simp at he
      | some o0 =>
        simp only [Option.map_some, Option.some.injEq] at he
        obtain ⟨_, rfl, rfl⟩ := he
        obtain ⟨pl, h1, h2⟩ := h.alive _ o0 hx
        refine ⟨pl, by rw [List.getElem?_append_right (by rw [hR.len]; omega), hR.len]; exact h1, ?_⟩
        obtain ⟨c, ty, fz, pre, mid, post, k1, k2, k3, k4, k5, k6⟩ := h2.ex
        refine ⟨by simp [shss, h2.len], fun e he => ?_, h2.tyk, c, ty, fz, pre, mid, post, k1, k2, k3, k4, ?_, k6⟩
        · simp only [shss, List.mem_map] at he
          obtain ⟨e0, he0, rfl⟩ := he
          rw [zhz]; exact h2.esz e0 he0
        · rw [zi0, <- hR.len]
          exact zdc _ _ k5
  · by_cases hl : r < Y.length
    · rw [List.getElem?_append_left hl] at hr
      obtain ⟨pl, h1⟩ := hR.dead r hr
      exact ⟨pl, by rw [List.getElem?_append_left (by rw [hR.len]; exact hl)]; exact h1⟩
    · rw [List.getElem?_append_right (by omega)] at hr
      simp only [shS, List.getElem?_map, Option.map_eq_some_iff] at hr
      obtain ⟨x, hx, he⟩ := hr
      cases x with
      | some o0 => simp at he
      | none =>
        obtain ⟨pl, h1⟩ := h.dead _ hx
        exact ⟨pl, by rw [List.getElem?_append_right (by rw [hR.len]; omega), hR.len]; exact h1⟩
  · have get : ∀ (r : Nat) (pl : Place), (Z ++ Z')[r]? = some (true, pl) -> (r < Z.length /\ Z[r]? = some (true, pl)) \/ (Z.length <= r /\ Z'[r - Z.length]? = some (true, pl)) := fun r pl hr => by
      by_cases hl : r < Z.length
      · rw [List.getElem?_append_left hl] at hr; exact .inl ⟨hl, hr⟩
      · rw [List.getElem?_append_right (by omega)] at hr; exact .inr ⟨by omega, hr⟩
    rcases get r pl h1 with ⟨k1, k2⟩ | ⟨k1, k2⟩ <;> rcases get r' pl' h2 with ⟨q1, q2⟩ | ⟨q1, q2⟩
    · exact hR.inj r r' pl pl' k2 q2 h3
    · have := hlt r pl k2; have := hge _ pl' q2; omega
    · have := hge _ pl k2; have := hlt r' pl' q2; omega
    · have := h.inj _ _ pl pl' k2 q2 h3; omega

theorem ACallsTo.lend {C : Ctx} (hg : GlOK C) {f : FuncId} {xs args : List AV} {v : AV} {Y Y1 : Store} (h : ACallsTo C f xs [] v Y1) (hd : DRs (z34 Y) xs args) : ACallsTo C f args Y (sh Y.length v) (Y ++ shS Y.length Y1) := by
  intro Z w cargs hR ha
  have hx : VRt [] w xs cargs := DRs.soundt hR zgc xs args cargs hd ha
  have hlt : ∀ (r : Nat) (pl : Place), Z[r]? = some (true, pl) -> pl.b < w.heap.size := fun r pl hr => hR.place_lt hr
  rcases h [] w cargs (hR.lent hg) hx with ⟨h1, h2⟩ | ⟨cv, Z', w', h1, h2, h3, h4⟩
  · refine .inl ⟨h1, h2.mono ?_⟩
    rintro e w' ⟨cv, Z', rfl, k1, k2, k3⟩
    exact ⟨cv, Z ++ Z', rfl, zdk k1 hlt, hR.back k1 k2, by rw [<- hR.len]; exact zaj v cv k3⟩
  · exact .inr ⟨cv, Z ++ Z', w', h1, zdk h2 hlt, hR.back h2 h3, by rw [<- hR.len]; exact zaj v cv h4⟩
/-- A contract at the empty store, of values alone, at every store. -/
theorem ACallsTo.frame {C : Ctx} (hg : GlOK C) {f : FuncId} {xs : List AV} {v : AV} (h : ACallsTo C f xs [] v []) (hx : RLs 0 xs) (Y : Store) : ACallsTo C f xs Y (sh Y.length v) Y := by
  have := ACallsTo.lend hg (Y := Y) h (DRs.refl (D := z34 Y) (k := 0) (by omega) xs hx)
  simpa [shS] using this
end Am
end Go.Proofs.YtjgljhbmljgaeaaDoor
end
section
/- THE ABSTRACT MACHINE, part 25: its steps, gathered for simp; numbers decided by omega. -/
namespace Go.Proofs.YtjgljhbmljgaeaaDoor
namespace Am
theorem lens : (∀ {α : Type} {l : List α} {i : Nat} {a : α}, (l.set i a).length = l.length) /\ (∀ {α : Type} {l m : List α}, (l ++ m).length = l.length + m.length) /\ (∀ {α : Type} {a : α} {l : List α}, (a :: l).length = l.length + 1) /\ (∀ {α : Type}, ([] : List α).length = 0) /\ (∀ {α β : Type} {f : α -> β} {l : List α}, (l.map f).length = l.length) :=
  ⟨List.length_set, List.length_append, List.length_cons, List.length_nil, List.length_map _⟩
section
variable {C : Ctx} {n k : Nat} {Q : AExit -> Env -> Store -> Prop} {O : Env} {Y : Store}
theorem zW.zd {x : AX} {p q : ACode} {P : Prop} [hd : Decidable P] (hx : x.ev O = .bool (@decide P hd)) (h1 : P -> zW C n k p Q O Y) (h2 : ¬ P -> zW C n k q Q O Y) : zW C n k (.cond x p q) Q O Y :=
  zW.cond hx (fun h => h1 (of_decide_eq_true h)) (fun h => h2 (of_decide_eq_false h))
theorem zW.zt {x : AX} {p q : ACode} (hx : x.ev O = .bool true) (h1 : zW C n k p Q O Y) : zW C n k (.cond x p q) Q O Y :=
  zW.cond hx (fun _ => h1) (fun h => by cases h)
theorem zW.zf {x : AX} {p q : ACode} (hx : x.ev O = .bool false) (h1 : zW C n k q Q O Y) : zW C n k (.cond x p q) Q O Y :=
  zW.cond hx (fun h => by cases h) (fun _ => h1)
theorem z8z {n : Int} (h : -9223372036854775808 <= n /\ n < 9223372036854775808) : IntKind.i64.wrap n = n := by
  simp [IntKind.wrap, IntKind.signed, IntKind.bits]; omega
theorem zat {n : Int} (h : 0 <= n /\ n < 18446744073709551616) : IntKind.u64.wrap n = n := by
  simp [IntKind.wrap, IntKind.signed, IntKind.bits]; omega
theorem z90 {n : Int} (h : 0 <= n /\ n < 4294967296) : IntKind.u32.wrap n = n := by
  simp [IntKind.wrap, IntKind.signed, IntKind.bits]; omega
theorem zas {n : Int} (h : 0 <= n /\ n < 65536) : IntKind.u16.wrap n = n := by
  simp [IntKind.wrap, IntKind.signed, IntKind.bits]; omega
theorem w_u8 {n : Int} (h : 0 <= n /\ n < 256) : IntKind.u8.wrap n = n := by
  simp [IntKind.wrap, IntKind.signed, IntKind.bits]; omega
theorem shr_u8 {a b : Int} (h : 0 <= b /\ b < 8) : z1e .shr .u8 a b = some (.int .u8 (a / 2 ^ b.toNat)) := by
  simp only [z1e, IntKind.bits]
  rw [if_neg (by omega), Nat.min_eq_left (by omega), Int.fdiv_eq_ediv_of_nonneg _ (Int.pow_nonneg (by decide))]
theorem shl_u8 {a b : Int} (h : 0 <= b /\ b < 8) : z1e .shl .u8 a b = some (.int .u8 (IntKind.u8.wrap (a * 2 ^ b.toNat))) := by
  simp only [z1e, IntKind.bits]
  rw [if_neg (by omega), Nat.min_eq_left (by omega)]
theorem zr1 {a b : Int} (h : 0 <= b /\ b < 16) : z1e .shr .u16 a b = some (.int .u16 (a / 2 ^ b.toNat)) := by
  simp only [z1e, IntKind.bits]
  rw [if_neg (by omega), Nat.min_eq_left (by omega), Int.fdiv_eq_ediv_of_nonneg _ (Int.pow_nonneg (by decide))]
theorem zqw {a b : Int} (h : 0 <= b /\ b < 16) : z1e .shl .u16 a b = some (.int .u16 (IntKind.u16.wrap (a * 2 ^ b.toNat))) := by
  simp only [z1e, IntKind.bits]
  rw [if_neg (by omega), Nat.min_eq_left (by omega)]
theorem zhx {a b : Int} (h : 0 <= b /\ b < 32) : z1e .shr .u32 a b = some (.int .u32 (a / 2 ^ b.toNat)) := by
  simp only [z1e, IntKind.bits]
  rw [if_neg (by omega), Nat.min_eq_left (by omega), Int.fdiv_eq_ediv_of_nonneg _ (Int.pow_nonneg (by decide))]
theorem zhu {a b : Int} (h : 0 <= b /\ b < 32) : z1e .shl .u32 a b = some (.int .u32 (IntKind.u32.wrap (a * 2 ^ b.toNat))) := by
  simp only [z1e, IntKind.bits]
  rw [if_neg (by omega), Nat.min_eq_left (by omega)]
theorem zr2 {a b : Int} (h : 0 <= b /\ b < 64) : z1e .shr .u64 a b = some (.int .u64 (a / 2 ^ b.toNat)) := by
  simp only [z1e, IntKind.bits]
  rw [if_neg (by omega), Nat.min_eq_left (by omega), Int.fdiv_eq_ediv_of_nonneg _ (Int.pow_nonneg (by decide))]
theorem zqx {a b : Int} (h : 0 <= b /\ b < 64) : z1e .shl .u64 a b = some (.int .u64 (IntKind.u64.wrap (a * 2 ^ b.toNat))) := by
  simp only [z1e, IntKind.bits]
  rw [if_neg (by omega), Nat.min_eq_left (by omega)]
theorem zr0 {a b : Int} (h : 0 <= b /\ b < 64) : z1e .shr .i64 a b = some (.int .i64 (a / 2 ^ b.toNat)) := by
  simp only [z1e, IntKind.bits]
  rw [if_neg (by omega), Nat.min_eq_left (by omega), Int.fdiv_eq_ediv_of_nonneg _ (Int.pow_nonneg (by decide))]
theorem zqv {a b : Int} (h : 0 <= b /\ b < 64) : z1e .shl .i64 a b = some (.int .i64 (IntKind.i64.wrap (a * 2 ^ b.toNat))) := by
  simp only [z1e, IntKind.bits]
  rw [if_neg (by omega), Nat.min_eq_left (by omega)]
theorem zfu {k : IntKind} {a b : Int} : zy .add k a b = some (.int k (k.wrap (a + b))) := rfl
theorem ib_sub {k : IntKind} {a b : Int} : zy .sub k a b = some (.int k (k.wrap (a - b))) := rfl
theorem ib_mul {k : IntKind} {a b : Int} : zy .mul k a b = some (.int k (k.wrap (a * b))) := rfl
theorem ib_quo {k : IntKind} {a b : Int} : zy .quo k a b = if b = 0 then none else some (.int k (k.wrap (a.tdiv b))) := rfl
theorem ib_rem {k : IntKind} {a b : Int} : zy .rem k a b = if b = 0 then none else some (.int k (a.tmod b)) := rfl
theorem ib_eql {k : IntKind} {a b : Int} : zy .eql k a b = some (.bool (a == b)) := rfl
theorem ib_neq {k : IntKind} {a b : Int} : zy .neq k a b = some (.bool (a != b)) := rfl
theorem ib_lss {k : IntKind} {a b : Int} : zy .lss k a b = some (.bool (decide (a < b))) := rfl
theorem ib_leq {k : IntKind} {a b : Int} : zy .leq k a b = some (.bool (decide (a <= b))) := rfl
theorem ib_gtr {k : IntKind} {a b : Int} : zy .gtr k a b = some (.bool (decide (a > b))) := rfl
theorem ib_geq {k : IntKind} {a b : Int} : zy .geq k a b = some (.bool (decide (a >= b))) := rfl
theorem zlz {a b : Int} (ha : 0 <= a /\ a < 256) (hb : 0 <= b /\ b < 256) : zy .and .u8 a b = some (.int .u8 ((a.toNat &&& b.toNat : Nat) : Int)) := by
  have h : (BitVec.ofInt IntKind.u8.bits a &&& BitVec.ofInt IntKind.u8.bits b).toNat = a.toNat &&& b.toNat := by
    rw [BitVec.toNat_and, BitVec.toNat_ofInt, BitVec.toNat_ofInt]
    simp only [IntKind.bits]
    rw [Int.emod_eq_of_lt (by omega) (by omega), Int.emod_eq_of_lt (by omega) (by omega)]
  have h1 : a.toNat < 2 ^ 8 := by omega
  have h2 : b.toNat < 2 ^ 8 := by omega
  have h3 : a.toNat &&& b.toNat < 2 ^ 8 := Nat.and_lt_two_pow _ h2
  simp only [zy]
  rw [h, w_u8 ⟨by omega, by omega⟩]
theorem zm3 {a b : Int} (ha : 0 <= a /\ a < 256) (hb : 0 <= b /\ b < 256) : zy .or .u8 a b = some (.int .u8 ((a.toNat ||| b.toNat : Nat) : Int)) := by
  have h : (BitVec.ofInt IntKind.u8.bits a ||| BitVec.ofInt IntKind.u8.bits b).toNat = a.toNat ||| b.toNat := by
    rw [BitVec.toNat_or, BitVec.toNat_ofInt, BitVec.toNat_ofInt]
    simp only [IntKind.bits]
    rw [Int.emod_eq_of_lt (by omega) (by omega), Int.emod_eq_of_lt (by omega) (by omega)]
  have h1 : a.toNat < 2 ^ 8 := by omega
  have h2 : b.toNat < 2 ^ 8 := by omega
  have h3 : a.toNat ||| b.toNat < 2 ^ 8 := Nat.or_lt_two_pow h1 h2
  simp only [zy]
  rw [h, w_u8 ⟨by omega, by omega⟩]
theorem zm7 {a b : Int} (ha : 0 <= a /\ a < 256) (hb : 0 <= b /\ b < 256) : zy .xor .u8 a b = some (.int .u8 ((a.toNat ^^^ b.toNat : Nat) : Int)) := by
  have h : (BitVec.ofInt IntKind.u8.bits a ^^^ BitVec.ofInt IntKind.u8.bits b).toNat = a.toNat ^^^ b.toNat := by
    rw [BitVec.toNat_xor, BitVec.toNat_ofInt, BitVec.toNat_ofInt]
    simp only [IntKind.bits]
    rw [Int.emod_eq_of_lt (by omega) (by omega), Int.emod_eq_of_lt (by omega) (by omega)]
  have h1 : a.toNat < 2 ^ 8 := by omega
  have h2 : b.toNat < 2 ^ 8 := by omega
  have h3 : a.toNat ^^^ b.toNat < 2 ^ 8 := Nat.xor_lt_two_pow h1 h2
  simp only [zy]
  rw [h, w_u8 ⟨by omega, by omega⟩]
theorem zlx {a b : Int} (ha : 0 <= a /\ a < 65536) (hb : 0 <= b /\ b < 65536) : zy .and .u16 a b = some (.int .u16 ((a.toNat &&& b.toNat : Nat) : Int)) := by
  have h : (BitVec.ofInt IntKind.u16.bits a &&& BitVec.ofInt IntKind.u16.bits b).toNat = a.toNat &&& b.toNat := by
    rw [BitVec.toNat_and, BitVec.toNat_ofInt, BitVec.toNat_ofInt]
    simp only [IntKind.bits]
    rw [Int.emod_eq_of_lt (by omega) (by omega), Int.emod_eq_of_lt (by omega) (by omega)]
  have h1 : a.toNat < 2 ^ 16 := by omega
  have h2 : b.toNat < 2 ^ 16 := by omega
  have h3 : a.toNat &&& b.toNat < 2 ^ 16 := Nat.and_lt_two_pow _ h2
  simp only [zy]
  rw [h, zas ⟨by omega, by omega⟩]
theorem zm1 {a b : Int} (ha : 0 <= a /\ a < 65536) (hb : 0 <= b /\ b < 65536) : zy .or .u16 a b = some (.int .u16 ((a.toNat ||| b.toNat : Nat) : Int)) := by
  have h : (BitVec.ofInt IntKind.u16.bits a ||| BitVec.ofInt IntKind.u16.bits b).toNat = a.toNat ||| b.toNat := by
    rw [BitVec.toNat_or, BitVec.toNat_ofInt, BitVec.toNat_ofInt]
    simp only [IntKind.bits]
    rw [Int.emod_eq_of_lt (by omega) (by omega), Int.emod_eq_of_lt (by omega) (by omega)]
  have h1 : a.toNat < 2 ^ 16 := by omega
  have h2 : b.toNat < 2 ^ 16 := by omega
  have h3 : a.toNat ||| b.toNat < 2 ^ 16 := Nat.or_lt_two_pow h1 h2
  simp only [zy]
  rw [h, zas ⟨by omega, by omega⟩]
theorem zm5 {a b : Int} (ha : 0 <= a /\ a < 65536) (hb : 0 <= b /\ b < 65536) : zy .xor .u16 a b = some (.int .u16 ((a.toNat ^^^ b.toNat : Nat) : Int)) := by
  have h : (BitVec.ofInt IntKind.u16.bits a ^^^ BitVec.ofInt IntKind.u16.bits b).toNat = a.toNat ^^^ b.toNat := by
    rw [BitVec.toNat_xor, BitVec.toNat_ofInt, BitVec.toNat_ofInt]
    simp only [IntKind.bits]
    rw [Int.emod_eq_of_lt (by omega) (by omega), Int.emod_eq_of_lt (by omega) (by omega)]
  have h1 : a.toNat < 2 ^ 16 := by omega
  have h2 : b.toNat < 2 ^ 16 := by omega
  have h3 : a.toNat ^^^ b.toNat < 2 ^ 16 := Nat.xor_lt_two_pow h1 h2
  simp only [zy]
  rw [h, zas ⟨by omega, by omega⟩]
theorem zfv {a b : Int} (ha : 0 <= a /\ a < 4294967296) (hb : 0 <= b /\ b < 4294967296) : zy .and .u32 a b = some (.int .u32 ((a.toNat &&& b.toNat : Nat) : Int)) := by
  have h : (BitVec.ofInt IntKind.u32.bits a &&& BitVec.ofInt IntKind.u32.bits b).toNat = a.toNat &&& b.toNat := by
    rw [BitVec.toNat_and, BitVec.toNat_ofInt, BitVec.toNat_ofInt]
    simp only [IntKind.bits]
    rw [Int.emod_eq_of_lt (by omega) (by omega), Int.emod_eq_of_lt (by omega) (by omega)]
  have h1 : a.toNat < 2 ^ 32 := by omega
  have h2 : b.toNat < 2 ^ 32 := by omega
  have h3 : a.toNat &&& b.toNat < 2 ^ 32 := Nat.and_lt_two_pow _ h2
  simp only [zy]
  rw [h, z90 ⟨by omega, by omega⟩]
theorem zfw {a b : Int} (ha : 0 <= a /\ a < 4294967296) (hb : 0 <= b /\ b < 4294967296) : zy .or .u32 a b = some (.int .u32 ((a.toNat ||| b.toNat : Nat) : Int)) := by
  have h : (BitVec.ofInt IntKind.u32.bits a ||| BitVec.ofInt IntKind.u32.bits b).toNat = a.toNat ||| b.toNat := by
    rw [BitVec.toNat_or, BitVec.toNat_ofInt, BitVec.toNat_ofInt]
    simp only [IntKind.bits]
    rw [Int.emod_eq_of_lt (by omega) (by omega), Int.emod_eq_of_lt (by omega) (by omega)]
  have h1 : a.toNat < 2 ^ 32 := by omega
  have h2 : b.toNat < 2 ^ 32 := by omega
  have h3 : a.toNat ||| b.toNat < 2 ^ 32 := Nat.or_lt_two_pow h1 h2
  simp only [zy]
  rw [h, z90 ⟨by omega, by omega⟩]
theorem zfx {a b : Int} (ha : 0 <= a /\ a < 4294967296) (hb : 0 <= b /\ b < 4294967296) : zy .xor .u32 a b = some (.int .u32 ((a.toNat ^^^ b.toNat : Nat) : Int)) := by
  have h : (BitVec.ofInt IntKind.u32.bits a ^^^ BitVec.ofInt IntKind.u32.bits b).toNat = a.toNat ^^^ b.toNat := by
    rw [BitVec.toNat_xor, BitVec.toNat_ofInt, BitVec.toNat_ofInt]
    simp only [IntKind.bits]
    rw [Int.emod_eq_of_lt (by omega) (by omega), Int.emod_eq_of_lt (by omega) (by omega)]
  have h1 : a.toNat < 2 ^ 32 := by omega
  have h2 : b.toNat < 2 ^ 32 := by omega
  have h3 : a.toNat ^^^ b.toNat < 2 ^ 32 := Nat.xor_lt_two_pow h1 h2
  simp only [zy]
  rw [h, z90 ⟨by omega, by omega⟩]
theorem zly {a b : Int} (ha : 0 <= a /\ a < 18446744073709551616) (hb : 0 <= b /\ b < 18446744073709551616) : zy .and .u64 a b = some (.int .u64 ((a.toNat &&& b.toNat : Nat) : Int)) := by
  have h : (BitVec.ofInt IntKind.u64.bits a &&& BitVec.ofInt IntKind.u64.bits b).toNat = a.toNat &&& b.toNat := by
    rw [BitVec.toNat_and, BitVec.toNat_ofInt, BitVec.toNat_ofInt]
    simp only [IntKind.bits]
    rw [Int.emod_eq_of_lt (by omega) (by omega), Int.emod_eq_of_lt (by omega) (by omega)]
  have h1 : a.toNat < 2 ^ 64 := by omega
  have h2 : b.toNat < 2 ^ 64 := by omega
  have h3 : a.toNat &&& b.toNat < 2 ^ 64 := Nat.and_lt_two_pow _ h2
  simp only [zy]
  rw [h, zat ⟨by omega, by omega⟩]
theorem zm2 {a b : Int} (ha : 0 <= a /\ a < 18446744073709551616) (hb : 0 <= b /\ b < 18446744073709551616) : zy .or .u64 a b = some (.int .u64 ((a.toNat ||| b.toNat : Nat) : Int)) := by
  have h : (BitVec.ofInt IntKind.u64.bits a ||| BitVec.ofInt IntKind.u64.bits b).toNat = a.toNat ||| b.toNat := by
    rw [BitVec.toNat_or, BitVec.toNat_ofInt, BitVec.toNat_ofInt]
    simp only [IntKind.bits]
    rw [Int.emod_eq_of_lt (by omega) (by omega), Int.emod_eq_of_lt (by omega) (by omega)]
  have h1 : a.toNat < 2 ^ 64 := by omega
  have h2 : b.toNat < 2 ^ 64 := by omega
  have h3 : a.toNat ||| b.toNat < 2 ^ 64 := Nat.or_lt_two_pow h1 h2
  simp only [zy]
  rw [h, zat ⟨by omega, by omega⟩]
theorem zm6 {a b : Int} (ha : 0 <= a /\ a < 18446744073709551616) (hb : 0 <= b /\ b < 18446744073709551616) : zy .xor .u64 a b = some (.int .u64 ((a.toNat ^^^ b.toNat : Nat) : Int)) := by
  have h : (BitVec.ofInt IntKind.u64.bits a ^^^ BitVec.ofInt IntKind.u64.bits b).toNat = a.toNat ^^^ b.toNat := by
    rw [BitVec.toNat_xor, BitVec.toNat_ofInt, BitVec.toNat_ofInt]
    simp only [IntKind.bits]
    rw [Int.emod_eq_of_lt (by omega) (by omega), Int.emod_eq_of_lt (by omega) (by omega)]
  have h1 : a.toNat < 2 ^ 64 := by omega
  have h2 : b.toNat < 2 ^ 64 := by omega
  have h3 : a.toNat ^^^ b.toNat < 2 ^ 64 := Nat.xor_lt_two_pow h1 h2
  simp only [zy]
  rw [h, zat ⟨by omega, by omega⟩]
theorem zlw {a b : Int} (ha : 0 <= a /\ a < 9223372036854775808) (hb : 0 <= b /\ b < 9223372036854775808) : zy .and .i64 a b = some (.int .i64 ((a.toNat &&& b.toNat : Nat) : Int)) := by
  have h : (BitVec.ofInt IntKind.i64.bits a &&& BitVec.ofInt IntKind.i64.bits b).toNat = a.toNat &&& b.toNat := by
    rw [BitVec.toNat_and, BitVec.toNat_ofInt, BitVec.toNat_ofInt]
    simp only [IntKind.bits]
    rw [Int.emod_eq_of_lt (by omega) (by omega), Int.emod_eq_of_lt (by omega) (by omega)]
  have h1 : a.toNat < 2 ^ 63 := by omega
  have h2 : b.toNat < 2 ^ 63 := by omega
  have h3 : a.toNat &&& b.toNat < 2 ^ 63 := Nat.and_lt_two_pow _ h2
  simp only [zy]
  rw [h, z8z ⟨by omega, by omega⟩]
theorem zm0 {a b : Int} (ha : 0 <= a /\ a < 9223372036854775808) (hb : 0 <= b /\ b < 9223372036854775808) : zy .or .i64 a b = some (.int .i64 ((a.toNat ||| b.toNat : Nat) : Int)) := by
  have h : (BitVec.ofInt IntKind.i64.bits a ||| BitVec.ofInt IntKind.i64.bits b).toNat = a.toNat ||| b.toNat := by
    rw [BitVec.toNat_or, BitVec.toNat_ofInt, BitVec.toNat_ofInt]
    simp only [IntKind.bits]
    rw [Int.emod_eq_of_lt (by omega) (by omega), Int.emod_eq_of_lt (by omega) (by omega)]
  have h1 : a.toNat < 2 ^ 63 := by omega
  have h2 : b.toNat < 2 ^ 63 := by omega
  have h3 : a.toNat ||| b.toNat < 2 ^ 63 := Nat.or_lt_two_pow h1 h2
  simp only [zy]
  rw [h, z8z ⟨by omega, by omega⟩]
theorem zm4 {a b : Int} (ha : 0 <= a /\ a < 9223372036854775808) (hb : 0 <= b /\ b < 9223372036854775808) : zy .xor .i64 a b = some (.int .i64 ((a.toNat ^^^ b.toNat : Nat) : Int)) := by
  have h : (BitVec.ofInt IntKind.i64.bits a ^^^ BitVec.ofInt IntKind.i64.bits b).toNat = a.toNat ^^^ b.toNat := by
    rw [BitVec.toNat_xor, BitVec.toNat_ofInt, BitVec.toNat_ofInt]
    simp only [IntKind.bits]
    rw [Int.emod_eq_of_lt (by omega) (by omega), Int.emod_eq_of_lt (by omega) (by omega)]
  have h1 : a.toNat < 2 ^ 63 := by omega
  have h2 : b.toNat < 2 ^ 63 := by omega
  have h3 : a.toNat ^^^ b.toNat < 2 ^ 63 := Nat.xor_lt_two_pow h1 h2
  simp only [zy]
  rw [h, z8z ⟨by omega, by omega⟩]
theorem mask1 (a : Nat) : a &&& 1 = a % 2 := Nat.and_two_pow_sub_one_eq_mod a 1
theorem mask2 (a : Nat) : a &&& 3 = a % 4 := Nat.and_two_pow_sub_one_eq_mod a 2
theorem mask3 (a : Nat) : a &&& 7 = a % 8 := Nat.and_two_pow_sub_one_eq_mod a 3
theorem mask4 (a : Nat) : a &&& 15 = a % 16 := Nat.and_two_pow_sub_one_eq_mod a 4
theorem mask5 (a : Nat) : a &&& 31 = a % 32 := Nat.and_two_pow_sub_one_eq_mod a 5
theorem mask6 (a : Nat) : a &&& 63 = a % 64 := Nat.and_two_pow_sub_one_eq_mod a 6
theorem mask7 (a : Nat) : a &&& 127 = a % 128 := Nat.and_two_pow_sub_one_eq_mod a 7
theorem mask8 (a : Nat) : a &&& 255 = a % 256 := Nat.and_two_pow_sub_one_eq_mod a 8
theorem mask12 (a : Nat) : a &&& 4095 = a % 4096 := Nat.and_two_pow_sub_one_eq_mod a 12
theorem zmd (a b : Int) : (a == b) = decide (a = b) := by
  by_cases h : a = b <;> simp [h]
theorem zme (a b : Int) : (a != b) = decide (¬ a = b) := by
  by_cases h : a = b <;> simp [h]
theorem znd (p : Prop) [Decidable p] : (!decide p) = decide (¬ p) := by simp
theorem zrr {a b : Int} (h : 0 <= a) : a.tdiv b = a / b := Int.tdiv_eq_ediv_of_nonneg h
theorem zrt {a b : Int} (h : 0 <= a) : a.tmod b = a % b := Int.tmod_eq_emod_of_nonneg h
theorem fdiv_pos {a b : Int} (h : 0 <= b) : a.fdiv b = a / b := Int.fdiv_eq_ediv_of_nonneg a h
theorem getQ {α : Type} (l : List α) (i : Nat) (d : α) (h : i < l.length) : l[i]? = some (l.getD i d) := by
  simp [List.getD_eq_getElem?_getD, List.getElem?_eq_getElem h]
theorem upd_b {d t : Nat} {v : AV} : upd O d v t = bif t == d then v else O t := by
  unfold upd
  by_cases h : t = d
  · simp [h]
  · have : (t == d) = false := by simpa using h
    rw [if_neg h, this]; rfl
theorem z41 {K : Env -> Store -> Prop} {O' : Env} {Y' : Store} : z2y K Y false (some (O', Y')) = K O' Y' := Eq.trans rfl rfl
theorem z42 {K : Env -> Store -> Prop} {O' : Env} {Y' : Store} : z2y K Y true (some (O', Y')) = (Y' = Y /\ K O' Y') := Eq.trans rfl rfl
section
variable {K : Hist -> Env -> Store -> Prop} {H : Hist} {d : Option Nat} {g : Option (Nat × Bool)} {op : AOp} {nd : Nd} {f : AX} {xs : List AX} {v : AV} {s : Store}
theorem z57 : zj K H ⟨d, g, .no, op⟩ O Y = z2y (K H) Y false (z21 ⟨d, g, .no, op⟩ O Y) := Eq.trans rfl rfl
theorem z58 : zj K H ⟨d, g, .same, op⟩ O Y = z2y (K H) Y true (z21 ⟨d, g, .same, op⟩ O Y) := Eq.trans rfl rfl
theorem zrf : zj K H ⟨d, g, .rd, op⟩ O Y = rdW K H d op O Y (z1b O g) := Eq.trans rfl rfl
theorem zrd : zj K H ⟨d, g, .ef, op⟩ O Y = efW K H d op O Y (z1b O g) := Eq.trans rfl rfl
theorem rdW_t : rdW K H d op O Y (some true) = rdC K H d op O Y (op.run O Y) := Eq.trans rfl rfl
theorem rdW_f : rdW K H d op O Y (some false) = K H (putE O d .undef) Y := Eq.trans rfl rfl
theorem efW_t : efW K H d op O Y (some true) = efC K H d O Y (op.run O Y) := Eq.trans rfl rfl
theorem efW_f : efW K H d op O Y (some false) = K H (putE O d .undef) Y := Eq.trans rfl rfl
theorem rdC_s : rdC K H d op O Y (some (v, s)) = (s = Y /\ (∀ h, H.pre h -> op.run O h = some (v, h)) /\ K ⟨H.pre, fun s => H.rds s /\ op.run O s = some (v, s), H.rd2⟩ (putE O d v) Y) := Eq.trans rfl rfl
theorem zrg : zj K H ⟨d, g, .rd2, op⟩ O Y = rd2W K H d op O Y (z1b O g) := Eq.trans rfl rfl
theorem zre : zj K H ⟨d, g, .ef2, op⟩ O Y = ef2W K H d op O Y (z1b O g) := Eq.trans rfl rfl
theorem rd2W_t : rd2W K H d op O Y (some true) = rd2C K H d op O Y (op.run O Y) := Eq.trans rfl rfl
theorem rd2W_f : rd2W K H d op O Y (some false) = K H (putE O d .undef) Y := Eq.trans rfl rfl
theorem ef2W_t : ef2W K H d op O Y (some true) = ef2C K H d O Y (op.run O Y) := Eq.trans rfl rfl
theorem ef2W_f : ef2W K H d op O Y (some false) = K H (putE O d .undef) Y := Eq.trans rfl rfl
theorem rd2C_s : rd2C K H d op O Y (some (v, s)) = (s = Y /\ (∀ h, H.pre h -> op.run O h = some (v, h)) /\ K ⟨H.pre, fun s => H.rds s /\ op.run O s = some (v, s), fun s => H.rd2 s /\ op.run O s = some (v, s)⟩ (putE O d v) Y) := Eq.trans rfl rfl
theorem ef2C_s : ef2C K H d O Y (some (v, s)) = (H.rd2 s /\ K ⟨fun t => H.pre t \/ t = Y, H.rds, H.rd2⟩ (putE O d v) s) := Eq.trans rfl rfl
theorem znb {h : Store} : Hist.none.rd2 h = True := Eq.trans rfl rfl
theorem zqf {h : Store} : (Hist.same Y).rd2 h = (h = Y) := Eq.trans rfl rfl
theorem efC_s : efC K H d O Y (some (v, s)) = (H.rds s /\ K ⟨fun t => H.pre t \/ t = Y, H.rds, H.rd2⟩ (putE O d v) s) := Eq.trans rfl rfl
theorem z40 : z2b C K H O Y d nd f xs (some true) = callW C K H O d nd Y (f.ev O) (xs.map (AX.ev O)) := Eq.trans rfl rfl
theorem z3z : z2b C K H O Y d nd f xs (some false) = K H (putE O d .undef) Y := Eq.trans rfl rfl
theorem zn5 {Y' : Store} : z2f .no H Y Y' = True := Eq.trans rfl rfl
theorem zn6 {Y' : Store} : z2f .same H Y Y' = (Y' = Y) := Eq.trans rfl rfl
theorem zn4 {Y' : Store} : z2f .ef H Y Y' = H.rds Y' := Eq.trans rfl rfl
theorem zn2 : z3q .no H Y = H := Eq.trans rfl rfl
theorem zn3 : z3q .same H Y = H := Eq.trans rfl rfl
theorem zn1 : z3q .ef H Y = ⟨fun s => H.pre s \/ s = Y, H.rds, H.rd2⟩ := Eq.trans rfl rfl
theorem un_not {b : Bool} : aUn .not (.bool b) = some (.bool (!b)) := Eq.trans rfl rfl
theorem un_neg {k : IntKind} {n : Int} : aUn .neg (.int k n) = some (.int k (k.wrap (0 - n))) := Eq.trans rfl rfl
theorem un_xor {k : IntKind} {n : Int} : aUn .xor (.int k n) = some (.int k (k.wrap (BitVec.ofInt k.bits (if k.signed then -1 else k.max) ^^^ BitVec.ofInt k.bits n).toNat)) := Eq.trans rfl rfl
theorem rdS_s {s : Store} : rdS K d O Y (some (v, s)) = (s = Y /\ K (Hist.same Y) (putE O d v) Y) := Eq.trans rfl rfl
theorem zqe {h : Store} : (Hist.same Y).pre h = (h = Y) := Eq.trans rfl rfl
theorem zqg {h : Store} : (Hist.same Y).rds h = (h = Y) := Eq.trans rfl rfl
theorem zna {h : Store} : Hist.none.pre h = False := Eq.trans rfl rfl
theorem znc {h : Store} : Hist.none.rds h = True := Eq.trans rfl rfl
end
theorem zl0 {k : IntKind} {m : Int} {cells : List AV} {off : Nat} {rest : List (Nat × Nat × AV)} (h : off + 1 <= cells.length) : z12 cells ((off, 1, (.int k m)) :: rest) = z12 (z16 cells off [(.int k m)]) rest := by
  simp [z12, cellsOf, h]
theorem zl7 {s : List UInt8} {cells : List AV} {off : Nat} {rest : List (Nat × Nat × AV)} (h : off + 1 <= cells.length) : z12 cells ((off, 1, (.str s)) :: rest) = z12 (z16 cells off [(.str s)]) rest := by
  simp [z12, cellsOf, h]
theorem zky {b : Bool} {cells : List AV} {off : Nat} {rest : List (Nat × Nat × AV)} (h : off + 1 <= cells.length) : z12 cells ((off, 1, (.bool b)) :: rest) = z12 (z16 cells off [(.bool b)]) rest := by
  simp [z12, cellsOf, h]
theorem zl5 {r i o : Nat} {cells : List AV} {off : Nat} {rest : List (Nat × Nat × AV)} (h : off + 1 <= cells.length) : z12 cells ((off, 1, (.ptr r i o)) :: rest) = z12 (z16 cells off [(.ptr r i o)]) rest := by
  simp [z12, cellsOf, h]
theorem zl3  {cells : List AV} {off : Nat} {rest : List (Nat × Nat × AV)} (h : off + 1 <= cells.length) : z12 cells ((off, 1, .nilp) :: rest) = z12 (z16 cells off [.nilp]) rest := by
  simp [z12, cellsOf, h]
theorem zl4  {cells : List AV} {off : Nat} {rest : List (Nat × Nat × AV)} (h : off + 1 <= cells.length) : z12 cells ((off, 1, .nilsl) :: rest) = z12 (z16 cells off [.nilsl]) rest := by
  simp [z12, cellsOf, h]
theorem zl9 {z : Nat} {es : List (List AV)} {x : Bool} {cells : List AV} {off : Nat} {rest : List (Nat × Nat × AV)} (h : off + 1 <= cells.length) : z12 cells ((off, 1, (.vsl z es x)) :: rest) = z12 (z16 cells off [(.vsl z es x)]) rest := by
  simp [z12, cellsOf, h]
theorem zl6 {r o len z : Nat} {lim : Option Nat} {cells : List AV} {off : Nat} {rest : List (Nat × Nat × AV)} (h : off + 1 <= cells.length) : z12 cells ((off, 1, (.sl r o len lim z)) :: rest) = z12 (z16 cells off [(.sl r o len lim z)]) rest := by
  simp [z12, cellsOf, h]
theorem zkx {r i o len cap z : Nat} {cells : List AV} {off : Nat} {rest : List (Nat × Nat × AV)} (h : off + 1 <= cells.length) : z12 cells ((off, 1, (.asl r i o len cap z)) :: rest) = z12 (z16 cells off [(.asl r i o len cap z)]) rest := by
  simp [z12, cellsOf, h]
theorem zl8 {cs : List AV} {cells : List AV} {off : Nat} {rest : List (Nat × Nat × AV)} (h : off + 1 <= cells.length) : z12 cells ((off, 1, (.vp cs)) :: rest) = z12 (z16 cells off [(.vp cs)]) rest := by
  simp [z12, cellsOf, h]
theorem zkz {f : FuncId} {caps : List AV} {cells : List AV} {off : Nat} {rest : List (Nat × Nat × AV)} (h : off + 1 <= cells.length) : z12 cells ((off, 1, (.fn f caps)) :: rest) = z12 (z16 cells off [(.fn f caps)]) rest := by
  simp [z12, cellsOf, h]
theorem zl2  {cells : List AV} {off : Nat} {rest : List (Nat × Nat × AV)} (h : off + 1 <= cells.length) : z12 cells ((off, 1, .nilfn) :: rest) = z12 (z16 cells off [.nilfn]) rest := by
  simp [z12, cellsOf, h]
theorem zkw {cs cells : List AV} {off n : Nat} {rest : List (Nat × Nat × AV)} (h0 : cs.length = n) (h : off + n <= cells.length) : z12 cells ((off, n, .agg cs) :: rest) = z12 (z16 cells off cs) rest := by
  simp [z12, cellsOf, h0, h]
theorem appB_n {ys : List (List AV)} : z3l Y .nilsl ys = aApp Y 1 .nilsl ys := rfl
theorem appB_v {esz : Nat} {es ys : List (List AV)} {ex : Bool} : z3l Y (.vsl esz es ex) ys = aApp Y 1 (.vsl esz es ex) ys := rfl
theorem appB_s {r off len esz : Nat} {lim : Option Nat} {ys : List (List AV)} : z3l Y (.sl r off len lim esz) ys = aApp Y 1 (.sl r off len lim esz) ys := rfl
theorem zjg {ys : List (List AV)} : z3l Y .bnil ys = if ys.length ≠ 0 /\ ys.length <= 1073741824 then some (.bsl Y.length ys.length, Y ++ [some ys]) else none := rfl
theorem zjh {r len : Nat} {ys : List (List AV)} : z3l Y (.bsl r len) ys = match Y[r]? with
    | some (some o) => if ys.length ≠ 0 /\ o.length = len /\ len + ys.length <= 1073741824 then some (.bsl Y.length (len + ys.length), Y.set r none ++ [some (o ++ ys)]) else none
    | _ => none := rfl
theorem zaz {sz : Nat} {ys : List (List AV)} : aApp Y sz .nilsl ys = if ys.length = 0 then (z1z Y .nilsl).map fun _ => (.nilsl, Y) else if ys.length <= 1073741824 then some (.sl Y.length 0 ys.length none sz, Y ++ [some ys]) else none := Eq.trans rfl rfl
theorem z7n {sz esz : Nat} {es ys : List (List AV)} {ex : Bool} : aApp Y sz (.vsl esz es ex) ys = if ys.length = 0 then (z1z Y (.vsl esz es ex)).map fun _ => (.vsl esz es ex, Y) else if ex = true /\ esz = sz /\ es.length + ys.length <= 1073741824 then some (.sl Y.length 0 (es.length + ys.length) none sz, Y ++ [some (es ++ ys)]) else none := Eq.trans rfl rfl
theorem z9i {sz r off len esz : Nat} {lim : Option Nat} {ys : List (List AV)} : aApp Y sz (.sl r off len lim esz) ys = if ys.length = 0 then (z1z Y (.sl r off len lim esz)).map fun _ => (.sl r off len lim esz, Y) else match Y[r]? with
    | some (some o) => if esz = sz /\ off + len <= o.length /\ len + ys.length <= 1073741824 then
        (match lim with
         | none => if off + len + ys.length <= o.length then some (.sl r off (len + ys.length) none esz, Y.set r (some (o.take (off + len) ++ ys ++ o.drop (off + len + ys.length))))
             else some (.sl Y.length 0 (len + ys.length) none sz, Y.set r none ++ [some ((o.drop off).take len ++ ys)])
         | some c => if len + ys.length <= c then (if off + len + ys.length <= o.length then some (.sl r off (len + ys.length) (some c) esz, Y.set r (some (o.take (off + len) ++ ys ++ o.drop (off + len + ys.length)))) else none)
             else some (.sl Y.length 0 (len + ys.length) none sz, Y ++ [some ((o.drop off).take len ++ ys)])) else none
    | _ => none := Eq.trans rfl rfl
theorem zl1 {cells : List AV} : z12 cells [] = some cells := rfl
theorem zo8 {c : AV} {cs vs : List AV} {n : Nat} : z16 (c :: cs) (n + 1) vs = c :: z16 cs n vs := by
  have e : n + 1 + vs.length = (n + vs.length) + 1 := by omega
  simp [z16, e]
theorem zob {c v : AV} {cs vs : List AV} : z16 (c :: cs) 0 (v :: vs) = v :: z16 cs 0 vs := by
  simp [z16]
theorem zo6 {cs : List AV} : z16 cs 0 [] = cs := by simp [z16]
theorem zoa {cs vs : List AV} {n : Nat} : z16 cs n vs = cs.take n ++ vs ++ cs.drop (n + vs.length) := Eq.trans rfl rfl
theorem overw1 {c v : AV} : z16 [c] 0 [v] = [v] := by simp [z16]
theorem z15 (s : List UInt8) : (zo s).length = s.length := by simp [zo]
theorem zjr {s : List UInt8} {i : Nat} (h : i < s.length) : (zo s)[i]? = some [.int .u8 (s.getD i 0).toNat] := by
  simp [zo, B8, List.getD_eq_getElem?_getD, List.getElem?_eq_getElem h]
theorem zjt {s : List UInt8} {i : Nat} {n : Int} (h : 0 <= n /\ n < 256) : (zo s).set i [.int .u8 n] = zo (s.set i (UInt8.ofNat n.toNat)) := by
  have e : ((n.toNat % 256 : Nat) : Int) = n := by omega
  simp [zo, B8, List.map_set, e]
theorem zjs (n : Nat) : List.replicate n [AV.int .u8 0] = zo (List.replicate n 0) := by simp [zo, B8]
theorem get_u8 {s : List UInt8} {i : Nat} (h : i < s.length) : s[i]? = some (s.getD i 0) := getQ s i 0 h
theorem zan {r off len esz : Nat} {lim : Option Nat} : z1z Y (.sl r off len lim esz) = match Y[r]? with | some (some o) => if off + len <= o.length then some ((o.drop off).take len) else none | _ => none := Eq.trans rfl rfl
theorem z6o {k : IntKind} {a b : Int} (h : a = b) : AV.int k a = AV.int k b := by rw [h]
theorem str_eq {a b : List UInt8} (h : a = b) : AV.str a = AV.str b := by rw [h]
theorem wm_u8 {n : Int} : IntKind.u8.wrap n = n % 256 := by simp [IntKind.wrap, IntKind.signed, IntKind.bits]
theorem wm_u16 {n : Int} : IntKind.u16.wrap n = n % 65536 := by simp [IntKind.wrap, IntKind.signed, IntKind.bits]
theorem z91 {n : Int} : IntKind.u32.wrap n = n % 4294967296 := by simp [IntKind.wrap, IntKind.signed, IntKind.bits]
theorem wm_u64 {n : Int} : IntKind.u64.wrap n = n % 18446744073709551616 := by simp [IntKind.wrap, IntKind.signed, IntKind.bits]
theorem zju {s : List UInt8} {i : Nat} : (zo s).take i = zo (s.take i) := by simp [zo, List.map_take]
theorem zjq {s : List UInt8} {i : Nat} : (zo s).drop i = zo (s.drop i) := by simp [zo, List.map_drop]
theorem zjo {s t : List UInt8} : zo s ++ zo t = zo (s ++ t) := by simp [zo]
theorem zrm {cs : List AV} {off n : Nat} : z2l cs off n false = cs[off]? := Eq.trans rfl rfl
theorem zrn {cs : List AV} {off n : Nat} : z2l cs off n true = if off + n <= cs.length then some (.agg ((cs.drop off).take n)) else none := Eq.trans rfl rfl
/-! Guards. -/
def gv (v : AV) (b : Bool) : Option Bool := match v with
  | .bool x => some (x == b)
  | .undef => some false
  | _ => none
def insG (g : Option Bool) (d : Option Nat) (op : AOp) (O : Env) (Y : Store) : Option (Env × Store) := match g with
  | some true => (op.run O Y).map fun r => (putE O d r.1, r.2)
  | some false => some (putE O d .undef, Y)
  | none => none
theorem zma {d : Option Nat} {nd : Nd} {op : AOp} : z21 ⟨d, none, nd, op⟩ O Y = (op.run O Y).map fun r => (putE O d r.1, r.2) := rfl
theorem zmb {d : Option Nat} {nd : Nd} {b : Bool} {s : Nat} {op : AOp} : z21 ⟨d, some (s, b), nd, op⟩ O Y = insG (gv (O s) b) d op O Y := rfl
theorem zll : z1b O none = some true := rfl
theorem zlm {s : Nat} {b : Bool} : z1b O (some (s, b)) = gv (O s) b := rfl
theorem gv_tt : gv (.bool true) true = some true := rfl
theorem gv_tf : gv (.bool true) false = some false := rfl
theorem gv_ft : gv (.bool false) true = some false := rfl
theorem gv_ff : gv (.bool false) false = some true := rfl
theorem zln {b : Bool} : gv .undef b = some false := rfl
theorem insG_t {d : Option Nat} {op : AOp} : insG (some true) d op O Y = (op.run O Y).map fun r => (putE O d r.1, r.2) := rfl
theorem insG_f {d : Option Nat} {op : AOp} : insG (some false) d op O Y = some (putE O d .undef, Y) := rfl
section
variable {K : Hist -> Env -> Store -> Prop} {K1 : Env -> Store -> Prop} {H : Hist} {d : Option Nat} {op : AOp} {nd : Nd} {b x m : Bool} {P : Prop} {f : AX} {xs : List AX}
theorem zg0 [hd : Decidable P] (h1 : P -> z2y K1 Y m (insG (gv (.bool true) b) d op O Y)) (h2 : ¬ P -> z2y K1 Y m (insG (gv (.bool false) b) d op O Y)) : z2y K1 Y m (insG (gv (.bool (@decide P hd)) b) d op O Y) := by
  by_cases h : P
  · simpa [h] using h1 h
  · simpa [h] using h2 h
theorem zg1 (h1 : x = true -> z2y K1 Y m (insG (gv (.bool true) b) d op O Y)) (h2 : x = false -> z2y K1 Y m (insG (gv (.bool false) b) d op O Y)) : z2y K1 Y m (insG (gv (.bool x) b) d op O Y) := by
  cases x
  · exact h2 rfl
  · exact h1 rfl
theorem zg2 [hd : Decidable P] (h1 : P -> rdW K H d op O Y (gv (.bool true) b)) (h2 : ¬ P -> rdW K H d op O Y (gv (.bool false) b)) : rdW K H d op O Y (gv (.bool (@decide P hd)) b) := by
  by_cases h : P
  · simpa [h] using h1 h
  · simpa [h] using h2 h
theorem zg3 (h1 : x = true -> rdW K H d op O Y (gv (.bool true) b)) (h2 : x = false -> rdW K H d op O Y (gv (.bool false) b)) : rdW K H d op O Y (gv (.bool x) b) := by
  cases x
  · exact h2 rfl
  · exact h1 rfl
theorem zg4 [hd : Decidable P] (h1 : P -> efW K H d op O Y (gv (.bool true) b)) (h2 : ¬ P -> efW K H d op O Y (gv (.bool false) b)) : efW K H d op O Y (gv (.bool (@decide P hd)) b) := by
  by_cases h : P
  · simpa [h] using h1 h
  · simpa [h] using h2 h
theorem zg5 (h1 : x = true -> efW K H d op O Y (gv (.bool true) b)) (h2 : x = false -> efW K H d op O Y (gv (.bool false) b)) : efW K H d op O Y (gv (.bool x) b) := by
  cases x
  · exact h2 rfl
  · exact h1 rfl
theorem zg6 [hd : Decidable P] (h1 : P -> z2b C K H O Y d nd f xs (gv (.bool true) b)) (h2 : ¬ P -> z2b C K H O Y d nd f xs (gv (.bool false) b)) : z2b C K H O Y d nd f xs (gv (.bool (@decide P hd)) b) := by
  by_cases h : P
  · simpa [h] using h1 h
  · simpa [h] using h2 h
theorem zg7 (h1 : x = true -> z2b C K H O Y d nd f xs (gv (.bool true) b)) (h2 : x = false -> z2b C K H O Y d nd f xs (gv (.bool false) b)) : z2b C K H O Y d nd f xs (gv (.bool x) b) := by
  cases x
  · exact h2 rfl
  · exact h1 rfl
end
end
attribute [go_sem] z45 z38 z41 z42 z57 z58 zrf zrd rdW_t rdW_f efW_t efW_f rdC_s efC_s zrg zre rd2W_t rd2W_f ef2W_t ef2W_f rd2C_s ef2C_s znb zqf z40 z3z zn5 zn6 zn4 zn2 zn3 zn1 zna znc false_or or_imp forall_and forall_eq false_implies implies_true zma zmb zll zlm gv_tt gv_tf gv_ft gv_ff zln insG_t insG_f AOp.run AX.ev putE upd_b cond_true cond_false z24 Option.map_some Option.bind_some Option.map_none rBin rEq z2s eqOp aMin z2p z2k z3e z3d z2u rFa rFld z3b z3c z1j z2t
  z29 blkQ endQ endP retV oks Bool.and_true Bool.true_and RV.val RV.ok Option.getD_some Option.isSome_some List.map_cons List.map_nil List.getD_cons_zero List.getD_cons_succ List.getD_nil if_true if_false ite_true ite_false reduceCtorEq Bool.false_eq_true Bool.true_eq_false beq_true beq_false Bool.not_true Bool.not_false BEq.rfl beq_self_eq_true
  List.nil_append List.cons_append List.append_nil
  oj_mv zo1 zni znh znj oj_box znk oj_lit znw zo3 zo0 oj_bin oj_un znn znz znx zo2 oj_fa oj_fld znp znq znr zns oj_ext znv znu znt oj_app zno znm zny oj_nil znl
  z4u z4w z47 zoc zod aBld appB_n appB_v appB_s zjg zjh z4a z4b z4p z4q z4y z4v z49 z4z z4d z4t z4r z4x z4g z4h z4i z4j z4k z4l z4f z4o z4n z4m z48 z4e z4c z4s
  getElem?_app getElem?_app0 z3u z55
  shr_u8 shl_u8 zr1 zqw zhx zhu zr2 zqx zr0 zqv zfu ib_sub ib_mul ib_quo ib_rem ib_eql ib_neq ib_lss ib_leq ib_gtr ib_geq zlz zm3 zm7 zlx zm1 zm5 zfv zfw zfx zly zm2 zm6 zlw zm0 zm4 mask1 mask2 mask3 mask4 mask5 mask6 mask7 mask8 mask12
  cellsOf z1z z3i z2j z7p zjv z9a z99 bnd z9d z9e z9c z60 knownN zaz z7n z9i aBox rCopy zcp List.length_cons List.length_nil Option.bind_none overw1 zo8 zob zo6 z15 zjr zjt zjs zju zjq zjo get_u8
  List.getElem?_cons_zero List.getElem?_cons_succ List.set_cons_zero List.set_cons_succ List.drop_zero Nat.add_zero Nat.zero_add
  zrm zrn List.drop_succ_cons List.take_succ_cons List.take_zero Nat.zero_mul Nat.mul_one true_and and_true eq_self List.take_of_length_le
  z8z zat z90 zas w_u8 zmd zme znd zrr zrt if_pos if_neg decide_eq_true decide_eq_false Int.toNat_natCast
attribute [go_sem low] un_xor zoa
/-- Slots that are kept in mind. -/
def z9g (O' O : Env) : List Nat -> Prop
  | [] => True
  | j :: l => O' j = O j /\ z9g O' O l
theorem zec (O : Env) : ∀ l, z9g O O l
  | [] => trivial
  | _ :: l => ⟨rfl, zec O l⟩
theorem zW.slots {C : Ctx} {n k : Nat} {ac : ACode} {Q : AExit -> Env -> Store -> Prop} {O : Env} {Y : Store} (l : List Nat) (h : ∀ O', z9g O' O l -> zW C n k ac Q O' Y) : zW C n k ac Q O Y := h O (zec O l)
attribute [go_sem] zl0 zl7 zky zl5 zl3 zl4 zl9 zl6 zkx zl8 zkz zl2 zkw zl1 z9g un_not un_neg rdS_s zqe zqg
attribute [go_sem high] zpz zkp zn7 zn9
attribute [go_sem low] wm_u8 wm_u16 z91 wm_u64
end Am
end Go.Proofs.YtjgljhbmljgaeaaDoor
end
section
/- THE ABSTRACT MACHINE, part 27: the store as_ a heap: what is read behind writes; methods told by properties. -/
namespace Go.Proofs.YtjgljhbmljgaeaaDoor
namespace Am
section
variable {α : Type} {l m : List α} {r s : Nat} {x : α}
theorem z2o (h : r < l.length) : (l.set r x)[r]? = some x := List.getElem?_set_self h
theorem z1g (h : r ≠ s) : (l.set r x)[s]? = l[s]? := List.getElem?_set_ne h
theorem gapp (h : r < l.length) : (l ++ m)[r]? = l[r]? := List.getElem?_append_left h
theorem z1l (h : l.length <= r) : (l ++ m)[r]? = m[r - l.length]? := List.getElem?_append_right h
theorem sappr (h : l.length <= r) : (l ++ m).set r x = l ++ m.set (r - l.length) x := List.set_append_right _ _ h
theorem sapp (h : r < l.length) : (l ++ m).set r x = l.set r x ++ m := List.set_append_left _ _ h
end
/-- What holds at a function's end, with nothing let go. -/
def zbx (ts : List RV) (P : AV -> Store -> Prop) : AExit -> Env -> Store -> Prop
  | .exit _ => fun _ _ => False
  | _ => fun O Y => oks O Y ts = true /\ P (retV ts O Y) Y
theorem ACallsP.of_keep {C : Ctx} {f : FuncId} {n : Nat} {ts : List RV} {ac : ACode} (hc : cFn C f = some (n, ts, ac)) {args : List AV} {Y : Store} {P : AV -> Store -> Prop} (hn : args.length <= n)
    (h : zW C n Y.length ac (zbx ts P) (z24 args) Y) : ACallsP C f args Y P := by
  simp only [cFn, Option.bind_eq_some_iff] at hc
  obtain ⟨fn, hf, hc⟩ := hc
  split at hc
  · cases hc
  · rename_i hname
    simp only [Option.bind_eq_some_iff, Option.map_eq_some_iff, Prod.mk.injEq] at hc
    obtain ⟨c, hb, ts', hts, ac', hac, rfl, rfl, rfl⟩ := hc
    intro Z w cargs hR ha
    left
    constructor
    · have hname' : (fn.name == "runtime.NumGoroutine") = false := by simpa using hname
      have h1 : fn.name ≠ "runtime.NumGoroutine" := by simpa using hname'
      simp [callFunc, hf, h1, hb]
    · have hl := ha.length
      refine calls_of_wp hf hb ?_
      have hw := h c hac Z w hR.gl hR.len Z { tmps := cargs.toArray ++ Array.replicate (fn.ntmps - cargs.toArray.size) undef, defers := [] } w (Step.refl _ _) hR
        (z85 ha _) (by simp; omega)
      refine wp_mono hw ?_
      rintro e a' w' ⟨ae, O', Y2, Z', rfl, hq, q1, q2, q3, q4, q5⟩
      have fin : (oks O' Y2 ts' = true /\ P (retV ts' O' Y2) Y2) -> a'.defers = [] /\ ∃ v_1, (results fn a'.tmps).run C.P w' = .ok v_1 w' /\ ∃ cv v Z' Y', Ending.returned v_1 = .returned cv /\ P v Y' /\ Step Z w Z' w' /\ Rel C Z' Y' w' /\ VR Z' w' v cv := by
        rintro ⟨hk, hp⟩
        obtain ⟨rv, r1, r2⟩ := z6z q2 q3 hts hk
        exact ⟨q4, _, r1, _, _, Z', Y2, rfl, hp, q1, q2, r2⟩
      cases ae with
      | normal => exact fin hq
      | exit id => exact hq.elim
      | ret => exact fin hq
attribute [go_sem] z2o z1g gapp zbx z43 not_true_eq_false not_false_eq_true decide_false decide_true List.set_set List.append_assoc z1l sapp sappr List.length_set Nat.sub_self Nat.add_sub_cancel_left List.length_append List.length_map
@[go_sem] def zZ0 : List AV := [.int .u8 0, .int .u8 0, .int .u8 0, .int .u8 0, .int .u8 0, .int .u8 0, .int .u8 0, .int .u8 0, .int .u8 0, .int .u8 0, .int .u8 0, .int .u8 0, .int .u8 0, .int .u8 0, .int .u8 0, .int .u8 0, .int .u8 0, .int .u8 0, .int .u8 0, .int .u8 0, .int .u8 0, .int .u8 0, .int .u8 0, .int .u8 0, .int .u8 0, .int .u8 0, .int .u8 0, .int .u8 0, .int .u8 0, .int .u8 0, .int .u8 0, .int .u8 0]
end Am
end Go.Proofs.YtjgljhbmljgaeaaDoor
end
section
/- THE ABSTRACT MACHINE, part 28: package-level tables that are laid: what a law's row says of them, as_ the machine's own knowledge. -/
namespace Go.Proofs.YtjgljhbmljgaeaaDoor
namespace Am
open Go.ChangeShapes Go.WideShapes Go.ChangeAt Go.RowKit
section
variable {H : Type} {enc : TypeId × Value -> H} {P : Program} {w : World}
/-- An array of numbers, by its datum. -/
theorem zmf {base : Nat} {spare : Nat -> Bool} {held : Bool} {fuel : Nat} {t e : TypeId} {n : Nat} {k : IntKind} {cs : List Value} {p : List MemPlace} (ns : List Int)
    (ht : P.underlying t = some (.array n e)) (he : P.underlying e = some (.int k)) (hc : P.cellsOf e = 1) (hct : P.cellsOf t = n)
    (h : DataW.trod enc P w base spare held fuel t cs = some (.agg (ns.map fun i => .lit (.int k i)), p)) : cs = ns.map (Value.int k) := by
  obtain ⟨xs, m, rfl, hx, hl, hn, hel⟩ := DataW.trod_array ht h
  simp only [Prod.mk.injEq, DataW.agg.injEq] at hx
  have hx1 := hx.1
  have hlen : ns.length = n := by
    have := congrArg List.length hx1
    simp only [List.length_map] at this
    omega
  rw [hct] at hl
  refine List.ext_getElem? fun i => ?_
  by_cases hi : i < n
  · have h1 := hel i hi
    rw [hc, Nat.mul_one] at h1
    obtain ⟨x, hxi⟩ : ∃ x, xs[i]? = some x := ⟨xs[i]'(by omega), List.getElem?_eq_getElem (by omega)⟩
    rw [hxi] at h1
    obtain ⟨v, e1, e2, _⟩ := DataW.trod_int he h1
    subst e2
    have h2 := congrArg (fun l => l[i]?) hx1
    simp only [List.getElem?_map, hxi, Option.map_some] at h2
    rw [List.getElem?_map]
    cases hns : ns[i]? with
    | none => rw [hns] at h2; simp at h2
    | some z =>
      rw [hns] at h2
      simp only [Option.map_some, Option.some.injEq, DataW.lit.injEq, Lit.int.injEq, true_and] at h2
      subst h2
      have h3 := congrArg (fun l => l[0]?) e1
      simp only [List.getElem?_take, List.getElem?_drop] at h3
      simpa using h3
  · rw [List.getElem?_eq_none (by omega), List.getElem?_eq_none (by simp; omega)]
theorem zql {n : String} {g : Nat} {cs : Array Value} (hg : P.globalNamed n = some g) (h : w.var? P n = some cs) : Imm [] w g /\ Seg w g 0 cs.toList := by
  unfold World.var? at h
  rw [hg, Option.bind_some] at h
  split at h
  · rename_i c ty fz hb
    simp only [Option.some.injEq] at h; subst h
    refine ⟨⟨?_, by simp⟩, c, ty, fz, [], [], hb, by simp, rfl⟩
    rcases Nat.lt_or_ge g w.heap.size with h2 | h2
    · exact h2
    · simp [Array.getElem?_eq_none h2] at hb
  · cases h
def u32C (ns : List Int) : List AV := ns.map (AV.int .u32)
theorem ze7 {Z : Places} {k : IntKind} : ∀ (ns : List Int), VRs Z w (ns.map (AV.int k)) (ns.map (Value.int k))
  | [] => VRs.nil
  | _ :: ns => VRs.cons ⟨VR.int, rfl⟩ (ze7 ns)
/-- A laid table of numbers, as_ the machine knows it. -/
theorem vp_of_var {n : String} {g : Nat} {t e : TypeId} {m : Nat} {k : IntKind} {g' : Nat} {t' : TypeId} {cs : Array Value} {fuel : Nat} {p : List MemPlace} (ns : List Int)
    (hg : P.globalNamed n = some g) (htg : (P.globals[g]?).map (·.type) = some t) (ht : P.underlying t = some (.array m e)) (he : P.underlying e = some (.int k)) (hc : P.cellsOf e = 1) (hct : P.cellsOf t = m)
    (k1 : P.globalNamed n = some g') (k2 : (P.globals[g']?).map (·.type) = some t') (k3 : w.var? P n = some cs)
    (k4 : DataW.trod enc P w 0 (fun _ => true) false fuel t' cs.toList = some (.agg (ns.map fun i => .lit (.int k i)), p)) : VR [] w (.vp (ns.map (AV.int k))) (.pointer (some ⟨g, 0, none⟩)) := by
  obtain rfl := Option.some.inj (hg.symm.trans k1)
  obtain rfl := Option.some.inj (htg.symm.trans k2)
  obtain ⟨h1, h2⟩ := zql hg k3
  rw [zmf ns ht he hc hct k4] at h2
  exact ⟨g, 0, _, rfl, h1, h2, ze7 ns⟩
theorem law_contract_at {C : Ctx} {f : FuncId} {fn : Func} {e : Nat × List RV × ACode} (hc : cFn C f = some e) {d : Nat} {tys : List Ty} (htys : z79 C.P d fn.params.toList = some tys)
    (hlaw : ∀ avs, z6f tys avs -> ACallsTo C f avs [] (.bool true) []) {s : ChangeSpec} (hvars : s.vars = [])
    (hspec : ∀ ds : List (DataW H), ds.length = fn.params.toList.length -> (s.fn H ds).results = [.lit (.bool true)] /\ (s.fn H ds).args = ds /\ (s.fn H ds).vars = []) {tb : TypeId} (hres : fn.resultTypes = #[tb]) (htb : C.P.underlying tb = some .bool)
    (hl : laidOutB C.P = true) (hpar : (fn.params.toList.all fun t => C.P.readableRec t && decide (t < C.P.types.size)) = true)
    {W : World} (hR : Rel C [] [] W) {base : Nat} {args : Array Value} {ds gs : List (DataW H)} {before : List MemPlace} (hval : ∀ (j : Nat) t v, fn.params[j]? = some t -> args[j]? = some v -> Value.okWide C.P W .any base t v)
    (hW : DataW.Whole enc C.P fn.params.toList s.vars false W args.toList ds gs before) :
    Calls C.P f args W fun e W' => ∃ v, e = .returned v /\ s.post enc C.P fn false true false false W args v W' := by
  have hW' := hW
  obtain ⟨p, q, hA, hV, rfl, hfz, hnd⟩ := hW
  obtain ⟨avs, h1, h2⟩ := zcg (r := .any) (b0 := base) htys (fun j t v hj hv => hval j t v (by simpa using hj) (by simpa using hv)) hA
  have hcall := (hlaw avs h2).calls hc hR h1
  have ea : args.toList.toArray = args := by simp
  rw [ea] at hcall
  refine hcall.mono ?_
  rintro x w' ⟨rfl, hb⟩
  refine ⟨_, rfl, zg9 hW' hvars (fun gs hgs => ?_) hres htb hl hpar hb⟩
  subst hgs
  rw [List.append_nil]
  exact hspec ds (zdq hA)
end
end Am
end Go.Proofs.YtjgljhbmljgaeaaDoor
end
section
/- The seat's program, for the abstract machine. -/
namespace Go.Proofs.YtjgljhbmljgaeaaDoor
namespace Am
def shaFirst : List Int := [1779033703, 3144134277, 1013904242, 2773480762, 1359893119, 2600822924, 528734635, 1541459225]
def shaRounds : List Int := [1116352408, 1899447441, 3049323471, 3921009573, 961987163, 1508970993, 2453635748, 2870763221, 3624381080, 310598401, 607225278, 1426881987, 1925078388, 2162078206, 2614888103, 3248222580, 3835390401, 4022224774, 264347078, 604807628, 770255983, 1249150122, 1555081692, 1996064986, 2554220882, 2821834349, 2952996808, 3210313671, 3336571891, 3584528711, 113926993, 338241895, 666307205, 773529912, 1294757372, 1396182291, 1695183700, 1986661051, 2177026350, 2456956037, 2730485921, 2820302411, 3259730800, 3345764771, 3516065817, 3600352804, 4094571909, 275423344, 430227734, 506948616, 659060556, 883997877, 958139571, 1322822218, 1537002063, 1747873779, 1955562222, 2024104815, 2227730452, 2361852424, 2428436474, 2756734187, 3204031479, 3329325298]
def zbn : List AV := shaFirst.map (AV.int .u32)
def gl_sha_rounds : List AV := shaRounds.map (AV.int .u32)
noncomputable def TC : Ctx := ⟨Tryd.prog, fun g => if g = 0 then some zbn else if g = 1 then some gl_sha_rounds else none⟩
theorem zct {k : Nat} {i : IntKind} : ∀ (l : List Int), RLs k (l.map (AV.int i))
  | [] => by simp [RLs]
  | _ :: l => by simp [RLs, RL]; exact zct l
theorem glok : GlOK TC := by
  intro g cs h
  simp only [TC] at h
  split at h
  · cases h; exact zct _
  · split at h
    · cases h; exact zct _
    · cases h
end Am
end Go.Proofs.YtjgljhbmljgaeaaDoor
end
section
/- slices.Backward over hashes: its iterator, walked once. -/
namespace Go.Proofs
open Go.RowKit Go.Shelf
attribute [local go_sem] Oper.semAt_some
theorem zsb {F : Fence} {n : Nat} {P : Program} {ops : Array Oper} {Q : Exit -> Act -> World -> Prop} {a : Act} {w : World} {rest : List Oper} {o : Oper} (t : TypeId) {x : Operand} {ad : Addr} {v : Value}
    (hg : o.guard = none) (hop : o.op = .load t x) (hl : (loadVar t ad).run P w = .ok v w) (hx : a.eval x = .pointer (some ad)) (h : wpListIn F n P ops Q rest (a.put o.dst v) w) : wpListIn F n P ops Q (o :: rest) a w := by
  refine wpListIn_plain hg fun K hK' => ?_
  unfold Oper.wpIn
  refine ⟨?_, ?_⟩
  · simp [Oper.about, hop]
  · rw [Oper.semAt_plain F _ _ (by rw [hop]; intro c hc'; cases hc')]
    have e : (execOp a.eval o).run P w = .ok (.value v) w := by
      simp only [execOp, hop, hx, Sem.run_bind, Instr.loadAt, Instr.sureAddr, Sem.run_pure, Result.andThen_ok, hl]
    rw [e]
    exact hK' _ _ h
set_option maxRecDepth 100000 in
set_option maxHeartbeats 2000000 in
theorem Tryd.back1_in (l B o0 N : Nat) (hN : N < 1000000) (J : Nat -> World -> Prop) (hd : ∀ j W, J j W -> J j W.drew)
    (hR : ∀ j W, J j W -> ∃ a cap, W.cell? ⟨B, o0, none⟩ = some (.slice a N cap) /\ (j < N -> ∃ (b o : Nat) (v : Value), a = some ⟨b, o, none⟩ /\ (loadVar 23 ⟨b, o + (N - 1 - j) * 32, none⟩).run Tryd.prog W = .ok v W ∧
      YieldAt Fence.wide 0 Tryd.prog l #[.int .i64 ((N : Int) - 1 - j), v] W fun e W' => e = .returned (.bool true) /\ J (j + 1) W'))
    (W : World) (h0 : J 0 W) :
    CallsIn Fence.wide 1 Tryd.prog 76 #[.func (.yield l) #[] #[], .pointer (some ⟨B, o0, none⟩)] W fun e W' => (∃ v, e = .returned v) /\ J N W' := by
  obtain ⟨a0, cap0, hc0, _⟩ := hR 0 W h0
  refine callsIn_of_wp Tryd.func76 rfl trivial ?_ rfl
  simp only [Tryd.ntmps76, List.size_toArray, List.length_cons, List.length_nil, Nat.reduceAdd, Nat.reduceSub, Array.replicate_succ, Array.replicate_zero, List.push_toArray, List.append_toArray, List.nil_append, List.cons_append]
  gi_wp2
  gi_loopw [3] (fun i wr => ∃ j : Nat, j <= N /\ i = .int .i64 ((N : Int) - 1 - j) /\ J j wr)
    (fun i _ => (intOf i + 1).toNat)
  case atStart => exact ⟨0, Nat.zero_le _, by simp, h0⟩
  case round =>
    obtain ⟨k, hk, rfl, hJs⟩ := hrel
    obtain ⟨a, cap, hc, hy⟩ := hR k wr hJs
    by_cases hlt : k < N
    · obtain ⟨b, o, v, rfl, hl, fn, tmps, assign, body, hy, hRd⟩ := hy hlt
      clear hR hd
      gi_wp2_with (refine zsb 23 rfl rfl hl rfl ?_)
      refine hRd.mono ?_
      rintro e W3 ⟨rfl, hJ3⟩
      gi_wp2
      go_roundw
      case rel => exact ⟨k + 1, by omega, by simp; omega, hJ3⟩
      case measure => simp [intOf]; omega
    · obtain rfl : k = N := by omega
      gi_wp2
      go_end0
      exact ⟨⟨_, rfl⟩, hJs⟩
end Go.Proofs
end
section
/- A range over slices.Backward of hashes. -/
namespace Go.Proofs.YtjgljhbmljgaeaaDoor
namespace Am
open Go.RowKit
set_option maxHeartbeats 2000000 in
theorem zpy {n k : Nat} {g : AX} {p0 p1 : Nat} {xa xb : ACode} {Q : AExit -> Env -> Store -> Prop} {O : Env} {Y : Store} {rB : Nat} {es : List (List AV)}
    (hg : g.ev O = .fn 76 [.ptr rB 0 0]) (hN : es.length < 1000000) (hp0 : p0 < n) (hp1 : p1 < n) (hu : ∀ e ∈ es, e.length = 32)
    (I : Nat -> Store -> Prop) (h0 : I 0 Y) (hbox : ∀ j Y', I j Y' -> ∃ x, Y'[rB]? = some (some [[x]]) /\ ((x = .nilsl /\ es = []) \/ ∃ ex, x = .vsl 32 es ex))
    (hround : ∀ (l j : Nat) (Y' : Store) (cs : List AV), I j Y' -> j < es.length -> es[es.length - 1 - j]? = some cs ->
      SWpI (some l) TC n Y'.length xa (z29 (fun O2 Y2 => SWpI (some l) TC n Y2.length xb (fun e _ Y3 => e = .normal /\ I (j + 1) Y3) O2 Y2) (fun _ _ _ => False))
        (upd (upd O p0 (.int .i64 ((es.length : Int) - 1 - j))) p1 (.agg cs)) Y')
    (hend : ∀ Y', I es.length Y' -> Q .normal O Y') : SWpD TC n k (.rangef g [p0, p1] xa xb) Q O Y := by
  intro c hc Z0 w0 hgl hk Z a w hst hR hE hn
  obtain ⟨go, ps, ca, cb, rfl, hgx, hps, ha, hb⟩ := zk1 hc
  have hpsA : ps = #[p0, p1] := by
    apply Array.ext'
    rw [hps]
  subst hpsA
  have hgv : VR Z w (.fn 76 [.ptr rB 0 0]) (a.eval go) := by
    have := z9v hR hE go
    rwa [<- z1a hgx, hg] at this
  simp only [VR, VRt] at hgv
  obtain ⟨vs, hge, _, _, rfl, ⟨fl, plB, hplB, rfl⟩, rfl⟩ := hgv
  refine wpIn_rangeFunc ?_
  intro fn hfn
  rw [Fence.wide_round]
  obtain ⟨rec, hrec⟩ : ∃ rec : LoopState -> Option Code -> Loop, rec = fun st pe => { state := st, pending := pe, fn, tmps := a.tmps, params := #[p0, p1], assign := ca, body := cb, defers := w.heap.size } := ⟨_, rfl⟩
  obtain ⟨W1, hW1⟩ : ∃ W1, (w.alloc (.deferred (some []))).alloc (.loop (rec .ready none)) = W1 := ⟨_, rfl⟩
  have hL1 : W1.heap[w.heap.size + 1]? = some (.loop (rec .ready none)) := by
    rw [<- hW1]; have := World.alloc_heap_new (w.alloc (.deferred (some []))) (.loop (rec .ready none)); rwa [World.size_alloc] at this
  have hK1 : W1.heap[w.heap.size]? = some (.deferred (some [])) := by
    rw [<- hW1]; exact (Below.heap_alloc _ _ _ (by simp)).trans (World.alloc_heap_new w _)
  have hbk1 : Book w W1 := by rw [<- hW1]; exact (Book.alloc w _).trans (Book.alloc _ _)
  have hlow1 : ∀ b, b < w.heap.size -> W1.heap[b]? = w.heap[b]? := fun b hb => by
    rw [<- hW1, Below.heap_alloc _ _ _ (by simp; omega), Below.heap_alloc _ _ _ hb]
  let J : Nat -> World -> Prop := fun j W => ∃ Z' Y', I j Y' /\ Step Z w Z' W /\ Rel TC Z' Y' W /\ W.heap[w.heap.size + 1]? = some (.loop (rec .ready none)) /\ W.heap[w.heap.size]? = some (.deferred (some []))
  have hJ0 : J 0 W1 := ⟨Z, Y, h0, (Step.refl Z w).book hbk1 hlow1, hR.book hbk1, hL1, hK1⟩
  have hJd : ∀ j W, J j W -> J j W.drew := by
    rintro j W ⟨Z', Y', i1, i2, i3, i4, i5⟩
    exact ⟨Z', Y', i1, i2.book (Book.drew W) (fun _ _ => rfl), i3.book (Book.drew W), i4, i5⟩
  refine ⟨w.heap.size + 1, [{ target := .collected w.heap.size, args := #[] }], W1, { target := .fn (.func 76) #[.pointer (some ⟨plB.b, plB.base + 0 * plB.esz + 0, none⟩)], args := #[.func (.yield (w.heap.size + 1)) #[] #[]] }, W1, 76,
    #[.func (.yield (w.heap.size + 1)) #[] #[], .pointer (some ⟨plB.b, plB.base + 0 * plB.esz + 0, none⟩)], W1, ?_, ?_, fun _ _ => trivial, ?_, fun h => by simp [Fence.wide] at h, ?_⟩
  · rw [<- hW1, hrec]; exact run_enterLoop_outer _ _ _ _ _
  · simp only [resolve, hge]
    simp [go_sem]
  · have eg : ∀ args w, (callFunc 76 args).run TC.P w = .ok (.enter 76 args) w := enters_of Tryd.func76 (by kernel_rfl) rfl
    simp [invoke, go_sem, eg]
  · refine (Tryd.back1_in (w.heap.size + 1) plB.b (plB.base + 0 * plB.esz + 0) es.length hN J hJd ?_ W1 hJ0).mono ?_
    · -- what is read, and a round
      rintro j W ⟨Z', Y', i1, i2, i3, i4, i5⟩
      obtain ⟨x, hx, hxs⟩ := hbox j Y' i1
      obtain ⟨pl, hpl, hok⟩ := i3.alive rB _ hx
      obtain ⟨fl', hkp⟩ := i2.keep rB fl plB hplB
      rw [hpl] at hkp; cases hkp
      obtain ⟨vals, hsg, hvs⟩ := hok.elem (i := 0) (cs := [x]) rfl
      simp only [VRs] at hvs
      obtain ⟨v, _, rfl, ⟨hv, _⟩, rfl⟩ := hvs
      have hcell := hsg.cell (j := 0) (v := v) rfl
      rcases hxs with ⟨rfl, rfl⟩ | ⟨ex, rfl⟩
      · simp only [VR] at hv
        subst hv
        exact ⟨none, 0, hcell, fun h => by simp at h⟩
      · simp only [VR] at hv
        rcases hv with ⟨rfl, ad, rfl⟩ | ⟨b, o, cap, vals, rfl, q2, q3, q4, q5, q6, q7⟩
        · exact ⟨some ad, 0, hcell, fun h => by simp at h⟩
        · refine ⟨some ⟨b, o, none⟩, cap, hcell, fun hj => ?_⟩
          have hi : es.length - 1 - j < es.length := by omega
          obtain ⟨A, ev, B, rfl, e2, e3⟩ := q7.elem hu (List.getElem?_eq_getElem hi)
          have hseg : Seg W b (o + (es.length - 1 - j) * 32) ev := by
            obtain ⟨c, ty, fz, pre, post, s1, s2, s3⟩ := q5
            exact ⟨c, ty, fz, pre ++ A, B ++ post, s1, by rw [s2]; simp [List.append_assoc], by rw [List.length_append, s3, e2]⟩
          have hel : (es[es.length - 1 - j]).length = 32 := hu _ (List.getElem_mem hi)
          obtain ⟨cv, hrun, hcv⟩ := zd4 (C := TC) (t := 23) (off := 0) (n := 32) (ag := true) (a := .agg es[es.length - 1 - j]) (by kernel_rfl) (by kernel_rfl) hseg e3 (by
            unfold z2l
            rw [if_pos rfl, if_pos (by omega), List.drop_zero, List.take_of_length_le (by omega)])
          refine ⟨b, o, cv, rfl, hrun, ?_⟩
          have hy := run_yield (P := Tryd.prog) (args := #[.int .i64 ((es.length : Int) - 1 - j), cv]) i4 (by rw [hrec]; rfl)
          rw [hrec] at hy
          have hz : ((#[p0, p1] : Array Nat).zip #[Value.int .i64 ((es.length : Int) - 1 - j), cv]).foldl (fun tmps (x : Nat × Value) => match x with | (t, a) => tmps.setIfInBounds t a) a.tmps = (a.tmps.setIfInBounds p0 (.int .i64 ((es.length : Int) - 1 - j))).setIfInBounds p1 cv := by simp
          dsimp only at hy
          rw [hz] at hy
          refine ⟨fn, _, ca, cb, hy, roundIn_of_wpIn trivial ?_⟩
          have hEj : EnvR Z' W O a.tmps := hE.mono i2
          have hE2 : EnvR Z' W (upd (upd O p0 (.int .i64 ((es.length : Int) - 1 - j))) p1 (.agg es[es.length - 1 - j])) ((a.tmps.setIfInBounds p0 (.int .i64 ((es.length : Int) - 1 - j))).setIfInBounds p1 cv) := by
            have e1 := EnvR.put (a := a) hEj (d := some p0) (v := .int .i64 ((es.length : Int) - 1 - j)) (cv := .int .i64 ((es.length : Int) - 1 - j)) (by rintro x ⟨⟩; rw [hn]; exact hp0) (by simp only [VR])
            have e2 := EnvR.put (a := a.put (some p0) (.int .i64 ((es.length : Int) - 1 - j))) e1 (d := some p1) (cv := cv) (by rintro x ⟨⟩; simp [Act.put, hn, hp1]) hcv
            exact e2
          refine wpIn_mono ((hround (w.heap.size + 1) j Y' _ i1 hj (List.getElem?_eq_getElem hi)) ca ha 0 Z' W i3.gl i3.len Z' { tmps := (a.tmps.setIfInBounds p0 (.int .i64 ((es.length : Int) - 1 - j))).setIfInBounds p1 cv, defers := [] } W (Step.refl _ _) i3 hE2 (by simp [hn])) ?_
          rintro e a2 w2 ⟨ae, O2, Y2, Z2, rfl, hq, t1, t2, t3, t4, t5⟩
          cases ae with
          | exit id => exact hq.elim
          | ret => exact hq.elim
          | normal =>
            have l2 := t1.other i3 i4 rfl
            have d2 := t1.other i3 i5 rfl
            have S2 := i2.trans t1
            have bk2 := Book.putObj (.loop { rec .ready none with state := .busy }) l2 rfl
            refine ⟨_, run_beginRound l2 (by rw [hrec]), ?_⟩
            have R2 := t2.book bk2
            have E2 : EnvR Z2 (w2.putObj (w.heap.size + 1) (.loop { rec .ready none with state := .busy })) O2 a2.tmps := fun t => VR.book bk2 _ _ (t3 t)
            have S2' := S2.book bk2 fun b hb => World.putObj_heap_other (by omega)
            have hlt2 : w.heap.size + 1 < w2.heap.size := (Array.getElem?_eq_some_iff.1 l2).1
            have l3 : (w2.putObj (w.heap.size + 1) (.loop { rec .ready none with state := .busy })).heap[w.heap.size + 1]? = some (.loop { rec .ready none with state := .busy }) := World.putObj_heap_same hlt2
            have d3 : (w2.putObj (w.heap.size + 1) (.loop { rec .ready none with state := .busy })).heap[w.heap.size]? = some (.deferred (some [])) := (World.putObj_heap_other (by omega)).trans d2
            refine wpIn_mono (hq cb hb 0 Z2 _ R2.gl R2.len Z2 a2 _ (Step.refl _ _) R2 E2 t5) ?_
            rintro e a3 w3 ⟨ae, O3, Y3, Z3, rfl, ⟨rfl, hI⟩, u1, u2, u3, u4, u5⟩
            have l4 := u1.other R2 l3 rfl
            have d4 := u1.other R2 d3 rfl
            have S3 := S2'.trans u1
            have bk3 := Book.putObj (.loop (rec .ready none)) l4 rfl
            have hend := run_endRound (P := Tryd.prog) none l4
            refine ⟨_, _, hend, rfl, Z3, Y3, hI, ?_, ?_, ?_, ?_⟩
            · exact S3.book (by simpa [hrec] using bk3) fun b hb => World.putObj_heap_other (by omega)
            · exact u2.book (by simpa [hrec] using bk3)
            · rw [World.putObj_heap_same (Array.getElem?_eq_some_iff.1 l4).1, hrec]; rfl
            · exact (World.putObj_heap_other (by omega)).trans d4
    · -- behind the iterator
      rintro e W2 ⟨⟨v, rfl⟩, Z', Y', i1, i2, i3, i4, i5⟩
      have hel := run_endLoop (P := Tryd.prog) i4 (by rw [hrec]; simp)
      refine ⟨none, _, by rw [hrec] at hel; exact hel, ?_⟩
      refine ⟨.normal, O, Y', Z', rfl, hend Y' i1, (hst.trans i2).book (Book.putObj _ i4 rfl) fun b hb => World.putObj_heap_other (by have := hst.size; omega), i3.book (Book.putObj _ i4 rfl), fun t => VR.book (Book.putObj _ i4 rfl) _ _ ((hE.mono i2) t), .inr ⟨w.heap.size, hst.size, rfl, (World.putObj_heap_other (by omega)).trans i5⟩, hn⟩
end Am
end Go.Proofs.YtjgljhbmljgaeaaDoor
end
section
/- The abstract code of the functions on bits. (Printed by wip/gen.) -/
namespace Go.Proofs.YtjgljhbmljgaeaaDoor
namespace Am
@[go_sem] def q0r0 : List AIns := [
  ⟨some 4,none,.no,.mv (.v (.str []))⟩]
@[go_sem] def q0r1 : List AIns := [
  ⟨some 7,none,.no,.mv (.t 1)⟩,
  ⟨some 8,none,.no,.bin .lss .none (.t 7) (.v (.int .i64 1))⟩,
  ⟨some 9,none,.no,.mv (.t 8)⟩,
  ⟨some 10, some (9, false), .no, .mv (.t 1)⟩,
  ⟨some 11, some (9, false), .no, .bin .gtr .none (.t 10) (.v (.int .i64 8))⟩,
  ⟨some 12,none,.no,.pick (.t 9) (.v (.bool true)) (.t 11)⟩]
@[go_sem] def q0r2 : List AIns := [
  ⟨some 4,none,.no,.mv (.v (.str []))⟩]
def q0c3 : ACode := .seq (.reg q0r2) .ret
def q0c4 : ACode := .cond (.t 12) q0c3 .skip
def q0c5 : ACode := .seq (.reg q0r1) q0c4
@[go_sem] def q0r6 : List AIns := [
  ⟨some 13,none,.no,.mv (.t 1)⟩,
  ⟨some 14,none,.no,.make 1 [(.int .u8 0)] (.t 13) (.t 13)⟩,
  ⟨some 5,none,.no,.mv (.t 14)⟩]
@[go_sem] def q0r7 : List AIns := [
  ⟨some 15,none,.no,.mv (.t 1)⟩,
  ⟨some 16,none,.no,.mv (.v (.int .i64 0))⟩]
@[go_sem] def q0r8 : List AIns := [
  ⟨some 17,none,.no,.bin .lss .none (.t 16) (.t 15)⟩]
@[go_sem] def q0r9 : List AIns := [
  ⟨some 18,none,.no,.mv (.t 16)⟩,
  ⟨some 6,none,.no,.mv (.t 18)⟩]
@[go_sem] def q0r10 : List AIns := [
  ⟨some 19,none,.no,.mv (.t 5)⟩,
  ⟨some 20,none,.no,.mv (.t 1)⟩,
  ⟨some 21,none,.no,.bin .sub .none (.t 20) (.v (.int .i64 1))⟩,
  ⟨some 22,none,.no,.mv (.t 6)⟩,
  ⟨some 23,none,.no,.bin .sub .none (.t 21) (.t 22)⟩,
  ⟨some 24,none,.no,.mv (.t 0)⟩,
  ⟨some 25,none,.no,.conv (.int .u8) (.t 24)⟩,
  ⟨some 26,none,.no,.iaSl 1 (.t 19) (.t 23)⟩,
  ⟨none,none,.no,.store 1 (.t 26) (.t 25)⟩]
@[go_sem] def q0r11 : List AIns := [
  ⟨some 27,none,.no,.mv (.t 0)⟩,
  ⟨some 28,none,.no,.bin .shr .none (.t 27) (.v (.int .u64 8))⟩,
  ⟨some 0,none,.no,.mv (.t 28)⟩]
def q0c12 : ACode := .seq (.reg q0r10) (.reg q0r11)
def q0c13 : ACode := .seq (.reg q0r9) q0c12
@[go_sem] def q0r14 : List AIns := [
  ⟨some 29,none,.no,.bin .add .none (.t 16) (.v (.int .i64 1))⟩,
  ⟨some 16,none,.no,.mv (.t 29)⟩]
def q0c15 : ACode := .seq (.block 1 q0c13) (.reg q0r14)
def q0c16 : ACode := .seq (.cond (.t 17) .skip (.exit 0)) q0c15
def q0c17 : ACode := .seq (.reg q0r8) q0c16
def q0c18 : ACode := .loop q0c17
def q0c19 : ACode := .block 0 q0c18
def q0c20 : ACode := .seq (.reg q0r7) q0c19
@[go_sem] def q0r21 : List AIns := [
  ⟨some 30,none,.no,.mv (.t 5)⟩,
  ⟨some 31,none,.no,.conv .str (.t 30)⟩,
  ⟨some 4,none,.no,.mv (.t 31)⟩]
def q0c22 : ACode := .seq (.reg q0r21) .ret
def q0c23 : ACode := .seq q0c20 q0c22
def q0c24 : ACode := .seq (.reg q0r6) q0c23
def q0c25 : ACode := .seq q0c5 q0c24
def q0c26 : ACode := .seq (.reg q0r0) q0c25
theorem q0ok : cFn TC 61 = some (32, [.t 4], q0c26) := by kernel_rfl

@[go_sem] def q1r0 : List AIns := [
  ⟨some 4,none,.no,.mv (.v (.int .u32 0))⟩]
@[go_sem] def q1r1 : List AIns := [
  ⟨some 5,none,.no,.mv (.t 0)⟩,
  ⟨some 6,none,.no,.mv (.t 1)⟩,
  ⟨some 7,none,.no,.bin .rem .none (.t 6) (.v (.int .i64 32))⟩,
  ⟨some 8,none,.no,.un .neg (.t 7)⟩,
  ⟨some 9,none,.no,.call (.v (.fn 99 [])) [(.t 5), (.t 8)]⟩,
  ⟨some 4,none,.no,.mv (.t 9)⟩]
def q1c2 : ACode := .seq (.reg q1r1) .ret
def q1c3 : ACode := .seq (.reg q1r0) q1c2
theorem q1ok : cFn TC 87 = some (10, [.t 4], q1c3) := by kernel_rfl

@[go_sem] def q2r0 : List AIns := [
  ⟨some 2,none,.no,.mv (.v (.int .i64 0))⟩]
@[go_sem] def q2r1 : List AIns := [
  ⟨some 3,none,.no,.mv (.t 0)⟩,
  ⟨some 4,none,.no,.minmax true (.t 3) (.v (.int .i64 0))⟩,
  ⟨some 5,none,.no,.conv (.int .u64) (.t 4)⟩,
  ⟨some 6,none,.no,.call (.v (.fn 90 [])) [(.t 5)]⟩,
  ⟨some 2,none,.no,.mv (.t 6)⟩]
def q2c2 : ACode := .seq (.reg q2r1) .ret
def q2c3 : ACode := .seq (.reg q2r0) q2c2
theorem q2ok : cFn TC 75 = some (7, [.t 2], q2c3) := by kernel_rfl

@[go_sem] def q3r0 : List AIns := [
  ⟨some 4,none,.no,.mv (.v (.int .i64 0))⟩]
@[go_sem] def q3r1 : List AIns := [
  ⟨some 5,none,.no,.mv (.t 1)⟩,
  ⟨some 6,none,.no,.bin .lss .none (.t 5) (.v (.int .i64 0))⟩,
  ⟨some 7,none,.no,.mv (.t 6)⟩,
  ⟨some 8, some (7, false), .no, .mv (.t 1)⟩,
  ⟨some 9, some (7, false), .no, .bin .quo .none (.t 8) (.v (.int .i64 8))⟩,
  ⟨some 10, some (7, false), .no, .mv (.t 0)⟩,
  ⟨some 11, some (7, false), .no, .lenStr (.t 10)⟩,
  ⟨some 12, some (7, false), .no, .bin .geq .none (.t 9) (.t 11)⟩,
  ⟨some 13,none,.no,.pick (.t 7) (.v (.bool true)) (.t 12)⟩]
@[go_sem] def q3r2 : List AIns := [
  ⟨some 4,none,.no,.mv (.v (.int .i64 0))⟩]
def q3c3 : ACode := .seq (.reg q3r2) .ret
def q3c4 : ACode := .cond (.t 13) q3c3 .skip
def q3c5 : ACode := .seq (.reg q3r1) q3c4
@[go_sem] def q3r6 : List AIns := [
  ⟨some 14,none,.no,.mv (.t 0)⟩,
  ⟨some 15,none,.no,.mv (.t 1)⟩,
  ⟨some 16,none,.no,.bin .quo .none (.t 15) (.v (.int .i64 8))⟩,
  ⟨some 17,none,.no,.ixStr (.t 14) (.t 16)⟩,
  ⟨some 18,none,.no,.mv (.t 1)⟩,
  ⟨some 19,none,.no,.bin .rem .none (.t 18) (.v (.int .i64 8))⟩,
  ⟨some 20,none,.no,.bin .sub .none (.v (.int .i64 7)) (.t 19)⟩,
  ⟨some 21,none,.no,.bin .shr .none (.t 17) (.t 20)⟩,
  ⟨some 22,none,.no,.bin .and .none (.t 21) (.v (.int .u8 1))⟩,
  ⟨some 23,none,.no,.conv (.int .i64) (.t 22)⟩,
  ⟨some 4,none,.no,.mv (.t 23)⟩]
def q3c7 : ACode := .seq (.reg q3r6) .ret
def q3c8 : ACode := .seq q3c5 q3c7
def q3c9 : ACode := .seq (.reg q3r0) q3c8
theorem q3ok : cFn TC 77 = some (24, [.t 4], q3c9) := by kernel_rfl

@[go_sem] def q4r0 : List AIns := [
  ⟨some 2,none,.no,.mv (.v (.int .u64 0))⟩]
@[go_sem] def q4r1 : List AIns := [
  ⟨some 3,none,.no,.mv (.v (.int .u64 0))⟩]
@[go_sem] def q4r2 : List AIns := [
  ⟨some 5,none,.no,.mv (.t 0)⟩,
  ⟨some 6,none,.no,.lenStr (.t 5)⟩,
  ⟨some 7,none,.no,.minmax false (.t 6) (.v (.int .i64 8))⟩,
  ⟨some 8,none,.no,.mv (.v (.int .i64 0))⟩]
@[go_sem] def q4r3 : List AIns := [
  ⟨some 9,none,.no,.bin .lss .none (.t 8) (.t 7)⟩]
@[go_sem] def q4r4 : List AIns := [
  ⟨some 10,none,.no,.mv (.t 8)⟩,
  ⟨some 4,none,.no,.mv (.t 10)⟩]
@[go_sem] def q4r5 : List AIns := [
  ⟨some 11,none,.no,.mv (.t 3)⟩,
  ⟨some 12,none,.no,.bin .shl .none (.t 11) (.v (.int .u64 8))⟩,
  ⟨some 13,none,.no,.mv (.t 0)⟩,
  ⟨some 14,none,.no,.mv (.t 4)⟩,
  ⟨some 15,none,.no,.ixStr (.t 13) (.t 14)⟩,
  ⟨some 16,none,.no,.conv (.int .u64) (.t 15)⟩,
  ⟨some 17,none,.no,.bin .add .none (.t 12) (.t 16)⟩,
  ⟨some 3,none,.no,.mv (.t 17)⟩]
def q4c6 : ACode := .seq (.reg q4r4) (.reg q4r5)
@[go_sem] def q4r7 : List AIns := [
  ⟨some 18,none,.no,.bin .add .none (.t 8) (.v (.int .i64 1))⟩,
  ⟨some 8,none,.no,.mv (.t 18)⟩]
def q4c8 : ACode := .seq (.block 1 q4c6) (.reg q4r7)
def q4c9 : ACode := .seq (.cond (.t 9) .skip (.exit 0)) q4c8
def q4c10 : ACode := .seq (.reg q4r3) q4c9
def q4c11 : ACode := .loop q4c10
def q4c12 : ACode := .block 0 q4c11
def q4c13 : ACode := .seq (.reg q4r2) q4c12
@[go_sem] def q4r14 : List AIns := [
  ⟨some 19,none,.no,.mv (.t 3)⟩,
  ⟨some 2,none,.no,.mv (.t 19)⟩]
def q4c15 : ACode := .seq (.reg q4r14) .ret
def q4c16 : ACode := .seq q4c13 q4c15
def q4c17 : ACode := .seq (.reg q4r1) q4c16
def q4c18 : ACode := .seq (.reg q4r0) q4c17
theorem q4ok : cFn TC 98 = some (20, [.t 2], q4c18) := by kernel_rfl

@[go_sem] def q5r0 : List AIns := [
  ⟨some 4,none,.no,.mv (.v (.int .u32 0))⟩]
@[go_sem] def q5r1 : List AIns := [
  ⟨some 6,none,.no,.mv (.t 1)⟩,
  ⟨some 7,none,.no,.conv (.int .u64) (.t 6)⟩,
  ⟨some 8,none,.no,.bin .and .none (.t 7) (.v (.int .u64 31))⟩,
  ⟨some 5,none,.no,.mv (.t 8)⟩]
@[go_sem] def q5r2 : List AIns := [
  ⟨some 9,none,.no,.mv (.t 0)⟩,
  ⟨some 10,none,.no,.mv (.t 5)⟩,
  ⟨some 11,none,.no,.bin .shl .none (.t 9) (.t 10)⟩,
  ⟨some 12,none,.no,.mv (.t 0)⟩,
  ⟨some 13,none,.no,.mv (.t 5)⟩,
  ⟨some 14,none,.no,.bin .sub .none (.v (.int .u64 32)) (.t 13)⟩,
  ⟨some 15,none,.no,.bin .shr .none (.t 12) (.t 14)⟩,
  ⟨some 16,none,.no,.bin .or .none (.t 11) (.t 15)⟩,
  ⟨some 4,none,.no,.mv (.t 16)⟩]
def q5c3 : ACode := .seq (.reg q5r2) .ret
def q5c4 : ACode := .seq (.reg q5r1) q5c3
def q5c5 : ACode := .seq (.reg q5r0) q5c4
theorem q5ok : cFn TC 99 = some (17, [.t 4], q5c5) := by kernel_rfl

@[go_sem] def q6r0 : List AIns := [
  ⟨some 2,none,.no,.mv (.v (.int .i64 0))⟩]
@[go_sem] def q6r1 : List AIns := [
  ⟨some 3,none,.no,.mv (.t 0)⟩,
  ⟨some 4,none,.no,.conv (.int .u32) (.t 3)⟩,
  ⟨some 5,none,.no,.call (.v (.fn 100 [])) [(.t 4)]⟩,
  ⟨some 2,none,.no,.mv (.t 5)⟩]
def q6c2 : ACode := .seq (.reg q6r1) .ret
@[go_sem] def q6r3 : List AIns := [
  ⟨some 6,none,.no,.mv (.t 0)⟩,
  ⟨some 7,none,.no,.call (.v (.fn 101 [])) [(.t 6)]⟩,
  ⟨some 2,none,.no,.mv (.t 7)⟩]
def q6c4 : ACode := .seq (.reg q6r3) .ret
def q6c5 : ACode := .seq (.cond (.v (.bool false)) q6c2 .skip) q6c4
def q6c6 : ACode := .seq (.reg q6r0) q6c5
theorem q6ok : cFn TC 90 = some (8, [.t 2], q6c6) := by kernel_rfl

@[go_sem] def q7r0 : List AIns := [
  ⟨some 2,none,.no,.mv (.v (.int .i64 0))⟩]
@[go_sem] def q7r1 : List AIns := [
  ⟨some 3,none,.no,.mv (.t 0)⟩,
  ⟨some 4,none,.no,.bin .shr .none (.t 3) (.v (.int .u64 1))⟩,
  ⟨some 5,none,.no,.bin .and .none (.t 4) (.v (.int .u64 6148914691236517205))⟩,
  ⟨some 6,none,.no,.mv (.t 0)⟩,
  ⟨some 7,none,.no,.bin .and .none (.t 6) (.v (.int .u64 6148914691236517205))⟩,
  ⟨some 8,none,.no,.bin .add .none (.t 5) (.t 7)⟩,
  ⟨some 0,none,.no,.mv (.t 8)⟩]
@[go_sem] def q7r2 : List AIns := [
  ⟨some 9,none,.no,.mv (.t 0)⟩,
  ⟨some 10,none,.no,.bin .shr .none (.t 9) (.v (.int .u64 2))⟩,
  ⟨some 11,none,.no,.bin .and .none (.t 10) (.v (.int .u64 3689348814741910323))⟩,
  ⟨some 12,none,.no,.mv (.t 0)⟩,
  ⟨some 13,none,.no,.bin .and .none (.t 12) (.v (.int .u64 3689348814741910323))⟩,
  ⟨some 14,none,.no,.bin .add .none (.t 11) (.t 13)⟩,
  ⟨some 0,none,.no,.mv (.t 14)⟩]
@[go_sem] def q7r3 : List AIns := [
  ⟨some 15,none,.no,.mv (.t 0)⟩,
  ⟨some 16,none,.no,.bin .shr .none (.t 15) (.v (.int .u64 4))⟩,
  ⟨some 17,none,.no,.mv (.t 0)⟩,
  ⟨some 18,none,.no,.bin .add .none (.t 16) (.t 17)⟩,
  ⟨some 19,none,.no,.bin .and .none (.t 18) (.v (.int .u64 1085102592571150095))⟩,
  ⟨some 0,none,.no,.mv (.t 19)⟩]
@[go_sem] def q7r4 : List AIns := [
  ⟨some 20,none,.no,.mv (.t 0)⟩,
  ⟨some 21,none,.no,.mv (.t 0)⟩,
  ⟨some 22,none,.no,.bin .shr .none (.t 21) (.v (.int .u64 8))⟩,
  ⟨some 23,none,.no,.bin .add .none (.t 20) (.t 22)⟩,
  ⟨some 0,none,.no,.mv (.t 23)⟩]
@[go_sem] def q7r5 : List AIns := [
  ⟨some 24,none,.no,.mv (.t 0)⟩,
  ⟨some 25,none,.no,.mv (.t 0)⟩,
  ⟨some 26,none,.no,.bin .shr .none (.t 25) (.v (.int .u64 16))⟩,
  ⟨some 27,none,.no,.bin .add .none (.t 24) (.t 26)⟩,
  ⟨some 0,none,.no,.mv (.t 27)⟩]
@[go_sem] def q7r6 : List AIns := [
  ⟨some 28,none,.no,.mv (.t 0)⟩,
  ⟨some 29,none,.no,.mv (.t 0)⟩,
  ⟨some 30,none,.no,.bin .shr .none (.t 29) (.v (.int .u64 32))⟩,
  ⟨some 31,none,.no,.bin .add .none (.t 28) (.t 30)⟩,
  ⟨some 0,none,.no,.mv (.t 31)⟩]
@[go_sem] def q7r7 : List AIns := [
  ⟨some 32,none,.no,.mv (.t 0)⟩,
  ⟨some 33,none,.no,.conv (.int .i64) (.t 32)⟩,
  ⟨some 34,none,.no,.bin .and .none (.t 33) (.v (.int .i64 127))⟩,
  ⟨some 2,none,.no,.mv (.t 34)⟩]
def q7c8 : ACode := .seq (.reg q7r7) .ret
def q7c9 : ACode := .seq (.reg q7r6) q7c8
def q7c10 : ACode := .seq (.reg q7r5) q7c9
def q7c11 : ACode := .seq (.reg q7r4) q7c10
def q7c12 : ACode := .seq (.reg q7r3) q7c11
def q7c13 : ACode := .seq (.reg q7r2) q7c12
def q7c14 : ACode := .seq (.reg q7r1) q7c13
def q7c15 : ACode := .seq (.reg q7r0) q7c14
theorem q7ok : cFn TC 101 = some (35, [.t 2], q7c15) := by kernel_rfl

end Am
end Go.Proofs.YtjgljhbmljgaeaaDoor
end
section
/- Functions on bits: what runs on given values. -/
namespace Go.Proofs.YtjgljhbmljgaeaaDoor
namespace Am
end Am
end Go.Proofs.YtjgljhbmljgaeaaDoor
end
section
/- Functions on bits: contracts. -/
namespace Go.Proofs.YtjgljhbmljgaeaaDoor
namespace Am

theorem and31 (k : Int) : IntKind.u64.wrap ((BitVec.ofInt IntKind.u64.bits (IntKind.u64.wrap k) &&& BitVec.ofInt IntKind.u64.bits 31).toNat : Int) = ((k % 32).toNat : Int) := by
  rw [u_nat (by rfl), BitVec.toNat_and]
  have h1 : (BitVec.ofInt IntKind.u64.bits 31).toNat = 2 ^ 5 - 1 := by decide
  have h2 : ((BitVec.ofInt IntKind.u64.bits (IntKind.u64.wrap k)).toNat : Int) = k % 18446744073709551616 := by
    rw [BitVec.toNat_ofInt, zaw (by rfl)]
    simp only [IntKind.bits]
    omega
  rw [h1, Nat.and_two_pow_sub_one_eq_mod]
  omega
theorem zs4 (x : BitVec 32) : IntKind.u32.wrap (x.toNat : Int) = x.toNat := u_nat (k := .u32) (by rfl) x
theorem rot_or (x : BitVec 32) (s : Nat) (hs : s < 32) :
    IntKind.u32.wrap ((BitVec.ofInt 32 (IntKind.u32.wrap ((x.toNat : Int) * 2 ^ min s 32)) ||| BitVec.ofInt 32 ((x.toNat : Int).fdiv (2 ^ min (32 - s) 32))).toNat : Int) = ((x.rotateLeft s).toNat : Int) := by
  rw [zs4]
  have h1 : BitVec.ofInt 32 (IntKind.u32.wrap ((x.toNat : Int) * 2 ^ min s 32)) = x <<< s := by
    apply BitVec.eq_of_toNat_eq
    rw [BitVec.toNat_ofInt, zaw (by rfl), Nat.min_eq_left (by omega), BitVec.toNat_shiftLeft, Nat.shiftLeft_eq]
    simp only [IntKind.bits]
    have : ((x.toNat : Int) * 2 ^ s) = ((x.toNat * 2 ^ s : Nat) : Int) := by simp
    rw [this]
    omega
  have h2 : BitVec.ofInt 32 ((x.toNat : Int).fdiv (2 ^ min (32 - s) 32)) = x >>> (32 - s) := by
    apply BitVec.eq_of_toNat_eq
    have hx := x.isLt
    rw [BitVec.toNat_ofInt, Nat.min_eq_left (by omega), BitVec.toNat_ushiftRight, Nat.shiftRight_eq_div_pow, Int.fdiv_eq_ediv_of_nonneg _ (by exact_mod_cast Nat.zero_le _)]
    have : ((x.toNat : Int) / 2 ^ (32 - s)) = ((x.toNat / 2 ^ (32 - s) : Nat) : Int) := by simp
    rw [this]
    have h3 : x.toNat / 2 ^ (32 - s) <= x.toNat := Nat.div_le_self _ _
    generalize x.toNat / 2 ^ (32 - s) = y at *
    omega
  rw [h1, h2, BitVec.rotateLeft_def]
  simp only [Nat.mod_eq_of_lt hs]
theorem zjk (Y : Store) (x : BitVec 32) (k : Int) : ACallsTo TC 99 [.int .u32 x.toNat, .int .i64 k] Y (.int .u32 (x.rotateLeft (k % 32).toNat).toNat) Y := by
  refine ACallsTo.of_body q5ok (by simp) fun hw _ => ?_
  have hs : (k % 32).toNat < 32 := by omega
  generalize hk : (k % 32).toNat = s at *
  have h31 := and31 k
  rw [hk] at h31
  have e1 : ¬ ((s : Int) < 0) := by omega
  have e2 : IntKind.u64.wrap (32 - (s : Int)) = ((32 - s : Nat) : Int) := by
    rw [zaw (by rfl)]; simp only [IntKind.bits]; omega
  have e3 : ¬ (((32 - s : Nat) : Int) < 0) := by omega
  unfold q5c5
  refine zW.seqReg ?_
  simp only [q5r0, z45, z38, z41, z42, z57, z58, z40, z3z, z21, z1b, AOp.run, AX.ev, putE, upd, z24, Option.map_some, Option.bind_some, Option.map_none, rBin, rEq, zy, z1e, z2s, eqOp, aUn, aMin, z2p, z2k, z3e, z3d, z2u, rFa, rFld, z3b, z3c, z1j, z2t, z12, z29, blkQ, endQ, retV, oks, RV.ok, RV.val, Bool.and_true, Bool.true_and, List.map_cons, List.map_nil, List.getD_cons_zero, List.getD_cons_succ, List.getD_nil, if_true, if_false, ite_true, ite_false, reduceCtorEq, Nat.reduceEqDiff, Nat.reduceAdd, Bool.false_eq_true, Bool.true_eq_false, beq_true, beq_false, Bool.not_true, Bool.not_false, BEq.rfl, beq_self_eq_true, List.nil_append, List.cons_append, List.append_nil, z4u, z4w, z47, z4a, z4b, z4p, z4q, z4y, z4v, z49, z4z, z4d, z4t, z4r, z4x, z4g, z4h, z4i, z4j, z4k, z4l, z4f, z4o, z4n, z4m, z48, z4e, z4c, z4s, getElem?_app, getElem?_app0, z3u, z55]
  unfold q5c4
  refine zW.seqReg ?_
  simp only [q5r1, z45, z38, z41, z42, z57, z58, z40, z3z, z21, z1b, AOp.run, AX.ev, putE, upd, z24, Option.map_some, Option.bind_some, Option.map_none, rBin, rEq, zy, z1e, z2s, eqOp, aUn, aMin, z2p, z2k, z3e, z3d, z2u, rFa, rFld, z3b, z3c, z1j, z2t, z12, z29, blkQ, endQ, retV, oks, RV.ok, RV.val, Bool.and_true, Bool.true_and, List.map_cons, List.map_nil, List.getD_cons_zero, List.getD_cons_succ, List.getD_nil, if_true, if_false, ite_true, ite_false, reduceCtorEq, Nat.reduceEqDiff, Nat.reduceAdd, Bool.false_eq_true, Bool.true_eq_false, beq_true, beq_false, Bool.not_true, Bool.not_false, BEq.rfl, beq_self_eq_true, List.nil_append, List.cons_append, List.append_nil, z4u, z4w, z47, z4a, z4b, z4p, z4q, z4y, z4v, z49, z4z, z4d, z4t, z4r, z4x, z4g, z4h, z4i, z4j, z4k, z4l, z4f, z4o, z4n, z4m, z48, z4e, z4c, z4s, getElem?_app, getElem?_app0, z3u, z55]
  unfold q5c3
  refine zW.seqReg ?_
  simp only [q5r2, h31, e1, e2, e3, Int.toNat_natCast, z45, z38, z41, z42, z57, z58, z40, z3z, z21, z1b, AOp.run, AX.ev, putE, upd, z24, Option.map_some, Option.bind_some, Option.map_none, rBin, rEq, zy, z1e, z2s, eqOp, aUn, aMin, z2p, z2k, z3e, z3d, z2u, rFa, rFld, z3b, z3c, z1j, z2t, z12, z29, blkQ, endQ, retV, oks, RV.ok, RV.val, Bool.and_true, Bool.true_and, List.map_cons, List.map_nil, List.getD_cons_zero, List.getD_cons_succ, List.getD_nil, if_true, if_false, ite_true, ite_false, reduceCtorEq, Nat.reduceEqDiff, Nat.reduceAdd, Bool.false_eq_true, Bool.true_eq_false, beq_true, beq_false, Bool.not_true, Bool.not_false, BEq.rfl, beq_self_eq_true, List.nil_append, List.cons_append, List.append_nil, z4u, z4w, z47, z4a, z4b, z4p, z4q, z4y, z4v, z49, z4z, z4d, z4t, z4r, z4x, z4g, z4h, z4i, z4j, z4k, z4l, z4f, z4o, z4n, z4m, z48, z4e, z4c, z4s, getElem?_app, getElem?_app0, z3u, z55]
  refine zW.zq ?_
  have h := rot_or x s hs
  simp only [IntKind.bits, h, z45, z38, z41, z42, z57, z58, z40, z3z, z21, z1b, AOp.run, AX.ev, putE, upd, z24, Option.map_some, Option.bind_some, Option.map_none, rBin, rEq, zy, z1e, z2s, eqOp, aUn, aMin, z2p, z2k, z3e, z3d, z2u, rFa, rFld, z3b, z3c, z1j, z2t, z12, z29, blkQ, endQ, retV, oks, RV.ok, RV.val, Bool.and_true, Bool.true_and, List.map_cons, List.map_nil, List.getD_cons_zero, List.getD_cons_succ, List.getD_nil, if_true, if_false, ite_true, ite_false, reduceCtorEq, Nat.reduceEqDiff, Nat.reduceAdd, Bool.false_eq_true, Bool.true_eq_false, beq_true, beq_false, Bool.not_true, Bool.not_false, BEq.rfl, beq_self_eq_true, List.nil_append, List.cons_append, List.append_nil, z4u, z4w, z47, z4a, z4b, z4p, z4q, z4y, z4v, z49, z4z, z4d, z4t, z4r, z4x, z4g, z4h, z4i, z4j, z4k, z4l, z4f, z4o, z4n, z4m, z48, z4e, z4c, z4s, getElem?_app, getElem?_app0, z3u, z55]
  exact ⟨trivial, (congrArg (fun z => DownV Y.length (.int .u32 z) Y (.int .u32 (x.rotateLeft s).toNat) Y) h).mpr (DownV.same hw (z13 _ rfl))⟩
theorem wrap64 {n : Int} (h1 : -9223372036854775808 <= n) (h2 : n < 9223372036854775808) : IntKind.i64.wrap n = n := by
  simp [IntKind.wrap, IntKind.signed, IntKind.bits]
  omega
theorem zn8 (k : Int) : (IntKind.i64.wrap (0 - k.tmod 32)) % 32 = (-k) % 32 := by
  have h : -31 <= k.tmod 32 /\ k.tmod 32 <= 31 := by
    rw [Int.tmod_eq_emod]; split <;> simp <;> omega
  rw [wrap64 (by omega) (by omega), Int.tmod_eq_emod]
  split
  · omega
  · simp; omega
theorem z9l (Y : Store) (x : BitVec 32) (k : Int) : ACallsTo TC 87 [.int .u32 x.toNat, .int .i64 k] Y (.int .u32 (x.rotateLeft ((-k) % 32).toNat).toNat) Y := by
  refine ACallsTo.of_body q1ok (by simp) fun hw _ => ?_
  refine zW.seqReg ?_
  simp only [q1r0, q1r1, z45, z38, z41, z42, z57, z58, z40, z3z, z21, z1b, AOp.run, AX.ev, putE, upd, z24, Option.map_some, Option.bind_some, Option.map_none, rBin, rEq, zy, z1e, z2s, eqOp, aUn, aMin, z2p, z2k, z3e, z3d, z2u, rFa, rFld, z3b, z3c, z1j, z2t, z12, z29, blkQ, endQ, retV, oks, RV.ok, RV.val, Bool.and_true, Bool.true_and, List.map_cons, List.map_nil, List.getD_cons_zero, List.getD_cons_succ, List.getD_nil, if_true, if_false, ite_true, ite_false, reduceCtorEq, Nat.reduceEqDiff, Nat.reduceAdd, Bool.false_eq_true, Bool.true_eq_false, beq_true, beq_false, Bool.not_true, Bool.not_false, BEq.rfl, beq_self_eq_true, List.nil_append, List.cons_append, List.append_nil, z4u, z4w, z47, z4a, z4b, z4p, z4q, z4y, z4v, z49, z4z, z4d, z4t, z4r, z4x, z4g, z4h, z4i, z4j, z4k, z4l, z4f, z4o, z4n, z4m, z48, z4e, z4c, z4s, getElem?_app, getElem?_app0, z3u, z55]
  refine zW.seqReg ?_
  simp only [q1r0, q1r1, show ¬ ((32 : Int) = 0) by decide, z45, z38, z41, z42, z57, z58, z40, z3z, z21, z1b, AOp.run, AX.ev, putE, upd, z24, Option.map_some, Option.bind_some, Option.map_none, rBin, rEq, zy, z1e, z2s, eqOp, aUn, aMin, z2p, z2k, z3e, z3d, z2u, rFa, rFld, z3b, z3c, z1j, z2t, z12, z29, blkQ, endQ, retV, oks, RV.ok, RV.val, Bool.and_true, Bool.true_and, List.map_cons, List.map_nil, List.getD_cons_zero, List.getD_cons_succ, List.getD_nil, if_true, if_false, ite_true, ite_false, reduceCtorEq, Nat.reduceEqDiff, Nat.reduceAdd, Bool.false_eq_true, Bool.true_eq_false, beq_true, beq_false, Bool.not_true, Bool.not_false, BEq.rfl, beq_self_eq_true, List.nil_append, List.cons_append, List.append_nil, z4u, z4w, z47, z4a, z4b, z4p, z4q, z4y, z4v, z49, z4z, z4d, z4t, z4r, z4x, z4g, z4h, z4i, z4j, z4k, z4l, z4f, z4o, z4n, z4m, z48, z4e, z4c, z4s, getElem?_app, getElem?_app0, z3u, z55]
  have h := zjk Y x (IntKind.i64.wrap (0 - k.tmod 32))
  rw [zn8] at h
  refine callW.zp h ?_
  simp only [z45, z38, z41, z42, z57, z58, z40, z3z, z21, z1b, AOp.run, AX.ev, putE, upd, z24, Option.map_some, Option.bind_some, Option.map_none, rBin, rEq, zy, z1e, z2s, eqOp, aUn, aMin, z2p, z2k, z3e, z3d, z2u, rFa, rFld, z3b, z3c, z1j, z2t, z12, z29, blkQ, endQ, retV, oks, RV.ok, RV.val, Bool.and_true, Bool.true_and, List.map_cons, List.map_nil, List.getD_cons_zero, List.getD_cons_succ, List.getD_nil, if_true, if_false, ite_true, ite_false, reduceCtorEq, Nat.reduceEqDiff, Nat.reduceAdd, Bool.false_eq_true, Bool.true_eq_false, beq_true, beq_false, Bool.not_true, Bool.not_false, BEq.rfl, beq_self_eq_true, List.nil_append, List.cons_append, List.append_nil, z4u, z4w, z47, z4a, z4b, z4p, z4q, z4y, z4v, z49, z4z, z4d, z4t, z4r, z4x, z4g, z4h, z4i, z4j, z4k, z4l, z4f, z4o, z4n, z4m, z48, z4e, z4c, z4s, getElem?_app, getElem?_app0, z3u, z55]
  refine zW.zq ?_
  simp only [z45, z38, z41, z42, z57, z58, z40, z3z, z21, z1b, AOp.run, AX.ev, putE, upd, z24, Option.map_some, Option.bind_some, Option.map_none, rBin, rEq, zy, z1e, z2s, eqOp, aUn, aMin, z2p, z2k, z3e, z3d, z2u, rFa, rFld, z3b, z3c, z1j, z2t, z12, z29, blkQ, endQ, retV, oks, RV.ok, RV.val, Bool.and_true, Bool.true_and, List.map_cons, List.map_nil, List.getD_cons_zero, List.getD_cons_succ, List.getD_nil, if_true, if_false, ite_true, ite_false, reduceCtorEq, Nat.reduceEqDiff, Nat.reduceAdd, Bool.false_eq_true, Bool.true_eq_false, beq_true, beq_false, Bool.not_true, Bool.not_false, BEq.rfl, beq_self_eq_true, List.nil_append, List.cons_append, List.append_nil, z4u, z4w, z47, z4a, z4b, z4p, z4q, z4y, z4v, z49, z4z, z4d, z4t, z4r, z4x, z4g, z4h, z4i, z4j, z4k, z4l, z4f, z4o, z4n, z4m, z48, z4e, z4c, z4s, getElem?_app, getElem?_app0, z3u, z55]
  exact ⟨trivial, DownV.same hw (z13 _ rfl)⟩
/-- How many of the lowest w bits are 1. -/
def pc : Nat -> Nat -> Nat
  | 0, _ => 0
  | w + 1, n => n % 2 + pc w (n / 2)
theorem za7 (w : Nat) : pc w 0 = 0 := by induction w with
  | zero => rfl
  | succ w ih => simp [pc, ih]
end Am
end Go.Proofs.YtjgljhbmljgaeaaDoor
end
section
/- Functions on bits: the place of the highest bit. -/
namespace Go.Proofs.YtjgljhbmljgaeaaDoor
namespace Am
/-- How many digits a number has in base 2 (w is enough room). -/
def lg : Nat -> Nat -> Nat
  | 0, _ => 0
  | w + 1, n => if n = 0 then 0 else 1 + lg w (n / 2)
end Am
end Go.Proofs.YtjgljhbmljgaeaaDoor
end
section
/- Functions on bits: how long a number is. -/
namespace Go.Proofs.YtjgljhbmljgaeaaDoor
namespace Am
end Am
end Go.Proofs.YtjgljhbmljgaeaaDoor
end
section
/- Functions on bits: how many are 1: the plain law. -/
namespace Go.Proofs.YtjgljhbmljgaeaaDoor
namespace Am
theorem z87 (a b c d : Nat) (hb : b < 256) (hd : d < 256) : (256 * a + b) &&& (256 * c + d) = 256 * (a &&& c) + (b &&& d) := by
  apply Nat.eq_of_testBit_eq
  intro i
  have e : ∀ x y : Nat, y < 256 -> (256 * x + y).testBit i = if i < 8 then y.testBit i else x.testBit (i - 8) := by
    intro x y hy
    have := Nat.testBit_two_pow_mul_add x (i := 8) (b := y) (by simpa using hy) i
    simpa using this
  have hbd : b &&& d < 256 := Nat.lt_of_le_of_lt Nat.and_le_left hb
  rw [Nat.testBit_and, e a b hb, e c d hd, e _ _ hbd]
  split <;> simp [Nat.testBit_and]
/-- The byte m, n times. -/
def rep (m : Nat) : Nat -> Nat
  | 0 => 0
  | n + 1 => 256 * rep m n + m
/-- A number's bytes, each turned. -/
def byB (g : Nat -> Nat) : Nat -> Nat -> Nat
  | 0, _ => 0
  | n + 1, x => 256 * byB g n (x / 256) + g (x % 256)
def st1 (x : Nat) : Nat := (x / 2 &&& 85) + (x &&& 85)
def st2 (x : Nat) : Nat := (x / 4 &&& 51) + (x &&& 51)
def st3 (x : Nat) : Nat := x / 16 + x % 16
theorem st1_lo : ∀ p : Fin 2, ∀ r : Fin 256, ((128 * p.val + r.val / 2) &&& 85) = (r.val / 2 &&& 85) := by decide +kernel
theorem st2_lo : ∀ p : Fin 4, ∀ r : Fin 256, ((64 * p.val + r.val / 4) &&& 51) = (r.val / 4 &&& 51) := by decide +kernel
theorem step1 : ∀ (n x : Nat), x < 256 ^ n -> ((x / 2) &&& rep 85 n) + (x &&& rep 85 n) = byB st1 n x
  | 0, x, h => by simp [rep, byB]
  | n + 1, x, h => by
    have ih := step1 n (x / 256) (by rw [Nat.pow_succ] at h; omega)
    have e1 : x / 2 = 256 * (x / 256 / 2) + (128 * (x / 256 % 2) + x % 256 / 2) := by omega
    have e2 : x = 256 * (x / 256) + x % 256 := by omega
    have l1 := st1_lo ⟨x / 256 % 2, by omega⟩ ⟨x % 256, by omega⟩
    simp only at l1
    rw [rep, byB, e1, z87 _ _ _ _ (by omega) (by decide), l1]
    conv => lhs; rhs; rw [e2]
    rw [z87 _ _ _ _ (by omega) (by decide), st1]
    omega
theorem step2 : ∀ (n x : Nat), x < 256 ^ n -> ((x / 4) &&& rep 51 n) + (x &&& rep 51 n) = byB st2 n x
  | 0, x, h => by simp [rep, byB]
  | n + 1, x, h => by
    have ih := step2 n (x / 256) (by rw [Nat.pow_succ] at h; omega)
    have e1 : x / 4 = 256 * (x / 256 / 4) + (64 * (x / 256 % 4) + x % 256 / 4) := by omega
    have e2 : x = 256 * (x / 256) + x % 256 := by omega
    have l1 := st2_lo ⟨x / 256 % 4, by omega⟩ ⟨x % 256, by omega⟩
    simp only at l1
    rw [rep, byB, e1, z87 _ _ _ _ (by omega) (by decide), l1]
    conv => lhs; rhs; rw [e2]
    rw [z87 _ _ _ _ (by omega) (by decide), st2]
    omega
/-- Nibbles of at most 4. -/
def nib4 : Nat -> Nat -> Prop
  | 0, x => x = 0
  | n + 1, x => x % 256 / 16 <= 4 /\ x % 16 <= 4 /\ nib4 n (x / 256)
theorem step3 : ∀ (n x : Nat), nib4 n x -> ((x / 16 + x) &&& rep 15 n) = byB st3 n x
  | 0, x, h => by simp [rep, byB]
  | n + 1, x, h => by
    obtain ⟨h1, h2, h3⟩ := h
    have ih := step3 n (x / 256) h3
    have hq : x / 256 % 16 <= 4 := by
      cases n with
      | zero => simp only [nib4] at h3; omega
      | succ n => exact h3.2.1
    have e1 : x / 16 + x = 256 * (x / 256 / 16 + x / 256) + (16 * (x / 256 % 16) + x % 256 / 16 + x % 256) := by omega
    rw [rep, byB, e1, z87 _ _ _ _ (by omega) (by decide), ih, st3]
    have e2 : (16 * (x / 256 % 16) + x % 256 / 16 + x % 256) &&& 15 = (16 * (x / 256 % 16) + x % 256 / 16 + x % 256) % 16 := Nat.and_two_pow_sub_one_eq_mod _ 4
    rw [e2]
    omega
theorem zb1 {f g : Nat -> Nat} (hg : ∀ b, b < 256 -> g b < 256) : ∀ (n x : Nat), byB f n (byB g n x) = byB (fun b => f (g b)) n x
  | 0, x => by simp [byB]
  | n + 1, x => by
    have hb := hg (x % 256) (by omega)
    have e1 : (256 * byB g n (x / 256) + g (x % 256)) / 256 = byB g n (x / 256) := by omega
    have e2 : (256 * byB g n (x / 256) + g (x % 256)) % 256 = g (x % 256) := by omega
    simp only [byB, e1, e2, zb1 hg n]
theorem zb2 {g : Nat -> Nat} (hg : ∀ b, b < 256 -> g b < 256) : ∀ (n x : Nat), byB g n x < 256 ^ n
  | 0, x => by simp [byB]
  | n + 1, x => by
    have := zb2 hg n (x / 256)
    have := hg (x % 256) (by omega)
    rw [byB, Nat.pow_succ]; omega
theorem st12 : ∀ b : Fin 256, st1 b.val < 256 /\ st2 (st1 b.val) < 256 /\ st2 (st1 b.val) / 16 <= 4 /\ st2 (st1 b.val) % 16 <= 4 /\ st3 (st2 (st1 b.val)) = pc 8 b.val /\ pc 8 b.val <= 8 := by decide +kernel
theorem zc7 : ∀ (n x : Nat), nib4 n (byB (fun b => st2 (st1 b)) n x)
  | 0, x => by simp [nib4, byB]
  | n + 1, x => by
    obtain ⟨h1, h2, h3, h4, _⟩ := st12 ⟨x % 256, by omega⟩
    simp only at h1 h2 h3 h4
    have e1 : (256 * byB (fun b => st2 (st1 b)) n (x / 256) + st2 (st1 (x % 256))) / 256 = byB (fun b => st2 (st1 b)) n (x / 256) := by omega
    have ih := zc7 n (x / 256)
    rw [byB, nib4, e1]
    exact ⟨by omega, by omega, ih⟩
theorem z5n (w x : Nat) : pc (8 + w) x = pc 8 (x % 256) + pc w (x / 256) := by
  have e : ∀ k, k < 8 -> x / 2 ^ k % 2 = (x % 256) / 2 ^ k % 2 := by
    intro k hk
    have : k = 0 \/ k = 1 \/ k = 2 \/ k = 3 \/ k = 4 \/ k = 5 \/ k = 6 \/ k = 7 := by omega
    rcases this with rfl | rfl | rfl | rfl | rfl | rfl | rfl | rfl <;> simp <;> omega
  rw [show 8 + w = w + 8 by omega]
  simp only [pc, Nat.div_div_eq_div_mul]
  simp
  omega
end Am
end Go.Proofs.YtjgljhbmljgaeaaDoor
end
section
/- Functions on bits: how many are 1. -/
namespace Go.Proofs.YtjgljhbmljgaeaaDoor
namespace Am
theorem byB8 (g : Nat -> Nat) (x : Nat) : byB g 8 x = g (x % 256) + 256 * (g (x / 256 % 256) + 256 * (g (x / 65536 % 256) + 256 * (g (x / 16777216 % 256) + 256 * (g (x / 4294967296 % 256) + 256 * (g (x / 1099511627776 % 256) + 256 * (g (x / 281474976710656 % 256) + 256 * g (x / 72057594037927936 % 256))))))) := by
  simp only [byB, Nat.div_div_eq_div_mul, Nat.reduceMul]
  omega
theorem pc64 (x : Nat) (_ : x < 18446744073709551616) : pc 64 x = pc 8 (x % 256) + pc 8 (x / 256 % 256) + pc 8 (x / 65536 % 256) + pc 8 (x / 16777216 % 256) + pc 8 (x / 4294967296 % 256) + pc 8 (x / 1099511627776 % 256) + pc 8 (x / 281474976710656 % 256) + pc 8 (x / 72057594037927936 % 256) := by
  have e0 := z5n 56 x
  have e1 := z5n 48 (x / 256)
  have e2 := z5n 40 (x / 256 / 256)
  have e3 := z5n 32 (x / 256 / 256 / 256)
  have e4 := z5n 24 (x / 256 / 256 / 256 / 256)
  have e5 := z5n 16 (x / 256 / 256 / 256 / 256 / 256)
  have e6 := z5n 8 (x / 256 / 256 / 256 / 256 / 256 / 256)
  have e7 := z5n 0 (x / 256 / 256 / 256 / 256 / 256 / 256 / 256)
  have e8 : pc 0 (x / 256 / 256 / 256 / 256 / 256 / 256 / 256 / 256) = 0 := rfl
  rw [e8] at e7
  simp only [Nat.reduceAdd, Nat.div_div_eq_div_mul, Nat.reduceMul, Nat.add_zero] at e0 e1 e2 e3 e4 e5 e6 e7
  rw [e0, e1, e2, e3, e4, e5, e6, e7]
  simp only [Nat.add_assoc]
theorem z2g (x : Nat) : pc 8 (x % 256) <= 8 := (st12 ⟨x % 256, by omega⟩).2.2.2.2.2
theorem sum8 (b0 b1 b2 b3 b4 b5 b6 b7 : Nat) (h0 : b0 <= 8) (h1 : b1 <= 8) (h2 : b2 <= 8) (h3 : b3 <= 8) (h4 : b4 <= 8) (h5 : b5 <= 8) (h6 : b6 <= 8) (h7 : b7 <= 8) (y y1 y2 y3 : Nat) 
   (hy : y = b0 + 256 * (b1 + 256 * (b2 + 256 * (b3 + 256 * (b4 + 256 * (b5 + 256 * (b6 + 256 * b7))))))) 
    (hy1 : y1 = y + y / 256)
    (hy2 : y2 = y1 + y1 / 65536) (hy3 : y3 = y2 + y2 / 4294967296) :
    y3 < 18446744073709551616 /\ y3 % 128 = b0 + b1 + b2 + b3 + b4 + b5 + b6 + b7 := by
  have e1 : y / 256 = b1 + 256 * (b2 + 256 * (b3 + 256 * (b4 + 256 * (b5 + 256 * (b6 + 256 * b7))))) := by clear hy1 hy2 hy3; omega
  have e2 : y1 = (b0 + b1) + 256 * ((b1 + b2) + 256 * ((b2 + b3) + 256 * ((b3 + b4) + 256 * ((b4 + b5) + 256 * ((b5 + b6) + 256 * ((b6 + b7) + 256 * b7)))))) := by rw [hy1, e1, hy]; clear e1 hy hy1 hy2 hy3; omega
  clear e1 hy hy1
  have e3 : y1 / 65536 = (b2 + b3) + 256 * ((b3 + b4) + 256 * ((b4 + b5) + 256 * ((b5 + b6) + 256 * ((b6 + b7) + 256 * b7)))) := by clear hy2 hy3; omega
  have e4 : y2 = (b0 + b1 + b2 + b3) + 256 * ((b1 + b2 + b3 + b4) + 256 * ((b2 + b3 + b4 + b5) + 256 * ((b3 + b4 + b5 + b6) + 256 * ((b4 + b5 + b6 + b7) + 256 * ((b5 + b6 + b7) + 256 * ((b6 + b7) + 256 * b7)))))) := by
    rw [hy2, e3, e2]; clear e3 e2 hy2 hy3; omega
  clear e2 e3 hy2
  have e5 : y2 / 4294967296 = (b4 + b5 + b6 + b7) + 256 * ((b5 + b6 + b7) + 256 * ((b6 + b7) + 256 * b7)) := by clear hy3; omega
  rw [e5, e4] at hy3
  clear e4 e5
  omega
theorem zgl : ∀ (n x : Nat), nib4 n x -> x <= rep 68 n
  | 0, x, h => by simp only [nib4] at h; simp [rep, h]
  | n + 1, x, h => by
    obtain ⟨h1, h2, h3⟩ := h
    have := zgl n (x / 256) h3
    simp only [rep]
    omega
theorem zkh (z : Nat) (hz : z < 18446744073709551616) : zy .and .i64 (IntKind.i64.wrap (z : Int)) 127 = some (.int .i64 ((z % 128 : Nat) : Int)) := by
  have ew : (BitVec.ofInt IntKind.i64.bits (IntKind.i64.wrap (z : Int))).toNat = z := by
    rw [BitVec.toNat_ofInt]
    simp only [IntKind.wrap, IntKind.signed, IntKind.bits]
    simp
    split <;> omega
  have e7 : (BitVec.ofInt IntKind.i64.bits 127).toNat = 2 ^ 7 - 1 := by decide
  have ea : (BitVec.ofInt IntKind.i64.bits (IntKind.i64.wrap (z : Int)) &&& BitVec.ofInt IntKind.i64.bits 127).toNat = z % 128 := by
    rw [BitVec.toNat_and, ew, e7]
    exact Nat.and_two_pow_sub_one_eq_mod z 7
  simp only [zy]
  rw [ea, z8z ⟨by omega, by omega⟩]
theorem zek (Y : Store) (x : Int) (h : 0 <= x /\ x < 18446744073709551616) : ACallsTo TC 101 [.int .u64 x] Y (.int .i64 (pc 64 x.toNat)) Y := by
  refine ACallsTo.of_body q7ok (by simp) fun hw _ => ?_
  obtain ⟨x, rfl⟩ : ∃ n : Nat, x = n := ⟨x.toNat, by omega⟩
  rw [Int.toNat_natCast]
  have hx : x < 256 ^ 8 := by omega
  have h1 := step1 8 x hx
  have h2 := step2 8 (byB st1 8 x) (zb2 (fun b hb => (st12 ⟨b, hb⟩).1) 8 x)
  rw [zb1 (fun b hb => (st12 ⟨b, hb⟩).1)] at h2
  have h3 := step3 8 (byB (fun b => st2 (st1 b)) 8 x) (zc7 8 x)
  rw [zb1 (fun b hb => (st12 ⟨b, hb⟩).2.1)] at h3
  have e3 : byB (fun b => st3 (st2 (st1 b))) 8 x = byB (pc 8) 8 x := by
    simp only [byB8]
    have : ∀ y, st3 (st2 (st1 (y % 256))) = pc 8 (y % 256) := fun y => (st12 ⟨y % 256, by omega⟩).2.2.2.2.1
    simp only [this]
  rw [e3] at h3
  have k1 : rep 85 8 = 6148914691236517205 := by simp only [rep]
  have k2 : rep 51 8 = 3689348814741910323 := by simp only [rep]
  have k3 : rep 15 8 = 1085102592571150095 := by simp only [rep]
  rw [k1] at h1; rw [k2] at h2; rw [k3] at h3
  have l1 : byB st1 8 x < 18446744073709551616 := by
    have h := zb2 (g := st1) (fun b hb => (st12 ⟨b, hb⟩).1) 8 x
    omega
  have l2 : byB (fun b => st2 (st1 b)) 8 x <= 4919131752989213764 := by
    have h := zgl 8 _ (zc7 8 x)
    simp only [rep] at h
    omega
  have hs := sum8 _ _ _ _ _ _ _ _ (z2g x) (z2g (x / 256)) (z2g (x / 65536)) (z2g (x / 16777216)) (z2g (x / 4294967296)) (z2g (x / 1099511627776)) (z2g (x / 281474976710656)) (z2g (x / 72057594037927936)) _ _ _ _ rfl rfl rfl rfl
  rw [<- byB8, <- pc64 x (by omega)] at hs
  generalize byB (pc 8) 8 x = y3 at *
  generalize byB (fun b => st2 (st1 b)) 8 x = y2 at *
  generalize byB st1 8 x = y1 at *
  clear e3
  try simp only at hs l2
  have hle : pc 64 x <= 64 := by
    rw [pc64 x (by omega)]
    have := z2g x; have := z2g (x / 256); have := z2g (x / 65536); have := z2g (x / 16777216); have := z2g (x / 4294967296); have := z2g (x / 1099511627776); have := z2g (x / 281474976710656); have := z2g (x / 72057594037927936)
    omega
  generalize pc 64 x = p at *
  have hy3 : y3 < 18446744073709551616 := by omega
  have t6 : ∀ (O : Env) (z : Nat), z < 18446744073709551616 -> z % 128 = p -> O 0 = .int .u64 (z : Int) -> zW TC 35 Y.length q7c8 (endQ Y.length [.t 2] (.int .i64 p) Y) O Y := by
    intro O z hs1 hs2 q0
    have e6 := zkh z hs1
    rw [hs2] at e6
    repeat' (first|refine zW.zs ?_|refine zW.zb ?_|refine zW.zc ?_|refine zW.zt rfl ?_|refine zW.zf rfl ?_|(refine zW.zd rfl (fun ht => ?_) (fun ht => ?_)<;>try (exfalso;omega))|((first|refine zW.zr ?_|refine zW.zk ?_|refine zW.ze ?_|refine zW.zq ?_|((first|apply zg0|apply zg1|apply zg2|apply zg3|apply zg4|apply zg5|apply zg6|apply zg7)<;>intro ht));all_goals try simp (disch:=first|omega|(simp only [lens];first|done|omega)) only [go_sem,reduceEqDiff,Nat.reduceBEq,reduceAdd,reduceMul,reduceSub,reduceLeDiff,reduceToNat,reducePow, q0, e6]))
    exact DownV.same hw (z13 _ rfl)
  have t5 : ∀ O : Env, O 0 = .int .u64 ((y3 + y3 / 256 + (y3 + y3 / 256) / 65536 : Nat) : Int) -> zW TC 35 Y.length q7c9 (endQ Y.length [.t 2] (.int .i64 p) Y) O Y := by
    intro O q0
    refine zW.seqReg ?_
    simp (disch:=first|omega|(simp only [lens];first|done|omega)) only [go_sem,reduceEqDiff,Nat.reduceBEq,reduceAdd,reduceMul,reduceSub,reduceLeDiff,reduceToNat,reducePow, q0]
    exact t6 _ _ hs.1 hs.2 (by simp (disch:=first|omega|(simp only [lens];first|done|omega)) only [go_sem,reduceEqDiff,Nat.reduceBEq,reduceAdd,reduceMul,reduceSub,reduceLeDiff,reduceToNat,reducePow, Int.natCast_add, Int.natCast_ediv, Int.cast_ofNat_Int])
  have t4 : ∀ O : Env, O 0 = .int .u64 ((y3 + y3 / 256 : Nat) : Int) -> zW TC 35 Y.length q7c10 (endQ Y.length [.t 2] (.int .i64 p) Y) O Y := by
    intro O q0
    refine zW.seqReg ?_
    simp (disch:=first|omega|(simp only [lens];first|done|omega)) only [go_sem,reduceEqDiff,Nat.reduceBEq,reduceAdd,reduceMul,reduceSub,reduceLeDiff,reduceToNat,reducePow, q0]
    exact t5 _ (by simp (disch:=first|omega|(simp only [lens];first|done|omega)) only [go_sem,reduceEqDiff,Nat.reduceBEq,reduceAdd,reduceMul,reduceSub,reduceLeDiff,reduceToNat,reducePow, Int.natCast_add, Int.natCast_ediv, Int.cast_ofNat_Int])
  have t3 : ∀ O : Env, O 0 = .int .u64 (y3 : Int) -> zW TC 35 Y.length q7c11 (endQ Y.length [.t 2] (.int .i64 p) Y) O Y := by
    intro O q0
    refine zW.seqReg ?_
    simp (disch:=first|omega|(simp only [lens];first|done|omega)) only [go_sem,reduceEqDiff,Nat.reduceBEq,reduceAdd,reduceMul,reduceSub,reduceLeDiff,reduceToNat,reducePow, q0]
    exact t4 _ (by simp (disch:=first|omega|(simp only [lens];first|done|omega)) only [go_sem,reduceEqDiff,Nat.reduceBEq,reduceAdd,reduceMul,reduceSub,reduceLeDiff,reduceToNat,reducePow, Int.natCast_add, Int.natCast_ediv, Int.cast_ofNat_Int])
  have t2 : ∀ O : Env, O 0 = .int .u64 (y2 : Int) -> zW TC 35 Y.length q7c12 (endQ Y.length [.t 2] (.int .i64 p) Y) O Y := by
    intro O q0
    refine zW.seqReg ?_
    have e : ((y2 : Int) / 16 + (y2 : Int)).toNat = y2 / 16 + y2 := by omega
    simp (disch:=first|omega|(simp only [lens];first|done|omega)) only [go_sem,reduceEqDiff,Nat.reduceBEq,reduceAdd,reduceMul,reduceSub,reduceLeDiff,reduceToNat,reducePow, q0, e, h3]
    exact t3 _ (by simp (disch:=first|omega|(simp only [lens];first|done|omega)) only [go_sem,reduceEqDiff,Nat.reduceBEq,reduceAdd,reduceMul,reduceSub,reduceLeDiff,reduceToNat,reducePow])
  have t1 : ∀ O : Env, O 0 = .int .u64 (y1 : Int) -> zW TC 35 Y.length q7c13 (endQ Y.length [.t 2] (.int .i64 p) Y) O Y := by
    intro O q0
    refine zW.seqReg ?_
    have e : ((y1 : Int) / 4).toNat = y1 / 4 := by omega
    have e' : ((y1 / 4 &&& 3689348814741910323 : Nat) : Int) + ((y1 &&& 3689348814741910323 : Nat) : Int) = (y2 : Int) := by omega
    simp (disch:=first|omega|(simp only [lens];first|done|omega)) only [go_sem,reduceEqDiff,Nat.reduceBEq,reduceAdd,reduceMul,reduceSub,reduceLeDiff,reduceToNat,reducePow, q0, e, e']
    exact t2 _ (by simp (disch:=first|omega|(simp only [lens];first|done|omega)) only [go_sem,reduceEqDiff,Nat.reduceBEq,reduceAdd,reduceMul,reduceSub,reduceLeDiff,reduceToNat,reducePow])
  refine zW.seqReg ?_
  simp (disch:=first|omega|(simp only [lens];first|done|omega)) only [go_sem,reduceEqDiff,Nat.reduceBEq,reduceAdd,reduceMul,reduceSub,reduceLeDiff,reduceToNat,reducePow]
  refine zW.seqReg ?_
  have e : ((x : Int) / 2).toNat = x / 2 := by omega
  have e' : ((x / 2 &&& 6148914691236517205 : Nat) : Int) + ((x &&& 6148914691236517205 : Nat) : Int) = (y1 : Int) := by omega
  simp (disch:=first|omega|(simp only [lens];first|done|omega)) only [go_sem,reduceEqDiff,Nat.reduceBEq,reduceAdd,reduceMul,reduceSub,reduceLeDiff,reduceToNat,reducePow, e, e']
  refine t1 _ ?_
  simp (disch:=first|omega|(simp only [lens];first|done|omega)) only [go_sem,reduceEqDiff,Nat.reduceBEq,reduceAdd,reduceMul,reduceSub,reduceLeDiff,reduceToNat,reducePow]
end Am
end Go.Proofs.YtjgljhbmljgaeaaDoor
end
section
/- Functions on bits: the contracts of all, numbers as_ Int. -/
namespace Go.Proofs.YtjgljhbmljgaeaaDoor
namespace Am
theorem z54 {k : Nat} {i : IntKind} {n : Int} : RL k (.int i n) := z13 _ rfl
theorem zag {k : Nat} {s : List UInt8} : RL k (.str s) := z13 _ rfl
theorem z3g {k : Nat} {b : Bool} : RL k (.bool b) := z13 _ rfl
theorem z9k (Y : Store) (x : Int) (h : 0 <= x /\ x < 18446744073709551616) : ACallsTo TC 90 [.int .u64 x] Y (.int .i64 (pc 64 x.toNat)) Y := by
  refine ACallsTo.of_body q6ok (by simp) fun hw _ => ?_
  repeat' (first|refine zW.zs ?_|refine zW.zb ?_|refine zW.zc ?_|refine zW.zt rfl ?_|refine zW.zf rfl ?_|(refine zW.zd rfl (fun ht => ?_) (fun ht => ?_)<;>try (exfalso;omega))|((first|refine zW.zr ?_|refine zW.zk ?_|refine zW.ze ?_|refine zW.zq ?_|(apply callW.mk_pu; (first | exact (fun _ => zek _ _ (by omega)))) | (apply callW.za; (first | exact (zek _ _ (by omega)))) | ((first|apply zg0|apply zg1|apply zg2|apply zg3|apply zg4|apply zg5|apply zg6|apply zg7)<;>intro ht));all_goals try simp (disch:=first|omega|(simp only [lens];first|done|omega)) only [go_sem,reduceEqDiff,Nat.reduceBEq,reduceAdd,reduceMul,reduceSub,reduceLeDiff,reduceToNat,reducePow]))
  exact DownV.same hw z54
theorem zjj (Y : Store) (x : Int) (h : -9223372036854775808 <= x /\ x < 9223372036854775808) : ACallsTo TC 75 [.int .i64 x] Y (.int .i64 (pc 64 x.toNat)) Y := by
  refine ACallsTo.of_body q2ok (by simp) fun hw _ => ?_
  by_cases hx : 0 > x
  · have e : x.toNat = (0 : Int).toNat := by omega
    rw [e]
    repeat' (first|refine zW.zs ?_|refine zW.zb ?_|refine zW.zc ?_|refine zW.zt rfl ?_|refine zW.zf rfl ?_|(refine zW.zd rfl (fun ht => ?_) (fun ht => ?_)<;>try (exfalso;omega))|((first|refine zW.zr ?_|refine zW.zk ?_|refine zW.ze ?_|refine zW.zq ?_|(apply callW.mk_pu; (first | exact (fun _ => z9k _ _ (by omega)))) | (apply callW.za; (first | exact (z9k _ _ (by omega)))) | ((first|apply zg0|apply zg1|apply zg2|apply zg3|apply zg4|apply zg5|apply zg6|apply zg7)<;>intro ht));all_goals try simp (disch:=first|omega|(simp only [lens];first|done|omega)) only [go_sem,reduceEqDiff,Nat.reduceBEq,reduceAdd,reduceMul,reduceSub,reduceLeDiff,reduceToNat,reducePow]))
    exact DownV.same hw z54
  · repeat' (first|refine zW.zs ?_|refine zW.zb ?_|refine zW.zc ?_|refine zW.zt rfl ?_|refine zW.zf rfl ?_|(refine zW.zd rfl (fun ht => ?_) (fun ht => ?_)<;>try (exfalso;omega))|((first|refine zW.zr ?_|refine zW.zk ?_|refine zW.ze ?_|refine zW.zq ?_|(apply callW.mk_pu; (first | exact (fun _ => z9k _ _ (by omega)))) | (apply callW.za; (first | exact (z9k _ _ (by omega)))) | ((first|apply zg0|apply zg1|apply zg2|apply zg3|apply zg4|apply zg5|apply zg6|apply zg7)<;>intro ht));all_goals try simp (disch:=first|omega|(simp only [lens];first|done|omega)) only [go_sem,reduceEqDiff,Nat.reduceBEq,reduceAdd,reduceMul,reduceSub,reduceLeDiff,reduceToNat,reducePow]))
    exact DownV.same hw z54
/-- A number's last bytes, the highest first. -/
def be : Nat -> Nat -> List UInt8
  | 0, _ => []
  | n + 1, x => be n (x / 256) ++ [UInt8.ofNat x]
theorem z3w : ∀ n x, (be n x).length = n
  | 0, _ => rfl
  | n + 1, x => by simp [be, z3w n]
theorem zeh : ∀ n x, be (n + 1) x = UInt8.ofNat (x / 256 ^ n) :: be n x
  | 0, x => by simp [be]
  | n + 1, x => by
    rw [be, zeh n (x / 256), Nat.div_div_eq_div_mul, Nat.pow_succ, Nat.mul_comm 256, be]
    rfl
def putS (x n : Int) : List UInt8 := if 1 <= n /\ n <= 8 then be n.toNat x.toNat else []
theorem z61 (Y : Store) (x n : Int) (h : 0 <= x /\ x < 18446744073709551616) (hn : n < 9223372036854775808) : ACallsTo TC 61 [.int .u64 x, .int .i64 n] Y (.str (putS x n)) Y := by
  refine ACallsTo.of_body q0ok (by simp) fun hw _ => ?_
  repeat' (first|refine zW.zs ?_|refine zW.zb ?_|refine zW.zc ?_|refine zW.zt rfl ?_|refine zW.zf rfl ?_|(refine zW.zd rfl (fun ht => ?_) (fun ht => ?_)<;>try (exfalso;omega))|((first|refine zW.zr ?_|refine zW.zk ?_|refine zW.ze ?_|refine zW.zq ?_|((first|apply zg0|apply zg1|apply zg2|apply zg3|apply zg4|apply zg5|apply zg6|apply zg7)<;>intro ht));all_goals try simp (disch:=first|omega|(simp only [lens];first|done|omega)) only [go_sem,reduceEqDiff,Nat.reduceBEq,reduceAdd,reduceMul,reduceSub,reduceLeDiff,reduceToNat,reducePow]))
  · rw [putS, if_neg (by omega)]
    exact DownV.same hw zag
  · rw [putS, if_neg (by omega)]
    exact DownV.same hw zag
  rw [putS, if_pos (by omega)]
  obtain ⟨k, hk⟩ : ∃ k : Nat, n = k := ⟨n.toNat, by omega⟩
  subst hk
  rw [Int.toNat_natCast]
  refine zW.loop (fun m O Y' => ∃ (i : Nat) (y : Nat) (s : List UInt8), Y' = Y ++ [some (zo s)] /\ s.length = k /\ s.drop (k - i) = be i x.toNat /\ O 0 = .int .u64 y /\ O 1 = .int .i64 k /\ O 15 = .int .i64 k /\ O 5 = .sl Y.length 0 k (some k) 1 /\ O 16 = .int .i64 i /\ m + i = k /\ y = x.toNat / 256 ^ i) k ?_ ?_
  · refine ⟨0, x.toNat, List.replicate k 0, ?_, by simp, by simp [be], ?_, ?_, ?_, ?_, ?_, by omega, by simp⟩ <;> try simp (disch:=first|omega|(simp only [lens];first|done|omega)) only [go_sem,reduceEqDiff,Nat.reduceBEq,reduceAdd,reduceMul,reduceSub,reduceLeDiff,reduceToNat,reducePow, be]
    · exact z6o (by omega)
    · exact z6o (by omega)
  · rintro m O _ ⟨i, y, s, rfl, hs, hd, q0, q1, q15, q5, q16, hm, hy⟩
    have hy2 : y < 18446744073709551616 := by
      have := Nat.div_le_self x.toNat (256 ^ i)
      omega
    repeat' (first|refine zW.zs ?_|refine zW.zb ?_|refine zW.zc ?_|refine zW.zt rfl ?_|refine zW.zf rfl ?_|(refine zW.zd rfl (fun ht => ?_) (fun ht => ?_)<;>try (exfalso;omega))|((first|refine zW.zr ?_|refine zW.zk ?_|refine zW.ze ?_|refine zW.zq ?_|((first|apply zg0|apply zg1|apply zg2|apply zg3|apply zg4|apply zg5|apply zg6|apply zg7)<;>intro ht));all_goals try simp (disch:=first|omega|(simp only [lens];first|done|omega)) only [go_sem,reduceEqDiff,Nat.reduceBEq,reduceAdd,reduceMul,reduceSub,reduceLeDiff,reduceToNat,reducePow, q0, q1, q15, q5, q16]))
    · refine ⟨m - 1, by omega, i + 1, y / 256, _, rfl, by simp [hs], ?_, z6o (by omega), z6o (by omega), by omega, ?_⟩
      · rw [zeh, <- hy, <- hd]
        have e1 : ((k : Int) - 1 - i).toNat = k - (i + 1) := by omega
        have e2 : UInt8.ofNat ((y : Int) % 256).toNat = UInt8.ofNat y := by
          apply UInt8.toNat_inj.1
          simp; omega
        rw [e1, e2, List.drop_set]
        simp only [Nat.lt_irrefl, if_false, Nat.sub_self]
        rw [List.drop_eq_getElem_cons (by omega), List.set_cons_zero, show k - (i + 1) + 1 = k - i by omega]
      · rw [hy, Nat.div_div_eq_div_mul, Nat.pow_succ]
    · have e : i = k := by omega
      subst e
      rw [Nat.sub_self, List.drop_zero] at hd
      rw [<- hd]
      exact DownV.pure hw zag
end Am
end Go.Proofs.YtjgljhbmljgaeaaDoor
end
section
/- Functions on bits: Get, Bit, Left, Right. -/
namespace Go.Proofs.YtjgljhbmljgaeaaDoor
namespace Am
/-- The number of bytes, the highest first. -/
def val (s : List UInt8) : Nat := s.foldl (fun n b => 256 * n + b.toNat) 0
theorem zs7 (s : List UInt8) (b : UInt8) : val (s ++ [b]) = 256 * val s + b.toNat := by simp [val]
theorem zro {α : Type} (s : List α) (i : Nat) (d : α) (h : i < s.length) : s.take (i + 1) = s.take i ++ [s.getD i d] := by
  rw [List.take_add_one, getQ s i d h]; rfl
theorem zif (s : List UInt8) (i : Nat) (h : i < s.length) : val (s.take (i + 1)) = 256 * val (s.take i) + (s.getD i 0).toNat := by
  rw [zro s i 0 h, zs7]
theorem zie : ∀ (i : Nat) (s : List UInt8), i <= s.length -> val (s.take i) < 256 ^ i
  | 0, s, _ => by simp [val]
  | i + 1, s, h => by
    have := zie i s (by omega)
    have hb := (s.getD i 0).toNat_lt
    rw [zif s i (by omega), Nat.pow_succ]
    omega
def getS (s : List UInt8) : Nat := val (s.take 8)
theorem zej (Y : Store) (s : List UInt8) (hs : s.length < 9223372036854775808) : ACallsTo TC 98 [.str s] Y (.int .u64 (getS s)) Y := by
  refine ACallsTo.of_body q4ok (by simp) fun hw _ => ?_
  obtain ⟨k, hk, hk2⟩ : ∃ k : Nat, (k : Int) = (if (8 : Int) < s.length then (8 : Int) else (s.length : Int)) /\ k = min 8 s.length := ⟨min 8 s.length, by split <;> omega, rfl⟩
  have hgs : getS s = val (s.take k) := by
    rw [hk2, getS]
    by_cases h : 8 <= s.length
    · rw [Nat.min_eq_left h]
    · rw [Nat.min_eq_right (by omega), List.take_of_length_le (by omega), List.take_length]
  rw [hgs]
  repeat' (first|refine zW.zs ?_|refine zW.zb ?_|refine zW.zc ?_|refine zW.zt rfl ?_|refine zW.zf rfl ?_|(refine zW.zd rfl (fun ht => ?_) (fun ht => ?_)<;>try (exfalso;omega))|((first|refine zW.zr ?_|refine zW.zk ?_|refine zW.ze ?_|refine zW.zq ?_|((first|apply zg0|apply zg1|apply zg2|apply zg3|apply zg4|apply zg5|apply zg6|apply zg7)<;>intro ht));all_goals try simp (disch:=first|omega|(simp only [lens];first|done|omega)) only [go_sem,reduceEqDiff,Nat.reduceBEq,reduceAdd,reduceMul,reduceSub,reduceLeDiff,reduceToNat,reducePow, <- hk]))
  refine zW.loop (fun m O Y' => Y' = Y /\ ∃ (i : Nat), O 0 = .str s /\ O 7 = .int .i64 k /\ O 8 = .int .i64 i /\ O 3 = .int .u64 (val (s.take i)) /\ m + i = k) k ?_ ?_
  · refine ⟨rfl, 0, ?_, ?_, ?_, ?_, by omega⟩ <;> simp (disch:=first|omega|(simp only [lens];first|done|omega)) only [go_sem,reduceEqDiff,Nat.reduceBEq,reduceAdd,reduceMul,reduceSub,reduceLeDiff,reduceToNat,reducePow, <- hk] <;> rfl
  · rintro m O _ ⟨rfl, i, q0, q7, q8, q3, hm⟩
    have hv := zie i s (by omega)
    have hp : i < k -> 256 * 256 ^ i <= 18446744073709551616 := by
      intro h
      have : 256 ^ (i + 1) <= 256 ^ 8 := Nat.pow_le_pow_right (by decide) (by omega)
      rw [Nat.pow_succ] at this
      omega
    have hb := (s.getD i 0).toNat_lt
    repeat' (first|refine zW.zs ?_|refine zW.zb ?_|refine zW.zc ?_|refine zW.zt rfl ?_|refine zW.zf rfl ?_|(refine zW.zd rfl (fun ht => ?_) (fun ht => ?_)<;>try (exfalso;omega))|((first|refine zW.zr ?_|refine zW.zk ?_|refine zW.ze ?_|refine zW.zq ?_|((first|apply zg0|apply zg1|apply zg2|apply zg3|apply zg4|apply zg5|apply zg6|apply zg7)<;>intro ht));all_goals try simp (disch:=first|omega|(simp only [lens];first|done|omega)) only [go_sem,reduceEqDiff,Nat.reduceBEq,reduceAdd,reduceMul,reduceSub,reduceLeDiff,reduceToNat,reducePow, q0, q7, q8, q3]))
    · have hp' := hp (by omega)
      have hvt := zif s i (by omega)
      refine ⟨m - 1, by omega, i + 1, z6o (by omega), ?_, by omega⟩
      rw [hvt]
      exact z6o (by omega)
    · have e : i = k := by omega
      subst e
      exact DownV.same hw z54
/-- A text's bit at a place. -/
def bitS (s : List UInt8) (i : Int) : Nat := if 0 <= i /\ i / 8 < s.length then (s.getD (i / 8).toNat 0).toNat / 2 ^ (7 - i % 8).toNat % 2 else 0
theorem zkl (c n : Nat) : c / 2 ^ n <= c := Nat.div_le_self _ _
theorem zei (Y : Store) (s : List UInt8) (i : Int) (hs : s.length < 9223372036854775808) (hi : -9223372036854775808 <= i /\ i < 9223372036854775808) : ACallsTo TC 77 [.str s, .int .i64 i] Y (.int .i64 (bitS s i)) Y := by
  refine ACallsTo.of_body q3ok (by simp) fun hw _ => ?_
  have hb := (s.getD (i / 8).toNat 0).toNat_lt
  have hd := zkl (s.getD (i / 8).toNat 0).toNat (7 - i % 8).toNat
  obtain ⟨q, hq⟩ : ∃ q, q = (s.getD (i / 8).toNat 0).toNat / 2 ^ (7 - i % 8).toNat := ⟨_, rfl⟩
  have hc : ((s.getD (i / 8).toNat 0).toNat : Int) / 2 ^ (7 - i % 8).toNat = (q : Int) := by rw [hq]; simp
  rw [<- hq] at hd
  repeat' (first|refine zW.zs ?_|refine zW.zb ?_|refine zW.zc ?_|refine zW.zt rfl ?_|refine zW.zf rfl ?_|(refine zW.zd rfl (fun ht => ?_) (fun ht => ?_)<;>try (exfalso;omega))|((first|refine zW.zr ?_|refine zW.zk ?_|refine zW.ze ?_|refine zW.zq ?_|((first|apply zg0|apply zg1|apply zg2|apply zg3|apply zg4|apply zg5|apply zg6|apply zg7)<;>intro ht));all_goals try simp (disch:=first|omega|(simp only [lens];first|done|omega)) only [go_sem,reduceEqDiff,Nat.reduceBEq,reduceAdd,reduceMul,reduceSub,reduceLeDiff,reduceToNat,reducePow, hc]))
  · rw [bitS, if_neg (by omega)]
    exact DownV.same hw z54
  · rw [bitS, if_neg (by omega)]
    exact DownV.same hw z54
  · rw [bitS, if_pos (by omega), <- hq]
    exact DownV.same hw z54
end Am
end Go.Proofs.YtjgljhbmljgaeaaDoor
end
section
/- Functions on bits: plain laws. -/
namespace Go.Proofs.YtjgljhbmljgaeaaDoor
namespace Am
/-! Turning. -/
/-! Bits of a sum. -/
/-! What is put is got. -/
theorem zpx (x n : Int) : (putS x n).length <= 8 := by
  unfold putS
  split
  · rw [z3w]; omega
  · simp
/-! The highest bit. -/
/-- The bits down to a place, counted. -/
theorem zgy : ∀ (w x : Nat), x < 2 ^ w -> ∀ v, pc (w + v) x = pc w x
  | 0, x, h, v => by simp at h; subst h; simp [za7]
  | w + 1, x, h, v => by
    rw [show w + 1 + v = (w + v) + 1 by omega]
    simp only [pc]
    rw [zgy w (x / 2) (by rw [Nat.pow_succ] at h; omega) v]
end Am
end Go.Proofs.YtjgljhbmljgaeaaDoor
end
section
/- Abstract code. (Printed by wip/gen.) -/
set_option maxRecDepth 10000
namespace Go.Proofs.YtjgljhbmljgaeaaDoor
namespace Am

@[go_sem] def q8r0 : List AIns := [
  ⟨some 2,none,.no,.alloc zZ0⟩]
@[go_sem] def q8r1 : List AIns := [
  ⟨some 8,none,.no,.load true 8 (.v (.vp zbn))⟩,
  ⟨some 3,none,.no,.alloc [(.int .u32 0), (.int .u32 0), (.int .u32 0), (.int .u32 0), (.int .u32 0), (.int .u32 0), (.int .u32 0), (.int .u32 0)]⟩,
  ⟨none,none,.no,.store 8 (.t 3) (.t 8)⟩]
@[go_sem] def q8r2 : List AIns := [
  ⟨some 9,none,.no,.mv (.t 0)⟩,
  ⟨some 10,none,.no,.call (.v (.fn 67 [])) [(.t 9)]⟩,
  ⟨some 4,none,.no,.mv (.t 10)⟩]
@[go_sem] def q8r3 : List AIns := [
  ⟨some 11,none,.no,.mv (.t 4)⟩,
  ⟨some 12,none,.no,.bin .neq .none (.t 11) (.v (.str []))⟩]
def q8c4 : ACode := .cond (.t 12) .skip (.exit 0)
def q8c5 : ACode := .seq (.reg q8r3) q8c4
@[go_sem] def q8r6 : List AIns := [
  ⟨some 15,none,.no,.load true 8 (.t 3)⟩,
  ⟨some 16,none,.no,.mv (.t 4)⟩,
  ⟨some 17,none,.no,.slice .str (.t 16) none (some (.v (.int .i64 64))) none⟩,
  ⟨some 18,none,.no,.call (.v (.fn 68 [])) [(.t 15), (.t 17)]⟩,
  ⟨none,none,.no,.store 8 (.t 3) (.t 18)⟩]
@[go_sem] def q8r7 : List AIns := [
  ⟨some 13,none,.no,.mv (.t 4)⟩,
  ⟨some 14,none,.no,.slice .str (.t 13) (some (.v (.int .i64 64))) none none⟩,
  ⟨some 4,none,.no,.mv (.t 14)⟩]
def q8c8 : ACode := .seq (.block 1 (.reg q8r6)) (.reg q8r7)
def q8c9 : ACode := .seq q8c5 q8c8
def q8c10 : ACode := .loop q8c9
def q8c11 : ACode := .block 0 q8c10
def q8c12 : ACode := .seq (.reg q8r2) q8c11
@[go_sem] def q8r13 : List AIns := [
  ⟨some 5,none,.no,.alloc zZ0⟩]
@[go_sem] def q8r14 : List AIns := [
  ⟨some 19,none,.no,.load true 8 (.t 3)⟩,
  ⟨some 20,none,.no,.mv (.v (.int .i64 0))⟩]
@[go_sem] def q8r15 : List AIns := [
  ⟨some 21,none,.no,.bin .lss .none (.t 20) (.v (.int .i64 8))⟩]
@[go_sem] def q8r16 : List AIns := [
  ⟨some 22,none,.no,.mv (.t 20)⟩,
  ⟨some 23,none,.no,.ixArr 8 false 1 (.t 19) (.t 20)⟩,
  ⟨some 6,none,.no,.mv (.t 22)⟩,
  ⟨some 7,none,.no,.mv (.t 23)⟩]
@[go_sem] def q8r17 : List AIns := [
  ⟨some 24,none,.no,.mv (.t 6)⟩,
  ⟨some 25,none,.no,.bin .mul .none (.v (.int .i64 4)) (.t 24)⟩,
  ⟨some 26,none,.no,.slice (.arr 32 1) (.t 5) (some (.t 25)) none none⟩,
  ⟨some 27,none,.no,.mv (.t 7)⟩,
  ⟨some 28,none,.no,.conv (.int .u64) (.t 27)⟩,
  ⟨some 29,none,.no,.call (.v (.fn 61 [])) [(.t 28), (.v (.int .i64 4))]⟩,
  ⟨some 30,none,.no,.copy 1 (.t 26) (.t 29)⟩]
def q8c18 : ACode := .seq (.reg q8r16) (.reg q8r17)
@[go_sem] def q8r19 : List AIns := [
  ⟨some 31,none,.no,.bin .add .none (.t 20) (.v (.int .i64 1))⟩,
  ⟨some 20,none,.no,.mv (.t 31)⟩]
def q8c20 : ACode := .seq (.block 3 q8c18) (.reg q8r19)
def q8c21 : ACode := .seq (.cond (.t 21) .skip (.exit 2)) q8c20
def q8c22 : ACode := .seq (.reg q8r15) q8c21
def q8c23 : ACode := .loop q8c22
def q8c24 : ACode := .block 2 q8c23
def q8c25 : ACode := .seq (.reg q8r14) q8c24
@[go_sem] def q8r26 : List AIns := [
  ⟨some 32,none,.no,.load true 32 (.t 5)⟩,
  ⟨none,none,.no,.store 32 (.t 2) (.t 32)⟩]
def q8c27 : ACode := .seq (.reg q8r26) .ret
def q8c28 : ACode := .seq q8c25 q8c27
def q8c29 : ACode := .seq (.reg q8r13) q8c28
def q8c30 : ACode := .seq q8c12 q8c29
def q8c31 : ACode := .seq (.reg q8r1) q8c30
def q8c32 : ACode := .seq (.reg q8r0) q8c31
theorem q8ok : cFn TC 46 = some (33, [.c 2 true 32], q8c32) := by kernel_rfl

@[go_sem] def q9r0 : List AIns := [
  ⟨some 2,none,.no,.mv (.v (.str []))⟩]
@[go_sem] def q9r1 : List AIns := [
  ⟨some 4,none,.no,.mv (.t 0)⟩,
  ⟨some 5,none,.no,.lenStr (.t 4)⟩,
  ⟨some 6,none,.no,.bin .rem .none (.t 5) (.v (.int .i64 64))⟩,
  ⟨some 7,none,.no,.bin .sub .none (.v (.int .i64 119)) (.t 6)⟩,
  ⟨some 8,none,.no,.bin .rem .none (.t 7) (.v (.int .i64 64))⟩,
  ⟨some 3,none,.no,.mv (.t 8)⟩]
@[go_sem] def q9r2 : List AIns := [
  ⟨some 9,none,.no,.mv (.t 0)⟩,
  ⟨some 10,none,.no,.bin .add .none (.t 9) (.v (.str [128]))⟩,
  ⟨some 11,none,.no,.mv (.t 3)⟩,
  ⟨some 12,none,.no,.call (.v (.fn 85 [])) [(.v (.str [0])), (.t 11)]⟩,
  ⟨some 13,none,.no,.bin .add .none (.t 10) (.t 12)⟩,
  ⟨some 14,none,.no,.mv (.t 0)⟩,
  ⟨some 15,none,.no,.lenStr (.t 14)⟩,
  ⟨some 16,none,.no,.conv (.int .u64) (.t 15)⟩,
  ⟨some 17,none,.no,.bin .mul .none (.t 16) (.v (.int .u64 8))⟩,
  ⟨some 18,none,.no,.call (.v (.fn 61 [])) [(.t 17), (.v (.int .i64 8))]⟩,
  ⟨some 19,none,.no,.bin .add .none (.t 13) (.t 18)⟩,
  ⟨some 2,none,.no,.mv (.t 19)⟩]
def q9c3 : ACode := .seq (.reg q9r2) .ret
def q9c4 : ACode := .seq (.reg q9r1) q9c3
def q9c5 : ACode := .seq (.reg q9r0) q9c4
theorem q9ok : cFn TC 67 = some (20, [.t 2], q9c5) := by kernel_rfl

@[go_sem] def qar0 : List AIns := [
  ⟨some 2,none,.no,.box (.t 0)⟩,
  ⟨some 4,none,.no,.alloc [(.int .u32 0), (.int .u32 0), (.int .u32 0), (.int .u32 0), (.int .u32 0), (.int .u32 0), (.int .u32 0), (.int .u32 0)]⟩]
@[go_sem] def qar1 : List AIns := [
  ⟨some 13,none,.no,.load true 8 (.t 2)⟩,
  ⟨some 5,none,.no,.alloc [(.int .u32 0), (.int .u32 0), (.int .u32 0), (.int .u32 0), (.int .u32 0), (.int .u32 0), (.int .u32 0), (.int .u32 0)]⟩,
  ⟨none,none,.no,.store 8 (.t 5) (.t 13)⟩]
@[go_sem] def qar2 : List AIns := [
  ⟨some 14,none,.no,.mv (.t 1)⟩,
  ⟨some 15,none,.no,.call (.v (.fn 86 [])) [(.t 14)]⟩,
  ⟨some 16,none,.no,.mv (.v (.int .i64 0))⟩]
@[go_sem] def qar3 : List AIns := [
  ⟨some 17,none,.no,.bin .lss .none (.t 16) (.v (.int .i64 64))⟩]
@[go_sem] def qar4 : List AIns := [
  ⟨some 18,none,.no,.mv (.t 16)⟩,
  ⟨some 19,none,.no,.ixArr 64 false 1 (.t 15) (.t 16)⟩,
  ⟨some 6,none,.no,.mv (.t 18)⟩,
  ⟨some 7,none,.no,.mv (.t 19)⟩]
@[go_sem] def qar5 : List AIns := [
  ⟨some 20,none,.no,.iaArr 8 1 (.t 5) (.v (.int .i64 0))⟩,
  ⟨some 21, none, .rd, .load false 1 (.t 20)⟩,
  ⟨some 22,none,.no,.iaArr 8 1 (.t 5) (.v (.int .i64 4))⟩,
  ⟨some 23, none, .rd, .load false 1 (.t 22)⟩,
  ⟨some 8,none,.no,.mv (.t 21)⟩,
  ⟨some 9,none,.no,.mv (.t 23)⟩]
@[go_sem] def qar6 : List AIns := [
  ⟨some 24,none,.no,.iaArr 8 1 (.t 5) (.v (.int .i64 7))⟩,
  ⟨some 25, none, .rd, .load false 1 (.t 24)⟩,
  ⟨some 26,none,.no,.mv (.t 9)⟩,
  ⟨some 27, none, .ef, .call (.v (.fn 87 [])) [(.t 26), (.v (.int .i64 6))]⟩,
  ⟨some 28,none,.no,.mv (.t 9)⟩,
  ⟨some 29, none, .ef, .call (.v (.fn 87 [])) [(.t 28), (.v (.int .i64 11))]⟩,
  ⟨some 30,none,.no,.bin .xor .none (.t 27) (.t 29)⟩,
  ⟨some 31,none,.no,.mv (.t 9)⟩,
  ⟨some 32, none, .ef, .call (.v (.fn 87 [])) [(.t 31), (.v (.int .i64 25))]⟩,
  ⟨some 33,none,.no,.bin .xor .none (.t 30) (.t 32)⟩,
  ⟨some 34,none,.no,.bin .add .none (.t 25) (.t 33)⟩,
  ⟨some 35,none,.no,.mv (.t 9)⟩,
  ⟨some 36,none,.no,.iaArr 8 1 (.t 5) (.v (.int .i64 5))⟩,
  ⟨some 37, none, .rd, .load false 1 (.t 36)⟩,
  ⟨some 38,none,.no,.bin .and .none (.t 35) (.t 37)⟩,
  ⟨some 39,none,.no,.mv (.t 9)⟩,
  ⟨some 40,none,.no,.un .xor (.t 39)⟩,
  ⟨some 41,none,.no,.iaArr 8 1 (.t 5) (.v (.int .i64 6))⟩,
  ⟨some 42, none, .rd, .load false 1 (.t 41)⟩,
  ⟨some 43,none,.no,.bin .and .none (.t 40) (.t 42)⟩,
  ⟨some 44,none,.no,.bin .xor .none (.t 38) (.t 43)⟩,
  ⟨some 45,none,.no,.bin .add .none (.t 34) (.t 44)⟩,
  ⟨some 46,none,.no,.mv (.t 6)⟩,
  ⟨some 47,none,.no,.iaArr 64 1 (.v (.vp gl_sha_rounds)) (.t 46)⟩,
  ⟨some 48, none, .rd, .load false 1 (.t 47)⟩,
  ⟨some 49,none,.no,.bin .add .none (.t 45) (.t 48)⟩,
  ⟨some 50,none,.no,.mv (.t 7)⟩,
  ⟨some 51,none,.no,.bin .add .none (.t 49) (.t 50)⟩,
  ⟨some 10,none,.no,.mv (.t 51)⟩]
@[go_sem] def qar7 : List AIns := [
  ⟨some 52,none,.no,.mv (.t 8)⟩,
  ⟨some 53, none, .ef, .call (.v (.fn 87 [])) [(.t 52), (.v (.int .i64 2))]⟩,
  ⟨some 54,none,.no,.mv (.t 8)⟩,
  ⟨some 55, none, .ef, .call (.v (.fn 87 [])) [(.t 54), (.v (.int .i64 13))]⟩,
  ⟨some 56,none,.no,.bin .xor .none (.t 53) (.t 55)⟩,
  ⟨some 57,none,.no,.mv (.t 8)⟩,
  ⟨some 58, none, .ef, .call (.v (.fn 87 [])) [(.t 57), (.v (.int .i64 22))]⟩,
  ⟨some 59,none,.no,.bin .xor .none (.t 56) (.t 58)⟩,
  ⟨some 60,none,.no,.mv (.t 8)⟩,
  ⟨some 61,none,.no,.iaArr 8 1 (.t 5) (.v (.int .i64 1))⟩,
  ⟨some 62, none, .rd, .load false 1 (.t 61)⟩,
  ⟨some 63,none,.no,.bin .and .none (.t 60) (.t 62)⟩,
  ⟨some 64,none,.no,.mv (.t 8)⟩,
  ⟨some 65,none,.no,.iaArr 8 1 (.t 5) (.v (.int .i64 2))⟩,
  ⟨some 66, none, .rd, .load false 1 (.t 65)⟩,
  ⟨some 67,none,.no,.bin .and .none (.t 64) (.t 66)⟩,
  ⟨some 68,none,.no,.bin .xor .none (.t 63) (.t 67)⟩,
  ⟨some 69,none,.no,.iaArr 8 1 (.t 5) (.v (.int .i64 1))⟩,
  ⟨some 70, none, .rd, .load false 1 (.t 69)⟩,
  ⟨some 71,none,.no,.iaArr 8 1 (.t 5) (.v (.int .i64 2))⟩,
  ⟨some 72, none, .rd, .load false 1 (.t 71)⟩,
  ⟨some 73,none,.no,.bin .and .none (.t 70) (.t 72)⟩,
  ⟨some 74,none,.no,.bin .xor .none (.t 68) (.t 73)⟩,
  ⟨some 75,none,.no,.bin .add .none (.t 59) (.t 74)⟩,
  ⟨some 11,none,.no,.mv (.t 75)⟩]
@[go_sem] def qar8 : List AIns := [
  ⟨some 76,none,.no,.mv (.t 10)⟩,
  ⟨some 77,none,.no,.mv (.t 11)⟩,
  ⟨some 78,none,.no,.bin .add .none (.t 76) (.t 77)⟩,
  ⟨some 79,none,.no,.mv (.t 8)⟩,
  ⟨some 80,none,.no,.iaArr 8 1 (.t 5) (.v (.int .i64 1))⟩,
  ⟨some 81,none,.no,.load false 1 (.t 80)⟩,
  ⟨some 82,none,.no,.iaArr 8 1 (.t 5) (.v (.int .i64 2))⟩,
  ⟨some 83,none,.no,.load false 1 (.t 82)⟩,
  ⟨some 84,none,.no,.iaArr 8 1 (.t 5) (.v (.int .i64 3))⟩,
  ⟨some 85,none,.no,.load false 1 (.t 84)⟩,
  ⟨some 86,none,.no,.mv (.t 10)⟩,
  ⟨some 87,none,.no,.bin .add .none (.t 85) (.t 86)⟩,
  ⟨some 88,none,.no,.mv (.t 9)⟩,
  ⟨some 89,none,.no,.iaArr 8 1 (.t 5) (.v (.int .i64 5))⟩,
  ⟨some 90,none,.no,.load false 1 (.t 89)⟩,
  ⟨some 91,none,.no,.iaArr 8 1 (.t 5) (.v (.int .i64 6))⟩,
  ⟨some 92,none,.no,.load false 1 (.t 91)⟩,
  ⟨some 93,none,.no,.build [(.int .u32 0), (.int .u32 0), (.int .u32 0), (.int .u32 0), (.int .u32 0), (.int .u32 0), (.int .u32 0), (.int .u32 0)] [(0, 1, (.t 78)), (1, 1, (.t 79)), (2, 1, (.t 81)), (3, 1, (.t 83)), (4, 1, (.t 87)), (5, 1, (.t 88)), (6, 1, (.t 90)), (7, 1, (.t 92))]⟩,
  ⟨none,none,.no,.store 8 (.t 5) (.t 93)⟩]
def qac9 : ACode := .seq (.reg qar7) (.reg qar8)
def qac10 : ACode := .seq (.reg qar6) qac9
def qac11 : ACode := .seq (.reg qar5) qac10
def qac12 : ACode := .seq (.reg qar4) qac11
@[go_sem] def qar13 : List AIns := [
  ⟨some 94,none,.no,.bin .add .none (.t 16) (.v (.int .i64 1))⟩,
  ⟨some 16,none,.no,.mv (.t 94)⟩]
def qac14 : ACode := .seq (.block 1 qac12) (.reg qar13)
def qac15 : ACode := .seq (.cond (.t 17) .skip (.exit 0)) qac14
def qac16 : ACode := .seq (.reg qar3) qac15
def qac17 : ACode := .loop qac16
def qac18 : ACode := .block 0 qac17
def qac19 : ACode := .seq (.reg qar2) qac18
@[go_sem] def qar20 : List AIns := [
  ⟨some 95,none,.no,.mv (.v (.int .i64 0))⟩]
@[go_sem] def qar21 : List AIns := [
  ⟨some 96,none,.no,.bin .lss .none (.t 95) (.v (.int .i64 8))⟩]
@[go_sem] def qar22 : List AIns := [
  ⟨some 97,none,.no,.mv (.t 95)⟩,
  ⟨some 12,none,.no,.mv (.t 97)⟩]
@[go_sem] def qar23 : List AIns := [
  ⟨some 98,none,.no,.mv (.t 12)⟩,
  ⟨some 99,none,.no,.iaArr 8 1 (.t 5) (.t 98)⟩,
  ⟨some 100, none, .rd, .load false 1 (.t 99)⟩,
  ⟨some 101,none,.no,.mv (.t 12)⟩,
  ⟨some 102,none,.no,.iaArr 8 1 (.t 2) (.t 101)⟩,
  ⟨some 103, none, .rd, .load false 1 (.t 102)⟩,
  ⟨some 104,none,.no,.bin .add .none (.t 100) (.t 103)⟩,
  ⟨some 105,none,.no,.iaArr 8 1 (.t 5) (.t 98)⟩,
  ⟨none,none,.no,.store 1 (.t 105) (.t 104)⟩]
def qac24 : ACode := .seq (.reg qar22) (.reg qar23)
@[go_sem] def qar25 : List AIns := [
  ⟨some 106,none,.no,.bin .add .none (.t 95) (.v (.int .i64 1))⟩,
  ⟨some 95,none,.no,.mv (.t 106)⟩]
def qac26 : ACode := .seq (.block 3 qac24) (.reg qar25)
def qac27 : ACode := .seq (.cond (.t 96) .skip (.exit 2)) qac26
def qac28 : ACode := .seq (.reg qar21) qac27
def qac29 : ACode := .loop qac28
def qac30 : ACode := .block 2 qac29
def qac31 : ACode := .seq (.reg qar20) qac30
@[go_sem] def qar32 : List AIns := [
  ⟨some 107,none,.no,.load true 8 (.t 5)⟩,
  ⟨none,none,.no,.store 8 (.t 4) (.t 107)⟩]
def qac33 : ACode := .seq (.reg qar32) .ret
def qac34 : ACode := .seq qac31 qac33
def qac35 : ACode := .seq qac19 qac34
def qac36 : ACode := .seq (.reg qar1) qac35
def qac37 : ACode := .seq (.reg qar0) qac36
theorem qaok : cFn TC 68 = some (108, [.c 4 true 8], qac37) := by kernel_rfl

@[go_sem] def qbr0 : List AIns := [
  ⟨some 2,none,.no,.alloc [(.int .u32 0), (.int .u32 0), (.int .u32 0), (.int .u32 0), (.int .u32 0), (.int .u32 0), (.int .u32 0), (.int .u32 0), (.int .u32 0), (.int .u32 0), (.int .u32 0), (.int .u32 0), (.int .u32 0), (.int .u32 0), (.int .u32 0), (.int .u32 0), (.int .u32 0), (.int .u32 0), (.int .u32 0), (.int .u32 0), (.int .u32 0), (.int .u32 0), (.int .u32 0), (.int .u32 0), (.int .u32 0), (.int .u32 0), (.int .u32 0), (.int .u32 0), (.int .u32 0), (.int .u32 0), (.int .u32 0), (.int .u32 0), (.int .u32 0), (.int .u32 0), (.int .u32 0), (.int .u32 0), (.int .u32 0), (.int .u32 0), (.int .u32 0), (.int .u32 0), (.int .u32 0), (.int .u32 0), (.int .u32 0), (.int .u32 0), (.int .u32 0), (.int .u32 0), (.int .u32 0), (.int .u32 0), (.int .u32 0), (.int .u32 0), (.int .u32 0), (.int .u32 0), (.int .u32 0), (.int .u32 0), (.int .u32 0), (.int .u32 0), (.int .u32 0), (.int .u32 0), (.int .u32 0), (.int .u32 0), (.int .u32 0), (.int .u32 0), (.int .u32 0), (.int .u32 0)]⟩]
@[go_sem] def qbr1 : List AIns := [
  ⟨some 6,none,.no,.mv (.v (.int .i64 0))⟩]
@[go_sem] def qbr2 : List AIns := [
  ⟨some 7,none,.no,.bin .lss .none (.t 6) (.v (.int .i64 64))⟩]
@[go_sem] def qbr3 : List AIns := [
  ⟨some 8,none,.no,.mv (.t 6)⟩,
  ⟨some 3,none,.no,.mv (.t 8)⟩]
@[go_sem] def qbr4 : List AIns := [
  ⟨some 9,none,.no,.mv (.t 3)⟩,
  ⟨some 10,none,.no,.bin .lss .none (.t 9) (.v (.int .i64 16))⟩]
@[go_sem] def qbr5 : List AIns := [
  ⟨some 11,none,.no,.mv (.t 3)⟩,
  ⟨some 12,none,.no,.mv (.t 0)⟩,
  ⟨some 13,none,.no,.mv (.t 3)⟩,
  ⟨some 14,none,.no,.bin .mul .none (.v (.int .i64 4)) (.t 13)⟩,
  ⟨some 15,none,.no,.mv (.t 3)⟩,
  ⟨some 16,none,.no,.bin .mul .none (.v (.int .i64 4)) (.t 15)⟩,
  ⟨some 17,none,.no,.bin .add .none (.t 16) (.v (.int .i64 4))⟩,
  ⟨some 18,none,.no,.slice .str (.t 12) (some (.t 14)) (some (.t 17)) none⟩,
  ⟨some 19,none,.no,.call (.v (.fn 98 [])) [(.t 18)]⟩,
  ⟨some 20,none,.no,.conv (.int .u32) (.t 19)⟩,
  ⟨some 21,none,.no,.iaArr 64 1 (.t 2) (.t 11)⟩,
  ⟨none,none,.no,.store 1 (.t 21) (.t 20)⟩]
def qbc6 : ACode := .seq (.reg qbr5) (.exit 1)
def qbc7 : ACode := .cond (.t 10) qbc6 .skip
def qbc8 : ACode := .seq (.reg qbr4) qbc7
@[go_sem] def qbr9 : List AIns := [
  ⟨some 22,none,.no,.mv (.t 3)⟩,
  ⟨some 23,none,.no,.bin .sub .none (.t 22) (.v (.int .i64 15))⟩,
  ⟨some 24,none,.no,.iaArr 64 1 (.t 2) (.t 23)⟩,
  ⟨some 25, none, .rd, .load false 1 (.t 24)⟩,
  ⟨some 26,none,.no,.mv (.t 3)⟩,
  ⟨some 27,none,.no,.bin .sub .none (.t 26) (.v (.int .i64 2))⟩,
  ⟨some 28,none,.no,.iaArr 64 1 (.t 2) (.t 27)⟩,
  ⟨some 29, none, .rd, .load false 1 (.t 28)⟩,
  ⟨some 4,none,.no,.mv (.t 25)⟩,
  ⟨some 5,none,.no,.mv (.t 29)⟩]
@[go_sem] def qbr10 : List AIns := [
  ⟨some 30,none,.no,.mv (.t 3)⟩,
  ⟨some 31,none,.no,.mv (.t 3)⟩,
  ⟨some 32,none,.no,.bin .sub .none (.t 31) (.v (.int .i64 16))⟩,
  ⟨some 33,none,.no,.iaArr 64 1 (.t 2) (.t 32)⟩,
  ⟨some 34, none, .rd, .load false 1 (.t 33)⟩,
  ⟨some 35,none,.no,.mv (.t 3)⟩,
  ⟨some 36,none,.no,.bin .sub .none (.t 35) (.v (.int .i64 7))⟩,
  ⟨some 37,none,.no,.iaArr 64 1 (.t 2) (.t 36)⟩,
  ⟨some 38, none, .rd, .load false 1 (.t 37)⟩,
  ⟨some 39,none,.no,.bin .add .none (.t 34) (.t 38)⟩,
  ⟨some 40,none,.no,.mv (.t 4)⟩,
  ⟨some 41, none, .ef, .call (.v (.fn 87 [])) [(.t 40), (.v (.int .i64 7))]⟩,
  ⟨some 42,none,.no,.mv (.t 4)⟩,
  ⟨some 43, none, .ef, .call (.v (.fn 87 [])) [(.t 42), (.v (.int .i64 18))]⟩,
  ⟨some 44,none,.no,.bin .xor .none (.t 41) (.t 43)⟩,
  ⟨some 45,none,.no,.mv (.t 4)⟩,
  ⟨some 46,none,.no,.bin .shr .none (.t 45) (.v (.int .u64 3))⟩,
  ⟨some 47,none,.no,.bin .xor .none (.t 44) (.t 46)⟩,
  ⟨some 48,none,.no,.bin .add .none (.t 39) (.t 47)⟩,
  ⟨some 49,none,.no,.mv (.t 5)⟩,
  ⟨some 50, none, .ef, .call (.v (.fn 87 [])) [(.t 49), (.v (.int .i64 17))]⟩,
  ⟨some 51,none,.no,.mv (.t 5)⟩,
  ⟨some 52, none, .ef, .call (.v (.fn 87 [])) [(.t 51), (.v (.int .i64 19))]⟩,
  ⟨some 53,none,.no,.bin .xor .none (.t 50) (.t 52)⟩,
  ⟨some 54,none,.no,.mv (.t 5)⟩,
  ⟨some 55,none,.no,.bin .shr .none (.t 54) (.v (.int .u64 10))⟩,
  ⟨some 56,none,.no,.bin .xor .none (.t 53) (.t 55)⟩,
  ⟨some 57,none,.no,.bin .add .none (.t 48) (.t 56)⟩,
  ⟨some 58,none,.no,.iaArr 64 1 (.t 2) (.t 30)⟩,
  ⟨none,none,.no,.store 1 (.t 58) (.t 57)⟩]
def qbc11 : ACode := .seq (.reg qbr9) (.reg qbr10)
def qbc12 : ACode := .seq qbc8 qbc11
def qbc13 : ACode := .seq (.reg qbr3) qbc12
@[go_sem] def qbr14 : List AIns := [
  ⟨some 59,none,.no,.bin .add .none (.t 6) (.v (.int .i64 1))⟩,
  ⟨some 6,none,.no,.mv (.t 59)⟩]
def qbc15 : ACode := .seq (.block 1 qbc13) (.reg qbr14)
def qbc16 : ACode := .seq (.cond (.t 7) .skip (.exit 0)) qbc15
def qbc17 : ACode := .seq (.reg qbr2) qbc16
def qbc18 : ACode := .loop qbc17
def qbc19 : ACode := .block 0 qbc18
def qbc20 : ACode := .seq (.reg qbr1) qbc19
@[go_sem] def qbr21 : List AIns := [
  ⟨some 60,none,.no,.load true 64 (.t 2)⟩,
  ⟨none,none,.no,.store 64 (.t 2) (.t 60)⟩]
def qbc22 : ACode := .seq (.reg qbr21) .ret
def qbc23 : ACode := .seq qbc20 qbc22
def qbc24 : ACode := .seq (.reg qbr0) qbc23
theorem qbok : cFn TC 86 = some (61, [.c 2 true 64], qbc24) := by kernel_rfl
end Am
end Go.Proofs.YtjgljhbmljgaeaaDoor
end
section
/- SHA-256 in plain Lean, and words of 32 bits as_ the machine has them. -/
namespace Go.Proofs.YtjgljhbmljgaeaaDoor
namespace Am
abbrev W := BitVec 32
def wc (x : W) : AV := .int .u32 x.toNat
def ws (l : List W) : List AV := l.map wc
def ss0 (x : W) : W := (x.rotateLeft 25 ^^^ x.rotateLeft 14) ^^^ x >>> 3
def ss1 (y : W) : W := (y.rotateLeft 15 ^^^ y.rotateLeft 13) ^^^ y >>> 10
def bs1 (e : W) : W := (e.rotateLeft 26 ^^^ e.rotateLeft 21) ^^^ e.rotateLeft 7
def bs0 (a : W) : W := (a.rotateLeft 30 ^^^ a.rotateLeft 19) ^^^ a.rotateLeft 10
def chW (e f g : W) : W := (e &&& f) ^^^ (~~~e &&& g)
def majW (a b c : W) : W := ((a &&& b) ^^^ (a &&& c)) ^^^ (b &&& c)
def zh (s : List UInt8) (i : Nat) : W := BitVec.ofNat 32 (getS ((s.drop (4 * i)).take 4))
def wat (w : List W) (i : Nat) : W := w.getD i 0
def z3t (s : List UInt8) (w : List W) : W :=
  if w.length < 16 then zh s w.length else wat w (w.length - 16) + wat w (w.length - 7) + ss0 (wat w (w.length - 15)) + ss1 (wat w (w.length - 2))
def z1d (s : List UInt8) : Nat -> List W
  | 0 => []
  | n + 1 => z1d s n ++ [z3t s (z1d s n)]
structure V8 where
  a : W
  b : W
  c : W
  d : W
  e : W
  f : W
  g : W
  h : W
def V8.l (v : V8) : List W := [v.a, v.b, v.c, v.d, v.e, v.f, v.g, v.h]
def rnd (v : V8) (k w : W) : V8 :=
  ⟨(v.h + bs1 v.e + chW v.e v.f v.g + k + w) + (bs0 v.a + majW v.a v.b v.c), v.a, v.b, v.c, v.d + (v.h + bs1 v.e + chW v.e v.f v.g + k + w), v.e, v.f, v.g⟩
def kAt (n : Nat) : W := BitVec.ofInt 32 (shaRounds.getD n 0)
def rnds (s : List UInt8) (v : V8) : Nat -> V8
  | 0 => v
  | n + 1 => rnd (rnds s v n) (kAt n) (wat (z1d s 64) n)
def V8.add (v u : V8) : V8 := ⟨v.a + u.a, v.b + u.b, v.c + u.c, v.d + u.d, v.e + u.e, v.f + u.f, v.g + u.g, v.h + u.h⟩
def mixS (v : V8) (s : List UInt8) : V8 := (rnds s v 64).add v
def blocks : Nat -> V8 -> List UInt8 -> V8
  | 0, v, _ => v
  | n + 1, v, s => blocks n (mixS v (s.take 64)) (s.drop 64)
def v0 : V8 := ⟨1779033703#32, 3144134277#32, 1013904242#32, 2773480762#32, 1359893119#32, 2600822924#32, 528734635#32, 1541459225#32⟩
def padS (s : List UInt8) : List UInt8 := s ++ 128 :: (List.replicate ((119 - s.length % 64) % 64) 0 ++ be 8 (s.length * 8))
def outV (v : V8) : List UInt8 := v.l.flatMap fun x => be 4 x.toNat
/-- SHA-256. -/
def shaS (s : List UInt8) : List UInt8 := outV (blocks ((padS s).length / 64) v0 (padS s))
theorem zd6 (s : List UInt8) : ∀ n, (z1d s n).length = n
  | 0 => rfl
  | n + 1 => by simp [z1d, zd6 s n]
theorem zdu {w : List W} {i : Nat} (h : i < w.length) : (ws w)[i]? = some (.int .u32 (wat w i).toNat) := by
  simp [ws, wc, wat, List.getElem?_map, List.getD_eq_getElem?_getD, List.getElem?_eq_getElem h]
theorem z92 (w : List W) : (ws w).length = w.length := by simp [ws]
section
theorem wr32 (x : BitVec 32) : IntKind.u32.wrap (x.toNat : Int) = x.toNat := z90 ⟨by omega, by have := x.isLt; omega⟩
theorem bw_add (a b : BitVec 32) : zy .add .u32 (a.toNat : Int) (b.toNat : Int) = some (.int .u32 ((a + b).toNat : Int)) := by
  rw [zfu, z91, BitVec.toNat_add]; rfl
theorem bw_xor (a b : BitVec 32) : zy .xor .u32 (a.toNat : Int) (b.toNat : Int) = some (.int .u32 ((a ^^^ b).toNat : Int)) := by
  rw [zfx ⟨by omega, by have := a.isLt; omega⟩ ⟨by omega, by have := b.isLt; omega⟩, BitVec.toNat_xor]; rfl
theorem bw_and (a b : BitVec 32) : zy .and .u32 (a.toNat : Int) (b.toNat : Int) = some (.int .u32 ((a &&& b).toNat : Int)) := by
  rw [zfv ⟨by omega, by have := a.isLt; omega⟩ ⟨by omega, by have := b.isLt; omega⟩, BitVec.toNat_and]; rfl
theorem bw_or (a b : BitVec 32) : zy .or .u32 (a.toNat : Int) (b.toNat : Int) = some (.int .u32 ((a ||| b).toNat : Int)) := by
  rw [zfw ⟨by omega, by have := a.isLt; omega⟩ ⟨by omega, by have := b.isLt; omega⟩, BitVec.toNat_or]; rfl
theorem bw_shr {a : BitVec 32} {n : Int} (h : 0 <= n /\ n < 32) : z1e .shr .u32 (a.toNat : Int) n = some (.int .u32 ((a >>> n.toNat).toNat : Int)) := by
  rw [zhx h, BitVec.toNat_ushiftRight, Nat.shiftRight_eq_div_pow, Int.natCast_ediv, Int.natCast_pow]; rfl
theorem bw_shl {a : BitVec 32} {n : Int} (h : 0 <= n /\ n < 32) : z1e .shl .u32 (a.toNat : Int) n = some (.int .u32 ((a <<< n.toNat).toNat : Int)) := by
  rw [zhu h, BitVec.toNat_shiftLeft, Nat.shiftLeft_eq, z91]
  rw [Int.natCast_emod, Int.natCast_mul, Int.natCast_pow]; rfl
theorem bw_not (a : BitVec 32) : aUn .xor (.int .u32 (a.toNat : Int)) = some (.int .u32 ((~~~a).toNat : Int)) := by
  have e1 : BitVec.ofInt IntKind.u32.bits (a.toNat : Int) = a := by
    apply BitVec.eq_of_toNat_eq
    have := a.isLt
    rw [BitVec.toNat_ofInt]
    simp only [IntKind.bits]
    omega
  have e2 : BitVec.ofInt IntKind.u32.bits (if IntKind.u32.signed = true then -1 else IntKind.u32.max) = BitVec.allOnes 32 := by rfl
  have e3 : aUn .xor (.int .u32 (a.toNat : Int)) = some (.int .u32 (IntKind.u32.wrap (((BitVec.ofInt IntKind.u32.bits (if IntKind.u32.signed = true then -1 else IntKind.u32.max) ^^^ BitVec.ofInt IntKind.u32.bits (a.toNat : Int)).toNat : Nat) : Int))) := rfl
  rw [e3, e1, e2]
  have e4 : BitVec.allOnes 32 ^^^ a = ~~~a := BitVec.allOnes_xor
  show some (AV.int .u32 (IntKind.u32.wrap ((BitVec.allOnes 32 ^^^ a).toNat : Int))) = _
  rw [e4, wr32]
end
attribute [go_sem high] bw_add bw_xor bw_and bw_or bw_shr bw_shl bw_not
end Am
end Go.Proofs.YtjgljhbmljgaeaaDoor
end
section
/- Packed words: lanes of 64 bits in one number. -/
namespace Go.Proofs.YtjgljhbmljgaeaaDoor
namespace Pk
/-- Lanes of 64 bits. -/
def pkN : List Nat -> Nat
  | [] => 0
  | x :: l => 2 ^ 64 * pkN l + x
def lane (l : List Nat) (q : Nat) : Nat := l.getD q 0
theorem zh1 : ∀ (l : List Nat) (i : Nat), (∀ x ∈ l, x < 2 ^ 64) -> (pkN l).testBit i = (lane l (i / 64)).testBit (i % 64)
  | [], i, _ => by simp [pkN, lane]
  | x :: l, i, h => by
    rw [pkN, Nat.testBit_two_pow_mul_add _ (h x (by simp))]
    by_cases hi : i < 64
    · rw [if_pos hi, show i / 64 = 0 by omega, show i % 64 = i by omega]; rfl
    · rw [if_neg hi, zh1 l (i - 64) (fun y hy => h y (by simp [hy])), show i / 64 = (i - 64) / 64 + 1 by omega, show i % 64 = (i - 64) % 64 by omega]
      rfl
theorem pk_at {l : List Nat} (hl : ∀ x ∈ l, x < 2 ^ 64) (q r : Nat) (hr : r < 64) : (pkN l).testBit (64 * q + r) = (lane l q).testBit r := by
  rw [zh1 l _ hl, show (64 * q + r) / 64 = q by omega, show (64 * q + r) % 64 = r by omega]
section
variable {ι : Type} (L : List ι)
/-- A word of each item, packed. -/
def P (f : ι -> Nat) : Nat := pkN (L.map f)
theorem P_add (f g : ι -> Nat) : P L f + P L g = P L (fun i => f i + g i) := by
  unfold P
  induction L with
  | nil => rfl
  | cons x l ih => simp only [List.map_cons, pkN] at ih ⊢; rw [<- ih]; omega
theorem P_mul (f : ι -> Nat) (c : Nat) : P L f * c = P L (fun i => f i * c) := by
  unfold P
  induction L with
  | nil => simp [pkN]
  | cons x l ih => simp only [List.map_cons, pkN] at ih ⊢; rw [<- ih, Nat.add_mul, Nat.mul_assoc]
theorem zmq (f : ι -> Nat) (q : Nat) : lane (L.map f) q = ((L[q]?).map f).getD 0 := by
  simp [lane, List.getD_eq_getElem?_getD]
theorem z7d {f : ι -> Nat} (h : ∀ i, f i < 2 ^ 64) (q r : Nat) (hr : r < 64) : (P L f).testBit (64 * q + r) = ((L[q]?).map f).any (·.testBit r) := by
  unfold P
  rw [pk_at (by simp only [List.mem_map]; rintro x ⟨i, _, rfl⟩; exact h i) q r hr, zmq]
  cases L[q]? <;> simp
theorem P_ext {f : ι -> Nat} (h : ∀ i, f i < 2 ^ 64) {N : Nat} (hN : ∀ q r, r < 64 -> N.testBit (64 * q + r) = ((L[q]?).map f).any (·.testBit r)) : N = P L f := by
  apply Nat.eq_of_testBit_eq
  intro i
  have e : i = 64 * (i / 64) + i % 64 := (Nat.div_add_mod i 64).symm
  rw [e, hN _ _ (Nat.mod_lt _ (by omega)), z7d L h _ _ (Nat.mod_lt _ (by omega))]
abbrev W := BitVec 32
/-- Words of each item, packed. -/
def Q (f : ι -> W) : Nat := P L (fun i => (f i).toNat)
def M : Nat := P L (fun _ => 4294967295)
def one : Nat := P L (fun _ => 1)
theorem w64 (x : W) : x.toNat < 2 ^ 64 := by have := x.isLt; omega
theorem Q_bit {f : ι -> W} (q r : Nat) (hr : r < 64) : (Q L f).testBit (64 * q + r) = (L[q]?).any (fun i => (f i).getLsbD r) := by
  unfold Q
  rw [z7d L (fun i => w64 _) q r hr]
  cases L[q]? <;> simp [BitVec.getLsbD]
theorem Q_ext {f : ι -> W} {N : Nat} (hN : ∀ q r, r < 64 -> N.testBit (64 * q + r) = (L[q]?).any (fun i => (f i).getLsbD r)) : N = Q L f := by
  apply P_ext L (fun i => w64 _)
  intro q r hr
  rw [hN q r hr]
  cases L[q]? <;> simp [BitVec.getLsbD]
theorem M_bit (q r : Nat) (hr : r < 64) : (M L).testBit (64 * q + r) = (L[q]?).any (fun _ => decide (r < 32)) := by
  unfold M
  rw [z7d L (fun i => by omega) q r hr]
  cases L[q]? with
  | none => simp
  | some x =>
    simp only [Option.map_some, Option.any_some]
    rw [show (4294967295 : Nat) = 2 ^ 32 - 1 from rfl, Nat.testBit_two_pow_sub_one]
theorem Q_xor (f g : ι -> W) : Q L f ^^^ Q L g = Q L (fun i => f i ^^^ g i) := by
  apply Q_ext
  intro q r hr
  rw [Nat.testBit_xor, Q_bit L q r hr, Q_bit L q r hr]
  cases L[q]? <;> simp
theorem Q_and (f g : ι -> W) : Q L f &&& Q L g = Q L (fun i => f i &&& g i) := by
  apply Q_ext
  intro q r hr
  rw [Nat.testBit_and, Q_bit L q r hr, Q_bit L q r hr]
  cases L[q]? <;> simp
theorem Q_not (f : ι -> W) : M L ^^^ Q L f = Q L (fun i => ~~~ f i) := by
  apply Q_ext
  intro q r hr
  rw [Nat.testBit_xor, Q_bit L q r hr, M_bit L q r hr]
  cases L[q]? with
  | none => simp
  | some x =>
    simp only [Option.any_some, BitVec.getLsbD_not]
    by_cases h : r < 32
    · simp [h]
    · simp [h, BitVec.getLsbD_of_ge _ _ (show 32 <= r by omega)]
/-- A sum, brought back. -/
theorem P_mask {f : ι -> Nat} (h : ∀ i, f i < 2 ^ 64) : P L f &&& M L = Q L (fun i => BitVec.ofNat 32 (f i)) := by
  apply Q_ext
  intro q r hr
  rw [Nat.testBit_and, z7d L h q r hr, M_bit L q r hr]
  cases L[q]? with
  | none => simp
  | some x => simp [BitVec.getLsbD_ofNat]; exact Bool.and_comm _ _
/-- Doubled words. -/
def cD : Nat := 2 ^ 32 + 1
theorem cD_is (x : Nat) : x * cD = 2 ^ 32 * x + x := by rw [cD, Nat.mul_add, Nat.mul_comm, Nat.mul_one]
def dbl (x : Nat) : Nat := x * cD
theorem zkk (x : W) (r : Nat) : (x.toNat * cD).testBit r = if r < 32 then x.getLsbD r else x.getLsbD (r - 32) := by
  rw [cD_is, Nat.testBit_two_pow_mul_add _ x.isLt]
  rfl
theorem dbl_lt (x : W) : x.toNat * cD < 2 ^ 64 := by have := x.isLt; rw [cD_is]; omega
theorem D_bit {f : ι -> W} (q r : Nat) (hr : r < 64) : (dbl (Q L f)).testBit (64 * q + r) = (L[q]?).any (fun i => if r < 32 then (f i).getLsbD r else (f i).getLsbD (r - 32)) := by
  have e : dbl (Q L f) = P L (fun i => (f i).toNat * cD) := by unfold dbl Q; rw [P_mul]
  rw [e, z7d L (fun i => dbl_lt (f i)) q r hr]
  cases L[q]? with
  | none => rfl
  | some x => rw [Option.map_some, Option.any_some, Option.any_some, zkk]
theorem rl_bit (x : W) (r k : Nat) (h0 : 0 < k) (hk : k < 32) (h : r < 32) : (x.rotateLeft (32 - k)).getLsbD r = if k + r < 32 then x.getLsbD (k + r) else x.getLsbD (k + r - 32) := by
  rw [BitVec.getLsbD_rotateLeft, Nat.mod_eq_of_lt (show 32 - k < 32 by omega)]
  by_cases h1 : r < 32 - k
  · rw [if_pos (by omega), decide_eq_true h1, cond_true, show 32 - (32 - k) + r = k + r by omega]
  · rw [if_neg (by omega), decide_eq_false h1, cond_false, decide_eq_true h, Bool.true_and, show k + r - 32 = r - (32 - k) by omega]
theorem z7c {f : ι -> W} (q r k : Nat) (h : r < 32) (h0 : 0 < k) (hk : k < 32) : (dbl (Q L f) >>> k).testBit (64 * q + r) = (L[q]?).any (fun i => ((f i).rotateLeft (32 - k)).getLsbD r) := by
  rw [Nat.testBit_shiftRight, show k + (64 * q + r) = 64 * q + (k + r) by omega, D_bit L q (k + r) (by omega)]
  cases L[q]? with
  | none => rfl
  | some x => simp only [Option.any_some]; rw [rl_bit _ _ _ h0 hk h]
/-- Three turns. -/
theorem Q_rot3 (f : ι -> W) (a b c : Nat) (ha : 0 < a /\ a < 32) (hb : 0 < b /\ b < 32) (hc : 0 < c /\ c < 32) :
    ((dbl (Q L f) >>> a ^^^ dbl (Q L f) >>> b) ^^^ dbl (Q L f) >>> c) &&& M L = Q L (fun i => ((f i).rotateLeft (32 - a) ^^^ (f i).rotateLeft (32 - b)) ^^^ (f i).rotateLeft (32 - c)) := by
  apply Q_ext
  intro q r hr
  rw [Nat.testBit_and, M_bit L q r hr]
  by_cases h : r < 32
  · rw [Nat.testBit_xor, Nat.testBit_xor, z7c L q r a h ha.1 ha.2, z7c L q r b h hb.1 hb.2, z7c L q r c h hc.1 hc.2]
    cases L[q]? <;> simp [h]
  · cases L[q]? with
    | none => simp
    | some x => simp [h, BitVec.getLsbD_of_ge _ _ (show 32 <= r by omega)]
/-- Two turns and a shift. -/
theorem Q_rot2 (f : ι -> W) (a b c : Nat) (ha : 0 < a /\ a < 32) (hb : 0 < b /\ b < 32) (hc : 0 < c /\ c < 32) :
    ((dbl (Q L f) >>> a ^^^ dbl (Q L f) >>> b) ^^^ Q L f >>> c) &&& M L = Q L (fun i => ((f i).rotateLeft (32 - a) ^^^ (f i).rotateLeft (32 - b)) ^^^ (f i) >>> c) := by
  apply Q_ext
  intro q r hr
  rw [Nat.testBit_and, M_bit L q r hr]
  by_cases h : r < 32
  · rw [Nat.testBit_xor, Nat.testBit_xor, z7c L q r a h ha.1 ha.2, z7c L q r b h hb.1 hb.2, Nat.testBit_shiftRight, show c + (64 * q + r) = 64 * q + (c + r) by omega, Q_bit L q (c + r) (by omega)]
    cases L[q]? <;> simp [h]
  · cases L[q]? with
    | none => simp
    | some x => simp [h, BitVec.getLsbD_of_ge _ _ (show 32 <= r by omega)]
end
end Pk
end Go.Proofs.YtjgljhbmljgaeaaDoor
end
section
/- Packed words: the rounds of SHA-256. -/
set_option maxRecDepth 4000
namespace Go.Proofs.YtjgljhbmljgaeaaDoor
namespace Am
open Pk (P Q M one pkN dbl cD)
/-- A number, worked out ahead of what is made of it. -/
noncomputable def frc {α : Type} (n : Nat) (f : Nat -> α) : α := Nat.rec (f 0) (fun k _ => f (Nat.succ k)) n
theorem z8 {α : Type} (n : Nat) (f : Nat -> α) : frc n f = f n := by cases n <;> rfl
structure S8 where
  a : Nat
  b : Nat
  c : Nat
  d : Nat
  e : Nat
  f : Nat
  g : Nat
  h : Nat
noncomputable def rot3 (m x a b c : Nat) : Nat := frc (Nat.mul x 4294967297) fun y => Nat.land (Nat.xor (Nat.xor (Nat.shiftRight y a) (Nat.shiftRight y b)) (Nat.shiftRight y c)) m
noncomputable def rot2 (m x a b c : Nat) : Nat := frc (Nat.mul x 4294967297) fun y => Nat.land (Nat.xor (Nat.xor (Nat.shiftRight y a) (Nat.shiftRight y b)) (Nat.shiftRight x c)) m
noncomputable def t1N (m o e f g h k w : Nat) : Nat :=
  Nat.add (Nat.add (Nat.add (Nat.add h (rot3 m e 6 11 25)) (Nat.xor (Nat.land e f) (Nat.land (Nat.xor m e) g))) (Nat.mul o k)) w
noncomputable def t2N (m a b c : Nat) : Nat := Nat.add (rot3 m a 2 13 22) (Nat.xor (Nat.xor (Nat.land a b) (Nat.land a c)) (Nat.land b c))
noncomputable def nwN (m w0 w1 w9 w14 : Nat) : Nat := Nat.land (Nat.add (Nat.add (Nat.add w0 w9) (rot2 m w1 7 18 3)) (rot2 m w14 17 19 10)) m
/-- So many rounds. -/
noncomputable def goN (m o : Nat) (ks : List Nat) : Nat -> Nat -> Nat -> Nat -> Nat -> Nat -> Nat -> Nat -> Nat -> Nat -> Nat -> Nat -> Nat -> Nat -> Nat -> Nat -> Nat -> Nat -> Nat -> Nat -> Nat -> Nat -> Nat -> Nat -> S8 :=
  List.rec (motive := fun _ => Nat -> Nat -> Nat -> Nat -> Nat -> Nat -> Nat -> Nat -> Nat -> Nat -> Nat -> Nat -> Nat -> Nat -> Nat -> Nat -> Nat -> Nat -> Nat -> Nat -> Nat -> Nat -> Nat -> Nat -> S8)
    (fun a b c d e f g h _ _ _ _ _ _ _ _ _ _ _ _ _ _ _ _ => ⟨a, b, c, d, e, f, g, h⟩)
    (fun k _ ih a b c d e f g h w0 w1 w2 w3 w4 w5 w6 w7 w8 w9 w10 w11 w12 w13 w14 w15 =>
      frc (t1N m o e f g h k w0) fun t => frc (Nat.land (Nat.add t (t2N m a b c)) m) fun a' => frc (Nat.land (Nat.add d t) m) fun e' => frc (nwN m w0 w1 w9 w14) fun w' =>
        ih a' a b c e' e f g w1 w2 w3 w4 w5 w6 w7 w8 w9 w10 w11 w12 w13 w14 w15 w') ks
theorem zlj (m o a b c d e f g h w0 w1 w2 w3 w4 w5 w6 w7 w8 w9 w10 w11 w12 w13 w14 w15 : Nat) : goN m o [] a b c d e f g h w0 w1 w2 w3 w4 w5 w6 w7 w8 w9 w10 w11 w12 w13 w14 w15 = ⟨a, b, c, d, e, f, g, h⟩ := rfl
theorem zli (m o k : Nat) (ks : List Nat) (a b c d e f g h w0 w1 w2 w3 w4 w5 w6 w7 w8 w9 w10 w11 w12 w13 w14 w15 : Nat) : goN m o (k :: ks) a b c d e f g h w0 w1 w2 w3 w4 w5 w6 w7 w8 w9 w10 w11 w12 w13 w14 w15 =
    goN m o ks (Nat.land (Nat.add (t1N m o e f g h k w0) (t2N m a b c)) m) a b c (Nat.land (Nat.add d (t1N m o e f g h k w0)) m) e f g w1 w2 w3 w4 w5 w6 w7 w8 w9 w10 w11 w12 w13 w14 w15 (nwN m w0 w1 w9 w14) := by
  unfold goN
  dsimp only
  rw [z8, z8, z8, z8]
theorem zer : (4294967297 : Nat) = cD := by decide
section
variable {ι : Type} (L : List ι)
theorem zhi (f : ι -> W) (a b c : Nat) (ha : 0 < a /\ a < 32) (hb : 0 < b /\ b < 32) (hc : 0 < c /\ c < 32) :
    rot3 (M L) (Q L f) a b c = Q L (fun i => ((f i).rotateLeft (32 - a) ^^^ (f i).rotateLeft (32 - b)) ^^^ (f i).rotateLeft (32 - c)) := by
  unfold rot3
  rw [z8, zer]
  exact Pk.Q_rot3 L f a b c ha hb hc
theorem zhh (f : ι -> W) (a b c : Nat) (ha : 0 < a /\ a < 32) (hb : 0 < b /\ b < 32) (hc : 0 < c /\ c < 32) :
    rot2 (M L) (Q L f) a b c = Q L (fun i => ((f i).rotateLeft (32 - a) ^^^ (f i).rotateLeft (32 - b)) ^^^ (f i) >>> c) := by
  unfold rot2
  rw [z8, zer]
  exact Pk.Q_rot2 L f a b c ha hb hc
theorem t1_ok (e f g h w : ι -> W) (k : W) : t1N (M L) (one L) (Q L e) (Q L f) (Q L g) (Q L h) k.toNat (Q L w) = P L (fun i => (h i).toNat + (bs1 (e i)).toNat + (chW (e i) (f i) (g i)).toNat + k.toNat + (w i).toNat) := by
  unfold t1N
  rw [zhi L e 6 11 25 (by omega) (by omega) (by omega)]
  have h1 : Nat.xor (Nat.land (Q L e) (Q L f)) (Nat.land (Nat.xor (M L) (Q L e)) (Q L g)) = Q L (fun i => chW (e i) (f i) (g i)) := by
    have a1 : Nat.land (Q L e) (Q L f) = Q L (fun i => e i &&& f i) := Pk.Q_and L e f
    have a2 : Nat.xor (M L) (Q L e) = Q L (fun i => ~~~ e i) := Pk.Q_not L e
    have a3 : Nat.land (Q L (fun i => ~~~ e i)) (Q L g) = Q L (fun i => ~~~ e i &&& g i) := Pk.Q_and L _ g
    rw [a1, a2, a3]
    exact Pk.Q_xor L _ _
  have h2 : Nat.mul (one L) k.toNat = P L (fun _ => k.toNat) := by
    have := Pk.P_mul L (fun _ => 1) k.toNat
    simpa [one] using this
  rw [h1, h2]
  have add : ∀ f g : ι -> Nat, Nat.add (P L f) (P L g) = P L (fun i => f i + g i) := Pk.P_add L
  unfold Q
  rw [add, add, add, add]
  rfl
theorem t2_ok (a b c : ι -> W) : t2N (M L) (Q L a) (Q L b) (Q L c) = P L (fun i => (bs0 (a i)).toNat + (majW (a i) (b i) (c i)).toNat) := by
  unfold t2N
  rw [zhi L a 2 13 22 (by omega) (by omega) (by omega)]
  have h1 : Nat.xor (Nat.xor (Nat.land (Q L a) (Q L b)) (Nat.land (Q L a) (Q L c))) (Nat.land (Q L b) (Q L c)) = Q L (fun i => majW (a i) (b i) (c i)) := by
    have a1 : ∀ f g : ι -> W, Nat.land (Q L f) (Q L g) = Q L (fun i => f i &&& g i) := Pk.Q_and L
    have a2 : ∀ f g : ι -> W, Nat.xor (Q L f) (Q L g) = Q L (fun i => f i ^^^ g i) := Pk.Q_xor L
    rw [a1, a1, a1, a2, a2]
    rfl
  rw [h1]
  have add : ∀ f g : ι -> Nat, Nat.add (P L f) (P L g) = P L (fun i => f i + g i) := Pk.P_add L
  unfold Q
  rw [add]
  rfl
theorem z6r {f : ι -> Nat} (g : ι -> W) (h : ∀ i, f i < 2 ^ 64) (hg : ∀ i, BitVec.ofNat 32 (f i) = g i) : Nat.land (P L f) (M L) = Q L g := by
  have := Pk.P_mask L h
  rw [show (fun i => BitVec.ofNat 32 (f i)) = g from funext hg] at this
  exact this
theorem nw_ok (w0 w1 w9 w14 : ι -> W) : nwN (M L) (Q L w0) (Q L w1) (Q L w9) (Q L w14) = Q L (fun i => w0 i + w9 i + ss0 (w1 i) + ss1 (w14 i)) := by
  unfold nwN
  rw [zhh L w1 7 18 3 (by omega) (by omega) (by omega), zhh L w14 17 19 10 (by omega) (by omega) (by omega)]
  have add : ∀ f g : ι -> Nat, Nat.add (P L f) (P L g) = P L (fun i => f i + g i) := Pk.P_add L
  have e : Nat.add (Nat.add (Nat.add (Q L w0) (Q L w9)) (Q L (fun i => ss0 (w1 i)))) (Q L (fun i => ss1 (w14 i))) = P L (fun i => (w0 i).toNat + (w9 i).toNat + (ss0 (w1 i)).toNat + (ss1 (w14 i)).toNat) := by
    unfold Q
    rw [add, add, add]
  show Nat.land (Nat.add (Nat.add (Nat.add (Q L w0) (Q L w9)) (Q L (fun i => ss0 (w1 i)))) (Q L (fun i => ss1 (w14 i)))) (M L) = _
  rw [e]
  refine z6r L _ (fun i => ?_) fun i => ?_
  · have := (w0 i).isLt; have := (w9 i).isLt; have := (ss0 (w1 i)).isLt; have := (ss1 (w14 i)).isLt; omega
  · apply BitVec.eq_of_toNat_eq; simp only [BitVec.toNat_ofNat, BitVec.toNat_add]; omega
end
/-- A block's words, all of them. -/
def wx (s : List UInt8) (t : Nat) : W := z3t s (z1d s t)
theorem z6a (s : List UInt8) : ∀ n, (z1d s n).length = n
  | 0 => rfl
  | n + 1 => by simp [z1d, z6a s n]
theorem z7a (s : List UInt8) : ∀ (n t : Nat), t < n -> wat (z1d s n) t = wx s t
  | n + 1, t, h => by
    unfold wat
    rw [z1d, List.getD_eq_getElem?_getD]
    by_cases h1 : t < n
    · rw [List.getElem?_append_left (by rw [z6a]; exact h1), <- List.getD_eq_getElem?_getD]
      exact z7a s n t h1
    · obtain rfl : t = n := by omega
      rw [List.getElem?_append_right (by rw [z6a]; omega), z6a, Nat.sub_self]
      rfl
theorem wx_lo (s : List UInt8) (t : Nat) (h : t < 16) : wx s t = zh s t := by
  unfold wx z3t
  rw [z6a, if_pos h]
theorem wx_hi (s : List UInt8) (t : Nat) : wx s (t + 16) = wx s t + wx s (t + 9) + ss0 (wx s (t + 1)) + ss1 (wx s (t + 14)) := by
  conv => lhs; unfold wx z3t
  rw [z6a, if_neg (by omega), z7a s _ _ (by omega), z7a s _ _ (by omega), z7a s _ _ (by omega), z7a s _ _ (by omega)]
  rw [show t + 16 - 16 = t by omega, show t + 16 - 7 = t + 9 by omega, show t + 16 - 15 = t + 1 by omega, show t + 16 - 2 = t + 14 by omega]
theorem zhe (s : List UInt8) (v : V8) (n : Nat) (h : n < 64) : rnds s v (n + 1) = rnd (rnds s v n) (kAt n) (wx s n) := by
  rw [rnds, z7a s 64 n h]
def kN (t : Nat) : Nat := (kAt t).toNat
section
variable {ι : Type} (L : List ι)
theorem zfl (s : ι -> List UInt8) (v : ι -> V8) : ∀ (n t : Nat), t + n = 64 ->
    goN (M L) (one L) ((List.range' t n).map kN) (Q L fun i => (rnds (s i) (v i) t).a) (Q L fun i => (rnds (s i) (v i) t).b) (Q L fun i => (rnds (s i) (v i) t).c) (Q L fun i => (rnds (s i) (v i) t).d)
      (Q L fun i => (rnds (s i) (v i) t).e) (Q L fun i => (rnds (s i) (v i) t).f) (Q L fun i => (rnds (s i) (v i) t).g) (Q L fun i => (rnds (s i) (v i) t).h)
      (Q L fun i => wx (s i) t) (Q L fun i => wx (s i) (t + 1)) (Q L fun i => wx (s i) (t + 2)) (Q L fun i => wx (s i) (t + 3)) (Q L fun i => wx (s i) (t + 4)) (Q L fun i => wx (s i) (t + 5)) (Q L fun i => wx (s i) (t + 6)) (Q L fun i => wx (s i) (t + 7))
      (Q L fun i => wx (s i) (t + 8)) (Q L fun i => wx (s i) (t + 9)) (Q L fun i => wx (s i) (t + 10)) (Q L fun i => wx (s i) (t + 11)) (Q L fun i => wx (s i) (t + 12)) (Q L fun i => wx (s i) (t + 13)) (Q L fun i => wx (s i) (t + 14)) (Q L fun i => wx (s i) (t + 15)) =
    ⟨Q L fun i => (rnds (s i) (v i) 64).a, Q L fun i => (rnds (s i) (v i) 64).b, Q L fun i => (rnds (s i) (v i) 64).c, Q L fun i => (rnds (s i) (v i) 64).d, Q L fun i => (rnds (s i) (v i) 64).e, Q L fun i => (rnds (s i) (v i) 64).f, Q L fun i => (rnds (s i) (v i) 64).g, Q L fun i => (rnds (s i) (v i) 64).h⟩
  | 0, t, h => by
    obtain rfl : t = 64 := by omega
    exact zlj ..
  | n + 1, t, h => by
    have ih := zfl s v n (t + 1) (by omega)
    rw [List.range'_succ, List.map_cons, zli]
    have e1 : t1N (M L) (one L) (Q L fun i => (rnds (s i) (v i) t).e) (Q L fun i => (rnds (s i) (v i) t).f) (Q L fun i => (rnds (s i) (v i) t).g) (Q L fun i => (rnds (s i) (v i) t).h) (kN t) (Q L fun i => wx (s i) t) = _ := t1_ok L _ _ _ _ _ (kAt t)
    rw [e1, t2_ok L, nw_ok L]
    have add : ∀ f g : ι -> Nat, Nat.add (P L f) (P L g) = P L (fun i => f i + g i) := Pk.P_add L
    rw [add]
    have e2 : Nat.add (Q L fun i => (rnds (s i) (v i) t).d) (P L fun i => ((rnds (s i) (v i) t).h).toNat + (bs1 (rnds (s i) (v i) t).e).toNat + (chW (rnds (s i) (v i) t).e (rnds (s i) (v i) t).f (rnds (s i) (v i) t).g).toNat + (kAt t).toNat + (wx (s i) t).toNat) = P L _ := add _ _
    rw [e2]
    rw [z6r L (fun i => (rnds (s i) (v i) (t + 1)).a) ?_ ?_, z6r L (fun i => (rnds (s i) (v i) (t + 1)).e) ?_ ?_]
    · have hw : (fun i => wx (s i) t + wx (s i) (t + 9) + ss0 (wx (s i) (t + 1)) + ss1 (wx (s i) (t + 14))) = fun i => wx (s i) (t + 1 + 15) := by
        funext i
        rw [show t + 1 + 15 = t + 16 by omega, wx_hi]
      have hs : ∀ i, rnds (s i) (v i) (t + 1) = rnd (rnds (s i) (v i) t) (kAt t) (wx (s i) t) := fun i => zhe _ _ _ (by omega)
      rw [hw]
      rw [<- ih]
      simp only [hs, rnd, Nat.add_assoc, Nat.reduceAdd]
    all_goals intro i
    all_goals (try dsimp only)
    all_goals (have hs : rnds (s i) (v i) (t + 1) = rnd (rnds (s i) (v i) t) (kAt t) (wx (s i) t) := zhe _ _ _ (by omega))
    all_goals (try rw [hs])
    all_goals (generalize rnds (s i) (v i) t = r; generalize wx (s i) t = w; generalize kAt t = k)
    all_goals try simp only [rnd]
    all_goals (generalize bs1 r.e = p1; generalize chW r.e r.f r.g = p2; generalize bs0 r.a = p3; generalize majW r.a r.b r.c = p4)
    all_goals (have := r.a.isLt; have := r.d.isLt; have := r.h.isLt; have := w.isLt; have := k.isLt; have := p1.isLt; have := p2.isLt; have := p3.isLt; have := p4.isLt)
    all_goals first | omega | (simp only [BitVec.ofNat_add, BitVec.ofNat_toNat, BitVec.setWidth_eq])
end
end Am
end Go.Proofs.YtjgljhbmljgaeaaDoor
end
section
/- Packed words: a block. -/
set_option maxRecDepth 4000
namespace Go.Proofs.YtjgljhbmljgaeaaDoor
namespace Am
open Pk (P Q M one pkN)
def k64 : List Nat := [1116352408, 1899447441, 3049323471, 3921009573, 961987163, 1508970993, 2453635748, 2870763221, 3624381080, 310598401, 607225278, 1426881987, 1925078388, 2162078206, 2614888103, 3248222580, 3835390401, 4022224774, 264347078, 604807628, 770255983, 1249150122, 1555081692, 1996064986, 2554220882, 2821834349, 2952996808, 3210313671, 3336571891, 3584528711, 113926993, 338241895, 666307205, 773529912, 1294757372, 1396182291, 1695183700, 1986661051, 2177026350, 2456956037, 2730485921, 2820302411, 3259730800, 3345764771, 3516065817, 3600352804, 4094571909, 275423344, 430227734, 506948616, 659060556, 883997877, 958139571, 1322822218, 1537002063, 1747873779, 1955562222, 2024104815, 2227730452, 2361852424, 2428436474, 2756734187, 3204031479, 3329325298]
theorem k64_is : (List.range' 0 64).map kN = k64 := by decide +kernel
/-- What is done with what a block makes. -/
noncomputable def finN {α : Type} (m a b c d e f g h : Nat) (k : Nat -> Nat -> Nat -> Nat -> Nat -> Nat -> Nat -> Nat -> α) (r : S8) : α :=
  S8.rec (motive := fun _ => α) (fun ra rb rc rd re rf rg rh =>
    frc (Nat.land (Nat.add ra a) m) fun a' => frc (Nat.land (Nat.add rb b) m) fun b' => frc (Nat.land (Nat.add rc c) m) fun c' => frc (Nat.land (Nat.add rd d) m) fun d' =>
    frc (Nat.land (Nat.add re e) m) fun e' => frc (Nat.land (Nat.add rf f) m) fun f' => frc (Nat.land (Nat.add rg g) m) fun g' => frc (Nat.land (Nat.add rh h) m) fun h' => k a' b' c' d' e' f' g' h') r
def r64 (v : V8) (s : List UInt8) : V8 := rnds s v 64
theorem zlb {α : Type} (m a b c d e f g h : Nat) (k : Nat -> Nat -> Nat -> Nat -> Nat -> Nat -> Nat -> Nat -> α) (ra rb rc rd re rf rg rh : Nat) :
    finN m a b c d e f g h k ⟨ra, rb, rc, rd, re, rf, rg, rh⟩ =
      k (Nat.land (Nat.add ra a) m) (Nat.land (Nat.add rb b) m) (Nat.land (Nat.add rc c) m) (Nat.land (Nat.add rd d) m) (Nat.land (Nat.add re e) m) (Nat.land (Nat.add rf f) m) (Nat.land (Nat.add rg g) m) (Nat.land (Nat.add rh h) m) := by
  unfold finN
  dsimp only
  rw [z8, z8, z8, z8, z8, z8, z8, z8]
theorem mix_a (v : V8) (s : List UInt8) : (mixS v s).a = (r64 v s).a + v.a := by unfold r64 mixS V8.add; exact Eq.refl _
theorem mix_b (v : V8) (s : List UInt8) : (mixS v s).b = (r64 v s).b + v.b := by unfold r64 mixS V8.add; exact Eq.refl _
theorem mix_c (v : V8) (s : List UInt8) : (mixS v s).c = (r64 v s).c + v.c := by unfold r64 mixS V8.add; exact Eq.refl _
theorem mix_d (v : V8) (s : List UInt8) : (mixS v s).d = (r64 v s).d + v.d := by unfold r64 mixS V8.add; exact Eq.refl _
theorem mix_e (v : V8) (s : List UInt8) : (mixS v s).e = (r64 v s).e + v.e := by unfold r64 mixS V8.add; exact Eq.refl _
theorem mix_f (v : V8) (s : List UInt8) : (mixS v s).f = (r64 v s).f + v.f := by unfold r64 mixS V8.add; exact Eq.refl _
theorem mix_g (v : V8) (s : List UInt8) : (mixS v s).g = (r64 v s).g + v.g := by unfold r64 mixS V8.add; exact Eq.refl _
theorem mix_h (v : V8) (s : List UInt8) : (mixS v s).h = (r64 v s).h + v.h := by unfold r64 mixS V8.add; exact Eq.refl _
section
variable {ι : Type} (L : List ι)
theorem zlh (s : ι -> List UInt8) (v : ι -> V8) :
    goN (M L) (one L) k64 (Q L fun i => (v i).a) (Q L fun i => (v i).b) (Q L fun i => (v i).c) (Q L fun i => (v i).d) (Q L fun i => (v i).e) (Q L fun i => (v i).f) (Q L fun i => (v i).g) (Q L fun i => (v i).h)
      (Q L fun i => zh (s i) 0) (Q L fun i => zh (s i) 1) (Q L fun i => zh (s i) 2) (Q L fun i => zh (s i) 3) (Q L fun i => zh (s i) 4) (Q L fun i => zh (s i) 5) (Q L fun i => zh (s i) 6) (Q L fun i => zh (s i) 7)
      (Q L fun i => zh (s i) 8) (Q L fun i => zh (s i) 9) (Q L fun i => zh (s i) 10) (Q L fun i => zh (s i) 11) (Q L fun i => zh (s i) 12) (Q L fun i => zh (s i) 13) (Q L fun i => zh (s i) 14) (Q L fun i => zh (s i) 15) =
    ⟨Q L fun i => (r64 (v i) (s i)).a, Q L fun i => (r64 (v i) (s i)).b, Q L fun i => (r64 (v i) (s i)).c, Q L fun i => (r64 (v i) (s i)).d, Q L fun i => (r64 (v i) (s i)).e, Q L fun i => (r64 (v i) (s i)).f, Q L fun i => (r64 (v i) (s i)).g, Q L fun i => (r64 (v i) (s i)).h⟩ := by
  have g := zfl L s v 64 0 rfl
  rw [k64_is] at g
  have hw : ∀ j, j < 16 -> (fun i => wx (s i) (0 + j)) = fun i => zh (s i) j := fun j hj => by funext i; rw [Nat.zero_add, wx_lo _ _ hj]
  have hw0 : (fun i => wx (s i) 0) = fun i => zh (s i) 0 := by funext i; rw [wx_lo _ _ (by omega)]
  rw [hw0, hw 1 (by omega), hw 2 (by omega), hw 3 (by omega), hw 4 (by omega), hw 5 (by omega), hw 6 (by omega), hw 7 (by omega), hw 8 (by omega), hw 9 (by omega), hw 10 (by omega), hw 11 (by omega), hw 12 (by omega), hw 13 (by omega), hw 14 (by omega), hw 15 (by omega)] at g
  have r0 : ∀ s v, rnds s v 0 = v := fun _ _ => rfl
  have e64 : ∀ s v, rnds s v 64 = r64 v s := fun s v => by unfold r64; exact Eq.refl _
  simp only [r0, e64] at g
  exact g
attribute [local irreducible] r64 k64
theorem z52 (f g : ι -> W) : Nat.land (Nat.add (Q L f) (Q L g)) (M L) = Q L (fun i => f i + g i) := by
  have add : ∀ f g : ι -> Nat, Nat.add (P L f) (P L g) = P L (fun i => f i + g i) := Pk.P_add L
  have e : Nat.add (Q L f) (Q L g) = P L (fun i => (f i).toNat + (g i).toNat) := by
    unfold Q
    rw [add]
  rw [e]
  refine z6r L _ (fun i => ?_) fun i => ?_
  · have := (f i).isLt; have := (g i).isLt; omega
  · simp only [BitVec.ofNat_add, BitVec.ofNat_toNat, BitVec.setWidth_eq]
theorem z9r {α : Type} (s : ι -> List UInt8) (v : ι -> V8) (w0 w1 w2 w3 w4 w5 w6 w7 w8 w9 w10 w11 w12 w13 w14 w15 : Nat) (k : Nat -> Nat -> Nat -> Nat -> Nat -> Nat -> Nat -> Nat -> α)
    (h0 : w0 = Q L fun i => zh (s i) 0) (h1 : w1 = Q L fun i => zh (s i) 1) (h2 : w2 = Q L fun i => zh (s i) 2) (h3 : w3 = Q L fun i => zh (s i) 3) (h4 : w4 = Q L fun i => zh (s i) 4) (h5 : w5 = Q L fun i => zh (s i) 5) (h6 : w6 = Q L fun i => zh (s i) 6) (h7 : w7 = Q L fun i => zh (s i) 7)
    (h8 : w8 = Q L fun i => zh (s i) 8) (h9 : w9 = Q L fun i => zh (s i) 9) (h10 : w10 = Q L fun i => zh (s i) 10) (h11 : w11 = Q L fun i => zh (s i) 11) (h12 : w12 = Q L fun i => zh (s i) 12) (h13 : w13 = Q L fun i => zh (s i) 13) (h14 : w14 = Q L fun i => zh (s i) 14) (h15 : w15 = Q L fun i => zh (s i) 15) :
    finN (M L) (Q L fun i => (v i).a) (Q L fun i => (v i).b) (Q L fun i => (v i).c) (Q L fun i => (v i).d) (Q L fun i => (v i).e) (Q L fun i => (v i).f) (Q L fun i => (v i).g) (Q L fun i => (v i).h) k
      (goN (M L) (one L) k64 (Q L fun i => (v i).a) (Q L fun i => (v i).b) (Q L fun i => (v i).c) (Q L fun i => (v i).d) (Q L fun i => (v i).e) (Q L fun i => (v i).f) (Q L fun i => (v i).g) (Q L fun i => (v i).h) w0 w1 w2 w3 w4 w5 w6 w7 w8 w9 w10 w11 w12 w13 w14 w15) =
    k (Q L fun i => (mixS (v i) (s i)).a) (Q L fun i => (mixS (v i) (s i)).b) (Q L fun i => (mixS (v i) (s i)).c) (Q L fun i => (mixS (v i) (s i)).d) (Q L fun i => (mixS (v i) (s i)).e) (Q L fun i => (mixS (v i) (s i)).f) (Q L fun i => (mixS (v i) (s i)).g) (Q L fun i => (mixS (v i) (s i)).h) := by
  subst h0 h1 h2 h3 h4 h5 h6 h7 h8 h9 h10 h11 h12 h13 h14 h15
  have g := zlh L s v
  rw [g, zlb, z52, z52, z52, z52, z52, z52, z52, z52]
  simp only [mix_a, mix_b, mix_c, mix_d, mix_e, mix_f, mix_g, mix_h]
end
end Am
end Go.Proofs.YtjgljhbmljgaeaaDoor
end
section
/- Packed words: lanes laid, picked and shifted. -/
set_option maxRecDepth 4000
namespace Go.Proofs.YtjgljhbmljgaeaaDoor
namespace Am
open Pk (P Q M one pkN)
theorem zck : ∀ (l m : List Nat), pkN (l ++ m) = pkN l + 2 ^ (64 * l.length) * pkN m
  | [], m => by simp [pkN]
  | x :: l, m => by
    have h : 2 ^ (64 * (l.length + 1)) = 2 ^ 64 * 2 ^ (64 * l.length) := by rw [<- Nat.pow_add]; congr 1; omega
    rw [List.cons_append, pkN, pkN, zck l m, List.length_cons, h, Nat.mul_add, Nat.mul_assoc]
    omega
theorem ze2 (f : Nat -> Nat) (n : Nat) : P (List.range (n + 1)) f = P (List.range n) f + 2 ^ (64 * n) * f n := by
  unfold P
  rw [List.range_succ, List.map_append, zck, List.length_map, List.length_range]
  simp [pkN]
/-- Words of so many lanes, packed. -/
noncomputable def pkR (f : Nat -> Nat) (n acc : Nat) : Nat :=
  Nat.rec (motive := fun _ => Nat -> Nat) (fun acc => acc) (fun k ih acc => frc (Nat.add (Nat.mul acc 18446744073709551616) (f k)) ih) n acc
theorem zoj (f : Nat -> Nat) (acc : Nat) : pkR f 0 acc = acc := rfl
theorem zoi (f : Nat -> Nat) (n acc : Nat) : pkR f (n + 1) acc = pkR f n (Nat.add (Nat.mul acc 18446744073709551616) (f n)) := by
  show frc _ _ = _
  rw [z8]
  rfl
theorem zh0 (f : Nat -> Nat) : ∀ (n acc : Nat), pkR f n acc = P (List.range n) f + 2 ^ (64 * n) * acc
  | 0, acc => by rw [zoj]; simp [P, pkN]
  | n + 1, acc => by
    rw [zoi, zh0 f n, ze2]
    have h : 2 ^ (64 * (n + 1)) = 2 ^ (64 * n) * 2 ^ 64 := by rw [<- Nat.pow_add]; congr 1
    have e : Nat.add (Nat.mul acc 18446744073709551616) (f n) = acc * 2 ^ 64 + f n := rfl
    rw [h, e, Nat.mul_add, Nat.mul_assoc, Nat.mul_comm acc]
    omega
def ones (n : Nat) : Nat := Nat.div (Nat.sub (Nat.pow 2 (Nat.mul 64 n)) 1) 18446744073709551615
theorem zgp : ∀ n, (2 ^ 64 - 1) * P (List.range n) (fun _ => 1) + 1 = 2 ^ (64 * n)
  | 0 => rfl
  | n + 1 => by
    have ih := zgp n
    have h : 2 ^ (64 * (n + 1)) = 2 ^ 64 * 2 ^ (64 * n) := by rw [<- Nat.pow_add]; congr 1; omega
    rw [ze2, h]
    omega
theorem z6s (n : Nat) : ones n = one (List.range n) := by
  have h := zgp n
  have e : ones n = (2 ^ (64 * n) - 1) / (2 ^ 64 - 1) := rfl
  rw [e, <- h, Nat.add_sub_cancel, Nat.mul_div_cancel_left _ (by decide)]
  rfl
theorem M_is (n : Nat) : Nat.mul (ones n) 4294967295 = M (List.range n) := by
  rw [z6s]
  have := Pk.P_mul (List.range n) (fun _ => 1) 4294967295
  simpa [one, M] using this
theorem zf4 (n : Nat) (c : W) : Nat.mul (ones n) c.toNat = Q (List.range n) (fun _ => c) := by
  rw [z6s]
  have := Pk.P_mul (List.range n) (fun _ => 1) c.toNat
  simpa [one, Q] using this
section
variable {ι : Type} (L : List ι)
theorem q_shl (f : ι -> W) : Nat.land (Nat.mul (Q L f) 16777216) (M L) = Q L (fun i => f i <<< 24) := by
  have e : Nat.mul (Q L f) 16777216 = P L (fun i => (f i).toNat * 16777216) := by
    unfold Q
    exact Pk.P_mul L _ _
  rw [e]
  refine z6r L _ (fun i => ?_) fun i => ?_
  · have := (f i).isLt; omega
  · apply BitVec.eq_of_toNat_eq; rw [BitVec.toNat_ofNat, BitVec.toNat_shiftLeft, Nat.shiftLeft_eq]
theorem q_shr (f : ι -> W) : Nat.land (Nat.shiftRight (Q L f) 8) (M L) = Q L (fun i => f i >>> 8) := by
  apply Pk.Q_ext
  intro q r hr
  have e : Nat.land (Nat.shiftRight (Q L f) 8) (M L) = (Q L f >>> 8) &&& M L := rfl
  rw [e, Nat.testBit_and, Pk.M_bit L q r hr, Nat.testBit_shiftRight]
  by_cases h : r < 32
  · rw [show 8 + (64 * q + r) = 64 * q + (8 + r) by omega, Pk.Q_bit L q (8 + r) (by omega)]
    cases L[q]? <;> simp [h]
  · cases L[q]? with
    | none => simp
    | some x => simp [h, BitVec.getLsbD_of_ge _ _ (show 32 <= r by omega)]
def shW (x y : W) : W := x <<< 24 + y >>> 8
noncomputable def shN (m x y : Nat) : Nat := Nat.land (Nat.add (Nat.land (Nat.mul x 16777216) m) (Nat.land (Nat.shiftRight y 8) m)) m
theorem z30 (f g : ι -> W) : shN (M L) (Q L f) (Q L g) = Q L (fun i => shW (f i) (g i)) := by
  unfold shN
  rw [q_shl, q_shr, z52]
  rfl
end
/-- Some of the lanes. -/
theorem z7e (f : Nat -> W) {N a c : Nat} (h : a + c <= N) : Nat.land (Nat.shiftRight (Q (List.range N) f) (64 * a)) (2 ^ (64 * c) - 1) = Q (List.range c) (fun i => f (a + i)) := by
  apply Pk.Q_ext
  intro q r hr
  have e : Nat.land (Nat.shiftRight (Q (List.range N) f) (64 * a)) (2 ^ (64 * c) - 1) = (Q (List.range N) f >>> (64 * a)) &&& (2 ^ (64 * c) - 1) := rfl
  rw [e, Nat.testBit_and, Nat.testBit_shiftRight, show 64 * a + (64 * q + r) = 64 * (a + q) + r by omega, Pk.Q_bit _ _ r hr, Nat.testBit_two_pow_sub_one]
  by_cases hq : q < c
  · rw [List.getElem?_range (by omega), List.getElem?_range hq, decide_eq_true (by omega)]; simp
  · rw [decide_eq_false (by omega), Bool.and_false, List.getElem?_eq_none (by simp; omega)]; rfl
theorem z5e (f : Nat -> W) {N a : Nat} (h : a < N) : Nat.land (Nat.shiftRight (Q (List.range N) f) (64 * a)) 18446744073709551615 = (f a).toNat := by
  have := z7e f (a := a) (c := 1) (N := N) (by omega)
  rw [show (2 : Nat) ^ (64 * 1) - 1 = 18446744073709551615 from rfl] at this
  rw [this]
  simp [Q, P, pkN, List.range_succ]
set_option exponentiation.threshold 1000 in
/-- Eight lanes ahead of all others. -/
theorem Q_prev (f : Nat -> W) (c : W) (n : Nat) : Nat.add (Nat.mul (Nat.land (Q (List.range (8 + n)) f) (2 ^ (64 * n) - 1)) (2 ^ 512)) (Nat.mul (ones 8) c.toNat) = Q (List.range (8 + n)) (fun l => if l < 8 then c else f (l - 8)) := by
  have e := z7e f (N := 8 + n) (a := 0) (c := n) (by omega)
  have e2 : Nat.land (Q (List.range (8 + n)) f) (2 ^ (64 * n) - 1) = Q (List.range n) f := by
    have : Nat.shiftRight (Q (List.range (8 + n)) f) (64 * 0) = Q (List.range (8 + n)) f := rfl
    rw [this] at e
    rw [e]
    simp
  rw [e2, zf4]
  unfold Q P
  rw [List.range_add, List.map_append, zck, List.length_map, List.length_range, List.map_map]
  have e3 : (List.range 8).map (fun l => (if l < 8 then c else f (l - 8)).toNat) = (List.range 8).map (fun _ => c.toNat) := by
    apply List.map_congr_left
    intro l hl
    rw [if_pos (List.mem_range.1 hl)]
  have e4 : (List.range n).map ((fun l => (if l < 8 then c else f (l - 8)).toNat) ∘ fun x => 8 + x) = (List.range n).map (fun l => (f l).toNat) := by
    apply List.map_congr_left
    intro l hl
    simp only [Function.comp]
    rw [if_neg (by omega), show 8 + l - 8 = l by omega]
  rw [e3, e4]
  show pkN ((List.range n).map fun i => (f i).toNat) * 2 ^ 512 + _ = _
  rw [Nat.mul_comm, Nat.add_comm]
end Am
end Go.Proofs.YtjgljhbmljgaeaaDoor
end
section
/- Bytes ahead of whole words; blocks. -/
set_option maxRecDepth 4000
namespace Go.Proofs.YtjgljhbmljgaeaaDoor
namespace Am
open Pk (P Q M one pkN)
/-! Words of bytes: a byte ahead of whole words. -/
def enc (ws : List W) : List UInt8 := ws.flatMap fun x => be 4 x.toNat
def lb (x : W) : UInt8 := UInt8.ofNat x.toNat
theorem be4 (n : Nat) : be 4 n = [UInt8.ofNat (n / 16777216), UInt8.ofNat (n / 65536), UInt8.ofNat (n / 256), UInt8.ofNat n] := by
  simp [be, Nat.div_div_eq_div_mul]
theorem zbe (x : W) (l : List W) : enc (x :: l) = UInt8.ofNat (x.toNat / 16777216) :: UInt8.ofNat (x.toNat / 65536) :: UInt8.ofNat (x.toNat / 256) :: lb x :: enc l := by
  simp [enc, be4, lb]
theorem zbd (a b : List W) : enc (a ++ b) = enc a ++ enc b := by simp [enc]
theorem z6m : ∀ l : List W, (enc l).length = 4 * l.length
  | [] => rfl
  | x :: l => by rw [zbe]; simp [z6m l]; omega
theorem zlc (y x : W) (t : List UInt8) : zh (lb y :: UInt8.ofNat (x.toNat / 16777216) :: UInt8.ofNat (x.toNat / 65536) :: UInt8.ofNat (x.toNat / 256) :: t) 0 = shW y x := by
  unfold zh shW
  apply BitVec.eq_of_toNat_eq
  simp only [Nat.mul_zero, List.drop_zero, List.take_succ_cons, List.take_zero, getS, List.take_nil, val, List.foldl_cons, List.foldl_nil, lb, UInt8.toNat_ofNat', BitVec.toNat_ofNat, BitVec.toNat_add, BitVec.toNat_shiftLeft, BitVec.toNat_ushiftRight, Nat.shiftLeft_eq, Nat.shiftRight_eq_div_pow]
  have := x.isLt
  have := y.isLt
  omega
theorem zau (s : List UInt8) (a i : Nat) : zh (s.drop (4 * a)) i = zh s (a + i) := by
  unfold zh
  rw [List.drop_drop]
  congr 4
  omega
/-- The words of a byte and whole words behind it. -/
theorem zbf : ∀ (i : Nat) (y : W) (l : List W) (t : List UInt8), i < l.length -> zh (lb y :: (enc l ++ t)) i = shW ((y :: l).getD i 0) ((y :: l).getD (i + 1) 0)
  | 0, y, x :: l, t, _ => by
    rw [zbe]
    exact zlc y x _
  | i + 1, y, x :: l, t, h => by
    have e : (lb y :: (enc (x :: l) ++ t)).drop (4 * 1) = lb x :: (enc l ++ t) := by rw [zbe]; rfl
    have ih := zbf i x l t (by simpa using h)
    rw [<- e, zau] at ih
    rw [show i + 1 = 1 + i by omega, ih]
    simp [List.getD_eq_getElem?_getD, Nat.add_comm 1 i]
theorem zdv (s : List UInt8) {n i : Nat} (h : 4 * i + 4 <= n) : zh (s.take n) i = zh s i := by
  unfold zh
  rw [List.drop_take, List.take_take, Nat.min_eq_left (by omega)]
/-- What stands behind 1 + 4 n bytes. -/
theorem zgv (y : W) (l : List W) (n : Nat) (h1 : l.length * 4 + 1 = n) : padS (lb y :: enc l) = lb y :: (enc l ++ 128 :: (List.replicate ((119 - n % 64) % 64) 0 ++ be 8 (n * 8))) := by
  unfold padS
  rw [List.length_cons, z6m, show 4 * l.length + 1 = n by omega]
  rfl
/-- The text of a hash's secret, as_ words. -/
def padT : List W := [2147483648#32, 0#32, 0#32, 0#32, 0#32, 0#32, 0#32, 67584#32]
theorem zhv (v : V8) : padS (3 :: outV v) = (lb 3#32 :: enc (v.l ++ padT)).take 64 /\ (padS (3 :: outV v)).length = 64 := by
  have h := zgv 3#32 v.l 33 (by rfl)
  have e : padS (3 :: outV v) = lb 3#32 :: (enc v.l ++ 128 :: (List.replicate 22 0 ++ be 8 264)) := h
  have e2 : (lb 3#32 :: enc (v.l ++ padT)).take 64 = lb 3#32 :: (enc v.l ++ (enc padT).take 31) := by
    rw [zbd, show 64 = 63 + 1 from rfl, List.take_succ_cons, show (63 : Nat) = (enc v.l).length + 31 by rw [z6m]; rfl, List.take_length_add_append]
  have e3 : (enc padT).take 31 = 128 :: (List.replicate 22 0 ++ be 8 264) := by decide +kernel
  refine ⟨by rw [e, e2, e3], ?_⟩
  rw [e]
  simp [z6m, V8.l, be]
theorem zqz (v : V8) (i : Nat) (h : i < 16) : zh (padS (3 :: outV v)) i = shW ((3#32 :: (v.l ++ padT)).getD i 0) ((3#32 :: (v.l ++ padT)).getD (i + 1) 0) := by
  rw [(zhv v).1, zdv _ (by omega)]
  have := zbf i 3#32 (v.l ++ padT) [] (by simp [V8.l, padT]; omega)
  rwa [List.append_nil] at this
/-- Blocks, one behind the other. -/
theorem zmy (v : V8) {s t : List UInt8} (h : ∀ i, i < 16 -> zh s i = zh t i) : mixS v s = mixS v t := by
  have hw : ∀ n, z1d s n = z1d t n := by
    intro n
    induction n with
    | zero => rfl
    | succ n ih =>
      rw [z1d, z1d, ih]
      congr 2
      unfold z3t
      rw [z6a]
      split
      · rename_i h1; exact h n h1
      · rfl
  have hr : ∀ n, rnds s v n = rnds t v n := by
    intro n
    induction n with
    | zero => rfl
    | succ n ih => rw [rnds, rnds, ih, hw]
  unfold mixS
  rw [hr]
theorem zgi (v : V8) (s : List UInt8) : mixS v (s.take 64) = mixS v s := zmy v fun i h => zdv s (by omega)
theorem zem (v : V8) (s : List UInt8) : blocks 1 v s = mixS v s := by
  rw [blocks, zgi]; rfl
end Am
end Go.Proofs.YtjgljhbmljgaeaaDoor
end
section
/- Packed words: eight long texts. -/
set_option maxRecDepth 4000
namespace Go.Proofs.YtjgljhbmljgaeaaDoor
namespace Am
open Pk (P Q M one pkN)
def m512 : Nat := 13407807929942597099574024998205846127479365820592393377723561443721764030073546976801874298166903427690031858186486050853753882811946569946433649006084095
theorem zc3 : m512 = 2 ^ (64 * 8) - 1 := by decide +kernel
/-- The blocks of eight long texts. -/
noncomputable def z88 (m o u0 u1 u2 u3 u4 u5 u6 u7 : Nat) (k : Nat -> Nat -> Nat -> Nat -> Nat -> Nat -> Nat -> Nat -> S8) (bs : List Nat) : Nat -> Nat -> Nat -> Nat -> Nat -> Nat -> Nat -> Nat -> S8 :=
  List.rec (motive := fun _ => Nat -> Nat -> Nat -> Nat -> Nat -> Nat -> Nat -> Nat -> S8) k
    (fun j _ ih a b c d e f g h => frc (Nat.mul j 1024) fun s => frc (Nat.add s 512) fun s' =>
      frc (Nat.land (Nat.shiftRight u0 s) m512) fun w0 =>
      frc (Nat.land (Nat.shiftRight u1 s) m512) fun w1 =>
      frc (Nat.land (Nat.shiftRight u2 s) m512) fun w2 =>
      frc (Nat.land (Nat.shiftRight u3 s) m512) fun w3 =>
      frc (Nat.land (Nat.shiftRight u4 s) m512) fun w4 =>
      frc (Nat.land (Nat.shiftRight u5 s) m512) fun w5 =>
      frc (Nat.land (Nat.shiftRight u6 s) m512) fun w6 =>
      frc (Nat.land (Nat.shiftRight u7 s) m512) fun w7 =>
      frc (Nat.land (Nat.shiftRight u0 s') m512) fun w8 =>
      frc (Nat.land (Nat.shiftRight u1 s') m512) fun w9 =>
      frc (Nat.land (Nat.shiftRight u2 s') m512) fun w10 =>
      frc (Nat.land (Nat.shiftRight u3 s') m512) fun w11 =>
      frc (Nat.land (Nat.shiftRight u4 s') m512) fun w12 =>
      frc (Nat.land (Nat.shiftRight u5 s') m512) fun w13 =>
      frc (Nat.land (Nat.shiftRight u6 s') m512) fun w14 =>
      frc (Nat.land (Nat.shiftRight u7 s') m512) fun w15 =>
      finN m a b c d e f g h ih (goN m o k64 a b c d e f g h w0 w1 w2 w3 w4 w5 w6 w7 w8 w9 w10 w11 w12 w13 w14 w15)) bs
theorem zmt (m o u0 u1 u2 u3 u4 u5 u6 u7 : Nat) (k : Nat -> Nat -> Nat -> Nat -> Nat -> Nat -> Nat -> Nat -> S8) (j : Nat) (bs : List Nat) (a b c d e f g h : Nat) : z88 m o u0 u1 u2 u3 u4 u5 u6 u7 k (j :: bs) a b c d e f g h =
    finN m a b c d e f g h (z88 m o u0 u1 u2 u3 u4 u5 u6 u7 k bs) (goN m o k64 a b c d e f g h (Nat.land (Nat.shiftRight u0 (Nat.mul j 1024)) m512)
      (Nat.land (Nat.shiftRight u1 (Nat.mul j 1024)) m512)
      (Nat.land (Nat.shiftRight u2 (Nat.mul j 1024)) m512)
      (Nat.land (Nat.shiftRight u3 (Nat.mul j 1024)) m512)
      (Nat.land (Nat.shiftRight u4 (Nat.mul j 1024)) m512)
      (Nat.land (Nat.shiftRight u5 (Nat.mul j 1024)) m512)
      (Nat.land (Nat.shiftRight u6 (Nat.mul j 1024)) m512)
      (Nat.land (Nat.shiftRight u7 (Nat.mul j 1024)) m512)
      (Nat.land (Nat.shiftRight u0 (Nat.add (Nat.mul j 1024) 512)) m512)
      (Nat.land (Nat.shiftRight u1 (Nat.add (Nat.mul j 1024) 512)) m512)
      (Nat.land (Nat.shiftRight u2 (Nat.add (Nat.mul j 1024) 512)) m512)
      (Nat.land (Nat.shiftRight u3 (Nat.add (Nat.mul j 1024) 512)) m512)
      (Nat.land (Nat.shiftRight u4 (Nat.add (Nat.mul j 1024) 512)) m512)
      (Nat.land (Nat.shiftRight u5 (Nat.add (Nat.mul j 1024) 512)) m512)
      (Nat.land (Nat.shiftRight u6 (Nat.add (Nat.mul j 1024) 512)) m512)
      (Nat.land (Nat.shiftRight u7 (Nat.add (Nat.mul j 1024) 512)) m512)) := by
  unfold z88
  dsimp only
  rw [z8, z8, z8, z8, z8, z8, z8, z8, z8, z8, z8, z8, z8, z8, z8, z8, z8, z8]
/-- The words of shown hashes, one behind the other: those of each eighth one. -/
def z1s (v2 : Nat -> V8) (i : Nat) : List W := (List.range 512).flatMap fun k => (v2 (8 * k + i)).l
theorem flat8 (f : Nat -> V8) : ∀ (n k t : Nat), k < n -> t < 8 -> ((List.range n).flatMap fun k => (f k).l)[8 * k + t]? = (f k).l[t]?
  | n + 1, k, t, hk, ht => by
    have hl : ∀ n, ((List.range n).flatMap fun k => (f k).l).length = 8 * n := by
      intro n
      induction n with
      | zero => rfl
      | succ n ih => rw [List.range_succ, List.flatMap_append, List.length_append, ih]; simp [V8.l]; omega
    rw [List.range_succ, List.flatMap_append]
    by_cases h : k < n
    · rw [List.getElem?_append_left (by rw [hl]; omega)]
      exact flat8 f n k t h ht
    · obtain rfl : k = n := by omega
      rw [List.getElem?_append_right (by rw [hl]; omega), hl, Nat.add_sub_cancel_left]
      simp
theorem z59 (v2 : Nat -> V8) (i : Nat) : (z1s v2 i).length = 4096 := by
  unfold z1s
  have hl : ∀ n, ((List.range n).flatMap fun k => (v2 (8 * k + i)).l).length = 8 * n := by
    intro n
    induction n with
    | zero => rfl
    | succ n ih => rw [List.range_succ, List.flatMap_append, List.length_append, ih]; simp [V8.l]; omega
  rw [hl]
theorem zao (v2 : Nat -> V8) (i k t : Nat) (hk : k < 512) (ht : t < 8) : (z1s v2 i)[8 * k + t]? = (v2 (8 * k + i)).l[t]? := flat8 (fun k => v2 (8 * k + i)) 512 k t hk ht
def longT : List W := [2147483648#32, 0#32, 0#32, 0#32, 0#32, 0#32, 0#32, 0#32, 0#32, 0#32, 0#32, 0#32, 0#32, 0#32, 0#32, 33556480#32]
theorem zgf (l : List W) (hl : l.length = 4096) : padS (4 :: enc l) = (lb 4#32 :: enc (l ++ longT)).take 16448 /\ (padS (4 :: enc l)).length = 16448 := by
  have h := zgv 4#32 l 16385 (by rw [hl])
  have e : padS (4 :: enc l) = lb 4#32 :: (enc l ++ 128 :: (List.replicate 54 0 ++ be 8 131080)) := h
  have e2 : (lb 4#32 :: enc (l ++ longT)).take 16448 = lb 4#32 :: (enc l ++ (enc longT).take 63) := by
    rw [zbd, show 16448 = 16447 + 1 from rfl, List.take_succ_cons, show (16447 : Nat) = (enc l).length + 63 by rw [z6m, hl], List.take_length_add_append]
  have e3 : (enc longT).take 63 = 128 :: (List.replicate 54 0 ++ be 8 131080) := by decide +kernel
  refine ⟨by rw [e, e2, e3], ?_⟩
  rw [e]
  simp [z6m, hl, be]
theorem zgg (l : List W) (hl : l.length = 4096) (i : Nat) (h : i < 4112) : zh (padS (4 :: enc l)) i = shW ((4#32 :: (l ++ longT)).getD i 0) ((4#32 :: (l ++ longT)).getD (i + 1) 0) := by
  rw [(zgf l hl).1, zdv _ (by omega)]
  have := zbf i 4#32 (l ++ longT) [] (by rw [List.length_append, hl]; simp [longT]; omega)
  rwa [List.append_nil] at this
def v8w (v : V8) (t : Nat) : W := v.l.getD t 0
/-- The word ahead of a word, and the word. -/
def pw (v2 : Nat -> V8) (t l : Nat) : W := if t = 0 then (if l < 8 then 4#32 else v8w (v2 (l - 8)) 7) else v8w (v2 l) (t - 1)
theorem zge (v2 : Nat -> V8) (i k t : Nat) (hi : i < 8) (hk : k < 512) (ht : t < 8) : zh (padS (4 :: enc (z1s v2 i))) (8 * k + t) = shW (pw v2 t (8 * k + i)) (v8w (v2 (8 * k + i)) t) := by
  rw [zgg _ (z59 v2 i) _ (by omega)]
  have e1 : (4#32 :: (z1s v2 i ++ longT)).getD (8 * k + t + 1) 0 = v8w (v2 (8 * k + i)) t := by
    rw [List.getD_eq_getElem?_getD, List.getElem?_cons_succ, List.getElem?_append_left (by rw [z59]; omega), zao v2 i k t hk ht, <- List.getD_eq_getElem?_getD]; rfl
  have e2 : (4#32 :: (z1s v2 i ++ longT)).getD (8 * k + t) 0 = pw v2 t (8 * k + i) := by
    unfold pw
    by_cases h0 : t = 0
    · subst h0
      rw [if_pos rfl]
      by_cases hk0 : k = 0
      · subst hk0
        rw [if_pos (by omega)]; rfl
      · rw [if_neg (by omega), show 8 * k + 0 = (8 * (k - 1) + 7) + 1 by omega, List.getD_eq_getElem?_getD, List.getElem?_cons_succ, List.getElem?_append_left (by rw [z59]; omega), zao v2 i (k - 1) 7 (by omega) (by omega), <- List.getD_eq_getElem?_getD, show 8 * k + i - 8 = 8 * (k - 1) + i by omega]; rfl
    · rw [if_neg h0, show 8 * k + t = (8 * k + (t - 1)) + 1 by omega, List.getD_eq_getElem?_getD, List.getElem?_cons_succ, List.getElem?_append_left (by rw [z59]; omega), zao v2 i k (t - 1) hk (by omega), <- List.getD_eq_getElem?_getD]; rfl
  rw [e1, e2]
theorem zel : ∀ (n : Nat) (v : V8) (s : List UInt8), blocks (n + 1) v s = mixS (blocks n v s) (s.drop (64 * n))
  | 0, v, s => by rw [zem]; rfl
  | n + 1, v, s => by
    rw [blocks, zel n, List.drop_drop, <- blocks, show 64 + 64 * n = 64 * (n + 1) by omega]
def uT (v2 : Nat -> V8) (t : Nat) : Nat := Q (List.range 4096) fun l => shW (pw v2 t l) (v8w (v2 l) t)
theorem u_at (v2 : Nat -> V8) (b : Nat) (hb : b < 256) (t : Nat) (ht : t < 8) : Nat.land (Nat.shiftRight (uT v2 t) (Nat.mul b 1024)) m512 = Q (List.range 8) (fun i => zh ((padS (4 :: enc (z1s v2 i))).drop (64 * b)) t) := by
  have h := z7e (fun l => shW (pw v2 t l) (v8w (v2 l) t)) (N := 4096) (a := 16 * b) (c := 8) (by omega)
  rw [<- zc3, show 64 * (16 * b) = Nat.mul b 1024 by show _ = b * 1024; omega] at h
  unfold uT
  rw [h]
  unfold Q P
  congr 1
  apply List.map_congr_left
  intro i hi
  dsimp only
  rw [show 64 * b = 4 * (16 * b) by omega, zau, show 16 * b + t = 8 * (2 * b) + t by omega, zge v2 i (2 * b) t (List.mem_range.1 hi) (by omega) ht, show 8 * (2 * b) + i = 16 * b + i by omega]
theorem z5x (v2 : Nat -> V8) (b : Nat) (hb : b < 256) (t : Nat) (ht : t < 8) : Nat.land (Nat.shiftRight (uT v2 t) (Nat.add (Nat.mul b 1024) 512)) m512 = Q (List.range 8) (fun i => zh ((padS (4 :: enc (z1s v2 i))).drop (64 * b)) (8 + t)) := by
  have h := z7e (fun l => shW (pw v2 t l) (v8w (v2 l) t)) (N := 4096) (a := 16 * b + 8) (c := 8) (by omega)
  rw [<- zc3, show 64 * (16 * b + 8) = Nat.add (Nat.mul b 1024) 512 by show _ = b * 1024 + 512; omega] at h
  unfold uT
  rw [h]
  unfold Q P
  congr 1
  apply List.map_congr_left
  intro i hi
  dsimp only
  rw [show 64 * b = 4 * (16 * b) by omega, zau, show 16 * b + (8 + t) = 8 * (2 * b + 1) + t by omega, zge v2 i (2 * b + 1) t (List.mem_range.1 hi) (by omega) ht, show 8 * (2 * b + 1) + i = 16 * b + 8 + i by omega]
theorem zga (v2 : Nat -> V8) (k : Nat -> Nat -> Nat -> Nat -> Nat -> Nat -> Nat -> Nat -> S8) : ∀ (n b : Nat) (v : Nat -> V8), b + n = 256 ->
    z88 (M (List.range 8)) (one (List.range 8)) (uT v2 0) (uT v2 1) (uT v2 2) (uT v2 3) (uT v2 4) (uT v2 5) (uT v2 6) (uT v2 7) k (List.range' b n) (Q (List.range 8) fun i => (v i).a) (Q (List.range 8) fun i => (v i).b) (Q (List.range 8) fun i => (v i).c) (Q (List.range 8) fun i => (v i).d) (Q (List.range 8) fun i => (v i).e) (Q (List.range 8) fun i => (v i).f) (Q (List.range 8) fun i => (v i).g) (Q (List.range 8) fun i => (v i).h) =
    k (Q (List.range 8) fun i => (blocks n (v i) ((padS (4 :: enc (z1s v2 i))).drop (64 * b))).a) (Q (List.range 8) fun i => (blocks n (v i) ((padS (4 :: enc (z1s v2 i))).drop (64 * b))).b) (Q (List.range 8) fun i => (blocks n (v i) ((padS (4 :: enc (z1s v2 i))).drop (64 * b))).c) (Q (List.range 8) fun i => (blocks n (v i) ((padS (4 :: enc (z1s v2 i))).drop (64 * b))).d) (Q (List.range 8) fun i => (blocks n (v i) ((padS (4 :: enc (z1s v2 i))).drop (64 * b))).e) (Q (List.range 8) fun i => (blocks n (v i) ((padS (4 :: enc (z1s v2 i))).drop (64 * b))).f) (Q (List.range 8) fun i => (blocks n (v i) ((padS (4 :: enc (z1s v2 i))).drop (64 * b))).g) (Q (List.range 8) fun i => (blocks n (v i) ((padS (4 :: enc (z1s v2 i))).drop (64 * b))).h)
  | 0, b, v, h => rfl
  | n + 1, b, v, h => by
    have ih := zga v2 k n (b + 1) (fun i => mixS (v i) ((padS (4 :: enc (z1s v2 i))).drop (64 * b))) (by omega)
    rw [List.range'_succ, zmt]
    refine (z9r (List.range 8) (fun i => (padS (4 :: enc (z1s v2 i))).drop (64 * b)) v _ _ _ _ _ _ _ _ _ _ _ _ _ _ _ _ _ (u_at v2 b (by omega) 0 (by omega)) (u_at v2 b (by omega) 1 (by omega)) (u_at v2 b (by omega) 2 (by omega)) (u_at v2 b (by omega) 3 (by omega)) (u_at v2 b (by omega) 4 (by omega)) (u_at v2 b (by omega) 5 (by omega)) (u_at v2 b (by omega) 6 (by omega)) (u_at v2 b (by omega) 7 (by omega)) (z5x v2 b (by omega) 0 (by omega)) (z5x v2 b (by omega) 1 (by omega)) (z5x v2 b (by omega) 2 (by omega)) (z5x v2 b (by omega) 3 (by omega)) (z5x v2 b (by omega) 4 (by omega)) (z5x v2 b (by omega) 5 (by omega)) (z5x v2 b (by omega) 6 (by omega)) (z5x v2 b (by omega) 7 (by omega))).trans ?_
    refine ih.trans ?_
    have e : ∀ i, blocks (n + 1) (v i) ((padS (4 :: enc (z1s v2 i))).drop (64 * b)) = blocks n (mixS (v i) ((padS (4 :: enc (z1s v2 i))).drop (64 * b))) ((padS (4 :: enc (z1s v2 i))).drop (64 * (b + 1))) := fun i => by
      rw [blocks, zgi, List.drop_drop, show 64 * b + 64 = 64 * (b + 1) by omega]
    simp only [e]
end Am
end Go.Proofs.YtjgljhbmljgaeaaDoor
end
section
/- Packed words: a tree of keys. -/
set_option maxRecDepth 4000
namespace Go.Proofs.YtjgljhbmljgaeaaDoor
namespace Am
open Pk (P Q M one pkN)
def za5 : Nat := Nat.sub (Nat.pow 2 261632) 1
def p512 : Nat := Nat.pow 2 512
theorem zoe : za5 = 2 ^ (64 * 4088) - 1 := by decide +kernel
theorem zof : p512 = 2 ^ 512 := by decide +kernel
/-- The last block of eight long texts. -/
noncomputable def za1 (m o z a b c d e f g h : Nat) : S8 :=
  frc (shN m z (Nat.mul o 2147483648)) fun q0 =>
  frc (Nat.mul o 0) fun q1 =>
  frc (Nat.mul o 131080) fun q15 =>
  finN m a b c d e f g h S8.mk (goN m o k64 a b c d e f g h q0 q1 q1 q1 q1 q1 q1 q1 q1 q1 q1 q1 q1 q1 q1 q15)
/-- From the words of the shown hashes to the leaves. -/
noncomputable def zap (m8 o8 m y0 y1 y2 y3 y4 y5 y6 y7 : Nat) : S8 :=
  frc (shN m (Nat.add (Nat.mul (Nat.land y7 za5) p512) (Nat.mul o8 4)) y0) fun u0 =>
  frc (shN m y0 y1) fun u1 =>
  frc (shN m y1 y2) fun u2 =>
  frc (shN m y2 y3) fun u3 =>
  frc (shN m y3 y4) fun u4 =>
  frc (shN m y4 y5) fun u5 =>
  frc (shN m y5 y6) fun u6 =>
  frc (shN m y6 y7) fun u7 =>
  frc (Nat.land (Nat.shiftRight y7 261632) m512) fun z =>
  frc (Nat.mul o8 1779033703) fun na =>
  frc (Nat.mul o8 3144134277) fun nb =>
  frc (Nat.mul o8 1013904242) fun nc =>
  frc (Nat.mul o8 2773480762) fun nd =>
  frc (Nat.mul o8 1359893119) fun ne =>
  frc (Nat.mul o8 2600822924) fun nf =>
  frc (Nat.mul o8 528734635) fun ng =>
  frc (Nat.mul o8 1541459225) fun nh =>
  z88 m8 o8 u0 u1 u2 u3 u4 u5 u6 u7 (za1 m8 o8 z) (List.range' 0 256) na nb nc nd ne nf ng nh
/-- From the words of the secrets to the leaves. -/
noncomputable def zak (m8 o8 m o x0 x1 x2 x3 x4 x5 x6 x7 : Nat) : S8 :=
  frc (shN m (Nat.mul o 3) x0) fun s0 =>
  frc (shN m x0 x1) fun s1 =>
  frc (shN m x1 x2) fun s2 =>
  frc (shN m x2 x3) fun s3 =>
  frc (shN m x3 x4) fun s4 =>
  frc (shN m x4 x5) fun s5 =>
  frc (shN m x5 x6) fun s6 =>
  frc (shN m x6 x7) fun s7 =>
  frc (shN m x7 (Nat.mul o 2147483648)) fun s8 =>
  frc (Nat.mul o 0) fun s9 =>
  frc (Nat.mul o 264) fun s15 =>
  frc (Nat.mul o 1779033703) fun na =>
  frc (Nat.mul o 3144134277) fun nb =>
  frc (Nat.mul o 1013904242) fun nc =>
  frc (Nat.mul o 2773480762) fun nd =>
  frc (Nat.mul o 1359893119) fun ne =>
  frc (Nat.mul o 2600822924) fun nf =>
  frc (Nat.mul o 528734635) fun ng =>
  frc (Nat.mul o 1541459225) fun nh =>
  finN m na nb nc nd ne nf ng nh (zap m8 o8 m) (goN m o k64 na nb nc nd ne nf ng nh s0 s1 s2 s3 s4 s5 s6 s7 s8 s9 s9 s9 s9 s9 s9 s15)
/-- The leaves of a tree of keys, eight lanes. -/
noncomputable def za2 (wf : Nat -> Nat -> Nat) : S8 :=
  frc (ones 4096) fun o =>
  frc (Nat.mul o 4294967295) fun m =>
  frc (ones 8) fun o8 =>
  frc (Nat.mul o8 4294967295) fun m8 =>
  frc (Nat.land (pkR (wf 0) 4096 0) m) fun w0 =>
  frc (Nat.land (pkR (wf 1) 4096 0) m) fun w1 =>
  frc (Nat.land (pkR (wf 2) 4096 0) m) fun w2 =>
  frc (Nat.land (pkR (wf 3) 4096 0) m) fun w3 =>
  frc (Nat.land (pkR (wf 4) 4096 0) m) fun w4 =>
  frc (Nat.land (pkR (wf 5) 4096 0) m) fun w5 =>
  frc (Nat.land (pkR (wf 6) 4096 0) m) fun w6 =>
  frc (Nat.land (pkR (wf 7) 4096 0) m) fun w7 =>
  frc (Nat.land (pkR (wf 8) 4096 0) m) fun w8 =>
  frc (Nat.land (pkR (wf 9) 4096 0) m) fun w9 =>
  frc (Nat.land (pkR (wf 10) 4096 0) m) fun w10 =>
  frc (Nat.land (pkR (wf 11) 4096 0) m) fun w11 =>
  frc (Nat.land (pkR (wf 12) 4096 0) m) fun w12 =>
  frc (Nat.land (pkR (wf 13) 4096 0) m) fun w13 =>
  frc (Nat.land (pkR (wf 14) 4096 0) m) fun w14 =>
  frc (Nat.land (pkR (wf 15) 4096 0) m) fun w15 =>
  frc (Nat.mul o 1779033703) fun na =>
  frc (Nat.mul o 3144134277) fun nb =>
  frc (Nat.mul o 1013904242) fun nc =>
  frc (Nat.mul o 2773480762) fun nd =>
  frc (Nat.mul o 1359893119) fun ne =>
  frc (Nat.mul o 2600822924) fun nf =>
  frc (Nat.mul o 528734635) fun ng =>
  frc (Nat.mul o 1541459225) fun nh =>
  finN m na nb nc nd ne nf ng nh (zak m8 o8 m o) (goN m o k64 na nb nc nd ne nf ng nh w0 w1 w2 w3 w4 w5 w6 w7 w8 w9 w10 w11 w12 w13 w14 w15)
section
variable (v2 : Nat -> V8)
def tx (i : Nat) : List UInt8 := padS (4 :: enc (z1s v2 i))
theorem zc0 (i : Nat) (hi : i < 8) (j : Nat) (hj : j < 16) : zh ((tx v2 i).drop (64 * 256)) j = shW ((v8w (v2 (4088 + i)) 7 :: longT).getD j 0) ((v8w (v2 (4088 + i)) 7 :: longT).getD (j + 1) 0) := by
  unfold tx
  rw [show 64 * 256 = 4 * 4096 from rfl, zau, zgg _ (z59 v2 i) _ (by omega)]
  have e1 : ∀ n, (4#32 :: (z1s v2 i ++ longT)).getD (4096 + n) 0 = (v8w (v2 (4088 + i)) 7 :: longT).getD n 0 := by
    intro n
    match n with
    | 0 =>
      rw [Nat.add_zero, show (4096 : Nat) = (8 * 511 + 7) + 1 from rfl, List.getD_eq_getElem?_getD, List.getElem?_cons_succ, List.getElem?_append_left (by rw [z59]; omega), zao v2 i 511 7 (by omega) (by omega), <- List.getD_eq_getElem?_getD, show 8 * 511 + i = 4088 + i by omega]; rfl
    | n + 1 =>
      rw [show 4096 + (n + 1) = (4096 + n) + 1 by omega, List.getD_eq_getElem?_getD, List.getElem?_cons_succ, List.getElem?_append_right (by rw [z59]; omega), z59, Nat.add_sub_cancel_left, List.getD_eq_getElem?_getD, List.getElem?_cons_succ]
  rw [e1, Nat.add_assoc, e1]
theorem z6u (n : Nat) (c : W) (k : Nat) (h : c.toNat = k) : Nat.mul (one (List.range n)) k = Q (List.range n) (fun _ => c) := by subst h; rw [<- z6s]; exact zf4 n c
set_option exponentiation.threshold 1000 in
theorem q_prev (f : Nat -> W) (c : W) (n N p k : Nat) (hN : N = 8 + n) (hp : p = 2 ^ (64 * n) - 1) (hk : c.toNat = k) : Nat.add (Nat.mul (Nat.land (Q (List.range N) f) p) p512) (Nat.mul (one (List.range 8)) k) = Q (List.range N) (fun l => if l < 8 then c else f (l - 8)) := by
  subst hN hp hk
  rw [zof, <- z6s]
  exact Q_prev f c n
theorem zco {n : Nat} {f g : Nat -> W} (h : ∀ i, i < n -> f i = g i) : Q (List.range n) f = Q (List.range n) g := by
  unfold Q P
  congr 1
  apply List.map_congr_left
  intro i hi
  rw [h i (List.mem_range.1 hi)]
theorem zmr (v : Nat -> V8) : za1 (M (List.range 8)) (one (List.range 8)) (Q (List.range 8) fun i => v8w (v2 (4088 + i)) 7) (Q (List.range 8) fun i => (v i).a) (Q (List.range 8) fun i => (v i).b) (Q (List.range 8) fun i => (v i).c) (Q (List.range 8) fun i => (v i).d) (Q (List.range 8) fun i => (v i).e) (Q (List.range 8) fun i => (v i).f) (Q (List.range 8) fun i => (v i).g) (Q (List.range 8) fun i => (v i).h) =
    S8.mk (Q (List.range 8) fun i => (mixS (v i) ((tx v2 i).drop (64 * 256))).a) (Q (List.range 8) fun i => (mixS (v i) ((tx v2 i).drop (64 * 256))).b) (Q (List.range 8) fun i => (mixS (v i) ((tx v2 i).drop (64 * 256))).c) (Q (List.range 8) fun i => (mixS (v i) ((tx v2 i).drop (64 * 256))).d) (Q (List.range 8) fun i => (mixS (v i) ((tx v2 i).drop (64 * 256))).e) (Q (List.range 8) fun i => (mixS (v i) ((tx v2 i).drop (64 * 256))).f) (Q (List.range 8) fun i => (mixS (v i) ((tx v2 i).drop (64 * 256))).g) (Q (List.range 8) fun i => (mixS (v i) ((tx v2 i).drop (64 * 256))).h) := by
  unfold za1
  rw [z8, z8, z8]
  have h0 : shN (M (List.range 8)) (Q (List.range 8) fun i => v8w (v2 (4088 + i)) 7) (Nat.mul (one (List.range 8)) 2147483648) = Q (List.range 8) fun i => zh ((tx v2 i).drop (64 * 256)) 0 := by
    have e : Nat.mul (one (List.range 8)) 2147483648 = Q (List.range 8) fun _ => 2147483648#32 := z6u 8 2147483648#32 _ rfl
    rw [e, z30]
    exact zco fun i hi => (zc0 v2 i hi 0 (by omega)).symm
  have hz : ∀ j, 1 <= j -> j < 15 -> Nat.mul (one (List.range 8)) 0 = Q (List.range 8) fun i => zh ((tx v2 i).drop (64 * 256)) j := by
    intro j h1 h2
    have e : Nat.mul (one (List.range 8)) 0 = Q (List.range 8) fun _ => 0#32 := z6u 8 0#32 _ rfl
    rw [e]
    refine zco fun i hi => ?_
    rw [zc0 v2 i hi j (by omega)]
    have : ∀ j : Fin 16, 1 <= j.val -> j.val < 15 -> 0#32 = shW (longT.getD (j.val - 1) 0) (longT.getD j.val 0) := by decide +kernel
    have h3 := this ⟨j, by omega⟩ h1 h2
    obtain ⟨k, rfl⟩ : ∃ k, j = k + 1 := ⟨j - 1, by omega⟩
    simpa [List.getD_eq_getElem?_getD] using h3
  have h15 : Nat.mul (one (List.range 8)) 131080 = Q (List.range 8) fun i => zh ((tx v2 i).drop (64 * 256)) 15 := by
    have e : Nat.mul (one (List.range 8)) 131080 = Q (List.range 8) fun _ => 131080#32 := z6u 8 131080#32 _ rfl
    rw [e]
    refine zco fun i hi => ?_
    rw [zc0 v2 i hi 15 (by omega)]
    have : 131080#32 = shW (longT.getD 14 0) (longT.getD 15 0) := by decide +kernel
    simpa [List.getD_eq_getElem?_getD] using this
  exact z9r (List.range 8) (fun i => (tx v2 i).drop (64 * 256)) v _ _ _ _ _ _ _ _ _ _ _ _ _ _ _ _ S8.mk h0 (hz 1 (by omega) (by omega)) (hz 2 (by omega) (by omega)) (hz 3 (by omega) (by omega)) (hz 4 (by omega) (by omega)) (hz 5 (by omega) (by omega)) (hz 6 (by omega) (by omega)) (hz 7 (by omega) (by omega)) (hz 8 (by omega) (by omega)) (hz 9 (by omega) (by omega)) (hz 10 (by omega) (by omega)) (hz 11 (by omega) (by omega)) (hz 12 (by omega) (by omega)) (hz 13 (by omega) (by omega)) (hz 14 (by omega) (by omega)) h15
def z6q (i : Nat) : V8 := blocks 257 v0 (tx v2 i)
def s8Q (f : Nat -> V8) : S8 := ⟨Q (List.range 8) fun i => (f i).a, Q (List.range 8) fun i => (f i).b, Q (List.range 8) fun i => (f i).c, Q (List.range 8) fun i => (f i).d, Q (List.range 8) fun i => (f i).e, Q (List.range 8) fun i => (f i).f, Q (List.range 8) fun i => (f i).g, Q (List.range 8) fun i => (f i).h⟩
theorem zry : zap (M (List.range 8)) (one (List.range 8)) (M (List.range 4096)) (Q (List.range 4096) fun i => v8w (v2 i) 0) (Q (List.range 4096) fun i => v8w (v2 i) 1) (Q (List.range 4096) fun i => v8w (v2 i) 2) (Q (List.range 4096) fun i => v8w (v2 i) 3) (Q (List.range 4096) fun i => v8w (v2 i) 4) (Q (List.range 4096) fun i => v8w (v2 i) 5) (Q (List.range 4096) fun i => v8w (v2 i) 6) (Q (List.range 4096) fun i => v8w (v2 i) 7) = s8Q (z6q v2) := by
  unfold zap
  rw [z8, z8, z8, z8, z8, z8, z8, z8, z8, z8, z8, z8, z8, z8, z8, z8, z8]
  have hp : Nat.add (Nat.mul (Nat.land (Q (List.range 4096) fun i => v8w (v2 i) 7) za5) p512) (Nat.mul (one (List.range 8)) 4) = Q (List.range 4096) (fun l => if l < 8 then 4#32 else v8w (v2 (l - 8)) 7) := by
    exact q_prev (fun i => v8w (v2 i) 7) 4#32 4088 4096 _ 4 rfl zoe rfl
  have h0 : shN (M (List.range 4096)) (Nat.add (Nat.mul (Nat.land (Q (List.range 4096) fun i => v8w (v2 i) 7) za5) p512) (Nat.mul (one (List.range 8)) 4)) (Q (List.range 4096) fun i => v8w (v2 i) 0) = uT v2 0 := by
    rw [hp, z30]; rfl
  have ht : ∀ t, shN (M (List.range 4096)) (Q (List.range 4096) fun i => v8w (v2 i) t) (Q (List.range 4096) fun i => v8w (v2 i) (t + 1)) = uT v2 (t + 1) := by
    intro t
    rw [z30]
    unfold uT pw
    simp only [if_neg (Nat.succ_ne_zero t), Nat.add_sub_cancel]
  have hz : Nat.land (Nat.shiftRight (Q (List.range 4096) fun i => v8w (v2 i) 7) 261632) m512 = Q (List.range 8) fun i => v8w (v2 (4088 + i)) 7 := by
    rw [zc3]
    exact z7e (fun i => v8w (v2 i) 7) (N := 4096) (a := 4088) (c := 8) (by omega)
  rw [h0, ht 0, ht 1, ht 2, ht 3, ht 4, ht 5, ht 6, hz]
  have hi : ∀ (c : W) (k : Nat), c.toNat = k -> Nat.mul (one (List.range 8)) k = Q (List.range 8) fun _ => c := z6u 8
  have r := zga v2 (za1 (M (List.range 8)) (one (List.range 8)) (Q (List.range 8) fun i => v8w (v2 (4088 + i)) 7)) 256 0 (fun _ => v0) rfl
  have na : Nat.mul (one (List.range 8)) 1779033703 = Q (List.range 8) fun _ => v0.a := hi 1779033703#32 _ rfl
  have nb : Nat.mul (one (List.range 8)) 3144134277 = Q (List.range 8) fun _ => v0.b := hi 3144134277#32 _ rfl
  have nc : Nat.mul (one (List.range 8)) 1013904242 = Q (List.range 8) fun _ => v0.c := hi 1013904242#32 _ rfl
  have nd : Nat.mul (one (List.range 8)) 2773480762 = Q (List.range 8) fun _ => v0.d := hi 2773480762#32 _ rfl
  have ne : Nat.mul (one (List.range 8)) 1359893119 = Q (List.range 8) fun _ => v0.e := hi 1359893119#32 _ rfl
  have nf : Nat.mul (one (List.range 8)) 2600822924 = Q (List.range 8) fun _ => v0.f := hi 2600822924#32 _ rfl
  have ng : Nat.mul (one (List.range 8)) 528734635 = Q (List.range 8) fun _ => v0.g := hi 528734635#32 _ rfl
  have nh : Nat.mul (one (List.range 8)) 1541459225 = Q (List.range 8) fun _ => v0.h := hi 1541459225#32 _ rfl
  rw [na, nb, nc, nd, ne, nf, ng, nh]
  refine r.trans ?_
  refine (zmr v2 (fun i => blocks 256 v0 ((padS (4 :: enc (z1s v2 i))).drop (64 * 0)))).trans ?_
  unfold s8Q z6q
  have e : ∀ i, blocks 257 v0 (tx v2 i) = mixS (blocks 256 v0 ((padS (4 :: enc (z1s v2 i))).drop (64 * 0))) ((tx v2 i).drop (64 * 256)) := fun i => zel 256 v0 _
  simp only [e]
end
section
variable (v1 : Nat -> V8)
def sh2 (l : Nat) : V8 := mixS v0 (padS (3 :: outV (v1 l)))
theorem zqy : zak (M (List.range 8)) (one (List.range 8)) (M (List.range 4096)) (one (List.range 4096)) (Q (List.range 4096) fun i => (v1 i).a) (Q (List.range 4096) fun i => (v1 i).b) (Q (List.range 4096) fun i => (v1 i).c) (Q (List.range 4096) fun i => (v1 i).d) (Q (List.range 4096) fun i => (v1 i).e) (Q (List.range 4096) fun i => (v1 i).f) (Q (List.range 4096) fun i => (v1 i).g) (Q (List.range 4096) fun i => (v1 i).h) = s8Q (z6q (sh2 v1)) := by
  unfold zak
  rw [z8, z8, z8, z8, z8, z8, z8, z8, z8, z8, z8, z8, z8, z8, z8, z8, z8, z8, z8]
  have hc : ∀ (c : W) (k : Nat), c.toNat = k -> Nat.mul (one (List.range 4096)) k = Q (List.range 4096) fun _ => c := z6u 4096
  have sw : ∀ j, j < 16 -> ∀ i, shW ((3#32 :: ((v1 i).l ++ padT)).getD j 0) ((3#32 :: ((v1 i).l ++ padT)).getD (j + 1) 0) = zh (padS (3 :: outV (v1 i))) j := fun j hj i => (zqz (v1 i) j hj).symm
  have c3 : Nat.mul (one (List.range 4096)) 3 = Q (List.range 4096) fun _ => 3#32 := hc 3#32 _ rfl
  have c8 : Nat.mul (one (List.range 4096)) 2147483648 = Q (List.range 4096) fun _ => 2147483648#32 := hc 2147483648#32 _ rfl
  have c0 : Nat.mul (one (List.range 4096)) 0 = Q (List.range 4096) fun _ => 0#32 := hc 0#32 _ rfl
  have cF : Nat.mul (one (List.range 4096)) 264 = Q (List.range 4096) fun _ => 264#32 := hc 264#32 _ rfl
  rw [c3, c8, c0, cF]
  have na : Nat.mul (one (List.range 4096)) 1779033703 = Q (List.range 4096) fun _ => v0.a := hc 1779033703#32 _ rfl
  have nb : Nat.mul (one (List.range 4096)) 3144134277 = Q (List.range 4096) fun _ => v0.b := hc 3144134277#32 _ rfl
  have nc : Nat.mul (one (List.range 4096)) 1013904242 = Q (List.range 4096) fun _ => v0.c := hc 1013904242#32 _ rfl
  have nd : Nat.mul (one (List.range 4096)) 2773480762 = Q (List.range 4096) fun _ => v0.d := hc 2773480762#32 _ rfl
  have ne : Nat.mul (one (List.range 4096)) 1359893119 = Q (List.range 4096) fun _ => v0.e := hc 1359893119#32 _ rfl
  have nf : Nat.mul (one (List.range 4096)) 2600822924 = Q (List.range 4096) fun _ => v0.f := hc 2600822924#32 _ rfl
  have ng : Nat.mul (one (List.range 4096)) 528734635 = Q (List.range 4096) fun _ => v0.g := hc 528734635#32 _ rfl
  have nh : Nat.mul (one (List.range 4096)) 1541459225 = Q (List.range 4096) fun _ => v0.h := hc 1541459225#32 _ rfl
  rw [na, nb, nc, nd, ne, nf, ng, nh]
  have w0 : ∀ i, zh (padS (3 :: outV (v1 i))) 0 = shW 3#32 (v1 i).a := fun i => (sw 0 (by omega) i).symm.trans rfl
  have w1 : ∀ i, zh (padS (3 :: outV (v1 i))) 1 = shW (v1 i).a (v1 i).b := fun i => (sw 1 (by omega) i).symm.trans rfl
  have w2 : ∀ i, zh (padS (3 :: outV (v1 i))) 2 = shW (v1 i).b (v1 i).c := fun i => (sw 2 (by omega) i).symm.trans rfl
  have w3 : ∀ i, zh (padS (3 :: outV (v1 i))) 3 = shW (v1 i).c (v1 i).d := fun i => (sw 3 (by omega) i).symm.trans rfl
  have w4 : ∀ i, zh (padS (3 :: outV (v1 i))) 4 = shW (v1 i).d (v1 i).e := fun i => (sw 4 (by omega) i).symm.trans rfl
  have w5 : ∀ i, zh (padS (3 :: outV (v1 i))) 5 = shW (v1 i).e (v1 i).f := fun i => (sw 5 (by omega) i).symm.trans rfl
  have w6 : ∀ i, zh (padS (3 :: outV (v1 i))) 6 = shW (v1 i).f (v1 i).g := fun i => (sw 6 (by omega) i).symm.trans rfl
  have w7 : ∀ i, zh (padS (3 :: outV (v1 i))) 7 = shW (v1 i).g (v1 i).h := fun i => (sw 7 (by omega) i).symm.trans rfl
  have w8 : ∀ i, zh (padS (3 :: outV (v1 i))) 8 = shW (v1 i).h 2147483648#32 := fun i => (sw 8 (by omega) i).symm.trans rfl
  have w9 : ∀ i, zh (padS (3 :: outV (v1 i))) 9 = 0#32 := fun i => (sw 9 (by omega) i).symm.trans (by show shW 2147483648#32 0#32 = _; decide +kernel)
  have w10 : ∀ i, zh (padS (3 :: outV (v1 i))) 10 = 0#32 := fun i => (sw 10 (by omega) i).symm.trans (by show shW 0#32 0#32 = _; decide +kernel)
  have w11 : ∀ i, zh (padS (3 :: outV (v1 i))) 11 = 0#32 := fun i => (sw 11 (by omega) i).symm.trans (by show shW 0#32 0#32 = _; decide +kernel)
  have w12 : ∀ i, zh (padS (3 :: outV (v1 i))) 12 = 0#32 := fun i => (sw 12 (by omega) i).symm.trans (by show shW 0#32 0#32 = _; decide +kernel)
  have w13 : ∀ i, zh (padS (3 :: outV (v1 i))) 13 = 0#32 := fun i => (sw 13 (by omega) i).symm.trans (by show shW 0#32 0#32 = _; decide +kernel)
  have w14 : ∀ i, zh (padS (3 :: outV (v1 i))) 14 = 0#32 := fun i => (sw 14 (by omega) i).symm.trans (by show shW 0#32 0#32 = _; decide +kernel)
  have w15 : ∀ i, zh (padS (3 :: outV (v1 i))) 15 = 264#32 := fun i => (sw 15 (by omega) i).symm.trans (by show shW 0#32 67584#32 = _; decide +kernel)
  refine (z9r (List.range 4096) (fun i => padS (3 :: outV (v1 i))) (fun _ => v0) _ _ _ _ _ _ _ _ _ _ _ _ _ _ _ _ (zap (M (List.range 8)) (one (List.range 8)) (M (List.range 4096))) (by simp only [w0]; exact z30 _ _ _) (by simp only [w1]; exact z30 _ _ _) (by simp only [w2]; exact z30 _ _ _) (by simp only [w3]; exact z30 _ _ _) (by simp only [w4]; exact z30 _ _ _) (by simp only [w5]; exact z30 _ _ _) (by simp only [w6]; exact z30 _ _ _) (by simp only [w7]; exact z30 _ _ _) (by simp only [w8]; exact z30 _ _ _) (by simp only [w9]) (by simp only [w10]) (by simp only [w11]) (by simp only [w12]) (by simp only [w13]) (by simp only [w14]) (by simp only [w15])).trans ?_
  exact zry (sh2 v1)
end
set_option exponentiation.threshold 300000 in
/-- A tree's leaves, worked out. -/
theorem zms (wf : Nat -> Nat -> Nat) (msg : Nat -> List UInt8) (hm : ∀ l j, j < 16 -> zh (padS (msg l)) j = BitVec.ofNat 32 (wf j l)) (hb : ∀ j l, wf j l < 2 ^ 64) : za2 wf = s8Q (z6q (sh2 fun l => mixS v0 (padS (msg l)))) := by
  unfold za2
  rw [z8, z8, z8, z8, z8, z8, z8, z8, z8, z8, z8, z8, z8, z8, z8, z8, z8, z8, z8, z8, z8, z8, z8, z8, z8, z8, z8, z8]
  rw [M_is, M_is, z6s, z6s]
  have hc : ∀ (c : W) (k : Nat), c.toNat = k -> Nat.mul (one (List.range 4096)) k = Q (List.range 4096) fun _ => c := z6u 4096
  have na : Nat.mul (one (List.range 4096)) 1779033703 = Q (List.range 4096) fun _ => v0.a := hc 1779033703#32 _ rfl
  have nb : Nat.mul (one (List.range 4096)) 3144134277 = Q (List.range 4096) fun _ => v0.b := hc 3144134277#32 _ rfl
  have nc : Nat.mul (one (List.range 4096)) 1013904242 = Q (List.range 4096) fun _ => v0.c := hc 1013904242#32 _ rfl
  have nd : Nat.mul (one (List.range 4096)) 2773480762 = Q (List.range 4096) fun _ => v0.d := hc 2773480762#32 _ rfl
  have ne : Nat.mul (one (List.range 4096)) 1359893119 = Q (List.range 4096) fun _ => v0.e := hc 1359893119#32 _ rfl
  have nf : Nat.mul (one (List.range 4096)) 2600822924 = Q (List.range 4096) fun _ => v0.f := hc 2600822924#32 _ rfl
  have ng : Nat.mul (one (List.range 4096)) 528734635 = Q (List.range 4096) fun _ => v0.g := hc 528734635#32 _ rfl
  have nh : Nat.mul (one (List.range 4096)) 1541459225 = Q (List.range 4096) fun _ => v0.h := hc 1541459225#32 _ rfl
  rw [na, nb, nc, nd, ne, nf, ng, nh]
  have hw : ∀ j, j < 16 -> Nat.land (pkR (wf j) 4096 0) (M (List.range 4096)) = Q (List.range 4096) fun l => zh (padS (msg l)) j := by
    intro j hj
    rw [zh0, Nat.mul_zero, Nat.add_zero]
    exact z6r _ _ (hb j) fun i => (hm i j hj).symm
  refine (z9r (List.range 4096) (fun i => padS (msg i)) (fun _ => v0) _ _ _ _ _ _ _ _ _ _ _ _ _ _ _ _ (zak (M (List.range 8)) (one (List.range 8)) (M (List.range 4096)) (one (List.range 4096))) (hw 0 (by omega)) (hw 1 (by omega)) (hw 2 (by omega)) (hw 3 (by omega)) (hw 4 (by omega)) (hw 5 (by omega)) (hw 6 (by omega)) (hw 7 (by omega)) (hw 8 (by omega)) (hw 9 (by omega)) (hw 10 (by omega)) (hw 11 (by omega)) (hw 12 (by omega)) (hw 13 (by omega)) (hw 14 (by omega)) (hw 15 (by omega))).trans ?_
  exact zqy fun l => mixS v0 (padS (msg l))
end Am
end Go.Proofs.YtjgljhbmljgaeaaDoor
end
section
/- SHA-256: contracts: turn, spread. -/
namespace Go.Proofs.YtjgljhbmljgaeaaDoor
namespace Am
theorem rl_c {k : Nat} : ∀ (l : List W), RLs k (ws l)
  | [] => by simp [ws, RLs]
  | _ :: l => by have := rl_c (k := k) l; simp only [ws] at this; simp [ws, wc, RLs, RL, this]
theorem z5p {k : Nat} {l : List AV} (h : RLs k l) : RL k (.agg l) := by simpa only [RL] using h
theorem zsa (s : List UInt8) (i : Nat) : IntKind.u32.wrap ((getS ((s.drop (4 * i)).take 4) : Nat) : Int) = ((zh s i).toNat : Int) := by
  rw [z91, zh, BitVec.toNat_ofNat]; rfl
theorem zka {w : List W} {x : W} {n : Nat} (h : w.length = n) (hn : n < 64) : (ws w ++ List.replicate (64 - n) (AV.int .u32 0)).take n ++ AV.int .u32 x.toNat :: (ws w ++ List.replicate (64 - n) (AV.int .u32 0)).drop (n + 1) = ws (w ++ [x]) ++ List.replicate (64 - (n + 1)) (AV.int .u32 0) := by
  have hl : (ws w).length = n := by rw [z92, h]
  have e : 64 - n = (64 - (n + 1)) + 1 := by omega
  rw [List.take_append_of_le_length (by omega), List.take_of_length_le (by omega), List.drop_append, List.drop_of_length_le (by omega), hl]
  rw [show n + 1 - n = 1 by omega, e, List.replicate_succ, List.drop_succ_cons, List.drop_zero, List.nil_append]
  simp [ws, wc]
set_option maxHeartbeats 4000000 in
theorem zr8 (Y : Store) (s : List UInt8) (h : 64 <= s.length) (hs : s.length < 9223372036854775808) : ACallsTo TC 86 [.str s] Y (.agg (ws (z1d s 64))) Y := by
  obtain ⟨R, hR⟩ : ∃ R, R = z1d s 64 := ⟨_, rfl⟩
  rw [<- hR]
  refine ACallsTo.of_body qbok (by simp) fun hw _ => ?_
  repeat' (first|refine zW.zs ?_|refine zW.zb ?_|refine zW.zc ?_|refine zW.zt rfl ?_|refine zW.zf rfl ?_|(refine zW.zd rfl (fun ht => ?_) (fun ht => ?_)<;>try (exfalso;omega))|((first|refine zW.zr ?_|refine zW.zk ?_|refine zW.ze ?_|refine zW.zq ?_|((first|apply zg0|apply zg1|apply zg2|apply zg3|apply zg4|apply zg5|apply zg6|apply zg7)<;>intro ht));all_goals try simp (disch:=first|omega|(simp only [lens];first|done|omega)) only [go_sem,reduceEqDiff,Nat.reduceBEq,reduceAdd,reduceMul,reduceSub,reduceLeDiff,reduceToNat,reducePow]))
  refine zW.loop (fun m O Y' => ∃ i : Nat, m + i = 64 /\ O 0 = .str s /\ O 2 = .ptr Y.length 0 0 /\ O 6 = .int .i64 i /\ Y' = Y ++ [some [ws (z1d s i) ++ List.replicate (64 - i) (AV.int .u32 0)]]) 64 ?_ ?_
  · exact ⟨0, by omega, by simp (disch:=first|omega|(simp only [lens];first|done|omega)) only [go_sem,reduceEqDiff,Nat.reduceBEq,reduceAdd,reduceMul,reduceSub,reduceLeDiff,reduceToNat,reducePow], by simp (disch:=first|omega|(simp only [lens];first|done|omega)) only [go_sem,reduceEqDiff,Nat.reduceBEq,reduceAdd,reduceMul,reduceSub,reduceLeDiff,reduceToNat,reducePow], by simp (disch:=first|omega|(simp only [lens];first|done|omega)) only [go_sem,reduceEqDiff,Nat.reduceBEq,reduceAdd,reduceMul,reduceSub,reduceLeDiff,reduceToNat,reducePow]; rfl, rfl⟩
  · rintro m O Y' ⟨i, hm, q0, q2, q6, rfl⟩
    have hsl := zd6 s i
    have hset := fun x => zka (x := x) hsl
    have hwi : ∀ j, j < i -> (ws (z1d s i) ++ List.replicate (64 - i) (AV.int .u32 0))[j]? = some (.int .u32 (wat (z1d s i) j).toNat) := by
      intro j hj
      rw [List.getElem?_append_left (by rw [z92]; omega), zdu (by omega)]
    have hlen : (ws (z1d s i) ++ List.replicate (64 - i) (AV.int .u32 0)).length = 64 \/ 64 < i := by
      simp [z92, hsl]; omega
    by_cases hi : i < 64
    · have hlen : (ws (z1d s i) ++ List.replicate (64 - i) (AV.int .u32 0)).length = 64 := by omega
      generalize hcc : ws (z1d s i) ++ List.replicate (64 - i) (AV.int .u32 0) = cc at *
      by_cases h16 : i < 16
      · have hd1 : (s.take (4 * i + 4)).length = 4 * i + 4 := by rw [List.length_take]; omega
        repeat' (first|refine zW.zs ?_|refine zW.zb ?_|refine zW.zc ?_|refine zW.zt rfl ?_|refine zW.zf rfl ?_|(refine zW.zd rfl (fun ht => ?_) (fun ht => ?_)<;>try (exfalso;omega))|((first|refine zW.zr ?_|refine zW.zk ?_|refine zW.ze ?_|refine zW.zq ?_|(apply callW.mk_pu; (first | exact (fun _ => zej _ _ (by simp; omega)))) | (apply callW.za; (first | exact (zej _ _ (by simp; omega)))) | ((first|apply zg0|apply zg1|apply zg2|apply zg3|apply zg4|apply zg5|apply zg6|apply zg7)<;>intro ht));all_goals try simp (disch:=first|omega|(simp only [lens];first|done|omega)) only [go_sem,reduceEqDiff,Nat.reduceBEq,reduceAdd,reduceMul,reduceSub,reduceLeDiff,reduceToNat,reducePow, q0, q2, q6, hlen]))
        have ev : ((getS ((s.take (4 * (i : Int) + 4).toNat).drop (4 * (i : Int)).toNat) : Nat) : Int) % 4294967296 = ((z3t s (z1d s i)).toNat : Int) := by
          rw [show (4 * (i : Int) + 4).toNat = 4 * i + 4 by omega, show (4 * (i : Int)).toNat = 4 * i by omega, List.drop_take, show 4 * i + 4 - 4 * i = 4 by omega]
          have := zsa s i
          rw [z91] at this
          rw [this, z3t, if_pos (by omega), hsl]
        refine ⟨64 - (i + 1), by omega, i + 1, by omega, by simp, ?_⟩
        rw [ev, hset _ hi, z1d]
      · have en : z3t s (z1d s i) = wat (z1d s i) (i - 16) + wat (z1d s i) (i - 7) + ss0 (wat (z1d s i) (i - 15)) + ss1 (wat (z1d s i) (i - 2)) := by rw [z3t, if_neg (by omega), hsl]
        have g16 := hwi (i - 16) (by omega)
        have g7 := hwi (i - 7) (by omega)
        have g15 := hwi (i - 15) (by omega)
        have g2 := hwi (i - 2) (by omega)
        have t16 : ((i : Int) - 16).toNat = i - 16 := by omega
        have t7 : ((i : Int) - 7).toNat = i - 7 := by omega
        have t15 : ((i : Int) - 15).toNat = i - 15 := by omega
        have t2 : ((i : Int) - 2).toNat = i - 2 := by omega
        generalize wat (z1d s i) (i - 16) = w16 at *
        generalize wat (z1d s i) (i - 7) = w7 at *
        generalize wat (z1d s i) (i - 15) = w15 at *
        generalize wat (z1d s i) (i - 2) = w2 at *
        have r7 : ((-7 : Int) % 32).toNat = 25 := rfl
        have r18 : ((-18 : Int) % 32).toNat = 14 := rfl
        have r17 : ((-17 : Int) % 32).toNat = 15 := rfl
        have r19 : ((-19 : Int) % 32).toNat = 13 := rfl
        have en2 := hset (z3t s (z1d s i)) hi
        rw [en] at en2
        simp only [ss0, ss1] at en2
        repeat' (first|refine zW.zs ?_|refine zW.zb ?_|refine zW.zc ?_|refine zW.zt rfl ?_|refine zW.zf rfl ?_|(refine zW.zd rfl (fun ht => ?_) (fun ht => ?_)<;>try (exfalso;omega))|((first|refine zW.zr ?_|refine zW.zk ?_|refine zW.ze ?_|refine zW.zq ?_|(apply callW.mk_pu; (first | exact (fun _ => z9l _ _ _))) | (apply callW.za; (first | exact (z9l _ _ _))) | ((first|apply zg0|apply zg1|apply zg2|apply zg3|apply zg4|apply zg5|apply zg6|apply zg7)<;>intro ht));all_goals try simp (disch:=first|omega|(simp only [lens];first|done|omega)) only [go_sem,reduceEqDiff,Nat.reduceBEq,reduceAdd,reduceMul,reduceSub,reduceLeDiff,reduceToNat,reducePow, q0, q2, q6, hlen, g16, g7, g15, g2, t16, t7, t15, t2, r7, r18, r17, r19]))
        refine ⟨64 - (i + 1), by omega, i + 1, by omega, by simp, ?_⟩
        rw [en2, z1d, en]
        simp only [ss0, ss1]
    · have e : i = 64 := by omega
      have eR : z1d s i = R := by rw [hR, e]
      have hsR : R.length = 64 := by rw [<- eR, hsl, e]
      have hl64 : (ws R).length = 64 := by rw [z92, hsR]
      have e0 : List.replicate (64 - i) (AV.int .u32 0) = [] := by rw [e]; rfl
      rw [eR, e0, List.append_nil] at *
      clear hwi hset hlen hR
      have hd : (ws R).drop 64 = [] := List.drop_of_length_le (by omega)
      repeat' (first|refine zW.zs ?_|refine zW.zb ?_|refine zW.zc ?_|refine zW.zt rfl ?_|refine zW.zf rfl ?_|(refine zW.zd rfl (fun ht => ?_) (fun ht => ?_)<;>try (exfalso;omega))|((first|refine zW.zr ?_|refine zW.zk ?_|refine zW.ze ?_|refine zW.zq ?_|((first|apply zg0|apply zg1|apply zg2|apply zg3|apply zg4|apply zg5|apply zg6|apply zg7)<;>intro ht));all_goals try simp (disch:=first|omega|(simp only [lens];first|done|omega)) only [go_sem,reduceEqDiff,Nat.reduceBEq,reduceAdd,reduceMul,reduceSub,reduceLeDiff,reduceToNat,reducePow, q0, q2, q6, hl64, hd]))
      exact DownV.pure hw (z5p (rl_c _))
end Am
end Go.Proofs.YtjgljhbmljgaeaaDoor
end
section
/- SHA-256: contracts: mix. -/
namespace Go.Proofs.YtjgljhbmljgaeaaDoor
namespace Am
def V8.c8 (v : V8) : List AV := [.int .u32 v.a.toNat, .int .u32 v.b.toNat, .int .u32 v.c.toNat, .int .u32 v.d.toNat, .int .u32 v.e.toNat, .int .u32 v.f.toNat, .int .u32 v.g.toNat, .int .u32 v.h.toNat]
theorem ws_l (v : V8) : ws v.l = v.c8 := rfl
theorem zmg {i : Nat} (h : i < 64) : (gl_sha_rounds.drop i)[0]? = some (.int .u32 (kAt i).toNat) := by
  have hall : ∀ j : Fin 64, (gl_sha_rounds.drop j.val)[0]? = some (.int .u32 (kAt j.val).toNat) := by
    intro j
    have h2 : (gl_sha_rounds.drop j.val)[0]? = some (AV.int .u32 (shaRounds.getD j.val 0)) := by
      have hl : shaRounds.length = 64 := rfl
      simp only [gl_sha_rounds, List.getElem?_drop, Nat.add_zero, List.getElem?_map, List.getD_eq_getElem?_getD]
      rw [List.getElem?_eq_getElem (by rw [hl]; exact j.isLt)]; rfl
    rw [h2]
    have h3 : ∀ j : Fin 64, shaRounds.getD j.val 0 = ((kAt j.val).toNat : Int) := by decide
    rw [h3 j]
  exact hall ⟨i, h⟩
theorem zfk : gl_sha_rounds.length = 64 := rfl
set_option maxHeartbeats 8000000 in
theorem mix_to (Y : Store) (v : V8) (s : List UInt8) (h : 64 <= s.length) (hs : s.length < 9223372036854775808) : ACallsTo TC 68 [.agg (ws v.l), .str s] Y (.agg (ws (mixS v s).l)) Y := by
  obtain ⟨R, hR⟩ : ∃ R, R = z1d s 64 := ⟨_, rfl⟩
  have hsp := fun Y => zr8 Y s h hs
  rw [<- hR] at hsp
  have hRl : R.length = 64 := by rw [hR, zd6]
  have hwR : (ws R).length = 64 := by rw [z92, hRl]
  have hst : ∀ n, rnds s v (n + 1) = rnd (rnds s v n) (kAt n) (wat R n) := fun n => by rw [rnds, hR]
  obtain ⟨F, hF⟩ : ∃ F, F = (rnds s v 64).add v := ⟨_, rfl⟩
  have hmix : mixS v s = F := hF.symm
  rw [hmix, ws_l, ws_l]
  clear hmix
  refine ACallsTo.of_body qaok (by simp) fun hw _ => ?_
  unfold V8.c8
  repeat' (first|refine zW.zs ?_|refine zW.zb ?_|refine zW.zc ?_|refine zW.zt rfl ?_|refine zW.zf rfl ?_|(refine zW.zd rfl (fun ht => ?_) (fun ht => ?_)<;>try (exfalso;omega))|((first|refine zW.zr ?_|refine zW.zk ?_|refine zW.ze ?_|refine zW.zq ?_|(apply callW.mk_pu; (first | exact (fun _ => hsp _))) | (apply callW.za; (first | exact (hsp _))) | ((first|apply zg0|apply zg1|apply zg2|apply zg3|apply zg4|apply zg5|apply zg6|apply zg7)<;>intro ht));all_goals try simp (disch:=first|omega|(simp only [lens];first|done|omega)) only [go_sem,reduceEqDiff,Nat.reduceBEq,reduceAdd,reduceMul,reduceSub,reduceLeDiff,reduceToNat,reducePow]))
  refine zW.loop (fun m O Y' => ∃ i : Nat, m + i = 64 /\ O 2 = .ptr Y.length 0 0 /\ O 4 = .ptr (Y.length + 1) 0 0 /\ O 5 = .ptr (Y.length + 2) 0 0 /\ O 15 = .agg (ws R) /\ O 16 = .int .i64 i ∧
    Y' = Y ++ [some [v.c8], some [[AV.int .u32 0, AV.int .u32 0, AV.int .u32 0, AV.int .u32 0, AV.int .u32 0, AV.int .u32 0, AV.int .u32 0, AV.int .u32 0]], some [(rnds s v i).c8]]) 64 ?_ ?_
  · exact ⟨0, by omega, by simp (disch:=first|omega|(simp only [lens];first|done|omega)) only [go_sem,reduceEqDiff,Nat.reduceBEq,reduceAdd,reduceMul,reduceSub,reduceLeDiff,reduceToNat,reducePow], by simp (disch:=first|omega|(simp only [lens];first|done|omega)) only [go_sem,reduceEqDiff,Nat.reduceBEq,reduceAdd,reduceMul,reduceSub,reduceLeDiff,reduceToNat,reducePow], by simp (disch:=first|omega|(simp only [lens];first|done|omega)) only [go_sem,reduceEqDiff,Nat.reduceBEq,reduceAdd,reduceMul,reduceSub,reduceLeDiff,reduceToNat,reducePow], by simp (disch:=first|omega|(simp only [lens];first|done|omega)) only [go_sem,reduceEqDiff,Nat.reduceBEq,reduceAdd,reduceMul,reduceSub,reduceLeDiff,reduceToNat,reducePow], by simp (disch:=first|omega|(simp only [lens];first|done|omega)) only [go_sem,reduceEqDiff,Nat.reduceBEq,reduceAdd,reduceMul,reduceSub,reduceLeDiff,reduceToNat,reducePow]; rfl, rfl⟩
  · rintro m O Y' ⟨i, hm, q2, q4, q5, q15, q16, rfl⟩
    by_cases hi : i < 64
    · have hk := zmg hi
      have hw := zdu (w := R) (i := i) (by omega)
      have hst := hst i
      generalize rnds s v i = u at *
      obtain ⟨a, b, c, d, e, f, g, h⟩ := u
      generalize kAt i = kk at *
      generalize wat R i = ww at *
      have r6 : ((-6 : Int) % 32).toNat = 26 := rfl
      have r11 : ((-11 : Int) % 32).toNat = 21 := rfl
      have r25 : ((-25 : Int) % 32).toNat = 7 := rfl
      have r2 : ((-2 : Int) % 32).toNat = 30 := rfl
      have r13 : ((-13 : Int) % 32).toNat = 19 := rfl
      have r22 : ((-22 : Int) % 32).toNat = 10 := rfl
      refine zW.zs ?_
      refine zW.zr ?_
      simp (disch:=first|omega|(simp only [lens];first|done|omega)) only [go_sem,reduceEqDiff,Nat.reduceBEq,reduceAdd,reduceMul,reduceSub,reduceLeDiff,reduceToNat,reducePow, q16]
      refine zW.zs ?_
      refine zW.zt rfl ?_
      refine zW.zk ?_
      simp (disch:=first|omega|(simp only [lens];first|done|omega)) only [go_sem,reduceEqDiff,Nat.reduceBEq,reduceAdd,reduceMul,reduceSub,reduceLeDiff,reduceToNat,reducePow]
      refine zW.zs ?_
      refine zW.zb ?_
      refine zW.zs ?_
      refine zW.regS ?_
      simp (disch:=first|omega|(simp only [lens];first|done|omega)) only [go_sem,reduceEqDiff,Nat.reduceBEq,reduceAdd,reduceMul,reduceSub,reduceLeDiff,reduceToNat,reducePow, q15, q16, hwR, hw]
      (refine zW.slots [2, 4, 5, 6, 7, 15, 16] ?_; intro O1 hs; simp (disch:=first|omega|(simp only [lens];first|done|omega)) only [go_sem,reduceEqDiff,Nat.reduceBEq,reduceAdd,reduceMul,reduceSub,reduceLeDiff,reduceToNat,reducePow, q2, q4, q5, q15, q16] at hs; obtain ⟨s2, s4, s5, s6, s7, s15, s16⟩ := hs)
      refine zW.zs ?_
      refine zW.regS ?_
      simp (disch:=first|omega|(simp only [lens];first|done|omega)) only [go_sem,reduceEqDiff,Nat.reduceBEq,reduceAdd,reduceMul,reduceSub,reduceLeDiff,reduceToNat,reducePow, s5, V8.c8]
      (refine zW.slots [2, 4, 5, 6, 7, 8, 9, 15, 16] ?_; intro O2 hs; simp (disch:=first|omega|(simp only [lens];first|done|omega)) only [go_sem,reduceEqDiff,Nat.reduceBEq,reduceAdd,reduceMul,reduceSub,reduceLeDiff,reduceToNat,reducePow, s2, s4, s5, s6, s7, s15, s16] at hs; obtain ⟨s2, s4, s5, s6, s7, s8, s9, s15, s16⟩ := hs)
      refine zW.zs ?_
      (refine zW.regS ?_; (simp (disch:=first|omega|(simp only [lens];first|done|omega)) only [go_sem,reduceEqDiff,Nat.reduceBEq,reduceAdd,reduceMul,reduceSub,reduceLeDiff,reduceToNat,reducePow, s2, s4, s5, s6, s7, s8, s9, V8.c8, hk, zfk, r6, r11, r25]); repeat' (apply callW.za; (first | exact (z9l _ _ _)); all_goals try (simp (disch:=first|omega|(simp only [lens];first|done|omega)) only [go_sem,reduceEqDiff,Nat.reduceBEq,reduceAdd,reduceMul,reduceSub,reduceLeDiff,reduceToNat,reducePow, s2, s4, s5, s6, s7, s8, s9, V8.c8, hk, zfk, r6, r11, r25])))
      (refine zW.slots [2, 4, 5, 8, 9, 10, 15, 16] ?_; intro O3 hs; simp (disch:=first|omega|(simp only [lens];first|done|omega)) only [go_sem,reduceEqDiff,Nat.reduceBEq,reduceAdd,reduceMul,reduceSub,reduceLeDiff,reduceToNat,reducePow, s2, s4, s5, s8, s9, s15, s16] at hs; obtain ⟨s2, s4, s5, s8, s9, s10, s15, s16⟩ := hs)
      refine zW.zs ?_
      (refine zW.regS ?_; (simp (disch:=first|omega|(simp only [lens];first|done|omega)) only [go_sem,reduceEqDiff,Nat.reduceBEq,reduceAdd,reduceMul,reduceSub,reduceLeDiff,reduceToNat,reducePow, s5, s8, s9, V8.c8, r2, r13, r22]); repeat' (apply callW.za; (first | exact (z9l _ _ _)); all_goals try (simp (disch:=first|omega|(simp only [lens];first|done|omega)) only [go_sem,reduceEqDiff,Nat.reduceBEq,reduceAdd,reduceMul,reduceSub,reduceLeDiff,reduceToNat,reducePow, s5, s8, s9, V8.c8, r2, r13, r22])))
      (refine zW.slots [2, 4, 5, 8, 9, 10, 11, 15, 16] ?_; intro O4 hs; simp (disch:=first|omega|(simp only [lens];first|done|omega)) only [go_sem,reduceEqDiff,Nat.reduceBEq,reduceAdd,reduceMul,reduceSub,reduceLeDiff,reduceToNat,reducePow, s2, s4, s5, s8, s9, s10, s15, s16] at hs; obtain ⟨s2, s4, s5, s8, s9, s10, s11, s15, s16⟩ := hs)
      (refine zW.regS ?_; (simp (disch:=first|omega|(simp only [lens];first|done|omega)) only [go_sem,reduceEqDiff,Nat.reduceBEq,reduceAdd,reduceMul,reduceSub,reduceLeDiff,reduceToNat,reducePow, s5, s8, s9, s10, s11, V8.c8]))
      (refine zW.slots [2, 4, 5, 15, 16] ?_; intro O5 hs; simp (disch:=first|omega|(simp only [lens];first|done|omega)) only [go_sem,reduceEqDiff,Nat.reduceBEq,reduceAdd,reduceMul,reduceSub,reduceLeDiff,reduceToNat,reducePow, s2, s4, s5, s15, s16] at hs; obtain ⟨s2, s4, s5, s15, s16⟩ := hs)
      (refine zW.regS ?_; (simp (disch:=first|omega|(simp only [lens];first|done|omega)) only [go_sem,reduceEqDiff,Nat.reduceBEq,reduceAdd,reduceMul,reduceSub,reduceLeDiff,reduceToNat,reducePow, s16]))
      refine ⟨64 - (i + 1), by omega, i + 1, by omega, s2, s4, s5, s15, by simp, ?_⟩
      rw [hst]
      simp only [rnd, V8.c8, bs1, chW, bs0, majW]
    · obtain rfl : i = 64 := by omega
      clear hst
      generalize rnds s v 64 = U at *
      rw [hF, V8.add]
      clear hF hR
      obtain ⟨a, b, c, d, e, f, g, h⟩ := U
      obtain ⟨a', b', c', d', e', f', g', h'⟩ := v
      simp only [V8.c8] at *
      repeat' (first|refine zW.zs ?_|refine zW.zb ?_|refine zW.zc ?_|refine zW.zt rfl ?_|refine zW.zf rfl ?_|(refine zW.zd rfl (fun ht => ?_) (fun ht => ?_)<;>try (exfalso;omega))|((first|refine zW.zr ?_|refine zW.zk ?_|refine zW.ze ?_|refine zW.zq ?_|((first|apply zg0|apply zg1|apply zg2|apply zg3|apply zg4|apply zg5|apply zg6|apply zg7)<;>intro ht));all_goals try simp (disch:=first|omega|(simp only [lens];first|done|omega)) only [go_sem,reduceEqDiff,Nat.reduceBEq,reduceAdd,reduceMul,reduceSub,reduceLeDiff,reduceToNat,reducePow, q16]))
      refine zW.loop (fun m O Y' => ∃ j : Nat, m + j = 8 /\ O 2 = .ptr Y.length 0 0 /\ O 4 = .ptr (Y.length + 1) 0 0 /\ O 5 = .ptr (Y.length + 2) 0 0 /\ O 95 = .int .i64 j ∧
        Y' = Y ++ [some [V8.c8 ⟨a', b', c', d', e', f', g', h'⟩], some [[AV.int .u32 0, AV.int .u32 0, AV.int .u32 0, AV.int .u32 0, AV.int .u32 0, AV.int .u32 0, AV.int .u32 0, AV.int .u32 0]], some [(V8.c8 ⟨a + a', b + b', c + c', d + d', e + e', f + f', g + g', h + h'⟩).take j ++ (V8.c8 ⟨a, b, c, d, e, f, g, h⟩).drop j]]) 8 ?_ ?_
      · exact ⟨0, by omega, by simp (disch:=first|omega|(simp only [lens];first|done|omega)) only [go_sem,reduceEqDiff,Nat.reduceBEq,reduceAdd,reduceMul,reduceSub,reduceLeDiff,reduceToNat,reducePow, q2], by simp (disch:=first|omega|(simp only [lens];first|done|omega)) only [go_sem,reduceEqDiff,Nat.reduceBEq,reduceAdd,reduceMul,reduceSub,reduceLeDiff,reduceToNat,reducePow, q4], by simp (disch:=first|omega|(simp only [lens];first|done|omega)) only [go_sem,reduceEqDiff,Nat.reduceBEq,reduceAdd,reduceMul,reduceSub,reduceLeDiff,reduceToNat,reducePow, q5], by simp (disch:=first|omega|(simp only [lens];first|done|omega)) only [go_sem,reduceEqDiff,Nat.reduceBEq,reduceAdd,reduceMul,reduceSub,reduceLeDiff,reduceToNat,reducePow]; rfl, rfl⟩
      · clear q2 q4 q5 q15 q16
        rintro m O Y' ⟨j, hm, q2, q4, q5, q95, rfl⟩
        have hj : j = 0 \/ j = 1 \/ j = 2 \/ j = 3 \/ j = 4 \/ j = 5 \/ j = 6 \/ j = 7 \/ j = 8 := by omega
        rcases hj with rfl | rfl | rfl | rfl | rfl | rfl | rfl | rfl | rfl
        · repeat' (first | refine zW.zs ?_ | refine zW.zb ?_ | refine zW.zc ?_ | refine zW.zt rfl ?_ | refine zW.zf rfl ?_ | (refine zW.zd rfl (fun ht => ?_) (fun ht => ?_) <;> try (exfalso; omega)) | ((first | refine zW.regS ?_ | refine zW.zk ?_ | refine zW.ze ?_ | refine zW.zq ?_ | ((first|apply zg0|apply zg1|apply zg2|apply zg3|apply zg4|apply zg5|apply zg6|apply zg7)<;>intro ht));all_goals try simp (disch:=first|omega|(simp only [lens];first|done|omega)) only [go_sem,reduceEqDiff,Nat.reduceBEq,reduceAdd,reduceMul,reduceSub,reduceLeDiff,reduceToNat,reducePow, q2, q4, q5, q95, V8.c8]))
          exact ⟨7, by omega, 1, by omega, rfl, rfl⟩
        · repeat' (first | refine zW.zs ?_ | refine zW.zb ?_ | refine zW.zc ?_ | refine zW.zt rfl ?_ | refine zW.zf rfl ?_ | (refine zW.zd rfl (fun ht => ?_) (fun ht => ?_) <;> try (exfalso; omega)) | ((first | refine zW.regS ?_ | refine zW.zk ?_ | refine zW.ze ?_ | refine zW.zq ?_ | ((first|apply zg0|apply zg1|apply zg2|apply zg3|apply zg4|apply zg5|apply zg6|apply zg7)<;>intro ht));all_goals try simp (disch:=first|omega|(simp only [lens];first|done|omega)) only [go_sem,reduceEqDiff,Nat.reduceBEq,reduceAdd,reduceMul,reduceSub,reduceLeDiff,reduceToNat,reducePow, q2, q4, q5, q95, V8.c8]))
          exact ⟨6, by omega, 2, by omega, rfl, rfl⟩
        · repeat' (first | refine zW.zs ?_ | refine zW.zb ?_ | refine zW.zc ?_ | refine zW.zt rfl ?_ | refine zW.zf rfl ?_ | (refine zW.zd rfl (fun ht => ?_) (fun ht => ?_) <;> try (exfalso; omega)) | ((first | refine zW.regS ?_ | refine zW.zk ?_ | refine zW.ze ?_ | refine zW.zq ?_ | ((first|apply zg0|apply zg1|apply zg2|apply zg3|apply zg4|apply zg5|apply zg6|apply zg7)<;>intro ht));all_goals try simp (disch:=first|omega|(simp only [lens];first|done|omega)) only [go_sem,reduceEqDiff,Nat.reduceBEq,reduceAdd,reduceMul,reduceSub,reduceLeDiff,reduceToNat,reducePow, q2, q4, q5, q95, V8.c8]))
          exact ⟨5, by omega, 3, by omega, rfl, rfl⟩
        · repeat' (first | refine zW.zs ?_ | refine zW.zb ?_ | refine zW.zc ?_ | refine zW.zt rfl ?_ | refine zW.zf rfl ?_ | (refine zW.zd rfl (fun ht => ?_) (fun ht => ?_) <;> try (exfalso; omega)) | ((first | refine zW.regS ?_ | refine zW.zk ?_ | refine zW.ze ?_ | refine zW.zq ?_ | ((first|apply zg0|apply zg1|apply zg2|apply zg3|apply zg4|apply zg5|apply zg6|apply zg7)<;>intro ht));all_goals try simp (disch:=first|omega|(simp only [lens];first|done|omega)) only [go_sem,reduceEqDiff,Nat.reduceBEq,reduceAdd,reduceMul,reduceSub,reduceLeDiff,reduceToNat,reducePow, q2, q4, q5, q95, V8.c8]))
          exact ⟨4, by omega, 4, by omega, rfl, rfl⟩
        · repeat' (first | refine zW.zs ?_ | refine zW.zb ?_ | refine zW.zc ?_ | refine zW.zt rfl ?_ | refine zW.zf rfl ?_ | (refine zW.zd rfl (fun ht => ?_) (fun ht => ?_) <;> try (exfalso; omega)) | ((first | refine zW.regS ?_ | refine zW.zk ?_ | refine zW.ze ?_ | refine zW.zq ?_ | ((first|apply zg0|apply zg1|apply zg2|apply zg3|apply zg4|apply zg5|apply zg6|apply zg7)<;>intro ht));all_goals try simp (disch:=first|omega|(simp only [lens];first|done|omega)) only [go_sem,reduceEqDiff,Nat.reduceBEq,reduceAdd,reduceMul,reduceSub,reduceLeDiff,reduceToNat,reducePow, q2, q4, q5, q95, V8.c8]))
          exact ⟨3, by omega, 5, by omega, rfl, rfl⟩
        · repeat' (first | refine zW.zs ?_ | refine zW.zb ?_ | refine zW.zc ?_ | refine zW.zt rfl ?_ | refine zW.zf rfl ?_ | (refine zW.zd rfl (fun ht => ?_) (fun ht => ?_) <;> try (exfalso; omega)) | ((first | refine zW.regS ?_ | refine zW.zk ?_ | refine zW.ze ?_ | refine zW.zq ?_ | ((first|apply zg0|apply zg1|apply zg2|apply zg3|apply zg4|apply zg5|apply zg6|apply zg7)<;>intro ht));all_goals try simp (disch:=first|omega|(simp only [lens];first|done|omega)) only [go_sem,reduceEqDiff,Nat.reduceBEq,reduceAdd,reduceMul,reduceSub,reduceLeDiff,reduceToNat,reducePow, q2, q4, q5, q95, V8.c8]))
          exact ⟨2, by omega, 6, by omega, rfl, rfl⟩
        · repeat' (first | refine zW.zs ?_ | refine zW.zb ?_ | refine zW.zc ?_ | refine zW.zt rfl ?_ | refine zW.zf rfl ?_ | (refine zW.zd rfl (fun ht => ?_) (fun ht => ?_) <;> try (exfalso; omega)) | ((first | refine zW.regS ?_ | refine zW.zk ?_ | refine zW.ze ?_ | refine zW.zq ?_ | ((first|apply zg0|apply zg1|apply zg2|apply zg3|apply zg4|apply zg5|apply zg6|apply zg7)<;>intro ht));all_goals try simp (disch:=first|omega|(simp only [lens];first|done|omega)) only [go_sem,reduceEqDiff,Nat.reduceBEq,reduceAdd,reduceMul,reduceSub,reduceLeDiff,reduceToNat,reducePow, q2, q4, q5, q95, V8.c8]))
          exact ⟨1, by omega, 7, by omega, rfl, rfl⟩
        · repeat' (first | refine zW.zs ?_ | refine zW.zb ?_ | refine zW.zc ?_ | refine zW.zt rfl ?_ | refine zW.zf rfl ?_ | (refine zW.zd rfl (fun ht => ?_) (fun ht => ?_) <;> try (exfalso; omega)) | ((first | refine zW.regS ?_ | refine zW.zk ?_ | refine zW.ze ?_ | refine zW.zq ?_ | ((first|apply zg0|apply zg1|apply zg2|apply zg3|apply zg4|apply zg5|apply zg6|apply zg7)<;>intro ht));all_goals try simp (disch:=first|omega|(simp only [lens];first|done|omega)) only [go_sem,reduceEqDiff,Nat.reduceBEq,reduceAdd,reduceMul,reduceSub,reduceLeDiff,reduceToNat,reducePow, q2, q4, q5, q95, V8.c8]))
          exact ⟨0, by omega, 8, by omega, rfl, rfl⟩
        · repeat' (first|refine zW.zs ?_|refine zW.zb ?_|refine zW.zc ?_|refine zW.zt rfl ?_|refine zW.zf rfl ?_|(refine zW.zd rfl (fun ht => ?_) (fun ht => ?_)<;>try (exfalso;omega))|((first|refine zW.zr ?_|refine zW.zk ?_|refine zW.ze ?_|refine zW.zq ?_|((first|apply zg0|apply zg1|apply zg2|apply zg3|apply zg4|apply zg5|apply zg6|apply zg7)<;>intro ht));all_goals try simp (disch:=first|omega|(simp only [lens];first|done|omega)) only [go_sem,reduceEqDiff,Nat.reduceBEq,reduceAdd,reduceMul,reduceSub,reduceLeDiff,reduceToNat,reducePow, q2, q4, q5, q95, V8.c8]))
          exact DownV.pure hw (z13 _ rfl)
end Am
end Go.Proofs.YtjgljhbmljgaeaaDoor
end
