import Derived.Test.YtjgljhbmljgaeaaDoorK2f6a66666
import Derived.LaidMore
import Derived.Stop.Joined
import Derived.Test.YtjgljhbmljgaeaaDoorRows
import Derived.KernelRfl
import Derived.RangeFuncBox
import Derived.RangeFuncLeaves
import Derived.Shelf.Abstract
import Derived.WalkKit
import Derived.OwnWalkIn
import Derived.TacticsInMore
import Derived.LoopNIn
import Derived.LoopIn
import Derived.Test.YtjgljhbmljgaeaaDoorProg
import Derived.Shelf.Strings.Builder1
import Derived.Shelf.Strings.Builder2
import Derived.Shelf.Strings.BuilderF
import Derived.Shelf.Strings.Prefix
import Derived.Shelf.Bits.Mul64
import Derived.Shelf.Strings.Repeat
set_option linter.unusedSimpArgs false
set_option linter.unusedVariables false
open Nat (reduceEqDiff reduceAdd reduceMul reduceSub reduceLeDiff)
open Int (reduceToNat reducePow)
section
/- THE ABSTRACT MACHINE, part 22: its steps as_ equations for simp. -/
namespace Go.Proofs.YtjgljhbmljgaeaaDoor
namespace Am
section
variable {C : Ctx} {K : Env -> Store -> Prop} {O : Env} {Y : Store} {d : Option Nat} {g : Option (Nat × Bool)} {nd : Nd} {is : List AIns} {H : Hist}
theorem z5c {x} : zi C K (⟨d, g, nd, .mv x⟩ :: is) H O Y = zl (zi C K is) H ⟨d, g, nd, .mv x⟩ O Y := rfl
theorem z5e {c} {a} {b} : zi C K (⟨d, g, nd, .pick c a b⟩ :: is) H O Y = zl (zi C K is) H ⟨d, g, nd, .pick c a b⟩ O Y := rfl
theorem z4n {z} : zi C K (⟨d, g, nd, .alloc z⟩ :: is) H O Y = zl (zi C K is) H ⟨d, g, nd, .alloc z⟩ O Y := rfl
theorem zo7 : zi C K (⟨d, g, nd, .allB⟩ :: is) H O Y = zl (zi C K is) H ⟨d, g, nd, .allB⟩ O Y := rfl
theorem zo8 {s} {x} : zi C K (⟨d, g, nd, .appB s x⟩ :: is) H O Y = zl (zi C K is) H ⟨d, g, nd, .appB s x⟩ O Y := rfl
theorem z4q {x} : zi C K (⟨d, g, nd, .box x⟩ :: is) H O Y = zl (zi C K is) H ⟨d, g, nd, .box x⟩ O Y := rfl
theorem z4r {z} {ps} : zi C K (⟨d, g, nd, .build z ps⟩ :: is) H O Y = zl (zi C K is) H ⟨d, g, nd, .build z ps⟩ O Y := rfl
theorem z57 {sz} {xs} : zi C K (⟨d, g, nd, .lit sz xs⟩ :: is) H O Y = zl (zi C K is) H ⟨d, g, nd, .lit sz xs⟩ O Y := rfl
theorem z58 {ag} {n} {x} : zi C K (⟨d, g, nd, .load ag n x⟩ :: is) H O Y = zl (zi C K is) H ⟨d, g, nd, .load ag n x⟩ O Y := rfl
theorem z5g {n} {a} {x} : zi C K (⟨d, g, nd, .store n a x⟩ :: is) H O Y = zl (zi C K is) H ⟨d, g, nd, .store n a x⟩ O Y := rfl
theorem z5d {x} : zi C K (⟨d, g, nd, .nilc x⟩ :: is) H O Y = zl (zi C K is) H ⟨d, g, nd, .nilc x⟩ O Y := rfl
theorem z4p {op} {bk} {x} {y} : zi C K (⟨d, g, nd, .bin op bk x y⟩ :: is) H O Y = zl (zi C K is) H ⟨d, g, nd, .bin op bk x y⟩ O Y := rfl
theorem z5h {op} {x} : zi C K (⟨d, g, nd, .un op x⟩ :: is) H O Y = zl (zi C K is) H ⟨d, g, nd, .un op x⟩ O Y := rfl
theorem z4t {c} {x} : zi C K (⟨d, g, nd, .conv c x⟩ :: is) H O Y = zl (zi C K is) H ⟨d, g, nd, .conv c x⟩ O Y := rfl
theorem z5b {f} {caps} : zi C K (⟨d, g, nd, .mkfn f caps⟩ :: is) H O Y = zl (zi C K is) H ⟨d, g, nd, .mkfn f caps⟩ O Y := rfl
theorem z59 {sz} {z} {l} {c} : zi C K (⟨d, g, nd, .make sz z l c⟩ :: is) H O Y = zl (zi C K is) H ⟨d, g, nd, .make sz z l c⟩ O Y := rfl
theorem z5f {k} {x} {lo} {hi} {mx} : zi C K (⟨d, g, nd, .slice k x lo hi mx⟩ :: is) H O Y = zl (zi C K is) H ⟨d, g, nd, .slice k x lo hi mx⟩ O Y := rfl
theorem z4w {k} {x} : zi C K (⟨d, g, nd, .fa k x⟩ :: is) H O Y = zl (zi C K is) H ⟨d, g, nd, .fa k x⟩ O Y := rfl
theorem z4x {ag} {n} {off} {x} : zi C K (⟨d, g, nd, .fld ag n off x⟩ :: is) H O Y = zl (zi C K is) H ⟨d, g, nd, .fld ag n off x⟩ O Y := rfl
theorem z4y {n} {sz} {x} {i} : zi C K (⟨d, g, nd, .iaArr n sz x i⟩ :: is) H O Y = zl (zi C K is) H ⟨d, g, nd, .iaArr n sz x i⟩ O Y := rfl
theorem z4z {sz} {x} {i} : zi C K (⟨d, g, nd, .iaSl sz x i⟩ :: is) H O Y = zl (zi C K is) H ⟨d, g, nd, .iaSl sz x i⟩ O Y := rfl
theorem z50 {n} {ag} {sz} {x} {i} : zi C K (⟨d, g, nd, .ixArr n ag sz x i⟩ :: is) H O Y = zl (zi C K is) H ⟨d, g, nd, .ixArr n ag sz x i⟩ O Y := rfl
theorem z52 {x} {i} : zi C K (⟨d, g, nd, .ixStr x i⟩ :: is) H O Y = zl (zi C K is) H ⟨d, g, nd, .ixStr x i⟩ O Y := rfl
theorem z4v {i} {x} : zi C K (⟨d, g, nd, .ext i x⟩ :: is) H O Y = zl (zi C K is) H ⟨d, g, nd, .ext i x⟩ O Y := rfl
theorem z56 {x} : zi C K (⟨d, g, nd, .lenStr x⟩ :: is) H O Y = zl (zi C K is) H ⟨d, g, nd, .lenStr x⟩ O Y := rfl
theorem z55 {x} : zi C K (⟨d, g, nd, .lenSl x⟩ :: is) H O Y = zl (zi C K is) H ⟨d, g, nd, .lenSl x⟩ O Y := rfl
theorem z54 {n} : zi C K (⟨d, g, nd, .lenArr n⟩ :: is) H O Y = zl (zi C K is) H ⟨d, g, nd, .lenArr n⟩ O Y := rfl
theorem z4o {sz} {s} {x} : zi C K (⟨d, g, nd, .app sz s x⟩ :: is) H O Y = zl (zi C K is) H ⟨d, g, nd, .app sz s x⟩ O Y := rfl
theorem z4u {sz} {e} {s} : zi C K (⟨d, g, nd, .copy sz e s⟩ :: is) H O Y = zl (zi C K is) H ⟨d, g, nd, .copy sz e s⟩ O Y := rfl
theorem z4s {z} {x} : zi C K (⟨d, g, nd, .clear z x⟩ :: is) H O Y = zl (zi C K is) H ⟨d, g, nd, .clear z x⟩ O Y := rfl
theorem z5a {mx} {x} {y} : zi C K (⟨d, g, nd, .minmax mx x y⟩ :: is) H O Y = zl (zi C K is) H ⟨d, g, nd, .minmax mx x y⟩ O Y := rfl
variable {lj mj : List AIns}
theorem oj_mv {x} : zu C K lj mj (⟨d, g, nd, .mv x⟩ :: is) H O Y = zl (zu C K lj mj is) H ⟨d, g, nd, .mv x⟩ O Y := rfl
theorem znv {c} {a} {b} : zu C K lj mj (⟨d, g, nd, .pick c a b⟩ :: is) H O Y = zl (zu C K lj mj is) H ⟨d, g, nd, .pick c a b⟩ O Y := rfl
theorem znc {z} : zu C K lj mj (⟨d, g, nd, .alloc z⟩ :: is) H O Y = zl (zu C K lj mj is) H ⟨d, g, nd, .alloc z⟩ O Y := rfl
theorem znb : zu C K lj mj (⟨d, g, nd, .allB⟩ :: is) H O Y = zl (zu C K lj mj is) H ⟨d, g, nd, .allB⟩ O Y := rfl
theorem znd {s} {x} : zu C K lj mj (⟨d, g, nd, .appB s x⟩ :: is) H O Y = zl (zu C K lj mj is) H ⟨d, g, nd, .appB s x⟩ O Y := rfl
theorem oj_box {x} : zu C K lj mj (⟨d, g, nd, .box x⟩ :: is) H O Y = zl (zu C K lj mj is) H ⟨d, g, nd, .box x⟩ O Y := rfl
theorem zne {z} {ps} : zu C K lj mj (⟨d, g, nd, .build z ps⟩ :: is) H O Y = zl (zu C K lj mj is) H ⟨d, g, nd, .build z ps⟩ O Y := rfl
theorem oj_lit {sz} {xs} : zu C K lj mj (⟨d, g, nd, .lit sz xs⟩ :: is) H O Y = zl (zu C K lj mj is) H ⟨d, g, nd, .lit sz xs⟩ O Y := rfl
theorem znq {ag} {n} {x} : zu C K lj mj (⟨d, g, nd, .load ag n x⟩ :: is) H O Y = zl (zu C K lj mj is) H ⟨d, g, nd, .load ag n x⟩ O Y := rfl
theorem znx {n} {a} {x} : zu C K lj mj (⟨d, g, nd, .store n a x⟩ :: is) H O Y = zl (zu C K lj mj is) H ⟨d, g, nd, .store n a x⟩ O Y := rfl
theorem znu {x} : zu C K lj mj (⟨d, g, nd, .nilc x⟩ :: is) H O Y = zl (zu C K lj mj is) H ⟨d, g, nd, .nilc x⟩ O Y := rfl
theorem oj_bin {op} {bk} {x} {y} : zu C K lj mj (⟨d, g, nd, .bin op bk x y⟩ :: is) H O Y = zl (zu C K lj mj is) H ⟨d, g, nd, .bin op bk x y⟩ O Y := rfl
theorem oj_un {op} {x} : zu C K lj mj (⟨d, g, nd, .un op x⟩ :: is) H O Y = zl (zu C K lj mj is) H ⟨d, g, nd, .un op x⟩ O Y := rfl
theorem znh {c} {x} : zu C K lj mj (⟨d, g, nd, .conv c x⟩ :: is) H O Y = zl (zu C K lj mj is) H ⟨d, g, nd, .conv c x⟩ O Y := rfl
theorem znt {f} {caps} : zu C K lj mj (⟨d, g, nd, .mkfn f caps⟩ :: is) H O Y = zl (zu C K lj mj is) H ⟨d, g, nd, .mkfn f caps⟩ O Y := rfl
theorem znr {sz} {z} {l} {c} : zu C K lj mj (⟨d, g, nd, .make sz z l c⟩ :: is) H O Y = zl (zu C K lj mj is) H ⟨d, g, nd, .make sz z l c⟩ O Y := rfl
theorem znw {k} {x} {lo} {hi} {mx} : zu C K lj mj (⟨d, g, nd, .slice k x lo hi mx⟩ :: is) H O Y = zl (zu C K lj mj is) H ⟨d, g, nd, .slice k x lo hi mx⟩ O Y := rfl
theorem oj_fa {k} {x} : zu C K lj mj (⟨d, g, nd, .fa k x⟩ :: is) H O Y = zl (zu C K lj mj is) H ⟨d, g, nd, .fa k x⟩ O Y := rfl
theorem oj_fld {ag} {n} {off} {x} : zu C K lj mj (⟨d, g, nd, .fld ag n off x⟩ :: is) H O Y = zl (zu C K lj mj is) H ⟨d, g, nd, .fld ag n off x⟩ O Y := rfl
theorem znj {n} {sz} {x} {i} : zu C K lj mj (⟨d, g, nd, .iaArr n sz x i⟩ :: is) H O Y = zl (zu C K lj mj is) H ⟨d, g, nd, .iaArr n sz x i⟩ O Y := rfl
theorem znk {sz} {x} {i} : zu C K lj mj (⟨d, g, nd, .iaSl sz x i⟩ :: is) H O Y = zl (zu C K lj mj is) H ⟨d, g, nd, .iaSl sz x i⟩ O Y := rfl
theorem znl {n} {ag} {sz} {x} {i} : zu C K lj mj (⟨d, g, nd, .ixArr n ag sz x i⟩ :: is) H O Y = zl (zu C K lj mj is) H ⟨d, g, nd, .ixArr n ag sz x i⟩ O Y := rfl
theorem znm {x} {i} : zu C K lj mj (⟨d, g, nd, .ixStr x i⟩ :: is) H O Y = zl (zu C K lj mj is) H ⟨d, g, nd, .ixStr x i⟩ O Y := rfl
theorem oj_ext {i} {x} : zu C K lj mj (⟨d, g, nd, .ext i x⟩ :: is) H O Y = zl (zu C K lj mj is) H ⟨d, g, nd, .ext i x⟩ O Y := rfl
theorem znp {x} : zu C K lj mj (⟨d, g, nd, .lenStr x⟩ :: is) H O Y = zl (zu C K lj mj is) H ⟨d, g, nd, .lenStr x⟩ O Y := rfl
theorem zno {x} : zu C K lj mj (⟨d, g, nd, .lenSl x⟩ :: is) H O Y = zl (zu C K lj mj is) H ⟨d, g, nd, .lenSl x⟩ O Y := rfl
theorem znn {n} : zu C K lj mj (⟨d, g, nd, .lenArr n⟩ :: is) H O Y = zl (zu C K lj mj is) H ⟨d, g, nd, .lenArr n⟩ O Y := rfl
theorem oj_app {sz} {s} {x} : zu C K lj mj (⟨d, g, nd, .app sz s x⟩ :: is) H O Y = zl (zu C K lj mj is) H ⟨d, g, nd, .app sz s x⟩ O Y := rfl
theorem zni {sz} {e} {s} : zu C K lj mj (⟨d, g, nd, .copy sz e s⟩ :: is) H O Y = zl (zu C K lj mj is) H ⟨d, g, nd, .copy sz e s⟩ O Y := rfl
theorem zng {z} {x} : zu C K lj mj (⟨d, g, nd, .clear z x⟩ :: is) H O Y = zl (zu C K lj mj is) H ⟨d, g, nd, .clear z x⟩ O Y := rfl
theorem zns {mx} {x} {y} : zu C K lj mj (⟨d, g, nd, .minmax mx x y⟩ :: is) H O Y = zl (zu C K lj mj is) H ⟨d, g, nd, .minmax mx x y⟩ O Y := rfl
theorem oj_nil : zu C K lj mj [] H O Y = (zi C K lj H O Y /\ zi C K mj H O Y) := rfl
theorem znf {f} {xs} : zu C K lj mj (⟨d, g, nd, .call f xs⟩ :: is) H O Y = z2b C (zu C K lj mj is) H O Y d nd f xs (z1c O g) := rfl
/-! Unsigned numbers as_ bit rows. -/
theorem zan {k : IntKind} (hk : k.signed = false) (n : Int) : k.wrap n = n % 2 ^ k.bits := by simp [IntKind.wrap, hk]
theorem u_nat {k : IntKind} (hk : k.signed = false) (x : BitVec k.bits) : k.wrap (x.toNat : Int) = x.toNat := by
  rw [zan hk]
  have := x.isLt
  rw [Int.emod_eq_of_lt (by omega)]
  exact_mod_cast this
theorem u_ofInt {w : Nat} (x : BitVec w) : BitVec.ofInt w (x.toNat : Int) = x := by
  apply BitVec.eq_of_toNat_eq
  rw [BitVec.toNat_ofInt]
  have := x.isLt
  have e : ((x.toNat : Int) % ((2 ^ w : Nat) : Int)) = x.toNat := Int.emod_eq_of_lt (by omega) (by exact_mod_cast this)
  rw [e]; simp
theorem getElem?_app {Y l : Store} {k : Nat} : (Y ++ l)[Y.length + k]? = l[k]? := by rw [List.getElem?_append_right (by omega), Nat.add_sub_cancel_left]
theorem getElem?_app0 {Y l : Store} : (Y ++ l)[Y.length]? = l[0]? := getElem?_app (k := 0)
theorem z49 {Y l : Store} {k : Nat} {x : Option AObj} : (Y ++ l).set (Y.length + k) x = Y ++ l.set k x := by rw [List.set_append_right _ _ (by omega), Nat.add_sub_cancel_left]
theorem z5j {Y l : Store} {x : Option AObj} : (Y ++ l).set Y.length x = Y ++ l.set 0 x := z49 (k := 0)
end
end Am
end Go.Proofs.YtjgljhbmljgaeaaDoor
end
section
/- THE ABSTRACT MACHINE, part 23: what comes in, by its type, as_ abstract values. -/
namespace Go.Proofs.YtjgljhbmljgaeaaDoor
namespace Am
open Go.ChangeShapes Go.WideShapes Go.ChangeAt Go.RowKit

/-- Types of plain data. -/
inductive Ty where
  | int (k : IntKind)
  | bool
  | str
  | sl (sz : Nat) (e : Ty)
  | row (ts : List Ty)
  deriving Inhabited
def tile (P : Program) : List Field -> Nat -> Option Nat
  | [], n => some n
  | f :: l, n => if f.offset = n then tile P l (n + P.cellsOf f.type) else none
def tyOf (P : Program) : Nat -> TypeId -> Option Ty
  | 0, _ => none
  | d + 1, t => match P.underlying t with
    | some .bool => some .bool
    | some (.int k) => some (.int k)
    | some .string => some .str
    | some (.slice e) => if 0 < P.cellsOf e then (tyOf P d e).map (.sl (P.cellsOf e)) else none
    | some (.struct fs) => if tile P fs.toList 0 = some (P.cellsOf t) then (fs.toList.mapM fun f => tyOf P d f.type).map .row else none
    | some (.array n e) => if P.cellsOf t = n * P.cellsOf e then (tyOf P d e).map fun ty => .row (List.replicate n ty) else none
    | _ => none
mutual
/-- The cells of a value of a type. -/
def ShC : Ty -> List AV -> Prop
  | .int k, cs => ∃ n, cs = [.int k n] /\ k.min <= n /\ n <= k.max
  | .bool, cs => ∃ b, cs = [.bool b]
  | .str, cs => ∃ s : List UInt8, cs = [.str s] /\ s.length <= maxLen
  | .sl sz e, cs => cs = [.nilsl] \/ ∃ es, cs = [.vsl sz es false] /\ es.length <= maxLen /\ (∀ x ∈ es, x.length = sz) /\ ∀ x ∈ es, ShC e x
  | .row ts, cs => z34 ts cs
def z34 : List Ty -> List AV -> Prop
  | [], cs => cs = []
  | t :: ts, cs => ∃ a b, cs = a ++ b /\ ShC t a /\ z34 ts b
end
/-- An argument of a type. -/
def Sh : Ty -> AV -> Prop
  | .row ts, a => ∃ cs, a = .agg cs /\ z34 ts cs
  | t, a => ShC t [a]
def z6o : List Ty -> List AV -> Prop
  | [], avs => avs = []
  | t :: ts, avs => ∃ a avs', avs = a :: avs' /\ Sh t a /\ z6o ts avs'

section
variable {H : Type} {enc : TypeId × Value -> H} {P : Program} {w : World}

theorem zb3 {base : Nat} {a : Addr} {n : Nat} {cs : List Value} (h : w.cells? base a n = some cs) : cs.length = n /\ ∀ i, i < n -> w.cell? (a.add i) = cs[i]? :=
  ⟨(World.cells?_some h).2.1, (World.cells?_some h).2.2⟩
theorem zek {a : Addr} {v : Value} (h : w.cell? a = some v) : a.spot = none /\ ∃ c ty fz, w.heap[a.block]? = some (.cells c ty fz) /\ c[a.off]? = some v := by
  unfold World.cell? at h
  split at h
  · rename_i c ty fz hh
    split at h
    · cases h
    · rename_i hs
      exact ⟨by simpa using hs, c, ty, fz, hh, h⟩
  · cases h
theorem seg_of {b o n : Nat} {vals : List Value} (hn : 0 < n) (hl : vals.length <= n) (hall : ∀ k, k < n -> ∃ v, w.cell? ⟨b, o + k, none⟩ = some v) (hv : ∀ k, k < vals.length -> w.cell? ⟨b, o + k, none⟩ = vals[k]?) :
    b < w.heap.size /\ Seg w b o vals := by
  obtain ⟨v0, h0⟩ := hall 0 hn
  obtain ⟨_, c, ty, fz, hc, h0'⟩ := zek h0
  simp only [Nat.add_zero] at hc h0'
  have hget : ∀ k, w.cell? ⟨b, k, none⟩ = c[k]? := fun k => by simp [World.cell?, hc]
  have ho : o + vals.length <= c.size := by
    by_cases hz : vals.length = 0
    · have := (Array.getElem?_eq_some_iff.1 h0').1; omega
    · have := hv (vals.length - 1) (by omega)
      rw [hget, List.getElem?_eq_getElem (by omega)] at this
      have := (Array.getElem?_eq_some_iff.1 this).1; omega
  refine ⟨?_, c, ty, fz, c.toList.take o, c.toList.drop (o + vals.length), hc, ?_, by simp; omega⟩
  · rcases Nat.lt_or_ge b w.heap.size with h | h
    · exact h
    · simp [Array.getElem?_eq_none h] at hc
  · have e : vals = (c.toList.drop o).take vals.length := by
      apply List.ext_getElem?
      intro k
      simp only [List.getElem?_take, List.getElem?_drop]
      by_cases hk : k < vals.length
      · rw [if_pos hk, <- hv k hk, hget]; simp
      · rw [if_neg hk, List.getElem?_eq_none (by omega)]
    conv => lhs; rw [<- List.take_append_drop o c.toList, <- List.take_append_drop vals.length (c.toList.drop o), <- e]
    simp [List.append_assoc]

theorem zms {α β : Type} {f : α -> Option β} : ∀ {l : List α} {r : List β}, l.mapM f = some r -> r.length = l.length /\ ∀ (i : Nat) (x : α), l[i]? = some x -> f x = r[i]?
  | [], r, h => by simp at h; subst h; simp
  | x :: l, r, h => by
    simp only [List.mapM_cons, Option.bind_eq_bind, Option.bind_eq_some_iff, Option.pure_def, Option.some.injEq] at h
    obtain ⟨y, hy, r', hr, rfl⟩ := h
    obtain ⟨h1, h2⟩ := zms hr
    refine ⟨by simp [h1], fun i z hz => ?_⟩
    cases i with
    | zero => simp at hz; subst hz; simp [hy]
    | succ i => simp at hz; simpa using h2 i z hz

theorem zgk {n : Nat} {spare : Nat -> Bool} {held : Bool} {base : Nat} {cs : List Value} {d : Nat}
    (ih : ∀ (t : TypeId) (ty : Ty) (cs : List Value) (x : DataW H × List MemPlace), tyOf P d t = some ty -> DataW.trod enc P w base spare held n t cs = some x -> cs.length = P.cellsOf t -> ∃ avs, VRs [] w avs cs /\ ShC ty avs) :
    ∀ (l : List Field) (k : Nat) (tys : List Ty), tile P l k = some cs.length -> l.mapM (fun f => tyOf P d f.type) = some tys ->
      (∀ f ∈ l, ∃ x, DataW.trod enc P w base spare held n f.type ((cs.drop f.offset).take (P.cellsOf f.type)) = some x) -> k <= cs.length -> ∃ avs, VRs [] w avs (cs.drop k) /\ z34 tys avs
  | [], k, tys, hk, ht, _, _ => by
    simp only [tile, Option.some.injEq] at hk
    simp at ht
    subst ht
    exact ⟨[], by rw [hk]; simp [VRs], by simp [z34]⟩
  | f :: l, k, tys, hk, ht, hx, hle => by
    simp only [tile] at hk
    split at hk
    · rename_i hf
      simp only [List.mapM_cons, Option.bind_eq_bind, Option.bind_eq_some_iff, Option.pure_def, Option.some.injEq] at ht
      obtain ⟨ty, hty, tys', htys, rfl⟩ := ht
      have hle2 : k + P.cellsOf f.type <= cs.length := by
        have : ∀ (l : List Field) (a b : Nat), tile P l a = some b -> a <= b := by
          intro l
          induction l with
          | nil => intro a b h; simp [tile] at h; omega
          | cons f l ih => intro a b h; simp only [tile] at h; split at h; · have := ih _ _ h; omega
                           · cases h
        exact this l _ _ hk
      obtain ⟨x, hx1⟩ := hx f (by simp)
      obtain ⟨avs, h1, h2⟩ := ih f.type ty _ x hty hx1 (by simp; omega)
      obtain ⟨bs, h3, h4⟩ := zgk ih l (k + P.cellsOf f.type) tys' hk htys (fun g hg => hx g (by simp [hg])) hle2
      refine ⟨avs ++ bs, ?_, avs, bs, rfl, h2, h4⟩
      have e : cs.drop k = (cs.drop k).take (P.cellsOf f.type) ++ cs.drop (k + P.cellsOf f.type) := by
        rw [<- List.drop_drop, List.take_append_drop]
      rw [e]
      rw [hf] at h1
      exact h1.append h3
    · cases hk
theorem zgj {n : Nat} {spare : Nat -> Bool} {held : Bool} {base : Nat} {d : Nat} {e : TypeId} {ty : Ty} (hty : tyOf P d e = some ty)
    (ih : ∀ (t : TypeId) (ty : Ty) (cs : List Value) (x : DataW H × List MemPlace), tyOf P d t = some ty -> DataW.trod enc P w base spare held n t cs = some x -> cs.length = P.cellsOf t -> ∃ avs, VRs [] w avs cs /\ ShC ty avs) :
    ∀ (m : Nat) (cs : List Value), cs.length = m * P.cellsOf e -> (∀ i, i < m -> ∃ x, DataW.trod enc P w base spare held n e ((cs.drop (i * P.cellsOf e)).take (P.cellsOf e)) = some x) ->
      ∃ avs, VRs [] w avs cs /\ z34 (List.replicate m ty) avs
  | 0, cs, hl, _ => by
    have : cs = [] := List.eq_nil_of_length_eq_zero (by simpa using hl)
    subst this
    exact ⟨[], by simp [VRs], by simp [z34]⟩
  | m + 1, cs, hl, hx => by
    rw [Nat.succ_mul] at hl
    obtain ⟨x, h0⟩ := hx 0 (by omega)
    simp only [Nat.zero_mul, List.drop_zero] at h0
    obtain ⟨avs, h1, h2⟩ := ih e ty _ x hty h0 (by simp; omega)
    obtain ⟨bs, h3, h4⟩ := zgj hty ih m (cs.drop (P.cellsOf e)) (by simp; omega) (fun i hi => by
      obtain ⟨y, hy⟩ := hx (i + 1) (by omega)
      refine ⟨y, ?_⟩
      rw [List.drop_drop, Nat.add_comm, <- Nat.succ_mul]; exact hy)
    refine ⟨avs ++ bs, ?_, avs, bs, rfl, h2, h4⟩
    rw [<- List.take_append_drop (P.cellsOf e) cs]
    exact h1.append h3

theorem zc8 {base : Nat} {held : Bool} : ∀ (fuel d : Nat) (t : TypeId) (ty : Ty) (cs : List Value) (x : DataW H × List MemPlace), tyOf P d t = some ty ->
    DataW.trod enc P w base (fun _ => true) held fuel t cs = some x -> ∃ avs, VRs [] w avs cs /\ ShC ty avs
  | 0, _, _, _, _, _, _, h => by simp [DataW.trod] at h
  | _ + 1, 0, _, _, _, _, ht, _ => by simp [tyOf] at ht
  | fuel + 1, d + 1, t, ty, cs, x, ht, h => by
    have ih := fun (t : TypeId) (ty : Ty) (cs : List Value) (x : DataW H × List MemPlace) (h1 : tyOf P d t = some ty) (h2 : DataW.trod enc P w base (fun _ => true) held fuel t cs = some x) (_ : cs.length = P.cellsOf t) => zc8 fuel d t ty cs x h1 h2
    unfold tyOf at ht
    split at ht
    · rename_i hu
      simp only [Option.some.injEq] at ht; subst ht
      obtain ⟨b, rfl, _⟩ := DataW.trod_bool hu h
      exact ⟨[.bool b], .one ⟨VR.bool, rfl⟩, by simp [ShC]⟩
    · rename_i k hu
      simp only [Option.some.injEq] at ht; subst ht
      obtain ⟨n, rfl, _, hw⟩ := DataW.trod_int hu h
      simp only [Lit.wf, Bool.and_eq_true, decide_eq_true_eq] at hw
      exact ⟨[.int k n], .one ⟨VR.int, rfl⟩, by simp only [ShC]; exact ⟨n, rfl, hw.1, hw.2⟩⟩
    · rename_i hu
      simp only [Option.some.injEq] at ht; subst ht
      obtain ⟨s, rfl, _, hs⟩ := DataW.trod_string hu h
      refine ⟨[.str s.data.toList], .one ⟨by simp [VR], rfl⟩, by simp only [ShC]; exact ⟨_, rfl, by simpa using hs⟩⟩
    · rename_i e hu
      split at ht
      · rename_i hpos
        simp only [Option.map_eq_some_iff] at ht
        obtain ⟨te, hte, rfl⟩ := ht
        rcases DataW.trod_slice hu h with ⟨rfl, _⟩ | ⟨a, len, cap, elems, rest, n, hn, rfl, _, hb, hl, hm, hlen, hel, hsp, _⟩
        · exact ⟨[.nilsl], .one ⟨by simp [VR], rfl⟩, by simp [ShC]⟩
        · obtain ⟨hrl, hr⟩ := hsp rfl
          have hn' : n = fuel := by omega
          subst hn'
          -- each element's cells
          have each : ∀ i, i < cap -> ∃ cs y, w.cells? base (a.add (i * P.cellsOf e)) (P.cellsOf e) = some cs /\ DataW.trod enc P w base (fun _ => true) held n e cs = some y := by
            intro i hi
            have : ∃ y, (w.cells? base (a.add (i * P.cellsOf e)) (P.cellsOf e)).bind (DataW.trod enc P w base (fun _ => true) held n e) = some y := by
              by_cases hil : i < len
              · rw [hel i hil]; exact ⟨_, List.getElem?_eq_getElem (by omega)⟩
              · have := hr (i - len) (by omega)
                rw [show len + (i - len) = i by omega] at this
                rw [this]; exact ⟨_, List.getElem?_eq_getElem (by omega)⟩
            obtain ⟨y, hy⟩ := this
            rw [Option.bind_eq_some_iff] at hy
            obtain ⟨cs, h1, h2⟩ := hy
            exact ⟨cs, y, h1, h2⟩
          by_cases hc0 : cap = 0
          · subst hc0
            have : len = 0 := by omega
            subst this
            exact ⟨[.vsl (P.cellsOf e) [] false], .one ⟨by simp only [VR]; exact .inl ⟨by simp, a, rfl⟩, rfl⟩, by simp [ShC]⟩
          · have hspot : a.spot = none := by
              obtain ⟨cs, y, h1, _⟩ := each 0 (by omega)
              obtain ⟨hl1, hc1⟩ := zb3 h1
              have := hc1 0 hpos
              rw [List.getElem?_eq_getElem (by omega)] at this
              have := (zek this).1
              simpa [Addr.add] using this
            obtain ⟨b, o, spot⟩ := a
            simp only at hspot
            subst hspot
            have cellAt : ∀ i j, i < cap -> j < P.cellsOf e -> ∃ v, w.cell? ⟨b, o + (i * P.cellsOf e + j), none⟩ = some v := by
              intro i j hi hj
              obtain ⟨cs, y, h1, _⟩ := each i hi
              obtain ⟨hl1, hc1⟩ := zb3 h1
              have := hc1 j hj
              rw [List.getElem?_eq_getElem (by omega)] at this
              rw [add_plain, add_plain, Nat.add_assoc] at this
              exact ⟨_, this⟩
            -- the first m elements
            have firsts : ∀ m, m <= cap -> ∃ (es : List (List AV)) (vals : List Value), es.length = m /\ vals.length = m * P.cellsOf e /\ (∀ x ∈ es, x.length = P.cellsOf e) /\ (∀ x ∈ es, ShC te x) /\ VRss [] w es vals ∧
                ∀ k, k < vals.length -> w.cell? ⟨b, o + k, none⟩ = vals[k]? := by
              intro m
              induction m with
              | zero => intro _; exact ⟨[], [], rfl, by simp, by simp, by simp, by simp [VRss], by simp⟩
              | succ m ihm =>
                intro hm'
                obtain ⟨es, vals, k1, k2, k3, k4, k5, k6⟩ := ihm (by omega)
                obtain ⟨cs, y, h1, h2⟩ := each m (by omega)
                obtain ⟨hl1, hc1⟩ := zb3 h1
                obtain ⟨avs, q1, q2⟩ := zc8 n d e te cs y hte h2
                refine ⟨es ++ [avs], vals ++ cs, by simp [k1], by simp [k2, hl1, Nat.succ_mul], ?_, ?_, ?_, ?_⟩
                · intro x hx
                  simp only [List.mem_append, List.mem_singleton] at hx
                  rcases hx with hx | rfl
                  · exact k3 x hx
                  · rw [q1.length, hl1]
                · intro x hx
                  simp only [List.mem_append, List.mem_singleton] at hx
                  rcases hx with hx | rfl
                  · exact k4 x hx
                  · exact q2
                · rw [VRss.flat, List.flatten_append]
                  refine (VRss.flat.1 k5).append ?_
                  simpa using q1
                · intro k hk
                  by_cases hk1 : k < vals.length
                  · rw [List.getElem?_append_left hk1]; exact k6 k hk1
                  · rw [List.getElem?_append_right (by omega)]
                    simp only [List.length_append] at hk
                    have := hc1 (k - vals.length) (by omega)
                    rw [add_plain, add_plain] at this
                    rw [<- this, k2]
                    congr 2
                    omega
            obtain ⟨es, vals, k1, k2, k3, k4, k5, k6⟩ := firsts len hl
            have hmul : len * P.cellsOf e <= cap * P.cellsOf e := Nat.mul_le_mul_right _ hl
            obtain ⟨hbl, hseg⟩ := seg_of (w := w) (b := b) (o := o) (n := cap * P.cellsOf e) (vals := vals) (Nat.mul_pos (by omega) hpos) (by omega) (by
              intro k hk
              have h1 : k / P.cellsOf e < cap := Nat.div_lt_of_lt_mul (by rw [Nat.mul_comm]; exact hk)
              obtain ⟨v, hv⟩ := cellAt (k / P.cellsOf e) (k % P.cellsOf e) h1 (Nat.mod_lt _ hpos)
              rw [Nat.mul_comm, Nat.div_add_mod] at hv
              exact ⟨v, hv⟩) k6
            refine ⟨[.vsl (P.cellsOf e) es false], .one ⟨?_, rfl⟩, ?_⟩
            · simp only [VR]
              right
              exact ⟨b, o, cap, vals, by rw [k1], by omega, by simp, ⟨hbl, by simp⟩, hseg, k3, k5⟩
            · simp only [ShC]
              right
              exact ⟨es, rfl, by omega, k3, k4⟩
      · cases ht
    · rename_i fs hu
      split at ht
      · rename_i htile
        simp only [Option.map_eq_some_iff] at ht
        obtain ⟨tys, htys, rfl⟩ := ht
        obtain ⟨xs, n, hn, _, hcl, hxl, hxs⟩ := DataW.trod_struct hu h
        have hn' : n = fuel := by omega
        subst hn'
        obtain ⟨avs, h1, h2⟩ := zgk (cs := cs) ih fs.toList 0 tys (by rw [hcl]; exact htile) htys (fun f hf => by
          obtain ⟨i, hi⟩ := List.getElem?_of_mem hf
          have hi' : fs[i]? = some f := by simpa using hi
          rw [hxs i f hi']
          have : i < xs.length := by rw [hxl]; exact (Array.getElem?_eq_some_iff.1 hi').1
          exact ⟨_, List.getElem?_eq_getElem this⟩) (Nat.zero_le _)
        exact ⟨avs, by simpa using h1, by simpa only [ShC] using h2⟩
      · cases ht
    · rename_i n e hu
      split at ht
      · rename_i hsz
        simp only [Option.map_eq_some_iff] at ht
        obtain ⟨te, hte, rfl⟩ := ht
        obtain ⟨xs, m, hm, _, hcl, hxl, hxs⟩ := DataW.trod_array hu h
        have hm' : m = fuel := by omega
        subst hm'
        obtain ⟨avs, h1, h2⟩ := zgj hte ih n cs (by rw [hcl, hsz]) (fun i hi => by
          rw [hxs i hi]; exact ⟨_, List.getElem?_eq_getElem (by omega)⟩)
        exact ⟨avs, h1, by simpa only [ShC] using h2⟩
      · cases ht
    · cases ht

theorem znz {r : Reach} {b0 base : Nat} {held : Bool} {d : Nat} {t : TypeId} {ty : Ty} {v : Value} {x : DataW H} {ps : List MemPlace} (ht : tyOf P d t = some ty) (hval : Value.okWide P w r b0 t v)
    (hd : DataW.Trod enc P w base (fun _ => true) held t v x ps) : ∃ a, VR [] w a v /\ Sh ty a := by
  obtain ⟨fuel, hf⟩ := hd
  obtain ⟨avs, h1, h2⟩ := zc8 fuel d t ty _ _ ht hf
  have one : v.oneCell' = true -> (∀ ts, ty ≠ .row ts) -> ∃ a, VR [] w a v /\ Sh ty a := by
    intro hv hr
    rw [zb4 hv] at h1
    cases avs with
    | nil => simp [VRs] at h1
    | cons a avs =>
      simp only [VRs] at h1
      obtain ⟨v', vs', he, h3, h4⟩ := h1
      simp only [List.cons.injEq] at he
      obtain ⟨rfl, rfl⟩ := he
      have : avs = [] := by cases avs <;> simp [VRs] at h4 ⊢
      subst this
      refine ⟨a, h3.1, ?_⟩
      cases ty <;> first | exact h2 | exact absurd rfl (hr _)
  have agg : (∃ cs, v = .agg cs) -> (∃ ts, ty = .row ts) -> ∃ a, VR [] w a v /\ Sh ty a := by
    rintro ⟨cs, rfl⟩ ⟨ts, rfl⟩
    simp only [ShC] at h2
    refine ⟨.agg avs, ?_, avs, rfl, h2⟩
    simp only [VR]
    exact ⟨cs.toList, by simp, by simpa [Value.cells] using h1⟩
  cases d with
  | zero => simp [tyOf] at ht
  | succ d =>
    unfold tyOf at ht
    unfold Value.okWide at hval
    split at ht
    · rename_i hu
      simp only [Option.some.injEq] at ht; subst ht
      simp only [hu, Cell.okWide, Cell.ok] at hval
      refine one ?_ (by simp)
      cases v <;> simp_all <;> rfl
    · rename_i k hu
      simp only [Option.some.injEq] at ht; subst ht
      simp only [hu, Cell.okWide, Cell.ok] at hval
      refine one ?_ (by simp)
      cases v <;> simp_all <;> rfl
    · rename_i hu
      simp only [Option.some.injEq] at ht; subst ht
      simp only [hu, Cell.okWide, Cell.ok] at hval
      refine one ?_ (by simp)
      cases v <;> simp_all <;> rfl
    · rename_i e hu
      split at ht
      · simp only [Option.map_eq_some_iff] at ht
        obtain ⟨te, _, rfl⟩ := ht
        simp only [hu, Cell.okWide, Cell.ok] at hval
        refine one ?_ (by simp)
        cases v <;> simp_all <;> rfl
      · cases ht
    · rename_i fs hu
      split at ht
      · simp only [Option.map_eq_some_iff] at ht
        obtain ⟨te, _, rfl⟩ := ht
        simp only [hu] at hval
        obtain ⟨cs, hcs, _⟩ := hval
        exact agg ⟨cs, hcs⟩ ⟨_, rfl⟩
      · cases ht
    · rename_i n e hu
      split at ht
      · simp only [Option.map_eq_some_iff] at ht
        obtain ⟨te, _, rfl⟩ := ht
        simp only [hu] at hval
        obtain ⟨cs, hcs, _⟩ := hval
        exact agg ⟨cs, hcs⟩ ⟨_, rfl⟩
      · cases ht
    · cases ht

def z7i (P : Program) (d : Nat) : List TypeId -> Option (List Ty)
  | [] => some []
  | t :: ts => (tyOf P d t).bind fun ty => (z7i P d ts).map (ty :: ·)
theorem zby {r : Reach} {b0 base : Nat} {held : Bool} {d : Nat} : ∀ {ts : List TypeId} {tys : List Ty} {vs : List Value} {xs : List (DataW H)} {ps : List MemPlace}, z7i P d ts = some tys ->
    (∀ (j : Nat) t v, ts[j]? = some t -> vs[j]? = some v -> Value.okWide P w r b0 t v) -> DataW.TrodAll enc P w base (fun _ => true) held ts vs xs ps -> ∃ avs, VRt [] w avs vs /\ z6o tys avs
  | [], tys, vs, xs, ps, ht, _, h => by
    simp only [z7i, Option.some.injEq] at ht; subst ht
    obtain ⟨rfl, _⟩ := trodAll_nil h
    exact ⟨[], VRt.nil, rfl⟩
  | t :: ts, tys, vs, xs, ps, ht, hval, h => by
    simp only [z7i, Option.bind_eq_some_iff, Option.map_eq_some_iff] at ht
    obtain ⟨ty, h1, tys', h2, rfl⟩ := ht
    obtain ⟨v, vs', x, xs', p, q, rfl, rfl, rfl, h3, h4⟩ := trodAll_cons h
    obtain ⟨a, k1, k2⟩ := znz h1 (hval 0 t v rfl rfl) h3
    obtain ⟨avs, k3, k4⟩ := zby h2 (fun j t' v' hj hv => hval (j + 1) t' v' (by simpa using hj) (by simpa using hv)) h4
    exact ⟨a :: avs, VRt.cons k1 k3, a, avs, rfl, k2, k4⟩
end
end Am
end Go.Proofs.YtjgljhbmljgaeaaDoor
end
section
/- THE ABSTRACT MACHINE, part 24: a law's contract at the empty store gives its row's. -/
namespace Go.Proofs.YtjgljhbmljgaeaaDoor
namespace Am
open Go.ChangeShapes Go.WideShapes Go.ChangeAt Go.RowKit
section
variable {H : Type} {enc : TypeId × Value -> H} {P : Program} {w : World}
theorem zdb {base : Nat} {spare : Nat -> Bool} {held : Bool} : ∀ {ts : List TypeId} {vs : List Value} {ds : List (DataW H)} {ps : List MemPlace}, DataW.TrodAll enc P w base spare held ts vs ds ps -> ds.length = ts.length
  | [], [], [], _, _ => rfl
  | t :: ts, v :: vs, d :: ds, ps, h => by
    obtain ⟨p, q, h1, h2, rfl⟩ := h
    simp [zdb h2]
  | [], [], _ :: _, _, h => h.elim
  | [], _ :: _, _, _, h => h.elim
  | _ :: _, [], _, _, h => h.elim
  | _ :: _, _ :: _, [], _, h => h.elim

theorem zr0 {C : Ctx} (hg : ∀ g, C.gl g = none) {f : FuncId} {fn : Func} {e : Nat × List RV × ACode} (hc : cFn C f = some e) {d : Nat} {tys : List Ty} (htys : z7i C.P d fn.params.toList = some tys)
    (hlaw : ∀ avs, z6o tys avs -> ACallsTo C f avs [] (.bool true) []) {s : ChangeSpec} (hvars : s.vars = [])
    (hspec : ∀ ds : List (DataW H), ds.length = fn.params.toList.length -> (s.fn H ds).results = [.lit (.bool true)] /\ (s.fn H ds).args = ds /\ (s.fn H ds).vars = []) {tb : TypeId} (hres : fn.resultTypes = #[tb]) (htb : C.P.underlying tb = some .bool)
    (hl : laidOutB C.P = true) (hpar : (fn.params.toList.all fun t => C.P.readableRec t && decide (t < C.P.types.size)) = true)
    {W : World} {base : Nat} {args : Array Value} {ds gs : List (DataW H)} {before : List MemPlace} (hval : ∀ (j : Nat) t v, fn.params[j]? = some t -> args[j]? = some v -> Value.okWide C.P W .any base t v)
    (hW : DataW.Whole enc C.P fn.params.toList s.vars false W args.toList ds gs before) :
    Calls C.P f args W fun e W' => ∃ v, e = .returned v /\ s.post enc C.P fn false true false false W args v W' := by
  have hW' := hW
  obtain ⟨p, q, hA, hV, rfl, hfz, hnd⟩ := hW
  obtain ⟨avs, h1, h2⟩ := zby (r := .any) (b0 := base) htys (fun j t v hj hv => hval j t v (by simpa using hj) (by simpa using hv)) hA
  have hcall := (hlaw avs h2).calls hc (Rel.empty hg W) h1
  have ea : args.toList.toArray = args := by simp
  rw [ea] at hcall
  refine hcall.mono ?_
  rintro x w' ⟨rfl, hb⟩
  refine ⟨_, rfl, zfn hW' hvars (fun gs hgs => ?_) hres htb hl hpar hb⟩
  subst hgs
  rw [List.append_nil]
  exact hspec ds (zdb hA)
end
end Am
end Go.Proofs.YtjgljhbmljgaeaaDoor
end
section
/- THE ABSTRACT MACHINE, part 26: a contract at the empty store serves at every store: rows are lent as_ values, new objects lie behind the others. -/
namespace Go.Proofs.YtjgljhbmljgaeaaDoor
namespace Am

mutual
/-- References are counted from k on. -/
def sh (k : Nat) : AV -> AV
  | .ptr r i off => .ptr (k + r) i off
  | .sl r off len lim esz => .sl (k + r) off len lim esz
  | .asl r i off len cap esz => .asl (k + r) i off len cap esz
  | .fn f caps => .fn f (shs k caps)
  | .agg cs => .agg (shs k cs)
  | .tup vs => .tup (shs k vs)
  | .any => .any
  | .undef => .undef
  | .bool b => .bool b
  | .int i n => .int i n
  | .str s => .str s
  | .nilp => .nilp
  | .vp _ => .any
  | .nilsl => .nilsl
  | .vsl _ _ _ => .any
  | .nilfn => .nilfn
  | .bld r => .bld (k + r)
  | .bnil => .bnil
  | .bsl r len => .bsl (k + r) len
def shs (k : Nat) : List AV -> List AV
  | [] => []
  | a :: l => sh k a :: shs k l
end
def shss (k : Nat) (es : List (List AV)) : List (List AV) := es.map (shs k)
def shS (k : Nat) (Y : Store) : Store := Y.map (·.map (shss k))
theorem zhb (k : Nat) : ∀ l, (shs k l).length = l.length
  | [] => rfl
  | _ :: l => by simp [shs, zhb k l]
theorem zha (k : Nat) : ∀ l m, shs k (l ++ m) = shs k l ++ shs k m
  | [], _ => rfl
  | a :: l, m => by simp [shs, zha k l m]
theorem zhc (k : Nat) : ∀ es : List (List AV), (shss k es).flatten = shs k es.flatten
  | [] => rfl
  | e :: es => by
    have := zhc k es
    simp only [shss] at this
    simp only [shss, List.map_cons, List.flatten_cons, zha, this]
mutual
theorem za9 {J J' : Places} {w : World} : ∀ (a : AV) (v : Value), VR J' w a v -> VR (J ++ J') w (sh J.length a) v
  | .any, _, _ => by simp only [sh, VR]
  | .undef, _, h => by simpa only [sh, VR] using h
  | .bool _, _, h => by simpa only [sh, VR] using h
  | .int _ _, _, h => by simpa only [sh, VR] using h
  | .str _, _, h => by simpa only [sh, VR] using h
  | .nilp, _, h => by simpa only [sh, VR] using h
  | .nilsl, _, h => by simpa only [sh, VR] using h
  | .nilfn, _, h => by simpa only [sh, VR] using h
  | .vp _, _, _ => by simp only [sh, VR]
  | .vsl _ _ _, _, _ => by simp only [sh, VR]
  | .ptr r i off, v, h => by
    simp only [sh, VR] at h ⊢
    obtain ⟨fl, pl, h1, h2⟩ := h
    exact ⟨fl, pl, by rw [List.getElem?_append_right (by omega), Nat.add_sub_cancel_left]; exact h1, h2⟩
  | .sl r off len lim esz, v, h => by
    simp only [sh, VR] at h ⊢
    obtain ⟨fl, pl, b, o, cap, h1, h2⟩ := h
    exact ⟨fl, pl, b, o, cap, by rw [List.getElem?_append_right (by omega), Nat.add_sub_cancel_left]; exact h1, h2⟩
  | .asl r i off len cap esz, v, h => by
    simp only [sh, VR] at h ⊢
    obtain ⟨fl, pl, b, o, h1, h2⟩ := h
    exact ⟨fl, pl, b, o, by rw [List.getElem?_append_right (by omega), Nat.add_sub_cancel_left]; exact h1, h2⟩
  | .fn f caps, v, h => by
    simp only [sh, VR] at h ⊢
    obtain ⟨vs, h1, h2⟩ := h
    exact ⟨vs, h1, zcx caps vs h2⟩
  | .agg cs, v, h => by
    simp only [sh, VR] at h ⊢
    obtain ⟨vs, h1, h2⟩ := h
    exact ⟨vs, h1, zcw cs vs h2⟩
  | .tup cs, v, h => by
    simp only [sh, VR] at h ⊢
    obtain ⟨vs, h1, h2⟩ := h
    exact ⟨vs, h1, zcx cs vs h2⟩
  | .bld r, v, h => by
    simp only [sh, VR] at h ⊢
    obtain ⟨fl, pl, h1, h2⟩ := h
    exact ⟨fl, pl, by rw [List.getElem?_append_right (by omega), Nat.add_sub_cancel_left]; exact h1, h2⟩
  | .bnil, _, h => by simpa only [sh, VR] using h
  | .bsl r len, v, h => by
    simp only [sh, VR] at h ⊢
    obtain ⟨fl, pl, cap, h1, h2⟩ := h
    exact ⟨fl, pl, cap, by rw [List.getElem?_append_right (by omega), Nat.add_sub_cancel_left]; exact h1, h2⟩
theorem zcw {J J' : Places} {w : World} : ∀ (l : List AV) (vs : List Value), VRs J' w l vs -> VRs (J ++ J') w (shs J.length l) vs
  | [], vs, h => by simpa only [shs, VRs] using h
  | a :: l, vs, h => by
    simp only [shs, VRs] at h ⊢
    obtain ⟨v, vs', h1, h2, h3⟩ := h
    exact ⟨v, vs', h1, ⟨za9 a v h2.1, h2.2⟩, zcw l vs' h3⟩
theorem zcx {J J' : Places} {w : World} : ∀ (l : List AV) (vs : List Value), VRt J' w l vs -> VRt (J ++ J') w (shs J.length l) vs
  | [], vs, h => by simpa only [shs, VRt] using h
  | a :: l, vs, h => by
    simp only [shs, VRt] at h ⊢
    obtain ⟨v, vs', h1, h2, h3⟩ := h
    exact ⟨v, vs', h1, za9 a v h2, zcx l vs' h3⟩
end

/-- All objects are lent. -/
def z3g (Y : Store) : DC := ⟨Y, 0, id, fun _ => true⟩
theorem zfo {Y : Store} {J : Places} {w : World} : DSnd (z3g Y) J [] w where
  ref r _ _ h := by simp [z3g] at h
  imm b h := ⟨h.1, by simp⟩
  fz r pl _ _ r' pl' h := by simp at h
theorem zd6 {J J' : Places} {w w' : World} (h : Step [] w J' w') (hlt : ∀ (r : Nat) (pl : Place), J[r]? = some (true, pl) -> pl.b < w.heap.size) : Step J w (J ++ J') w' where
  keep r fl pl hr := ⟨fl, by rw [List.getElem?_append_left (List.getElem?_eq_some_iff.1 hr).1]; exact hr⟩
  size := h.size
  imm b hb _ := h.imm b hb (by simp)
  new r pl hr := by
    by_cases hl : r < J.length
    · rw [List.getElem?_append_left hl] at hr
      exact .inl ⟨r, pl, hr, rfl⟩
    · rw [List.getElem?_append_right (by omega)] at hr
      rcases h.new _ pl hr with ⟨r', pl', h1, _⟩ | h1
      · simp at h1
      · exact .inr h1
  os := h.os
  tape := h.tape
  output := h.output

def GlOK (C : Ctx) : Prop := ∀ g cs, C.gl g = some cs -> RLs 0 cs
theorem Rel.lent {C : Ctx} {J : Places} {Y : Store} {w : World} (hg : GlOK C) (hR : Rel C J Y w) : Rel C [] [] w :=
  ⟨rfl, by simp, by simp, by simp, fun g cs h => DR.sound hR zfo (.vp cs) (.vp cs) _ (DR.refl (D := z3g Y) (k := 0) (by omega) _ (by simpa only [RL] using hg g cs h)) (hR.gl g cs h)⟩
theorem Rel.back {C : Ctx} {J J' : Places} {Y Y1 : Store} {w w' : World} (hR : Rel C J Y w) (hst : Step [] w J' w') (h : Rel C J' Y1 w') : Rel C (J ++ J') (Y ++ shS Y.length Y1) w' := by
  have hlt : ∀ (r : Nat) (pl : Place), J[r]? = some (true, pl) -> pl.b < w.heap.size := fun r pl hr => hR.place_lt hr
  have hs := zd6 (J := J) hst hlt
  have hge : ∀ (r : Nat) (pl : Place), J'[r]? = some (true, pl) -> w.heap.size <= pl.b := fun r pl hr => by
    rcases hst.new r pl hr with ⟨r', pl', h1, _⟩ | h1
    · simp at h1
    · exact h1
  refine ⟨by simp [shS, hR.len, h.len], fun r o hr => ?_, fun r hr => ?_, fun r r' pl pl' h1 h2 h3 => ?_, fun g cs hg => (hR.gl g cs hg).mono hs⟩
  · by_cases hl : r < Y.length
    · rw [List.getElem?_append_left hl] at hr
      obtain ⟨pl, h1, h2⟩ := hR.alive r o hr
      exact ⟨pl, by rw [List.getElem?_append_left (by rw [hR.len]; exact hl)]; exact h1, h2.mono hs (hst.imm _ h2.lt (by simp))⟩
    · rw [List.getElem?_append_right (by omega)] at hr
      simp only [shS, List.getElem?_map, Option.map_eq_some_iff] at hr
      obtain ⟨x, hx, he⟩ := hr
      cases x with
      | none => simp at he
      | some o0 =>
        simp only [Option.map_some, Option.some.injEq] at he
        obtain ⟨_, rfl, rfl⟩ := he
        obtain ⟨pl, h1, h2⟩ := h.alive _ o0 hx
        refine ⟨pl, by rw [List.getElem?_append_right (by rw [hR.len]; omega), hR.len]; exact h1, ?_⟩
        obtain ⟨c, ty, fz, pre, mid, post, k1, k2, k3, k4, k5, k6⟩ := h2.ex
        refine ⟨by simp [shss, h2.len], fun e he => ?_, h2.tyk, c, ty, fz, pre, mid, post, k1, k2, k3, k4, ?_, k6⟩
        · simp only [shss, List.mem_map] at he
          obtain ⟨e0, he0, rfl⟩ := he
          rw [zhb]; exact h2.esz e0 he0
        · rw [zhc, <- hR.len]
          exact zcw _ _ k5
  · by_cases hl : r < Y.length
    · rw [List.getElem?_append_left hl] at hr
      obtain ⟨pl, h1⟩ := hR.dead r hr
      exact ⟨pl, by rw [List.getElem?_append_left (by rw [hR.len]; exact hl)]; exact h1⟩
    · rw [List.getElem?_append_right (by omega)] at hr
      simp only [shS, List.getElem?_map, Option.map_eq_some_iff] at hr
      obtain ⟨x, hx, he⟩ := hr
      cases x with
      | some o0 => simp at he
      | none =>
        obtain ⟨pl, h1⟩ := h.dead _ hx
        exact ⟨pl, by rw [List.getElem?_append_right (by rw [hR.len]; omega), hR.len]; exact h1⟩
  · have get : ∀ (r : Nat) (pl : Place), (J ++ J')[r]? = some (true, pl) -> (r < J.length /\ J[r]? = some (true, pl)) \/ (J.length <= r /\ J'[r - J.length]? = some (true, pl)) := fun r pl hr => by
      by_cases hl : r < J.length
      · rw [List.getElem?_append_left hl] at hr; exact .inl ⟨hl, hr⟩
      · rw [List.getElem?_append_right (by omega)] at hr; exact .inr ⟨by omega, hr⟩
    rcases get r pl h1 with ⟨k1, k2⟩ | ⟨k1, k2⟩ <;> rcases get r' pl' h2 with ⟨q1, q2⟩ | ⟨q1, q2⟩
    · exact hR.inj r r' pl pl' k2 q2 h3
    · have := hlt r pl k2; have := hge _ pl' q2; omega
    · have := hge _ pl k2; have := hlt r' pl' q2; omega
    · have := h.inj _ _ pl pl' k2 q2 h3; omega

theorem ACallsTo.lend {C : Ctx} (hg : GlOK C) {f : FuncId} {xs args : List AV} {v : AV} {Y Y1 : Store} (h : ACallsTo C f xs [] v Y1) (hd : DRs (z3g Y) xs args) : ACallsTo C f args Y (sh Y.length v) (Y ++ shS Y.length Y1) := by
  intro J w cargs hR ha
  have hx : VRt [] w xs cargs := DRs.soundt hR zfo xs args cargs hd ha
  have hlt : ∀ (r : Nat) (pl : Place), J[r]? = some (true, pl) -> pl.b < w.heap.size := fun r pl hr => hR.place_lt hr
  rcases h [] w cargs (hR.lent hg) hx with ⟨h1, h2⟩ | ⟨cv, J', w', h1, h2, h3, h4⟩
  · refine .inl ⟨h1, h2.mono ?_⟩
    rintro e w' ⟨cv, J', rfl, k1, k2, k3⟩
    exact ⟨cv, J ++ J', rfl, zd6 k1 hlt, hR.back k1 k2, by rw [<- hR.len]; exact za9 v cv k3⟩
  · exact .inr ⟨cv, J ++ J', w', h1, zd6 h2 hlt, hR.back h2 h3, by rw [<- hR.len]; exact za9 v cv h4⟩
/-- A contract at the empty store, of values alone, at every store. -/
theorem ACallsTo.frame {C : Ctx} (hg : GlOK C) {f : FuncId} {xs : List AV} {v : AV} (h : ACallsTo C f xs [] v []) (hx : RLs 0 xs) (Y : Store) : ACallsTo C f xs Y (sh Y.length v) Y := by
  have := ACallsTo.lend hg (Y := Y) h (DRs.refl (D := z3g Y) (k := 0) (by omega) xs hx)
  simpa [shS] using this
end Am
end Go.Proofs.YtjgljhbmljgaeaaDoor
end
section
/- THE ABSTRACT MACHINE, part 25: its steps, gathered for simp; numbers decided by omega. -/
namespace Go.Proofs.YtjgljhbmljgaeaaDoor
namespace Am
theorem lens : (∀ {α : Type} {l : List α} {i : Nat} {a : α}, (l.set i a).length = l.length) /\ (∀ {α : Type} {l m : List α}, (l ++ m).length = l.length + m.length) /\ (∀ {α : Type} {a : α} {l : List α}, (a :: l).length = l.length + 1) /\ (∀ {α : Type}, ([] : List α).length = 0) /\ (∀ {α β : Type} {f : α -> β} {l : List α}, (l.map f).length = l.length) :=
  ⟨List.length_set, List.length_append, List.length_cons, List.length_nil, List.length_map _⟩
section
variable {C : Ctx} {n k : Nat} {Q : AExit -> Env -> Store -> Prop} {O : Env} {Y : Store}
theorem zW.zd {x : AX} {p q : ACode} {P : Prop} [hd : Decidable P] (hx : x.ev O = .bool (@decide P hd)) (h1 : P -> zW C n k p Q O Y) (h2 : ¬ P -> zW C n k q Q O Y) : zW C n k (.cond x p q) Q O Y :=
  zW.cond hx (fun h => h1 (of_decide_eq_true h)) (fun h => h2 (of_decide_eq_false h))
theorem zW.zt {x : AX} {p q : ACode} (hx : x.ev O = .bool true) (h1 : zW C n k p Q O Y) : zW C n k (.cond x p q) Q O Y :=
  zW.cond hx (fun _ => h1) (fun h => by cases h)
theorem zW.zf {x : AX} {p q : ACode} (hx : x.ev O = .bool false) (h1 : zW C n k q Q O Y) : zW C n k (.cond x p q) Q O Y :=
  zW.cond hx (fun h => by cases h) (fun _ => h1)
theorem zaj {n : Int} (h : -9223372036854775808 <= n /\ n < 9223372036854775808) : IntKind.i64.wrap n = n := by
  simp [IntKind.wrap, IntKind.signed, IntKind.bits]; omega
theorem zal {n : Int} (h : 0 <= n /\ n < 18446744073709551616) : IntKind.u64.wrap n = n := by
  simp [IntKind.wrap, IntKind.signed, IntKind.bits]; omega
theorem z92 {n : Int} (h : 0 <= n /\ n < 4294967296) : IntKind.u32.wrap n = n := by
  simp [IntKind.wrap, IntKind.signed, IntKind.bits]; omega
theorem zak {n : Int} (h : 0 <= n /\ n < 65536) : IntKind.u16.wrap n = n := by
  simp [IntKind.wrap, IntKind.signed, IntKind.bits]; omega
theorem w_u8 {n : Int} (h : 0 <= n /\ n < 256) : IntKind.u8.wrap n = n := by
  simp [IntKind.wrap, IntKind.signed, IntKind.bits]; omega
theorem shr_u8 {a b : Int} (h : 0 <= b /\ b < 8) : z1f .shr .u8 a b = some (.int .u8 (a / 2 ^ b.toNat)) := by
  simp only [z1f, IntKind.bits]
  rw [if_neg (by omega), Nat.min_eq_left (by omega), Int.fdiv_eq_ediv_of_nonneg _ (Int.pow_nonneg (by decide))]
theorem shl_u8 {a b : Int} (h : 0 <= b /\ b < 8) : z1f .shl .u8 a b = some (.int .u8 (IntKind.u8.wrap (a * 2 ^ b.toNat))) := by
  simp only [z1f, IntKind.bits]
  rw [if_neg (by omega), Nat.min_eq_left (by omega)]
theorem zpp {a b : Int} (h : 0 <= b /\ b < 16) : z1f .shr .u16 a b = some (.int .u16 (a / 2 ^ b.toNat)) := by
  simp only [z1f, IntKind.bits]
  rw [if_neg (by omega), Nat.min_eq_left (by omega), Int.fdiv_eq_ediv_of_nonneg _ (Int.pow_nonneg (by decide))]
theorem zpm {a b : Int} (h : 0 <= b /\ b < 16) : z1f .shl .u16 a b = some (.int .u16 (IntKind.u16.wrap (a * 2 ^ b.toNat))) := by
  simp only [z1f, IntKind.bits]
  rw [if_neg (by omega), Nat.min_eq_left (by omega)]
theorem zh9 {a b : Int} (h : 0 <= b /\ b < 32) : z1f .shr .u32 a b = some (.int .u32 (a / 2 ^ b.toNat)) := by
  simp only [z1f, IntKind.bits]
  rw [if_neg (by omega), Nat.min_eq_left (by omega), Int.fdiv_eq_ediv_of_nonneg _ (Int.pow_nonneg (by decide))]
theorem zh7 {a b : Int} (h : 0 <= b /\ b < 32) : z1f .shl .u32 a b = some (.int .u32 (IntKind.u32.wrap (a * 2 ^ b.toNat))) := by
  simp only [z1f, IntKind.bits]
  rw [if_neg (by omega), Nat.min_eq_left (by omega)]
theorem zpq {a b : Int} (h : 0 <= b /\ b < 64) : z1f .shr .u64 a b = some (.int .u64 (a / 2 ^ b.toNat)) := by
  simp only [z1f, IntKind.bits]
  rw [if_neg (by omega), Nat.min_eq_left (by omega), Int.fdiv_eq_ediv_of_nonneg _ (Int.pow_nonneg (by decide))]
theorem zpn {a b : Int} (h : 0 <= b /\ b < 64) : z1f .shl .u64 a b = some (.int .u64 (IntKind.u64.wrap (a * 2 ^ b.toNat))) := by
  simp only [z1f, IntKind.bits]
  rw [if_neg (by omega), Nat.min_eq_left (by omega)]
theorem zpo {a b : Int} (h : 0 <= b /\ b < 64) : z1f .shr .i64 a b = some (.int .i64 (a / 2 ^ b.toNat)) := by
  simp only [z1f, IntKind.bits]
  rw [if_neg (by omega), Nat.min_eq_left (by omega), Int.fdiv_eq_ediv_of_nonneg _ (Int.pow_nonneg (by decide))]
theorem zpl {a b : Int} (h : 0 <= b /\ b < 64) : z1f .shl .i64 a b = some (.int .i64 (IntKind.i64.wrap (a * 2 ^ b.toNat))) := by
  simp only [z1f, IntKind.bits]
  rw [if_neg (by omega), Nat.min_eq_left (by omega)]
theorem zff {k : IntKind} {a b : Int} : z10 .add k a b = some (.int k (k.wrap (a + b))) := rfl
theorem ib_sub {k : IntKind} {a b : Int} : z10 .sub k a b = some (.int k (k.wrap (a - b))) := rfl
theorem ib_mul {k : IntKind} {a b : Int} : z10 .mul k a b = some (.int k (k.wrap (a * b))) := rfl
theorem ib_quo {k : IntKind} {a b : Int} : z10 .quo k a b = if b = 0 then none else some (.int k (k.wrap (a.tdiv b))) := rfl
theorem ib_rem {k : IntKind} {a b : Int} : z10 .rem k a b = if b = 0 then none else some (.int k (a.tmod b)) := rfl
theorem ib_eql {k : IntKind} {a b : Int} : z10 .eql k a b = some (.bool (a == b)) := rfl
theorem ib_neq {k : IntKind} {a b : Int} : z10 .neq k a b = some (.bool (a != b)) := rfl
theorem ib_lss {k : IntKind} {a b : Int} : z10 .lss k a b = some (.bool (decide (a < b))) := rfl
theorem ib_leq {k : IntKind} {a b : Int} : z10 .leq k a b = some (.bool (decide (a <= b))) := rfl
theorem ib_gtr {k : IntKind} {a b : Int} : z10 .gtr k a b = some (.bool (decide (a > b))) := rfl
theorem ib_geq {k : IntKind} {a b : Int} : z10 .geq k a b = some (.bool (decide (a >= b))) := rfl
theorem zm1 {a b : Int} (ha : 0 <= a /\ a < 256) (hb : 0 <= b /\ b < 256) : z10 .and .u8 a b = some (.int .u8 ((a.toNat &&& b.toNat : Nat) : Int)) := by
  have h : (BitVec.ofInt IntKind.u8.bits a &&& BitVec.ofInt IntKind.u8.bits b).toNat = a.toNat &&& b.toNat := by
    rw [BitVec.toNat_and, BitVec.toNat_ofInt, BitVec.toNat_ofInt]
    simp only [IntKind.bits]
    rw [Int.emod_eq_of_lt (by omega) (by omega), Int.emod_eq_of_lt (by omega) (by omega)]
  have h1 : a.toNat < 2 ^ 8 := by omega
  have h2 : b.toNat < 2 ^ 8 := by omega
  have h3 : a.toNat &&& b.toNat < 2 ^ 8 := Nat.and_lt_two_pow _ h2
  simp only [z10]
  rw [h, w_u8 ⟨by omega, by omega⟩]
theorem zm5 {a b : Int} (ha : 0 <= a /\ a < 256) (hb : 0 <= b /\ b < 256) : z10 .or .u8 a b = some (.int .u8 ((a.toNat ||| b.toNat : Nat) : Int)) := by
  have h : (BitVec.ofInt IntKind.u8.bits a ||| BitVec.ofInt IntKind.u8.bits b).toNat = a.toNat ||| b.toNat := by
    rw [BitVec.toNat_or, BitVec.toNat_ofInt, BitVec.toNat_ofInt]
    simp only [IntKind.bits]
    rw [Int.emod_eq_of_lt (by omega) (by omega), Int.emod_eq_of_lt (by omega) (by omega)]
  have h1 : a.toNat < 2 ^ 8 := by omega
  have h2 : b.toNat < 2 ^ 8 := by omega
  have h3 : a.toNat ||| b.toNat < 2 ^ 8 := Nat.or_lt_two_pow h1 h2
  simp only [z10]
  rw [h, w_u8 ⟨by omega, by omega⟩]
theorem zm9 {a b : Int} (ha : 0 <= a /\ a < 256) (hb : 0 <= b /\ b < 256) : z10 .xor .u8 a b = some (.int .u8 ((a.toNat ^^^ b.toNat : Nat) : Int)) := by
  have h : (BitVec.ofInt IntKind.u8.bits a ^^^ BitVec.ofInt IntKind.u8.bits b).toNat = a.toNat ^^^ b.toNat := by
    rw [BitVec.toNat_xor, BitVec.toNat_ofInt, BitVec.toNat_ofInt]
    simp only [IntKind.bits]
    rw [Int.emod_eq_of_lt (by omega) (by omega), Int.emod_eq_of_lt (by omega) (by omega)]
  have h1 : a.toNat < 2 ^ 8 := by omega
  have h2 : b.toNat < 2 ^ 8 := by omega
  have h3 : a.toNat ^^^ b.toNat < 2 ^ 8 := Nat.xor_lt_two_pow h1 h2
  simp only [z10]
  rw [h, w_u8 ⟨by omega, by omega⟩]
theorem zlz {a b : Int} (ha : 0 <= a /\ a < 65536) (hb : 0 <= b /\ b < 65536) : z10 .and .u16 a b = some (.int .u16 ((a.toNat &&& b.toNat : Nat) : Int)) := by
  have h : (BitVec.ofInt IntKind.u16.bits a &&& BitVec.ofInt IntKind.u16.bits b).toNat = a.toNat &&& b.toNat := by
    rw [BitVec.toNat_and, BitVec.toNat_ofInt, BitVec.toNat_ofInt]
    simp only [IntKind.bits]
    rw [Int.emod_eq_of_lt (by omega) (by omega), Int.emod_eq_of_lt (by omega) (by omega)]
  have h1 : a.toNat < 2 ^ 16 := by omega
  have h2 : b.toNat < 2 ^ 16 := by omega
  have h3 : a.toNat &&& b.toNat < 2 ^ 16 := Nat.and_lt_two_pow _ h2
  simp only [z10]
  rw [h, zak ⟨by omega, by omega⟩]
theorem zm3 {a b : Int} (ha : 0 <= a /\ a < 65536) (hb : 0 <= b /\ b < 65536) : z10 .or .u16 a b = some (.int .u16 ((a.toNat ||| b.toNat : Nat) : Int)) := by
  have h : (BitVec.ofInt IntKind.u16.bits a ||| BitVec.ofInt IntKind.u16.bits b).toNat = a.toNat ||| b.toNat := by
    rw [BitVec.toNat_or, BitVec.toNat_ofInt, BitVec.toNat_ofInt]
    simp only [IntKind.bits]
    rw [Int.emod_eq_of_lt (by omega) (by omega), Int.emod_eq_of_lt (by omega) (by omega)]
  have h1 : a.toNat < 2 ^ 16 := by omega
  have h2 : b.toNat < 2 ^ 16 := by omega
  have h3 : a.toNat ||| b.toNat < 2 ^ 16 := Nat.or_lt_two_pow h1 h2
  simp only [z10]
  rw [h, zak ⟨by omega, by omega⟩]
theorem zm7 {a b : Int} (ha : 0 <= a /\ a < 65536) (hb : 0 <= b /\ b < 65536) : z10 .xor .u16 a b = some (.int .u16 ((a.toNat ^^^ b.toNat : Nat) : Int)) := by
  have h : (BitVec.ofInt IntKind.u16.bits a ^^^ BitVec.ofInt IntKind.u16.bits b).toNat = a.toNat ^^^ b.toNat := by
    rw [BitVec.toNat_xor, BitVec.toNat_ofInt, BitVec.toNat_ofInt]
    simp only [IntKind.bits]
    rw [Int.emod_eq_of_lt (by omega) (by omega), Int.emod_eq_of_lt (by omega) (by omega)]
  have h1 : a.toNat < 2 ^ 16 := by omega
  have h2 : b.toNat < 2 ^ 16 := by omega
  have h3 : a.toNat ^^^ b.toNat < 2 ^ 16 := Nat.xor_lt_two_pow h1 h2
  simp only [z10]
  rw [h, zak ⟨by omega, by omega⟩]
theorem zfg {a b : Int} (ha : 0 <= a /\ a < 4294967296) (hb : 0 <= b /\ b < 4294967296) : z10 .and .u32 a b = some (.int .u32 ((a.toNat &&& b.toNat : Nat) : Int)) := by
  have h : (BitVec.ofInt IntKind.u32.bits a &&& BitVec.ofInt IntKind.u32.bits b).toNat = a.toNat &&& b.toNat := by
    rw [BitVec.toNat_and, BitVec.toNat_ofInt, BitVec.toNat_ofInt]
    simp only [IntKind.bits]
    rw [Int.emod_eq_of_lt (by omega) (by omega), Int.emod_eq_of_lt (by omega) (by omega)]
  have h1 : a.toNat < 2 ^ 32 := by omega
  have h2 : b.toNat < 2 ^ 32 := by omega
  have h3 : a.toNat &&& b.toNat < 2 ^ 32 := Nat.and_lt_two_pow _ h2
  simp only [z10]
  rw [h, z92 ⟨by omega, by omega⟩]
theorem zfh {a b : Int} (ha : 0 <= a /\ a < 4294967296) (hb : 0 <= b /\ b < 4294967296) : z10 .or .u32 a b = some (.int .u32 ((a.toNat ||| b.toNat : Nat) : Int)) := by
  have h : (BitVec.ofInt IntKind.u32.bits a ||| BitVec.ofInt IntKind.u32.bits b).toNat = a.toNat ||| b.toNat := by
    rw [BitVec.toNat_or, BitVec.toNat_ofInt, BitVec.toNat_ofInt]
    simp only [IntKind.bits]
    rw [Int.emod_eq_of_lt (by omega) (by omega), Int.emod_eq_of_lt (by omega) (by omega)]
  have h1 : a.toNat < 2 ^ 32 := by omega
  have h2 : b.toNat < 2 ^ 32 := by omega
  have h3 : a.toNat ||| b.toNat < 2 ^ 32 := Nat.or_lt_two_pow h1 h2
  simp only [z10]
  rw [h, z92 ⟨by omega, by omega⟩]
theorem zfi {a b : Int} (ha : 0 <= a /\ a < 4294967296) (hb : 0 <= b /\ b < 4294967296) : z10 .xor .u32 a b = some (.int .u32 ((a.toNat ^^^ b.toNat : Nat) : Int)) := by
  have h : (BitVec.ofInt IntKind.u32.bits a ^^^ BitVec.ofInt IntKind.u32.bits b).toNat = a.toNat ^^^ b.toNat := by
    rw [BitVec.toNat_xor, BitVec.toNat_ofInt, BitVec.toNat_ofInt]
    simp only [IntKind.bits]
    rw [Int.emod_eq_of_lt (by omega) (by omega), Int.emod_eq_of_lt (by omega) (by omega)]
  have h1 : a.toNat < 2 ^ 32 := by omega
  have h2 : b.toNat < 2 ^ 32 := by omega
  have h3 : a.toNat ^^^ b.toNat < 2 ^ 32 := Nat.xor_lt_two_pow h1 h2
  simp only [z10]
  rw [h, z92 ⟨by omega, by omega⟩]
theorem zm0 {a b : Int} (ha : 0 <= a /\ a < 18446744073709551616) (hb : 0 <= b /\ b < 18446744073709551616) : z10 .and .u64 a b = some (.int .u64 ((a.toNat &&& b.toNat : Nat) : Int)) := by
  have h : (BitVec.ofInt IntKind.u64.bits a &&& BitVec.ofInt IntKind.u64.bits b).toNat = a.toNat &&& b.toNat := by
    rw [BitVec.toNat_and, BitVec.toNat_ofInt, BitVec.toNat_ofInt]
    simp only [IntKind.bits]
    rw [Int.emod_eq_of_lt (by omega) (by omega), Int.emod_eq_of_lt (by omega) (by omega)]
  have h1 : a.toNat < 2 ^ 64 := by omega
  have h2 : b.toNat < 2 ^ 64 := by omega
  have h3 : a.toNat &&& b.toNat < 2 ^ 64 := Nat.and_lt_two_pow _ h2
  simp only [z10]
  rw [h, zal ⟨by omega, by omega⟩]
theorem zm4 {a b : Int} (ha : 0 <= a /\ a < 18446744073709551616) (hb : 0 <= b /\ b < 18446744073709551616) : z10 .or .u64 a b = some (.int .u64 ((a.toNat ||| b.toNat : Nat) : Int)) := by
  have h : (BitVec.ofInt IntKind.u64.bits a ||| BitVec.ofInt IntKind.u64.bits b).toNat = a.toNat ||| b.toNat := by
    rw [BitVec.toNat_or, BitVec.toNat_ofInt, BitVec.toNat_ofInt]
    simp only [IntKind.bits]
    rw [Int.emod_eq_of_lt (by omega) (by omega), Int.emod_eq_of_lt (by omega) (by omega)]
  have h1 : a.toNat < 2 ^ 64 := by omega
  have h2 : b.toNat < 2 ^ 64 := by omega
  have h3 : a.toNat ||| b.toNat < 2 ^ 64 := Nat.or_lt_two_pow h1 h2
  simp only [z10]
  rw [h, zal ⟨by omega, by omega⟩]
theorem zm8 {a b : Int} (ha : 0 <= a /\ a < 18446744073709551616) (hb : 0 <= b /\ b < 18446744073709551616) : z10 .xor .u64 a b = some (.int .u64 ((a.toNat ^^^ b.toNat : Nat) : Int)) := by
  have h : (BitVec.ofInt IntKind.u64.bits a ^^^ BitVec.ofInt IntKind.u64.bits b).toNat = a.toNat ^^^ b.toNat := by
    rw [BitVec.toNat_xor, BitVec.toNat_ofInt, BitVec.toNat_ofInt]
    simp only [IntKind.bits]
    rw [Int.emod_eq_of_lt (by omega) (by omega), Int.emod_eq_of_lt (by omega) (by omega)]
  have h1 : a.toNat < 2 ^ 64 := by omega
  have h2 : b.toNat < 2 ^ 64 := by omega
  have h3 : a.toNat ^^^ b.toNat < 2 ^ 64 := Nat.xor_lt_two_pow h1 h2
  simp only [z10]
  rw [h, zal ⟨by omega, by omega⟩]
theorem zly {a b : Int} (ha : 0 <= a /\ a < 9223372036854775808) (hb : 0 <= b /\ b < 9223372036854775808) : z10 .and .i64 a b = some (.int .i64 ((a.toNat &&& b.toNat : Nat) : Int)) := by
  have h : (BitVec.ofInt IntKind.i64.bits a &&& BitVec.ofInt IntKind.i64.bits b).toNat = a.toNat &&& b.toNat := by
    rw [BitVec.toNat_and, BitVec.toNat_ofInt, BitVec.toNat_ofInt]
    simp only [IntKind.bits]
    rw [Int.emod_eq_of_lt (by omega) (by omega), Int.emod_eq_of_lt (by omega) (by omega)]
  have h1 : a.toNat < 2 ^ 63 := by omega
  have h2 : b.toNat < 2 ^ 63 := by omega
  have h3 : a.toNat &&& b.toNat < 2 ^ 63 := Nat.and_lt_two_pow _ h2
  simp only [z10]
  rw [h, zaj ⟨by omega, by omega⟩]
theorem zm2 {a b : Int} (ha : 0 <= a /\ a < 9223372036854775808) (hb : 0 <= b /\ b < 9223372036854775808) : z10 .or .i64 a b = some (.int .i64 ((a.toNat ||| b.toNat : Nat) : Int)) := by
  have h : (BitVec.ofInt IntKind.i64.bits a ||| BitVec.ofInt IntKind.i64.bits b).toNat = a.toNat ||| b.toNat := by
    rw [BitVec.toNat_or, BitVec.toNat_ofInt, BitVec.toNat_ofInt]
    simp only [IntKind.bits]
    rw [Int.emod_eq_of_lt (by omega) (by omega), Int.emod_eq_of_lt (by omega) (by omega)]
  have h1 : a.toNat < 2 ^ 63 := by omega
  have h2 : b.toNat < 2 ^ 63 := by omega
  have h3 : a.toNat ||| b.toNat < 2 ^ 63 := Nat.or_lt_two_pow h1 h2
  simp only [z10]
  rw [h, zaj ⟨by omega, by omega⟩]
theorem zm6 {a b : Int} (ha : 0 <= a /\ a < 9223372036854775808) (hb : 0 <= b /\ b < 9223372036854775808) : z10 .xor .i64 a b = some (.int .i64 ((a.toNat ^^^ b.toNat : Nat) : Int)) := by
  have h : (BitVec.ofInt IntKind.i64.bits a ^^^ BitVec.ofInt IntKind.i64.bits b).toNat = a.toNat ^^^ b.toNat := by
    rw [BitVec.toNat_xor, BitVec.toNat_ofInt, BitVec.toNat_ofInt]
    simp only [IntKind.bits]
    rw [Int.emod_eq_of_lt (by omega) (by omega), Int.emod_eq_of_lt (by omega) (by omega)]
  have h1 : a.toNat < 2 ^ 63 := by omega
  have h2 : b.toNat < 2 ^ 63 := by omega
  have h3 : a.toNat ^^^ b.toNat < 2 ^ 63 := Nat.xor_lt_two_pow h1 h2
  simp only [z10]
  rw [h, zaj ⟨by omega, by omega⟩]
theorem mask1 (a : Nat) : a &&& 1 = a % 2 := Nat.and_two_pow_sub_one_eq_mod a 1
theorem mask2 (a : Nat) : a &&& 3 = a % 4 := Nat.and_two_pow_sub_one_eq_mod a 2
theorem mask3 (a : Nat) : a &&& 7 = a % 8 := Nat.and_two_pow_sub_one_eq_mod a 3
theorem mask4 (a : Nat) : a &&& 15 = a % 16 := Nat.and_two_pow_sub_one_eq_mod a 4
theorem mask5 (a : Nat) : a &&& 31 = a % 32 := Nat.and_two_pow_sub_one_eq_mod a 5
theorem mask6 (a : Nat) : a &&& 63 = a % 64 := Nat.and_two_pow_sub_one_eq_mod a 6
theorem mask7 (a : Nat) : a &&& 127 = a % 128 := Nat.and_two_pow_sub_one_eq_mod a 7
theorem mask8 (a : Nat) : a &&& 255 = a % 256 := Nat.and_two_pow_sub_one_eq_mod a 8
theorem mask12 (a : Nat) : a &&& 4095 = a % 4096 := Nat.and_two_pow_sub_one_eq_mod a 12
theorem zmf (a b : Int) : (a == b) = decide (a = b) := by
  by_cases h : a = b <;> simp [h]
theorem zmg (a b : Int) : (a != b) = decide (¬ a = b) := by
  by_cases h : a = b <;> simp [h]
theorem zn6 (p : Prop) [Decidable p] : (!decide p) = decide (¬ p) := by simp
theorem zqi {a b : Int} (h : 0 <= a) : a.tdiv b = a / b := Int.tdiv_eq_ediv_of_nonneg h
theorem zqk {a b : Int} (h : 0 <= a) : a.tmod b = a % b := Int.tmod_eq_emod_of_nonneg h
theorem fdiv_pos {a b : Int} (h : 0 <= b) : a.fdiv b = a / b := Int.fdiv_eq_ediv_of_nonneg a h
theorem getQ {α : Type} (l : List α) (i : Nat) (d : α) (h : i < l.length) : l[i]? = some (l.getD i d) := by
  simp [List.getD_eq_getElem?_getD, List.getElem?_eq_getElem h]
theorem upd_b {d t : Nat} {v : AV} : upd O d v t = bif t == d then v else O t := by
  unfold upd
  by_cases h : t = d
  · simp [h]
  · have : (t == d) = false := by simpa using h
    rw [if_neg h, this]; rfl
theorem z4g {K : Env -> Store -> Prop} {O' : Env} {Y' : Store} : z38 K Y false (some (O', Y')) = K O' Y' := Eq.trans rfl rfl
theorem z4h {K : Env -> Store -> Prop} {O' : Env} {Y' : Store} : z38 K Y true (some (O', Y')) = (Y' = Y /\ K O' Y') := Eq.trans rfl rfl
section
variable {K : Hist -> Env -> Store -> Prop} {H : Hist} {d : Option Nat} {g : Option (Nat × Bool)} {op : AOp} {nd : Nd} {f : AX} {xs : List AX} {v : AV} {s : Store}
theorem z5m : zl K H ⟨d, g, .no, op⟩ O Y = z38 (K H) Y false (z24 ⟨d, g, .no, op⟩ O Y) := Eq.trans rfl rfl
theorem z5n : zl K H ⟨d, g, .same, op⟩ O Y = z38 (K H) Y true (z24 ⟨d, g, .same, op⟩ O Y) := Eq.trans rfl rfl
theorem zq4 : zl K H ⟨d, g, .rd, op⟩ O Y = rdW K H d op O Y (z1c O g) := Eq.trans rfl rfl
theorem zq2 : zl K H ⟨d, g, .ef, op⟩ O Y = efW K H d op O Y (z1c O g) := Eq.trans rfl rfl
theorem rdW_t : rdW K H d op O Y (some true) = rdC K H d op O Y (op.run O Y) := Eq.trans rfl rfl
theorem rdW_f : rdW K H d op O Y (some false) = K H (putE O d .undef) Y := Eq.trans rfl rfl
theorem efW_t : efW K H d op O Y (some true) = efC K H d O Y (op.run O Y) := Eq.trans rfl rfl
theorem efW_f : efW K H d op O Y (some false) = K H (putE O d .undef) Y := Eq.trans rfl rfl
theorem rdC_s : rdC K H d op O Y (some (v, s)) = (s = Y /\ (∀ h, H.pre h -> op.run O h = some (v, h)) /\ K ⟨H.pre, fun s => H.rds s /\ op.run O s = some (v, s), H.rd2⟩ (putE O d v) Y) := Eq.trans rfl rfl
theorem zq5 : zl K H ⟨d, g, .rd2, op⟩ O Y = rd2W K H d op O Y (z1c O g) := Eq.trans rfl rfl
theorem zq3 : zl K H ⟨d, g, .ef2, op⟩ O Y = ef2W K H d op O Y (z1c O g) := Eq.trans rfl rfl
theorem rd2W_t : rd2W K H d op O Y (some true) = rd2C K H d op O Y (op.run O Y) := Eq.trans rfl rfl
theorem rd2W_f : rd2W K H d op O Y (some false) = K H (putE O d .undef) Y := Eq.trans rfl rfl
theorem ef2W_t : ef2W K H d op O Y (some true) = ef2C K H d O Y (op.run O Y) := Eq.trans rfl rfl
theorem ef2W_f : ef2W K H d op O Y (some false) = K H (putE O d .undef) Y := Eq.trans rfl rfl
theorem rd2C_s : rd2C K H d op O Y (some (v, s)) = (s = Y /\ (∀ h, H.pre h -> op.run O h = some (v, h)) /\ K ⟨H.pre, fun s => H.rds s /\ op.run O s = some (v, s), fun s => H.rd2 s /\ op.run O s = some (v, s)⟩ (putE O d v) Y) := Eq.trans rfl rfl
theorem ef2C_s : ef2C K H d O Y (some (v, s)) = (H.rd2 s /\ K ⟨fun t => H.pre t \/ t = Y, H.rds, H.rd2⟩ (putE O d v) s) := Eq.trans rfl rfl
theorem zn4 {h : Store} : Hist.none.rd2 h = True := Eq.trans rfl rfl
theorem zpb {h : Store} : (Hist.same Y).rd2 h = (h = Y) := Eq.trans rfl rfl
theorem efC_s : efC K H d O Y (some (v, s)) = (H.rds s /\ K ⟨fun t => H.pre t \/ t = Y, H.rds, H.rd2⟩ (putE O d v) s) := Eq.trans rfl rfl
theorem z4f : z2b C K H O Y d nd f xs (some true) = callW C K H O d nd Y (f.ev O) (xs.map (AX.ev O)) := Eq.trans rfl rfl
theorem z4e : z2b C K H O Y d nd f xs (some false) = K H (putE O d .undef) Y := Eq.trans rfl rfl
theorem zmy {Y' : Store} : z2f .no H Y Y' = True := Eq.trans rfl rfl
theorem zmz {Y' : Store} : z2f .same H Y Y' = (Y' = Y) := Eq.trans rfl rfl
theorem zmx {Y' : Store} : z2f .ef H Y Y' = H.rds Y' := Eq.trans rfl rfl
theorem zmv : z43 .no H Y = H := Eq.trans rfl rfl
theorem zmw : z43 .same H Y = H := Eq.trans rfl rfl
theorem zmu : z43 .ef H Y = ⟨fun s => H.pre s \/ s = Y, H.rds, H.rd2⟩ := Eq.trans rfl rfl
theorem un_not {b : Bool} : aUn .not (.bool b) = some (.bool (!b)) := Eq.trans rfl rfl
theorem un_neg {k : IntKind} {n : Int} : aUn .neg (.int k n) = some (.int k (k.wrap (0 - n))) := Eq.trans rfl rfl
theorem un_xor {k : IntKind} {n : Int} : aUn .xor (.int k n) = some (.int k (k.wrap (BitVec.ofInt k.bits (if k.signed then -1 else k.max) ^^^ BitVec.ofInt k.bits n).toNat)) := Eq.trans rfl rfl
theorem rdS_s {s : Store} : rdS K d O Y (some (v, s)) = (s = Y /\ K (Hist.same Y) (putE O d v) Y) := Eq.trans rfl rfl
theorem zpa {h : Store} : (Hist.same Y).pre h = (h = Y) := Eq.trans rfl rfl
theorem zpc {h : Store} : (Hist.same Y).rds h = (h = Y) := Eq.trans rfl rfl
theorem zn3 {h : Store} : Hist.none.pre h = False := Eq.trans rfl rfl
theorem zn5 {h : Store} : Hist.none.rds h = True := Eq.trans rfl rfl
end
theorem zl1 {k : IntKind} {m : Int} {cells : List AV} {off : Nat} {rest : List (Nat × Nat × AV)} (h : off + 1 <= cells.length) : z15 cells ((off, 1, (.int k m)) :: rest) = z15 (z17 cells off [(.int k m)]) rest := by
  simp [z15, cellsOf, h]
theorem zl8 {s : List UInt8} {cells : List AV} {off : Nat} {rest : List (Nat × Nat × AV)} (h : off + 1 <= cells.length) : z15 cells ((off, 1, (.str s)) :: rest) = z15 (z17 cells off [(.str s)]) rest := by
  simp [z15, cellsOf, h]
theorem zkz {b : Bool} {cells : List AV} {off : Nat} {rest : List (Nat × Nat × AV)} (h : off + 1 <= cells.length) : z15 cells ((off, 1, (.bool b)) :: rest) = z15 (z17 cells off [(.bool b)]) rest := by
  simp [z15, cellsOf, h]
theorem zl6 {r i o : Nat} {cells : List AV} {off : Nat} {rest : List (Nat × Nat × AV)} (h : off + 1 <= cells.length) : z15 cells ((off, 1, (.ptr r i o)) :: rest) = z15 (z17 cells off [(.ptr r i o)]) rest := by
  simp [z15, cellsOf, h]
theorem zl4  {cells : List AV} {off : Nat} {rest : List (Nat × Nat × AV)} (h : off + 1 <= cells.length) : z15 cells ((off, 1, .nilp) :: rest) = z15 (z17 cells off [.nilp]) rest := by
  simp [z15, cellsOf, h]
theorem zl5  {cells : List AV} {off : Nat} {rest : List (Nat × Nat × AV)} (h : off + 1 <= cells.length) : z15 cells ((off, 1, .nilsl) :: rest) = z15 (z17 cells off [.nilsl]) rest := by
  simp [z15, cellsOf, h]
theorem zla {z : Nat} {es : List (List AV)} {x : Bool} {cells : List AV} {off : Nat} {rest : List (Nat × Nat × AV)} (h : off + 1 <= cells.length) : z15 cells ((off, 1, (.vsl z es x)) :: rest) = z15 (z17 cells off [(.vsl z es x)]) rest := by
  simp [z15, cellsOf, h]
theorem zl7 {r o len z : Nat} {lim : Option Nat} {cells : List AV} {off : Nat} {rest : List (Nat × Nat × AV)} (h : off + 1 <= cells.length) : z15 cells ((off, 1, (.sl r o len lim z)) :: rest) = z15 (z17 cells off [(.sl r o len lim z)]) rest := by
  simp [z15, cellsOf, h]
theorem zky {r i o len cap z : Nat} {cells : List AV} {off : Nat} {rest : List (Nat × Nat × AV)} (h : off + 1 <= cells.length) : z15 cells ((off, 1, (.asl r i o len cap z)) :: rest) = z15 (z17 cells off [(.asl r i o len cap z)]) rest := by
  simp [z15, cellsOf, h]
theorem zl9 {cs : List AV} {cells : List AV} {off : Nat} {rest : List (Nat × Nat × AV)} (h : off + 1 <= cells.length) : z15 cells ((off, 1, (.vp cs)) :: rest) = z15 (z17 cells off [(.vp cs)]) rest := by
  simp [z15, cellsOf, h]
theorem zl0 {f : FuncId} {caps : List AV} {cells : List AV} {off : Nat} {rest : List (Nat × Nat × AV)} (h : off + 1 <= cells.length) : z15 cells ((off, 1, (.fn f caps)) :: rest) = z15 (z17 cells off [(.fn f caps)]) rest := by
  simp [z15, cellsOf, h]
theorem zl3  {cells : List AV} {off : Nat} {rest : List (Nat × Nat × AV)} (h : off + 1 <= cells.length) : z15 cells ((off, 1, .nilfn) :: rest) = z15 (z17 cells off [.nilfn]) rest := by
  simp [z15, cellsOf, h]
theorem zkx {cs cells : List AV} {off n : Nat} {rest : List (Nat × Nat × AV)} (h0 : cs.length = n) (h : off + n <= cells.length) : z15 cells ((off, n, .agg cs) :: rest) = z15 (z17 cells off cs) rest := by
  simp [z15, cellsOf, h0, h]
theorem appB_n {ys : List (List AV)} : z3w Y .nilsl ys = aApp Y 1 .nilsl ys := rfl
theorem appB_v {esz : Nat} {es ys : List (List AV)} {ex : Bool} : z3w Y (.vsl esz es ex) ys = aApp Y 1 (.vsl esz es ex) ys := rfl
theorem appB_s {r off len esz : Nat} {lim : Option Nat} {ys : List (List AV)} : z3w Y (.sl r off len lim esz) ys = aApp Y 1 (.sl r off len lim esz) ys := rfl
theorem zj4 {ys : List (List AV)} : z3w Y .bnil ys = if ys.length ≠ 0 /\ ys.length <= 1073741824 then some (.bsl Y.length ys.length, Y ++ [some ys]) else none := rfl
theorem zj5 {r len : Nat} {ys : List (List AV)} : z3w Y (.bsl r len) ys = match Y[r]? with
    | some (some o) => if ys.length ≠ 0 /\ o.length = len /\ len + ys.length <= 1073741824 then some (.bsl Y.length (len + ys.length), Y.set r none ++ [some (o ++ ys)]) else none
    | _ => none := rfl
theorem zar {sz : Nat} {ys : List (List AV)} : aApp Y sz .nilsl ys = if ys.length = 0 then (z23 Y .nilsl).map fun _ => (.nilsl, Y) else if ys.length <= 1073741824 then some (.sl Y.length 0 ys.length none sz, Y ++ [some ys]) else none := Eq.trans rfl rfl
theorem z7u {sz esz : Nat} {es ys : List (List AV)} {ex : Bool} : aApp Y sz (.vsl esz es ex) ys = if ys.length = 0 then (z23 Y (.vsl esz es ex)).map fun _ => (.vsl esz es ex, Y) else if ex = true /\ esz = sz /\ es.length + ys.length <= 1073741824 then some (.sl Y.length 0 (es.length + ys.length) none sz, Y ++ [some (es ++ ys)]) else none := Eq.trans rfl rfl
theorem z9i {sz r off len esz : Nat} {lim : Option Nat} {ys : List (List AV)} : aApp Y sz (.sl r off len lim esz) ys = if ys.length = 0 then (z23 Y (.sl r off len lim esz)).map fun _ => (.sl r off len lim esz, Y) else match Y[r]? with
    | some (some o) => if esz = sz /\ off + len <= o.length /\ len + ys.length <= 1073741824 then
        (match lim with
         | none => if off + len + ys.length <= o.length then some (.sl r off (len + ys.length) none esz, Y.set r (some (o.take (off + len) ++ ys ++ o.drop (off + len + ys.length))))
             else some (.sl Y.length 0 (len + ys.length) none sz, Y.set r none ++ [some ((o.drop off).take len ++ ys)])
         | some c => if len + ys.length <= c then (if off + len + ys.length <= o.length then some (.sl r off (len + ys.length) (some c) esz, Y.set r (some (o.take (off + len) ++ ys ++ o.drop (off + len + ys.length)))) else none)
             else some (.sl Y.length 0 (len + ys.length) none sz, Y ++ [some ((o.drop off).take len ++ ys)])) else none
    | _ => none := Eq.trans rfl rfl
theorem zl2 {cells : List AV} : z15 cells [] = some cells := rfl
theorem zo3 {c : AV} {cs vs : List AV} {n : Nat} : z17 (c :: cs) (n + 1) vs = c :: z17 cs n vs := by
  have e : n + 1 + vs.length = (n + vs.length) + 1 := by omega
  simp [z17, e]
theorem zo6 {c v : AV} {cs vs : List AV} : z17 (c :: cs) 0 (v :: vs) = v :: z17 cs 0 vs := by
  simp [z17]
theorem zo1 {cs : List AV} : z17 cs 0 [] = cs := by simp [z17]
theorem zo5 {cs vs : List AV} {n : Nat} : z17 cs n vs = cs.take n ++ vs ++ cs.drop (n + vs.length) := Eq.trans rfl rfl
theorem overw1 {c v : AV} : z17 [c] 0 [v] = [v] := by simp [z17]
theorem z13 (s : List UInt8) : (zh s).length = s.length := by simp [zh]
theorem z7z {s : List UInt8} {i : Nat} (h : i < s.length) : (zh s)[i]? = some [.int .u8 (s.getD i 0).toNat] := by
  simp [zh, B8, List.getD_eq_getElem?_getD, List.getElem?_eq_getElem h]
theorem zjs {s : List UInt8} {i : Nat} {n : Int} (h : 0 <= n /\ n < 256) : (zh s).set i [.int .u8 n] = zh (s.set i (UInt8.ofNat n.toNat)) := by
  have e : ((n.toNat % 256 : Nat) : Int) = n := by omega
  simp [zh, B8, List.map_set, e]
theorem zjr (n : Nat) : List.replicate n [AV.int .u8 0] = zh (List.replicate n 0) := by simp [zh, B8]
theorem zf3 {s : List UInt8} {i : Nat} (h : i < s.length) : s[i]? = some (s.getD i 0) := getQ s i 0 h
theorem zaa {r off len esz : Nat} {lim : Option Nat} : z23 Y (.sl r off len lim esz) = match Y[r]? with | some (some o) => if off + len <= o.length then some ((o.drop off).take len) else none | _ => none := Eq.trans rfl rfl
theorem z4j {k : IntKind} {a b : Int} (h : a = b) : AV.int k a = AV.int k b := by rw [h]
theorem str_eq {a b : List UInt8} (h : a = b) : AV.str a = AV.str b := by rw [h]
theorem wm_u8 {n : Int} : IntKind.u8.wrap n = n % 256 := by simp [IntKind.wrap, IntKind.signed, IntKind.bits]
theorem wm_u16 {n : Int} : IntKind.u16.wrap n = n % 65536 := by simp [IntKind.wrap, IntKind.signed, IntKind.bits]
theorem z93 {n : Int} : IntKind.u32.wrap n = n % 4294967296 := by simp [IntKind.wrap, IntKind.signed, IntKind.bits]
theorem wm_u64 {n : Int} : IntKind.u64.wrap n = n % 18446744073709551616 := by simp [IntKind.wrap, IntKind.signed, IntKind.bits]
theorem zjt {s : List UInt8} {i : Nat} : (zh s).take i = zh (s.take i) := by simp [zh, List.map_take]
theorem zjq {s : List UInt8} {i : Nat} : (zh s).drop i = zh (s.drop i) := by simp [zh, List.map_drop]
theorem ze6 {s t : List UInt8} : zh s ++ zh t = zh (s ++ t) := by simp [zh]
theorem zqd {cs : List AV} {off n : Nat} : z2w cs off n false = cs[off]? := Eq.trans rfl rfl
theorem zqe {cs : List AV} {off n : Nat} : z2w cs off n true = if off + n <= cs.length then some (.agg ((cs.drop off).take n)) else none := Eq.trans rfl rfl
/-! Guards. -/
def gv (v : AV) (b : Bool) : Option Bool := match v with
  | .bool x => some (x == b)
  | .undef => some false
  | _ => none
def insG (g : Option Bool) (d : Option Nat) (op : AOp) (O : Env) (Y : Store) : Option (Env × Store) := match g with
  | some true => (op.run O Y).map fun r => (putE O d r.1, r.2)
  | some false => some (putE O d .undef, Y)
  | none => none
theorem zmc {d : Option Nat} {nd : Nd} {op : AOp} : z24 ⟨d, none, nd, op⟩ O Y = (op.run O Y).map fun r => (putE O d r.1, r.2) := rfl
theorem zmd {d : Option Nat} {nd : Nd} {b : Bool} {s : Nat} {op : AOp} : z24 ⟨d, some (s, b), nd, op⟩ O Y = insG (gv (O s) b) d op O Y := rfl
theorem zlg : z1c O none = some true := rfl
theorem zlh {s : Nat} {b : Bool} : z1c O (some (s, b)) = gv (O s) b := rfl
theorem gv_tt : gv (.bool true) true = some true := rfl
theorem gv_tf : gv (.bool true) false = some false := rfl
theorem gv_ft : gv (.bool false) true = some false := rfl
theorem gv_ff : gv (.bool false) false = some true := rfl
theorem zli {b : Bool} : gv .undef b = some false := rfl
theorem insG_t {d : Option Nat} {op : AOp} : insG (some true) d op O Y = (op.run O Y).map fun r => (putE O d r.1, r.2) := rfl
theorem insG_f {d : Option Nat} {op : AOp} : insG (some false) d op O Y = some (putE O d .undef, Y) := rfl
section
variable {K : Hist -> Env -> Store -> Prop} {K1 : Env -> Store -> Prop} {H : Hist} {d : Option Nat} {op : AOp} {nd : Nd} {b x m : Bool} {P : Prop} {f : AX} {xs : List AX}
theorem zg0 [hd : Decidable P] (h1 : P -> z38 K1 Y m (insG (gv (.bool true) b) d op O Y)) (h2 : ¬ P -> z38 K1 Y m (insG (gv (.bool false) b) d op O Y)) : z38 K1 Y m (insG (gv (.bool (@decide P hd)) b) d op O Y) := by
  by_cases h : P
  · simpa [h] using h1 h
  · simpa [h] using h2 h
theorem zg1 (h1 : x = true -> z38 K1 Y m (insG (gv (.bool true) b) d op O Y)) (h2 : x = false -> z38 K1 Y m (insG (gv (.bool false) b) d op O Y)) : z38 K1 Y m (insG (gv (.bool x) b) d op O Y) := by
  cases x
  · exact h2 rfl
  · exact h1 rfl
theorem zg2 [hd : Decidable P] (h1 : P -> rdW K H d op O Y (gv (.bool true) b)) (h2 : ¬ P -> rdW K H d op O Y (gv (.bool false) b)) : rdW K H d op O Y (gv (.bool (@decide P hd)) b) := by
  by_cases h : P
  · simpa [h] using h1 h
  · simpa [h] using h2 h
theorem zg3 (h1 : x = true -> rdW K H d op O Y (gv (.bool true) b)) (h2 : x = false -> rdW K H d op O Y (gv (.bool false) b)) : rdW K H d op O Y (gv (.bool x) b) := by
  cases x
  · exact h2 rfl
  · exact h1 rfl
theorem zg4 [hd : Decidable P] (h1 : P -> efW K H d op O Y (gv (.bool true) b)) (h2 : ¬ P -> efW K H d op O Y (gv (.bool false) b)) : efW K H d op O Y (gv (.bool (@decide P hd)) b) := by
  by_cases h : P
  · simpa [h] using h1 h
  · simpa [h] using h2 h
theorem zg5 (h1 : x = true -> efW K H d op O Y (gv (.bool true) b)) (h2 : x = false -> efW K H d op O Y (gv (.bool false) b)) : efW K H d op O Y (gv (.bool x) b) := by
  cases x
  · exact h2 rfl
  · exact h1 rfl
theorem zg6 [hd : Decidable P] (h1 : P -> z2b C K H O Y d nd f xs (gv (.bool true) b)) (h2 : ¬ P -> z2b C K H O Y d nd f xs (gv (.bool false) b)) : z2b C K H O Y d nd f xs (gv (.bool (@decide P hd)) b) := by
  by_cases h : P
  · simpa [h] using h1 h
  · simpa [h] using h2 h
theorem zg7 (h1 : x = true -> z2b C K H O Y d nd f xs (gv (.bool true) b)) (h2 : x = false -> z2b C K H O Y d nd f xs (gv (.bool false) b)) : z2b C K H O Y d nd f xs (gv (.bool x) b) := by
  cases x
  · exact h2 rfl
  · exact h1 rfl
end
end
attribute [go_sem] z4l z3j z4g z4h z5m z5n zq4 zq2 rdW_t rdW_f efW_t efW_f rdC_s efC_s zq5 zq3 rd2W_t rd2W_f ef2W_t ef2W_f rd2C_s ef2C_s zn4 zpb z4f z4e zmy zmz zmx zmv zmw zmu zn3 zn5 false_or or_imp forall_and forall_eq false_implies implies_true zmc zmd zlg zlh gv_tt gv_tf gv_ft gv_ff zli insG_t insG_f AOp.run AX.ev putE upd_b cond_true cond_false z27 Option.map_some Option.bind_some Option.map_none rBin rEq z2v eqOp aMin z2r z2l z3q z3p z30 rFa rFld z3n z3o z1k z2z
  z29 blkQ endQ endP retV oks Bool.and_true Bool.true_and RV.val RV.ok Option.getD_some Option.isSome_some List.map_cons List.map_nil List.getD_cons_zero List.getD_cons_succ List.getD_nil if_true if_false ite_true ite_false reduceCtorEq Bool.false_eq_true Bool.true_eq_false beq_true beq_false Bool.not_true Bool.not_false BEq.rfl beq_self_eq_true
  List.nil_append List.cons_append List.append_nil
  oj_mv znv znc znb znd oj_box zne oj_lit znq znx znu oj_bin oj_un znh znt znr znw oj_fa oj_fld znj znk znl znm oj_ext znp zno znn oj_app zni zng zns oj_nil znf
  z5c z5e z4n zo7 zo8 aBld appB_n appB_v appB_s zj4 zj5 z4q z4r z57 z58 z5g z5d z4p z5h z4t z5b z59 z5f z4w z4x z4y z4z z50 z52 z4v z56 z55 z54 z4o z4u z4s z5a
  getElem?_app getElem?_app0 z49 z5j
  shr_u8 shl_u8 zpp zpm zh9 zh7 zpq zpn zpo zpl zff ib_sub ib_mul ib_quo ib_rem ib_eql ib_neq ib_lss ib_leq ib_gtr ib_geq zm1 zm5 zm9 zlz zm3 zm7 zfg zfh zfi zm0 zm4 zm8 zly zm2 zm6 mask1 mask2 mask3 mask4 mask5 mask6 mask7 mask8 mask12
  cellsOf z23 z3s z2j z80 zju z9b z9a bnd z9e z9f z9d z68 knownN zar z7u z9i aBox rCopy zc7 List.length_cons List.length_nil Option.bind_none overw1 zo3 zo6 zo1 z13 z7z zjs zjr zjt zjq ze6 zf3
  List.getElem?_cons_zero List.getElem?_cons_succ List.set_cons_zero List.set_cons_succ List.drop_zero Nat.add_zero Nat.zero_add
  zqd zqe List.drop_succ_cons List.take_succ_cons List.take_zero Nat.zero_mul Nat.mul_one true_and and_true eq_self List.take_of_length_le
  zaj zal z92 zak w_u8 zmf zmg zn6 zqi zqk if_pos if_neg decide_eq_true decide_eq_false Int.toNat_natCast
attribute [go_sem low] un_xor zo5
/-- Slots that are kept in mind. -/
def z9h (O' O : Env) : List Nat -> Prop
  | [] => True
  | j :: l => O' j = O j /\ z9h O' O l
theorem zdy (O : Env) : ∀ l, z9h O O l
  | [] => trivial
  | _ :: l => ⟨rfl, zdy O l⟩
theorem zW.slots {C : Ctx} {n k : Nat} {ac : ACode} {Q : AExit -> Env -> Store -> Prop} {O : Env} {Y : Store} (l : List Nat) (h : ∀ O', z9h O' O l -> zW C n k ac Q O' Y) : zW C n k ac Q O Y := h O (zdy O l)
attribute [go_sem] zl1 zl8 zkz zl6 zl4 zl5 zla zl7 zky zl9 zl0 zl3 zkx zl2 z9h un_not un_neg rdS_s zpa zpc
attribute [go_sem high] zon zkq zn0 zn2
attribute [go_sem low] wm_u8 wm_u16 z93 wm_u64
end Am
end Go.Proofs.YtjgljhbmljgaeaaDoor
end
section
/- THE ABSTRACT MACHINE, part 27: the store as_ a heap: what is read behind writes; methods told by properties. -/
namespace Go.Proofs.YtjgljhbmljgaeaaDoor
namespace Am
section
variable {α : Type} {l m : List α} {r s : Nat} {x : α}
theorem z2d (h : r < l.length) : (l.set r x)[r]? = some x := List.getElem?_set_self h
theorem z18 (h : r ≠ s) : (l.set r x)[s]? = l[s]? := List.getElem?_set_ne h
theorem gapp (h : r < l.length) : (l ++ m)[r]? = l[r]? := List.getElem?_append_left h
theorem z1n (h : l.length <= r) : (l ++ m)[r]? = m[r - l.length]? := List.getElem?_append_right h
theorem sappr (h : l.length <= r) : (l ++ m).set r x = l ++ m.set (r - l.length) x := List.set_append_right _ _ h
theorem sapp (h : r < l.length) : (l ++ m).set r x = l.set r x ++ m := List.set_append_left _ _ h
end
/-- What holds at a function's end, with nothing let go. -/
def z9y (ts : List RV) (P : AV -> Store -> Prop) : AExit -> Env -> Store -> Prop
  | .exit _ => fun _ _ => False
  | _ => fun O Y => oks O Y ts = true /\ P (retV ts O Y) Y
theorem ACallsP.of_keep {C : Ctx} {f : FuncId} {n : Nat} {ts : List RV} {ac : ACode} (hc : cFn C f = some (n, ts, ac)) {args : List AV} {Y : Store} {P : AV -> Store -> Prop} (hn : args.length <= n)
    (h : zW C n Y.length ac (z9y ts P) (z27 args) Y) : ACallsP C f args Y P := by
  simp only [cFn, Option.bind_eq_some_iff] at hc
  obtain ⟨fn, hf, hc⟩ := hc
  split at hc
  · cases hc
  · rename_i hname
    simp only [Option.bind_eq_some_iff, Option.map_eq_some_iff, Prod.mk.injEq] at hc
    obtain ⟨c, hb, ts', hts, ac', hac, rfl, rfl, rfl⟩ := hc
    intro J w cargs hR ha
    left
    constructor
    · have hname' : (fn.name == "runtime.NumGoroutine") = false := by simpa using hname
      have h1 : fn.name ≠ "runtime.NumGoroutine" := by simpa using hname'
      simp [callFunc, hf, h1, hb]
    · have hl := ha.length
      refine calls_of_wp hf hb ?_
      have hw := h c hac J w hR.gl hR.len J { tmps := cargs.toArray ++ Array.replicate (fn.ntmps - cargs.toArray.size) undef, defers := [] } w (Step.refl _ _) hR
        (z8j ha _) (by simp; omega)
      refine wp_mono hw ?_
      rintro e a' w' ⟨ae, O', Y2, J', rfl, hq, q1, q2, q3, q4, q5⟩
      have fin : (oks O' Y2 ts' = true /\ P (retV ts' O' Y2) Y2) -> a'.defers = [] /\ ∃ v_1, (results fn a'.tmps).run C.P w' = .ok v_1 w' /\ ∃ cv v J' Y', Ending.returned v_1 = .returned cv /\ P v Y' /\ Step J w J' w' /\ Rel C J' Y' w' /\ VR J' w' v cv := by
        rintro ⟨hk, hp⟩
        obtain ⟨rv, r1, r2⟩ := z7a q2 q3 hts hk
        exact ⟨q4, _, r1, _, _, J', Y2, rfl, hp, q1, q2, r2⟩
      cases ae with
      | normal => exact fin hq
      | exit id => exact hq.elim
      | ret => exact fin hq
attribute [go_sem] z2d z18 gapp z9y z41 not_true_eq_false not_false_eq_true decide_false decide_true List.set_set List.append_assoc z1n sapp sappr List.length_set Nat.sub_self Nat.add_sub_cancel_left List.length_append List.length_map
@[go_sem] def zZ0 : List AV := [.int .u8 0, .int .u8 0, .int .u8 0, .int .u8 0, .int .u8 0, .int .u8 0, .int .u8 0, .int .u8 0, .int .u8 0, .int .u8 0, .int .u8 0, .int .u8 0, .int .u8 0, .int .u8 0, .int .u8 0, .int .u8 0, .int .u8 0, .int .u8 0, .int .u8 0, .int .u8 0, .int .u8 0, .int .u8 0, .int .u8 0, .int .u8 0, .int .u8 0, .int .u8 0, .int .u8 0, .int .u8 0, .int .u8 0, .int .u8 0, .int .u8 0, .int .u8 0]
end Am
end Go.Proofs.YtjgljhbmljgaeaaDoor
end
section
/- THE ABSTRACT MACHINE, part 28: package-level tables that are laid: what a law's row says of them, as_ the machine's own knowledge. -/
namespace Go.Proofs.YtjgljhbmljgaeaaDoor
namespace Am
open Go.ChangeShapes Go.WideShapes Go.ChangeAt Go.RowKit
section
variable {H : Type} {enc : TypeId × Value -> H} {P : Program} {w : World}
/-- An array of numbers, by its datum. -/
theorem zmh {base : Nat} {spare : Nat -> Bool} {held : Bool} {fuel : Nat} {t e : TypeId} {n : Nat} {k : IntKind} {cs : List Value} {p : List MemPlace} (ns : List Int)
    (ht : P.underlying t = some (.array n e)) (he : P.underlying e = some (.int k)) (hc : P.cellsOf e = 1) (hct : P.cellsOf t = n)
    (h : DataW.trod enc P w base spare held fuel t cs = some (.agg (ns.map fun i => .lit (.int k i)), p)) : cs = ns.map (Value.int k) := by
  obtain ⟨xs, m, rfl, hx, hl, hn, hel⟩ := DataW.trod_array ht h
  simp only [Prod.mk.injEq, DataW.agg.injEq] at hx
  have hx1 := hx.1
  have hlen : ns.length = n := by
    have := congrArg List.length hx1
    simp only [List.length_map] at this
    omega
  rw [hct] at hl
  refine List.ext_getElem? fun i => ?_
  by_cases hi : i < n
  · have h1 := hel i hi
    rw [hc, Nat.mul_one] at h1
    obtain ⟨x, hxi⟩ : ∃ x, xs[i]? = some x := ⟨xs[i]'(by omega), List.getElem?_eq_getElem (by omega)⟩
    rw [hxi] at h1
    obtain ⟨v, e1, e2, _⟩ := DataW.trod_int he h1
    subst e2
    have h2 := congrArg (fun l => l[i]?) hx1
    simp only [List.getElem?_map, hxi, Option.map_some] at h2
    rw [List.getElem?_map]
    cases hns : ns[i]? with
    | none => rw [hns] at h2; simp at h2
    | some z =>
      rw [hns] at h2
      simp only [Option.map_some, Option.some.injEq, DataW.lit.injEq, Lit.int.injEq, true_and] at h2
      subst h2
      have h3 := congrArg (fun l => l[0]?) e1
      simp only [List.getElem?_take, List.getElem?_drop] at h3
      simpa using h3
  · rw [List.getElem?_eq_none (by omega), List.getElem?_eq_none (by simp; omega)]
theorem zpe {n : String} {g : Nat} {cs : Array Value} (hg : P.globalNamed n = some g) (h : w.var? P n = some cs) : Imm [] w g /\ Seg w g 0 cs.toList := by
  unfold World.var? at h
  rw [hg, Option.bind_some] at h
  split at h
  · rename_i c ty fz hb
    simp only [Option.some.injEq] at h; subst h
    refine ⟨⟨?_, by simp⟩, c, ty, fz, [], [], hb, by simp, rfl⟩
    rcases Nat.lt_or_ge g w.heap.size with h2 | h2
    · exact h2
    · simp [Array.getElem?_eq_none h2] at hb
  · cases h
def u32C (ns : List Int) : List AV := ns.map (AV.int .u32)
theorem zdp {J : Places} {k : IntKind} : ∀ (ns : List Int), VRs J w (ns.map (AV.int k)) (ns.map (Value.int k))
  | [] => VRs.nil
  | _ :: ns => VRs.cons ⟨VR.int, rfl⟩ (zdp ns)
/-- A laid table of numbers, as_ the machine knows it. -/
theorem vp_of_var {n : String} {g : Nat} {t e : TypeId} {m : Nat} {k : IntKind} {g' : Nat} {t' : TypeId} {cs : Array Value} {fuel : Nat} {p : List MemPlace} (ns : List Int)
    (hg : P.globalNamed n = some g) (htg : (P.globals[g]?).map (·.type) = some t) (ht : P.underlying t = some (.array m e)) (he : P.underlying e = some (.int k)) (hc : P.cellsOf e = 1) (hct : P.cellsOf t = m)
    (k1 : P.globalNamed n = some g') (k2 : (P.globals[g']?).map (·.type) = some t') (k3 : w.var? P n = some cs)
    (k4 : DataW.trod enc P w 0 (fun _ => true) false fuel t' cs.toList = some (.agg (ns.map fun i => .lit (.int k i)), p)) : VR [] w (.vp (ns.map (AV.int k))) (.pointer (some ⟨g, 0, none⟩)) := by
  obtain rfl := Option.some.inj (hg.symm.trans k1)
  obtain rfl := Option.some.inj (htg.symm.trans k2)
  obtain ⟨h1, h2⟩ := zpe hg k3
  rw [zmh ns ht he hc hct k4] at h2
  exact ⟨g, 0, _, rfl, h1, h2, zdp ns⟩
theorem law_contract_at {C : Ctx} {f : FuncId} {fn : Func} {e : Nat × List RV × ACode} (hc : cFn C f = some e) {d : Nat} {tys : List Ty} (htys : z7i C.P d fn.params.toList = some tys)
    (hlaw : ∀ avs, z6o tys avs -> ACallsTo C f avs [] (.bool true) []) {s : ChangeSpec} (hvars : s.vars = [])
    (hspec : ∀ ds : List (DataW H), ds.length = fn.params.toList.length -> (s.fn H ds).results = [.lit (.bool true)] /\ (s.fn H ds).args = ds /\ (s.fn H ds).vars = []) {tb : TypeId} (hres : fn.resultTypes = #[tb]) (htb : C.P.underlying tb = some .bool)
    (hl : laidOutB C.P = true) (hpar : (fn.params.toList.all fun t => C.P.readableRec t && decide (t < C.P.types.size)) = true)
    {W : World} (hR : Rel C [] [] W) {base : Nat} {args : Array Value} {ds gs : List (DataW H)} {before : List MemPlace} (hval : ∀ (j : Nat) t v, fn.params[j]? = some t -> args[j]? = some v -> Value.okWide C.P W .any base t v)
    (hW : DataW.Whole enc C.P fn.params.toList s.vars false W args.toList ds gs before) :
    Calls C.P f args W fun e W' => ∃ v, e = .returned v /\ s.post enc C.P fn false true false false W args v W' := by
  have hW' := hW
  obtain ⟨p, q, hA, hV, rfl, hfz, hnd⟩ := hW
  obtain ⟨avs, h1, h2⟩ := zby (r := .any) (b0 := base) htys (fun j t v hj hv => hval j t v (by simpa using hj) (by simpa using hv)) hA
  have hcall := (hlaw avs h2).calls hc hR h1
  have ea : args.toList.toArray = args := by simp
  rw [ea] at hcall
  refine hcall.mono ?_
  rintro x w' ⟨rfl, hb⟩
  refine ⟨_, rfl, zfn hW' hvars (fun gs hgs => ?_) hres htb hl hpar hb⟩
  subst hgs
  rw [List.append_nil]
  exact hspec ds (zdb hA)
end
end Am
end Go.Proofs.YtjgljhbmljgaeaaDoor
end
section
/- The seat's program, for the abstract machine. -/
namespace Go.Proofs.YtjgljhbmljgaeaaDoor
namespace Am
def shaFirst : List Int := [1779033703, 3144134277, 1013904242, 2773480762, 1359893119, 2600822924, 528734635, 1541459225]
def shaRounds : List Int := [1116352408, 1899447441, 3049323471, 3921009573, 961987163, 1508970993, 2453635748, 2870763221, 3624381080, 310598401, 607225278, 1426881987, 1925078388, 2162078206, 2614888103, 3248222580, 3835390401, 4022224774, 264347078, 604807628, 770255983, 1249150122, 1555081692, 1996064986, 2554220882, 2821834349, 2952996808, 3210313671, 3336571891, 3584528711, 113926993, 338241895, 666307205, 773529912, 1294757372, 1396182291, 1695183700, 1986661051, 2177026350, 2456956037, 2730485921, 2820302411, 3259730800, 3345764771, 3516065817, 3600352804, 4094571909, 275423344, 430227734, 506948616, 659060556, 883997877, 958139571, 1322822218, 1537002063, 1747873779, 1955562222, 2024104815, 2227730452, 2361852424, 2428436474, 2756734187, 3204031479, 3329325298]
def zbe : List AV := shaFirst.map (AV.int .u32)
def gl_sha_rounds : List AV := shaRounds.map (AV.int .u32)
noncomputable def TC : Ctx := ⟨Tryd.prog, fun g => if g = 0 then some zbe else if g = 1 then some gl_sha_rounds else none⟩
theorem zca {k : Nat} {i : IntKind} : ∀ (l : List Int), RLs k (l.map (AV.int i))
  | [] => by simp [RLs]
  | _ :: l => by simp [RLs, RL]; exact zca l
theorem glok : GlOK TC := by
  intro g cs h
  simp only [TC] at h
  split at h
  · cases h; exact zca _
  · split at h
    · cases h; exact zca _
    · cases h
end Am
end Go.Proofs.YtjgljhbmljgaeaaDoor
end
section
/- slices.Backward over hashes: its iterator, walked once. -/
namespace Go.Proofs
open Go.RowKit Go.Shelf
attribute [local go_sem] Oper.semAt_some
end Go.Proofs
end
section
/- A range over slices.Backward of hashes. -/
namespace Go.Proofs.YtjgljhbmljgaeaaDoor
namespace Am
open Go.RowKit
end Am
end Go.Proofs.YtjgljhbmljgaeaaDoor
end
section
/- The abstract code of the functions on bits. (Printed by wip/gen.) -/
namespace Go.Proofs.YtjgljhbmljgaeaaDoor
namespace Am
@[go_sem] def q0r0 : List AIns := [
  ⟨some 4,none,.no,.mv (.v (.str []))⟩]
@[go_sem] def q0r1 : List AIns := [
  ⟨some 7,none,.no,.mv (.t 1)⟩,
  ⟨some 8,none,.no,.bin .lss .none (.t 7) (.v (.int .i64 1))⟩,
  ⟨some 9,none,.no,.mv (.t 8)⟩,
  ⟨some 10, some (9, false), .no, .mv (.t 1)⟩,
  ⟨some 11, some (9, false), .no, .bin .gtr .none (.t 10) (.v (.int .i64 8))⟩,
  ⟨some 12,none,.no,.pick (.t 9) (.v (.bool true)) (.t 11)⟩]
@[go_sem] def q0r2 : List AIns := [
  ⟨some 4,none,.no,.mv (.v (.str []))⟩]
def q0c3 : ACode := .seq (.reg q0r2) .ret
def q0c4 : ACode := .cond (.t 12) q0c3 .skip
def q0c5 : ACode := .seq (.reg q0r1) q0c4
@[go_sem] def q0r6 : List AIns := [
  ⟨some 13,none,.no,.mv (.t 1)⟩,
  ⟨some 14,none,.no,.make 1 [(.int .u8 0)] (.t 13) (.t 13)⟩,
  ⟨some 5,none,.no,.mv (.t 14)⟩]
@[go_sem] def q0r7 : List AIns := [
  ⟨some 15,none,.no,.mv (.t 1)⟩,
  ⟨some 16,none,.no,.mv (.v (.int .i64 0))⟩]
@[go_sem] def q0r8 : List AIns := [
  ⟨some 17,none,.no,.bin .lss .none (.t 16) (.t 15)⟩]
@[go_sem] def q0r9 : List AIns := [
  ⟨some 18,none,.no,.mv (.t 16)⟩,
  ⟨some 6,none,.no,.mv (.t 18)⟩]
@[go_sem] def q0r10 : List AIns := [
  ⟨some 19,none,.no,.mv (.t 5)⟩,
  ⟨some 20,none,.no,.mv (.t 1)⟩,
  ⟨some 21,none,.no,.bin .sub .none (.t 20) (.v (.int .i64 1))⟩,
  ⟨some 22,none,.no,.mv (.t 6)⟩,
  ⟨some 23,none,.no,.bin .sub .none (.t 21) (.t 22)⟩,
  ⟨some 24,none,.no,.mv (.t 0)⟩,
  ⟨some 25,none,.no,.conv (.int .u8) (.t 24)⟩,
  ⟨some 26,none,.no,.iaSl 1 (.t 19) (.t 23)⟩,
  ⟨none,none,.no,.store 1 (.t 26) (.t 25)⟩]
@[go_sem] def q0r11 : List AIns := [
  ⟨some 27,none,.no,.mv (.t 0)⟩,
  ⟨some 28,none,.no,.bin .shr .none (.t 27) (.v (.int .u64 8))⟩,
  ⟨some 0,none,.no,.mv (.t 28)⟩]
def q0c12 : ACode := .seq (.reg q0r10) (.reg q0r11)
def q0c13 : ACode := .seq (.reg q0r9) q0c12
@[go_sem] def q0r14 : List AIns := [
  ⟨some 29,none,.no,.bin .add .none (.t 16) (.v (.int .i64 1))⟩,
  ⟨some 16,none,.no,.mv (.t 29)⟩]
def q0c15 : ACode := .seq (.block 1 q0c13) (.reg q0r14)
def q0c16 : ACode := .seq (.cond (.t 17) .skip (.exit 0)) q0c15
def q0c17 : ACode := .seq (.reg q0r8) q0c16
def q0c18 : ACode := .loop q0c17
def q0c19 : ACode := .block 0 q0c18
def q0c20 : ACode := .seq (.reg q0r7) q0c19
@[go_sem] def q0r21 : List AIns := [
  ⟨some 30,none,.no,.mv (.t 5)⟩,
  ⟨some 31,none,.no,.conv .str (.t 30)⟩,
  ⟨some 4,none,.no,.mv (.t 31)⟩]
def q0c22 : ACode := .seq (.reg q0r21) .ret
def q0c23 : ACode := .seq q0c20 q0c22
def q0c24 : ACode := .seq (.reg q0r6) q0c23
def q0c25 : ACode := .seq q0c5 q0c24
def q0c26 : ACode := .seq (.reg q0r0) q0c25
theorem q0ok : cFn TC 61 = some (32, [.t 4], q0c26) := by kernel_rfl

@[go_sem] def q1r0 : List AIns := [
  ⟨some 4,none,.no,.mv (.v (.str []))⟩]
@[go_sem] def q1r1 : List AIns := [
  ⟨some 5,none,.no,.mv (.v (.str []))⟩]
@[go_sem] def q1r2 : List AIns := [
  ⟨some 6,none,.no,.mv (.v (.int .i64 0))⟩]
@[go_sem] def q1r3 : List AIns := [
  ⟨some 7,none,.no,.mv (.t 6)⟩,
  ⟨some 8,none,.no,.mv (.t 1)⟩,
  ⟨some 9,none,.no,.bin .lss .none (.t 7) (.t 8)⟩,
  ⟨some 10,none,.no,.mv (.t 9)⟩,
  ⟨some 11, some (10, true), .no, .mv (.t 1)⟩,
  ⟨some 12, some (10, true), .no, .bin .lss .none (.t 11) (.v (.int .i64 9))⟩,
  ⟨some 13,none,.no,.pick (.t 10) (.t 12) (.v (.bool false))⟩]
def q1c4 : ACode := .cond (.t 13) .skip (.exit 0)
def q1c5 : ACode := .seq (.reg q1r3) q1c4
@[go_sem] def q1r6 : List AIns := [
  ⟨some 16,none,.no,.mv (.t 0)⟩,
  ⟨some 17,none,.no,.bin .rem .none (.t 16) (.v (.int .u64 256))⟩,
  ⟨some 18,none,.no,.conv (.int .u8) (.t 17)⟩,
  ⟨some 19,none,.no,.lit 1 [(.t 18)]⟩,
  ⟨some 20,none,.no,.conv .str (.t 19)⟩,
  ⟨some 21,none,.no,.mv (.t 5)⟩,
  ⟨some 22,none,.no,.bin .add .none (.t 20) (.t 21)⟩,
  ⟨some 5,none,.no,.mv (.t 22)⟩]
@[go_sem] def q1r7 : List AIns := [
  ⟨some 23,none,.no,.mv (.t 0)⟩,
  ⟨some 24,none,.no,.bin .quo .none (.t 23) (.v (.int .u64 256))⟩,
  ⟨some 0,none,.no,.mv (.t 24)⟩]
def q1c8 : ACode := .seq (.reg q1r6) (.reg q1r7)
@[go_sem] def q1r9 : List AIns := [
  ⟨some 14,none,.no,.mv (.t 6)⟩,
  ⟨some 15,none,.no,.bin .add .none (.t 14) (.v (.int .i64 1))⟩,
  ⟨some 6,none,.no,.mv (.t 15)⟩]
def q1c10 : ACode := .seq (.block 1 q1c8) (.reg q1r9)
def q1c11 : ACode := .seq q1c5 q1c10
def q1c12 : ACode := .loop q1c11
def q1c13 : ACode := .block 0 q1c12
def q1c14 : ACode := .seq (.reg q1r2) q1c13
@[go_sem] def q1r15 : List AIns := [
  ⟨some 25,none,.no,.mv (.t 5)⟩,
  ⟨some 4,none,.no,.mv (.t 25)⟩]
def q1c16 : ACode := .seq (.reg q1r15) .ret
def q1c17 : ACode := .seq q1c14 q1c16
def q1c18 : ACode := .seq (.reg q1r1) q1c17
def q1c19 : ACode := .seq (.reg q1r0) q1c18
theorem q1ok : cFn TC 73 = some (26, [.t 4], q1c19) := by kernel_rfl

@[go_sem] def q2r0 : List AIns := [
  ⟨some 4,none,.no,.mv (.v (.int .u32 0))⟩]
@[go_sem] def q2r1 : List AIns := [
  ⟨some 5,none,.no,.mv (.t 0)⟩,
  ⟨some 6,none,.no,.mv (.t 1)⟩,
  ⟨some 7,none,.no,.bin .rem .none (.t 6) (.v (.int .i64 32))⟩,
  ⟨some 8,none,.no,.un .neg (.t 7)⟩,
  ⟨some 9,none,.no,.call (.v (.fn 99 [])) [(.t 5), (.t 8)]⟩,
  ⟨some 4,none,.no,.mv (.t 9)⟩]
def q2c2 : ACode := .seq (.reg q2r1) .ret
def q2c3 : ACode := .seq (.reg q2r0) q2c2
theorem q2ok : cFn TC 87 = some (10, [.t 4], q2c3) := by kernel_rfl

@[go_sem] def q3r0 : List AIns := [
  ⟨some 4,none,.no,.mv (.v (.int .i64 0))⟩]
@[go_sem] def q3r1 : List AIns := [
  ⟨some 5,none,.no,.mv (.t 1)⟩,
  ⟨some 6,none,.no,.bin .lss .none (.t 5) (.v (.int .i64 0))⟩,
  ⟨some 7,none,.no,.mv (.t 6)⟩,
  ⟨some 8, some (7, false), .no, .mv (.t 1)⟩,
  ⟨some 9, some (7, false), .no, .bin .quo .none (.t 8) (.v (.int .i64 8))⟩,
  ⟨some 10, some (7, false), .no, .mv (.t 0)⟩,
  ⟨some 11, some (7, false), .no, .lenStr (.t 10)⟩,
  ⟨some 12, some (7, false), .no, .bin .geq .none (.t 9) (.t 11)⟩,
  ⟨some 13,none,.no,.pick (.t 7) (.v (.bool true)) (.t 12)⟩]
@[go_sem] def q3r2 : List AIns := [
  ⟨some 4,none,.no,.mv (.v (.int .i64 0))⟩]
def q3c3 : ACode := .seq (.reg q3r2) .ret
def q3c4 : ACode := .cond (.t 13) q3c3 .skip
def q3c5 : ACode := .seq (.reg q3r1) q3c4
@[go_sem] def q3r6 : List AIns := [
  ⟨some 14,none,.no,.mv (.t 0)⟩,
  ⟨some 15,none,.no,.mv (.t 1)⟩,
  ⟨some 16,none,.no,.bin .quo .none (.t 15) (.v (.int .i64 8))⟩,
  ⟨some 17,none,.no,.ixStr (.t 14) (.t 16)⟩,
  ⟨some 18,none,.no,.mv (.t 1)⟩,
  ⟨some 19,none,.no,.bin .rem .none (.t 18) (.v (.int .i64 8))⟩,
  ⟨some 20,none,.no,.bin .sub .none (.v (.int .i64 7)) (.t 19)⟩,
  ⟨some 21,none,.no,.bin .shr .none (.t 17) (.t 20)⟩,
  ⟨some 22,none,.no,.bin .and .none (.t 21) (.v (.int .u8 1))⟩,
  ⟨some 23,none,.no,.conv (.int .i64) (.t 22)⟩,
  ⟨some 4,none,.no,.mv (.t 23)⟩]
def q3c7 : ACode := .seq (.reg q3r6) .ret
def q3c8 : ACode := .seq q3c5 q3c7
def q3c9 : ACode := .seq (.reg q3r0) q3c8
theorem q3ok : cFn TC 77 = some (24, [.t 4], q3c9) := by kernel_rfl

@[go_sem] def q4r0 : List AIns := [
  ⟨some 2,none,.no,.mv (.v (.int .u64 0))⟩]
@[go_sem] def q4r1 : List AIns := [
  ⟨some 3,none,.no,.mv (.v (.int .u64 0))⟩]
@[go_sem] def q4r2 : List AIns := [
  ⟨some 5,none,.no,.mv (.t 0)⟩,
  ⟨some 6,none,.no,.lenStr (.t 5)⟩,
  ⟨some 7,none,.no,.minmax false (.t 6) (.v (.int .i64 8))⟩,
  ⟨some 8,none,.no,.mv (.v (.int .i64 0))⟩]
@[go_sem] def q4r3 : List AIns := [
  ⟨some 9,none,.no,.bin .lss .none (.t 8) (.t 7)⟩]
@[go_sem] def q4r4 : List AIns := [
  ⟨some 10,none,.no,.mv (.t 8)⟩,
  ⟨some 4,none,.no,.mv (.t 10)⟩]
@[go_sem] def q4r5 : List AIns := [
  ⟨some 11,none,.no,.mv (.t 3)⟩,
  ⟨some 12,none,.no,.bin .shl .none (.t 11) (.v (.int .u64 8))⟩,
  ⟨some 13,none,.no,.mv (.t 0)⟩,
  ⟨some 14,none,.no,.mv (.t 4)⟩,
  ⟨some 15,none,.no,.ixStr (.t 13) (.t 14)⟩,
  ⟨some 16,none,.no,.conv (.int .u64) (.t 15)⟩,
  ⟨some 17,none,.no,.bin .add .none (.t 12) (.t 16)⟩,
  ⟨some 3,none,.no,.mv (.t 17)⟩]
def q4c6 : ACode := .seq (.reg q4r4) (.reg q4r5)
@[go_sem] def q4r7 : List AIns := [
  ⟨some 18,none,.no,.bin .add .none (.t 8) (.v (.int .i64 1))⟩,
  ⟨some 8,none,.no,.mv (.t 18)⟩]
def q4c8 : ACode := .seq (.block 1 q4c6) (.reg q4r7)
def q4c9 : ACode := .seq (.cond (.t 9) .skip (.exit 0)) q4c8
def q4c10 : ACode := .seq (.reg q4r3) q4c9
def q4c11 : ACode := .loop q4c10
def q4c12 : ACode := .block 0 q4c11
def q4c13 : ACode := .seq (.reg q4r2) q4c12
@[go_sem] def q4r14 : List AIns := [
  ⟨some 19,none,.no,.mv (.t 3)⟩,
  ⟨some 2,none,.no,.mv (.t 19)⟩]
def q4c15 : ACode := .seq (.reg q4r14) .ret
def q4c16 : ACode := .seq q4c13 q4c15
def q4c17 : ACode := .seq (.reg q4r1) q4c16
def q4c18 : ACode := .seq (.reg q4r0) q4c17
theorem q4ok : cFn TC 98 = some (20, [.t 2], q4c18) := by kernel_rfl

@[go_sem] def q5r0 : List AIns := [
  ⟨some 4,none,.no,.mv (.v (.int .u32 0))⟩]
@[go_sem] def q5r1 : List AIns := [
  ⟨some 6,none,.no,.mv (.t 1)⟩,
  ⟨some 7,none,.no,.conv (.int .u64) (.t 6)⟩,
  ⟨some 8,none,.no,.bin .and .none (.t 7) (.v (.int .u64 31))⟩,
  ⟨some 5,none,.no,.mv (.t 8)⟩]
@[go_sem] def q5r2 : List AIns := [
  ⟨some 9,none,.no,.mv (.t 0)⟩,
  ⟨some 10,none,.no,.mv (.t 5)⟩,
  ⟨some 11,none,.no,.bin .shl .none (.t 9) (.t 10)⟩,
  ⟨some 12,none,.no,.mv (.t 0)⟩,
  ⟨some 13,none,.no,.mv (.t 5)⟩,
  ⟨some 14,none,.no,.bin .sub .none (.v (.int .u64 32)) (.t 13)⟩,
  ⟨some 15,none,.no,.bin .shr .none (.t 12) (.t 14)⟩,
  ⟨some 16,none,.no,.bin .or .none (.t 11) (.t 15)⟩,
  ⟨some 4,none,.no,.mv (.t 16)⟩]
def q5c3 : ACode := .seq (.reg q5r2) .ret
def q5c4 : ACode := .seq (.reg q5r1) q5c3
def q5c5 : ACode := .seq (.reg q5r0) q5c4
theorem q5ok : cFn TC 99 = some (17, [.t 4], q5c5) := by kernel_rfl

end Am
end Go.Proofs.YtjgljhbmljgaeaaDoor
end
section
/- Functions on bits: what runs on given values. -/
namespace Go.Proofs.YtjgljhbmljgaeaaDoor
namespace Am
end Am
end Go.Proofs.YtjgljhbmljgaeaaDoor
end
section
/- Functions on bits: contracts. -/
namespace Go.Proofs.YtjgljhbmljgaeaaDoor
namespace Am

theorem and31 (k : Int) : IntKind.u64.wrap ((BitVec.ofInt IntKind.u64.bits (IntKind.u64.wrap k) &&& BitVec.ofInt IntKind.u64.bits 31).toNat : Int) = ((k % 32).toNat : Int) := by
  rw [u_nat (by rfl), BitVec.toNat_and]
  have h1 : (BitVec.ofInt IntKind.u64.bits 31).toNat = 2 ^ 5 - 1 := by decide
  have h2 : ((BitVec.ofInt IntKind.u64.bits (IntKind.u64.wrap k)).toNat : Int) = k % 18446744073709551616 := by
    rw [BitVec.toNat_ofInt, zan (by rfl)]
    simp only [IntKind.bits]
    omega
  rw [h1, Nat.and_two_pow_sub_one_eq_mod]
  omega
theorem zqr (x : BitVec 32) : IntKind.u32.wrap (x.toNat : Int) = x.toNat := u_nat (k := .u32) (by rfl) x
theorem rot_or (x : BitVec 32) (s : Nat) (hs : s < 32) :
    IntKind.u32.wrap ((BitVec.ofInt 32 (IntKind.u32.wrap ((x.toNat : Int) * 2 ^ min s 32)) ||| BitVec.ofInt 32 ((x.toNat : Int).fdiv (2 ^ min (32 - s) 32))).toNat : Int) = ((x.rotateLeft s).toNat : Int) := by
  rw [zqr]
  have h1 : BitVec.ofInt 32 (IntKind.u32.wrap ((x.toNat : Int) * 2 ^ min s 32)) = x <<< s := by
    apply BitVec.eq_of_toNat_eq
    rw [BitVec.toNat_ofInt, zan (by rfl), Nat.min_eq_left (by omega), BitVec.toNat_shiftLeft, Nat.shiftLeft_eq]
    simp only [IntKind.bits]
    have : ((x.toNat : Int) * 2 ^ s) = ((x.toNat * 2 ^ s : Nat) : Int) := by simp
    rw [this]
    omega
  have h2 : BitVec.ofInt 32 ((x.toNat : Int).fdiv (2 ^ min (32 - s) 32)) = x >>> (32 - s) := by
    apply BitVec.eq_of_toNat_eq
    have hx := x.isLt
    rw [BitVec.toNat_ofInt, Nat.min_eq_left (by omega), BitVec.toNat_ushiftRight, Nat.shiftRight_eq_div_pow, Int.fdiv_eq_ediv_of_nonneg _ (by exact_mod_cast Nat.zero_le _)]
    have : ((x.toNat : Int) / 2 ^ (32 - s)) = ((x.toNat / 2 ^ (32 - s) : Nat) : Int) := by simp
    rw [this]
    have h3 : x.toNat / 2 ^ (32 - s) <= x.toNat := Nat.div_le_self _ _
    generalize x.toNat / 2 ^ (32 - s) = y at *
    omega
  rw [h1, h2, BitVec.rotateLeft_def]
  simp only [Nat.mod_eq_of_lt hs]
theorem zjk (Y : Store) (x : BitVec 32) (k : Int) : ACallsTo TC 99 [.int .u32 x.toNat, .int .i64 k] Y (.int .u32 (x.rotateLeft (k % 32).toNat).toNat) Y := by
  refine ACallsTo.of_body q5ok (by simp) fun hw _ => ?_
  have hs : (k % 32).toNat < 32 := by omega
  generalize hk : (k % 32).toNat = s at *
  have h31 := and31 k
  rw [hk] at h31
  have e1 : ¬ ((s : Int) < 0) := by omega
  have e2 : IntKind.u64.wrap (32 - (s : Int)) = ((32 - s : Nat) : Int) := by
    rw [zan (by rfl)]; simp only [IntKind.bits]; omega
  have e3 : ¬ (((32 - s : Nat) : Int) < 0) := by omega
  unfold q5c5
  refine zW.seqReg ?_
  simp only [q5r0, z4l, z3j, z4g, z4h, z5m, z5n, z4f, z4e, z24, z1c, AOp.run, AX.ev, putE, upd, z27, Option.map_some, Option.bind_some, Option.map_none, rBin, rEq, z10, z1f, z2v, eqOp, aUn, aMin, z2r, z2l, z3q, z3p, z30, rFa, rFld, z3n, z3o, z1k, z2z, z15, z29, blkQ, endQ, retV, oks, RV.ok, RV.val, Bool.and_true, Bool.true_and, List.map_cons, List.map_nil, List.getD_cons_zero, List.getD_cons_succ, List.getD_nil, if_true, if_false, ite_true, ite_false, reduceCtorEq, Nat.reduceEqDiff, Nat.reduceAdd, Bool.false_eq_true, Bool.true_eq_false, beq_true, beq_false, Bool.not_true, Bool.not_false, BEq.rfl, beq_self_eq_true, List.nil_append, List.cons_append, List.append_nil, z5c, z5e, z4n, z4q, z4r, z57, z58, z5g, z5d, z4p, z5h, z4t, z5b, z59, z5f, z4w, z4x, z4y, z4z, z50, z52, z4v, z56, z55, z54, z4o, z4u, z4s, z5a, getElem?_app, getElem?_app0, z49, z5j]
  unfold q5c4
  refine zW.seqReg ?_
  simp only [q5r1, z4l, z3j, z4g, z4h, z5m, z5n, z4f, z4e, z24, z1c, AOp.run, AX.ev, putE, upd, z27, Option.map_some, Option.bind_some, Option.map_none, rBin, rEq, z10, z1f, z2v, eqOp, aUn, aMin, z2r, z2l, z3q, z3p, z30, rFa, rFld, z3n, z3o, z1k, z2z, z15, z29, blkQ, endQ, retV, oks, RV.ok, RV.val, Bool.and_true, Bool.true_and, List.map_cons, List.map_nil, List.getD_cons_zero, List.getD_cons_succ, List.getD_nil, if_true, if_false, ite_true, ite_false, reduceCtorEq, Nat.reduceEqDiff, Nat.reduceAdd, Bool.false_eq_true, Bool.true_eq_false, beq_true, beq_false, Bool.not_true, Bool.not_false, BEq.rfl, beq_self_eq_true, List.nil_append, List.cons_append, List.append_nil, z5c, z5e, z4n, z4q, z4r, z57, z58, z5g, z5d, z4p, z5h, z4t, z5b, z59, z5f, z4w, z4x, z4y, z4z, z50, z52, z4v, z56, z55, z54, z4o, z4u, z4s, z5a, getElem?_app, getElem?_app0, z49, z5j]
  unfold q5c3
  refine zW.seqReg ?_
  simp only [q5r2, h31, e1, e2, e3, Int.toNat_natCast, z4l, z3j, z4g, z4h, z5m, z5n, z4f, z4e, z24, z1c, AOp.run, AX.ev, putE, upd, z27, Option.map_some, Option.bind_some, Option.map_none, rBin, rEq, z10, z1f, z2v, eqOp, aUn, aMin, z2r, z2l, z3q, z3p, z30, rFa, rFld, z3n, z3o, z1k, z2z, z15, z29, blkQ, endQ, retV, oks, RV.ok, RV.val, Bool.and_true, Bool.true_and, List.map_cons, List.map_nil, List.getD_cons_zero, List.getD_cons_succ, List.getD_nil, if_true, if_false, ite_true, ite_false, reduceCtorEq, Nat.reduceEqDiff, Nat.reduceAdd, Bool.false_eq_true, Bool.true_eq_false, beq_true, beq_false, Bool.not_true, Bool.not_false, BEq.rfl, beq_self_eq_true, List.nil_append, List.cons_append, List.append_nil, z5c, z5e, z4n, z4q, z4r, z57, z58, z5g, z5d, z4p, z5h, z4t, z5b, z59, z5f, z4w, z4x, z4y, z4z, z50, z52, z4v, z56, z55, z54, z4o, z4u, z4s, z5a, getElem?_app, getElem?_app0, z49, z5j]
  refine zW.zq ?_
  have h := rot_or x s hs
  simp only [IntKind.bits, h, z4l, z3j, z4g, z4h, z5m, z5n, z4f, z4e, z24, z1c, AOp.run, AX.ev, putE, upd, z27, Option.map_some, Option.bind_some, Option.map_none, rBin, rEq, z10, z1f, z2v, eqOp, aUn, aMin, z2r, z2l, z3q, z3p, z30, rFa, rFld, z3n, z3o, z1k, z2z, z15, z29, blkQ, endQ, retV, oks, RV.ok, RV.val, Bool.and_true, Bool.true_and, List.map_cons, List.map_nil, List.getD_cons_zero, List.getD_cons_succ, List.getD_nil, if_true, if_false, ite_true, ite_false, reduceCtorEq, Nat.reduceEqDiff, Nat.reduceAdd, Bool.false_eq_true, Bool.true_eq_false, beq_true, beq_false, Bool.not_true, Bool.not_false, BEq.rfl, beq_self_eq_true, List.nil_append, List.cons_append, List.append_nil, z5c, z5e, z4n, z4q, z4r, z57, z58, z5g, z5d, z4p, z5h, z4t, z5b, z59, z5f, z4w, z4x, z4y, z4z, z50, z52, z4v, z56, z55, z54, z4o, z4u, z4s, z5a, getElem?_app, getElem?_app0, z49, z5j]
  exact ⟨trivial, (congrArg (fun z => DownV Y.length (.int .u32 z) Y (.int .u32 (x.rotateLeft s).toNat) Y) h).mpr (DownV.same hw (zz _ rfl))⟩
theorem wrap64 {n : Int} (h1 : -9223372036854775808 <= n) (h2 : n < 9223372036854775808) : IntKind.i64.wrap n = n := by
  simp [IntKind.wrap, IntKind.signed, IntKind.bits]
  omega
theorem zn1 (k : Int) : (IntKind.i64.wrap (0 - k.tmod 32)) % 32 = (-k) % 32 := by
  have h : -31 <= k.tmod 32 /\ k.tmod 32 <= 31 := by
    rw [Int.tmod_eq_emod]; split <;> simp <;> omega
  rw [wrap64 (by omega) (by omega), Int.tmod_eq_emod]
  split
  · omega
  · simp; omega
theorem z9l (Y : Store) (x : BitVec 32) (k : Int) : ACallsTo TC 87 [.int .u32 x.toNat, .int .i64 k] Y (.int .u32 (x.rotateLeft ((-k) % 32).toNat).toNat) Y := by
  refine ACallsTo.of_body q2ok (by simp) fun hw _ => ?_
  refine zW.seqReg ?_
  simp only [q2r0, q2r1, z4l, z3j, z4g, z4h, z5m, z5n, z4f, z4e, z24, z1c, AOp.run, AX.ev, putE, upd, z27, Option.map_some, Option.bind_some, Option.map_none, rBin, rEq, z10, z1f, z2v, eqOp, aUn, aMin, z2r, z2l, z3q, z3p, z30, rFa, rFld, z3n, z3o, z1k, z2z, z15, z29, blkQ, endQ, retV, oks, RV.ok, RV.val, Bool.and_true, Bool.true_and, List.map_cons, List.map_nil, List.getD_cons_zero, List.getD_cons_succ, List.getD_nil, if_true, if_false, ite_true, ite_false, reduceCtorEq, Nat.reduceEqDiff, Nat.reduceAdd, Bool.false_eq_true, Bool.true_eq_false, beq_true, beq_false, Bool.not_true, Bool.not_false, BEq.rfl, beq_self_eq_true, List.nil_append, List.cons_append, List.append_nil, z5c, z5e, z4n, z4q, z4r, z57, z58, z5g, z5d, z4p, z5h, z4t, z5b, z59, z5f, z4w, z4x, z4y, z4z, z50, z52, z4v, z56, z55, z54, z4o, z4u, z4s, z5a, getElem?_app, getElem?_app0, z49, z5j]
  refine zW.seqReg ?_
  simp only [q2r0, q2r1, show ¬ ((32 : Int) = 0) by decide, z4l, z3j, z4g, z4h, z5m, z5n, z4f, z4e, z24, z1c, AOp.run, AX.ev, putE, upd, z27, Option.map_some, Option.bind_some, Option.map_none, rBin, rEq, z10, z1f, z2v, eqOp, aUn, aMin, z2r, z2l, z3q, z3p, z30, rFa, rFld, z3n, z3o, z1k, z2z, z15, z29, blkQ, endQ, retV, oks, RV.ok, RV.val, Bool.and_true, Bool.true_and, List.map_cons, List.map_nil, List.getD_cons_zero, List.getD_cons_succ, List.getD_nil, if_true, if_false, ite_true, ite_false, reduceCtorEq, Nat.reduceEqDiff, Nat.reduceAdd, Bool.false_eq_true, Bool.true_eq_false, beq_true, beq_false, Bool.not_true, Bool.not_false, BEq.rfl, beq_self_eq_true, List.nil_append, List.cons_append, List.append_nil, z5c, z5e, z4n, z4q, z4r, z57, z58, z5g, z5d, z4p, z5h, z4t, z5b, z59, z5f, z4w, z4x, z4y, z4z, z50, z52, z4v, z56, z55, z54, z4o, z4u, z4s, z5a, getElem?_app, getElem?_app0, z49, z5j]
  have h := zjk Y x (IntKind.i64.wrap (0 - k.tmod 32))
  rw [zn1] at h
  refine callW.zp h ?_
  simp only [z4l, z3j, z4g, z4h, z5m, z5n, z4f, z4e, z24, z1c, AOp.run, AX.ev, putE, upd, z27, Option.map_some, Option.bind_some, Option.map_none, rBin, rEq, z10, z1f, z2v, eqOp, aUn, aMin, z2r, z2l, z3q, z3p, z30, rFa, rFld, z3n, z3o, z1k, z2z, z15, z29, blkQ, endQ, retV, oks, RV.ok, RV.val, Bool.and_true, Bool.true_and, List.map_cons, List.map_nil, List.getD_cons_zero, List.getD_cons_succ, List.getD_nil, if_true, if_false, ite_true, ite_false, reduceCtorEq, Nat.reduceEqDiff, Nat.reduceAdd, Bool.false_eq_true, Bool.true_eq_false, beq_true, beq_false, Bool.not_true, Bool.not_false, BEq.rfl, beq_self_eq_true, List.nil_append, List.cons_append, List.append_nil, z5c, z5e, z4n, z4q, z4r, z57, z58, z5g, z5d, z4p, z5h, z4t, z5b, z59, z5f, z4w, z4x, z4y, z4z, z50, z52, z4v, z56, z55, z54, z4o, z4u, z4s, z5a, getElem?_app, getElem?_app0, z49, z5j]
  refine zW.zq ?_
  simp only [z4l, z3j, z4g, z4h, z5m, z5n, z4f, z4e, z24, z1c, AOp.run, AX.ev, putE, upd, z27, Option.map_some, Option.bind_some, Option.map_none, rBin, rEq, z10, z1f, z2v, eqOp, aUn, aMin, z2r, z2l, z3q, z3p, z30, rFa, rFld, z3n, z3o, z1k, z2z, z15, z29, blkQ, endQ, retV, oks, RV.ok, RV.val, Bool.and_true, Bool.true_and, List.map_cons, List.map_nil, List.getD_cons_zero, List.getD_cons_succ, List.getD_nil, if_true, if_false, ite_true, ite_false, reduceCtorEq, Nat.reduceEqDiff, Nat.reduceAdd, Bool.false_eq_true, Bool.true_eq_false, beq_true, beq_false, Bool.not_true, Bool.not_false, BEq.rfl, beq_self_eq_true, List.nil_append, List.cons_append, List.append_nil, z5c, z5e, z4n, z4q, z4r, z57, z58, z5g, z5d, z4p, z5h, z4t, z5b, z59, z5f, z4w, z4x, z4y, z4z, z50, z52, z4v, z56, z55, z54, z4o, z4u, z4s, z5a, getElem?_app, getElem?_app0, z49, z5j]
  exact ⟨trivial, DownV.same hw (zz _ rfl)⟩
/-- How many of the lowest w bits are 1. -/
def pc : Nat -> Nat -> Nat
  | 0, _ => 0
  | w + 1, n => n % 2 + pc w (n / 2)
end Am
end Go.Proofs.YtjgljhbmljgaeaaDoor
end
section
/- Functions on bits: the place of the highest bit. -/
namespace Go.Proofs.YtjgljhbmljgaeaaDoor
namespace Am
/-- How many digits a number has in base 2 (w is enough room). -/
def lg : Nat -> Nat -> Nat
  | 0, _ => 0
  | w + 1, n => if n = 0 then 0 else 1 + lg w (n / 2)
end Am
end Go.Proofs.YtjgljhbmljgaeaaDoor
end
section
/- Functions on bits: how long a number is. -/
namespace Go.Proofs.YtjgljhbmljgaeaaDoor
namespace Am
end Am
end Go.Proofs.YtjgljhbmljgaeaaDoor
end
section
/- Functions on bits: how many are 1: the plain law. -/
namespace Go.Proofs.YtjgljhbmljgaeaaDoor
namespace Am
/-- The byte m, n times. -/
def rep (m : Nat) : Nat -> Nat
  | 0 => 0
  | n + 1 => 256 * rep m n + m
end Am
end Go.Proofs.YtjgljhbmljgaeaaDoor
end
section
/- Functions on bits: how many are 1. -/
namespace Go.Proofs.YtjgljhbmljgaeaaDoor
namespace Am
end Am
end Go.Proofs.YtjgljhbmljgaeaaDoor
end
section
/- Functions on bits: the contracts of all, numbers as_ Int. -/
namespace Go.Proofs.YtjgljhbmljgaeaaDoor
namespace Am
theorem z73 {k : Nat} {i : IntKind} {n : Int} : RL k (.int i n) := zz _ rfl
theorem z6h {k : Nat} {s : List UInt8} : RL k (.str s) := zz _ rfl
theorem z2s {k : Nat} {b : Bool} : RL k (.bool b) := zz _ rfl
/-- A number's last bytes, the highest first. -/
def be : Nat -> Nat -> List UInt8
  | 0, _ => []
  | n + 1, x => be n (x / 256) ++ [UInt8.ofNat x]
theorem z36 : ∀ n x, (be n x).length = n
  | 0, _ => rfl
  | n + 1, x => by simp [be, z36 n]
theorem z7y : ∀ n x, be (n + 1) x = UInt8.ofNat (x / 256 ^ n) :: be n x
  | 0, x => by simp [be]
  | n + 1, x => by
    rw [be, z7y n (x / 256), Nat.div_div_eq_div_mul, Nat.pow_succ, Nat.mul_comm 256, be]
    rfl
def putS (x n : Int) : List UInt8 := if 1 <= n /\ n <= 8 then be n.toNat x.toNat else []
theorem zpw (Y : Store) (x n : Int) (h : 0 <= x /\ x < 18446744073709551616) (hn : n < 9223372036854775808) : ACallsTo TC 73 [.int .u64 x, .int .i64 n] Y (.str (putS x n)) Y := by
  refine ACallsTo.of_body q1ok (by simp) fun hw _ => ?_
  repeat' (first|refine zW.zs ?_|refine zW.zb ?_|refine zW.zc ?_|refine zW.zt rfl ?_|refine zW.zf rfl ?_|(refine zW.zd rfl (fun ht => ?_) (fun ht => ?_)<;>try (exfalso;omega))|((first|refine zW.zr ?_|refine zW.zk ?_|refine zW.ze ?_|refine zW.zq ?_|((first|apply zg0|apply zg1|apply zg2|apply zg3|apply zg4|apply zg5|apply zg6|apply zg7)<;>intro ht));all_goals try simp (disch:=first|omega|(simp only [lens];first|done|omega)) only [go_sem,reduceEqDiff,Nat.reduceBEq,reduceAdd,reduceMul,reduceSub,reduceLeDiff,reduceToNat,reducePow]))
  refine zW.loop (fun m O Y' => Y' = Y /\ ∃ (i : Nat) (y : Nat), O 0 = .int .u64 y /\ O 1 = .int .i64 n /\ O 6 = .int .i64 i /\ O 5 = .str (be i x.toNat) /\ m + i = 9 /\ (i : Int) <= max n 0 /\ y = x.toNat / 256 ^ i /\ (0 < i -> n < 9)) 9 ?_ ?_
  · refine ⟨rfl, 0, x.toNat, ?_, ?_, ?_, ?_, by omega, by omega, by simp, by omega⟩ <;> simp (disch:=first|omega|(simp only [lens];first|done|omega)) only [go_sem,reduceEqDiff,Nat.reduceBEq,reduceAdd,reduceMul,reduceSub,reduceLeDiff,reduceToNat,reducePow, be]
    · exact z4j (by omega)
    · rfl
  · rintro m O _ ⟨rfl, i, y, q0, q1, q6, q5, hm, hi, hy, h9⟩
    have hl := z36 i x.toNat
    have hy2 : y < 18446744073709551616 := by
      have := Nat.div_le_self x.toNat (256 ^ i)
      omega
    repeat' (first|refine zW.zs ?_|refine zW.zb ?_|refine zW.zc ?_|refine zW.zt rfl ?_|refine zW.zf rfl ?_|(refine zW.zd rfl (fun ht => ?_) (fun ht => ?_)<;>try (exfalso;omega))|((first|refine zW.zr ?_|refine zW.zk ?_|refine zW.ze ?_|refine zW.zq ?_|((first|apply zg0|apply zg1|apply zg2|apply zg3|apply zg4|apply zg5|apply zg6|apply zg7)<;>intro ht));all_goals try simp (disch:=first|omega|(simp only [lens];first|done|omega)) only [go_sem,reduceEqDiff,Nat.reduceBEq,reduceAdd,reduceMul,reduceSub,reduceLeDiff,reduceToNat,reducePow, q0, q1, q6, q5]))
    · refine ⟨m - 1, by omega, i + 1, y / 256, z4j (by omega), z4j (by omega), str_eq ?_, by omega, by omega, ?_, by omega⟩
      · rw [z7y, <- hy]
        congr 1
        apply UInt8.toNat_inj.1
        simp; omega
      · rw [hy, Nat.div_div_eq_div_mul, Nat.pow_succ]
    · have e : i = 0 := by omega
      subst e
      rw [putS, if_neg (by omega)]
      exact DownV.same hw z6h
    · by_cases h8 : 1 <= n /\ n <= 8
      · have e : i = n.toNat := by omega
        rw [putS, if_pos h8, e]
        exact DownV.same hw z6h
      · have e : i = 0 := by omega
        subst e
        rw [putS, if_neg h8]
        exact DownV.same hw z6h
theorem z69 (Y : Store) (x n : Int) (h : 0 <= x /\ x < 18446744073709551616) (hn : n < 9223372036854775808) : ACallsTo TC 61 [.int .u64 x, .int .i64 n] Y (.str (putS x n)) Y := by
  refine ACallsTo.of_body q0ok (by simp) fun hw _ => ?_
  repeat' (first|refine zW.zs ?_|refine zW.zb ?_|refine zW.zc ?_|refine zW.zt rfl ?_|refine zW.zf rfl ?_|(refine zW.zd rfl (fun ht => ?_) (fun ht => ?_)<;>try (exfalso;omega))|((first|refine zW.zr ?_|refine zW.zk ?_|refine zW.ze ?_|refine zW.zq ?_|((first|apply zg0|apply zg1|apply zg2|apply zg3|apply zg4|apply zg5|apply zg6|apply zg7)<;>intro ht));all_goals try simp (disch:=first|omega|(simp only [lens];first|done|omega)) only [go_sem,reduceEqDiff,Nat.reduceBEq,reduceAdd,reduceMul,reduceSub,reduceLeDiff,reduceToNat,reducePow]))
  · rw [putS, if_neg (by omega)]
    exact DownV.same hw z6h
  · rw [putS, if_neg (by omega)]
    exact DownV.same hw z6h
  rw [putS, if_pos (by omega)]
  obtain ⟨k, hk⟩ : ∃ k : Nat, n = k := ⟨n.toNat, by omega⟩
  subst hk
  rw [Int.toNat_natCast]
  refine zW.loop (fun m O Y' => ∃ (i : Nat) (y : Nat) (s : List UInt8), Y' = Y ++ [some (zh s)] /\ s.length = k /\ s.drop (k - i) = be i x.toNat /\ O 0 = .int .u64 y /\ O 1 = .int .i64 k /\ O 15 = .int .i64 k /\ O 5 = .sl Y.length 0 k (some k) 1 /\ O 16 = .int .i64 i /\ m + i = k /\ y = x.toNat / 256 ^ i) k ?_ ?_
  · refine ⟨0, x.toNat, List.replicate k 0, ?_, by simp, by simp [be], ?_, ?_, ?_, ?_, ?_, by omega, by simp⟩ <;> try simp (disch:=first|omega|(simp only [lens];first|done|omega)) only [go_sem,reduceEqDiff,Nat.reduceBEq,reduceAdd,reduceMul,reduceSub,reduceLeDiff,reduceToNat,reducePow, be]
    · exact z4j (by omega)
    · exact z4j (by omega)
  · rintro m O _ ⟨i, y, s, rfl, hs, hd, q0, q1, q15, q5, q16, hm, hy⟩
    have hy2 : y < 18446744073709551616 := by
      have := Nat.div_le_self x.toNat (256 ^ i)
      omega
    repeat' (first|refine zW.zs ?_|refine zW.zb ?_|refine zW.zc ?_|refine zW.zt rfl ?_|refine zW.zf rfl ?_|(refine zW.zd rfl (fun ht => ?_) (fun ht => ?_)<;>try (exfalso;omega))|((first|refine zW.zr ?_|refine zW.zk ?_|refine zW.ze ?_|refine zW.zq ?_|((first|apply zg0|apply zg1|apply zg2|apply zg3|apply zg4|apply zg5|apply zg6|apply zg7)<;>intro ht));all_goals try simp (disch:=first|omega|(simp only [lens];first|done|omega)) only [go_sem,reduceEqDiff,Nat.reduceBEq,reduceAdd,reduceMul,reduceSub,reduceLeDiff,reduceToNat,reducePow, q0, q1, q15, q5, q16]))
    · refine ⟨m - 1, by omega, i + 1, y / 256, _, rfl, by simp [hs], ?_, z4j (by omega), z4j (by omega), by omega, ?_⟩
      · rw [z7y, <- hy, <- hd]
        have e1 : ((k : Int) - 1 - i).toNat = k - (i + 1) := by omega
        have e2 : UInt8.ofNat ((y : Int) % 256).toNat = UInt8.ofNat y := by
          apply UInt8.toNat_inj.1
          simp; omega
        rw [e1, e2, List.drop_set]
        simp only [Nat.lt_irrefl, if_false, Nat.sub_self]
        rw [List.drop_eq_getElem_cons (by omega), List.set_cons_zero, show k - (i + 1) + 1 = k - i by omega]
      · rw [hy, Nat.div_div_eq_div_mul, Nat.pow_succ]
    · have e : i = k := by omega
      subst e
      rw [Nat.sub_self, List.drop_zero] at hd
      rw [<- hd]
      exact DownV.pure hw z6h
end Am
end Go.Proofs.YtjgljhbmljgaeaaDoor
end
section
/- Functions on bits: Get, Bit, Left, Right. -/
namespace Go.Proofs.YtjgljhbmljgaeaaDoor
namespace Am
/-- The number of bytes, the highest first. -/
def val (s : List UInt8) : Nat := s.foldl (fun n b => 256 * n + b.toNat) 0
theorem zqu (s : List UInt8) (b : UInt8) : val (s ++ [b]) = 256 * val s + b.toNat := by simp [val]
theorem zqf {α : Type} (s : List α) (i : Nat) (d : α) (h : i < s.length) : s.take (i + 1) = s.take i ++ [s.getD i d] := by
  rw [List.take_add_one, getQ s i d h]; rfl
theorem zhy (s : List UInt8) (i : Nat) (h : i < s.length) : val (s.take (i + 1)) = 256 * val (s.take i) + (s.getD i 0).toNat := by
  rw [zqf s i 0 h, zqu]
theorem zhx : ∀ (i : Nat) (s : List UInt8), i <= s.length -> val (s.take i) < 256 ^ i
  | 0, s, _ => by simp [val]
  | i + 1, s, h => by
    have := zhx i s (by omega)
    have hb := (s.getD i 0).toNat_lt
    rw [zhy s i (by omega), Nat.pow_succ]
    omega
def getS (s : List UInt8) : Nat := val (s.take 8)
theorem ze5 (Y : Store) (s : List UInt8) (hs : s.length < 9223372036854775808) : ACallsTo TC 98 [.str s] Y (.int .u64 (getS s)) Y := by
  refine ACallsTo.of_body q4ok (by simp) fun hw _ => ?_
  obtain ⟨k, hk, hk2⟩ : ∃ k : Nat, (k : Int) = (if (8 : Int) < s.length then (8 : Int) else (s.length : Int)) /\ k = min 8 s.length := ⟨min 8 s.length, by split <;> omega, rfl⟩
  have hgs : getS s = val (s.take k) := by
    rw [hk2, getS]
    by_cases h : 8 <= s.length
    · rw [Nat.min_eq_left h]
    · rw [Nat.min_eq_right (by omega), List.take_of_length_le (by omega), List.take_length]
  rw [hgs]
  repeat' (first|refine zW.zs ?_|refine zW.zb ?_|refine zW.zc ?_|refine zW.zt rfl ?_|refine zW.zf rfl ?_|(refine zW.zd rfl (fun ht => ?_) (fun ht => ?_)<;>try (exfalso;omega))|((first|refine zW.zr ?_|refine zW.zk ?_|refine zW.ze ?_|refine zW.zq ?_|((first|apply zg0|apply zg1|apply zg2|apply zg3|apply zg4|apply zg5|apply zg6|apply zg7)<;>intro ht));all_goals try simp (disch:=first|omega|(simp only [lens];first|done|omega)) only [go_sem,reduceEqDiff,Nat.reduceBEq,reduceAdd,reduceMul,reduceSub,reduceLeDiff,reduceToNat,reducePow, <- hk]))
  refine zW.loop (fun m O Y' => Y' = Y /\ ∃ (i : Nat), O 0 = .str s /\ O 7 = .int .i64 k /\ O 8 = .int .i64 i /\ O 3 = .int .u64 (val (s.take i)) /\ m + i = k) k ?_ ?_
  · refine ⟨rfl, 0, ?_, ?_, ?_, ?_, by omega⟩ <;> simp (disch:=first|omega|(simp only [lens];first|done|omega)) only [go_sem,reduceEqDiff,Nat.reduceBEq,reduceAdd,reduceMul,reduceSub,reduceLeDiff,reduceToNat,reducePow, <- hk] <;> rfl
  · rintro m O _ ⟨rfl, i, q0, q7, q8, q3, hm⟩
    have hv := zhx i s (by omega)
    have hp : i < k -> 256 * 256 ^ i <= 18446744073709551616 := by
      intro h
      have : 256 ^ (i + 1) <= 256 ^ 8 := Nat.pow_le_pow_right (by decide) (by omega)
      rw [Nat.pow_succ] at this
      omega
    have hb := (s.getD i 0).toNat_lt
    repeat' (first|refine zW.zs ?_|refine zW.zb ?_|refine zW.zc ?_|refine zW.zt rfl ?_|refine zW.zf rfl ?_|(refine zW.zd rfl (fun ht => ?_) (fun ht => ?_)<;>try (exfalso;omega))|((first|refine zW.zr ?_|refine zW.zk ?_|refine zW.ze ?_|refine zW.zq ?_|((first|apply zg0|apply zg1|apply zg2|apply zg3|apply zg4|apply zg5|apply zg6|apply zg7)<;>intro ht));all_goals try simp (disch:=first|omega|(simp only [lens];first|done|omega)) only [go_sem,reduceEqDiff,Nat.reduceBEq,reduceAdd,reduceMul,reduceSub,reduceLeDiff,reduceToNat,reducePow, q0, q7, q8, q3]))
    · have hp' := hp (by omega)
      have hvt := zhy s i (by omega)
      refine ⟨m - 1, by omega, i + 1, z4j (by omega), ?_, by omega⟩
      rw [hvt]
      exact z4j (by omega)
    · have e : i = k := by omega
      subst e
      exact DownV.same hw z73
/-- A text's bit at a place. -/
def bitS (s : List UInt8) (i : Int) : Nat := if 0 <= i /\ i / 8 < s.length then (s.getD (i / 8).toNat 0).toNat / 2 ^ (7 - i % 8).toNat % 2 else 0
theorem zkm (c n : Nat) : c / 2 ^ n <= c := Nat.div_le_self _ _
theorem ze4 (Y : Store) (s : List UInt8) (i : Int) (hs : s.length < 9223372036854775808) (hi : -9223372036854775808 <= i /\ i < 9223372036854775808) : ACallsTo TC 77 [.str s, .int .i64 i] Y (.int .i64 (bitS s i)) Y := by
  refine ACallsTo.of_body q3ok (by simp) fun hw _ => ?_
  have hb := (s.getD (i / 8).toNat 0).toNat_lt
  have hd := zkm (s.getD (i / 8).toNat 0).toNat (7 - i % 8).toNat
  obtain ⟨q, hq⟩ : ∃ q, q = (s.getD (i / 8).toNat 0).toNat / 2 ^ (7 - i % 8).toNat := ⟨_, rfl⟩
  have hc : ((s.getD (i / 8).toNat 0).toNat : Int) / 2 ^ (7 - i % 8).toNat = (q : Int) := by rw [hq]; simp
  rw [<- hq] at hd
  repeat' (first|refine zW.zs ?_|refine zW.zb ?_|refine zW.zc ?_|refine zW.zt rfl ?_|refine zW.zf rfl ?_|(refine zW.zd rfl (fun ht => ?_) (fun ht => ?_)<;>try (exfalso;omega))|((first|refine zW.zr ?_|refine zW.zk ?_|refine zW.ze ?_|refine zW.zq ?_|((first|apply zg0|apply zg1|apply zg2|apply zg3|apply zg4|apply zg5|apply zg6|apply zg7)<;>intro ht));all_goals try simp (disch:=first|omega|(simp only [lens];first|done|omega)) only [go_sem,reduceEqDiff,Nat.reduceBEq,reduceAdd,reduceMul,reduceSub,reduceLeDiff,reduceToNat,reducePow, hc]))
  · rw [bitS, if_neg (by omega)]
    exact DownV.same hw z73
  · rw [bitS, if_neg (by omega)]
    exact DownV.same hw z73
  · rw [bitS, if_pos (by omega), <- hq]
    exact DownV.same hw z73
end Am
end Go.Proofs.YtjgljhbmljgaeaaDoor
end
section
/- Functions on bits: plain laws. -/
namespace Go.Proofs.YtjgljhbmljgaeaaDoor
namespace Am
/-! Turning. -/
/-! Bits of a sum. -/
/-! What is put is got. -/
theorem zgi (x n : Int) : (putS x n).length <= 8 := by
  unfold putS
  split
  · rw [z36]; omega
  · simp
/-! The highest bit. -/
end Am
end Go.Proofs.YtjgljhbmljgaeaaDoor
end
section
/- Abstract code. (Printed by wip/gen.) -/
set_option maxRecDepth 10000
namespace Go.Proofs.YtjgljhbmljgaeaaDoor
namespace Am

@[go_sem] def q6r0 : List AIns := [
  ⟨some 2,none,.no,.alloc zZ0⟩]
@[go_sem] def q6r1 : List AIns := [
  ⟨some 26,none,.no,.build [(.int .u32 0), (.int .u32 0), (.int .u32 0), (.int .u32 0), (.int .u32 0), (.int .u32 0), (.int .u32 0), (.int .u32 0), (.int .u32 0), (.int .u32 0), (.int .u32 0), (.int .u32 0), (.int .u32 0), (.int .u32 0), (.int .u32 0), (.int .u32 0), (.int .u32 0), (.int .u32 0), (.int .u32 0), (.int .u32 0), (.int .u32 0), (.int .u32 0), (.int .u32 0), (.int .u32 0), (.int .u32 0), (.int .u32 0), (.int .u32 0), (.int .u32 0), (.int .u32 0), (.int .u32 0), (.int .u32 0), (.int .u32 0), (.int .u32 0), (.int .u32 0), (.int .u32 0), (.int .u32 0), (.int .u32 0), (.int .u32 0), (.int .u32 0), (.int .u32 0), (.int .u32 0), (.int .u32 0), (.int .u32 0), (.int .u32 0), (.int .u32 0), (.int .u32 0), (.int .u32 0), (.int .u32 0), (.int .u32 0), (.int .u32 0), (.int .u32 0), (.int .u32 0), (.int .u32 0), (.int .u32 0), (.int .u32 0), (.int .u32 0), (.int .u32 0), (.int .u32 0), (.int .u32 0), (.int .u32 0), (.int .u32 0), (.int .u32 0), (.int .u32 0), (.int .u32 0)] [(0, 1, (.v (.int .u32 1116352408))), (1, 1, (.v (.int .u32 1899447441))), (2, 1, (.v (.int .u32 3049323471))), (3, 1, (.v (.int .u32 3921009573))), (4, 1, (.v (.int .u32 961987163))), (5, 1, (.v (.int .u32 1508970993))), (6, 1, (.v (.int .u32 2453635748))), (7, 1, (.v (.int .u32 2870763221))), (8, 1, (.v (.int .u32 3624381080))), (9, 1, (.v (.int .u32 310598401))), (10, 1, (.v (.int .u32 607225278))), (11, 1, (.v (.int .u32 1426881987))), (12, 1, (.v (.int .u32 1925078388))), (13, 1, (.v (.int .u32 2162078206))), (14, 1, (.v (.int .u32 2614888103))), (15, 1, (.v (.int .u32 3248222580))), (16, 1, (.v (.int .u32 3835390401))), (17, 1, (.v (.int .u32 4022224774))), (18, 1, (.v (.int .u32 264347078))), (19, 1, (.v (.int .u32 604807628))), (20, 1, (.v (.int .u32 770255983))), (21, 1, (.v (.int .u32 1249150122))), (22, 1, (.v (.int .u32 1555081692))), (23, 1, (.v (.int .u32 1996064986))), (24, 1, (.v (.int .u32 2554220882))), (25, 1, (.v (.int .u32 2821834349))), (26, 1, (.v (.int .u32 2952996808))), (27, 1, (.v (.int .u32 3210313671))), (28, 1, (.v (.int .u32 3336571891))), (29, 1, (.v (.int .u32 3584528711))), (30, 1, (.v (.int .u32 113926993))), (31, 1, (.v (.int .u32 338241895))), (32, 1, (.v (.int .u32 666307205))), (33, 1, (.v (.int .u32 773529912))), (34, 1, (.v (.int .u32 1294757372))), (35, 1, (.v (.int .u32 1396182291))), (36, 1, (.v (.int .u32 1695183700))), (37, 1, (.v (.int .u32 1986661051))), (38, 1, (.v (.int .u32 2177026350))), (39, 1, (.v (.int .u32 2456956037))), (40, 1, (.v (.int .u32 2730485921))), (41, 1, (.v (.int .u32 2820302411))), (42, 1, (.v (.int .u32 3259730800))), (43, 1, (.v (.int .u32 3345764771))), (44, 1, (.v (.int .u32 3516065817))), (45, 1, (.v (.int .u32 3600352804))), (46, 1, (.v (.int .u32 4094571909))), (47, 1, (.v (.int .u32 275423344))), (48, 1, (.v (.int .u32 430227734))), (49, 1, (.v (.int .u32 506948616))), (50, 1, (.v (.int .u32 659060556))), (51, 1, (.v (.int .u32 883997877))), (52, 1, (.v (.int .u32 958139571))), (53, 1, (.v (.int .u32 1322822218))), (54, 1, (.v (.int .u32 1537002063))), (55, 1, (.v (.int .u32 1747873779))), (56, 1, (.v (.int .u32 1955562222))), (57, 1, (.v (.int .u32 2024104815))), (58, 1, (.v (.int .u32 2227730452))), (59, 1, (.v (.int .u32 2361852424))), (60, 1, (.v (.int .u32 2428436474))), (61, 1, (.v (.int .u32 2756734187))), (62, 1, (.v (.int .u32 3204031479))), (63, 1, (.v (.int .u32 3329325298)))]⟩,
  ⟨some 3,none,.no,.alloc [(.int .u32 0), (.int .u32 0), (.int .u32 0), (.int .u32 0), (.int .u32 0), (.int .u32 0), (.int .u32 0), (.int .u32 0), (.int .u32 0), (.int .u32 0), (.int .u32 0), (.int .u32 0), (.int .u32 0), (.int .u32 0), (.int .u32 0), (.int .u32 0), (.int .u32 0), (.int .u32 0), (.int .u32 0), (.int .u32 0), (.int .u32 0), (.int .u32 0), (.int .u32 0), (.int .u32 0), (.int .u32 0), (.int .u32 0), (.int .u32 0), (.int .u32 0), (.int .u32 0), (.int .u32 0), (.int .u32 0), (.int .u32 0), (.int .u32 0), (.int .u32 0), (.int .u32 0), (.int .u32 0), (.int .u32 0), (.int .u32 0), (.int .u32 0), (.int .u32 0), (.int .u32 0), (.int .u32 0), (.int .u32 0), (.int .u32 0), (.int .u32 0), (.int .u32 0), (.int .u32 0), (.int .u32 0), (.int .u32 0), (.int .u32 0), (.int .u32 0), (.int .u32 0), (.int .u32 0), (.int .u32 0), (.int .u32 0), (.int .u32 0), (.int .u32 0), (.int .u32 0), (.int .u32 0), (.int .u32 0), (.int .u32 0), (.int .u32 0), (.int .u32 0), (.int .u32 0)]⟩,
  ⟨none,none,.no,.store 64 (.t 3) (.t 26)⟩]
@[go_sem] def q6r2 : List AIns := [
  ⟨some 27,none,.no,.build [(.int .u32 0), (.int .u32 0), (.int .u32 0), (.int .u32 0), (.int .u32 0), (.int .u32 0), (.int .u32 0), (.int .u32 0)] [(0, 1, (.v (.int .u32 1779033703))), (1, 1, (.v (.int .u32 3144134277))), (2, 1, (.v (.int .u32 1013904242))), (3, 1, (.v (.int .u32 2773480762))), (4, 1, (.v (.int .u32 1359893119))), (5, 1, (.v (.int .u32 2600822924))), (6, 1, (.v (.int .u32 528734635))), (7, 1, (.v (.int .u32 1541459225)))]⟩,
  ⟨some 4,none,.no,.alloc [(.int .u32 0), (.int .u32 0), (.int .u32 0), (.int .u32 0), (.int .u32 0), (.int .u32 0), (.int .u32 0), (.int .u32 0)]⟩,
  ⟨none,none,.no,.store 8 (.t 4) (.t 27)⟩]
@[go_sem] def q6r3 : List AIns := [
  ⟨some 28,none,.no,.mv (.t 0)⟩,
  ⟨some 29,none,.no,.call (.v (.fn 88 [])) [(.t 28)]⟩,
  ⟨some 5,none,.no,.mv (.t 29)⟩]
@[go_sem] def q6r4 : List AIns := [
  ⟨some 6,none,.no,.alloc [(.int .u32 0), (.int .u32 0), (.int .u32 0), (.int .u32 0), (.int .u32 0), (.int .u32 0), (.int .u32 0), (.int .u32 0), (.int .u32 0), (.int .u32 0), (.int .u32 0), (.int .u32 0), (.int .u32 0), (.int .u32 0), (.int .u32 0), (.int .u32 0), (.int .u32 0), (.int .u32 0), (.int .u32 0), (.int .u32 0), (.int .u32 0), (.int .u32 0), (.int .u32 0), (.int .u32 0), (.int .u32 0), (.int .u32 0), (.int .u32 0), (.int .u32 0), (.int .u32 0), (.int .u32 0), (.int .u32 0), (.int .u32 0), (.int .u32 0), (.int .u32 0), (.int .u32 0), (.int .u32 0), (.int .u32 0), (.int .u32 0), (.int .u32 0), (.int .u32 0), (.int .u32 0), (.int .u32 0), (.int .u32 0), (.int .u32 0), (.int .u32 0), (.int .u32 0), (.int .u32 0), (.int .u32 0), (.int .u32 0), (.int .u32 0), (.int .u32 0), (.int .u32 0), (.int .u32 0), (.int .u32 0), (.int .u32 0), (.int .u32 0), (.int .u32 0), (.int .u32 0), (.int .u32 0), (.int .u32 0), (.int .u32 0), (.int .u32 0), (.int .u32 0), (.int .u32 0)]⟩]
@[go_sem] def q6r5 : List AIns := [
  ⟨some 7,none,.no,.mv (.v (.int .i64 0))⟩]
@[go_sem] def q6r6 : List AIns := [
  ⟨some 30,none,.no,.mv (.t 7)⟩,
  ⟨some 31,none,.no,.mv (.t 5)⟩,
  ⟨some 32,none,.no,.lenSl (.t 31)⟩,
  ⟨some 33,none,.no,.bin .lss .none (.t 30) (.t 32)⟩]
def q6c7 : ACode := .cond (.t 33) .skip (.exit 0)
def q6c8 : ACode := .seq (.reg q6r6) q6c7
@[go_sem] def q6r9 : List AIns := [
  ⟨some 8,none,.no,.mv (.v (.int .i64 0))⟩]
@[go_sem] def q6r10 : List AIns := [
  ⟨some 36,none,.no,.mv (.t 8)⟩,
  ⟨some 37,none,.no,.bin .lss .none (.t 36) (.v (.int .i64 16))⟩]
def q6c11 : ACode := .cond (.t 37) .skip (.exit 2)
def q6c12 : ACode := .seq (.reg q6r10) q6c11
@[go_sem] def q6r13 : List AIns := [
  ⟨some 40,none,.no,.mv (.t 7)⟩,
  ⟨some 41,none,.no,.mv (.t 8)⟩,
  ⟨some 42,none,.no,.bin .mul .none (.v (.int .i64 4)) (.t 41)⟩,
  ⟨some 43,none,.no,.bin .add .none (.t 40) (.t 42)⟩,
  ⟨some 9,none,.no,.mv (.t 43)⟩]
@[go_sem] def q6r14 : List AIns := [
  ⟨some 44,none,.no,.mv (.t 8)⟩,
  ⟨some 45,none,.no,.mv (.t 5)⟩,
  ⟨some 46,none,.no,.mv (.t 9)⟩,
  ⟨some 47,none,.no,.iaSl 1 (.t 45) (.t 46)⟩,
  ⟨some 48, none, .rd, .load false 1 (.t 47)⟩,
  ⟨some 49,none,.no,.conv (.int .u32) (.t 48)⟩,
  ⟨some 50,none,.no,.bin .shl .none (.t 49) (.v (.int .u64 24))⟩,
  ⟨some 51,none,.no,.mv (.t 5)⟩,
  ⟨some 52,none,.no,.mv (.t 9)⟩,
  ⟨some 53,none,.no,.bin .add .none (.t 52) (.v (.int .i64 1))⟩,
  ⟨some 54,none,.no,.iaSl 1 (.t 51) (.t 53)⟩,
  ⟨some 55, none, .rd, .load false 1 (.t 54)⟩,
  ⟨some 56,none,.no,.conv (.int .u32) (.t 55)⟩,
  ⟨some 57,none,.no,.bin .shl .none (.t 56) (.v (.int .u64 16))⟩,
  ⟨some 58,none,.no,.bin .add .none (.t 50) (.t 57)⟩,
  ⟨some 59,none,.no,.mv (.t 5)⟩,
  ⟨some 60,none,.no,.mv (.t 9)⟩,
  ⟨some 61,none,.no,.bin .add .none (.t 60) (.v (.int .i64 2))⟩,
  ⟨some 62,none,.no,.iaSl 1 (.t 59) (.t 61)⟩,
  ⟨some 63, none, .rd, .load false 1 (.t 62)⟩,
  ⟨some 64,none,.no,.conv (.int .u32) (.t 63)⟩,
  ⟨some 65,none,.no,.bin .shl .none (.t 64) (.v (.int .u64 8))⟩,
  ⟨some 66,none,.no,.bin .add .none (.t 58) (.t 65)⟩,
  ⟨some 67,none,.no,.mv (.t 5)⟩,
  ⟨some 68,none,.no,.mv (.t 9)⟩,
  ⟨some 69,none,.no,.bin .add .none (.t 68) (.v (.int .i64 3))⟩,
  ⟨some 70,none,.no,.iaSl 1 (.t 67) (.t 69)⟩,
  ⟨some 71, none, .rd, .load false 1 (.t 70)⟩,
  ⟨some 72,none,.no,.conv (.int .u32) (.t 71)⟩,
  ⟨some 73,none,.no,.bin .add .none (.t 66) (.t 72)⟩,
  ⟨some 74,none,.no,.iaArr 64 1 (.t 6) (.t 44)⟩,
  ⟨none,none,.no,.store 1 (.t 74) (.t 73)⟩]
def q6c15 : ACode := .seq (.reg q6r13) (.reg q6r14)
@[go_sem] def q6r16 : List AIns := [
  ⟨some 38,none,.no,.mv (.t 8)⟩,
  ⟨some 39,none,.no,.bin .add .none (.t 38) (.v (.int .i64 1))⟩,
  ⟨some 8,none,.no,.mv (.t 39)⟩]
def q6c17 : ACode := .seq (.block 3 q6c15) (.reg q6r16)
def q6c18 : ACode := .seq q6c12 q6c17
def q6c19 : ACode := .loop q6c18
def q6c20 : ACode := .block 2 q6c19
def q6c21 : ACode := .seq (.reg q6r9) q6c20
@[go_sem] def q6r22 : List AIns := [
  ⟨some 10,none,.no,.mv (.v (.int .i64 16))⟩]
@[go_sem] def q6r23 : List AIns := [
  ⟨some 75,none,.no,.mv (.t 10)⟩,
  ⟨some 76,none,.no,.bin .lss .none (.t 75) (.v (.int .i64 64))⟩]
def q6c24 : ACode := .cond (.t 76) .skip (.exit 4)
def q6c25 : ACode := .seq (.reg q6r23) q6c24
@[go_sem] def q6r26 : List AIns := [
  ⟨some 79,none,.no,.mv (.t 10)⟩,
  ⟨some 80,none,.no,.bin .sub .none (.t 79) (.v (.int .i64 15))⟩,
  ⟨some 81,none,.no,.iaArr 64 1 (.t 6) (.t 80)⟩,
  ⟨some 82, none, .rd, .load false 1 (.t 81)⟩,
  ⟨some 83,none,.no,.mv (.t 10)⟩,
  ⟨some 84,none,.no,.bin .sub .none (.t 83) (.v (.int .i64 2))⟩,
  ⟨some 85,none,.no,.iaArr 64 1 (.t 6) (.t 84)⟩,
  ⟨some 86, none, .rd, .load false 1 (.t 85)⟩,
  ⟨some 11,none,.no,.mv (.t 82)⟩,
  ⟨some 12,none,.no,.mv (.t 86)⟩]
@[go_sem] def q6r27 : List AIns := [
  ⟨some 87,none,.no,.mv (.t 10)⟩,
  ⟨some 88,none,.no,.mv (.t 10)⟩,
  ⟨some 89,none,.no,.bin .sub .none (.t 88) (.v (.int .i64 16))⟩,
  ⟨some 90,none,.no,.iaArr 64 1 (.t 6) (.t 89)⟩,
  ⟨some 91, none, .rd, .load false 1 (.t 90)⟩,
  ⟨some 92,none,.no,.mv (.t 11)⟩,
  ⟨some 93, none, .ef, .call (.v (.fn 89 [])) [(.t 92), (.v (.int .u32 7))]⟩,
  ⟨some 94,none,.no,.mv (.t 11)⟩,
  ⟨some 95, none, .ef, .call (.v (.fn 89 [])) [(.t 94), (.v (.int .u32 18))]⟩,
  ⟨some 96,none,.no,.bin .xor .none (.t 93) (.t 95)⟩,
  ⟨some 97,none,.no,.mv (.t 11)⟩,
  ⟨some 98,none,.no,.bin .shr .none (.t 97) (.v (.int .u64 3))⟩,
  ⟨some 99,none,.no,.bin .xor .none (.t 96) (.t 98)⟩,
  ⟨some 100,none,.no,.bin .add .none (.t 91) (.t 99)⟩,
  ⟨some 101,none,.no,.mv (.t 10)⟩,
  ⟨some 102,none,.no,.bin .sub .none (.t 101) (.v (.int .i64 7))⟩,
  ⟨some 103,none,.no,.iaArr 64 1 (.t 6) (.t 102)⟩,
  ⟨some 104, none, .rd, .load false 1 (.t 103)⟩,
  ⟨some 105,none,.no,.bin .add .none (.t 100) (.t 104)⟩,
  ⟨some 106,none,.no,.mv (.t 12)⟩,
  ⟨some 107, none, .ef, .call (.v (.fn 89 [])) [(.t 106), (.v (.int .u32 17))]⟩,
  ⟨some 108,none,.no,.mv (.t 12)⟩,
  ⟨some 109, none, .ef, .call (.v (.fn 89 [])) [(.t 108), (.v (.int .u32 19))]⟩,
  ⟨some 110,none,.no,.bin .xor .none (.t 107) (.t 109)⟩,
  ⟨some 111,none,.no,.mv (.t 12)⟩,
  ⟨some 112,none,.no,.bin .shr .none (.t 111) (.v (.int .u64 10))⟩,
  ⟨some 113,none,.no,.bin .xor .none (.t 110) (.t 112)⟩,
  ⟨some 114,none,.no,.bin .add .none (.t 105) (.t 113)⟩,
  ⟨some 115,none,.no,.iaArr 64 1 (.t 6) (.t 87)⟩,
  ⟨none,none,.no,.store 1 (.t 115) (.t 114)⟩]
def q6c28 : ACode := .seq (.reg q6r26) (.reg q6r27)
@[go_sem] def q6r29 : List AIns := [
  ⟨some 77,none,.no,.mv (.t 10)⟩,
  ⟨some 78,none,.no,.bin .add .none (.t 77) (.v (.int .i64 1))⟩,
  ⟨some 10,none,.no,.mv (.t 78)⟩]
def q6c30 : ACode := .seq (.block 5 q6c28) (.reg q6r29)
def q6c31 : ACode := .seq q6c25 q6c30
def q6c32 : ACode := .loop q6c31
def q6c33 : ACode := .block 4 q6c32
def q6c34 : ACode := .seq (.reg q6r22) q6c33
@[go_sem] def q6r35 : List AIns := [
  ⟨some 116,none,.no,.iaArr 8 1 (.t 4) (.v (.int .i64 0))⟩,
  ⟨some 117, none, .rd, .load false 1 (.t 116)⟩,
  ⟨some 118,none,.no,.iaArr 8 1 (.t 4) (.v (.int .i64 1))⟩,
  ⟨some 119, none, .rd, .load false 1 (.t 118)⟩,
  ⟨some 120,none,.no,.iaArr 8 1 (.t 4) (.v (.int .i64 2))⟩,
  ⟨some 121, none, .rd, .load false 1 (.t 120)⟩,
  ⟨some 122,none,.no,.iaArr 8 1 (.t 4) (.v (.int .i64 3))⟩,
  ⟨some 123, none, .rd, .load false 1 (.t 122)⟩,
  ⟨some 124,none,.no,.iaArr 8 1 (.t 4) (.v (.int .i64 4))⟩,
  ⟨some 125, none, .rd, .load false 1 (.t 124)⟩,
  ⟨some 126,none,.no,.iaArr 8 1 (.t 4) (.v (.int .i64 5))⟩,
  ⟨some 127, none, .rd, .load false 1 (.t 126)⟩,
  ⟨some 128,none,.no,.iaArr 8 1 (.t 4) (.v (.int .i64 6))⟩,
  ⟨some 129, none, .rd, .load false 1 (.t 128)⟩,
  ⟨some 130,none,.no,.iaArr 8 1 (.t 4) (.v (.int .i64 7))⟩,
  ⟨some 131, none, .rd, .load false 1 (.t 130)⟩,
  ⟨some 13,none,.no,.mv (.t 117)⟩,
  ⟨some 14,none,.no,.mv (.t 119)⟩,
  ⟨some 15,none,.no,.mv (.t 121)⟩,
  ⟨some 16,none,.no,.mv (.t 123)⟩,
  ⟨some 17,none,.no,.mv (.t 125)⟩,
  ⟨some 18,none,.no,.mv (.t 127)⟩,
  ⟨some 19,none,.no,.mv (.t 129)⟩,
  ⟨some 20,none,.no,.mv (.t 131)⟩]
@[go_sem] def q6r36 : List AIns := [
  ⟨some 21,none,.no,.mv (.v (.int .i64 0))⟩]
@[go_sem] def q6r37 : List AIns := [
  ⟨some 132,none,.no,.mv (.t 21)⟩,
  ⟨some 133,none,.no,.bin .lss .none (.t 132) (.v (.int .i64 64))⟩]
def q6c38 : ACode := .cond (.t 133) .skip (.exit 6)
def q6c39 : ACode := .seq (.reg q6r37) q6c38
@[go_sem] def q6r40 : List AIns := [
  ⟨some 136,none,.no,.mv (.t 20)⟩,
  ⟨some 137,none,.no,.mv (.t 17)⟩,
  ⟨some 138, none, .ef, .call (.v (.fn 89 [])) [(.t 137), (.v (.int .u32 6))]⟩,
  ⟨some 139,none,.no,.mv (.t 17)⟩,
  ⟨some 140, none, .ef, .call (.v (.fn 89 [])) [(.t 139), (.v (.int .u32 11))]⟩,
  ⟨some 141,none,.no,.bin .xor .none (.t 138) (.t 140)⟩,
  ⟨some 142,none,.no,.mv (.t 17)⟩,
  ⟨some 143, none, .ef, .call (.v (.fn 89 [])) [(.t 142), (.v (.int .u32 25))]⟩,
  ⟨some 144,none,.no,.bin .xor .none (.t 141) (.t 143)⟩,
  ⟨some 145,none,.no,.bin .add .none (.t 136) (.t 144)⟩,
  ⟨some 146,none,.no,.mv (.t 17)⟩,
  ⟨some 147,none,.no,.mv (.t 18)⟩,
  ⟨some 148,none,.no,.bin .and .none (.t 146) (.t 147)⟩,
  ⟨some 149,none,.no,.mv (.t 17)⟩,
  ⟨some 150,none,.no,.un .xor (.t 149)⟩,
  ⟨some 151,none,.no,.mv (.t 19)⟩,
  ⟨some 152,none,.no,.bin .and .none (.t 150) (.t 151)⟩,
  ⟨some 153,none,.no,.bin .xor .none (.t 148) (.t 152)⟩,
  ⟨some 154,none,.no,.bin .add .none (.t 145) (.t 153)⟩,
  ⟨some 155,none,.no,.mv (.t 21)⟩,
  ⟨some 156,none,.no,.iaArr 64 1 (.t 3) (.t 155)⟩,
  ⟨some 157, none, .rd, .load false 1 (.t 156)⟩,
  ⟨some 158,none,.no,.bin .add .none (.t 154) (.t 157)⟩,
  ⟨some 159,none,.no,.mv (.t 21)⟩,
  ⟨some 160,none,.no,.iaArr 64 1 (.t 6) (.t 159)⟩,
  ⟨some 161, none, .rd, .load false 1 (.t 160)⟩,
  ⟨some 162,none,.no,.bin .add .none (.t 158) (.t 161)⟩,
  ⟨some 22,none,.no,.mv (.t 162)⟩]
@[go_sem] def q6r41 : List AIns := [
  ⟨some 163,none,.no,.mv (.t 13)⟩,
  ⟨some 164,none,.no,.call (.v (.fn 89 [])) [(.t 163), (.v (.int .u32 2))]⟩,
  ⟨some 165,none,.no,.mv (.t 13)⟩,
  ⟨some 166,none,.no,.call (.v (.fn 89 [])) [(.t 165), (.v (.int .u32 13))]⟩,
  ⟨some 167,none,.no,.bin .xor .none (.t 164) (.t 166)⟩,
  ⟨some 168,none,.no,.mv (.t 13)⟩,
  ⟨some 169,none,.no,.call (.v (.fn 89 [])) [(.t 168), (.v (.int .u32 22))]⟩,
  ⟨some 170,none,.no,.bin .xor .none (.t 167) (.t 169)⟩,
  ⟨some 171,none,.no,.mv (.t 13)⟩,
  ⟨some 172,none,.no,.mv (.t 14)⟩,
  ⟨some 173,none,.no,.bin .and .none (.t 171) (.t 172)⟩,
  ⟨some 174,none,.no,.mv (.t 13)⟩,
  ⟨some 175,none,.no,.mv (.t 15)⟩,
  ⟨some 176,none,.no,.bin .and .none (.t 174) (.t 175)⟩,
  ⟨some 177,none,.no,.bin .xor .none (.t 173) (.t 176)⟩,
  ⟨some 178,none,.no,.mv (.t 14)⟩,
  ⟨some 179,none,.no,.mv (.t 15)⟩,
  ⟨some 180,none,.no,.bin .and .none (.t 178) (.t 179)⟩,
  ⟨some 181,none,.no,.bin .xor .none (.t 177) (.t 180)⟩,
  ⟨some 182,none,.no,.bin .add .none (.t 170) (.t 181)⟩,
  ⟨some 23,none,.no,.mv (.t 182)⟩]
@[go_sem] def q6r42 : List AIns := [
  ⟨some 183,none,.no,.mv (.t 19)⟩,
  ⟨some 184,none,.no,.mv (.t 18)⟩,
  ⟨some 185,none,.no,.mv (.t 17)⟩,
  ⟨some 186,none,.no,.mv (.t 16)⟩,
  ⟨some 187,none,.no,.mv (.t 22)⟩,
  ⟨some 188,none,.no,.bin .add .none (.t 186) (.t 187)⟩,
  ⟨some 189,none,.no,.mv (.t 15)⟩,
  ⟨some 190,none,.no,.mv (.t 14)⟩,
  ⟨some 191,none,.no,.mv (.t 13)⟩,
  ⟨some 192,none,.no,.mv (.t 22)⟩,
  ⟨some 193,none,.no,.mv (.t 23)⟩,
  ⟨some 194,none,.no,.bin .add .none (.t 192) (.t 193)⟩,
  ⟨some 20,none,.no,.mv (.t 183)⟩,
  ⟨some 19,none,.no,.mv (.t 184)⟩,
  ⟨some 18,none,.no,.mv (.t 185)⟩,
  ⟨some 17,none,.no,.mv (.t 188)⟩,
  ⟨some 16,none,.no,.mv (.t 189)⟩,
  ⟨some 15,none,.no,.mv (.t 190)⟩,
  ⟨some 14,none,.no,.mv (.t 191)⟩,
  ⟨some 13,none,.no,.mv (.t 194)⟩]
def q6c43 : ACode := .seq (.reg q6r41) (.reg q6r42)
def q6c44 : ACode := .seq (.reg q6r40) q6c43
@[go_sem] def q6r45 : List AIns := [
  ⟨some 134,none,.no,.mv (.t 21)⟩,
  ⟨some 135,none,.no,.bin .add .none (.t 134) (.v (.int .i64 1))⟩,
  ⟨some 21,none,.no,.mv (.t 135)⟩]
def q6c46 : ACode := .seq (.block 7 q6c44) (.reg q6r45)
def q6c47 : ACode := .seq q6c39 q6c46
def q6c48 : ACode := .loop q6c47
def q6c49 : ACode := .block 6 q6c48
def q6c50 : ACode := .seq (.reg q6r36) q6c49
@[go_sem] def q6r51 : List AIns := [
  ⟨some 195,none,.no,.iaArr 8 1 (.t 4) (.v (.int .i64 0))⟩,
  ⟨some 196,none,.no,.load false 1 (.t 195)⟩,
  ⟨some 197,none,.no,.mv (.t 13)⟩,
  ⟨some 198,none,.no,.bin .add .none (.t 196) (.t 197)⟩,
  ⟨some 199,none,.no,.iaArr 8 1 (.t 4) (.v (.int .i64 1))⟩,
  ⟨some 200,none,.no,.load false 1 (.t 199)⟩,
  ⟨some 201,none,.no,.mv (.t 14)⟩,
  ⟨some 202,none,.no,.bin .add .none (.t 200) (.t 201)⟩,
  ⟨some 203,none,.no,.iaArr 8 1 (.t 4) (.v (.int .i64 2))⟩,
  ⟨some 204,none,.no,.load false 1 (.t 203)⟩,
  ⟨some 205,none,.no,.mv (.t 15)⟩,
  ⟨some 206,none,.no,.bin .add .none (.t 204) (.t 205)⟩,
  ⟨some 207,none,.no,.iaArr 8 1 (.t 4) (.v (.int .i64 3))⟩,
  ⟨some 208,none,.no,.load false 1 (.t 207)⟩,
  ⟨some 209,none,.no,.mv (.t 16)⟩,
  ⟨some 210,none,.no,.bin .add .none (.t 208) (.t 209)⟩,
  ⟨some 211,none,.no,.iaArr 8 1 (.t 4) (.v (.int .i64 4))⟩,
  ⟨some 212,none,.no,.load false 1 (.t 211)⟩,
  ⟨some 213,none,.no,.mv (.t 17)⟩,
  ⟨some 214,none,.no,.bin .add .none (.t 212) (.t 213)⟩,
  ⟨some 215,none,.no,.iaArr 8 1 (.t 4) (.v (.int .i64 5))⟩,
  ⟨some 216,none,.no,.load false 1 (.t 215)⟩,
  ⟨some 217,none,.no,.mv (.t 18)⟩,
  ⟨some 218,none,.no,.bin .add .none (.t 216) (.t 217)⟩,
  ⟨some 219,none,.no,.iaArr 8 1 (.t 4) (.v (.int .i64 6))⟩,
  ⟨some 220,none,.no,.load false 1 (.t 219)⟩,
  ⟨some 221,none,.no,.mv (.t 19)⟩,
  ⟨some 222,none,.no,.bin .add .none (.t 220) (.t 221)⟩,
  ⟨some 223,none,.no,.iaArr 8 1 (.t 4) (.v (.int .i64 7))⟩,
  ⟨some 224,none,.no,.load false 1 (.t 223)⟩,
  ⟨some 225,none,.no,.mv (.t 20)⟩,
  ⟨some 226,none,.no,.bin .add .none (.t 224) (.t 225)⟩,
  ⟨some 227,none,.no,.iaArr 8 1 (.t 4) (.v (.int .i64 0))⟩,
  ⟨none,none,.no,.store 1 (.t 227) (.t 198)⟩,
  ⟨some 228,none,.no,.iaArr 8 1 (.t 4) (.v (.int .i64 1))⟩,
  ⟨none,none,.no,.store 1 (.t 228) (.t 202)⟩,
  ⟨some 229,none,.no,.iaArr 8 1 (.t 4) (.v (.int .i64 2))⟩,
  ⟨none,none,.no,.store 1 (.t 229) (.t 206)⟩,
  ⟨some 230,none,.no,.iaArr 8 1 (.t 4) (.v (.int .i64 3))⟩,
  ⟨none,none,.no,.store 1 (.t 230) (.t 210)⟩,
  ⟨some 231,none,.no,.iaArr 8 1 (.t 4) (.v (.int .i64 4))⟩,
  ⟨none,none,.no,.store 1 (.t 231) (.t 214)⟩,
  ⟨some 232,none,.no,.iaArr 8 1 (.t 4) (.v (.int .i64 5))⟩,
  ⟨none,none,.no,.store 1 (.t 232) (.t 218)⟩,
  ⟨some 233,none,.no,.iaArr 8 1 (.t 4) (.v (.int .i64 6))⟩,
  ⟨none,none,.no,.store 1 (.t 233) (.t 222)⟩,
  ⟨some 234,none,.no,.iaArr 8 1 (.t 4) (.v (.int .i64 7))⟩,
  ⟨none,none,.no,.store 1 (.t 234) (.t 226)⟩]
def q6c52 : ACode := .seq q6c50 (.reg q6r51)
def q6c53 : ACode := .seq (.reg q6r35) q6c52
def q6c54 : ACode := .seq q6c34 q6c53
def q6c55 : ACode := .seq q6c21 q6c54
@[go_sem] def q6r56 : List AIns := [
  ⟨some 34,none,.no,.mv (.t 7)⟩,
  ⟨some 35,none,.no,.bin .add .none (.t 34) (.v (.int .i64 64))⟩,
  ⟨some 7,none,.no,.mv (.t 35)⟩]
def q6c57 : ACode := .seq (.block 1 q6c55) (.reg q6r56)
def q6c58 : ACode := .seq q6c8 q6c57
def q6c59 : ACode := .loop q6c58
def q6c60 : ACode := .block 0 q6c59
def q6c61 : ACode := .seq (.reg q6r5) q6c60
@[go_sem] def q6r62 : List AIns := [
  ⟨some 24,none,.no,.alloc zZ0⟩]
@[go_sem] def q6r63 : List AIns := [
  ⟨some 25,none,.no,.mv (.v (.int .i64 0))⟩]
@[go_sem] def q6r64 : List AIns := [
  ⟨some 235,none,.no,.mv (.t 25)⟩,
  ⟨some 236,none,.no,.bin .lss .none (.t 235) (.v (.int .i64 32))⟩]
def q6c65 : ACode := .cond (.t 236) .skip (.exit 8)
def q6c66 : ACode := .seq (.reg q6r64) q6c65
@[go_sem] def q6r67 : List AIns := [
  ⟨some 239,none,.no,.mv (.t 25)⟩,
  ⟨some 240,none,.no,.mv (.t 25)⟩,
  ⟨some 241,none,.no,.bin .quo .none (.t 240) (.v (.int .i64 4))⟩,
  ⟨some 242,none,.no,.iaArr 8 1 (.t 4) (.t 241)⟩,
  ⟨some 243,none,.no,.load false 1 (.t 242)⟩,
  ⟨some 244,none,.no,.mv (.t 25)⟩,
  ⟨some 245,none,.no,.bin .rem .none (.t 244) (.v (.int .i64 4))⟩,
  ⟨some 246,none,.no,.bin .mul .none (.v (.int .i64 8)) (.t 245)⟩,
  ⟨some 247,none,.no,.bin .sub .none (.v (.int .i64 24)) (.t 246)⟩,
  ⟨some 248,none,.no,.bin .shr .none (.t 243) (.t 247)⟩,
  ⟨some 249,none,.no,.conv (.int .u8) (.t 248)⟩,
  ⟨some 250,none,.no,.iaArr 32 1 (.t 24) (.t 239)⟩,
  ⟨none,none,.no,.store 1 (.t 250) (.t 249)⟩]
@[go_sem] def q6r68 : List AIns := [
  ⟨some 237,none,.no,.mv (.t 25)⟩,
  ⟨some 238,none,.no,.bin .add .none (.t 237) (.v (.int .i64 1))⟩,
  ⟨some 25,none,.no,.mv (.t 238)⟩]
def q6c69 : ACode := .seq (.block 9 (.reg q6r67)) (.reg q6r68)
def q6c70 : ACode := .seq q6c66 q6c69
def q6c71 : ACode := .loop q6c70
def q6c72 : ACode := .block 8 q6c71
def q6c73 : ACode := .seq (.reg q6r63) q6c72
@[go_sem] def q6r74 : List AIns := [
  ⟨some 251,none,.no,.load true 32 (.t 24)⟩,
  ⟨none,none,.no,.store 32 (.t 2) (.t 251)⟩]
def q6c75 : ACode := .seq (.reg q6r74) .ret
def q6c76 : ACode := .seq q6c73 q6c75
def q6c77 : ACode := .seq (.reg q6r62) q6c76
def q6c78 : ACode := .seq q6c61 q6c77
def q6c79 : ACode := .seq (.reg q6r4) q6c78
def q6c80 : ACode := .seq (.reg q6r3) q6c79
def q6c81 : ACode := .seq (.reg q6r2) q6c80
def q6c82 : ACode := .seq (.reg q6r1) q6c81
def q6c83 : ACode := .seq (.reg q6r0) q6c82
theorem q6ok : cFn TC 69 = some (252, [.c 2 true 32], q6c83) := by kernel_rfl



@[go_sem] def q7r0 : List AIns := [
  ⟨some 2,none,.no,.alloc zZ0⟩]
@[go_sem] def q7r1 : List AIns := [
  ⟨some 8,none,.no,.load true 8 (.v (.vp zbe))⟩,
  ⟨some 3,none,.no,.alloc [(.int .u32 0), (.int .u32 0), (.int .u32 0), (.int .u32 0), (.int .u32 0), (.int .u32 0), (.int .u32 0), (.int .u32 0)]⟩,
  ⟨none,none,.no,.store 8 (.t 3) (.t 8)⟩]
@[go_sem] def q7r2 : List AIns := [
  ⟨some 9,none,.no,.mv (.t 0)⟩,
  ⟨some 10,none,.no,.call (.v (.fn 67 [])) [(.t 9)]⟩,
  ⟨some 4,none,.no,.mv (.t 10)⟩]
@[go_sem] def q7r3 : List AIns := [
  ⟨some 11,none,.no,.mv (.t 4)⟩,
  ⟨some 12,none,.no,.bin .neq .none (.t 11) (.v (.str []))⟩]
def q7c4 : ACode := .cond (.t 12) .skip (.exit 0)
def q7c5 : ACode := .seq (.reg q7r3) q7c4
@[go_sem] def q7r6 : List AIns := [
  ⟨some 15,none,.no,.load true 8 (.t 3)⟩,
  ⟨some 16,none,.no,.mv (.t 4)⟩,
  ⟨some 17,none,.no,.slice .str (.t 16) none (some (.v (.int .i64 64))) none⟩,
  ⟨some 18,none,.no,.call (.v (.fn 68 [])) [(.t 15), (.t 17)]⟩,
  ⟨none,none,.no,.store 8 (.t 3) (.t 18)⟩]
@[go_sem] def q7r7 : List AIns := [
  ⟨some 13,none,.no,.mv (.t 4)⟩,
  ⟨some 14,none,.no,.slice .str (.t 13) (some (.v (.int .i64 64))) none none⟩,
  ⟨some 4,none,.no,.mv (.t 14)⟩]
def q7c8 : ACode := .seq (.block 1 (.reg q7r6)) (.reg q7r7)
def q7c9 : ACode := .seq q7c5 q7c8
def q7c10 : ACode := .loop q7c9
def q7c11 : ACode := .block 0 q7c10
def q7c12 : ACode := .seq (.reg q7r2) q7c11
@[go_sem] def q7r13 : List AIns := [
  ⟨some 5,none,.no,.alloc zZ0⟩]
@[go_sem] def q7r14 : List AIns := [
  ⟨some 19,none,.no,.load true 8 (.t 3)⟩,
  ⟨some 20,none,.no,.mv (.v (.int .i64 0))⟩]
@[go_sem] def q7r15 : List AIns := [
  ⟨some 21,none,.no,.bin .lss .none (.t 20) (.v (.int .i64 8))⟩]
@[go_sem] def q7r16 : List AIns := [
  ⟨some 22,none,.no,.mv (.t 20)⟩,
  ⟨some 23,none,.no,.ixArr 8 false 1 (.t 19) (.t 20)⟩,
  ⟨some 6,none,.no,.mv (.t 22)⟩,
  ⟨some 7,none,.no,.mv (.t 23)⟩]
@[go_sem] def q7r17 : List AIns := [
  ⟨some 24,none,.no,.mv (.t 6)⟩,
  ⟨some 25,none,.no,.bin .mul .none (.v (.int .i64 4)) (.t 24)⟩,
  ⟨some 26,none,.no,.slice (.arr 32 1) (.t 5) (some (.t 25)) none none⟩,
  ⟨some 27,none,.no,.mv (.t 7)⟩,
  ⟨some 28,none,.no,.conv (.int .u64) (.t 27)⟩,
  ⟨some 29,none,.no,.call (.v (.fn 61 [])) [(.t 28), (.v (.int .i64 4))]⟩,
  ⟨some 30,none,.no,.copy 1 (.t 26) (.t 29)⟩]
def q7c18 : ACode := .seq (.reg q7r16) (.reg q7r17)
@[go_sem] def q7r19 : List AIns := [
  ⟨some 31,none,.no,.bin .add .none (.t 20) (.v (.int .i64 1))⟩,
  ⟨some 20,none,.no,.mv (.t 31)⟩]
def q7c20 : ACode := .seq (.block 3 q7c18) (.reg q7r19)
def q7c21 : ACode := .seq (.cond (.t 21) .skip (.exit 2)) q7c20
def q7c22 : ACode := .seq (.reg q7r15) q7c21
def q7c23 : ACode := .loop q7c22
def q7c24 : ACode := .block 2 q7c23
def q7c25 : ACode := .seq (.reg q7r14) q7c24
@[go_sem] def q7r26 : List AIns := [
  ⟨some 32,none,.no,.load true 32 (.t 5)⟩,
  ⟨none,none,.no,.store 32 (.t 2) (.t 32)⟩]
def q7c27 : ACode := .seq (.reg q7r26) .ret
def q7c28 : ACode := .seq q7c25 q7c27
def q7c29 : ACode := .seq (.reg q7r13) q7c28
def q7c30 : ACode := .seq q7c12 q7c29
def q7c31 : ACode := .seq (.reg q7r1) q7c30
def q7c32 : ACode := .seq (.reg q7r0) q7c31
theorem q7ok : cFn TC 46 = some (33, [.c 2 true 32], q7c32) := by kernel_rfl

@[go_sem] def q8r0 : List AIns := [
  ⟨some 2,none,.no,.mv (.v .nilsl)⟩]
@[go_sem] def q8r1 : List AIns := [
  ⟨some 6,none,.no,.mv (.t 0)⟩,
  ⟨some 7,none,.no,.conv .bytes (.t 6)⟩,
  ⟨some 8,none,.no,.lit 1 [(.v (.int .u8 128))]⟩,
  ⟨some 9,none,.no,.appB (.t 7) (.t 8)⟩,
  ⟨some 3,none,.no,.mv (.t 9)⟩]
@[go_sem] def q8r2 : List AIns := [
  ⟨some 10,none,.no,.mv (.t 3)⟩,
  ⟨some 11,none,.no,.lenSl (.t 10)⟩,
  ⟨some 12,none,.no,.bin .rem .none (.t 11) (.v (.int .i64 64))⟩,
  ⟨some 13,none,.no,.bin .neq .none (.t 12) (.v (.int .i64 56))⟩]
def q8c3 : ACode := .cond (.t 13) .skip (.exit 0)
def q8c4 : ACode := .seq (.reg q8r2) q8c3
@[go_sem] def q8r5 : List AIns := [
  ⟨some 14,none,.no,.mv (.t 3)⟩,
  ⟨some 15,none,.no,.lit 1 [(.v (.int .u8 0))]⟩,
  ⟨some 16,none,.no,.appB (.t 14) (.t 15)⟩,
  ⟨some 3,none,.no,.mv (.t 16)⟩]
def q8c6 : ACode := .block 1 (.reg q8r5)
def q8c7 : ACode := .seq q8c4 q8c6
def q8c8 : ACode := .loop q8c7
@[go_sem] def q8r9 : List AIns := [
  ⟨some 17,none,.no,.mv (.t 0)⟩,
  ⟨some 18,none,.no,.lenStr (.t 17)⟩,
  ⟨some 19,none,.no,.conv (.int .u64) (.t 18)⟩,
  ⟨some 20,none,.no,.bin .mul .none (.t 19) (.v (.int .u64 8))⟩,
  ⟨some 4,none,.no,.mv (.t 20)⟩]
@[go_sem] def q8r10 : List AIns := [
  ⟨some 5,none,.no,.mv (.v (.int .i64 7))⟩]
@[go_sem] def q8r11 : List AIns := [
  ⟨some 21,none,.no,.mv (.t 5)⟩,
  ⟨some 22,none,.no,.bin .geq .none (.t 21) (.v (.int .i64 0))⟩]
def q8c12 : ACode := .cond (.t 22) .skip (.exit 2)
def q8c13 : ACode := .seq (.reg q8r11) q8c12
@[go_sem] def q8r14 : List AIns := [
  ⟨some 25,none,.no,.mv (.t 3)⟩,
  ⟨some 26,none,.no,.mv (.t 4)⟩,
  ⟨some 27,none,.no,.mv (.t 5)⟩,
  ⟨some 28,none,.no,.bin .mul .none (.v (.int .i64 8)) (.t 27)⟩,
  ⟨some 29,none,.no,.bin .shr .none (.t 26) (.t 28)⟩,
  ⟨some 30,none,.no,.conv (.int .u8) (.t 29)⟩,
  ⟨some 31,none,.no,.lit 1 [(.t 30)]⟩,
  ⟨some 32,none,.no,.appB (.t 25) (.t 31)⟩,
  ⟨some 3,none,.no,.mv (.t 32)⟩]
@[go_sem] def q8r15 : List AIns := [
  ⟨some 23,none,.no,.mv (.t 5)⟩,
  ⟨some 24,none,.no,.bin .sub .none (.t 23) (.v (.int .i64 1))⟩,
  ⟨some 5,none,.no,.mv (.t 24)⟩]
def q8c16 : ACode := .seq (.block 3 (.reg q8r14)) (.reg q8r15)
def q8c17 : ACode := .seq q8c13 q8c16
def q8c18 : ACode := .loop q8c17
def q8c19 : ACode := .block 2 q8c18
def q8c20 : ACode := .seq (.reg q8r10) q8c19
@[go_sem] def q8r21 : List AIns := [
  ⟨some 33,none,.no,.mv (.t 3)⟩,
  ⟨some 2,none,.no,.mv (.t 33)⟩]
def q8c22 : ACode := .seq (.reg q8r21) .ret
def q8c23 : ACode := .seq q8c20 q8c22
def q8c24 : ACode := .seq (.reg q8r9) q8c23
def q8c25 : ACode := .seq (.block 0 q8c8) q8c24
def q8c26 : ACode := .seq (.reg q8r1) q8c25
def q8c27 : ACode := .seq (.reg q8r0) q8c26
theorem q8ok : cFn TC 88 = some (34, [.t 2], q8c27) := by kernel_rfl

@[go_sem] def q9r0 : List AIns := [
  ⟨some 4,none,.no,.mv (.v (.int .u32 0))⟩]
@[go_sem] def q9r1 : List AIns := [
  ⟨some 5,none,.no,.mv (.t 0)⟩,
  ⟨some 6,none,.no,.mv (.t 1)⟩,
  ⟨some 7,none,.no,.bin .shr .none (.t 5) (.t 6)⟩,
  ⟨some 8,none,.no,.mv (.t 0)⟩,
  ⟨some 9,none,.no,.mv (.t 1)⟩,
  ⟨some 10,none,.no,.bin .sub .none (.v (.int .u32 32)) (.t 9)⟩,
  ⟨some 11,none,.no,.bin .shl .none (.t 8) (.t 10)⟩,
  ⟨some 12,none,.no,.bin .or .none (.t 7) (.t 11)⟩,
  ⟨some 4,none,.no,.mv (.t 12)⟩]
def q9c2 : ACode := .seq (.reg q9r1) .ret
def q9c3 : ACode := .seq (.reg q9r0) q9c2
theorem q9ok : cFn TC 89 = some (13, [.t 4], q9c3) := by kernel_rfl

@[go_sem] def qar0 : List AIns := [
  ⟨some 2,none,.no,.mv (.v (.str []))⟩]
@[go_sem] def qar1 : List AIns := [
  ⟨some 4,none,.no,.mv (.t 0)⟩,
  ⟨some 5,none,.no,.lenStr (.t 4)⟩,
  ⟨some 6,none,.no,.bin .rem .none (.t 5) (.v (.int .i64 64))⟩,
  ⟨some 7,none,.no,.bin .sub .none (.v (.int .i64 119)) (.t 6)⟩,
  ⟨some 8,none,.no,.bin .rem .none (.t 7) (.v (.int .i64 64))⟩,
  ⟨some 3,none,.no,.mv (.t 8)⟩]
@[go_sem] def qar2 : List AIns := [
  ⟨some 9,none,.no,.mv (.t 0)⟩,
  ⟨some 10,none,.no,.bin .add .none (.t 9) (.v (.str [128]))⟩,
  ⟨some 11,none,.no,.mv (.t 3)⟩,
  ⟨some 12,none,.no,.call (.v (.fn 85 [])) [(.v (.str [0])), (.t 11)]⟩,
  ⟨some 13,none,.no,.bin .add .none (.t 10) (.t 12)⟩,
  ⟨some 14,none,.no,.mv (.t 0)⟩,
  ⟨some 15,none,.no,.lenStr (.t 14)⟩,
  ⟨some 16,none,.no,.conv (.int .u64) (.t 15)⟩,
  ⟨some 17,none,.no,.bin .mul .none (.t 16) (.v (.int .u64 8))⟩,
  ⟨some 18,none,.no,.call (.v (.fn 61 [])) [(.t 17), (.v (.int .i64 8))]⟩,
  ⟨some 19,none,.no,.bin .add .none (.t 13) (.t 18)⟩,
  ⟨some 2,none,.no,.mv (.t 19)⟩]
def qac3 : ACode := .seq (.reg qar2) .ret
def qac4 : ACode := .seq (.reg qar1) qac3
def qac5 : ACode := .seq (.reg qar0) qac4
theorem qaok : cFn TC 67 = some (20, [.t 2], qac5) := by kernel_rfl

@[go_sem] def qbr0 : List AIns := [
  ⟨some 2,none,.no,.box (.t 0)⟩,
  ⟨some 4,none,.no,.alloc [(.int .u32 0), (.int .u32 0), (.int .u32 0), (.int .u32 0), (.int .u32 0), (.int .u32 0), (.int .u32 0), (.int .u32 0)]⟩]
@[go_sem] def qbr1 : List AIns := [
  ⟨some 13,none,.no,.load true 8 (.t 2)⟩,
  ⟨some 5,none,.no,.alloc [(.int .u32 0), (.int .u32 0), (.int .u32 0), (.int .u32 0), (.int .u32 0), (.int .u32 0), (.int .u32 0), (.int .u32 0)]⟩,
  ⟨none,none,.no,.store 8 (.t 5) (.t 13)⟩]
@[go_sem] def qbr2 : List AIns := [
  ⟨some 14,none,.no,.mv (.t 1)⟩,
  ⟨some 15,none,.no,.call (.v (.fn 86 [])) [(.t 14)]⟩,
  ⟨some 16,none,.no,.mv (.v (.int .i64 0))⟩]
@[go_sem] def qbr3 : List AIns := [
  ⟨some 17,none,.no,.bin .lss .none (.t 16) (.v (.int .i64 64))⟩]
@[go_sem] def qbr4 : List AIns := [
  ⟨some 18,none,.no,.mv (.t 16)⟩,
  ⟨some 19,none,.no,.ixArr 64 false 1 (.t 15) (.t 16)⟩,
  ⟨some 6,none,.no,.mv (.t 18)⟩,
  ⟨some 7,none,.no,.mv (.t 19)⟩]
@[go_sem] def qbr5 : List AIns := [
  ⟨some 20,none,.no,.iaArr 8 1 (.t 5) (.v (.int .i64 0))⟩,
  ⟨some 21, none, .rd, .load false 1 (.t 20)⟩,
  ⟨some 22,none,.no,.iaArr 8 1 (.t 5) (.v (.int .i64 4))⟩,
  ⟨some 23, none, .rd, .load false 1 (.t 22)⟩,
  ⟨some 8,none,.no,.mv (.t 21)⟩,
  ⟨some 9,none,.no,.mv (.t 23)⟩]
@[go_sem] def qbr6 : List AIns := [
  ⟨some 24,none,.no,.iaArr 8 1 (.t 5) (.v (.int .i64 7))⟩,
  ⟨some 25, none, .rd, .load false 1 (.t 24)⟩,
  ⟨some 26,none,.no,.mv (.t 9)⟩,
  ⟨some 27, none, .ef, .call (.v (.fn 87 [])) [(.t 26), (.v (.int .i64 6))]⟩,
  ⟨some 28,none,.no,.mv (.t 9)⟩,
  ⟨some 29, none, .ef, .call (.v (.fn 87 [])) [(.t 28), (.v (.int .i64 11))]⟩,
  ⟨some 30,none,.no,.bin .xor .none (.t 27) (.t 29)⟩,
  ⟨some 31,none,.no,.mv (.t 9)⟩,
  ⟨some 32, none, .ef, .call (.v (.fn 87 [])) [(.t 31), (.v (.int .i64 25))]⟩,
  ⟨some 33,none,.no,.bin .xor .none (.t 30) (.t 32)⟩,
  ⟨some 34,none,.no,.bin .add .none (.t 25) (.t 33)⟩,
  ⟨some 35,none,.no,.mv (.t 9)⟩,
  ⟨some 36,none,.no,.iaArr 8 1 (.t 5) (.v (.int .i64 5))⟩,
  ⟨some 37, none, .rd, .load false 1 (.t 36)⟩,
  ⟨some 38,none,.no,.bin .and .none (.t 35) (.t 37)⟩,
  ⟨some 39,none,.no,.mv (.t 9)⟩,
  ⟨some 40,none,.no,.un .xor (.t 39)⟩,
  ⟨some 41,none,.no,.iaArr 8 1 (.t 5) (.v (.int .i64 6))⟩,
  ⟨some 42, none, .rd, .load false 1 (.t 41)⟩,
  ⟨some 43,none,.no,.bin .and .none (.t 40) (.t 42)⟩,
  ⟨some 44,none,.no,.bin .xor .none (.t 38) (.t 43)⟩,
  ⟨some 45,none,.no,.bin .add .none (.t 34) (.t 44)⟩,
  ⟨some 46,none,.no,.mv (.t 6)⟩,
  ⟨some 47,none,.no,.iaArr 64 1 (.v (.vp gl_sha_rounds)) (.t 46)⟩,
  ⟨some 48, none, .rd, .load false 1 (.t 47)⟩,
  ⟨some 49,none,.no,.bin .add .none (.t 45) (.t 48)⟩,
  ⟨some 50,none,.no,.mv (.t 7)⟩,
  ⟨some 51,none,.no,.bin .add .none (.t 49) (.t 50)⟩,
  ⟨some 10,none,.no,.mv (.t 51)⟩]
@[go_sem] def qbr7 : List AIns := [
  ⟨some 52,none,.no,.mv (.t 8)⟩,
  ⟨some 53, none, .ef, .call (.v (.fn 87 [])) [(.t 52), (.v (.int .i64 2))]⟩,
  ⟨some 54,none,.no,.mv (.t 8)⟩,
  ⟨some 55, none, .ef, .call (.v (.fn 87 [])) [(.t 54), (.v (.int .i64 13))]⟩,
  ⟨some 56,none,.no,.bin .xor .none (.t 53) (.t 55)⟩,
  ⟨some 57,none,.no,.mv (.t 8)⟩,
  ⟨some 58, none, .ef, .call (.v (.fn 87 [])) [(.t 57), (.v (.int .i64 22))]⟩,
  ⟨some 59,none,.no,.bin .xor .none (.t 56) (.t 58)⟩,
  ⟨some 60,none,.no,.mv (.t 8)⟩,
  ⟨some 61,none,.no,.iaArr 8 1 (.t 5) (.v (.int .i64 1))⟩,
  ⟨some 62, none, .rd, .load false 1 (.t 61)⟩,
  ⟨some 63,none,.no,.bin .and .none (.t 60) (.t 62)⟩,
  ⟨some 64,none,.no,.mv (.t 8)⟩,
  ⟨some 65,none,.no,.iaArr 8 1 (.t 5) (.v (.int .i64 2))⟩,
  ⟨some 66, none, .rd, .load false 1 (.t 65)⟩,
  ⟨some 67,none,.no,.bin .and .none (.t 64) (.t 66)⟩,
  ⟨some 68,none,.no,.bin .xor .none (.t 63) (.t 67)⟩,
  ⟨some 69,none,.no,.iaArr 8 1 (.t 5) (.v (.int .i64 1))⟩,
  ⟨some 70, none, .rd, .load false 1 (.t 69)⟩,
  ⟨some 71,none,.no,.iaArr 8 1 (.t 5) (.v (.int .i64 2))⟩,
  ⟨some 72, none, .rd, .load false 1 (.t 71)⟩,
  ⟨some 73,none,.no,.bin .and .none (.t 70) (.t 72)⟩,
  ⟨some 74,none,.no,.bin .xor .none (.t 68) (.t 73)⟩,
  ⟨some 75,none,.no,.bin .add .none (.t 59) (.t 74)⟩,
  ⟨some 11,none,.no,.mv (.t 75)⟩]
@[go_sem] def qbr8 : List AIns := [
  ⟨some 76,none,.no,.mv (.t 10)⟩,
  ⟨some 77,none,.no,.mv (.t 11)⟩,
  ⟨some 78,none,.no,.bin .add .none (.t 76) (.t 77)⟩,
  ⟨some 79,none,.no,.mv (.t 8)⟩,
  ⟨some 80,none,.no,.iaArr 8 1 (.t 5) (.v (.int .i64 1))⟩,
  ⟨some 81,none,.no,.load false 1 (.t 80)⟩,
  ⟨some 82,none,.no,.iaArr 8 1 (.t 5) (.v (.int .i64 2))⟩,
  ⟨some 83,none,.no,.load false 1 (.t 82)⟩,
  ⟨some 84,none,.no,.iaArr 8 1 (.t 5) (.v (.int .i64 3))⟩,
  ⟨some 85,none,.no,.load false 1 (.t 84)⟩,
  ⟨some 86,none,.no,.mv (.t 10)⟩,
  ⟨some 87,none,.no,.bin .add .none (.t 85) (.t 86)⟩,
  ⟨some 88,none,.no,.mv (.t 9)⟩,
  ⟨some 89,none,.no,.iaArr 8 1 (.t 5) (.v (.int .i64 5))⟩,
  ⟨some 90,none,.no,.load false 1 (.t 89)⟩,
  ⟨some 91,none,.no,.iaArr 8 1 (.t 5) (.v (.int .i64 6))⟩,
  ⟨some 92,none,.no,.load false 1 (.t 91)⟩,
  ⟨some 93,none,.no,.build [(.int .u32 0), (.int .u32 0), (.int .u32 0), (.int .u32 0), (.int .u32 0), (.int .u32 0), (.int .u32 0), (.int .u32 0)] [(0, 1, (.t 78)), (1, 1, (.t 79)), (2, 1, (.t 81)), (3, 1, (.t 83)), (4, 1, (.t 87)), (5, 1, (.t 88)), (6, 1, (.t 90)), (7, 1, (.t 92))]⟩,
  ⟨none,none,.no,.store 8 (.t 5) (.t 93)⟩]
def qbc9 : ACode := .seq (.reg qbr7) (.reg qbr8)
def qbc10 : ACode := .seq (.reg qbr6) qbc9
def qbc11 : ACode := .seq (.reg qbr5) qbc10
def qbc12 : ACode := .seq (.reg qbr4) qbc11
@[go_sem] def qbr13 : List AIns := [
  ⟨some 94,none,.no,.bin .add .none (.t 16) (.v (.int .i64 1))⟩,
  ⟨some 16,none,.no,.mv (.t 94)⟩]
def qbc14 : ACode := .seq (.block 1 qbc12) (.reg qbr13)
def qbc15 : ACode := .seq (.cond (.t 17) .skip (.exit 0)) qbc14
def qbc16 : ACode := .seq (.reg qbr3) qbc15
def qbc17 : ACode := .loop qbc16
def qbc18 : ACode := .block 0 qbc17
def qbc19 : ACode := .seq (.reg qbr2) qbc18
@[go_sem] def qbr20 : List AIns := [
  ⟨some 95,none,.no,.mv (.v (.int .i64 0))⟩]
@[go_sem] def qbr21 : List AIns := [
  ⟨some 96,none,.no,.bin .lss .none (.t 95) (.v (.int .i64 8))⟩]
@[go_sem] def qbr22 : List AIns := [
  ⟨some 97,none,.no,.mv (.t 95)⟩,
  ⟨some 12,none,.no,.mv (.t 97)⟩]
@[go_sem] def qbr23 : List AIns := [
  ⟨some 98,none,.no,.mv (.t 12)⟩,
  ⟨some 99,none,.no,.iaArr 8 1 (.t 5) (.t 98)⟩,
  ⟨some 100, none, .rd, .load false 1 (.t 99)⟩,
  ⟨some 101,none,.no,.mv (.t 12)⟩,
  ⟨some 102,none,.no,.iaArr 8 1 (.t 2) (.t 101)⟩,
  ⟨some 103, none, .rd, .load false 1 (.t 102)⟩,
  ⟨some 104,none,.no,.bin .add .none (.t 100) (.t 103)⟩,
  ⟨some 105,none,.no,.iaArr 8 1 (.t 5) (.t 98)⟩,
  ⟨none,none,.no,.store 1 (.t 105) (.t 104)⟩]
def qbc24 : ACode := .seq (.reg qbr22) (.reg qbr23)
@[go_sem] def qbr25 : List AIns := [
  ⟨some 106,none,.no,.bin .add .none (.t 95) (.v (.int .i64 1))⟩,
  ⟨some 95,none,.no,.mv (.t 106)⟩]
def qbc26 : ACode := .seq (.block 3 qbc24) (.reg qbr25)
def qbc27 : ACode := .seq (.cond (.t 96) .skip (.exit 2)) qbc26
def qbc28 : ACode := .seq (.reg qbr21) qbc27
def qbc29 : ACode := .loop qbc28
def qbc30 : ACode := .block 2 qbc29
def qbc31 : ACode := .seq (.reg qbr20) qbc30
@[go_sem] def qbr32 : List AIns := [
  ⟨some 107,none,.no,.load true 8 (.t 5)⟩,
  ⟨none,none,.no,.store 8 (.t 4) (.t 107)⟩]
def qbc33 : ACode := .seq (.reg qbr32) .ret
def qbc34 : ACode := .seq qbc31 qbc33
def qbc35 : ACode := .seq qbc19 qbc34
def qbc36 : ACode := .seq (.reg qbr1) qbc35
def qbc37 : ACode := .seq (.reg qbr0) qbc36
theorem qbok : cFn TC 68 = some (108, [.c 4 true 8], qbc37) := by kernel_rfl

@[go_sem] def qcr0 : List AIns := [
  ⟨some 2,none,.no,.alloc [(.int .u32 0), (.int .u32 0), (.int .u32 0), (.int .u32 0), (.int .u32 0), (.int .u32 0), (.int .u32 0), (.int .u32 0), (.int .u32 0), (.int .u32 0), (.int .u32 0), (.int .u32 0), (.int .u32 0), (.int .u32 0), (.int .u32 0), (.int .u32 0), (.int .u32 0), (.int .u32 0), (.int .u32 0), (.int .u32 0), (.int .u32 0), (.int .u32 0), (.int .u32 0), (.int .u32 0), (.int .u32 0), (.int .u32 0), (.int .u32 0), (.int .u32 0), (.int .u32 0), (.int .u32 0), (.int .u32 0), (.int .u32 0), (.int .u32 0), (.int .u32 0), (.int .u32 0), (.int .u32 0), (.int .u32 0), (.int .u32 0), (.int .u32 0), (.int .u32 0), (.int .u32 0), (.int .u32 0), (.int .u32 0), (.int .u32 0), (.int .u32 0), (.int .u32 0), (.int .u32 0), (.int .u32 0), (.int .u32 0), (.int .u32 0), (.int .u32 0), (.int .u32 0), (.int .u32 0), (.int .u32 0), (.int .u32 0), (.int .u32 0), (.int .u32 0), (.int .u32 0), (.int .u32 0), (.int .u32 0), (.int .u32 0), (.int .u32 0), (.int .u32 0), (.int .u32 0)]⟩]
@[go_sem] def qcr1 : List AIns := [
  ⟨some 6,none,.no,.mv (.v (.int .i64 0))⟩]
@[go_sem] def qcr2 : List AIns := [
  ⟨some 7,none,.no,.bin .lss .none (.t 6) (.v (.int .i64 64))⟩]
@[go_sem] def qcr3 : List AIns := [
  ⟨some 8,none,.no,.mv (.t 6)⟩,
  ⟨some 3,none,.no,.mv (.t 8)⟩]
@[go_sem] def qcr4 : List AIns := [
  ⟨some 9,none,.no,.mv (.t 3)⟩,
  ⟨some 10,none,.no,.bin .lss .none (.t 9) (.v (.int .i64 16))⟩]
@[go_sem] def qcr5 : List AIns := [
  ⟨some 11,none,.no,.mv (.t 3)⟩,
  ⟨some 12,none,.no,.mv (.t 0)⟩,
  ⟨some 13,none,.no,.mv (.t 3)⟩,
  ⟨some 14,none,.no,.bin .mul .none (.v (.int .i64 4)) (.t 13)⟩,
  ⟨some 15,none,.no,.mv (.t 3)⟩,
  ⟨some 16,none,.no,.bin .mul .none (.v (.int .i64 4)) (.t 15)⟩,
  ⟨some 17,none,.no,.bin .add .none (.t 16) (.v (.int .i64 4))⟩,
  ⟨some 18,none,.no,.slice .str (.t 12) (some (.t 14)) (some (.t 17)) none⟩,
  ⟨some 19,none,.no,.call (.v (.fn 98 [])) [(.t 18)]⟩,
  ⟨some 20,none,.no,.conv (.int .u32) (.t 19)⟩,
  ⟨some 21,none,.no,.iaArr 64 1 (.t 2) (.t 11)⟩,
  ⟨none,none,.no,.store 1 (.t 21) (.t 20)⟩]
def qcc6 : ACode := .seq (.reg qcr5) (.exit 1)
def qcc7 : ACode := .cond (.t 10) qcc6 .skip
def qcc8 : ACode := .seq (.reg qcr4) qcc7
@[go_sem] def qcr9 : List AIns := [
  ⟨some 22,none,.no,.mv (.t 3)⟩,
  ⟨some 23,none,.no,.bin .sub .none (.t 22) (.v (.int .i64 15))⟩,
  ⟨some 24,none,.no,.iaArr 64 1 (.t 2) (.t 23)⟩,
  ⟨some 25, none, .rd, .load false 1 (.t 24)⟩,
  ⟨some 26,none,.no,.mv (.t 3)⟩,
  ⟨some 27,none,.no,.bin .sub .none (.t 26) (.v (.int .i64 2))⟩,
  ⟨some 28,none,.no,.iaArr 64 1 (.t 2) (.t 27)⟩,
  ⟨some 29, none, .rd, .load false 1 (.t 28)⟩,
  ⟨some 4,none,.no,.mv (.t 25)⟩,
  ⟨some 5,none,.no,.mv (.t 29)⟩]
@[go_sem] def qcr10 : List AIns := [
  ⟨some 30,none,.no,.mv (.t 3)⟩,
  ⟨some 31,none,.no,.mv (.t 3)⟩,
  ⟨some 32,none,.no,.bin .sub .none (.t 31) (.v (.int .i64 16))⟩,
  ⟨some 33,none,.no,.iaArr 64 1 (.t 2) (.t 32)⟩,
  ⟨some 34, none, .rd, .load false 1 (.t 33)⟩,
  ⟨some 35,none,.no,.mv (.t 3)⟩,
  ⟨some 36,none,.no,.bin .sub .none (.t 35) (.v (.int .i64 7))⟩,
  ⟨some 37,none,.no,.iaArr 64 1 (.t 2) (.t 36)⟩,
  ⟨some 38, none, .rd, .load false 1 (.t 37)⟩,
  ⟨some 39,none,.no,.bin .add .none (.t 34) (.t 38)⟩,
  ⟨some 40,none,.no,.mv (.t 4)⟩,
  ⟨some 41, none, .ef, .call (.v (.fn 87 [])) [(.t 40), (.v (.int .i64 7))]⟩,
  ⟨some 42,none,.no,.mv (.t 4)⟩,
  ⟨some 43, none, .ef, .call (.v (.fn 87 [])) [(.t 42), (.v (.int .i64 18))]⟩,
  ⟨some 44,none,.no,.bin .xor .none (.t 41) (.t 43)⟩,
  ⟨some 45,none,.no,.mv (.t 4)⟩,
  ⟨some 46,none,.no,.bin .shr .none (.t 45) (.v (.int .u64 3))⟩,
  ⟨some 47,none,.no,.bin .xor .none (.t 44) (.t 46)⟩,
  ⟨some 48,none,.no,.bin .add .none (.t 39) (.t 47)⟩,
  ⟨some 49,none,.no,.mv (.t 5)⟩,
  ⟨some 50, none, .ef, .call (.v (.fn 87 [])) [(.t 49), (.v (.int .i64 17))]⟩,
  ⟨some 51,none,.no,.mv (.t 5)⟩,
  ⟨some 52, none, .ef, .call (.v (.fn 87 [])) [(.t 51), (.v (.int .i64 19))]⟩,
  ⟨some 53,none,.no,.bin .xor .none (.t 50) (.t 52)⟩,
  ⟨some 54,none,.no,.mv (.t 5)⟩,
  ⟨some 55,none,.no,.bin .shr .none (.t 54) (.v (.int .u64 10))⟩,
  ⟨some 56,none,.no,.bin .xor .none (.t 53) (.t 55)⟩,
  ⟨some 57,none,.no,.bin .add .none (.t 48) (.t 56)⟩,
  ⟨some 58,none,.no,.iaArr 64 1 (.t 2) (.t 30)⟩,
  ⟨none,none,.no,.store 1 (.t 58) (.t 57)⟩]
def qcc11 : ACode := .seq (.reg qcr9) (.reg qcr10)
def qcc12 : ACode := .seq qcc8 qcc11
def qcc13 : ACode := .seq (.reg qcr3) qcc12
@[go_sem] def qcr14 : List AIns := [
  ⟨some 59,none,.no,.bin .add .none (.t 6) (.v (.int .i64 1))⟩,
  ⟨some 6,none,.no,.mv (.t 59)⟩]
def qcc15 : ACode := .seq (.block 1 qcc13) (.reg qcr14)
def qcc16 : ACode := .seq (.cond (.t 7) .skip (.exit 0)) qcc15
def qcc17 : ACode := .seq (.reg qcr2) qcc16
def qcc18 : ACode := .loop qcc17
def qcc19 : ACode := .block 0 qcc18
def qcc20 : ACode := .seq (.reg qcr1) qcc19
@[go_sem] def qcr21 : List AIns := [
  ⟨some 60,none,.no,.load true 64 (.t 2)⟩,
  ⟨none,none,.no,.store 64 (.t 2) (.t 60)⟩]
def qcc22 : ACode := .seq (.reg qcr21) .ret
def qcc23 : ACode := .seq qcc20 qcc22
def qcc24 : ACode := .seq (.reg qcr0) qcc23
theorem qcok : cFn TC 86 = some (61, [.c 2 true 64], qcc24) := by kernel_rfl
end Am
end Go.Proofs.YtjgljhbmljgaeaaDoor
end
section
/- SHA-256 in plain Lean, and words of 32 bits as_ the machine has them. -/
namespace Go.Proofs.YtjgljhbmljgaeaaDoor
namespace Am
abbrev W := BitVec 32
def wc (x : W) : AV := .int .u32 x.toNat
def ws (l : List W) : List AV := l.map wc
def ss0 (x : W) : W := (x.rotateLeft 25 ^^^ x.rotateLeft 14) ^^^ x >>> 3
def ss1 (y : W) : W := (y.rotateLeft 15 ^^^ y.rotateLeft 13) ^^^ y >>> 10
def bs1 (e : W) : W := (e.rotateLeft 26 ^^^ e.rotateLeft 21) ^^^ e.rotateLeft 7
def bs0 (a : W) : W := (a.rotateLeft 30 ^^^ a.rotateLeft 19) ^^^ a.rotateLeft 10
def chW (e f g : W) : W := (e &&& f) ^^^ (~~~e &&& g)
def majW (a b c : W) : W := ((a &&& b) ^^^ (a &&& c)) ^^^ (b &&& c)
def z6n (s : List UInt8) (i : Nat) : W := BitVec.ofNat 32 (getS ((s.drop (4 * i)).take 4))
def wat (w : List W) (i : Nat) : W := w.getD i 0
def z31 (s : List UInt8) (w : List W) : W :=
  if w.length < 16 then z6n s w.length else wat w (w.length - 16) + wat w (w.length - 7) + ss0 (wat w (w.length - 15)) + ss1 (wat w (w.length - 2))
def zy (s : List UInt8) : Nat -> List W
  | 0 => []
  | n + 1 => zy s n ++ [z31 s (zy s n)]
structure V8 where
  a : W
  b : W
  c : W
  d : W
  e : W
  f : W
  g : W
  h : W
def V8.l (v : V8) : List W := [v.a, v.b, v.c, v.d, v.e, v.f, v.g, v.h]
def rnd (v : V8) (k w : W) : V8 :=
  ⟨(v.h + bs1 v.e + chW v.e v.f v.g + k + w) + (bs0 v.a + majW v.a v.b v.c), v.a, v.b, v.c, v.d + (v.h + bs1 v.e + chW v.e v.f v.g + k + w), v.e, v.f, v.g⟩
def kAt (n : Nat) : W := BitVec.ofInt 32 (shaRounds.getD n 0)
def rnds (s : List UInt8) (v : V8) : Nat -> V8
  | 0 => v
  | n + 1 => rnd (rnds s v n) (kAt n) (wat (zy s 64) n)
def V8.add (v u : V8) : V8 := ⟨v.a + u.a, v.b + u.b, v.c + u.c, v.d + u.d, v.e + u.e, v.f + u.f, v.g + u.g, v.h + u.h⟩
def mixS (v : V8) (s : List UInt8) : V8 := (rnds s v 64).add v
def blocks : Nat -> V8 -> List UInt8 -> V8
  | 0, v, _ => v
  | n + 1, v, s => blocks n (mixS v (s.take 64)) (s.drop 64)
def v0 : V8 := ⟨1779033703#32, 3144134277#32, 1013904242#32, 2773480762#32, 1359893119#32, 2600822924#32, 528734635#32, 1541459225#32⟩
def padS (s : List UInt8) : List UInt8 := s ++ 128 :: (List.replicate ((119 - s.length % 64) % 64) 0 ++ be 8 (s.length * 8))
def outV (v : V8) : List UInt8 := v.l.flatMap fun x => be 4 x.toNat
/-- SHA-256. -/
def shaS (s : List UInt8) : List UInt8 := outV (blocks ((padS s).length / 64) v0 (padS s))
theorem z48 (s : List UInt8) : ∀ n, (zy s n).length = n
  | 0 => rfl
  | n + 1 => by simp [zy, z48 s n]
theorem z7k {w : List W} {i : Nat} (h : i < w.length) : (ws w)[i]? = some (.int .u32 (wat w i).toNat) := by
  simp [ws, wc, wat, List.getElem?_map, List.getD_eq_getElem?_getD, List.getElem?_eq_getElem h]
theorem z3u (w : List W) : (ws w).length = w.length := by simp [ws]
section
theorem wr32 (x : BitVec 32) : IntKind.u32.wrap (x.toNat : Int) = x.toNat := z92 ⟨by omega, by have := x.isLt; omega⟩
theorem bw_add (a b : BitVec 32) : z10 .add .u32 (a.toNat : Int) (b.toNat : Int) = some (.int .u32 ((a + b).toNat : Int)) := by
  rw [zff, z93, BitVec.toNat_add]; rfl
theorem bw_xor (a b : BitVec 32) : z10 .xor .u32 (a.toNat : Int) (b.toNat : Int) = some (.int .u32 ((a ^^^ b).toNat : Int)) := by
  rw [zfi ⟨by omega, by have := a.isLt; omega⟩ ⟨by omega, by have := b.isLt; omega⟩, BitVec.toNat_xor]; rfl
theorem bw_and (a b : BitVec 32) : z10 .and .u32 (a.toNat : Int) (b.toNat : Int) = some (.int .u32 ((a &&& b).toNat : Int)) := by
  rw [zfg ⟨by omega, by have := a.isLt; omega⟩ ⟨by omega, by have := b.isLt; omega⟩, BitVec.toNat_and]; rfl
theorem bw_or (a b : BitVec 32) : z10 .or .u32 (a.toNat : Int) (b.toNat : Int) = some (.int .u32 ((a ||| b).toNat : Int)) := by
  rw [zfh ⟨by omega, by have := a.isLt; omega⟩ ⟨by omega, by have := b.isLt; omega⟩, BitVec.toNat_or]; rfl
theorem bw_shr {a : BitVec 32} {n : Int} (h : 0 <= n /\ n < 32) : z1f .shr .u32 (a.toNat : Int) n = some (.int .u32 ((a >>> n.toNat).toNat : Int)) := by
  rw [zh9 h, BitVec.toNat_ushiftRight, Nat.shiftRight_eq_div_pow, Int.natCast_ediv, Int.natCast_pow]; rfl
theorem bw_shl {a : BitVec 32} {n : Int} (h : 0 <= n /\ n < 32) : z1f .shl .u32 (a.toNat : Int) n = some (.int .u32 ((a <<< n.toNat).toNat : Int)) := by
  rw [zh7 h, BitVec.toNat_shiftLeft, Nat.shiftLeft_eq, z93]
  rw [Int.natCast_emod, Int.natCast_mul, Int.natCast_pow]; rfl
theorem bw_not (a : BitVec 32) : aUn .xor (.int .u32 (a.toNat : Int)) = some (.int .u32 ((~~~a).toNat : Int)) := by
  have e1 : BitVec.ofInt IntKind.u32.bits (a.toNat : Int) = a := by
    apply BitVec.eq_of_toNat_eq
    have := a.isLt
    rw [BitVec.toNat_ofInt]
    simp only [IntKind.bits]
    omega
  have e2 : BitVec.ofInt IntKind.u32.bits (if IntKind.u32.signed = true then -1 else IntKind.u32.max) = BitVec.allOnes 32 := by rfl
  have e3 : aUn .xor (.int .u32 (a.toNat : Int)) = some (.int .u32 (IntKind.u32.wrap (((BitVec.ofInt IntKind.u32.bits (if IntKind.u32.signed = true then -1 else IntKind.u32.max) ^^^ BitVec.ofInt IntKind.u32.bits (a.toNat : Int)).toNat : Nat) : Int))) := rfl
  rw [e3, e1, e2]
  have e4 : BitVec.allOnes 32 ^^^ a = ~~~a := BitVec.allOnes_xor
  show some (AV.int .u32 (IntKind.u32.wrap ((BitVec.allOnes 32 ^^^ a).toNat : Int))) = _
  rw [e4, wr32]
end
attribute [go_sem high] bw_add bw_xor bw_and bw_or bw_shr bw_shl bw_not
end Am
end Go.Proofs.YtjgljhbmljgaeaaDoor
end
section
/- Packed words: lanes of 64 bits in one number. -/
namespace Go.Proofs.YtjgljhbmljgaeaaDoor
namespace Pk
/-- Lanes of 64 bits. -/
def pkN : List Nat -> Nat
  | [] => 0
  | x :: l => 2 ^ 64 * pkN l + x
section
variable {ι : Type} (L : List ι)
/-- A word of each item, packed. -/
def P (f : ι -> Nat) : Nat := pkN (L.map f)
abbrev W := BitVec 32
/-- Words of each item, packed. -/
def Q (f : ι -> W) : Nat := P L (fun i => (f i).toNat)
def M : Nat := P L (fun _ => 4294967295)
def one : Nat := P L (fun _ => 1)
/-- Doubled words. -/
def cD : Nat := 2 ^ 32 + 1
def dbl (x : Nat) : Nat := x * cD
end
end Pk
end Go.Proofs.YtjgljhbmljgaeaaDoor
end
section
/- Packed words: the rounds of SHA-256. -/
set_option maxRecDepth 4000
namespace Go.Proofs.YtjgljhbmljgaeaaDoor
namespace Am
open Pk (P Q M one pkN dbl cD)
structure S8 where
  a : Nat
  b : Nat
  c : Nat
  d : Nat
  e : Nat
  f : Nat
  g : Nat
  h : Nat
section
variable {ι : Type} (L : List ι)
end
/-- A block's words, all of them. -/
def wx (s : List UInt8) (t : Nat) : W := z31 s (zy s t)
section
variable {ι : Type} (L : List ι)
end
end Am
end Go.Proofs.YtjgljhbmljgaeaaDoor
end
section
/- Packed words: a block. -/
set_option maxRecDepth 4000
namespace Go.Proofs.YtjgljhbmljgaeaaDoor
namespace Am
open Pk (P Q M one pkN)
def k64 : List Nat := [1116352408, 1899447441, 3049323471, 3921009573, 961987163, 1508970993, 2453635748, 2870763221, 3624381080, 310598401, 607225278, 1426881987, 1925078388, 2162078206, 2614888103, 3248222580, 3835390401, 4022224774, 264347078, 604807628, 770255983, 1249150122, 1555081692, 1996064986, 2554220882, 2821834349, 2952996808, 3210313671, 3336571891, 3584528711, 113926993, 338241895, 666307205, 773529912, 1294757372, 1396182291, 1695183700, 1986661051, 2177026350, 2456956037, 2730485921, 2820302411, 3259730800, 3345764771, 3516065817, 3600352804, 4094571909, 275423344, 430227734, 506948616, 659060556, 883997877, 958139571, 1322822218, 1537002063, 1747873779, 1955562222, 2024104815, 2227730452, 2361852424, 2428436474, 2756734187, 3204031479, 3329325298]
def r64 (v : V8) (s : List UInt8) : V8 := rnds s v 64
section
variable {ι : Type} (L : List ι)
attribute [local irreducible] r64 k64
end
end Am
end Go.Proofs.YtjgljhbmljgaeaaDoor
end
section
/- Packed words: lanes laid, picked and shifted. -/
set_option maxRecDepth 4000
namespace Go.Proofs.YtjgljhbmljgaeaaDoor
namespace Am
open Pk (P Q M one pkN)
def ones (n : Nat) : Nat := Nat.div (Nat.sub (Nat.pow 2 (Nat.mul 64 n)) 1) 18446744073709551615
section
variable {ι : Type} (L : List ι)
end
end Am
end Go.Proofs.YtjgljhbmljgaeaaDoor
end
section
/- Bytes ahead of whole words; blocks. -/
set_option maxRecDepth 4000
namespace Go.Proofs.YtjgljhbmljgaeaaDoor
namespace Am
open Pk (P Q M one pkN)
/-! Words of bytes: a byte ahead of whole words. -/
def enc (ws : List W) : List UInt8 := ws.flatMap fun x => be 4 x.toNat
def lb (x : W) : UInt8 := UInt8.ofNat x.toNat
end Am
end Go.Proofs.YtjgljhbmljgaeaaDoor
end
section
/- Packed words: eight long texts. -/
set_option maxRecDepth 4000
namespace Go.Proofs.YtjgljhbmljgaeaaDoor
namespace Am
open Pk (P Q M one pkN)
end Am
end Go.Proofs.YtjgljhbmljgaeaaDoor
end
section
/- Packed words: a tree of keys. -/
set_option maxRecDepth 4000
namespace Go.Proofs.YtjgljhbmljgaeaaDoor
namespace Am
open Pk (P Q M one pkN)
section
variable (v2 : Nat -> V8)
end
section
variable (v1 : Nat -> V8)
end
end Am
end Go.Proofs.YtjgljhbmljgaeaaDoor
end
section
/- SHA-256: contracts: turn, spread. -/
namespace Go.Proofs.YtjgljhbmljgaeaaDoor
namespace Am
theorem rl_c {k : Nat} : ∀ (l : List W), RLs k (ws l)
  | [] => by simp [ws, RLs]
  | _ :: l => by have := rl_c (k := k) l; simp only [ws] at this; simp [ws, wc, RLs, RL, this]
theorem z2g {k : Nat} {l : List AV} (h : RLs k l) : RL k (.agg l) := by simpa only [RL] using h
theorem zag (Y : Store) (x : W) (k : Int) (h : 0 < k /\ k < 32) : ACallsTo TC 89 [.int .u32 x.toNat, .int .u32 k] Y (.int .u32 (x.rotateLeft (32 - k.toNat)).toNat) Y := by
  refine ACallsTo.of_body q9ok (by simp) fun hw _ => ?_
  repeat' (first|refine zW.zs ?_|refine zW.zb ?_|refine zW.zc ?_|refine zW.zt rfl ?_|refine zW.zf rfl ?_|(refine zW.zd rfl (fun ht => ?_) (fun ht => ?_)<;>try (exfalso;omega))|((first|refine zW.zr ?_|refine zW.zk ?_|refine zW.ze ?_|refine zW.zq ?_|((first|apply zg0|apply zg1|apply zg2|apply zg3|apply zg4|apply zg5|apply zg6|apply zg7)<;>intro ht));all_goals try simp (disch:=first|omega|(simp only [lens];first|done|omega)) only [go_sem,reduceEqDiff,Nat.reduceBEq,reduceAdd,reduceMul,reduceSub,reduceLeDiff,reduceToNat,reducePow]))
  have e : (x >>> k.toNat ||| x <<< (32 - k).toNat) = x.rotateLeft (32 - k.toNat) := by
    obtain ⟨n, rfl⟩ : ∃ n : Nat, k = n := ⟨k.toNat, by omega⟩
    have e1 : ((32 : Int) - n).toNat = 32 - n := by omega
    rw [e1, Int.toNat_natCast, BitVec.rotateLeft_def, BitVec.or_comm]
    have : (32 - n) % 32 = 32 - n := Nat.mod_eq_of_lt (by omega)
    rw [this]
    congr 2
    omega
  rw [e]
  exact DownV.same hw (zz _ rfl)
theorem zqw (s : List UInt8) (i : Nat) : IntKind.u32.wrap ((getS ((s.drop (4 * i)).take 4) : Nat) : Int) = ((z6n s i).toNat : Int) := by
  rw [z93, z6n, BitVec.toNat_ofNat]; rfl
theorem zk8 {w : List W} {x : W} {n : Nat} (h : w.length = n) (hn : n < 64) : (ws w ++ List.replicate (64 - n) (AV.int .u32 0)).take n ++ AV.int .u32 x.toNat :: (ws w ++ List.replicate (64 - n) (AV.int .u32 0)).drop (n + 1) = ws (w ++ [x]) ++ List.replicate (64 - (n + 1)) (AV.int .u32 0) := by
  have hl : (ws w).length = n := by rw [z3u, h]
  have e : 64 - n = (64 - (n + 1)) + 1 := by omega
  rw [List.take_append_of_le_length (by omega), List.take_of_length_le (by omega), List.drop_append, List.drop_of_length_le (by omega), hl]
  rw [show n + 1 - n = 1 by omega, e, List.replicate_succ, List.drop_succ_cons, List.drop_zero, List.nil_append]
  simp [ws, wc]
set_option maxHeartbeats 4000000 in
theorem zpx (Y : Store) (s : List UInt8) (h : 64 <= s.length) (hs : s.length < 9223372036854775808) : ACallsTo TC 86 [.str s] Y (.agg (ws (zy s 64))) Y := by
  obtain ⟨R, hR⟩ : ∃ R, R = zy s 64 := ⟨_, rfl⟩
  rw [<- hR]
  refine ACallsTo.of_body qcok (by simp) fun hw _ => ?_
  repeat' (first|refine zW.zs ?_|refine zW.zb ?_|refine zW.zc ?_|refine zW.zt rfl ?_|refine zW.zf rfl ?_|(refine zW.zd rfl (fun ht => ?_) (fun ht => ?_)<;>try (exfalso;omega))|((first|refine zW.zr ?_|refine zW.zk ?_|refine zW.ze ?_|refine zW.zq ?_|((first|apply zg0|apply zg1|apply zg2|apply zg3|apply zg4|apply zg5|apply zg6|apply zg7)<;>intro ht));all_goals try simp (disch:=first|omega|(simp only [lens];first|done|omega)) only [go_sem,reduceEqDiff,Nat.reduceBEq,reduceAdd,reduceMul,reduceSub,reduceLeDiff,reduceToNat,reducePow]))
  refine zW.loop (fun m O Y' => ∃ i : Nat, m + i = 64 /\ O 0 = .str s /\ O 2 = .ptr Y.length 0 0 /\ O 6 = .int .i64 i /\ Y' = Y ++ [some [ws (zy s i) ++ List.replicate (64 - i) (AV.int .u32 0)]]) 64 ?_ ?_
  · exact ⟨0, by omega, by simp (disch:=first|omega|(simp only [lens];first|done|omega)) only [go_sem,reduceEqDiff,Nat.reduceBEq,reduceAdd,reduceMul,reduceSub,reduceLeDiff,reduceToNat,reducePow], by simp (disch:=first|omega|(simp only [lens];first|done|omega)) only [go_sem,reduceEqDiff,Nat.reduceBEq,reduceAdd,reduceMul,reduceSub,reduceLeDiff,reduceToNat,reducePow], by simp (disch:=first|omega|(simp only [lens];first|done|omega)) only [go_sem,reduceEqDiff,Nat.reduceBEq,reduceAdd,reduceMul,reduceSub,reduceLeDiff,reduceToNat,reducePow]; rfl, rfl⟩
  · rintro m O Y' ⟨i, hm, q0, q2, q6, rfl⟩
    have hsl := z48 s i
    have hset := fun x => zk8 (x := x) hsl
    have hwi : ∀ j, j < i -> (ws (zy s i) ++ List.replicate (64 - i) (AV.int .u32 0))[j]? = some (.int .u32 (wat (zy s i) j).toNat) := by
      intro j hj
      rw [List.getElem?_append_left (by rw [z3u]; omega), z7k (by omega)]
    have hlen : (ws (zy s i) ++ List.replicate (64 - i) (AV.int .u32 0)).length = 64 \/ 64 < i := by
      simp [z3u, hsl]; omega
    by_cases hi : i < 64
    · have hlen : (ws (zy s i) ++ List.replicate (64 - i) (AV.int .u32 0)).length = 64 := by omega
      generalize hcc : ws (zy s i) ++ List.replicate (64 - i) (AV.int .u32 0) = cc at *
      by_cases h16 : i < 16
      · have hd1 : (s.take (4 * i + 4)).length = 4 * i + 4 := by rw [List.length_take]; omega
        repeat' (first|refine zW.zs ?_|refine zW.zb ?_|refine zW.zc ?_|refine zW.zt rfl ?_|refine zW.zf rfl ?_|(refine zW.zd rfl (fun ht => ?_) (fun ht => ?_)<;>try (exfalso;omega))|((first|refine zW.zr ?_|refine zW.zk ?_|refine zW.ze ?_|refine zW.zq ?_|(apply callW.mk_pu; (first | exact (fun _ => ze5 _ _ (by simp; omega)))) | (apply callW.za; (first | exact (ze5 _ _ (by simp; omega)))) | ((first|apply zg0|apply zg1|apply zg2|apply zg3|apply zg4|apply zg5|apply zg6|apply zg7)<;>intro ht));all_goals try simp (disch:=first|omega|(simp only [lens];first|done|omega)) only [go_sem,reduceEqDiff,Nat.reduceBEq,reduceAdd,reduceMul,reduceSub,reduceLeDiff,reduceToNat,reducePow, q0, q2, q6, hlen]))
        have ev : ((getS ((s.take (4 * (i : Int) + 4).toNat).drop (4 * (i : Int)).toNat) : Nat) : Int) % 4294967296 = ((z31 s (zy s i)).toNat : Int) := by
          rw [show (4 * (i : Int) + 4).toNat = 4 * i + 4 by omega, show (4 * (i : Int)).toNat = 4 * i by omega, List.drop_take, show 4 * i + 4 - 4 * i = 4 by omega]
          have := zqw s i
          rw [z93] at this
          rw [this, z31, if_pos (by omega), hsl]
        refine ⟨64 - (i + 1), by omega, i + 1, by omega, by simp, ?_⟩
        rw [ev, hset _ hi, zy]
      · have en : z31 s (zy s i) = wat (zy s i) (i - 16) + wat (zy s i) (i - 7) + ss0 (wat (zy s i) (i - 15)) + ss1 (wat (zy s i) (i - 2)) := by rw [z31, if_neg (by omega), hsl]
        have g16 := hwi (i - 16) (by omega)
        have g7 := hwi (i - 7) (by omega)
        have g15 := hwi (i - 15) (by omega)
        have g2 := hwi (i - 2) (by omega)
        have t16 : ((i : Int) - 16).toNat = i - 16 := by omega
        have t7 : ((i : Int) - 7).toNat = i - 7 := by omega
        have t15 : ((i : Int) - 15).toNat = i - 15 := by omega
        have t2 : ((i : Int) - 2).toNat = i - 2 := by omega
        generalize wat (zy s i) (i - 16) = w16 at *
        generalize wat (zy s i) (i - 7) = w7 at *
        generalize wat (zy s i) (i - 15) = w15 at *
        generalize wat (zy s i) (i - 2) = w2 at *
        have r7 : ((-7 : Int) % 32).toNat = 25 := rfl
        have r18 : ((-18 : Int) % 32).toNat = 14 := rfl
        have r17 : ((-17 : Int) % 32).toNat = 15 := rfl
        have r19 : ((-19 : Int) % 32).toNat = 13 := rfl
        have en2 := hset (z31 s (zy s i)) hi
        rw [en] at en2
        simp only [ss0, ss1] at en2
        repeat' (first|refine zW.zs ?_|refine zW.zb ?_|refine zW.zc ?_|refine zW.zt rfl ?_|refine zW.zf rfl ?_|(refine zW.zd rfl (fun ht => ?_) (fun ht => ?_)<;>try (exfalso;omega))|((first|refine zW.zr ?_|refine zW.zk ?_|refine zW.ze ?_|refine zW.zq ?_|(apply callW.mk_pu; (first | exact (fun _ => z9l _ _ _))) | (apply callW.za; (first | exact (z9l _ _ _))) | ((first|apply zg0|apply zg1|apply zg2|apply zg3|apply zg4|apply zg5|apply zg6|apply zg7)<;>intro ht));all_goals try simp (disch:=first|omega|(simp only [lens];first|done|omega)) only [go_sem,reduceEqDiff,Nat.reduceBEq,reduceAdd,reduceMul,reduceSub,reduceLeDiff,reduceToNat,reducePow, q0, q2, q6, hlen, g16, g7, g15, g2, t16, t7, t15, t2, r7, r18, r17, r19]))
        refine ⟨64 - (i + 1), by omega, i + 1, by omega, by simp, ?_⟩
        rw [en2, zy, en]
        simp only [ss0, ss1]
    · have e : i = 64 := by omega
      have eR : zy s i = R := by rw [hR, e]
      have hsR : R.length = 64 := by rw [<- eR, hsl, e]
      have hl64 : (ws R).length = 64 := by rw [z3u, hsR]
      have e0 : List.replicate (64 - i) (AV.int .u32 0) = [] := by rw [e]; rfl
      rw [eR, e0, List.append_nil] at *
      clear hwi hset hlen hR
      have hd : (ws R).drop 64 = [] := List.drop_of_length_le (by omega)
      repeat' (first|refine zW.zs ?_|refine zW.zb ?_|refine zW.zc ?_|refine zW.zt rfl ?_|refine zW.zf rfl ?_|(refine zW.zd rfl (fun ht => ?_) (fun ht => ?_)<;>try (exfalso;omega))|((first|refine zW.zr ?_|refine zW.zk ?_|refine zW.ze ?_|refine zW.zq ?_|((first|apply zg0|apply zg1|apply zg2|apply zg3|apply zg4|apply zg5|apply zg6|apply zg7)<;>intro ht));all_goals try simp (disch:=first|omega|(simp only [lens];first|done|omega)) only [go_sem,reduceEqDiff,Nat.reduceBEq,reduceAdd,reduceMul,reduceSub,reduceLeDiff,reduceToNat,reducePow, q0, q2, q6, hl64, hd]))
      exact DownV.pure hw (z2g (rl_c _))
end Am
end Go.Proofs.YtjgljhbmljgaeaaDoor
end
section
/- SHA-256: contracts: mix. -/
namespace Go.Proofs.YtjgljhbmljgaeaaDoor
namespace Am
def V8.c8 (v : V8) : List AV := [.int .u32 v.a.toNat, .int .u32 v.b.toNat, .int .u32 v.c.toNat, .int .u32 v.d.toNat, .int .u32 v.e.toNat, .int .u32 v.f.toNat, .int .u32 v.g.toNat, .int .u32 v.h.toNat]
theorem ws_l (v : V8) : ws v.l = v.c8 := rfl
theorem zfj {i : Nat} (h : i < 64) : (gl_sha_rounds.drop i)[0]? = some (.int .u32 (kAt i).toNat) := by
  have hall : ∀ j : Fin 64, (gl_sha_rounds.drop j.val)[0]? = some (.int .u32 (kAt j.val).toNat) := by
    intro j
    have h2 : (gl_sha_rounds.drop j.val)[0]? = some (AV.int .u32 (shaRounds.getD j.val 0)) := by
      have hl : shaRounds.length = 64 := rfl
      simp only [gl_sha_rounds, List.getElem?_drop, Nat.add_zero, List.getElem?_map, List.getD_eq_getElem?_getD]
      rw [List.getElem?_eq_getElem (by rw [hl]; exact j.isLt)]; rfl
    rw [h2]
    have h3 : ∀ j : Fin 64, shaRounds.getD j.val 0 = ((kAt j.val).toNat : Int) := by decide
    rw [h3 j]
  exact hall ⟨i, h⟩
theorem z8c : gl_sha_rounds.length = 64 := rfl
set_option maxHeartbeats 8000000 in
theorem mix_to (Y : Store) (v : V8) (s : List UInt8) (h : 64 <= s.length) (hs : s.length < 9223372036854775808) : ACallsTo TC 68 [.agg (ws v.l), .str s] Y (.agg (ws (mixS v s).l)) Y := by
  obtain ⟨R, hR⟩ : ∃ R, R = zy s 64 := ⟨_, rfl⟩
  have hsp := fun Y => zpx Y s h hs
  rw [<- hR] at hsp
  have hRl : R.length = 64 := by rw [hR, z48]
  have hwR : (ws R).length = 64 := by rw [z3u, hRl]
  have hst : ∀ n, rnds s v (n + 1) = rnd (rnds s v n) (kAt n) (wat R n) := fun n => by rw [rnds, hR]
  obtain ⟨F, hF⟩ : ∃ F, F = (rnds s v 64).add v := ⟨_, rfl⟩
  have hmix : mixS v s = F := hF.symm
  rw [hmix, ws_l, ws_l]
  clear hmix
  refine ACallsTo.of_body qbok (by simp) fun hw _ => ?_
  unfold V8.c8
  repeat' (first|refine zW.zs ?_|refine zW.zb ?_|refine zW.zc ?_|refine zW.zt rfl ?_|refine zW.zf rfl ?_|(refine zW.zd rfl (fun ht => ?_) (fun ht => ?_)<;>try (exfalso;omega))|((first|refine zW.zr ?_|refine zW.zk ?_|refine zW.ze ?_|refine zW.zq ?_|(apply callW.mk_pu; (first | exact (fun _ => hsp _))) | (apply callW.za; (first | exact (hsp _))) | ((first|apply zg0|apply zg1|apply zg2|apply zg3|apply zg4|apply zg5|apply zg6|apply zg7)<;>intro ht));all_goals try simp (disch:=first|omega|(simp only [lens];first|done|omega)) only [go_sem,reduceEqDiff,Nat.reduceBEq,reduceAdd,reduceMul,reduceSub,reduceLeDiff,reduceToNat,reducePow]))
  refine zW.loop (fun m O Y' => ∃ i : Nat, m + i = 64 /\ O 2 = .ptr Y.length 0 0 /\ O 4 = .ptr (Y.length + 1) 0 0 /\ O 5 = .ptr (Y.length + 2) 0 0 /\ O 15 = .agg (ws R) /\ O 16 = .int .i64 i ∧
    Y' = Y ++ [some [v.c8], some [[AV.int .u32 0, AV.int .u32 0, AV.int .u32 0, AV.int .u32 0, AV.int .u32 0, AV.int .u32 0, AV.int .u32 0, AV.int .u32 0]], some [(rnds s v i).c8]]) 64 ?_ ?_
  · exact ⟨0, by omega, by simp (disch:=first|omega|(simp only [lens];first|done|omega)) only [go_sem,reduceEqDiff,Nat.reduceBEq,reduceAdd,reduceMul,reduceSub,reduceLeDiff,reduceToNat,reducePow], by simp (disch:=first|omega|(simp only [lens];first|done|omega)) only [go_sem,reduceEqDiff,Nat.reduceBEq,reduceAdd,reduceMul,reduceSub,reduceLeDiff,reduceToNat,reducePow], by simp (disch:=first|omega|(simp only [lens];first|done|omega)) only [go_sem,reduceEqDiff,Nat.reduceBEq,reduceAdd,reduceMul,reduceSub,reduceLeDiff,reduceToNat,reducePow], by simp (disch:=first|omega|(simp only [lens];first|done|omega)) only [go_sem,reduceEqDiff,Nat.reduceBEq,reduceAdd,reduceMul,reduceSub,reduceLeDiff,reduceToNat,reducePow], by simp (disch:=first|omega|(simp only [lens];first|done|omega)) only [go_sem,reduceEqDiff,Nat.reduceBEq,reduceAdd,reduceMul,reduceSub,reduceLeDiff,reduceToNat,reducePow]; rfl, rfl⟩
  · rintro m O Y' ⟨i, hm, q2, q4, q5, q15, q16, rfl⟩
    by_cases hi : i < 64
    · have hk := zfj hi
      have hw := z7k (w := R) (i := i) (by omega)
      have hst := hst i
      generalize rnds s v i = u at *
      obtain ⟨a, b, c, d, e, f, g, h⟩ := u
      generalize kAt i = kk at *
      generalize wat R i = ww at *
      have r6 : ((-6 : Int) % 32).toNat = 26 := rfl
      have r11 : ((-11 : Int) % 32).toNat = 21 := rfl
      have r25 : ((-25 : Int) % 32).toNat = 7 := rfl
      have r2 : ((-2 : Int) % 32).toNat = 30 := rfl
      have r13 : ((-13 : Int) % 32).toNat = 19 := rfl
      have r22 : ((-22 : Int) % 32).toNat = 10 := rfl
      refine zW.zs ?_
      refine zW.zr ?_
      simp (disch:=first|omega|(simp only [lens];first|done|omega)) only [go_sem,reduceEqDiff,Nat.reduceBEq,reduceAdd,reduceMul,reduceSub,reduceLeDiff,reduceToNat,reducePow, q16]
      refine zW.zs ?_
      refine zW.zt rfl ?_
      refine zW.zk ?_
      simp (disch:=first|omega|(simp only [lens];first|done|omega)) only [go_sem,reduceEqDiff,Nat.reduceBEq,reduceAdd,reduceMul,reduceSub,reduceLeDiff,reduceToNat,reducePow]
      refine zW.zs ?_
      refine zW.zb ?_
      refine zW.zs ?_
      refine zW.regS ?_
      simp (disch:=first|omega|(simp only [lens];first|done|omega)) only [go_sem,reduceEqDiff,Nat.reduceBEq,reduceAdd,reduceMul,reduceSub,reduceLeDiff,reduceToNat,reducePow, q15, q16, hwR, hw]
      (refine zW.slots [2, 4, 5, 6, 7, 15, 16] ?_; intro O1 hs; simp (disch:=first|omega|(simp only [lens];first|done|omega)) only [go_sem,reduceEqDiff,Nat.reduceBEq,reduceAdd,reduceMul,reduceSub,reduceLeDiff,reduceToNat,reducePow, q2, q4, q5, q15, q16] at hs; obtain ⟨s2, s4, s5, s6, s7, s15, s16⟩ := hs)
      refine zW.zs ?_
      refine zW.regS ?_
      simp (disch:=first|omega|(simp only [lens];first|done|omega)) only [go_sem,reduceEqDiff,Nat.reduceBEq,reduceAdd,reduceMul,reduceSub,reduceLeDiff,reduceToNat,reducePow, s5, V8.c8]
      (refine zW.slots [2, 4, 5, 6, 7, 8, 9, 15, 16] ?_; intro O2 hs; simp (disch:=first|omega|(simp only [lens];first|done|omega)) only [go_sem,reduceEqDiff,Nat.reduceBEq,reduceAdd,reduceMul,reduceSub,reduceLeDiff,reduceToNat,reducePow, s2, s4, s5, s6, s7, s15, s16] at hs; obtain ⟨s2, s4, s5, s6, s7, s8, s9, s15, s16⟩ := hs)
      refine zW.zs ?_
      (refine zW.regS ?_; (simp (disch:=first|omega|(simp only [lens];first|done|omega)) only [go_sem,reduceEqDiff,Nat.reduceBEq,reduceAdd,reduceMul,reduceSub,reduceLeDiff,reduceToNat,reducePow, s2, s4, s5, s6, s7, s8, s9, V8.c8, hk, z8c, r6, r11, r25]); repeat' (apply callW.za; (first | exact (z9l _ _ _)); all_goals try (simp (disch:=first|omega|(simp only [lens];first|done|omega)) only [go_sem,reduceEqDiff,Nat.reduceBEq,reduceAdd,reduceMul,reduceSub,reduceLeDiff,reduceToNat,reducePow, s2, s4, s5, s6, s7, s8, s9, V8.c8, hk, z8c, r6, r11, r25])))
      (refine zW.slots [2, 4, 5, 8, 9, 10, 15, 16] ?_; intro O3 hs; simp (disch:=first|omega|(simp only [lens];first|done|omega)) only [go_sem,reduceEqDiff,Nat.reduceBEq,reduceAdd,reduceMul,reduceSub,reduceLeDiff,reduceToNat,reducePow, s2, s4, s5, s8, s9, s15, s16] at hs; obtain ⟨s2, s4, s5, s8, s9, s10, s15, s16⟩ := hs)
      refine zW.zs ?_
      (refine zW.regS ?_; (simp (disch:=first|omega|(simp only [lens];first|done|omega)) only [go_sem,reduceEqDiff,Nat.reduceBEq,reduceAdd,reduceMul,reduceSub,reduceLeDiff,reduceToNat,reducePow, s5, s8, s9, V8.c8, r2, r13, r22]); repeat' (apply callW.za; (first | exact (z9l _ _ _)); all_goals try (simp (disch:=first|omega|(simp only [lens];first|done|omega)) only [go_sem,reduceEqDiff,Nat.reduceBEq,reduceAdd,reduceMul,reduceSub,reduceLeDiff,reduceToNat,reducePow, s5, s8, s9, V8.c8, r2, r13, r22])))
      (refine zW.slots [2, 4, 5, 8, 9, 10, 11, 15, 16] ?_; intro O4 hs; simp (disch:=first|omega|(simp only [lens];first|done|omega)) only [go_sem,reduceEqDiff,Nat.reduceBEq,reduceAdd,reduceMul,reduceSub,reduceLeDiff,reduceToNat,reducePow, s2, s4, s5, s8, s9, s10, s15, s16] at hs; obtain ⟨s2, s4, s5, s8, s9, s10, s11, s15, s16⟩ := hs)
      (refine zW.regS ?_; (simp (disch:=first|omega|(simp only [lens];first|done|omega)) only [go_sem,reduceEqDiff,Nat.reduceBEq,reduceAdd,reduceMul,reduceSub,reduceLeDiff,reduceToNat,reducePow, s5, s8, s9, s10, s11, V8.c8]))
      (refine zW.slots [2, 4, 5, 15, 16] ?_; intro O5 hs; simp (disch:=first|omega|(simp only [lens];first|done|omega)) only [go_sem,reduceEqDiff,Nat.reduceBEq,reduceAdd,reduceMul,reduceSub,reduceLeDiff,reduceToNat,reducePow, s2, s4, s5, s15, s16] at hs; obtain ⟨s2, s4, s5, s15, s16⟩ := hs)
      (refine zW.regS ?_; (simp (disch:=first|omega|(simp only [lens];first|done|omega)) only [go_sem,reduceEqDiff,Nat.reduceBEq,reduceAdd,reduceMul,reduceSub,reduceLeDiff,reduceToNat,reducePow, s16]))
      refine ⟨64 - (i + 1), by omega, i + 1, by omega, s2, s4, s5, s15, by simp, ?_⟩
      rw [hst]
      simp only [rnd, V8.c8, bs1, chW, bs0, majW]
    · obtain rfl : i = 64 := by omega
      clear hst
      generalize rnds s v 64 = U at *
      rw [hF, V8.add]
      clear hF hR
      obtain ⟨a, b, c, d, e, f, g, h⟩ := U
      obtain ⟨a', b', c', d', e', f', g', h'⟩ := v
      simp only [V8.c8] at *
      repeat' (first|refine zW.zs ?_|refine zW.zb ?_|refine zW.zc ?_|refine zW.zt rfl ?_|refine zW.zf rfl ?_|(refine zW.zd rfl (fun ht => ?_) (fun ht => ?_)<;>try (exfalso;omega))|((first|refine zW.zr ?_|refine zW.zk ?_|refine zW.ze ?_|refine zW.zq ?_|((first|apply zg0|apply zg1|apply zg2|apply zg3|apply zg4|apply zg5|apply zg6|apply zg7)<;>intro ht));all_goals try simp (disch:=first|omega|(simp only [lens];first|done|omega)) only [go_sem,reduceEqDiff,Nat.reduceBEq,reduceAdd,reduceMul,reduceSub,reduceLeDiff,reduceToNat,reducePow, q16]))
      refine zW.loop (fun m O Y' => ∃ j : Nat, m + j = 8 /\ O 2 = .ptr Y.length 0 0 /\ O 4 = .ptr (Y.length + 1) 0 0 /\ O 5 = .ptr (Y.length + 2) 0 0 /\ O 95 = .int .i64 j ∧
        Y' = Y ++ [some [V8.c8 ⟨a', b', c', d', e', f', g', h'⟩], some [[AV.int .u32 0, AV.int .u32 0, AV.int .u32 0, AV.int .u32 0, AV.int .u32 0, AV.int .u32 0, AV.int .u32 0, AV.int .u32 0]], some [(V8.c8 ⟨a + a', b + b', c + c', d + d', e + e', f + f', g + g', h + h'⟩).take j ++ (V8.c8 ⟨a, b, c, d, e, f, g, h⟩).drop j]]) 8 ?_ ?_
      · exact ⟨0, by omega, by simp (disch:=first|omega|(simp only [lens];first|done|omega)) only [go_sem,reduceEqDiff,Nat.reduceBEq,reduceAdd,reduceMul,reduceSub,reduceLeDiff,reduceToNat,reducePow, q2], by simp (disch:=first|omega|(simp only [lens];first|done|omega)) only [go_sem,reduceEqDiff,Nat.reduceBEq,reduceAdd,reduceMul,reduceSub,reduceLeDiff,reduceToNat,reducePow, q4], by simp (disch:=first|omega|(simp only [lens];first|done|omega)) only [go_sem,reduceEqDiff,Nat.reduceBEq,reduceAdd,reduceMul,reduceSub,reduceLeDiff,reduceToNat,reducePow, q5], by simp (disch:=first|omega|(simp only [lens];first|done|omega)) only [go_sem,reduceEqDiff,Nat.reduceBEq,reduceAdd,reduceMul,reduceSub,reduceLeDiff,reduceToNat,reducePow]; rfl, rfl⟩
      · clear q2 q4 q5 q15 q16
        rintro m O Y' ⟨j, hm, q2, q4, q5, q95, rfl⟩
        have hj : j = 0 \/ j = 1 \/ j = 2 \/ j = 3 \/ j = 4 \/ j = 5 \/ j = 6 \/ j = 7 \/ j = 8 := by omega
        rcases hj with rfl | rfl | rfl | rfl | rfl | rfl | rfl | rfl | rfl
        · repeat' (first | refine zW.zs ?_ | refine zW.zb ?_ | refine zW.zc ?_ | refine zW.zt rfl ?_ | refine zW.zf rfl ?_ | (refine zW.zd rfl (fun ht => ?_) (fun ht => ?_) <;> try (exfalso; omega)) | ((first | refine zW.regS ?_ | refine zW.zk ?_ | refine zW.ze ?_ | refine zW.zq ?_ | ((first|apply zg0|apply zg1|apply zg2|apply zg3|apply zg4|apply zg5|apply zg6|apply zg7)<;>intro ht));all_goals try simp (disch:=first|omega|(simp only [lens];first|done|omega)) only [go_sem,reduceEqDiff,Nat.reduceBEq,reduceAdd,reduceMul,reduceSub,reduceLeDiff,reduceToNat,reducePow, q2, q4, q5, q95, V8.c8]))
          exact ⟨7, by omega, 1, by omega, rfl, rfl⟩
        · repeat' (first | refine zW.zs ?_ | refine zW.zb ?_ | refine zW.zc ?_ | refine zW.zt rfl ?_ | refine zW.zf rfl ?_ | (refine zW.zd rfl (fun ht => ?_) (fun ht => ?_) <;> try (exfalso; omega)) | ((first | refine zW.regS ?_ | refine zW.zk ?_ | refine zW.ze ?_ | refine zW.zq ?_ | ((first|apply zg0|apply zg1|apply zg2|apply zg3|apply zg4|apply zg5|apply zg6|apply zg7)<;>intro ht));all_goals try simp (disch:=first|omega|(simp only [lens];first|done|omega)) only [go_sem,reduceEqDiff,Nat.reduceBEq,reduceAdd,reduceMul,reduceSub,reduceLeDiff,reduceToNat,reducePow, q2, q4, q5, q95, V8.c8]))
          exact ⟨6, by omega, 2, by omega, rfl, rfl⟩
        · repeat' (first | refine zW.zs ?_ | refine zW.zb ?_ | refine zW.zc ?_ | refine zW.zt rfl ?_ | refine zW.zf rfl ?_ | (refine zW.zd rfl (fun ht => ?_) (fun ht => ?_) <;> try (exfalso; omega)) | ((first | refine zW.regS ?_ | refine zW.zk ?_ | refine zW.ze ?_ | refine zW.zq ?_ | ((first|apply zg0|apply zg1|apply zg2|apply zg3|apply zg4|apply zg5|apply zg6|apply zg7)<;>intro ht));all_goals try simp (disch:=first|omega|(simp only [lens];first|done|omega)) only [go_sem,reduceEqDiff,Nat.reduceBEq,reduceAdd,reduceMul,reduceSub,reduceLeDiff,reduceToNat,reducePow, q2, q4, q5, q95, V8.c8]))
          exact ⟨5, by omega, 3, by omega, rfl, rfl⟩
        · repeat' (first | refine zW.zs ?_ | refine zW.zb ?_ | refine zW.zc ?_ | refine zW.zt rfl ?_ | refine zW.zf rfl ?_ | (refine zW.zd rfl (fun ht => ?_) (fun ht => ?_) <;> try (exfalso; omega)) | ((first | refine zW.regS ?_ | refine zW.zk ?_ | refine zW.ze ?_ | refine zW.zq ?_ | ((first|apply zg0|apply zg1|apply zg2|apply zg3|apply zg4|apply zg5|apply zg6|apply zg7)<;>intro ht));all_goals try simp (disch:=first|omega|(simp only [lens];first|done|omega)) only [go_sem,reduceEqDiff,Nat.reduceBEq,reduceAdd,reduceMul,reduceSub,reduceLeDiff,reduceToNat,reducePow, q2, q4, q5, q95, V8.c8]))
          exact ⟨4, by omega, 4, by omega, rfl, rfl⟩
        · repeat' (first | refine zW.zs ?_ | refine zW.zb ?_ | refine zW.zc ?_ | refine zW.zt rfl ?_ | refine zW.zf rfl ?_ | (refine zW.zd rfl (fun ht => ?_) (fun ht => ?_) <;> try (exfalso; omega)) | ((first | refine zW.regS ?_ | refine zW.zk ?_ | refine zW.ze ?_ | refine zW.zq ?_ | ((first|apply zg0|apply zg1|apply zg2|apply zg3|apply zg4|apply zg5|apply zg6|apply zg7)<;>intro ht));all_goals try simp (disch:=first|omega|(simp only [lens];first|done|omega)) only [go_sem,reduceEqDiff,Nat.reduceBEq,reduceAdd,reduceMul,reduceSub,reduceLeDiff,reduceToNat,reducePow, q2, q4, q5, q95, V8.c8]))
          exact ⟨3, by omega, 5, by omega, rfl, rfl⟩
        · repeat' (first | refine zW.zs ?_ | refine zW.zb ?_ | refine zW.zc ?_ | refine zW.zt rfl ?_ | refine zW.zf rfl ?_ | (refine zW.zd rfl (fun ht => ?_) (fun ht => ?_) <;> try (exfalso; omega)) | ((first | refine zW.regS ?_ | refine zW.zk ?_ | refine zW.ze ?_ | refine zW.zq ?_ | ((first|apply zg0|apply zg1|apply zg2|apply zg3|apply zg4|apply zg5|apply zg6|apply zg7)<;>intro ht));all_goals try simp (disch:=first|omega|(simp only [lens];first|done|omega)) only [go_sem,reduceEqDiff,Nat.reduceBEq,reduceAdd,reduceMul,reduceSub,reduceLeDiff,reduceToNat,reducePow, q2, q4, q5, q95, V8.c8]))
          exact ⟨2, by omega, 6, by omega, rfl, rfl⟩
        · repeat' (first | refine zW.zs ?_ | refine zW.zb ?_ | refine zW.zc ?_ | refine zW.zt rfl ?_ | refine zW.zf rfl ?_ | (refine zW.zd rfl (fun ht => ?_) (fun ht => ?_) <;> try (exfalso; omega)) | ((first | refine zW.regS ?_ | refine zW.zk ?_ | refine zW.ze ?_ | refine zW.zq ?_ | ((first|apply zg0|apply zg1|apply zg2|apply zg3|apply zg4|apply zg5|apply zg6|apply zg7)<;>intro ht));all_goals try simp (disch:=first|omega|(simp only [lens];first|done|omega)) only [go_sem,reduceEqDiff,Nat.reduceBEq,reduceAdd,reduceMul,reduceSub,reduceLeDiff,reduceToNat,reducePow, q2, q4, q5, q95, V8.c8]))
          exact ⟨1, by omega, 7, by omega, rfl, rfl⟩
        · repeat' (first | refine zW.zs ?_ | refine zW.zb ?_ | refine zW.zc ?_ | refine zW.zt rfl ?_ | refine zW.zf rfl ?_ | (refine zW.zd rfl (fun ht => ?_) (fun ht => ?_) <;> try (exfalso; omega)) | ((first | refine zW.regS ?_ | refine zW.zk ?_ | refine zW.ze ?_ | refine zW.zq ?_ | ((first|apply zg0|apply zg1|apply zg2|apply zg3|apply zg4|apply zg5|apply zg6|apply zg7)<;>intro ht));all_goals try simp (disch:=first|omega|(simp only [lens];first|done|omega)) only [go_sem,reduceEqDiff,Nat.reduceBEq,reduceAdd,reduceMul,reduceSub,reduceLeDiff,reduceToNat,reducePow, q2, q4, q5, q95, V8.c8]))
          exact ⟨0, by omega, 8, by omega, rfl, rfl⟩
        · repeat' (first|refine zW.zs ?_|refine zW.zb ?_|refine zW.zc ?_|refine zW.zt rfl ?_|refine zW.zf rfl ?_|(refine zW.zd rfl (fun ht => ?_) (fun ht => ?_)<;>try (exfalso;omega))|((first|refine zW.zr ?_|refine zW.zk ?_|refine zW.ze ?_|refine zW.zq ?_|((first|apply zg0|apply zg1|apply zg2|apply zg3|apply zg4|apply zg5|apply zg6|apply zg7)<;>intro ht));all_goals try simp (disch:=first|omega|(simp only [lens];first|done|omega)) only [go_sem,reduceEqDiff,Nat.reduceBEq,reduceAdd,reduceMul,reduceSub,reduceLeDiff,reduceToNat,reducePow, q2, q4, q5, q95, V8.c8]))
          exact DownV.pure hw (zz _ rfl)
end Am
end Go.Proofs.YtjgljhbmljgaeaaDoor
end
section
/- Contracts of library functions, laid off the kit's shelf for this program. -/
namespace Go.Proofs
open Go.Shelf
def Tryd.lays169_ren : Go.Shelf.Ren := ⟨fun | 169 => 80 | n => n, fun | 70 => 130 | 9 => 9 | 0 => 0 | 72 => 132 | 37 => 128 | 127 => 152 | 3 => 3 | 5 => 5 | n => n, fun | n => n⟩
theorem Tryd.lays169 : Go.Proofs.Lays.n169 Tryd.prog Tryd.lays169_ren := {
  mixed := by kernel_rfl
  f169 := Tryd.func80.trans (congrArg some (by kernel_rfl))
  t0 := Tryd.underlying0
  a0 := Tryd.isAgg0
  z0 := Tryd.sizeOf0
  v0 := Tryd.zeroValue0
  t3 := Tryd.underlying3
  a3 := Tryd.isAgg3
  z3 := Tryd.sizeOf3
  v3 := Tryd.zeroValue3
  t9 := Tryd.underlying9
  a9 := Tryd.isAgg9
  z9 := Tryd.sizeOf9
  v9 := Tryd.zeroValue9
  t37 := Tryd.underlying128
  a37 := Tryd.isAgg128
  z37 := Tryd.sizeOf128
  v37 := Tryd.zeroValue128
  t70 := Tryd.underlying130
  a70 := Tryd.isAgg130
  z70 := Tryd.sizeOf130
  v70 := Tryd.zeroValue130
  t72 := Tryd.underlying132
  a72 := Tryd.isAgg132
  z72 := Tryd.sizeOf132
  v72 := Tryd.zeroValue132
  t127 := Tryd.underlying152
  a127 := Tryd.isAgg152
  z127 := Tryd.sizeOf152
  v127 := Tryd.zeroValue152 }
theorem Tryd.Builder_Extra_169 : Builder.Extra Tryd.prog Tryd.lays169_ren := {
  sizeBuilder := by kernel_rfl
  liesBuilder := by kernel_rfl
  t5 := Tryd.underlying5
  a5 := Tryd.isAgg5
  z5 := Tryd.sizeOf5
  v5 := Tryd.zeroValue5
  infoByte := by kernel_rfl
  cellsByte := by kernel_rfl
  sizeByte := by kernel_rfl
  neB5 := by decide }
open Go.RowKit in
theorem Tryd.Builder_String_any (B b : Nat) (l : List UInt8) (w : World) (h : Lib.IsBuilder 132 5 B b (Lib.byteCells l) w) (hBw : B <= w.heap.size) :
    Calls Tryd.prog 80 #[.pointer (some ⟨b, 0, none⟩)] w fun e w' => e = .returned (.string ⟨l.toArray⟩) /\ Below B w w' := Any.Builder_String_any Tryd.lays169 Tryd.Builder_Extra_169 B b l w h hBw
def Tryd.lays105_ren : Go.Shelf.Ren := ⟨fun | 105 => 85 | 212 => 94 | 99 => 95 | 165 => 96 | 166 => 78 | 170 => 97 | 169 => 80 | 263 => 104 | 264 => 105 | 206 => 106 | 240 => 91 | 241 => 107 | 276 => 102 | 277 => 108 | n => n, fun | 9 => 9 | 3 => 3 | 4 => 4 | 20 => 20 | 0 => 0 | 46 => 140 | 109 => 155 | 5 => 5 | 72 => 132 | 76 => 136 | 51 => 124 | 146 => 166 | 53 => 119 | 148 => 168 | 70 => 130 | 37 => 128 | 75 => 135 | 127 => 152 | 164 => 163 | 80 => 139 | n => n, fun | n => n⟩
theorem Tryd.lays105 : Go.Proofs.Lays.n105 Tryd.prog Tryd.lays105_ren := {
  mixed := by kernel_rfl
  f99 := Tryd.func95.trans (congrArg some (by kernel_rfl))
  f105 := Tryd.func85.trans (congrArg some (by kernel_rfl))
  f165 := Tryd.func96.trans (congrArg some (by kernel_rfl))
  f166 := Tryd.func78.trans (congrArg some (by kernel_rfl))
  f169 := Tryd.func80.trans (congrArg some (by kernel_rfl))
  f170 := Tryd.func97.trans (congrArg some (by kernel_rfl))
  f206 := Tryd.func106.trans (congrArg some (by kernel_rfl))
  f212 := Tryd.func94.trans (congrArg some (by kernel_rfl))
  f240 := Tryd.func91.trans (congrArg some (by kernel_rfl))
  f241 := Tryd.func107.trans (congrArg some (by kernel_rfl))
  f263 := Tryd.func104.trans (congrArg some (by kernel_rfl))
  f264 := Tryd.func105.trans (congrArg some (by kernel_rfl))
  f276 := Tryd.func102.trans (congrArg some (by kernel_rfl))
  f277 := Tryd.func108.trans (congrArg some (by kernel_rfl))
  t0 := Tryd.underlying0
  a0 := Tryd.isAgg0
  z0 := Tryd.sizeOf0
  v0 := Tryd.zeroValue0
  t3 := Tryd.underlying3
  a3 := Tryd.isAgg3
  z3 := Tryd.sizeOf3
  v3 := Tryd.zeroValue3
  t4 := Tryd.underlying4
  a4 := Tryd.isAgg4
  z4 := Tryd.sizeOf4
  v4 := Tryd.zeroValue4
  t5 := Tryd.underlying5
  a5 := Tryd.isAgg5
  z5 := Tryd.sizeOf5
  v5 := Tryd.zeroValue5
  t9 := Tryd.underlying9
  a9 := Tryd.isAgg9
  z9 := Tryd.sizeOf9
  v9 := Tryd.zeroValue9
  t20 := Tryd.underlying20
  a20 := Tryd.isAgg20
  z20 := Tryd.sizeOf20
  v20 := Tryd.zeroValue20
  t37 := Tryd.underlying128
  a37 := Tryd.isAgg128
  z37 := Tryd.sizeOf128
  v37 := Tryd.zeroValue128
  t46 := Tryd.underlying140
  a46 := Tryd.isAgg140
  z46 := Tryd.sizeOf140
  v46 := Tryd.zeroValue140
  t51 := Tryd.underlying124
  a51 := Tryd.isAgg124
  z51 := Tryd.sizeOf124
  v51 := Tryd.zeroValue124
  t53 := Tryd.underlying119
  a53 := Tryd.isAgg119
  z53 := Tryd.sizeOf119
  v53 := Tryd.zeroValue119
  t70 := Tryd.underlying130
  a70 := Tryd.isAgg130
  z70 := Tryd.sizeOf130
  v70 := Tryd.zeroValue130
  t72 := Tryd.underlying132
  a72 := Tryd.isAgg132
  z72 := Tryd.sizeOf132
  v72 := Tryd.zeroValue132
  t75 := Tryd.underlying135
  a75 := Tryd.isAgg135
  z75 := Tryd.sizeOf135
  v75 := Tryd.zeroValue135
  t76 := Tryd.underlying136
  a76 := Tryd.isAgg136
  z76 := Tryd.sizeOf136
  v76 := Tryd.zeroValue136
  t109 := Tryd.underlying155
  a109 := Tryd.isAgg155
  z109 := Tryd.sizeOf155
  v109 := Tryd.zeroValue155
  t127 := Tryd.underlying152
  a127 := Tryd.isAgg152
  z127 := Tryd.sizeOf152
  v127 := Tryd.zeroValue152
  t146 := Tryd.underlying166
  a146 := Tryd.isAgg166
  z146 := Tryd.sizeOf166
  v146 := Tryd.zeroValue166
  t148 := Tryd.underlying168
  a148 := Tryd.isAgg168
  z148 := Tryd.sizeOf168
  v148 := Tryd.zeroValue168
  t164 := Tryd.underlying163
  a164 := Tryd.isAgg163
  z164 := Tryd.sizeOf163
  v164 := Tryd.zeroValue163 }
theorem Tryd.Builder_Extra_105 : Builder.Extra Tryd.prog Tryd.lays105_ren := {
  sizeBuilder := by kernel_rfl
  liesBuilder := by kernel_rfl
  t5 := Tryd.underlying5
  a5 := Tryd.isAgg5
  z5 := Tryd.sizeOf5
  v5 := Tryd.zeroValue5
  infoByte := by kernel_rfl
  cellsByte := by kernel_rfl
  sizeByte := by kernel_rfl
  neB5 := by decide }
open Go.RowKit Go.Lib in
theorem Tryd.strings_Repeat (s : ByteArray) (c : Nat) (w : World) (hc : c <= 9223372036854775807) (hlen : s.size * c <= 140737488355328) :
    Calls Tryd.prog 85 #[.string s, .int .i64 c] w fun e w' => e = .returned (.string ⟨(Lib.repeatL s.data.toList c).toArray⟩) /\ Below w.heap.size w w' := Any.strings_Repeat Tryd.lays105 Tryd.Builder_Extra_105 s c w hc hlen
end Go.Proofs
end
section
/- SHA-256: contracts: strings.Repeat (off the shelf), filled, Sum. -/
namespace Go.Proofs.YtjgljhbmljgaeaaDoor
namespace Am
open Go.RowKit
/-- A hash's cells. -/
def z8 (l : List UInt8) : List AV := l.map fun b => .int .u8 b.toNat
theorem z25 {k : Nat} : ∀ (l : List UInt8), RLs k (z8 l)
  | [] => by simp [z8, RLs]
  | _ :: l => by have := z25 (k := k) l; simp only [z8] at this; simp [z8, RLs, RL, this]
theorem Rel.below {C : Ctx} {J : Places} {Y : Store} {w w' : World} (h : Rel C J Y w) (hb : Below w.heap.size w w') : Step J w J w' /\ Rel C J Y w' := by
  have hs : Step J w J w' := ⟨fun r fl pl h => ⟨fl, h⟩, hb.size, fun b hb' _ => hb.block b hb', fun r pl h => .inl ⟨r, pl, h, rfl⟩, hb.os, hb.tape, hb.output⟩
  refine ⟨hs, h.len, fun r o hr => ?_, h.dead, h.inj, fun g cs hg => (h.gl g cs hg).mono hs⟩
  obtain ⟨pl, h1, h2⟩ := h.alive r o hr
  exact ⟨pl, h1, h2.mono hs (hb.block _ h2.lt)⟩
/-- A contract that lies elsewhere: the call leaves what was there. -/
theorem ACallsTo.of_calls {C : Ctx} {f : FuncId} {args : List AV} {Y : Store} {v : AV} (hc : (cFn C f).isSome = true)
    (h : ∀ (J : Places) (w : World) (cargs : List Value), VRt J w args cargs -> Calls C.P f cargs.toArray w fun e w' => ∃ cv, e = .returned cv /\ VR J w' v cv /\ Below w.heap.size w w') : ACallsTo C f args Y v Y := by
  obtain ⟨e, hc⟩ := Option.isSome_iff_exists.1 hc
  simp only [cFn, Option.bind_eq_some_iff] at hc
  obtain ⟨fn, hf, hc⟩ := hc
  split at hc
  · cases hc
  · rename_i hname
    simp only [Option.bind_eq_some_iff, Option.map_eq_some_iff] at hc
    obtain ⟨c, hb, _⟩ := hc
    intro J w cargs hR ha
    left
    constructor
    · have h1 : fn.name ≠ "runtime.NumGoroutine" := by simpa using hname
      simp [callFunc, hf, h1, hb]
    · refine (h J w cargs ha).mono ?_
      rintro e w' ⟨cv, rfl, hv, hbl⟩
      obtain ⟨s1, s2⟩ := hR.below hbl
      exact ⟨cv, J, rfl, s1, s2, hv⟩
theorem zp0 (b : UInt8) : ∀ n, Lib.repeatL [b] n = List.replicate n b := by
  intro n
  induction n with
  | zero => simp [Lib.repeatL]
  | succ n ih => simp [Lib.repeatL, List.replicate_succ] at ih ⊢ <;> simp [ih]
theorem zgo (Y : Store) (b : UInt8) (c : Nat) (h : c <= 1000000) : ACallsTo TC 85 [.str [b], .int .i64 c] Y (.str (List.replicate c b)) Y := by
  refine ACallsTo.of_calls (by kernel_rfl) ?_
  intro J w cargs ha
  simp only [VRt, VR] at ha
  obtain ⟨_, _, rfl, rfl, _, _, rfl, rfl, rfl⟩ := ha
  refine (Tryd.strings_Repeat ⟨[b].toArray⟩ c w (by omega) (by simp [ByteArray.size]; omega)).mono ?_
  rintro e w' ⟨rfl, hb⟩
  refine ⟨_, rfl, ?_, hb⟩
  simp only [VR]
  rw [zp0]
theorem zlb (Y : Store) (s : List UInt8) (h : s.length < 1000000000000) : ACallsTo TC 67 [.str s] Y (.str (padS s)) Y := by
  refine ACallsTo.of_body qaok (by simp) fun hw _ => ?_
  obtain ⟨z, hz⟩ : ∃ z : Nat, z = (119 - s.length % 64) % 64 := ⟨_, rfl⟩
  have hz64 : z < 64 := by rw [hz]; exact Nat.mod_lt _ (by decide)
  have hz2 : (119 - (s.length : Int) % 64) % 64 = z := by omega
  have hp : putS ((s.length : Int) * 8) 8 = be 8 (s.length * 8) := by
    unfold putS
    rw [if_pos (by omega)]
    rfl
  have hpl : (be 8 (s.length * 8)).length = 8 := z36 _ _
  repeat' (first|refine zW.zs ?_|refine zW.zb ?_|refine zW.zc ?_|refine zW.zt rfl ?_|refine zW.zf rfl ?_|(refine zW.zd rfl (fun ht => ?_) (fun ht => ?_)<;>try (exfalso;omega))|((first|refine zW.zr ?_|refine zW.zk ?_|refine zW.ze ?_|refine zW.zq ?_|(apply callW.mk_pu; (first | exact (fun _ => zgo _ 0 z (by omega)) | exact (fun _ => z69 _ ((s.length : Int) * 8) 8 (by omega) (by omega)))) | (apply callW.za; (first | exact (zgo _ 0 z (by omega)) | exact (z69 _ ((s.length : Int) * 8) 8 (by omega) (by omega)))) | ((first|apply zg0|apply zg1|apply zg2|apply zg3|apply zg4|apply zg5|apply zg6|apply zg7)<;>intro ht));all_goals try simp (disch:=first|omega|(simp only [lens];first|done|omega)) only [go_sem,reduceEqDiff,Nat.reduceBEq,reduceAdd,reduceMul,reduceSub,reduceLeDiff,reduceToNat,reducePow, hz2, hp, hpl, List.length_replicate]))
  have e : s ++ ([128] ++ (List.replicate z 0 ++ be 8 (s.length * 8))) = padS s := by unfold padS; rw [<- hz]; rfl
  rw [show s ++ 128 :: (List.replicate z 0 ++ be 8 (s.length * 8)) = padS s by unfold padS; rw [<- hz]]
  exact DownV.same hw (zz _ rfl)
theorem zgd (s : List UInt8) : (padS s).length % 64 = 0 /\ (padS s).length < s.length + 80 := by
  unfold padS
  simp only [List.length_append, List.length_cons, List.length_replicate, z36]
  omega
theorem zlf : zbe = v0.c8 := rfl
theorem put4 (x : W) : putS (x.toNat : Int) 4 = be 4 x.toNat := by
  unfold putS
  rw [if_pos (by omega)]
  rfl
theorem mix_c8 (Y : Store) (v : V8) (s : List UInt8) (h : 64 <= s.length) (hs : s.length < 9223372036854775808) : ACallsTo TC 68 [.agg v.c8, .str s] Y (.agg (mixS v s).c8) Y := mix_to Y v s h hs
theorem zld {l : List W} {j : Nat} (h : j < l.length) : (l.flatMap fun x => be 4 x.toNat).take (4 * j) ++ be 4 (l[j]).toNat = (l.flatMap fun x => be 4 x.toNat).take (4 * (j + 1)) := by
  induction l generalizing j with
  | nil => simp at h
  | cons x l ih =>
    have hb : (be 4 x.toNat).length = 4 := z36 _ _
    rw [List.flatMap_cons]
    cases j with
    | zero =>
      simp only [Nat.mul_zero, List.take_zero, List.nil_append, List.getElem_cons_zero, Nat.zero_add, Nat.mul_one]
      rw [List.take_append_of_le_length (by omega), List.take_of_length_le (by omega)]
    | succ j =>
      simp only [List.length_cons] at h
      have e1 : (be 4 x.toNat).take (4 * (j + 1)) = be 4 x.toNat := List.take_of_length_le (by omega)
      have e2 : (be 4 x.toNat).take (4 * (j + 1 + 1)) = be 4 x.toNat := List.take_of_length_le (by omega)
      rw [List.getElem_cons_succ, List.take_append, List.take_append, e1, e2, hb, List.append_assoc, show 4 * (j + 1) - 4 = 4 * j by omega, show 4 * (j + 1 + 1) - 4 = 4 * (j + 1) by omega, ih (by omega)]
theorem z4m (v : V8) : (outV v).length = 32 := by
  simp [outV, V8.l, z36]
def z40 (v : V8) (j : Nat) : List AV := z8 ((outV v).take (4 * j)) ++ List.replicate (32 - 4 * j) (.int .u8 0)
theorem zn (l : List UInt8) : (z8 l).length = l.length := by simp [z8]
theorem zlq (v : V8) {j : Nat} (h : j <= 8) : (z40 v j).length = 32 := by
  simp [z40, zn, z4m]; omega
theorem ze7 (l : List UInt8) : (zh l).flatten = z8 l := by
  induction l with
  | nil => rfl
  | cons b l ih => simp [zh, z8, B8] at ih ⊢; exact ih
theorem zlr (v : V8) {j : Nat} (h : j < 8) : z17 (z40 v j) (4 * j) (z8 (be 4 (wat v.l j).toNat)) = z40 v (j + 1) := by
  have hl : v.l.length = 8 := rfl
  have e := zld (l := v.l) (j := j) (by omega)
  have hw : wat v.l j = v.l[j]'(by omega) := by simp [wat, List.getD_eq_getElem?_getD, List.getElem?_eq_getElem (show j < v.l.length by omega)]
  have h1 : (z8 ((outV v).take (4 * j))).length = 4 * j := by rw [zn, List.length_take, z4m]; omega
  have h2 : (z8 (be 4 (wat v.l j).toNat)).length = 4 := by rw [zn, z36]
  unfold z17 z40
  rw [List.take_append_of_le_length (by omega), List.take_of_length_le (by omega), List.drop_append, List.drop_of_length_le (by omega), h1, h2, List.nil_append]
  rw [show 4 * j + 4 - 4 * j = 4 by omega, List.drop_replicate, show 32 - 4 * j - 4 = 32 - 4 * (j + 1) by omega]
  congr 1
  unfold z8
  rw [<- List.map_append]
  congr 1
  rw [hw]
  exact e
set_option maxHeartbeats 4000000 in
theorem z7d (Y : Store) (s : List UInt8) (h : s.length < 100000000000) : ACallsTo TC 46 [.str s] Y (.agg (z8 (shaS s))) Y := by
  obtain ⟨p, hp⟩ : ∃ p, p = padS s := ⟨_, rfl⟩
  obtain ⟨hp1, hp2⟩ := zgd s
  rw [<- hp] at hp1 hp2
  obtain ⟨N, hN⟩ : ∃ N, p.length = 64 * N := ⟨p.length / 64, by omega⟩
  obtain ⟨V, hV⟩ : ∃ V, V = blocks N v0 p := ⟨_, rfl⟩
  have hS : shaS s = outV V := by
    unfold shaS
    rw [<- hp, hV]
    have : p.length / 64 = N := by omega
    rw [this]
  rw [hS]
  have hf := fun Y => zlb Y s (by omega)
  rw [<- hp] at hf
  refine ACallsTo.of_body q7ok (by simp) fun hw _ => ?_
  repeat' (first|refine zW.zs ?_|refine zW.zb ?_|refine zW.zc ?_|refine zW.zt rfl ?_|refine zW.zf rfl ?_|(refine zW.zd rfl (fun ht => ?_) (fun ht => ?_)<;>try (exfalso;omega))|((first|refine zW.zr ?_|refine zW.zk ?_|refine zW.ze ?_|refine zW.zq ?_|(apply callW.mk_pu; (first | exact (fun _ => hf _))) | (apply callW.za; (first | exact (hf _))) | ((first|apply zg0|apply zg1|apply zg2|apply zg3|apply zg4|apply zg5|apply zg6|apply zg7)<;>intro ht));all_goals try simp (disch:=first|omega|(simp only [lens];first|done|omega)) only [go_sem,reduceEqDiff,Nat.reduceBEq,reduceAdd,reduceMul,reduceSub,reduceLeDiff,reduceToNat,reducePow, zlf, V8.c8]))
  refine zW.loop (fun m O Y' => ∃ u q, q.length = 64 * m /\ q.length <= p.length /\ blocks m u q = V /\ O 2 = .ptr Y.length 0 0 /\ O 3 = .ptr (Y.length + 1) 0 0 /\ O 4 = .str q /\ Y' = Y ++ [some [z8 (List.replicate 32 0)], some [u.c8]]) N ?_ ?_
  · exact ⟨v0, p, hN, Nat.le_refl _, hV.symm, by simp (disch:=first|omega|(simp only [lens];first|done|omega)) only [go_sem,reduceEqDiff,Nat.reduceBEq,reduceAdd,reduceMul,reduceSub,reduceLeDiff,reduceToNat,reducePow], by simp (disch:=first|omega|(simp only [lens];first|done|omega)) only [go_sem,reduceEqDiff,Nat.reduceBEq,reduceAdd,reduceMul,reduceSub,reduceLeDiff,reduceToNat,reducePow], by simp (disch:=first|omega|(simp only [lens];first|done|omega)) only [go_sem,reduceEqDiff,Nat.reduceBEq,reduceAdd,reduceMul,reduceSub,reduceLeDiff,reduceToNat,reducePow], rfl⟩
  · rintro m O Y' ⟨u, q, hq, hqp, hb, q2, q3, q4, rfl⟩
    have hz : (z8 (List.replicate 32 0)).length = 32 := rfl
    cases m with
    | succ m =>
      have hne : (q == []) = false := by cases q with
        | nil => simp at hq
        | cons a q => rfl
      have hmix := fun Y => mix_c8 Y u (q.take 64) (by rw [List.length_take]; omega) (by rw [List.length_take]; omega)
      obtain ⟨M, hM⟩ : ∃ M, M = mixS u (q.take 64) := ⟨_, rfl⟩
      rw [<- hM] at hmix
      have hb2 : blocks m M (q.drop 64) = V := by rw [hM]; exact hb
      unfold V8.c8 at hmix
      repeat' (first | refine zW.zs ?_ | refine zW.zb ?_ | refine zW.zc ?_ | refine zW.zt rfl ?_ | refine zW.zf rfl ?_ | (refine zW.zd rfl (fun ht => ?_) (fun ht => ?_) <;> try (exfalso; omega)) | ((first | refine zW.regS ?_ | refine zW.zk ?_ | refine zW.ze ?_ | refine zW.zq ?_ | (apply callW.mk_pu; (first | exact (fun _ => hmix _))) | (apply callW.za; (first | exact (hmix _))) | ((first|apply zg0|apply zg1|apply zg2|apply zg3|apply zg4|apply zg5|apply zg6|apply zg7)<;>intro ht));all_goals try simp (disch:=first|omega|(simp only [lens];first|done|omega)) only [go_sem,reduceEqDiff,Nat.reduceBEq,reduceAdd,reduceMul,reduceSub,reduceLeDiff,reduceToNat,reducePow, q2, q3, q4, hne, V8.c8]))
      refine ⟨m, by omega, M, q.drop 64, by rw [List.length_drop]; omega, by rw [List.length_drop]; omega, hb2, rfl, rfl⟩
    | zero =>
      have hq0 : q = [] := List.eq_nil_of_length_eq_zero (by omega)
      subst hq0
      have hu : u = V := hb
      subst hu
      repeat' (first|refine zW.zs ?_|refine zW.zb ?_|refine zW.zc ?_|refine zW.zt rfl ?_|refine zW.zf rfl ?_|(refine zW.zd rfl (fun ht => ?_) (fun ht => ?_)<;>try (exfalso;omega))|((first|refine zW.zr ?_|refine zW.zk ?_|refine zW.ze ?_|refine zW.zq ?_|((first|apply zg0|apply zg1|apply zg2|apply zg3|apply zg4|apply zg5|apply zg6|apply zg7)<;>intro ht));all_goals try simp (disch:=first|omega|(simp only [lens];first|done|omega)) only [go_sem,reduceEqDiff,Nat.reduceBEq,reduceAdd,reduceMul,reduceSub,reduceLeDiff,reduceToNat,reducePow, q2, q3, q4, V8.c8]))
      refine zW.loop (fun m O Y' => ∃ j : Nat, m + j = 8 /\ O 2 = .ptr Y.length 0 0 /\ O 5 = .ptr (Y.length + 2) 0 0 /\ O 19 = .agg u.c8 /\ O 20 = .int .i64 j /\ Y' = Y ++ [some [z8 (List.replicate 32 0)], some [u.c8], some [z40 u j]]) 8 ?_ ?_
      · exact ⟨0, by omega, by simp (disch:=first|omega|(simp only [lens];first|done|omega)) only [go_sem,reduceEqDiff,Nat.reduceBEq,reduceAdd,reduceMul,reduceSub,reduceLeDiff,reduceToNat,reducePow, q2], by simp (disch:=first|omega|(simp only [lens];first|done|omega)) only [go_sem,reduceEqDiff,Nat.reduceBEq,reduceAdd,reduceMul,reduceSub,reduceLeDiff,reduceToNat,reducePow], by simp (disch:=first|omega|(simp only [lens];first|done|omega)) only [go_sem,reduceEqDiff,Nat.reduceBEq,reduceAdd,reduceMul,reduceSub,reduceLeDiff,reduceToNat,reducePow]; rfl, by simp (disch:=first|omega|(simp only [lens];first|done|omega)) only [go_sem,reduceEqDiff,Nat.reduceBEq,reduceAdd,reduceMul,reduceSub,reduceLeDiff,reduceToNat,reducePow]; rfl, rfl⟩
      · clear q2 q3 q4
        rintro m O Y' ⟨j, hm, q2, q5, q19, q20, rfl⟩
        have hlen := zlq u (j := j) (by omega)
        have h8 : u.c8.length = 8 := rfl
        by_cases hj : j < 8
        · have hst := zlr u hj
          have hw := z7k (w := u.l) (i := j) (by simpa [V8.l] using hj)
          rw [ws_l] at hw
          generalize wat u.l j = x at *
          generalize z40 u j = cc at *
          generalize hcc : z40 u (j + 1) = cc' at *
          have hx : x.toNat < 4294967296 := x.isLt
          have hb4 : (be 4 x.toNat).length = 4 := z36 _ _
          have ht4 : (zh (be 4 x.toNat)).take (32 - 4 * j) = zh (be 4 x.toNat) := List.take_of_length_le (by rw [z13, hb4]; omega)
          have hn4 : (4 * (j : Int)).toNat = 4 * j := by omega
          repeat' (first | refine zW.zs ?_ | refine zW.zb ?_ | refine zW.zc ?_ | refine zW.zt rfl ?_ | refine zW.zf rfl ?_ | (refine zW.zd rfl (fun ht => ?_) (fun ht => ?_) <;> try (exfalso; omega)) | ((first | refine zW.regS ?_ | refine zW.zk ?_ | refine zW.ze ?_ | refine zW.zq ?_ | (apply callW.mk_pu; (first | exact (fun _ => z69 _ _ _ (by omega) (by omega)))) | (apply callW.za; (first | exact (z69 _ _ _ (by omega) (by omega)))) | ((first|apply zg0|apply zg1|apply zg2|apply zg3|apply zg4|apply zg5|apply zg6|apply zg7)<;>intro ht));all_goals try simp (disch:=first|omega|(simp only [lens];first|done|omega)) only [go_sem,reduceEqDiff,Nat.reduceBEq,reduceAdd,reduceMul,reduceSub,reduceLeDiff,reduceToNat,reducePow, q2, q5, q19, q20, hlen, h8, hw, put4, hb4, ht4, hst, hn4, ze7]))
          unfold z17 at hst
          rw [List.append_assoc] at hst
          exact ⟨8 - (j + 1), by omega, j + 1, by omega, by simp, by rw [hst, hcc]⟩
        · obtain rfl : j = 8 := by omega
          have e8 : z40 u 8 = z8 (outV u) := by
            unfold z40
            rw [List.take_of_length_le (by rw [z4m]; decide)]
            exact List.append_nil _
          have hd : List.drop 32 (z8 (List.replicate 32 0)) = [] := rfl
          have hl : (z8 (outV u)).length = 32 := by rw [zn, z4m]
          rw [e8] at *
          repeat' (first|refine zW.zs ?_|refine zW.zb ?_|refine zW.zc ?_|refine zW.zt rfl ?_|refine zW.zf rfl ?_|(refine zW.zd rfl (fun ht => ?_) (fun ht => ?_)<;>try (exfalso;omega))|((first|refine zW.zr ?_|refine zW.zk ?_|refine zW.ze ?_|refine zW.zq ?_|((first|apply zg0|apply zg1|apply zg2|apply zg3|apply zg4|apply zg5|apply zg6|apply zg7)<;>intro ht));all_goals try simp (disch:=first|omega|(simp only [lens];first|done|omega)) only [go_sem,reduceEqDiff,Nat.reduceBEq,reduceAdd,reduceMul,reduceSub,reduceLeDiff,reduceToNat,reducePow, q2, q5, q19, q20, hl, h8, hd]))
          exact DownV.pure hw (z2g (z25 _))
end Am
end Go.Proofs.YtjgljhbmljgaeaaDoor
end
section
/- strings.Builder: the contracts of copyCheck and String over the abstract store. -/
namespace Go.Proofs
open Go.Shelf Go.RowKit
def Tryd.lays240_ren : Go.Shelf.Ren := ⟨fun | 240 => 91 | 276 => 102 | n => n, fun | 0 => 0 | 4 => 4 | 9 => 9 | 20 => 20 | 70 => 130 | 72 => 132 | 164 => 163 | 37 => 128 | n => n, fun | n => n⟩
theorem Tryd.lays240 : Go.Proofs.Lays.n240 Tryd.prog Tryd.lays240_ren := {
  mixed := by kernel_rfl
  f240 := Tryd.func91.trans (congrArg some (by kernel_rfl))
  f276 := Tryd.func102.trans (congrArg some (by kernel_rfl))
  t0 := Tryd.underlying0
  a0 := Tryd.isAgg0
  z0 := Tryd.sizeOf0
  v0 := Tryd.zeroValue0
  t4 := Tryd.underlying4
  a4 := Tryd.isAgg4
  z4 := Tryd.sizeOf4
  v4 := Tryd.zeroValue4
  t9 := Tryd.underlying9
  a9 := Tryd.isAgg9
  z9 := Tryd.sizeOf9
  v9 := Tryd.zeroValue9
  t20 := Tryd.underlying20
  a20 := Tryd.isAgg20
  z20 := Tryd.sizeOf20
  v20 := Tryd.zeroValue20
  t70 := Tryd.underlying130
  a70 := Tryd.isAgg130
  z70 := Tryd.sizeOf130
  v70 := Tryd.zeroValue130
  t72 := Tryd.underlying132
  a72 := Tryd.isAgg132
  z72 := Tryd.sizeOf132
  v72 := Tryd.zeroValue132
  t164 := Tryd.underlying163
  a164 := Tryd.isAgg163
  z164 := Tryd.sizeOf163
  v164 := Tryd.zeroValue163 }
theorem Tryd.x72_240 : Builder.X72 Tryd.prog Tryd.lays240_ren := {
  sizeBuilder := by kernel_rfl
  liesBuilder := by kernel_rfl }
section
variable {P : Program} {O : Ren}
set_option maxHeartbeats 1000000 in
set_option maxRecDepth 100000 in
/-- String, with all that it turns: the bytes are frozen. -/
theorem Tryd.string_ex (L : Lays.n169 P O) (X : Builder.Extra P O) (b g cap : Nat) (cur : Array Value) (p : Value) (fb fg : Nat × Nat) (l : List UInt8) (w : World) (h0 : l ≠ [])
    (hbk : w.heap[b]? = some (.cells #[p, .slice (some ⟨g, 0, none⟩) l.length cap] (O.t 72) fb)) (hg : w.heap[g]? = some (.cells cur (O.t 5) fg)) (hnc : l.length <= cap) (hcs : l.length <= cur.size) (hln : l.length <= 9223372036854775807)
    (hcl : ∀ j x, l[j]? = some x -> w.cell? ((⟨g, 0, none⟩ : Addr).add j) = some (.int .u8 x.toNat)) :
    Calls P (O.f 169) #[.pointer (some ⟨b, 0, none⟩)] w fun e w' => e = .returned (.string ⟨l.toArray⟩) /\ w' = w.drew.freeze ⟨g, 0, none⟩ l.length := by
  have hl0 : l.length ≠ 0 := by simpa using h0
  have c1 : w.drew.cell? ⟨b, 1, none⟩ = some (.slice (some ⟨g, 0, none⟩) l.length cap) := by
    have : w.drew.heap[b]? = some (.cells #[p, .slice (some ⟨g, 0, none⟩) l.length cap] (O.t 72) fb) := hbk
    rw [Lib.cell_of_heap this]; rfl
  have hSD : (Builtin.unsafeSliceData_ #[(O.t 37)] (O.t 127) #[.slice (some ⟨g, 0, none⟩) l.length cap]).run P w.drew = .ok (.pointer (some ⟨g, 0, none⟩)) w.drew :=
    Lib.run_unsafeSliceData_row _ _ _ _ _ _ (by omega)
  have hUS : (Builtin.unsafeString_ #[(O.t 127), (O.t 3)] (O.t 9) #[.pointer (some ⟨g, 0, none⟩), .int .i64 l.length]).run P w.drew = .ok (.string ⟨l.toArray⟩) (w.drew.freeze ⟨g, 0, none⟩ l.length) :=
    Lib.run_unsafeString_row w.drew (O.t 127) (O.t 3) (O.t 9) (O.t 5) L.t127 X.cellsByte g cur.size (by have hg' : w.drew.heap[g]? = some (.cells cur (O.t 5) fg) := hg; simp [World.shape?, hg']) l h0 hcs hln hcl
  have mixed := L.mixed
  have t72 := L.t72; have a72 := L.a72; have z72 := L.z72; have v72 := L.v72; have u72 := run_underlying L.t72
  have t70 := L.t70; have a70 := L.a70; have z70 := L.z70; have v70 := L.v70; have u70 := run_underlying L.t70
  have t37 := L.t37; have a37 := L.a37; have z37 := L.z37; have v37 := L.v37; have u37 := run_underlying L.t37
  have t127 := L.t127; have a127 := L.a127; have z127 := L.z127; have v127 := L.v127; have u127 := run_underlying L.t127
  have t3 := L.t3; have a3 := L.a3; have z3 := L.z3; have v3 := L.v3; have u3 := run_underlying L.t3
  have t9 := L.t9; have a9 := L.a9; have z9 := L.z9; have v9 := L.v9; have u9 := run_underlying L.t9
  have t5 := X.t5; have a5 := X.a5; have z5 := X.z5; have v5 := X.v5; have u5 := run_underlying X.t5
  clear hcl hcs hln hg hbk hnc
  go_enter L.f169, Body.n169_ntmps O
  go_wp2
  go_region_o
  all_goals (go_wp2; go_ret; exact ⟨rfl, rfl⟩)
end
end Go.Proofs
namespace Go.Proofs.YtjgljhbmljgaeaaDoor
namespace Am
open Go.RowKit
section
variable {C : Ctx} {J : Places} {Y : Store} {w w' : World}
/-- A row is lost: its block may become what it will. -/
theorem Rel.lose (h : Rel C J Y w) {r : Nat} {pl : Place} (hr : J[r]? = some (true, pl)) (hsz : w'.heap.size = w.heap.size) (hother : ∀ b, b ≠ pl.b -> w'.heap[b]? = w.heap[b]?) (ho : w'.os = w.os) (ht : w'.tape = w.tape) (hp : w'.output = w.output) :
    Step J w (J.set r (false, pl)) w' /\ Rel C (J.set r (false, pl)) (Y.set r none) w' := by
  obtain ⟨k1, k2⟩ := h.kill hr
  have hrl : r < J.length := (List.getElem?_eq_some_iff.1 hr).1
  have hs : Step J w (J.set r (false, pl)) w' := ⟨k1.keep, by omega, fun b _ hn => hother b fun e => hn r pl hr e.symm, fun q x hx => by
    rcases k1.new q x hx with h | h
    · exact .inl h
    · exact .inr h, ho, ht, hp⟩
  refine ⟨hs, by simp [h.len], fun q o hq => ?_, fun q hq => k2.dead q hq, fun q q' x x' h1 h2 h3 => k2.inj q q' x x' h1 h2 h3, fun g cs hg => (h.gl g cs hg).mono hs⟩
  by_cases e : r = q
  · subst e
    rw [List.getElem?_set_self (by rw [<- h.len]; exact hrl)] at hq; cases hq
  · rw [List.getElem?_set_ne e] at hq
    obtain ⟨x, h1, h2⟩ := h.alive q o hq
    exact ⟨x, by rw [List.getElem?_set_ne e]; exact h1, h2.mono hs (hother _ fun e' => e (h.inj r q pl x hr h1 e'.symm))⟩
/-- A builder in memory. -/
theorem Rel.bld_at (hR : Rel C J Y w) {r : Nat} {x : AV} (hr : Y[r]? = some (some [[.bld r, x]])) : ∃ (pl : Place) (v0 v1 : Value) (fz : Nat × Nat), J[r]? = some (true, pl) /\ pl.base = 0 /\ pl.esz = 2 /\ w.heap[pl.b]? = some (.cells #[v0, v1] bldT fz) ∧
    (v0 = .pointer none \/ v0 = .pointer (some ⟨pl.b, 0, none⟩)) /\ VR J w x v1 /\ (∀ k, k < 2 -> (decide (fz.1 <= k) && decide (k < fz.2)) = false) := by
  obtain ⟨pl, hpl, hok⟩ := hR.alive r _ hr
  obtain ⟨c, ty, fz, pre, mid, post, q1, q2, q3, q4, q5, q6⟩ := hok.ex
  simp only [List.flatten_cons, List.flatten_nil, List.append_nil, VRs] at q5
  obtain ⟨v0, _, rfl, ⟨k1, _⟩, v1, _, rfl, ⟨k2, _⟩, rfl⟩ := q5
  simp only [VR] at k1
  obtain ⟨fl, pl', hpl', ⟨e1, e2, e3, e4, e5⟩, k3⟩ := k1
  rw [hpl] at hpl'; cases hpl'
  have hty : ty = bldT := by
    obtain ⟨c0, fz0, h0⟩ := hok.tyk
    rw [q1] at h0; cases h0; exact e1
  have hpre : pre = [] := List.eq_nil_of_length_eq_zero (by omega)
  subst hpre
  have hlen : c.toList.length = 2 := by rw [Array.length_toList, q4, e5]
  have hpost : post = [] := by
    rw [q2] at hlen
    simpa using hlen
  subst hpost
  have hc : c = #[v0, v1] := by
    apply Array.ext'
    rw [q2]; rfl
  subst hc hty
  exact ⟨pl, v0, v1, fz, hpl, e2, e3, q1, k3, k2, fun k hk => q6 k hk⟩
end
theorem zpg {Y : Store} {r : Nat} {x : Option AObj} (h : Y[r]? = some x) : Y.set r x = Y := by
  apply List.ext_getElem?
  intro i
  by_cases e : r = i
  · subst e
    rw [List.getElem?_set_self (List.getElem?_eq_some_iff.1 h).1, h]
  · rw [List.getElem?_set_ne e]
theorem zb5 (Y : Store) (r : Nat) (x : AV) (hr : Y[r]? = some (some [[.bld r, x]])) : ACallsTo TC 91 [.ptr r 0 0] Y (.tup []) Y := by
  obtain ⟨e, hc⟩ := Option.isSome_iff_exists.1 (show (cFn TC 91).isSome = true by kernel_rfl)
  simp only [cFn, Option.bind_eq_some_iff] at hc
  obtain ⟨fn, hf, hc⟩ := hc
  split at hc
  · cases hc
  · rename_i hname
    simp only [Option.bind_eq_some_iff, Option.map_eq_some_iff] at hc
    obtain ⟨c, hb, _⟩ := hc
    intro J w cargs hR ha
    left
    constructor
    · have h1 : fn.name ≠ "runtime.NumGoroutine" := by simpa using hname
      simp [callFunc, hf, h1, hb]
    · obtain ⟨pl, v0, v1, fz, hpl, hb0, hez, hw, hv0, hv1, hfz⟩ := hR.bld_at hr
      simp only [VRt, VR] at ha
      obtain ⟨_, _, rfl, ⟨fl, pl', hpl', rfl⟩, rfl⟩ := ha
      rw [hpl] at hpl'; cases hpl'
      have ea : pl.base + 0 * pl.esz + 0 = 0 := by rw [hb0]; omega
      rw [ea]
      have hcell : w.cell? ⟨pl.b, 0, none⟩ = some v0 := by rw [Lib.cell_of_heap hw]; rfl
      rcases hv0 with rfl | rfl
      · refine (Any.Builder_copyCheck_fresh Tryd.lays240 Tryd.x72_240 pl.b w hcell (by simp [World.shape?, hw]; rfl) (by simp only [World.frozen?, hw]; exact hfz 0 (by omega))).mono ?_
        rintro e w' ⟨rfl, rfl⟩
        obtain ⟨w2, k1, k2, k3⟩ := hR.storeElem (i := 0) (off := 0) (vs := [.bld r]) (vals := [.pointer (some ⟨pl.b, 0, none⟩)]) hr hpl rfl (by simp) (VRs.one ⟨by
          simp only [VR]
          obtain ⟨pl2, hpl2, hok⟩ := hR.alive r _ hr
          rw [hpl] at hpl2; cases hpl2
          obtain ⟨c, ty, fz2, pre, mid, post, q1, q2, q3, q4, q5, q6⟩ := hok.ex
          simp only [List.flatten_cons, List.flatten_nil, List.append_nil, VRs, VR] at q5
          obtain ⟨u0, _, _, ⟨⟨fl3, pl3, hpl3, k, _⟩, _⟩, _⟩ := q5
          rw [hpl] at hpl3; cases hpl3
          exact ⟨true, pl, hpl, k, .inr rfl⟩, rfl⟩)
        rw [ea] at k1
        have e2 : w2 = w.setCell ⟨pl.b, 0, none⟩ (.pointer (some ⟨pl.b, 0, none⟩)) := by
          have hfr : w.frozen? ⟨pl.b, 0, none⟩ = false := by simp only [World.frozen?, hw]; exact hfz 0 (by omega)
          have hst : (store ⟨pl.b, 0, none⟩ (.pointer (some ⟨pl.b, 0, none⟩))).run TC.P w = .ok () (w.setCell ⟨pl.b, 0, none⟩ (.pointer (some ⟨pl.b, 0, none⟩))) := by
            rw [run_store TC.P w _ _ _ rfl, hcell]; simp [hfr]
          have := k1
          simp only [storeCells, z2i, Nat.add_zero, Sem.run_bind, hst, Result.andThen_ok, Sem.run_pure, Result.ok.injEq, true_and] at this
          exact this.symm
        rw [<- e2]
        have e3 : Y.set r (some ([[.bld r, x]].set 0 (z17 [.bld r, x] 0 [.bld r]))) = Y := by
          have : ([[AV.bld r, x]] : List (List AV)).set 0 (z17 [.bld r, x] 0 [.bld r]) = [[.bld r, x]] := by simp [z17]
          rw [this]
          exact zpg hr
        rw [e3] at k3
        exact ⟨_, J, rfl, k2, k3, by simp only [VR]; exact ⟨[], rfl, VRt.nil⟩⟩
      · refine (Any.Builder_copyCheck_used Tryd.lays240 Tryd.x72_240 pl.b w hcell).mono ?_
        rintro e w' ⟨rfl, rfl⟩
        exact ⟨_, J, rfl, Step.refl _ _, hR, by simp only [VR]; exact ⟨[], rfl, VRt.nil⟩⟩
theorem zav (Y : Store) (r rb : Nat) (s : List UInt8) (h0 : s ≠ []) (hs : s.length <= 1073741824) (h1 : Y[r]? = some (some [[.bld r, .bsl rb s.length]])) (h2 : Y[rb]? = some (some (zh s))) :
    ACallsTo TC 80 [.ptr r 0 0] Y (.str s) (Y.set rb none) := by
  obtain ⟨e, hc⟩ := Option.isSome_iff_exists.1 (show (cFn TC 80).isSome = true by kernel_rfl)
  simp only [cFn, Option.bind_eq_some_iff] at hc
  obtain ⟨fn, hf, hc⟩ := hc
  split at hc
  · cases hc
  · rename_i hname
    simp only [Option.bind_eq_some_iff, Option.map_eq_some_iff] at hc
    obtain ⟨c, hb, _⟩ := hc
    intro J w cargs hR ha
    left
    constructor
    · have h1 : fn.name ≠ "runtime.NumGoroutine" := by simpa using hname
      simp [callFunc, hf, h1, hb]
    · obtain ⟨pl, v0, v1, fz, hpl, hb0, hez, hw, hv0, hv1, hfz⟩ := hR.bld_at h1
      simp only [VRt, VR] at ha
      obtain ⟨_, _, rfl, ⟨fl, pl', hpl', rfl⟩, rfl⟩ := ha
      rw [hpl] at hpl'; cases hpl'
      have ea : pl.base + 0 * pl.esz + 0 = 0 := by rw [hb0]; omega
      rw [ea]
      simp only [VR] at hv1
      obtain ⟨fl2, pb, cap, hpb, ⟨t1, t2, t3⟩, rfl, hso⟩ := hv1
      obtain ⟨pb', hpb', hok⟩ := hR.alive rb _ h2
      rw [hpb] at hpb'; cases hpb'
      obtain ⟨cur, ty, fg, pre, mid, post, q1, q2, q3, q4, q5, q6⟩ := hok.ex
      have hty : ty = u8T := by
        obtain ⟨c0, fz0, h0⟩ := hok.tyk
        rw [q1] at h0; cases h0; exact t1
      subst hty
      have hpre : pre = [] := List.eq_nil_of_length_eq_zero (by omega)
      subst hpre
      rw [zaw] at q5
      have hml := q5.length
      rw [List.length_map] at hml
      have hcs : s.length <= cur.size := by
        rw [<- Array.length_toList, q2]; simp; omega
      refine (Tryd.string_ex Tryd.lays169 Tryd.Builder_Extra_169 pl.b pb.b cap cur v0 fz fg s w h0 hw q1 hso.le hcs (by omega) (fun j x hj => ?_)).mono ?_
      · obtain ⟨v, k1, k2⟩ := q5.get (i := j) (a := B8 x) (by rw [List.getElem?_map, hj]; rfl)
        have hv := k2.1
        simp only [B8, VR] at hv
        rw [z2i, Nat.zero_add, Lib.cell_of_heap q1]
        show cur[j]? = _
        rw [<- Array.getElem?_toList, q2, List.nil_append, List.getElem?_append_left (by
          rcases Nat.lt_or_ge j mid.length with h | h
          · exact h
          · simp [List.getElem?_eq_none h] at k1), k1, hv]
      · rintro e w' ⟨rfl, rfl⟩
        have hz : s.length ≠ 0 := by simpa using h0
        obtain ⟨k1, k2⟩ := hR.lose (w' := w.drew.freeze ⟨pb.b, 0, none⟩ s.length) hpb (by show (World.freeze w.drew _ _).heap.size = w.drew.heap.size; unfold World.freeze; rw [if_neg hz]; exact Array.size_modify) (fun b hb => by
          show (World.freeze w.drew _ _).heap[b]? = w.drew.heap[b]?
          unfold World.freeze
          rw [if_neg hz]
          simp only [Array.getElem?_modify]
          rw [if_neg (fun e => hb e.symm)]) (by unfold World.freeze; rw [if_neg hz]; rfl) (by unfold World.freeze; rw [if_neg hz]; rfl) (by unfold World.freeze; rw [if_neg hz]; rfl)
        exact ⟨_, _, rfl, k1, k2, by simp only [VR]⟩
end Am
end Go.Proofs.YtjgljhbmljgaeaaDoor
end
section
/- SHA-256: contracts of the reference: pad. -/
namespace Go.Proofs.YtjgljhbmljgaeaaDoor
namespace Am
theorem zio {k : Nat} (l : List UInt8) : RLss k (zh l) := by
  induction l with
  | nil => simp [zh, RLss]
  | cons b l ih => simp only [zh, B8] at ih; simp [zh, RLss, B8, RLs, RL, ih]
/-- Own bytes behind what was there. -/
def OwnB (Y Y' : Store) (v : AV) (b : List UInt8) : Prop := ∃ news j, Y' = Y ++ news /\ v = .sl (Y.length + j) 0 b.length none 1 /\ news[j]? = some (some (zh b))
theorem OwnB.down {Y Y' : Store} {v : AV} {b : List UInt8} (hw : Wf Y.length Y) (h : OwnB Y Y' v b) : DownV Y.length v Y' (.vsl 1 (zh b) false) Y := by
  obtain ⟨news, j, rfl, rfl, h⟩ := h
  have hl : (zh b).length = b.length := z13 b
  have e : ((zh b).drop 0).take b.length = zh b := by rw [List.drop_zero, List.take_of_length_le (by omega)]
  have := DownV.froze (off := 0) (len := b.length) (esz := 1) (lim := none) hw h (by omega) (by rw [e]; exact zio b)
  rw [e] at this
  exact this
theorem OwnB.app {Y Y' : Store} {r n : Nat} {b c : List UInt8} (h : OwnB Y Y' (.sl r 0 n none 1) b) : OwnB Y (Y'.set r none ++ [some (zh c)]) (.sl Y'.length 0 c.length none 1) c := by
  obtain ⟨news, j, rfl, e, h⟩ := h
  simp only [AV.sl.injEq, true_and, and_true] at e
  obtain ⟨rfl, rfl⟩ := e
  refine ⟨news.set j none ++ [some (zh c)], news.length, ?_, by simp, ?_⟩
  · rw [List.set_append_right _ _ (by omega), Nat.add_sub_cancel_left, List.append_assoc]
  · rw [List.getElem?_append_right (by simp)]; simp
theorem OwnB.get {Y Y' : Store} {v : AV} {b : List UInt8} (h : OwnB Y Y' v b) : ∃ r, v = .sl r 0 b.length none 1 /\ Y'[r]? = some (some (zh b)) := by
  obtain ⟨news, j, rfl, rfl, h⟩ := h
  exact ⟨_, rfl, by rw [List.getElem?_append_right (by omega), Nat.add_sub_cancel_left]; exact h⟩
theorem ze8 (b : List UInt8) (x : Nat) (m : Int) (h : m = ((x % 256 : Nat) : Int)) : zh b ++ [[AV.int .u8 m]] = zh (b ++ [UInt8.ofNat x]) := by
  subst h
  simp [zh, B8]
theorem zjj (x : Nat) {j : Nat} (h : j < 8) : (be 8 x).take j ++ [UInt8.ofNat (x / 2 ^ (8 * (7 - j)))] = (be 8 x).take (j + 1) := by
  have e : be 8 x = [UInt8.ofNat (x / 256 ^ 7), UInt8.ofNat (x / 256 ^ 6), UInt8.ofNat (x / 256 ^ 5), UInt8.ofNat (x / 256 ^ 4), UInt8.ofNat (x / 256 ^ 3), UInt8.ofNat (x / 256 ^ 2), UInt8.ofNat (x / 256 ^ 1), UInt8.ofNat (x / 256 ^ 0)] := by
    simp only [z7y]
    rfl
  rw [e]
  have hj : j = 0 \/ j = 1 \/ j = 2 \/ j = 3 \/ j = 4 \/ j = 5 \/ j = 6 \/ j = 7 := by omega
  rcases hj with rfl | rfl | rfl | rfl | rfl | rfl | rfl | rfl <;> rfl
set_option maxHeartbeats 4000000 in
theorem pad_to (Y : Store) (s : List UInt8) (h : s.length < 1000000000) : ACallsTo TC 88 [.str s] Y (.vsl 1 (zh (padS s)) false) Y := by
  obtain ⟨z, hz⟩ : ∃ z : Nat, z = (119 - s.length % 64) % 64 := ⟨_, rfl⟩
  have hz64 : z < 64 := by rw [hz]; exact Nat.mod_lt _ (by decide)
  obtain ⟨P, hP⟩ : ∃ P, P = padS s := ⟨_, rfl⟩
  have hP2 : P = (s ++ 128 :: List.replicate z 0) ++ be 8 (s.length * 8) := by rw [hP, padS, hz]; simp
  rw [<- hP]
  refine ACallsTo.of_body q8ok (by simp) fun hw _ => ?_
  repeat' (first|refine zW.zs ?_|refine zW.zb ?_|refine zW.zc ?_|refine zW.zt rfl ?_|refine zW.zf rfl ?_|(refine zW.zd rfl (fun ht => ?_) (fun ht => ?_)<;>try (exfalso;omega))|((first|refine zW.zr ?_|refine zW.zk ?_|refine zW.ze ?_|refine zW.zq ?_|((first|apply zg0|apply zg1|apply zg2|apply zg3|apply zg4|apply zg5|apply zg6|apply zg7)<;>intro ht));all_goals try simp (disch:=first|omega|(simp only [lens];first|done|omega)) only [go_sem,reduceEqDiff,Nat.reduceBEq,reduceAdd,reduceMul,reduceSub,reduceLeDiff,reduceToNat,reducePow]))
  refine zW.loop (fun m O Y' => ∃ k : Nat, m + k = z /\ O 0 = .str s /\ OwnB Y Y' (O 3) (s ++ 128 :: List.replicate k 0)) z ?_ ?_
  · refine ⟨0, by omega, by simp (disch:=first|omega|(simp only [lens];first|done|omega)) only [go_sem,reduceEqDiff,Nat.reduceBEq,reduceAdd,reduceMul,reduceSub,reduceLeDiff,reduceToNat,reducePow], ?_⟩
    simp (disch:=first|omega|(simp only [lens];first|done|omega)) only [go_sem,reduceEqDiff,Nat.reduceBEq,reduceAdd,reduceMul,reduceSub,reduceLeDiff,reduceToNat,reducePow]
    refine ⟨[none, some (zh (s ++ [128]))], 1, ?_, ?_, rfl⟩
    · simp [zh, B8]
    · simp
  · rintro m O Y' ⟨k, hm, q0, hO⟩
    obtain ⟨r, q3, hg⟩ := hO.get
    have hb : (s ++ 128 :: List.replicate k 0).length = s.length + 1 + k := by simp; omega
    have hbe := z13 (s ++ 128 :: List.replicate k 0)
    by_cases hk : k < z
    · rw [q3] at hO
      rw [hb] at q3 hbe hO
      have e0 : zh (s ++ 128 :: List.replicate k 0) ++ [[AV.int .u8 0]] = zh (s ++ 128 :: List.replicate (k + 1) 0) := by
        rw [ze8 _ 0 0 (by simp), List.append_assoc, List.cons_append, List.replicate_succ']
        rfl
      have hO2 := hO.app (c := s ++ 128 :: List.replicate (k + 1) 0)
      have hc : (s ++ 128 :: List.replicate (k + 1) 0).length = s.length + 1 + k + 1 := by simp; omega
      rw [hc] at hO2
      generalize zh (s ++ 128 :: List.replicate k 0) = bb at *
      repeat' (first|refine zW.zs ?_|refine zW.zb ?_|refine zW.zc ?_|refine zW.zt rfl ?_|refine zW.zf rfl ?_|(refine zW.zd rfl (fun ht => ?_) (fun ht => ?_)<;>try (exfalso;omega))|((first|refine zW.zr ?_|refine zW.zk ?_|refine zW.ze ?_|refine zW.zq ?_|((first|apply zg0|apply zg1|apply zg2|apply zg3|apply zg4|apply zg5|apply zg6|apply zg7)<;>intro ht));all_goals try simp (disch:=first|omega|(simp only [lens];first|done|omega)) only [go_sem,reduceEqDiff,Nat.reduceBEq,reduceAdd,reduceMul,reduceSub,reduceLeDiff,reduceToNat,reducePow, q0, q3, hg, hbe, e0]))
      exact ⟨z - (k + 1), by omega, k + 1, by omega, hO2⟩
    · obtain rfl : k = z := by omega
      obtain ⟨N, hN⟩ : ∃ N, N = s.length * 8 := ⟨_, rfl⟩
      have hN2 : (s.length : Int) * 8 = N := by omega
      have hb8 : (be 8 N).length = 8 := z36 _ _
      rw [<- hN] at hP2
      rw [hb] at q3 hbe
      have h56 : ((s.length : Int) + 1 + k) % 64 = 56 := by omega
      generalize hB : s ++ 128 :: List.replicate k 0 = B at *
      repeat' (first|refine zW.zs ?_|refine zW.zb ?_|refine zW.zc ?_|refine zW.zt rfl ?_|refine zW.zf rfl ?_|(refine zW.zd rfl (fun ht => ?_) (fun ht => ?_)<;>try (exfalso;omega))|((first|refine zW.zr ?_|refine zW.zk ?_|refine zW.ze ?_|refine zW.zq ?_|((first|apply zg0|apply zg1|apply zg2|apply zg3|apply zg4|apply zg5|apply zg6|apply zg7)<;>intro ht));all_goals try simp (disch:=first|omega|(simp only [lens];first|done|omega)) only [go_sem,reduceEqDiff,Nat.reduceBEq,reduceAdd,reduceMul,reduceSub,reduceLeDiff,reduceToNat,reducePow, q0, q3, h56, hN2, Int.natCast_add, Int.natCast_one]))
      refine zW.loop (fun m O Y' => ∃ j : Nat, m + j = 8 /\ O 4 = .int .u64 N /\ O 5 = .int .i64 (7 - j) /\ OwnB Y Y' (O 3) (B ++ (be 8 N).take j)) 8 ?_ ?_
      · refine ⟨0, by omega, by simp (disch:=first|omega|(simp only [lens];first|done|omega)) only [go_sem,reduceEqDiff,Nat.reduceBEq,reduceAdd,reduceMul,reduceSub,reduceLeDiff,reduceToNat,reducePow], by simp (disch:=first|omega|(simp only [lens];first|done|omega)) only [go_sem,reduceEqDiff,Nat.reduceBEq,reduceAdd,reduceMul,reduceSub,reduceLeDiff,reduceToNat,reducePow]; rfl, ?_⟩
        simp (disch:=first|omega|(simp only [lens];first|done|omega)) only [go_sem,reduceEqDiff,Nat.reduceBEq,reduceAdd,reduceMul,reduceSub,reduceLeDiff,reduceToNat,reducePow, q3]
        rw [q3] at hO
        exact hO
      · clear q0 q3 hO hg
        rintro m O Y' ⟨j, hm, q4, q5, hO⟩
        obtain ⟨r, q3, hg⟩ := hO.get
        have hl : (B ++ (be 8 N).take j).length = s.length + 1 + k + j := by rw [List.length_append, hb, List.length_take, hb8]; omega
        have hbe := z13 (B ++ (be 8 N).take j)
        by_cases hj : j < 8
        · rw [q3] at hO
          rw [hl] at q3 hbe hO
          have hO2 := hO.app (c := B ++ (be 8 N).take (j + 1))
          have hc : (B ++ (be 8 N).take (j + 1)).length = s.length + 1 + k + j + 1 := by rw [List.length_append, hb, List.length_take, hb8]; omega
          rw [hc] at hO2
          have hs : (8 * (7 - (j : Int))).toNat = 8 * (7 - j) := by omega
          have e0 : zh (B ++ (be 8 N).take j) ++ [[AV.int .u8 ((N : Int) / 2 ^ (8 * (7 - j)) % 256)]] = zh (B ++ (be 8 N).take (j + 1)) := by
            rw [ze8 _ (N / 2 ^ (8 * (7 - j))) _ (by rw [Int.natCast_emod, Int.natCast_ediv, Int.natCast_pow]; rfl), List.append_assoc, zjj N hj]
          generalize zh (B ++ (be 8 N).take j) = bb at *
          repeat' (first|refine zW.zs ?_|refine zW.zb ?_|refine zW.zc ?_|refine zW.zt rfl ?_|refine zW.zf rfl ?_|(refine zW.zd rfl (fun ht => ?_) (fun ht => ?_)<;>try (exfalso;omega))|((first|refine zW.zr ?_|refine zW.zk ?_|refine zW.ze ?_|refine zW.zq ?_|((first|apply zg0|apply zg1|apply zg2|apply zg3|apply zg4|apply zg5|apply zg6|apply zg7)<;>intro ht));all_goals try simp (disch:=first|omega|(simp only [lens];first|done|omega)) only [go_sem,reduceEqDiff,Nat.reduceBEq,reduceAdd,reduceMul,reduceSub,reduceLeDiff,reduceToNat,reducePow, q3, q4, q5, hg, hbe, hs, e0]))
          exact ⟨8 - (j + 1), by omega, j + 1, by omega, by rw [show (7 : Int) - ((j + 1 : Nat) : Int) = 7 - j - 1 by omega], hO2⟩
        · obtain rfl : j = 8 := by omega
          have e8 : B ++ (be 8 N).take 8 = P := by rw [List.take_of_length_le (by omega)]; exact hP2.symm
          rw [e8] at hO q3
          repeat' (first|refine zW.zs ?_|refine zW.zb ?_|refine zW.zc ?_|refine zW.zt rfl ?_|refine zW.zf rfl ?_|(refine zW.zd rfl (fun ht => ?_) (fun ht => ?_)<;>try (exfalso;omega))|((first|refine zW.zr ?_|refine zW.zk ?_|refine zW.ze ?_|refine zW.zq ?_|((first|apply zg0|apply zg1|apply zg2|apply zg3|apply zg4|apply zg5|apply zg6|apply zg7)<;>intro ht));all_goals try simp (disch:=first|omega|(simp only [lens];first|done|omega)) only [go_sem,reduceEqDiff,Nat.reduceBEq,reduceAdd,reduceMul,reduceSub,reduceLeDiff,reduceToNat,reducePow, q3, q5]))
          rw [q3] at hO
          exact hO.down hw
end Am
end Go.Proofs.YtjgljhbmljgaeaaDoor
end
section
/- SHA-256: the reference's Sum: the words. -/
namespace Go.Proofs.YtjgljhbmljgaeaaDoor
namespace Am
def z32 : List AV := z8 (List.replicate 32 0)
/-- What the reference has in memory. -/
def mkS (τ : Store) (u : V8) (cells : List AV) : Store := τ ++ [some [z32], some [gl_sha_rounds], some [u.c8], some [cells]]
def Rk (O : Env) (a : Nat) (p : List UInt8) (n : Nat) : Prop :=
  O 2 = .ptr a 0 0 /\ O 3 = .ptr (a + 1) 0 0 /\ O 4 = .ptr (a + 2) 0 0 /\ O 5 = .vsl 1 (zh p) false /\ O 6 = .ptr (a + 3) 0 0 /\ O 7 = .int .i64 n
theorem zel {w : List W} {x : W} {n : Nat} {rest : List AV} (h : w.length = n) (hr : 0 < rest.length) : (ws w ++ rest).take n ++ AV.int .u32 x.toNat :: (ws w ++ rest).drop (n + 1) = ws (w ++ [x]) ++ rest.drop 1 := by
  have hl : (ws w).length = n := by rw [z3u, h]
  rw [List.take_append_of_le_length (by omega), List.take_of_length_le (by omega), List.drop_append, List.drop_of_length_le (by omega), hl]
  rw [show n + 1 - n = 1 by omega, List.nil_append]
  simp [ws, wc]
theorem zqx {p : List UInt8} {n i : Nat} (h : n + 4 * i + 4 <= p.length) (hi : i < 16) :
    ((p.getD (n + 4 * i) 0).toNat : Int) * 16777216 + (p.getD (n + 4 * i + 1) 0).toNat * 65536 + (p.getD (n + 4 * i + 2) 0).toNat * 256 + (p.getD (n + 4 * i + 3) 0).toNat = ((z6n ((p.drop n).take 64) i).toNat : Int) := by
  have e : ((((p.drop n).take 64).drop (4 * i)).take 4) = [p.getD (n + 4 * i) 0, p.getD (n + 4 * i + 1) 0, p.getD (n + 4 * i + 2) 0, p.getD (n + 4 * i + 3) 0] := by
    rw [List.drop_take, List.take_take, List.drop_drop, show min 4 (64 - 4 * i) = 4 by omega]
    obtain ⟨A, hA⟩ : ∃ A, A = p.drop (n + 4 * i) := ⟨_, rfl⟩
    have g : ∀ k, p.getD (n + 4 * i + k) 0 = A.getD k 0 := by
      intro k
      rw [hA, List.getD_eq_getElem?_getD, List.getD_eq_getElem?_getD, List.getElem?_drop]
    have g0 := g 0
    rw [Nat.add_zero] at g0
    rw [g0, g 1, g 2, g 3, <- hA]
    have hl : 4 <= A.length := by rw [hA, List.length_drop]; omega
    match A, hl with
    | a :: b :: c :: d :: A, _ => rfl
  unfold z6n
  rw [e]
  generalize p.getD (n + 4 * i) 0 = a
  generalize p.getD (n + 4 * i + 1) 0 = b
  generalize p.getD (n + 4 * i + 2) 0 = c
  generalize p.getD (n + 4 * i + 3) 0 = d
  have h1 := a.toNat_lt
  have h2 := b.toNat_lt
  have h3 := c.toNat_lt
  have h4 := d.toNat_lt
  simp only [getS, val, List.take_of_length_le (show [a, b, c, d].length <= 8 by simp), List.foldl_cons, List.foldl_nil, BitVec.toNat_ofNat]
  omega
section
variable {k : Nat} {Q : AExit -> Env -> Store -> Prop} {O : Env} {τ : Store} {u : V8} {p : List UInt8} {n : Nat}
set_option maxHeartbeats 4000000 in
theorem zoz {cells : List AV} (K : Rk O τ.length p n) (hp : n + 64 <= p.length) (hpl : p.length < 2000000000) (hc : cells.length = 64)
    (hQ : ∀ O' rest, rest.length = 48 -> Rk O' τ.length p n -> Q .normal O' (mkS τ u (ws (zy ((p.drop n).take 64) 16) ++ rest))) : zW TC 252 k q6c21 Q O (mkS τ u cells) := by
  obtain ⟨k2, k3, k4, k5, k6, k7⟩ := K
  obtain ⟨q, hq⟩ : ∃ q, q = (p.drop n).take 64 := ⟨_, rfl⟩
  rw [<- hq] at hQ
  repeat' (first|refine zW.zs ?_|refine zW.zb ?_|refine zW.zc ?_|refine zW.zt rfl ?_|refine zW.zf rfl ?_|(refine zW.zd rfl (fun ht => ?_) (fun ht => ?_)<;>try (exfalso;omega))|((first|refine zW.zr ?_|refine zW.zk ?_|refine zW.ze ?_|refine zW.zq ?_|((first|apply zg0|apply zg1|apply zg2|apply zg3|apply zg4|apply zg5|apply zg6|apply zg7)<;>intro ht));all_goals try simp (disch:=first|omega|(simp only [lens];first|done|omega)) only [go_sem,reduceEqDiff,Nat.reduceBEq,reduceAdd,reduceMul,reduceSub,reduceLeDiff,reduceToNat,reducePow]))
  refine zW.loop (fun m O Y' => ∃ (i : Nat) (rest : List AV), m + i = 16 /\ rest.length = 64 - i /\ Rk O τ.length p n /\ O 8 = .int .i64 i /\ Y' = mkS τ u (ws (zy q i) ++ rest)) 16 ?_ ?_
  · exact ⟨0, cells, by omega, hc, ⟨by simp (disch:=first|omega|(simp only [lens];first|done|omega)) only [go_sem,reduceEqDiff,Nat.reduceBEq,reduceAdd,reduceMul,reduceSub,reduceLeDiff,reduceToNat,reducePow, k2], by simp (disch:=first|omega|(simp only [lens];first|done|omega)) only [go_sem,reduceEqDiff,Nat.reduceBEq,reduceAdd,reduceMul,reduceSub,reduceLeDiff,reduceToNat,reducePow, k3], by simp (disch:=first|omega|(simp only [lens];first|done|omega)) only [go_sem,reduceEqDiff,Nat.reduceBEq,reduceAdd,reduceMul,reduceSub,reduceLeDiff,reduceToNat,reducePow, k4], by simp (disch:=first|omega|(simp only [lens];first|done|omega)) only [go_sem,reduceEqDiff,Nat.reduceBEq,reduceAdd,reduceMul,reduceSub,reduceLeDiff,reduceToNat,reducePow, k5], by simp (disch:=first|omega|(simp only [lens];first|done|omega)) only [go_sem,reduceEqDiff,Nat.reduceBEq,reduceAdd,reduceMul,reduceSub,reduceLeDiff,reduceToNat,reducePow, k6], by simp (disch:=first|omega|(simp only [lens];first|done|omega)) only [go_sem,reduceEqDiff,Nat.reduceBEq,reduceAdd,reduceMul,reduceSub,reduceLeDiff,reduceToNat,reducePow, k7]⟩, by simp (disch:=first|omega|(simp only [lens];first|done|omega)) only [go_sem,reduceEqDiff,Nat.reduceBEq,reduceAdd,reduceMul,reduceSub,reduceLeDiff,reduceToNat,reducePow]; rfl, rfl⟩
  · rintro m O Y' ⟨i, rest, hm, hr, ⟨q2, q3, q4, q5, q6, q7⟩, q8, rfl⟩
    by_cases hi : i < 16
    · have hwd := zqx (p := p) (n := n) (i := i) (by omega) hi
      rw [<- hq] at hwd
      have hset := zel (x := z6n q i) (rest := rest) (z48 q i) (by omega)
      have hlen : (ws (zy q i) ++ rest).length = 64 := by rw [List.length_append, z3u, z48, hr]; omega
      have hsc : zy q (i + 1) = zy q i ++ [z6n q i] := by rw [zy, z31, z48, if_pos hi]
      have n0 : ((n : Int) + 4 * i).toNat = n + 4 * i := by omega
      have n1 : ((n : Int) + 4 * i + 1).toNat = n + 4 * i + 1 := by omega
      have n2 : ((n : Int) + 4 * i + 2).toNat = n + 4 * i + 2 := by omega
      have n3 : ((n : Int) + 4 * i + 3).toNat = n + 4 * i + 3 := by omega
      have b0 := (p.getD (n + 4 * i) 0).toNat_lt
      have b1 := (p.getD (n + 4 * i + 1) 0).toNat_lt
      have b2 := (p.getD (n + 4 * i + 2) 0).toNat_lt
      have b3 := (p.getD (n + 4 * i + 3) 0).toNat_lt
      have g0 := zf3 (s := p) (i := n + 4 * i) (by omega)
      have e0 := z7z (s := p) (i := n + 4 * i) (by omega)
      have e1 := z7z (s := p) (i := n + 4 * i + 1) (by omega)
      have e2 := z7z (s := p) (i := n + 4 * i + 2) (by omega)
      have e3 := z7z (s := p) (i := n + 4 * i + 3) (by omega)
      have hpb := z13 p
      unfold mkS
      generalize p.getD (n + 4 * i) 0 = x0 at *
      generalize p.getD (n + 4 * i + 1) 0 = x1 at *
      generalize p.getD (n + 4 * i + 2) 0 = x2 at *
      generalize p.getD (n + 4 * i + 3) 0 = x3 at *
      generalize hpb2 : zh p = pb at *
      generalize hcc : ws (zy q i) ++ rest = cc at *
      repeat' (first | refine zW.zs ?_ | refine zW.zb ?_ | refine zW.zc ?_ | refine zW.zt rfl ?_ | refine zW.zf rfl ?_ | (refine zW.zd rfl (fun ht => ?_) (fun ht => ?_) <;> try (exfalso; omega)) | ((first | refine zW.regS ?_ | refine zW.zk ?_ | refine zW.ze ?_ | refine zW.zq ?_ | ((first|apply zg0|apply zg1|apply zg2|apply zg3|apply zg4|apply zg5|apply zg6|apply zg7)<;>intro ht));all_goals try simp (disch:=first|omega|(simp only [lens];first|done|omega)) only [go_sem,reduceEqDiff,Nat.reduceBEq,reduceAdd,reduceMul,reduceSub,reduceLeDiff,reduceToNat,reducePow, q2, q3, q4, q5, q6, q7, q8, hlen, n0, n1, n2, n3, e0, e1, e2, e3]))
      refine ⟨16 - (i + 1), by omega, i + 1, rest.drop 1, by omega, by rw [List.length_drop]; omega, ⟨by simp (disch:=first|omega|(simp only [lens];first|done|omega)) only [go_sem,reduceEqDiff,Nat.reduceBEq,reduceAdd,reduceMul,reduceSub,reduceLeDiff,reduceToNat,reducePow, q2], by simp (disch:=first|omega|(simp only [lens];first|done|omega)) only [go_sem,reduceEqDiff,Nat.reduceBEq,reduceAdd,reduceMul,reduceSub,reduceLeDiff,reduceToNat,reducePow, q3], by simp (disch:=first|omega|(simp only [lens];first|done|omega)) only [go_sem,reduceEqDiff,Nat.reduceBEq,reduceAdd,reduceMul,reduceSub,reduceLeDiff,reduceToNat,reducePow, q4], (by simp (disch:=first|omega|(simp only [lens];first|done|omega)) only [go_sem,reduceEqDiff,Nat.reduceBEq,reduceAdd,reduceMul,reduceSub,reduceLeDiff,reduceToNat,reducePow, q5]; rw [hpb2]), by simp (disch:=first|omega|(simp only [lens];first|done|omega)) only [go_sem,reduceEqDiff,Nat.reduceBEq,reduceAdd,reduceMul,reduceSub,reduceLeDiff,reduceToNat,reducePow, q6], by simp (disch:=first|omega|(simp only [lens];first|done|omega)) only [go_sem,reduceEqDiff,Nat.reduceBEq,reduceAdd,reduceMul,reduceSub,reduceLeDiff,reduceToNat,reducePow, q7]⟩, by simp, ?_⟩
      rw [hwd, hset, hsc]
    · obtain rfl : i = 16 := by omega
      repeat' (first|refine zW.zs ?_|refine zW.zb ?_|refine zW.zc ?_|refine zW.zt rfl ?_|refine zW.zf rfl ?_|(refine zW.zd rfl (fun ht => ?_) (fun ht => ?_)<;>try (exfalso;omega))|((first|refine zW.zr ?_|refine zW.zk ?_|refine zW.ze ?_|refine zW.zq ?_|((first|apply zg0|apply zg1|apply zg2|apply zg3|apply zg4|apply zg5|apply zg6|apply zg7)<;>intro ht));all_goals try simp (disch:=first|omega|(simp only [lens];first|done|omega)) only [go_sem,reduceEqDiff,Nat.reduceBEq,reduceAdd,reduceMul,reduceSub,reduceLeDiff,reduceToNat,reducePow, q8]))
      exact hQ _ rest (by omega) ⟨by simp (disch:=first|omega|(simp only [lens];first|done|omega)) only [go_sem,reduceEqDiff,Nat.reduceBEq,reduceAdd,reduceMul,reduceSub,reduceLeDiff,reduceToNat,reducePow, q2], by simp (disch:=first|omega|(simp only [lens];first|done|omega)) only [go_sem,reduceEqDiff,Nat.reduceBEq,reduceAdd,reduceMul,reduceSub,reduceLeDiff,reduceToNat,reducePow, q3], by simp (disch:=first|omega|(simp only [lens];first|done|omega)) only [go_sem,reduceEqDiff,Nat.reduceBEq,reduceAdd,reduceMul,reduceSub,reduceLeDiff,reduceToNat,reducePow, q4], by simp (disch:=first|omega|(simp only [lens];first|done|omega)) only [go_sem,reduceEqDiff,Nat.reduceBEq,reduceAdd,reduceMul,reduceSub,reduceLeDiff,reduceToNat,reducePow, q5], by simp (disch:=first|omega|(simp only [lens];first|done|omega)) only [go_sem,reduceEqDiff,Nat.reduceBEq,reduceAdd,reduceMul,reduceSub,reduceLeDiff,reduceToNat,reducePow, q6], by simp (disch:=first|omega|(simp only [lens];first|done|omega)) only [go_sem,reduceEqDiff,Nat.reduceBEq,reduceAdd,reduceMul,reduceSub,reduceLeDiff,reduceToNat,reducePow, q7]⟩
set_option maxHeartbeats 4000000 in
theorem zoy {q : List UInt8} {rest : List AV} (K : Rk O τ.length p n) (hr : rest.length = 48)
    (hQ : ∀ O', Rk O' τ.length p n -> Q .normal O' (mkS τ u (ws (zy q 64)))) : zW TC 252 k q6c34 Q O (mkS τ u (ws (zy q 16) ++ rest)) := by
  obtain ⟨R, hR⟩ : ∃ R, R = zy q 64 := ⟨_, rfl⟩
  rw [<- hR] at hQ
  obtain ⟨k2, k3, k4, k5, k6, k7⟩ := K
  repeat' (first|refine zW.zs ?_|refine zW.zb ?_|refine zW.zc ?_|refine zW.zt rfl ?_|refine zW.zf rfl ?_|(refine zW.zd rfl (fun ht => ?_) (fun ht => ?_)<;>try (exfalso;omega))|((first|refine zW.zr ?_|refine zW.zk ?_|refine zW.ze ?_|refine zW.zq ?_|((first|apply zg0|apply zg1|apply zg2|apply zg3|apply zg4|apply zg5|apply zg6|apply zg7)<;>intro ht));all_goals try simp (disch:=first|omega|(simp only [lens];first|done|omega)) only [go_sem,reduceEqDiff,Nat.reduceBEq,reduceAdd,reduceMul,reduceSub,reduceLeDiff,reduceToNat,reducePow]))
  refine zW.loop (fun m O Y' => ∃ (i : Nat) (rest : List AV), m + i = 64 /\ 16 <= i /\ rest.length = 64 - i /\ Rk O τ.length p n /\ O 10 = .int .i64 i /\ Y' = mkS τ u (ws (zy q i) ++ rest)) 48 ?_ ?_
  · exact ⟨16, rest, by omega, by omega, hr, ⟨by simp (disch:=first|omega|(simp only [lens];first|done|omega)) only [go_sem,reduceEqDiff,Nat.reduceBEq,reduceAdd,reduceMul,reduceSub,reduceLeDiff,reduceToNat,reducePow, k2], by simp (disch:=first|omega|(simp only [lens];first|done|omega)) only [go_sem,reduceEqDiff,Nat.reduceBEq,reduceAdd,reduceMul,reduceSub,reduceLeDiff,reduceToNat,reducePow, k3], by simp (disch:=first|omega|(simp only [lens];first|done|omega)) only [go_sem,reduceEqDiff,Nat.reduceBEq,reduceAdd,reduceMul,reduceSub,reduceLeDiff,reduceToNat,reducePow, k4], by simp (disch:=first|omega|(simp only [lens];first|done|omega)) only [go_sem,reduceEqDiff,Nat.reduceBEq,reduceAdd,reduceMul,reduceSub,reduceLeDiff,reduceToNat,reducePow, k5], by simp (disch:=first|omega|(simp only [lens];first|done|omega)) only [go_sem,reduceEqDiff,Nat.reduceBEq,reduceAdd,reduceMul,reduceSub,reduceLeDiff,reduceToNat,reducePow, k6], by simp (disch:=first|omega|(simp only [lens];first|done|omega)) only [go_sem,reduceEqDiff,Nat.reduceBEq,reduceAdd,reduceMul,reduceSub,reduceLeDiff,reduceToNat,reducePow, k7]⟩, by simp (disch:=first|omega|(simp only [lens];first|done|omega)) only [go_sem,reduceEqDiff,Nat.reduceBEq,reduceAdd,reduceMul,reduceSub,reduceLeDiff,reduceToNat,reducePow]; rfl, rfl⟩
  · clear hr
    rintro m O Y' ⟨i, rest, hm, h16, hr, ⟨q2, q3, q4, q5, q6, q7⟩, q10, rfl⟩
    have hsl := z48 q i
    by_cases hi : i < 64
    · have hset := zel (x := z31 q (zy q i)) (rest := rest) hsl (by omega)
      have hlen : (ws (zy q i) ++ rest).length = 64 := by rw [List.length_append, z3u, z48, hr]; omega
      have hsc : zy q (i + 1) = zy q i ++ [z31 q (zy q i)] := by rw [zy]
      have en : z31 q (zy q i) = wat (zy q i) (i - 16) + wat (zy q i) (i - 7) + ss0 (wat (zy q i) (i - 15)) + ss1 (wat (zy q i) (i - 2)) := by rw [z31, if_neg (by omega), hsl]
      have hwi : ∀ j, j < i -> (ws (zy q i) ++ rest)[j]? = some (.int .u32 (wat (zy q i) j).toNat) := by
        intro j hj
        rw [List.getElem?_append_left (by rw [z3u]; omega), z7k (by omega)]
      have g16 := hwi (i - 16) (by omega)
      have g7 := hwi (i - 7) (by omega)
      have g15 := hwi (i - 15) (by omega)
      have g2 := hwi (i - 2) (by omega)
      have t16 : ((i : Int) - 16).toNat = i - 16 := by omega
      have t7 : ((i : Int) - 7).toNat = i - 7 := by omega
      have t15 : ((i : Int) - 15).toNat = i - 15 := by omega
      have t2 : ((i : Int) - 2).toNat = i - 2 := by omega
      have r7 : 32 - (7 : Int).toNat = 25 := rfl
      clear hwi
      generalize z31 q (zy q i) = nx at *
      generalize wat (zy q i) (i - 16) = w16 at *
      generalize wat (zy q i) (i - 7) = w7 at *
      generalize wat (zy q i) (i - 15) = w15 at *
      generalize wat (zy q i) (i - 2) = w2 at *
      unfold mkS
      generalize hpb2 : zh p = pb at *
      generalize hcc : ws (zy q i) ++ rest = cc at *
      repeat' (first | refine zW.zs ?_ | refine zW.zb ?_ | refine zW.zc ?_ | refine zW.zt rfl ?_ | refine zW.zf rfl ?_ | (refine zW.zd rfl (fun ht => ?_) (fun ht => ?_) <;> try (exfalso; omega)) | ((first | refine zW.regS ?_ | refine zW.zk ?_ | refine zW.ze ?_ | refine zW.zq ?_ | (apply callW.mk_pu; (first | exact (fun _ => zag _ _ _ (by omega)))) | (apply callW.za; (first | exact (zag _ _ _ (by omega)))) | ((first|apply zg0|apply zg1|apply zg2|apply zg3|apply zg4|apply zg5|apply zg6|apply zg7)<;>intro ht));all_goals try simp (disch:=first|omega|(simp only [lens];first|done|omega)) only [go_sem,reduceEqDiff,Nat.reduceBEq,reduceAdd,reduceMul,reduceSub,reduceLeDiff,reduceToNat,reducePow, q2, q3, q4, q5, q6, q7, q10, hlen, g16, g7, g15, g2, t16, t7, t15, t2]))
      refine ⟨64 - (i + 1), by omega, i + 1, rest.drop 1, by omega, by omega, by rw [List.length_drop]; omega, ⟨by simp (disch:=first|omega|(simp only [lens];first|done|omega)) only [go_sem,reduceEqDiff,Nat.reduceBEq,reduceAdd,reduceMul,reduceSub,reduceLeDiff,reduceToNat,reducePow, q2], by simp (disch:=first|omega|(simp only [lens];first|done|omega)) only [go_sem,reduceEqDiff,Nat.reduceBEq,reduceAdd,reduceMul,reduceSub,reduceLeDiff,reduceToNat,reducePow, q3], by simp (disch:=first|omega|(simp only [lens];first|done|omega)) only [go_sem,reduceEqDiff,Nat.reduceBEq,reduceAdd,reduceMul,reduceSub,reduceLeDiff,reduceToNat,reducePow, q4], (by simp (disch:=first|omega|(simp only [lens];first|done|omega)) only [go_sem,reduceEqDiff,Nat.reduceBEq,reduceAdd,reduceMul,reduceSub,reduceLeDiff,reduceToNat,reducePow, q5]; rw [hpb2]), by simp (disch:=first|omega|(simp only [lens];first|done|omega)) only [go_sem,reduceEqDiff,Nat.reduceBEq,reduceAdd,reduceMul,reduceSub,reduceLeDiff,reduceToNat,reducePow, q6], by simp (disch:=first|omega|(simp only [lens];first|done|omega)) only [go_sem,reduceEqDiff,Nat.reduceBEq,reduceAdd,reduceMul,reduceSub,reduceLeDiff,reduceToNat,reducePow, q7]⟩, by simp, ?_⟩
      rw [hsc, <- hset, en]
      have ec : ∀ s t : W, w16 + s + w7 + t = w16 + w7 + s + t := fun s t => by rw [BitVec.add_assoc w16 s w7, BitVec.add_comm s w7, <- BitVec.add_assoc w16 w7 s]
      rw [ec]
      rfl
    · obtain rfl : i = 64 := by omega
      have hr0 : rest = [] := List.eq_nil_of_length_eq_zero (by omega)
      rw [hr0, <- hR, List.append_nil]
      clear hsl hR
      repeat' (first|refine zW.zs ?_|refine zW.zb ?_|refine zW.zc ?_|refine zW.zt rfl ?_|refine zW.zf rfl ?_|(refine zW.zd rfl (fun ht => ?_) (fun ht => ?_)<;>try (exfalso;omega))|((first|refine zW.zr ?_|refine zW.zk ?_|refine zW.ze ?_|refine zW.zq ?_|((first|apply zg0|apply zg1|apply zg2|apply zg3|apply zg4|apply zg5|apply zg6|apply zg7)<;>intro ht));all_goals try simp (disch:=first|omega|(simp only [lens];first|done|omega)) only [go_sem,reduceEqDiff,Nat.reduceBEq,reduceAdd,reduceMul,reduceSub,reduceLeDiff,reduceToNat,reducePow, q10]))
      exact hQ _ ⟨by simp (disch:=first|omega|(simp only [lens];first|done|omega)) only [go_sem,reduceEqDiff,Nat.reduceBEq,reduceAdd,reduceMul,reduceSub,reduceLeDiff,reduceToNat,reducePow, q2], by simp (disch:=first|omega|(simp only [lens];first|done|omega)) only [go_sem,reduceEqDiff,Nat.reduceBEq,reduceAdd,reduceMul,reduceSub,reduceLeDiff,reduceToNat,reducePow, q3], by simp (disch:=first|omega|(simp only [lens];first|done|omega)) only [go_sem,reduceEqDiff,Nat.reduceBEq,reduceAdd,reduceMul,reduceSub,reduceLeDiff,reduceToNat,reducePow, q4], by simp (disch:=first|omega|(simp only [lens];first|done|omega)) only [go_sem,reduceEqDiff,Nat.reduceBEq,reduceAdd,reduceMul,reduceSub,reduceLeDiff,reduceToNat,reducePow, q5], by simp (disch:=first|omega|(simp only [lens];first|done|omega)) only [go_sem,reduceEqDiff,Nat.reduceBEq,reduceAdd,reduceMul,reduceSub,reduceLeDiff,reduceToNat,reducePow, q6], by simp (disch:=first|omega|(simp only [lens];first|done|omega)) only [go_sem,reduceEqDiff,Nat.reduceBEq,reduceAdd,reduceMul,reduceSub,reduceLeDiff,reduceToNat,reducePow, q7]⟩
end
end Am
end Go.Proofs.YtjgljhbmljgaeaaDoor
end
