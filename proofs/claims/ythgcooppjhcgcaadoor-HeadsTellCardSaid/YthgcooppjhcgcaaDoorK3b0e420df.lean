import Derived.Test.YthgcooppjhcgcaaDoorK2f7dace09
import Derived.LaidMore
import Derived.Stop.Joined
import Derived.Test.YthgcooppjhcgcaaDoorRows
import Derived.KernelRfl
import Derived.RangeFuncBox
import Derived.RangeFuncLeaves
import Derived.Shelf.Abstract
import Derived.WalkKit
import Derived.OwnWalkIn
import Derived.TacticsInMore
import Derived.LoopNIn
import Derived.LoopIn
import Derived.Test.YthgcooppjhcgcaaDoorProg
import Derived.Shelf.Strings.Builder1
import Derived.Shelf.Strings.Builder2
import Derived.Shelf.Strings.BuilderF
import Derived.Shelf.Strings.Prefix
import Derived.Shelf.Bits.Mul64
import Derived.Shelf.Strings.Repeat
section
set_option linter.unusedSimpArgs false
set_option linter.unusedVariables false
/- THE ABSTRACT MACHINE, part 22: its steps as_ equations for simp. -/
namespace Go.Proofs.YthgcooppjhcgcaaDoor
namespace Am
section
variable {C : Ctx} {K : Env → Store → Prop} {ρ : Env} {σ : Store} {d : Option Nat} {g : Option (Nat × Bool)} {nd : Nd} {is : List AIns} {H : Hist}
theorem ow_mv {x} : opsWp C K (⟨d, g, nd, .mv x⟩ :: is) H ρ σ = stepW (opsWp C K is) H ⟨d, g, nd, .mv x⟩ ρ σ := rfl
theorem ow_pick {c} {a} {b} : opsWp C K (⟨d, g, nd, .pick c a b⟩ :: is) H ρ σ = stepW (opsWp C K is) H ⟨d, g, nd, .pick c a b⟩ ρ σ := rfl
theorem ow_alloc {z} : opsWp C K (⟨d, g, nd, .alloc z⟩ :: is) H ρ σ = stepW (opsWp C K is) H ⟨d, g, nd, .alloc z⟩ ρ σ := rfl
theorem ow_allB : opsWp C K (⟨d, g, nd, .allB⟩ :: is) H ρ σ = stepW (opsWp C K is) H ⟨d, g, nd, .allB⟩ ρ σ := rfl
theorem ow_appB {s} {x} : opsWp C K (⟨d, g, nd, .appB s x⟩ :: is) H ρ σ = stepW (opsWp C K is) H ⟨d, g, nd, .appB s x⟩ ρ σ := rfl
theorem ow_box {x} : opsWp C K (⟨d, g, nd, .box x⟩ :: is) H ρ σ = stepW (opsWp C K is) H ⟨d, g, nd, .box x⟩ ρ σ := rfl
theorem ow_build {z} {ps} : opsWp C K (⟨d, g, nd, .build z ps⟩ :: is) H ρ σ = stepW (opsWp C K is) H ⟨d, g, nd, .build z ps⟩ ρ σ := rfl
theorem ow_lit {sz} {xs} : opsWp C K (⟨d, g, nd, .lit sz xs⟩ :: is) H ρ σ = stepW (opsWp C K is) H ⟨d, g, nd, .lit sz xs⟩ ρ σ := rfl
theorem ow_load {ag} {n} {x} : opsWp C K (⟨d, g, nd, .load ag n x⟩ :: is) H ρ σ = stepW (opsWp C K is) H ⟨d, g, nd, .load ag n x⟩ ρ σ := rfl
theorem ow_store {n} {a} {x} : opsWp C K (⟨d, g, nd, .store n a x⟩ :: is) H ρ σ = stepW (opsWp C K is) H ⟨d, g, nd, .store n a x⟩ ρ σ := rfl
theorem ow_nilc {x} : opsWp C K (⟨d, g, nd, .nilc x⟩ :: is) H ρ σ = stepW (opsWp C K is) H ⟨d, g, nd, .nilc x⟩ ρ σ := rfl
theorem ow_bin {op} {bk} {x} {y} : opsWp C K (⟨d, g, nd, .bin op bk x y⟩ :: is) H ρ σ = stepW (opsWp C K is) H ⟨d, g, nd, .bin op bk x y⟩ ρ σ := rfl
theorem ow_un {op} {x} : opsWp C K (⟨d, g, nd, .un op x⟩ :: is) H ρ σ = stepW (opsWp C K is) H ⟨d, g, nd, .un op x⟩ ρ σ := rfl
theorem ow_conv {c} {x} : opsWp C K (⟨d, g, nd, .conv c x⟩ :: is) H ρ σ = stepW (opsWp C K is) H ⟨d, g, nd, .conv c x⟩ ρ σ := rfl
theorem ow_mkfn {f} {caps} : opsWp C K (⟨d, g, nd, .mkfn f caps⟩ :: is) H ρ σ = stepW (opsWp C K is) H ⟨d, g, nd, .mkfn f caps⟩ ρ σ := rfl
theorem ow_make {sz} {z} {l} {c} : opsWp C K (⟨d, g, nd, .make sz z l c⟩ :: is) H ρ σ = stepW (opsWp C K is) H ⟨d, g, nd, .make sz z l c⟩ ρ σ := rfl
theorem ow_slice {k} {x} {lo} {hi} {mx} : opsWp C K (⟨d, g, nd, .slice k x lo hi mx⟩ :: is) H ρ σ = stepW (opsWp C K is) H ⟨d, g, nd, .slice k x lo hi mx⟩ ρ σ := rfl
theorem ow_fa {k} {x} : opsWp C K (⟨d, g, nd, .fa k x⟩ :: is) H ρ σ = stepW (opsWp C K is) H ⟨d, g, nd, .fa k x⟩ ρ σ := rfl
theorem ow_fld {ag} {n} {off} {x} : opsWp C K (⟨d, g, nd, .fld ag n off x⟩ :: is) H ρ σ = stepW (opsWp C K is) H ⟨d, g, nd, .fld ag n off x⟩ ρ σ := rfl
theorem ow_iaArr {n} {sz} {x} {i} : opsWp C K (⟨d, g, nd, .iaArr n sz x i⟩ :: is) H ρ σ = stepW (opsWp C K is) H ⟨d, g, nd, .iaArr n sz x i⟩ ρ σ := rfl
theorem ow_iaSl {sz} {x} {i} : opsWp C K (⟨d, g, nd, .iaSl sz x i⟩ :: is) H ρ σ = stepW (opsWp C K is) H ⟨d, g, nd, .iaSl sz x i⟩ ρ σ := rfl
theorem ow_ixArr {n} {ag} {sz} {x} {i} : opsWp C K (⟨d, g, nd, .ixArr n ag sz x i⟩ :: is) H ρ σ = stepW (opsWp C K is) H ⟨d, g, nd, .ixArr n ag sz x i⟩ ρ σ := rfl
theorem ow_ixStr {x} {i} : opsWp C K (⟨d, g, nd, .ixStr x i⟩ :: is) H ρ σ = stepW (opsWp C K is) H ⟨d, g, nd, .ixStr x i⟩ ρ σ := rfl
theorem ow_ext {i} {x} : opsWp C K (⟨d, g, nd, .ext i x⟩ :: is) H ρ σ = stepW (opsWp C K is) H ⟨d, g, nd, .ext i x⟩ ρ σ := rfl
theorem ow_lenStr {x} : opsWp C K (⟨d, g, nd, .lenStr x⟩ :: is) H ρ σ = stepW (opsWp C K is) H ⟨d, g, nd, .lenStr x⟩ ρ σ := rfl
theorem ow_lenSl {x} : opsWp C K (⟨d, g, nd, .lenSl x⟩ :: is) H ρ σ = stepW (opsWp C K is) H ⟨d, g, nd, .lenSl x⟩ ρ σ := rfl
theorem ow_lenArr {n} : opsWp C K (⟨d, g, nd, .lenArr n⟩ :: is) H ρ σ = stepW (opsWp C K is) H ⟨d, g, nd, .lenArr n⟩ ρ σ := rfl
theorem ow_app {sz} {s} {x} : opsWp C K (⟨d, g, nd, .app sz s x⟩ :: is) H ρ σ = stepW (opsWp C K is) H ⟨d, g, nd, .app sz s x⟩ ρ σ := rfl
theorem ow_copy {sz} {e} {s} : opsWp C K (⟨d, g, nd, .copy sz e s⟩ :: is) H ρ σ = stepW (opsWp C K is) H ⟨d, g, nd, .copy sz e s⟩ ρ σ := rfl
theorem ow_clear {z} {x} : opsWp C K (⟨d, g, nd, .clear z x⟩ :: is) H ρ σ = stepW (opsWp C K is) H ⟨d, g, nd, .clear z x⟩ ρ σ := rfl
theorem ow_minmax {mx} {x} {y} : opsWp C K (⟨d, g, nd, .minmax mx x y⟩ :: is) H ρ σ = stepW (opsWp C K is) H ⟨d, g, nd, .minmax mx x y⟩ ρ σ := rfl
variable {lj mj : List AIns}
theorem oj_mv {x} : opsWpJ C K lj mj (⟨d, g, nd, .mv x⟩ :: is) H ρ σ = stepW (opsWpJ C K lj mj is) H ⟨d, g, nd, .mv x⟩ ρ σ := rfl
theorem oj_pick {c} {a} {b} : opsWpJ C K lj mj (⟨d, g, nd, .pick c a b⟩ :: is) H ρ σ = stepW (opsWpJ C K lj mj is) H ⟨d, g, nd, .pick c a b⟩ ρ σ := rfl
theorem oj_alloc {z} : opsWpJ C K lj mj (⟨d, g, nd, .alloc z⟩ :: is) H ρ σ = stepW (opsWpJ C K lj mj is) H ⟨d, g, nd, .alloc z⟩ ρ σ := rfl
theorem oj_allB : opsWpJ C K lj mj (⟨d, g, nd, .allB⟩ :: is) H ρ σ = stepW (opsWpJ C K lj mj is) H ⟨d, g, nd, .allB⟩ ρ σ := rfl
theorem oj_appB {s} {x} : opsWpJ C K lj mj (⟨d, g, nd, .appB s x⟩ :: is) H ρ σ = stepW (opsWpJ C K lj mj is) H ⟨d, g, nd, .appB s x⟩ ρ σ := rfl
theorem oj_box {x} : opsWpJ C K lj mj (⟨d, g, nd, .box x⟩ :: is) H ρ σ = stepW (opsWpJ C K lj mj is) H ⟨d, g, nd, .box x⟩ ρ σ := rfl
theorem oj_build {z} {ps} : opsWpJ C K lj mj (⟨d, g, nd, .build z ps⟩ :: is) H ρ σ = stepW (opsWpJ C K lj mj is) H ⟨d, g, nd, .build z ps⟩ ρ σ := rfl
theorem oj_lit {sz} {xs} : opsWpJ C K lj mj (⟨d, g, nd, .lit sz xs⟩ :: is) H ρ σ = stepW (opsWpJ C K lj mj is) H ⟨d, g, nd, .lit sz xs⟩ ρ σ := rfl
theorem oj_load {ag} {n} {x} : opsWpJ C K lj mj (⟨d, g, nd, .load ag n x⟩ :: is) H ρ σ = stepW (opsWpJ C K lj mj is) H ⟨d, g, nd, .load ag n x⟩ ρ σ := rfl
theorem oj_store {n} {a} {x} : opsWpJ C K lj mj (⟨d, g, nd, .store n a x⟩ :: is) H ρ σ = stepW (opsWpJ C K lj mj is) H ⟨d, g, nd, .store n a x⟩ ρ σ := rfl
theorem oj_nilc {x} : opsWpJ C K lj mj (⟨d, g, nd, .nilc x⟩ :: is) H ρ σ = stepW (opsWpJ C K lj mj is) H ⟨d, g, nd, .nilc x⟩ ρ σ := rfl
theorem oj_bin {op} {bk} {x} {y} : opsWpJ C K lj mj (⟨d, g, nd, .bin op bk x y⟩ :: is) H ρ σ = stepW (opsWpJ C K lj mj is) H ⟨d, g, nd, .bin op bk x y⟩ ρ σ := rfl
theorem oj_un {op} {x} : opsWpJ C K lj mj (⟨d, g, nd, .un op x⟩ :: is) H ρ σ = stepW (opsWpJ C K lj mj is) H ⟨d, g, nd, .un op x⟩ ρ σ := rfl
theorem oj_conv {c} {x} : opsWpJ C K lj mj (⟨d, g, nd, .conv c x⟩ :: is) H ρ σ = stepW (opsWpJ C K lj mj is) H ⟨d, g, nd, .conv c x⟩ ρ σ := rfl
theorem oj_mkfn {f} {caps} : opsWpJ C K lj mj (⟨d, g, nd, .mkfn f caps⟩ :: is) H ρ σ = stepW (opsWpJ C K lj mj is) H ⟨d, g, nd, .mkfn f caps⟩ ρ σ := rfl
theorem oj_make {sz} {z} {l} {c} : opsWpJ C K lj mj (⟨d, g, nd, .make sz z l c⟩ :: is) H ρ σ = stepW (opsWpJ C K lj mj is) H ⟨d, g, nd, .make sz z l c⟩ ρ σ := rfl
theorem oj_slice {k} {x} {lo} {hi} {mx} : opsWpJ C K lj mj (⟨d, g, nd, .slice k x lo hi mx⟩ :: is) H ρ σ = stepW (opsWpJ C K lj mj is) H ⟨d, g, nd, .slice k x lo hi mx⟩ ρ σ := rfl
theorem oj_fa {k} {x} : opsWpJ C K lj mj (⟨d, g, nd, .fa k x⟩ :: is) H ρ σ = stepW (opsWpJ C K lj mj is) H ⟨d, g, nd, .fa k x⟩ ρ σ := rfl
theorem oj_fld {ag} {n} {off} {x} : opsWpJ C K lj mj (⟨d, g, nd, .fld ag n off x⟩ :: is) H ρ σ = stepW (opsWpJ C K lj mj is) H ⟨d, g, nd, .fld ag n off x⟩ ρ σ := rfl
theorem oj_iaArr {n} {sz} {x} {i} : opsWpJ C K lj mj (⟨d, g, nd, .iaArr n sz x i⟩ :: is) H ρ σ = stepW (opsWpJ C K lj mj is) H ⟨d, g, nd, .iaArr n sz x i⟩ ρ σ := rfl
theorem oj_iaSl {sz} {x} {i} : opsWpJ C K lj mj (⟨d, g, nd, .iaSl sz x i⟩ :: is) H ρ σ = stepW (opsWpJ C K lj mj is) H ⟨d, g, nd, .iaSl sz x i⟩ ρ σ := rfl
theorem oj_ixArr {n} {ag} {sz} {x} {i} : opsWpJ C K lj mj (⟨d, g, nd, .ixArr n ag sz x i⟩ :: is) H ρ σ = stepW (opsWpJ C K lj mj is) H ⟨d, g, nd, .ixArr n ag sz x i⟩ ρ σ := rfl
theorem oj_ixStr {x} {i} : opsWpJ C K lj mj (⟨d, g, nd, .ixStr x i⟩ :: is) H ρ σ = stepW (opsWpJ C K lj mj is) H ⟨d, g, nd, .ixStr x i⟩ ρ σ := rfl
theorem oj_ext {i} {x} : opsWpJ C K lj mj (⟨d, g, nd, .ext i x⟩ :: is) H ρ σ = stepW (opsWpJ C K lj mj is) H ⟨d, g, nd, .ext i x⟩ ρ σ := rfl
theorem oj_lenStr {x} : opsWpJ C K lj mj (⟨d, g, nd, .lenStr x⟩ :: is) H ρ σ = stepW (opsWpJ C K lj mj is) H ⟨d, g, nd, .lenStr x⟩ ρ σ := rfl
theorem oj_lenSl {x} : opsWpJ C K lj mj (⟨d, g, nd, .lenSl x⟩ :: is) H ρ σ = stepW (opsWpJ C K lj mj is) H ⟨d, g, nd, .lenSl x⟩ ρ σ := rfl
theorem oj_lenArr {n} : opsWpJ C K lj mj (⟨d, g, nd, .lenArr n⟩ :: is) H ρ σ = stepW (opsWpJ C K lj mj is) H ⟨d, g, nd, .lenArr n⟩ ρ σ := rfl
theorem oj_app {sz} {s} {x} : opsWpJ C K lj mj (⟨d, g, nd, .app sz s x⟩ :: is) H ρ σ = stepW (opsWpJ C K lj mj is) H ⟨d, g, nd, .app sz s x⟩ ρ σ := rfl
theorem oj_copy {sz} {e} {s} : opsWpJ C K lj mj (⟨d, g, nd, .copy sz e s⟩ :: is) H ρ σ = stepW (opsWpJ C K lj mj is) H ⟨d, g, nd, .copy sz e s⟩ ρ σ := rfl
theorem oj_clear {z} {x} : opsWpJ C K lj mj (⟨d, g, nd, .clear z x⟩ :: is) H ρ σ = stepW (opsWpJ C K lj mj is) H ⟨d, g, nd, .clear z x⟩ ρ σ := rfl
theorem oj_minmax {mx} {x} {y} : opsWpJ C K lj mj (⟨d, g, nd, .minmax mx x y⟩ :: is) H ρ σ = stepW (opsWpJ C K lj mj is) H ⟨d, g, nd, .minmax mx x y⟩ ρ σ := rfl
theorem oj_nil : opsWpJ C K lj mj [] H ρ σ = (opsWp C K lj H ρ σ ∧ opsWp C K mj H ρ σ) := rfl
theorem oj_call {f} {xs} : opsWpJ C K lj mj (⟨d, g, nd, .call f xs⟩ :: is) H ρ σ = callG C (opsWpJ C K lj mj is) H ρ σ d nd f xs (guardV ρ g) := rfl
/-! Unsigned numbers as_ bit rows. -/
theorem wrap_u {k : IntKind} (hk : k.signed = false) (n : Int) : k.wrap n = n % 2 ^ k.bits := by simp [IntKind.wrap, hk]
theorem u_nat {k : IntKind} (hk : k.signed = false) (x : BitVec k.bits) : k.wrap (x.toNat : Int) = x.toNat := by
  rw [wrap_u hk]
  have := x.isLt
  rw [Int.emod_eq_of_lt (by omega)]
  exact_mod_cast this
theorem u_ofInt {w : Nat} (x : BitVec w) : BitVec.ofInt w (x.toNat : Int) = x := by
  apply BitVec.eq_of_toNat_eq
  rw [BitVec.toNat_ofInt]
  have := x.isLt
  have e : ((x.toNat : Int) % ((2 ^ w : Nat) : Int)) = x.toNat := Int.emod_eq_of_lt (by omega) (by exact_mod_cast this)
  rw [e]; simp
theorem getElem?_app {σ l : Store} {k : Nat} : (σ ++ l)[σ.length + k]? = l[k]? := by rw [List.getElem?_append_right (by omega), Nat.add_sub_cancel_left]
theorem getElem?_app0 {σ l : Store} : (σ ++ l)[σ.length]? = l[0]? := getElem?_app (k := 0)
theorem set_app {σ l : Store} {k : Nat} {x : Option AObj} : (σ ++ l).set (σ.length + k) x = σ ++ l.set k x := by rw [List.set_append_right _ _ (by omega), Nat.add_sub_cancel_left]
theorem set_app0 {σ l : Store} {x : Option AObj} : (σ ++ l).set σ.length x = σ ++ l.set 0 x := set_app (k := 0)
end
end Am
end Go.Proofs.YthgcooppjhcgcaaDoor
end
section
set_option linter.unusedSimpArgs false
set_option linter.unusedVariables false
/- THE ABSTRACT MACHINE, part 23: what comes in, by its type, as_ abstract values. -/
set_option linter.unusedVariables false
namespace Go.Proofs.YthgcooppjhcgcaaDoor
namespace Am
open Go.ChangeShapes Go.WideShapes Go.ChangeAt Go.RowKit

/-- Types of plain data. -/
inductive Ty where
  | int (k : IntKind)
  | bool
  | str
  | sl (sz : Nat) (e : Ty)
  | row (ts : List Ty)
  deriving Inhabited
def tile (P : Program) : List Field → Nat → Option Nat
  | [], n => some n
  | f :: l, n => if f.offset = n then tile P l (n + P.cellsOf f.type) else none
def tyOf (P : Program) : Nat → TypeId → Option Ty
  | 0, _ => none
  | d + 1, t => match P.underlying t with
    | some .bool => some .bool
    | some (.int k) => some (.int k)
    | some .string => some .str
    | some (.slice e) => if 0 < P.cellsOf e then (tyOf P d e).map (.sl (P.cellsOf e)) else none
    | some (.struct fs) => if tile P fs.toList 0 = some (P.cellsOf t) then (fs.toList.mapM fun f => tyOf P d f.type).map .row else none
    | some (.array n e) => if P.cellsOf t = n * P.cellsOf e then (tyOf P d e).map fun ty => .row (List.replicate n ty) else none
    | _ => none
mutual
/-- The cells of a value of a type. -/
def ShC : Ty → List AV → Prop
  | .int k, cs => ∃ n, cs = [.int k n] ∧ k.min ≤ n ∧ n ≤ k.max
  | .bool, cs => ∃ b, cs = [.bool b]
  | .str, cs => ∃ s : List UInt8, cs = [.str s] ∧ s.length ≤ maxLen
  | .sl sz e, cs => cs = [.nilsl] ∨ ∃ es, cs = [.vsl sz es false] ∧ es.length ≤ maxLen ∧ (∀ x ∈ es, x.length = sz) ∧ ∀ x ∈ es, ShC e x
  | .row ts, cs => ShRow ts cs
def ShRow : List Ty → List AV → Prop
  | [], cs => cs = []
  | t :: ts, cs => ∃ a b, cs = a ++ b ∧ ShC t a ∧ ShRow ts b
end
/-- An argument of a type. -/
def Sh : Ty → AV → Prop
  | .row ts, a => ∃ cs, a = .agg cs ∧ ShRow ts cs
  | t, a => ShC t [a]
def ShAll : List Ty → List AV → Prop
  | [], avs => avs = []
  | t :: ts, avs => ∃ a avs', avs = a :: avs' ∧ Sh t a ∧ ShAll ts avs'

section
variable {H : Type} {enc : TypeId × Value → H} {P : Program} {w : World}

theorem cells_at {base : Nat} {a : Addr} {n : Nat} {cs : List Value} (h : w.cells? base a n = some cs) : cs.length = n ∧ ∀ i, i < n → w.cell? (a.add i) = cs[i]? :=
  ⟨(World.cells?_some h).2.1, (World.cells?_some h).2.2⟩
theorem cell_some {a : Addr} {v : Value} (h : w.cell? a = some v) : a.spot = none ∧ ∃ c ty fz, w.heap[a.block]? = some (.cells c ty fz) ∧ c[a.off]? = some v := by
  unfold World.cell? at h
  split at h
  · rename_i c ty fz hh
    split at h
    · cases h
    · rename_i hs
      exact ⟨by simpa using hs, c, ty, fz, hh, h⟩
  · cases h
theorem seg_of {b o n : Nat} {vals : List Value} (hn : 0 < n) (hl : vals.length ≤ n) (hall : ∀ k, k < n → ∃ v, w.cell? ⟨b, o + k, none⟩ = some v) (hv : ∀ k, k < vals.length → w.cell? ⟨b, o + k, none⟩ = vals[k]?) :
    b < w.heap.size ∧ Seg w b o vals := by
  obtain ⟨v0, h0⟩ := hall 0 hn
  obtain ⟨_, c, ty, fz, hc, h0'⟩ := cell_some h0
  simp only [Nat.add_zero] at hc h0'
  have hget : ∀ k, w.cell? ⟨b, k, none⟩ = c[k]? := fun k => by simp [World.cell?, hc]
  have ho : o + vals.length ≤ c.size := by
    by_cases hz : vals.length = 0
    · have := (Array.getElem?_eq_some_iff.1 h0').1; omega
    · have := hv (vals.length - 1) (by omega)
      rw [hget, List.getElem?_eq_getElem (by omega)] at this
      have := (Array.getElem?_eq_some_iff.1 this).1; omega
  refine ⟨?_, c, ty, fz, c.toList.take o, c.toList.drop (o + vals.length), hc, ?_, by simp; omega⟩
  · rcases Nat.lt_or_ge b w.heap.size with h | h
    · exact h
    · simp [Array.getElem?_eq_none h] at hc
  · have e : vals = (c.toList.drop o).take vals.length := by
      apply List.ext_getElem?
      intro k
      simp only [List.getElem?_take, List.getElem?_drop]
      by_cases hk : k < vals.length
      · rw [if_pos hk, ← hv k hk, hget]; simp
      · rw [if_neg hk, List.getElem?_eq_none (by omega)]
    conv => lhs; rw [← List.take_append_drop o c.toList, ← List.take_append_drop vals.length (c.toList.drop o), ← e]
    simp [List.append_assoc]

theorem mapM_get {α β : Type} {f : α → Option β} : ∀ {l : List α} {r : List β}, l.mapM f = some r → r.length = l.length ∧ ∀ (i : Nat) (x : α), l[i]? = some x → f x = r[i]?
  | [], r, h => by simp at h; subst h; simp
  | x :: l, r, h => by
    simp only [List.mapM_cons, Option.bind_eq_bind, Option.bind_eq_some_iff, Option.pure_def, Option.some.injEq] at h
    obtain ⟨y, hy, r', hr, rfl⟩ := h
    obtain ⟨h1, h2⟩ := mapM_get hr
    refine ⟨by simp [h1], fun i z hz => ?_⟩
    cases i with
    | zero => simp at hz; subst hz; simp [hy]
    | succ i => simp at hz; simpa using h2 i z hz

theorem read_row {n : Nat} {spare : Nat → Bool} {held : Bool} {base : Nat} {cs : List Value} {d : Nat}
    (ih : ∀ (t : TypeId) (ty : Ty) (cs : List Value) (x : DataW H × List MemPlace), tyOf P d t = some ty → DataW.trod enc P w base spare held n t cs = some x → cs.length = P.cellsOf t → ∃ avs, VRs [] w avs cs ∧ ShC ty avs) :
    ∀ (l : List Field) (k : Nat) (tys : List Ty), tile P l k = some cs.length → l.mapM (fun f => tyOf P d f.type) = some tys →
      (∀ f ∈ l, ∃ x, DataW.trod enc P w base spare held n f.type ((cs.drop f.offset).take (P.cellsOf f.type)) = some x) → k ≤ cs.length → ∃ avs, VRs [] w avs (cs.drop k) ∧ ShRow tys avs
  | [], k, tys, hk, ht, _, _ => by
    simp only [tile, Option.some.injEq] at hk
    simp at ht
    subst ht
    exact ⟨[], by rw [hk]; simp [VRs], by simp [ShRow]⟩
  | f :: l, k, tys, hk, ht, hx, hle => by
    simp only [tile] at hk
    split at hk
    · rename_i hf
      simp only [List.mapM_cons, Option.bind_eq_bind, Option.bind_eq_some_iff, Option.pure_def, Option.some.injEq] at ht
      obtain ⟨ty, hty, tys', htys, rfl⟩ := ht
      have hle2 : k + P.cellsOf f.type ≤ cs.length := by
        have : ∀ (l : List Field) (a b : Nat), tile P l a = some b → a ≤ b := by
          intro l
          induction l with
          | nil => intro a b h; simp [tile] at h; omega
          | cons f l ih => intro a b h; simp only [tile] at h; split at h; · have := ih _ _ h; omega
                           · cases h
        exact this l _ _ hk
      obtain ⟨x, hx1⟩ := hx f (by simp)
      obtain ⟨avs, h1, h2⟩ := ih f.type ty _ x hty hx1 (by simp; omega)
      obtain ⟨bs, h3, h4⟩ := read_row ih l (k + P.cellsOf f.type) tys' hk htys (fun g hg => hx g (by simp [hg])) hle2
      refine ⟨avs ++ bs, ?_, avs, bs, rfl, h2, h4⟩
      have e : cs.drop k = (cs.drop k).take (P.cellsOf f.type) ++ cs.drop (k + P.cellsOf f.type) := by
        rw [← List.drop_drop, List.take_append_drop]
      rw [e]
      rw [hf] at h1
      exact h1.append h3
    · cases hk
theorem read_arr {n : Nat} {spare : Nat → Bool} {held : Bool} {base : Nat} {d : Nat} {e : TypeId} {ty : Ty} (hty : tyOf P d e = some ty)
    (ih : ∀ (t : TypeId) (ty : Ty) (cs : List Value) (x : DataW H × List MemPlace), tyOf P d t = some ty → DataW.trod enc P w base spare held n t cs = some x → cs.length = P.cellsOf t → ∃ avs, VRs [] w avs cs ∧ ShC ty avs) :
    ∀ (m : Nat) (cs : List Value), cs.length = m * P.cellsOf e → (∀ i, i < m → ∃ x, DataW.trod enc P w base spare held n e ((cs.drop (i * P.cellsOf e)).take (P.cellsOf e)) = some x) →
      ∃ avs, VRs [] w avs cs ∧ ShRow (List.replicate m ty) avs
  | 0, cs, hl, _ => by
    have : cs = [] := List.eq_nil_of_length_eq_zero (by simpa using hl)
    subst this
    exact ⟨[], by simp [VRs], by simp [ShRow]⟩
  | m + 1, cs, hl, hx => by
    rw [Nat.succ_mul] at hl
    obtain ⟨x, h0⟩ := hx 0 (by omega)
    simp only [Nat.zero_mul, List.drop_zero] at h0
    obtain ⟨avs, h1, h2⟩ := ih e ty _ x hty h0 (by simp; omega)
    obtain ⟨bs, h3, h4⟩ := read_arr hty ih m (cs.drop (P.cellsOf e)) (by simp; omega) (fun i hi => by
      obtain ⟨y, hy⟩ := hx (i + 1) (by omega)
      refine ⟨y, ?_⟩
      rw [List.drop_drop, Nat.add_comm, ← Nat.succ_mul]; exact hy)
    refine ⟨avs ++ bs, ?_, avs, bs, rfl, h2, h4⟩
    rw [← List.take_append_drop (P.cellsOf e) cs]
    exact h1.append h3

theorem read_ok {base : Nat} {held : Bool} : ∀ (fuel d : Nat) (t : TypeId) (ty : Ty) (cs : List Value) (x : DataW H × List MemPlace), tyOf P d t = some ty →
    DataW.trod enc P w base (fun _ => true) held fuel t cs = some x → ∃ avs, VRs [] w avs cs ∧ ShC ty avs
  | 0, _, _, _, _, _, _, h => by simp [DataW.trod] at h
  | _ + 1, 0, _, _, _, _, ht, _ => by simp [tyOf] at ht
  | fuel + 1, d + 1, t, ty, cs, x, ht, h => by
    have ih := fun (t : TypeId) (ty : Ty) (cs : List Value) (x : DataW H × List MemPlace) (h1 : tyOf P d t = some ty) (h2 : DataW.trod enc P w base (fun _ => true) held fuel t cs = some x) (_ : cs.length = P.cellsOf t) => read_ok fuel d t ty cs x h1 h2
    unfold tyOf at ht
    split at ht
    · rename_i hu
      simp only [Option.some.injEq] at ht; subst ht
      obtain ⟨b, rfl, _⟩ := DataW.trod_bool hu h
      exact ⟨[.bool b], .one ⟨VR.bool, rfl⟩, by simp [ShC]⟩
    · rename_i k hu
      simp only [Option.some.injEq] at ht; subst ht
      obtain ⟨n, rfl, _, hw⟩ := DataW.trod_int hu h
      simp only [Lit.wf, Bool.and_eq_true, decide_eq_true_eq] at hw
      exact ⟨[.int k n], .one ⟨VR.int, rfl⟩, by simp only [ShC]; exact ⟨n, rfl, hw.1, hw.2⟩⟩
    · rename_i hu
      simp only [Option.some.injEq] at ht; subst ht
      obtain ⟨s, rfl, _, hs⟩ := DataW.trod_string hu h
      refine ⟨[.str s.data.toList], .one ⟨by simp [VR], rfl⟩, by simp only [ShC]; exact ⟨_, rfl, by simpa using hs⟩⟩
    · rename_i e hu
      split at ht
      · rename_i hpos
        simp only [Option.map_eq_some_iff] at ht
        obtain ⟨te, hte, rfl⟩ := ht
        rcases DataW.trod_slice hu h with ⟨rfl, _⟩ | ⟨a, len, cap, elems, rest, n, hn, rfl, _, hb, hl, hm, hlen, hel, hsp, _⟩
        · exact ⟨[.nilsl], .one ⟨by simp [VR], rfl⟩, by simp [ShC]⟩
        · obtain ⟨hrl, hr⟩ := hsp rfl
          have hn' : n = fuel := by omega
          subst hn'
          -- each element's cells
          have each : ∀ i, i < cap → ∃ cs y, w.cells? base (a.add (i * P.cellsOf e)) (P.cellsOf e) = some cs ∧ DataW.trod enc P w base (fun _ => true) held n e cs = some y := by
            intro i hi
            have : ∃ y, (w.cells? base (a.add (i * P.cellsOf e)) (P.cellsOf e)).bind (DataW.trod enc P w base (fun _ => true) held n e) = some y := by
              by_cases hil : i < len
              · rw [hel i hil]; exact ⟨_, List.getElem?_eq_getElem (by omega)⟩
              · have := hr (i - len) (by omega)
                rw [show len + (i - len) = i by omega] at this
                rw [this]; exact ⟨_, List.getElem?_eq_getElem (by omega)⟩
            obtain ⟨y, hy⟩ := this
            rw [Option.bind_eq_some_iff] at hy
            obtain ⟨cs, h1, h2⟩ := hy
            exact ⟨cs, y, h1, h2⟩
          by_cases hc0 : cap = 0
          · subst hc0
            have : len = 0 := by omega
            subst this
            exact ⟨[.vsl (P.cellsOf e) [] false], .one ⟨by simp only [VR]; exact .inl ⟨by simp, a, rfl⟩, rfl⟩, by simp [ShC]⟩
          · have hspot : a.spot = none := by
              obtain ⟨cs, y, h1, _⟩ := each 0 (by omega)
              obtain ⟨hl1, hc1⟩ := cells_at h1
              have := hc1 0 hpos
              rw [List.getElem?_eq_getElem (by omega)] at this
              have := (cell_some this).1
              simpa [Addr.add] using this
            obtain ⟨b, o, spot⟩ := a
            simp only at hspot
            subst hspot
            have cellAt : ∀ i j, i < cap → j < P.cellsOf e → ∃ v, w.cell? ⟨b, o + (i * P.cellsOf e + j), none⟩ = some v := by
              intro i j hi hj
              obtain ⟨cs, y, h1, _⟩ := each i hi
              obtain ⟨hl1, hc1⟩ := cells_at h1
              have := hc1 j hj
              rw [List.getElem?_eq_getElem (by omega)] at this
              rw [add_plain, add_plain, Nat.add_assoc] at this
              exact ⟨_, this⟩
            -- the first m elements
            have firsts : ∀ m, m ≤ cap → ∃ (es : List (List AV)) (vals : List Value), es.length = m ∧ vals.length = m * P.cellsOf e ∧ (∀ x ∈ es, x.length = P.cellsOf e) ∧ (∀ x ∈ es, ShC te x) ∧ VRss [] w es vals ∧
                ∀ k, k < vals.length → w.cell? ⟨b, o + k, none⟩ = vals[k]? := by
              intro m
              induction m with
              | zero => intro _; exact ⟨[], [], rfl, by simp, by simp, by simp, by simp [VRss], by simp⟩
              | succ m ihm =>
                intro hm'
                obtain ⟨es, vals, k1, k2, k3, k4, k5, k6⟩ := ihm (by omega)
                obtain ⟨cs, y, h1, h2⟩ := each m (by omega)
                obtain ⟨hl1, hc1⟩ := cells_at h1
                obtain ⟨avs, q1, q2⟩ := read_ok n d e te cs y hte h2
                refine ⟨es ++ [avs], vals ++ cs, by simp [k1], by simp [k2, hl1, Nat.succ_mul], ?_, ?_, ?_, ?_⟩
                · intro x hx
                  simp only [List.mem_append, List.mem_singleton] at hx
                  rcases hx with hx | rfl
                  · exact k3 x hx
                  · rw [q1.length, hl1]
                · intro x hx
                  simp only [List.mem_append, List.mem_singleton] at hx
                  rcases hx with hx | rfl
                  · exact k4 x hx
                  · exact q2
                · rw [VRss.flat, List.flatten_append]
                  refine (VRss.flat.1 k5).append ?_
                  simpa using q1
                · intro k hk
                  by_cases hk1 : k < vals.length
                  · rw [List.getElem?_append_left hk1]; exact k6 k hk1
                  · rw [List.getElem?_append_right (by omega)]
                    simp only [List.length_append] at hk
                    have := hc1 (k - vals.length) (by omega)
                    rw [add_plain, add_plain] at this
                    rw [← this, k2]
                    congr 2
                    omega
            obtain ⟨es, vals, k1, k2, k3, k4, k5, k6⟩ := firsts len hl
            have hmul : len * P.cellsOf e ≤ cap * P.cellsOf e := Nat.mul_le_mul_right _ hl
            obtain ⟨hbl, hseg⟩ := seg_of (w := w) (b := b) (o := o) (n := cap * P.cellsOf e) (vals := vals) (Nat.mul_pos (by omega) hpos) (by omega) (by
              intro k hk
              have h1 : k / P.cellsOf e < cap := Nat.div_lt_of_lt_mul (by rw [Nat.mul_comm]; exact hk)
              obtain ⟨v, hv⟩ := cellAt (k / P.cellsOf e) (k % P.cellsOf e) h1 (Nat.mod_lt _ hpos)
              rw [Nat.mul_comm, Nat.div_add_mod] at hv
              exact ⟨v, hv⟩) k6
            refine ⟨[.vsl (P.cellsOf e) es false], .one ⟨?_, rfl⟩, ?_⟩
            · simp only [VR]
              right
              exact ⟨b, o, cap, vals, by rw [k1], by omega, by simp, ⟨hbl, by simp⟩, hseg, k3, k5⟩
            · simp only [ShC]
              right
              exact ⟨es, rfl, by omega, k3, k4⟩
      · cases ht
    · rename_i fs hu
      split at ht
      · rename_i htile
        simp only [Option.map_eq_some_iff] at ht
        obtain ⟨tys, htys, rfl⟩ := ht
        obtain ⟨xs, n, hn, _, hcl, hxl, hxs⟩ := DataW.trod_struct hu h
        have hn' : n = fuel := by omega
        subst hn'
        obtain ⟨avs, h1, h2⟩ := read_row (cs := cs) ih fs.toList 0 tys (by rw [hcl]; exact htile) htys (fun f hf => by
          obtain ⟨i, hi⟩ := List.getElem?_of_mem hf
          have hi' : fs[i]? = some f := by simpa using hi
          rw [hxs i f hi']
          have : i < xs.length := by rw [hxl]; exact (Array.getElem?_eq_some_iff.1 hi').1
          exact ⟨_, List.getElem?_eq_getElem this⟩) (Nat.zero_le _)
        exact ⟨avs, by simpa using h1, by simpa only [ShC] using h2⟩
      · cases ht
    · rename_i n e hu
      split at ht
      · rename_i hsz
        simp only [Option.map_eq_some_iff] at ht
        obtain ⟨te, hte, rfl⟩ := ht
        obtain ⟨xs, m, hm, _, hcl, hxl, hxs⟩ := DataW.trod_array hu h
        have hm' : m = fuel := by omega
        subst hm'
        obtain ⟨avs, h1, h2⟩ := read_arr hte ih n cs (by rw [hcl, hsz]) (fun i hi => by
          rw [hxs i hi]; exact ⟨_, List.getElem?_eq_getElem (by omega)⟩)
        exact ⟨avs, h1, by simpa only [ShC] using h2⟩
      · cases ht
    · cases ht

theorem open_val {r : Reach} {b0 base : Nat} {held : Bool} {d : Nat} {t : TypeId} {ty : Ty} {v : Value} {x : DataW H} {ps : List MemPlace} (ht : tyOf P d t = some ty) (hval : Value.okWide P w r b0 t v)
    (hd : DataW.Trod enc P w base (fun _ => true) held t v x ps) : ∃ a, VR [] w a v ∧ Sh ty a := by
  obtain ⟨fuel, hf⟩ := hd
  obtain ⟨avs, h1, h2⟩ := read_ok fuel d t ty _ _ ht hf
  have one : v.oneCell' = true → (∀ ts, ty ≠ .row ts) → ∃ a, VR [] w a v ∧ Sh ty a := by
    intro hv hr
    rw [cells_of_one hv] at h1
    cases avs with
    | nil => simp [VRs] at h1
    | cons a avs =>
      simp only [VRs] at h1
      obtain ⟨v', vs', he, h3, h4⟩ := h1
      simp only [List.cons.injEq] at he
      obtain ⟨rfl, rfl⟩ := he
      have : avs = [] := by cases avs <;> simp [VRs] at h4 ⊢
      subst this
      refine ⟨a, h3.1, ?_⟩
      cases ty <;> first | exact h2 | exact absurd rfl (hr _)
  have agg : (∃ cs, v = .agg cs) → (∃ ts, ty = .row ts) → ∃ a, VR [] w a v ∧ Sh ty a := by
    rintro ⟨cs, rfl⟩ ⟨ts, rfl⟩
    simp only [ShC] at h2
    refine ⟨.agg avs, ?_, avs, rfl, h2⟩
    simp only [VR]
    exact ⟨cs.toList, by simp, by simpa [Value.cells] using h1⟩
  cases d with
  | zero => simp [tyOf] at ht
  | succ d =>
    unfold tyOf at ht
    unfold Value.okWide at hval
    split at ht
    · rename_i hu
      simp only [Option.some.injEq] at ht; subst ht
      simp only [hu, Cell.okWide, Cell.ok] at hval
      refine one ?_ (by simp)
      cases v <;> simp_all <;> rfl
    · rename_i k hu
      simp only [Option.some.injEq] at ht; subst ht
      simp only [hu, Cell.okWide, Cell.ok] at hval
      refine one ?_ (by simp)
      cases v <;> simp_all <;> rfl
    · rename_i hu
      simp only [Option.some.injEq] at ht; subst ht
      simp only [hu, Cell.okWide, Cell.ok] at hval
      refine one ?_ (by simp)
      cases v <;> simp_all <;> rfl
    · rename_i e hu
      split at ht
      · simp only [Option.map_eq_some_iff] at ht
        obtain ⟨te, _, rfl⟩ := ht
        simp only [hu, Cell.okWide, Cell.ok] at hval
        refine one ?_ (by simp)
        cases v <;> simp_all <;> rfl
      · cases ht
    · rename_i fs hu
      split at ht
      · simp only [Option.map_eq_some_iff] at ht
        obtain ⟨te, _, rfl⟩ := ht
        simp only [hu] at hval
        obtain ⟨cs, hcs, _⟩ := hval
        exact agg ⟨cs, hcs⟩ ⟨_, rfl⟩
      · cases ht
    · rename_i n e hu
      split at ht
      · simp only [Option.map_eq_some_iff] at ht
        obtain ⟨te, _, rfl⟩ := ht
        simp only [hu] at hval
        obtain ⟨cs, hcs, _⟩ := hval
        exact agg ⟨cs, hcs⟩ ⟨_, rfl⟩
      · cases ht
    · cases ht

def tysOf (P : Program) (d : Nat) : List TypeId → Option (List Ty)
  | [] => some []
  | t :: ts => (tyOf P d t).bind fun ty => (tysOf P d ts).map (ty :: ·)
theorem open_all {r : Reach} {b0 base : Nat} {held : Bool} {d : Nat} : ∀ {ts : List TypeId} {tys : List Ty} {vs : List Value} {xs : List (DataW H)} {ps : List MemPlace}, tysOf P d ts = some tys →
    (∀ (j : Nat) t v, ts[j]? = some t → vs[j]? = some v → Value.okWide P w r b0 t v) → DataW.TrodAll enc P w base (fun _ => true) held ts vs xs ps → ∃ avs, VRt [] w avs vs ∧ ShAll tys avs
  | [], tys, vs, xs, ps, ht, _, h => by
    simp only [tysOf, Option.some.injEq] at ht; subst ht
    obtain ⟨rfl, _⟩ := trodAll_nil h
    exact ⟨[], VRt.nil, rfl⟩
  | t :: ts, tys, vs, xs, ps, ht, hval, h => by
    simp only [tysOf, Option.bind_eq_some_iff, Option.map_eq_some_iff] at ht
    obtain ⟨ty, h1, tys', h2, rfl⟩ := ht
    obtain ⟨v, vs', x, xs', p, q, rfl, rfl, rfl, h3, h4⟩ := trodAll_cons h
    obtain ⟨a, k1, k2⟩ := open_val h1 (hval 0 t v rfl rfl) h3
    obtain ⟨avs, k3, k4⟩ := open_all h2 (fun j t' v' hj hv => hval (j + 1) t' v' (by simpa using hj) (by simpa using hv)) h4
    exact ⟨a :: avs, VRt.cons k1 k3, a, avs, rfl, k2, k4⟩
end
end Am
end Go.Proofs.YthgcooppjhcgcaaDoor
end
section
set_option linter.unusedSimpArgs false
set_option linter.unusedVariables false
/- THE ABSTRACT MACHINE, part 24: a law's contract at the empty store gives its row's. -/
namespace Go.Proofs.YthgcooppjhcgcaaDoor
namespace Am
open Go.ChangeShapes Go.WideShapes Go.ChangeAt Go.RowKit
section
variable {H : Type} {enc : TypeId × Value → H} {P : Program} {w : World}
theorem trodAll_length {base : Nat} {spare : Nat → Bool} {held : Bool} : ∀ {ts : List TypeId} {vs : List Value} {ds : List (DataW H)} {ps : List MemPlace}, DataW.TrodAll enc P w base spare held ts vs ds ps → ds.length = ts.length
  | [], [], [], _, _ => rfl
  | t :: ts, v :: vs, d :: ds, ps, h => by
    obtain ⟨p, q, h1, h2, rfl⟩ := h
    simp [trodAll_length h2]
  | [], [], _ :: _, _, h => h.elim
  | [], _ :: _, _, _, h => h.elim
  | _ :: _, [], _, _, h => h.elim
  | _ :: _, _ :: _, [], _, h => h.elim

theorem law_contract {C : Ctx} (hg : ∀ g, C.gl g = none) {f : FuncId} {fn : Func} {e : Nat × List RV × ACode} (hc : cFn C f = some e) {d : Nat} {tys : List Ty} (htys : tysOf C.P d fn.params.toList = some tys)
    (hlaw : ∀ avs, ShAll tys avs → ACallsTo C f avs [] (.bool true) []) {s : ChangeSpec} (hvars : s.vars = [])
    (hspec : ∀ ds : List (DataW H), ds.length = fn.params.toList.length → (s.fn H ds).results = [.lit (.bool true)] ∧ (s.fn H ds).args = ds ∧ (s.fn H ds).vars = []) {tb : TypeId} (hres : fn.resultTypes = #[tb]) (htb : C.P.underlying tb = some .bool)
    (hl : laidOutB C.P = true) (hpar : (fn.params.toList.all fun t => C.P.readableRec t && decide (t < C.P.types.size)) = true)
    {W : World} {base : Nat} {args : Array Value} {ds gs : List (DataW H)} {before : List MemPlace} (hval : ∀ (j : Nat) t v, fn.params[j]? = some t → args[j]? = some v → Value.okWide C.P W .any base t v)
    (hW : DataW.Whole enc C.P fn.params.toList s.vars false W args.toList ds gs before) :
    Calls C.P f args W fun e W' => ∃ v, e = .returned v ∧ s.post enc C.P fn false true false false W args v W' := by
  have hW' := hW
  obtain ⟨p, q, hA, hV, rfl, hfz, hnd⟩ := hW
  obtain ⟨avs, h1, h2⟩ := open_all (r := .any) (b0 := base) htys (fun j t v hj hv => hval j t v (by simpa using hj) (by simpa using hv)) hA
  have hcall := (hlaw avs h2).calls hc (Rel.empty hg W) h1
  have ea : args.toList.toArray = args := by simp
  rw [ea] at hcall
  refine hcall.mono ?_
  rintro x w' ⟨rfl, hb⟩
  refine ⟨_, rfl, law_post hW' hvars (fun gs hgs => ?_) hres htb hl hpar hb⟩
  subst hgs
  rw [List.append_nil]
  exact hspec ds (trodAll_length hA)
end
end Am
end Go.Proofs.YthgcooppjhcgcaaDoor
end
section
set_option linter.unusedSimpArgs false
set_option linter.unusedVariables false
/- THE ABSTRACT MACHINE, part 26: a contract at the empty store serves at every store: rows are lent as_ values, new objects lie behind the others. -/
set_option linter.unusedVariables false
namespace Go.Proofs.YthgcooppjhcgcaaDoor
namespace Am

mutual
/-- References are counted from k on. -/
def sh (k : Nat) : AV → AV
  | .ptr r i off => .ptr (k + r) i off
  | .sl r off len lim esz => .sl (k + r) off len lim esz
  | .asl r i off len cap esz => .asl (k + r) i off len cap esz
  | .fn f caps => .fn f (shs k caps)
  | .agg cs => .agg (shs k cs)
  | .tup vs => .tup (shs k vs)
  | .any => .any
  | .undef => .undef
  | .bool b => .bool b
  | .int i n => .int i n
  | .str s => .str s
  | .nilp => .nilp
  | .vp _ => .any
  | .nilsl => .nilsl
  | .vsl _ _ _ => .any
  | .nilfn => .nilfn
  | .bld r => .bld (k + r)
  | .bnil => .bnil
  | .bsl r len => .bsl (k + r) len
def shs (k : Nat) : List AV → List AV
  | [] => []
  | a :: l => sh k a :: shs k l
end
def shss (k : Nat) (es : List (List AV)) : List (List AV) := es.map (shs k)
def shS (k : Nat) (σ : Store) : Store := σ.map (·.map (shss k))
theorem shs_length (k : Nat) : ∀ l, (shs k l).length = l.length
  | [] => rfl
  | _ :: l => by simp [shs, shs_length k l]
theorem shs_append (k : Nat) : ∀ l m, shs k (l ++ m) = shs k l ++ shs k m
  | [], _ => rfl
  | a :: l, m => by simp [shs, shs_append k l m]
theorem shss_flatten (k : Nat) : ∀ es : List (List AV), (shss k es).flatten = shs k es.flatten
  | [] => rfl
  | e :: es => by
    have := shss_flatten k es
    simp only [shss] at this
    simp only [shss, List.map_cons, List.flatten_cons, shs_append, this]
mutual
theorem sh_ok {γ γ' : Places} {w : World} : ∀ (a : AV) (v : Value), VR γ' w a v → VR (γ ++ γ') w (sh γ.length a) v
  | .any, _, _ => by simp only [sh, VR]
  | .undef, _, h => by simpa only [sh, VR] using h
  | .bool _, _, h => by simpa only [sh, VR] using h
  | .int _ _, _, h => by simpa only [sh, VR] using h
  | .str _, _, h => by simpa only [sh, VR] using h
  | .nilp, _, h => by simpa only [sh, VR] using h
  | .nilsl, _, h => by simpa only [sh, VR] using h
  | .nilfn, _, h => by simpa only [sh, VR] using h
  | .vp _, _, _ => by simp only [sh, VR]
  | .vsl _ _ _, _, _ => by simp only [sh, VR]
  | .ptr r i off, v, h => by
    simp only [sh, VR] at h ⊢
    obtain ⟨fl, pl, h1, h2⟩ := h
    exact ⟨fl, pl, by rw [List.getElem?_append_right (by omega), Nat.add_sub_cancel_left]; exact h1, h2⟩
  | .sl r off len lim esz, v, h => by
    simp only [sh, VR] at h ⊢
    obtain ⟨fl, pl, b, o, cap, h1, h2⟩ := h
    exact ⟨fl, pl, b, o, cap, by rw [List.getElem?_append_right (by omega), Nat.add_sub_cancel_left]; exact h1, h2⟩
  | .asl r i off len cap esz, v, h => by
    simp only [sh, VR] at h ⊢
    obtain ⟨fl, pl, b, o, h1, h2⟩ := h
    exact ⟨fl, pl, b, o, by rw [List.getElem?_append_right (by omega), Nat.add_sub_cancel_left]; exact h1, h2⟩
  | .fn f caps, v, h => by
    simp only [sh, VR] at h ⊢
    obtain ⟨vs, h1, h2⟩ := h
    exact ⟨vs, h1, sht_ok caps vs h2⟩
  | .agg cs, v, h => by
    simp only [sh, VR] at h ⊢
    obtain ⟨vs, h1, h2⟩ := h
    exact ⟨vs, h1, shs_ok cs vs h2⟩
  | .tup cs, v, h => by
    simp only [sh, VR] at h ⊢
    obtain ⟨vs, h1, h2⟩ := h
    exact ⟨vs, h1, sht_ok cs vs h2⟩
  | .bld r, v, h => by
    simp only [sh, VR] at h ⊢
    obtain ⟨fl, pl, h1, h2⟩ := h
    exact ⟨fl, pl, by rw [List.getElem?_append_right (by omega), Nat.add_sub_cancel_left]; exact h1, h2⟩
  | .bnil, _, h => by simpa only [sh, VR] using h
  | .bsl r len, v, h => by
    simp only [sh, VR] at h ⊢
    obtain ⟨fl, pl, cap, h1, h2⟩ := h
    exact ⟨fl, pl, cap, by rw [List.getElem?_append_right (by omega), Nat.add_sub_cancel_left]; exact h1, h2⟩
theorem shs_ok {γ γ' : Places} {w : World} : ∀ (l : List AV) (vs : List Value), VRs γ' w l vs → VRs (γ ++ γ') w (shs γ.length l) vs
  | [], vs, h => by simpa only [shs, VRs] using h
  | a :: l, vs, h => by
    simp only [shs, VRs] at h ⊢
    obtain ⟨v, vs', h1, h2, h3⟩ := h
    exact ⟨v, vs', h1, ⟨sh_ok a v h2.1, h2.2⟩, shs_ok l vs' h3⟩
theorem sht_ok {γ γ' : Places} {w : World} : ∀ (l : List AV) (vs : List Value), VRt γ' w l vs → VRt (γ ++ γ') w (shs γ.length l) vs
  | [], vs, h => by simpa only [shs, VRt] using h
  | a :: l, vs, h => by
    simp only [shs, VRt] at h ⊢
    obtain ⟨v, vs', h1, h2, h3⟩ := h
    exact ⟨v, vs', h1, sh_ok a v h2, sht_ok l vs' h3⟩
end

/-- All objects are lent. -/
def lendD (σ : Store) : DC := ⟨σ, 0, id, fun _ => true⟩
theorem lend_snd {σ : Store} {γ : Places} {w : World} : DSnd (lendD σ) γ [] w where
  ref r _ _ h := by simp [lendD] at h
  imm b h := ⟨h.1, by simp⟩
  fz r pl _ _ r' pl' h := by simp at h
theorem step_back {γ γ' : Places} {w w' : World} (h : Step [] w γ' w') (hlt : ∀ (r : Nat) (pl : Place), γ[r]? = some (true, pl) → pl.b < w.heap.size) : Step γ w (γ ++ γ') w' where
  keep r fl pl hr := ⟨fl, by rw [List.getElem?_append_left (List.getElem?_eq_some_iff.1 hr).1]; exact hr⟩
  size := h.size
  imm b hb _ := h.imm b hb (by simp)
  new r pl hr := by
    by_cases hl : r < γ.length
    · rw [List.getElem?_append_left hl] at hr
      exact .inl ⟨r, pl, hr, rfl⟩
    · rw [List.getElem?_append_right (by omega)] at hr
      rcases h.new _ pl hr with ⟨r', pl', h1, _⟩ | h1
      · simp at h1
      · exact .inr h1
  os := h.os
  tape := h.tape
  output := h.output

def GlOK (C : Ctx) : Prop := ∀ g cs, C.gl g = some cs → RLs 0 cs
theorem Rel.lent {C : Ctx} {γ : Places} {σ : Store} {w : World} (hg : GlOK C) (hR : Rel C γ σ w) : Rel C [] [] w :=
  ⟨rfl, by simp, by simp, by simp, fun g cs h => DR.sound hR lend_snd (.vp cs) (.vp cs) _ (DR.refl (D := lendD σ) (k := 0) (by omega) _ (by simpa only [RL] using hg g cs h)) (hR.gl g cs h)⟩
theorem Rel.back {C : Ctx} {γ γ' : Places} {σ σ1 : Store} {w w' : World} (hR : Rel C γ σ w) (hst : Step [] w γ' w') (h : Rel C γ' σ1 w') : Rel C (γ ++ γ') (σ ++ shS σ.length σ1) w' := by
  have hlt : ∀ (r : Nat) (pl : Place), γ[r]? = some (true, pl) → pl.b < w.heap.size := fun r pl hr => hR.place_lt hr
  have hs := step_back (γ := γ) hst hlt
  have hge : ∀ (r : Nat) (pl : Place), γ'[r]? = some (true, pl) → w.heap.size ≤ pl.b := fun r pl hr => by
    rcases hst.new r pl hr with ⟨r', pl', h1, _⟩ | h1
    · simp at h1
    · exact h1
  refine ⟨by simp [shS, hR.len, h.len], fun r o hr => ?_, fun r hr => ?_, fun r r' pl pl' h1 h2 h3 => ?_, fun g cs hg => (hR.gl g cs hg).mono hs⟩
  · by_cases hl : r < σ.length
    · rw [List.getElem?_append_left hl] at hr
      obtain ⟨pl, h1, h2⟩ := hR.alive r o hr
      exact ⟨pl, by rw [List.getElem?_append_left (by rw [hR.len]; exact hl)]; exact h1, h2.mono hs (hst.imm _ h2.lt (by simp))⟩
    · rw [List.getElem?_append_right (by omega)] at hr
      simp only [shS, List.getElem?_map, Option.map_eq_some_iff] at hr
      obtain ⟨x, hx, he⟩ := hr
      cases x with
      | none => simp at he
      | some o0 =>
        simp only [Option.map_some, Option.some.injEq] at he
        obtain ⟨_, rfl, rfl⟩ := he
        obtain ⟨pl, h1, h2⟩ := h.alive _ o0 hx
        refine ⟨pl, by rw [List.getElem?_append_right (by rw [hR.len]; omega), hR.len]; exact h1, ?_⟩
        obtain ⟨c, ty, fz, pre, mid, post, k1, k2, k3, k4, k5, k6⟩ := h2.ex
        refine ⟨by simp [shss, h2.len], fun e he => ?_, h2.tyk, c, ty, fz, pre, mid, post, k1, k2, k3, k4, ?_, k6⟩
        · simp only [shss, List.mem_map] at he
          obtain ⟨e0, he0, rfl⟩ := he
          rw [shs_length]; exact h2.esz e0 he0
        · rw [shss_flatten, ← hR.len]
          exact shs_ok _ _ k5
  · by_cases hl : r < σ.length
    · rw [List.getElem?_append_left hl] at hr
      obtain ⟨pl, h1⟩ := hR.dead r hr
      exact ⟨pl, by rw [List.getElem?_append_left (by rw [hR.len]; exact hl)]; exact h1⟩
    · rw [List.getElem?_append_right (by omega)] at hr
      simp only [shS, List.getElem?_map, Option.map_eq_some_iff] at hr
      obtain ⟨x, hx, he⟩ := hr
      cases x with
      | some o0 => simp at he
      | none =>
        obtain ⟨pl, h1⟩ := h.dead _ hx
        exact ⟨pl, by rw [List.getElem?_append_right (by rw [hR.len]; omega), hR.len]; exact h1⟩
  · have get : ∀ (r : Nat) (pl : Place), (γ ++ γ')[r]? = some (true, pl) → (r < γ.length ∧ γ[r]? = some (true, pl)) ∨ (γ.length ≤ r ∧ γ'[r - γ.length]? = some (true, pl)) := fun r pl hr => by
      by_cases hl : r < γ.length
      · rw [List.getElem?_append_left hl] at hr; exact .inl ⟨hl, hr⟩
      · rw [List.getElem?_append_right (by omega)] at hr; exact .inr ⟨by omega, hr⟩
    rcases get r pl h1 with ⟨k1, k2⟩ | ⟨k1, k2⟩ <;> rcases get r' pl' h2 with ⟨q1, q2⟩ | ⟨q1, q2⟩
    · exact hR.inj r r' pl pl' k2 q2 h3
    · have := hlt r pl k2; have := hge _ pl' q2; omega
    · have := hge _ pl k2; have := hlt r' pl' q2; omega
    · have := h.inj _ _ pl pl' k2 q2 h3; omega

theorem ACallsTo.lend {C : Ctx} (hg : GlOK C) {f : FuncId} {xs args : List AV} {v : AV} {σ σ1 : Store} (h : ACallsTo C f xs [] v σ1) (hd : DRs (lendD σ) xs args) : ACallsTo C f args σ (sh σ.length v) (σ ++ shS σ.length σ1) := by
  intro γ w cargs hR ha
  have hx : VRt [] w xs cargs := DRs.soundt hR lend_snd xs args cargs hd ha
  have hlt : ∀ (r : Nat) (pl : Place), γ[r]? = some (true, pl) → pl.b < w.heap.size := fun r pl hr => hR.place_lt hr
  rcases h [] w cargs (hR.lent hg) hx with ⟨h1, h2⟩ | ⟨cv, γ', w', h1, h2, h3, h4⟩
  · refine .inl ⟨h1, h2.mono ?_⟩
    rintro e w' ⟨cv, γ', rfl, k1, k2, k3⟩
    exact ⟨cv, γ ++ γ', rfl, step_back k1 hlt, hR.back k1 k2, by rw [← hR.len]; exact sh_ok v cv k3⟩
  · exact .inr ⟨cv, γ ++ γ', w', h1, step_back h2 hlt, hR.back h2 h3, by rw [← hR.len]; exact sh_ok v cv h4⟩
/-- A contract at the empty store, of values alone, at every store. -/
theorem ACallsTo.frame {C : Ctx} (hg : GlOK C) {f : FuncId} {xs : List AV} {v : AV} (h : ACallsTo C f xs [] v []) (hx : RLs 0 xs) (σ : Store) : ACallsTo C f xs σ (sh σ.length v) σ := by
  have := ACallsTo.lend hg (σ := σ) h (DRs.refl (D := lendD σ) (k := 0) (by omega) xs hx)
  simpa [shS] using this
end Am
end Go.Proofs.YthgcooppjhcgcaaDoor
end
section
set_option linter.unusedSimpArgs false
set_option linter.unusedVariables false
/- THE ABSTRACT MACHINE, part 25: its steps, gathered for simp; numbers decided by omega. -/
namespace Go.Proofs.YthgcooppjhcgcaaDoor
namespace Am
theorem lens : (∀ {α : Type} {l : List α} {i : Nat} {a : α}, (l.set i a).length = l.length) ∧ (∀ {α : Type} {l m : List α}, (l ++ m).length = l.length + m.length) ∧ (∀ {α : Type} {a : α} {l : List α}, (a :: l).length = l.length + 1) ∧ (∀ {α : Type}, ([] : List α).length = 0) ∧ (∀ {α β : Type} {f : α → β} {l : List α}, (l.map f).length = l.length) :=
  ⟨List.length_set, List.length_append, List.length_cons, List.length_nil, List.length_map _⟩
section
variable {C : Ctx} {n k : Nat} {Q : AExit → Env → Store → Prop} {ρ : Env} {σ : Store}
theorem SWp.condD {x : AX} {p q : ACode} {P : Prop} [hd : Decidable P] (hx : x.ev ρ = .bool (@decide P hd)) (h1 : P → SWp C n k p Q ρ σ) (h2 : ¬ P → SWp C n k q Q ρ σ) : SWp C n k (.cond x p q) Q ρ σ :=
  SWp.cond hx (fun h => h1 (of_decide_eq_true h)) (fun h => h2 (of_decide_eq_false h))
theorem SWp.condT {x : AX} {p q : ACode} (hx : x.ev ρ = .bool true) (h1 : SWp C n k p Q ρ σ) : SWp C n k (.cond x p q) Q ρ σ :=
  SWp.cond hx (fun _ => h1) (fun h => by cases h)
theorem SWp.condF {x : AX} {p q : ACode} (hx : x.ev ρ = .bool false) (h1 : SWp C n k q Q ρ σ) : SWp C n k (.cond x p q) Q ρ σ :=
  SWp.cond hx (fun h => by cases h) (fun _ => h1)
theorem w_i64 {n : Int} (h : -9223372036854775808 ≤ n ∧ n < 9223372036854775808) : IntKind.i64.wrap n = n := by
  simp [IntKind.wrap, IntKind.signed, IntKind.bits]; omega
theorem w_u64 {n : Int} (h : 0 ≤ n ∧ n < 18446744073709551616) : IntKind.u64.wrap n = n := by
  simp [IntKind.wrap, IntKind.signed, IntKind.bits]; omega
theorem w_u32 {n : Int} (h : 0 ≤ n ∧ n < 4294967296) : IntKind.u32.wrap n = n := by
  simp [IntKind.wrap, IntKind.signed, IntKind.bits]; omega
theorem w_u16 {n : Int} (h : 0 ≤ n ∧ n < 65536) : IntKind.u16.wrap n = n := by
  simp [IntKind.wrap, IntKind.signed, IntKind.bits]; omega
theorem w_u8 {n : Int} (h : 0 ≤ n ∧ n < 256) : IntKind.u8.wrap n = n := by
  simp [IntKind.wrap, IntKind.signed, IntKind.bits]; omega
theorem shr_u8 {a b : Int} (h : 0 ≤ b ∧ b < 8) : shBin .shr .u8 a b = some (.int .u8 (a / 2 ^ b.toNat)) := by
  simp only [shBin, IntKind.bits]
  rw [if_neg (by omega), Nat.min_eq_left (by omega), Int.fdiv_eq_ediv_of_nonneg _ (Int.pow_nonneg (by decide))]
theorem shl_u8 {a b : Int} (h : 0 ≤ b ∧ b < 8) : shBin .shl .u8 a b = some (.int .u8 (IntKind.u8.wrap (a * 2 ^ b.toNat))) := by
  simp only [shBin, IntKind.bits]
  rw [if_neg (by omega), Nat.min_eq_left (by omega)]
theorem shr_u16 {a b : Int} (h : 0 ≤ b ∧ b < 16) : shBin .shr .u16 a b = some (.int .u16 (a / 2 ^ b.toNat)) := by
  simp only [shBin, IntKind.bits]
  rw [if_neg (by omega), Nat.min_eq_left (by omega), Int.fdiv_eq_ediv_of_nonneg _ (Int.pow_nonneg (by decide))]
theorem shl_u16 {a b : Int} (h : 0 ≤ b ∧ b < 16) : shBin .shl .u16 a b = some (.int .u16 (IntKind.u16.wrap (a * 2 ^ b.toNat))) := by
  simp only [shBin, IntKind.bits]
  rw [if_neg (by omega), Nat.min_eq_left (by omega)]
theorem shr_u32 {a b : Int} (h : 0 ≤ b ∧ b < 32) : shBin .shr .u32 a b = some (.int .u32 (a / 2 ^ b.toNat)) := by
  simp only [shBin, IntKind.bits]
  rw [if_neg (by omega), Nat.min_eq_left (by omega), Int.fdiv_eq_ediv_of_nonneg _ (Int.pow_nonneg (by decide))]
theorem shl_u32 {a b : Int} (h : 0 ≤ b ∧ b < 32) : shBin .shl .u32 a b = some (.int .u32 (IntKind.u32.wrap (a * 2 ^ b.toNat))) := by
  simp only [shBin, IntKind.bits]
  rw [if_neg (by omega), Nat.min_eq_left (by omega)]
theorem shr_u64 {a b : Int} (h : 0 ≤ b ∧ b < 64) : shBin .shr .u64 a b = some (.int .u64 (a / 2 ^ b.toNat)) := by
  simp only [shBin, IntKind.bits]
  rw [if_neg (by omega), Nat.min_eq_left (by omega), Int.fdiv_eq_ediv_of_nonneg _ (Int.pow_nonneg (by decide))]
theorem shl_u64 {a b : Int} (h : 0 ≤ b ∧ b < 64) : shBin .shl .u64 a b = some (.int .u64 (IntKind.u64.wrap (a * 2 ^ b.toNat))) := by
  simp only [shBin, IntKind.bits]
  rw [if_neg (by omega), Nat.min_eq_left (by omega)]
theorem shr_i64 {a b : Int} (h : 0 ≤ b ∧ b < 64) : shBin .shr .i64 a b = some (.int .i64 (a / 2 ^ b.toNat)) := by
  simp only [shBin, IntKind.bits]
  rw [if_neg (by omega), Nat.min_eq_left (by omega), Int.fdiv_eq_ediv_of_nonneg _ (Int.pow_nonneg (by decide))]
theorem shl_i64 {a b : Int} (h : 0 ≤ b ∧ b < 64) : shBin .shl .i64 a b = some (.int .i64 (IntKind.i64.wrap (a * 2 ^ b.toNat))) := by
  simp only [shBin, IntKind.bits]
  rw [if_neg (by omega), Nat.min_eq_left (by omega)]
theorem ib_add {k : IntKind} {a b : Int} : intBin .add k a b = some (.int k (k.wrap (a + b))) := rfl
theorem ib_sub {k : IntKind} {a b : Int} : intBin .sub k a b = some (.int k (k.wrap (a - b))) := rfl
theorem ib_mul {k : IntKind} {a b : Int} : intBin .mul k a b = some (.int k (k.wrap (a * b))) := rfl
theorem ib_quo {k : IntKind} {a b : Int} : intBin .quo k a b = if b = 0 then none else some (.int k (k.wrap (a.tdiv b))) := rfl
theorem ib_rem {k : IntKind} {a b : Int} : intBin .rem k a b = if b = 0 then none else some (.int k (a.tmod b)) := rfl
theorem ib_eql {k : IntKind} {a b : Int} : intBin .eql k a b = some (.bool (a == b)) := rfl
theorem ib_neq {k : IntKind} {a b : Int} : intBin .neq k a b = some (.bool (a != b)) := rfl
theorem ib_lss {k : IntKind} {a b : Int} : intBin .lss k a b = some (.bool (decide (a < b))) := rfl
theorem ib_leq {k : IntKind} {a b : Int} : intBin .leq k a b = some (.bool (decide (a ≤ b))) := rfl
theorem ib_gtr {k : IntKind} {a b : Int} : intBin .gtr k a b = some (.bool (decide (a > b))) := rfl
theorem ib_geq {k : IntKind} {a b : Int} : intBin .geq k a b = some (.bool (decide (a ≥ b))) := rfl
theorem ib_and_u8 {a b : Int} (ha : 0 ≤ a ∧ a < 256) (hb : 0 ≤ b ∧ b < 256) : intBin .and .u8 a b = some (.int .u8 ((a.toNat &&& b.toNat : Nat) : Int)) := by
  have h : (BitVec.ofInt IntKind.u8.bits a &&& BitVec.ofInt IntKind.u8.bits b).toNat = a.toNat &&& b.toNat := by
    rw [BitVec.toNat_and, BitVec.toNat_ofInt, BitVec.toNat_ofInt]
    simp only [IntKind.bits]
    rw [Int.emod_eq_of_lt (by omega) (by omega), Int.emod_eq_of_lt (by omega) (by omega)]
  have h1 : a.toNat < 2 ^ 8 := by omega
  have h2 : b.toNat < 2 ^ 8 := by omega
  have h3 : a.toNat &&& b.toNat < 2 ^ 8 := Nat.and_lt_two_pow _ h2
  simp only [intBin]
  rw [h, w_u8 ⟨by omega, by omega⟩]
theorem ib_or_u8 {a b : Int} (ha : 0 ≤ a ∧ a < 256) (hb : 0 ≤ b ∧ b < 256) : intBin .or .u8 a b = some (.int .u8 ((a.toNat ||| b.toNat : Nat) : Int)) := by
  have h : (BitVec.ofInt IntKind.u8.bits a ||| BitVec.ofInt IntKind.u8.bits b).toNat = a.toNat ||| b.toNat := by
    rw [BitVec.toNat_or, BitVec.toNat_ofInt, BitVec.toNat_ofInt]
    simp only [IntKind.bits]
    rw [Int.emod_eq_of_lt (by omega) (by omega), Int.emod_eq_of_lt (by omega) (by omega)]
  have h1 : a.toNat < 2 ^ 8 := by omega
  have h2 : b.toNat < 2 ^ 8 := by omega
  have h3 : a.toNat ||| b.toNat < 2 ^ 8 := Nat.or_lt_two_pow h1 h2
  simp only [intBin]
  rw [h, w_u8 ⟨by omega, by omega⟩]
theorem ib_xor_u8 {a b : Int} (ha : 0 ≤ a ∧ a < 256) (hb : 0 ≤ b ∧ b < 256) : intBin .xor .u8 a b = some (.int .u8 ((a.toNat ^^^ b.toNat : Nat) : Int)) := by
  have h : (BitVec.ofInt IntKind.u8.bits a ^^^ BitVec.ofInt IntKind.u8.bits b).toNat = a.toNat ^^^ b.toNat := by
    rw [BitVec.toNat_xor, BitVec.toNat_ofInt, BitVec.toNat_ofInt]
    simp only [IntKind.bits]
    rw [Int.emod_eq_of_lt (by omega) (by omega), Int.emod_eq_of_lt (by omega) (by omega)]
  have h1 : a.toNat < 2 ^ 8 := by omega
  have h2 : b.toNat < 2 ^ 8 := by omega
  have h3 : a.toNat ^^^ b.toNat < 2 ^ 8 := Nat.xor_lt_two_pow h1 h2
  simp only [intBin]
  rw [h, w_u8 ⟨by omega, by omega⟩]
theorem ib_and_u16 {a b : Int} (ha : 0 ≤ a ∧ a < 65536) (hb : 0 ≤ b ∧ b < 65536) : intBin .and .u16 a b = some (.int .u16 ((a.toNat &&& b.toNat : Nat) : Int)) := by
  have h : (BitVec.ofInt IntKind.u16.bits a &&& BitVec.ofInt IntKind.u16.bits b).toNat = a.toNat &&& b.toNat := by
    rw [BitVec.toNat_and, BitVec.toNat_ofInt, BitVec.toNat_ofInt]
    simp only [IntKind.bits]
    rw [Int.emod_eq_of_lt (by omega) (by omega), Int.emod_eq_of_lt (by omega) (by omega)]
  have h1 : a.toNat < 2 ^ 16 := by omega
  have h2 : b.toNat < 2 ^ 16 := by omega
  have h3 : a.toNat &&& b.toNat < 2 ^ 16 := Nat.and_lt_two_pow _ h2
  simp only [intBin]
  rw [h, w_u16 ⟨by omega, by omega⟩]
theorem ib_or_u16 {a b : Int} (ha : 0 ≤ a ∧ a < 65536) (hb : 0 ≤ b ∧ b < 65536) : intBin .or .u16 a b = some (.int .u16 ((a.toNat ||| b.toNat : Nat) : Int)) := by
  have h : (BitVec.ofInt IntKind.u16.bits a ||| BitVec.ofInt IntKind.u16.bits b).toNat = a.toNat ||| b.toNat := by
    rw [BitVec.toNat_or, BitVec.toNat_ofInt, BitVec.toNat_ofInt]
    simp only [IntKind.bits]
    rw [Int.emod_eq_of_lt (by omega) (by omega), Int.emod_eq_of_lt (by omega) (by omega)]
  have h1 : a.toNat < 2 ^ 16 := by omega
  have h2 : b.toNat < 2 ^ 16 := by omega
  have h3 : a.toNat ||| b.toNat < 2 ^ 16 := Nat.or_lt_two_pow h1 h2
  simp only [intBin]
  rw [h, w_u16 ⟨by omega, by omega⟩]
theorem ib_xor_u16 {a b : Int} (ha : 0 ≤ a ∧ a < 65536) (hb : 0 ≤ b ∧ b < 65536) : intBin .xor .u16 a b = some (.int .u16 ((a.toNat ^^^ b.toNat : Nat) : Int)) := by
  have h : (BitVec.ofInt IntKind.u16.bits a ^^^ BitVec.ofInt IntKind.u16.bits b).toNat = a.toNat ^^^ b.toNat := by
    rw [BitVec.toNat_xor, BitVec.toNat_ofInt, BitVec.toNat_ofInt]
    simp only [IntKind.bits]
    rw [Int.emod_eq_of_lt (by omega) (by omega), Int.emod_eq_of_lt (by omega) (by omega)]
  have h1 : a.toNat < 2 ^ 16 := by omega
  have h2 : b.toNat < 2 ^ 16 := by omega
  have h3 : a.toNat ^^^ b.toNat < 2 ^ 16 := Nat.xor_lt_two_pow h1 h2
  simp only [intBin]
  rw [h, w_u16 ⟨by omega, by omega⟩]
theorem ib_and_u32 {a b : Int} (ha : 0 ≤ a ∧ a < 4294967296) (hb : 0 ≤ b ∧ b < 4294967296) : intBin .and .u32 a b = some (.int .u32 ((a.toNat &&& b.toNat : Nat) : Int)) := by
  have h : (BitVec.ofInt IntKind.u32.bits a &&& BitVec.ofInt IntKind.u32.bits b).toNat = a.toNat &&& b.toNat := by
    rw [BitVec.toNat_and, BitVec.toNat_ofInt, BitVec.toNat_ofInt]
    simp only [IntKind.bits]
    rw [Int.emod_eq_of_lt (by omega) (by omega), Int.emod_eq_of_lt (by omega) (by omega)]
  have h1 : a.toNat < 2 ^ 32 := by omega
  have h2 : b.toNat < 2 ^ 32 := by omega
  have h3 : a.toNat &&& b.toNat < 2 ^ 32 := Nat.and_lt_two_pow _ h2
  simp only [intBin]
  rw [h, w_u32 ⟨by omega, by omega⟩]
theorem ib_or_u32 {a b : Int} (ha : 0 ≤ a ∧ a < 4294967296) (hb : 0 ≤ b ∧ b < 4294967296) : intBin .or .u32 a b = some (.int .u32 ((a.toNat ||| b.toNat : Nat) : Int)) := by
  have h : (BitVec.ofInt IntKind.u32.bits a ||| BitVec.ofInt IntKind.u32.bits b).toNat = a.toNat ||| b.toNat := by
    rw [BitVec.toNat_or, BitVec.toNat_ofInt, BitVec.toNat_ofInt]
    simp only [IntKind.bits]
    rw [Int.emod_eq_of_lt (by omega) (by omega), Int.emod_eq_of_lt (by omega) (by omega)]
  have h1 : a.toNat < 2 ^ 32 := by omega
  have h2 : b.toNat < 2 ^ 32 := by omega
  have h3 : a.toNat ||| b.toNat < 2 ^ 32 := Nat.or_lt_two_pow h1 h2
  simp only [intBin]
  rw [h, w_u32 ⟨by omega, by omega⟩]
theorem ib_xor_u32 {a b : Int} (ha : 0 ≤ a ∧ a < 4294967296) (hb : 0 ≤ b ∧ b < 4294967296) : intBin .xor .u32 a b = some (.int .u32 ((a.toNat ^^^ b.toNat : Nat) : Int)) := by
  have h : (BitVec.ofInt IntKind.u32.bits a ^^^ BitVec.ofInt IntKind.u32.bits b).toNat = a.toNat ^^^ b.toNat := by
    rw [BitVec.toNat_xor, BitVec.toNat_ofInt, BitVec.toNat_ofInt]
    simp only [IntKind.bits]
    rw [Int.emod_eq_of_lt (by omega) (by omega), Int.emod_eq_of_lt (by omega) (by omega)]
  have h1 : a.toNat < 2 ^ 32 := by omega
  have h2 : b.toNat < 2 ^ 32 := by omega
  have h3 : a.toNat ^^^ b.toNat < 2 ^ 32 := Nat.xor_lt_two_pow h1 h2
  simp only [intBin]
  rw [h, w_u32 ⟨by omega, by omega⟩]
theorem ib_and_u64 {a b : Int} (ha : 0 ≤ a ∧ a < 18446744073709551616) (hb : 0 ≤ b ∧ b < 18446744073709551616) : intBin .and .u64 a b = some (.int .u64 ((a.toNat &&& b.toNat : Nat) : Int)) := by
  have h : (BitVec.ofInt IntKind.u64.bits a &&& BitVec.ofInt IntKind.u64.bits b).toNat = a.toNat &&& b.toNat := by
    rw [BitVec.toNat_and, BitVec.toNat_ofInt, BitVec.toNat_ofInt]
    simp only [IntKind.bits]
    rw [Int.emod_eq_of_lt (by omega) (by omega), Int.emod_eq_of_lt (by omega) (by omega)]
  have h1 : a.toNat < 2 ^ 64 := by omega
  have h2 : b.toNat < 2 ^ 64 := by omega
  have h3 : a.toNat &&& b.toNat < 2 ^ 64 := Nat.and_lt_two_pow _ h2
  simp only [intBin]
  rw [h, w_u64 ⟨by omega, by omega⟩]
theorem ib_or_u64 {a b : Int} (ha : 0 ≤ a ∧ a < 18446744073709551616) (hb : 0 ≤ b ∧ b < 18446744073709551616) : intBin .or .u64 a b = some (.int .u64 ((a.toNat ||| b.toNat : Nat) : Int)) := by
  have h : (BitVec.ofInt IntKind.u64.bits a ||| BitVec.ofInt IntKind.u64.bits b).toNat = a.toNat ||| b.toNat := by
    rw [BitVec.toNat_or, BitVec.toNat_ofInt, BitVec.toNat_ofInt]
    simp only [IntKind.bits]
    rw [Int.emod_eq_of_lt (by omega) (by omega), Int.emod_eq_of_lt (by omega) (by omega)]
  have h1 : a.toNat < 2 ^ 64 := by omega
  have h2 : b.toNat < 2 ^ 64 := by omega
  have h3 : a.toNat ||| b.toNat < 2 ^ 64 := Nat.or_lt_two_pow h1 h2
  simp only [intBin]
  rw [h, w_u64 ⟨by omega, by omega⟩]
theorem ib_xor_u64 {a b : Int} (ha : 0 ≤ a ∧ a < 18446744073709551616) (hb : 0 ≤ b ∧ b < 18446744073709551616) : intBin .xor .u64 a b = some (.int .u64 ((a.toNat ^^^ b.toNat : Nat) : Int)) := by
  have h : (BitVec.ofInt IntKind.u64.bits a ^^^ BitVec.ofInt IntKind.u64.bits b).toNat = a.toNat ^^^ b.toNat := by
    rw [BitVec.toNat_xor, BitVec.toNat_ofInt, BitVec.toNat_ofInt]
    simp only [IntKind.bits]
    rw [Int.emod_eq_of_lt (by omega) (by omega), Int.emod_eq_of_lt (by omega) (by omega)]
  have h1 : a.toNat < 2 ^ 64 := by omega
  have h2 : b.toNat < 2 ^ 64 := by omega
  have h3 : a.toNat ^^^ b.toNat < 2 ^ 64 := Nat.xor_lt_two_pow h1 h2
  simp only [intBin]
  rw [h, w_u64 ⟨by omega, by omega⟩]
theorem ib_and_i64 {a b : Int} (ha : 0 ≤ a ∧ a < 9223372036854775808) (hb : 0 ≤ b ∧ b < 9223372036854775808) : intBin .and .i64 a b = some (.int .i64 ((a.toNat &&& b.toNat : Nat) : Int)) := by
  have h : (BitVec.ofInt IntKind.i64.bits a &&& BitVec.ofInt IntKind.i64.bits b).toNat = a.toNat &&& b.toNat := by
    rw [BitVec.toNat_and, BitVec.toNat_ofInt, BitVec.toNat_ofInt]
    simp only [IntKind.bits]
    rw [Int.emod_eq_of_lt (by omega) (by omega), Int.emod_eq_of_lt (by omega) (by omega)]
  have h1 : a.toNat < 2 ^ 63 := by omega
  have h2 : b.toNat < 2 ^ 63 := by omega
  have h3 : a.toNat &&& b.toNat < 2 ^ 63 := Nat.and_lt_two_pow _ h2
  simp only [intBin]
  rw [h, w_i64 ⟨by omega, by omega⟩]
theorem ib_or_i64 {a b : Int} (ha : 0 ≤ a ∧ a < 9223372036854775808) (hb : 0 ≤ b ∧ b < 9223372036854775808) : intBin .or .i64 a b = some (.int .i64 ((a.toNat ||| b.toNat : Nat) : Int)) := by
  have h : (BitVec.ofInt IntKind.i64.bits a ||| BitVec.ofInt IntKind.i64.bits b).toNat = a.toNat ||| b.toNat := by
    rw [BitVec.toNat_or, BitVec.toNat_ofInt, BitVec.toNat_ofInt]
    simp only [IntKind.bits]
    rw [Int.emod_eq_of_lt (by omega) (by omega), Int.emod_eq_of_lt (by omega) (by omega)]
  have h1 : a.toNat < 2 ^ 63 := by omega
  have h2 : b.toNat < 2 ^ 63 := by omega
  have h3 : a.toNat ||| b.toNat < 2 ^ 63 := Nat.or_lt_two_pow h1 h2
  simp only [intBin]
  rw [h, w_i64 ⟨by omega, by omega⟩]
theorem ib_xor_i64 {a b : Int} (ha : 0 ≤ a ∧ a < 9223372036854775808) (hb : 0 ≤ b ∧ b < 9223372036854775808) : intBin .xor .i64 a b = some (.int .i64 ((a.toNat ^^^ b.toNat : Nat) : Int)) := by
  have h : (BitVec.ofInt IntKind.i64.bits a ^^^ BitVec.ofInt IntKind.i64.bits b).toNat = a.toNat ^^^ b.toNat := by
    rw [BitVec.toNat_xor, BitVec.toNat_ofInt, BitVec.toNat_ofInt]
    simp only [IntKind.bits]
    rw [Int.emod_eq_of_lt (by omega) (by omega), Int.emod_eq_of_lt (by omega) (by omega)]
  have h1 : a.toNat < 2 ^ 63 := by omega
  have h2 : b.toNat < 2 ^ 63 := by omega
  have h3 : a.toNat ^^^ b.toNat < 2 ^ 63 := Nat.xor_lt_two_pow h1 h2
  simp only [intBin]
  rw [h, w_i64 ⟨by omega, by omega⟩]
theorem mask1 (a : Nat) : a &&& 1 = a % 2 := Nat.and_two_pow_sub_one_eq_mod a 1
theorem mask2 (a : Nat) : a &&& 3 = a % 4 := Nat.and_two_pow_sub_one_eq_mod a 2
theorem mask3 (a : Nat) : a &&& 7 = a % 8 := Nat.and_two_pow_sub_one_eq_mod a 3
theorem mask4 (a : Nat) : a &&& 15 = a % 16 := Nat.and_two_pow_sub_one_eq_mod a 4
theorem mask5 (a : Nat) : a &&& 31 = a % 32 := Nat.and_two_pow_sub_one_eq_mod a 5
theorem mask6 (a : Nat) : a &&& 63 = a % 64 := Nat.and_two_pow_sub_one_eq_mod a 6
theorem mask7 (a : Nat) : a &&& 127 = a % 128 := Nat.and_two_pow_sub_one_eq_mod a 7
theorem mask8 (a : Nat) : a &&& 255 = a % 256 := Nat.and_two_pow_sub_one_eq_mod a 8
theorem mask12 (a : Nat) : a &&& 4095 = a % 4096 := Nat.and_two_pow_sub_one_eq_mod a 12
theorem int_beq (a b : Int) : (a == b) = decide (a = b) := by
  by_cases h : a = b <;> simp [h]
theorem int_bne (a b : Int) : (a != b) = decide (¬ a = b) := by
  by_cases h : a = b <;> simp [h]
theorem not_decide (p : Prop) [Decidable p] : (!decide p) = decide (¬ p) := by simp
theorem tdiv_pos {a b : Int} (h : 0 ≤ a) : a.tdiv b = a / b := Int.tdiv_eq_ediv_of_nonneg h
theorem tmod_pos' {a b : Int} (h : 0 ≤ a) : a.tmod b = a % b := Int.tmod_eq_emod_of_nonneg h
theorem fdiv_pos {a b : Int} (h : 0 ≤ b) : a.fdiv b = a / b := Int.fdiv_eq_ediv_of_nonneg a h
theorem getQ {α : Type} (l : List α) (i : Nat) (d : α) (h : i < l.length) : l[i]? = some (l.getD i d) := by
  simp [List.getD_eq_getElem?_getD, List.getElem?_eq_getElem h]
theorem upd_b {d t : Nat} {v : AV} : upd ρ d v t = bif t == d then v else ρ t := by
  unfold upd
  by_cases h : t = d
  · simp [h]
  · have : (t == d) = false := by simpa using h
    rw [if_neg h, this]; rfl
theorem contW_f' {K : Env → Store → Prop} {ρ' : Env} {σ' : Store} : contW K σ false (some (ρ', σ')) = K ρ' σ' := Eq.trans rfl rfl
theorem contW_t' {K : Env → Store → Prop} {ρ' : Env} {σ' : Store} : contW K σ true (some (ρ', σ')) = (σ' = σ ∧ K ρ' σ') := Eq.trans rfl rfl
section
variable {K : Hist → Env → Store → Prop} {H : Hist} {d : Option Nat} {g : Option (Nat × Bool)} {op : AOp} {nd : Nd} {f : AX} {xs : List AX} {v : AV} {s : Store}
theorem stepW_no : stepW K H ⟨d, g, .no, op⟩ ρ σ = contW (K H) σ false (insRun ⟨d, g, .no, op⟩ ρ σ) := Eq.trans rfl rfl
theorem stepW_same : stepW K H ⟨d, g, .same, op⟩ ρ σ = contW (K H) σ true (insRun ⟨d, g, .same, op⟩ ρ σ) := Eq.trans rfl rfl
theorem stepW_rd : stepW K H ⟨d, g, .rd, op⟩ ρ σ = rdW K H d op ρ σ (guardV ρ g) := Eq.trans rfl rfl
theorem stepW_ef : stepW K H ⟨d, g, .ef, op⟩ ρ σ = efW K H d op ρ σ (guardV ρ g) := Eq.trans rfl rfl
theorem rdW_t : rdW K H d op ρ σ (some true) = rdC K H d op ρ σ (op.run ρ σ) := Eq.trans rfl rfl
theorem rdW_f : rdW K H d op ρ σ (some false) = K H (putE ρ d .undef) σ := Eq.trans rfl rfl
theorem efW_t : efW K H d op ρ σ (some true) = efC K H d ρ σ (op.run ρ σ) := Eq.trans rfl rfl
theorem efW_f : efW K H d op ρ σ (some false) = K H (putE ρ d .undef) σ := Eq.trans rfl rfl
theorem rdC_s : rdC K H d op ρ σ (some (v, s)) = (s = σ ∧ (∀ h, H.pre h → op.run ρ h = some (v, h)) ∧ K ⟨H.pre, fun s => H.rds s ∧ op.run ρ s = some (v, s)⟩ (putE ρ d v) σ) := Eq.trans rfl rfl
theorem efC_s : efC K H d ρ σ (some (v, s)) = (H.rds s ∧ K ⟨fun t => H.pre t ∨ t = σ, H.rds⟩ (putE ρ d v) s) := Eq.trans rfl rfl
theorem callG_t' : callG C K H ρ σ d nd f xs (some true) = callW C K H ρ d nd σ (f.ev ρ) (xs.map (AX.ev ρ)) := Eq.trans rfl rfl
theorem callG_f' : callG C K H ρ σ d nd f xs (some false) = K H (putE ρ d .undef) σ := Eq.trans rfl rfl
theorem needOk_no {σ' : Store} : needOk .no H σ σ' = True := Eq.trans rfl rfl
theorem needOk_same {σ' : Store} : needOk .same H σ σ' = (σ' = σ) := Eq.trans rfl rfl
theorem needOk_ef {σ' : Store} : needOk .ef H σ σ' = H.rds σ' := Eq.trans rfl rfl
theorem needNext_no : needNext .no H σ = H := Eq.trans rfl rfl
theorem needNext_same : needNext .same H σ = H := Eq.trans rfl rfl
theorem needNext_ef : needNext .ef H σ = ⟨fun s => H.pre s ∨ s = σ, H.rds⟩ := Eq.trans rfl rfl
theorem un_not {b : Bool} : aUn .not (.bool b) = some (.bool (!b)) := Eq.trans rfl rfl
theorem un_neg {k : IntKind} {n : Int} : aUn .neg (.int k n) = some (.int k (k.wrap (0 - n))) := Eq.trans rfl rfl
theorem un_xor {k : IntKind} {n : Int} : aUn .xor (.int k n) = some (.int k (k.wrap (BitVec.ofInt k.bits (if k.signed then -1 else k.max) ^^^ BitVec.ofInt k.bits n).toNat)) := Eq.trans rfl rfl
theorem rdS_s {s : Store} : rdS K d ρ σ (some (v, s)) = (s = σ ∧ K (Hist.same σ) (putE ρ d v) σ) := Eq.trans rfl rfl
theorem same_pre {h : Store} : (Hist.same σ).pre h = (h = σ) := Eq.trans rfl rfl
theorem same_rds {h : Store} : (Hist.same σ).rds h = (h = σ) := Eq.trans rfl rfl
theorem none_pre {h : Store} : Hist.none.pre h = False := Eq.trans rfl rfl
theorem none_rds {h : Store} : Hist.none.rds h = True := Eq.trans rfl rfl
end
theorem fill_int {k : IntKind} {m : Int} {cells : List AV} {off : Nat} {rest : List (Nat × Nat × AV)} (h : off + 1 ≤ cells.length) : rFill cells ((off, 1, (.int k m)) :: rest) = rFill (overw cells off [(.int k m)]) rest := by
  simp [rFill, cellsOf, h]
theorem fill_str {s : List UInt8} {cells : List AV} {off : Nat} {rest : List (Nat × Nat × AV)} (h : off + 1 ≤ cells.length) : rFill cells ((off, 1, (.str s)) :: rest) = rFill (overw cells off [(.str s)]) rest := by
  simp [rFill, cellsOf, h]
theorem fill_bool {b : Bool} {cells : List AV} {off : Nat} {rest : List (Nat × Nat × AV)} (h : off + 1 ≤ cells.length) : rFill cells ((off, 1, (.bool b)) :: rest) = rFill (overw cells off [(.bool b)]) rest := by
  simp [rFill, cellsOf, h]
theorem fill_ptr {r i o : Nat} {cells : List AV} {off : Nat} {rest : List (Nat × Nat × AV)} (h : off + 1 ≤ cells.length) : rFill cells ((off, 1, (.ptr r i o)) :: rest) = rFill (overw cells off [(.ptr r i o)]) rest := by
  simp [rFill, cellsOf, h]
theorem fill_nilp  {cells : List AV} {off : Nat} {rest : List (Nat × Nat × AV)} (h : off + 1 ≤ cells.length) : rFill cells ((off, 1, .nilp) :: rest) = rFill (overw cells off [.nilp]) rest := by
  simp [rFill, cellsOf, h]
theorem fill_nilsl  {cells : List AV} {off : Nat} {rest : List (Nat × Nat × AV)} (h : off + 1 ≤ cells.length) : rFill cells ((off, 1, .nilsl) :: rest) = rFill (overw cells off [.nilsl]) rest := by
  simp [rFill, cellsOf, h]
theorem fill_vsl {z : Nat} {es : List (List AV)} {x : Bool} {cells : List AV} {off : Nat} {rest : List (Nat × Nat × AV)} (h : off + 1 ≤ cells.length) : rFill cells ((off, 1, (.vsl z es x)) :: rest) = rFill (overw cells off [(.vsl z es x)]) rest := by
  simp [rFill, cellsOf, h]
theorem fill_sl {r o len z : Nat} {lim : Option Nat} {cells : List AV} {off : Nat} {rest : List (Nat × Nat × AV)} (h : off + 1 ≤ cells.length) : rFill cells ((off, 1, (.sl r o len lim z)) :: rest) = rFill (overw cells off [(.sl r o len lim z)]) rest := by
  simp [rFill, cellsOf, h]
theorem fill_asl {r i o len cap z : Nat} {cells : List AV} {off : Nat} {rest : List (Nat × Nat × AV)} (h : off + 1 ≤ cells.length) : rFill cells ((off, 1, (.asl r i o len cap z)) :: rest) = rFill (overw cells off [(.asl r i o len cap z)]) rest := by
  simp [rFill, cellsOf, h]
theorem fill_vp {cs : List AV} {cells : List AV} {off : Nat} {rest : List (Nat × Nat × AV)} (h : off + 1 ≤ cells.length) : rFill cells ((off, 1, (.vp cs)) :: rest) = rFill (overw cells off [(.vp cs)]) rest := by
  simp [rFill, cellsOf, h]
theorem fill_fn {f : FuncId} {caps : List AV} {cells : List AV} {off : Nat} {rest : List (Nat × Nat × AV)} (h : off + 1 ≤ cells.length) : rFill cells ((off, 1, (.fn f caps)) :: rest) = rFill (overw cells off [(.fn f caps)]) rest := by
  simp [rFill, cellsOf, h]
theorem fill_nilfn  {cells : List AV} {off : Nat} {rest : List (Nat × Nat × AV)} (h : off + 1 ≤ cells.length) : rFill cells ((off, 1, .nilfn) :: rest) = rFill (overw cells off [.nilfn]) rest := by
  simp [rFill, cellsOf, h]
theorem fill_agg {cs cells : List AV} {off n : Nat} {rest : List (Nat × Nat × AV)} (h0 : cs.length = n) (h : off + n ≤ cells.length) : rFill cells ((off, n, .agg cs) :: rest) = rFill (overw cells off cs) rest := by
  simp [rFill, cellsOf, h0, h]
theorem appB_n {ys : List (List AV)} : aAppB σ .nilsl ys = aApp σ 1 .nilsl ys := rfl
theorem appB_v {esz : Nat} {es ys : List (List AV)} {ex : Bool} : aAppB σ (.vsl esz es ex) ys = aApp σ 1 (.vsl esz es ex) ys := rfl
theorem appB_s {r off len esz : Nat} {lim : Option Nat} {ys : List (List AV)} : aAppB σ (.sl r off len lim esz) ys = aApp σ 1 (.sl r off len lim esz) ys := rfl
theorem appB_bn {ys : List (List AV)} : aAppB σ .bnil ys = if ys.length ≠ 0 ∧ ys.length ≤ 1073741824 then some (.bsl σ.length ys.length, σ ++ [some ys]) else none := rfl
theorem appB_bs {r len : Nat} {ys : List (List AV)} : aAppB σ (.bsl r len) ys = match σ[r]? with
    | some (some o) => if ys.length ≠ 0 ∧ o.length = len ∧ len + ys.length ≤ 1073741824 then some (.bsl σ.length (len + ys.length), σ.set r none ++ [some (o ++ ys)]) else none
    | _ => none := rfl
theorem app_n {sz : Nat} {ys : List (List AV)} : aApp σ sz .nilsl ys = if ys.length = 0 then (slElems σ .nilsl).map fun _ => (.nilsl, σ) else if ys.length ≤ 1073741824 then some (.sl σ.length 0 ys.length none sz, σ ++ [some ys]) else none := Eq.trans rfl rfl
theorem app_v {sz esz : Nat} {es ys : List (List AV)} {ex : Bool} : aApp σ sz (.vsl esz es ex) ys = if ys.length = 0 then (slElems σ (.vsl esz es ex)).map fun _ => (.vsl esz es ex, σ) else if ex = true ∧ esz = sz ∧ es.length + ys.length ≤ 1073741824 then some (.sl σ.length 0 (es.length + ys.length) none sz, σ ++ [some (es ++ ys)]) else none := Eq.trans rfl rfl
theorem app_s {sz r off len esz : Nat} {lim : Option Nat} {ys : List (List AV)} : aApp σ sz (.sl r off len lim esz) ys = if ys.length = 0 then (slElems σ (.sl r off len lim esz)).map fun _ => (.sl r off len lim esz, σ) else match σ[r]? with
    | some (some o) => if esz = sz ∧ off + len ≤ o.length ∧ len + ys.length ≤ 1073741824 then
        (match lim with
         | none => if off + len + ys.length ≤ o.length then some (.sl r off (len + ys.length) none esz, σ.set r (some (o.take (off + len) ++ ys ++ o.drop (off + len + ys.length))))
             else some (.sl σ.length 0 (len + ys.length) none sz, σ.set r none ++ [some ((o.drop off).take len ++ ys)])
         | some c => if len + ys.length ≤ c then (if off + len + ys.length ≤ o.length then some (.sl r off (len + ys.length) (some c) esz, σ.set r (some (o.take (off + len) ++ ys ++ o.drop (off + len + ys.length)))) else none)
             else some (.sl σ.length 0 (len + ys.length) none sz, σ ++ [some ((o.drop off).take len ++ ys)])) else none
    | _ => none := Eq.trans rfl rfl
theorem fill_nil {cells : List AV} : rFill cells [] = some cells := rfl
theorem overw_s {c : AV} {cs vs : List AV} {n : Nat} : overw (c :: cs) (n + 1) vs = c :: overw cs n vs := by
  have e : n + 1 + vs.length = (n + vs.length) + 1 := by omega
  simp [overw, e]
theorem overw_z {c v : AV} {cs vs : List AV} : overw (c :: cs) 0 (v :: vs) = v :: overw cs 0 vs := by
  simp [overw]
theorem overw_e {cs : List AV} : overw cs 0 [] = cs := by simp [overw]
theorem overw_u {cs vs : List AV} {n : Nat} : overw cs n vs = cs.take n ++ vs ++ cs.drop (n + vs.length) := Eq.trans rfl rfl
theorem overw1 {c v : AV} : overw [c] 0 [v] = [v] := by simp [overw]
theorem byteEs_len (s : List UInt8) : (byteEs s).length = s.length := by simp [byteEs]
theorem byteEs_get {s : List UInt8} {i : Nat} (h : i < s.length) : (byteEs s)[i]? = some [.int .u8 (s.getD i 0).toNat] := by
  simp [byteEs, B8, List.getD_eq_getElem?_getD, List.getElem?_eq_getElem h]
theorem byteEs_set {s : List UInt8} {i : Nat} {n : Int} (h : 0 ≤ n ∧ n < 256) : (byteEs s).set i [.int .u8 n] = byteEs (s.set i (UInt8.ofNat n.toNat)) := by
  have e : ((n.toNat % 256 : Nat) : Int) = n := by omega
  simp [byteEs, B8, List.map_set, e]
theorem byteEs_rep (n : Nat) : List.replicate n [AV.int .u8 0] = byteEs (List.replicate n 0) := by simp [byteEs, B8]
theorem get_u8 {s : List UInt8} {i : Nat} (h : i < s.length) : s[i]? = some (s.getD i 0) := getQ s i 0 h
theorem slElems_sl {r off len esz : Nat} {lim : Option Nat} : slElems σ (.sl r off len lim esz) = match σ[r]? with | some (some o) => if off + len ≤ o.length then some ((o.drop off).take len) else none | _ => none := Eq.trans rfl rfl
theorem int_eq {k : IntKind} {a b : Int} (h : a = b) : AV.int k a = AV.int k b := by rw [h]
theorem str_eq {a b : List UInt8} (h : a = b) : AV.str a = AV.str b := by rw [h]
theorem wm_u8 {n : Int} : IntKind.u8.wrap n = n % 256 := by simp [IntKind.wrap, IntKind.signed, IntKind.bits]
theorem wm_u16 {n : Int} : IntKind.u16.wrap n = n % 65536 := by simp [IntKind.wrap, IntKind.signed, IntKind.bits]
theorem wm_u32 {n : Int} : IntKind.u32.wrap n = n % 4294967296 := by simp [IntKind.wrap, IntKind.signed, IntKind.bits]
theorem wm_u64 {n : Int} : IntKind.u64.wrap n = n % 18446744073709551616 := by simp [IntKind.wrap, IntKind.signed, IntKind.bits]
theorem byteEs_take {s : List UInt8} {i : Nat} : (byteEs s).take i = byteEs (s.take i) := by simp [byteEs, List.map_take]
theorem byteEs_drop {s : List UInt8} {i : Nat} : (byteEs s).drop i = byteEs (s.drop i) := by simp [byteEs, List.map_drop]
theorem byteEs_app {s t : List UInt8} : byteEs s ++ byteEs t = byteEs (s ++ t) := by simp [byteEs]
theorem subCells_f {cs : List AV} {off n : Nat} : subCells cs off n false = cs[off]? := Eq.trans rfl rfl
theorem subCells_t {cs : List AV} {off n : Nat} : subCells cs off n true = if off + n ≤ cs.length then some (.agg ((cs.drop off).take n)) else none := Eq.trans rfl rfl
/-! Guards. -/
def gv (v : AV) (b : Bool) : Option Bool := match v with
  | .bool x => some (x == b)
  | .undef => some false
  | _ => none
def insG (g : Option Bool) (d : Option Nat) (op : AOp) (ρ : Env) (σ : Store) : Option (Env × Store) := match g with
  | some true => (op.run ρ σ).map fun r => (putE ρ d r.1, r.2)
  | some false => some (putE ρ d .undef, σ)
  | none => none
theorem insRun_none {d : Option Nat} {nd : Nd} {op : AOp} : insRun ⟨d, none, nd, op⟩ ρ σ = (op.run ρ σ).map fun r => (putE ρ d r.1, r.2) := rfl
theorem insRun_some {d : Option Nat} {nd : Nd} {b : Bool} {s : Nat} {op : AOp} : insRun ⟨d, some (s, b), nd, op⟩ ρ σ = insG (gv (ρ s) b) d op ρ σ := rfl
theorem guardV_none : guardV ρ none = some true := rfl
theorem guardV_some {s : Nat} {b : Bool} : guardV ρ (some (s, b)) = gv (ρ s) b := rfl
theorem gv_tt : gv (.bool true) true = some true := rfl
theorem gv_tf : gv (.bool true) false = some false := rfl
theorem gv_ft : gv (.bool false) true = some false := rfl
theorem gv_ff : gv (.bool false) false = some true := rfl
theorem gv_undef {b : Bool} : gv .undef b = some false := rfl
theorem insG_t {d : Option Nat} {op : AOp} : insG (some true) d op ρ σ = (op.run ρ σ).map fun r => (putE ρ d r.1, r.2) := rfl
theorem insG_f {d : Option Nat} {op : AOp} : insG (some false) d op ρ σ = some (putE ρ d .undef, σ) := rfl
section
variable {K : Hist → Env → Store → Prop} {K1 : Env → Store → Prop} {H : Hist} {d : Option Nat} {op : AOp} {nd : Nd} {b x m : Bool} {P : Prop} {f : AX} {xs : List AX}
theorem splitG [hd : Decidable P] (h1 : P → contW K1 σ m (insG (gv (.bool true) b) d op ρ σ)) (h2 : ¬ P → contW K1 σ m (insG (gv (.bool false) b) d op ρ σ)) : contW K1 σ m (insG (gv (.bool (@decide P hd)) b) d op ρ σ) := by
  by_cases h : P
  · simpa [h] using h1 h
  · simpa [h] using h2 h
theorem splitGB (h1 : x = true → contW K1 σ m (insG (gv (.bool true) b) d op ρ σ)) (h2 : x = false → contW K1 σ m (insG (gv (.bool false) b) d op ρ σ)) : contW K1 σ m (insG (gv (.bool x) b) d op ρ σ) := by
  cases x
  · exact h2 rfl
  · exact h1 rfl
theorem splitR [hd : Decidable P] (h1 : P → rdW K H d op ρ σ (gv (.bool true) b)) (h2 : ¬ P → rdW K H d op ρ σ (gv (.bool false) b)) : rdW K H d op ρ σ (gv (.bool (@decide P hd)) b) := by
  by_cases h : P
  · simpa [h] using h1 h
  · simpa [h] using h2 h
theorem splitRB (h1 : x = true → rdW K H d op ρ σ (gv (.bool true) b)) (h2 : x = false → rdW K H d op ρ σ (gv (.bool false) b)) : rdW K H d op ρ σ (gv (.bool x) b) := by
  cases x
  · exact h2 rfl
  · exact h1 rfl
theorem splitE [hd : Decidable P] (h1 : P → efW K H d op ρ σ (gv (.bool true) b)) (h2 : ¬ P → efW K H d op ρ σ (gv (.bool false) b)) : efW K H d op ρ σ (gv (.bool (@decide P hd)) b) := by
  by_cases h : P
  · simpa [h] using h1 h
  · simpa [h] using h2 h
theorem splitEB (h1 : x = true → efW K H d op ρ σ (gv (.bool true) b)) (h2 : x = false → efW K H d op ρ σ (gv (.bool false) b)) : efW K H d op ρ σ (gv (.bool x) b) := by
  cases x
  · exact h2 rfl
  · exact h1 rfl
theorem splitC [hd : Decidable P] (h1 : P → callG C K H ρ σ d nd f xs (gv (.bool true) b)) (h2 : ¬ P → callG C K H ρ σ d nd f xs (gv (.bool false) b)) : callG C K H ρ σ d nd f xs (gv (.bool (@decide P hd)) b) := by
  by_cases h : P
  · simpa [h] using h1 h
  · simpa [h] using h2 h
theorem splitCB (h1 : x = true → callG C K H ρ σ d nd f xs (gv (.bool true) b)) (h2 : x = false → callG C K H ρ σ d nd f xs (gv (.bool false) b)) : callG C K H ρ σ d nd f xs (gv (.bool x) b) := by
  cases x
  · exact h2 rfl
  · exact h1 rfl
end
end
attribute [go_sem] opsWp_nil opsWp_call contW_f' contW_t' stepW_no stepW_same stepW_rd stepW_ef rdW_t rdW_f efW_t efW_f rdC_s efC_s callG_t' callG_f' needOk_no needOk_same needOk_ef needNext_no needNext_same needNext_ef none_pre none_rds false_or or_imp forall_and forall_eq false_implies implies_true insRun_none insRun_some guardV_none guardV_some gv_tt gv_tf gv_ft gv_ff gv_undef insG_t insG_f AOp.run AX.ev putE upd_b cond_true cond_false initE Option.map_some Option.bind_some Option.map_none rBin rEq strBin eqOp aMin rConv rLoad rStore rMake rSlice rFa rFld rIxArr rIxStr rLenSl rElems
  thenQ blkQ endQ endP retV oks Bool.and_true Bool.true_and RV.val RV.ok Option.getD_some Option.isSome_some List.map_cons List.map_nil List.getD_cons_zero List.getD_cons_succ List.getD_nil if_true if_false ite_true ite_false reduceCtorEq Bool.false_eq_true Bool.true_eq_false beq_true beq_false Bool.not_true Bool.not_false BEq.rfl beq_self_eq_true
  List.nil_append List.cons_append List.append_nil
  oj_mv oj_pick oj_alloc oj_allB oj_appB oj_box oj_build oj_lit oj_load oj_store oj_nilc oj_bin oj_un oj_conv oj_mkfn oj_make oj_slice oj_fa oj_fld oj_iaArr oj_iaSl oj_ixArr oj_ixStr oj_ext oj_lenStr oj_lenSl oj_lenArr oj_app oj_copy oj_clear oj_minmax oj_nil oj_call
  ow_mv ow_pick ow_alloc ow_allB ow_appB aBld appB_n appB_v appB_s appB_bn appB_bs ow_box ow_build ow_lit ow_load ow_store ow_nilc ow_bin ow_un ow_conv ow_mkfn ow_make ow_slice ow_fa ow_fld ow_iaArr ow_iaSl ow_ixArr ow_ixStr ow_ext ow_lenStr ow_lenSl ow_lenArr ow_app ow_copy ow_clear ow_minmax
  getElem?_app getElem?_app0 set_app set_app0
  shr_u8 shl_u8 shr_u16 shl_u16 shr_u32 shl_u32 shr_u64 shl_u64 shr_i64 shl_i64 ib_add ib_sub ib_mul ib_quo ib_rem ib_eql ib_neq ib_lss ib_leq ib_gtr ib_geq ib_and_u8 ib_or_u8 ib_xor_u8 ib_and_u16 ib_or_u16 ib_xor_u16 ib_and_u32 ib_or_u32 ib_xor_u32 ib_and_u64 ib_or_u64 ib_xor_u64 ib_and_i64 ib_or_i64 ib_xor_i64 mask1 mask2 mask3 mask4 mask5 mask6 mask7 mask8 mask12
  cellsOf slElems srcElems bytesOf byteOf1 bytesOf_byteEs aIdxSl aIdxArr bnd aSliceStr aSliceVsl aSliceSl aSliceAsl knownN app_n app_v app_s aBox rCopy rClear List.length_cons List.length_nil Option.bind_none overw1 overw_s overw_z overw_e byteEs_len byteEs_get byteEs_set byteEs_rep byteEs_take byteEs_drop byteEs_app get_u8
  List.getElem?_cons_zero List.getElem?_cons_succ List.set_cons_zero List.set_cons_succ List.drop_zero Nat.add_zero Nat.zero_add
  subCells_f subCells_t List.drop_succ_cons List.take_succ_cons List.take_zero Nat.zero_mul Nat.mul_one true_and and_true eq_self List.take_of_length_le
  w_i64 w_u64 w_u32 w_u16 w_u8 int_beq int_bne not_decide tdiv_pos tmod_pos' if_pos if_neg decide_eq_true decide_eq_false Int.toNat_natCast
attribute [go_sem low] un_xor overw_u
/-- Slots that are kept in mind. -/
def agree (ρ' ρ : Env) : List Nat → Prop
  | [] => True
  | j :: l => ρ' j = ρ j ∧ agree ρ' ρ l
theorem agree_refl (ρ : Env) : ∀ l, agree ρ ρ l
  | [] => trivial
  | _ :: l => ⟨rfl, agree_refl ρ l⟩
theorem SWp.slots {C : Ctx} {n k : Nat} {ac : ACode} {Q : AExit → Env → Store → Prop} {ρ : Env} {σ : Store} (l : List Nat) (h : ∀ ρ', agree ρ' ρ l → SWp C n k ac Q ρ' σ) : SWp C n k ac Q ρ σ := h ρ (agree_refl ρ l)
attribute [go_sem] fill_int fill_str fill_bool fill_ptr fill_nilp fill_nilsl fill_vsl fill_sl fill_asl fill_vp fill_fn fill_nilfn fill_agg fill_nil agree un_not un_neg rdS_s same_pre same_rds
attribute [go_sem high] rd_same ef_same need_same next_same
attribute [go_sem low] wm_u8 wm_u16 wm_u32 wm_u64
end Am
end Go.Proofs.YthgcooppjhcgcaaDoor
end
section
set_option linter.unusedSimpArgs false
set_option linter.unusedVariables false
/- THE ABSTRACT MACHINE, part 27: the store as_ a heap: what is read behind writes; methods told by properties. -/
namespace Go.Proofs.YthgcooppjhcgcaaDoor
namespace Am
section
variable {α : Type} {l m : List α} {r s : Nat} {x : α}
theorem gset_eq (h : r < l.length) : (l.set r x)[r]? = some x := List.getElem?_set_self h
theorem gset_ne (h : r ≠ s) : (l.set r x)[s]? = l[s]? := List.getElem?_set_ne h
theorem gapp (h : r < l.length) : (l ++ m)[r]? = l[r]? := List.getElem?_append_left h
theorem gappr (h : l.length ≤ r) : (l ++ m)[r]? = m[r - l.length]? := List.getElem?_append_right h
theorem sappr (h : l.length ≤ r) : (l ++ m).set r x = l ++ m.set (r - l.length) x := List.set_append_right _ _ h
theorem sapp (h : r < l.length) : (l ++ m).set r x = l.set r x ++ m := List.set_append_left _ _ h
end
/-- What holds at a function's end, with nothing let go. -/
def keepP (ts : List RV) (P : AV → Store → Prop) : AExit → Env → Store → Prop
  | .exit _ => fun _ _ => False
  | _ => fun ρ σ => oks ρ σ ts = true ∧ P (retV ts ρ σ) σ
theorem ACallsP.of_keep {C : Ctx} {f : FuncId} {n : Nat} {ts : List RV} {ac : ACode} (hc : cFn C f = some (n, ts, ac)) {args : List AV} {σ : Store} {P : AV → Store → Prop} (hn : args.length ≤ n)
    (h : SWp C n σ.length ac (keepP ts P) (initE args) σ) : ACallsP C f args σ P := by
  simp only [cFn, Option.bind_eq_some_iff] at hc
  obtain ⟨fn, hf, hc⟩ := hc
  split at hc
  · cases hc
  · rename_i hname
    simp only [Option.bind_eq_some_iff, Option.map_eq_some_iff, Prod.mk.injEq] at hc
    obtain ⟨c, hb, ts', hts, ac', hac, rfl, rfl, rfl⟩ := hc
    intro γ w cargs hR ha
    left
    constructor
    · have hname' : (fn.name == "runtime.NumGoroutine") = false := by simpa using hname
      have h1 : fn.name ≠ "runtime.NumGoroutine" := by simpa using hname'
      simp [callFunc, hf, h1, hb]
    · have hl := ha.length
      refine calls_of_wp hf hb ?_
      have hw := h c hac γ w hR.gl hR.len γ { tmps := cargs.toArray ++ Array.replicate (fn.ntmps - cargs.toArray.size) undef, defers := [] } w (Step.refl _ _) hR
        (initE_ok ha _) (by simp; omega)
      refine wp_mono hw ?_
      rintro e a' w' ⟨ae, ρ', σ2, γ', rfl, hq, q1, q2, q3, q4, q5⟩
      have fin : (oks ρ' σ2 ts' = true ∧ P (retV ts' ρ' σ2) σ2) → a'.defers = [] ∧ ∃ v_1, (results fn a'.tmps).run C.P w' = .ok v_1 w' ∧ ∃ cv v γ' σ', Ending.returned v_1 = .returned cv ∧ P v σ' ∧ Step γ w γ' w' ∧ Rel C γ' σ' w' ∧ VR γ' w' v cv := by
        rintro ⟨hk, hp⟩
        obtain ⟨rv, r1, r2⟩ := run_results_ok q2 q3 hts hk
        exact ⟨q4, _, r1, _, _, γ', σ2, rfl, hp, q1, q2, r2⟩
      cases ae with
      | normal => exact fin hq
      | exit id => exact hq.elim
      | ret => exact fin hq
attribute [go_sem] gset_eq gset_ne gapp keepP keepQ not_true_eq_false not_false_eq_true decide_false decide_true List.set_set List.append_assoc gappr sapp sappr List.length_set Nat.sub_self Nat.add_sub_cancel_left List.length_append List.length_map
end Am
end Go.Proofs.YthgcooppjhcgcaaDoor
end
section
set_option linter.unusedSimpArgs false
set_option linter.unusedVariables false
/- THE ABSTRACT MACHINE, part 28: package-level tables that are laid: what a law's row says of them, as_ the machine's own knowledge. -/
namespace Go.Proofs.YthgcooppjhcgcaaDoor
namespace Am
open Go.ChangeShapes Go.WideShapes Go.ChangeAt Go.RowKit
section
variable {H : Type} {enc : TypeId × Value → H} {P : Program} {w : World}
/-- An array of numbers, by its datum. -/
theorem ints_of_trod {base : Nat} {spare : Nat → Bool} {held : Bool} {fuel : Nat} {t e : TypeId} {n : Nat} {k : IntKind} {cs : List Value} {p : List MemPlace} (ns : List Int)
    (ht : P.underlying t = some (.array n e)) (he : P.underlying e = some (.int k)) (hc : P.cellsOf e = 1) (hct : P.cellsOf t = n)
    (h : DataW.trod enc P w base spare held fuel t cs = some (.agg (ns.map fun i => .lit (.int k i)), p)) : cs = ns.map (Value.int k) := by
  obtain ⟨xs, m, rfl, hx, hl, hn, hel⟩ := DataW.trod_array ht h
  simp only [Prod.mk.injEq, DataW.agg.injEq] at hx
  have hx1 := hx.1
  have hlen : ns.length = n := by
    have := congrArg List.length hx1
    simp only [List.length_map] at this
    omega
  rw [hct] at hl
  refine List.ext_getElem? fun i => ?_
  by_cases hi : i < n
  · have h1 := hel i hi
    rw [hc, Nat.mul_one] at h1
    obtain ⟨x, hxi⟩ : ∃ x, xs[i]? = some x := ⟨xs[i]'(by omega), List.getElem?_eq_getElem (by omega)⟩
    rw [hxi] at h1
    obtain ⟨v, e1, e2, _⟩ := DataW.trod_int he h1
    subst e2
    have h2 := congrArg (fun l => l[i]?) hx1
    simp only [List.getElem?_map, hxi, Option.map_some] at h2
    rw [List.getElem?_map]
    cases hns : ns[i]? with
    | none => rw [hns] at h2; simp at h2
    | some z =>
      rw [hns] at h2
      simp only [Option.map_some, Option.some.injEq, DataW.lit.injEq, Lit.int.injEq, true_and] at h2
      subst h2
      have h3 := congrArg (fun l => l[0]?) e1
      simp only [List.getElem?_take, List.getElem?_drop] at h3
      simpa using h3
  · rw [List.getElem?_eq_none (by omega), List.getElem?_eq_none (by simp; omega)]
theorem seg_of_var {n : String} {g : Nat} {cs : Array Value} (hg : P.globalNamed n = some g) (h : w.var? P n = some cs) : Imm [] w g ∧ Seg w g 0 cs.toList := by
  unfold World.var? at h
  rw [hg, Option.bind_some] at h
  split at h
  · rename_i c ty fz hb
    simp only [Option.some.injEq] at h; subst h
    refine ⟨⟨?_, by simp⟩, c, ty, fz, [], [], hb, by simp, rfl⟩
    rcases Nat.lt_or_ge g w.heap.size with h2 | h2
    · exact h2
    · simp [Array.getElem?_eq_none h2] at hb
  · cases h
def u32C (ns : List Int) : List AV := ns.map (AV.int .u32)
theorem VRs_ints {γ : Places} {k : IntKind} : ∀ (ns : List Int), VRs γ w (ns.map (AV.int k)) (ns.map (Value.int k))
  | [] => VRs.nil
  | _ :: ns => VRs.cons ⟨VR.int, rfl⟩ (VRs_ints ns)
/-- A laid table of numbers, as_ the machine knows it. -/
theorem vp_of_var {n : String} {g : Nat} {t e : TypeId} {m : Nat} {k : IntKind} {g' : Nat} {t' : TypeId} {cs : Array Value} {fuel : Nat} {p : List MemPlace} (ns : List Int)
    (hg : P.globalNamed n = some g) (htg : (P.globals[g]?).map (·.type) = some t) (ht : P.underlying t = some (.array m e)) (he : P.underlying e = some (.int k)) (hc : P.cellsOf e = 1) (hct : P.cellsOf t = m)
    (k1 : P.globalNamed n = some g') (k2 : (P.globals[g']?).map (·.type) = some t') (k3 : w.var? P n = some cs)
    (k4 : DataW.trod enc P w 0 (fun _ => true) false fuel t' cs.toList = some (.agg (ns.map fun i => .lit (.int k i)), p)) : VR [] w (.vp (ns.map (AV.int k))) (.pointer (some ⟨g, 0, none⟩)) := by
  obtain rfl := Option.some.inj (hg.symm.trans k1)
  obtain rfl := Option.some.inj (htg.symm.trans k2)
  obtain ⟨h1, h2⟩ := seg_of_var hg k3
  rw [ints_of_trod ns ht he hc hct k4] at h2
  exact ⟨g, 0, _, rfl, h1, h2, VRs_ints ns⟩
theorem law_contract_at {C : Ctx} {f : FuncId} {fn : Func} {e : Nat × List RV × ACode} (hc : cFn C f = some e) {d : Nat} {tys : List Ty} (htys : tysOf C.P d fn.params.toList = some tys)
    (hlaw : ∀ avs, ShAll tys avs → ACallsTo C f avs [] (.bool true) []) {s : ChangeSpec} (hvars : s.vars = [])
    (hspec : ∀ ds : List (DataW H), ds.length = fn.params.toList.length → (s.fn H ds).results = [.lit (.bool true)] ∧ (s.fn H ds).args = ds ∧ (s.fn H ds).vars = []) {tb : TypeId} (hres : fn.resultTypes = #[tb]) (htb : C.P.underlying tb = some .bool)
    (hl : laidOutB C.P = true) (hpar : (fn.params.toList.all fun t => C.P.readableRec t && decide (t < C.P.types.size)) = true)
    {W : World} (hR : Rel C [] [] W) {base : Nat} {args : Array Value} {ds gs : List (DataW H)} {before : List MemPlace} (hval : ∀ (j : Nat) t v, fn.params[j]? = some t → args[j]? = some v → Value.okWide C.P W .any base t v)
    (hW : DataW.Whole enc C.P fn.params.toList s.vars false W args.toList ds gs before) :
    Calls C.P f args W fun e W' => ∃ v, e = .returned v ∧ s.post enc C.P fn false true false false W args v W' := by
  have hW' := hW
  obtain ⟨p, q, hA, hV, rfl, hfz, hnd⟩ := hW
  obtain ⟨avs, h1, h2⟩ := open_all (r := .any) (b0 := base) htys (fun j t v hj hv => hval j t v (by simpa using hj) (by simpa using hv)) hA
  have hcall := (hlaw avs h2).calls hc hR h1
  have ea : args.toList.toArray = args := by simp
  rw [ea] at hcall
  refine hcall.mono ?_
  rintro x w' ⟨rfl, hb⟩
  refine ⟨_, rfl, law_post hW' hvars (fun gs hgs => ?_) hres htb hl hpar hb⟩
  subst hgs
  rw [List.append_nil]
  exact hspec ds (trodAll_length hA)
end
end Am
end Go.Proofs.YthgcooppjhcgcaaDoor
end
section
set_option linter.unusedSimpArgs false
set_option linter.unusedVariables false
/- The seat's program, for the abstract machine. -/
namespace Go.Proofs.YthgcooppjhcgcaaDoor
namespace Am
def shaFirst : List Int := [1779033703, 3144134277, 1013904242, 2773480762, 1359893119, 2600822924, 528734635, 1541459225]
def shaRounds : List Int := [1116352408, 1899447441, 3049323471, 3921009573, 961987163, 1508970993, 2453635748, 2870763221, 3624381080, 310598401, 607225278, 1426881987, 1925078388, 2162078206, 2614888103, 3248222580, 3835390401, 4022224774, 264347078, 604807628, 770255983, 1249150122, 1555081692, 1996064986, 2554220882, 2821834349, 2952996808, 3210313671, 3336571891, 3584528711, 113926993, 338241895, 666307205, 773529912, 1294757372, 1396182291, 1695183700, 1986661051, 2177026350, 2456956037, 2730485921, 2820302411, 3259730800, 3345764771, 3516065817, 3600352804, 4094571909, 275423344, 430227734, 506948616, 659060556, 883997877, 958139571, 1322822218, 1537002063, 1747873779, 1955562222, 2024104815, 2227730452, 2361852424, 2428436474, 2756734187, 3204031479, 3329325298]
def gl_sha_first : List AV := shaFirst.map (AV.int .u32)
def gl_sha_rounds : List AV := shaRounds.map (AV.int .u32)
noncomputable def TC : Ctx := ⟨Tryd.prog, fun g => if g = 0 then some gl_sha_first else if g = 1 then some gl_sha_rounds else none⟩
theorem rls_ints {k : Nat} {i : IntKind} : ∀ (l : List Int), RLs k (l.map (AV.int i))
  | [] => by simp [RLs]
  | _ :: l => by simp [RLs, RL]; exact rls_ints l
theorem glok : GlOK TC := by
  intro g cs h
  simp only [TC] at h
  split at h
  · cases h; exact rls_ints _
  · split at h
    · cases h; exact rls_ints _
    · cases h
end Am
end Go.Proofs.YthgcooppjhcgcaaDoor
end
section
set_option linter.unusedSimpArgs false
set_option linter.unusedVariables false
/- slices.Backward over hashes: its iterator, walked once. -/
set_option linter.unusedVariables false
namespace Go.Proofs
open Go.RowKit Go.Shelf
attribute [local go_sem] Oper.semAt_some
end Go.Proofs
end
section
set_option linter.unusedSimpArgs false
set_option linter.unusedVariables false
/- A range over slices.Backward of hashes. -/
set_option linter.unusedVariables false
namespace Go.Proofs.YthgcooppjhcgcaaDoor
namespace Am
open Go.RowKit
end Am
end Go.Proofs.YthgcooppjhcgcaaDoor
end
section
set_option linter.unusedSimpArgs false
set_option linter.unusedVariables false
/- The abstract code of the functions on bits. (Printed by wip/gen.) -/
namespace Go.Proofs.YthgcooppjhcgcaaDoor
namespace Am
@[go_sem] def bits_Put_r0 : List AIns := [
  ⟨some 4, none, .no, .mv (.v (.str []))⟩]
@[go_sem] def bits_Put_r1 : List AIns := [
  ⟨some 7, none, .no, .mv (.t 1)⟩,
  ⟨some 8, none, .no, .bin .lss .none (.t 7) (.v (.int .i64 (1)))⟩,
  ⟨some 9, none, .no, .mv (.t 8)⟩,
  ⟨some 10, some (9, false), .no, .mv (.t 1)⟩,
  ⟨some 11, some (9, false), .no, .bin .gtr .none (.t 10) (.v (.int .i64 (8)))⟩,
  ⟨some 12, none, .no, .pick (.t 9) (.v (.bool true)) (.t 11)⟩]
@[go_sem] def bits_Put_r2 : List AIns := [
  ⟨some 4, none, .no, .mv (.v (.str []))⟩]
def bits_Put_c3 : ACode := .seq (.reg bits_Put_r2) .ret
def bits_Put_c4 : ACode := .cond (.t 12) bits_Put_c3 .skip
def bits_Put_c5 : ACode := .seq (.reg bits_Put_r1) bits_Put_c4
@[go_sem] def bits_Put_r6 : List AIns := [
  ⟨some 13, none, .no, .mv (.t 1)⟩,
  ⟨some 14, none, .no, .make 1 [(.int .u8 (0))] (.t 13) (.t 13)⟩,
  ⟨some 5, none, .no, .mv (.t 14)⟩]
@[go_sem] def bits_Put_r7 : List AIns := [
  ⟨some 15, none, .no, .mv (.t 1)⟩,
  ⟨some 16, none, .no, .mv (.v (.int .i64 (0)))⟩]
@[go_sem] def bits_Put_r8 : List AIns := [
  ⟨some 17, none, .no, .bin .lss .none (.t 16) (.t 15)⟩]
@[go_sem] def bits_Put_r9 : List AIns := [
  ⟨some 18, none, .no, .mv (.t 16)⟩,
  ⟨some 6, none, .no, .mv (.t 18)⟩]
@[go_sem] def bits_Put_r10 : List AIns := [
  ⟨some 19, none, .no, .mv (.t 5)⟩,
  ⟨some 20, none, .no, .mv (.t 1)⟩,
  ⟨some 21, none, .no, .bin .sub .none (.t 20) (.v (.int .i64 (1)))⟩,
  ⟨some 22, none, .no, .mv (.t 6)⟩,
  ⟨some 23, none, .no, .bin .sub .none (.t 21) (.t 22)⟩,
  ⟨some 24, none, .no, .mv (.t 0)⟩,
  ⟨some 25, none, .no, .conv (.int .u8) (.t 24)⟩,
  ⟨some 26, none, .no, .iaSl 1 (.t 19) (.t 23)⟩,
  ⟨none, none, .no, .store 1 (.t 26) (.t 25)⟩]
@[go_sem] def bits_Put_r11 : List AIns := [
  ⟨some 27, none, .no, .mv (.t 0)⟩,
  ⟨some 28, none, .no, .bin .shr .none (.t 27) (.v (.int .u64 (8)))⟩,
  ⟨some 0, none, .no, .mv (.t 28)⟩]
def bits_Put_c12 : ACode := .seq (.reg bits_Put_r10) (.reg bits_Put_r11)
def bits_Put_c13 : ACode := .seq (.reg bits_Put_r9) bits_Put_c12
@[go_sem] def bits_Put_r14 : List AIns := [
  ⟨some 29, none, .no, .bin .add .none (.t 16) (.v (.int .i64 (1)))⟩,
  ⟨some 16, none, .no, .mv (.t 29)⟩]
def bits_Put_c15 : ACode := .seq (.block 1 bits_Put_c13) (.reg bits_Put_r14)
def bits_Put_c16 : ACode := .seq (.cond (.t 17) .skip (.exit 0)) bits_Put_c15
def bits_Put_c17 : ACode := .seq (.reg bits_Put_r8) bits_Put_c16
def bits_Put_c18 : ACode := .loop bits_Put_c17
def bits_Put_c19 : ACode := .block 0 bits_Put_c18
def bits_Put_c20 : ACode := .seq (.reg bits_Put_r7) bits_Put_c19
@[go_sem] def bits_Put_r21 : List AIns := [
  ⟨some 30, none, .no, .mv (.t 5)⟩,
  ⟨some 31, none, .no, .conv .str (.t 30)⟩,
  ⟨some 4, none, .no, .mv (.t 31)⟩]
def bits_Put_c22 : ACode := .seq (.reg bits_Put_r21) .ret
def bits_Put_c23 : ACode := .seq bits_Put_c20 bits_Put_c22
def bits_Put_c24 : ACode := .seq (.reg bits_Put_r6) bits_Put_c23
def bits_Put_c25 : ACode := .seq bits_Put_c5 bits_Put_c24
def bits_Put_c26 : ACode := .seq (.reg bits_Put_r0) bits_Put_c25
theorem bits_Put_ok : cFn TC 127 = some (32, [.t 4], bits_Put_c26) := by kernel_rfl

@[go_sem] def speculumref01_Put_r0 : List AIns := [
  ⟨some 4, none, .no, .mv (.v (.str []))⟩]
@[go_sem] def speculumref01_Put_r1 : List AIns := [
  ⟨some 5, none, .no, .mv (.v (.str []))⟩]
@[go_sem] def speculumref01_Put_r2 : List AIns := [
  ⟨some 6, none, .no, .mv (.v (.int .i64 (0)))⟩]
@[go_sem] def speculumref01_Put_r3 : List AIns := [
  ⟨some 7, none, .no, .mv (.t 6)⟩,
  ⟨some 8, none, .no, .mv (.t 1)⟩,
  ⟨some 9, none, .no, .bin .lss .none (.t 7) (.t 8)⟩,
  ⟨some 10, none, .no, .mv (.t 9)⟩,
  ⟨some 11, some (10, true), .no, .mv (.t 1)⟩,
  ⟨some 12, some (10, true), .no, .bin .lss .none (.t 11) (.v (.int .i64 (9)))⟩,
  ⟨some 13, none, .no, .pick (.t 10) (.t 12) (.v (.bool false))⟩]
def speculumref01_Put_c4 : ACode := .cond (.t 13) .skip (.exit 0)
def speculumref01_Put_c5 : ACode := .seq (.reg speculumref01_Put_r3) speculumref01_Put_c4
@[go_sem] def speculumref01_Put_r6 : List AIns := [
  ⟨some 16, none, .no, .mv (.t 0)⟩,
  ⟨some 17, none, .no, .bin .rem .none (.t 16) (.v (.int .u64 (256)))⟩,
  ⟨some 18, none, .no, .conv (.int .u8) (.t 17)⟩,
  ⟨some 19, none, .no, .lit 1 [(.t 18)]⟩,
  ⟨some 20, none, .no, .conv .str (.t 19)⟩,
  ⟨some 21, none, .no, .mv (.t 5)⟩,
  ⟨some 22, none, .no, .bin .add .none (.t 20) (.t 21)⟩,
  ⟨some 5, none, .no, .mv (.t 22)⟩]
@[go_sem] def speculumref01_Put_r7 : List AIns := [
  ⟨some 23, none, .no, .mv (.t 0)⟩,
  ⟨some 24, none, .no, .bin .quo .none (.t 23) (.v (.int .u64 (256)))⟩,
  ⟨some 0, none, .no, .mv (.t 24)⟩]
def speculumref01_Put_c8 : ACode := .seq (.reg speculumref01_Put_r6) (.reg speculumref01_Put_r7)
@[go_sem] def speculumref01_Put_r9 : List AIns := [
  ⟨some 14, none, .no, .mv (.t 6)⟩,
  ⟨some 15, none, .no, .bin .add .none (.t 14) (.v (.int .i64 (1)))⟩,
  ⟨some 6, none, .no, .mv (.t 15)⟩]
def speculumref01_Put_c10 : ACode := .seq (.block 1 speculumref01_Put_c8) (.reg speculumref01_Put_r9)
def speculumref01_Put_c11 : ACode := .seq speculumref01_Put_c5 speculumref01_Put_c10
def speculumref01_Put_c12 : ACode := .loop speculumref01_Put_c11
def speculumref01_Put_c13 : ACode := .block 0 speculumref01_Put_c12
def speculumref01_Put_c14 : ACode := .seq (.reg speculumref01_Put_r2) speculumref01_Put_c13
@[go_sem] def speculumref01_Put_r15 : List AIns := [
  ⟨some 25, none, .no, .mv (.t 5)⟩,
  ⟨some 4, none, .no, .mv (.t 25)⟩]
def speculumref01_Put_c16 : ACode := .seq (.reg speculumref01_Put_r15) .ret
def speculumref01_Put_c17 : ACode := .seq speculumref01_Put_c14 speculumref01_Put_c16
def speculumref01_Put_c18 : ACode := .seq (.reg speculumref01_Put_r1) speculumref01_Put_c17
def speculumref01_Put_c19 : ACode := .seq (.reg speculumref01_Put_r0) speculumref01_Put_c18
theorem speculumref01_Put_ok : cFn TC 128 = some (26, [.t 4], speculumref01_Put_c19) := by kernel_rfl

@[go_sem] def bits_Right_r0 : List AIns := [
  ⟨some 4, none, .no, .mv (.v (.int .u32 (0)))⟩]
@[go_sem] def bits_Right_r1 : List AIns := [
  ⟨some 5, none, .no, .mv (.t 0)⟩,
  ⟨some 6, none, .no, .mv (.t 1)⟩,
  ⟨some 7, none, .no, .bin .rem .none (.t 6) (.v (.int .i64 (32)))⟩,
  ⟨some 8, none, .no, .un .neg (.t 7)⟩,
  ⟨some 9, none, .no, .call (.v (.fn 178 [])) [(.t 5), (.t 8)]⟩,
  ⟨some 4, none, .no, .mv (.t 9)⟩]
def bits_Right_c2 : ACode := .seq (.reg bits_Right_r1) .ret
def bits_Right_c3 : ACode := .seq (.reg bits_Right_r0) bits_Right_c2
theorem bits_Right_ok : cFn TC 171 = some (10, [.t 4], bits_Right_c3) := by kernel_rfl

@[go_sem] def bits_Bit_r0 : List AIns := [
  ⟨some 4, none, .no, .mv (.v (.int .i64 (0)))⟩]
@[go_sem] def bits_Bit_r1 : List AIns := [
  ⟨some 5, none, .no, .mv (.t 1)⟩,
  ⟨some 6, none, .no, .bin .lss .none (.t 5) (.v (.int .i64 (0)))⟩,
  ⟨some 7, none, .no, .mv (.t 6)⟩,
  ⟨some 8, some (7, false), .no, .mv (.t 1)⟩,
  ⟨some 9, some (7, false), .no, .bin .quo .none (.t 8) (.v (.int .i64 (8)))⟩,
  ⟨some 10, some (7, false), .no, .mv (.t 0)⟩,
  ⟨some 11, some (7, false), .no, .lenStr (.t 10)⟩,
  ⟨some 12, some (7, false), .no, .bin .geq .none (.t 9) (.t 11)⟩,
  ⟨some 13, none, .no, .pick (.t 7) (.v (.bool true)) (.t 12)⟩]
@[go_sem] def bits_Bit_r2 : List AIns := [
  ⟨some 4, none, .no, .mv (.v (.int .i64 (0)))⟩]
def bits_Bit_c3 : ACode := .seq (.reg bits_Bit_r2) .ret
def bits_Bit_c4 : ACode := .cond (.t 13) bits_Bit_c3 .skip
def bits_Bit_c5 : ACode := .seq (.reg bits_Bit_r1) bits_Bit_c4
@[go_sem] def bits_Bit_r6 : List AIns := [
  ⟨some 14, none, .no, .mv (.t 0)⟩,
  ⟨some 15, none, .no, .mv (.t 1)⟩,
  ⟨some 16, none, .no, .bin .quo .none (.t 15) (.v (.int .i64 (8)))⟩,
  ⟨some 17, none, .no, .ixStr (.t 14) (.t 16)⟩,
  ⟨some 18, none, .no, .mv (.t 1)⟩,
  ⟨some 19, none, .no, .bin .rem .none (.t 18) (.v (.int .i64 (8)))⟩,
  ⟨some 20, none, .no, .bin .sub .none (.v (.int .i64 (7))) (.t 19)⟩,
  ⟨some 21, none, .no, .bin .shr .none (.t 17) (.t 20)⟩,
  ⟨some 22, none, .no, .bin .and .none (.t 21) (.v (.int .u8 (1)))⟩,
  ⟨some 23, none, .no, .conv (.int .i64) (.t 22)⟩,
  ⟨some 4, none, .no, .mv (.t 23)⟩]
def bits_Bit_c7 : ACode := .seq (.reg bits_Bit_r6) .ret
def bits_Bit_c8 : ACode := .seq bits_Bit_c5 bits_Bit_c7
def bits_Bit_c9 : ACode := .seq (.reg bits_Bit_r0) bits_Bit_c8
theorem bits_Bit_ok : cFn TC 159 = some (24, [.t 4], bits_Bit_c9) := by kernel_rfl

@[go_sem] def speculumref01_Bit_r0 : List AIns := [
  ⟨some 4, none, .no, .mv (.v (.int .i64 (0)))⟩]
@[go_sem] def speculumref01_Bit_r1 : List AIns := [
  ⟨some 7, none, .no, .mv (.t 1)⟩,
  ⟨some 8, none, .no, .bin .lss .none (.t 7) (.v (.int .i64 (0)))⟩,
  ⟨some 9, none, .no, .mv (.t 8)⟩,
  ⟨some 10, some (9, false), .no, .mv (.t 1)⟩,
  ⟨some 11, some (9, false), .no, .bin .quo .none (.t 10) (.v (.int .i64 (8)))⟩,
  ⟨some 12, some (9, false), .no, .mv (.t 0)⟩,
  ⟨some 13, some (9, false), .no, .lenStr (.t 12)⟩,
  ⟨some 14, some (9, false), .no, .bin .geq .none (.t 11) (.t 13)⟩,
  ⟨some 15, none, .no, .pick (.t 9) (.v (.bool true)) (.t 14)⟩]
@[go_sem] def speculumref01_Bit_r2 : List AIns := [
  ⟨some 4, none, .no, .mv (.v (.int .i64 (0)))⟩]
def speculumref01_Bit_c3 : ACode := .seq (.reg speculumref01_Bit_r2) .ret
def speculumref01_Bit_c4 : ACode := .cond (.t 15) speculumref01_Bit_c3 .skip
def speculumref01_Bit_c5 : ACode := .seq (.reg speculumref01_Bit_r1) speculumref01_Bit_c4
@[go_sem] def speculumref01_Bit_r6 : List AIns := [
  ⟨some 16, none, .no, .mv (.t 0)⟩,
  ⟨some 17, none, .no, .mv (.t 1)⟩,
  ⟨some 18, none, .no, .bin .quo .none (.t 17) (.v (.int .i64 (8)))⟩,
  ⟨some 19, none, .no, .ixStr (.t 16) (.t 18)⟩,
  ⟨some 5, none, .no, .mv (.t 19)⟩]
@[go_sem] def speculumref01_Bit_r7 : List AIns := [
  ⟨some 20, none, .no, .mv (.t 1)⟩,
  ⟨some 21, none, .no, .bin .rem .none (.t 20) (.v (.int .i64 (8)))⟩,
  ⟨some 6, none, .no, .mv (.t 21)⟩]
@[go_sem] def speculumref01_Bit_r8 : List AIns := [
  ⟨some 22, none, .no, .mv (.t 6)⟩,
  ⟨some 23, none, .no, .bin .lss .none (.t 22) (.v (.int .i64 (7)))⟩]
def speculumref01_Bit_c9 : ACode := .cond (.t 23) .skip (.exit 0)
def speculumref01_Bit_c10 : ACode := .seq (.reg speculumref01_Bit_r8) speculumref01_Bit_c9
@[go_sem] def speculumref01_Bit_r11 : List AIns := [
  ⟨some 26, none, .no, .mv (.t 5)⟩,
  ⟨some 27, none, .no, .bin .quo .none (.t 26) (.v (.int .u8 (2)))⟩,
  ⟨some 5, none, .no, .mv (.t 27)⟩]
@[go_sem] def speculumref01_Bit_r12 : List AIns := [
  ⟨some 24, none, .no, .mv (.t 6)⟩,
  ⟨some 25, none, .no, .bin .add .none (.t 24) (.v (.int .i64 (1)))⟩,
  ⟨some 6, none, .no, .mv (.t 25)⟩]
def speculumref01_Bit_c13 : ACode := .seq (.block 1 (.reg speculumref01_Bit_r11)) (.reg speculumref01_Bit_r12)
def speculumref01_Bit_c14 : ACode := .seq speculumref01_Bit_c10 speculumref01_Bit_c13
def speculumref01_Bit_c15 : ACode := .loop speculumref01_Bit_c14
def speculumref01_Bit_c16 : ACode := .block 0 speculumref01_Bit_c15
def speculumref01_Bit_c17 : ACode := .seq (.reg speculumref01_Bit_r7) speculumref01_Bit_c16
@[go_sem] def speculumref01_Bit_r18 : List AIns := [
  ⟨some 28, none, .no, .mv (.t 5)⟩,
  ⟨some 29, none, .no, .bin .rem .none (.t 28) (.v (.int .u8 (2)))⟩,
  ⟨some 30, none, .no, .conv (.int .i64) (.t 29)⟩,
  ⟨some 4, none, .no, .mv (.t 30)⟩]
def speculumref01_Bit_c19 : ACode := .seq (.reg speculumref01_Bit_r18) .ret
def speculumref01_Bit_c20 : ACode := .seq speculumref01_Bit_c17 speculumref01_Bit_c19
def speculumref01_Bit_c21 : ACode := .seq (.reg speculumref01_Bit_r6) speculumref01_Bit_c20
def speculumref01_Bit_c22 : ACode := .seq speculumref01_Bit_c5 speculumref01_Bit_c21
def speculumref01_Bit_c23 : ACode := .seq (.reg speculumref01_Bit_r0) speculumref01_Bit_c22
theorem speculumref01_Bit_ok : cFn TC 160 = some (31, [.t 4], speculumref01_Bit_c23) := by kernel_rfl

@[go_sem] def bits_Get_r0 : List AIns := [
  ⟨some 2, none, .no, .mv (.v (.int .u64 (0)))⟩]
@[go_sem] def bits_Get_r1 : List AIns := [
  ⟨some 3, none, .no, .mv (.v (.int .u64 (0)))⟩]
@[go_sem] def bits_Get_r2 : List AIns := [
  ⟨some 5, none, .no, .mv (.t 0)⟩,
  ⟨some 6, none, .no, .lenStr (.t 5)⟩,
  ⟨some 7, none, .no, .minmax false (.t 6) (.v (.int .i64 (8)))⟩,
  ⟨some 8, none, .no, .mv (.v (.int .i64 (0)))⟩]
@[go_sem] def bits_Get_r3 : List AIns := [
  ⟨some 9, none, .no, .bin .lss .none (.t 8) (.t 7)⟩]
@[go_sem] def bits_Get_r4 : List AIns := [
  ⟨some 10, none, .no, .mv (.t 8)⟩,
  ⟨some 4, none, .no, .mv (.t 10)⟩]
@[go_sem] def bits_Get_r5 : List AIns := [
  ⟨some 11, none, .no, .mv (.t 3)⟩,
  ⟨some 12, none, .no, .bin .shl .none (.t 11) (.v (.int .u64 (8)))⟩,
  ⟨some 13, none, .no, .mv (.t 0)⟩,
  ⟨some 14, none, .no, .mv (.t 4)⟩,
  ⟨some 15, none, .no, .ixStr (.t 13) (.t 14)⟩,
  ⟨some 16, none, .no, .conv (.int .u64) (.t 15)⟩,
  ⟨some 17, none, .no, .bin .add .none (.t 12) (.t 16)⟩,
  ⟨some 3, none, .no, .mv (.t 17)⟩]
def bits_Get_c6 : ACode := .seq (.reg bits_Get_r4) (.reg bits_Get_r5)
@[go_sem] def bits_Get_r7 : List AIns := [
  ⟨some 18, none, .no, .bin .add .none (.t 8) (.v (.int .i64 (1)))⟩,
  ⟨some 8, none, .no, .mv (.t 18)⟩]
def bits_Get_c8 : ACode := .seq (.block 1 bits_Get_c6) (.reg bits_Get_r7)
def bits_Get_c9 : ACode := .seq (.cond (.t 9) .skip (.exit 0)) bits_Get_c8
def bits_Get_c10 : ACode := .seq (.reg bits_Get_r3) bits_Get_c9
def bits_Get_c11 : ACode := .loop bits_Get_c10
def bits_Get_c12 : ACode := .block 0 bits_Get_c11
def bits_Get_c13 : ACode := .seq (.reg bits_Get_r2) bits_Get_c12
@[go_sem] def bits_Get_r14 : List AIns := [
  ⟨some 19, none, .no, .mv (.t 3)⟩,
  ⟨some 2, none, .no, .mv (.t 19)⟩]
def bits_Get_c15 : ACode := .seq (.reg bits_Get_r14) .ret
def bits_Get_c16 : ACode := .seq bits_Get_c13 bits_Get_c15
def bits_Get_c17 : ACode := .seq (.reg bits_Get_r1) bits_Get_c16
def bits_Get_c18 : ACode := .seq (.reg bits_Get_r0) bits_Get_c17
theorem bits_Get_ok : cFn TC 177 = some (20, [.t 2], bits_Get_c18) := by kernel_rfl

@[go_sem] def bits_RotateLeft32_r0 : List AIns := [
  ⟨some 4, none, .no, .mv (.v (.int .u32 (0)))⟩]
@[go_sem] def bits_RotateLeft32_r1 : List AIns := [
  ⟨some 6, none, .no, .mv (.t 1)⟩,
  ⟨some 7, none, .no, .conv (.int .u64) (.t 6)⟩,
  ⟨some 8, none, .no, .bin .and .none (.t 7) (.v (.int .u64 (31)))⟩,
  ⟨some 5, none, .no, .mv (.t 8)⟩]
@[go_sem] def bits_RotateLeft32_r2 : List AIns := [
  ⟨some 9, none, .no, .mv (.t 0)⟩,
  ⟨some 10, none, .no, .mv (.t 5)⟩,
  ⟨some 11, none, .no, .bin .shl .none (.t 9) (.t 10)⟩,
  ⟨some 12, none, .no, .mv (.t 0)⟩,
  ⟨some 13, none, .no, .mv (.t 5)⟩,
  ⟨some 14, none, .no, .bin .sub .none (.v (.int .u64 (32))) (.t 13)⟩,
  ⟨some 15, none, .no, .bin .shr .none (.t 12) (.t 14)⟩,
  ⟨some 16, none, .no, .bin .or .none (.t 11) (.t 15)⟩,
  ⟨some 4, none, .no, .mv (.t 16)⟩]
def bits_RotateLeft32_c3 : ACode := .seq (.reg bits_RotateLeft32_r2) .ret
def bits_RotateLeft32_c4 : ACode := .seq (.reg bits_RotateLeft32_r1) bits_RotateLeft32_c3
def bits_RotateLeft32_c5 : ACode := .seq (.reg bits_RotateLeft32_r0) bits_RotateLeft32_c4
theorem bits_RotateLeft32_ok : cFn TC 178 = some (17, [.t 4], bits_RotateLeft32_c5) := by kernel_rfl

end Am
end Go.Proofs.YthgcooppjhcgcaaDoor
end
section
set_option linter.unusedSimpArgs false
set_option linter.unusedVariables false
/- Functions on bits: what runs on given values. -/
namespace Go.Proofs.YthgcooppjhcgcaaDoor
namespace Am
end Am
end Go.Proofs.YthgcooppjhcgcaaDoor
end
section
set_option linter.unusedSimpArgs false
set_option linter.unusedVariables false
/- Functions on bits: contracts. -/
set_option linter.unusedSimpArgs false
namespace Go.Proofs.YthgcooppjhcgcaaDoor
namespace Am

theorem and31 (k : Int) : IntKind.u64.wrap ((BitVec.ofInt IntKind.u64.bits (IntKind.u64.wrap k) &&& BitVec.ofInt IntKind.u64.bits 31).toNat : Int) = ((k % 32).toNat : Int) := by
  rw [u_nat (by rfl), BitVec.toNat_and]
  have h1 : (BitVec.ofInt IntKind.u64.bits 31).toNat = 2 ^ 5 - 1 := by decide
  have h2 : ((BitVec.ofInt IntKind.u64.bits (IntKind.u64.wrap k)).toNat : Int) = k % 18446744073709551616 := by
    rw [BitVec.toNat_ofInt, wrap_u (by rfl)]
    simp only [IntKind.bits]
    omega
  rw [h1, Nat.and_two_pow_sub_one_eq_mod]
  omega
theorem u32_nat (x : BitVec 32) : IntKind.u32.wrap (x.toNat : Int) = x.toNat := u_nat (k := .u32) (by rfl) x
theorem rot_or (x : BitVec 32) (s : Nat) (hs : s < 32) :
    IntKind.u32.wrap ((BitVec.ofInt 32 (IntKind.u32.wrap ((x.toNat : Int) * 2 ^ min s 32)) ||| BitVec.ofInt 32 ((x.toNat : Int).fdiv (2 ^ min (32 - s) 32))).toNat : Int) = ((x.rotateLeft s).toNat : Int) := by
  rw [u32_nat]
  have h1 : BitVec.ofInt 32 (IntKind.u32.wrap ((x.toNat : Int) * 2 ^ min s 32)) = x <<< s := by
    apply BitVec.eq_of_toNat_eq
    rw [BitVec.toNat_ofInt, wrap_u (by rfl), Nat.min_eq_left (by omega), BitVec.toNat_shiftLeft, Nat.shiftLeft_eq]
    simp only [IntKind.bits]
    have : ((x.toNat : Int) * 2 ^ s) = ((x.toNat * 2 ^ s : Nat) : Int) := by simp
    rw [this]
    omega
  have h2 : BitVec.ofInt 32 ((x.toNat : Int).fdiv (2 ^ min (32 - s) 32)) = x >>> (32 - s) := by
    apply BitVec.eq_of_toNat_eq
    have hx := x.isLt
    rw [BitVec.toNat_ofInt, Nat.min_eq_left (by omega), BitVec.toNat_ushiftRight, Nat.shiftRight_eq_div_pow, Int.fdiv_eq_ediv_of_nonneg _ (by exact_mod_cast Nat.zero_le _)]
    have : ((x.toNat : Int) / 2 ^ (32 - s)) = ((x.toNat / 2 ^ (32 - s) : Nat) : Int) := by simp
    rw [this]
    have h3 : x.toNat / 2 ^ (32 - s) ≤ x.toNat := Nat.div_le_self _ _
    generalize x.toNat / 2 ^ (32 - s) = y at *
    omega
  rw [h1, h2, BitVec.rotateLeft_def]
  simp only [Nat.mod_eq_of_lt hs]
theorem bits_RotateLeft32_to (σ : Store) (x : BitVec 32) (k : Int) : ACallsTo TC 178 [.int .u32 x.toNat, .int .i64 k] σ (.int .u32 (x.rotateLeft (k % 32).toNat).toNat) σ := by
  refine ACallsTo.of_body bits_RotateLeft32_ok (by simp) fun hw _ => ?_
  have hs : (k % 32).toNat < 32 := by omega
  generalize hk : (k % 32).toNat = s at *
  have h31 := and31 k
  rw [hk] at h31
  have e1 : ¬ ((s : Int) < 0) := by omega
  have e2 : IntKind.u64.wrap (32 - (s : Int)) = ((32 - s : Nat) : Int) := by
    rw [wrap_u (by rfl)]; simp only [IntKind.bits]; omega
  have e3 : ¬ (((32 - s : Nat) : Int) < 0) := by omega
  unfold bits_RotateLeft32_c5
  refine SWp.seqReg ?_
  simp only [bits_RotateLeft32_r0, opsWp_nil, opsWp_call, contW_f', contW_t', stepW_no, stepW_same, callG_t', callG_f', insRun, guardV, AOp.run, AX.ev, putE, upd, initE, Option.map_some, Option.bind_some, Option.map_none, rBin, rEq, intBin, shBin, strBin, eqOp, aUn, aMin, rConv, rLoad, rStore, rMake, rSlice, rFa, rFld, rIxArr, rIxStr, rLenSl, rElems, rFill, thenQ, blkQ, endQ, retV, oks, RV.ok, RV.val, Bool.and_true, Bool.true_and, List.map_cons, List.map_nil, List.getD_cons_zero, List.getD_cons_succ, List.getD_nil, if_true, if_false, ite_true, ite_false, reduceCtorEq, Nat.reduceEqDiff, Nat.reduceAdd, Bool.false_eq_true, Bool.true_eq_false, beq_true, beq_false, Bool.not_true, Bool.not_false, BEq.rfl, beq_self_eq_true, List.nil_append, List.cons_append, List.append_nil, ow_mv, ow_pick, ow_alloc, ow_box, ow_build, ow_lit, ow_load, ow_store, ow_nilc, ow_bin, ow_un, ow_conv, ow_mkfn, ow_make, ow_slice, ow_fa, ow_fld, ow_iaArr, ow_iaSl, ow_ixArr, ow_ixStr, ow_ext, ow_lenStr, ow_lenSl, ow_lenArr, ow_app, ow_copy, ow_clear, ow_minmax, getElem?_app, getElem?_app0, set_app, set_app0]
  unfold bits_RotateLeft32_c4
  refine SWp.seqReg ?_
  simp only [bits_RotateLeft32_r1, opsWp_nil, opsWp_call, contW_f', contW_t', stepW_no, stepW_same, callG_t', callG_f', insRun, guardV, AOp.run, AX.ev, putE, upd, initE, Option.map_some, Option.bind_some, Option.map_none, rBin, rEq, intBin, shBin, strBin, eqOp, aUn, aMin, rConv, rLoad, rStore, rMake, rSlice, rFa, rFld, rIxArr, rIxStr, rLenSl, rElems, rFill, thenQ, blkQ, endQ, retV, oks, RV.ok, RV.val, Bool.and_true, Bool.true_and, List.map_cons, List.map_nil, List.getD_cons_zero, List.getD_cons_succ, List.getD_nil, if_true, if_false, ite_true, ite_false, reduceCtorEq, Nat.reduceEqDiff, Nat.reduceAdd, Bool.false_eq_true, Bool.true_eq_false, beq_true, beq_false, Bool.not_true, Bool.not_false, BEq.rfl, beq_self_eq_true, List.nil_append, List.cons_append, List.append_nil, ow_mv, ow_pick, ow_alloc, ow_box, ow_build, ow_lit, ow_load, ow_store, ow_nilc, ow_bin, ow_un, ow_conv, ow_mkfn, ow_make, ow_slice, ow_fa, ow_fld, ow_iaArr, ow_iaSl, ow_ixArr, ow_ixStr, ow_ext, ow_lenStr, ow_lenSl, ow_lenArr, ow_app, ow_copy, ow_clear, ow_minmax, getElem?_app, getElem?_app0, set_app, set_app0]
  unfold bits_RotateLeft32_c3
  refine SWp.seqReg ?_
  simp only [bits_RotateLeft32_r2, h31, e1, e2, e3, Int.toNat_natCast, opsWp_nil, opsWp_call, contW_f', contW_t', stepW_no, stepW_same, callG_t', callG_f', insRun, guardV, AOp.run, AX.ev, putE, upd, initE, Option.map_some, Option.bind_some, Option.map_none, rBin, rEq, intBin, shBin, strBin, eqOp, aUn, aMin, rConv, rLoad, rStore, rMake, rSlice, rFa, rFld, rIxArr, rIxStr, rLenSl, rElems, rFill, thenQ, blkQ, endQ, retV, oks, RV.ok, RV.val, Bool.and_true, Bool.true_and, List.map_cons, List.map_nil, List.getD_cons_zero, List.getD_cons_succ, List.getD_nil, if_true, if_false, ite_true, ite_false, reduceCtorEq, Nat.reduceEqDiff, Nat.reduceAdd, Bool.false_eq_true, Bool.true_eq_false, beq_true, beq_false, Bool.not_true, Bool.not_false, BEq.rfl, beq_self_eq_true, List.nil_append, List.cons_append, List.append_nil, ow_mv, ow_pick, ow_alloc, ow_box, ow_build, ow_lit, ow_load, ow_store, ow_nilc, ow_bin, ow_un, ow_conv, ow_mkfn, ow_make, ow_slice, ow_fa, ow_fld, ow_iaArr, ow_iaSl, ow_ixArr, ow_ixStr, ow_ext, ow_lenStr, ow_lenSl, ow_lenArr, ow_app, ow_copy, ow_clear, ow_minmax, getElem?_app, getElem?_app0, set_app, set_app0]
  refine SWp.ret ?_
  have h := rot_or x s hs
  simp only [IntKind.bits, h, opsWp_nil, opsWp_call, contW_f', contW_t', stepW_no, stepW_same, callG_t', callG_f', insRun, guardV, AOp.run, AX.ev, putE, upd, initE, Option.map_some, Option.bind_some, Option.map_none, rBin, rEq, intBin, shBin, strBin, eqOp, aUn, aMin, rConv, rLoad, rStore, rMake, rSlice, rFa, rFld, rIxArr, rIxStr, rLenSl, rElems, rFill, thenQ, blkQ, endQ, retV, oks, RV.ok, RV.val, Bool.and_true, Bool.true_and, List.map_cons, List.map_nil, List.getD_cons_zero, List.getD_cons_succ, List.getD_nil, if_true, if_false, ite_true, ite_false, reduceCtorEq, Nat.reduceEqDiff, Nat.reduceAdd, Bool.false_eq_true, Bool.true_eq_false, beq_true, beq_false, Bool.not_true, Bool.not_false, BEq.rfl, beq_self_eq_true, List.nil_append, List.cons_append, List.append_nil, ow_mv, ow_pick, ow_alloc, ow_box, ow_build, ow_lit, ow_load, ow_store, ow_nilc, ow_bin, ow_un, ow_conv, ow_mkfn, ow_make, ow_slice, ow_fa, ow_fld, ow_iaArr, ow_iaSl, ow_ixArr, ow_ixStr, ow_ext, ow_lenStr, ow_lenSl, ow_lenArr, ow_app, ow_copy, ow_clear, ow_minmax, getElem?_app, getElem?_app0, set_app, set_app0]
  exact ⟨trivial, (congrArg (fun z => DownV σ.length (.int .u32 z) σ (.int .u32 (x.rotateLeft s).toNat) σ) h).mpr (DownV.same hw (rlB_ok _ rfl))⟩
theorem wrap64 {n : Int} (h1 : -9223372036854775808 ≤ n) (h2 : n < 9223372036854775808) : IntKind.i64.wrap n = n := by
  simp [IntKind.wrap, IntKind.signed, IntKind.bits]
  omega
theorem negtmod (k : Int) : (IntKind.i64.wrap (0 - k.tmod 32)) % 32 = (-k) % 32 := by
  have h : -31 ≤ k.tmod 32 ∧ k.tmod 32 ≤ 31 := by
    rw [Int.tmod_eq_emod]; split <;> simp <;> omega
  rw [wrap64 (by omega) (by omega), Int.tmod_eq_emod]
  split
  · omega
  · simp; omega
theorem bits_Right_to (σ : Store) (x : BitVec 32) (k : Int) : ACallsTo TC 171 [.int .u32 x.toNat, .int .i64 k] σ (.int .u32 (x.rotateLeft ((-k) % 32).toNat).toNat) σ := by
  refine ACallsTo.of_body bits_Right_ok (by simp) fun hw _ => ?_
  refine SWp.seqReg ?_
  simp only [bits_Right_r0, bits_Right_r1, opsWp_nil, opsWp_call, contW_f', contW_t', stepW_no, stepW_same, callG_t', callG_f', insRun, guardV, AOp.run, AX.ev, putE, upd, initE, Option.map_some, Option.bind_some, Option.map_none, rBin, rEq, intBin, shBin, strBin, eqOp, aUn, aMin, rConv, rLoad, rStore, rMake, rSlice, rFa, rFld, rIxArr, rIxStr, rLenSl, rElems, rFill, thenQ, blkQ, endQ, retV, oks, RV.ok, RV.val, Bool.and_true, Bool.true_and, List.map_cons, List.map_nil, List.getD_cons_zero, List.getD_cons_succ, List.getD_nil, if_true, if_false, ite_true, ite_false, reduceCtorEq, Nat.reduceEqDiff, Nat.reduceAdd, Bool.false_eq_true, Bool.true_eq_false, beq_true, beq_false, Bool.not_true, Bool.not_false, BEq.rfl, beq_self_eq_true, List.nil_append, List.cons_append, List.append_nil, ow_mv, ow_pick, ow_alloc, ow_box, ow_build, ow_lit, ow_load, ow_store, ow_nilc, ow_bin, ow_un, ow_conv, ow_mkfn, ow_make, ow_slice, ow_fa, ow_fld, ow_iaArr, ow_iaSl, ow_ixArr, ow_ixStr, ow_ext, ow_lenStr, ow_lenSl, ow_lenArr, ow_app, ow_copy, ow_clear, ow_minmax, getElem?_app, getElem?_app0, set_app, set_app0]
  refine SWp.seqReg ?_
  simp only [bits_Right_r0, bits_Right_r1, show ¬ ((32 : Int) = 0) by decide, opsWp_nil, opsWp_call, contW_f', contW_t', stepW_no, stepW_same, callG_t', callG_f', insRun, guardV, AOp.run, AX.ev, putE, upd, initE, Option.map_some, Option.bind_some, Option.map_none, rBin, rEq, intBin, shBin, strBin, eqOp, aUn, aMin, rConv, rLoad, rStore, rMake, rSlice, rFa, rFld, rIxArr, rIxStr, rLenSl, rElems, rFill, thenQ, blkQ, endQ, retV, oks, RV.ok, RV.val, Bool.and_true, Bool.true_and, List.map_cons, List.map_nil, List.getD_cons_zero, List.getD_cons_succ, List.getD_nil, if_true, if_false, ite_true, ite_false, reduceCtorEq, Nat.reduceEqDiff, Nat.reduceAdd, Bool.false_eq_true, Bool.true_eq_false, beq_true, beq_false, Bool.not_true, Bool.not_false, BEq.rfl, beq_self_eq_true, List.nil_append, List.cons_append, List.append_nil, ow_mv, ow_pick, ow_alloc, ow_box, ow_build, ow_lit, ow_load, ow_store, ow_nilc, ow_bin, ow_un, ow_conv, ow_mkfn, ow_make, ow_slice, ow_fa, ow_fld, ow_iaArr, ow_iaSl, ow_ixArr, ow_ixStr, ow_ext, ow_lenStr, ow_lenSl, ow_lenArr, ow_app, ow_copy, ow_clear, ow_minmax, getElem?_app, getElem?_app0, set_app, set_app0]
  have h := bits_RotateLeft32_to σ x (IntKind.i64.wrap (0 - k.tmod 32))
  rw [negtmod] at h
  refine callW.mk_pure h ?_
  simp only [opsWp_nil, opsWp_call, contW_f', contW_t', stepW_no, stepW_same, callG_t', callG_f', insRun, guardV, AOp.run, AX.ev, putE, upd, initE, Option.map_some, Option.bind_some, Option.map_none, rBin, rEq, intBin, shBin, strBin, eqOp, aUn, aMin, rConv, rLoad, rStore, rMake, rSlice, rFa, rFld, rIxArr, rIxStr, rLenSl, rElems, rFill, thenQ, blkQ, endQ, retV, oks, RV.ok, RV.val, Bool.and_true, Bool.true_and, List.map_cons, List.map_nil, List.getD_cons_zero, List.getD_cons_succ, List.getD_nil, if_true, if_false, ite_true, ite_false, reduceCtorEq, Nat.reduceEqDiff, Nat.reduceAdd, Bool.false_eq_true, Bool.true_eq_false, beq_true, beq_false, Bool.not_true, Bool.not_false, BEq.rfl, beq_self_eq_true, List.nil_append, List.cons_append, List.append_nil, ow_mv, ow_pick, ow_alloc, ow_box, ow_build, ow_lit, ow_load, ow_store, ow_nilc, ow_bin, ow_un, ow_conv, ow_mkfn, ow_make, ow_slice, ow_fa, ow_fld, ow_iaArr, ow_iaSl, ow_ixArr, ow_ixStr, ow_ext, ow_lenStr, ow_lenSl, ow_lenArr, ow_app, ow_copy, ow_clear, ow_minmax, getElem?_app, getElem?_app0, set_app, set_app0]
  refine SWp.ret ?_
  simp only [opsWp_nil, opsWp_call, contW_f', contW_t', stepW_no, stepW_same, callG_t', callG_f', insRun, guardV, AOp.run, AX.ev, putE, upd, initE, Option.map_some, Option.bind_some, Option.map_none, rBin, rEq, intBin, shBin, strBin, eqOp, aUn, aMin, rConv, rLoad, rStore, rMake, rSlice, rFa, rFld, rIxArr, rIxStr, rLenSl, rElems, rFill, thenQ, blkQ, endQ, retV, oks, RV.ok, RV.val, Bool.and_true, Bool.true_and, List.map_cons, List.map_nil, List.getD_cons_zero, List.getD_cons_succ, List.getD_nil, if_true, if_false, ite_true, ite_false, reduceCtorEq, Nat.reduceEqDiff, Nat.reduceAdd, Bool.false_eq_true, Bool.true_eq_false, beq_true, beq_false, Bool.not_true, Bool.not_false, BEq.rfl, beq_self_eq_true, List.nil_append, List.cons_append, List.append_nil, ow_mv, ow_pick, ow_alloc, ow_box, ow_build, ow_lit, ow_load, ow_store, ow_nilc, ow_bin, ow_un, ow_conv, ow_mkfn, ow_make, ow_slice, ow_fa, ow_fld, ow_iaArr, ow_iaSl, ow_ixArr, ow_ixStr, ow_ext, ow_lenStr, ow_lenSl, ow_lenArr, ow_app, ow_copy, ow_clear, ow_minmax, getElem?_app, getElem?_app0, set_app, set_app0]
  exact ⟨trivial, DownV.same hw (rlB_ok _ rfl)⟩
/-- How many of the lowest w bits are 1. -/
def pc : Nat → Nat → Nat
  | 0, _ => 0
  | w + 1, n => n % 2 + pc w (n / 2)
end Am
end Go.Proofs.YthgcooppjhcgcaaDoor
end
section
set_option linter.unusedSimpArgs false
set_option linter.unusedVariables false
/- Functions on bits: the place of the highest bit. -/
set_option linter.unusedSimpArgs false
namespace Go.Proofs.YthgcooppjhcgcaaDoor
namespace Am
end Am
end Go.Proofs.YthgcooppjhcgcaaDoor
end
section
set_option linter.unusedSimpArgs false
set_option linter.unusedVariables false
/- Functions on bits: how long a number is. -/
set_option linter.unusedSimpArgs false
namespace Go.Proofs.YthgcooppjhcgcaaDoor
namespace Am
end Am
end Go.Proofs.YthgcooppjhcgcaaDoor
end
section
set_option linter.unusedSimpArgs false
set_option linter.unusedVariables false
/- Functions on bits: how many are 1: the plain law. -/
namespace Go.Proofs.YthgcooppjhcgcaaDoor
namespace Am
/-- The byte m, n times. -/
def rep (m : Nat) : Nat → Nat
  | 0 => 0
  | n + 1 => 256 * rep m n + m
end Am
end Go.Proofs.YthgcooppjhcgcaaDoor
end
section
set_option linter.unusedSimpArgs false
set_option linter.unusedVariables false
/- Functions on bits: how many are 1. -/
set_option linter.unusedSimpArgs false
namespace Go.Proofs.YthgcooppjhcgcaaDoor
namespace Am
end Am
end Go.Proofs.YthgcooppjhcgcaaDoor
end
section
set_option linter.unusedSimpArgs false
set_option linter.unusedVariables false
/- Functions on bits: the contracts of all, numbers as_ Int. -/
set_option linter.unusedSimpArgs false
namespace Go.Proofs.YthgcooppjhcgcaaDoor
namespace Am
theorem rl_int {k : Nat} {i : IntKind} {n : Int} : RL k (.int i n) := rlB_ok _ rfl
theorem rl_str {k : Nat} {s : List UInt8} : RL k (.str s) := rlB_ok _ rfl
theorem rl_bool {k : Nat} {b : Bool} : RL k (.bool b) := rlB_ok _ rfl
/-- A number's last bytes, the highest first. -/
def be : Nat → Nat → List UInt8
  | 0, _ => []
  | n + 1, x => be n (x / 256) ++ [UInt8.ofNat x]
theorem be_length : ∀ n x, (be n x).length = n
  | 0, _ => rfl
  | n + 1, x => by simp [be, be_length n]
theorem be_cons : ∀ n x, be (n + 1) x = UInt8.ofNat (x / 256 ^ n) :: be n x
  | 0, x => by simp [be]
  | n + 1, x => by
    rw [be, be_cons n (x / 256), Nat.div_div_eq_div_mul, Nat.pow_succ, Nat.mul_comm 256, be]
    rfl
def putS (x n : Int) : List UInt8 := if 1 ≤ n ∧ n ≤ 8 then be n.toNat x.toNat else []
theorem speculumref01_Put_to (σ : Store) (x n : Int) (h : 0 ≤ x ∧ x < 18446744073709551616) (hn : n < 9223372036854775808) : ACallsTo TC 128 [.int .u64 x, .int .i64 n] σ (.str (putS x n)) σ := by
  refine ACallsTo.of_body speculumref01_Put_ok (by simp) fun hw _ => ?_
  repeat' (first | refine SWp.seq ?_ | refine SWp.block ?_ | refine SWp.scope ?_ | refine SWp.condT rfl ?_ | refine SWp.condF rfl ?_ | (refine SWp.condD rfl (fun ht => ?_) (fun ht => ?_) <;> try (exfalso; omega)) | ((first | refine SWp.reg ?_ | refine SWp.skip ?_ | refine SWp.exit ?_ | refine SWp.ret ?_ | ((first | apply splitG | apply splitGB | apply splitR | apply splitRB | apply splitE | apply splitEB | apply splitC | apply splitCB) <;> intro ht)); all_goals try simp (disch := first | omega | (simp only [lens]; first | done | omega)) only [go_sem, Nat.reduceEqDiff, Nat.reduceBEq, Nat.reduceAdd, Nat.reduceMul, Nat.reduceSub, Nat.reduceLeDiff, Int.reduceToNat, Int.reducePow]))
  refine SWp.loop (fun m ρ σ' => σ' = σ ∧ ∃ (i : Nat) (y : Nat), ρ 0 = .int .u64 y ∧ ρ 1 = .int .i64 n ∧ ρ 6 = .int .i64 i ∧ ρ 5 = .str (be i x.toNat) ∧ m + i = 9 ∧ (i : Int) ≤ max n 0 ∧ y = x.toNat / 256 ^ i ∧ (0 < i → n < 9)) 9 ?_ ?_
  · refine ⟨rfl, 0, x.toNat, ?_, ?_, ?_, ?_, by omega, by omega, by simp, by omega⟩ <;> simp (disch := first | omega | (simp only [lens]; first | done | omega)) only [go_sem, Nat.reduceEqDiff, Nat.reduceBEq, Nat.reduceAdd, Nat.reduceMul, Nat.reduceSub, Nat.reduceLeDiff, Int.reduceToNat, Int.reducePow, be]
    · exact int_eq (by omega)
    · rfl
  · rintro m ρ _ ⟨rfl, i, y, q0, q1, q6, q5, hm, hi, hy, h9⟩
    have hl := be_length i x.toNat
    have hy2 : y < 18446744073709551616 := by
      have := Nat.div_le_self x.toNat (256 ^ i)
      omega
    repeat' (first | refine SWp.seq ?_ | refine SWp.block ?_ | refine SWp.scope ?_ | refine SWp.condT rfl ?_ | refine SWp.condF rfl ?_ | (refine SWp.condD rfl (fun ht => ?_) (fun ht => ?_) <;> try (exfalso; omega)) | ((first | refine SWp.reg ?_ | refine SWp.skip ?_ | refine SWp.exit ?_ | refine SWp.ret ?_ | ((first | apply splitG | apply splitGB | apply splitR | apply splitRB | apply splitE | apply splitEB | apply splitC | apply splitCB) <;> intro ht)); all_goals try simp (disch := first | omega | (simp only [lens]; first | done | omega)) only [go_sem, Nat.reduceEqDiff, Nat.reduceBEq, Nat.reduceAdd, Nat.reduceMul, Nat.reduceSub, Nat.reduceLeDiff, Int.reduceToNat, Int.reducePow, q0, q1, q6, q5]))
    · refine ⟨m - 1, by omega, i + 1, y / 256, int_eq (by omega), int_eq (by omega), str_eq ?_, by omega, by omega, ?_, by omega⟩
      · rw [be_cons, ← hy]
        congr 1
        apply UInt8.toNat_inj.1
        simp; omega
      · rw [hy, Nat.div_div_eq_div_mul, Nat.pow_succ]
    · have e : i = 0 := by omega
      subst e
      rw [putS, if_neg (by omega)]
      exact DownV.same hw rl_str
    · by_cases h8 : 1 ≤ n ∧ n ≤ 8
      · have e : i = n.toNat := by omega
        rw [putS, if_pos h8, e]
        exact DownV.same hw rl_str
      · have e : i = 0 := by omega
        subst e
        rw [putS, if_neg h8]
        exact DownV.same hw rl_str
theorem bits_Put_to (σ : Store) (x n : Int) (h : 0 ≤ x ∧ x < 18446744073709551616) (hn : n < 9223372036854775808) : ACallsTo TC 127 [.int .u64 x, .int .i64 n] σ (.str (putS x n)) σ := by
  refine ACallsTo.of_body bits_Put_ok (by simp) fun hw _ => ?_
  repeat' (first | refine SWp.seq ?_ | refine SWp.block ?_ | refine SWp.scope ?_ | refine SWp.condT rfl ?_ | refine SWp.condF rfl ?_ | (refine SWp.condD rfl (fun ht => ?_) (fun ht => ?_) <;> try (exfalso; omega)) | ((first | refine SWp.reg ?_ | refine SWp.skip ?_ | refine SWp.exit ?_ | refine SWp.ret ?_ | ((first | apply splitG | apply splitGB | apply splitR | apply splitRB | apply splitE | apply splitEB | apply splitC | apply splitCB) <;> intro ht)); all_goals try simp (disch := first | omega | (simp only [lens]; first | done | omega)) only [go_sem, Nat.reduceEqDiff, Nat.reduceBEq, Nat.reduceAdd, Nat.reduceMul, Nat.reduceSub, Nat.reduceLeDiff, Int.reduceToNat, Int.reducePow]))
  · rw [putS, if_neg (by omega)]
    exact DownV.same hw rl_str
  · rw [putS, if_neg (by omega)]
    exact DownV.same hw rl_str
  rw [putS, if_pos (by omega)]
  obtain ⟨k, hk⟩ : ∃ k : Nat, n = k := ⟨n.toNat, by omega⟩
  subst hk
  rw [Int.toNat_natCast]
  refine SWp.loop (fun m ρ σ' => ∃ (i : Nat) (y : Nat) (s : List UInt8), σ' = σ ++ [some (byteEs s)] ∧ s.length = k ∧ s.drop (k - i) = be i x.toNat ∧ ρ 0 = .int .u64 y ∧ ρ 1 = .int .i64 k ∧ ρ 15 = .int .i64 k ∧ ρ 5 = .sl σ.length 0 k (some k) 1 ∧ ρ 16 = .int .i64 i ∧ m + i = k ∧ y = x.toNat / 256 ^ i) k ?_ ?_
  · refine ⟨0, x.toNat, List.replicate k 0, ?_, by simp, by simp [be], ?_, ?_, ?_, ?_, ?_, by omega, by simp⟩ <;> try simp (disch := first | omega | (simp only [lens]; first | done | omega)) only [go_sem, Nat.reduceEqDiff, Nat.reduceBEq, Nat.reduceAdd, Nat.reduceMul, Nat.reduceSub, Nat.reduceLeDiff, Int.reduceToNat, Int.reducePow, be]
    · exact int_eq (by omega)
    · exact int_eq (by omega)
  · rintro m ρ _ ⟨i, y, s, rfl, hs, hd, q0, q1, q15, q5, q16, hm, hy⟩
    have hy2 : y < 18446744073709551616 := by
      have := Nat.div_le_self x.toNat (256 ^ i)
      omega
    repeat' (first | refine SWp.seq ?_ | refine SWp.block ?_ | refine SWp.scope ?_ | refine SWp.condT rfl ?_ | refine SWp.condF rfl ?_ | (refine SWp.condD rfl (fun ht => ?_) (fun ht => ?_) <;> try (exfalso; omega)) | ((first | refine SWp.reg ?_ | refine SWp.skip ?_ | refine SWp.exit ?_ | refine SWp.ret ?_ | ((first | apply splitG | apply splitGB | apply splitR | apply splitRB | apply splitE | apply splitEB | apply splitC | apply splitCB) <;> intro ht)); all_goals try simp (disch := first | omega | (simp only [lens]; first | done | omega)) only [go_sem, Nat.reduceEqDiff, Nat.reduceBEq, Nat.reduceAdd, Nat.reduceMul, Nat.reduceSub, Nat.reduceLeDiff, Int.reduceToNat, Int.reducePow, q0, q1, q15, q5, q16]))
    · refine ⟨m - 1, by omega, i + 1, y / 256, _, rfl, by simp [hs], ?_, int_eq (by omega), int_eq (by omega), by omega, ?_⟩
      · rw [be_cons, ← hy, ← hd]
        have e1 : ((k : Int) - 1 - i).toNat = k - (i + 1) := by omega
        have e2 : UInt8.ofNat ((y : Int) % 256).toNat = UInt8.ofNat y := by
          apply UInt8.toNat_inj.1
          simp; omega
        rw [e1, e2, List.drop_set]
        simp only [Nat.lt_irrefl, if_false, Nat.sub_self]
        rw [List.drop_eq_getElem_cons (by omega), List.set_cons_zero, show k - (i + 1) + 1 = k - i by omega]
      · rw [hy, Nat.div_div_eq_div_mul, Nat.pow_succ]
    · have e : i = k := by omega
      subst e
      rw [Nat.sub_self, List.drop_zero] at hd
      rw [← hd]
      exact DownV.pure hw rl_str
end Am
end Go.Proofs.YthgcooppjhcgcaaDoor
end
section
set_option linter.unusedSimpArgs false
set_option linter.unusedVariables false
/- Functions on bits: Get, Bit, Left, Right. -/
set_option linter.unusedSimpArgs false
namespace Go.Proofs.YthgcooppjhcgcaaDoor
namespace Am
/-- The number of bytes, the highest first. -/
def val (s : List UInt8) : Nat := s.foldl (fun n b => 256 * n + b.toNat) 0
theorem val_snoc (s : List UInt8) (b : UInt8) : val (s ++ [b]) = 256 * val s + b.toNat := by simp [val]
theorem take_snoc {α : Type} (s : List α) (i : Nat) (d : α) (h : i < s.length) : s.take (i + 1) = s.take i ++ [s.getD i d] := by
  rw [List.take_add_one, getQ s i d h]; rfl
theorem val_take (s : List UInt8) (i : Nat) (h : i < s.length) : val (s.take (i + 1)) = 256 * val (s.take i) + (s.getD i 0).toNat := by
  rw [take_snoc s i 0 h, val_snoc]
theorem val_lt : ∀ (i : Nat) (s : List UInt8), i ≤ s.length → val (s.take i) < 256 ^ i
  | 0, s, _ => by simp [val]
  | i + 1, s, h => by
    have := val_lt i s (by omega)
    have hb := (s.getD i 0).toNat_lt
    rw [val_take s i (by omega), Nat.pow_succ]
    omega
def getS (s : List UInt8) : Nat := val (s.take 8)
theorem bits_Get_to (σ : Store) (s : List UInt8) (hs : s.length < 9223372036854775808) : ACallsTo TC 177 [.str s] σ (.int .u64 (getS s)) σ := by
  refine ACallsTo.of_body bits_Get_ok (by simp) fun hw _ => ?_
  obtain ⟨k, hk, hk2⟩ : ∃ k : Nat, (k : Int) = (if (8 : Int) < s.length then (8 : Int) else (s.length : Int)) ∧ k = min 8 s.length := ⟨min 8 s.length, by split <;> omega, rfl⟩
  have hgs : getS s = val (s.take k) := by
    rw [hk2, getS]
    by_cases h : 8 ≤ s.length
    · rw [Nat.min_eq_left h]
    · rw [Nat.min_eq_right (by omega), List.take_of_length_le (by omega), List.take_length]
  rw [hgs]
  repeat' (first | refine SWp.seq ?_ | refine SWp.block ?_ | refine SWp.scope ?_ | refine SWp.condT rfl ?_ | refine SWp.condF rfl ?_ | (refine SWp.condD rfl (fun ht => ?_) (fun ht => ?_) <;> try (exfalso; omega)) | ((first | refine SWp.reg ?_ | refine SWp.skip ?_ | refine SWp.exit ?_ | refine SWp.ret ?_ | ((first | apply splitG | apply splitGB | apply splitR | apply splitRB | apply splitE | apply splitEB | apply splitC | apply splitCB) <;> intro ht)); all_goals try simp (disch := first | omega | (simp only [lens]; first | done | omega)) only [go_sem, Nat.reduceEqDiff, Nat.reduceBEq, Nat.reduceAdd, Nat.reduceMul, Nat.reduceSub, Nat.reduceLeDiff, Int.reduceToNat, Int.reducePow, ← hk]))
  refine SWp.loop (fun m ρ σ' => σ' = σ ∧ ∃ (i : Nat), ρ 0 = .str s ∧ ρ 7 = .int .i64 k ∧ ρ 8 = .int .i64 i ∧ ρ 3 = .int .u64 (val (s.take i)) ∧ m + i = k) k ?_ ?_
  · refine ⟨rfl, 0, ?_, ?_, ?_, ?_, by omega⟩ <;> simp (disch := first | omega | (simp only [lens]; first | done | omega)) only [go_sem, Nat.reduceEqDiff, Nat.reduceBEq, Nat.reduceAdd, Nat.reduceMul, Nat.reduceSub, Nat.reduceLeDiff, Int.reduceToNat, Int.reducePow, ← hk] <;> rfl
  · rintro m ρ _ ⟨rfl, i, q0, q7, q8, q3, hm⟩
    have hv := val_lt i s (by omega)
    have hp : i < k → 256 * 256 ^ i ≤ 18446744073709551616 := by
      intro h
      have : 256 ^ (i + 1) ≤ 256 ^ 8 := Nat.pow_le_pow_right (by decide) (by omega)
      rw [Nat.pow_succ] at this
      omega
    have hb := (s.getD i 0).toNat_lt
    repeat' (first | refine SWp.seq ?_ | refine SWp.block ?_ | refine SWp.scope ?_ | refine SWp.condT rfl ?_ | refine SWp.condF rfl ?_ | (refine SWp.condD rfl (fun ht => ?_) (fun ht => ?_) <;> try (exfalso; omega)) | ((first | refine SWp.reg ?_ | refine SWp.skip ?_ | refine SWp.exit ?_ | refine SWp.ret ?_ | ((first | apply splitG | apply splitGB | apply splitR | apply splitRB | apply splitE | apply splitEB | apply splitC | apply splitCB) <;> intro ht)); all_goals try simp (disch := first | omega | (simp only [lens]; first | done | omega)) only [go_sem, Nat.reduceEqDiff, Nat.reduceBEq, Nat.reduceAdd, Nat.reduceMul, Nat.reduceSub, Nat.reduceLeDiff, Int.reduceToNat, Int.reducePow, q0, q7, q8, q3]))
    · have hp' := hp (by omega)
      have hvt := val_take s i (by omega)
      refine ⟨m - 1, by omega, i + 1, int_eq (by omega), ?_, by omega⟩
      rw [hvt]
      exact int_eq (by omega)
    · have e : i = k := by omega
      subst e
      exact DownV.same hw rl_int
/-- A text's bit at a place. -/
def bitS (s : List UInt8) (i : Int) : Nat := if 0 ≤ i ∧ i / 8 < s.length then (s.getD (i / 8).toNat 0).toNat / 2 ^ (7 - i % 8).toNat % 2 else 0
theorem div_pow_le (c n : Nat) : c / 2 ^ n ≤ c := Nat.div_le_self _ _
theorem bits_Bit_to (σ : Store) (s : List UInt8) (i : Int) (hs : s.length < 9223372036854775808) (hi : -9223372036854775808 ≤ i ∧ i < 9223372036854775808) : ACallsTo TC 159 [.str s, .int .i64 i] σ (.int .i64 (bitS s i)) σ := by
  refine ACallsTo.of_body bits_Bit_ok (by simp) fun hw _ => ?_
  have hb := (s.getD (i / 8).toNat 0).toNat_lt
  have hd := div_pow_le (s.getD (i / 8).toNat 0).toNat (7 - i % 8).toNat
  obtain ⟨q, hq⟩ : ∃ q, q = (s.getD (i / 8).toNat 0).toNat / 2 ^ (7 - i % 8).toNat := ⟨_, rfl⟩
  have hc : ((s.getD (i / 8).toNat 0).toNat : Int) / 2 ^ (7 - i % 8).toNat = (q : Int) := by rw [hq]; simp
  rw [← hq] at hd
  repeat' (first | refine SWp.seq ?_ | refine SWp.block ?_ | refine SWp.scope ?_ | refine SWp.condT rfl ?_ | refine SWp.condF rfl ?_ | (refine SWp.condD rfl (fun ht => ?_) (fun ht => ?_) <;> try (exfalso; omega)) | ((first | refine SWp.reg ?_ | refine SWp.skip ?_ | refine SWp.exit ?_ | refine SWp.ret ?_ | ((first | apply splitG | apply splitGB | apply splitR | apply splitRB | apply splitE | apply splitEB | apply splitC | apply splitCB) <;> intro ht)); all_goals try simp (disch := first | omega | (simp only [lens]; first | done | omega)) only [go_sem, Nat.reduceEqDiff, Nat.reduceBEq, Nat.reduceAdd, Nat.reduceMul, Nat.reduceSub, Nat.reduceLeDiff, Int.reduceToNat, Int.reducePow, hc]))
  · rw [bitS, if_neg (by omega)]
    exact DownV.same hw rl_int
  · rw [bitS, if_neg (by omega)]
    exact DownV.same hw rl_int
  · rw [bitS, if_pos (by omega), ← hq]
    exact DownV.same hw rl_int
theorem speculumref01_Bit_to (σ : Store) (s : List UInt8) (i : Int) (hs : s.length < 9223372036854775808) (hi : -9223372036854775808 ≤ i ∧ i < 9223372036854775808) : ACallsTo TC 160 [.str s, .int .i64 i] σ (.int .i64 (bitS s i)) σ := by
  refine ACallsTo.of_body speculumref01_Bit_ok (by simp) fun hw _ => ?_
  have hb := (s.getD (i / 8).toNat 0).toNat_lt
  repeat' (first | refine SWp.seq ?_ | refine SWp.block ?_ | refine SWp.scope ?_ | refine SWp.condT rfl ?_ | refine SWp.condF rfl ?_ | (refine SWp.condD rfl (fun ht => ?_) (fun ht => ?_) <;> try (exfalso; omega)) | ((first | refine SWp.reg ?_ | refine SWp.skip ?_ | refine SWp.exit ?_ | refine SWp.ret ?_ | ((first | apply splitG | apply splitGB | apply splitR | apply splitRB | apply splitE | apply splitEB | apply splitC | apply splitCB) <;> intro ht)); all_goals try simp (disch := first | omega | (simp only [lens]; first | done | omega)) only [go_sem, Nat.reduceEqDiff, Nat.reduceBEq, Nat.reduceAdd, Nat.reduceMul, Nat.reduceSub, Nat.reduceLeDiff, Int.reduceToNat, Int.reducePow]))
  · rw [bitS, if_neg (by omega)]
    exact DownV.same hw rl_int
  · rw [bitS, if_neg (by omega)]
    exact DownV.same hw rl_int
  rw [bitS, if_pos (by omega)]
  refine SWp.loop (fun m ρ σ' => σ' = σ ∧ ∃ (k q : Nat), ρ 5 = .int .u8 q ∧ q = (s.getD (i / 8).toNat 0).toNat / 2 ^ k ∧ ρ 6 = .int .i64 (i % 8 + k) ∧ m + k = (7 - i % 8).toNat) (7 - i % 8).toNat ?_ ?_
  · refine ⟨rfl, 0, (s.getD (i / 8).toNat 0).toNat, ?_, by simp, ?_, by omega⟩ <;> simp (disch := first | omega | (simp only [lens]; first | done | omega)) only [go_sem, Nat.reduceEqDiff, Nat.reduceBEq, Nat.reduceAdd, Nat.reduceMul, Nat.reduceSub, Nat.reduceLeDiff, Int.reduceToNat, Int.reducePow]
    exact int_eq (by simp)
  · rintro m ρ _ ⟨rfl, k, q, q5, hq, q6, hm⟩
    have hd := div_pow_le (s.getD (i / 8).toNat 0).toNat k
    rw [← hq] at hd
    repeat' (first | refine SWp.seq ?_ | refine SWp.block ?_ | refine SWp.scope ?_ | refine SWp.condT rfl ?_ | refine SWp.condF rfl ?_ | (refine SWp.condD rfl (fun ht => ?_) (fun ht => ?_) <;> try (exfalso; omega)) | ((first | refine SWp.reg ?_ | refine SWp.skip ?_ | refine SWp.exit ?_ | refine SWp.ret ?_ | ((first | apply splitG | apply splitGB | apply splitR | apply splitRB | apply splitE | apply splitEB | apply splitC | apply splitCB) <;> intro ht)); all_goals try simp (disch := first | omega | (simp only [lens]; first | done | omega)) only [go_sem, Nat.reduceEqDiff, Nat.reduceBEq, Nat.reduceAdd, Nat.reduceMul, Nat.reduceSub, Nat.reduceLeDiff, Int.reduceToNat, Int.reducePow, q5, q6]))
    · refine ⟨m - 1, by omega, k + 1, q / 2, int_eq (by omega), ?_, int_eq (by omega), by omega⟩
      rw [Nat.pow_succ, ← Nat.div_div_eq_div_mul, hq]
    · have e : k = (7 - i % 8).toNat := by omega
      rw [← e, ← hq]
      exact DownV.same hw rl_int
end Am
end Go.Proofs.YthgcooppjhcgcaaDoor
end
section
set_option linter.unusedSimpArgs false
set_option linter.unusedVariables false
/- Functions on bits: plain laws. -/
set_option linter.unusedSimpArgs false
namespace Go.Proofs.YthgcooppjhcgcaaDoor
namespace Am
/-! Turning. -/
/-! Bits of a sum. -/
/-! What is put is got. -/
theorem putS_len (x n : Int) : (putS x n).length ≤ 8 := by
  unfold putS
  split
  · rw [be_length]; omega
  · simp
/-! The highest bit. -/
end Am
end Go.Proofs.YthgcooppjhcgcaaDoor
end
section
set_option linter.unusedSimpArgs false
set_option linter.unusedVariables false
/- Abstract code. (Printed by wip/gen.) -/
set_option maxRecDepth 10000
namespace Go.Proofs.YthgcooppjhcgcaaDoor
namespace Am



@[go_sem] def speculumref02_Sum_r0 : List AIns := [
  ⟨some 2, none, .no, .alloc [(.int .u8 (0)), (.int .u8 (0)), (.int .u8 (0)), (.int .u8 (0)), (.int .u8 (0)), (.int .u8 (0)), (.int .u8 (0)), (.int .u8 (0)), (.int .u8 (0)), (.int .u8 (0)), (.int .u8 (0)), (.int .u8 (0)), (.int .u8 (0)), (.int .u8 (0)), (.int .u8 (0)), (.int .u8 (0)), (.int .u8 (0)), (.int .u8 (0)), (.int .u8 (0)), (.int .u8 (0)), (.int .u8 (0)), (.int .u8 (0)), (.int .u8 (0)), (.int .u8 (0)), (.int .u8 (0)), (.int .u8 (0)), (.int .u8 (0)), (.int .u8 (0)), (.int .u8 (0)), (.int .u8 (0)), (.int .u8 (0)), (.int .u8 (0))]⟩]
@[go_sem] def speculumref02_Sum_r1 : List AIns := [
  ⟨some 26, none, .no, .build [(.int .u32 (0)), (.int .u32 (0)), (.int .u32 (0)), (.int .u32 (0)), (.int .u32 (0)), (.int .u32 (0)), (.int .u32 (0)), (.int .u32 (0)), (.int .u32 (0)), (.int .u32 (0)), (.int .u32 (0)), (.int .u32 (0)), (.int .u32 (0)), (.int .u32 (0)), (.int .u32 (0)), (.int .u32 (0)), (.int .u32 (0)), (.int .u32 (0)), (.int .u32 (0)), (.int .u32 (0)), (.int .u32 (0)), (.int .u32 (0)), (.int .u32 (0)), (.int .u32 (0)), (.int .u32 (0)), (.int .u32 (0)), (.int .u32 (0)), (.int .u32 (0)), (.int .u32 (0)), (.int .u32 (0)), (.int .u32 (0)), (.int .u32 (0)), (.int .u32 (0)), (.int .u32 (0)), (.int .u32 (0)), (.int .u32 (0)), (.int .u32 (0)), (.int .u32 (0)), (.int .u32 (0)), (.int .u32 (0)), (.int .u32 (0)), (.int .u32 (0)), (.int .u32 (0)), (.int .u32 (0)), (.int .u32 (0)), (.int .u32 (0)), (.int .u32 (0)), (.int .u32 (0)), (.int .u32 (0)), (.int .u32 (0)), (.int .u32 (0)), (.int .u32 (0)), (.int .u32 (0)), (.int .u32 (0)), (.int .u32 (0)), (.int .u32 (0)), (.int .u32 (0)), (.int .u32 (0)), (.int .u32 (0)), (.int .u32 (0)), (.int .u32 (0)), (.int .u32 (0)), (.int .u32 (0)), (.int .u32 (0))] [(0, 1, (.v (.int .u32 (1116352408)))), (1, 1, (.v (.int .u32 (1899447441)))), (2, 1, (.v (.int .u32 (3049323471)))), (3, 1, (.v (.int .u32 (3921009573)))), (4, 1, (.v (.int .u32 (961987163)))), (5, 1, (.v (.int .u32 (1508970993)))), (6, 1, (.v (.int .u32 (2453635748)))), (7, 1, (.v (.int .u32 (2870763221)))), (8, 1, (.v (.int .u32 (3624381080)))), (9, 1, (.v (.int .u32 (310598401)))), (10, 1, (.v (.int .u32 (607225278)))), (11, 1, (.v (.int .u32 (1426881987)))), (12, 1, (.v (.int .u32 (1925078388)))), (13, 1, (.v (.int .u32 (2162078206)))), (14, 1, (.v (.int .u32 (2614888103)))), (15, 1, (.v (.int .u32 (3248222580)))), (16, 1, (.v (.int .u32 (3835390401)))), (17, 1, (.v (.int .u32 (4022224774)))), (18, 1, (.v (.int .u32 (264347078)))), (19, 1, (.v (.int .u32 (604807628)))), (20, 1, (.v (.int .u32 (770255983)))), (21, 1, (.v (.int .u32 (1249150122)))), (22, 1, (.v (.int .u32 (1555081692)))), (23, 1, (.v (.int .u32 (1996064986)))), (24, 1, (.v (.int .u32 (2554220882)))), (25, 1, (.v (.int .u32 (2821834349)))), (26, 1, (.v (.int .u32 (2952996808)))), (27, 1, (.v (.int .u32 (3210313671)))), (28, 1, (.v (.int .u32 (3336571891)))), (29, 1, (.v (.int .u32 (3584528711)))), (30, 1, (.v (.int .u32 (113926993)))), (31, 1, (.v (.int .u32 (338241895)))), (32, 1, (.v (.int .u32 (666307205)))), (33, 1, (.v (.int .u32 (773529912)))), (34, 1, (.v (.int .u32 (1294757372)))), (35, 1, (.v (.int .u32 (1396182291)))), (36, 1, (.v (.int .u32 (1695183700)))), (37, 1, (.v (.int .u32 (1986661051)))), (38, 1, (.v (.int .u32 (2177026350)))), (39, 1, (.v (.int .u32 (2456956037)))), (40, 1, (.v (.int .u32 (2730485921)))), (41, 1, (.v (.int .u32 (2820302411)))), (42, 1, (.v (.int .u32 (3259730800)))), (43, 1, (.v (.int .u32 (3345764771)))), (44, 1, (.v (.int .u32 (3516065817)))), (45, 1, (.v (.int .u32 (3600352804)))), (46, 1, (.v (.int .u32 (4094571909)))), (47, 1, (.v (.int .u32 (275423344)))), (48, 1, (.v (.int .u32 (430227734)))), (49, 1, (.v (.int .u32 (506948616)))), (50, 1, (.v (.int .u32 (659060556)))), (51, 1, (.v (.int .u32 (883997877)))), (52, 1, (.v (.int .u32 (958139571)))), (53, 1, (.v (.int .u32 (1322822218)))), (54, 1, (.v (.int .u32 (1537002063)))), (55, 1, (.v (.int .u32 (1747873779)))), (56, 1, (.v (.int .u32 (1955562222)))), (57, 1, (.v (.int .u32 (2024104815)))), (58, 1, (.v (.int .u32 (2227730452)))), (59, 1, (.v (.int .u32 (2361852424)))), (60, 1, (.v (.int .u32 (2428436474)))), (61, 1, (.v (.int .u32 (2756734187)))), (62, 1, (.v (.int .u32 (3204031479)))), (63, 1, (.v (.int .u32 (3329325298))))]⟩,
  ⟨some 3, none, .no, .alloc [(.int .u32 (0)), (.int .u32 (0)), (.int .u32 (0)), (.int .u32 (0)), (.int .u32 (0)), (.int .u32 (0)), (.int .u32 (0)), (.int .u32 (0)), (.int .u32 (0)), (.int .u32 (0)), (.int .u32 (0)), (.int .u32 (0)), (.int .u32 (0)), (.int .u32 (0)), (.int .u32 (0)), (.int .u32 (0)), (.int .u32 (0)), (.int .u32 (0)), (.int .u32 (0)), (.int .u32 (0)), (.int .u32 (0)), (.int .u32 (0)), (.int .u32 (0)), (.int .u32 (0)), (.int .u32 (0)), (.int .u32 (0)), (.int .u32 (0)), (.int .u32 (0)), (.int .u32 (0)), (.int .u32 (0)), (.int .u32 (0)), (.int .u32 (0)), (.int .u32 (0)), (.int .u32 (0)), (.int .u32 (0)), (.int .u32 (0)), (.int .u32 (0)), (.int .u32 (0)), (.int .u32 (0)), (.int .u32 (0)), (.int .u32 (0)), (.int .u32 (0)), (.int .u32 (0)), (.int .u32 (0)), (.int .u32 (0)), (.int .u32 (0)), (.int .u32 (0)), (.int .u32 (0)), (.int .u32 (0)), (.int .u32 (0)), (.int .u32 (0)), (.int .u32 (0)), (.int .u32 (0)), (.int .u32 (0)), (.int .u32 (0)), (.int .u32 (0)), (.int .u32 (0)), (.int .u32 (0)), (.int .u32 (0)), (.int .u32 (0)), (.int .u32 (0)), (.int .u32 (0)), (.int .u32 (0)), (.int .u32 (0))]⟩,
  ⟨none, none, .no, .store 64 (.t 3) (.t 26)⟩]
@[go_sem] def speculumref02_Sum_r2 : List AIns := [
  ⟨some 27, none, .no, .build [(.int .u32 (0)), (.int .u32 (0)), (.int .u32 (0)), (.int .u32 (0)), (.int .u32 (0)), (.int .u32 (0)), (.int .u32 (0)), (.int .u32 (0))] [(0, 1, (.v (.int .u32 (1779033703)))), (1, 1, (.v (.int .u32 (3144134277)))), (2, 1, (.v (.int .u32 (1013904242)))), (3, 1, (.v (.int .u32 (2773480762)))), (4, 1, (.v (.int .u32 (1359893119)))), (5, 1, (.v (.int .u32 (2600822924)))), (6, 1, (.v (.int .u32 (528734635)))), (7, 1, (.v (.int .u32 (1541459225))))]⟩,
  ⟨some 4, none, .no, .alloc [(.int .u32 (0)), (.int .u32 (0)), (.int .u32 (0)), (.int .u32 (0)), (.int .u32 (0)), (.int .u32 (0)), (.int .u32 (0)), (.int .u32 (0))]⟩,
  ⟨none, none, .no, .store 8 (.t 4) (.t 27)⟩]
@[go_sem] def speculumref02_Sum_r3 : List AIns := [
  ⟨some 28, none, .no, .mv (.t 0)⟩,
  ⟨some 29, none, .no, .call (.v (.fn 145 [])) [(.t 28)]⟩,
  ⟨some 5, none, .no, .mv (.t 29)⟩]
@[go_sem] def speculumref02_Sum_r4 : List AIns := [
  ⟨some 6, none, .no, .alloc [(.int .u32 (0)), (.int .u32 (0)), (.int .u32 (0)), (.int .u32 (0)), (.int .u32 (0)), (.int .u32 (0)), (.int .u32 (0)), (.int .u32 (0)), (.int .u32 (0)), (.int .u32 (0)), (.int .u32 (0)), (.int .u32 (0)), (.int .u32 (0)), (.int .u32 (0)), (.int .u32 (0)), (.int .u32 (0)), (.int .u32 (0)), (.int .u32 (0)), (.int .u32 (0)), (.int .u32 (0)), (.int .u32 (0)), (.int .u32 (0)), (.int .u32 (0)), (.int .u32 (0)), (.int .u32 (0)), (.int .u32 (0)), (.int .u32 (0)), (.int .u32 (0)), (.int .u32 (0)), (.int .u32 (0)), (.int .u32 (0)), (.int .u32 (0)), (.int .u32 (0)), (.int .u32 (0)), (.int .u32 (0)), (.int .u32 (0)), (.int .u32 (0)), (.int .u32 (0)), (.int .u32 (0)), (.int .u32 (0)), (.int .u32 (0)), (.int .u32 (0)), (.int .u32 (0)), (.int .u32 (0)), (.int .u32 (0)), (.int .u32 (0)), (.int .u32 (0)), (.int .u32 (0)), (.int .u32 (0)), (.int .u32 (0)), (.int .u32 (0)), (.int .u32 (0)), (.int .u32 (0)), (.int .u32 (0)), (.int .u32 (0)), (.int .u32 (0)), (.int .u32 (0)), (.int .u32 (0)), (.int .u32 (0)), (.int .u32 (0)), (.int .u32 (0)), (.int .u32 (0)), (.int .u32 (0)), (.int .u32 (0))]⟩]
@[go_sem] def speculumref02_Sum_r5 : List AIns := [
  ⟨some 7, none, .no, .mv (.v (.int .i64 (0)))⟩]
@[go_sem] def speculumref02_Sum_r6 : List AIns := [
  ⟨some 30, none, .no, .mv (.t 7)⟩,
  ⟨some 31, none, .no, .mv (.t 5)⟩,
  ⟨some 32, none, .no, .lenSl (.t 31)⟩,
  ⟨some 33, none, .no, .bin .lss .none (.t 30) (.t 32)⟩]
def speculumref02_Sum_c7 : ACode := .cond (.t 33) .skip (.exit 0)
def speculumref02_Sum_c8 : ACode := .seq (.reg speculumref02_Sum_r6) speculumref02_Sum_c7
@[go_sem] def speculumref02_Sum_r9 : List AIns := [
  ⟨some 8, none, .no, .mv (.v (.int .i64 (0)))⟩]
@[go_sem] def speculumref02_Sum_r10 : List AIns := [
  ⟨some 36, none, .no, .mv (.t 8)⟩,
  ⟨some 37, none, .no, .bin .lss .none (.t 36) (.v (.int .i64 (16)))⟩]
def speculumref02_Sum_c11 : ACode := .cond (.t 37) .skip (.exit 2)
def speculumref02_Sum_c12 : ACode := .seq (.reg speculumref02_Sum_r10) speculumref02_Sum_c11
@[go_sem] def speculumref02_Sum_r13 : List AIns := [
  ⟨some 40, none, .no, .mv (.t 7)⟩,
  ⟨some 41, none, .no, .mv (.t 8)⟩,
  ⟨some 42, none, .no, .bin .mul .none (.v (.int .i64 (4))) (.t 41)⟩,
  ⟨some 43, none, .no, .bin .add .none (.t 40) (.t 42)⟩,
  ⟨some 9, none, .no, .mv (.t 43)⟩]
@[go_sem] def speculumref02_Sum_r14 : List AIns := [
  ⟨some 44, none, .no, .mv (.t 8)⟩,
  ⟨some 45, none, .no, .mv (.t 5)⟩,
  ⟨some 46, none, .no, .mv (.t 9)⟩,
  ⟨some 47, none, .no, .iaSl 1 (.t 45) (.t 46)⟩,
  ⟨some 48, none, .rd, .load false 1 (.t 47)⟩,
  ⟨some 49, none, .no, .conv (.int .u32) (.t 48)⟩,
  ⟨some 50, none, .no, .bin .shl .none (.t 49) (.v (.int .u64 (24)))⟩,
  ⟨some 51, none, .no, .mv (.t 5)⟩,
  ⟨some 52, none, .no, .mv (.t 9)⟩,
  ⟨some 53, none, .no, .bin .add .none (.t 52) (.v (.int .i64 (1)))⟩,
  ⟨some 54, none, .no, .iaSl 1 (.t 51) (.t 53)⟩,
  ⟨some 55, none, .rd, .load false 1 (.t 54)⟩,
  ⟨some 56, none, .no, .conv (.int .u32) (.t 55)⟩,
  ⟨some 57, none, .no, .bin .shl .none (.t 56) (.v (.int .u64 (16)))⟩,
  ⟨some 58, none, .no, .bin .add .none (.t 50) (.t 57)⟩,
  ⟨some 59, none, .no, .mv (.t 5)⟩,
  ⟨some 60, none, .no, .mv (.t 9)⟩,
  ⟨some 61, none, .no, .bin .add .none (.t 60) (.v (.int .i64 (2)))⟩,
  ⟨some 62, none, .no, .iaSl 1 (.t 59) (.t 61)⟩,
  ⟨some 63, none, .rd, .load false 1 (.t 62)⟩,
  ⟨some 64, none, .no, .conv (.int .u32) (.t 63)⟩,
  ⟨some 65, none, .no, .bin .shl .none (.t 64) (.v (.int .u64 (8)))⟩,
  ⟨some 66, none, .no, .bin .add .none (.t 58) (.t 65)⟩,
  ⟨some 67, none, .no, .mv (.t 5)⟩,
  ⟨some 68, none, .no, .mv (.t 9)⟩,
  ⟨some 69, none, .no, .bin .add .none (.t 68) (.v (.int .i64 (3)))⟩,
  ⟨some 70, none, .no, .iaSl 1 (.t 67) (.t 69)⟩,
  ⟨some 71, none, .rd, .load false 1 (.t 70)⟩,
  ⟨some 72, none, .no, .conv (.int .u32) (.t 71)⟩,
  ⟨some 73, none, .no, .bin .add .none (.t 66) (.t 72)⟩,
  ⟨some 74, none, .no, .iaArr 64 1 (.t 6) (.t 44)⟩,
  ⟨none, none, .no, .store 1 (.t 74) (.t 73)⟩]
def speculumref02_Sum_c15 : ACode := .seq (.reg speculumref02_Sum_r13) (.reg speculumref02_Sum_r14)
@[go_sem] def speculumref02_Sum_r16 : List AIns := [
  ⟨some 38, none, .no, .mv (.t 8)⟩,
  ⟨some 39, none, .no, .bin .add .none (.t 38) (.v (.int .i64 (1)))⟩,
  ⟨some 8, none, .no, .mv (.t 39)⟩]
def speculumref02_Sum_c17 : ACode := .seq (.block 3 speculumref02_Sum_c15) (.reg speculumref02_Sum_r16)
def speculumref02_Sum_c18 : ACode := .seq speculumref02_Sum_c12 speculumref02_Sum_c17
def speculumref02_Sum_c19 : ACode := .loop speculumref02_Sum_c18
def speculumref02_Sum_c20 : ACode := .block 2 speculumref02_Sum_c19
def speculumref02_Sum_c21 : ACode := .seq (.reg speculumref02_Sum_r9) speculumref02_Sum_c20
@[go_sem] def speculumref02_Sum_r22 : List AIns := [
  ⟨some 10, none, .no, .mv (.v (.int .i64 (16)))⟩]
@[go_sem] def speculumref02_Sum_r23 : List AIns := [
  ⟨some 75, none, .no, .mv (.t 10)⟩,
  ⟨some 76, none, .no, .bin .lss .none (.t 75) (.v (.int .i64 (64)))⟩]
def speculumref02_Sum_c24 : ACode := .cond (.t 76) .skip (.exit 4)
def speculumref02_Sum_c25 : ACode := .seq (.reg speculumref02_Sum_r23) speculumref02_Sum_c24
@[go_sem] def speculumref02_Sum_r26 : List AIns := [
  ⟨some 79, none, .no, .mv (.t 10)⟩,
  ⟨some 80, none, .no, .bin .sub .none (.t 79) (.v (.int .i64 (15)))⟩,
  ⟨some 81, none, .no, .iaArr 64 1 (.t 6) (.t 80)⟩,
  ⟨some 82, none, .rd, .load false 1 (.t 81)⟩,
  ⟨some 83, none, .no, .mv (.t 10)⟩,
  ⟨some 84, none, .no, .bin .sub .none (.t 83) (.v (.int .i64 (2)))⟩,
  ⟨some 85, none, .no, .iaArr 64 1 (.t 6) (.t 84)⟩,
  ⟨some 86, none, .rd, .load false 1 (.t 85)⟩,
  ⟨some 11, none, .no, .mv (.t 82)⟩,
  ⟨some 12, none, .no, .mv (.t 86)⟩]
@[go_sem] def speculumref02_Sum_r27 : List AIns := [
  ⟨some 87, none, .no, .mv (.t 10)⟩,
  ⟨some 88, none, .no, .mv (.t 10)⟩,
  ⟨some 89, none, .no, .bin .sub .none (.t 88) (.v (.int .i64 (16)))⟩,
  ⟨some 90, none, .no, .iaArr 64 1 (.t 6) (.t 89)⟩,
  ⟨some 91, none, .rd, .load false 1 (.t 90)⟩,
  ⟨some 92, none, .no, .mv (.t 11)⟩,
  ⟨some 93, none, .ef, .call (.v (.fn 146 [])) [(.t 92), (.v (.int .u32 (7)))]⟩,
  ⟨some 94, none, .no, .mv (.t 11)⟩,
  ⟨some 95, none, .ef, .call (.v (.fn 146 [])) [(.t 94), (.v (.int .u32 (18)))]⟩,
  ⟨some 96, none, .no, .bin .xor .none (.t 93) (.t 95)⟩,
  ⟨some 97, none, .no, .mv (.t 11)⟩,
  ⟨some 98, none, .no, .bin .shr .none (.t 97) (.v (.int .u64 (3)))⟩,
  ⟨some 99, none, .no, .bin .xor .none (.t 96) (.t 98)⟩,
  ⟨some 100, none, .no, .bin .add .none (.t 91) (.t 99)⟩,
  ⟨some 101, none, .no, .mv (.t 10)⟩,
  ⟨some 102, none, .no, .bin .sub .none (.t 101) (.v (.int .i64 (7)))⟩,
  ⟨some 103, none, .no, .iaArr 64 1 (.t 6) (.t 102)⟩,
  ⟨some 104, none, .rd, .load false 1 (.t 103)⟩,
  ⟨some 105, none, .no, .bin .add .none (.t 100) (.t 104)⟩,
  ⟨some 106, none, .no, .mv (.t 12)⟩,
  ⟨some 107, none, .ef, .call (.v (.fn 146 [])) [(.t 106), (.v (.int .u32 (17)))]⟩,
  ⟨some 108, none, .no, .mv (.t 12)⟩,
  ⟨some 109, none, .ef, .call (.v (.fn 146 [])) [(.t 108), (.v (.int .u32 (19)))]⟩,
  ⟨some 110, none, .no, .bin .xor .none (.t 107) (.t 109)⟩,
  ⟨some 111, none, .no, .mv (.t 12)⟩,
  ⟨some 112, none, .no, .bin .shr .none (.t 111) (.v (.int .u64 (10)))⟩,
  ⟨some 113, none, .no, .bin .xor .none (.t 110) (.t 112)⟩,
  ⟨some 114, none, .no, .bin .add .none (.t 105) (.t 113)⟩,
  ⟨some 115, none, .no, .iaArr 64 1 (.t 6) (.t 87)⟩,
  ⟨none, none, .no, .store 1 (.t 115) (.t 114)⟩]
def speculumref02_Sum_c28 : ACode := .seq (.reg speculumref02_Sum_r26) (.reg speculumref02_Sum_r27)
@[go_sem] def speculumref02_Sum_r29 : List AIns := [
  ⟨some 77, none, .no, .mv (.t 10)⟩,
  ⟨some 78, none, .no, .bin .add .none (.t 77) (.v (.int .i64 (1)))⟩,
  ⟨some 10, none, .no, .mv (.t 78)⟩]
def speculumref02_Sum_c30 : ACode := .seq (.block 5 speculumref02_Sum_c28) (.reg speculumref02_Sum_r29)
def speculumref02_Sum_c31 : ACode := .seq speculumref02_Sum_c25 speculumref02_Sum_c30
def speculumref02_Sum_c32 : ACode := .loop speculumref02_Sum_c31
def speculumref02_Sum_c33 : ACode := .block 4 speculumref02_Sum_c32
def speculumref02_Sum_c34 : ACode := .seq (.reg speculumref02_Sum_r22) speculumref02_Sum_c33
@[go_sem] def speculumref02_Sum_r35 : List AIns := [
  ⟨some 116, none, .no, .iaArr 8 1 (.t 4) (.v (.int .i64 (0)))⟩,
  ⟨some 117, none, .rd, .load false 1 (.t 116)⟩,
  ⟨some 118, none, .no, .iaArr 8 1 (.t 4) (.v (.int .i64 (1)))⟩,
  ⟨some 119, none, .rd, .load false 1 (.t 118)⟩,
  ⟨some 120, none, .no, .iaArr 8 1 (.t 4) (.v (.int .i64 (2)))⟩,
  ⟨some 121, none, .rd, .load false 1 (.t 120)⟩,
  ⟨some 122, none, .no, .iaArr 8 1 (.t 4) (.v (.int .i64 (3)))⟩,
  ⟨some 123, none, .rd, .load false 1 (.t 122)⟩,
  ⟨some 124, none, .no, .iaArr 8 1 (.t 4) (.v (.int .i64 (4)))⟩,
  ⟨some 125, none, .rd, .load false 1 (.t 124)⟩,
  ⟨some 126, none, .no, .iaArr 8 1 (.t 4) (.v (.int .i64 (5)))⟩,
  ⟨some 127, none, .rd, .load false 1 (.t 126)⟩,
  ⟨some 128, none, .no, .iaArr 8 1 (.t 4) (.v (.int .i64 (6)))⟩,
  ⟨some 129, none, .rd, .load false 1 (.t 128)⟩,
  ⟨some 130, none, .no, .iaArr 8 1 (.t 4) (.v (.int .i64 (7)))⟩,
  ⟨some 131, none, .rd, .load false 1 (.t 130)⟩,
  ⟨some 13, none, .no, .mv (.t 117)⟩,
  ⟨some 14, none, .no, .mv (.t 119)⟩,
  ⟨some 15, none, .no, .mv (.t 121)⟩,
  ⟨some 16, none, .no, .mv (.t 123)⟩,
  ⟨some 17, none, .no, .mv (.t 125)⟩,
  ⟨some 18, none, .no, .mv (.t 127)⟩,
  ⟨some 19, none, .no, .mv (.t 129)⟩,
  ⟨some 20, none, .no, .mv (.t 131)⟩]
@[go_sem] def speculumref02_Sum_r36 : List AIns := [
  ⟨some 21, none, .no, .mv (.v (.int .i64 (0)))⟩]
@[go_sem] def speculumref02_Sum_r37 : List AIns := [
  ⟨some 132, none, .no, .mv (.t 21)⟩,
  ⟨some 133, none, .no, .bin .lss .none (.t 132) (.v (.int .i64 (64)))⟩]
def speculumref02_Sum_c38 : ACode := .cond (.t 133) .skip (.exit 6)
def speculumref02_Sum_c39 : ACode := .seq (.reg speculumref02_Sum_r37) speculumref02_Sum_c38
@[go_sem] def speculumref02_Sum_r40 : List AIns := [
  ⟨some 136, none, .no, .mv (.t 20)⟩,
  ⟨some 137, none, .no, .mv (.t 17)⟩,
  ⟨some 138, none, .ef, .call (.v (.fn 146 [])) [(.t 137), (.v (.int .u32 (6)))]⟩,
  ⟨some 139, none, .no, .mv (.t 17)⟩,
  ⟨some 140, none, .ef, .call (.v (.fn 146 [])) [(.t 139), (.v (.int .u32 (11)))]⟩,
  ⟨some 141, none, .no, .bin .xor .none (.t 138) (.t 140)⟩,
  ⟨some 142, none, .no, .mv (.t 17)⟩,
  ⟨some 143, none, .ef, .call (.v (.fn 146 [])) [(.t 142), (.v (.int .u32 (25)))]⟩,
  ⟨some 144, none, .no, .bin .xor .none (.t 141) (.t 143)⟩,
  ⟨some 145, none, .no, .bin .add .none (.t 136) (.t 144)⟩,
  ⟨some 146, none, .no, .mv (.t 17)⟩,
  ⟨some 147, none, .no, .mv (.t 18)⟩,
  ⟨some 148, none, .no, .bin .and .none (.t 146) (.t 147)⟩,
  ⟨some 149, none, .no, .mv (.t 17)⟩,
  ⟨some 150, none, .no, .un .xor (.t 149)⟩,
  ⟨some 151, none, .no, .mv (.t 19)⟩,
  ⟨some 152, none, .no, .bin .and .none (.t 150) (.t 151)⟩,
  ⟨some 153, none, .no, .bin .xor .none (.t 148) (.t 152)⟩,
  ⟨some 154, none, .no, .bin .add .none (.t 145) (.t 153)⟩,
  ⟨some 155, none, .no, .mv (.t 21)⟩,
  ⟨some 156, none, .no, .iaArr 64 1 (.t 3) (.t 155)⟩,
  ⟨some 157, none, .rd, .load false 1 (.t 156)⟩,
  ⟨some 158, none, .no, .bin .add .none (.t 154) (.t 157)⟩,
  ⟨some 159, none, .no, .mv (.t 21)⟩,
  ⟨some 160, none, .no, .iaArr 64 1 (.t 6) (.t 159)⟩,
  ⟨some 161, none, .rd, .load false 1 (.t 160)⟩,
  ⟨some 162, none, .no, .bin .add .none (.t 158) (.t 161)⟩,
  ⟨some 22, none, .no, .mv (.t 162)⟩]
@[go_sem] def speculumref02_Sum_r41 : List AIns := [
  ⟨some 163, none, .no, .mv (.t 13)⟩,
  ⟨some 164, none, .no, .call (.v (.fn 146 [])) [(.t 163), (.v (.int .u32 (2)))]⟩,
  ⟨some 165, none, .no, .mv (.t 13)⟩,
  ⟨some 166, none, .no, .call (.v (.fn 146 [])) [(.t 165), (.v (.int .u32 (13)))]⟩,
  ⟨some 167, none, .no, .bin .xor .none (.t 164) (.t 166)⟩,
  ⟨some 168, none, .no, .mv (.t 13)⟩,
  ⟨some 169, none, .no, .call (.v (.fn 146 [])) [(.t 168), (.v (.int .u32 (22)))]⟩,
  ⟨some 170, none, .no, .bin .xor .none (.t 167) (.t 169)⟩,
  ⟨some 171, none, .no, .mv (.t 13)⟩,
  ⟨some 172, none, .no, .mv (.t 14)⟩,
  ⟨some 173, none, .no, .bin .and .none (.t 171) (.t 172)⟩,
  ⟨some 174, none, .no, .mv (.t 13)⟩,
  ⟨some 175, none, .no, .mv (.t 15)⟩,
  ⟨some 176, none, .no, .bin .and .none (.t 174) (.t 175)⟩,
  ⟨some 177, none, .no, .bin .xor .none (.t 173) (.t 176)⟩,
  ⟨some 178, none, .no, .mv (.t 14)⟩,
  ⟨some 179, none, .no, .mv (.t 15)⟩,
  ⟨some 180, none, .no, .bin .and .none (.t 178) (.t 179)⟩,
  ⟨some 181, none, .no, .bin .xor .none (.t 177) (.t 180)⟩,
  ⟨some 182, none, .no, .bin .add .none (.t 170) (.t 181)⟩,
  ⟨some 23, none, .no, .mv (.t 182)⟩]
@[go_sem] def speculumref02_Sum_r42 : List AIns := [
  ⟨some 183, none, .no, .mv (.t 19)⟩,
  ⟨some 184, none, .no, .mv (.t 18)⟩,
  ⟨some 185, none, .no, .mv (.t 17)⟩,
  ⟨some 186, none, .no, .mv (.t 16)⟩,
  ⟨some 187, none, .no, .mv (.t 22)⟩,
  ⟨some 188, none, .no, .bin .add .none (.t 186) (.t 187)⟩,
  ⟨some 189, none, .no, .mv (.t 15)⟩,
  ⟨some 190, none, .no, .mv (.t 14)⟩,
  ⟨some 191, none, .no, .mv (.t 13)⟩,
  ⟨some 192, none, .no, .mv (.t 22)⟩,
  ⟨some 193, none, .no, .mv (.t 23)⟩,
  ⟨some 194, none, .no, .bin .add .none (.t 192) (.t 193)⟩,
  ⟨some 20, none, .no, .mv (.t 183)⟩,
  ⟨some 19, none, .no, .mv (.t 184)⟩,
  ⟨some 18, none, .no, .mv (.t 185)⟩,
  ⟨some 17, none, .no, .mv (.t 188)⟩,
  ⟨some 16, none, .no, .mv (.t 189)⟩,
  ⟨some 15, none, .no, .mv (.t 190)⟩,
  ⟨some 14, none, .no, .mv (.t 191)⟩,
  ⟨some 13, none, .no, .mv (.t 194)⟩]
def speculumref02_Sum_c43 : ACode := .seq (.reg speculumref02_Sum_r41) (.reg speculumref02_Sum_r42)
def speculumref02_Sum_c44 : ACode := .seq (.reg speculumref02_Sum_r40) speculumref02_Sum_c43
@[go_sem] def speculumref02_Sum_r45 : List AIns := [
  ⟨some 134, none, .no, .mv (.t 21)⟩,
  ⟨some 135, none, .no, .bin .add .none (.t 134) (.v (.int .i64 (1)))⟩,
  ⟨some 21, none, .no, .mv (.t 135)⟩]
def speculumref02_Sum_c46 : ACode := .seq (.block 7 speculumref02_Sum_c44) (.reg speculumref02_Sum_r45)
def speculumref02_Sum_c47 : ACode := .seq speculumref02_Sum_c39 speculumref02_Sum_c46
def speculumref02_Sum_c48 : ACode := .loop speculumref02_Sum_c47
def speculumref02_Sum_c49 : ACode := .block 6 speculumref02_Sum_c48
def speculumref02_Sum_c50 : ACode := .seq (.reg speculumref02_Sum_r36) speculumref02_Sum_c49
@[go_sem] def speculumref02_Sum_r51 : List AIns := [
  ⟨some 195, none, .no, .iaArr 8 1 (.t 4) (.v (.int .i64 (0)))⟩,
  ⟨some 196, none, .no, .load false 1 (.t 195)⟩,
  ⟨some 197, none, .no, .mv (.t 13)⟩,
  ⟨some 198, none, .no, .bin .add .none (.t 196) (.t 197)⟩,
  ⟨some 199, none, .no, .iaArr 8 1 (.t 4) (.v (.int .i64 (1)))⟩,
  ⟨some 200, none, .no, .load false 1 (.t 199)⟩,
  ⟨some 201, none, .no, .mv (.t 14)⟩,
  ⟨some 202, none, .no, .bin .add .none (.t 200) (.t 201)⟩,
  ⟨some 203, none, .no, .iaArr 8 1 (.t 4) (.v (.int .i64 (2)))⟩,
  ⟨some 204, none, .no, .load false 1 (.t 203)⟩,
  ⟨some 205, none, .no, .mv (.t 15)⟩,
  ⟨some 206, none, .no, .bin .add .none (.t 204) (.t 205)⟩,
  ⟨some 207, none, .no, .iaArr 8 1 (.t 4) (.v (.int .i64 (3)))⟩,
  ⟨some 208, none, .no, .load false 1 (.t 207)⟩,
  ⟨some 209, none, .no, .mv (.t 16)⟩,
  ⟨some 210, none, .no, .bin .add .none (.t 208) (.t 209)⟩,
  ⟨some 211, none, .no, .iaArr 8 1 (.t 4) (.v (.int .i64 (4)))⟩,
  ⟨some 212, none, .no, .load false 1 (.t 211)⟩,
  ⟨some 213, none, .no, .mv (.t 17)⟩,
  ⟨some 214, none, .no, .bin .add .none (.t 212) (.t 213)⟩,
  ⟨some 215, none, .no, .iaArr 8 1 (.t 4) (.v (.int .i64 (5)))⟩,
  ⟨some 216, none, .no, .load false 1 (.t 215)⟩,
  ⟨some 217, none, .no, .mv (.t 18)⟩,
  ⟨some 218, none, .no, .bin .add .none (.t 216) (.t 217)⟩,
  ⟨some 219, none, .no, .iaArr 8 1 (.t 4) (.v (.int .i64 (6)))⟩,
  ⟨some 220, none, .no, .load false 1 (.t 219)⟩,
  ⟨some 221, none, .no, .mv (.t 19)⟩,
  ⟨some 222, none, .no, .bin .add .none (.t 220) (.t 221)⟩,
  ⟨some 223, none, .no, .iaArr 8 1 (.t 4) (.v (.int .i64 (7)))⟩,
  ⟨some 224, none, .no, .load false 1 (.t 223)⟩,
  ⟨some 225, none, .no, .mv (.t 20)⟩,
  ⟨some 226, none, .no, .bin .add .none (.t 224) (.t 225)⟩,
  ⟨some 227, none, .no, .iaArr 8 1 (.t 4) (.v (.int .i64 (0)))⟩,
  ⟨none, none, .no, .store 1 (.t 227) (.t 198)⟩,
  ⟨some 228, none, .no, .iaArr 8 1 (.t 4) (.v (.int .i64 (1)))⟩,
  ⟨none, none, .no, .store 1 (.t 228) (.t 202)⟩,
  ⟨some 229, none, .no, .iaArr 8 1 (.t 4) (.v (.int .i64 (2)))⟩,
  ⟨none, none, .no, .store 1 (.t 229) (.t 206)⟩,
  ⟨some 230, none, .no, .iaArr 8 1 (.t 4) (.v (.int .i64 (3)))⟩,
  ⟨none, none, .no, .store 1 (.t 230) (.t 210)⟩,
  ⟨some 231, none, .no, .iaArr 8 1 (.t 4) (.v (.int .i64 (4)))⟩,
  ⟨none, none, .no, .store 1 (.t 231) (.t 214)⟩,
  ⟨some 232, none, .no, .iaArr 8 1 (.t 4) (.v (.int .i64 (5)))⟩,
  ⟨none, none, .no, .store 1 (.t 232) (.t 218)⟩,
  ⟨some 233, none, .no, .iaArr 8 1 (.t 4) (.v (.int .i64 (6)))⟩,
  ⟨none, none, .no, .store 1 (.t 233) (.t 222)⟩,
  ⟨some 234, none, .no, .iaArr 8 1 (.t 4) (.v (.int .i64 (7)))⟩,
  ⟨none, none, .no, .store 1 (.t 234) (.t 226)⟩]
def speculumref02_Sum_c52 : ACode := .seq speculumref02_Sum_c50 (.reg speculumref02_Sum_r51)
def speculumref02_Sum_c53 : ACode := .seq (.reg speculumref02_Sum_r35) speculumref02_Sum_c52
def speculumref02_Sum_c54 : ACode := .seq speculumref02_Sum_c34 speculumref02_Sum_c53
def speculumref02_Sum_c55 : ACode := .seq speculumref02_Sum_c21 speculumref02_Sum_c54
@[go_sem] def speculumref02_Sum_r56 : List AIns := [
  ⟨some 34, none, .no, .mv (.t 7)⟩,
  ⟨some 35, none, .no, .bin .add .none (.t 34) (.v (.int .i64 (64)))⟩,
  ⟨some 7, none, .no, .mv (.t 35)⟩]
def speculumref02_Sum_c57 : ACode := .seq (.block 1 speculumref02_Sum_c55) (.reg speculumref02_Sum_r56)
def speculumref02_Sum_c58 : ACode := .seq speculumref02_Sum_c8 speculumref02_Sum_c57
def speculumref02_Sum_c59 : ACode := .loop speculumref02_Sum_c58
def speculumref02_Sum_c60 : ACode := .block 0 speculumref02_Sum_c59
def speculumref02_Sum_c61 : ACode := .seq (.reg speculumref02_Sum_r5) speculumref02_Sum_c60
@[go_sem] def speculumref02_Sum_r62 : List AIns := [
  ⟨some 24, none, .no, .alloc [(.int .u8 (0)), (.int .u8 (0)), (.int .u8 (0)), (.int .u8 (0)), (.int .u8 (0)), (.int .u8 (0)), (.int .u8 (0)), (.int .u8 (0)), (.int .u8 (0)), (.int .u8 (0)), (.int .u8 (0)), (.int .u8 (0)), (.int .u8 (0)), (.int .u8 (0)), (.int .u8 (0)), (.int .u8 (0)), (.int .u8 (0)), (.int .u8 (0)), (.int .u8 (0)), (.int .u8 (0)), (.int .u8 (0)), (.int .u8 (0)), (.int .u8 (0)), (.int .u8 (0)), (.int .u8 (0)), (.int .u8 (0)), (.int .u8 (0)), (.int .u8 (0)), (.int .u8 (0)), (.int .u8 (0)), (.int .u8 (0)), (.int .u8 (0))]⟩]
@[go_sem] def speculumref02_Sum_r63 : List AIns := [
  ⟨some 25, none, .no, .mv (.v (.int .i64 (0)))⟩]
@[go_sem] def speculumref02_Sum_r64 : List AIns := [
  ⟨some 235, none, .no, .mv (.t 25)⟩,
  ⟨some 236, none, .no, .bin .lss .none (.t 235) (.v (.int .i64 (32)))⟩]
def speculumref02_Sum_c65 : ACode := .cond (.t 236) .skip (.exit 8)
def speculumref02_Sum_c66 : ACode := .seq (.reg speculumref02_Sum_r64) speculumref02_Sum_c65
@[go_sem] def speculumref02_Sum_r67 : List AIns := [
  ⟨some 239, none, .no, .mv (.t 25)⟩,
  ⟨some 240, none, .no, .mv (.t 25)⟩,
  ⟨some 241, none, .no, .bin .quo .none (.t 240) (.v (.int .i64 (4)))⟩,
  ⟨some 242, none, .no, .iaArr 8 1 (.t 4) (.t 241)⟩,
  ⟨some 243, none, .no, .load false 1 (.t 242)⟩,
  ⟨some 244, none, .no, .mv (.t 25)⟩,
  ⟨some 245, none, .no, .bin .rem .none (.t 244) (.v (.int .i64 (4)))⟩,
  ⟨some 246, none, .no, .bin .mul .none (.v (.int .i64 (8))) (.t 245)⟩,
  ⟨some 247, none, .no, .bin .sub .none (.v (.int .i64 (24))) (.t 246)⟩,
  ⟨some 248, none, .no, .bin .shr .none (.t 243) (.t 247)⟩,
  ⟨some 249, none, .no, .conv (.int .u8) (.t 248)⟩,
  ⟨some 250, none, .no, .iaArr 32 1 (.t 24) (.t 239)⟩,
  ⟨none, none, .no, .store 1 (.t 250) (.t 249)⟩]
@[go_sem] def speculumref02_Sum_r68 : List AIns := [
  ⟨some 237, none, .no, .mv (.t 25)⟩,
  ⟨some 238, none, .no, .bin .add .none (.t 237) (.v (.int .i64 (1)))⟩,
  ⟨some 25, none, .no, .mv (.t 238)⟩]
def speculumref02_Sum_c69 : ACode := .seq (.block 9 (.reg speculumref02_Sum_r67)) (.reg speculumref02_Sum_r68)
def speculumref02_Sum_c70 : ACode := .seq speculumref02_Sum_c66 speculumref02_Sum_c69
def speculumref02_Sum_c71 : ACode := .loop speculumref02_Sum_c70
def speculumref02_Sum_c72 : ACode := .block 8 speculumref02_Sum_c71
def speculumref02_Sum_c73 : ACode := .seq (.reg speculumref02_Sum_r63) speculumref02_Sum_c72
@[go_sem] def speculumref02_Sum_r74 : List AIns := [
  ⟨some 251, none, .no, .load true 32 (.t 24)⟩,
  ⟨none, none, .no, .store 32 (.t 2) (.t 251)⟩]
def speculumref02_Sum_c75 : ACode := .seq (.reg speculumref02_Sum_r74) .ret
def speculumref02_Sum_c76 : ACode := .seq speculumref02_Sum_c73 speculumref02_Sum_c75
def speculumref02_Sum_c77 : ACode := .seq (.reg speculumref02_Sum_r62) speculumref02_Sum_c76
def speculumref02_Sum_c78 : ACode := .seq speculumref02_Sum_c61 speculumref02_Sum_c77
def speculumref02_Sum_c79 : ACode := .seq (.reg speculumref02_Sum_r4) speculumref02_Sum_c78
def speculumref02_Sum_c80 : ACode := .seq (.reg speculumref02_Sum_r3) speculumref02_Sum_c79
def speculumref02_Sum_c81 : ACode := .seq (.reg speculumref02_Sum_r2) speculumref02_Sum_c80
def speculumref02_Sum_c82 : ACode := .seq (.reg speculumref02_Sum_r1) speculumref02_Sum_c81
def speculumref02_Sum_c83 : ACode := .seq (.reg speculumref02_Sum_r0) speculumref02_Sum_c82
theorem speculumref02_Sum_ok : cFn TC 88 = some (252, [.c 2 true 32], speculumref02_Sum_c83) := by kernel_rfl

@[go_sem] def sha_Sum_r0 : List AIns := [
  ⟨some 2, none, .no, .alloc [(.int .u8 (0)), (.int .u8 (0)), (.int .u8 (0)), (.int .u8 (0)), (.int .u8 (0)), (.int .u8 (0)), (.int .u8 (0)), (.int .u8 (0)), (.int .u8 (0)), (.int .u8 (0)), (.int .u8 (0)), (.int .u8 (0)), (.int .u8 (0)), (.int .u8 (0)), (.int .u8 (0)), (.int .u8 (0)), (.int .u8 (0)), (.int .u8 (0)), (.int .u8 (0)), (.int .u8 (0)), (.int .u8 (0)), (.int .u8 (0)), (.int .u8 (0)), (.int .u8 (0)), (.int .u8 (0)), (.int .u8 (0)), (.int .u8 (0)), (.int .u8 (0)), (.int .u8 (0)), (.int .u8 (0)), (.int .u8 (0)), (.int .u8 (0))]⟩]
@[go_sem] def sha_Sum_r1 : List AIns := [
  ⟨some 8, none, .no, .load true 8 (.v (.vp gl_sha_first))⟩,
  ⟨some 3, none, .no, .alloc [(.int .u32 (0)), (.int .u32 (0)), (.int .u32 (0)), (.int .u32 (0)), (.int .u32 (0)), (.int .u32 (0)), (.int .u32 (0)), (.int .u32 (0))]⟩,
  ⟨none, none, .no, .store 8 (.t 3) (.t 8)⟩]
@[go_sem] def sha_Sum_r2 : List AIns := [
  ⟨some 9, none, .no, .mv (.t 0)⟩,
  ⟨some 10, none, .no, .call (.v (.fn 148 [])) [(.t 9)]⟩,
  ⟨some 4, none, .no, .mv (.t 10)⟩]
@[go_sem] def sha_Sum_r3 : List AIns := [
  ⟨some 11, none, .no, .mv (.t 4)⟩,
  ⟨some 12, none, .no, .bin .neq .none (.t 11) (.v (.str []))⟩]
def sha_Sum_c4 : ACode := .cond (.t 12) .skip (.exit 0)
def sha_Sum_c5 : ACode := .seq (.reg sha_Sum_r3) sha_Sum_c4
@[go_sem] def sha_Sum_r6 : List AIns := [
  ⟨some 15, none, .no, .load true 8 (.t 3)⟩,
  ⟨some 16, none, .no, .mv (.t 4)⟩,
  ⟨some 17, none, .no, .slice .str (.t 16) none (some (.v (.int .i64 (64)))) none⟩,
  ⟨some 18, none, .no, .call (.v (.fn 149 [])) [(.t 15), (.t 17)]⟩,
  ⟨none, none, .no, .store 8 (.t 3) (.t 18)⟩]
@[go_sem] def sha_Sum_r7 : List AIns := [
  ⟨some 13, none, .no, .mv (.t 4)⟩,
  ⟨some 14, none, .no, .slice .str (.t 13) (some (.v (.int .i64 (64)))) none none⟩,
  ⟨some 4, none, .no, .mv (.t 14)⟩]
def sha_Sum_c8 : ACode := .seq (.block 1 (.reg sha_Sum_r6)) (.reg sha_Sum_r7)
def sha_Sum_c9 : ACode := .seq sha_Sum_c5 sha_Sum_c8
def sha_Sum_c10 : ACode := .loop sha_Sum_c9
def sha_Sum_c11 : ACode := .block 0 sha_Sum_c10
def sha_Sum_c12 : ACode := .seq (.reg sha_Sum_r2) sha_Sum_c11
@[go_sem] def sha_Sum_r13 : List AIns := [
  ⟨some 5, none, .no, .alloc [(.int .u8 (0)), (.int .u8 (0)), (.int .u8 (0)), (.int .u8 (0)), (.int .u8 (0)), (.int .u8 (0)), (.int .u8 (0)), (.int .u8 (0)), (.int .u8 (0)), (.int .u8 (0)), (.int .u8 (0)), (.int .u8 (0)), (.int .u8 (0)), (.int .u8 (0)), (.int .u8 (0)), (.int .u8 (0)), (.int .u8 (0)), (.int .u8 (0)), (.int .u8 (0)), (.int .u8 (0)), (.int .u8 (0)), (.int .u8 (0)), (.int .u8 (0)), (.int .u8 (0)), (.int .u8 (0)), (.int .u8 (0)), (.int .u8 (0)), (.int .u8 (0)), (.int .u8 (0)), (.int .u8 (0)), (.int .u8 (0)), (.int .u8 (0))]⟩]
@[go_sem] def sha_Sum_r14 : List AIns := [
  ⟨some 19, none, .no, .load true 8 (.t 3)⟩,
  ⟨some 20, none, .no, .mv (.v (.int .i64 (0)))⟩]
@[go_sem] def sha_Sum_r15 : List AIns := [
  ⟨some 21, none, .no, .bin .lss .none (.t 20) (.v (.int .i64 (8)))⟩]
@[go_sem] def sha_Sum_r16 : List AIns := [
  ⟨some 22, none, .no, .mv (.t 20)⟩,
  ⟨some 23, none, .no, .ixArr 8 false 1 (.t 19) (.t 20)⟩,
  ⟨some 6, none, .no, .mv (.t 22)⟩,
  ⟨some 7, none, .no, .mv (.t 23)⟩]
@[go_sem] def sha_Sum_r17 : List AIns := [
  ⟨some 24, none, .no, .mv (.t 6)⟩,
  ⟨some 25, none, .no, .bin .mul .none (.v (.int .i64 (4))) (.t 24)⟩,
  ⟨some 26, none, .no, .slice (.arr 32 1) (.t 5) (some (.t 25)) none none⟩,
  ⟨some 27, none, .no, .mv (.t 7)⟩,
  ⟨some 28, none, .no, .conv (.int .u64) (.t 27)⟩,
  ⟨some 29, none, .no, .call (.v (.fn 127 [])) [(.t 28), (.v (.int .i64 (4)))]⟩,
  ⟨some 30, none, .no, .copy 1 (.t 26) (.t 29)⟩]
def sha_Sum_c18 : ACode := .seq (.reg sha_Sum_r16) (.reg sha_Sum_r17)
@[go_sem] def sha_Sum_r19 : List AIns := [
  ⟨some 31, none, .no, .bin .add .none (.t 20) (.v (.int .i64 (1)))⟩,
  ⟨some 20, none, .no, .mv (.t 31)⟩]
def sha_Sum_c20 : ACode := .seq (.block 3 sha_Sum_c18) (.reg sha_Sum_r19)
def sha_Sum_c21 : ACode := .seq (.cond (.t 21) .skip (.exit 2)) sha_Sum_c20
def sha_Sum_c22 : ACode := .seq (.reg sha_Sum_r15) sha_Sum_c21
def sha_Sum_c23 : ACode := .loop sha_Sum_c22
def sha_Sum_c24 : ACode := .block 2 sha_Sum_c23
def sha_Sum_c25 : ACode := .seq (.reg sha_Sum_r14) sha_Sum_c24
@[go_sem] def sha_Sum_r26 : List AIns := [
  ⟨some 32, none, .no, .load true 32 (.t 5)⟩,
  ⟨none, none, .no, .store 32 (.t 2) (.t 32)⟩]
def sha_Sum_c27 : ACode := .seq (.reg sha_Sum_r26) .ret
def sha_Sum_c28 : ACode := .seq sha_Sum_c25 sha_Sum_c27
def sha_Sum_c29 : ACode := .seq (.reg sha_Sum_r13) sha_Sum_c28
def sha_Sum_c30 : ACode := .seq sha_Sum_c12 sha_Sum_c29
def sha_Sum_c31 : ACode := .seq (.reg sha_Sum_r1) sha_Sum_c30
def sha_Sum_c32 : ACode := .seq (.reg sha_Sum_r0) sha_Sum_c31
theorem sha_Sum_ok : cFn TC 95 = some (33, [.c 2 true 32], sha_Sum_c32) := by kernel_rfl

@[go_sem] def speculumref02_pad_r0 : List AIns := [
  ⟨some 2, none, .no, .mv (.v .nilsl)⟩]
@[go_sem] def speculumref02_pad_r1 : List AIns := [
  ⟨some 6, none, .no, .mv (.t 0)⟩,
  ⟨some 7, none, .no, .conv .bytes (.t 6)⟩,
  ⟨some 8, none, .no, .lit 1 [(.v (.int .u8 (128)))]⟩,
  ⟨some 9, none, .no, .appB (.t 7) (.t 8)⟩,
  ⟨some 3, none, .no, .mv (.t 9)⟩]
@[go_sem] def speculumref02_pad_r2 : List AIns := [
  ⟨some 10, none, .no, .mv (.t 3)⟩,
  ⟨some 11, none, .no, .lenSl (.t 10)⟩,
  ⟨some 12, none, .no, .bin .rem .none (.t 11) (.v (.int .i64 (64)))⟩,
  ⟨some 13, none, .no, .bin .neq .none (.t 12) (.v (.int .i64 (56)))⟩]
def speculumref02_pad_c3 : ACode := .cond (.t 13) .skip (.exit 0)
def speculumref02_pad_c4 : ACode := .seq (.reg speculumref02_pad_r2) speculumref02_pad_c3
@[go_sem] def speculumref02_pad_r5 : List AIns := [
  ⟨some 14, none, .no, .mv (.t 3)⟩,
  ⟨some 15, none, .no, .lit 1 [(.v (.int .u8 (0)))]⟩,
  ⟨some 16, none, .no, .appB (.t 14) (.t 15)⟩,
  ⟨some 3, none, .no, .mv (.t 16)⟩]
def speculumref02_pad_c6 : ACode := .block 1 (.reg speculumref02_pad_r5)
def speculumref02_pad_c7 : ACode := .seq speculumref02_pad_c4 speculumref02_pad_c6
def speculumref02_pad_c8 : ACode := .loop speculumref02_pad_c7
@[go_sem] def speculumref02_pad_r9 : List AIns := [
  ⟨some 17, none, .no, .mv (.t 0)⟩,
  ⟨some 18, none, .no, .lenStr (.t 17)⟩,
  ⟨some 19, none, .no, .conv (.int .u64) (.t 18)⟩,
  ⟨some 20, none, .no, .bin .mul .none (.t 19) (.v (.int .u64 (8)))⟩,
  ⟨some 4, none, .no, .mv (.t 20)⟩]
@[go_sem] def speculumref02_pad_r10 : List AIns := [
  ⟨some 5, none, .no, .mv (.v (.int .i64 (7)))⟩]
@[go_sem] def speculumref02_pad_r11 : List AIns := [
  ⟨some 21, none, .no, .mv (.t 5)⟩,
  ⟨some 22, none, .no, .bin .geq .none (.t 21) (.v (.int .i64 (0)))⟩]
def speculumref02_pad_c12 : ACode := .cond (.t 22) .skip (.exit 2)
def speculumref02_pad_c13 : ACode := .seq (.reg speculumref02_pad_r11) speculumref02_pad_c12
@[go_sem] def speculumref02_pad_r14 : List AIns := [
  ⟨some 25, none, .no, .mv (.t 3)⟩,
  ⟨some 26, none, .no, .mv (.t 4)⟩,
  ⟨some 27, none, .no, .mv (.t 5)⟩,
  ⟨some 28, none, .no, .bin .mul .none (.v (.int .i64 (8))) (.t 27)⟩,
  ⟨some 29, none, .no, .bin .shr .none (.t 26) (.t 28)⟩,
  ⟨some 30, none, .no, .conv (.int .u8) (.t 29)⟩,
  ⟨some 31, none, .no, .lit 1 [(.t 30)]⟩,
  ⟨some 32, none, .no, .appB (.t 25) (.t 31)⟩,
  ⟨some 3, none, .no, .mv (.t 32)⟩]
@[go_sem] def speculumref02_pad_r15 : List AIns := [
  ⟨some 23, none, .no, .mv (.t 5)⟩,
  ⟨some 24, none, .no, .bin .sub .none (.t 23) (.v (.int .i64 (1)))⟩,
  ⟨some 5, none, .no, .mv (.t 24)⟩]
def speculumref02_pad_c16 : ACode := .seq (.block 3 (.reg speculumref02_pad_r14)) (.reg speculumref02_pad_r15)
def speculumref02_pad_c17 : ACode := .seq speculumref02_pad_c13 speculumref02_pad_c16
def speculumref02_pad_c18 : ACode := .loop speculumref02_pad_c17
def speculumref02_pad_c19 : ACode := .block 2 speculumref02_pad_c18
def speculumref02_pad_c20 : ACode := .seq (.reg speculumref02_pad_r10) speculumref02_pad_c19
@[go_sem] def speculumref02_pad_r21 : List AIns := [
  ⟨some 33, none, .no, .mv (.t 3)⟩,
  ⟨some 2, none, .no, .mv (.t 33)⟩]
def speculumref02_pad_c22 : ACode := .seq (.reg speculumref02_pad_r21) .ret
def speculumref02_pad_c23 : ACode := .seq speculumref02_pad_c20 speculumref02_pad_c22
def speculumref02_pad_c24 : ACode := .seq (.reg speculumref02_pad_r9) speculumref02_pad_c23
def speculumref02_pad_c25 : ACode := .seq (.block 0 speculumref02_pad_c8) speculumref02_pad_c24
def speculumref02_pad_c26 : ACode := .seq (.reg speculumref02_pad_r1) speculumref02_pad_c25
def speculumref02_pad_c27 : ACode := .seq (.reg speculumref02_pad_r0) speculumref02_pad_c26
theorem speculumref02_pad_ok : cFn TC 145 = some (34, [.t 2], speculumref02_pad_c27) := by kernel_rfl

@[go_sem] def speculumref02_turn_r0 : List AIns := [
  ⟨some 4, none, .no, .mv (.v (.int .u32 (0)))⟩]
@[go_sem] def speculumref02_turn_r1 : List AIns := [
  ⟨some 5, none, .no, .mv (.t 0)⟩,
  ⟨some 6, none, .no, .mv (.t 1)⟩,
  ⟨some 7, none, .no, .bin .shr .none (.t 5) (.t 6)⟩,
  ⟨some 8, none, .no, .mv (.t 0)⟩,
  ⟨some 9, none, .no, .mv (.t 1)⟩,
  ⟨some 10, none, .no, .bin .sub .none (.v (.int .u32 (32))) (.t 9)⟩,
  ⟨some 11, none, .no, .bin .shl .none (.t 8) (.t 10)⟩,
  ⟨some 12, none, .no, .bin .or .none (.t 7) (.t 11)⟩,
  ⟨some 4, none, .no, .mv (.t 12)⟩]
def speculumref02_turn_c2 : ACode := .seq (.reg speculumref02_turn_r1) .ret
def speculumref02_turn_c3 : ACode := .seq (.reg speculumref02_turn_r0) speculumref02_turn_c2
theorem speculumref02_turn_ok : cFn TC 146 = some (13, [.t 4], speculumref02_turn_c3) := by kernel_rfl

@[go_sem] def sha_filled_r0 : List AIns := [
  ⟨some 2, none, .no, .mv (.v (.str []))⟩]
@[go_sem] def sha_filled_r1 : List AIns := [
  ⟨some 4, none, .no, .mv (.t 0)⟩,
  ⟨some 5, none, .no, .lenStr (.t 4)⟩,
  ⟨some 6, none, .no, .bin .rem .none (.t 5) (.v (.int .i64 (64)))⟩,
  ⟨some 7, none, .no, .bin .sub .none (.v (.int .i64 (119))) (.t 6)⟩,
  ⟨some 8, none, .no, .bin .rem .none (.t 7) (.v (.int .i64 (64)))⟩,
  ⟨some 3, none, .no, .mv (.t 8)⟩]
@[go_sem] def sha_filled_r2 : List AIns := [
  ⟨some 9, none, .no, .mv (.t 0)⟩,
  ⟨some 10, none, .no, .bin .add .none (.t 9) (.v (.str [128]))⟩,
  ⟨some 11, none, .no, .mv (.t 3)⟩,
  ⟨some 12, none, .no, .call (.v (.fn 169 [])) [(.v (.str [0])), (.t 11)]⟩,
  ⟨some 13, none, .no, .bin .add .none (.t 10) (.t 12)⟩,
  ⟨some 14, none, .no, .mv (.t 0)⟩,
  ⟨some 15, none, .no, .lenStr (.t 14)⟩,
  ⟨some 16, none, .no, .conv (.int .u64) (.t 15)⟩,
  ⟨some 17, none, .no, .bin .mul .none (.t 16) (.v (.int .u64 (8)))⟩,
  ⟨some 18, none, .no, .call (.v (.fn 127 [])) [(.t 17), (.v (.int .i64 (8)))]⟩,
  ⟨some 19, none, .no, .bin .add .none (.t 13) (.t 18)⟩,
  ⟨some 2, none, .no, .mv (.t 19)⟩]
def sha_filled_c3 : ACode := .seq (.reg sha_filled_r2) .ret
def sha_filled_c4 : ACode := .seq (.reg sha_filled_r1) sha_filled_c3
def sha_filled_c5 : ACode := .seq (.reg sha_filled_r0) sha_filled_c4
theorem sha_filled_ok : cFn TC 148 = some (20, [.t 2], sha_filled_c5) := by kernel_rfl

@[go_sem] def sha_mix_r0 : List AIns := [
  ⟨some 2, none, .no, .box (.t 0)⟩,
  ⟨some 4, none, .no, .alloc [(.int .u32 (0)), (.int .u32 (0)), (.int .u32 (0)), (.int .u32 (0)), (.int .u32 (0)), (.int .u32 (0)), (.int .u32 (0)), (.int .u32 (0))]⟩]
@[go_sem] def sha_mix_r1 : List AIns := [
  ⟨some 13, none, .no, .load true 8 (.t 2)⟩,
  ⟨some 5, none, .no, .alloc [(.int .u32 (0)), (.int .u32 (0)), (.int .u32 (0)), (.int .u32 (0)), (.int .u32 (0)), (.int .u32 (0)), (.int .u32 (0)), (.int .u32 (0))]⟩,
  ⟨none, none, .no, .store 8 (.t 5) (.t 13)⟩]
@[go_sem] def sha_mix_r2 : List AIns := [
  ⟨some 14, none, .no, .mv (.t 1)⟩,
  ⟨some 15, none, .no, .call (.v (.fn 170 [])) [(.t 14)]⟩,
  ⟨some 16, none, .no, .mv (.v (.int .i64 (0)))⟩]
@[go_sem] def sha_mix_r3 : List AIns := [
  ⟨some 17, none, .no, .bin .lss .none (.t 16) (.v (.int .i64 (64)))⟩]
@[go_sem] def sha_mix_r4 : List AIns := [
  ⟨some 18, none, .no, .mv (.t 16)⟩,
  ⟨some 19, none, .no, .ixArr 64 false 1 (.t 15) (.t 16)⟩,
  ⟨some 6, none, .no, .mv (.t 18)⟩,
  ⟨some 7, none, .no, .mv (.t 19)⟩]
@[go_sem] def sha_mix_r5 : List AIns := [
  ⟨some 20, none, .no, .iaArr 8 1 (.t 5) (.v (.int .i64 (0)))⟩,
  ⟨some 21, none, .rd, .load false 1 (.t 20)⟩,
  ⟨some 22, none, .no, .iaArr 8 1 (.t 5) (.v (.int .i64 (4)))⟩,
  ⟨some 23, none, .rd, .load false 1 (.t 22)⟩,
  ⟨some 8, none, .no, .mv (.t 21)⟩,
  ⟨some 9, none, .no, .mv (.t 23)⟩]
@[go_sem] def sha_mix_r6 : List AIns := [
  ⟨some 24, none, .no, .iaArr 8 1 (.t 5) (.v (.int .i64 (7)))⟩,
  ⟨some 25, none, .rd, .load false 1 (.t 24)⟩,
  ⟨some 26, none, .no, .mv (.t 9)⟩,
  ⟨some 27, none, .ef, .call (.v (.fn 171 [])) [(.t 26), (.v (.int .i64 (6)))]⟩,
  ⟨some 28, none, .no, .mv (.t 9)⟩,
  ⟨some 29, none, .ef, .call (.v (.fn 171 [])) [(.t 28), (.v (.int .i64 (11)))]⟩,
  ⟨some 30, none, .no, .bin .xor .none (.t 27) (.t 29)⟩,
  ⟨some 31, none, .no, .mv (.t 9)⟩,
  ⟨some 32, none, .ef, .call (.v (.fn 171 [])) [(.t 31), (.v (.int .i64 (25)))]⟩,
  ⟨some 33, none, .no, .bin .xor .none (.t 30) (.t 32)⟩,
  ⟨some 34, none, .no, .bin .add .none (.t 25) (.t 33)⟩,
  ⟨some 35, none, .no, .mv (.t 9)⟩,
  ⟨some 36, none, .no, .iaArr 8 1 (.t 5) (.v (.int .i64 (5)))⟩,
  ⟨some 37, none, .rd, .load false 1 (.t 36)⟩,
  ⟨some 38, none, .no, .bin .and .none (.t 35) (.t 37)⟩,
  ⟨some 39, none, .no, .mv (.t 9)⟩,
  ⟨some 40, none, .no, .un .xor (.t 39)⟩,
  ⟨some 41, none, .no, .iaArr 8 1 (.t 5) (.v (.int .i64 (6)))⟩,
  ⟨some 42, none, .rd, .load false 1 (.t 41)⟩,
  ⟨some 43, none, .no, .bin .and .none (.t 40) (.t 42)⟩,
  ⟨some 44, none, .no, .bin .xor .none (.t 38) (.t 43)⟩,
  ⟨some 45, none, .no, .bin .add .none (.t 34) (.t 44)⟩,
  ⟨some 46, none, .no, .mv (.t 6)⟩,
  ⟨some 47, none, .no, .iaArr 64 1 (.v (.vp gl_sha_rounds)) (.t 46)⟩,
  ⟨some 48, none, .rd, .load false 1 (.t 47)⟩,
  ⟨some 49, none, .no, .bin .add .none (.t 45) (.t 48)⟩,
  ⟨some 50, none, .no, .mv (.t 7)⟩,
  ⟨some 51, none, .no, .bin .add .none (.t 49) (.t 50)⟩,
  ⟨some 10, none, .no, .mv (.t 51)⟩]
@[go_sem] def sha_mix_r7 : List AIns := [
  ⟨some 52, none, .no, .mv (.t 8)⟩,
  ⟨some 53, none, .ef, .call (.v (.fn 171 [])) [(.t 52), (.v (.int .i64 (2)))]⟩,
  ⟨some 54, none, .no, .mv (.t 8)⟩,
  ⟨some 55, none, .ef, .call (.v (.fn 171 [])) [(.t 54), (.v (.int .i64 (13)))]⟩,
  ⟨some 56, none, .no, .bin .xor .none (.t 53) (.t 55)⟩,
  ⟨some 57, none, .no, .mv (.t 8)⟩,
  ⟨some 58, none, .ef, .call (.v (.fn 171 [])) [(.t 57), (.v (.int .i64 (22)))]⟩,
  ⟨some 59, none, .no, .bin .xor .none (.t 56) (.t 58)⟩,
  ⟨some 60, none, .no, .mv (.t 8)⟩,
  ⟨some 61, none, .no, .iaArr 8 1 (.t 5) (.v (.int .i64 (1)))⟩,
  ⟨some 62, none, .rd, .load false 1 (.t 61)⟩,
  ⟨some 63, none, .no, .bin .and .none (.t 60) (.t 62)⟩,
  ⟨some 64, none, .no, .mv (.t 8)⟩,
  ⟨some 65, none, .no, .iaArr 8 1 (.t 5) (.v (.int .i64 (2)))⟩,
  ⟨some 66, none, .rd, .load false 1 (.t 65)⟩,
  ⟨some 67, none, .no, .bin .and .none (.t 64) (.t 66)⟩,
  ⟨some 68, none, .no, .bin .xor .none (.t 63) (.t 67)⟩,
  ⟨some 69, none, .no, .iaArr 8 1 (.t 5) (.v (.int .i64 (1)))⟩,
  ⟨some 70, none, .rd, .load false 1 (.t 69)⟩,
  ⟨some 71, none, .no, .iaArr 8 1 (.t 5) (.v (.int .i64 (2)))⟩,
  ⟨some 72, none, .rd, .load false 1 (.t 71)⟩,
  ⟨some 73, none, .no, .bin .and .none (.t 70) (.t 72)⟩,
  ⟨some 74, none, .no, .bin .xor .none (.t 68) (.t 73)⟩,
  ⟨some 75, none, .no, .bin .add .none (.t 59) (.t 74)⟩,
  ⟨some 11, none, .no, .mv (.t 75)⟩]
@[go_sem] def sha_mix_r8 : List AIns := [
  ⟨some 76, none, .no, .mv (.t 10)⟩,
  ⟨some 77, none, .no, .mv (.t 11)⟩,
  ⟨some 78, none, .no, .bin .add .none (.t 76) (.t 77)⟩,
  ⟨some 79, none, .no, .mv (.t 8)⟩,
  ⟨some 80, none, .no, .iaArr 8 1 (.t 5) (.v (.int .i64 (1)))⟩,
  ⟨some 81, none, .no, .load false 1 (.t 80)⟩,
  ⟨some 82, none, .no, .iaArr 8 1 (.t 5) (.v (.int .i64 (2)))⟩,
  ⟨some 83, none, .no, .load false 1 (.t 82)⟩,
  ⟨some 84, none, .no, .iaArr 8 1 (.t 5) (.v (.int .i64 (3)))⟩,
  ⟨some 85, none, .no, .load false 1 (.t 84)⟩,
  ⟨some 86, none, .no, .mv (.t 10)⟩,
  ⟨some 87, none, .no, .bin .add .none (.t 85) (.t 86)⟩,
  ⟨some 88, none, .no, .mv (.t 9)⟩,
  ⟨some 89, none, .no, .iaArr 8 1 (.t 5) (.v (.int .i64 (5)))⟩,
  ⟨some 90, none, .no, .load false 1 (.t 89)⟩,
  ⟨some 91, none, .no, .iaArr 8 1 (.t 5) (.v (.int .i64 (6)))⟩,
  ⟨some 92, none, .no, .load false 1 (.t 91)⟩,
  ⟨some 93, none, .no, .build [(.int .u32 (0)), (.int .u32 (0)), (.int .u32 (0)), (.int .u32 (0)), (.int .u32 (0)), (.int .u32 (0)), (.int .u32 (0)), (.int .u32 (0))] [(0, 1, (.t 78)), (1, 1, (.t 79)), (2, 1, (.t 81)), (3, 1, (.t 83)), (4, 1, (.t 87)), (5, 1, (.t 88)), (6, 1, (.t 90)), (7, 1, (.t 92))]⟩,
  ⟨none, none, .no, .store 8 (.t 5) (.t 93)⟩]
def sha_mix_c9 : ACode := .seq (.reg sha_mix_r7) (.reg sha_mix_r8)
def sha_mix_c10 : ACode := .seq (.reg sha_mix_r6) sha_mix_c9
def sha_mix_c11 : ACode := .seq (.reg sha_mix_r5) sha_mix_c10
def sha_mix_c12 : ACode := .seq (.reg sha_mix_r4) sha_mix_c11
@[go_sem] def sha_mix_r13 : List AIns := [
  ⟨some 94, none, .no, .bin .add .none (.t 16) (.v (.int .i64 (1)))⟩,
  ⟨some 16, none, .no, .mv (.t 94)⟩]
def sha_mix_c14 : ACode := .seq (.block 1 sha_mix_c12) (.reg sha_mix_r13)
def sha_mix_c15 : ACode := .seq (.cond (.t 17) .skip (.exit 0)) sha_mix_c14
def sha_mix_c16 : ACode := .seq (.reg sha_mix_r3) sha_mix_c15
def sha_mix_c17 : ACode := .loop sha_mix_c16
def sha_mix_c18 : ACode := .block 0 sha_mix_c17
def sha_mix_c19 : ACode := .seq (.reg sha_mix_r2) sha_mix_c18
@[go_sem] def sha_mix_r20 : List AIns := [
  ⟨some 95, none, .no, .mv (.v (.int .i64 (0)))⟩]
@[go_sem] def sha_mix_r21 : List AIns := [
  ⟨some 96, none, .no, .bin .lss .none (.t 95) (.v (.int .i64 (8)))⟩]
@[go_sem] def sha_mix_r22 : List AIns := [
  ⟨some 97, none, .no, .mv (.t 95)⟩,
  ⟨some 12, none, .no, .mv (.t 97)⟩]
@[go_sem] def sha_mix_r23 : List AIns := [
  ⟨some 98, none, .no, .mv (.t 12)⟩,
  ⟨some 99, none, .no, .iaArr 8 1 (.t 5) (.t 98)⟩,
  ⟨some 100, none, .rd, .load false 1 (.t 99)⟩,
  ⟨some 101, none, .no, .mv (.t 12)⟩,
  ⟨some 102, none, .no, .iaArr 8 1 (.t 2) (.t 101)⟩,
  ⟨some 103, none, .rd, .load false 1 (.t 102)⟩,
  ⟨some 104, none, .no, .bin .add .none (.t 100) (.t 103)⟩,
  ⟨some 105, none, .no, .iaArr 8 1 (.t 5) (.t 98)⟩,
  ⟨none, none, .no, .store 1 (.t 105) (.t 104)⟩]
def sha_mix_c24 : ACode := .seq (.reg sha_mix_r22) (.reg sha_mix_r23)
@[go_sem] def sha_mix_r25 : List AIns := [
  ⟨some 106, none, .no, .bin .add .none (.t 95) (.v (.int .i64 (1)))⟩,
  ⟨some 95, none, .no, .mv (.t 106)⟩]
def sha_mix_c26 : ACode := .seq (.block 3 sha_mix_c24) (.reg sha_mix_r25)
def sha_mix_c27 : ACode := .seq (.cond (.t 96) .skip (.exit 2)) sha_mix_c26
def sha_mix_c28 : ACode := .seq (.reg sha_mix_r21) sha_mix_c27
def sha_mix_c29 : ACode := .loop sha_mix_c28
def sha_mix_c30 : ACode := .block 2 sha_mix_c29
def sha_mix_c31 : ACode := .seq (.reg sha_mix_r20) sha_mix_c30
@[go_sem] def sha_mix_r32 : List AIns := [
  ⟨some 107, none, .no, .load true 8 (.t 5)⟩,
  ⟨none, none, .no, .store 8 (.t 4) (.t 107)⟩]
def sha_mix_c33 : ACode := .seq (.reg sha_mix_r32) .ret
def sha_mix_c34 : ACode := .seq sha_mix_c31 sha_mix_c33
def sha_mix_c35 : ACode := .seq sha_mix_c19 sha_mix_c34
def sha_mix_c36 : ACode := .seq (.reg sha_mix_r1) sha_mix_c35
def sha_mix_c37 : ACode := .seq (.reg sha_mix_r0) sha_mix_c36
theorem sha_mix_ok : cFn TC 149 = some (108, [.c 4 true 8], sha_mix_c37) := by kernel_rfl

@[go_sem] def sha_spread_r0 : List AIns := [
  ⟨some 2, none, .no, .alloc [(.int .u32 (0)), (.int .u32 (0)), (.int .u32 (0)), (.int .u32 (0)), (.int .u32 (0)), (.int .u32 (0)), (.int .u32 (0)), (.int .u32 (0)), (.int .u32 (0)), (.int .u32 (0)), (.int .u32 (0)), (.int .u32 (0)), (.int .u32 (0)), (.int .u32 (0)), (.int .u32 (0)), (.int .u32 (0)), (.int .u32 (0)), (.int .u32 (0)), (.int .u32 (0)), (.int .u32 (0)), (.int .u32 (0)), (.int .u32 (0)), (.int .u32 (0)), (.int .u32 (0)), (.int .u32 (0)), (.int .u32 (0)), (.int .u32 (0)), (.int .u32 (0)), (.int .u32 (0)), (.int .u32 (0)), (.int .u32 (0)), (.int .u32 (0)), (.int .u32 (0)), (.int .u32 (0)), (.int .u32 (0)), (.int .u32 (0)), (.int .u32 (0)), (.int .u32 (0)), (.int .u32 (0)), (.int .u32 (0)), (.int .u32 (0)), (.int .u32 (0)), (.int .u32 (0)), (.int .u32 (0)), (.int .u32 (0)), (.int .u32 (0)), (.int .u32 (0)), (.int .u32 (0)), (.int .u32 (0)), (.int .u32 (0)), (.int .u32 (0)), (.int .u32 (0)), (.int .u32 (0)), (.int .u32 (0)), (.int .u32 (0)), (.int .u32 (0)), (.int .u32 (0)), (.int .u32 (0)), (.int .u32 (0)), (.int .u32 (0)), (.int .u32 (0)), (.int .u32 (0)), (.int .u32 (0)), (.int .u32 (0))]⟩]
@[go_sem] def sha_spread_r1 : List AIns := [
  ⟨some 6, none, .no, .mv (.v (.int .i64 (0)))⟩]
@[go_sem] def sha_spread_r2 : List AIns := [
  ⟨some 7, none, .no, .bin .lss .none (.t 6) (.v (.int .i64 (64)))⟩]
@[go_sem] def sha_spread_r3 : List AIns := [
  ⟨some 8, none, .no, .mv (.t 6)⟩,
  ⟨some 3, none, .no, .mv (.t 8)⟩]
@[go_sem] def sha_spread_r4 : List AIns := [
  ⟨some 9, none, .no, .mv (.t 3)⟩,
  ⟨some 10, none, .no, .bin .lss .none (.t 9) (.v (.int .i64 (16)))⟩]
@[go_sem] def sha_spread_r5 : List AIns := [
  ⟨some 11, none, .no, .mv (.t 3)⟩,
  ⟨some 12, none, .no, .mv (.t 0)⟩,
  ⟨some 13, none, .no, .mv (.t 3)⟩,
  ⟨some 14, none, .no, .bin .mul .none (.v (.int .i64 (4))) (.t 13)⟩,
  ⟨some 15, none, .no, .mv (.t 3)⟩,
  ⟨some 16, none, .no, .bin .mul .none (.v (.int .i64 (4))) (.t 15)⟩,
  ⟨some 17, none, .no, .bin .add .none (.t 16) (.v (.int .i64 (4)))⟩,
  ⟨some 18, none, .no, .slice .str (.t 12) (some (.t 14)) (some (.t 17)) none⟩,
  ⟨some 19, none, .no, .call (.v (.fn 177 [])) [(.t 18)]⟩,
  ⟨some 20, none, .no, .conv (.int .u32) (.t 19)⟩,
  ⟨some 21, none, .no, .iaArr 64 1 (.t 2) (.t 11)⟩,
  ⟨none, none, .no, .store 1 (.t 21) (.t 20)⟩]
def sha_spread_c6 : ACode := .seq (.reg sha_spread_r5) (.exit 1)
def sha_spread_c7 : ACode := .cond (.t 10) sha_spread_c6 .skip
def sha_spread_c8 : ACode := .seq (.reg sha_spread_r4) sha_spread_c7
@[go_sem] def sha_spread_r9 : List AIns := [
  ⟨some 22, none, .no, .mv (.t 3)⟩,
  ⟨some 23, none, .no, .bin .sub .none (.t 22) (.v (.int .i64 (15)))⟩,
  ⟨some 24, none, .no, .iaArr 64 1 (.t 2) (.t 23)⟩,
  ⟨some 25, none, .rd, .load false 1 (.t 24)⟩,
  ⟨some 26, none, .no, .mv (.t 3)⟩,
  ⟨some 27, none, .no, .bin .sub .none (.t 26) (.v (.int .i64 (2)))⟩,
  ⟨some 28, none, .no, .iaArr 64 1 (.t 2) (.t 27)⟩,
  ⟨some 29, none, .rd, .load false 1 (.t 28)⟩,
  ⟨some 4, none, .no, .mv (.t 25)⟩,
  ⟨some 5, none, .no, .mv (.t 29)⟩]
@[go_sem] def sha_spread_r10 : List AIns := [
  ⟨some 30, none, .no, .mv (.t 3)⟩,
  ⟨some 31, none, .no, .mv (.t 3)⟩,
  ⟨some 32, none, .no, .bin .sub .none (.t 31) (.v (.int .i64 (16)))⟩,
  ⟨some 33, none, .no, .iaArr 64 1 (.t 2) (.t 32)⟩,
  ⟨some 34, none, .rd, .load false 1 (.t 33)⟩,
  ⟨some 35, none, .no, .mv (.t 3)⟩,
  ⟨some 36, none, .no, .bin .sub .none (.t 35) (.v (.int .i64 (7)))⟩,
  ⟨some 37, none, .no, .iaArr 64 1 (.t 2) (.t 36)⟩,
  ⟨some 38, none, .rd, .load false 1 (.t 37)⟩,
  ⟨some 39, none, .no, .bin .add .none (.t 34) (.t 38)⟩,
  ⟨some 40, none, .no, .mv (.t 4)⟩,
  ⟨some 41, none, .ef, .call (.v (.fn 171 [])) [(.t 40), (.v (.int .i64 (7)))]⟩,
  ⟨some 42, none, .no, .mv (.t 4)⟩,
  ⟨some 43, none, .ef, .call (.v (.fn 171 [])) [(.t 42), (.v (.int .i64 (18)))]⟩,
  ⟨some 44, none, .no, .bin .xor .none (.t 41) (.t 43)⟩,
  ⟨some 45, none, .no, .mv (.t 4)⟩,
  ⟨some 46, none, .no, .bin .shr .none (.t 45) (.v (.int .u64 (3)))⟩,
  ⟨some 47, none, .no, .bin .xor .none (.t 44) (.t 46)⟩,
  ⟨some 48, none, .no, .bin .add .none (.t 39) (.t 47)⟩,
  ⟨some 49, none, .no, .mv (.t 5)⟩,
  ⟨some 50, none, .ef, .call (.v (.fn 171 [])) [(.t 49), (.v (.int .i64 (17)))]⟩,
  ⟨some 51, none, .no, .mv (.t 5)⟩,
  ⟨some 52, none, .ef, .call (.v (.fn 171 [])) [(.t 51), (.v (.int .i64 (19)))]⟩,
  ⟨some 53, none, .no, .bin .xor .none (.t 50) (.t 52)⟩,
  ⟨some 54, none, .no, .mv (.t 5)⟩,
  ⟨some 55, none, .no, .bin .shr .none (.t 54) (.v (.int .u64 (10)))⟩,
  ⟨some 56, none, .no, .bin .xor .none (.t 53) (.t 55)⟩,
  ⟨some 57, none, .no, .bin .add .none (.t 48) (.t 56)⟩,
  ⟨some 58, none, .no, .iaArr 64 1 (.t 2) (.t 30)⟩,
  ⟨none, none, .no, .store 1 (.t 58) (.t 57)⟩]
def sha_spread_c11 : ACode := .seq (.reg sha_spread_r9) (.reg sha_spread_r10)
def sha_spread_c12 : ACode := .seq sha_spread_c8 sha_spread_c11
def sha_spread_c13 : ACode := .seq (.reg sha_spread_r3) sha_spread_c12
@[go_sem] def sha_spread_r14 : List AIns := [
  ⟨some 59, none, .no, .bin .add .none (.t 6) (.v (.int .i64 (1)))⟩,
  ⟨some 6, none, .no, .mv (.t 59)⟩]
def sha_spread_c15 : ACode := .seq (.block 1 sha_spread_c13) (.reg sha_spread_r14)
def sha_spread_c16 : ACode := .seq (.cond (.t 7) .skip (.exit 0)) sha_spread_c15
def sha_spread_c17 : ACode := .seq (.reg sha_spread_r2) sha_spread_c16
def sha_spread_c18 : ACode := .loop sha_spread_c17
def sha_spread_c19 : ACode := .block 0 sha_spread_c18
def sha_spread_c20 : ACode := .seq (.reg sha_spread_r1) sha_spread_c19
@[go_sem] def sha_spread_r21 : List AIns := [
  ⟨some 60, none, .no, .load true 64 (.t 2)⟩,
  ⟨none, none, .no, .store 64 (.t 2) (.t 60)⟩]
def sha_spread_c22 : ACode := .seq (.reg sha_spread_r21) .ret
def sha_spread_c23 : ACode := .seq sha_spread_c20 sha_spread_c22
def sha_spread_c24 : ACode := .seq (.reg sha_spread_r0) sha_spread_c23
theorem sha_spread_ok : cFn TC 170 = some (61, [.c 2 true 64], sha_spread_c24) := by kernel_rfl
end Am
end Go.Proofs.YthgcooppjhcgcaaDoor
end
section
set_option linter.unusedSimpArgs false
set_option linter.unusedVariables false
/- SHA-256 in plain Lean, and words of 32 bits as_ the machine has them. -/
set_option linter.unusedSimpArgs false
set_option linter.unusedVariables false
namespace Go.Proofs.YthgcooppjhcgcaaDoor
namespace Am
abbrev W := BitVec 32
def wc (x : W) : AV := .int .u32 x.toNat
def ws (l : List W) : List AV := l.map wc
def ss0 (x : W) : W := (x.rotateLeft 25 ^^^ x.rotateLeft 14) ^^^ x >>> 3
def ss1 (y : W) : W := (y.rotateLeft 15 ^^^ y.rotateLeft 13) ^^^ y >>> 10
def bs1 (e : W) : W := (e.rotateLeft 26 ^^^ e.rotateLeft 21) ^^^ e.rotateLeft 7
def bs0 (a : W) : W := (a.rotateLeft 30 ^^^ a.rotateLeft 19) ^^^ a.rotateLeft 10
def chW (e f g : W) : W := (e &&& f) ^^^ (~~~e &&& g)
def majW (a b c : W) : W := ((a &&& b) ^^^ (a &&& c)) ^^^ (b &&& c)
def wordS (s : List UInt8) (i : Nat) : W := BitVec.ofNat 32 (getS ((s.drop (4 * i)).take 4))
def wat (w : List W) (i : Nat) : W := w.getD i 0
def sNext (s : List UInt8) (w : List W) : W :=
  if w.length < 16 then wordS s w.length else wat w (w.length - 16) + wat w (w.length - 7) + ss0 (wat w (w.length - 15)) + ss1 (wat w (w.length - 2))
def sched (s : List UInt8) : Nat → List W
  | 0 => []
  | n + 1 => sched s n ++ [sNext s (sched s n)]
structure V8 where
  a : W
  b : W
  c : W
  d : W
  e : W
  f : W
  g : W
  h : W
def V8.l (v : V8) : List W := [v.a, v.b, v.c, v.d, v.e, v.f, v.g, v.h]
def rnd (v : V8) (k w : W) : V8 :=
  ⟨(v.h + bs1 v.e + chW v.e v.f v.g + k + w) + (bs0 v.a + majW v.a v.b v.c), v.a, v.b, v.c, v.d + (v.h + bs1 v.e + chW v.e v.f v.g + k + w), v.e, v.f, v.g⟩
def kAt (n : Nat) : W := BitVec.ofInt 32 (shaRounds.getD n 0)
def rnds (s : List UInt8) (v : V8) : Nat → V8
  | 0 => v
  | n + 1 => rnd (rnds s v n) (kAt n) (wat (sched s 64) n)
def V8.add (v u : V8) : V8 := ⟨v.a + u.a, v.b + u.b, v.c + u.c, v.d + u.d, v.e + u.e, v.f + u.f, v.g + u.g, v.h + u.h⟩
def mixS (v : V8) (s : List UInt8) : V8 := (rnds s v 64).add v
def blocks : Nat → V8 → List UInt8 → V8
  | 0, v, _ => v
  | n + 1, v, s => blocks n (mixS v (s.take 64)) (s.drop 64)
def v0 : V8 := ⟨1779033703#32, 3144134277#32, 1013904242#32, 2773480762#32, 1359893119#32, 2600822924#32, 528734635#32, 1541459225#32⟩
def padS (s : List UInt8) : List UInt8 := s ++ 128 :: (List.replicate ((119 - s.length % 64) % 64) 0 ++ be 8 (s.length * 8))
def outV (v : V8) : List UInt8 := v.l.flatMap fun x => be 4 x.toNat
/-- SHA-256. -/
def shaS (s : List UInt8) : List UInt8 := outV (blocks ((padS s).length / 64) v0 (padS s))
theorem sched_len (s : List UInt8) : ∀ n, (sched s n).length = n
  | 0 => rfl
  | n + 1 => by simp [sched, sched_len s n]
theorem wat_lt {w : List W} {i : Nat} (h : i < w.length) : (ws w)[i]? = some (.int .u32 (wat w i).toNat) := by
  simp [ws, wc, wat, List.getElem?_map, List.getD_eq_getElem?_getD, List.getElem?_eq_getElem h]
theorem ws_len (w : List W) : (ws w).length = w.length := by simp [ws]
section
theorem wr32 (x : BitVec 32) : IntKind.u32.wrap (x.toNat : Int) = x.toNat := w_u32 ⟨by omega, by have := x.isLt; omega⟩
theorem bw_add (a b : BitVec 32) : intBin .add .u32 (a.toNat : Int) (b.toNat : Int) = some (.int .u32 ((a + b).toNat : Int)) := by
  rw [ib_add, wm_u32, BitVec.toNat_add]; rfl
theorem bw_xor (a b : BitVec 32) : intBin .xor .u32 (a.toNat : Int) (b.toNat : Int) = some (.int .u32 ((a ^^^ b).toNat : Int)) := by
  rw [ib_xor_u32 ⟨by omega, by have := a.isLt; omega⟩ ⟨by omega, by have := b.isLt; omega⟩, BitVec.toNat_xor]; rfl
theorem bw_and (a b : BitVec 32) : intBin .and .u32 (a.toNat : Int) (b.toNat : Int) = some (.int .u32 ((a &&& b).toNat : Int)) := by
  rw [ib_and_u32 ⟨by omega, by have := a.isLt; omega⟩ ⟨by omega, by have := b.isLt; omega⟩, BitVec.toNat_and]; rfl
theorem bw_or (a b : BitVec 32) : intBin .or .u32 (a.toNat : Int) (b.toNat : Int) = some (.int .u32 ((a ||| b).toNat : Int)) := by
  rw [ib_or_u32 ⟨by omega, by have := a.isLt; omega⟩ ⟨by omega, by have := b.isLt; omega⟩, BitVec.toNat_or]; rfl
theorem bw_shr {a : BitVec 32} {n : Int} (h : 0 ≤ n ∧ n < 32) : shBin .shr .u32 (a.toNat : Int) n = some (.int .u32 ((a >>> n.toNat).toNat : Int)) := by
  rw [shr_u32 h, BitVec.toNat_ushiftRight, Nat.shiftRight_eq_div_pow, Int.natCast_ediv, Int.natCast_pow]; rfl
theorem bw_shl {a : BitVec 32} {n : Int} (h : 0 ≤ n ∧ n < 32) : shBin .shl .u32 (a.toNat : Int) n = some (.int .u32 ((a <<< n.toNat).toNat : Int)) := by
  rw [shl_u32 h, BitVec.toNat_shiftLeft, Nat.shiftLeft_eq, wm_u32]
  rw [Int.natCast_emod, Int.natCast_mul, Int.natCast_pow]; rfl
theorem bw_not (a : BitVec 32) : aUn .xor (.int .u32 (a.toNat : Int)) = some (.int .u32 ((~~~a).toNat : Int)) := by
  have e1 : BitVec.ofInt IntKind.u32.bits (a.toNat : Int) = a := by
    apply BitVec.eq_of_toNat_eq
    have := a.isLt
    rw [BitVec.toNat_ofInt]
    simp only [IntKind.bits]
    omega
  have e2 : BitVec.ofInt IntKind.u32.bits (if IntKind.u32.signed = true then -1 else IntKind.u32.max) = BitVec.allOnes 32 := by rfl
  have e3 : aUn .xor (.int .u32 (a.toNat : Int)) = some (.int .u32 (IntKind.u32.wrap (((BitVec.ofInt IntKind.u32.bits (if IntKind.u32.signed = true then -1 else IntKind.u32.max) ^^^ BitVec.ofInt IntKind.u32.bits (a.toNat : Int)).toNat : Nat) : Int))) := rfl
  rw [e3, e1, e2]
  have e4 : BitVec.allOnes 32 ^^^ a = ~~~a := BitVec.allOnes_xor
  show some (AV.int .u32 (IntKind.u32.wrap ((BitVec.allOnes 32 ^^^ a).toNat : Int))) = _
  rw [e4, wr32]
end
attribute [go_sem high] bw_add bw_xor bw_and bw_or bw_shr bw_shl bw_not
end Am
end Go.Proofs.YthgcooppjhcgcaaDoor
end
section
set_option linter.unusedSimpArgs false
set_option linter.unusedVariables false
/- SHA-256: contracts: turn, spread. -/
set_option linter.unusedSimpArgs false
set_option linter.unusedVariables false
namespace Go.Proofs.YthgcooppjhcgcaaDoor
namespace Am
theorem rl_c {k : Nat} : ∀ (l : List W), RLs k (ws l)
  | [] => by simp [ws, RLs]
  | _ :: l => by have := rl_c (k := k) l; simp only [ws] at this; simp [ws, wc, RLs, RL, this]
theorem rl_agg {k : Nat} {l : List AV} (h : RLs k l) : RL k (.agg l) := by simpa only [RL] using h
theorem turn_to (σ : Store) (x : W) (k : Int) (h : 0 < k ∧ k < 32) : ACallsTo TC 146 [.int .u32 x.toNat, .int .u32 k] σ (.int .u32 (x.rotateLeft (32 - k.toNat)).toNat) σ := by
  refine ACallsTo.of_body speculumref02_turn_ok (by simp) fun hw _ => ?_
  repeat' (first | refine SWp.seq ?_ | refine SWp.block ?_ | refine SWp.scope ?_ | refine SWp.condT rfl ?_ | refine SWp.condF rfl ?_ | (refine SWp.condD rfl (fun ht => ?_) (fun ht => ?_) <;> try (exfalso; omega)) | ((first | refine SWp.reg ?_ | refine SWp.skip ?_ | refine SWp.exit ?_ | refine SWp.ret ?_ | ((first | apply splitG | apply splitGB | apply splitR | apply splitRB | apply splitE | apply splitEB | apply splitC | apply splitCB) <;> intro ht)); all_goals try simp (disch := first | omega | (simp only [lens]; first | done | omega)) only [go_sem, Nat.reduceEqDiff, Nat.reduceBEq, Nat.reduceAdd, Nat.reduceMul, Nat.reduceSub, Nat.reduceLeDiff, Int.reduceToNat, Int.reducePow]))
  have e : (x >>> k.toNat ||| x <<< (32 - k).toNat) = x.rotateLeft (32 - k.toNat) := by
    obtain ⟨n, rfl⟩ : ∃ n : Nat, k = n := ⟨k.toNat, by omega⟩
    have e1 : ((32 : Int) - n).toNat = 32 - n := by omega
    rw [e1, Int.toNat_natCast, BitVec.rotateLeft_def, BitVec.or_comm]
    have : (32 - n) % 32 = 32 - n := Nat.mod_eq_of_lt (by omega)
    rw [this]
    congr 2
    omega
  rw [e]
  exact DownV.same hw (rlB_ok _ rfl)
theorem wordS_conv (s : List UInt8) (i : Nat) : IntKind.u32.wrap ((getS ((s.drop (4 * i)).take 4) : Nat) : Int) = ((wordS s i).toNat : Int) := by
  rw [wm_u32, wordS, BitVec.toNat_ofNat]; rfl
theorem cells_set {w : List W} {x : W} {n : Nat} (h : w.length = n) (hn : n < 64) : (ws w ++ List.replicate (64 - n) (AV.int .u32 0)).take n ++ AV.int .u32 x.toNat :: (ws w ++ List.replicate (64 - n) (AV.int .u32 0)).drop (n + 1) = ws (w ++ [x]) ++ List.replicate (64 - (n + 1)) (AV.int .u32 0) := by
  have hl : (ws w).length = n := by rw [ws_len, h]
  have e : 64 - n = (64 - (n + 1)) + 1 := by omega
  rw [List.take_append_of_le_length (by omega), List.take_of_length_le (by omega), List.drop_append, List.drop_of_length_le (by omega), hl]
  rw [show n + 1 - n = 1 by omega, e, List.replicate_succ, List.drop_succ_cons, List.drop_zero, List.nil_append]
  simp [ws, wc]
set_option maxHeartbeats 4000000 in
theorem spread_to (σ : Store) (s : List UInt8) (h : 64 ≤ s.length) (hs : s.length < 9223372036854775808) : ACallsTo TC 170 [.str s] σ (.agg (ws (sched s 64))) σ := by
  obtain ⟨R, hR⟩ : ∃ R, R = sched s 64 := ⟨_, rfl⟩
  rw [← hR]
  refine ACallsTo.of_body sha_spread_ok (by simp) fun hw _ => ?_
  repeat' (first | refine SWp.seq ?_ | refine SWp.block ?_ | refine SWp.scope ?_ | refine SWp.condT rfl ?_ | refine SWp.condF rfl ?_ | (refine SWp.condD rfl (fun ht => ?_) (fun ht => ?_) <;> try (exfalso; omega)) | ((first | refine SWp.reg ?_ | refine SWp.skip ?_ | refine SWp.exit ?_ | refine SWp.ret ?_ | ((first | apply splitG | apply splitGB | apply splitR | apply splitRB | apply splitE | apply splitEB | apply splitC | apply splitCB) <;> intro ht)); all_goals try simp (disch := first | omega | (simp only [lens]; first | done | omega)) only [go_sem, Nat.reduceEqDiff, Nat.reduceBEq, Nat.reduceAdd, Nat.reduceMul, Nat.reduceSub, Nat.reduceLeDiff, Int.reduceToNat, Int.reducePow]))
  refine SWp.loop (fun m ρ σ' => ∃ i : Nat, m + i = 64 ∧ ρ 0 = .str s ∧ ρ 2 = .ptr σ.length 0 0 ∧ ρ 6 = .int .i64 i ∧ σ' = σ ++ [some [ws (sched s i) ++ List.replicate (64 - i) (AV.int .u32 0)]]) 64 ?_ ?_
  · exact ⟨0, by omega, by simp (disch := first | omega | (simp only [lens]; first | done | omega)) only [go_sem, Nat.reduceEqDiff, Nat.reduceBEq, Nat.reduceAdd, Nat.reduceMul, Nat.reduceSub, Nat.reduceLeDiff, Int.reduceToNat, Int.reducePow], by simp (disch := first | omega | (simp only [lens]; first | done | omega)) only [go_sem, Nat.reduceEqDiff, Nat.reduceBEq, Nat.reduceAdd, Nat.reduceMul, Nat.reduceSub, Nat.reduceLeDiff, Int.reduceToNat, Int.reducePow], by simp (disch := first | omega | (simp only [lens]; first | done | omega)) only [go_sem, Nat.reduceEqDiff, Nat.reduceBEq, Nat.reduceAdd, Nat.reduceMul, Nat.reduceSub, Nat.reduceLeDiff, Int.reduceToNat, Int.reducePow]; rfl, rfl⟩
  · rintro m ρ σ' ⟨i, hm, q0, q2, q6, rfl⟩
    have hsl := sched_len s i
    have hset := fun x => cells_set (x := x) hsl
    have hwi : ∀ j, j < i → (ws (sched s i) ++ List.replicate (64 - i) (AV.int .u32 0))[j]? = some (.int .u32 (wat (sched s i) j).toNat) := by
      intro j hj
      rw [List.getElem?_append_left (by rw [ws_len]; omega), wat_lt (by omega)]
    have hlen : (ws (sched s i) ++ List.replicate (64 - i) (AV.int .u32 0)).length = 64 ∨ 64 < i := by
      simp [ws_len, hsl]; omega
    by_cases hi : i < 64
    · have hlen : (ws (sched s i) ++ List.replicate (64 - i) (AV.int .u32 0)).length = 64 := by omega
      generalize hcc : ws (sched s i) ++ List.replicate (64 - i) (AV.int .u32 0) = cc at *
      by_cases h16 : i < 16
      · have hd1 : (s.take (4 * i + 4)).length = 4 * i + 4 := by rw [List.length_take]; omega
        repeat' (first | refine SWp.seq ?_ | refine SWp.block ?_ | refine SWp.scope ?_ | refine SWp.condT rfl ?_ | refine SWp.condF rfl ?_ | (refine SWp.condD rfl (fun ht => ?_) (fun ht => ?_) <;> try (exfalso; omega)) | ((first | refine SWp.reg ?_ | refine SWp.skip ?_ | refine SWp.exit ?_ | refine SWp.ret ?_ | (apply callW.mk_pu; (first | exact (fun _ => bits_Get_to _ _ (by simp; omega)))) | (apply callW.any; (first | exact (bits_Get_to _ _ (by simp; omega)))) | ((first | apply splitG | apply splitGB | apply splitR | apply splitRB | apply splitE | apply splitEB | apply splitC | apply splitCB) <;> intro ht)); all_goals try simp (disch := first | omega | (simp only [lens]; first | done | omega)) only [go_sem, Nat.reduceEqDiff, Nat.reduceBEq, Nat.reduceAdd, Nat.reduceMul, Nat.reduceSub, Nat.reduceLeDiff, Int.reduceToNat, Int.reducePow, q0, q2, q6, hlen]))
        have ev : ((getS ((s.take (4 * (i : Int) + 4).toNat).drop (4 * (i : Int)).toNat) : Nat) : Int) % 4294967296 = ((sNext s (sched s i)).toNat : Int) := by
          rw [show (4 * (i : Int) + 4).toNat = 4 * i + 4 by omega, show (4 * (i : Int)).toNat = 4 * i by omega, List.drop_take, show 4 * i + 4 - 4 * i = 4 by omega]
          have := wordS_conv s i
          rw [wm_u32] at this
          rw [this, sNext, if_pos (by omega), hsl]
        refine ⟨64 - (i + 1), by omega, i + 1, by omega, by simp, ?_⟩
        rw [ev, hset _ hi, sched]
      · have en : sNext s (sched s i) = wat (sched s i) (i - 16) + wat (sched s i) (i - 7) + ss0 (wat (sched s i) (i - 15)) + ss1 (wat (sched s i) (i - 2)) := by rw [sNext, if_neg (by omega), hsl]
        have g16 := hwi (i - 16) (by omega)
        have g7 := hwi (i - 7) (by omega)
        have g15 := hwi (i - 15) (by omega)
        have g2 := hwi (i - 2) (by omega)
        have t16 : ((i : Int) - 16).toNat = i - 16 := by omega
        have t7 : ((i : Int) - 7).toNat = i - 7 := by omega
        have t15 : ((i : Int) - 15).toNat = i - 15 := by omega
        have t2 : ((i : Int) - 2).toNat = i - 2 := by omega
        generalize wat (sched s i) (i - 16) = w16 at *
        generalize wat (sched s i) (i - 7) = w7 at *
        generalize wat (sched s i) (i - 15) = w15 at *
        generalize wat (sched s i) (i - 2) = w2 at *
        have r7 : ((-7 : Int) % 32).toNat = 25 := rfl
        have r18 : ((-18 : Int) % 32).toNat = 14 := rfl
        have r17 : ((-17 : Int) % 32).toNat = 15 := rfl
        have r19 : ((-19 : Int) % 32).toNat = 13 := rfl
        have en2 := hset (sNext s (sched s i)) hi
        rw [en] at en2
        simp only [ss0, ss1] at en2
        repeat' (first | refine SWp.seq ?_ | refine SWp.block ?_ | refine SWp.scope ?_ | refine SWp.condT rfl ?_ | refine SWp.condF rfl ?_ | (refine SWp.condD rfl (fun ht => ?_) (fun ht => ?_) <;> try (exfalso; omega)) | ((first | refine SWp.reg ?_ | refine SWp.skip ?_ | refine SWp.exit ?_ | refine SWp.ret ?_ | (apply callW.mk_pu; (first | exact (fun _ => bits_Right_to _ _ _))) | (apply callW.any; (first | exact (bits_Right_to _ _ _))) | ((first | apply splitG | apply splitGB | apply splitR | apply splitRB | apply splitE | apply splitEB | apply splitC | apply splitCB) <;> intro ht)); all_goals try simp (disch := first | omega | (simp only [lens]; first | done | omega)) only [go_sem, Nat.reduceEqDiff, Nat.reduceBEq, Nat.reduceAdd, Nat.reduceMul, Nat.reduceSub, Nat.reduceLeDiff, Int.reduceToNat, Int.reducePow, q0, q2, q6, hlen, g16, g7, g15, g2, t16, t7, t15, t2, r7, r18, r17, r19]))
        refine ⟨64 - (i + 1), by omega, i + 1, by omega, by simp, ?_⟩
        rw [en2, sched, en]
        simp only [ss0, ss1]
    · have e : i = 64 := by omega
      have eR : sched s i = R := by rw [hR, e]
      have hsR : R.length = 64 := by rw [← eR, hsl, e]
      have hl64 : (ws R).length = 64 := by rw [ws_len, hsR]
      have e0 : List.replicate (64 - i) (AV.int .u32 0) = [] := by rw [e]; rfl
      rw [eR, e0, List.append_nil] at *
      clear hwi hset hlen hR
      have hd : (ws R).drop 64 = [] := List.drop_of_length_le (by omega)
      repeat' (first | refine SWp.seq ?_ | refine SWp.block ?_ | refine SWp.scope ?_ | refine SWp.condT rfl ?_ | refine SWp.condF rfl ?_ | (refine SWp.condD rfl (fun ht => ?_) (fun ht => ?_) <;> try (exfalso; omega)) | ((first | refine SWp.reg ?_ | refine SWp.skip ?_ | refine SWp.exit ?_ | refine SWp.ret ?_ | ((first | apply splitG | apply splitGB | apply splitR | apply splitRB | apply splitE | apply splitEB | apply splitC | apply splitCB) <;> intro ht)); all_goals try simp (disch := first | omega | (simp only [lens]; first | done | omega)) only [go_sem, Nat.reduceEqDiff, Nat.reduceBEq, Nat.reduceAdd, Nat.reduceMul, Nat.reduceSub, Nat.reduceLeDiff, Int.reduceToNat, Int.reducePow, q0, q2, q6, hl64, hd]))
      exact DownV.pure hw (rl_agg (rl_c _))
end Am
end Go.Proofs.YthgcooppjhcgcaaDoor
end
section
set_option linter.unusedSimpArgs false
set_option linter.unusedVariables false
/- SHA-256: contracts: mix. -/
set_option linter.unusedSimpArgs false
set_option linter.unusedVariables false
namespace Go.Proofs.YthgcooppjhcgcaaDoor
namespace Am
def V8.c8 (v : V8) : List AV := [.int .u32 v.a.toNat, .int .u32 v.b.toNat, .int .u32 v.c.toNat, .int .u32 v.d.toNat, .int .u32 v.e.toNat, .int .u32 v.f.toNat, .int .u32 v.g.toNat, .int .u32 v.h.toNat]
theorem ws_l (v : V8) : ws v.l = v.c8 := rfl
theorem kAt_get {i : Nat} (h : i < 64) : (gl_sha_rounds.drop i)[0]? = some (.int .u32 (kAt i).toNat) := by
  have hall : ∀ j : Fin 64, (gl_sha_rounds.drop j.val)[0]? = some (.int .u32 (kAt j.val).toNat) := by
    intro j
    have h2 : (gl_sha_rounds.drop j.val)[0]? = some (AV.int .u32 (shaRounds.getD j.val 0)) := by
      have hl : shaRounds.length = 64 := rfl
      simp only [gl_sha_rounds, List.getElem?_drop, Nat.add_zero, List.getElem?_map, List.getD_eq_getElem?_getD]
      rw [List.getElem?_eq_getElem (by rw [hl]; exact j.isLt)]; rfl
    rw [h2]
    have h3 : ∀ j : Fin 64, shaRounds.getD j.val 0 = ((kAt j.val).toNat : Int) := by decide
    rw [h3 j]
  exact hall ⟨i, h⟩
theorem gl_rounds_len : gl_sha_rounds.length = 64 := rfl
set_option maxHeartbeats 8000000 in
theorem mix_to (σ : Store) (v : V8) (s : List UInt8) (h : 64 ≤ s.length) (hs : s.length < 9223372036854775808) : ACallsTo TC 149 [.agg (ws v.l), .str s] σ (.agg (ws (mixS v s).l)) σ := by
  obtain ⟨R, hR⟩ : ∃ R, R = sched s 64 := ⟨_, rfl⟩
  have hsp := fun σ => spread_to σ s h hs
  rw [← hR] at hsp
  have hRl : R.length = 64 := by rw [hR, sched_len]
  have hwR : (ws R).length = 64 := by rw [ws_len, hRl]
  have hst : ∀ n, rnds s v (n + 1) = rnd (rnds s v n) (kAt n) (wat R n) := fun n => by rw [rnds, hR]
  obtain ⟨F, hF⟩ : ∃ F, F = (rnds s v 64).add v := ⟨_, rfl⟩
  have hmix : mixS v s = F := hF.symm
  rw [hmix, ws_l, ws_l]
  clear hmix
  refine ACallsTo.of_body sha_mix_ok (by simp) fun hw _ => ?_
  unfold V8.c8
  repeat' (first | refine SWp.seq ?_ | refine SWp.block ?_ | refine SWp.scope ?_ | refine SWp.condT rfl ?_ | refine SWp.condF rfl ?_ | (refine SWp.condD rfl (fun ht => ?_) (fun ht => ?_) <;> try (exfalso; omega)) | ((first | refine SWp.reg ?_ | refine SWp.skip ?_ | refine SWp.exit ?_ | refine SWp.ret ?_ | (apply callW.mk_pu; (first | exact (fun _ => hsp _))) | (apply callW.any; (first | exact (hsp _))) | ((first | apply splitG | apply splitGB | apply splitR | apply splitRB | apply splitE | apply splitEB | apply splitC | apply splitCB) <;> intro ht)); all_goals try simp (disch := first | omega | (simp only [lens]; first | done | omega)) only [go_sem, Nat.reduceEqDiff, Nat.reduceBEq, Nat.reduceAdd, Nat.reduceMul, Nat.reduceSub, Nat.reduceLeDiff, Int.reduceToNat, Int.reducePow]))
  refine SWp.loop (fun m ρ σ' => ∃ i : Nat, m + i = 64 ∧ ρ 2 = .ptr σ.length 0 0 ∧ ρ 4 = .ptr (σ.length + 1) 0 0 ∧ ρ 5 = .ptr (σ.length + 2) 0 0 ∧ ρ 15 = .agg (ws R) ∧ ρ 16 = .int .i64 i ∧
    σ' = σ ++ [some [v.c8], some [[AV.int .u32 0, AV.int .u32 0, AV.int .u32 0, AV.int .u32 0, AV.int .u32 0, AV.int .u32 0, AV.int .u32 0, AV.int .u32 0]], some [(rnds s v i).c8]]) 64 ?_ ?_
  · exact ⟨0, by omega, by simp (disch := first | omega | (simp only [lens]; first | done | omega)) only [go_sem, Nat.reduceEqDiff, Nat.reduceBEq, Nat.reduceAdd, Nat.reduceMul, Nat.reduceSub, Nat.reduceLeDiff, Int.reduceToNat, Int.reducePow], by simp (disch := first | omega | (simp only [lens]; first | done | omega)) only [go_sem, Nat.reduceEqDiff, Nat.reduceBEq, Nat.reduceAdd, Nat.reduceMul, Nat.reduceSub, Nat.reduceLeDiff, Int.reduceToNat, Int.reducePow], by simp (disch := first | omega | (simp only [lens]; first | done | omega)) only [go_sem, Nat.reduceEqDiff, Nat.reduceBEq, Nat.reduceAdd, Nat.reduceMul, Nat.reduceSub, Nat.reduceLeDiff, Int.reduceToNat, Int.reducePow], by simp (disch := first | omega | (simp only [lens]; first | done | omega)) only [go_sem, Nat.reduceEqDiff, Nat.reduceBEq, Nat.reduceAdd, Nat.reduceMul, Nat.reduceSub, Nat.reduceLeDiff, Int.reduceToNat, Int.reducePow], by simp (disch := first | omega | (simp only [lens]; first | done | omega)) only [go_sem, Nat.reduceEqDiff, Nat.reduceBEq, Nat.reduceAdd, Nat.reduceMul, Nat.reduceSub, Nat.reduceLeDiff, Int.reduceToNat, Int.reducePow]; rfl, rfl⟩
  · rintro m ρ σ' ⟨i, hm, q2, q4, q5, q15, q16, rfl⟩
    by_cases hi : i < 64
    · have hk := kAt_get hi
      have hw := wat_lt (w := R) (i := i) (by omega)
      have hst := hst i
      generalize rnds s v i = u at *
      obtain ⟨a, b, c, d, e, f, g, h⟩ := u
      generalize kAt i = kk at *
      generalize wat R i = ww at *
      have r6 : ((-6 : Int) % 32).toNat = 26 := rfl
      have r11 : ((-11 : Int) % 32).toNat = 21 := rfl
      have r25 : ((-25 : Int) % 32).toNat = 7 := rfl
      have r2 : ((-2 : Int) % 32).toNat = 30 := rfl
      have r13 : ((-13 : Int) % 32).toNat = 19 := rfl
      have r22 : ((-22 : Int) % 32).toNat = 10 := rfl
      refine SWp.seq ?_
      refine SWp.reg ?_
      simp (disch := first | omega | (simp only [lens]; first | done | omega)) only [go_sem, Nat.reduceEqDiff, Nat.reduceBEq, Nat.reduceAdd, Nat.reduceMul, Nat.reduceSub, Nat.reduceLeDiff, Int.reduceToNat, Int.reducePow, q16]
      refine SWp.seq ?_
      refine SWp.condT rfl ?_
      refine SWp.skip ?_
      simp (disch := first | omega | (simp only [lens]; first | done | omega)) only [go_sem, Nat.reduceEqDiff, Nat.reduceBEq, Nat.reduceAdd, Nat.reduceMul, Nat.reduceSub, Nat.reduceLeDiff, Int.reduceToNat, Int.reducePow]
      refine SWp.seq ?_
      refine SWp.block ?_
      refine SWp.seq ?_
      refine SWp.regS ?_
      simp (disch := first | omega | (simp only [lens]; first | done | omega)) only [go_sem, Nat.reduceEqDiff, Nat.reduceBEq, Nat.reduceAdd, Nat.reduceMul, Nat.reduceSub, Nat.reduceLeDiff, Int.reduceToNat, Int.reducePow, q15, q16, hwR, hw]
      (refine SWp.slots [2, 4, 5, 6, 7, 15, 16] ?_; intro ρ1 hs; simp (disch := first | omega | (simp only [lens]; first | done | omega)) only [go_sem, Nat.reduceEqDiff, Nat.reduceBEq, Nat.reduceAdd, Nat.reduceMul, Nat.reduceSub, Nat.reduceLeDiff, Int.reduceToNat, Int.reducePow, q2, q4, q5, q15, q16] at hs; obtain ⟨s2, s4, s5, s6, s7, s15, s16⟩ := hs)
      refine SWp.seq ?_
      refine SWp.regS ?_
      simp (disch := first | omega | (simp only [lens]; first | done | omega)) only [go_sem, Nat.reduceEqDiff, Nat.reduceBEq, Nat.reduceAdd, Nat.reduceMul, Nat.reduceSub, Nat.reduceLeDiff, Int.reduceToNat, Int.reducePow, s5, V8.c8]
      (refine SWp.slots [2, 4, 5, 6, 7, 8, 9, 15, 16] ?_; intro ρ2 hs; simp (disch := first | omega | (simp only [lens]; first | done | omega)) only [go_sem, Nat.reduceEqDiff, Nat.reduceBEq, Nat.reduceAdd, Nat.reduceMul, Nat.reduceSub, Nat.reduceLeDiff, Int.reduceToNat, Int.reducePow, s2, s4, s5, s6, s7, s15, s16] at hs; obtain ⟨s2, s4, s5, s6, s7, s8, s9, s15, s16⟩ := hs)
      refine SWp.seq ?_
      (refine SWp.regS ?_; (simp (disch := first | omega | (simp only [lens]; first | done | omega)) only [go_sem, Nat.reduceEqDiff, Nat.reduceBEq, Nat.reduceAdd, Nat.reduceMul, Nat.reduceSub, Nat.reduceLeDiff, Int.reduceToNat, Int.reducePow, s2, s4, s5, s6, s7, s8, s9, V8.c8, hk, gl_rounds_len, r6, r11, r25]); repeat' (apply callW.any; (first | exact (bits_Right_to _ _ _)); all_goals try (simp (disch := first | omega | (simp only [lens]; first | done | omega)) only [go_sem, Nat.reduceEqDiff, Nat.reduceBEq, Nat.reduceAdd, Nat.reduceMul, Nat.reduceSub, Nat.reduceLeDiff, Int.reduceToNat, Int.reducePow, s2, s4, s5, s6, s7, s8, s9, V8.c8, hk, gl_rounds_len, r6, r11, r25])))
      (refine SWp.slots [2, 4, 5, 8, 9, 10, 15, 16] ?_; intro ρ3 hs; simp (disch := first | omega | (simp only [lens]; first | done | omega)) only [go_sem, Nat.reduceEqDiff, Nat.reduceBEq, Nat.reduceAdd, Nat.reduceMul, Nat.reduceSub, Nat.reduceLeDiff, Int.reduceToNat, Int.reducePow, s2, s4, s5, s8, s9, s15, s16] at hs; obtain ⟨s2, s4, s5, s8, s9, s10, s15, s16⟩ := hs)
      refine SWp.seq ?_
      (refine SWp.regS ?_; (simp (disch := first | omega | (simp only [lens]; first | done | omega)) only [go_sem, Nat.reduceEqDiff, Nat.reduceBEq, Nat.reduceAdd, Nat.reduceMul, Nat.reduceSub, Nat.reduceLeDiff, Int.reduceToNat, Int.reducePow, s5, s8, s9, V8.c8, r2, r13, r22]); repeat' (apply callW.any; (first | exact (bits_Right_to _ _ _)); all_goals try (simp (disch := first | omega | (simp only [lens]; first | done | omega)) only [go_sem, Nat.reduceEqDiff, Nat.reduceBEq, Nat.reduceAdd, Nat.reduceMul, Nat.reduceSub, Nat.reduceLeDiff, Int.reduceToNat, Int.reducePow, s5, s8, s9, V8.c8, r2, r13, r22])))
      (refine SWp.slots [2, 4, 5, 8, 9, 10, 11, 15, 16] ?_; intro ρ4 hs; simp (disch := first | omega | (simp only [lens]; first | done | omega)) only [go_sem, Nat.reduceEqDiff, Nat.reduceBEq, Nat.reduceAdd, Nat.reduceMul, Nat.reduceSub, Nat.reduceLeDiff, Int.reduceToNat, Int.reducePow, s2, s4, s5, s8, s9, s10, s15, s16] at hs; obtain ⟨s2, s4, s5, s8, s9, s10, s11, s15, s16⟩ := hs)
      (refine SWp.regS ?_; (simp (disch := first | omega | (simp only [lens]; first | done | omega)) only [go_sem, Nat.reduceEqDiff, Nat.reduceBEq, Nat.reduceAdd, Nat.reduceMul, Nat.reduceSub, Nat.reduceLeDiff, Int.reduceToNat, Int.reducePow, s5, s8, s9, s10, s11, V8.c8]))
      (refine SWp.slots [2, 4, 5, 15, 16] ?_; intro ρ5 hs; simp (disch := first | omega | (simp only [lens]; first | done | omega)) only [go_sem, Nat.reduceEqDiff, Nat.reduceBEq, Nat.reduceAdd, Nat.reduceMul, Nat.reduceSub, Nat.reduceLeDiff, Int.reduceToNat, Int.reducePow, s2, s4, s5, s15, s16] at hs; obtain ⟨s2, s4, s5, s15, s16⟩ := hs)
      (refine SWp.regS ?_; (simp (disch := first | omega | (simp only [lens]; first | done | omega)) only [go_sem, Nat.reduceEqDiff, Nat.reduceBEq, Nat.reduceAdd, Nat.reduceMul, Nat.reduceSub, Nat.reduceLeDiff, Int.reduceToNat, Int.reducePow, s16]))
      refine ⟨64 - (i + 1), by omega, i + 1, by omega, s2, s4, s5, s15, by simp, ?_⟩
      rw [hst]
      simp only [rnd, V8.c8, bs1, chW, bs0, majW]
    · obtain rfl : i = 64 := by omega
      clear hst
      generalize rnds s v 64 = U at *
      rw [hF, V8.add]
      clear hF hR
      obtain ⟨a, b, c, d, e, f, g, h⟩ := U
      obtain ⟨a', b', c', d', e', f', g', h'⟩ := v
      simp only [V8.c8] at *
      repeat' (first | refine SWp.seq ?_ | refine SWp.block ?_ | refine SWp.scope ?_ | refine SWp.condT rfl ?_ | refine SWp.condF rfl ?_ | (refine SWp.condD rfl (fun ht => ?_) (fun ht => ?_) <;> try (exfalso; omega)) | ((first | refine SWp.reg ?_ | refine SWp.skip ?_ | refine SWp.exit ?_ | refine SWp.ret ?_ | ((first | apply splitG | apply splitGB | apply splitR | apply splitRB | apply splitE | apply splitEB | apply splitC | apply splitCB) <;> intro ht)); all_goals try simp (disch := first | omega | (simp only [lens]; first | done | omega)) only [go_sem, Nat.reduceEqDiff, Nat.reduceBEq, Nat.reduceAdd, Nat.reduceMul, Nat.reduceSub, Nat.reduceLeDiff, Int.reduceToNat, Int.reducePow, q16]))
      refine SWp.loop (fun m ρ σ' => ∃ j : Nat, m + j = 8 ∧ ρ 2 = .ptr σ.length 0 0 ∧ ρ 4 = .ptr (σ.length + 1) 0 0 ∧ ρ 5 = .ptr (σ.length + 2) 0 0 ∧ ρ 95 = .int .i64 j ∧
        σ' = σ ++ [some [V8.c8 ⟨a', b', c', d', e', f', g', h'⟩], some [[AV.int .u32 0, AV.int .u32 0, AV.int .u32 0, AV.int .u32 0, AV.int .u32 0, AV.int .u32 0, AV.int .u32 0, AV.int .u32 0]], some [(V8.c8 ⟨a + a', b + b', c + c', d + d', e + e', f + f', g + g', h + h'⟩).take j ++ (V8.c8 ⟨a, b, c, d, e, f, g, h⟩).drop j]]) 8 ?_ ?_
      · exact ⟨0, by omega, by simp (disch := first | omega | (simp only [lens]; first | done | omega)) only [go_sem, Nat.reduceEqDiff, Nat.reduceBEq, Nat.reduceAdd, Nat.reduceMul, Nat.reduceSub, Nat.reduceLeDiff, Int.reduceToNat, Int.reducePow, q2], by simp (disch := first | omega | (simp only [lens]; first | done | omega)) only [go_sem, Nat.reduceEqDiff, Nat.reduceBEq, Nat.reduceAdd, Nat.reduceMul, Nat.reduceSub, Nat.reduceLeDiff, Int.reduceToNat, Int.reducePow, q4], by simp (disch := first | omega | (simp only [lens]; first | done | omega)) only [go_sem, Nat.reduceEqDiff, Nat.reduceBEq, Nat.reduceAdd, Nat.reduceMul, Nat.reduceSub, Nat.reduceLeDiff, Int.reduceToNat, Int.reducePow, q5], by simp (disch := first | omega | (simp only [lens]; first | done | omega)) only [go_sem, Nat.reduceEqDiff, Nat.reduceBEq, Nat.reduceAdd, Nat.reduceMul, Nat.reduceSub, Nat.reduceLeDiff, Int.reduceToNat, Int.reducePow]; rfl, rfl⟩
      · clear q2 q4 q5 q15 q16
        rintro m ρ σ' ⟨j, hm, q2, q4, q5, q95, rfl⟩
        have hj : j = 0 ∨ j = 1 ∨ j = 2 ∨ j = 3 ∨ j = 4 ∨ j = 5 ∨ j = 6 ∨ j = 7 ∨ j = 8 := by omega
        rcases hj with rfl | rfl | rfl | rfl | rfl | rfl | rfl | rfl | rfl
        · repeat' (first | refine SWp.seq ?_ | refine SWp.block ?_ | refine SWp.scope ?_ | refine SWp.condT rfl ?_ | refine SWp.condF rfl ?_ | (refine SWp.condD rfl (fun ht => ?_) (fun ht => ?_) <;> try (exfalso; omega)) | ((first | refine SWp.regS ?_ | refine SWp.skip ?_ | refine SWp.exit ?_ | refine SWp.ret ?_ | ((first | apply splitG | apply splitGB | apply splitR | apply splitRB | apply splitE | apply splitEB | apply splitC | apply splitCB) <;> intro ht)); all_goals try simp (disch := first | omega | (simp only [lens]; first | done | omega)) only [go_sem, Nat.reduceEqDiff, Nat.reduceBEq, Nat.reduceAdd, Nat.reduceMul, Nat.reduceSub, Nat.reduceLeDiff, Int.reduceToNat, Int.reducePow, q2, q4, q5, q95, V8.c8]))
          exact ⟨7, by omega, 1, by omega, rfl, rfl⟩
        · repeat' (first | refine SWp.seq ?_ | refine SWp.block ?_ | refine SWp.scope ?_ | refine SWp.condT rfl ?_ | refine SWp.condF rfl ?_ | (refine SWp.condD rfl (fun ht => ?_) (fun ht => ?_) <;> try (exfalso; omega)) | ((first | refine SWp.regS ?_ | refine SWp.skip ?_ | refine SWp.exit ?_ | refine SWp.ret ?_ | ((first | apply splitG | apply splitGB | apply splitR | apply splitRB | apply splitE | apply splitEB | apply splitC | apply splitCB) <;> intro ht)); all_goals try simp (disch := first | omega | (simp only [lens]; first | done | omega)) only [go_sem, Nat.reduceEqDiff, Nat.reduceBEq, Nat.reduceAdd, Nat.reduceMul, Nat.reduceSub, Nat.reduceLeDiff, Int.reduceToNat, Int.reducePow, q2, q4, q5, q95, V8.c8]))
          exact ⟨6, by omega, 2, by omega, rfl, rfl⟩
        · repeat' (first | refine SWp.seq ?_ | refine SWp.block ?_ | refine SWp.scope ?_ | refine SWp.condT rfl ?_ | refine SWp.condF rfl ?_ | (refine SWp.condD rfl (fun ht => ?_) (fun ht => ?_) <;> try (exfalso; omega)) | ((first | refine SWp.regS ?_ | refine SWp.skip ?_ | refine SWp.exit ?_ | refine SWp.ret ?_ | ((first | apply splitG | apply splitGB | apply splitR | apply splitRB | apply splitE | apply splitEB | apply splitC | apply splitCB) <;> intro ht)); all_goals try simp (disch := first | omega | (simp only [lens]; first | done | omega)) only [go_sem, Nat.reduceEqDiff, Nat.reduceBEq, Nat.reduceAdd, Nat.reduceMul, Nat.reduceSub, Nat.reduceLeDiff, Int.reduceToNat, Int.reducePow, q2, q4, q5, q95, V8.c8]))
          exact ⟨5, by omega, 3, by omega, rfl, rfl⟩
        · repeat' (first | refine SWp.seq ?_ | refine SWp.block ?_ | refine SWp.scope ?_ | refine SWp.condT rfl ?_ | refine SWp.condF rfl ?_ | (refine SWp.condD rfl (fun ht => ?_) (fun ht => ?_) <;> try (exfalso; omega)) | ((first | refine SWp.regS ?_ | refine SWp.skip ?_ | refine SWp.exit ?_ | refine SWp.ret ?_ | ((first | apply splitG | apply splitGB | apply splitR | apply splitRB | apply splitE | apply splitEB | apply splitC | apply splitCB) <;> intro ht)); all_goals try simp (disch := first | omega | (simp only [lens]; first | done | omega)) only [go_sem, Nat.reduceEqDiff, Nat.reduceBEq, Nat.reduceAdd, Nat.reduceMul, Nat.reduceSub, Nat.reduceLeDiff, Int.reduceToNat, Int.reducePow, q2, q4, q5, q95, V8.c8]))
          exact ⟨4, by omega, 4, by omega, rfl, rfl⟩
        · repeat' (first | refine SWp.seq ?_ | refine SWp.block ?_ | refine SWp.scope ?_ | refine SWp.condT rfl ?_ | refine SWp.condF rfl ?_ | (refine SWp.condD rfl (fun ht => ?_) (fun ht => ?_) <;> try (exfalso; omega)) | ((first | refine SWp.regS ?_ | refine SWp.skip ?_ | refine SWp.exit ?_ | refine SWp.ret ?_ | ((first | apply splitG | apply splitGB | apply splitR | apply splitRB | apply splitE | apply splitEB | apply splitC | apply splitCB) <;> intro ht)); all_goals try simp (disch := first | omega | (simp only [lens]; first | done | omega)) only [go_sem, Nat.reduceEqDiff, Nat.reduceBEq, Nat.reduceAdd, Nat.reduceMul, Nat.reduceSub, Nat.reduceLeDiff, Int.reduceToNat, Int.reducePow, q2, q4, q5, q95, V8.c8]))
          exact ⟨3, by omega, 5, by omega, rfl, rfl⟩
        · repeat' (first | refine SWp.seq ?_ | refine SWp.block ?_ | refine SWp.scope ?_ | refine SWp.condT rfl ?_ | refine SWp.condF rfl ?_ | (refine SWp.condD rfl (fun ht => ?_) (fun ht => ?_) <;> try (exfalso; omega)) | ((first | refine SWp.regS ?_ | refine SWp.skip ?_ | refine SWp.exit ?_ | refine SWp.ret ?_ | ((first | apply splitG | apply splitGB | apply splitR | apply splitRB | apply splitE | apply splitEB | apply splitC | apply splitCB) <;> intro ht)); all_goals try simp (disch := first | omega | (simp only [lens]; first | done | omega)) only [go_sem, Nat.reduceEqDiff, Nat.reduceBEq, Nat.reduceAdd, Nat.reduceMul, Nat.reduceSub, Nat.reduceLeDiff, Int.reduceToNat, Int.reducePow, q2, q4, q5, q95, V8.c8]))
          exact ⟨2, by omega, 6, by omega, rfl, rfl⟩
        · repeat' (first | refine SWp.seq ?_ | refine SWp.block ?_ | refine SWp.scope ?_ | refine SWp.condT rfl ?_ | refine SWp.condF rfl ?_ | (refine SWp.condD rfl (fun ht => ?_) (fun ht => ?_) <;> try (exfalso; omega)) | ((first | refine SWp.regS ?_ | refine SWp.skip ?_ | refine SWp.exit ?_ | refine SWp.ret ?_ | ((first | apply splitG | apply splitGB | apply splitR | apply splitRB | apply splitE | apply splitEB | apply splitC | apply splitCB) <;> intro ht)); all_goals try simp (disch := first | omega | (simp only [lens]; first | done | omega)) only [go_sem, Nat.reduceEqDiff, Nat.reduceBEq, Nat.reduceAdd, Nat.reduceMul, Nat.reduceSub, Nat.reduceLeDiff, Int.reduceToNat, Int.reducePow, q2, q4, q5, q95, V8.c8]))
          exact ⟨1, by omega, 7, by omega, rfl, rfl⟩
        · repeat' (first | refine SWp.seq ?_ | refine SWp.block ?_ | refine SWp.scope ?_ | refine SWp.condT rfl ?_ | refine SWp.condF rfl ?_ | (refine SWp.condD rfl (fun ht => ?_) (fun ht => ?_) <;> try (exfalso; omega)) | ((first | refine SWp.regS ?_ | refine SWp.skip ?_ | refine SWp.exit ?_ | refine SWp.ret ?_ | ((first | apply splitG | apply splitGB | apply splitR | apply splitRB | apply splitE | apply splitEB | apply splitC | apply splitCB) <;> intro ht)); all_goals try simp (disch := first | omega | (simp only [lens]; first | done | omega)) only [go_sem, Nat.reduceEqDiff, Nat.reduceBEq, Nat.reduceAdd, Nat.reduceMul, Nat.reduceSub, Nat.reduceLeDiff, Int.reduceToNat, Int.reducePow, q2, q4, q5, q95, V8.c8]))
          exact ⟨0, by omega, 8, by omega, rfl, rfl⟩
        · repeat' (first | refine SWp.seq ?_ | refine SWp.block ?_ | refine SWp.scope ?_ | refine SWp.condT rfl ?_ | refine SWp.condF rfl ?_ | (refine SWp.condD rfl (fun ht => ?_) (fun ht => ?_) <;> try (exfalso; omega)) | ((first | refine SWp.reg ?_ | refine SWp.skip ?_ | refine SWp.exit ?_ | refine SWp.ret ?_ | ((first | apply splitG | apply splitGB | apply splitR | apply splitRB | apply splitE | apply splitEB | apply splitC | apply splitCB) <;> intro ht)); all_goals try simp (disch := first | omega | (simp only [lens]; first | done | omega)) only [go_sem, Nat.reduceEqDiff, Nat.reduceBEq, Nat.reduceAdd, Nat.reduceMul, Nat.reduceSub, Nat.reduceLeDiff, Int.reduceToNat, Int.reducePow, q2, q4, q5, q95, V8.c8]))
          exact DownV.pure hw (rlB_ok _ rfl)
end Am
end Go.Proofs.YthgcooppjhcgcaaDoor
end
section
set_option linter.unusedSimpArgs false
set_option linter.unusedVariables false
/- Contracts of library functions, laid off the kit's shelf for this program. -/
namespace Go.Proofs
open Go.Shelf
def Tryd.lays169_ren : Go.Shelf.Ren := ⟨fun | 169 => 153 | n => n, fun | 70 => 186 | 9 => 9 | 0 => 0 | 72 => 188 | 37 => 58 | 127 => 209 | 3 => 3 | 5 => 5 | n => n, fun | n => n⟩
theorem Tryd.lays169 : Go.Proofs.Lays.n169 Tryd.prog Tryd.lays169_ren := {
  mixed := by kernel_rfl
  f169 := Tryd.func153.trans (congrArg some (by kernel_rfl))
  t0 := Tryd.underlying0
  a0 := Tryd.isAgg0
  z0 := Tryd.sizeOf0
  v0 := Tryd.zeroValue0
  t3 := Tryd.underlying3
  a3 := Tryd.isAgg3
  z3 := Tryd.sizeOf3
  v3 := Tryd.zeroValue3
  t9 := Tryd.underlying9
  a9 := Tryd.isAgg9
  z9 := Tryd.sizeOf9
  v9 := Tryd.zeroValue9
  t37 := Tryd.underlying58
  a37 := Tryd.isAgg58
  z37 := Tryd.sizeOf58
  v37 := Tryd.zeroValue58
  t70 := Tryd.underlying186
  a70 := Tryd.isAgg186
  z70 := Tryd.sizeOf186
  v70 := Tryd.zeroValue186
  t72 := Tryd.underlying188
  a72 := Tryd.isAgg188
  z72 := Tryd.sizeOf188
  v72 := Tryd.zeroValue188
  t127 := Tryd.underlying209
  a127 := Tryd.isAgg209
  z127 := Tryd.sizeOf209
  v127 := Tryd.zeroValue209 }
theorem Tryd.Builder_Extra_169 : Builder.Extra Tryd.prog Tryd.lays169_ren := {
  sizeBuilder := by kernel_rfl
  liesBuilder := by kernel_rfl
  t5 := Tryd.underlying5
  a5 := Tryd.isAgg5
  z5 := Tryd.sizeOf5
  v5 := Tryd.zeroValue5
  infoByte := by kernel_rfl
  cellsByte := by kernel_rfl
  sizeByte := by kernel_rfl
  neB5 := by decide }
open Go.RowKit in
theorem Tryd.Builder_String_any (B b : Nat) (l : List UInt8) (w : World) (h : Lib.IsBuilder 188 5 B b (Lib.byteCells l) w) (hBw : B ≤ w.heap.size) :
    Calls Tryd.prog 153 #[.pointer (some ⟨b, 0, none⟩)] w fun e w' => e = .returned (.string ⟨l.toArray⟩) ∧ Below B w w' := Any.Builder_String_any Tryd.lays169 Tryd.Builder_Extra_169 B b l w h hBw
def Tryd.lays105_ren : Go.Shelf.Ren := ⟨fun | 105 => 169 | 212 => 173 | 99 => 174 | 165 => 175 | 166 => 152 | 170 => 176 | 169 => 153 | 263 => 180 | 264 => 181 | 206 => 182 | 240 => 172 | 241 => 183 | 276 => 179 | 277 => 184 | n => n, fun | 9 => 9 | 3 => 3 | 4 => 4 | 20 => 20 | 0 => 0 | 46 => 181 | 109 => 210 | 5 => 5 | 72 => 188 | 76 => 191 | 51 => 177 | 146 => 217 | 53 => 147 | 148 => 219 | 70 => 186 | 37 => 58 | 75 => 190 | 127 => 209 | 164 => 215 | 80 => 193 | n => n, fun | n => n⟩
theorem Tryd.lays105 : Go.Proofs.Lays.n105 Tryd.prog Tryd.lays105_ren := {
  mixed := by kernel_rfl
  f99 := Tryd.func174.trans (congrArg some (by kernel_rfl))
  f105 := Tryd.func169.trans (congrArg some (by kernel_rfl))
  f165 := Tryd.func175.trans (congrArg some (by kernel_rfl))
  f166 := Tryd.func152.trans (congrArg some (by kernel_rfl))
  f169 := Tryd.func153.trans (congrArg some (by kernel_rfl))
  f170 := Tryd.func176.trans (congrArg some (by kernel_rfl))
  f206 := Tryd.func182.trans (congrArg some (by kernel_rfl))
  f212 := Tryd.func173.trans (congrArg some (by kernel_rfl))
  f240 := Tryd.func172.trans (congrArg some (by kernel_rfl))
  f241 := Tryd.func183.trans (congrArg some (by kernel_rfl))
  f263 := Tryd.func180.trans (congrArg some (by kernel_rfl))
  f264 := Tryd.func181.trans (congrArg some (by kernel_rfl))
  f276 := Tryd.func179.trans (congrArg some (by kernel_rfl))
  f277 := Tryd.func184.trans (congrArg some (by kernel_rfl))
  t0 := Tryd.underlying0
  a0 := Tryd.isAgg0
  z0 := Tryd.sizeOf0
  v0 := Tryd.zeroValue0
  t3 := Tryd.underlying3
  a3 := Tryd.isAgg3
  z3 := Tryd.sizeOf3
  v3 := Tryd.zeroValue3
  t4 := Tryd.underlying4
  a4 := Tryd.isAgg4
  z4 := Tryd.sizeOf4
  v4 := Tryd.zeroValue4
  t5 := Tryd.underlying5
  a5 := Tryd.isAgg5
  z5 := Tryd.sizeOf5
  v5 := Tryd.zeroValue5
  t9 := Tryd.underlying9
  a9 := Tryd.isAgg9
  z9 := Tryd.sizeOf9
  v9 := Tryd.zeroValue9
  t20 := Tryd.underlying20
  a20 := Tryd.isAgg20
  z20 := Tryd.sizeOf20
  v20 := Tryd.zeroValue20
  t37 := Tryd.underlying58
  a37 := Tryd.isAgg58
  z37 := Tryd.sizeOf58
  v37 := Tryd.zeroValue58
  t46 := Tryd.underlying181
  a46 := Tryd.isAgg181
  z46 := Tryd.sizeOf181
  v46 := Tryd.zeroValue181
  t51 := Tryd.underlying177
  a51 := Tryd.isAgg177
  z51 := Tryd.sizeOf177
  v51 := Tryd.zeroValue177
  t53 := Tryd.underlying147
  a53 := Tryd.isAgg147
  z53 := Tryd.sizeOf147
  v53 := Tryd.zeroValue147
  t70 := Tryd.underlying186
  a70 := Tryd.isAgg186
  z70 := Tryd.sizeOf186
  v70 := Tryd.zeroValue186
  t72 := Tryd.underlying188
  a72 := Tryd.isAgg188
  z72 := Tryd.sizeOf188
  v72 := Tryd.zeroValue188
  t75 := Tryd.underlying190
  a75 := Tryd.isAgg190
  z75 := Tryd.sizeOf190
  v75 := Tryd.zeroValue190
  t76 := Tryd.underlying191
  a76 := Tryd.isAgg191
  z76 := Tryd.sizeOf191
  v76 := Tryd.zeroValue191
  t109 := Tryd.underlying210
  a109 := Tryd.isAgg210
  z109 := Tryd.sizeOf210
  v109 := Tryd.zeroValue210
  t127 := Tryd.underlying209
  a127 := Tryd.isAgg209
  z127 := Tryd.sizeOf209
  v127 := Tryd.zeroValue209
  t146 := Tryd.underlying217
  a146 := Tryd.isAgg217
  z146 := Tryd.sizeOf217
  v146 := Tryd.zeroValue217
  t148 := Tryd.underlying219
  a148 := Tryd.isAgg219
  z148 := Tryd.sizeOf219
  v148 := Tryd.zeroValue219
  t164 := Tryd.underlying215
  a164 := Tryd.isAgg215
  z164 := Tryd.sizeOf215
  v164 := Tryd.zeroValue215 }
theorem Tryd.Builder_Extra_105 : Builder.Extra Tryd.prog Tryd.lays105_ren := {
  sizeBuilder := by kernel_rfl
  liesBuilder := by kernel_rfl
  t5 := Tryd.underlying5
  a5 := Tryd.isAgg5
  z5 := Tryd.sizeOf5
  v5 := Tryd.zeroValue5
  infoByte := by kernel_rfl
  cellsByte := by kernel_rfl
  sizeByte := by kernel_rfl
  neB5 := by decide }
open Go.RowKit Go.Lib in
theorem Tryd.strings_Repeat (s : ByteArray) (c : Nat) (w : World) (hc : c ≤ 9223372036854775807) (hlen : s.size * c ≤ 140737488355328) :
    Calls Tryd.prog 169 #[.string s, .int .i64 c] w fun e w' => e = .returned (.string ⟨(Lib.repeatL s.data.toList c).toArray⟩) ∧ Below w.heap.size w w' := Any.strings_Repeat Tryd.lays105 Tryd.Builder_Extra_105 s c w hc hlen
end Go.Proofs
end
section
set_option linter.unusedSimpArgs false
set_option linter.unusedVariables false
/- SHA-256: contracts: strings.Repeat (off the shelf), filled, Sum. -/
set_option linter.unusedSimpArgs false
set_option linter.unusedVariables false
namespace Go.Proofs.YthgcooppjhcgcaaDoor
namespace Am
open Go.RowKit
/-- A hash's cells. -/
def byteEsC (l : List UInt8) : List AV := l.map fun b => .int .u8 b.toNat
theorem rl_bytes {k : Nat} : ∀ (l : List UInt8), RLs k (byteEsC l)
  | [] => by simp [byteEsC, RLs]
  | _ :: l => by have := rl_bytes (k := k) l; simp only [byteEsC] at this; simp [byteEsC, RLs, RL, this]
theorem Rel.below {C : Ctx} {γ : Places} {σ : Store} {w w' : World} (h : Rel C γ σ w) (hb : Below w.heap.size w w') : Step γ w γ w' ∧ Rel C γ σ w' := by
  have hs : Step γ w γ w' := ⟨fun r fl pl h => ⟨fl, h⟩, hb.size, fun b hb' _ => hb.block b hb', fun r pl h => .inl ⟨r, pl, h, rfl⟩, hb.os, hb.tape, hb.output⟩
  refine ⟨hs, h.len, fun r o hr => ?_, h.dead, h.inj, fun g cs hg => (h.gl g cs hg).mono hs⟩
  obtain ⟨pl, h1, h2⟩ := h.alive r o hr
  exact ⟨pl, h1, h2.mono hs (hb.block _ h2.lt)⟩
/-- A contract that lies elsewhere: the call leaves what was there. -/
theorem ACallsTo.of_calls {C : Ctx} {f : FuncId} {args : List AV} {σ : Store} {v : AV} (hc : (cFn C f).isSome = true)
    (h : ∀ (γ : Places) (w : World) (cargs : List Value), VRt γ w args cargs → Calls C.P f cargs.toArray w fun e w' => ∃ cv, e = .returned cv ∧ VR γ w' v cv ∧ Below w.heap.size w w') : ACallsTo C f args σ v σ := by
  obtain ⟨e, hc⟩ := Option.isSome_iff_exists.1 hc
  simp only [cFn, Option.bind_eq_some_iff] at hc
  obtain ⟨fn, hf, hc⟩ := hc
  split at hc
  · cases hc
  · rename_i hname
    simp only [Option.bind_eq_some_iff, Option.map_eq_some_iff] at hc
    obtain ⟨c, hb, _⟩ := hc
    intro γ w cargs hR ha
    left
    constructor
    · have h1 : fn.name ≠ "runtime.NumGoroutine" := by simpa using hname
      simp [callFunc, hf, h1, hb]
    · refine (h γ w cargs ha).mono ?_
      rintro e w' ⟨cv, rfl, hv, hbl⟩
      obtain ⟨s1, s2⟩ := hR.below hbl
      exact ⟨cv, γ, rfl, s1, s2, hv⟩
theorem repeatL_rep (b : UInt8) : ∀ n, Lib.repeatL [b] n = List.replicate n b := by
  intro n
  induction n with
  | zero => simp [Lib.repeatL]
  | succ n ih => simp [Lib.repeatL, List.replicate_succ] at ih ⊢ <;> simp [ih]
theorem repeat_to (σ : Store) (b : UInt8) (c : Nat) (h : c ≤ 1000000) : ACallsTo TC 169 [.str [b], .int .i64 c] σ (.str (List.replicate c b)) σ := by
  refine ACallsTo.of_calls (by kernel_rfl) ?_
  intro γ w cargs ha
  simp only [VRt, VR] at ha
  obtain ⟨_, _, rfl, rfl, _, _, rfl, rfl, rfl⟩ := ha
  refine (Tryd.strings_Repeat ⟨[b].toArray⟩ c w (by omega) (by simp [ByteArray.size]; omega)).mono ?_
  rintro e w' ⟨rfl, hb⟩
  refine ⟨_, rfl, ?_, hb⟩
  simp only [VR]
  rw [repeatL_rep]
theorem filled_to (σ : Store) (s : List UInt8) (h : s.length < 1000000000000) : ACallsTo TC 148 [.str s] σ (.str (padS s)) σ := by
  refine ACallsTo.of_body sha_filled_ok (by simp) fun hw _ => ?_
  obtain ⟨z, hz⟩ : ∃ z : Nat, z = (119 - s.length % 64) % 64 := ⟨_, rfl⟩
  have hz64 : z < 64 := by rw [hz]; exact Nat.mod_lt _ (by decide)
  have hz2 : (119 - (s.length : Int) % 64) % 64 = z := by omega
  have hp : putS ((s.length : Int) * 8) 8 = be 8 (s.length * 8) := by
    unfold putS
    rw [if_pos (by omega)]
    rfl
  have hpl : (be 8 (s.length * 8)).length = 8 := be_length _ _
  repeat' (first | refine SWp.seq ?_ | refine SWp.block ?_ | refine SWp.scope ?_ | refine SWp.condT rfl ?_ | refine SWp.condF rfl ?_ | (refine SWp.condD rfl (fun ht => ?_) (fun ht => ?_) <;> try (exfalso; omega)) | ((first | refine SWp.reg ?_ | refine SWp.skip ?_ | refine SWp.exit ?_ | refine SWp.ret ?_ | (apply callW.mk_pu; (first | exact (fun _ => repeat_to _ 0 z (by omega)) | exact (fun _ => bits_Put_to _ ((s.length : Int) * 8) 8 (by omega) (by omega)))) | (apply callW.any; (first | exact (repeat_to _ 0 z (by omega)) | exact (bits_Put_to _ ((s.length : Int) * 8) 8 (by omega) (by omega)))) | ((first | apply splitG | apply splitGB | apply splitR | apply splitRB | apply splitE | apply splitEB | apply splitC | apply splitCB) <;> intro ht)); all_goals try simp (disch := first | omega | (simp only [lens]; first | done | omega)) only [go_sem, Nat.reduceEqDiff, Nat.reduceBEq, Nat.reduceAdd, Nat.reduceMul, Nat.reduceSub, Nat.reduceLeDiff, Int.reduceToNat, Int.reducePow, hz2, hp, hpl, List.length_replicate]))
  have e : s ++ ([128] ++ (List.replicate z 0 ++ be 8 (s.length * 8))) = padS s := by unfold padS; rw [← hz]; rfl
  rw [show s ++ 128 :: (List.replicate z 0 ++ be 8 (s.length * 8)) = padS s by unfold padS; rw [← hz]]
  exact DownV.same hw (rlB_ok _ rfl)
theorem padS_len (s : List UInt8) : (padS s).length % 64 = 0 ∧ (padS s).length < s.length + 80 := by
  unfold padS
  simp only [List.length_append, List.length_cons, List.length_replicate, be_length]
  omega
theorem gl_first : gl_sha_first = v0.c8 := rfl
theorem put4 (x : W) : putS (x.toNat : Int) 4 = be 4 x.toNat := by
  unfold putS
  rw [if_pos (by omega)]
  rfl
theorem mix_c8 (σ : Store) (v : V8) (s : List UInt8) (h : 64 ≤ s.length) (hs : s.length < 9223372036854775808) : ACallsTo TC 149 [.agg v.c8, .str s] σ (.agg (mixS v s).c8) σ := mix_to σ v s h hs
theorem flat_take {l : List W} {j : Nat} (h : j < l.length) : (l.flatMap fun x => be 4 x.toNat).take (4 * j) ++ be 4 (l[j]).toNat = (l.flatMap fun x => be 4 x.toNat).take (4 * (j + 1)) := by
  induction l generalizing j with
  | nil => simp at h
  | cons x l ih =>
    have hb : (be 4 x.toNat).length = 4 := be_length _ _
    rw [List.flatMap_cons]
    cases j with
    | zero =>
      simp only [Nat.mul_zero, List.take_zero, List.nil_append, List.getElem_cons_zero, Nat.zero_add, Nat.mul_one]
      rw [List.take_append_of_le_length (by omega), List.take_of_length_le (by omega)]
    | succ j =>
      simp only [List.length_cons] at h
      have e1 : (be 4 x.toNat).take (4 * (j + 1)) = be 4 x.toNat := List.take_of_length_le (by omega)
      have e2 : (be 4 x.toNat).take (4 * (j + 1 + 1)) = be 4 x.toNat := List.take_of_length_le (by omega)
      rw [List.getElem_cons_succ, List.take_append, List.take_append, e1, e2, hb, List.append_assoc, show 4 * (j + 1) - 4 = 4 * j by omega, show 4 * (j + 1 + 1) - 4 = 4 * (j + 1) by omega, ih (by omega)]
theorem outV_len (v : V8) : (outV v).length = 32 := by
  simp [outV, V8.l, be_length]
def hcells (v : V8) (j : Nat) : List AV := byteEsC ((outV v).take (4 * j)) ++ List.replicate (32 - 4 * j) (.int .u8 0)
theorem byteEsC_len (l : List UInt8) : (byteEsC l).length = l.length := by simp [byteEsC]
theorem hcells_len (v : V8) {j : Nat} (h : j ≤ 8) : (hcells v j).length = 32 := by
  simp [hcells, byteEsC_len, outV_len]; omega
theorem byteEs_flat (l : List UInt8) : (byteEs l).flatten = byteEsC l := by
  induction l with
  | nil => rfl
  | cons b l ih => simp [byteEs, byteEsC, B8] at ih ⊢; exact ih
theorem hcells_step (v : V8) {j : Nat} (h : j < 8) : overw (hcells v j) (4 * j) (byteEsC (be 4 (wat v.l j).toNat)) = hcells v (j + 1) := by
  have hl : v.l.length = 8 := rfl
  have e := flat_take (l := v.l) (j := j) (by omega)
  have hw : wat v.l j = v.l[j]'(by omega) := by simp [wat, List.getD_eq_getElem?_getD, List.getElem?_eq_getElem (show j < v.l.length by omega)]
  have h1 : (byteEsC ((outV v).take (4 * j))).length = 4 * j := by rw [byteEsC_len, List.length_take, outV_len]; omega
  have h2 : (byteEsC (be 4 (wat v.l j).toNat)).length = 4 := by rw [byteEsC_len, be_length]
  unfold overw hcells
  rw [List.take_append_of_le_length (by omega), List.take_of_length_le (by omega), List.drop_append, List.drop_of_length_le (by omega), h1, h2, List.nil_append]
  rw [show 4 * j + 4 - 4 * j = 4 by omega, List.drop_replicate, show 32 - 4 * j - 4 = 32 - 4 * (j + 1) by omega]
  congr 1
  unfold byteEsC
  rw [← List.map_append]
  congr 1
  rw [hw]
  exact e
set_option maxHeartbeats 4000000 in
theorem sha_Sum_to (σ : Store) (s : List UInt8) (h : s.length < 100000000000) : ACallsTo TC 95 [.str s] σ (.agg (byteEsC (shaS s))) σ := by
  obtain ⟨p, hp⟩ : ∃ p, p = padS s := ⟨_, rfl⟩
  obtain ⟨hp1, hp2⟩ := padS_len s
  rw [← hp] at hp1 hp2
  obtain ⟨N, hN⟩ : ∃ N, p.length = 64 * N := ⟨p.length / 64, by omega⟩
  obtain ⟨V, hV⟩ : ∃ V, V = blocks N v0 p := ⟨_, rfl⟩
  have hS : shaS s = outV V := by
    unfold shaS
    rw [← hp, hV]
    have : p.length / 64 = N := by omega
    rw [this]
  rw [hS]
  have hf := fun σ => filled_to σ s (by omega)
  rw [← hp] at hf
  refine ACallsTo.of_body sha_Sum_ok (by simp) fun hw _ => ?_
  repeat' (first | refine SWp.seq ?_ | refine SWp.block ?_ | refine SWp.scope ?_ | refine SWp.condT rfl ?_ | refine SWp.condF rfl ?_ | (refine SWp.condD rfl (fun ht => ?_) (fun ht => ?_) <;> try (exfalso; omega)) | ((first | refine SWp.reg ?_ | refine SWp.skip ?_ | refine SWp.exit ?_ | refine SWp.ret ?_ | (apply callW.mk_pu; (first | exact (fun _ => hf _))) | (apply callW.any; (first | exact (hf _))) | ((first | apply splitG | apply splitGB | apply splitR | apply splitRB | apply splitE | apply splitEB | apply splitC | apply splitCB) <;> intro ht)); all_goals try simp (disch := first | omega | (simp only [lens]; first | done | omega)) only [go_sem, Nat.reduceEqDiff, Nat.reduceBEq, Nat.reduceAdd, Nat.reduceMul, Nat.reduceSub, Nat.reduceLeDiff, Int.reduceToNat, Int.reducePow, gl_first, V8.c8]))
  refine SWp.loop (fun m ρ σ' => ∃ u q, q.length = 64 * m ∧ q.length ≤ p.length ∧ blocks m u q = V ∧ ρ 2 = .ptr σ.length 0 0 ∧ ρ 3 = .ptr (σ.length + 1) 0 0 ∧ ρ 4 = .str q ∧ σ' = σ ++ [some [byteEsC (List.replicate 32 0)], some [u.c8]]) N ?_ ?_
  · exact ⟨v0, p, hN, Nat.le_refl _, hV.symm, by simp (disch := first | omega | (simp only [lens]; first | done | omega)) only [go_sem, Nat.reduceEqDiff, Nat.reduceBEq, Nat.reduceAdd, Nat.reduceMul, Nat.reduceSub, Nat.reduceLeDiff, Int.reduceToNat, Int.reducePow], by simp (disch := first | omega | (simp only [lens]; first | done | omega)) only [go_sem, Nat.reduceEqDiff, Nat.reduceBEq, Nat.reduceAdd, Nat.reduceMul, Nat.reduceSub, Nat.reduceLeDiff, Int.reduceToNat, Int.reducePow], by simp (disch := first | omega | (simp only [lens]; first | done | omega)) only [go_sem, Nat.reduceEqDiff, Nat.reduceBEq, Nat.reduceAdd, Nat.reduceMul, Nat.reduceSub, Nat.reduceLeDiff, Int.reduceToNat, Int.reducePow], rfl⟩
  · rintro m ρ σ' ⟨u, q, hq, hqp, hb, q2, q3, q4, rfl⟩
    have hz : (byteEsC (List.replicate 32 0)).length = 32 := rfl
    cases m with
    | succ m =>
      have hne : (q == []) = false := by cases q with
        | nil => simp at hq
        | cons a q => rfl
      have hmix := fun σ => mix_c8 σ u (q.take 64) (by rw [List.length_take]; omega) (by rw [List.length_take]; omega)
      obtain ⟨M, hM⟩ : ∃ M, M = mixS u (q.take 64) := ⟨_, rfl⟩
      rw [← hM] at hmix
      have hb2 : blocks m M (q.drop 64) = V := by rw [hM]; exact hb
      unfold V8.c8 at hmix
      repeat' (first | refine SWp.seq ?_ | refine SWp.block ?_ | refine SWp.scope ?_ | refine SWp.condT rfl ?_ | refine SWp.condF rfl ?_ | (refine SWp.condD rfl (fun ht => ?_) (fun ht => ?_) <;> try (exfalso; omega)) | ((first | refine SWp.regS ?_ | refine SWp.skip ?_ | refine SWp.exit ?_ | refine SWp.ret ?_ | (apply callW.mk_pu; (first | exact (fun _ => hmix _))) | (apply callW.any; (first | exact (hmix _))) | ((first | apply splitG | apply splitGB | apply splitR | apply splitRB | apply splitE | apply splitEB | apply splitC | apply splitCB) <;> intro ht)); all_goals try simp (disch := first | omega | (simp only [lens]; first | done | omega)) only [go_sem, Nat.reduceEqDiff, Nat.reduceBEq, Nat.reduceAdd, Nat.reduceMul, Nat.reduceSub, Nat.reduceLeDiff, Int.reduceToNat, Int.reducePow, q2, q3, q4, hne, V8.c8]))
      refine ⟨m, by omega, M, q.drop 64, by rw [List.length_drop]; omega, by rw [List.length_drop]; omega, hb2, rfl, rfl⟩
    | zero =>
      have hq0 : q = [] := List.eq_nil_of_length_eq_zero (by omega)
      subst hq0
      have hu : u = V := hb
      subst hu
      repeat' (first | refine SWp.seq ?_ | refine SWp.block ?_ | refine SWp.scope ?_ | refine SWp.condT rfl ?_ | refine SWp.condF rfl ?_ | (refine SWp.condD rfl (fun ht => ?_) (fun ht => ?_) <;> try (exfalso; omega)) | ((first | refine SWp.reg ?_ | refine SWp.skip ?_ | refine SWp.exit ?_ | refine SWp.ret ?_ | ((first | apply splitG | apply splitGB | apply splitR | apply splitRB | apply splitE | apply splitEB | apply splitC | apply splitCB) <;> intro ht)); all_goals try simp (disch := first | omega | (simp only [lens]; first | done | omega)) only [go_sem, Nat.reduceEqDiff, Nat.reduceBEq, Nat.reduceAdd, Nat.reduceMul, Nat.reduceSub, Nat.reduceLeDiff, Int.reduceToNat, Int.reducePow, q2, q3, q4, V8.c8]))
      refine SWp.loop (fun m ρ σ' => ∃ j : Nat, m + j = 8 ∧ ρ 2 = .ptr σ.length 0 0 ∧ ρ 5 = .ptr (σ.length + 2) 0 0 ∧ ρ 19 = .agg u.c8 ∧ ρ 20 = .int .i64 j ∧ σ' = σ ++ [some [byteEsC (List.replicate 32 0)], some [u.c8], some [hcells u j]]) 8 ?_ ?_
      · exact ⟨0, by omega, by simp (disch := first | omega | (simp only [lens]; first | done | omega)) only [go_sem, Nat.reduceEqDiff, Nat.reduceBEq, Nat.reduceAdd, Nat.reduceMul, Nat.reduceSub, Nat.reduceLeDiff, Int.reduceToNat, Int.reducePow, q2], by simp (disch := first | omega | (simp only [lens]; first | done | omega)) only [go_sem, Nat.reduceEqDiff, Nat.reduceBEq, Nat.reduceAdd, Nat.reduceMul, Nat.reduceSub, Nat.reduceLeDiff, Int.reduceToNat, Int.reducePow], by simp (disch := first | omega | (simp only [lens]; first | done | omega)) only [go_sem, Nat.reduceEqDiff, Nat.reduceBEq, Nat.reduceAdd, Nat.reduceMul, Nat.reduceSub, Nat.reduceLeDiff, Int.reduceToNat, Int.reducePow]; rfl, by simp (disch := first | omega | (simp only [lens]; first | done | omega)) only [go_sem, Nat.reduceEqDiff, Nat.reduceBEq, Nat.reduceAdd, Nat.reduceMul, Nat.reduceSub, Nat.reduceLeDiff, Int.reduceToNat, Int.reducePow]; rfl, rfl⟩
      · clear q2 q3 q4
        rintro m ρ σ' ⟨j, hm, q2, q5, q19, q20, rfl⟩
        have hlen := hcells_len u (j := j) (by omega)
        have h8 : u.c8.length = 8 := rfl
        by_cases hj : j < 8
        · have hst := hcells_step u hj
          have hw := wat_lt (w := u.l) (i := j) (by simpa [V8.l] using hj)
          rw [ws_l] at hw
          generalize wat u.l j = x at *
          generalize hcells u j = cc at *
          generalize hcc : hcells u (j + 1) = cc' at *
          have hx : x.toNat < 4294967296 := x.isLt
          have hb4 : (be 4 x.toNat).length = 4 := be_length _ _
          have ht4 : (byteEs (be 4 x.toNat)).take (32 - 4 * j) = byteEs (be 4 x.toNat) := List.take_of_length_le (by rw [byteEs_len, hb4]; omega)
          have hn4 : (4 * (j : Int)).toNat = 4 * j := by omega
          repeat' (first | refine SWp.seq ?_ | refine SWp.block ?_ | refine SWp.scope ?_ | refine SWp.condT rfl ?_ | refine SWp.condF rfl ?_ | (refine SWp.condD rfl (fun ht => ?_) (fun ht => ?_) <;> try (exfalso; omega)) | ((first | refine SWp.regS ?_ | refine SWp.skip ?_ | refine SWp.exit ?_ | refine SWp.ret ?_ | (apply callW.mk_pu; (first | exact (fun _ => bits_Put_to _ _ _ (by omega) (by omega)))) | (apply callW.any; (first | exact (bits_Put_to _ _ _ (by omega) (by omega)))) | ((first | apply splitG | apply splitGB | apply splitR | apply splitRB | apply splitE | apply splitEB | apply splitC | apply splitCB) <;> intro ht)); all_goals try simp (disch := first | omega | (simp only [lens]; first | done | omega)) only [go_sem, Nat.reduceEqDiff, Nat.reduceBEq, Nat.reduceAdd, Nat.reduceMul, Nat.reduceSub, Nat.reduceLeDiff, Int.reduceToNat, Int.reducePow, q2, q5, q19, q20, hlen, h8, hw, put4, hb4, ht4, hst, hn4, byteEs_flat]))
          unfold overw at hst
          rw [List.append_assoc] at hst
          exact ⟨8 - (j + 1), by omega, j + 1, by omega, by simp, by rw [hst, hcc]⟩
        · obtain rfl : j = 8 := by omega
          have e8 : hcells u 8 = byteEsC (outV u) := by
            unfold hcells
            rw [List.take_of_length_le (by rw [outV_len]; decide)]
            exact List.append_nil _
          have hd : List.drop 32 (byteEsC (List.replicate 32 0)) = [] := rfl
          have hl : (byteEsC (outV u)).length = 32 := by rw [byteEsC_len, outV_len]
          rw [e8] at *
          repeat' (first | refine SWp.seq ?_ | refine SWp.block ?_ | refine SWp.scope ?_ | refine SWp.condT rfl ?_ | refine SWp.condF rfl ?_ | (refine SWp.condD rfl (fun ht => ?_) (fun ht => ?_) <;> try (exfalso; omega)) | ((first | refine SWp.reg ?_ | refine SWp.skip ?_ | refine SWp.exit ?_ | refine SWp.ret ?_ | ((first | apply splitG | apply splitGB | apply splitR | apply splitRB | apply splitE | apply splitEB | apply splitC | apply splitCB) <;> intro ht)); all_goals try simp (disch := first | omega | (simp only [lens]; first | done | omega)) only [go_sem, Nat.reduceEqDiff, Nat.reduceBEq, Nat.reduceAdd, Nat.reduceMul, Nat.reduceSub, Nat.reduceLeDiff, Int.reduceToNat, Int.reducePow, q2, q5, q19, q20, hl, h8, hd]))
          exact DownV.pure hw (rl_agg (rl_bytes _))
end Am
end Go.Proofs.YthgcooppjhcgcaaDoor
end
section
set_option linter.unusedSimpArgs false
set_option linter.unusedVariables false
/- strings.Builder: the contracts of copyCheck and String over the abstract store. -/
set_option linter.unusedSimpArgs false
set_option linter.unusedVariables false
namespace Go.Proofs
open Go.Shelf Go.RowKit
def Tryd.lays240_ren : Go.Shelf.Ren := ⟨fun | 240 => 172 | 276 => 179 | n => n, fun | 0 => 0 | 4 => 4 | 9 => 9 | 20 => 20 | 70 => 186 | 72 => 188 | 164 => 215 | 37 => 58 | n => n, fun | n => n⟩
theorem Tryd.lays240 : Go.Proofs.Lays.n240 Tryd.prog Tryd.lays240_ren := {
  mixed := by kernel_rfl
  f240 := Tryd.func172.trans (congrArg some (by kernel_rfl))
  f276 := Tryd.func179.trans (congrArg some (by kernel_rfl))
  t0 := Tryd.underlying0
  a0 := Tryd.isAgg0
  z0 := Tryd.sizeOf0
  v0 := Tryd.zeroValue0
  t4 := Tryd.underlying4
  a4 := Tryd.isAgg4
  z4 := Tryd.sizeOf4
  v4 := Tryd.zeroValue4
  t9 := Tryd.underlying9
  a9 := Tryd.isAgg9
  z9 := Tryd.sizeOf9
  v9 := Tryd.zeroValue9
  t20 := Tryd.underlying20
  a20 := Tryd.isAgg20
  z20 := Tryd.sizeOf20
  v20 := Tryd.zeroValue20
  t70 := Tryd.underlying186
  a70 := Tryd.isAgg186
  z70 := Tryd.sizeOf186
  v70 := Tryd.zeroValue186
  t72 := Tryd.underlying188
  a72 := Tryd.isAgg188
  z72 := Tryd.sizeOf188
  v72 := Tryd.zeroValue188
  t164 := Tryd.underlying215
  a164 := Tryd.isAgg215
  z164 := Tryd.sizeOf215
  v164 := Tryd.zeroValue215 }
theorem Tryd.x72_240 : Builder.X72 Tryd.prog Tryd.lays240_ren := {
  sizeBuilder := by kernel_rfl
  liesBuilder := by kernel_rfl }
section
variable {P : Program} {ρ : Ren}
set_option maxHeartbeats 1000000 in
set_option maxRecDepth 100000 in
/-- String, with all that it turns: the bytes are frozen. -/
theorem Tryd.string_ex (L : Lays.n169 P ρ) (X : Builder.Extra P ρ) (b g cap : Nat) (cur : Array Value) (p : Value) (fb fg : Nat × Nat) (l : List UInt8) (w : World) (h0 : l ≠ [])
    (hbk : w.heap[b]? = some (.cells #[p, .slice (some ⟨g, 0, none⟩) l.length cap] (ρ.t 72) fb)) (hg : w.heap[g]? = some (.cells cur (ρ.t 5) fg)) (hnc : l.length ≤ cap) (hcs : l.length ≤ cur.size) (hln : l.length ≤ 9223372036854775807)
    (hcl : ∀ j x, l[j]? = some x → w.cell? ((⟨g, 0, none⟩ : Addr).add j) = some (.int .u8 x.toNat)) :
    Calls P (ρ.f 169) #[.pointer (some ⟨b, 0, none⟩)] w fun e w' => e = .returned (.string ⟨l.toArray⟩) ∧ w' = w.drew.freeze ⟨g, 0, none⟩ l.length := by
  have hl0 : l.length ≠ 0 := by simpa using h0
  have c1 : w.drew.cell? ⟨b, 1, none⟩ = some (.slice (some ⟨g, 0, none⟩) l.length cap) := by
    have : w.drew.heap[b]? = some (.cells #[p, .slice (some ⟨g, 0, none⟩) l.length cap] (ρ.t 72) fb) := hbk
    rw [Lib.cell_of_heap this]; rfl
  have hSD : (Builtin.unsafeSliceData_ #[(ρ.t 37)] (ρ.t 127) #[.slice (some ⟨g, 0, none⟩) l.length cap]).run P w.drew = .ok (.pointer (some ⟨g, 0, none⟩)) w.drew :=
    Lib.run_unsafeSliceData_row _ _ _ _ _ _ (by omega)
  have hUS : (Builtin.unsafeString_ #[(ρ.t 127), (ρ.t 3)] (ρ.t 9) #[.pointer (some ⟨g, 0, none⟩), .int .i64 l.length]).run P w.drew = .ok (.string ⟨l.toArray⟩) (w.drew.freeze ⟨g, 0, none⟩ l.length) :=
    Lib.run_unsafeString_row w.drew (ρ.t 127) (ρ.t 3) (ρ.t 9) (ρ.t 5) L.t127 X.cellsByte g cur.size (by have hg' : w.drew.heap[g]? = some (.cells cur (ρ.t 5) fg) := hg; simp [World.shape?, hg']) l h0 hcs hln hcl
  have mixed := L.mixed
  have t72 := L.t72; have a72 := L.a72; have z72 := L.z72; have v72 := L.v72; have u72 := run_underlying L.t72
  have t70 := L.t70; have a70 := L.a70; have z70 := L.z70; have v70 := L.v70; have u70 := run_underlying L.t70
  have t37 := L.t37; have a37 := L.a37; have z37 := L.z37; have v37 := L.v37; have u37 := run_underlying L.t37
  have t127 := L.t127; have a127 := L.a127; have z127 := L.z127; have v127 := L.v127; have u127 := run_underlying L.t127
  have t3 := L.t3; have a3 := L.a3; have z3 := L.z3; have v3 := L.v3; have u3 := run_underlying L.t3
  have t9 := L.t9; have a9 := L.a9; have z9 := L.z9; have v9 := L.v9; have u9 := run_underlying L.t9
  have t5 := X.t5; have a5 := X.a5; have z5 := X.z5; have v5 := X.v5; have u5 := run_underlying X.t5
  clear hcl hcs hln hg hbk hnc
  go_enter L.f169, Body.n169_ntmps ρ
  go_wp2
  go_region_o
  all_goals (go_wp2; go_ret; exact ⟨rfl, rfl⟩)
end
end Go.Proofs
namespace Go.Proofs.YthgcooppjhcgcaaDoor
namespace Am
open Go.RowKit
section
variable {C : Ctx} {γ : Places} {σ : Store} {w w' : World}
/-- A row is lost: its block may become what it will. -/
theorem Rel.lose (h : Rel C γ σ w) {r : Nat} {pl : Place} (hr : γ[r]? = some (true, pl)) (hsz : w'.heap.size = w.heap.size) (hother : ∀ b, b ≠ pl.b → w'.heap[b]? = w.heap[b]?) (ho : w'.os = w.os) (ht : w'.tape = w.tape) (hp : w'.output = w.output) :
    Step γ w (γ.set r (false, pl)) w' ∧ Rel C (γ.set r (false, pl)) (σ.set r none) w' := by
  obtain ⟨k1, k2⟩ := h.kill hr
  have hrl : r < γ.length := (List.getElem?_eq_some_iff.1 hr).1
  have hs : Step γ w (γ.set r (false, pl)) w' := ⟨k1.keep, by omega, fun b _ hn => hother b fun e => hn r pl hr e.symm, fun q x hx => by
    rcases k1.new q x hx with h | h
    · exact .inl h
    · exact .inr h, ho, ht, hp⟩
  refine ⟨hs, by simp [h.len], fun q o hq => ?_, fun q hq => k2.dead q hq, fun q q' x x' h1 h2 h3 => k2.inj q q' x x' h1 h2 h3, fun g cs hg => (h.gl g cs hg).mono hs⟩
  by_cases e : r = q
  · subst e
    rw [List.getElem?_set_self (by rw [← h.len]; exact hrl)] at hq; cases hq
  · rw [List.getElem?_set_ne e] at hq
    obtain ⟨x, h1, h2⟩ := h.alive q o hq
    exact ⟨x, by rw [List.getElem?_set_ne e]; exact h1, h2.mono hs (hother _ fun e' => e (h.inj r q pl x hr h1 e'.symm))⟩
/-- A builder in memory. -/
theorem Rel.bld_at (hR : Rel C γ σ w) {r : Nat} {x : AV} (hr : σ[r]? = some (some [[.bld r, x]])) : ∃ (pl : Place) (v0 v1 : Value) (fz : Nat × Nat), γ[r]? = some (true, pl) ∧ pl.base = 0 ∧ pl.esz = 2 ∧ w.heap[pl.b]? = some (.cells #[v0, v1] bldT fz) ∧
    (v0 = .pointer none ∨ v0 = .pointer (some ⟨pl.b, 0, none⟩)) ∧ VR γ w x v1 ∧ (∀ k, k < 2 → (decide (fz.1 ≤ k) && decide (k < fz.2)) = false) := by
  obtain ⟨pl, hpl, hok⟩ := hR.alive r _ hr
  obtain ⟨c, ty, fz, pre, mid, post, q1, q2, q3, q4, q5, q6⟩ := hok.ex
  simp only [List.flatten_cons, List.flatten_nil, List.append_nil, VRs] at q5
  obtain ⟨v0, _, rfl, ⟨k1, _⟩, v1, _, rfl, ⟨k2, _⟩, rfl⟩ := q5
  simp only [VR] at k1
  obtain ⟨fl, pl', hpl', ⟨e1, e2, e3, e4, e5⟩, k3⟩ := k1
  rw [hpl] at hpl'; cases hpl'
  have hty : ty = bldT := by
    obtain ⟨c0, fz0, h0⟩ := hok.tyk
    rw [q1] at h0; cases h0; exact e1
  have hpre : pre = [] := List.eq_nil_of_length_eq_zero (by omega)
  subst hpre
  have hlen : c.toList.length = 2 := by rw [Array.length_toList, q4, e5]
  have hpost : post = [] := by
    rw [q2] at hlen
    simpa using hlen
  subst hpost
  have hc : c = #[v0, v1] := by
    apply Array.ext'
    rw [q2]; rfl
  subst hc hty
  exact ⟨pl, v0, v1, fz, hpl, e2, e3, q1, k3, k2, fun k hk => q6 k hk⟩
end
theorem set_same {σ : Store} {r : Nat} {x : Option AObj} (h : σ[r]? = some x) : σ.set r x = σ := by
  apply List.ext_getElem?
  intro i
  by_cases e : r = i
  · subst e
    rw [List.getElem?_set_self (List.getElem?_eq_some_iff.1 h).1, h]
  · rw [List.getElem?_set_ne e]
theorem copyCheck_to (σ : Store) (r : Nat) (x : AV) (hr : σ[r]? = some (some [[.bld r, x]])) : ACallsTo TC 172 [.ptr r 0 0] σ (.tup []) σ := by
  obtain ⟨e, hc⟩ := Option.isSome_iff_exists.1 (show (cFn TC 172).isSome = true by kernel_rfl)
  simp only [cFn, Option.bind_eq_some_iff] at hc
  obtain ⟨fn, hf, hc⟩ := hc
  split at hc
  · cases hc
  · rename_i hname
    simp only [Option.bind_eq_some_iff, Option.map_eq_some_iff] at hc
    obtain ⟨c, hb, _⟩ := hc
    intro γ w cargs hR ha
    left
    constructor
    · have h1 : fn.name ≠ "runtime.NumGoroutine" := by simpa using hname
      simp [callFunc, hf, h1, hb]
    · obtain ⟨pl, v0, v1, fz, hpl, hb0, hez, hw, hv0, hv1, hfz⟩ := hR.bld_at hr
      simp only [VRt, VR] at ha
      obtain ⟨_, _, rfl, ⟨fl, pl', hpl', rfl⟩, rfl⟩ := ha
      rw [hpl] at hpl'; cases hpl'
      have ea : pl.base + 0 * pl.esz + 0 = 0 := by rw [hb0]; omega
      rw [ea]
      have hcell : w.cell? ⟨pl.b, 0, none⟩ = some v0 := by rw [Lib.cell_of_heap hw]; rfl
      rcases hv0 with rfl | rfl
      · refine (Any.Builder_copyCheck_fresh Tryd.lays240 Tryd.x72_240 pl.b w hcell (by simp [World.shape?, hw]; rfl) (by simp only [World.frozen?, hw]; exact hfz 0 (by omega))).mono ?_
        rintro e w' ⟨rfl, rfl⟩
        obtain ⟨w2, k1, k2, k3⟩ := hR.storeElem (i := 0) (off := 0) (vs := [.bld r]) (vals := [.pointer (some ⟨pl.b, 0, none⟩)]) hr hpl rfl (by simp) (VRs.one ⟨by
          simp only [VR]
          obtain ⟨pl2, hpl2, hok⟩ := hR.alive r _ hr
          rw [hpl] at hpl2; cases hpl2
          obtain ⟨c, ty, fz2, pre, mid, post, q1, q2, q3, q4, q5, q6⟩ := hok.ex
          simp only [List.flatten_cons, List.flatten_nil, List.append_nil, VRs, VR] at q5
          obtain ⟨u0, _, _, ⟨⟨fl3, pl3, hpl3, k, _⟩, _⟩, _⟩ := q5
          rw [hpl] at hpl3; cases hpl3
          exact ⟨true, pl, hpl, k, .inr rfl⟩, rfl⟩)
        rw [ea] at k1
        have e2 : w2 = w.setCell ⟨pl.b, 0, none⟩ (.pointer (some ⟨pl.b, 0, none⟩)) := by
          have hfr : w.frozen? ⟨pl.b, 0, none⟩ = false := by simp only [World.frozen?, hw]; exact hfz 0 (by omega)
          have hst : (store ⟨pl.b, 0, none⟩ (.pointer (some ⟨pl.b, 0, none⟩))).run TC.P w = .ok () (w.setCell ⟨pl.b, 0, none⟩ (.pointer (some ⟨pl.b, 0, none⟩))) := by
            rw [run_store TC.P w _ _ _ rfl, hcell]; simp [hfr]
          have := k1
          simp only [storeCells, addr_add, Nat.add_zero, Sem.run_bind, hst, Result.andThen_ok, Sem.run_pure, Result.ok.injEq, true_and] at this
          exact this.symm
        rw [← e2]
        have e3 : σ.set r (some ([[.bld r, x]].set 0 (overw [.bld r, x] 0 [.bld r]))) = σ := by
          have : ([[AV.bld r, x]] : List (List AV)).set 0 (overw [.bld r, x] 0 [.bld r]) = [[.bld r, x]] := by simp [overw]
          rw [this]
          exact set_same hr
        rw [e3] at k3
        exact ⟨_, γ, rfl, k2, k3, by simp only [VR]; exact ⟨[], rfl, VRt.nil⟩⟩
      · refine (Any.Builder_copyCheck_used Tryd.lays240 Tryd.x72_240 pl.b w hcell).mono ?_
        rintro e w' ⟨rfl, rfl⟩
        exact ⟨_, γ, rfl, Step.refl _ _, hR, by simp only [VR]; exact ⟨[], rfl, VRt.nil⟩⟩
theorem builder_String_to (σ : Store) (r rb : Nat) (s : List UInt8) (h0 : s ≠ []) (hs : s.length ≤ 1073741824) (h1 : σ[r]? = some (some [[.bld r, .bsl rb s.length]])) (h2 : σ[rb]? = some (some (byteEs s))) :
    ACallsTo TC 153 [.ptr r 0 0] σ (.str s) (σ.set rb none) := by
  obtain ⟨e, hc⟩ := Option.isSome_iff_exists.1 (show (cFn TC 153).isSome = true by kernel_rfl)
  simp only [cFn, Option.bind_eq_some_iff] at hc
  obtain ⟨fn, hf, hc⟩ := hc
  split at hc
  · cases hc
  · rename_i hname
    simp only [Option.bind_eq_some_iff, Option.map_eq_some_iff] at hc
    obtain ⟨c, hb, _⟩ := hc
    intro γ w cargs hR ha
    left
    constructor
    · have h1 : fn.name ≠ "runtime.NumGoroutine" := by simpa using hname
      simp [callFunc, hf, h1, hb]
    · obtain ⟨pl, v0, v1, fz, hpl, hb0, hez, hw, hv0, hv1, hfz⟩ := hR.bld_at h1
      simp only [VRt, VR] at ha
      obtain ⟨_, _, rfl, ⟨fl, pl', hpl', rfl⟩, rfl⟩ := ha
      rw [hpl] at hpl'; cases hpl'
      have ea : pl.base + 0 * pl.esz + 0 = 0 := by rw [hb0]; omega
      rw [ea]
      simp only [VR] at hv1
      obtain ⟨fl2, pb, cap, hpb, ⟨t1, t2, t3⟩, rfl, hso⟩ := hv1
      obtain ⟨pb', hpb', hok⟩ := hR.alive rb _ h2
      rw [hpb] at hpb'; cases hpb'
      obtain ⟨cur, ty, fg, pre, mid, post, q1, q2, q3, q4, q5, q6⟩ := hok.ex
      have hty : ty = u8T := by
        obtain ⟨c0, fz0, h0⟩ := hok.tyk
        rw [q1] at h0; cases h0; exact t1
      subst hty
      have hpre : pre = [] := List.eq_nil_of_length_eq_zero (by omega)
      subst hpre
      rw [byteEs_flatten] at q5
      have hml := q5.length
      rw [List.length_map] at hml
      have hcs : s.length ≤ cur.size := by
        rw [← Array.length_toList, q2]; simp; omega
      refine (Tryd.string_ex Tryd.lays169 Tryd.Builder_Extra_169 pl.b pb.b cap cur v0 fz fg s w h0 hw q1 hso.le hcs (by omega) (fun j x hj => ?_)).mono ?_
      · obtain ⟨v, k1, k2⟩ := q5.get (i := j) (a := B8 x) (by rw [List.getElem?_map, hj]; rfl)
        have hv := k2.1
        simp only [B8, VR] at hv
        rw [addr_add, Nat.zero_add, Lib.cell_of_heap q1]
        show cur[j]? = _
        rw [← Array.getElem?_toList, q2, List.nil_append, List.getElem?_append_left (by
          rcases Nat.lt_or_ge j mid.length with h | h
          · exact h
          · simp [List.getElem?_eq_none h] at k1), k1, hv]
      · rintro e w' ⟨rfl, rfl⟩
        have hz : s.length ≠ 0 := by simpa using h0
        obtain ⟨k1, k2⟩ := hR.lose (w' := w.drew.freeze ⟨pb.b, 0, none⟩ s.length) hpb (by show (World.freeze w.drew _ _).heap.size = w.drew.heap.size; unfold World.freeze; rw [if_neg hz]; exact Array.size_modify) (fun b hb => by
          show (World.freeze w.drew _ _).heap[b]? = w.drew.heap[b]?
          unfold World.freeze
          rw [if_neg hz]
          simp only [Array.getElem?_modify]
          rw [if_neg (fun e => hb e.symm)]) (by unfold World.freeze; rw [if_neg hz]; rfl) (by unfold World.freeze; rw [if_neg hz]; rfl) (by unfold World.freeze; rw [if_neg hz]; rfl)
        exact ⟨_, _, rfl, k1, k2, by simp only [VR]⟩
end Am
end Go.Proofs.YthgcooppjhcgcaaDoor
end
