/- THE ABSTRACT MACHINE, part 22: its steps as equations for simp. -/
import Derived.Test.YtkffgmpbhahioaaAmRun
namespace Go.Proofs.Ytkffgmpbhahioaa
namespace Am
section
variable {C : Ctx} {K : Env → Store → Prop} {ρ : Env} {σ : Store} {d : Option Nat} {g : Option (Nat × Bool)} {nd : Nd} {is : List AIns} {H : Hist}
theorem ow_mv {x} : opsWp C K (⟨d, g, nd, .mv x⟩ :: is) H ρ σ = stepW (opsWp C K is) H ⟨d, g, nd, .mv x⟩ ρ σ := rfl
theorem ow_pick {c} {a} {b} : opsWp C K (⟨d, g, nd, .pick c a b⟩ :: is) H ρ σ = stepW (opsWp C K is) H ⟨d, g, nd, .pick c a b⟩ ρ σ := rfl
theorem ow_alloc {z} : opsWp C K (⟨d, g, nd, .alloc z⟩ :: is) H ρ σ = stepW (opsWp C K is) H ⟨d, g, nd, .alloc z⟩ ρ σ := rfl
theorem ow_box {x} : opsWp C K (⟨d, g, nd, .box x⟩ :: is) H ρ σ = stepW (opsWp C K is) H ⟨d, g, nd, .box x⟩ ρ σ := rfl
theorem ow_build {z} {ps} : opsWp C K (⟨d, g, nd, .build z ps⟩ :: is) H ρ σ = stepW (opsWp C K is) H ⟨d, g, nd, .build z ps⟩ ρ σ := rfl
theorem ow_lit {sz} {xs} : opsWp C K (⟨d, g, nd, .lit sz xs⟩ :: is) H ρ σ = stepW (opsWp C K is) H ⟨d, g, nd, .lit sz xs⟩ ρ σ := rfl
theorem ow_load {ag} {n} {x} : opsWp C K (⟨d, g, nd, .load ag n x⟩ :: is) H ρ σ = stepW (opsWp C K is) H ⟨d, g, nd, .load ag n x⟩ ρ σ := rfl
theorem ow_store {n} {a} {x} : opsWp C K (⟨d, g, nd, .store n a x⟩ :: is) H ρ σ = stepW (opsWp C K is) H ⟨d, g, nd, .store n a x⟩ ρ σ := rfl
theorem ow_nilc {x} : opsWp C K (⟨d, g, nd, .nilc x⟩ :: is) H ρ σ = stepW (opsWp C K is) H ⟨d, g, nd, .nilc x⟩ ρ σ := rfl
theorem ow_bin {op} {bk} {x} {y} : opsWp C K (⟨d, g, nd, .bin op bk x y⟩ :: is) H ρ σ = stepW (opsWp C K is) H ⟨d, g, nd, .bin op bk x y⟩ ρ σ := rfl
theorem ow_un {op} {x} : opsWp C K (⟨d, g, nd, .un op x⟩ :: is) H ρ σ = stepW (opsWp C K is) H ⟨d, g, nd, .un op x⟩ ρ σ := rfl
theorem ow_conv {c} {x} : opsWp C K (⟨d, g, nd, .conv c x⟩ :: is) H ρ σ = stepW (opsWp C K is) H ⟨d, g, nd, .conv c x⟩ ρ σ := rfl
theorem ow_mkfn {f} {caps} : opsWp C K (⟨d, g, nd, .mkfn f caps⟩ :: is) H ρ σ = stepW (opsWp C K is) H ⟨d, g, nd, .mkfn f caps⟩ ρ σ := rfl
theorem ow_make {sz} {z} {l} {c} : opsWp C K (⟨d, g, nd, .make sz z l c⟩ :: is) H ρ σ = stepW (opsWp C K is) H ⟨d, g, nd, .make sz z l c⟩ ρ σ := rfl
theorem ow_slice {k} {x} {lo} {hi} {mx} : opsWp C K (⟨d, g, nd, .slice k x lo hi mx⟩ :: is) H ρ σ = stepW (opsWp C K is) H ⟨d, g, nd, .slice k x lo hi mx⟩ ρ σ := rfl
theorem ow_fa {k} {x} : opsWp C K (⟨d, g, nd, .fa k x⟩ :: is) H ρ σ = stepW (opsWp C K is) H ⟨d, g, nd, .fa k x⟩ ρ σ := rfl
theorem ow_fld {ag} {n} {off} {x} : opsWp C K (⟨d, g, nd, .fld ag n off x⟩ :: is) H ρ σ = stepW (opsWp C K is) H ⟨d, g, nd, .fld ag n off x⟩ ρ σ := rfl
theorem ow_iaArr {n} {sz} {x} {i} : opsWp C K (⟨d, g, nd, .iaArr n sz x i⟩ :: is) H ρ σ = stepW (opsWp C K is) H ⟨d, g, nd, .iaArr n sz x i⟩ ρ σ := rfl
theorem ow_iaSl {sz} {x} {i} : opsWp C K (⟨d, g, nd, .iaSl sz x i⟩ :: is) H ρ σ = stepW (opsWp C K is) H ⟨d, g, nd, .iaSl sz x i⟩ ρ σ := rfl
theorem ow_ixArr {n} {ag} {sz} {x} {i} : opsWp C K (⟨d, g, nd, .ixArr n ag sz x i⟩ :: is) H ρ σ = stepW (opsWp C K is) H ⟨d, g, nd, .ixArr n ag sz x i⟩ ρ σ := rfl
theorem ow_ixStr {x} {i} : opsWp C K (⟨d, g, nd, .ixStr x i⟩ :: is) H ρ σ = stepW (opsWp C K is) H ⟨d, g, nd, .ixStr x i⟩ ρ σ := rfl
theorem ow_ext {i} {x} : opsWp C K (⟨d, g, nd, .ext i x⟩ :: is) H ρ σ = stepW (opsWp C K is) H ⟨d, g, nd, .ext i x⟩ ρ σ := rfl
theorem ow_lenStr {x} : opsWp C K (⟨d, g, nd, .lenStr x⟩ :: is) H ρ σ = stepW (opsWp C K is) H ⟨d, g, nd, .lenStr x⟩ ρ σ := rfl
theorem ow_lenSl {x} : opsWp C K (⟨d, g, nd, .lenSl x⟩ :: is) H ρ σ = stepW (opsWp C K is) H ⟨d, g, nd, .lenSl x⟩ ρ σ := rfl
theorem ow_lenArr {n} : opsWp C K (⟨d, g, nd, .lenArr n⟩ :: is) H ρ σ = stepW (opsWp C K is) H ⟨d, g, nd, .lenArr n⟩ ρ σ := rfl
theorem ow_app {sz} {s} {x} : opsWp C K (⟨d, g, nd, .app sz s x⟩ :: is) H ρ σ = stepW (opsWp C K is) H ⟨d, g, nd, .app sz s x⟩ ρ σ := rfl
theorem ow_copy {sz} {e} {s} : opsWp C K (⟨d, g, nd, .copy sz e s⟩ :: is) H ρ σ = stepW (opsWp C K is) H ⟨d, g, nd, .copy sz e s⟩ ρ σ := rfl
theorem ow_clear {z} {x} : opsWp C K (⟨d, g, nd, .clear z x⟩ :: is) H ρ σ = stepW (opsWp C K is) H ⟨d, g, nd, .clear z x⟩ ρ σ := rfl
theorem ow_minmax {mx} {x} {y} : opsWp C K (⟨d, g, nd, .minmax mx x y⟩ :: is) H ρ σ = stepW (opsWp C K is) H ⟨d, g, nd, .minmax mx x y⟩ ρ σ := rfl
/-! Unsigned numbers as bit rows. -/
theorem wrap_u {k : IntKind} (hk : k.signed = false) (n : Int) : k.wrap n = n % 2 ^ k.bits := by simp [IntKind.wrap, hk]
theorem u_nat {k : IntKind} (hk : k.signed = false) (x : BitVec k.bits) : k.wrap (x.toNat : Int) = x.toNat := by
  rw [wrap_u hk]
  have := x.isLt
  rw [Int.emod_eq_of_lt (by omega)]
  exact_mod_cast this
theorem u_ofInt {w : Nat} (x : BitVec w) : BitVec.ofInt w (x.toNat : Int) = x := by
  apply BitVec.eq_of_toNat_eq
  rw [BitVec.toNat_ofInt]
  have := x.isLt
  have e : ((x.toNat : Int) % ((2 ^ w : Nat) : Int)) = x.toNat := Int.emod_eq_of_lt (by omega) (by exact_mod_cast this)
  rw [e]; simp
theorem getElem?_app {σ l : Store} {k : Nat} : (σ ++ l)[σ.length + k]? = l[k]? := by rw [List.getElem?_append_right (by omega), Nat.add_sub_cancel_left]
theorem getElem?_app0 {σ l : Store} : (σ ++ l)[σ.length]? = l[0]? := getElem?_app (k := 0)
theorem set_app {σ l : Store} {k : Nat} {x : Option AObj} : (σ ++ l).set (σ.length + k) x = σ ++ l.set k x := by rw [List.set_append_right _ _ (by omega), Nat.add_sub_cancel_left]
theorem set_app0 {σ l : Store} {x : Option AObj} : (σ ++ l).set σ.length x = σ ++ l.set 0 x := set_app (k := 0)
end
end Am
end Go.Proofs.Ytkffgmpbhahioaa
