import Derived.Test.YthgcooppjhcgcaaDoorK2023f9a05
import Derived.LaidMore
import Derived.Stop.Joined
import Derived.Test.YthgcooppjhcgcaaDoorRows
import Derived.KernelRfl
import Derived.Shelf.Strings.Builder1
import Derived.Shelf.Strings.Builder2
import Derived.Shelf.Strings.BuilderF
import Derived.Shelf.Strings.Prefix
import Derived.Shelf.Bits.Mul64
import Derived.Shelf.Strings.Repeat
import Derived.Test.YthgcooppjhcgcaaDoorProg
section
set_option linter.unusedSimpArgs false
set_option linter.unusedVariables false
/- THE ABSTRACT MACHINE, part 25: its steps, gathered for simp; numbers decided by omega. -/
namespace Go.Proofs.YthgcooppjhcgcaaDoor
namespace Am
theorem lens : (∀ {α : Type} {l : List α} {i : Nat} {a : α}, (l.set i a).length = l.length) ∧ (∀ {α : Type} {l m : List α}, (l ++ m).length = l.length + m.length) ∧ (∀ {α : Type} {a : α} {l : List α}, (a :: l).length = l.length + 1) ∧ (∀ {α : Type}, ([] : List α).length = 0) ∧ (∀ {α β : Type} {f : α → β} {l : List α}, (l.map f).length = l.length) :=
  ⟨List.length_set, List.length_append, List.length_cons, List.length_nil, List.length_map _⟩
section
variable {C : Ctx} {n k : Nat} {Q : AExit → Env → Store → Prop} {ρ : Env} {σ : Store}
theorem SWp.condD {x : AX} {p q : ACode} {P : Prop} [hd : Decidable P] (hx : x.ev ρ = .bool (@decide P hd)) (h1 : P → SWp C n k p Q ρ σ) (h2 : ¬ P → SWp C n k q Q ρ σ) : SWp C n k (.cond x p q) Q ρ σ :=
  SWp.cond hx (fun h => h1 (of_decide_eq_true h)) (fun h => h2 (of_decide_eq_false h))
theorem SWp.condT {x : AX} {p q : ACode} (hx : x.ev ρ = .bool true) (h1 : SWp C n k p Q ρ σ) : SWp C n k (.cond x p q) Q ρ σ :=
  SWp.cond hx (fun _ => h1) (fun h => by cases h)
theorem SWp.condF {x : AX} {p q : ACode} (hx : x.ev ρ = .bool false) (h1 : SWp C n k q Q ρ σ) : SWp C n k (.cond x p q) Q ρ σ :=
  SWp.cond hx (fun h => by cases h) (fun _ => h1)
theorem w_i64 {n : Int} (h : -9223372036854775808 ≤ n ∧ n < 9223372036854775808) : IntKind.i64.wrap n = n := by
  simp [IntKind.wrap, IntKind.signed, IntKind.bits]; omega
theorem w_u64 {n : Int} (h : 0 ≤ n ∧ n < 18446744073709551616) : IntKind.u64.wrap n = n := by
  simp [IntKind.wrap, IntKind.signed, IntKind.bits]; omega
theorem w_u32 {n : Int} (h : 0 ≤ n ∧ n < 4294967296) : IntKind.u32.wrap n = n := by
  simp [IntKind.wrap, IntKind.signed, IntKind.bits]; omega
theorem w_u16 {n : Int} (h : 0 ≤ n ∧ n < 65536) : IntKind.u16.wrap n = n := by
  simp [IntKind.wrap, IntKind.signed, IntKind.bits]; omega
theorem w_u8 {n : Int} (h : 0 ≤ n ∧ n < 256) : IntKind.u8.wrap n = n := by
  simp [IntKind.wrap, IntKind.signed, IntKind.bits]; omega
theorem shr_u8 {a b : Int} (h : 0 ≤ b ∧ b < 8) : shBin .shr .u8 a b = some (.int .u8 (a / 2 ^ b.toNat)) := by
  simp only [shBin, IntKind.bits]
  rw [if_neg (by omega), Nat.min_eq_left (by omega), Int.fdiv_eq_ediv_of_nonneg _ (Int.pow_nonneg (by decide))]
theorem shl_u8 {a b : Int} (h : 0 ≤ b ∧ b < 8) : shBin .shl .u8 a b = some (.int .u8 (IntKind.u8.wrap (a * 2 ^ b.toNat))) := by
  simp only [shBin, IntKind.bits]
  rw [if_neg (by omega), Nat.min_eq_left (by omega)]
theorem shr_u16 {a b : Int} (h : 0 ≤ b ∧ b < 16) : shBin .shr .u16 a b = some (.int .u16 (a / 2 ^ b.toNat)) := by
  simp only [shBin, IntKind.bits]
  rw [if_neg (by omega), Nat.min_eq_left (by omega), Int.fdiv_eq_ediv_of_nonneg _ (Int.pow_nonneg (by decide))]
theorem shl_u16 {a b : Int} (h : 0 ≤ b ∧ b < 16) : shBin .shl .u16 a b = some (.int .u16 (IntKind.u16.wrap (a * 2 ^ b.toNat))) := by
  simp only [shBin, IntKind.bits]
  rw [if_neg (by omega), Nat.min_eq_left (by omega)]
theorem shr_u32 {a b : Int} (h : 0 ≤ b ∧ b < 32) : shBin .shr .u32 a b = some (.int .u32 (a / 2 ^ b.toNat)) := by
  simp only [shBin, IntKind.bits]
  rw [if_neg (by omega), Nat.min_eq_left (by omega), Int.fdiv_eq_ediv_of_nonneg _ (Int.pow_nonneg (by decide))]
theorem shl_u32 {a b : Int} (h : 0 ≤ b ∧ b < 32) : shBin .shl .u32 a b = some (.int .u32 (IntKind.u32.wrap (a * 2 ^ b.toNat))) := by
  simp only [shBin, IntKind.bits]
  rw [if_neg (by omega), Nat.min_eq_left (by omega)]
theorem shr_u64 {a b : Int} (h : 0 ≤ b ∧ b < 64) : shBin .shr .u64 a b = some (.int .u64 (a / 2 ^ b.toNat)) := by
  simp only [shBin, IntKind.bits]
  rw [if_neg (by omega), Nat.min_eq_left (by omega), Int.fdiv_eq_ediv_of_nonneg _ (Int.pow_nonneg (by decide))]
theorem shl_u64 {a b : Int} (h : 0 ≤ b ∧ b < 64) : shBin .shl .u64 a b = some (.int .u64 (IntKind.u64.wrap (a * 2 ^ b.toNat))) := by
  simp only [shBin, IntKind.bits]
  rw [if_neg (by omega), Nat.min_eq_left (by omega)]
theorem shr_i64 {a b : Int} (h : 0 ≤ b ∧ b < 64) : shBin .shr .i64 a b = some (.int .i64 (a / 2 ^ b.toNat)) := by
  simp only [shBin, IntKind.bits]
  rw [if_neg (by omega), Nat.min_eq_left (by omega), Int.fdiv_eq_ediv_of_nonneg _ (Int.pow_nonneg (by decide))]
theorem shl_i64 {a b : Int} (h : 0 ≤ b ∧ b < 64) : shBin .shl .i64 a b = some (.int .i64 (IntKind.i64.wrap (a * 2 ^ b.toNat))) := by
  simp only [shBin, IntKind.bits]
  rw [if_neg (by omega), Nat.min_eq_left (by omega)]
theorem ib_add {k : IntKind} {a b : Int} : intBin .add k a b = some (.int k (k.wrap (a + b))) := rfl
theorem ib_sub {k : IntKind} {a b : Int} : intBin .sub k a b = some (.int k (k.wrap (a - b))) := rfl
theorem ib_mul {k : IntKind} {a b : Int} : intBin .mul k a b = some (.int k (k.wrap (a * b))) := rfl
theorem ib_quo {k : IntKind} {a b : Int} : intBin .quo k a b = if b = 0 then none else some (.int k (k.wrap (a.tdiv b))) := rfl
theorem ib_rem {k : IntKind} {a b : Int} : intBin .rem k a b = if b = 0 then none else some (.int k (a.tmod b)) := rfl
theorem ib_eql {k : IntKind} {a b : Int} : intBin .eql k a b = some (.bool (a == b)) := rfl
theorem ib_neq {k : IntKind} {a b : Int} : intBin .neq k a b = some (.bool (a != b)) := rfl
theorem ib_lss {k : IntKind} {a b : Int} : intBin .lss k a b = some (.bool (decide (a < b))) := rfl
theorem ib_leq {k : IntKind} {a b : Int} : intBin .leq k a b = some (.bool (decide (a ≤ b))) := rfl
theorem ib_gtr {k : IntKind} {a b : Int} : intBin .gtr k a b = some (.bool (decide (a > b))) := rfl
theorem ib_geq {k : IntKind} {a b : Int} : intBin .geq k a b = some (.bool (decide (a ≥ b))) := rfl
theorem ib_and_u8 {a b : Int} (ha : 0 ≤ a ∧ a < 256) (hb : 0 ≤ b ∧ b < 256) : intBin .and .u8 a b = some (.int .u8 ((a.toNat &&& b.toNat : Nat) : Int)) := by
  have h : (BitVec.ofInt IntKind.u8.bits a &&& BitVec.ofInt IntKind.u8.bits b).toNat = a.toNat &&& b.toNat := by
    rw [BitVec.toNat_and, BitVec.toNat_ofInt, BitVec.toNat_ofInt]
    simp only [IntKind.bits]
    rw [Int.emod_eq_of_lt (by omega) (by omega), Int.emod_eq_of_lt (by omega) (by omega)]
  have h1 : a.toNat < 2 ^ 8 := by omega
  have h2 : b.toNat < 2 ^ 8 := by omega
  have h3 : a.toNat &&& b.toNat < 2 ^ 8 := Nat.and_lt_two_pow _ h2
  simp only [intBin]
  rw [h, w_u8 ⟨by omega, by omega⟩]
theorem ib_or_u8 {a b : Int} (ha : 0 ≤ a ∧ a < 256) (hb : 0 ≤ b ∧ b < 256) : intBin .or .u8 a b = some (.int .u8 ((a.toNat ||| b.toNat : Nat) : Int)) := by
  have h : (BitVec.ofInt IntKind.u8.bits a ||| BitVec.ofInt IntKind.u8.bits b).toNat = a.toNat ||| b.toNat := by
    rw [BitVec.toNat_or, BitVec.toNat_ofInt, BitVec.toNat_ofInt]
    simp only [IntKind.bits]
    rw [Int.emod_eq_of_lt (by omega) (by omega), Int.emod_eq_of_lt (by omega) (by omega)]
  have h1 : a.toNat < 2 ^ 8 := by omega
  have h2 : b.toNat < 2 ^ 8 := by omega
  have h3 : a.toNat ||| b.toNat < 2 ^ 8 := Nat.or_lt_two_pow h1 h2
  simp only [intBin]
  rw [h, w_u8 ⟨by omega, by omega⟩]
theorem ib_xor_u8 {a b : Int} (ha : 0 ≤ a ∧ a < 256) (hb : 0 ≤ b ∧ b < 256) : intBin .xor .u8 a b = some (.int .u8 ((a.toNat ^^^ b.toNat : Nat) : Int)) := by
  have h : (BitVec.ofInt IntKind.u8.bits a ^^^ BitVec.ofInt IntKind.u8.bits b).toNat = a.toNat ^^^ b.toNat := by
    rw [BitVec.toNat_xor, BitVec.toNat_ofInt, BitVec.toNat_ofInt]
    simp only [IntKind.bits]
    rw [Int.emod_eq_of_lt (by omega) (by omega), Int.emod_eq_of_lt (by omega) (by omega)]
  have h1 : a.toNat < 2 ^ 8 := by omega
  have h2 : b.toNat < 2 ^ 8 := by omega
  have h3 : a.toNat ^^^ b.toNat < 2 ^ 8 := Nat.xor_lt_two_pow h1 h2
  simp only [intBin]
  rw [h, w_u8 ⟨by omega, by omega⟩]
theorem ib_and_u16 {a b : Int} (ha : 0 ≤ a ∧ a < 65536) (hb : 0 ≤ b ∧ b < 65536) : intBin .and .u16 a b = some (.int .u16 ((a.toNat &&& b.toNat : Nat) : Int)) := by
  have h : (BitVec.ofInt IntKind.u16.bits a &&& BitVec.ofInt IntKind.u16.bits b).toNat = a.toNat &&& b.toNat := by
    rw [BitVec.toNat_and, BitVec.toNat_ofInt, BitVec.toNat_ofInt]
    simp only [IntKind.bits]
    rw [Int.emod_eq_of_lt (by omega) (by omega), Int.emod_eq_of_lt (by omega) (by omega)]
  have h1 : a.toNat < 2 ^ 16 := by omega
  have h2 : b.toNat < 2 ^ 16 := by omega
  have h3 : a.toNat &&& b.toNat < 2 ^ 16 := Nat.and_lt_two_pow _ h2
  simp only [intBin]
  rw [h, w_u16 ⟨by omega, by omega⟩]
theorem ib_or_u16 {a b : Int} (ha : 0 ≤ a ∧ a < 65536) (hb : 0 ≤ b ∧ b < 65536) : intBin .or .u16 a b = some (.int .u16 ((a.toNat ||| b.toNat : Nat) : Int)) := by
  have h : (BitVec.ofInt IntKind.u16.bits a ||| BitVec.ofInt IntKind.u16.bits b).toNat = a.toNat ||| b.toNat := by
    rw [BitVec.toNat_or, BitVec.toNat_ofInt, BitVec.toNat_ofInt]
    simp only [IntKind.bits]
    rw [Int.emod_eq_of_lt (by omega) (by omega), Int.emod_eq_of_lt (by omega) (by omega)]
  have h1 : a.toNat < 2 ^ 16 := by omega
  have h2 : b.toNat < 2 ^ 16 := by omega
  have h3 : a.toNat ||| b.toNat < 2 ^ 16 := Nat.or_lt_two_pow h1 h2
  simp only [intBin]
  rw [h, w_u16 ⟨by omega, by omega⟩]
theorem ib_xor_u16 {a b : Int} (ha : 0 ≤ a ∧ a < 65536) (hb : 0 ≤ b ∧ b < 65536) : intBin .xor .u16 a b = some (.int .u16 ((a.toNat ^^^ b.toNat : Nat) : Int)) := by
  have h : (BitVec.ofInt IntKind.u16.bits a ^^^ BitVec.ofInt IntKind.u16.bits b).toNat = a.toNat ^^^ b.toNat := by
    rw [BitVec.toNat_xor, BitVec.toNat_ofInt, BitVec.toNat_ofInt]
    simp only [IntKind.bits]
    rw [Int.emod_eq_of_lt (by omega) (by omega), Int.emod_eq_of_lt (by omega) (by omega)]
  have h1 : a.toNat < 2 ^ 16 := by omega
  have h2 : b.toNat < 2 ^ 16 := by omega
  have h3 : a.toNat ^^^ b.toNat < 2 ^ 16 := Nat.xor_lt_two_pow h1 h2
  simp only [intBin]
  rw [h, w_u16 ⟨by omega, by omega⟩]
theorem ib_and_u32 {a b : Int} (ha : 0 ≤ a ∧ a < 4294967296) (hb : 0 ≤ b ∧ b < 4294967296) : intBin .and .u32 a b = some (.int .u32 ((a.toNat &&& b.toNat : Nat) : Int)) := by
  have h : (BitVec.ofInt IntKind.u32.bits a &&& BitVec.ofInt IntKind.u32.bits b).toNat = a.toNat &&& b.toNat := by
    rw [BitVec.toNat_and, BitVec.toNat_ofInt, BitVec.toNat_ofInt]
    simp only [IntKind.bits]
    rw [Int.emod_eq_of_lt (by omega) (by omega), Int.emod_eq_of_lt (by omega) (by omega)]
  have h1 : a.toNat < 2 ^ 32 := by omega
  have h2 : b.toNat < 2 ^ 32 := by omega
  have h3 : a.toNat &&& b.toNat < 2 ^ 32 := Nat.and_lt_two_pow _ h2
  simp only [intBin]
  rw [h, w_u32 ⟨by omega, by omega⟩]
theorem ib_or_u32 {a b : Int} (ha : 0 ≤ a ∧ a < 4294967296) (hb : 0 ≤ b ∧ b < 4294967296) : intBin .or .u32 a b = some (.int .u32 ((a.toNat ||| b.toNat : Nat) : Int)) := by
  have h : (BitVec.ofInt IntKind.u32.bits a ||| BitVec.ofInt IntKind.u32.bits b).toNat = a.toNat ||| b.toNat := by
    rw [BitVec.toNat_or, BitVec.toNat_ofInt, BitVec.toNat_ofInt]
    simp only [IntKind.bits]
    rw [Int.emod_eq_of_lt (by omega) (by omega), Int.emod_eq_of_lt (by omega) (by omega)]
  have h1 : a.toNat < 2 ^ 32 := by omega
  have h2 : b.toNat < 2 ^ 32 := by omega
  have h3 : a.toNat ||| b.toNat < 2 ^ 32 := Nat.or_lt_two_pow h1 h2
  simp only [intBin]
  rw [h, w_u32 ⟨by omega, by omega⟩]
theorem ib_xor_u32 {a b : Int} (ha : 0 ≤ a ∧ a < 4294967296) (hb : 0 ≤ b ∧ b < 4294967296) : intBin .xor .u32 a b = some (.int .u32 ((a.toNat ^^^ b.toNat : Nat) : Int)) := by
  have h : (BitVec.ofInt IntKind.u32.bits a ^^^ BitVec.ofInt IntKind.u32.bits b).toNat = a.toNat ^^^ b.toNat := by
    rw [BitVec.toNat_xor, BitVec.toNat_ofInt, BitVec.toNat_ofInt]
    simp only [IntKind.bits]
    rw [Int.emod_eq_of_lt (by omega) (by omega), Int.emod_eq_of_lt (by omega) (by omega)]
  have h1 : a.toNat < 2 ^ 32 := by omega
  have h2 : b.toNat < 2 ^ 32 := by omega
  have h3 : a.toNat ^^^ b.toNat < 2 ^ 32 := Nat.xor_lt_two_pow h1 h2
  simp only [intBin]
  rw [h, w_u32 ⟨by omega, by omega⟩]
theorem ib_and_u64 {a b : Int} (ha : 0 ≤ a ∧ a < 18446744073709551616) (hb : 0 ≤ b ∧ b < 18446744073709551616) : intBin .and .u64 a b = some (.int .u64 ((a.toNat &&& b.toNat : Nat) : Int)) := by
  have h : (BitVec.ofInt IntKind.u64.bits a &&& BitVec.ofInt IntKind.u64.bits b).toNat = a.toNat &&& b.toNat := by
    rw [BitVec.toNat_and, BitVec.toNat_ofInt, BitVec.toNat_ofInt]
    simp only [IntKind.bits]
    rw [Int.emod_eq_of_lt (by omega) (by omega), Int.emod_eq_of_lt (by omega) (by omega)]
  have h1 : a.toNat < 2 ^ 64 := by omega
  have h2 : b.toNat < 2 ^ 64 := by omega
  have h3 : a.toNat &&& b.toNat < 2 ^ 64 := Nat.and_lt_two_pow _ h2
  simp only [intBin]
  rw [h, w_u64 ⟨by omega, by omega⟩]
theorem ib_or_u64 {a b : Int} (ha : 0 ≤ a ∧ a < 18446744073709551616) (hb : 0 ≤ b ∧ b < 18446744073709551616) : intBin .or .u64 a b = some (.int .u64 ((a.toNat ||| b.toNat : Nat) : Int)) := by
  have h : (BitVec.ofInt IntKind.u64.bits a ||| BitVec.ofInt IntKind.u64.bits b).toNat = a.toNat ||| b.toNat := by
    rw [BitVec.toNat_or, BitVec.toNat_ofInt, BitVec.toNat_ofInt]
    simp only [IntKind.bits]
    rw [Int.emod_eq_of_lt (by omega) (by omega), Int.emod_eq_of_lt (by omega) (by omega)]
  have h1 : a.toNat < 2 ^ 64 := by omega
  have h2 : b.toNat < 2 ^ 64 := by omega
  have h3 : a.toNat ||| b.toNat < 2 ^ 64 := Nat.or_lt_two_pow h1 h2
  simp only [intBin]
  rw [h, w_u64 ⟨by omega, by omega⟩]
theorem ib_xor_u64 {a b : Int} (ha : 0 ≤ a ∧ a < 18446744073709551616) (hb : 0 ≤ b ∧ b < 18446744073709551616) : intBin .xor .u64 a b = some (.int .u64 ((a.toNat ^^^ b.toNat : Nat) : Int)) := by
  have h : (BitVec.ofInt IntKind.u64.bits a ^^^ BitVec.ofInt IntKind.u64.bits b).toNat = a.toNat ^^^ b.toNat := by
    rw [BitVec.toNat_xor, BitVec.toNat_ofInt, BitVec.toNat_ofInt]
    simp only [IntKind.bits]
    rw [Int.emod_eq_of_lt (by omega) (by omega), Int.emod_eq_of_lt (by omega) (by omega)]
  have h1 : a.toNat < 2 ^ 64 := by omega
  have h2 : b.toNat < 2 ^ 64 := by omega
  have h3 : a.toNat ^^^ b.toNat < 2 ^ 64 := Nat.xor_lt_two_pow h1 h2
  simp only [intBin]
  rw [h, w_u64 ⟨by omega, by omega⟩]
theorem ib_and_i64 {a b : Int} (ha : 0 ≤ a ∧ a < 9223372036854775808) (hb : 0 ≤ b ∧ b < 9223372036854775808) : intBin .and .i64 a b = some (.int .i64 ((a.toNat &&& b.toNat : Nat) : Int)) := by
  have h : (BitVec.ofInt IntKind.i64.bits a &&& BitVec.ofInt IntKind.i64.bits b).toNat = a.toNat &&& b.toNat := by
    rw [BitVec.toNat_and, BitVec.toNat_ofInt, BitVec.toNat_ofInt]
    simp only [IntKind.bits]
    rw [Int.emod_eq_of_lt (by omega) (by omega), Int.emod_eq_of_lt (by omega) (by omega)]
  have h1 : a.toNat < 2 ^ 63 := by omega
  have h2 : b.toNat < 2 ^ 63 := by omega
  have h3 : a.toNat &&& b.toNat < 2 ^ 63 := Nat.and_lt_two_pow _ h2
  simp only [intBin]
  rw [h, w_i64 ⟨by omega, by omega⟩]
theorem ib_or_i64 {a b : Int} (ha : 0 ≤ a ∧ a < 9223372036854775808) (hb : 0 ≤ b ∧ b < 9223372036854775808) : intBin .or .i64 a b = some (.int .i64 ((a.toNat ||| b.toNat : Nat) : Int)) := by
  have h : (BitVec.ofInt IntKind.i64.bits a ||| BitVec.ofInt IntKind.i64.bits b).toNat = a.toNat ||| b.toNat := by
    rw [BitVec.toNat_or, BitVec.toNat_ofInt, BitVec.toNat_ofInt]
    simp only [IntKind.bits]
    rw [Int.emod_eq_of_lt (by omega) (by omega), Int.emod_eq_of_lt (by omega) (by omega)]
  have h1 : a.toNat < 2 ^ 63 := by omega
  have h2 : b.toNat < 2 ^ 63 := by omega
  have h3 : a.toNat ||| b.toNat < 2 ^ 63 := Nat.or_lt_two_pow h1 h2
  simp only [intBin]
  rw [h, w_i64 ⟨by omega, by omega⟩]
theorem ib_xor_i64 {a b : Int} (ha : 0 ≤ a ∧ a < 9223372036854775808) (hb : 0 ≤ b ∧ b < 9223372036854775808) : intBin .xor .i64 a b = some (.int .i64 ((a.toNat ^^^ b.toNat : Nat) : Int)) := by
  have h : (BitVec.ofInt IntKind.i64.bits a ^^^ BitVec.ofInt IntKind.i64.bits b).toNat = a.toNat ^^^ b.toNat := by
    rw [BitVec.toNat_xor, BitVec.toNat_ofInt, BitVec.toNat_ofInt]
    simp only [IntKind.bits]
    rw [Int.emod_eq_of_lt (by omega) (by omega), Int.emod_eq_of_lt (by omega) (by omega)]
  have h1 : a.toNat < 2 ^ 63 := by omega
  have h2 : b.toNat < 2 ^ 63 := by omega
  have h3 : a.toNat ^^^ b.toNat < 2 ^ 63 := Nat.xor_lt_two_pow h1 h2
  simp only [intBin]
  rw [h, w_i64 ⟨by omega, by omega⟩]
theorem mask1 (a : Nat) : a &&& 1 = a % 2 := Nat.and_two_pow_sub_one_eq_mod a 1
theorem mask2 (a : Nat) : a &&& 3 = a % 4 := Nat.and_two_pow_sub_one_eq_mod a 2
theorem mask3 (a : Nat) : a &&& 7 = a % 8 := Nat.and_two_pow_sub_one_eq_mod a 3
theorem mask4 (a : Nat) : a &&& 15 = a % 16 := Nat.and_two_pow_sub_one_eq_mod a 4
theorem mask5 (a : Nat) : a &&& 31 = a % 32 := Nat.and_two_pow_sub_one_eq_mod a 5
theorem mask6 (a : Nat) : a &&& 63 = a % 64 := Nat.and_two_pow_sub_one_eq_mod a 6
theorem mask7 (a : Nat) : a &&& 127 = a % 128 := Nat.and_two_pow_sub_one_eq_mod a 7
theorem mask8 (a : Nat) : a &&& 255 = a % 256 := Nat.and_two_pow_sub_one_eq_mod a 8
theorem mask12 (a : Nat) : a &&& 4095 = a % 4096 := Nat.and_two_pow_sub_one_eq_mod a 12
theorem int_beq (a b : Int) : (a == b) = decide (a = b) := by
  by_cases h : a = b <;> simp [h]
theorem int_bne (a b : Int) : (a != b) = decide (¬ a = b) := by
  by_cases h : a = b <;> simp [h]
theorem not_decide (p : Prop) [Decidable p] : (!decide p) = decide (¬ p) := by simp
theorem tdiv_pos {a b : Int} (h : 0 ≤ a) : a.tdiv b = a / b := Int.tdiv_eq_ediv_of_nonneg h
theorem tmod_pos' {a b : Int} (h : 0 ≤ a) : a.tmod b = a % b := Int.tmod_eq_emod_of_nonneg h
theorem fdiv_pos {a b : Int} (h : 0 ≤ b) : a.fdiv b = a / b := Int.fdiv_eq_ediv_of_nonneg a h
theorem getQ {α : Type} (l : List α) (i : Nat) (d : α) (h : i < l.length) : l[i]? = some (l.getD i d) := by
  simp [List.getD_eq_getElem?_getD, List.getElem?_eq_getElem h]
theorem upd_b {d t : Nat} {v : AV} : upd ρ d v t = bif t == d then v else ρ t := by
  unfold upd
  by_cases h : t = d
  · simp [h]
  · have : (t == d) = false := by simpa using h
    rw [if_neg h, this]; rfl
theorem contW_f' {K : Env → Store → Prop} {ρ' : Env} {σ' : Store} : contW K σ false (some (ρ', σ')) = K ρ' σ' := Eq.trans rfl rfl
theorem contW_t' {K : Env → Store → Prop} {ρ' : Env} {σ' : Store} : contW K σ true (some (ρ', σ')) = (σ' = σ ∧ K ρ' σ') := Eq.trans rfl rfl
section
variable {K : Hist → Env → Store → Prop} {H : Hist} {d : Option Nat} {g : Option (Nat × Bool)} {op : AOp} {nd : Nd} {f : AX} {xs : List AX} {v : AV} {s : Store}
theorem stepW_no : stepW K H ⟨d, g, .no, op⟩ ρ σ = contW (K H) σ false (insRun ⟨d, g, .no, op⟩ ρ σ) := Eq.trans rfl rfl
theorem stepW_same : stepW K H ⟨d, g, .same, op⟩ ρ σ = contW (K H) σ true (insRun ⟨d, g, .same, op⟩ ρ σ) := Eq.trans rfl rfl
theorem stepW_rd : stepW K H ⟨d, g, .rd, op⟩ ρ σ = rdW K H d op ρ σ (guardV ρ g) := Eq.trans rfl rfl
theorem stepW_ef : stepW K H ⟨d, g, .ef, op⟩ ρ σ = efW K H d op ρ σ (guardV ρ g) := Eq.trans rfl rfl
theorem rdW_t : rdW K H d op ρ σ (some true) = rdC K H d op ρ σ (op.run ρ σ) := Eq.trans rfl rfl
theorem rdW_f : rdW K H d op ρ σ (some false) = K H (putE ρ d .undef) σ := Eq.trans rfl rfl
theorem efW_t : efW K H d op ρ σ (some true) = efC K H d ρ σ (op.run ρ σ) := Eq.trans rfl rfl
theorem efW_f : efW K H d op ρ σ (some false) = K H (putE ρ d .undef) σ := Eq.trans rfl rfl
theorem rdC_s : rdC K H d op ρ σ (some (v, s)) = (s = σ ∧ (∀ h, H.pre h → op.run ρ h = some (v, h)) ∧ K ⟨H.pre, fun s => H.rds s ∧ op.run ρ s = some (v, s)⟩ (putE ρ d v) σ) := Eq.trans rfl rfl
theorem efC_s : efC K H d ρ σ (some (v, s)) = (H.rds s ∧ K ⟨fun t => H.pre t ∨ t = σ, H.rds⟩ (putE ρ d v) s) := Eq.trans rfl rfl
theorem callG_t' : callG C K H ρ σ d nd f xs (some true) = callW C K H ρ d nd σ (f.ev ρ) (xs.map (AX.ev ρ)) := Eq.trans rfl rfl
theorem callG_f' : callG C K H ρ σ d nd f xs (some false) = K H (putE ρ d .undef) σ := Eq.trans rfl rfl
theorem needOk_no {σ' : Store} : needOk .no H σ σ' = True := Eq.trans rfl rfl
theorem needOk_same {σ' : Store} : needOk .same H σ σ' = (σ' = σ) := Eq.trans rfl rfl
theorem needOk_ef {σ' : Store} : needOk .ef H σ σ' = H.rds σ' := Eq.trans rfl rfl
theorem needNext_no : needNext .no H σ = H := Eq.trans rfl rfl
theorem needNext_same : needNext .same H σ = H := Eq.trans rfl rfl
theorem needNext_ef : needNext .ef H σ = ⟨fun s => H.pre s ∨ s = σ, H.rds⟩ := Eq.trans rfl rfl
theorem un_not {b : Bool} : aUn .not (.bool b) = some (.bool (!b)) := Eq.trans rfl rfl
theorem un_neg {k : IntKind} {n : Int} : aUn .neg (.int k n) = some (.int k (k.wrap (0 - n))) := Eq.trans rfl rfl
theorem un_xor {k : IntKind} {n : Int} : aUn .xor (.int k n) = some (.int k (k.wrap (BitVec.ofInt k.bits (if k.signed then -1 else k.max) ^^^ BitVec.ofInt k.bits n).toNat)) := Eq.trans rfl rfl
theorem rdS_s {s : Store} : rdS K d ρ σ (some (v, s)) = (s = σ ∧ K (Hist.same σ) (putE ρ d v) σ) := Eq.trans rfl rfl
theorem same_pre {h : Store} : (Hist.same σ).pre h = (h = σ) := Eq.trans rfl rfl
theorem same_rds {h : Store} : (Hist.same σ).rds h = (h = σ) := Eq.trans rfl rfl
theorem none_pre {h : Store} : Hist.none.pre h = False := Eq.trans rfl rfl
theorem none_rds {h : Store} : Hist.none.rds h = True := Eq.trans rfl rfl
end
theorem fill_int {k : IntKind} {m : Int} {cells : List AV} {off : Nat} {rest : List (Nat × Nat × AV)} (h : off + 1 ≤ cells.length) : rFill cells ((off, 1, (.int k m)) :: rest) = rFill (overw cells off [(.int k m)]) rest := by
  simp [rFill, cellsOf, h]
theorem fill_str {s : List UInt8} {cells : List AV} {off : Nat} {rest : List (Nat × Nat × AV)} (h : off + 1 ≤ cells.length) : rFill cells ((off, 1, (.str s)) :: rest) = rFill (overw cells off [(.str s)]) rest := by
  simp [rFill, cellsOf, h]
theorem fill_bool {b : Bool} {cells : List AV} {off : Nat} {rest : List (Nat × Nat × AV)} (h : off + 1 ≤ cells.length) : rFill cells ((off, 1, (.bool b)) :: rest) = rFill (overw cells off [(.bool b)]) rest := by
  simp [rFill, cellsOf, h]
theorem fill_ptr {r i o : Nat} {cells : List AV} {off : Nat} {rest : List (Nat × Nat × AV)} (h : off + 1 ≤ cells.length) : rFill cells ((off, 1, (.ptr r i o)) :: rest) = rFill (overw cells off [(.ptr r i o)]) rest := by
  simp [rFill, cellsOf, h]
theorem fill_nilp  {cells : List AV} {off : Nat} {rest : List (Nat × Nat × AV)} (h : off + 1 ≤ cells.length) : rFill cells ((off, 1, .nilp) :: rest) = rFill (overw cells off [.nilp]) rest := by
  simp [rFill, cellsOf, h]
theorem fill_nilsl  {cells : List AV} {off : Nat} {rest : List (Nat × Nat × AV)} (h : off + 1 ≤ cells.length) : rFill cells ((off, 1, .nilsl) :: rest) = rFill (overw cells off [.nilsl]) rest := by
  simp [rFill, cellsOf, h]
theorem fill_vsl {z : Nat} {es : List (List AV)} {x : Bool} {cells : List AV} {off : Nat} {rest : List (Nat × Nat × AV)} (h : off + 1 ≤ cells.length) : rFill cells ((off, 1, (.vsl z es x)) :: rest) = rFill (overw cells off [(.vsl z es x)]) rest := by
  simp [rFill, cellsOf, h]
theorem fill_sl {r o len z : Nat} {lim : Option Nat} {cells : List AV} {off : Nat} {rest : List (Nat × Nat × AV)} (h : off + 1 ≤ cells.length) : rFill cells ((off, 1, (.sl r o len lim z)) :: rest) = rFill (overw cells off [(.sl r o len lim z)]) rest := by
  simp [rFill, cellsOf, h]
theorem fill_asl {r i o len cap z : Nat} {cells : List AV} {off : Nat} {rest : List (Nat × Nat × AV)} (h : off + 1 ≤ cells.length) : rFill cells ((off, 1, (.asl r i o len cap z)) :: rest) = rFill (overw cells off [(.asl r i o len cap z)]) rest := by
  simp [rFill, cellsOf, h]
theorem fill_vp {cs : List AV} {cells : List AV} {off : Nat} {rest : List (Nat × Nat × AV)} (h : off + 1 ≤ cells.length) : rFill cells ((off, 1, (.vp cs)) :: rest) = rFill (overw cells off [(.vp cs)]) rest := by
  simp [rFill, cellsOf, h]
theorem fill_fn {f : FuncId} {caps : List AV} {cells : List AV} {off : Nat} {rest : List (Nat × Nat × AV)} (h : off + 1 ≤ cells.length) : rFill cells ((off, 1, (.fn f caps)) :: rest) = rFill (overw cells off [(.fn f caps)]) rest := by
  simp [rFill, cellsOf, h]
theorem fill_nilfn  {cells : List AV} {off : Nat} {rest : List (Nat × Nat × AV)} (h : off + 1 ≤ cells.length) : rFill cells ((off, 1, .nilfn) :: rest) = rFill (overw cells off [.nilfn]) rest := by
  simp [rFill, cellsOf, h]
theorem fill_agg {cs cells : List AV} {off n : Nat} {rest : List (Nat × Nat × AV)} (h0 : cs.length = n) (h : off + n ≤ cells.length) : rFill cells ((off, n, .agg cs) :: rest) = rFill (overw cells off cs) rest := by
  simp [rFill, cellsOf, h0, h]
theorem appB_n {ys : List (List AV)} : aAppB σ .nilsl ys = aApp σ 1 .nilsl ys := rfl
theorem appB_v {esz : Nat} {es ys : List (List AV)} {ex : Bool} : aAppB σ (.vsl esz es ex) ys = aApp σ 1 (.vsl esz es ex) ys := rfl
theorem appB_s {r off len esz : Nat} {lim : Option Nat} {ys : List (List AV)} : aAppB σ (.sl r off len lim esz) ys = aApp σ 1 (.sl r off len lim esz) ys := rfl
theorem appB_bn {ys : List (List AV)} : aAppB σ .bnil ys = if ys.length ≠ 0 ∧ ys.length ≤ 1073741824 then some (.bsl σ.length ys.length, σ ++ [some ys]) else none := rfl
theorem appB_bs {r len : Nat} {ys : List (List AV)} : aAppB σ (.bsl r len) ys = match σ[r]? with
    | some (some o) => if ys.length ≠ 0 ∧ o.length = len ∧ len + ys.length ≤ 1073741824 then some (.bsl σ.length (len + ys.length), σ.set r none ++ [some (o ++ ys)]) else none
    | _ => none := rfl
theorem app_n {sz : Nat} {ys : List (List AV)} : aApp σ sz .nilsl ys = if ys.length = 0 then (slElems σ .nilsl).map fun _ => (.nilsl, σ) else if ys.length ≤ 1073741824 then some (.sl σ.length 0 ys.length none sz, σ ++ [some ys]) else none := Eq.trans rfl rfl
theorem app_v {sz esz : Nat} {es ys : List (List AV)} {ex : Bool} : aApp σ sz (.vsl esz es ex) ys = if ys.length = 0 then (slElems σ (.vsl esz es ex)).map fun _ => (.vsl esz es ex, σ) else if ex = true ∧ esz = sz ∧ es.length + ys.length ≤ 1073741824 then some (.sl σ.length 0 (es.length + ys.length) none sz, σ ++ [some (es ++ ys)]) else none := Eq.trans rfl rfl
theorem app_s {sz r off len esz : Nat} {lim : Option Nat} {ys : List (List AV)} : aApp σ sz (.sl r off len lim esz) ys = if ys.length = 0 then (slElems σ (.sl r off len lim esz)).map fun _ => (.sl r off len lim esz, σ) else match σ[r]? with
    | some (some o) => if esz = sz ∧ off + len ≤ o.length ∧ len + ys.length ≤ 1073741824 then
        (match lim with
         | none => if off + len + ys.length ≤ o.length then some (.sl r off (len + ys.length) none esz, σ.set r (some (o.take (off + len) ++ ys ++ o.drop (off + len + ys.length))))
             else some (.sl σ.length 0 (len + ys.length) none sz, σ.set r none ++ [some ((o.drop off).take len ++ ys)])
         | some c => if len + ys.length ≤ c then (if off + len + ys.length ≤ o.length then some (.sl r off (len + ys.length) (some c) esz, σ.set r (some (o.take (off + len) ++ ys ++ o.drop (off + len + ys.length)))) else none)
             else some (.sl σ.length 0 (len + ys.length) none sz, σ ++ [some ((o.drop off).take len ++ ys)])) else none
    | _ => none := Eq.trans rfl rfl
theorem fill_nil {cells : List AV} : rFill cells [] = some cells := rfl
theorem overw_s {c : AV} {cs vs : List AV} {n : Nat} : overw (c :: cs) (n + 1) vs = c :: overw cs n vs := by
  have e : n + 1 + vs.length = (n + vs.length) + 1 := by omega
  simp [overw, e]
theorem overw_z {c v : AV} {cs vs : List AV} : overw (c :: cs) 0 (v :: vs) = v :: overw cs 0 vs := by
  simp [overw]
theorem overw_e {cs : List AV} : overw cs 0 [] = cs := by simp [overw]
theorem overw_u {cs vs : List AV} {n : Nat} : overw cs n vs = cs.take n ++ vs ++ cs.drop (n + vs.length) := Eq.trans rfl rfl
theorem overw1 {c v : AV} : overw [c] 0 [v] = [v] := by simp [overw]
theorem byteEs_len (s : List UInt8) : (byteEs s).length = s.length := by simp [byteEs]
theorem byteEs_get {s : List UInt8} {i : Nat} (h : i < s.length) : (byteEs s)[i]? = some [.int .u8 (s.getD i 0).toNat] := by
  simp [byteEs, B8, List.getD_eq_getElem?_getD, List.getElem?_eq_getElem h]
theorem byteEs_set {s : List UInt8} {i : Nat} {n : Int} (h : 0 ≤ n ∧ n < 256) : (byteEs s).set i [.int .u8 n] = byteEs (s.set i (UInt8.ofNat n.toNat)) := by
  have e : ((n.toNat % 256 : Nat) : Int) = n := by omega
  simp [byteEs, B8, List.map_set, e]
theorem byteEs_rep (n : Nat) : List.replicate n [AV.int .u8 0] = byteEs (List.replicate n 0) := by simp [byteEs, B8]
theorem get_u8 {s : List UInt8} {i : Nat} (h : i < s.length) : s[i]? = some (s.getD i 0) := getQ s i 0 h
theorem slElems_sl {r off len esz : Nat} {lim : Option Nat} : slElems σ (.sl r off len lim esz) = match σ[r]? with | some (some o) => if off + len ≤ o.length then some ((o.drop off).take len) else none | _ => none := Eq.trans rfl rfl
theorem int_eq {k : IntKind} {a b : Int} (h : a = b) : AV.int k a = AV.int k b := by rw [h]
theorem str_eq {a b : List UInt8} (h : a = b) : AV.str a = AV.str b := by rw [h]
theorem wm_u8 {n : Int} : IntKind.u8.wrap n = n % 256 := by simp [IntKind.wrap, IntKind.signed, IntKind.bits]
theorem wm_u16 {n : Int} : IntKind.u16.wrap n = n % 65536 := by simp [IntKind.wrap, IntKind.signed, IntKind.bits]
theorem wm_u32 {n : Int} : IntKind.u32.wrap n = n % 4294967296 := by simp [IntKind.wrap, IntKind.signed, IntKind.bits]
theorem wm_u64 {n : Int} : IntKind.u64.wrap n = n % 18446744073709551616 := by simp [IntKind.wrap, IntKind.signed, IntKind.bits]
theorem byteEs_take {s : List UInt8} {i : Nat} : (byteEs s).take i = byteEs (s.take i) := by simp [byteEs, List.map_take]
theorem byteEs_drop {s : List UInt8} {i : Nat} : (byteEs s).drop i = byteEs (s.drop i) := by simp [byteEs, List.map_drop]
theorem byteEs_app {s t : List UInt8} : byteEs s ++ byteEs t = byteEs (s ++ t) := by simp [byteEs]
theorem subCells_f {cs : List AV} {off n : Nat} : subCells cs off n false = cs[off]? := Eq.trans rfl rfl
theorem subCells_t {cs : List AV} {off n : Nat} : subCells cs off n true = if off + n ≤ cs.length then some (.agg ((cs.drop off).take n)) else none := Eq.trans rfl rfl
/-! Guards. -/
def gv (v : AV) (b : Bool) : Option Bool := match v with
  | .bool x => some (x == b)
  | .undef => some false
  | _ => none
def insG (g : Option Bool) (d : Option Nat) (op : AOp) (ρ : Env) (σ : Store) : Option (Env × Store) := match g with
  | some true => (op.run ρ σ).map fun r => (putE ρ d r.1, r.2)
  | some false => some (putE ρ d .undef, σ)
  | none => none
theorem insRun_none {d : Option Nat} {nd : Nd} {op : AOp} : insRun ⟨d, none, nd, op⟩ ρ σ = (op.run ρ σ).map fun r => (putE ρ d r.1, r.2) := rfl
theorem insRun_some {d : Option Nat} {nd : Nd} {b : Bool} {s : Nat} {op : AOp} : insRun ⟨d, some (s, b), nd, op⟩ ρ σ = insG (gv (ρ s) b) d op ρ σ := rfl
theorem guardV_none : guardV ρ none = some true := rfl
theorem guardV_some {s : Nat} {b : Bool} : guardV ρ (some (s, b)) = gv (ρ s) b := rfl
theorem gv_tt : gv (.bool true) true = some true := rfl
theorem gv_tf : gv (.bool true) false = some false := rfl
theorem gv_ft : gv (.bool false) true = some false := rfl
theorem gv_ff : gv (.bool false) false = some true := rfl
theorem gv_undef {b : Bool} : gv .undef b = some false := rfl
theorem insG_t {d : Option Nat} {op : AOp} : insG (some true) d op ρ σ = (op.run ρ σ).map fun r => (putE ρ d r.1, r.2) := rfl
theorem insG_f {d : Option Nat} {op : AOp} : insG (some false) d op ρ σ = some (putE ρ d .undef, σ) := rfl
section
variable {K : Hist → Env → Store → Prop} {K1 : Env → Store → Prop} {H : Hist} {d : Option Nat} {op : AOp} {nd : Nd} {b x m : Bool} {P : Prop} {f : AX} {xs : List AX}
theorem splitG [hd : Decidable P] (h1 : P → contW K1 σ m (insG (gv (.bool true) b) d op ρ σ)) (h2 : ¬ P → contW K1 σ m (insG (gv (.bool false) b) d op ρ σ)) : contW K1 σ m (insG (gv (.bool (@decide P hd)) b) d op ρ σ) := by
  by_cases h : P
  · simpa [h] using h1 h
  · simpa [h] using h2 h
theorem splitGB (h1 : x = true → contW K1 σ m (insG (gv (.bool true) b) d op ρ σ)) (h2 : x = false → contW K1 σ m (insG (gv (.bool false) b) d op ρ σ)) : contW K1 σ m (insG (gv (.bool x) b) d op ρ σ) := by
  cases x
  · exact h2 rfl
  · exact h1 rfl
theorem splitR [hd : Decidable P] (h1 : P → rdW K H d op ρ σ (gv (.bool true) b)) (h2 : ¬ P → rdW K H d op ρ σ (gv (.bool false) b)) : rdW K H d op ρ σ (gv (.bool (@decide P hd)) b) := by
  by_cases h : P
  · simpa [h] using h1 h
  · simpa [h] using h2 h
theorem splitRB (h1 : x = true → rdW K H d op ρ σ (gv (.bool true) b)) (h2 : x = false → rdW K H d op ρ σ (gv (.bool false) b)) : rdW K H d op ρ σ (gv (.bool x) b) := by
  cases x
  · exact h2 rfl
  · exact h1 rfl
theorem splitE [hd : Decidable P] (h1 : P → efW K H d op ρ σ (gv (.bool true) b)) (h2 : ¬ P → efW K H d op ρ σ (gv (.bool false) b)) : efW K H d op ρ σ (gv (.bool (@decide P hd)) b) := by
  by_cases h : P
  · simpa [h] using h1 h
  · simpa [h] using h2 h
theorem splitEB (h1 : x = true → efW K H d op ρ σ (gv (.bool true) b)) (h2 : x = false → efW K H d op ρ σ (gv (.bool false) b)) : efW K H d op ρ σ (gv (.bool x) b) := by
  cases x
  · exact h2 rfl
  · exact h1 rfl
theorem splitC [hd : Decidable P] (h1 : P → callG C K H ρ σ d nd f xs (gv (.bool true) b)) (h2 : ¬ P → callG C K H ρ σ d nd f xs (gv (.bool false) b)) : callG C K H ρ σ d nd f xs (gv (.bool (@decide P hd)) b) := by
  by_cases h : P
  · simpa [h] using h1 h
  · simpa [h] using h2 h
theorem splitCB (h1 : x = true → callG C K H ρ σ d nd f xs (gv (.bool true) b)) (h2 : x = false → callG C K H ρ σ d nd f xs (gv (.bool false) b)) : callG C K H ρ σ d nd f xs (gv (.bool x) b) := by
  cases x
  · exact h2 rfl
  · exact h1 rfl
end
end
attribute [go_sem] opsWp_nil opsWp_call contW_f' contW_t' stepW_no stepW_same stepW_rd stepW_ef rdW_t rdW_f efW_t efW_f rdC_s efC_s callG_t' callG_f' needOk_no needOk_same needOk_ef needNext_no needNext_same needNext_ef none_pre none_rds false_or or_imp forall_and forall_eq false_implies implies_true insRun_none insRun_some guardV_none guardV_some gv_tt gv_tf gv_ft gv_ff gv_undef insG_t insG_f AOp.run AX.ev putE upd_b cond_true cond_false initE Option.map_some Option.bind_some Option.map_none rBin rEq strBin eqOp aMin rConv rLoad rStore rMake rSlice rFa rFld rIxArr rIxStr rLenSl rElems
  thenQ blkQ endQ endP retV oks Bool.and_true Bool.true_and RV.val RV.ok Option.getD_some Option.isSome_some List.map_cons List.map_nil List.getD_cons_zero List.getD_cons_succ List.getD_nil if_true if_false ite_true ite_false reduceCtorEq Bool.false_eq_true Bool.true_eq_false beq_true beq_false Bool.not_true Bool.not_false BEq.rfl beq_self_eq_true
  List.nil_append List.cons_append List.append_nil
  ow_mv ow_pick ow_alloc ow_allB ow_appB aBld appB_n appB_v appB_s appB_bn appB_bs ow_box ow_build ow_lit ow_load ow_store ow_nilc ow_bin ow_un ow_conv ow_mkfn ow_make ow_slice ow_fa ow_fld ow_iaArr ow_iaSl ow_ixArr ow_ixStr ow_ext ow_lenStr ow_lenSl ow_lenArr ow_app ow_copy ow_clear ow_minmax
  getElem?_app getElem?_app0 set_app set_app0
  shr_u8 shl_u8 shr_u16 shl_u16 shr_u32 shl_u32 shr_u64 shl_u64 shr_i64 shl_i64 ib_add ib_sub ib_mul ib_quo ib_rem ib_eql ib_neq ib_lss ib_leq ib_gtr ib_geq ib_and_u8 ib_or_u8 ib_xor_u8 ib_and_u16 ib_or_u16 ib_xor_u16 ib_and_u32 ib_or_u32 ib_xor_u32 ib_and_u64 ib_or_u64 ib_xor_u64 ib_and_i64 ib_or_i64 ib_xor_i64 mask1 mask2 mask3 mask4 mask5 mask6 mask7 mask8 mask12
  cellsOf slElems srcElems bytesOf byteOf1 bytesOf_byteEs aIdxSl aIdxArr bnd aSliceStr aSliceVsl aSliceSl aSliceAsl knownN app_n app_v app_s aBox rCopy rClear List.length_cons List.length_nil Option.bind_none overw1 overw_s overw_z overw_e byteEs_len byteEs_get byteEs_set byteEs_rep byteEs_take byteEs_drop byteEs_app get_u8
  List.getElem?_cons_zero List.getElem?_cons_succ List.set_cons_zero List.set_cons_succ List.drop_zero Nat.add_zero Nat.zero_add
  subCells_f subCells_t List.drop_succ_cons List.take_succ_cons List.take_zero Nat.zero_mul Nat.mul_one true_and and_true eq_self List.take_of_length_le
  w_i64 w_u64 w_u32 w_u16 w_u8 int_beq int_bne not_decide tdiv_pos tmod_pos' if_pos if_neg decide_eq_true decide_eq_false Int.toNat_natCast
attribute [go_sem low] un_xor overw_u
/-- Slots that are kept in mind. -/
def agree (ρ' ρ : Env) : List Nat → Prop
  | [] => True
  | j :: l => ρ' j = ρ j ∧ agree ρ' ρ l
theorem agree_refl (ρ : Env) : ∀ l, agree ρ ρ l
  | [] => trivial
  | _ :: l => ⟨rfl, agree_refl ρ l⟩
theorem SWp.slots {C : Ctx} {n k : Nat} {ac : ACode} {Q : AExit → Env → Store → Prop} {ρ : Env} {σ : Store} (l : List Nat) (h : ∀ ρ', agree ρ' ρ l → SWp C n k ac Q ρ' σ) : SWp C n k ac Q ρ σ := h ρ (agree_refl ρ l)
attribute [go_sem] fill_int fill_str fill_bool fill_ptr fill_nilp fill_nilsl fill_vsl fill_sl fill_asl fill_vp fill_fn fill_nilfn fill_agg fill_nil agree un_not un_neg rdS_s same_pre same_rds
attribute [go_sem high] rd_same ef_same need_same next_same
attribute [go_sem low] wm_u8 wm_u16 wm_u32 wm_u64
end Am
end Go.Proofs.YthgcooppjhcgcaaDoor
end
section
set_option linter.unusedSimpArgs false
set_option linter.unusedVariables false
/- THE ABSTRACT MACHINE, part 27: the store as_ a heap: what is read behind writes; methods told by properties. -/
namespace Go.Proofs.YthgcooppjhcgcaaDoor
namespace Am
section
variable {α : Type} {l m : List α} {r s : Nat} {x : α}
theorem gset_eq (h : r < l.length) : (l.set r x)[r]? = some x := List.getElem?_set_self h
theorem gset_ne (h : r ≠ s) : (l.set r x)[s]? = l[s]? := List.getElem?_set_ne h
theorem gapp (h : r < l.length) : (l ++ m)[r]? = l[r]? := List.getElem?_append_left h
theorem gappr (h : l.length ≤ r) : (l ++ m)[r]? = m[r - l.length]? := List.getElem?_append_right h
theorem sappr (h : l.length ≤ r) : (l ++ m).set r x = l ++ m.set (r - l.length) x := List.set_append_right _ _ h
theorem sapp (h : r < l.length) : (l ++ m).set r x = l.set r x ++ m := List.set_append_left _ _ h
end
/-- What holds at a function's end, with nothing let go. -/
def keepP (ts : List RV) (P : AV → Store → Prop) : AExit → Env → Store → Prop
  | .exit _ => fun _ _ => False
  | _ => fun ρ σ => oks ρ σ ts = true ∧ P (retV ts ρ σ) σ
theorem ACallsP.of_keep {C : Ctx} {f : FuncId} {n : Nat} {ts : List RV} {ac : ACode} (hc : cFn C f = some (n, ts, ac)) {args : List AV} {σ : Store} {P : AV → Store → Prop} (hn : args.length ≤ n)
    (h : SWp C n σ.length ac (keepP ts P) (initE args) σ) : ACallsP C f args σ P := by
  simp only [cFn, Option.bind_eq_some_iff] at hc
  obtain ⟨fn, hf, hc⟩ := hc
  split at hc
  · cases hc
  · rename_i hname
    simp only [Option.bind_eq_some_iff, Option.map_eq_some_iff, Prod.mk.injEq] at hc
    obtain ⟨c, hb, ts', hts, ac', hac, rfl, rfl, rfl⟩ := hc
    intro γ w cargs hR ha
    left
    constructor
    · have hname' : (fn.name == "runtime.NumGoroutine") = false := by simpa using hname
      have h1 : fn.name ≠ "runtime.NumGoroutine" := by simpa using hname'
      simp [callFunc, hf, h1, hb]
    · have hl := ha.length
      refine calls_of_wp hf hb ?_
      have hw := h c hac γ w hR.gl hR.len γ { tmps := cargs.toArray ++ Array.replicate (fn.ntmps - cargs.toArray.size) undef, defers := [] } w (Step.refl _ _) hR
        (initE_ok ha _) (by simp; omega)
      refine wp_mono hw ?_
      rintro e a' w' ⟨ae, ρ', σ2, γ', rfl, hq, q1, q2, q3, q4, q5⟩
      have fin : (oks ρ' σ2 ts' = true ∧ P (retV ts' ρ' σ2) σ2) → a'.defers = [] ∧ ∃ v_1, (results fn a'.tmps).run C.P w' = .ok v_1 w' ∧ ∃ cv v γ' σ', Ending.returned v_1 = .returned cv ∧ P v σ' ∧ Step γ w γ' w' ∧ Rel C γ' σ' w' ∧ VR γ' w' v cv := by
        rintro ⟨hk, hp⟩
        obtain ⟨rv, r1, r2⟩ := run_results_ok q2 q3 hts hk
        exact ⟨q4, _, r1, _, _, γ', σ2, rfl, hp, q1, q2, r2⟩
      cases ae with
      | normal => exact fin hq
      | exit id => exact hq.elim
      | ret => exact fin hq
attribute [go_sem] gset_eq gset_ne gapp keepP keepQ not_true_eq_false not_false_eq_true decide_false decide_true List.set_set List.append_assoc gappr sapp sappr List.length_set Nat.sub_self Nat.add_sub_cancel_left List.length_append List.length_map
end Am
end Go.Proofs.YthgcooppjhcgcaaDoor
end
section
set_option linter.unusedSimpArgs false
set_option linter.unusedVariables false
/- THE ABSTRACT MACHINE, part 28: package-level tables that are laid: what a law's row says of them, as_ the machine's own knowledge. -/
namespace Go.Proofs.YthgcooppjhcgcaaDoor
namespace Am
open Go.ChangeShapes Go.WideShapes Go.ChangeAt Go.RowKit
section
variable {H : Type} {enc : TypeId × Value → H} {P : Program} {w : World}
/-- An array of numbers, by its datum. -/
theorem ints_of_trod {base : Nat} {spare : Nat → Bool} {held : Bool} {fuel : Nat} {t e : TypeId} {n : Nat} {k : IntKind} {cs : List Value} {p : List MemPlace} (ns : List Int)
    (ht : P.underlying t = some (.array n e)) (he : P.underlying e = some (.int k)) (hc : P.cellsOf e = 1) (hct : P.cellsOf t = n)
    (h : DataW.trod enc P w base spare held fuel t cs = some (.agg (ns.map fun i => .lit (.int k i)), p)) : cs = ns.map (Value.int k) := by
  obtain ⟨xs, m, rfl, hx, hl, hn, hel⟩ := DataW.trod_array ht h
  simp only [Prod.mk.injEq, DataW.agg.injEq] at hx
  have hx1 := hx.1
  have hlen : ns.length = n := by
    have := congrArg List.length hx1
    simp only [List.length_map] at this
    omega
  rw [hct] at hl
  refine List.ext_getElem? fun i => ?_
  by_cases hi : i < n
  · have h1 := hel i hi
    rw [hc, Nat.mul_one] at h1
    obtain ⟨x, hxi⟩ : ∃ x, xs[i]? = some x := ⟨xs[i]'(by omega), List.getElem?_eq_getElem (by omega)⟩
    rw [hxi] at h1
    obtain ⟨v, e1, e2, _⟩ := DataW.trod_int he h1
    subst e2
    have h2 := congrArg (fun l => l[i]?) hx1
    simp only [List.getElem?_map, hxi, Option.map_some] at h2
    rw [List.getElem?_map]
    cases hns : ns[i]? with
    | none => rw [hns] at h2; simp at h2
    | some z =>
      rw [hns] at h2
      simp only [Option.map_some, Option.some.injEq, DataW.lit.injEq, Lit.int.injEq, true_and] at h2
      subst h2
      have h3 := congrArg (fun l => l[0]?) e1
      simp only [List.getElem?_take, List.getElem?_drop] at h3
      simpa using h3
  · rw [List.getElem?_eq_none (by omega), List.getElem?_eq_none (by simp; omega)]
theorem seg_of_var {n : String} {g : Nat} {cs : Array Value} (hg : P.globalNamed n = some g) (h : w.var? P n = some cs) : Imm [] w g ∧ Seg w g 0 cs.toList := by
  unfold World.var? at h
  rw [hg, Option.bind_some] at h
  split at h
  · rename_i c ty fz hb
    simp only [Option.some.injEq] at h; subst h
    refine ⟨⟨?_, by simp⟩, c, ty, fz, [], [], hb, by simp, rfl⟩
    rcases Nat.lt_or_ge g w.heap.size with h2 | h2
    · exact h2
    · simp [Array.getElem?_eq_none h2] at hb
  · cases h
def u32C (ns : List Int) : List AV := ns.map (AV.int .u32)
theorem VRs_ints {γ : Places} {k : IntKind} : ∀ (ns : List Int), VRs γ w (ns.map (AV.int k)) (ns.map (Value.int k))
  | [] => VRs.nil
  | _ :: ns => VRs.cons ⟨VR.int, rfl⟩ (VRs_ints ns)
/-- A laid table of numbers, as_ the machine knows it. -/
theorem vp_of_var {n : String} {g : Nat} {t e : TypeId} {m : Nat} {k : IntKind} {g' : Nat} {t' : TypeId} {cs : Array Value} {fuel : Nat} {p : List MemPlace} (ns : List Int)
    (hg : P.globalNamed n = some g) (htg : (P.globals[g]?).map (·.type) = some t) (ht : P.underlying t = some (.array m e)) (he : P.underlying e = some (.int k)) (hc : P.cellsOf e = 1) (hct : P.cellsOf t = m)
    (k1 : P.globalNamed n = some g') (k2 : (P.globals[g']?).map (·.type) = some t') (k3 : w.var? P n = some cs)
    (k4 : DataW.trod enc P w 0 (fun _ => true) false fuel t' cs.toList = some (.agg (ns.map fun i => .lit (.int k i)), p)) : VR [] w (.vp (ns.map (AV.int k))) (.pointer (some ⟨g, 0, none⟩)) := by
  obtain rfl := Option.some.inj (hg.symm.trans k1)
  obtain rfl := Option.some.inj (htg.symm.trans k2)
  obtain ⟨h1, h2⟩ := seg_of_var hg k3
  rw [ints_of_trod ns ht he hc hct k4] at h2
  exact ⟨g, 0, _, rfl, h1, h2, VRs_ints ns⟩
theorem law_contract_at {C : Ctx} {f : FuncId} {fn : Func} {e : Nat × List RV × ACode} (hc : cFn C f = some e) {d : Nat} {tys : List Ty} (htys : tysOf C.P d fn.params.toList = some tys)
    (hlaw : ∀ avs, ShAll tys avs → ACallsTo C f avs [] (.bool true) []) {s : ChangeSpec} (hvars : s.vars = [])
    (hspec : ∀ ds : List (DataW H), ds.length = fn.params.toList.length → (s.fn H ds).results = [.lit (.bool true)] ∧ (s.fn H ds).args = ds ∧ (s.fn H ds).vars = []) {tb : TypeId} (hres : fn.resultTypes = #[tb]) (htb : C.P.underlying tb = some .bool)
    (hl : laidOutB C.P = true) (hpar : (fn.params.toList.all fun t => C.P.readableRec t && decide (t < C.P.types.size)) = true)
    {W : World} (hR : Rel C [] [] W) {base : Nat} {args : Array Value} {ds gs : List (DataW H)} {before : List MemPlace} (hval : ∀ (j : Nat) t v, fn.params[j]? = some t → args[j]? = some v → Value.okWide C.P W .any base t v)
    (hW : DataW.Whole enc C.P fn.params.toList s.vars false W args.toList ds gs before) :
    Calls C.P f args W fun e W' => ∃ v, e = .returned v ∧ s.post enc C.P fn false true false false W args v W' := by
  have hW' := hW
  obtain ⟨p, q, hA, hV, rfl, hfz, hnd⟩ := hW
  obtain ⟨avs, h1, h2⟩ := open_all (r := .any) (b0 := base) htys (fun j t v hj hv => hval j t v (by simpa using hj) (by simpa using hv)) hA
  have hcall := (hlaw avs h2).calls hc hR h1
  have ea : args.toList.toArray = args := by simp
  rw [ea] at hcall
  refine hcall.mono ?_
  rintro x w' ⟨rfl, hb⟩
  refine ⟨_, rfl, law_post hW' hvars (fun gs hgs => ?_) hres htb hl hpar hb⟩
  subst hgs
  rw [List.append_nil]
  exact hspec ds (trodAll_length hA)
end
end Am
end Go.Proofs.YthgcooppjhcgcaaDoor
end
section
set_option linter.unusedSimpArgs false
set_option linter.unusedVariables false
/- The seat's program, for the abstract machine. -/
namespace Go.Proofs.YthgcooppjhcgcaaDoor
namespace Am
def shaFirst : List Int := [1779033703, 3144134277, 1013904242, 2773480762, 1359893119, 2600822924, 528734635, 1541459225]
def shaRounds : List Int := [1116352408, 1899447441, 3049323471, 3921009573, 961987163, 1508970993, 2453635748, 2870763221, 3624381080, 310598401, 607225278, 1426881987, 1925078388, 2162078206, 2614888103, 3248222580, 3835390401, 4022224774, 264347078, 604807628, 770255983, 1249150122, 1555081692, 1996064986, 2554220882, 2821834349, 2952996808, 3210313671, 3336571891, 3584528711, 113926993, 338241895, 666307205, 773529912, 1294757372, 1396182291, 1695183700, 1986661051, 2177026350, 2456956037, 2730485921, 2820302411, 3259730800, 3345764771, 3516065817, 3600352804, 4094571909, 275423344, 430227734, 506948616, 659060556, 883997877, 958139571, 1322822218, 1537002063, 1747873779, 1955562222, 2024104815, 2227730452, 2361852424, 2428436474, 2756734187, 3204031479, 3329325298]
def gl_sha_first : List AV := shaFirst.map (AV.int .u32)
def gl_sha_rounds : List AV := shaRounds.map (AV.int .u32)
noncomputable def TC : Ctx := ⟨Tryd.prog, fun g => if g = 0 then some gl_sha_first else if g = 1 then some gl_sha_rounds else none⟩
theorem rls_ints {k : Nat} {i : IntKind} : ∀ (l : List Int), RLs k (l.map (AV.int i))
  | [] => by simp [RLs]
  | _ :: l => by simp [RLs, RL]; exact rls_ints l
theorem glok : GlOK TC := by
  intro g cs h
  simp only [TC] at h
  split at h
  · cases h; exact rls_ints _
  · split at h
    · cases h; exact rls_ints _
    · cases h
end Am
end Go.Proofs.YthgcooppjhcgcaaDoor
end
section
set_option linter.unusedSimpArgs false
set_option linter.unusedVariables false
/- The abstract code of the functions on bits. (Printed by wip/gen.) -/
namespace Go.Proofs.YthgcooppjhcgcaaDoor
namespace Am
end Am
end Go.Proofs.YthgcooppjhcgcaaDoor
end
section
set_option linter.unusedSimpArgs false
set_option linter.unusedVariables false
/- Functions on bits: what runs on given values. -/
namespace Go.Proofs.YthgcooppjhcgcaaDoor
namespace Am
end Am
end Go.Proofs.YthgcooppjhcgcaaDoor
end
section
set_option linter.unusedSimpArgs false
set_option linter.unusedVariables false
/- Functions on bits: contracts. -/
set_option linter.unusedSimpArgs false
namespace Go.Proofs.YthgcooppjhcgcaaDoor
namespace Am

/-- How many of the lowest w bits are 1. -/
def pc : Nat → Nat → Nat
  | 0, _ => 0
  | w + 1, n => n % 2 + pc w (n / 2)
end Am
end Go.Proofs.YthgcooppjhcgcaaDoor
end
section
set_option linter.unusedSimpArgs false
set_option linter.unusedVariables false
/- Functions on bits: the place of the highest bit. -/
set_option linter.unusedSimpArgs false
namespace Go.Proofs.YthgcooppjhcgcaaDoor
namespace Am
end Am
end Go.Proofs.YthgcooppjhcgcaaDoor
end
section
set_option linter.unusedSimpArgs false
set_option linter.unusedVariables false
/- Functions on bits: how long a number is. -/
set_option linter.unusedSimpArgs false
namespace Go.Proofs.YthgcooppjhcgcaaDoor
namespace Am
end Am
end Go.Proofs.YthgcooppjhcgcaaDoor
end
section
set_option linter.unusedSimpArgs false
set_option linter.unusedVariables false
/- Functions on bits: how many are 1: the plain law. -/
namespace Go.Proofs.YthgcooppjhcgcaaDoor
namespace Am
/-- The byte m, n times. -/
def rep (m : Nat) : Nat → Nat
  | 0 => 0
  | n + 1 => 256 * rep m n + m
end Am
end Go.Proofs.YthgcooppjhcgcaaDoor
end
section
set_option linter.unusedSimpArgs false
set_option linter.unusedVariables false
/- Functions on bits: how many are 1. -/
set_option linter.unusedSimpArgs false
namespace Go.Proofs.YthgcooppjhcgcaaDoor
namespace Am
end Am
end Go.Proofs.YthgcooppjhcgcaaDoor
end
section
set_option linter.unusedSimpArgs false
set_option linter.unusedVariables false
/- Functions on bits: the contracts of all, numbers as_ Int. -/
set_option linter.unusedSimpArgs false
namespace Go.Proofs.YthgcooppjhcgcaaDoor
namespace Am
theorem rl_int {k : Nat} {i : IntKind} {n : Int} : RL k (.int i n) := rlB_ok _ rfl
theorem rl_str {k : Nat} {s : List UInt8} : RL k (.str s) := rlB_ok _ rfl
theorem rl_bool {k : Nat} {b : Bool} : RL k (.bool b) := rlB_ok _ rfl
/-- A number's last bytes, the highest first. -/
def be : Nat → Nat → List UInt8
  | 0, _ => []
  | n + 1, x => be n (x / 256) ++ [UInt8.ofNat x]
end Am
end Go.Proofs.YthgcooppjhcgcaaDoor
end
section
set_option linter.unusedSimpArgs false
set_option linter.unusedVariables false
/- Functions on bits: Get, Bit, Left, Right. -/
set_option linter.unusedSimpArgs false
namespace Go.Proofs.YthgcooppjhcgcaaDoor
namespace Am
/-- The number of bytes, the highest first. -/
def val (s : List UInt8) : Nat := s.foldl (fun n b => 256 * n + b.toNat) 0
def getS (s : List UInt8) : Nat := val (s.take 8)
end Am
end Go.Proofs.YthgcooppjhcgcaaDoor
end
section
set_option linter.unusedSimpArgs false
set_option linter.unusedVariables false
/- Functions on bits: plain laws. -/
set_option linter.unusedSimpArgs false
namespace Go.Proofs.YthgcooppjhcgcaaDoor
namespace Am
/-! Turning. -/
/-! Bits of a sum. -/
/-! What is put is got. -/
/-! The highest bit. -/
end Am
end Go.Proofs.YthgcooppjhcgcaaDoor
end
section
set_option linter.unusedSimpArgs false
set_option linter.unusedVariables false
/- Abstract code. (Printed by wip/gen.) -/
set_option maxRecDepth 10000
namespace Go.Proofs.YthgcooppjhcgcaaDoor
namespace Am



end Am
end Go.Proofs.YthgcooppjhcgcaaDoor
end
section
set_option linter.unusedSimpArgs false
set_option linter.unusedVariables false
/- SHA-256 in plain Lean, and words of 32 bits as_ the machine has them. -/
set_option linter.unusedSimpArgs false
set_option linter.unusedVariables false
namespace Go.Proofs.YthgcooppjhcgcaaDoor
namespace Am
abbrev W := BitVec 32
def ss0 (x : W) : W := (x.rotateLeft 25 ^^^ x.rotateLeft 14) ^^^ x >>> 3
def ss1 (y : W) : W := (y.rotateLeft 15 ^^^ y.rotateLeft 13) ^^^ y >>> 10
def bs1 (e : W) : W := (e.rotateLeft 26 ^^^ e.rotateLeft 21) ^^^ e.rotateLeft 7
def bs0 (a : W) : W := (a.rotateLeft 30 ^^^ a.rotateLeft 19) ^^^ a.rotateLeft 10
def chW (e f g : W) : W := (e &&& f) ^^^ (~~~e &&& g)
def majW (a b c : W) : W := ((a &&& b) ^^^ (a &&& c)) ^^^ (b &&& c)
def wordS (s : List UInt8) (i : Nat) : W := BitVec.ofNat 32 (getS ((s.drop (4 * i)).take 4))
def wat (w : List W) (i : Nat) : W := w.getD i 0
def sNext (s : List UInt8) (w : List W) : W :=
  if w.length < 16 then wordS s w.length else wat w (w.length - 16) + wat w (w.length - 7) + ss0 (wat w (w.length - 15)) + ss1 (wat w (w.length - 2))
def sched (s : List UInt8) : Nat → List W
  | 0 => []
  | n + 1 => sched s n ++ [sNext s (sched s n)]
structure V8 where
  a : W
  b : W
  c : W
  d : W
  e : W
  f : W
  g : W
  h : W
def V8.l (v : V8) : List W := [v.a, v.b, v.c, v.d, v.e, v.f, v.g, v.h]
def rnd (v : V8) (k w : W) : V8 :=
  ⟨(v.h + bs1 v.e + chW v.e v.f v.g + k + w) + (bs0 v.a + majW v.a v.b v.c), v.a, v.b, v.c, v.d + (v.h + bs1 v.e + chW v.e v.f v.g + k + w), v.e, v.f, v.g⟩
def kAt (n : Nat) : W := BitVec.ofInt 32 (shaRounds.getD n 0)
def rnds (s : List UInt8) (v : V8) : Nat → V8
  | 0 => v
  | n + 1 => rnd (rnds s v n) (kAt n) (wat (sched s 64) n)
def V8.add (v u : V8) : V8 := ⟨v.a + u.a, v.b + u.b, v.c + u.c, v.d + u.d, v.e + u.e, v.f + u.f, v.g + u.g, v.h + u.h⟩
def mixS (v : V8) (s : List UInt8) : V8 := (rnds s v 64).add v
def blocks : Nat → V8 → List UInt8 → V8
  | 0, v, _ => v
  | n + 1, v, s => blocks n (mixS v (s.take 64)) (s.drop 64)
def v0 : V8 := ⟨1779033703#32, 3144134277#32, 1013904242#32, 2773480762#32, 1359893119#32, 2600822924#32, 528734635#32, 1541459225#32⟩
def padS (s : List UInt8) : List UInt8 := s ++ 128 :: (List.replicate ((119 - s.length % 64) % 64) 0 ++ be 8 (s.length * 8))
def outV (v : V8) : List UInt8 := v.l.flatMap fun x => be 4 x.toNat
/-- SHA-256. -/
def shaS (s : List UInt8) : List UInt8 := outV (blocks ((padS s).length / 64) v0 (padS s))
section
theorem wr32 (x : BitVec 32) : IntKind.u32.wrap (x.toNat : Int) = x.toNat := w_u32 ⟨by omega, by have := x.isLt; omega⟩
theorem bw_add (a b : BitVec 32) : intBin .add .u32 (a.toNat : Int) (b.toNat : Int) = some (.int .u32 ((a + b).toNat : Int)) := by
  rw [ib_add, wm_u32, BitVec.toNat_add]; rfl
theorem bw_xor (a b : BitVec 32) : intBin .xor .u32 (a.toNat : Int) (b.toNat : Int) = some (.int .u32 ((a ^^^ b).toNat : Int)) := by
  rw [ib_xor_u32 ⟨by omega, by have := a.isLt; omega⟩ ⟨by omega, by have := b.isLt; omega⟩, BitVec.toNat_xor]; rfl
theorem bw_and (a b : BitVec 32) : intBin .and .u32 (a.toNat : Int) (b.toNat : Int) = some (.int .u32 ((a &&& b).toNat : Int)) := by
  rw [ib_and_u32 ⟨by omega, by have := a.isLt; omega⟩ ⟨by omega, by have := b.isLt; omega⟩, BitVec.toNat_and]; rfl
theorem bw_or (a b : BitVec 32) : intBin .or .u32 (a.toNat : Int) (b.toNat : Int) = some (.int .u32 ((a ||| b).toNat : Int)) := by
  rw [ib_or_u32 ⟨by omega, by have := a.isLt; omega⟩ ⟨by omega, by have := b.isLt; omega⟩, BitVec.toNat_or]; rfl
theorem bw_shr {a : BitVec 32} {n : Int} (h : 0 ≤ n ∧ n < 32) : shBin .shr .u32 (a.toNat : Int) n = some (.int .u32 ((a >>> n.toNat).toNat : Int)) := by
  rw [shr_u32 h, BitVec.toNat_ushiftRight, Nat.shiftRight_eq_div_pow, Int.natCast_ediv, Int.natCast_pow]; rfl
theorem bw_shl {a : BitVec 32} {n : Int} (h : 0 ≤ n ∧ n < 32) : shBin .shl .u32 (a.toNat : Int) n = some (.int .u32 ((a <<< n.toNat).toNat : Int)) := by
  rw [shl_u32 h, BitVec.toNat_shiftLeft, Nat.shiftLeft_eq, wm_u32]
  rw [Int.natCast_emod, Int.natCast_mul, Int.natCast_pow]; rfl
theorem bw_not (a : BitVec 32) : aUn .xor (.int .u32 (a.toNat : Int)) = some (.int .u32 ((~~~a).toNat : Int)) := by
  have e1 : BitVec.ofInt IntKind.u32.bits (a.toNat : Int) = a := by
    apply BitVec.eq_of_toNat_eq
    have := a.isLt
    rw [BitVec.toNat_ofInt]
    simp only [IntKind.bits]
    omega
  have e2 : BitVec.ofInt IntKind.u32.bits (if IntKind.u32.signed = true then -1 else IntKind.u32.max) = BitVec.allOnes 32 := by rfl
  have e3 : aUn .xor (.int .u32 (a.toNat : Int)) = some (.int .u32 (IntKind.u32.wrap (((BitVec.ofInt IntKind.u32.bits (if IntKind.u32.signed = true then -1 else IntKind.u32.max) ^^^ BitVec.ofInt IntKind.u32.bits (a.toNat : Int)).toNat : Nat) : Int))) := rfl
  rw [e3, e1, e2]
  have e4 : BitVec.allOnes 32 ^^^ a = ~~~a := BitVec.allOnes_xor
  show some (AV.int .u32 (IntKind.u32.wrap ((BitVec.allOnes 32 ^^^ a).toNat : Int))) = _
  rw [e4, wr32]
end
attribute [go_sem high] bw_add bw_xor bw_and bw_or bw_shr bw_shl bw_not
end Am
end Go.Proofs.YthgcooppjhcgcaaDoor
end
section
set_option linter.unusedSimpArgs false
set_option linter.unusedVariables false
/- SHA-256: contracts: turn, spread. -/
set_option linter.unusedSimpArgs false
set_option linter.unusedVariables false
namespace Go.Proofs.YthgcooppjhcgcaaDoor
namespace Am
theorem rl_agg {k : Nat} {l : List AV} (h : RLs k l) : RL k (.agg l) := by simpa only [RL] using h
end Am
end Go.Proofs.YthgcooppjhcgcaaDoor
end
section
set_option linter.unusedSimpArgs false
set_option linter.unusedVariables false
/- SHA-256: contracts: mix. -/
set_option linter.unusedSimpArgs false
set_option linter.unusedVariables false
namespace Go.Proofs.YthgcooppjhcgcaaDoor
namespace Am
end Am
end Go.Proofs.YthgcooppjhcgcaaDoor
end
section
set_option linter.unusedSimpArgs false
set_option linter.unusedVariables false
/- Contracts of library functions, laid off the kit's shelf for this program. -/
namespace Go.Proofs
open Go.Shelf
def Tryd.lays169_ren : Go.Shelf.Ren := ⟨fun | 169 => 153 | n => n, fun | 70 => 186 | 9 => 9 | 0 => 0 | 72 => 188 | 37 => 58 | 127 => 209 | 3 => 3 | 5 => 5 | n => n, fun | n => n⟩
theorem Tryd.lays169 : Go.Proofs.Lays.n169 Tryd.prog Tryd.lays169_ren := {
  mixed := by kernel_rfl
  f169 := Tryd.func153.trans (congrArg some (by kernel_rfl))
  t0 := Tryd.underlying0
  a0 := Tryd.isAgg0
  z0 := Tryd.sizeOf0
  v0 := Tryd.zeroValue0
  t3 := Tryd.underlying3
  a3 := Tryd.isAgg3
  z3 := Tryd.sizeOf3
  v3 := Tryd.zeroValue3
  t9 := Tryd.underlying9
  a9 := Tryd.isAgg9
  z9 := Tryd.sizeOf9
  v9 := Tryd.zeroValue9
  t37 := Tryd.underlying58
  a37 := Tryd.isAgg58
  z37 := Tryd.sizeOf58
  v37 := Tryd.zeroValue58
  t70 := Tryd.underlying186
  a70 := Tryd.isAgg186
  z70 := Tryd.sizeOf186
  v70 := Tryd.zeroValue186
  t72 := Tryd.underlying188
  a72 := Tryd.isAgg188
  z72 := Tryd.sizeOf188
  v72 := Tryd.zeroValue188
  t127 := Tryd.underlying209
  a127 := Tryd.isAgg209
  z127 := Tryd.sizeOf209
  v127 := Tryd.zeroValue209 }
theorem Tryd.Builder_Extra_169 : Builder.Extra Tryd.prog Tryd.lays169_ren := {
  sizeBuilder := by kernel_rfl
  liesBuilder := by kernel_rfl
  t5 := Tryd.underlying5
  a5 := Tryd.isAgg5
  z5 := Tryd.sizeOf5
  v5 := Tryd.zeroValue5
  infoByte := by kernel_rfl
  cellsByte := by kernel_rfl
  sizeByte := by kernel_rfl
  neB5 := by decide }
open Go.RowKit in
theorem Tryd.Builder_String_any (B b : Nat) (l : List UInt8) (w : World) (h : Lib.IsBuilder 188 5 B b (Lib.byteCells l) w) (hBw : B ≤ w.heap.size) :
    Calls Tryd.prog 153 #[.pointer (some ⟨b, 0, none⟩)] w fun e w' => e = .returned (.string ⟨l.toArray⟩) ∧ Below B w w' := Any.Builder_String_any Tryd.lays169 Tryd.Builder_Extra_169 B b l w h hBw
def Tryd.lays105_ren : Go.Shelf.Ren := ⟨fun | 105 => 169 | 212 => 173 | 99 => 174 | 165 => 175 | 166 => 152 | 170 => 176 | 169 => 153 | 263 => 180 | 264 => 181 | 206 => 182 | 240 => 172 | 241 => 183 | 276 => 179 | 277 => 184 | n => n, fun | 9 => 9 | 3 => 3 | 4 => 4 | 20 => 20 | 0 => 0 | 46 => 181 | 109 => 210 | 5 => 5 | 72 => 188 | 76 => 191 | 51 => 177 | 146 => 217 | 53 => 147 | 148 => 219 | 70 => 186 | 37 => 58 | 75 => 190 | 127 => 209 | 164 => 215 | 80 => 193 | n => n, fun | n => n⟩
theorem Tryd.lays105 : Go.Proofs.Lays.n105 Tryd.prog Tryd.lays105_ren := {
  mixed := by kernel_rfl
  f99 := Tryd.func174.trans (congrArg some (by kernel_rfl))
  f105 := Tryd.func169.trans (congrArg some (by kernel_rfl))
  f165 := Tryd.func175.trans (congrArg some (by kernel_rfl))
  f166 := Tryd.func152.trans (congrArg some (by kernel_rfl))
  f169 := Tryd.func153.trans (congrArg some (by kernel_rfl))
  f170 := Tryd.func176.trans (congrArg some (by kernel_rfl))
  f206 := Tryd.func182.trans (congrArg some (by kernel_rfl))
  f212 := Tryd.func173.trans (congrArg some (by kernel_rfl))
  f240 := Tryd.func172.trans (congrArg some (by kernel_rfl))
  f241 := Tryd.func183.trans (congrArg some (by kernel_rfl))
  f263 := Tryd.func180.trans (congrArg some (by kernel_rfl))
  f264 := Tryd.func181.trans (congrArg some (by kernel_rfl))
  f276 := Tryd.func179.trans (congrArg some (by kernel_rfl))
  f277 := Tryd.func184.trans (congrArg some (by kernel_rfl))
  t0 := Tryd.underlying0
  a0 := Tryd.isAgg0
  z0 := Tryd.sizeOf0
  v0 := Tryd.zeroValue0
  t3 := Tryd.underlying3
  a3 := Tryd.isAgg3
  z3 := Tryd.sizeOf3
  v3 := Tryd.zeroValue3
  t4 := Tryd.underlying4
  a4 := Tryd.isAgg4
  z4 := Tryd.sizeOf4
  v4 := Tryd.zeroValue4
  t5 := Tryd.underlying5
  a5 := Tryd.isAgg5
  z5 := Tryd.sizeOf5
  v5 := Tryd.zeroValue5
  t9 := Tryd.underlying9
  a9 := Tryd.isAgg9
  z9 := Tryd.sizeOf9
  v9 := Tryd.zeroValue9
  t20 := Tryd.underlying20
  a20 := Tryd.isAgg20
  z20 := Tryd.sizeOf20
  v20 := Tryd.zeroValue20
  t37 := Tryd.underlying58
  a37 := Tryd.isAgg58
  z37 := Tryd.sizeOf58
  v37 := Tryd.zeroValue58
  t46 := Tryd.underlying181
  a46 := Tryd.isAgg181
  z46 := Tryd.sizeOf181
  v46 := Tryd.zeroValue181
  t51 := Tryd.underlying177
  a51 := Tryd.isAgg177
  z51 := Tryd.sizeOf177
  v51 := Tryd.zeroValue177
  t53 := Tryd.underlying147
  a53 := Tryd.isAgg147
  z53 := Tryd.sizeOf147
  v53 := Tryd.zeroValue147
  t70 := Tryd.underlying186
  a70 := Tryd.isAgg186
  z70 := Tryd.sizeOf186
  v70 := Tryd.zeroValue186
  t72 := Tryd.underlying188
  a72 := Tryd.isAgg188
  z72 := Tryd.sizeOf188
  v72 := Tryd.zeroValue188
  t75 := Tryd.underlying190
  a75 := Tryd.isAgg190
  z75 := Tryd.sizeOf190
  v75 := Tryd.zeroValue190
  t76 := Tryd.underlying191
  a76 := Tryd.isAgg191
  z76 := Tryd.sizeOf191
  v76 := Tryd.zeroValue191
  t109 := Tryd.underlying210
  a109 := Tryd.isAgg210
  z109 := Tryd.sizeOf210
  v109 := Tryd.zeroValue210
  t127 := Tryd.underlying209
  a127 := Tryd.isAgg209
  z127 := Tryd.sizeOf209
  v127 := Tryd.zeroValue209
  t146 := Tryd.underlying217
  a146 := Tryd.isAgg217
  z146 := Tryd.sizeOf217
  v146 := Tryd.zeroValue217
  t148 := Tryd.underlying219
  a148 := Tryd.isAgg219
  z148 := Tryd.sizeOf219
  v148 := Tryd.zeroValue219
  t164 := Tryd.underlying215
  a164 := Tryd.isAgg215
  z164 := Tryd.sizeOf215
  v164 := Tryd.zeroValue215 }
theorem Tryd.Builder_Extra_105 : Builder.Extra Tryd.prog Tryd.lays105_ren := {
  sizeBuilder := by kernel_rfl
  liesBuilder := by kernel_rfl
  t5 := Tryd.underlying5
  a5 := Tryd.isAgg5
  z5 := Tryd.sizeOf5
  v5 := Tryd.zeroValue5
  infoByte := by kernel_rfl
  cellsByte := by kernel_rfl
  sizeByte := by kernel_rfl
  neB5 := by decide }
open Go.RowKit Go.Lib in
theorem Tryd.strings_Repeat (s : ByteArray) (c : Nat) (w : World) (hc : c ≤ 9223372036854775807) (hlen : s.size * c ≤ 140737488355328) :
    Calls Tryd.prog 169 #[.string s, .int .i64 c] w fun e w' => e = .returned (.string ⟨(Lib.repeatL s.data.toList c).toArray⟩) ∧ Below w.heap.size w w' := Any.strings_Repeat Tryd.lays105 Tryd.Builder_Extra_105 s c w hc hlen
end Go.Proofs
end
section
set_option linter.unusedSimpArgs false
set_option linter.unusedVariables false
/- SHA-256: contracts: strings.Repeat (off the shelf), filled, Sum. -/
set_option linter.unusedSimpArgs false
set_option linter.unusedVariables false
namespace Go.Proofs.YthgcooppjhcgcaaDoor
namespace Am
open Go.RowKit
/-- A hash's cells. -/
def byteEsC (l : List UInt8) : List AV := l.map fun b => .int .u8 b.toNat
theorem rl_bytes {k : Nat} : ∀ (l : List UInt8), RLs k (byteEsC l)
  | [] => by simp [byteEsC, RLs]
  | _ :: l => by have := rl_bytes (k := k) l; simp only [byteEsC] at this; simp [byteEsC, RLs, RL, this]
theorem Rel.below {C : Ctx} {γ : Places} {σ : Store} {w w' : World} (h : Rel C γ σ w) (hb : Below w.heap.size w w') : Step γ w γ w' ∧ Rel C γ σ w' := by
  have hs : Step γ w γ w' := ⟨fun r fl pl h => ⟨fl, h⟩, hb.size, fun b hb' _ => hb.block b hb', fun r pl h => .inl ⟨r, pl, h, rfl⟩, hb.os, hb.tape, hb.output⟩
  refine ⟨hs, h.len, fun r o hr => ?_, h.dead, h.inj, fun g cs hg => (h.gl g cs hg).mono hs⟩
  obtain ⟨pl, h1, h2⟩ := h.alive r o hr
  exact ⟨pl, h1, h2.mono hs (hb.block _ h2.lt)⟩
theorem byteEsC_len (l : List UInt8) : (byteEsC l).length = l.length := by simp [byteEsC]
theorem byteEs_flat (l : List UInt8) : (byteEs l).flatten = byteEsC l := by
  induction l with
  | nil => rfl
  | cons b l ih => simp [byteEs, byteEsC, B8] at ih ⊢; exact ih
end Am
end Go.Proofs.YthgcooppjhcgcaaDoor
end
section
set_option linter.unusedSimpArgs false
set_option linter.unusedVariables false
/- strings.Builder: the contracts of copyCheck and String over the abstract store. -/
set_option linter.unusedSimpArgs false
set_option linter.unusedVariables false
namespace Go.Proofs
open Go.Shelf Go.RowKit
def Tryd.lays240_ren : Go.Shelf.Ren := ⟨fun | 240 => 172 | 276 => 179 | n => n, fun | 0 => 0 | 4 => 4 | 9 => 9 | 20 => 20 | 70 => 186 | 72 => 188 | 164 => 215 | 37 => 58 | n => n, fun | n => n⟩
theorem Tryd.lays240 : Go.Proofs.Lays.n240 Tryd.prog Tryd.lays240_ren := {
  mixed := by kernel_rfl
  f240 := Tryd.func172.trans (congrArg some (by kernel_rfl))
  f276 := Tryd.func179.trans (congrArg some (by kernel_rfl))
  t0 := Tryd.underlying0
  a0 := Tryd.isAgg0
  z0 := Tryd.sizeOf0
  v0 := Tryd.zeroValue0
  t4 := Tryd.underlying4
  a4 := Tryd.isAgg4
  z4 := Tryd.sizeOf4
  v4 := Tryd.zeroValue4
  t9 := Tryd.underlying9
  a9 := Tryd.isAgg9
  z9 := Tryd.sizeOf9
  v9 := Tryd.zeroValue9
  t20 := Tryd.underlying20
  a20 := Tryd.isAgg20
  z20 := Tryd.sizeOf20
  v20 := Tryd.zeroValue20
  t70 := Tryd.underlying186
  a70 := Tryd.isAgg186
  z70 := Tryd.sizeOf186
  v70 := Tryd.zeroValue186
  t72 := Tryd.underlying188
  a72 := Tryd.isAgg188
  z72 := Tryd.sizeOf188
  v72 := Tryd.zeroValue188
  t164 := Tryd.underlying215
  a164 := Tryd.isAgg215
  z164 := Tryd.sizeOf215
  v164 := Tryd.zeroValue215 }
theorem Tryd.x72_240 : Builder.X72 Tryd.prog Tryd.lays240_ren := {
  sizeBuilder := by kernel_rfl
  liesBuilder := by kernel_rfl }
section
variable {P : Program} {ρ : Ren}
set_option maxHeartbeats 1000000 in
set_option maxRecDepth 100000 in
/-- String, with all that it turns: the bytes are frozen. -/
theorem Tryd.string_ex (L : Lays.n169 P ρ) (X : Builder.Extra P ρ) (b g cap : Nat) (cur : Array Value) (p : Value) (fb fg : Nat × Nat) (l : List UInt8) (w : World) (h0 : l ≠ [])
    (hbk : w.heap[b]? = some (.cells #[p, .slice (some ⟨g, 0, none⟩) l.length cap] (ρ.t 72) fb)) (hg : w.heap[g]? = some (.cells cur (ρ.t 5) fg)) (hnc : l.length ≤ cap) (hcs : l.length ≤ cur.size) (hln : l.length ≤ 9223372036854775807)
    (hcl : ∀ j x, l[j]? = some x → w.cell? ((⟨g, 0, none⟩ : Addr).add j) = some (.int .u8 x.toNat)) :
    Calls P (ρ.f 169) #[.pointer (some ⟨b, 0, none⟩)] w fun e w' => e = .returned (.string ⟨l.toArray⟩) ∧ w' = w.drew.freeze ⟨g, 0, none⟩ l.length := by
  have hl0 : l.length ≠ 0 := by simpa using h0
  have c1 : w.drew.cell? ⟨b, 1, none⟩ = some (.slice (some ⟨g, 0, none⟩) l.length cap) := by
    have : w.drew.heap[b]? = some (.cells #[p, .slice (some ⟨g, 0, none⟩) l.length cap] (ρ.t 72) fb) := hbk
    rw [Lib.cell_of_heap this]; rfl
  have hSD : (Builtin.unsafeSliceData_ #[(ρ.t 37)] (ρ.t 127) #[.slice (some ⟨g, 0, none⟩) l.length cap]).run P w.drew = .ok (.pointer (some ⟨g, 0, none⟩)) w.drew :=
    Lib.run_unsafeSliceData_row _ _ _ _ _ _ (by omega)
  have hUS : (Builtin.unsafeString_ #[(ρ.t 127), (ρ.t 3)] (ρ.t 9) #[.pointer (some ⟨g, 0, none⟩), .int .i64 l.length]).run P w.drew = .ok (.string ⟨l.toArray⟩) (w.drew.freeze ⟨g, 0, none⟩ l.length) :=
    Lib.run_unsafeString_row w.drew (ρ.t 127) (ρ.t 3) (ρ.t 9) (ρ.t 5) L.t127 X.cellsByte g cur.size (by have hg' : w.drew.heap[g]? = some (.cells cur (ρ.t 5) fg) := hg; simp [World.shape?, hg']) l h0 hcs hln hcl
  have mixed := L.mixed
  have t72 := L.t72; have a72 := L.a72; have z72 := L.z72; have v72 := L.v72; have u72 := run_underlying L.t72
  have t70 := L.t70; have a70 := L.a70; have z70 := L.z70; have v70 := L.v70; have u70 := run_underlying L.t70
  have t37 := L.t37; have a37 := L.a37; have z37 := L.z37; have v37 := L.v37; have u37 := run_underlying L.t37
  have t127 := L.t127; have a127 := L.a127; have z127 := L.z127; have v127 := L.v127; have u127 := run_underlying L.t127
  have t3 := L.t3; have a3 := L.a3; have z3 := L.z3; have v3 := L.v3; have u3 := run_underlying L.t3
  have t9 := L.t9; have a9 := L.a9; have z9 := L.z9; have v9 := L.v9; have u9 := run_underlying L.t9
  have t5 := X.t5; have a5 := X.a5; have z5 := X.z5; have v5 := X.v5; have u5 := run_underlying X.t5
  clear hcl hcs hln hg hbk hnc
  go_enter L.f169, Body.n169_ntmps ρ
  go_wp2
  go_region_o
  all_goals (go_wp2; go_ret; exact ⟨rfl, rfl⟩)
end
end Go.Proofs
namespace Go.Proofs.YthgcooppjhcgcaaDoor
namespace Am
open Go.RowKit
section
variable {C : Ctx} {γ : Places} {σ : Store} {w w' : World}
/-- A row is lost: its block may become what it will. -/
theorem Rel.lose (h : Rel C γ σ w) {r : Nat} {pl : Place} (hr : γ[r]? = some (true, pl)) (hsz : w'.heap.size = w.heap.size) (hother : ∀ b, b ≠ pl.b → w'.heap[b]? = w.heap[b]?) (ho : w'.os = w.os) (ht : w'.tape = w.tape) (hp : w'.output = w.output) :
    Step γ w (γ.set r (false, pl)) w' ∧ Rel C (γ.set r (false, pl)) (σ.set r none) w' := by
  obtain ⟨k1, k2⟩ := h.kill hr
  have hrl : r < γ.length := (List.getElem?_eq_some_iff.1 hr).1
  have hs : Step γ w (γ.set r (false, pl)) w' := ⟨k1.keep, by omega, fun b _ hn => hother b fun e => hn r pl hr e.symm, fun q x hx => by
    rcases k1.new q x hx with h | h
    · exact .inl h
    · exact .inr h, ho, ht, hp⟩
  refine ⟨hs, by simp [h.len], fun q o hq => ?_, fun q hq => k2.dead q hq, fun q q' x x' h1 h2 h3 => k2.inj q q' x x' h1 h2 h3, fun g cs hg => (h.gl g cs hg).mono hs⟩
  by_cases e : r = q
  · subst e
    rw [List.getElem?_set_self (by rw [← h.len]; exact hrl)] at hq; cases hq
  · rw [List.getElem?_set_ne e] at hq
    obtain ⟨x, h1, h2⟩ := h.alive q o hq
    exact ⟨x, by rw [List.getElem?_set_ne e]; exact h1, h2.mono hs (hother _ fun e' => e (h.inj r q pl x hr h1 e'.symm))⟩
/-- A builder in memory. -/
theorem Rel.bld_at (hR : Rel C γ σ w) {r : Nat} {x : AV} (hr : σ[r]? = some (some [[.bld r, x]])) : ∃ (pl : Place) (v0 v1 : Value) (fz : Nat × Nat), γ[r]? = some (true, pl) ∧ pl.base = 0 ∧ pl.esz = 2 ∧ w.heap[pl.b]? = some (.cells #[v0, v1] bldT fz) ∧
    (v0 = .pointer none ∨ v0 = .pointer (some ⟨pl.b, 0, none⟩)) ∧ VR γ w x v1 ∧ (∀ k, k < 2 → (decide (fz.1 ≤ k) && decide (k < fz.2)) = false) := by
  obtain ⟨pl, hpl, hok⟩ := hR.alive r _ hr
  obtain ⟨c, ty, fz, pre, mid, post, q1, q2, q3, q4, q5, q6⟩ := hok.ex
  simp only [List.flatten_cons, List.flatten_nil, List.append_nil, VRs] at q5
  obtain ⟨v0, _, rfl, ⟨k1, _⟩, v1, _, rfl, ⟨k2, _⟩, rfl⟩ := q5
  simp only [VR] at k1
  obtain ⟨fl, pl', hpl', ⟨e1, e2, e3, e4, e5⟩, k3⟩ := k1
  rw [hpl] at hpl'; cases hpl'
  have hty : ty = bldT := by
    obtain ⟨c0, fz0, h0⟩ := hok.tyk
    rw [q1] at h0; cases h0; exact e1
  have hpre : pre = [] := List.eq_nil_of_length_eq_zero (by omega)
  subst hpre
  have hlen : c.toList.length = 2 := by rw [Array.length_toList, q4, e5]
  have hpost : post = [] := by
    rw [q2] at hlen
    simpa using hlen
  subst hpost
  have hc : c = #[v0, v1] := by
    apply Array.ext'
    rw [q2]; rfl
  subst hc hty
  exact ⟨pl, v0, v1, fz, hpl, e2, e3, q1, k3, k2, fun k hk => q6 k hk⟩
end
theorem set_same {σ : Store} {r : Nat} {x : Option AObj} (h : σ[r]? = some x) : σ.set r x = σ := by
  apply List.ext_getElem?
  intro i
  by_cases e : r = i
  · subst e
    rw [List.getElem?_set_self (List.getElem?_eq_some_iff.1 h).1, h]
  · rw [List.getElem?_set_ne e]
theorem copyCheck_to (σ : Store) (r : Nat) (x : AV) (hr : σ[r]? = some (some [[.bld r, x]])) : ACallsTo TC 172 [.ptr r 0 0] σ (.tup []) σ := by
  obtain ⟨e, hc⟩ := Option.isSome_iff_exists.1 (show (cFn TC 172).isSome = true by kernel_rfl)
  simp only [cFn, Option.bind_eq_some_iff] at hc
  obtain ⟨fn, hf, hc⟩ := hc
  split at hc
  · cases hc
  · rename_i hname
    simp only [Option.bind_eq_some_iff, Option.map_eq_some_iff] at hc
    obtain ⟨c, hb, _⟩ := hc
    intro γ w cargs hR ha
    left
    constructor
    · have h1 : fn.name ≠ "runtime.NumGoroutine" := by simpa using hname
      simp [callFunc, hf, h1, hb]
    · obtain ⟨pl, v0, v1, fz, hpl, hb0, hez, hw, hv0, hv1, hfz⟩ := hR.bld_at hr
      simp only [VRt, VR] at ha
      obtain ⟨_, _, rfl, ⟨fl, pl', hpl', rfl⟩, rfl⟩ := ha
      rw [hpl] at hpl'; cases hpl'
      have ea : pl.base + 0 * pl.esz + 0 = 0 := by rw [hb0]; omega
      rw [ea]
      have hcell : w.cell? ⟨pl.b, 0, none⟩ = some v0 := by rw [Lib.cell_of_heap hw]; rfl
      rcases hv0 with rfl | rfl
      · refine (Any.Builder_copyCheck_fresh Tryd.lays240 Tryd.x72_240 pl.b w hcell (by simp [World.shape?, hw]; rfl) (by simp only [World.frozen?, hw]; exact hfz 0 (by omega))).mono ?_
        rintro e w' ⟨rfl, rfl⟩
        obtain ⟨w2, k1, k2, k3⟩ := hR.storeElem (i := 0) (off := 0) (vs := [.bld r]) (vals := [.pointer (some ⟨pl.b, 0, none⟩)]) hr hpl rfl (by simp) (VRs.one ⟨by
          simp only [VR]
          obtain ⟨pl2, hpl2, hok⟩ := hR.alive r _ hr
          rw [hpl] at hpl2; cases hpl2
          obtain ⟨c, ty, fz2, pre, mid, post, q1, q2, q3, q4, q5, q6⟩ := hok.ex
          simp only [List.flatten_cons, List.flatten_nil, List.append_nil, VRs, VR] at q5
          obtain ⟨u0, _, _, ⟨⟨fl3, pl3, hpl3, k, _⟩, _⟩, _⟩ := q5
          rw [hpl] at hpl3; cases hpl3
          exact ⟨true, pl, hpl, k, .inr rfl⟩, rfl⟩)
        rw [ea] at k1
        have e2 : w2 = w.setCell ⟨pl.b, 0, none⟩ (.pointer (some ⟨pl.b, 0, none⟩)) := by
          have hfr : w.frozen? ⟨pl.b, 0, none⟩ = false := by simp only [World.frozen?, hw]; exact hfz 0 (by omega)
          have hst : (store ⟨pl.b, 0, none⟩ (.pointer (some ⟨pl.b, 0, none⟩))).run TC.P w = .ok () (w.setCell ⟨pl.b, 0, none⟩ (.pointer (some ⟨pl.b, 0, none⟩))) := by
            rw [run_store TC.P w _ _ _ rfl, hcell]; simp [hfr]
          have := k1
          simp only [storeCells, addr_add, Nat.add_zero, Sem.run_bind, hst, Result.andThen_ok, Sem.run_pure, Result.ok.injEq, true_and] at this
          exact this.symm
        rw [← e2]
        have e3 : σ.set r (some ([[.bld r, x]].set 0 (overw [.bld r, x] 0 [.bld r]))) = σ := by
          have : ([[AV.bld r, x]] : List (List AV)).set 0 (overw [.bld r, x] 0 [.bld r]) = [[.bld r, x]] := by simp [overw]
          rw [this]
          exact set_same hr
        rw [e3] at k3
        exact ⟨_, γ, rfl, k2, k3, by simp only [VR]; exact ⟨[], rfl, VRt.nil⟩⟩
      · refine (Any.Builder_copyCheck_used Tryd.lays240 Tryd.x72_240 pl.b w hcell).mono ?_
        rintro e w' ⟨rfl, rfl⟩
        exact ⟨_, γ, rfl, Step.refl _ _, hR, by simp only [VR]; exact ⟨[], rfl, VRt.nil⟩⟩
theorem builder_String_to (σ : Store) (r rb : Nat) (s : List UInt8) (h0 : s ≠ []) (hs : s.length ≤ 1073741824) (h1 : σ[r]? = some (some [[.bld r, .bsl rb s.length]])) (h2 : σ[rb]? = some (some (byteEs s))) :
    ACallsTo TC 153 [.ptr r 0 0] σ (.str s) (σ.set rb none) := by
  obtain ⟨e, hc⟩ := Option.isSome_iff_exists.1 (show (cFn TC 153).isSome = true by kernel_rfl)
  simp only [cFn, Option.bind_eq_some_iff] at hc
  obtain ⟨fn, hf, hc⟩ := hc
  split at hc
  · cases hc
  · rename_i hname
    simp only [Option.bind_eq_some_iff, Option.map_eq_some_iff] at hc
    obtain ⟨c, hb, _⟩ := hc
    intro γ w cargs hR ha
    left
    constructor
    · have h1 : fn.name ≠ "runtime.NumGoroutine" := by simpa using hname
      simp [callFunc, hf, h1, hb]
    · obtain ⟨pl, v0, v1, fz, hpl, hb0, hez, hw, hv0, hv1, hfz⟩ := hR.bld_at h1
      simp only [VRt, VR] at ha
      obtain ⟨_, _, rfl, ⟨fl, pl', hpl', rfl⟩, rfl⟩ := ha
      rw [hpl] at hpl'; cases hpl'
      have ea : pl.base + 0 * pl.esz + 0 = 0 := by rw [hb0]; omega
      rw [ea]
      simp only [VR] at hv1
      obtain ⟨fl2, pb, cap, hpb, ⟨t1, t2, t3⟩, rfl, hso⟩ := hv1
      obtain ⟨pb', hpb', hok⟩ := hR.alive rb _ h2
      rw [hpb] at hpb'; cases hpb'
      obtain ⟨cur, ty, fg, pre, mid, post, q1, q2, q3, q4, q5, q6⟩ := hok.ex
      have hty : ty = u8T := by
        obtain ⟨c0, fz0, h0⟩ := hok.tyk
        rw [q1] at h0; cases h0; exact t1
      subst hty
      have hpre : pre = [] := List.eq_nil_of_length_eq_zero (by omega)
      subst hpre
      rw [byteEs_flatten] at q5
      have hml := q5.length
      rw [List.length_map] at hml
      have hcs : s.length ≤ cur.size := by
        rw [← Array.length_toList, q2]; simp; omega
      refine (Tryd.string_ex Tryd.lays169 Tryd.Builder_Extra_169 pl.b pb.b cap cur v0 fz fg s w h0 hw q1 hso.le hcs (by omega) (fun j x hj => ?_)).mono ?_
      · obtain ⟨v, k1, k2⟩ := q5.get (i := j) (a := B8 x) (by rw [List.getElem?_map, hj]; rfl)
        have hv := k2.1
        simp only [B8, VR] at hv
        rw [addr_add, Nat.zero_add, Lib.cell_of_heap q1]
        show cur[j]? = _
        rw [← Array.getElem?_toList, q2, List.nil_append, List.getElem?_append_left (by
          rcases Nat.lt_or_ge j mid.length with h | h
          · exact h
          · simp [List.getElem?_eq_none h] at k1), k1, hv]
      · rintro e w' ⟨rfl, rfl⟩
        have hz : s.length ≠ 0 := by simpa using h0
        obtain ⟨k1, k2⟩ := hR.lose (w' := w.drew.freeze ⟨pb.b, 0, none⟩ s.length) hpb (by show (World.freeze w.drew _ _).heap.size = w.drew.heap.size; unfold World.freeze; rw [if_neg hz]; exact Array.size_modify) (fun b hb => by
          show (World.freeze w.drew _ _).heap[b]? = w.drew.heap[b]?
          unfold World.freeze
          rw [if_neg hz]
          simp only [Array.getElem?_modify]
          rw [if_neg (fun e => hb e.symm)]) (by unfold World.freeze; rw [if_neg hz]; rfl) (by unfold World.freeze; rw [if_neg hz]; rfl) (by unfold World.freeze; rw [if_neg hz]; rfl)
        exact ⟨_, _, rfl, k1, k2, by simp only [VR]⟩
end Am
end Go.Proofs.YthgcooppjhcgcaaDoor
end
section
set_option linter.unusedSimpArgs false
set_option linter.unusedVariables false
/- SHA-256: contracts of the reference: pad. -/
set_option linter.unusedSimpArgs false
set_option linter.unusedVariables false
namespace Go.Proofs.YthgcooppjhcgcaaDoor
namespace Am
theorem RLss_bytes {k : Nat} (l : List UInt8) : RLss k (byteEs l) := by
  induction l with
  | nil => simp [byteEs, RLss]
  | cons b l ih => simp only [byteEs, B8] at ih; simp [byteEs, RLss, B8, RLs, RL, ih]
/-- Own bytes behind what was there. -/
def OwnB (σ σ' : Store) (v : AV) (b : List UInt8) : Prop := ∃ news j, σ' = σ ++ news ∧ v = .sl (σ.length + j) 0 b.length none 1 ∧ news[j]? = some (some (byteEs b))
theorem OwnB.down {σ σ' : Store} {v : AV} {b : List UInt8} (hw : Wf σ.length σ) (h : OwnB σ σ' v b) : DownV σ.length v σ' (.vsl 1 (byteEs b) false) σ := by
  obtain ⟨news, j, rfl, rfl, h⟩ := h
  have hl : (byteEs b).length = b.length := byteEs_len b
  have e : ((byteEs b).drop 0).take b.length = byteEs b := by rw [List.drop_zero, List.take_of_length_le (by omega)]
  have := DownV.froze (off := 0) (len := b.length) (esz := 1) (lim := none) hw h (by omega) (by rw [e]; exact RLss_bytes b)
  rw [e] at this
  exact this
theorem OwnB.app {σ σ' : Store} {r n : Nat} {b c : List UInt8} (h : OwnB σ σ' (.sl r 0 n none 1) b) : OwnB σ (σ'.set r none ++ [some (byteEs c)]) (.sl σ'.length 0 c.length none 1) c := by
  obtain ⟨news, j, rfl, e, h⟩ := h
  simp only [AV.sl.injEq, true_and, and_true] at e
  obtain ⟨rfl, rfl⟩ := e
  refine ⟨news.set j none ++ [some (byteEs c)], news.length, ?_, by simp, ?_⟩
  · rw [List.set_append_right _ _ (by omega), Nat.add_sub_cancel_left, List.append_assoc]
  · rw [List.getElem?_append_right (by simp)]; simp
theorem OwnB.get {σ σ' : Store} {v : AV} {b : List UInt8} (h : OwnB σ σ' v b) : ∃ r, v = .sl r 0 b.length none 1 ∧ σ'[r]? = some (some (byteEs b)) := by
  obtain ⟨news, j, rfl, rfl, h⟩ := h
  exact ⟨_, rfl, by rw [List.getElem?_append_right (by omega), Nat.add_sub_cancel_left]; exact h⟩
end Am
end Go.Proofs.YthgcooppjhcgcaaDoor
end
section
set_option linter.unusedSimpArgs false
set_option linter.unusedVariables false
/- SHA-256: the reference's Sum: the words. -/
set_option linter.unusedSimpArgs false
set_option linter.unusedVariables false
namespace Go.Proofs.YthgcooppjhcgcaaDoor
namespace Am
def z32 : List AV := byteEsC (List.replicate 32 0)
section
variable {k : Nat} {Q : AExit → Env → Store → Prop} {ρ : Env} {τ : Store} {u : V8} {p : List UInt8} {n : Nat}
end
end Am
end Go.Proofs.YthgcooppjhcgcaaDoor
end
section
set_option linter.unusedSimpArgs false
set_option linter.unusedVariables false
/- SHA-256: the reference's Sum: the rounds. -/
set_option linter.unusedSimpArgs false
set_option linter.unusedVariables false
namespace Go.Proofs.YthgcooppjhcgcaaDoor
namespace Am
section
variable {k : Nat} {Q : AExit → Env → Store → Prop} {ρ : Env} {τ : Store} {u : V8} {p : List UInt8} {n : Nat}
end
end Am
end Go.Proofs.YthgcooppjhcgcaaDoor
end
section
set_option linter.unusedSimpArgs false
set_option linter.unusedVariables false
/- SHA-256: the reference's Sum. -/
set_option linter.unusedSimpArgs false
set_option linter.unusedVariables false
namespace Go.Proofs.YthgcooppjhcgcaaDoor
namespace Am
end Am
end Go.Proofs.YthgcooppjhcgcaaDoor
end
section
set_option linter.unusedSimpArgs false
set_option linter.unusedVariables false
/- Abstract code. (Printed by wip/gen.) -/
set_option maxRecDepth 10000
namespace Go.Proofs.YthgcooppjhcgcaaDoor
namespace Am



@[go_sem] def speculumlaw03_Same_r0 : List AIns := [
  ⟨some 4, none, .no, .mv (.v (.bool false))⟩]
@[go_sem] def speculumlaw03_Same_r1 : List AIns := [
  ⟨some 6, none, .no, .mv (.t 0)⟩,
  ⟨some 7, none, .no, .lenSl (.t 6)⟩,
  ⟨some 8, none, .no, .mv (.t 1)⟩,
  ⟨some 9, none, .no, .lenSl (.t 8)⟩,
  ⟨some 10, none, .no, .bin .neq .none (.t 7) (.t 9)⟩]
@[go_sem] def speculumlaw03_Same_r2 : List AIns := [
  ⟨some 4, none, .no, .mv (.v (.bool false))⟩]
def speculumlaw03_Same_c3 : ACode := .seq (.reg speculumlaw03_Same_r2) .ret
def speculumlaw03_Same_c4 : ACode := .cond (.t 10) speculumlaw03_Same_c3 .skip
def speculumlaw03_Same_c5 : ACode := .seq (.reg speculumlaw03_Same_r1) speculumlaw03_Same_c4
@[go_sem] def speculumlaw03_Same_r6 : List AIns := [
  ⟨some 5, none, .no, .mv (.v (.int .i64 (0)))⟩]
@[go_sem] def speculumlaw03_Same_r7 : List AIns := [
  ⟨some 11, none, .no, .mv (.t 5)⟩,
  ⟨some 12, none, .no, .mv (.t 0)⟩,
  ⟨some 13, none, .no, .lenSl (.t 12)⟩,
  ⟨some 14, none, .no, .bin .lss .none (.t 11) (.t 13)⟩]
def speculumlaw03_Same_c8 : ACode := .cond (.t 14) .skip (.exit 0)
def speculumlaw03_Same_c9 : ACode := .seq (.reg speculumlaw03_Same_r7) speculumlaw03_Same_c8
@[go_sem] def speculumlaw03_Same_r10 : List AIns := [
  ⟨some 17, none, .no, .mv (.t 0)⟩,
  ⟨some 18, none, .no, .mv (.t 5)⟩,
  ⟨some 19, none, .no, .iaSl 32 (.t 17) (.t 18)⟩,
  ⟨some 20, none, .rd, .load true 32 (.t 19)⟩,
  ⟨some 21, none, .no, .mv (.t 1)⟩,
  ⟨some 22, none, .no, .mv (.t 5)⟩,
  ⟨some 23, none, .no, .iaSl 32 (.t 21) (.t 22)⟩,
  ⟨some 24, none, .rd, .load true 32 (.t 23)⟩,
  ⟨some 25, none, .no, .bin .neq (.agg (List.replicate 32 (.i .u8) ++ [])) (.t 20) (.t 24)⟩]
@[go_sem] def speculumlaw03_Same_r11 : List AIns := [
  ⟨some 4, none, .no, .mv (.v (.bool false))⟩]
def speculumlaw03_Same_c12 : ACode := .seq (.reg speculumlaw03_Same_r11) .ret
def speculumlaw03_Same_c13 : ACode := .cond (.t 25) speculumlaw03_Same_c12 .skip
def speculumlaw03_Same_c14 : ACode := .seq (.reg speculumlaw03_Same_r10) speculumlaw03_Same_c13
@[go_sem] def speculumlaw03_Same_r15 : List AIns := [
  ⟨some 15, none, .no, .mv (.t 5)⟩,
  ⟨some 16, none, .no, .bin .add .none (.t 15) (.v (.int .i64 (1)))⟩,
  ⟨some 5, none, .no, .mv (.t 16)⟩]
def speculumlaw03_Same_c16 : ACode := .seq (.block 1 speculumlaw03_Same_c14) (.reg speculumlaw03_Same_r15)
def speculumlaw03_Same_c17 : ACode := .seq speculumlaw03_Same_c9 speculumlaw03_Same_c16
def speculumlaw03_Same_c18 : ACode := .loop speculumlaw03_Same_c17
def speculumlaw03_Same_c19 : ACode := .block 0 speculumlaw03_Same_c18
def speculumlaw03_Same_c20 : ACode := .seq (.reg speculumlaw03_Same_r6) speculumlaw03_Same_c19
@[go_sem] def speculumlaw03_Same_r21 : List AIns := [
  ⟨some 4, none, .no, .mv (.v (.bool true))⟩]
def speculumlaw03_Same_c22 : ACode := .seq (.reg speculumlaw03_Same_r21) .ret
def speculumlaw03_Same_c23 : ACode := .seq speculumlaw03_Same_c20 speculumlaw03_Same_c22
def speculumlaw03_Same_c24 : ACode := .seq speculumlaw03_Same_c5 speculumlaw03_Same_c23
def speculumlaw03_Same_c25 : ACode := .seq (.reg speculumlaw03_Same_r0) speculumlaw03_Same_c24
theorem speculumlaw03_Same_ok : cFn TC 80 = some (26, [.t 4], speculumlaw03_Same_c25) := by kernel_rfl

@[go_sem] def speculumref03_Hash_r0 : List AIns := [
  ⟨some 1, none, .no, .box (.t 0)⟩,
  ⟨some 2, none, .no, .mv (.v (.str []))⟩]
@[go_sem] def speculumref03_Hash_r1 : List AIns := [
  ⟨some 3, none, .no, .mv (.v .nilsl)⟩]
@[go_sem] def speculumref03_Hash_r2 : List AIns := [
  ⟨some 4, none, .no, .mv (.v (.int .i64 (0)))⟩]
@[go_sem] def speculumref03_Hash_r3 : List AIns := [
  ⟨some 5, none, .no, .mv (.t 4)⟩,
  ⟨some 6, none, .no, .bin .lss .none (.t 5) (.v (.int .i64 (32)))⟩]
def speculumref03_Hash_c4 : ACode := .cond (.t 6) .skip (.exit 0)
def speculumref03_Hash_c5 : ACode := .seq (.reg speculumref03_Hash_r3) speculumref03_Hash_c4
@[go_sem] def speculumref03_Hash_r6 : List AIns := [
  ⟨some 9, none, .no, .mv (.t 3)⟩,
  ⟨some 10, none, .no, .mv (.t 4)⟩,
  ⟨some 11, none, .no, .iaArr 32 1 (.t 1) (.t 10)⟩,
  ⟨some 12, none, .no, .load false 1 (.t 11)⟩,
  ⟨some 13, none, .no, .lit 1 [(.t 12)]⟩,
  ⟨some 14, none, .no, .appB (.t 9) (.t 13)⟩,
  ⟨some 3, none, .no, .mv (.t 14)⟩]
@[go_sem] def speculumref03_Hash_r7 : List AIns := [
  ⟨some 7, none, .no, .mv (.t 4)⟩,
  ⟨some 8, none, .no, .bin .add .none (.t 7) (.v (.int .i64 (1)))⟩,
  ⟨some 4, none, .no, .mv (.t 8)⟩]
def speculumref03_Hash_c8 : ACode := .seq (.block 1 (.reg speculumref03_Hash_r6)) (.reg speculumref03_Hash_r7)
def speculumref03_Hash_c9 : ACode := .seq speculumref03_Hash_c5 speculumref03_Hash_c8
def speculumref03_Hash_c10 : ACode := .loop speculumref03_Hash_c9
def speculumref03_Hash_c11 : ACode := .block 0 speculumref03_Hash_c10
def speculumref03_Hash_c12 : ACode := .seq (.reg speculumref03_Hash_r2) speculumref03_Hash_c11
@[go_sem] def speculumref03_Hash_r13 : List AIns := [
  ⟨some 15, none, .no, .mv (.t 3)⟩,
  ⟨some 16, none, .no, .conv .str (.t 15)⟩,
  ⟨some 2, none, .no, .mv (.t 16)⟩]
def speculumref03_Hash_c14 : ACode := .seq (.reg speculumref03_Hash_r13) .ret
def speculumref03_Hash_c15 : ACode := .seq speculumref03_Hash_c12 speculumref03_Hash_c14
def speculumref03_Hash_c16 : ACode := .seq (.reg speculumref03_Hash_r1) speculumref03_Hash_c15
def speculumref03_Hash_c17 : ACode := .seq (.reg speculumref03_Hash_r0) speculumref03_Hash_c16
theorem speculumref03_Hash_ok : cFn TC 99 = some (17, [.t 2], speculumref03_Hash_c17) := by kernel_rfl

@[go_sem] def codec_Hash_r0 : List AIns := [
  ⟨some 1, none, .no, .box (.t 0)⟩,
  ⟨some 2, none, .no, .mv (.v (.str []))⟩]
@[go_sem] def codec_Hash_r1 : List AIns := [
  ⟨some 3, none, .no, .slice (.arr 32 1) (.t 1) none none none⟩,
  ⟨some 4, none, .no, .conv .str (.t 3)⟩,
  ⟨some 2, none, .no, .mv (.t 4)⟩]
def codec_Hash_c2 : ACode := .seq (.reg codec_Hash_r1) .ret
def codec_Hash_c3 : ACode := .seq (.reg codec_Hash_r0) codec_Hash_c2
theorem codec_Hash_ok : cFn TC 112 = some (5, [.t 2], codec_Hash_c3) := by kernel_rfl

end Am
end Go.Proofs.YthgcooppjhcgcaaDoor
end
section
set_option linter.unusedSimpArgs false
set_option linter.unusedVariables false
/- Trees: contracts: a hash's bytes, Node. -/
set_option linter.unusedSimpArgs false
set_option linter.unusedVariables false
namespace Go.Proofs.YthgcooppjhcgcaaDoor
namespace Am
def nodeS (a b : List UInt8) : List UInt8 := shaS (1 :: (a ++ b))
theorem chunk_C : ∀ (l : List UInt8), chunk 1 l.length (byteEsC l) = byteEs l
  | [] => rfl
  | b :: l => by
    have := chunk_C l
    simp only [byteEsC, byteEs] at this
    simp [byteEsC, byteEs, chunk, B8] at this ⊢
    exact this
theorem codec_Hash_to (σ : Store) (h : List UInt8) (hl : h.length = 32) : ACallsTo TC 112 [.agg (byteEsC h)] σ (.str h) σ := by
  refine ACallsTo.of_body codec_Hash_ok (by simp) fun hw _ => ?_
  have h1 := byteEsC_len h
  have hc := chunk_C h
  rw [hl] at h1 hc
  repeat' (first | refine SWp.seq ?_ | refine SWp.block ?_ | refine SWp.scope ?_ | refine SWp.condT rfl ?_ | refine SWp.condF rfl ?_ | (refine SWp.condD rfl (fun ht => ?_) (fun ht => ?_) <;> try (exfalso; omega)) | ((first | refine SWp.reg ?_ | refine SWp.skip ?_ | refine SWp.exit ?_ | refine SWp.ret ?_ | ((first | apply splitG | apply splitGB | apply splitR | apply splitRB | apply splitE | apply splitEB | apply splitC | apply splitCB) <;> intro ht)); all_goals try simp (disch := first | omega | (simp only [lens]; first | done | omega)) only [go_sem, Nat.reduceEqDiff, Nat.reduceBEq, Nat.reduceAdd, Nat.reduceMul, Nat.reduceSub, Nat.reduceLeDiff, Int.reduceToNat, Int.reducePow, h1, hc]))
  exact DownV.pure hw (rlB_ok _ rfl)
/-- Own elements behind what was there, or none yet. -/
def OwnN (sz : Nat) (τ σ' : Store) (v : AV) (es : List (List AV)) : Prop :=
  ∃ news, σ' = τ ++ news ∧ ((es = [] ∧ v = .nilsl) ∨ ∃ j, es ≠ [] ∧ v = .sl (τ.length + j) 0 es.length none sz ∧ news[j]? = some (some es))
theorem OwnN.len {sz : Nat} {τ σ' : Store} {v : AV} {es : List (List AV)} (h : OwnN sz τ σ' v es) : rLenSl v = some (.int .i64 es.length) := by
  obtain ⟨news, rfl, ⟨rfl, rfl⟩ | ⟨j, _, rfl, h⟩⟩ := h <;> rfl
theorem OwnN.appB {sz : Nat} {τ σ' : Store} {v : AV} {es ys : List (List AV)} (h : OwnN sz τ σ' v es) : aAppB σ' v ys = aApp σ' 1 v ys := by
  obtain ⟨news, rfl, ⟨rfl, rfl⟩ | ⟨j, _, rfl, h⟩⟩ := h <;> rfl
theorem OwnN.nil {sz : Nat} {τ news : Store} : OwnN sz τ (τ ++ news) .nilsl [] := ⟨news, rfl, .inl ⟨rfl, rfl⟩⟩
theorem OwnN.ext {sz : Nat} {τ σ' : Store} {v : AV} {es : List (List AV)} (h : OwnN sz τ σ' v es) : ∃ news, σ' = τ ++ news := by
  obtain ⟨news, h, _⟩ := h; exact ⟨news, h⟩
/-- What others append behind leaves it. -/
theorem OwnN.more {sz : Nat} {τ σ' : Store} {v : AV} {es : List (List AV)} (h : OwnN sz τ σ' v es) (y : Store) : OwnN sz τ (σ' ++ y) v es := by
  obtain ⟨news, rfl, h | ⟨j, h0, rfl, h⟩⟩ := h
  · exact ⟨news ++ y, by rw [List.append_assoc], .inl h⟩
  · exact ⟨news ++ y, by rw [List.append_assoc], .inr ⟨j, h0, rfl, by rw [List.getElem?_append_left (List.getElem?_eq_some_iff.1 h).1]; exact h⟩⟩
theorem OwnN.app {sz : Nat} {τ σ' : Store} {v : AV} {es ys : List (List AV)} (h : OwnN sz τ σ' v es) (h0 : ys.length ≠ 0) (hl : es.length + ys.length ≤ 1073741824) :
    ∃ v' σ'', aApp σ' sz v ys = some (v', σ'') ∧ OwnN sz τ σ'' v' (es ++ ys) := by
  have hne : es ++ ys ≠ [] := fun e => h0 (by rw [(List.append_eq_nil_iff.1 e).2]; rfl)
  obtain ⟨news, rfl, ⟨rfl, rfl⟩ | ⟨j, _, rfl, h⟩⟩ := h
  · refine ⟨_, _, by rw [app_n, if_neg h0, if_pos (by simpa using hl)], news ++ [some ys], by rw [List.append_assoc], .inr ⟨news.length, hne, by simp, by rw [List.getElem?_append_right (Nat.le_refl _)]; simp⟩⟩
  · have hj := (List.getElem?_eq_some_iff.1 h).1
    have hg : (τ ++ news)[τ.length + j]? = some (some es) := by rw [List.getElem?_append_right (by omega), Nat.add_sub_cancel_left]; exact h
    refine ⟨.sl (τ ++ news).length 0 (es.length + ys.length) none sz, (τ ++ news).set (τ.length + j) none ++ [some (es ++ ys)], ?_, news.set j none ++ [some (es ++ ys)], ?_, .inr ⟨news.length, hne, by simp, by rw [List.getElem?_append_right (by simp)]; simp⟩⟩
    · rw [app_s, if_neg h0, hg]
      simp only
      rw [if_pos ⟨trivial, by omega, by omega⟩, if_neg (by omega), List.drop_zero, List.take_of_length_le (Nat.le_refl _)]
    · rw [List.set_append_right _ _ (by omega), Nat.add_sub_cancel_left, List.append_assoc]
theorem OwnN.sl {sz : Nat} {τ σ' : Store} {v : AV} {es : List (List AV)} (h : OwnN sz τ σ' v es) (h0 : es ≠ []) : ∃ r, v = .sl r 0 es.length none sz ∧ σ'[r]? = some (some es) ∧ τ.length ≤ r := by
  obtain ⟨news, rfl, ⟨rfl, rfl⟩ | ⟨j, _, rfl, h⟩⟩ := h
  · exact absurd rfl h0
  · exact ⟨_, rfl, by rw [List.getElem?_append_right (by omega), Nat.add_sub_cancel_left]; exact h, by omega⟩
/-- A slice that nobody writes. -/
def SlV (sz : Nat) (es : List (List AV)) (x : AV) : Prop := (x = .nilsl ∧ es = []) ∨ ∃ ex, x = .vsl sz es ex
theorem SlV.len {sz : Nat} {es : List (List AV)} {x : AV} (h : SlV sz es x) : rLenSl x = some (.int .i64 es.length) := by
  rcases h with ⟨rfl, rfl⟩ | ⟨ex, rfl⟩ <;> rfl
theorem SlV.vsl {sz : Nat} {es : List (List AV)} {x : AV} (h : SlV sz es x) (h0 : 0 < es.length) : ∃ ex, x = .vsl sz es ex := by
  rcases h with ⟨rfl, rfl⟩ | h
  · simp at h0
  · exact h
def slVal (sz : Nat) (es : List (List AV)) : AV := if es = [] then .nilsl else .vsl sz es false
theorem slVal_is (sz : Nat) (es : List (List AV)) : SlV sz es (slVal sz es) := by
  unfold slVal
  split
  · rename_i h; exact .inl ⟨rfl, h⟩
  · exact .inr ⟨false, rfl⟩
/-- A new slice for the caller: who, and the store with it. -/
def ownV (σ : Store) (sz : Nat) (es : List (List AV)) : AV := if es = [] then .nilsl else .sl σ.length 0 es.length none sz
def ownS (σ : Store) (es : List (List AV)) : Store := if es = [] then σ else σ ++ [some es]
theorem own_is (σ : Store) (sz : Nat) (es : List (List AV)) : OwnN sz σ (ownS σ es) (ownV σ sz es) es := by
  unfold ownV ownS
  by_cases h : es = []
  · rw [if_pos h, if_pos h]; exact ⟨[], by simp, .inl ⟨h, rfl⟩⟩
  · rw [if_neg h, if_neg h]; exact ⟨[some es], rfl, .inr ⟨0, h, rfl, rfl⟩⟩
/-- At a function's end it is a value .. -/
theorem OwnN.froze {sz : Nat} {σ σ' : Store} {v : AV} {es : List (List AV)} (hw : Wf σ.length σ) (h : OwnN sz σ σ' v es) (hr : RLss σ.length es) : DownV σ.length v σ' (slVal sz es) σ := by
  unfold slVal
  obtain ⟨news, rfl, ⟨rfl, rfl⟩ | ⟨j, h0, rfl, h⟩⟩ := h
  · rw [if_pos rfl]; exact DownV.pure hw (rlB_ok _ rfl)
  · have e : (es.drop 0).take es.length = es := by rw [List.drop_zero, List.take_of_length_le (Nat.le_refl _)]
    have := DownV.froze (off := 0) (len := es.length) (esz := sz) (lim := none) hw h (by omega) (by rw [e]; exact hr)
    rw [e] at this
    rw [if_neg h0]; exact this
/-- .. or its caller's own. -/
theorem OwnN.own {sz : Nat} {σ σ' : Store} {v : AV} {es : List (List AV)} (hw : Wf σ.length σ) (h : OwnN sz σ σ' v es) (hr : RLss σ.length es) : DownV σ.length v σ' (ownV σ sz es) (ownS σ es) := by
  unfold ownV ownS
  obtain ⟨news, rfl, ⟨rfl, rfl⟩ | ⟨j, h0, rfl, h⟩⟩ := h
  · rw [if_pos rfl, if_pos rfl]; exact DownV.pure hw (rlB_ok _ rfl)
  · rw [if_neg h0, if_neg h0]; exact DownV.own (off := 0) (len := es.length) (esz := sz) (lim := none) hw h hr
theorem byteEsC_get {l : List UInt8} {i : Nat} (h : i < l.length) : (byteEsC l)[i]? = some (.int .u8 (l.getD i 0).toNat) := by
  simp [byteEsC, List.getD_eq_getElem?_getD, List.getElem?_eq_getElem h]
set_option maxHeartbeats 4000000 in
theorem ref_Hash_to (σ : Store) (h : List UInt8) (hl : h.length = 32) : ACallsTo TC 99 [.agg (byteEsC h)] σ (.str h) σ := by
  refine ACallsTo.of_body speculumref03_Hash_ok (by simp) fun hw _ => ?_
  have h1 := byteEsC_len h
  rw [hl] at h1
  repeat' (first | refine SWp.seq ?_ | refine SWp.block ?_ | refine SWp.scope ?_ | refine SWp.condT rfl ?_ | refine SWp.condF rfl ?_ | (refine SWp.condD rfl (fun ht => ?_) (fun ht => ?_) <;> try (exfalso; omega)) | ((first | refine SWp.reg ?_ | refine SWp.skip ?_ | refine SWp.exit ?_ | refine SWp.ret ?_ | ((first | apply splitG | apply splitGB | apply splitR | apply splitRB | apply splitE | apply splitEB | apply splitC | apply splitCB) <;> intro ht)); all_goals try simp (disch := first | omega | (simp only [lens]; first | done | omega)) only [go_sem, Nat.reduceEqDiff, Nat.reduceBEq, Nat.reduceAdd, Nat.reduceMul, Nat.reduceSub, Nat.reduceLeDiff, Int.reduceToNat, Int.reducePow, h1]))
  refine SWp.loop (fun m ρ σ' => ∃ i : Nat, m + i = 32 ∧ ρ 1 = .ptr σ.length 0 0 ∧ ρ 4 = .int .i64 i ∧ OwnN 1 (σ ++ [some [byteEsC h]]) σ' (ρ 3) (byteEs (h.take i))) 32 ?_ ?_
  · refine ⟨0, by omega, by simp (disch := first | omega | (simp only [lens]; first | done | omega)) only [go_sem, Nat.reduceEqDiff, Nat.reduceBEq, Nat.reduceAdd, Nat.reduceMul, Nat.reduceSub, Nat.reduceLeDiff, Int.reduceToNat, Int.reducePow], by simp (disch := first | omega | (simp only [lens]; first | done | omega)) only [go_sem, Nat.reduceEqDiff, Nat.reduceBEq, Nat.reduceAdd, Nat.reduceMul, Nat.reduceSub, Nat.reduceLeDiff, Int.reduceToNat, Int.reducePow]; rfl, ?_⟩
    simp (disch := first | omega | (simp only [lens]; first | done | omega)) only [go_sem, Nat.reduceEqDiff, Nat.reduceBEq, Nat.reduceAdd, Nat.reduceMul, Nat.reduceSub, Nat.reduceLeDiff, Int.reduceToNat, Int.reducePow]
    have := OwnN.nil (sz := 1) (τ := σ ++ [some [byteEsC h]]) (news := [])
    rwa [List.append_nil] at this
  · rintro m ρ σ' ⟨i, hm, q1, q4, hO⟩
    by_cases hi : i < 32
    · have hg := byteEsC_get (l := h) (i := i) (by omega)
      have hs : h.take (i + 1) = h.take i ++ [h.getD i 0] := by
        rw [List.take_add_one, List.getD_eq_getElem?_getD, List.getElem?_eq_getElem (by omega)]; rfl
      obtain ⟨v', σ2, he, hO2⟩ := hO.app (ys := byteEs [h.getD i 0]) (by simp [byteEs]) (by simp [byteEs_len]; omega)
      have ho : σ'[σ.length]? = some (some [byteEsC h]) := by
        obtain ⟨news, rfl, _⟩ := hO
        rw [List.append_assoc, List.getElem?_append_right (Nat.le_refl _), Nat.sub_self]; rfl
      have hb : byteEs [h.getD i 0] = [[.int .u8 (h.getD i 0).toNat]] := rfl
      rw [hb] at he
      rw [← hO.appB] at he
      generalize h.getD i 0 = x at *
      generalize hv : ρ 3 = v at *
      repeat' (first | refine SWp.seq ?_ | refine SWp.block ?_ | refine SWp.scope ?_ | refine SWp.condT rfl ?_ | refine SWp.condF rfl ?_ | (refine SWp.condD rfl (fun ht => ?_) (fun ht => ?_) <;> try (exfalso; omega)) | ((first | refine SWp.reg ?_ | refine SWp.skip ?_ | refine SWp.exit ?_ | refine SWp.ret ?_ | ((first | apply splitG | apply splitGB | apply splitR | apply splitRB | apply splitE | apply splitEB | apply splitC | apply splitCB) <;> intro ht)); all_goals try simp (disch := first | omega | (simp only [lens]; first | done | omega)) only [go_sem, Nat.reduceEqDiff, Nat.reduceBEq, Nat.reduceAdd, Nat.reduceMul, Nat.reduceSub, Nat.reduceLeDiff, Int.reduceToNat, Int.reducePow, q1, q4, hv, ho, h1, hg, he]))
      refine ⟨32 - (i + 1), by omega, i + 1, by omega, by simp, ?_⟩
      rw [hs, ← byteEs_app]
      exact hO2
    · obtain rfl : i = 32 := by omega
      rw [List.take_of_length_le (by omega)] at hO
      obtain ⟨r, q3, hg, _⟩ := hO.sl (by intro e; have := byteEs_len h; rw [e] at this; simp at this; omega)
      rw [byteEs_len] at q3
      repeat' (first | refine SWp.seq ?_ | refine SWp.block ?_ | refine SWp.scope ?_ | refine SWp.condT rfl ?_ | refine SWp.condF rfl ?_ | (refine SWp.condD rfl (fun ht => ?_) (fun ht => ?_) <;> try (exfalso; omega)) | ((first | refine SWp.reg ?_ | refine SWp.skip ?_ | refine SWp.exit ?_ | refine SWp.ret ?_ | ((first | apply splitG | apply splitGB | apply splitR | apply splitRB | apply splitE | apply splitEB | apply splitC | apply splitCB) <;> intro ht)); all_goals try simp (disch := first | omega | (simp only [lens]; first | done | omega)) only [go_sem, Nat.reduceEqDiff, Nat.reduceBEq, Nat.reduceAdd, Nat.reduceMul, Nat.reduceSub, Nat.reduceLeDiff, Int.reduceToNat, Int.reducePow, q1, q4, q3, hg]))
      obtain ⟨news, rfl, _⟩ := hO
      rw [List.append_assoc]
      exact DownV.pure hw (rlB_ok _ rfl)
end Am
end Go.Proofs.YthgcooppjhcgcaaDoor
end
section
set_option linter.unusedSimpArgs false
set_option linter.unusedVariables false
/- Trees: contracts: Split, Root. -/
set_option linter.unusedSimpArgs false
set_option linter.unusedVariables false
namespace Go.Proofs.YthgcooppjhcgcaaDoor
namespace Am
def splitS (n : Nat) : Nat := if n < 2 then 0 else 2 ^ Nat.log2 (n - 1)
def rootF : Nat → List (List UInt8) → List UInt8
  | 0, _ => []
  | _ + 1, [] => shaS []
  | _ + 1, [h] => h
  | f + 1, a :: b :: l => nodeS (rootF f ((a :: b :: l).take (splitS (l.length + 2)))) (rootF f ((a :: b :: l).drop (splitS (l.length + 2))))
/-- The root of leaves. -/
def rootS (l : List (List UInt8)) : List UInt8 := rootF (l.length + 1) l
def H32 (l : List (List UInt8)) : Prop := ∀ h ∈ l, h.length = 32
theorem H32.take {l : List (List UInt8)} (h : H32 l) (n : Nat) : H32 (l.take n) := fun x hx => h x (List.mem_of_mem_take hx)
theorem H32.drop {l : List (List UInt8)} (h : H32 l) (n : Nat) : H32 (l.drop n) := fun x hx => h x (List.mem_of_mem_drop hx)
end Am
end Go.Proofs.YthgcooppjhcgcaaDoor
end
section
set_option linter.unusedSimpArgs false
set_option linter.unusedVariables false
/- Trees: contracts: Root. -/
set_option linter.unusedSimpArgs false
set_option linter.unusedVariables false
namespace Go.Proofs.YthgcooppjhcgcaaDoor
namespace Am
/-- Hashes as_ rows. -/
def hrows (l : List (List UInt8)) : List (List AV) := l.map byteEsC
theorem hrows_len (l : List (List UInt8)) : (hrows l).length = l.length := by simp [hrows]
theorem hrows_get {l : List (List UInt8)} {i : Nat} (h : i < l.length) : (hrows l)[i]? = some (byteEsC l[i]) := by
  simp [hrows, List.getElem?_map, List.getElem?_eq_getElem h]
theorem rlss_h {k : Nat} : ∀ (l : List (List UInt8)), RLss k (hrows l)
  | [] => by simp [hrows, RLss]
  | h :: l => by have := rlss_h (k := k) l; simp only [hrows] at this; simp [hrows, RLss, this, rl_bytes]
end Am
end Go.Proofs.YthgcooppjhcgcaaDoor
end
section
set_option linter.unusedSimpArgs false
set_option linter.unusedVariables false
/- Slices that are read: values, or own rows lent; Same; Some. -/
set_option linter.unusedSimpArgs false
set_option linter.unusedVariables false
namespace Go.Proofs.YthgcooppjhcgcaaDoor
namespace Am
/-- A slice that is read: a value, or an own row. -/
def RdSl (σ : Store) (sz : Nat) (es : List (List AV)) (x : AV) : Prop :=
  SlV sz es x ∨ ∃ r off lim o, x = .sl r off es.length lim sz ∧ σ[r]? = some (some o) ∧ off + es.length ≤ o.length ∧ (o.drop off).take es.length = es
theorem RdSl.of {σ : Store} {sz : Nat} {es : List (List AV)} {x : AV} (h : SlV sz es x) : RdSl σ sz es x := .inl h
theorem OwnN.rd {sz : Nat} {τ σ' : Store} {v : AV} {es : List (List AV)} (h : OwnN sz τ σ' v es) : RdSl σ' sz es v := by
  by_cases h0 : es = []
  · obtain ⟨news, rfl, ⟨rfl, rfl⟩ | ⟨j, h1, _⟩⟩ := h
    · exact .inl (.inl ⟨rfl, rfl⟩)
    · exact absurd h0 h1
  · obtain ⟨r, rfl, hg, _⟩ := h.sl h0
    exact .inr ⟨r, 0, none, es, rfl, hg, by omega, by rw [List.drop_zero, List.take_of_length_le (Nat.le_refl _)]⟩
theorem RdSl.app {σ y : Store} {sz : Nat} {es : List (List AV)} {x : AV} (h : RdSl σ sz es x) : RdSl (σ ++ y) sz es x := by
  rcases h with h | ⟨r, off, lim, o, rfl, hg, h1, h2⟩
  · exact .inl h
  · exact .inr ⟨r, off, lim, o, rfl, by rw [gapp (List.getElem?_eq_some_iff.1 hg).1]; exact hg, h1, h2⟩
theorem RdSl.len {σ : Store} {sz : Nat} {es : List (List AV)} {x : AV} (h : RdSl σ sz es x) : rLenSl x = some (.int .i64 es.length) := by
  rcases h with h | ⟨r, off, lim, o, rfl, _⟩
  · exact h.len
  · rfl
theorem RdSl.lend {σ : Store} {sz : Nat} {es : List (List AV)} {x : AV} (h : RdSl σ sz es x) (hr : RLss 0 es) : ∃ x0, SlV sz es x0 ∧ DR (lendD σ) x0 x := by
  rcases h with h | ⟨r, off, lim, o, rfl, hg, h1, h2⟩
  · refine ⟨x, h, DR.refl (k := 0) (by omega) x ?_⟩
    rcases h with ⟨rfl, _⟩ | ⟨ex, rfl⟩
    · simp [RL]
    · simpa only [RL] using hr
  · refine ⟨.vsl sz es false, .inr ⟨false, rfl⟩, ?_⟩
    simp only [DR, lendD]
    exact .inr ⟨r, off, lim, o, rfl, trivial, hg, h1, by simp, by rw [h2]; exact DRss.refl (k := 0) (by omega) es hr⟩
theorem drs1 {D : DC} {a b : AV} (h : DR D a b) : DRs D [a] [b] := by simp only [DRs]; exact ⟨b, [], rfl, h, rfl⟩
theorem drsc {D : DC} {a b : AV} {l m : List AV} (h : DR D a b) (h2 : DRs D l m) : DRs D (a :: l) (b :: m) := by simp only [DRs]; exact ⟨b, m, rfl, h, h2⟩
theorem shS_nil (k : Nat) : shS k [] = [] := rfl
theorem eq_hash : ∀ (a b : List UInt8), eqCells (byteEsC a) (byteEsC b) = decide (a = b)
  | [], [] => rfl
  | [], _ :: _ => rfl
  | _ :: _, [] => rfl
  | a :: l, b :: m => by
    have ih := eq_hash l m
    simp only [byteEsC, List.map_cons, eqCells, eqCell] at ih ⊢
    rw [ih, Bool.eq_iff_iff]
    simp [← UInt8.toNat_inj]
    intro _
    omega
theorem kind_hash : ∀ (l : List UInt8), (byteEsC l).map kindOf = List.replicate l.length (some (LK.i .u8))
  | [] => rfl
  | _ :: l => by have := kind_hash l; simp only [byteEsC] at this; simp [byteEsC, kindOf, this, List.replicate_succ]
theorem kinds32 {l : List UInt8} (h : l.length = 32) : (byteEsC l).map kindOf = (List.replicate 32 (LK.i .u8)).map some := by rw [kind_hash, h]; rfl
set_option maxHeartbeats 4000000 in
theorem Same_to (σ : Store) (A B : List (List UInt8)) (x y : AV) (hx : SlV 32 (hrows A) x) (hy : SlV 32 (hrows B) y) (hA : H32 A) (hB : H32 B) (hl : A.length < 1000000000) (hl2 : B.length < 1000000000) :
    ACallsTo TC 80 [x, y] σ (.bool (decide (A = B))) σ := by
  refine ACallsTo.of_body speculumlaw03_Same_ok (by simp) fun hw _ => ?_
  have r1 := hx.len
  have r2 := hy.len
  rw [hrows_len] at r1 r2
  unfold rLenSl at r1 r2
  by_cases hL : A.length = B.length
  · repeat' (first | refine SWp.seq ?_ | refine SWp.block ?_ | refine SWp.scope ?_ | refine SWp.condT rfl ?_ | refine SWp.condF rfl ?_ | (refine SWp.condD rfl (fun ht => ?_) (fun ht => ?_) <;> try (exfalso; omega)) | ((first | refine SWp.reg ?_ | refine SWp.skip ?_ | refine SWp.exit ?_ | refine SWp.ret ?_ | ((first | apply splitG | apply splitGB | apply splitR | apply splitRB | apply splitE | apply splitEB | apply splitC | apply splitCB) <;> intro ht)); all_goals try simp (disch := first | omega | (simp only [lens]; first | done | omega)) only [go_sem, Nat.reduceEqDiff, Nat.reduceBEq, Nat.reduceAdd, Nat.reduceMul, Nat.reduceSub, Nat.reduceLeDiff, Int.reduceToNat, Int.reducePow, r1, r2]))
    refine SWp.loop (fun m ρ σ' => ∃ i : Nat, σ' = σ ∧ m + i = A.length ∧ A.take i = B.take i ∧ ρ 0 = x ∧ ρ 1 = y ∧ ρ 5 = .int .i64 i) A.length ?_ ?_
    · exact ⟨0, rfl, by omega, rfl, by simp (disch := first | omega | (simp only [lens]; first | done | omega)) only [go_sem, Nat.reduceEqDiff, Nat.reduceBEq, Nat.reduceAdd, Nat.reduceMul, Nat.reduceSub, Nat.reduceLeDiff, Int.reduceToNat, Int.reducePow], by simp (disch := first | omega | (simp only [lens]; first | done | omega)) only [go_sem, Nat.reduceEqDiff, Nat.reduceBEq, Nat.reduceAdd, Nat.reduceMul, Nat.reduceSub, Nat.reduceLeDiff, Int.reduceToNat, Int.reducePow], by simp (disch := first | omega | (simp only [lens]; first | done | omega)) only [go_sem, Nat.reduceEqDiff, Nat.reduceBEq, Nat.reduceAdd, Nat.reduceMul, Nat.reduceSub, Nat.reduceLeDiff, Int.reduceToNat, Int.reducePow]; rfl⟩
    · rintro m ρ σ' ⟨i, rfl, hm, hp, q0, q1, q5⟩
      by_cases hi : i < A.length
      · have hi2 : i < B.length := by omega
        obtain ⟨e1, rfl⟩ := hx.vsl (by rw [hrows_len]; omega)
        obtain ⟨e2, rfl⟩ := hy.vsl (by rw [hrows_len]; omega)
        have g1 := hrows_get hi
        have g2 := hrows_get hi2
        have c1 := byteEsC_len A[i]
        have c2 := byteEsC_len B[i]
        rw [hA _ (List.getElem_mem _)] at c1
        rw [hB _ (List.getElem_mem _)] at c2
        have k1 := kinds32 (hA _ (List.getElem_mem hi))
        have k2 := kinds32 (hB _ (List.getElem_mem hi2))
        have heq := eq_hash A[i] B[i]
        have l1 := hrows_len A
        have l2 := hrows_len B
        have hn1 : A.take (i + 1) = A.take i ++ [A[i]] := (List.take_append_getElem hi).symm
        have hn2 : B.take (i + 1) = B.take i ++ [B[i]] := (List.take_append_getElem hi2).symm
        by_cases he : A[i] = B[i]
        · have hn : A.take (i + 1) = B.take (i + 1) := by rw [hn1, hn2, hp, he]
          rw [decide_eq_true he] at heq
          clear hn1 hn2 he
          generalize byteEsC A[i] = ra at *
          generalize byteEsC B[i] = rb at *
          generalize hrows A = rA at *
          generalize hrows B = rB at *
          repeat' (first | refine SWp.seq ?_ | refine SWp.block ?_ | refine SWp.scope ?_ | refine SWp.condT rfl ?_ | refine SWp.condF rfl ?_ | (refine SWp.condD rfl (fun ht => ?_) (fun ht => ?_) <;> try (exfalso; omega)) | ((first | refine SWp.regS ?_ | refine SWp.skip ?_ | refine SWp.exit ?_ | refine SWp.ret ?_ | ((first | apply splitG | apply splitGB | apply splitR | apply splitRB | apply splitE | apply splitEB | apply splitC | apply splitCB) <;> intro ht)); all_goals try simp (disch := first | omega | (simp only [lens]; first | done | omega)) only [go_sem, Nat.reduceEqDiff, Nat.reduceBEq, Nat.reduceAdd, Nat.reduceMul, Nat.reduceSub, Nat.reduceLeDiff, Int.reduceToNat, Int.reducePow, q0, q1, q5, g1, g2, c1, c2, k1, k2, heq, l1, l2]))
          exact ⟨A.length - (i + 1), by omega, i + 1, by omega, hn, by simp⟩
        · have e : decide (A = B) = false := decide_eq_false fun e => he (by subst e; rfl)
          rw [decide_eq_false he] at heq
          rw [e]
          clear hn1 hn2 he
          generalize byteEsC A[i] = ra at *
          generalize byteEsC B[i] = rb at *
          generalize hrows A = rA at *
          generalize hrows B = rB at *
          repeat' (first | refine SWp.seq ?_ | refine SWp.block ?_ | refine SWp.scope ?_ | refine SWp.condT rfl ?_ | refine SWp.condF rfl ?_ | (refine SWp.condD rfl (fun ht => ?_) (fun ht => ?_) <;> try (exfalso; omega)) | ((first | refine SWp.regS ?_ | refine SWp.skip ?_ | refine SWp.exit ?_ | refine SWp.ret ?_ | ((first | apply splitG | apply splitGB | apply splitR | apply splitRB | apply splitE | apply splitEB | apply splitC | apply splitCB) <;> intro ht)); all_goals try simp (disch := first | omega | (simp only [lens]; first | done | omega)) only [go_sem, Nat.reduceEqDiff, Nat.reduceBEq, Nat.reduceAdd, Nat.reduceMul, Nat.reduceSub, Nat.reduceLeDiff, Int.reduceToNat, Int.reducePow, q0, q1, q5, g1, g2, c1, c2, k1, k2, heq, l1, l2]))
          exact DownV.same hw (rlB_ok _ rfl)
      · have e : decide (A = B) = true := decide_eq_true (by
          rw [List.take_of_length_le (by omega), List.take_of_length_le (by omega)] at hp
          exact hp)
        rw [e]
        repeat' (first | refine SWp.seq ?_ | refine SWp.block ?_ | refine SWp.scope ?_ | refine SWp.condT rfl ?_ | refine SWp.condF rfl ?_ | (refine SWp.condD rfl (fun ht => ?_) (fun ht => ?_) <;> try (exfalso; omega)) | ((first | refine SWp.reg ?_ | refine SWp.skip ?_ | refine SWp.exit ?_ | refine SWp.ret ?_ | ((first | apply splitG | apply splitGB | apply splitR | apply splitRB | apply splitE | apply splitEB | apply splitC | apply splitCB) <;> intro ht)); all_goals try simp (disch := first | omega | (simp only [lens]; first | done | omega)) only [go_sem, Nat.reduceEqDiff, Nat.reduceBEq, Nat.reduceAdd, Nat.reduceMul, Nat.reduceSub, Nat.reduceLeDiff, Int.reduceToNat, Int.reducePow, q0, q1, q5, r1, r2]))
        exact DownV.same hw (rlB_ok _ rfl)
  · have e : decide (A = B) = false := decide_eq_false fun e => hL (by rw [e])
    rw [e]
    repeat' (first | refine SWp.seq ?_ | refine SWp.block ?_ | refine SWp.scope ?_ | refine SWp.condT rfl ?_ | refine SWp.condF rfl ?_ | (refine SWp.condD rfl (fun ht => ?_) (fun ht => ?_) <;> try (exfalso; omega)) | ((first | refine SWp.reg ?_ | refine SWp.skip ?_ | refine SWp.exit ?_ | refine SWp.ret ?_ | ((first | apply splitG | apply splitGB | apply splitR | apply splitRB | apply splitE | apply splitEB | apply splitC | apply splitCB) <;> intro ht)); all_goals try simp (disch := first | omega | (simp only [lens]; first | done | omega)) only [go_sem, Nat.reduceEqDiff, Nat.reduceBEq, Nat.reduceAdd, Nat.reduceMul, Nat.reduceSub, Nat.reduceLeDiff, Int.reduceToNat, Int.reducePow, r1, r2]))
    exact DownV.same hw (rlB_ok _ rfl)
theorem Same_rd (σ : Store) (A B : List (List UInt8)) (x y : AV) (hx : RdSl σ 32 (hrows A) x) (hy : RdSl σ 32 (hrows B) y) (hA : H32 A) (hB : H32 B) (hl : A.length < 1000000000) (hl2 : B.length < 1000000000) :
    ACallsTo TC 80 [x, y] σ (.bool (decide (A = B))) σ := by
  obtain ⟨x0, h0, hd⟩ := hx.lend (rlss_h A)
  obtain ⟨y0, h1, hd1⟩ := hy.lend (rlss_h B)
  have := ACallsTo.lend glok (Same_to [] A B x0 y0 h0 h1 hA hB hl hl2) (drsc hd (drs1 hd1))
  rwa [show sh σ.length (.bool (decide (A = B))) = .bool (decide (A = B)) from rfl, shS_nil, List.append_nil] at this
end Am
end Go.Proofs.YthgcooppjhcgcaaDoor
end
section
set_option linter.unusedSimpArgs false
set_option linter.unusedVariables false
/- Abstract code. (Printed by wip/gen.) -/
set_option maxRecDepth 10000
namespace Go.Proofs.YthgcooppjhcgcaaDoor
namespace Am



@[go_sem] def proofs_Check_r39 : List AIns := [
  ⟨some 95, none, .no, .mv (.t 12)⟩,
  ⟨some 96, none, .no, .bin .gtr .none (.t 95) (.v (.int .i64 (0)))⟩]
def proofs_Check_c40 : ACode := .cond (.t 96) .skip (.exit 3)
def proofs_Check_c41 : ACode := .seq (.reg proofs_Check_r39) proofs_Check_c40
@[go_sem] def proofs_Check_r42 : List AIns := [
  ⟨some 98, none, .no, .mv (.t 13)⟩,
  ⟨some 99, none, .no, .call (.t 98) []⟩,
  ⟨some 97, none, .no, .mv (.t 99)⟩,
  ⟨some 100, none, .no, .ext 0 (.t 97)⟩,
  ⟨some 101, none, .no, .ext 1 (.t 97)⟩,
  ⟨some 18, none, .no, .alloc [(.int .u8 (0)), (.int .u8 (0)), (.int .u8 (0)), (.int .u8 (0)), (.int .u8 (0)), (.int .u8 (0)), (.int .u8 (0)), (.int .u8 (0)), (.int .u8 (0)), (.int .u8 (0)), (.int .u8 (0)), (.int .u8 (0)), (.int .u8 (0)), (.int .u8 (0)), (.int .u8 (0)), (.int .u8 (0)), (.int .u8 (0)), (.int .u8 (0)), (.int .u8 (0)), (.int .u8 (0)), (.int .u8 (0)), (.int .u8 (0)), (.int .u8 (0)), (.int .u8 (0)), (.int .u8 (0)), (.int .u8 (0)), (.int .u8 (0)), (.int .u8 (0)), (.int .u8 (0)), (.int .u8 (0)), (.int .u8 (0)), (.int .u8 (0))]⟩,
  ⟨none, none, .no, .store 32 (.t 18) (.t 100)⟩,
  ⟨some 19, none, .no, .mv (.t 101)⟩]
@[go_sem] def proofs_Check_r43 : List AIns := [
  ⟨some 106, none, .no, .mv (.t 19)⟩,
  ⟨some 107, none, .no, .un .not (.t 106)⟩,
  ⟨some 105, none, .no, .mv (.t 107)⟩]
@[go_sem] def proofs_Check_r44 : List AIns := [
  ⟨some 10, none, .no, .mv (.v (.int .i64 (80)))⟩]
def proofs_Check_c45 : ACode := .seq (.reg proofs_Check_r44) .ret
@[go_sem] def proofs_Check_r46 : List AIns := [
  ⟨some 109, none, .no, .mv (.t 11)⟩,
  ⟨some 110, none, .no, .bin .rem .none (.t 109) (.v (.int .i64 (2)))⟩,
  ⟨some 111, none, .no, .bin .eql .none (.t 110) (.v (.int .i64 (1)))⟩,
  ⟨some 112, none, .no, .mv (.t 111)⟩,
  ⟨some 113, some (112, false), .no, .mv (.t 11)⟩,
  ⟨some 114, some (112, false), .no, .mv (.t 12)⟩,
  ⟨some 115, some (112, false), .no, .bin .eql .none (.t 113) (.t 114)⟩,
  ⟨some 116, none, .no, .pick (.t 112) (.v (.bool true)) (.t 115)⟩,
  ⟨some 108, none, .no, .mv (.t 116)⟩]
@[go_sem] def proofs_Check_r47 : List AIns := [
  ⟨some 117, none, .rd, .load true 32 (.t 18)⟩,
  ⟨some 118, none, .rd, .load true 32 (.t 14)⟩,
  ⟨some 119, none, .ef, .call (.v (.fn 81 [])) [(.t 117), (.t 118)]⟩,
  ⟨some 120, none, .rd, .load true 32 (.t 18)⟩,
  ⟨some 121, none, .rd, .load true 32 (.t 15)⟩,
  ⟨some 122, none, .no, .call (.v (.fn 81 [])) [(.t 120), (.t 121)]⟩,
  ⟨none, none, .no, .store 32 (.t 14) (.t 119)⟩,
  ⟨none, none, .no, .store 32 (.t 15) (.t 122)⟩]
@[go_sem] def proofs_Check_r48 : List AIns := [
  ⟨some 123, none, .no, .mv (.t 11)⟩,
  ⟨some 124, none, .no, .bin .rem .none (.t 123) (.v (.int .i64 (2)))⟩,
  ⟨some 125, none, .no, .bin .eql .none (.t 124) (.v (.int .i64 (0)))⟩,
  ⟨some 126, none, .no, .mv (.t 125)⟩,
  ⟨some 127, some (126, true), .no, .mv (.t 11)⟩,
  ⟨some 128, some (126, true), .no, .bin .gtr .none (.t 127) (.v (.int .i64 (0)))⟩,
  ⟨some 129, none, .no, .pick (.t 126) (.t 128) (.v (.bool false))⟩]
def proofs_Check_c49 : ACode := .cond (.t 129) .skip (.exit 6)
def proofs_Check_c50 : ACode := .seq (.reg proofs_Check_r48) proofs_Check_c49
@[go_sem] def proofs_Check_r51 : List AIns := [
  ⟨some 130, none, .no, .mv (.t 11)⟩,
  ⟨some 131, none, .no, .bin .quo .none (.t 130) (.v (.int .i64 (2)))⟩,
  ⟨some 132, none, .no, .mv (.t 12)⟩,
  ⟨some 133, none, .no, .bin .quo .none (.t 132) (.v (.int .i64 (2)))⟩,
  ⟨some 11, none, .no, .mv (.t 131)⟩,
  ⟨some 12, none, .no, .mv (.t 133)⟩]
def proofs_Check_c52 : ACode := .block 7 (.reg proofs_Check_r51)
def proofs_Check_c53 : ACode := .seq proofs_Check_c50 proofs_Check_c52
def proofs_Check_c54 : ACode := .loop proofs_Check_c53
def proofs_Check_c55 : ACode := .block 6 proofs_Check_c54
def proofs_Check_c56 : ACode := .seq (.reg proofs_Check_r47) proofs_Check_c55
@[go_sem] def proofs_Check_r57 : List AIns := [
  ⟨some 102, none, .no, .load true 32 (.t 15)⟩,
  ⟨some 103, none, .no, .load true 32 (.t 18)⟩,
  ⟨some 104, none, .no, .call (.v (.fn 81 [])) [(.t 102), (.t 103)]⟩,
  ⟨none, none, .no, .store 32 (.t 15) (.t 104)⟩]
def proofs_Check_c58 : ACode := .cond (.t 108) proofs_Check_c56 (.reg proofs_Check_r57)
def proofs_Check_c59 : ACode := .seq (.reg proofs_Check_r46) proofs_Check_c58
def proofs_Check_c60 : ACode := .cond (.t 105) proofs_Check_c45 proofs_Check_c59
def proofs_Check_c61 : ACode := .seq (.reg proofs_Check_r43) proofs_Check_c60
def proofs_Check_c62 : ACode := .block 5 proofs_Check_c61
def proofs_Check_c63 : ACode := .seq (.reg proofs_Check_r42) proofs_Check_c62
@[go_sem] def proofs_Check_r64 : List AIns := [
  ⟨some 134, none, .no, .mv (.t 11)⟩,
  ⟨some 135, none, .no, .bin .quo .none (.t 134) (.v (.int .i64 (2)))⟩,
  ⟨some 136, none, .no, .mv (.t 12)⟩,
  ⟨some 137, none, .no, .bin .quo .none (.t 136) (.v (.int .i64 (2)))⟩,
  ⟨some 11, none, .no, .mv (.t 135)⟩,
  ⟨some 12, none, .no, .mv (.t 137)⟩]
def proofs_Check_c65 : ACode := .seq proofs_Check_c63 (.reg proofs_Check_r64)
def proofs_Check_c66 : ACode := .block 4 proofs_Check_c65
def proofs_Check_c67 : ACode := .seq proofs_Check_c41 proofs_Check_c66
def proofs_Check_c68 : ACode := .loop proofs_Check_c67
@[go_sem] def proofs_Check_r69 : List AIns := [
  ⟨some 138, none, .no, .load false 1 (.t 9)⟩,
  ⟨some 139, none, .no, .lenSl (.t 138)⟩,
  ⟨some 140, none, .no, .bin .eql .none (.t 139) (.v (.int .i64 (0)))⟩,
  ⟨some 141, none, .no, .mv (.t 140)⟩,
  ⟨some 142, some (141, true), .no, .load true 32 (.t 14)⟩,
  ⟨some 143, some (141, true), .no, .load true 32 (.t 7)⟩,
  ⟨some 144, some (141, true), .no, .bin .eql (.agg (List.replicate 32 (.i .u8) ++ [])) (.t 142) (.t 143)⟩,
  ⟨some 145, none, .no, .pick (.t 141) (.t 144) (.v (.bool false))⟩,
  ⟨some 146, none, .no, .mv (.t 145)⟩,
  ⟨some 147, some (146, true), .no, .load true 32 (.t 15)⟩,
  ⟨some 148, some (146, true), .no, .load true 32 (.t 8)⟩,
  ⟨some 149, some (146, true), .no, .bin .eql (.agg (List.replicate 32 (.i .u8) ++ [])) (.t 147) (.t 148)⟩,
  ⟨some 150, none, .no, .pick (.t 146) (.t 149) (.v (.bool false))⟩,
  ⟨some 151, none, .no, .call (.v (.fn 163 [])) [(.t 150)]⟩,
  ⟨some 10, none, .no, .mv (.t 151)⟩]
def proofs_Check_c70 : ACode := .seq (.reg proofs_Check_r69) .ret
def proofs_Check_c71 : ACode := .seq (.block 3 proofs_Check_c68) proofs_Check_c70
end Am
end Go.Proofs.YthgcooppjhcgcaaDoor
end
section
set_option linter.unusedSimpArgs false
set_option linter.unusedVariables false
/- Proofs: contracts: Proof of the program. -/
set_option linter.unusedSimpArgs false
set_option linter.unusedVariables false
namespace Go.Proofs.YthgcooppjhcgcaaDoor
namespace Am
/-- A sub-proof. -/
def subF : Nat → List (List UInt8) → Nat → Bool → List (List UInt8)
  | 0, _, _, _ => []
  | f + 1, l, m, known =>
    if m = l.length then (if known then [] else [rootS l])
    else if m ≤ splitS l.length then subF f (l.take (splitS l.length)) m known ++ [rootS (l.drop (splitS l.length))]
    else subF f (l.drop (splitS l.length)) (m - splitS l.length) false ++ [rootS (l.take (splitS l.length))]
def subS (l : List (List UInt8)) (m : Nat) (known : Bool) : List (List UInt8) := subF (l.length + 1) l m known
/-- What Proof has in memory: its own proof, itself, and rows of its own. -/
structure PrS (σ0 σ' : Store) (v : AV) (es : List (List AV)) : Prop where
  out : σ'[σ0.length]? = some (some [[v]])
  fn : σ'[σ0.length + 1]? = some (some [[.fn 162 [.ptr σ0.length 0 0, .ptr (σ0.length + 1) 0 0]]])
  keep : ∀ q, q < σ0.length → σ'[q]? = σ0[q]?
  sl : (es = [] ∧ v = .nilsl) ∨ ∃ r, σ0.length + 2 ≤ r ∧ es ≠ [] ∧ v = .sl r 0 es.length none 32 ∧ σ'[r]? = some (some es)
theorem PrS.lt {σ0 σ' : Store} {v : AV} {es : List (List AV)} (h : PrS σ0 σ' v es) : σ0.length + 2 ≤ σ'.length := by
  have := (List.getElem?_eq_some_iff.1 h.fn).1; omega
/-- One more. -/
theorem PrS.add {σ0 σ' : Store} {v : AV} {es : List (List AV)} (h : PrS σ0 σ' v es) (row : List AV) (hl : es.length + 1 ≤ 1073741824) :
    ∃ r σ2, aApp σ' 32 v [row] = some (.sl r 0 (es.length + 1) none 32, σ2) ∧ σ2[σ0.length]? = some (some [[v]]) ∧ PrS σ0 (σ2.set σ0.length (some [[.sl r 0 (es.length + 1) none 32]])) (.sl r 0 (es.length + 1) none 32) (es ++ [row]) := by
  have hlt := h.lt
  obtain ⟨h1, h2, h3, ⟨rfl, rfl⟩ | ⟨r, hr, h0, rfl, hg⟩⟩ := h
  · refine ⟨σ'.length, σ' ++ [some [row]], rfl, by rw [gapp (by omega)]; exact h1, ⟨?_, ?_, ?_, .inr ⟨σ'.length, by omega, by simp, by simp, ?_⟩⟩⟩
    · rw [gset_eq (by simp; omega)]
    · rw [gset_ne (by omega), gapp (by omega)]; exact h2
    · intro q hq; rw [gset_ne (by omega), gapp (by omega)]; exact h3 q hq
    · rw [gset_ne (by omega), gappr (Nat.le_refl _), Nat.sub_self]; rfl
  · have hrl := (List.getElem?_eq_some_iff.1 hg).1
    refine ⟨σ'.length, σ'.set r none ++ [some (es ++ [row])], ?_, ?_, ⟨?_, ?_, ?_, .inr ⟨σ'.length, by omega, by simp, by simp, ?_⟩⟩⟩
    · rw [app_s, if_neg (by simp), hg]
      simp only [List.length_cons, List.length_nil]
      rw [if_pos ⟨trivial, by omega, by omega⟩, if_neg (by omega), List.drop_zero, List.take_of_length_le (Nat.le_refl _)]
    · rw [gapp (by simp; omega), gset_ne (by omega)]; exact h1
    · rw [gset_eq (by simp; omega)]
    · rw [gset_ne (by omega), gapp (by simp; omega), gset_ne (by omega)]; exact h2
    · intro q hq; rw [gset_ne (by omega), gapp (by simp; omega), gset_ne (by omega)]; exact h3 q hq
    · rw [gset_ne (by omega), gappr (by simp), List.length_set, Nat.sub_self]; rfl
theorem PrS.ex (σ0 : Store) (es : List (List AV)) : ∃ v σ', PrS σ0 σ' v es := by
  by_cases h : es = []
  · exact ⟨.nilsl, σ0 ++ [some [[.nilsl]], some [[.fn 162 [.ptr σ0.length 0 0, .ptr (σ0.length + 1) 0 0]]]], by simp, by simp, fun q hq => gapp hq, .inl ⟨h, rfl⟩⟩
  · exact ⟨.sl (σ0.length + 2) 0 es.length none 32, σ0 ++ [some [[.sl (σ0.length + 2) 0 es.length none 32]], some [[.fn 162 [.ptr σ0.length 0 0, .ptr (σ0.length + 1) 0 0]]], some es], by simp, by simp, fun q hq => gapp hq, .inr ⟨_, Nat.le_refl _, h, rfl, by simp⟩⟩
theorem ext_of {σ σ' : Store} (h : σ.length ≤ σ'.length) (h2 : ∀ q, q < σ.length → σ'[q]? = σ[q]?) : ∃ y, σ' = σ ++ y := by
  refine ⟨σ'.drop σ.length, ?_⟩
  have e : σ'.take σ.length = σ := by
    refine List.ext_getElem? fun i => ?_
    by_cases hi : i < σ.length
    · rw [List.getElem?_take_of_lt hi]; exact h2 i hi
    · rw [List.getElem?_eq_none (by simp; omega), List.getElem?_eq_none (by omega)]
  calc σ' = σ'.take σ.length ++ σ'.drop σ.length := (List.take_append_drop _ _).symm
    _ = σ ++ σ'.drop σ.length := by rw [e]
theorem PrS.own {σ0 σ' : Store} {v : AV} {es : List (List AV)} (h : PrS σ0 σ' v es) : OwnN 32 σ0 σ' v es := by
  have hlt := h.lt
  obtain ⟨y, rfl⟩ := ext_of (by omega) h.keep
  obtain ⟨h1, h2, h3, h4 | ⟨r, hr, h0, rfl, hg⟩⟩ := h
  · exact ⟨y, rfl, .inl h4⟩
  · refine ⟨y, rfl, .inr ⟨r - σ0.length, h0, by rw [show σ0.length + (r - σ0.length) = r by omega], ?_⟩⟩
    rw [List.getElem?_append_right (by omega)] at hg; exact hg
/-- What Proof answers. -/
def proofL (hs : List (List UInt8)) (m : Int) : List (List UInt8) := if 0 < m ∧ m < hs.length then subS hs m.toNat true else []
def proofE (hs : List (List UInt8)) (m : Int) : Int := if m < 0 ∨ (hs.length : Int) < m then 2 else 0
def ProofP (σ : Store) (hs : List (List UInt8)) (m : Int) (v : AV) (σ' : Store) : Prop := ∃ v2, v = .tup [v2, .int .i64 (proofE hs m)] ∧ OwnN 32 σ σ' v2 (hrows (proofL hs m))
theorem ProofP.ex (σ : Store) (hs : List (List UInt8)) (m : Int) : ∃ v σ', ProofP σ hs m v σ' := ⟨_, _, _, rfl, own_is σ 32 _⟩
theorem ProofP.none {σ : Store} {hs : List (List UInt8)} {m : Int} (h : proofL hs m = []) : ProofP σ hs m (.tup [.nilsl, .int .i64 (proofE hs m)]) σ := ⟨.nilsl, rfl, by rw [h]; exact ⟨[], by simp, .inl ⟨rfl, rfl⟩⟩⟩
end Am
end Go.Proofs.YthgcooppjhcgcaaDoor
end
section
set_option linter.unusedSimpArgs false
set_option linter.unusedVariables false
/- Proofs: contracts: Proof of the reference. -/
set_option linter.unusedSimpArgs false
set_option linter.unusedVariables false
namespace Go.Proofs.YthgcooppjhcgcaaDoor
namespace Am
/-- Own elements, or a literal that can be gone on with. -/
def OwnA (sz : Nat) (τ σ' : Store) (v : AV) (es : List (List AV)) : Prop := OwnN sz τ σ' v es ∨ (v = .vsl sz es true ∧ es ≠ [] ∧ ∃ news, σ' = τ ++ news)
theorem OwnA.app {sz : Nat} {τ σ' : Store} {v : AV} {es ys : List (List AV)} (h : OwnA sz τ σ' v es) (h0 : ys.length ≠ 0) (hl : es.length + ys.length ≤ 1073741824) :
    ∃ v' σ'', aApp σ' sz v ys = some (v', σ'') ∧ OwnN sz τ σ'' v' (es ++ ys) := by
  rcases h with h | ⟨rfl, h1, news, rfl⟩
  · exact h.app h0 hl
  · refine ⟨.sl (τ ++ news).length 0 (es.length + ys.length) none sz, (τ ++ news) ++ [some (es ++ ys)], by rw [app_v, if_neg h0, if_pos ⟨rfl, rfl, hl⟩], news ++ [some (es ++ ys)], by rw [List.append_assoc], .inr ⟨news.length, by simp [h1], by simp, by rw [List.getElem?_append_right (Nat.le_refl _)]; simp⟩⟩
theorem OwnA.rd {sz : Nat} {τ σ' : Store} {v : AV} {es : List (List AV)} (h : OwnA sz τ σ' v es) : RdSl σ' sz es v := by
  rcases h with h | ⟨rfl, _⟩
  · exact h.rd
  · exact .inl (.inr ⟨true, rfl⟩)
theorem OwnA.more {sz : Nat} {τ σ' : Store} {v : AV} {es : List (List AV)} (h : OwnA sz τ σ' v es) (y : Store) : OwnA sz τ (σ' ++ y) v es := by
  rcases h with h | ⟨rfl, h1, news, rfl⟩
  · exact .inl (h.more y)
  · exact .inr ⟨rfl, h1, news ++ y, by rw [List.append_assoc]⟩
theorem OwnA.ext {sz : Nat} {τ σ' : Store} {v : AV} {es : List (List AV)} (h : OwnA sz τ σ' v es) : ∃ news, σ' = τ ++ news := by
  rcases h with h | ⟨_, _, h⟩
  · exact h.ext
  · exact h
theorem OwnA.down {sz : Nat} {σ σ' : Store} {v : AV} {es : List (List AV)} (hw : Wf σ.length σ) (h : OwnA sz σ σ' v es) (hr : RLss σ.length es) : ∃ v2 σ2, OwnA sz σ σ2 v2 es ∧ DownV σ.length v σ' v2 σ2 := by
  rcases h with h | ⟨rfl, h1, news, rfl⟩
  · exact ⟨_, _, .inl (own_is σ sz es), h.own hw hr⟩
  · exact ⟨_, σ, .inr ⟨rfl, h1, [], by simp⟩, DownV.pure hw (by simpa only [RL] using hr)⟩
end Am
end Go.Proofs.YthgcooppjhcgcaaDoor
end
section
set_option linter.unusedSimpArgs false
set_option linter.unusedVariables false
/- Proofs: what a proof says, by plain loops; the reference's Proof; a proof's next hash. -/
set_option linter.unusedSimpArgs false
set_option linter.unusedVariables false
namespace Go.Proofs.YthgcooppjhcgcaaDoor
namespace Am
def RefP (σ : Store) (hs : List (List UInt8)) (m : Int) (v : AV) (σ' : Store) : Prop := ∃ v2, v = .tup [v2, .int .i64 (proofE hs m)] ∧ OwnA 32 σ σ' v2 (hrows (proofL hs m))
/-- Up to where the older tree's last full one hangs. -/
def st (i last : Nat) : Nat × Nat := if h : i % 2 = 1 then st (i / 2) (last / 2) else (i, last)
termination_by i
decreasing_by omega
/-- Two roots, of the hashes. -/
def run : List Bool → List (List UInt8) → List UInt8 → List UInt8 → Option (List UInt8 × List UInt8)
  | [], [], a, b => some (a, b)
  | true :: p, h :: ps, a, b => run p ps (nodeS h a) (nodeS h b)
  | false :: p, h :: ps, a, b => run p ps a (nodeS b h)
  | _, _, _, _ => none
end Am
end Go.Proofs.YthgcooppjhcgcaaDoor
end
section
set_option linter.unusedSimpArgs false
set_option linter.unusedVariables false
/- Proofs: contract: Check of the program. -/
set_option linter.unusedSimpArgs false
set_option linter.unusedVariables false
namespace Go.Proofs.YthgcooppjhcgcaaDoor
namespace Am
/-- What Check has in memory. -/
structure ChkM (ia ib : Nat) (σ σ' : Store) (o nw : List UInt8) (pv : AV) (ps : List (List UInt8)) (a b : List UInt8) : Prop where
  hab : (ia = 3 ∧ ib = 4) ∨ (ia = 4 ∧ ib = 3)
  len : σ.length + 5 ≤ σ'.length
  keep : ∀ q, q < σ.length → σ'[q]? = σ[q]?
  g0 : σ'[σ.length]? = some (some [byteEsC o])
  g1 : σ'[σ.length + 1]? = some (some [byteEsC nw])
  g2 : σ'[σ.length + 2]? = some (some [[pv]])
  g3 : σ'[σ.length + ia]? = some (some [byteEsC a])
  g4 : σ'[σ.length + ib]? = some (some [byteEsC b])
  hp : SlV 32 (hrows ps) pv
  ha : a.length = 32
  hb : b.length = 32
theorem ChkM.app {ia ib : Nat} {σ σ' y : Store} {o nw : List UInt8} {pv : AV} {ps : List (List UInt8)} {a b : List UInt8} (h : ChkM ia ib σ σ' o nw pv ps a b) : ChkM ia ib σ (σ' ++ y) o nw pv ps a b := by
  have hl := h.len
  have hab := h.hab
  refine ⟨hab, by rw [List.length_append]; omega, fun q hq => ?_, ?_, ?_, ?_, ?_, ?_, h.hp, h.ha, h.hb⟩
  · rw [gapp (by omega)]; exact h.keep q hq
  · rw [gapp (by omega)]; exact h.g0
  · rw [gapp (by omega)]; exact h.g1
  · rw [gapp (by omega)]; exact h.g2
  · rw [gapp (by omega)]; exact h.g3
  · rw [gapp (by omega)]; exact h.g4
theorem ChkM.fin {ia ib : Nat} {σ σ' : Store} {o nw : List UInt8} {pv : AV} {ps : List (List UInt8)} {a b : List UInt8} (h : ChkM ia ib σ σ' o nw pv ps a b) (hw : Wf σ.length σ) {i : Int} : DownV σ.length (.int .i64 i) σ' (.int .i64 i) σ := by
  have hl := h.len
  have hab := h.hab
  obtain ⟨y, rfl⟩ := ext_of (by omega) h.keep
  exact DownV.pure hw (rlB_ok _ rfl)
theorem SlV.cells {sz : Nat} {es : List (List AV)} {x : AV} (h : SlV sz es x) : cellsOf x = some [x] := by
  rcases h with ⟨rfl, rfl⟩ | ⟨ex, rfl⟩ <;> rfl
end Am
end Go.Proofs.YthgcooppjhcgcaaDoor
end
section
set_option linter.unusedSimpArgs false
set_option linter.unusedVariables false
/- Proofs: contract: Check of the program, the loop. -/
set_option linter.unusedSimpArgs false
set_option linter.unusedVariables false
namespace Go.Proofs.YthgcooppjhcgcaaDoor
namespace Am
end Am
end Go.Proofs.YthgcooppjhcgcaaDoor
end
section
set_option linter.unusedSimpArgs false
set_option linter.unusedVariables false
/- Proofs: contract: Check of the program. -/
set_option linter.unusedSimpArgs false
set_option linter.unusedVariables false
namespace Go.Proofs.YthgcooppjhcgcaaDoor
namespace Am
attribute [local irreducible] proofs_Check_c71
end Am
end Go.Proofs.YthgcooppjhcgcaaDoor
end
section
set_option linter.unusedSimpArgs false
set_option linter.unusedVariables false
/- Proofs: contract: the law's own example. -/
set_option linter.unusedSimpArgs false
set_option linter.unusedVariables false
namespace Go.Proofs.YthgcooppjhcgcaaDoor
namespace Am
theorem ProofP.is {σ σ' : Store} {hs : List (List UInt8)} {m : Int} {v : AV} (h : ProofP σ hs m v σ') : ∃ v2, v = .tup [v2, .int .i64 (proofE hs m)] ∧ OwnN 32 σ σ' v2 (hrows (proofL hs m)) := h
end Am
end Go.Proofs.YthgcooppjhcgcaaDoor
end
section
set_option linter.unusedSimpArgs false
set_option linter.unusedVariables false
/- Proofs: the law ProofsProof: its contract. -/
set_option linter.unusedSimpArgs false
set_option linter.unusedVariables false
namespace Go.Proofs.YthgcooppjhcgcaaDoor
namespace Am
def hashTy : Ty := .row (List.replicate 32 (.int .u8))
theorem bytes_of : ∀ (n : Nat) (cs : List AV), ShRow (List.replicate n (.int .u8)) cs → ∃ h : List UInt8, cs = byteEsC h ∧ h.length = n
  | 0, cs, h => ⟨[], by simpa only [List.replicate_zero, ShRow, byteEsC, List.map_nil] using h, rfl⟩
  | n + 1, cs, h => by
    simp only [List.replicate_succ, ShRow, ShC] at h
    obtain ⟨_, b, rfl, ⟨x, rfl, h1, h2⟩, h3⟩ := h
    obtain ⟨l, rfl, hl⟩ := bytes_of n b h3
    simp only [IntKind.min, IntKind.max, IntKind.signed, IntKind.bits] at h1 h2
    simp at h1 h2
    refine ⟨UInt8.ofNat x.toNat :: l, ?_, by simp [hl]⟩
    have : ((UInt8.ofNat x.toNat).toNat : Int) = x := by rw [UInt8.toNat_ofNat']; omega
    simp only [byteEsC, List.map_cons, List.singleton_append, this]
theorem hash_of {cs : List AV} (h : ShC hashTy cs) : ∃ l : List UInt8, cs = byteEsC l ∧ l.length = 32 := bytes_of 32 cs (by simpa only [hashTy, ShC] using h)
theorem hashes_of : ∀ (es : List (List AV)), (∀ x ∈ es, ShC hashTy x) → ∃ hs, es = hrows hs ∧ H32 hs
  | [], _ => ⟨[], rfl, fun _ h => by simp at h⟩
  | e :: es, h => by
    obtain ⟨l, rfl, hl⟩ := hash_of (h e (by simp))
    obtain ⟨hs, rfl, hH⟩ := hashes_of es (fun x hx => h x (by simp [hx]))
    refine ⟨l :: hs, rfl, fun x hx => ?_⟩
    rcases List.mem_cons.1 hx with rfl | hx
    · exact hl
    · exact hH x hx
theorem RefP.ex (σ : Store) (hs : List (List UInt8)) (m : Int) : ∃ v σ', RefP σ hs m v σ' := ⟨_, _, _, rfl, .inl (own_is σ 32 _)⟩
end Am
end Go.Proofs.YthgcooppjhcgcaaDoor
end
section
set_option linter.unusedSimpArgs false
set_option linter.unusedVariables false
/- Hashes as_ one thing each: 32 bytes, hidden behind a name. -/
set_option linter.unusedSimpArgs false
set_option linter.unusedVariables false
namespace Go.Proofs.YthgcooppjhcgcaaDoor
namespace Am
abbrev Hash := {l : List UInt8 // l.length = 32}
def hc (h : Hash) : List AV := byteEsC h.1
def hr (l : List Hash) : List (List AV) := l.map hc
def hb (l : List Hash) : List (List UInt8) := l.map (·.1)
theorem hb_H (l : List Hash) : H32 (hb l) := fun x hx => by
  simp only [hb, List.mem_map] at hx
  obtain ⟨h, _, rfl⟩ := hx
  exact h.2
theorem hb_len (l : List Hash) : (hb l).length = l.length := by simp [hb]
theorem hr_hb (l : List Hash) : hrows (hb l) = hr l := by simp [hrows, hb, hr, hc]
theorem hb_of : ∀ {l : List (List UInt8)}, H32 l → ∃ m : List Hash, l = hb m
  | [], _ => ⟨[], rfl⟩
  | x :: l, h => by
    obtain ⟨m, hm⟩ := hb_of (l := l) fun y hy => h y (by simp [hy])
    exact ⟨⟨x, h x (by simp)⟩ :: m, by simp [hb, hm]⟩
theorem hb_inj : ∀ {a b : List Hash}, hb a = hb b → a = b
  | [], [], _ => rfl
  | [], _ :: _, h => by simp [hb] at h
  | _ :: _, [], h => by simp [hb] at h
  | x :: a, y :: b, h => by
    simp only [hb, List.map_cons, List.cons.injEq] at h
    rw [Subtype.ext h.1, hb_inj (a := a) (b := b) h.2]
@[go_sem] theorem hc_len (h : Hash) : (hc h).length = 32 := by rw [hc, byteEsC_len, h.2]
@[go_sem] theorem hc_drop (h : Hash) : (hc h).drop 32 = [] := List.drop_of_length_le (by rw [hc_len]; decide)
@[go_sem] theorem hc_take (h : Hash) : (hc h).take 32 = hc h := List.take_of_length_le (by rw [hc_len]; decide)
@[go_sem] theorem hc_take_app (h : Hash) (l : List AV) : (hc h ++ l).take 32 = hc h := by
  have := hc_len h
  rw [List.take_append_of_le_length (by omega), hc_take]
@[go_sem] theorem hc_drop_app (h : Hash) (l : List AV) : (hc h ++ l).drop 32 = l := by
  have := hc_len h
  rw [List.drop_append_of_le_length (by omega), hc_drop, List.nil_append]
@[go_sem] theorem hc_eq (a b : Hash) : eqCells (hc a) (hc b) = decide (a = b) := by
  rw [hc, hc, eq_hash, Bool.eq_iff_iff]
  simp [Subtype.ext_iff]
@[go_sem] theorem hc_kinds (h : Hash) : (hc h).map kindOf = (List.replicate 32 (LK.i .u8)).map some := kinds32 h.2
@[go_sem] theorem hr_len (l : List Hash) : (hr l).length = l.length := by simp [hr]
@[go_sem] theorem hr_take (l : List Hash) (n : Nat) : (hr l).take n = hr (l.take n) := by simp [hr, List.map_take]
@[go_sem] theorem hr_drop (l : List Hash) (n : Nat) : (hr l).drop n = hr (l.drop n) := by simp [hr, List.map_drop]
@[go_sem] theorem hr_set (l : List Hash) (i : Nat) (h : Hash) : (hr l).set i (hc h) = hr (l.set i h) := by simp [hr, List.map_set]
theorem hr_app (a b : List Hash) : hr (a ++ b) = hr a ++ hr b := by simp [hr]
def zeroH : Hash := ⟨List.replicate 32 0, by simp⟩
def hd (l : List Hash) (i : Nat) : Hash := l.getD i zeroH
@[go_sem] theorem hr_get {l : List Hash} {i : Nat} (h : i < l.length) : (hr l)[i]? = some (hc (hd l i)) := by
  simp [hr, hd, List.getElem?_map, List.getElem?_eq_getElem h]
theorem hd_get {l : List Hash} {i : Nat} (h : i < l.length) : hd l i = l[i] := by simp [hd, h]
theorem rl_hc {k : Nat} (h : Hash) : RLs k (hc h) := rl_bytes _
theorem rlss_hr {k : Nat} (l : List Hash) : RLss k (hr l) := by rw [← hr_hb]; exact rlss_h _
theorem Same_h (σ : Store) (A B : List Hash) (x y : AV) (hx : RdSl σ 32 (hr A) x) (hy : RdSl σ 32 (hr B) y) (hl : A.length < 1000000000) (hl2 : B.length < 1000000000) :
    ACallsTo TC 80 [x, y] σ (.bool (decide (A = B))) σ := by
  have := Same_rd σ (hb A) (hb B) x y (by rw [hr_hb]; exact hx) (by rw [hr_hb]; exact hy) (hb_H A) (hb_H B) (by rw [hb_len]; exact hl) (by rw [hb_len]; exact hl2)
  rwa [show decide (hb A = hb B) = decide (A = B) by rw [Bool.eq_iff_iff]; simp only [decide_eq_true_eq]; exact ⟨hb_inj, fun e => by rw [e]⟩] at this
theorem hashC_h {cs : List AV} (h : ShC hashTy cs) : ∃ l : Hash, cs = hc l := by
  obtain ⟨l, rfl, hl⟩ := hash_of h
  exact ⟨⟨l, hl⟩, rfl⟩
end Am
end Go.Proofs.YthgcooppjhcgcaaDoor
end
section
set_option linter.unusedSimpArgs false
set_option linter.unusedVariables false
/- Ranges: plain laws: trees side by side, and what is pushed behind them. -/
set_option linter.unusedSimpArgs false
set_option linter.unusedVariables false
namespace Go.Proofs.YthgcooppjhcgcaaDoor
namespace Am
end Am
end Go.Proofs.YthgcooppjhcgcaaDoor
end
section
set_option linter.unusedSimpArgs false
set_option linter.unusedVariables false
/- Ranges: plain laws: the parts of leaves that stand behind others. -/
set_option linter.unusedSimpArgs false
set_option linter.unusedVariables false
namespace Go.Proofs.YthgcooppjhcgcaaDoor
namespace Am
end Am
end Go.Proofs.YthgcooppjhcgcaaDoor
end
section
set_option linter.unusedSimpArgs false
set_option linter.unusedVariables false
/- Abstract code. (Printed by wip/gen.) -/
set_option maxRecDepth 10000
namespace Go.Proofs.YthgcooppjhcgcaaDoor
namespace Am



end Am
end Go.Proofs.YthgcooppjhcgcaaDoor
end
section
set_option linter.unusedSimpArgs false
set_option linter.unusedVariables false
/- Ranges: contracts: slices.Clone, slices.Equal, Valid; how many leaves the next part has. -/
set_option linter.unusedSimpArgs false
set_option linter.unusedVariables false
namespace Go.Proofs.YthgcooppjhcgcaaDoor
namespace Am
theorem slen {σ : Store} {r : Nat} {x : Option AObj} (h : σ[r]? = some x) : r < σ.length := (List.getElem?_eq_some_iff.1 h).1
/-- All new objects are let go, and read as_ they are. -/
def FrzD (τ news : Store) : DC := keepD τ news [] id (fun _ => true)
theorem DownV.all {τ news : Store} {v v2 : AV} (hw : Wf τ.length τ) (h : DR (FrzD τ news) v2 v) : DownV τ.length v (τ ++ news) v2 τ :=
  ⟨FrzD τ news, rfl, by show DownS τ.length (keepD τ news [] id (fun _ => true)) τ; simpa using keepD_ok (kept := []) (idx := id) (fzl := fun _ => true) (news := news) hw (by simp) (by simp) (by simp) (by simp), h⟩
theorem FrzD.same {τ news : Store} {v : AV} (h : RL τ.length v) : DR (FrzD τ news) v v := DR.refl (keepD_base _ _ _) v h
theorem FrzD.sl {τ news : Store} {r off : Nat} {lim : Option Nat} {esz : Nat} {o es : AObj} (hk : τ.length ≤ r) (ho : (τ ++ news)[r]? = some (some o)) (hl : off + es.length ≤ o.length) (he : (o.drop off).take es.length = es) (hr : RLss τ.length es) :
    DR (FrzD τ news) (.vsl esz es false) (.sl r off es.length lim esz) := by
  simp only [DR, FrzD, keepD]
  right
  exact ⟨r, off, lim, o, rfl, by simpa using hk, ho, hl, by simp, by rw [he]; exact DRss.refl (keepD_base [] id (fun _ => true)) _ hr⟩
theorem drT {D : DC} {a b : List AV} (h : DRs D a b) : DR D (.tup a) (.tup b) := by simp only [DR]; exact ⟨b, rfl, h⟩
theorem OwnN.frz {sz : Nat} {τ news : Store} {v : AV} {es : List (List AV)} (h : OwnN sz τ (τ ++ news) v es) (hr : RLss τ.length es) : DR (FrzD τ news) (slVal sz es) v := by
  by_cases h0 : es = []
  · obtain ⟨n2, _, ⟨rfl, rfl⟩ | ⟨j, h1, _⟩⟩ := h
    · simp [slVal, DR]
    · exact absurd h0 h1
  · obtain ⟨r, rfl, hg, hk⟩ := h.sl h0
    unfold slVal
    rw [if_neg h0]
    exact FrzD.sl hk hg (by omega) (by simp) hr
/-- Slots, as_ a list. -/
def lkp : List (Nat × AV) → Env
  | [], _ => .any
  | (a, v) :: l, t => bif t == a then v else lkp l t
@[go_sem] theorem lkp_cons {a t : Nat} {v : AV} {l : List (Nat × AV)} : lkp ((a, v) :: l) t = bif t == a then v else lkp l t := rfl
/-- Own elements, or an empty literal. -/
def OwnE (sz : Nat) (τ σ' : Store) (v : AV) (es : List (List AV)) : Prop := OwnN sz τ σ' v es ∨ (es = [] ∧ v = .vsl sz [] true ∧ ∃ news, σ' = τ ++ news)
theorem OwnE.ext {sz : Nat} {τ σ' : Store} {v : AV} {es : List (List AV)} (h : OwnE sz τ σ' v es) : ∃ news, σ' = τ ++ news := by
  rcases h with h | ⟨_, _, h⟩
  · exact h.ext
  · exact h
theorem OwnE.rd {sz : Nat} {τ σ' : Store} {v : AV} {es : List (List AV)} (h : OwnE sz τ σ' v es) : RdSl σ' sz es v := by
  rcases h with h | ⟨rfl, rfl, _⟩
  · exact h.rd
  · exact .inl (.inr ⟨true, rfl⟩)
theorem OwnE.len {sz : Nat} {τ σ' : Store} {v : AV} {es : List (List AV)} (h : OwnE sz τ σ' v es) : rLenSl v = some (.int .i64 es.length) := h.rd.len
theorem OwnE.app {sz : Nat} {τ σ' : Store} {v : AV} {es ys : List (List AV)} (h : OwnE sz τ σ' v es) (h0 : ys.length ≠ 0) (hl : es.length + ys.length ≤ 1073741824) :
    ∃ v' σ'', aApp σ' sz v ys = some (v', σ'') ∧ OwnN sz τ σ'' v' (es ++ ys) := by
  rcases h with h | ⟨rfl, rfl, news, rfl⟩
  · exact h.app h0 hl
  · refine ⟨.sl (τ ++ news).length 0 ys.length none sz, (τ ++ news) ++ [some ys], by rw [app_v, if_neg h0, if_pos ⟨rfl, rfl, hl⟩]; simp, news ++ [some ys], by rw [List.append_assoc], .inr ⟨news.length, ?_, by simp, by rw [List.getElem?_append_right (Nat.le_refl _)]; simp⟩⟩
    intro e; exact h0 (by rw [(List.append_eq_nil_iff.1 e).2]; rfl)
theorem RdSl.elems {σ : Store} {sz : Nat} {es : List (List AV)} {x : AV} (h : RdSl σ sz es x) : slElems σ x = some es := by
  rcases h with (⟨rfl, rfl⟩ | ⟨ex, rfl⟩) | ⟨r, off, lim, o, rfl, hg, h1, h2⟩
  · rfl
  · rfl
  · rw [slElems_sl, hg]; simp only; rw [if_pos h1, h2]
end Am
end Go.Proofs.YthgcooppjhcgcaaDoor
end
section
set_option linter.unusedSimpArgs false
set_option linter.unusedVariables false
/- Ranges: contracts: slices.Equal, Valid, step, push. -/
set_option linter.unusedSimpArgs false
set_option linter.unusedVariables false
namespace Go.Proofs.YthgcooppjhcgcaaDoor
namespace Am
theorem take_hd {l : List Hash} {i : Nat} (h : i < l.length) : l.take (i + 1) = l.take i ++ [hd l i] := by
  rw [hd_get h]; exact (List.take_append_getElem h).symm
end Am
end Go.Proofs.YthgcooppjhcgcaaDoor
end
section
set_option linter.unusedSimpArgs false
set_option linter.unusedVariables false
/- Ranges: contracts: push. -/
set_option linter.unusedSimpArgs false
set_option linter.unusedVariables false
namespace Go.Proofs.YthgcooppjhcgcaaDoor
namespace Am
def Ext (σ σ' : Store) : Prop := ∃ news, σ' = σ ++ news
theorem Ext.refl (σ : Store) : Ext σ σ := ⟨[], by simp⟩
theorem Ext.app {σ σ' y : Store} (h : Ext σ σ') : Ext σ (σ' ++ y) := by
  obtain ⟨n, rfl⟩ := h
  exact ⟨n ++ y, by rw [List.append_assoc]⟩
theorem Ext.set {σ σ' : Store} {r : Nat} {x : Option AObj} (h : Ext σ σ') (hr : σ.length ≤ r) : Ext σ (σ'.set r x) := by
  obtain ⟨n, rfl⟩ := h
  exact ⟨n.set (r - σ.length) x, List.set_append_right _ _ hr⟩
theorem Ext.trans {σ σ' σ'' : Store} (h : Ext σ σ') (h' : Ext σ' σ'') : Ext σ σ'' := by
  obtain ⟨n, rfl⟩ := h
  obtain ⟨m, rfl⟩ := h'
  exact ⟨n ++ m, by rw [List.append_assoc]⟩
theorem Ext.le {σ σ' : Store} (h : Ext σ σ') : σ.length ≤ σ'.length := by
  obtain ⟨n, rfl⟩ := h; simp
end Am
end Go.Proofs.YthgcooppjhcgcaaDoor
end
section
set_option linter.unusedSimpArgs false
set_option linter.unusedVariables false
/- Ranges: contracts: Extend, Append, Of. -/
set_option linter.unusedSimpArgs false
set_option linter.unusedVariables false
namespace Go.Proofs.YthgcooppjhcgcaaDoor
namespace Am
/-- Nil if it was nil. -/
def knil (es : List (List AV)) : AV → AV
  | .nilsl => .nilsl
  | _ => .vsl 32 es false
theorem Ext.pure {σ σ' : Store} {v : AV} (hw : Wf σ.length σ) (h : Ext σ σ') (hv : RL σ.length v) : DownV σ.length v σ' v σ := by
  obtain ⟨n, rfl⟩ := h
  exact DownV.pure hw hv
/-- The hashes of a range that was gone on with: nil if it was nil, and nothing came. -/
def zv (x : AV) (first : Bool) (l : List Hash) : AV := if first then knil (hr l) x else .vsl 32 (hr l) false
attribute [local irreducible] ACallsTo ACallsP
end Am
end Go.Proofs.YthgcooppjhcgcaaDoor
end
section
set_option linter.unusedSimpArgs false
set_option linter.unusedVariables false
/- Rows: numbers, trees. (The laws are printed by wip/rows.py.) -/
set_option linter.unusedSimpArgs false
set_option linter.unusedVariables false
namespace Go.Proofs.YthgcooppjhcgcaaDoor
namespace Am
def numsR : Nat → List AV := fun n => [.int .i64 n]
def nums (l : List (Nat)) : List (List AV) := l.map numsR
@[go_sem] theorem nums_len (l : List (Nat)) : (nums l).length = l.length := by simp [nums]
@[go_sem] theorem nums_take (l : List (Nat)) (n : Nat) : (nums l).take n = nums (l.take n) := by simp [nums, List.map_take]
@[go_sem] theorem nums_drop (l : List (Nat)) (n : Nat) : (nums l).drop n = nums (l.drop n) := by simp [nums, List.map_drop]
@[go_sem] theorem nums_set (l : List (Nat)) (i : Nat) (x : Nat) : (nums l).set i (numsR x) = nums (l.set i x) := by simp [nums, List.map_set]
def numsD (l : List (Nat)) (i : Nat) : Nat := l.getD i 0
@[go_sem] theorem nums_get {l : List (Nat)} {i : Nat} (h : i < l.length) : (nums l)[i]? = some (numsR (numsD l i)) := by
  simp [nums, numsD, List.getElem?_map, List.getElem?_eq_getElem h]
def trsR : Nat × Hash → List AV := fun t => .int .i64 t.1 :: hc t.2
def trs (l : List (Nat × Hash)) : List (List AV) := l.map trsR
@[go_sem] theorem trs_len (l : List (Nat × Hash)) : (trs l).length = l.length := by simp [trs]
@[go_sem] theorem trs_take (l : List (Nat × Hash)) (n : Nat) : (trs l).take n = trs (l.take n) := by simp [trs, List.map_take]
@[go_sem] theorem trs_drop (l : List (Nat × Hash)) (n : Nat) : (trs l).drop n = trs (l.drop n) := by simp [trs, List.map_drop]
@[go_sem] theorem trs_set (l : List (Nat × Hash)) (i : Nat) (x : Nat × Hash) : (trs l).set i (trsR x) = trs (l.set i x) := by simp [trs, List.map_set]
def trsD (l : List (Nat × Hash)) (i : Nat) : Nat × Hash := l.getD i (0, zeroH)
@[go_sem] theorem trs_get {l : List (Nat × Hash)} {i : Nat} (h : i < l.length) : (trs l)[i]? = some (trsR (trsD l i)) := by
  simp [trs, trsD, List.getElem?_map, List.getElem?_eq_getElem h]
/-- All that is new is let go; what is read of a slice stays. -/
theorem RdSl.frz {sz : Nat} {τ news : Store} {v : AV} {es : List (List AV)} (h : RdSl (τ ++ news) sz es v) (hn : ∀ r off len lim e, v = .sl r off len lim e → τ.length ≤ r) (hr : RLss τ.length es) : ∃ v2, SlV sz es v2 ∧ DR (FrzD τ news) v2 v := by
  rcases h with (⟨rfl, rfl⟩ | ⟨ex, rfl⟩) | ⟨r, off, lim, o, rfl, hg, h1, h2⟩
  · exact ⟨.nilsl, .inl ⟨rfl, rfl⟩, by simp [DR]⟩
  · exact ⟨.vsl sz es ex, .inr ⟨ex, rfl⟩, FrzD.same (by simpa only [RL] using hr)⟩
  · exact ⟨.vsl sz es false, .inr ⟨false, rfl⟩, FrzD.sl (hn _ _ _ _ _ rfl) hg h1 h2 hr⟩
theorem Ext.all {σ σ' : Store} {v v2 : AV} (hw : Wf σ.length σ) (he : Ext σ σ') (h : ∀ news, σ' = σ ++ news → DR (FrzD σ news) v2 v) : DownV σ.length v σ' v2 σ := by
  obtain ⟨news, rfl⟩ := he
  exact DownV.all hw (h news rfl)
/-- Own elements in memory, from the k-th object on. -/
def OwnR (sz k : Nat) (σ' : Store) (v : AV) (es : List (List AV)) : Prop := (es = [] ∧ v = .nilsl) ∨ ∃ r, k ≤ r ∧ es ≠ [] ∧ v = .sl r 0 es.length none sz ∧ σ'[r]? = some (some es)
theorem OwnR.nil {sz k : Nat} {σ' : Store} : OwnR sz k σ' .nilsl [] := .inl ⟨rfl, rfl⟩
theorem OwnR.cells {sz k : Nat} {σ' : Store} {v : AV} {es : List (List AV)} (h : OwnR sz k σ' v es) : cellsOf v = some [v] := by
  rcases h with ⟨_, rfl⟩ | ⟨r, _, _, rfl, _⟩ <;> rfl
theorem OwnR.rd {sz k : Nat} {σ' : Store} {v : AV} {es : List (List AV)} (h : OwnR sz k σ' v es) : RdSl σ' sz es v := by
  rcases h with ⟨h, rfl⟩ | ⟨r, _, _, rfl, hg⟩
  · exact .inl (.inl ⟨rfl, h⟩)
  · exact .inr ⟨r, 0, none, es, rfl, hg, by omega, by simp⟩
theorem OwnR.len {sz k : Nat} {σ' : Store} {v : AV} {es : List (List AV)} (h : OwnR sz k σ' v es) : rLenSl v = some (.int .i64 es.length) := h.rd.len
theorem OwnR.set {sz k q : Nat} {σ' : Store} {v : AV} {es : List (List AV)} {x : Option AObj} (h : OwnR sz k σ' v es) (hq : q < k) : OwnR sz k (σ'.set q x) v es := by
  rcases h with h | ⟨r, h1, h2, h3, h4⟩
  · exact .inl h
  · exact .inr ⟨r, h1, h2, h3, by rw [gset_ne (by omega)]; exact h4⟩
theorem OwnR.more {sz k : Nat} {σ' y : Store} {v : AV} {es : List (List AV)} (h : OwnR sz k σ' v es) : OwnR sz k (σ' ++ y) v es := by
  rcases h with h | ⟨r, h1, h2, h3, h4⟩
  · exact .inl h
  · exact .inr ⟨r, h1, h2, h3, by rw [gapp (slen h4)]; exact h4⟩
theorem OwnR.app {sz k : Nat} {σ' : Store} {v : AV} {es ys : List (List AV)} (h : OwnR sz k σ' v es) (hk : k ≤ σ'.length) (h0 : ys.length ≠ 0) (hl : es.length + ys.length ≤ 1073741824) :
    ∃ v' σ2, aApp σ' sz v ys = some (v', σ2) ∧ OwnR sz k σ2 v' (es ++ ys) ∧ (∀ q, q < k → σ2[q]? = σ'[q]?) ∧ (∀ σ : Store, σ.length ≤ k → Ext σ σ' → Ext σ σ2) ∧ k ≤ σ2.length := by
  have hne : es ++ ys ≠ [] := fun e => h0 (by rw [(List.append_eq_nil_iff.1 e).2]; rfl)
  rcases h with ⟨rfl, rfl⟩ | ⟨r, h1, h2, rfl, hg⟩
  · refine ⟨.sl σ'.length 0 ys.length none sz, σ' ++ [some ys], by rw [app_n, if_neg h0, if_pos (by simpa using hl)], .inr ⟨σ'.length, hk, hne, by simp, by simp⟩, fun q hq => gapp (by omega), fun σ _ he => he.app, by simp; omega⟩
  · have hr := slen hg
    refine ⟨.sl σ'.length 0 (es.length + ys.length) none sz, σ'.set r none ++ [some (es ++ ys)], ?_, .inr ⟨σ'.length, hk, hne, by simp, by rw [gappr (by simp)]; simp⟩, fun q hq => by rw [gapp (by simp; omega), gset_ne (by omega)], fun σ hs he => (he.set (by omega)).app, by simp; omega⟩
    rw [app_s, if_neg h0, hg]
    simp only
    rw [if_pos ⟨trivial, by omega, by omega⟩, if_neg (by omega), List.drop_zero, List.take_of_length_le (Nat.le_refl _)]
theorem OwnR.frz {sz k : Nat} {τ news : Store} {v : AV} {es : List (List AV)} (h : OwnR sz k (τ ++ news) v es) (hk : τ.length ≤ k) (hr : RLss τ.length es) : DR (FrzD τ news) (slVal sz es) v := by
  unfold slVal
  rcases h with ⟨rfl, rfl⟩ | ⟨r, h1, h2, rfl, hg⟩
  · simp [DR]
  · rw [if_neg h2]
    exact FrzD.sl (by omega) hg (by omega) (by simp) hr
theorem OwnR.fr {sz k : Nat} {τ σ' news : Store} {v : AV} {es : List (List AV)} (h : OwnR sz k σ' v es) (e : σ' = τ ++ news) (hk : τ.length ≤ k) (hr : RLss τ.length es) : DR (FrzD τ news) (slVal sz es) v := by
  subst e; exact h.frz hk hr
end Am
end Go.Proofs.YthgcooppjhcgcaaDoor
end
section
set_option linter.unusedSimpArgs false
set_option linter.unusedVariables false
/- Ranges: contracts: the reference's open, join, close. -/
namespace Go.Proofs.YthgcooppjhcgcaaDoor
namespace Am
attribute [local irreducible] ACallsTo ACallsP
theorem OwnN.base {sz : Nat} {τ y σ' : Store} {v : AV} {es : List (List AV)} (h : OwnN sz (τ ++ y) σ' v es) : OwnN sz τ σ' v es := by
  obtain ⟨news, rfl, h⟩ := h
  refine ⟨y ++ news, by rw [List.append_assoc], ?_⟩
  rcases h with h | ⟨j, h0, rfl, hj⟩
  · exact .inl h
  · exact .inr ⟨y.length + j, h0, by rw [List.length_append]; congr 1; omega, by rw [List.getElem?_append_right (by omega), Nat.add_sub_cancel_left]; exact hj⟩
def hss (T : List (Nat × Hash)) : List Hash := T.map (·.2)
end Am
end Go.Proofs.YthgcooppjhcgcaaDoor
end
section
set_option linter.unusedSimpArgs false
set_option linter.unusedVariables false
/- Ranges: contracts: the reference's Extend. -/
namespace Go.Proofs.YthgcooppjhcgcaaDoor
namespace Am
attribute [local irreducible] ACallsTo ACallsP
theorem rl_slVal {k sz : Nat} {es : List (List AV)} (h : RLss k es) : RL k (slVal sz es) := by
  unfold slVal
  split
  · simp [RL]
  · simpa only [RL] using h
theorem slVal_r {sz : Nat} {es : List (List AV)} {σ : Store} : RdSl σ sz es (slVal sz es) := .of (slVal_is sz es)
end Am
end Go.Proofs.YthgcooppjhcgcaaDoor
end
section
set_option linter.unusedSimpArgs false
set_option linter.unusedVariables false
/- Ranges: contracts: Of, Append, Same, the parts, Part. -/
namespace Go.Proofs.YthgcooppjhcgcaaDoor
namespace Am
attribute [local irreducible] ACallsTo ACallsP
theorem slVal_cells {sz : Nat} {es : List (List AV)} : cellsOf (slVal sz es) = some [slVal sz es] := by
  unfold slVal; split <;> rfl
end Am
end Go.Proofs.YthgcooppjhcgcaaDoor
end
section
set_option linter.unusedSimpArgs false
set_option linter.unusedVariables false
/- Ranges: contracts: Part. -/
namespace Go.Proofs.YthgcooppjhcgcaaDoor
namespace Am
attribute [local irreducible] ACallsTo ACallsP
end Am
end Go.Proofs.YthgcooppjhcgcaaDoor
end
section
set_option linter.unusedSimpArgs false
set_option linter.unusedVariables false
/- Ranges: contracts: the reference's Of, the program's Merge. -/
namespace Go.Proofs.YthgcooppjhcgcaaDoor
namespace Am
attribute [local irreducible] ACallsTo ACallsP
theorem rl_z {k : Nat} {l : List Hash} {z : AV} (h : SlV 32 (hr l) z) : RL k z := by
  rcases h with ⟨rfl, _⟩ | ⟨ex, rfl⟩
  · simp [RL]
  · simp only [RL]; exact rlss_hr _
theorem slv_cells {sz : Nat} {es : List (List AV)} {z : AV} (h : SlV sz es z) : cellsOf z = some [z] := by
  rcases h with ⟨rfl, _⟩ | ⟨ex, rfl⟩ <;> rfl
end Am
end Go.Proofs.YthgcooppjhcgcaaDoor
end
section
set_option linter.unusedSimpArgs false
set_option linter.unusedVariables false
/- Ranges: the chapter's example. -/
namespace Go.Proofs.YthgcooppjhcgcaaDoor
namespace Am
attribute [local irreducible] ACallsTo ACallsP
end Am
end Go.Proofs.YthgcooppjhcgcaaDoor
end
section
set_option linter.unusedSimpArgs false
set_option linter.unusedVariables false
/- Ranges: the law RangesPart: its contract. -/
namespace Go.Proofs.YthgcooppjhcgcaaDoor
namespace Am
attribute [local irreducible] ACallsTo ACallsP
theorem hslC_h {cs : List AV} (h : ShC (.sl 32 hashTy) cs) : ∃ (l : List Hash) (a : AV), cs = [a] ∧ SlV 32 (hr l) a ∧ l.length ≤ maxLen := by
  simp only [ShC] at h
  rcases h with rfl | ⟨es, rfl, hl, _, h2⟩
  · exact ⟨[], .nilsl, rfl, .inl ⟨rfl, rfl⟩, Nat.zero_le _⟩
  · obtain ⟨hs, rfl, hH⟩ := hashes_of es h2
    obtain ⟨m, rfl⟩ := hb_of hH
    rw [hr_hb] at *
    exact ⟨m, _, rfl, .inr ⟨false, rfl⟩, by rwa [hr_len] at hl⟩
end Am
end Go.Proofs.YthgcooppjhcgcaaDoor
end
section
set_option linter.unusedSimpArgs false
set_option linter.unusedVariables false
/- Abstract code. (Printed by wip/gen.) -/
set_option maxRecDepth 10000
namespace Go.Proofs.YthgcooppjhcgcaaDoor
namespace Am



@[go_sem] def speculumref03_Num_r0 : List AIns := [
  ⟨some 2, none, .no, .mv (.v (.str []))⟩]
@[go_sem] def speculumref03_Num_r1 : List AIns := [
  ⟨some 3, none, .no, .mv (.t 0)⟩,
  ⟨some 4, none, .no, .bin .lss .none (.t 3) (.v (.int .u64 (128)))⟩]
@[go_sem] def speculumref03_Num_r2 : List AIns := [
  ⟨some 5, none, .no, .mv (.t 0)⟩,
  ⟨some 6, none, .no, .conv (.int .u8) (.t 5)⟩,
  ⟨some 7, none, .no, .lit 1 [(.t 6)]⟩,
  ⟨some 8, none, .no, .conv .str (.t 7)⟩,
  ⟨some 2, none, .no, .mv (.t 8)⟩]
def speculumref03_Num_c3 : ACode := .seq (.reg speculumref03_Num_r2) .ret
def speculumref03_Num_c4 : ACode := .cond (.t 4) speculumref03_Num_c3 .skip
def speculumref03_Num_c5 : ACode := .seq (.reg speculumref03_Num_r1) speculumref03_Num_c4
@[go_sem] def speculumref03_Num_r6 : List AIns := [
  ⟨some 9, none, .no, .mv (.t 0)⟩,
  ⟨some 10, none, .no, .bin .quo .none (.t 9) (.v (.int .u64 (128)))⟩,
  ⟨some 11, none, .same, .call (.v (.fn 150 [])) [(.t 10)]⟩,
  ⟨some 12, none, .no, .mv (.t 0)⟩,
  ⟨some 13, none, .no, .bin .rem .none (.t 12) (.v (.int .u64 (128)))⟩,
  ⟨some 14, none, .no, .conv (.int .u8) (.t 13)⟩,
  ⟨some 15, none, .no, .lit 1 [(.t 14)]⟩,
  ⟨some 16, none, .same, .conv .str (.t 15)⟩,
  ⟨some 17, none, .no, .bin .add .none (.t 11) (.t 16)⟩,
  ⟨some 2, none, .no, .mv (.t 17)⟩]
def speculumref03_Num_c7 : ACode := .seq (.reg speculumref03_Num_r6) .ret
def speculumref03_Num_c8 : ACode := .seq speculumref03_Num_c5 speculumref03_Num_c7
def speculumref03_Num_c9 : ACode := .seq (.reg speculumref03_Num_r0) speculumref03_Num_c8
theorem speculumref03_Num_ok : cFn TC 98 = some (18, [.t 2], speculumref03_Num_c9) := by kernel_rfl

@[go_sem] def speculumref03_Text_r0 : List AIns := [
  ⟨some 2, none, .no, .mv (.v (.str []))⟩]
@[go_sem] def speculumref03_Text_r1 : List AIns := [
  ⟨some 3, none, .no, .mv (.t 0)⟩,
  ⟨some 4, none, .no, .lenStr (.t 3)⟩,
  ⟨some 5, none, .no, .conv (.int .u64) (.t 4)⟩,
  ⟨some 6, none, .no, .call (.v (.fn 98 [])) [(.t 5)]⟩,
  ⟨some 7, none, .no, .mv (.t 0)⟩,
  ⟨some 8, none, .no, .bin .add .none (.t 6) (.t 7)⟩,
  ⟨some 2, none, .no, .mv (.t 8)⟩]
def speculumref03_Text_c2 : ACode := .seq (.reg speculumref03_Text_r1) .ret
def speculumref03_Text_c3 : ACode := .seq (.reg speculumref03_Text_r0) speculumref03_Text_c2
theorem speculumref03_Text_ok : cFn TC 100 = some (9, [.t 2], speculumref03_Text_c3) := by kernel_rfl

@[go_sem] def speculumref03_Hashes_r0 : List AIns := [
  ⟨some 2, none, .no, .mv (.v (.str []))⟩]
@[go_sem] def speculumref03_Hashes_r1 : List AIns := [
  ⟨some 5, none, .no, .mv (.t 0)⟩,
  ⟨some 6, none, .no, .lenSl (.t 5)⟩,
  ⟨some 7, none, .no, .bin .gtr .none (.t 6) (.v (.int .i64 (64)))⟩]
@[go_sem] def speculumref03_Hashes_r2 : List AIns := [
  ⟨some 2, none, .no, .mv (.v (.str []))⟩]
def speculumref03_Hashes_c3 : ACode := .seq (.reg speculumref03_Hashes_r2) .ret
def speculumref03_Hashes_c4 : ACode := .cond (.t 7) speculumref03_Hashes_c3 .skip
def speculumref03_Hashes_c5 : ACode := .seq (.reg speculumref03_Hashes_r1) speculumref03_Hashes_c4
@[go_sem] def speculumref03_Hashes_r6 : List AIns := [
  ⟨some 8, none, .no, .mv (.t 0)⟩,
  ⟨some 9, none, .no, .lenSl (.t 8)⟩,
  ⟨some 10, none, .no, .conv (.int .u64) (.t 9)⟩,
  ⟨some 11, none, .no, .call (.v (.fn 98 [])) [(.t 10)]⟩,
  ⟨some 3, none, .no, .mv (.t 11)⟩]
@[go_sem] def speculumref03_Hashes_r7 : List AIns := [
  ⟨some 4, none, .no, .mv (.v (.int .i64 (0)))⟩]
@[go_sem] def speculumref03_Hashes_r8 : List AIns := [
  ⟨some 12, none, .no, .mv (.t 4)⟩,
  ⟨some 13, none, .no, .mv (.t 0)⟩,
  ⟨some 14, none, .no, .lenSl (.t 13)⟩,
  ⟨some 15, none, .no, .bin .lss .none (.t 12) (.t 14)⟩]
def speculumref03_Hashes_c9 : ACode := .cond (.t 15) .skip (.exit 0)
def speculumref03_Hashes_c10 : ACode := .seq (.reg speculumref03_Hashes_r8) speculumref03_Hashes_c9
@[go_sem] def speculumref03_Hashes_r11 : List AIns := [
  ⟨some 18, none, .no, .mv (.t 3)⟩,
  ⟨some 19, none, .no, .mv (.t 0)⟩,
  ⟨some 20, none, .no, .mv (.t 4)⟩,
  ⟨some 21, none, .no, .iaSl 32 (.t 19) (.t 20)⟩,
  ⟨some 22, none, .no, .load true 32 (.t 21)⟩,
  ⟨some 23, none, .no, .call (.v (.fn 99 [])) [(.t 22)]⟩,
  ⟨some 24, none, .no, .bin .add .none (.t 18) (.t 23)⟩,
  ⟨some 3, none, .no, .mv (.t 24)⟩]
@[go_sem] def speculumref03_Hashes_r12 : List AIns := [
  ⟨some 16, none, .no, .mv (.t 4)⟩,
  ⟨some 17, none, .no, .bin .add .none (.t 16) (.v (.int .i64 (1)))⟩,
  ⟨some 4, none, .no, .mv (.t 17)⟩]
def speculumref03_Hashes_c13 : ACode := .seq (.block 1 (.reg speculumref03_Hashes_r11)) (.reg speculumref03_Hashes_r12)
def speculumref03_Hashes_c14 : ACode := .seq speculumref03_Hashes_c10 speculumref03_Hashes_c13
def speculumref03_Hashes_c15 : ACode := .loop speculumref03_Hashes_c14
def speculumref03_Hashes_c16 : ACode := .block 0 speculumref03_Hashes_c15
def speculumref03_Hashes_c17 : ACode := .seq (.reg speculumref03_Hashes_r7) speculumref03_Hashes_c16
@[go_sem] def speculumref03_Hashes_r18 : List AIns := [
  ⟨some 25, none, .no, .mv (.t 3)⟩,
  ⟨some 2, none, .no, .mv (.t 25)⟩]
def speculumref03_Hashes_c19 : ACode := .seq (.reg speculumref03_Hashes_r18) .ret
def speculumref03_Hashes_c20 : ACode := .seq speculumref03_Hashes_c17 speculumref03_Hashes_c19
def speculumref03_Hashes_c21 : ACode := .seq (.reg speculumref03_Hashes_r6) speculumref03_Hashes_c20
def speculumref03_Hashes_c22 : ACode := .seq speculumref03_Hashes_c5 speculumref03_Hashes_c21
def speculumref03_Hashes_c23 : ACode := .seq (.reg speculumref03_Hashes_r0) speculumref03_Hashes_c22
theorem speculumref03_Hashes_ok : cFn TC 101 = some (26, [.t 2], speculumref03_Hashes_c23) := by kernel_rfl

@[go_sem] def codec_Read_r0 : List AIns := [
  ⟨some 2, none, .no, .mv (.v (.int .u64 (0)))⟩,
  ⟨some 3, none, .no, .mv (.v (.str []))⟩,
  ⟨some 4, none, .no, .mv (.v (.bool false))⟩]
@[go_sem] def codec_Read_r1 : List AIns := [
  ⟨some 7, none, .no, .mv (.t 0)⟩,
  ⟨some 8, none, .no, .lenStr (.t 7)⟩,
  ⟨some 9, none, .no, .mv (.v (.int .i64 (0)))⟩]
@[go_sem] def codec_Read_r2 : List AIns := [
  ⟨some 10, none, .no, .bin .lss .none (.t 9) (.t 8)⟩]
@[go_sem] def codec_Read_r3 : List AIns := [
  ⟨some 11, none, .no, .mv (.t 9)⟩,
  ⟨some 5, none, .no, .mv (.t 11)⟩]
@[go_sem] def codec_Read_r4 : List AIns := [
  ⟨some 12, none, .no, .mv (.t 0)⟩,
  ⟨some 13, none, .no, .mv (.t 5)⟩,
  ⟨some 14, none, .no, .ixStr (.t 12) (.t 13)⟩,
  ⟨some 6, none, .no, .mv (.t 14)⟩]
@[go_sem] def codec_Read_r5 : List AIns := [
  ⟨some 15, none, .no, .mv (.t 2)⟩,
  ⟨some 16, none, .no, .bin .eql .none (.t 15) (.v (.int .u64 (0)))⟩,
  ⟨some 17, none, .no, .mv (.t 16)⟩,
  ⟨some 18, some (17, true), .no, .mv (.t 6)⟩,
  ⟨some 19, some (17, true), .no, .bin .eql .none (.t 18) (.v (.int .u8 (128)))⟩,
  ⟨some 20, none, .no, .pick (.t 17) (.t 19) (.v (.bool false))⟩,
  ⟨some 21, none, .no, .mv (.t 20)⟩,
  ⟨some 22, some (21, false), .no, .mv (.t 2)⟩,
  ⟨some 23, some (21, false), .no, .bin .geq .none (.t 22) (.v (.int .u64 (144115188075855872)))⟩,
  ⟨some 24, none, .no, .pick (.t 21) (.v (.bool true)) (.t 23)⟩]
def codec_Read_c6 : ACode := .cond (.t 24) (.exit 0) .skip
def codec_Read_c7 : ACode := .seq (.reg codec_Read_r5) codec_Read_c6
@[go_sem] def codec_Read_r8 : List AIns := [
  ⟨some 25, none, .no, .mv (.t 2)⟩,
  ⟨some 26, none, .no, .bin .shl .none (.t 25) (.v (.int .u64 (7)))⟩,
  ⟨some 27, none, .no, .mv (.t 6)⟩,
  ⟨some 28, none, .no, .bin .and .none (.t 27) (.v (.int .u8 (127)))⟩,
  ⟨some 29, none, .no, .conv (.int .u64) (.t 28)⟩,
  ⟨some 30, none, .no, .bin .or .none (.t 26) (.t 29)⟩,
  ⟨some 2, none, .no, .mv (.t 30)⟩]
@[go_sem] def codec_Read_r9 : List AIns := [
  ⟨some 31, none, .no, .mv (.t 6)⟩,
  ⟨some 32, none, .no, .bin .lss .none (.t 31) (.v (.int .u8 (128)))⟩]
@[go_sem] def codec_Read_r10 : List AIns := [
  ⟨some 33, none, .no, .mv (.t 2)⟩,
  ⟨some 34, none, .no, .mv (.t 0)⟩,
  ⟨some 35, none, .no, .mv (.t 5)⟩,
  ⟨some 36, none, .no, .bin .add .none (.t 35) (.v (.int .i64 (1)))⟩,
  ⟨some 37, none, .no, .slice .str (.t 34) (some (.t 36)) none none⟩,
  ⟨some 2, none, .no, .mv (.t 33)⟩,
  ⟨some 3, none, .no, .mv (.t 37)⟩,
  ⟨some 4, none, .no, .mv (.v (.bool true))⟩]
def codec_Read_c11 : ACode := .seq (.reg codec_Read_r10) .ret
def codec_Read_c12 : ACode := .cond (.t 32) codec_Read_c11 .skip
def codec_Read_c13 : ACode := .seq (.reg codec_Read_r9) codec_Read_c12
def codec_Read_c14 : ACode := .seq (.reg codec_Read_r8) codec_Read_c13
def codec_Read_c15 : ACode := .seq codec_Read_c7 codec_Read_c14
def codec_Read_c16 : ACode := .seq (.reg codec_Read_r4) codec_Read_c15
def codec_Read_c17 : ACode := .seq (.reg codec_Read_r3) codec_Read_c16
@[go_sem] def codec_Read_r18 : List AIns := [
  ⟨some 38, none, .no, .bin .add .none (.t 9) (.v (.int .i64 (1)))⟩,
  ⟨some 9, none, .no, .mv (.t 38)⟩]
def codec_Read_c19 : ACode := .seq (.block 1 codec_Read_c17) (.reg codec_Read_r18)
def codec_Read_c20 : ACode := .seq (.cond (.t 10) .skip (.exit 0)) codec_Read_c19
def codec_Read_c21 : ACode := .seq (.reg codec_Read_r2) codec_Read_c20
def codec_Read_c22 : ACode := .loop codec_Read_c21
def codec_Read_c23 : ACode := .block 0 codec_Read_c22
def codec_Read_c24 : ACode := .seq (.reg codec_Read_r1) codec_Read_c23
@[go_sem] def codec_Read_r25 : List AIns := [
  ⟨some 2, none, .no, .mv (.v (.int .u64 (0)))⟩,
  ⟨some 3, none, .no, .mv (.v (.str []))⟩,
  ⟨some 4, none, .no, .mv (.v (.bool false))⟩]
def codec_Read_c26 : ACode := .seq (.reg codec_Read_r25) .ret
def codec_Read_c27 : ACode := .seq codec_Read_c24 codec_Read_c26
def codec_Read_c28 : ACode := .seq (.reg codec_Read_r0) codec_Read_c27
theorem codec_Read_ok : cFn TC 102 = some (39, [.t 2, .t 3, .t 4], codec_Read_c28) := by kernel_rfl

@[go_sem] def codec_Unhash_r0 : List AIns := [
  ⟨some 2, none, .no, .alloc [(.int .u8 (0)), (.int .u8 (0)), (.int .u8 (0)), (.int .u8 (0)), (.int .u8 (0)), (.int .u8 (0)), (.int .u8 (0)), (.int .u8 (0)), (.int .u8 (0)), (.int .u8 (0)), (.int .u8 (0)), (.int .u8 (0)), (.int .u8 (0)), (.int .u8 (0)), (.int .u8 (0)), (.int .u8 (0)), (.int .u8 (0)), (.int .u8 (0)), (.int .u8 (0)), (.int .u8 (0)), (.int .u8 (0)), (.int .u8 (0)), (.int .u8 (0)), (.int .u8 (0)), (.int .u8 (0)), (.int .u8 (0)), (.int .u8 (0)), (.int .u8 (0)), (.int .u8 (0)), (.int .u8 (0)), (.int .u8 (0)), (.int .u8 (0))]⟩,
  ⟨some 3, none, .no, .mv (.v (.str []))⟩,
  ⟨some 4, none, .no, .mv (.v (.bool false))⟩]
@[go_sem] def codec_Unhash_r1 : List AIns := [
  ⟨some 7, none, .no, .mv (.t 0)⟩,
  ⟨some 8, none, .no, .call (.v (.fn 151 [])) [(.t 7), (.v (.int .u64 (32)))]⟩,
  ⟨some 6, none, .no, .mv (.t 8)⟩,
  ⟨some 9, none, .no, .ext 0 (.t 6)⟩,
  ⟨some 10, none, .no, .ext 1 (.t 6)⟩,
  ⟨some 11, none, .no, .ext 2 (.t 6)⟩,
  ⟨some 5, none, .no, .mv (.t 9)⟩,
  ⟨some 3, none, .no, .mv (.t 10)⟩,
  ⟨some 4, none, .no, .mv (.t 11)⟩]
@[go_sem] def codec_Unhash_r2 : List AIns := [
  ⟨some 12, none, .no, .slice (.arr 32 1) (.t 2) none none none⟩,
  ⟨some 13, none, .no, .mv (.t 5)⟩,
  ⟨some 14, none, .no, .copy 1 (.t 12) (.t 13)⟩]
@[go_sem] def codec_Unhash_r3 : List AIns := [
  ⟨some 15, none, .no, .load true 32 (.t 2)⟩,
  ⟨some 16, none, .no, .mv (.t 3)⟩,
  ⟨some 17, none, .no, .mv (.t 4)⟩,
  ⟨none, none, .no, .store 32 (.t 2) (.t 15)⟩,
  ⟨some 3, none, .no, .mv (.t 16)⟩,
  ⟨some 4, none, .no, .mv (.t 17)⟩]
def codec_Unhash_c4 : ACode := .seq (.reg codec_Unhash_r3) .ret
def codec_Unhash_c5 : ACode := .seq (.reg codec_Unhash_r2) codec_Unhash_c4
def codec_Unhash_c6 : ACode := .seq (.reg codec_Unhash_r1) codec_Unhash_c5
def codec_Unhash_c7 : ACode := .seq (.reg codec_Unhash_r0) codec_Unhash_c6
theorem codec_Unhash_ok : cFn TC 103 = some (18, [.c 2 true 32, .t 3, .t 4], codec_Unhash_c7) := by kernel_rfl

@[go_sem] def codec_Cut_r0 : List AIns := [
  ⟨some 2, none, .no, .mv (.v (.str []))⟩,
  ⟨some 3, none, .no, .mv (.v (.str []))⟩,
  ⟨some 4, none, .no, .mv (.v (.bool false))⟩]
@[go_sem] def codec_Cut_r1 : List AIns := [
  ⟨some 7, none, .no, .mv (.t 0)⟩,
  ⟨some 8, none, .no, .call (.v (.fn 102 [])) [(.t 7)]⟩,
  ⟨some 6, none, .no, .mv (.t 8)⟩,
  ⟨some 9, none, .no, .ext 0 (.t 6)⟩,
  ⟨some 10, none, .no, .ext 1 (.t 6)⟩,
  ⟨some 11, none, .no, .ext 2 (.t 6)⟩,
  ⟨some 5, none, .no, .mv (.t 9)⟩,
  ⟨some 3, none, .no, .mv (.t 10)⟩,
  ⟨some 4, none, .no, .mv (.t 11)⟩]
@[go_sem] def codec_Cut_r2 : List AIns := [
  ⟨some 12, none, .no, .mv (.t 4)⟩,
  ⟨some 13, none, .no, .un .not (.t 12)⟩]
@[go_sem] def codec_Cut_r3 : List AIns := [
  ⟨some 2, none, .no, .mv (.v (.str []))⟩,
  ⟨some 3, none, .no, .mv (.v (.str []))⟩,
  ⟨some 4, none, .no, .mv (.v (.bool false))⟩]
def codec_Cut_c4 : ACode := .seq (.reg codec_Cut_r3) .ret
def codec_Cut_c5 : ACode := .cond (.t 13) codec_Cut_c4 .skip
def codec_Cut_c6 : ACode := .seq (.reg codec_Cut_r2) codec_Cut_c5
@[go_sem] def codec_Cut_r7 : List AIns := [
  ⟨some 14, none, .no, .mv (.t 3)⟩,
  ⟨some 15, none, .no, .mv (.t 5)⟩,
  ⟨some 16, none, .no, .call (.v (.fn 151 [])) [(.t 14), (.t 15)]⟩,
  ⟨some 17, none, .no, .ext 0 (.t 16)⟩,
  ⟨some 18, none, .no, .ext 1 (.t 16)⟩,
  ⟨some 19, none, .no, .ext 2 (.t 16)⟩,
  ⟨some 2, none, .no, .mv (.t 17)⟩,
  ⟨some 3, none, .no, .mv (.t 18)⟩,
  ⟨some 4, none, .no, .mv (.t 19)⟩]
def codec_Cut_c8 : ACode := .seq (.reg codec_Cut_r7) .ret
def codec_Cut_c9 : ACode := .seq codec_Cut_c6 codec_Cut_c8
def codec_Cut_c10 : ACode := .seq (.reg codec_Cut_r1) codec_Cut_c9
def codec_Cut_c11 : ACode := .seq (.reg codec_Cut_r0) codec_Cut_c10
theorem codec_Cut_ok : cFn TC 104 = some (20, [.t 2, .t 3, .t 4], codec_Cut_c11) := by kernel_rfl

@[go_sem] def codec_Unhashes_r0 : List AIns := [
  ⟨some 2, none, .no, .mv (.v .nilsl)⟩,
  ⟨some 3, none, .no, .mv (.v (.str []))⟩,
  ⟨some 4, none, .no, .mv (.v (.bool false))⟩]
@[go_sem] def codec_Unhashes_r1 : List AIns := [
  ⟨some 10, none, .no, .mv (.t 0)⟩,
  ⟨some 11, none, .no, .call (.v (.fn 102 [])) [(.t 10)]⟩,
  ⟨some 9, none, .no, .mv (.t 11)⟩,
  ⟨some 12, none, .no, .ext 0 (.t 9)⟩,
  ⟨some 13, none, .no, .ext 1 (.t 9)⟩,
  ⟨some 14, none, .no, .ext 2 (.t 9)⟩,
  ⟨some 5, none, .no, .mv (.t 12)⟩,
  ⟨some 3, none, .no, .mv (.t 13)⟩,
  ⟨some 4, none, .no, .mv (.t 14)⟩]
@[go_sem] def codec_Unhashes_r2 : List AIns := [
  ⟨some 15, none, .no, .mv (.t 4)⟩,
  ⟨some 16, none, .no, .un .not (.t 15)⟩,
  ⟨some 17, none, .no, .mv (.t 16)⟩,
  ⟨some 18, some (17, false), .no, .mv (.t 5)⟩,
  ⟨some 19, some (17, false), .no, .bin .gtr .none (.t 18) (.v (.int .u64 (64)))⟩,
  ⟨some 20, none, .no, .pick (.t 17) (.v (.bool true)) (.t 19)⟩]
@[go_sem] def codec_Unhashes_r3 : List AIns := [
  ⟨some 2, none, .no, .mv (.v .nilsl)⟩,
  ⟨some 3, none, .no, .mv (.v (.str []))⟩,
  ⟨some 4, none, .no, .mv (.v (.bool false))⟩]
def codec_Unhashes_c4 : ACode := .seq (.reg codec_Unhashes_r3) .ret
def codec_Unhashes_c5 : ACode := .cond (.t 20) codec_Unhashes_c4 .skip
def codec_Unhashes_c6 : ACode := .seq (.reg codec_Unhashes_r2) codec_Unhashes_c5
@[go_sem] def codec_Unhashes_r7 : List AIns := [
  ⟨some 21, none, .no, .mv (.t 5)⟩,
  ⟨some 22, none, .no, .bin .gtr .none (.t 21) (.v (.int .u64 (0)))⟩]
def codec_Unhashes_c8 : ACode := .cond (.t 22) .skip (.exit 0)
def codec_Unhashes_c9 : ACode := .seq (.reg codec_Unhashes_r7) codec_Unhashes_c8
@[go_sem] def codec_Unhashes_r10 : List AIns := [
  ⟨some 26, none, .no, .mv (.t 3)⟩,
  ⟨some 27, none, .no, .call (.v (.fn 103 [])) [(.t 26)]⟩,
  ⟨some 25, none, .no, .mv (.t 27)⟩,
  ⟨some 28, none, .no, .ext 0 (.t 25)⟩,
  ⟨some 29, none, .no, .ext 1 (.t 25)⟩,
  ⟨some 30, none, .no, .ext 2 (.t 25)⟩,
  ⟨some 6, none, .no, .alloc [(.int .u8 (0)), (.int .u8 (0)), (.int .u8 (0)), (.int .u8 (0)), (.int .u8 (0)), (.int .u8 (0)), (.int .u8 (0)), (.int .u8 (0)), (.int .u8 (0)), (.int .u8 (0)), (.int .u8 (0)), (.int .u8 (0)), (.int .u8 (0)), (.int .u8 (0)), (.int .u8 (0)), (.int .u8 (0)), (.int .u8 (0)), (.int .u8 (0)), (.int .u8 (0)), (.int .u8 (0)), (.int .u8 (0)), (.int .u8 (0)), (.int .u8 (0)), (.int .u8 (0)), (.int .u8 (0)), (.int .u8 (0)), (.int .u8 (0)), (.int .u8 (0)), (.int .u8 (0)), (.int .u8 (0)), (.int .u8 (0)), (.int .u8 (0))]⟩,
  ⟨none, none, .no, .store 32 (.t 6) (.t 28)⟩,
  ⟨some 7, none, .no, .mv (.t 29)⟩,
  ⟨some 8, none, .no, .mv (.t 30)⟩]
@[go_sem] def codec_Unhashes_r11 : List AIns := [
  ⟨some 31, none, .no, .mv (.t 8)⟩,
  ⟨some 32, none, .no, .un .not (.t 31)⟩]
@[go_sem] def codec_Unhashes_r12 : List AIns := [
  ⟨some 2, none, .no, .mv (.v .nilsl)⟩,
  ⟨some 3, none, .no, .mv (.v (.str []))⟩,
  ⟨some 4, none, .no, .mv (.v (.bool false))⟩]
def codec_Unhashes_c13 : ACode := .seq (.reg codec_Unhashes_r12) .ret
def codec_Unhashes_c14 : ACode := .cond (.t 32) codec_Unhashes_c13 .skip
def codec_Unhashes_c15 : ACode := .seq (.reg codec_Unhashes_r11) codec_Unhashes_c14
@[go_sem] def codec_Unhashes_r16 : List AIns := [
  ⟨some 33, none, .no, .mv (.t 2)⟩,
  ⟨some 34, none, .no, .load true 32 (.t 6)⟩,
  ⟨some 35, none, .no, .lit 32 [(.t 34)]⟩,
  ⟨some 36, none, .no, .app 32 (.t 33) (.t 35)⟩,
  ⟨some 37, none, .no, .mv (.t 7)⟩,
  ⟨some 2, none, .no, .mv (.t 36)⟩,
  ⟨some 3, none, .no, .mv (.t 37)⟩]
def codec_Unhashes_c17 : ACode := .seq codec_Unhashes_c15 (.reg codec_Unhashes_r16)
def codec_Unhashes_c18 : ACode := .seq (.reg codec_Unhashes_r10) codec_Unhashes_c17
@[go_sem] def codec_Unhashes_r19 : List AIns := [
  ⟨some 23, none, .no, .mv (.t 5)⟩,
  ⟨some 24, none, .no, .bin .sub .none (.t 23) (.v (.int .u64 (1)))⟩,
  ⟨some 5, none, .no, .mv (.t 24)⟩]
def codec_Unhashes_c20 : ACode := .seq (.block 1 codec_Unhashes_c18) (.reg codec_Unhashes_r19)
def codec_Unhashes_c21 : ACode := .seq codec_Unhashes_c9 codec_Unhashes_c20
def codec_Unhashes_c22 : ACode := .loop codec_Unhashes_c21
@[go_sem] def codec_Unhashes_r23 : List AIns := [
  ⟨some 38, none, .no, .mv (.t 2)⟩,
  ⟨some 39, none, .no, .mv (.t 3)⟩,
  ⟨some 2, none, .no, .mv (.t 38)⟩,
  ⟨some 3, none, .no, .mv (.t 39)⟩,
  ⟨some 4, none, .no, .mv (.v (.bool true))⟩]
def codec_Unhashes_c24 : ACode := .seq (.reg codec_Unhashes_r23) .ret
def codec_Unhashes_c25 : ACode := .seq (.block 0 codec_Unhashes_c22) codec_Unhashes_c24
def codec_Unhashes_c26 : ACode := .seq codec_Unhashes_c6 codec_Unhashes_c25
def codec_Unhashes_c27 : ACode := .seq (.reg codec_Unhashes_r1) codec_Unhashes_c26
def codec_Unhashes_c28 : ACode := .seq (.reg codec_Unhashes_r0) codec_Unhashes_c27
theorem codec_Unhashes_ok : cFn TC 105 = some (40, [.t 2, .t 3, .t 4], codec_Unhashes_c28) := by kernel_rfl

@[go_sem] def speculumref03_Read_r0 : List AIns := [
  ⟨some 2, none, .no, .mv (.v (.int .u64 (0)))⟩,
  ⟨some 3, none, .no, .mv (.v (.str []))⟩,
  ⟨some 4, none, .no, .mv (.v (.bool false))⟩]
@[go_sem] def speculumref03_Read_r1 : List AIns := [
  ⟨some 5, none, .no, .mv (.v (.int .i64 (0)))⟩]
@[go_sem] def speculumref03_Read_r2 : List AIns := [
  ⟨some 8, none, .no, .mv (.t 5)⟩,
  ⟨some 9, none, .no, .mv (.t 0)⟩,
  ⟨some 10, none, .no, .lenStr (.t 9)⟩,
  ⟨some 11, none, .no, .bin .lss .none (.t 8) (.t 10)⟩,
  ⟨some 12, none, .no, .mv (.t 11)⟩,
  ⟨some 13, some (12, true), .no, .mv (.t 5)⟩,
  ⟨some 14, some (12, true), .no, .bin .lss .none (.t 13) (.v (.int .i64 (10)))⟩,
  ⟨some 15, none, .no, .pick (.t 12) (.t 14) (.v (.bool false))⟩,
  ⟨some 16, none, .no, .mv (.t 15)⟩,
  ⟨some 17, some (16, true), .no, .mv (.t 0)⟩,
  ⟨some 18, some (16, true), .no, .mv (.t 5)⟩,
  ⟨some 19, some (16, true), .no, .ixStr (.t 17) (.t 18)⟩,
  ⟨some 20, some (16, true), .no, .bin .geq .none (.t 19) (.v (.int .u8 (128)))⟩,
  ⟨some 21, none, .no, .pick (.t 16) (.t 20) (.v (.bool false))⟩]
def speculumref03_Read_c3 : ACode := .cond (.t 21) .skip (.exit 0)
def speculumref03_Read_c4 : ACode := .seq (.reg speculumref03_Read_r2) speculumref03_Read_c3
@[go_sem] def speculumref03_Read_r5 : List AIns := [
  ⟨some 22, none, .no, .mv (.t 5)⟩,
  ⟨some 23, none, .no, .bin .add .none (.t 22) (.v (.int .i64 (1)))⟩,
  ⟨some 5, none, .no, .mv (.t 23)⟩]
def speculumref03_Read_c6 : ACode := .block 1 (.reg speculumref03_Read_r5)
def speculumref03_Read_c7 : ACode := .seq speculumref03_Read_c4 speculumref03_Read_c6
def speculumref03_Read_c8 : ACode := .loop speculumref03_Read_c7
@[go_sem] def speculumref03_Read_r9 : List AIns := [
  ⟨some 24, none, .no, .mv (.t 5)⟩,
  ⟨some 25, none, .no, .mv (.t 0)⟩,
  ⟨some 26, none, .no, .lenStr (.t 25)⟩,
  ⟨some 27, none, .no, .bin .geq .none (.t 24) (.t 26)⟩,
  ⟨some 28, none, .no, .mv (.t 27)⟩,
  ⟨some 29, some (28, false), .no, .mv (.t 5)⟩,
  ⟨some 30, some (28, false), .no, .bin .gtr .none (.t 29) (.v (.int .i64 (9)))⟩,
  ⟨some 31, none, .no, .pick (.t 28) (.v (.bool true)) (.t 30)⟩]
@[go_sem] def speculumref03_Read_r10 : List AIns := [
  ⟨some 2, none, .no, .mv (.v (.int .u64 (0)))⟩,
  ⟨some 3, none, .no, .mv (.v (.str []))⟩,
  ⟨some 4, none, .no, .mv (.v (.bool false))⟩]
def speculumref03_Read_c11 : ACode := .seq (.reg speculumref03_Read_r10) .ret
def speculumref03_Read_c12 : ACode := .cond (.t 31) speculumref03_Read_c11 .skip
def speculumref03_Read_c13 : ACode := .seq (.reg speculumref03_Read_r9) speculumref03_Read_c12
@[go_sem] def speculumref03_Read_r14 : List AIns := [
  ⟨some 6, none, .no, .mv (.v (.int .u64 (0)))⟩]
@[go_sem] def speculumref03_Read_r15 : List AIns := [
  ⟨some 7, none, .no, .mv (.v (.int .i64 (0)))⟩]
@[go_sem] def speculumref03_Read_r16 : List AIns := [
  ⟨some 32, none, .no, .mv (.t 7)⟩,
  ⟨some 33, none, .no, .mv (.t 5)⟩,
  ⟨some 34, none, .no, .bin .leq .none (.t 32) (.t 33)⟩]
def speculumref03_Read_c17 : ACode := .cond (.t 34) .skip (.exit 2)
def speculumref03_Read_c18 : ACode := .seq (.reg speculumref03_Read_r16) speculumref03_Read_c17
@[go_sem] def speculumref03_Read_r19 : List AIns := [
  ⟨some 37, none, .no, .mv (.t 6)⟩,
  ⟨some 38, none, .no, .bin .mul .none (.t 37) (.v (.int .u64 (128)))⟩,
  ⟨some 39, none, .no, .mv (.t 0)⟩,
  ⟨some 40, none, .no, .mv (.t 7)⟩,
  ⟨some 41, none, .no, .ixStr (.t 39) (.t 40)⟩,
  ⟨some 42, none, .no, .bin .rem .none (.t 41) (.v (.int .u8 (128)))⟩,
  ⟨some 43, none, .no, .conv (.int .u64) (.t 42)⟩,
  ⟨some 44, none, .no, .bin .add .none (.t 38) (.t 43)⟩,
  ⟨some 6, none, .no, .mv (.t 44)⟩]
@[go_sem] def speculumref03_Read_r20 : List AIns := [
  ⟨some 35, none, .no, .mv (.t 7)⟩,
  ⟨some 36, none, .no, .bin .add .none (.t 35) (.v (.int .i64 (1)))⟩,
  ⟨some 7, none, .no, .mv (.t 36)⟩]
def speculumref03_Read_c21 : ACode := .seq (.block 3 (.reg speculumref03_Read_r19)) (.reg speculumref03_Read_r20)
def speculumref03_Read_c22 : ACode := .seq speculumref03_Read_c18 speculumref03_Read_c21
def speculumref03_Read_c23 : ACode := .loop speculumref03_Read_c22
def speculumref03_Read_c24 : ACode := .block 2 speculumref03_Read_c23
def speculumref03_Read_c25 : ACode := .seq (.reg speculumref03_Read_r15) speculumref03_Read_c24
@[go_sem] def speculumref03_Read_r26 : List AIns := [
  ⟨some 45, none, .no, .mv (.t 6)⟩,
  ⟨some 46, none, .no, .call (.v (.fn 98 [])) [(.t 45)]⟩,
  ⟨some 47, none, .no, .mv (.t 0)⟩,
  ⟨some 48, none, .no, .mv (.t 5)⟩,
  ⟨some 49, none, .no, .bin .add .none (.t 48) (.v (.int .i64 (1)))⟩,
  ⟨some 50, none, .no, .slice .str (.t 47) none (some (.t 49)) none⟩,
  ⟨some 51, none, .no, .bin .neq .none (.t 46) (.t 50)⟩]
@[go_sem] def speculumref03_Read_r27 : List AIns := [
  ⟨some 2, none, .no, .mv (.v (.int .u64 (0)))⟩,
  ⟨some 3, none, .no, .mv (.v (.str []))⟩,
  ⟨some 4, none, .no, .mv (.v (.bool false))⟩]
def speculumref03_Read_c28 : ACode := .seq (.reg speculumref03_Read_r27) .ret
def speculumref03_Read_c29 : ACode := .cond (.t 51) speculumref03_Read_c28 .skip
def speculumref03_Read_c30 : ACode := .seq (.reg speculumref03_Read_r26) speculumref03_Read_c29
@[go_sem] def speculumref03_Read_r31 : List AIns := [
  ⟨some 52, none, .no, .mv (.t 6)⟩,
  ⟨some 53, none, .no, .mv (.t 0)⟩,
  ⟨some 54, none, .no, .mv (.t 5)⟩,
  ⟨some 55, none, .no, .bin .add .none (.t 54) (.v (.int .i64 (1)))⟩,
  ⟨some 56, none, .no, .slice .str (.t 53) (some (.t 55)) none none⟩,
  ⟨some 2, none, .no, .mv (.t 52)⟩,
  ⟨some 3, none, .no, .mv (.t 56)⟩,
  ⟨some 4, none, .no, .mv (.v (.bool true))⟩]
def speculumref03_Read_c32 : ACode := .seq (.reg speculumref03_Read_r31) .ret
def speculumref03_Read_c33 : ACode := .seq speculumref03_Read_c30 speculumref03_Read_c32
def speculumref03_Read_c34 : ACode := .seq speculumref03_Read_c25 speculumref03_Read_c33
def speculumref03_Read_c35 : ACode := .seq (.reg speculumref03_Read_r14) speculumref03_Read_c34
def speculumref03_Read_c36 : ACode := .seq speculumref03_Read_c13 speculumref03_Read_c35
def speculumref03_Read_c37 : ACode := .seq (.block 0 speculumref03_Read_c8) speculumref03_Read_c36
def speculumref03_Read_c38 : ACode := .seq (.reg speculumref03_Read_r1) speculumref03_Read_c37
def speculumref03_Read_c39 : ACode := .seq (.reg speculumref03_Read_r0) speculumref03_Read_c38
theorem speculumref03_Read_ok : cFn TC 107 = some (57, [.t 2, .t 3, .t 4], speculumref03_Read_c39) := by kernel_rfl

@[go_sem] def speculumref03_Unhash_r0 : List AIns := [
  ⟨some 2, none, .no, .alloc [(.int .u8 (0)), (.int .u8 (0)), (.int .u8 (0)), (.int .u8 (0)), (.int .u8 (0)), (.int .u8 (0)), (.int .u8 (0)), (.int .u8 (0)), (.int .u8 (0)), (.int .u8 (0)), (.int .u8 (0)), (.int .u8 (0)), (.int .u8 (0)), (.int .u8 (0)), (.int .u8 (0)), (.int .u8 (0)), (.int .u8 (0)), (.int .u8 (0)), (.int .u8 (0)), (.int .u8 (0)), (.int .u8 (0)), (.int .u8 (0)), (.int .u8 (0)), (.int .u8 (0)), (.int .u8 (0)), (.int .u8 (0)), (.int .u8 (0)), (.int .u8 (0)), (.int .u8 (0)), (.int .u8 (0)), (.int .u8 (0)), (.int .u8 (0))]⟩,
  ⟨some 3, none, .no, .mv (.v (.str []))⟩,
  ⟨some 4, none, .no, .mv (.v (.bool false))⟩]
@[go_sem] def speculumref03_Unhash_r1 : List AIns := [
  ⟨some 5, none, .no, .alloc [(.int .u8 (0)), (.int .u8 (0)), (.int .u8 (0)), (.int .u8 (0)), (.int .u8 (0)), (.int .u8 (0)), (.int .u8 (0)), (.int .u8 (0)), (.int .u8 (0)), (.int .u8 (0)), (.int .u8 (0)), (.int .u8 (0)), (.int .u8 (0)), (.int .u8 (0)), (.int .u8 (0)), (.int .u8 (0)), (.int .u8 (0)), (.int .u8 (0)), (.int .u8 (0)), (.int .u8 (0)), (.int .u8 (0)), (.int .u8 (0)), (.int .u8 (0)), (.int .u8 (0)), (.int .u8 (0)), (.int .u8 (0)), (.int .u8 (0)), (.int .u8 (0)), (.int .u8 (0)), (.int .u8 (0)), (.int .u8 (0)), (.int .u8 (0))]⟩]
@[go_sem] def speculumref03_Unhash_r2 : List AIns := [
  ⟨some 7, none, .no, .mv (.t 0)⟩,
  ⟨some 8, none, .no, .lenStr (.t 7)⟩,
  ⟨some 9, none, .no, .bin .lss .none (.t 8) (.v (.int .i64 (32)))⟩]
@[go_sem] def speculumref03_Unhash_r3 : List AIns := [
  ⟨some 10, none, .no, .load true 32 (.t 5)⟩,
  ⟨none, none, .no, .store 32 (.t 2) (.t 10)⟩,
  ⟨some 3, none, .no, .mv (.v (.str []))⟩,
  ⟨some 4, none, .no, .mv (.v (.bool false))⟩]
def speculumref03_Unhash_c4 : ACode := .seq (.reg speculumref03_Unhash_r3) .ret
def speculumref03_Unhash_c5 : ACode := .cond (.t 9) speculumref03_Unhash_c4 .skip
def speculumref03_Unhash_c6 : ACode := .seq (.reg speculumref03_Unhash_r2) speculumref03_Unhash_c5
@[go_sem] def speculumref03_Unhash_r7 : List AIns := [
  ⟨some 6, none, .no, .mv (.v (.int .i64 (0)))⟩]
@[go_sem] def speculumref03_Unhash_r8 : List AIns := [
  ⟨some 11, none, .no, .mv (.t 6)⟩,
  ⟨some 12, none, .no, .bin .lss .none (.t 11) (.v (.int .i64 (32)))⟩]
def speculumref03_Unhash_c9 : ACode := .cond (.t 12) .skip (.exit 0)
def speculumref03_Unhash_c10 : ACode := .seq (.reg speculumref03_Unhash_r8) speculumref03_Unhash_c9
@[go_sem] def speculumref03_Unhash_r11 : List AIns := [
  ⟨some 15, none, .no, .mv (.t 6)⟩,
  ⟨some 16, none, .no, .mv (.t 0)⟩,
  ⟨some 17, none, .no, .mv (.t 6)⟩,
  ⟨some 18, none, .no, .ixStr (.t 16) (.t 17)⟩,
  ⟨some 19, none, .no, .iaArr 32 1 (.t 5) (.t 15)⟩,
  ⟨none, none, .no, .store 1 (.t 19) (.t 18)⟩]
@[go_sem] def speculumref03_Unhash_r12 : List AIns := [
  ⟨some 13, none, .no, .mv (.t 6)⟩,
  ⟨some 14, none, .no, .bin .add .none (.t 13) (.v (.int .i64 (1)))⟩,
  ⟨some 6, none, .no, .mv (.t 14)⟩]
def speculumref03_Unhash_c13 : ACode := .seq (.block 1 (.reg speculumref03_Unhash_r11)) (.reg speculumref03_Unhash_r12)
def speculumref03_Unhash_c14 : ACode := .seq speculumref03_Unhash_c10 speculumref03_Unhash_c13
def speculumref03_Unhash_c15 : ACode := .loop speculumref03_Unhash_c14
def speculumref03_Unhash_c16 : ACode := .block 0 speculumref03_Unhash_c15
def speculumref03_Unhash_c17 : ACode := .seq (.reg speculumref03_Unhash_r7) speculumref03_Unhash_c16
@[go_sem] def speculumref03_Unhash_r18 : List AIns := [
  ⟨some 20, none, .no, .load true 32 (.t 5)⟩,
  ⟨some 21, none, .no, .mv (.t 0)⟩,
  ⟨some 22, none, .no, .slice .str (.t 21) (some (.v (.int .i64 (32)))) none none⟩,
  ⟨none, none, .no, .store 32 (.t 2) (.t 20)⟩,
  ⟨some 3, none, .no, .mv (.t 22)⟩,
  ⟨some 4, none, .no, .mv (.v (.bool true))⟩]
def speculumref03_Unhash_c19 : ACode := .seq (.reg speculumref03_Unhash_r18) .ret
def speculumref03_Unhash_c20 : ACode := .seq speculumref03_Unhash_c17 speculumref03_Unhash_c19
def speculumref03_Unhash_c21 : ACode := .seq speculumref03_Unhash_c6 speculumref03_Unhash_c20
def speculumref03_Unhash_c22 : ACode := .seq (.reg speculumref03_Unhash_r1) speculumref03_Unhash_c21
def speculumref03_Unhash_c23 : ACode := .seq (.reg speculumref03_Unhash_r0) speculumref03_Unhash_c22
theorem speculumref03_Unhash_ok : cFn TC 108 = some (23, [.c 2 true 32, .t 3, .t 4], speculumref03_Unhash_c23) := by kernel_rfl

@[go_sem] def speculumref03_Cut_r0 : List AIns := [
  ⟨some 2, none, .no, .mv (.v (.str []))⟩,
  ⟨some 3, none, .no, .mv (.v (.str []))⟩,
  ⟨some 4, none, .no, .mv (.v (.bool false))⟩]
@[go_sem] def speculumref03_Cut_r1 : List AIns := [
  ⟨some 9, none, .no, .mv (.t 0)⟩,
  ⟨some 10, none, .no, .call (.v (.fn 107 [])) [(.t 9)]⟩,
  ⟨some 8, none, .no, .mv (.t 10)⟩,
  ⟨some 11, none, .no, .ext 0 (.t 8)⟩,
  ⟨some 12, none, .no, .ext 1 (.t 8)⟩,
  ⟨some 13, none, .no, .ext 2 (.t 8)⟩,
  ⟨some 5, none, .no, .mv (.t 11)⟩,
  ⟨some 6, none, .no, .mv (.t 12)⟩,
  ⟨some 7, none, .no, .mv (.t 13)⟩]
@[go_sem] def speculumref03_Cut_r2 : List AIns := [
  ⟨some 14, none, .no, .mv (.t 7)⟩,
  ⟨some 15, none, .no, .un .not (.t 14)⟩,
  ⟨some 16, none, .no, .mv (.t 15)⟩,
  ⟨some 17, some (16, false), .no, .mv (.t 5)⟩,
  ⟨some 18, some (16, false), .no, .mv (.t 6)⟩,
  ⟨some 19, some (16, false), .no, .lenStr (.t 18)⟩,
  ⟨some 20, some (16, false), .no, .conv (.int .u64) (.t 19)⟩,
  ⟨some 21, some (16, false), .no, .bin .gtr .none (.t 17) (.t 20)⟩,
  ⟨some 22, none, .no, .pick (.t 16) (.v (.bool true)) (.t 21)⟩]
@[go_sem] def speculumref03_Cut_r3 : List AIns := [
  ⟨some 2, none, .no, .mv (.v (.str []))⟩,
  ⟨some 3, none, .no, .mv (.v (.str []))⟩,
  ⟨some 4, none, .no, .mv (.v (.bool false))⟩]
def speculumref03_Cut_c4 : ACode := .seq (.reg speculumref03_Cut_r3) .ret
def speculumref03_Cut_c5 : ACode := .cond (.t 22) speculumref03_Cut_c4 .skip
def speculumref03_Cut_c6 : ACode := .seq (.reg speculumref03_Cut_r2) speculumref03_Cut_c5
@[go_sem] def speculumref03_Cut_r7 : List AIns := [
  ⟨some 23, none, .no, .mv (.t 6)⟩,
  ⟨some 24, none, .no, .mv (.t 5)⟩,
  ⟨some 25, none, .no, .conv (.int .i64) (.t 24)⟩,
  ⟨some 26, none, .no, .slice .str (.t 23) none (some (.t 25)) none⟩,
  ⟨some 27, none, .no, .mv (.t 6)⟩,
  ⟨some 28, none, .no, .mv (.t 5)⟩,
  ⟨some 29, none, .no, .conv (.int .i64) (.t 28)⟩,
  ⟨some 30, none, .no, .slice .str (.t 27) (some (.t 29)) none none⟩,
  ⟨some 2, none, .no, .mv (.t 26)⟩,
  ⟨some 3, none, .no, .mv (.t 30)⟩,
  ⟨some 4, none, .no, .mv (.v (.bool true))⟩]
def speculumref03_Cut_c8 : ACode := .seq (.reg speculumref03_Cut_r7) .ret
def speculumref03_Cut_c9 : ACode := .seq speculumref03_Cut_c6 speculumref03_Cut_c8
def speculumref03_Cut_c10 : ACode := .seq (.reg speculumref03_Cut_r1) speculumref03_Cut_c9
def speculumref03_Cut_c11 : ACode := .seq (.reg speculumref03_Cut_r0) speculumref03_Cut_c10
theorem speculumref03_Cut_ok : cFn TC 109 = some (31, [.t 2, .t 3, .t 4], speculumref03_Cut_c11) := by kernel_rfl

@[go_sem] def speculumref03_Unhashes_r0 : List AIns := [
  ⟨some 2, none, .no, .mv (.v .nilsl)⟩,
  ⟨some 3, none, .no, .mv (.v (.str []))⟩,
  ⟨some 4, none, .no, .mv (.v (.bool false))⟩]
@[go_sem] def speculumref03_Unhashes_r1 : List AIns := [
  ⟨some 14, none, .no, .mv (.t 0)⟩,
  ⟨some 15, none, .no, .call (.v (.fn 107 [])) [(.t 14)]⟩,
  ⟨some 13, none, .no, .mv (.t 15)⟩,
  ⟨some 16, none, .no, .ext 0 (.t 13)⟩,
  ⟨some 17, none, .no, .ext 1 (.t 13)⟩,
  ⟨some 18, none, .no, .ext 2 (.t 13)⟩,
  ⟨some 5, none, .no, .mv (.t 16)⟩,
  ⟨some 6, none, .no, .mv (.t 17)⟩,
  ⟨some 7, none, .no, .mv (.t 18)⟩]
@[go_sem] def speculumref03_Unhashes_r2 : List AIns := [
  ⟨some 19, none, .no, .mv (.t 7)⟩,
  ⟨some 20, none, .no, .un .not (.t 19)⟩,
  ⟨some 21, none, .no, .mv (.t 20)⟩,
  ⟨some 22, some (21, false), .no, .mv (.t 5)⟩,
  ⟨some 23, some (21, false), .no, .bin .gtr .none (.t 22) (.v (.int .u64 (64)))⟩,
  ⟨some 24, none, .no, .pick (.t 21) (.v (.bool true)) (.t 23)⟩,
  ⟨some 25, none, .no, .mv (.t 24)⟩,
  ⟨some 26, some (25, false), .no, .mv (.t 6)⟩,
  ⟨some 27, some (25, false), .no, .lenStr (.t 26)⟩,
  ⟨some 28, some (25, false), .no, .conv (.int .u64) (.t 27)⟩,
  ⟨some 29, some (25, false), .no, .mv (.t 5)⟩,
  ⟨some 30, some (25, false), .no, .bin .mul .none (.v (.int .u64 (32))) (.t 29)⟩,
  ⟨some 31, some (25, false), .no, .bin .lss .none (.t 28) (.t 30)⟩,
  ⟨some 32, none, .no, .pick (.t 25) (.v (.bool true)) (.t 31)⟩]
@[go_sem] def speculumref03_Unhashes_r3 : List AIns := [
  ⟨some 2, none, .no, .mv (.v .nilsl)⟩,
  ⟨some 3, none, .no, .mv (.v (.str []))⟩,
  ⟨some 4, none, .no, .mv (.v (.bool false))⟩]
def speculumref03_Unhashes_c4 : ACode := .seq (.reg speculumref03_Unhashes_r3) .ret
def speculumref03_Unhashes_c5 : ACode := .cond (.t 32) speculumref03_Unhashes_c4 .skip
def speculumref03_Unhashes_c6 : ACode := .seq (.reg speculumref03_Unhashes_r2) speculumref03_Unhashes_c5
@[go_sem] def speculumref03_Unhashes_r7 : List AIns := [
  ⟨some 8, none, .no, .mv (.v .nilsl)⟩]
@[go_sem] def speculumref03_Unhashes_r8 : List AIns := [
  ⟨some 9, none, .no, .mv (.v (.int .i64 (0)))⟩]
@[go_sem] def speculumref03_Unhashes_r9 : List AIns := [
  ⟨some 33, none, .no, .mv (.t 9)⟩,
  ⟨some 34, none, .no, .mv (.t 5)⟩,
  ⟨some 35, none, .no, .conv (.int .i64) (.t 34)⟩,
  ⟨some 36, none, .no, .bin .lss .none (.t 33) (.t 35)⟩]
def speculumref03_Unhashes_c10 : ACode := .cond (.t 36) .skip (.exit 0)
def speculumref03_Unhashes_c11 : ACode := .seq (.reg speculumref03_Unhashes_r9) speculumref03_Unhashes_c10
@[go_sem] def speculumref03_Unhashes_r12 : List AIns := [
  ⟨some 40, none, .no, .mv (.t 6)⟩,
  ⟨some 41, none, .no, .call (.v (.fn 108 [])) [(.t 40)]⟩,
  ⟨some 39, none, .no, .mv (.t 41)⟩,
  ⟨some 42, none, .no, .ext 0 (.t 39)⟩,
  ⟨some 43, none, .no, .ext 1 (.t 39)⟩,
  ⟨some 44, none, .no, .ext 2 (.t 39)⟩,
  ⟨some 10, none, .no, .alloc [(.int .u8 (0)), (.int .u8 (0)), (.int .u8 (0)), (.int .u8 (0)), (.int .u8 (0)), (.int .u8 (0)), (.int .u8 (0)), (.int .u8 (0)), (.int .u8 (0)), (.int .u8 (0)), (.int .u8 (0)), (.int .u8 (0)), (.int .u8 (0)), (.int .u8 (0)), (.int .u8 (0)), (.int .u8 (0)), (.int .u8 (0)), (.int .u8 (0)), (.int .u8 (0)), (.int .u8 (0)), (.int .u8 (0)), (.int .u8 (0)), (.int .u8 (0)), (.int .u8 (0)), (.int .u8 (0)), (.int .u8 (0)), (.int .u8 (0)), (.int .u8 (0)), (.int .u8 (0)), (.int .u8 (0)), (.int .u8 (0)), (.int .u8 (0))]⟩,
  ⟨none, none, .no, .store 32 (.t 10) (.t 42)⟩,
  ⟨some 11, none, .no, .mv (.t 43)⟩,
  ⟨some 12, none, .no, .mv (.t 44)⟩]
@[go_sem] def speculumref03_Unhashes_r13 : List AIns := [
  ⟨some 45, none, .no, .mv (.t 8)⟩,
  ⟨some 46, none, .no, .load true 32 (.t 10)⟩,
  ⟨some 47, none, .no, .lit 32 [(.t 46)]⟩,
  ⟨some 48, none, .no, .app 32 (.t 45) (.t 47)⟩,
  ⟨some 49, none, .no, .mv (.t 11)⟩,
  ⟨some 8, none, .no, .mv (.t 48)⟩,
  ⟨some 6, none, .no, .mv (.t 49)⟩]
def speculumref03_Unhashes_c14 : ACode := .seq (.reg speculumref03_Unhashes_r12) (.reg speculumref03_Unhashes_r13)
@[go_sem] def speculumref03_Unhashes_r15 : List AIns := [
  ⟨some 37, none, .no, .mv (.t 9)⟩,
  ⟨some 38, none, .no, .bin .add .none (.t 37) (.v (.int .i64 (1)))⟩,
  ⟨some 9, none, .no, .mv (.t 38)⟩]
def speculumref03_Unhashes_c16 : ACode := .seq (.block 1 speculumref03_Unhashes_c14) (.reg speculumref03_Unhashes_r15)
def speculumref03_Unhashes_c17 : ACode := .seq speculumref03_Unhashes_c11 speculumref03_Unhashes_c16
def speculumref03_Unhashes_c18 : ACode := .loop speculumref03_Unhashes_c17
def speculumref03_Unhashes_c19 : ACode := .block 0 speculumref03_Unhashes_c18
def speculumref03_Unhashes_c20 : ACode := .seq (.reg speculumref03_Unhashes_r8) speculumref03_Unhashes_c19
@[go_sem] def speculumref03_Unhashes_r21 : List AIns := [
  ⟨some 50, none, .no, .mv (.t 8)⟩,
  ⟨some 51, none, .no, .mv (.t 6)⟩,
  ⟨some 2, none, .no, .mv (.t 50)⟩,
  ⟨some 3, none, .no, .mv (.t 51)⟩,
  ⟨some 4, none, .no, .mv (.v (.bool true))⟩]
def speculumref03_Unhashes_c22 : ACode := .seq (.reg speculumref03_Unhashes_r21) .ret
def speculumref03_Unhashes_c23 : ACode := .seq speculumref03_Unhashes_c20 speculumref03_Unhashes_c22
def speculumref03_Unhashes_c24 : ACode := .seq (.reg speculumref03_Unhashes_r7) speculumref03_Unhashes_c23
def speculumref03_Unhashes_c25 : ACode := .seq speculumref03_Unhashes_c6 speculumref03_Unhashes_c24
def speculumref03_Unhashes_c26 : ACode := .seq (.reg speculumref03_Unhashes_r1) speculumref03_Unhashes_c25
def speculumref03_Unhashes_c27 : ACode := .seq (.reg speculumref03_Unhashes_r0) speculumref03_Unhashes_c26
theorem speculumref03_Unhashes_ok : cFn TC 110 = some (52, [.t 2, .t 3, .t 4], speculumref03_Unhashes_c27) := by kernel_rfl

@[go_sem] def codec_Num_r0 : List AIns := [
  ⟨some 2, none, .no, .mv (.v (.str []))⟩]
@[go_sem] def codec_Num_r1 : List AIns := [
  ⟨some 4, none, .no, .mv (.t 0)⟩,
  ⟨some 5, none, .no, .bin .rem .none (.t 4) (.v (.int .u64 (128)))⟩,
  ⟨some 6, none, .no, .conv (.int .u8) (.t 5)⟩,
  ⟨some 7, none, .no, .lit 1 [(.t 6)]⟩,
  ⟨some 3, none, .no, .mv (.t 7)⟩]
@[go_sem] def codec_Num_r2 : List AIns := [
  ⟨some 8, none, .no, .mv (.t 0)⟩,
  ⟨some 9, none, .no, .bin .quo .none (.t 8) (.v (.int .u64 (128)))⟩,
  ⟨some 0, none, .no, .mv (.t 9)⟩]
@[go_sem] def codec_Num_r3 : List AIns := [
  ⟨some 10, none, .no, .mv (.t 0)⟩,
  ⟨some 11, none, .no, .bin .gtr .none (.t 10) (.v (.int .u64 (0)))⟩]
def codec_Num_c4 : ACode := .cond (.t 11) .skip (.exit 0)
def codec_Num_c5 : ACode := .seq (.reg codec_Num_r3) codec_Num_c4
@[go_sem] def codec_Num_r6 : List AIns := [
  ⟨some 14, none, .no, .mv (.t 0)⟩,
  ⟨some 15, none, .no, .bin .rem .none (.t 14) (.v (.int .u64 (128)))⟩,
  ⟨some 16, none, .no, .conv (.int .u8) (.t 15)⟩,
  ⟨some 17, none, .no, .bin .or .none (.t 16) (.v (.int .u8 (128)))⟩,
  ⟨some 18, none, .no, .lit 1 [(.t 17)]⟩,
  ⟨some 19, none, .no, .mv (.t 3)⟩,
  ⟨some 20, none, .no, .appB (.t 18) (.t 19)⟩,
  ⟨some 3, none, .no, .mv (.t 20)⟩]
@[go_sem] def codec_Num_r7 : List AIns := [
  ⟨some 12, none, .no, .mv (.t 0)⟩,
  ⟨some 13, none, .no, .bin .quo .none (.t 12) (.v (.int .u64 (128)))⟩,
  ⟨some 0, none, .no, .mv (.t 13)⟩]
def codec_Num_c8 : ACode := .seq (.block 1 (.reg codec_Num_r6)) (.reg codec_Num_r7)
def codec_Num_c9 : ACode := .seq codec_Num_c5 codec_Num_c8
def codec_Num_c10 : ACode := .loop codec_Num_c9
def codec_Num_c11 : ACode := .block 0 codec_Num_c10
def codec_Num_c12 : ACode := .seq (.reg codec_Num_r2) codec_Num_c11
@[go_sem] def codec_Num_r13 : List AIns := [
  ⟨some 21, none, .no, .mv (.t 3)⟩,
  ⟨some 22, none, .no, .conv .str (.t 21)⟩,
  ⟨some 2, none, .no, .mv (.t 22)⟩]
def codec_Num_c14 : ACode := .seq (.reg codec_Num_r13) .ret
def codec_Num_c15 : ACode := .seq codec_Num_c12 codec_Num_c14
def codec_Num_c16 : ACode := .seq (.reg codec_Num_r1) codec_Num_c15
def codec_Num_c17 : ACode := .seq (.reg codec_Num_r0) codec_Num_c16
theorem codec_Num_ok : cFn TC 111 = some (23, [.t 2], codec_Num_c17) := by kernel_rfl

@[go_sem] def codec_Text_r0 : List AIns := [
  ⟨some 2, none, .no, .mv (.v (.str []))⟩]
@[go_sem] def codec_Text_r1 : List AIns := [
  ⟨some 3, none, .no, .mv (.t 0)⟩,
  ⟨some 4, none, .no, .lenStr (.t 3)⟩,
  ⟨some 5, none, .no, .conv (.int .u64) (.t 4)⟩,
  ⟨some 6, none, .no, .call (.v (.fn 111 [])) [(.t 5)]⟩,
  ⟨some 7, none, .no, .mv (.t 0)⟩,
  ⟨some 8, none, .no, .bin .add .none (.t 6) (.t 7)⟩,
  ⟨some 2, none, .no, .mv (.t 8)⟩]
def codec_Text_c2 : ACode := .seq (.reg codec_Text_r1) .ret
def codec_Text_c3 : ACode := .seq (.reg codec_Text_r0) codec_Text_c2
theorem codec_Text_ok : cFn TC 113 = some (9, [.t 2], codec_Text_c3) := by kernel_rfl

@[go_sem] def codec_Hashes_r0 : List AIns := [
  ⟨some 2, none, .no, .mv (.v (.str []))⟩]
@[go_sem] def codec_Hashes_r1 : List AIns := [
  ⟨some 6, none, .no, .mv (.t 0)⟩,
  ⟨some 7, none, .no, .lenSl (.t 6)⟩,
  ⟨some 8, none, .no, .bin .gtr .none (.t 7) (.v (.int .i64 (64)))⟩]
@[go_sem] def codec_Hashes_r2 : List AIns := [
  ⟨some 2, none, .no, .mv (.v (.str []))⟩]
def codec_Hashes_c3 : ACode := .seq (.reg codec_Hashes_r2) .ret
def codec_Hashes_c4 : ACode := .cond (.t 8) codec_Hashes_c3 .skip
def codec_Hashes_c5 : ACode := .seq (.reg codec_Hashes_r1) codec_Hashes_c4
@[go_sem] def codec_Hashes_r6 : List AIns := [
  ⟨some 3, none, .no, .allB⟩]
@[go_sem] def codec_Hashes_r7 : List AIns := [
  ⟨some 9, none, .no, .mv (.t 0)⟩,
  ⟨some 10, none, .no, .lenSl (.t 9)⟩,
  ⟨some 11, none, .no, .conv (.int .u64) (.t 10)⟩,
  ⟨some 12, none, .no, .call (.v (.fn 111 [])) [(.t 11)]⟩,
  ⟨some 13, none, .no, .call (.v (.fn 152 [])) [(.t 3), (.t 12)]⟩]
@[go_sem] def codec_Hashes_r8 : List AIns := [
  ⟨some 14, none, .no, .mv (.t 0)⟩,
  ⟨some 15, none, .no, .lenSl (.t 14)⟩,
  ⟨some 16, none, .no, .mv (.v (.int .i64 (0)))⟩]
@[go_sem] def codec_Hashes_r9 : List AIns := [
  ⟨some 17, none, .no, .bin .lss .none (.t 16) (.t 15)⟩]
@[go_sem] def codec_Hashes_r10 : List AIns := [
  ⟨some 18, none, .no, .iaSl 32 (.t 14) (.t 16)⟩,
  ⟨some 19, none, .no, .load true 32 (.t 18)⟩,
  ⟨some 5, none, .no, .alloc [(.int .u8 (0)), (.int .u8 (0)), (.int .u8 (0)), (.int .u8 (0)), (.int .u8 (0)), (.int .u8 (0)), (.int .u8 (0)), (.int .u8 (0)), (.int .u8 (0)), (.int .u8 (0)), (.int .u8 (0)), (.int .u8 (0)), (.int .u8 (0)), (.int .u8 (0)), (.int .u8 (0)), (.int .u8 (0)), (.int .u8 (0)), (.int .u8 (0)), (.int .u8 (0)), (.int .u8 (0)), (.int .u8 (0)), (.int .u8 (0)), (.int .u8 (0)), (.int .u8 (0)), (.int .u8 (0)), (.int .u8 (0)), (.int .u8 (0)), (.int .u8 (0)), (.int .u8 (0)), (.int .u8 (0)), (.int .u8 (0)), (.int .u8 (0))]⟩,
  ⟨none, none, .no, .store 32 (.t 5) (.t 19)⟩]
@[go_sem] def codec_Hashes_r11 : List AIns := [
  ⟨some 20, none, .no, .load true 32 (.t 5)⟩,
  ⟨some 21, none, .no, .call (.v (.fn 112 [])) [(.t 20)]⟩,
  ⟨some 22, none, .no, .call (.v (.fn 152 [])) [(.t 3), (.t 21)]⟩]
def codec_Hashes_c12 : ACode := .seq (.reg codec_Hashes_r10) (.reg codec_Hashes_r11)
@[go_sem] def codec_Hashes_r13 : List AIns := [
  ⟨some 23, none, .no, .bin .add .none (.t 16) (.v (.int .i64 (1)))⟩,
  ⟨some 16, none, .no, .mv (.t 23)⟩]
def codec_Hashes_c14 : ACode := .seq (.block 1 codec_Hashes_c12) (.reg codec_Hashes_r13)
def codec_Hashes_c15 : ACode := .seq (.cond (.t 17) .skip (.exit 0)) codec_Hashes_c14
def codec_Hashes_c16 : ACode := .seq (.reg codec_Hashes_r9) codec_Hashes_c15
def codec_Hashes_c17 : ACode := .loop codec_Hashes_c16
def codec_Hashes_c18 : ACode := .block 0 codec_Hashes_c17
def codec_Hashes_c19 : ACode := .seq (.reg codec_Hashes_r8) codec_Hashes_c18
@[go_sem] def codec_Hashes_r20 : List AIns := [
  ⟨some 24, none, .no, .call (.v (.fn 153 [])) [(.t 3)]⟩,
  ⟨some 2, none, .no, .mv (.t 24)⟩]
def codec_Hashes_c21 : ACode := .seq (.reg codec_Hashes_r20) .ret
def codec_Hashes_c22 : ACode := .seq codec_Hashes_c19 codec_Hashes_c21
def codec_Hashes_c23 : ACode := .seq (.reg codec_Hashes_r7) codec_Hashes_c22
def codec_Hashes_c24 : ACode := .seq (.reg codec_Hashes_r6) codec_Hashes_c23
def codec_Hashes_c25 : ACode := .seq codec_Hashes_c5 codec_Hashes_c24
def codec_Hashes_c26 : ACode := .seq (.reg codec_Hashes_r0) codec_Hashes_c25
theorem codec_Hashes_ok : cFn TC 114 = some (25, [.t 2], codec_Hashes_c26) := by kernel_rfl

@[go_sem] def speculumref03_ahead_r0 : List AIns := [
  ⟨some 2, none, .no, .mv (.v (.str []))⟩]
@[go_sem] def speculumref03_ahead_r1 : List AIns := [
  ⟨some 4, none, .no, .mv (.t 0)⟩,
  ⟨some 5, none, .no, .bin .rem .none (.t 4) (.v (.int .u64 (128)))⟩,
  ⟨some 6, none, .no, .conv (.int .u8) (.t 5)⟩,
  ⟨some 7, none, .no, .bin .add .none (.t 6) (.v (.int .u8 (128)))⟩,
  ⟨some 8, none, .no, .lit 1 [(.t 7)]⟩,
  ⟨some 9, none, .no, .conv .str (.t 8)⟩,
  ⟨some 3, none, .no, .mv (.t 9)⟩]
@[go_sem] def speculumref03_ahead_r2 : List AIns := [
  ⟨some 10, none, .no, .mv (.t 0)⟩,
  ⟨some 11, none, .no, .bin .lss .none (.t 10) (.v (.int .u64 (128)))⟩]
@[go_sem] def speculumref03_ahead_r3 : List AIns := [
  ⟨some 12, none, .no, .mv (.t 3)⟩,
  ⟨some 2, none, .no, .mv (.t 12)⟩]
def speculumref03_ahead_c4 : ACode := .seq (.reg speculumref03_ahead_r3) .ret
def speculumref03_ahead_c5 : ACode := .cond (.t 11) speculumref03_ahead_c4 .skip
def speculumref03_ahead_c6 : ACode := .seq (.reg speculumref03_ahead_r2) speculumref03_ahead_c5
@[go_sem] def speculumref03_ahead_r7 : List AIns := [
  ⟨some 13, none, .no, .mv (.t 0)⟩,
  ⟨some 14, none, .no, .bin .quo .none (.t 13) (.v (.int .u64 (128)))⟩,
  ⟨some 15, none, .no, .call (.v (.fn 150 [])) [(.t 14)]⟩,
  ⟨some 16, none, .no, .mv (.t 3)⟩,
  ⟨some 17, none, .no, .bin .add .none (.t 15) (.t 16)⟩,
  ⟨some 2, none, .no, .mv (.t 17)⟩]
def speculumref03_ahead_c8 : ACode := .seq (.reg speculumref03_ahead_r7) .ret
def speculumref03_ahead_c9 : ACode := .seq speculumref03_ahead_c6 speculumref03_ahead_c8
def speculumref03_ahead_c10 : ACode := .seq (.reg speculumref03_ahead_r1) speculumref03_ahead_c9
def speculumref03_ahead_c11 : ACode := .seq (.reg speculumref03_ahead_r0) speculumref03_ahead_c10
theorem speculumref03_ahead_ok : cFn TC 150 = some (18, [.t 2], speculumref03_ahead_c11) := by kernel_rfl

@[go_sem] def codec_take_r0 : List AIns := [
  ⟨some 4, none, .no, .mv (.v (.str []))⟩,
  ⟨some 5, none, .no, .mv (.v (.str []))⟩,
  ⟨some 6, none, .no, .mv (.v (.bool false))⟩]
@[go_sem] def codec_take_r1 : List AIns := [
  ⟨some 7, none, .no, .mv (.t 1)⟩,
  ⟨some 8, none, .no, .mv (.t 0)⟩,
  ⟨some 9, none, .no, .lenStr (.t 8)⟩,
  ⟨some 10, none, .no, .conv (.int .u64) (.t 9)⟩,
  ⟨some 11, none, .no, .bin .gtr .none (.t 7) (.t 10)⟩]
@[go_sem] def codec_take_r2 : List AIns := [
  ⟨some 4, none, .no, .mv (.v (.str []))⟩,
  ⟨some 5, none, .no, .mv (.v (.str []))⟩,
  ⟨some 6, none, .no, .mv (.v (.bool false))⟩]
def codec_take_c3 : ACode := .seq (.reg codec_take_r2) .ret
def codec_take_c4 : ACode := .cond (.t 11) codec_take_c3 .skip
def codec_take_c5 : ACode := .seq (.reg codec_take_r1) codec_take_c4
@[go_sem] def codec_take_r6 : List AIns := [
  ⟨some 12, none, .no, .mv (.t 0)⟩,
  ⟨some 13, none, .no, .mv (.t 1)⟩,
  ⟨some 14, none, .no, .slice .str (.t 12) none (some (.t 13)) none⟩,
  ⟨some 15, none, .no, .mv (.t 0)⟩,
  ⟨some 16, none, .no, .mv (.t 1)⟩,
  ⟨some 17, none, .no, .slice .str (.t 15) (some (.t 16)) none none⟩,
  ⟨some 4, none, .no, .mv (.t 14)⟩,
  ⟨some 5, none, .no, .mv (.t 17)⟩,
  ⟨some 6, none, .no, .mv (.v (.bool true))⟩]
def codec_take_c7 : ACode := .seq (.reg codec_take_r6) .ret
def codec_take_c8 : ACode := .seq codec_take_c5 codec_take_c7
def codec_take_c9 : ACode := .seq (.reg codec_take_r0) codec_take_c8
theorem codec_take_ok : cFn TC 151 = some (18, [.t 4, .t 5, .t 6], codec_take_c9) := by kernel_rfl

end Am
end Go.Proofs.YthgcooppjhcgcaaDoor
end
section
set_option linter.unusedSimpArgs false
set_option linter.unusedVariables false
/- Codec: plain laws: numbers as_ bytes, and back. -/
set_option linter.unusedSimpArgs false
set_option linter.unusedVariables false
namespace Go.Proofs.YthgcooppjhcgcaaDoor
namespace Am
def u8 (n : Nat) : UInt8 := UInt8.ofNat n
theorem u8_toNat {n : Nat} (h : n < 256) : (u8 n).toNat = n := by unfold u8; rw [UInt8.toNat_ofNat']; omega
theorem u8_eq {c : UInt8} {n : Nat} (h : c.toNat = n) : u8 n = c := by rw [← h]; simp [u8]
/-- Bytes behind which there are more. -/
def aheadF : Nat → Nat → List UInt8
  | 0, _ => []
  | f + 1, n => if n < 128 then [u8 (n + 128)] else aheadF f (n / 128) ++ [u8 (n % 128 + 128)]
theorem aheadF_succ (f n : Nat) : aheadF (f + 1) n = if n < 128 then [u8 (n + 128)] else aheadF f (n / 128) ++ [u8 (n % 128 + 128)] := rfl
theorem aheadF_eq : ∀ (f g n : Nat), n < 128 ^ f → n < 128 ^ g → 0 < f → 0 < g → aheadF f n = aheadF g n
  | 0, _, _, _, _, h, _ => by omega
  | _ + 1, 0, _, _, _, _, h => by omega
  | f + 1, g + 1, n, h, h', _, _ => by
    simp only [aheadF]
    by_cases h1 : n < 128
    · rw [if_pos h1, if_pos h1]
    · rw [if_neg h1, if_neg h1]
      rw [Nat.pow_succ] at h h'
      have hf : 0 < f := by
        rcases Nat.eq_zero_or_pos f with h0 | h0
        · subst h0; simp at h; omega
        · exact h0
      have hg : 0 < g := by
        rcases Nat.eq_zero_or_pos g with h0 | h0
        · subst h0; simp at h'; omega
        · exact h0
      rw [aheadF_eq f g (n / 128) (by omega) (by omega) hf hg]
/-- A number's bytes. -/
def numS (n : Nat) : List UInt8 := if n < 128 then [u8 n] else aheadF 10 (n / 128) ++ [u8 (n % 128)]
/-- The number that stands ahead. -/
def readP : Nat → List UInt8 → Option (Nat × List UInt8)
  | _, [] => none
  | n, c :: s => if (n = 0 ∧ c.toNat = 128) ∨ 144115188075855872 ≤ n then none else if c.toNat < 128 then some (128 * n + c.toNat % 128, s) else readP (128 * n + c.toNat % 128) s
def readS (s : List UInt8) : Option (Nat × List UInt8) := readP 0 s
theorem readP_sound : ∀ (s : List UInt8) (m n : Nat) (rest : List UInt8), readP m s = some (n, rest) → n < 18446744073709551616 ∧ (if m = 0 then [] else aheadF 10 m) ++ s = numS n ++ rest
  | [], _, _, _, h => by simp [readP] at h
  | c :: s, m, n, rest, h => by
    have hc := c.toNat_lt
    simp only [readP] at h
    split at h
    · cases h
    · rename_i hcond
      by_cases h1 : c.toNat < 128
      · rw [if_pos h1] at h
        simp only [Option.some.injEq, Prod.mk.injEq] at h
        obtain ⟨rfl, rfl⟩ := h
        refine ⟨by omega, ?_⟩
        by_cases h0 : m = 0
        · subst h0
          rw [if_pos rfl]
          unfold numS
          rw [if_pos (by omega), u8_eq (c := c) (by omega)]; rfl
        · rw [if_neg h0]
          unfold numS
          rw [if_neg (by omega), show (128 * m + c.toNat % 128) / 128 = m by omega, show (128 * m + c.toNat % 128) % 128 = c.toNat by omega, u8_eq rfl, List.append_assoc]; rfl
      · rw [if_neg h1] at h
        obtain ⟨i1, i2⟩ := readP_sound s _ n rest h
        refine ⟨i1, ?_⟩
        have hne : ¬ 128 * m + c.toNat % 128 = 0 := by omega
        rw [← i2, if_neg hne]
        by_cases h0 : m = 0
        · subst h0
          rw [if_pos rfl, show (10 : Nat) = 9 + 1 from rfl, aheadF_succ, if_pos (by omega), u8_eq (c := c) (by omega)]; rfl
        · rw [if_neg h0]
          have e : aheadF 10 (128 * m + c.toNat % 128) = aheadF 9 m ++ [c] := by
            rw [show (10 : Nat) = 9 + 1 from rfl, aheadF_succ, if_neg (by omega), show (128 * m + c.toNat % 128) / 128 = m by omega, u8_eq (c := c) (by omega)]
          rw [e, aheadF_eq 9 10 m (by omega) (by omega) (by decide) (by decide), List.append_assoc]; rfl
theorem readP_ahead : ∀ (f m : Nat) (s : List UInt8), 0 < m → m < 128 ^ f → m < 18446744073709551616 → readP 0 (aheadF f m ++ s) = readP m s
  | 0, m, s, h0, h, _ => by simp at h; omega
  | f + 1, m, s, h0, h, h64 => by
    simp only [aheadF]
    by_cases h1 : m < 128
    · rw [if_pos h1]
      simp only [List.cons_append, List.nil_append, readP]
      rw [u8_toNat (by omega), if_neg (by omega), if_neg (by omega), show 128 * 0 + (m + 128) % 128 = m by omega]
    · rw [if_neg h1, List.append_assoc]
      rw [Nat.pow_succ] at h
      rw [readP_ahead f (m / 128) _ (by omega) (by omega) (by omega)]
      simp only [List.cons_append, List.nil_append, readP]
      rw [u8_toNat (by omega), if_neg (by omega), if_neg (by omega), show 128 * (m / 128) + (m % 128 + 128) % 128 = m by omega]
theorem readS_num {n : Nat} (h : n < 18446744073709551616) (rest : List UInt8) : readS (numS n ++ rest) = some (n, rest) := by
  unfold readS numS
  by_cases h1 : n < 128
  · rw [if_pos h1]
    simp only [List.cons_append, List.nil_append, readP]
    rw [u8_toNat (by omega), if_neg (by omega), if_pos h1, show 128 * 0 + n % 128 = n by omega]
  · rw [if_neg h1, List.append_assoc, readP_ahead 10 (n / 128) _ (by omega) (by omega) (by omega)]
    simp only [List.cons_append, List.nil_append, readP]
    rw [u8_toNat (by omega), if_neg (by omega), if_pos (by omega), show 128 * (n / 128) + n % 128 % 128 = n by omega]
theorem readS_sound {s rest : List UInt8} {n : Nat} (h : readS s = some (n, rest)) : n < 18446744073709551616 ∧ s = numS n ++ rest := by
  have := readP_sound s 0 n rest h
  rwa [if_pos rfl, List.nil_append] at this
/-- What digits say. -/
def dval (l : List UInt8) : Nat := l.foldl (fun n b => 128 * n + b.toNat % 128) 0
theorem dval_snoc (l : List UInt8) (b : UInt8) : dval (l ++ [b]) = 128 * dval l + b.toNat % 128 := by simp [dval]
theorem ahead_struct : ∀ (f n : Nat), 0 < f → n < 128 ^ f → (∀ b ∈ aheadF f n, 128 ≤ b.toNat) ∧ (aheadF f n).length ≤ f ∧ dval (aheadF f n) = n
  | 0, _, h, _ => by omega
  | f + 1, n, _, h => by
    simp only [aheadF]
    by_cases h1 : n < 128
    · rw [if_pos h1]
      refine ⟨fun b hb => ?_, by simp, ?_⟩
      · simp at hb; subst hb; rw [u8_toNat (by omega)]; omega
      · simp only [dval, List.foldl_cons, List.foldl_nil]; rw [u8_toNat (by omega)]; omega
    · rw [if_neg h1]
      rw [Nat.pow_succ] at h
      have hf : 0 < f := by
        rcases Nat.eq_zero_or_pos f with h0 | h0
        · subst h0; simp at h; omega
        · exact h0
      obtain ⟨i1, i2, i3⟩ := ahead_struct f (n / 128) hf (by omega)
      refine ⟨fun b hb => ?_, by simp; omega, ?_⟩
      · rcases List.mem_append.1 hb with hb | hb
        · exact i1 b hb
        · simp at hb; subst hb; rw [u8_toNat (by omega)]; omega
      · rw [dval_snoc, i3, u8_toNat (by omega)]; omega
theorem num_struct {n : Nat} (h : n < 18446744073709551616) : ∃ A c, numS n = A ++ [c] ∧ (∀ b ∈ A, 128 ≤ b.toNat) ∧ c.toNat < 128 ∧ A.length ≤ 9 ∧ dval (numS n) = n := by
  unfold numS
  by_cases h1 : n < 128
  · rw [if_pos h1]
    refine ⟨[], u8 n, rfl, by simp, by rw [u8_toNat (by omega)]; exact h1, by simp, ?_⟩
    simp only [dval, List.foldl_cons, List.foldl_nil]; rw [u8_toNat (by omega)]; omega
  · rw [if_neg h1]
    have e := aheadF_eq 10 9 (n / 128) (by omega) (by omega) (by decide) (by decide)
    obtain ⟨i1, i2, i3⟩ := ahead_struct 9 (n / 128) (by decide) (by omega)
    refine ⟨aheadF 10 (n / 128), u8 (n % 128), rfl, by rw [e]; exact i1, by rw [u8_toNat (by omega)]; omega, by rw [e]; exact i2, ?_⟩
    rw [dval_snoc, e, i3, u8_toNat (by omega)]; omega
end Am
end Go.Proofs.YthgcooppjhcgcaaDoor
end
section
set_option linter.unusedSimpArgs false
set_option linter.unusedVariables false
/- Codec: contracts: numbers. -/
namespace Go.Proofs.YthgcooppjhcgcaaDoor
namespace Am
attribute [local irreducible] ACallsTo ACallsP
theorem or128 {n : Nat} (h : n < 128) : n ||| 128 = n + 128 := by
  have := Nat.two_pow_add_eq_or_of_lt (i := 7) (b := n) h 1
  simp at this
  rw [Nat.or_comm, ← this, Nat.add_comm]
theorem byteEs_cons (b : UInt8) (s : List UInt8) : byteEs (b :: s) = [.int .u8 b.toNat] :: byteEs s := by simp [byteEs, B8]
theorem ref_ahead_to : ∀ (f : Nat) (σ : Store) (n : Nat), 0 < f → f ≤ 100 → n < 128 ^ f → n < 18446744073709551616 → ACallsTo TC 150 [.int .u64 n] σ (.str (aheadF f n)) σ
  | 0, _, _, h, _, _, _ => by omega
  | f + 1, σ, n, _, hf100, h, h64 => by
    refine ACallsTo.of_body speculumref03_ahead_ok (by simp) fun hw _ => ?_
    have hb : [[AV.int .u8 ((n : Int) % 128 + 128)]] = byteEs [u8 (n % 128 + 128)] := by
      have := u8_toNat (n := n % 128 + 128) (by omega)
      simp [byteEs, B8, this]
    simp only [aheadF]
    by_cases h1 : n < 128
    · have e : u8 (n + 128) = u8 (n % 128 + 128) := by congr 1; omega
      rw [if_pos h1, e]
      generalize u8 (n % 128 + 128) = c at *
      repeat' (first | refine SWp.seq ?_ | refine SWp.block ?_ | refine SWp.scope ?_ | refine SWp.condT rfl ?_ | refine SWp.condF rfl ?_ | (refine SWp.condD rfl (fun ht => ?_) (fun ht => ?_) <;> try (exfalso; omega)) | ((first | refine SWp.reg ?_ | refine SWp.skip ?_ | refine SWp.exit ?_ | refine SWp.ret ?_ | ((first | apply splitG | apply splitGB | apply splitR | apply splitRB | apply splitE | apply splitEB | apply splitC | apply splitCB) <;> intro ht)); all_goals try simp (disch := first | omega | (simp only [lens, hc_len, hr_len, List.length_reverse, byteEs_len]; first | done | omega)) only [go_sem, Nat.reduceEqDiff, Nat.reduceBEq, Nat.reduceAdd, Nat.reduceMul, Nat.reduceSub, Nat.reduceLeDiff, Int.reduceToNat, Int.reducePow, hb]))
      exact DownV.same hw (rlB_ok _ rfl)
    · rw [if_neg h1]
      rw [Nat.pow_succ] at h
      have hf : 0 < f := by
        rcases Nat.eq_zero_or_pos f with h0 | h0
        · subst h0; simp at h; omega
        · exact h0
      have ih := fun σ => ref_ahead_to f σ (n / 128) hf (by omega) (by omega) (by omega)
      have hlen := (ahead_struct f (n / 128) hf (by omega)).2.1
      have hd : (n : Int) / 128 = ((n / 128 : Nat) : Int) := by simp
      generalize u8 (n % 128 + 128) = c at *
      repeat' (first | refine SWp.seq ?_ | refine SWp.block ?_ | refine SWp.scope ?_ | refine SWp.condT rfl ?_ | refine SWp.condF rfl ?_ | (refine SWp.condD rfl (fun ht => ?_) (fun ht => ?_) <;> try (exfalso; omega)) | ((first | refine SWp.reg ?_ | refine SWp.skip ?_ | refine SWp.exit ?_ | refine SWp.ret ?_ | (apply callW.mk_pu; (first | exact (fun _ => ih _))) | (apply callW.any; (first | exact (ih _))) | ((first | apply splitG | apply splitGB | apply splitR | apply splitRB | apply splitE | apply splitEB | apply splitC | apply splitCB) <;> intro ht)); all_goals try simp (disch := first | omega | (simp only [lens, hc_len, hr_len, List.length_reverse, byteEs_len]; first | done | omega)) only [go_sem, Nat.reduceEqDiff, Nat.reduceBEq, Nat.reduceAdd, Nat.reduceMul, Nat.reduceSub, Nat.reduceLeDiff, Int.reduceToNat, Int.reducePow, hb, hd]))
      exact DownV.same hw (rlB_ok _ rfl)
theorem ref_Num_to (σ : Store) (n : Nat) (h : n < 18446744073709551616) : ACallsTo TC 98 [.int .u64 n] σ (.str (numS n)) σ := by
  refine ACallsTo.of_body speculumref03_Num_ok (by simp) fun hw _ => ?_
  unfold numS
  by_cases h1 : n < 128
  · have hb : [[AV.int .u8 (n : Int)]] = byteEs [u8 n] := by
      have := u8_toNat (n := n) (by omega)
      simp [byteEs, B8, this]
    rw [if_pos h1]
    generalize u8 n = c at *
    repeat' (first | refine SWp.seq ?_ | refine SWp.block ?_ | refine SWp.scope ?_ | refine SWp.condT rfl ?_ | refine SWp.condF rfl ?_ | (refine SWp.condD rfl (fun ht => ?_) (fun ht => ?_) <;> try (exfalso; omega)) | ((first | refine SWp.reg ?_ | refine SWp.skip ?_ | refine SWp.exit ?_ | refine SWp.ret ?_ | ((first | apply splitG | apply splitGB | apply splitR | apply splitRB | apply splitE | apply splitEB | apply splitC | apply splitCB) <;> intro ht)); all_goals try simp (disch := first | omega | (simp only [lens, hc_len, hr_len, List.length_reverse, byteEs_len]; first | done | omega)) only [go_sem, Nat.reduceEqDiff, Nat.reduceBEq, Nat.reduceAdd, Nat.reduceMul, Nat.reduceSub, Nat.reduceLeDiff, Int.reduceToNat, Int.reducePow, hb]))
    exact DownV.same hw (rlB_ok _ rfl)
  · have hb : [[AV.int .u8 ((n : Int) % 128)]] = byteEs [u8 (n % 128)] := by
      have := u8_toNat (n := n % 128) (by omega)
      simp [byteEs, B8, this]
    have hA := fun σ => ref_ahead_to 10 σ (n / 128) (by decide) (by decide) (by omega) (by omega)
    have hlen := (ahead_struct 10 (n / 128) (by decide) (by omega)).2.1
    have hd : (n : Int) / 128 = ((n / 128 : Nat) : Int) := by simp
    rw [if_neg h1]
    generalize u8 (n % 128) = c at *
    repeat' (first | refine SWp.seq ?_ | refine SWp.block ?_ | refine SWp.scope ?_ | refine SWp.condT rfl ?_ | refine SWp.condF rfl ?_ | (refine SWp.condD rfl (fun ht => ?_) (fun ht => ?_) <;> try (exfalso; omega)) | ((first | refine SWp.reg ?_ | refine SWp.skip ?_ | refine SWp.exit ?_ | refine SWp.ret ?_ | (apply callW.mk_pu; (first | exact (fun _ => hA _))) | (apply callW.any; (first | exact (hA _))) | ((first | apply splitG | apply splitGB | apply splitR | apply splitRB | apply splitE | apply splitEB | apply splitC | apply splitCB) <;> intro ht)); all_goals try simp (disch := first | omega | (simp only [lens, hc_len, hr_len, List.length_reverse, byteEs_len]; first | done | omega)) only [go_sem, Nat.reduceEqDiff, Nat.reduceBEq, Nat.reduceAdd, Nat.reduceMul, Nat.reduceSub, Nat.reduceLeDiff, Int.reduceToNat, Int.reducePow, hb, hd]))
    exact DownV.same hw (rlB_ok _ rfl)
/-- Digits ahead of others. -/
def preF (m : Nat) : List UInt8 := if m = 0 then [] else aheadF 10 m
theorem preF_step {m : Nat} (h : 0 < m) (h2 : m < 18446744073709551616) : preF m = preF (m / 128) ++ [u8 (m % 128 + 128)] := by
  unfold preF
  rw [if_neg (by omega), show (10 : Nat) = 9 + 1 from rfl, aheadF_succ]
  by_cases h1 : m < 128
  · rw [if_pos h1, if_pos (by omega), show m % 128 + 128 = m + 128 by omega]; rfl
  · rw [if_neg h1, if_neg (by omega), aheadF_eq 9 10 (m / 128) (by omega) (by omega) (by decide) (by decide)]
theorem numS_pre (n : Nat) : numS n = preF (n / 128) ++ [u8 (n % 128)] := by
  unfold numS preF
  by_cases h1 : n < 128
  · rw [if_pos h1, if_pos (by omega), show n % 128 = n by omega]; rfl
  · rw [if_neg h1, if_neg (by omega)]
set_option maxHeartbeats 4000000 in
theorem codec_Num_to (σ : Store) (n : Nat) (h : n < 18446744073709551616) : ACallsTo TC 111 [.int .u64 n] σ (.str (numS n)) σ := by
  refine ACallsTo.of_body codec_Num_ok (by simp) fun hw _ => ?_
  have hb : [[AV.int .u8 ((n : Int) % 128)]] = byteEs [u8 (n % 128)] := by
    have := u8_toNat (n := n % 128) (by omega)
    simp [byteEs, B8, this]
  have hd : (n : Int) / 128 = ((n / 128 : Nat) : Int) := by simp
  have hn := numS_pre n
  generalize u8 (n % 128) = c0 at *
  repeat' (first | refine SWp.seq ?_ | refine SWp.block ?_ | refine SWp.scope ?_ | refine SWp.condT rfl ?_ | refine SWp.condF rfl ?_ | (refine SWp.condD rfl (fun ht => ?_) (fun ht => ?_) <;> try (exfalso; omega)) | ((first | refine SWp.reg ?_ | refine SWp.skip ?_ | refine SWp.exit ?_ | refine SWp.ret ?_ | ((first | apply splitG | apply splitGB | apply splitR | apply splitRB | apply splitE | apply splitEB | apply splitC | apply splitCB) <;> intro ht)); all_goals try simp (disch := first | omega | (simp only [lens, hc_len, hr_len, List.length_reverse, byteEs_len]; first | done | omega)) only [go_sem, Nat.reduceEqDiff, Nat.reduceBEq, Nat.reduceAdd, Nat.reduceMul, Nat.reduceSub, Nat.reduceLeDiff, Int.reduceToNat, Int.reducePow, hb, hd]))
  refine SWp.loop (fun k ρ σ' => ∃ (m : Nat) (b : List UInt8) (v : AV), m < 128 ^ k ∧ m < 18446744073709551616 ∧ preF m ++ b = numS n ∧ 0 < b.length ∧ b.length + k ≤ 12 ∧ Ext σ σ' ∧ (v = .vsl 1 (byteEs b) true ∨ ∃ r, σ.length ≤ r ∧ v = .sl r 0 b.length none 1 ∧ σ'[r]? = some (some (byteEs b))) ∧ ρ 0 = .int .u64 m ∧ ρ 3 = v) 10 ?_ ?_
  · exact ⟨n / 128, [c0], _, by omega, by omega, hn.symm, by simp, by simp, Ext.refl _, .inl rfl, by simp (disch := first | omega | (simp only [lens, hc_len, hr_len, List.length_reverse, byteEs_len]; first | done | omega)) only [go_sem, Nat.reduceEqDiff, Nat.reduceBEq, Nat.reduceAdd, Nat.reduceMul, Nat.reduceSub, Nat.reduceLeDiff, Int.reduceToNat, Int.reducePow], by simp (disch := first | omega | (simp only [lens, hc_len, hr_len, List.length_reverse, byteEs_len]; first | done | omega)) only [go_sem, Nat.reduceEqDiff, Nat.reduceBEq, Nat.reduceAdd, Nat.reduceMul, Nat.reduceSub, Nat.reduceLeDiff, Int.reduceToNat, Int.reducePow, hb]⟩
  · rintro k ρ σ' ⟨m, b, v, hmk, hm, hmb, hb0, hbk, he, hv, q0, q3⟩
    by_cases h0 : m = 0
    · subst h0
      rw [← hmb]
      have e0 : preF 0 ++ b = b := rfl
      rw [e0]
      rcases hv with rfl | ⟨r, hr, rfl, hg⟩
      · repeat' (first | refine SWp.seq ?_ | refine SWp.block ?_ | refine SWp.scope ?_ | refine SWp.condT rfl ?_ | refine SWp.condF rfl ?_ | (refine SWp.condD rfl (fun ht => ?_) (fun ht => ?_) <;> try (exfalso; omega)) | ((first | refine SWp.reg ?_ | refine SWp.skip ?_ | refine SWp.exit ?_ | refine SWp.ret ?_ | ((first | apply splitG | apply splitGB | apply splitR | apply splitRB | apply splitE | apply splitEB | apply splitC | apply splitCB) <;> intro ht)); all_goals try simp (disch := first | omega | (simp only [lens, hc_len, hr_len, List.length_reverse, byteEs_len]; first | done | omega)) only [go_sem, Nat.reduceEqDiff, Nat.reduceBEq, Nat.reduceAdd, Nat.reduceMul, Nat.reduceSub, Nat.reduceLeDiff, Int.reduceToNat, Int.reducePow, q0, q3]))
        exact Ext.pure hw he (rlB_ok _ rfl)
      · repeat' (first | refine SWp.seq ?_ | refine SWp.block ?_ | refine SWp.scope ?_ | refine SWp.condT rfl ?_ | refine SWp.condF rfl ?_ | (refine SWp.condD rfl (fun ht => ?_) (fun ht => ?_) <;> try (exfalso; omega)) | ((first | refine SWp.reg ?_ | refine SWp.skip ?_ | refine SWp.exit ?_ | refine SWp.ret ?_ | ((first | apply splitG | apply splitGB | apply splitR | apply splitRB | apply splitE | apply splitEB | apply splitC | apply splitCB) <;> intro ht)); all_goals try simp (disch := first | omega | (simp only [lens, hc_len, hr_len, List.length_reverse, byteEs_len]; first | done | omega)) only [go_sem, Nat.reduceEqDiff, Nat.reduceBEq, Nat.reduceAdd, Nat.reduceMul, Nat.reduceSub, Nat.reduceLeDiff, Int.reduceToNat, Int.reducePow, q0, q3, hg]))
        exact Ext.pure hw he (rlB_ok _ rfl)
    · have hst := preF_step (m := m) (by omega) hm
      have hc8 := u8_toNat (n := m % 128 + 128) (by omega)
      have hor : ((((m : Int) % 128).toNat ||| 128 : Nat) : Int) = (((u8 (m % 128 + 128)).toNat : Nat) : Int) := by
        have : ((m : Int) % 128).toNat = m % 128 := by omega
        rw [this, or128 (by omega), hc8]
      have hd2 : (m : Int) / 128 = ((m / 128 : Nat) : Int) := by simp
      rw [hst, List.append_assoc] at hmb
      have hkk : ∃ k', k = k' + 1 := by
        cases k with
        | zero => simp at hmk; omega
        | succ k => exact ⟨k, rfl⟩
      obtain ⟨k, rfl⟩ := hkk
      rw [Nat.pow_succ] at hmk
      generalize u8 (m % 128 + 128) = c at *
      have hcat : [AV.int .u8 (c.toNat : Int)] :: byteEs b = byteEs (c :: b) := (byteEs_cons c b).symm
      have hlen : (byteEs b).length = b.length := byteEs_len b
      rcases hv with rfl | ⟨r, hr, rfl, hg⟩
      · repeat' (first | refine SWp.seq ?_ | refine SWp.block ?_ | refine SWp.scope ?_ | refine SWp.condT rfl ?_ | refine SWp.condF rfl ?_ | (refine SWp.condD rfl (fun ht => ?_) (fun ht => ?_) <;> try (exfalso; omega)) | ((first | refine SWp.reg ?_ | refine SWp.skip ?_ | refine SWp.exit ?_ | refine SWp.ret ?_ | ((first | apply splitG | apply splitGB | apply splitR | apply splitRB | apply splitE | apply splitEB | apply splitC | apply splitCB) <;> intro ht)); all_goals try simp (disch := first | omega | (simp only [lens, hc_len, hr_len, List.length_reverse, byteEs_len]; first | done | omega)) only [go_sem, Nat.reduceEqDiff, Nat.reduceBEq, Nat.reduceAdd, Nat.reduceMul, Nat.reduceSub, Nat.reduceLeDiff, Int.reduceToNat, Int.reducePow, q0, q3, hor, hd2, hcat]))
        exact ⟨k, by omega, m / 128, c :: b, _, by omega, by omega, hmb, by simp, by simp; omega, he.app, .inr ⟨σ'.length, he.le, by simp [Nat.add_comm], by simp⟩, rfl, rfl⟩
      · repeat' (first | refine SWp.seq ?_ | refine SWp.block ?_ | refine SWp.scope ?_ | refine SWp.condT rfl ?_ | refine SWp.condF rfl ?_ | (refine SWp.condD rfl (fun ht => ?_) (fun ht => ?_) <;> try (exfalso; omega)) | ((first | refine SWp.reg ?_ | refine SWp.skip ?_ | refine SWp.exit ?_ | refine SWp.ret ?_ | ((first | apply splitG | apply splitGB | apply splitR | apply splitRB | apply splitE | apply splitEB | apply splitC | apply splitCB) <;> intro ht)); all_goals try simp (disch := first | omega | (simp only [lens, hc_len, hr_len, List.length_reverse, byteEs_len]; first | done | omega)) only [go_sem, Nat.reduceEqDiff, Nat.reduceBEq, Nat.reduceAdd, Nat.reduceMul, Nat.reduceSub, Nat.reduceLeDiff, Int.reduceToNat, Int.reducePow, q0, q3, hor, hd2, hcat, hg]))
        exact ⟨k, by omega, m / 128, c :: b, _, by omega, by omega, hmb, by simp, by simp; omega, he.app, .inr ⟨σ'.length, he.le, by simp [Nat.add_comm], by simp⟩, rfl, rfl⟩
end Am
end Go.Proofs.YthgcooppjhcgcaaDoor
end
section
set_option linter.unusedSimpArgs false
set_option linter.unusedVariables false
/- Codec: contracts: the number that stands ahead. -/
namespace Go.Proofs.YthgcooppjhcgcaaDoor
namespace Am
attribute [local irreducible] ACallsTo ACallsP
def rdV : Option (Nat × List UInt8) → AV
  | none => .tup [.int .u64 0, .str [], .bool false]
  | some (n, r) => .tup [.int .u64 n, .str r, .bool true]
theorem drop_get {s : List UInt8} {i : Nat} (h : i < s.length) : s.drop i = s.getD i 0 :: s.drop (i + 1) := by
  rw [List.drop_eq_getElem_cons h]
  congr 1
  simp [h]
theorem shl7_or {n c : Nat} (h : c < 128) : n * 128 ||| c = 128 * n + c := by
  have := Nat.two_pow_add_eq_or_of_lt (i := 7) (b := c) h n
  simp at this
  rw [Nat.mul_comm n 128, this]
set_option maxHeartbeats 4000000 in
theorem codec_Read_to (σ : Store) (s : List UInt8) (hs : s.length < 1000000000) : ACallsTo TC 102 [.str s] σ (rdV (readS s)) σ := by
  refine ACallsTo.of_body codec_Read_ok (by simp) fun hw _ => ?_
  repeat' (first | refine SWp.seq ?_ | refine SWp.block ?_ | refine SWp.scope ?_ | refine SWp.condT rfl ?_ | refine SWp.condF rfl ?_ | (refine SWp.condD rfl (fun ht => ?_) (fun ht => ?_) <;> try (exfalso; omega)) | ((first | refine SWp.reg ?_ | refine SWp.skip ?_ | refine SWp.exit ?_ | refine SWp.ret ?_ | ((first | apply splitG | apply splitGB | apply splitR | apply splitRB | apply splitE | apply splitEB | apply splitC | apply splitCB) <;> intro ht)); all_goals try simp (disch := first | omega | (simp only [lens, hc_len, hr_len, List.length_reverse, byteEs_len]; first | done | omega)) only [go_sem, Nat.reduceEqDiff, Nat.reduceBEq, Nat.reduceAdd, Nat.reduceMul, Nat.reduceSub, Nat.reduceLeDiff, Int.reduceToNat, Int.reducePow]))
  refine SWp.loop (fun m ρ σ' => ∃ (i n : Nat), m + i = s.length ∧ σ' = σ ∧ n < 18446744073709551616 ∧ readP n (s.drop i) = readS s ∧ ρ 0 = .str s ∧ ρ 2 = .int .u64 n ∧ ρ 8 = .int .i64 s.length ∧ ρ 9 = .int .i64 i) s.length ?_ ?_
  · exact ⟨0, 0, by omega, rfl, by omega, rfl, by simp (disch := first | omega | (simp only [lens, hc_len, hr_len, List.length_reverse, byteEs_len]; first | done | omega)) only [go_sem, Nat.reduceEqDiff, Nat.reduceBEq, Nat.reduceAdd, Nat.reduceMul, Nat.reduceSub, Nat.reduceLeDiff, Int.reduceToNat, Int.reducePow], by simp (disch := first | omega | (simp only [lens, hc_len, hr_len, List.length_reverse, byteEs_len]; first | done | omega)) only [go_sem, Nat.reduceEqDiff, Nat.reduceBEq, Nat.reduceAdd, Nat.reduceMul, Nat.reduceSub, Nat.reduceLeDiff, Int.reduceToNat, Int.reducePow]; rfl, by simp (disch := first | omega | (simp only [lens, hc_len, hr_len, List.length_reverse, byteEs_len]; first | done | omega)) only [go_sem, Nat.reduceEqDiff, Nat.reduceBEq, Nat.reduceAdd, Nat.reduceMul, Nat.reduceSub, Nat.reduceLeDiff, Int.reduceToNat, Int.reducePow], by simp (disch := first | omega | (simp only [lens, hc_len, hr_len, List.length_reverse, byteEs_len]; first | done | omega)) only [go_sem, Nat.reduceEqDiff, Nat.reduceBEq, Nat.reduceAdd, Nat.reduceMul, Nat.reduceSub, Nat.reduceLeDiff, Int.reduceToNat, Int.reducePow]; rfl⟩
  · rintro m ρ σ' ⟨i, n, hm, rfl, hn, hp, q0, q2, q8, q9⟩
    by_cases hi : i < s.length
    · have hdr := drop_get hi
      generalize hc : s.getD i 0 = c at *
      have hc8 := c.toNat_lt
      rw [hdr] at hp
      simp only [readP] at hp
      by_cases h1 : (n = 0 ∧ c.toNat = 128) ∨ 144115188075855872 ≤ n
      · rw [if_pos h1] at hp
        rw [← hp]
        unfold rdV
        by_cases h2 : n = 0
        · subst h2
          have h3 : c.toNat = 128 := by omega
          have h3' : (c.toNat : Int) = 128 := by omega
          repeat' (first | refine SWp.seq ?_ | refine SWp.block ?_ | refine SWp.scope ?_ | refine SWp.condT rfl ?_ | refine SWp.condF rfl ?_ | (refine SWp.condD rfl (fun ht => ?_) (fun ht => ?_) <;> try (exfalso; omega)) | ((first | refine SWp.reg ?_ | refine SWp.skip ?_ | refine SWp.exit ?_ | refine SWp.ret ?_ | ((first | apply splitG | apply splitGB | apply splitR | apply splitRB | apply splitE | apply splitEB | apply splitC | apply splitCB) <;> intro ht)); all_goals try simp (disch := first | omega | (simp only [lens, hc_len, hr_len, List.length_reverse, byteEs_len]; first | done | omega)) only [go_sem, Nat.reduceEqDiff, Nat.reduceBEq, Nat.reduceAdd, Nat.reduceMul, Nat.reduceSub, Nat.reduceLeDiff, Int.reduceToNat, Int.reducePow, q0, q2, q8, q9, hc, h3']))
          exact DownV.same hw (rlB_ok _ rfl)
        · have h2' : ¬ (n : Int) = 0 := by omega
          have h4 : (n : Int) ≥ 144115188075855872 := by omega
          repeat' (first | refine SWp.seq ?_ | refine SWp.block ?_ | refine SWp.scope ?_ | refine SWp.condT rfl ?_ | refine SWp.condF rfl ?_ | (refine SWp.condD rfl (fun ht => ?_) (fun ht => ?_) <;> try (exfalso; omega)) | ((first | refine SWp.reg ?_ | refine SWp.skip ?_ | refine SWp.exit ?_ | refine SWp.ret ?_ | ((first | apply splitG | apply splitGB | apply splitR | apply splitRB | apply splitE | apply splitEB | apply splitC | apply splitCB) <;> intro ht)); all_goals try simp (disch := first | omega | (simp only [lens, hc_len, hr_len, List.length_reverse, byteEs_len]; first | done | omega)) only [go_sem, Nat.reduceEqDiff, Nat.reduceBEq, Nat.reduceAdd, Nat.reduceMul, Nat.reduceSub, Nat.reduceLeDiff, Int.reduceToNat, Int.reducePow, q0, q2, q8, q9, hc, h2', h4]))
          exact DownV.same hw (rlB_ok _ rfl)
      · rw [if_neg h1] at hp
        have hor : ((n : Int) * 128).toNat ||| c.toNat % 128 = 128 * n + c.toNat % 128 := by
          rw [show ((n : Int) * 128).toNat = n * 128 by omega, shl7_or (by omega)]
        have h4 : ¬ (n : Int) ≥ 144115188075855872 := by omega
        by_cases h5 : c.toNat < 128
        · rw [if_pos h5] at hp
          rw [← hp]
          unfold rdV
          have h5' : (c.toNat : Int) < 128 := by omega
          have hi1 : (i : Int) + 1 = ((i + 1 : Nat) : Int) := by omega
          by_cases h2 : n = 0
          · have h2' : (n : Int) = 0 := by omega
            have h3' : ¬ (c.toNat : Int) = 128 := by omega
            have hz : ((0 : Int) * 128).toNat ||| c.toNat % 128 = 128 * n + c.toNat % 128 := by rw [h2]; simp
            repeat' (first | refine SWp.seq ?_ | refine SWp.block ?_ | refine SWp.scope ?_ | refine SWp.condT rfl ?_ | refine SWp.condF rfl ?_ | (refine SWp.condD rfl (fun ht => ?_) (fun ht => ?_) <;> try (exfalso; omega)) | ((first | refine SWp.reg ?_ | refine SWp.skip ?_ | refine SWp.exit ?_ | refine SWp.ret ?_ | ((first | apply splitG | apply splitGB | apply splitR | apply splitRB | apply splitE | apply splitEB | apply splitC | apply splitCB) <;> intro ht)); all_goals try simp (disch := first | omega | (simp only [lens, hc_len, hr_len, List.length_reverse, byteEs_len]; first | done | omega)) only [go_sem, Nat.reduceEqDiff, Nat.reduceBEq, Nat.reduceAdd, Nat.reduceMul, Nat.reduceSub, Nat.reduceLeDiff, Int.reduceToNat, Int.reducePow, q0, q2, q8, q9, hc, h2', h3', h4, hz, h5', hi1]))
            exact DownV.same hw (rlB_ok _ rfl)
          · have h2' : ¬ (n : Int) = 0 := by omega
            repeat' (first | refine SWp.seq ?_ | refine SWp.block ?_ | refine SWp.scope ?_ | refine SWp.condT rfl ?_ | refine SWp.condF rfl ?_ | (refine SWp.condD rfl (fun ht => ?_) (fun ht => ?_) <;> try (exfalso; omega)) | ((first | refine SWp.reg ?_ | refine SWp.skip ?_ | refine SWp.exit ?_ | refine SWp.ret ?_ | ((first | apply splitG | apply splitGB | apply splitR | apply splitRB | apply splitE | apply splitEB | apply splitC | apply splitCB) <;> intro ht)); all_goals try simp (disch := first | omega | (simp only [lens, hc_len, hr_len, List.length_reverse, byteEs_len]; first | done | omega)) only [go_sem, Nat.reduceEqDiff, Nat.reduceBEq, Nat.reduceAdd, Nat.reduceMul, Nat.reduceSub, Nat.reduceLeDiff, Int.reduceToNat, Int.reducePow, q0, q2, q8, q9, hc, h2', h4, hor, h5', hi1]))
            exact DownV.same hw (rlB_ok _ rfl)
        · rw [if_neg h5] at hp
          have h5' : ¬ (c.toNat : Int) < 128 := by omega
          by_cases h2 : n = 0
          · have h2' : (n : Int) = 0 := by omega
            have h3' : ¬ (c.toNat : Int) = 128 := by omega
            have hz : ((0 : Int) * 128).toNat ||| c.toNat % 128 = 128 * n + c.toNat % 128 := by rw [h2]; simp
            repeat' (first | refine SWp.seq ?_ | refine SWp.block ?_ | refine SWp.scope ?_ | refine SWp.condT rfl ?_ | refine SWp.condF rfl ?_ | (refine SWp.condD rfl (fun ht => ?_) (fun ht => ?_) <;> try (exfalso; omega)) | ((first | refine SWp.reg ?_ | refine SWp.skip ?_ | refine SWp.exit ?_ | refine SWp.ret ?_ | ((first | apply splitG | apply splitGB | apply splitR | apply splitRB | apply splitE | apply splitEB | apply splitC | apply splitCB) <;> intro ht)); all_goals try simp (disch := first | omega | (simp only [lens, hc_len, hr_len, List.length_reverse, byteEs_len]; first | done | omega)) only [go_sem, Nat.reduceEqDiff, Nat.reduceBEq, Nat.reduceAdd, Nat.reduceMul, Nat.reduceSub, Nat.reduceLeDiff, Int.reduceToNat, Int.reducePow, q0, q2, q8, q9, hc, h2', h3', h4, hz, h5']))
            exact ⟨m - 1, by omega, i + 1, 128 * n + c.toNat % 128, by omega, by omega, hp, rfl, by simp⟩
          · have h2' : ¬ (n : Int) = 0 := by omega
            repeat' (first | refine SWp.seq ?_ | refine SWp.block ?_ | refine SWp.scope ?_ | refine SWp.condT rfl ?_ | refine SWp.condF rfl ?_ | (refine SWp.condD rfl (fun ht => ?_) (fun ht => ?_) <;> try (exfalso; omega)) | ((first | refine SWp.reg ?_ | refine SWp.skip ?_ | refine SWp.exit ?_ | refine SWp.ret ?_ | ((first | apply splitG | apply splitGB | apply splitR | apply splitRB | apply splitE | apply splitEB | apply splitC | apply splitCB) <;> intro ht)); all_goals try simp (disch := first | omega | (simp only [lens, hc_len, hr_len, List.length_reverse, byteEs_len]; first | done | omega)) only [go_sem, Nat.reduceEqDiff, Nat.reduceBEq, Nat.reduceAdd, Nat.reduceMul, Nat.reduceSub, Nat.reduceLeDiff, Int.reduceToNat, Int.reducePow, q0, q2, q8, q9, hc, h2', h4, hor, h5']))
            exact ⟨m - 1, by omega, i + 1, 128 * n + c.toNat % 128, by omega, by omega, hp, rfl, by simp⟩
    · have hd : s.drop i = [] := List.drop_of_length_le (by omega)
      rw [hd] at hp
      simp only [readP] at hp
      rw [← hp]
      unfold rdV
      repeat' (first | refine SWp.seq ?_ | refine SWp.block ?_ | refine SWp.scope ?_ | refine SWp.condT rfl ?_ | refine SWp.condF rfl ?_ | (refine SWp.condD rfl (fun ht => ?_) (fun ht => ?_) <;> try (exfalso; omega)) | ((first | refine SWp.reg ?_ | refine SWp.skip ?_ | refine SWp.exit ?_ | refine SWp.ret ?_ | ((first | apply splitG | apply splitGB | apply splitR | apply splitRB | apply splitE | apply splitEB | apply splitC | apply splitCB) <;> intro ht)); all_goals try simp (disch := first | omega | (simp only [lens, hc_len, hr_len, List.length_reverse, byteEs_len]; first | done | omega)) only [go_sem, Nat.reduceEqDiff, Nat.reduceBEq, Nat.reduceAdd, Nat.reduceMul, Nat.reduceSub, Nat.reduceLeDiff, Int.reduceToNat, Int.reducePow, q0, q2, q8, q9]))
      exact DownV.same hw (rlB_ok _ rfl)
/-- What digits' reader finds. -/
theorem read_is {s : List UInt8} {k : Nat} (hk : k < s.length) (hk9 : k ≤ 9) (h1 : ∀ j, j < k → 128 ≤ (s.getD j 0).toNat) (h2 : k < 10 → (s.getD k 0).toNat < 128) :
    readS s = if numS (dval (s.take (k + 1)) % 18446744073709551616) = s.take (k + 1) then some (dval (s.take (k + 1)) % 18446744073709551616, s.drop (k + 1)) else none := by
  split
  · rename_i h
    have := readS_num (n := dval (s.take (k + 1)) % 18446744073709551616) (by omega) (s.drop (k + 1))
    rw [h, List.take_append_drop] at this
    exact this
  · rename_i h
    cases hr : readS s with
    | none => rfl
    | some x =>
      obtain ⟨n, rest⟩ := x
      exfalso
      obtain ⟨hn, hs⟩ := readS_sound hr
      obtain ⟨A, c, e, a1, a2, a3, a4⟩ := num_struct hn
      have hkA : k = A.length := by
        rcases Nat.lt_trichotomy k A.length with hl | hl | hl
        · exfalso
          have : (s.getD k 0) = A[k] := by rw [hs, e]; simp [List.getElem?_append, hl]
          have h3 := a1 _ (List.getElem_mem hl)
          have h4 := h2 (by omega)
          rw [this] at h4; omega
        · exact hl
        · exfalso
          have : (s.getD A.length 0) = c := by rw [hs, e]; simp
          have h3 := h1 A.length hl
          rw [this] at h3; omega
      have ht : s.take (k + 1) = numS n := by
        rw [hs, hkA, List.take_left' (by rw [e]; simp)]
      rw [ht, a4, Nat.mod_eq_of_lt hn] at h
      exact h rfl
theorem read_none {s : List UInt8} {k : Nat} (h1 : ∀ j, j < k → 128 ≤ (s.getD j 0).toNat) (hk : s.length ≤ k ∨ 9 < k) : readS s = none := by
  cases hr : readS s with
  | none => rfl
  | some x =>
    obtain ⟨n, rest⟩ := x
    exfalso
    obtain ⟨hn, hs⟩ := readS_sound hr
    obtain ⟨A, c, e, a1, a2, a3, a4⟩ := num_struct hn
    have hl : A.length < s.length := by rw [hs, e]; simp
    have : (s.getD A.length 0) = c := by rw [hs, e]; simp
    have h3 := h1 A.length (by omega)
    rw [this] at h3; omega
set_option maxHeartbeats 8000000 in
theorem ref_Read_to (σ : Store) (s : List UInt8) (hs : s.length < 1000000000) : ACallsTo TC 107 [.str s] σ (rdV (readS s)) σ := by
  refine ACallsTo.of_body speculumref03_Read_ok (by simp) fun hw _ => ?_
  repeat' (first | refine SWp.seq ?_ | refine SWp.block ?_ | refine SWp.scope ?_ | refine SWp.condT rfl ?_ | refine SWp.condF rfl ?_ | (refine SWp.condD rfl (fun ht => ?_) (fun ht => ?_) <;> try (exfalso; omega)) | ((first | refine SWp.reg ?_ | refine SWp.skip ?_ | refine SWp.exit ?_ | refine SWp.ret ?_ | ((first | apply splitG | apply splitGB | apply splitR | apply splitRB | apply splitE | apply splitEB | apply splitC | apply splitCB) <;> intro ht)); all_goals try simp (disch := first | omega | (simp only [lens, hc_len, hr_len, List.length_reverse, byteEs_len]; first | done | omega)) only [go_sem, Nat.reduceEqDiff, Nat.reduceBEq, Nat.reduceAdd, Nat.reduceMul, Nat.reduceSub, Nat.reduceLeDiff, Int.reduceToNat, Int.reducePow]))
  refine SWp.loop (fun m ρ σ' => ∃ k : Nat, m + k = s.length ∧ k ≤ 10 ∧ σ' = σ ∧ (∀ j, j < k → 128 ≤ (s.getD j 0).toNat) ∧ ρ 0 = .str s ∧ ρ 5 = .int .i64 k) s.length ?_ ?_
  · exact ⟨0, by omega, by omega, rfl, fun j hj => by omega, by simp (disch := first | omega | (simp only [lens, hc_len, hr_len, List.length_reverse, byteEs_len]; first | done | omega)) only [go_sem, Nat.reduceEqDiff, Nat.reduceBEq, Nat.reduceAdd, Nat.reduceMul, Nat.reduceSub, Nat.reduceLeDiff, Int.reduceToNat, Int.reducePow], by simp (disch := first | omega | (simp only [lens, hc_len, hr_len, List.length_reverse, byteEs_len]; first | done | omega)) only [go_sem, Nat.reduceEqDiff, Nat.reduceBEq, Nat.reduceAdd, Nat.reduceMul, Nat.reduceSub, Nat.reduceLeDiff, Int.reduceToNat, Int.reducePow]; rfl⟩
  · rintro m ρ σ' ⟨k, hm, hk10, rfl, hall, q0, q5⟩
    by_cases hgo : k < s.length ∧ k < 10 ∧ 128 ≤ (s.getD k 0).toNat
    · obtain ⟨g1, g2, g3⟩ := hgo
      generalize hc : s.getD k 0 = c at *
      have g3' : (c.toNat : Int) ≥ 128 := by omega
      repeat' (first | refine SWp.seq ?_ | refine SWp.block ?_ | refine SWp.scope ?_ | refine SWp.condT rfl ?_ | refine SWp.condF rfl ?_ | (refine SWp.condD rfl (fun ht => ?_) (fun ht => ?_) <;> try (exfalso; omega)) | ((first | refine SWp.reg ?_ | refine SWp.skip ?_ | refine SWp.exit ?_ | refine SWp.ret ?_ | ((first | apply splitG | apply splitGB | apply splitR | apply splitRB | apply splitE | apply splitEB | apply splitC | apply splitCB) <;> intro ht)); all_goals try simp (disch := first | omega | (simp only [lens, hc_len, hr_len, List.length_reverse, byteEs_len]; first | done | omega)) only [go_sem, Nat.reduceEqDiff, Nat.reduceBEq, Nat.reduceAdd, Nat.reduceMul, Nat.reduceSub, Nat.reduceLeDiff, Int.reduceToNat, Int.reducePow, q0, q5, hc, g3']))
      refine ⟨m - 1, by omega, k + 1, by omega, by omega, fun j hj => ?_, by simp⟩
      rcases Nat.lt_or_ge j k with h | h
      · exact hall j h
      · have : j = k := by omega
        subst this; rw [hc]; exact g3
    · by_cases hend : s.length ≤ k ∨ 9 < k
      · rw [read_none hall hend]
        unfold rdV
        have hlast : k < s.length → k < 10 → ¬ ((s.getD k 0).toNat : Int) ≥ 128 := fun a b c => hgo ⟨a, b, by omega⟩
        rcases Nat.lt_or_ge k s.length with h | h
        · have h10 : ¬ (k : Int) < 10 := by omega
          repeat' (first | refine SWp.seq ?_ | refine SWp.block ?_ | refine SWp.scope ?_ | refine SWp.condT rfl ?_ | refine SWp.condF rfl ?_ | (refine SWp.condD rfl (fun ht => ?_) (fun ht => ?_) <;> try (exfalso; omega)) | ((first | refine SWp.reg ?_ | refine SWp.skip ?_ | refine SWp.exit ?_ | refine SWp.ret ?_ | ((first | apply splitG | apply splitGB | apply splitR | apply splitRB | apply splitE | apply splitEB | apply splitC | apply splitCB) <;> intro ht)); all_goals try simp (disch := first | omega | (simp only [lens, hc_len, hr_len, List.length_reverse, byteEs_len]; first | done | omega)) only [go_sem, Nat.reduceEqDiff, Nat.reduceBEq, Nat.reduceAdd, Nat.reduceMul, Nat.reduceSub, Nat.reduceLeDiff, Int.reduceToNat, Int.reducePow, q0, q5, h10]))
          exact DownV.same hw (rlB_ok _ rfl)
        · repeat' (first | refine SWp.seq ?_ | refine SWp.block ?_ | refine SWp.scope ?_ | refine SWp.condT rfl ?_ | refine SWp.condF rfl ?_ | (refine SWp.condD rfl (fun ht => ?_) (fun ht => ?_) <;> try (exfalso; omega)) | ((first | refine SWp.reg ?_ | refine SWp.skip ?_ | refine SWp.exit ?_ | refine SWp.ret ?_ | ((first | apply splitG | apply splitGB | apply splitR | apply splitRB | apply splitE | apply splitEB | apply splitC | apply splitCB) <;> intro ht)); all_goals try simp (disch := first | omega | (simp only [lens, hc_len, hr_len, List.length_reverse, byteEs_len]; first | done | omega)) only [go_sem, Nat.reduceEqDiff, Nat.reduceBEq, Nat.reduceAdd, Nat.reduceMul, Nat.reduceSub, Nat.reduceLeDiff, Int.reduceToNat, Int.reducePow, q0, q5]))
          exact DownV.same hw (rlB_ok _ rfl)
      · have hkl : k < s.length := by omega
        have hlt : (s.getD k 0).toNat < 128 := by
          rcases Nat.lt_or_ge (s.getD k 0).toNat 128 with h | h
          · exact h
          · exact absurd ⟨hkl, by omega, h⟩ hgo
        rw [read_is hkl (by omega) hall (fun _ => hlt)]
        generalize hc : s.getD k 0 = c at *
        have hlt' : ¬ (c.toNat : Int) ≥ 128 := by omega
        have hk1 : (k : Int) + 1 = ((k + 1 : Nat) : Int) := by omega
        repeat' (first | refine SWp.seq ?_ | refine SWp.block ?_ | refine SWp.scope ?_ | refine SWp.condT rfl ?_ | refine SWp.condF rfl ?_ | (refine SWp.condD rfl (fun ht => ?_) (fun ht => ?_) <;> try (exfalso; omega)) | ((first | refine SWp.reg ?_ | refine SWp.skip ?_ | refine SWp.exit ?_ | refine SWp.ret ?_ | ((first | apply splitG | apply splitGB | apply splitR | apply splitRB | apply splitE | apply splitEB | apply splitC | apply splitCB) <;> intro ht)); all_goals try simp (disch := first | omega | (simp only [lens, hc_len, hr_len, List.length_reverse, byteEs_len]; first | done | omega)) only [go_sem, Nat.reduceEqDiff, Nat.reduceBEq, Nat.reduceAdd, Nat.reduceMul, Nat.reduceSub, Nat.reduceLeDiff, Int.reduceToNat, Int.reducePow, q0, q5, hc, hlt']))
        refine SWp.loop (fun m ρ σ2 => ∃ i : Nat, m + i = k + 1 ∧ σ2 = σ' ∧ ρ 0 = .str s ∧ ρ 5 = .int .i64 k ∧ ρ 6 = .int .u64 ((dval (s.take i) % 18446744073709551616 : Nat) : Int) ∧ ρ 7 = .int .i64 i) (k + 1) ?_ ?_
        · refine ⟨0, by omega, rfl, ?_, ?_, ?_, ?_⟩ <;> simp (disch := first | omega | (simp only [lens, hc_len, hr_len, List.length_reverse, byteEs_len]; first | done | omega)) only [go_sem, Nat.reduceEqDiff, Nat.reduceBEq, Nat.reduceAdd, Nat.reduceMul, Nat.reduceSub, Nat.reduceLeDiff, Int.reduceToNat, Int.reducePow, q0, q5] <;> rfl
        · rintro m2 ρ2 σ2 ⟨i, hmi, rfl, z0, z5, z6, z7⟩
          by_cases hik : i ≤ k
          · have htk : s.take (i + 1) = s.take i ++ [s.getD i 0] := by
              rw [← List.take_append_getElem (by omega : i < s.length)]; simp [show i < s.length by omega]
            have hdv := dval_snoc (s.take i) (s.getD i 0)
            rw [← htk] at hdv
            generalize hci : s.getD i 0 = d at *
            have hd8 := d.toNat_lt
            generalize dval (s.take i) = D at *
            have hw1 : (((D % 18446744073709551616 : Nat) : Int) * 128) % 18446744073709551616 = ((D * 128 % 18446744073709551616 : Nat) : Int) := by omega
            repeat' (first | refine SWp.seq ?_ | refine SWp.block ?_ | refine SWp.scope ?_ | refine SWp.condT rfl ?_ | refine SWp.condF rfl ?_ | (refine SWp.condD rfl (fun ht => ?_) (fun ht => ?_) <;> try (exfalso; omega)) | ((first | refine SWp.reg ?_ | refine SWp.skip ?_ | refine SWp.exit ?_ | refine SWp.ret ?_ | ((first | apply splitG | apply splitGB | apply splitR | apply splitRB | apply splitE | apply splitEB | apply splitC | apply splitCB) <;> intro ht)); all_goals try simp (disch := first | omega | (simp only [lens, hc_len, hr_len, List.length_reverse, byteEs_len]; first | done | omega)) only [go_sem, Nat.reduceEqDiff, Nat.reduceBEq, Nat.reduceAdd, Nat.reduceMul, Nat.reduceSub, Nat.reduceLeDiff, Int.reduceToNat, Int.reducePow, z0, z5, z6, z7, hci, hw1]))
            exact ⟨m2 - 1, by omega, i + 1, by omega, by rw [hdv]; congr 1; omega, by simp⟩
          · obtain rfl : i = k + 1 := by omega
            have hN := fun σ => ref_Num_to σ (dval (s.take (k + 1)) % 18446744073709551616) (by omega)
            generalize dval (s.take (k + 1)) % 18446744073709551616 = N at *
            by_cases he : numS N = s.take (k + 1)
            · rw [if_pos he]
              unfold rdV
              repeat' (first | refine SWp.seq ?_ | refine SWp.block ?_ | refine SWp.scope ?_ | refine SWp.condT rfl ?_ | refine SWp.condF rfl ?_ | (refine SWp.condD rfl (fun ht => ?_) (fun ht => ?_) <;> try (exfalso; omega)) | ((first | refine SWp.reg ?_ | refine SWp.skip ?_ | refine SWp.exit ?_ | refine SWp.ret ?_ | (apply callW.mk_pu; (first | exact (fun _ => hN _))) | (apply callW.any; (first | exact (hN _))) | ((first | apply splitG | apply splitGB | apply splitR | apply splitRB | apply splitE | apply splitEB | apply splitC | apply splitCB) <;> intro ht)); all_goals try simp (disch := first | omega | (simp only [lens, hc_len, hr_len, List.length_reverse, byteEs_len]; first | done | omega)) only [go_sem, Nat.reduceEqDiff, Nat.reduceBEq, Nat.reduceAdd, Nat.reduceMul, Nat.reduceSub, Nat.reduceLeDiff, Int.reduceToNat, Int.reducePow, z0, z5, z6, z7, hk1, he]))
              exact DownV.same hw (rlB_ok _ rfl)
            · rw [if_neg he]
              unfold rdV
              have hbq : (numS N == s.take (k + 1)) = false := beq_false_of_ne he
              repeat' (first | refine SWp.seq ?_ | refine SWp.block ?_ | refine SWp.scope ?_ | refine SWp.condT rfl ?_ | refine SWp.condF rfl ?_ | (refine SWp.condD rfl (fun ht => ?_) (fun ht => ?_) <;> try (exfalso; omega)) | ((first | refine SWp.reg ?_ | refine SWp.skip ?_ | refine SWp.exit ?_ | refine SWp.ret ?_ | (apply callW.mk_pu; (first | exact (fun _ => hN _))) | (apply callW.any; (first | exact (hN _))) | ((first | apply splitG | apply splitGB | apply splitR | apply splitRB | apply splitE | apply splitEB | apply splitC | apply splitCB) <;> intro ht)); all_goals try simp (disch := first | omega | (simp only [lens, hc_len, hr_len, List.length_reverse, byteEs_len]; first | done | omega)) only [go_sem, Nat.reduceEqDiff, Nat.reduceBEq, Nat.reduceAdd, Nat.reduceMul, Nat.reduceSub, Nat.reduceLeDiff, Int.reduceToNat, Int.reducePow, z0, z5, z6, z7, hk1, hbq]))
              exact DownV.same hw (rlB_ok _ rfl)
end Am
end Go.Proofs.YthgcooppjhcgcaaDoor
end
section
set_option linter.unusedSimpArgs false
set_option linter.unusedVariables false
/- Codec: contracts: texts, what is cut off, hashes. -/
namespace Go.Proofs.YthgcooppjhcgcaaDoor
namespace Am
attribute [local irreducible] ACallsTo ACallsP
def takeS (s : List UInt8) (n : Nat) : Option (List UInt8 × List UInt8) := if n ≤ s.length then some (s.take n, s.drop n) else none
def stV : Option (List UInt8 × List UInt8) → AV
  | none => .tup [.str [], .str [], .bool false]
  | some (a, r) => .tup [.str a, .str r, .bool true]
def cutS (s : List UInt8) : Option (List UInt8 × List UInt8) := (readS s).bind fun x => takeS x.2 x.1
def textS (s : List UInt8) : List UInt8 := numS s.length ++ s
theorem numS_le (n : Nat) : (numS n).length ≤ 11 := by
  unfold numS
  split
  · simp
  · have : ∀ f m, (aheadF f m).length ≤ f := by
      intro f
      induction f with
      | zero => intro m; simp [aheadF]
      | succ f ih =>
        intro m
        rw [aheadF_succ]
        split
        · simp
        · have := ih (m / 128); simp; omega
    have := this 10 (n / 128)
    simp; omega
theorem readS_lt {s r : List UInt8} {n : Nat} (h : readS s = some (n, r)) : n < 18446744073709551616 ∧ r.length < s.length := by
  obtain ⟨h1, h2⟩ := readS_sound h
  obtain ⟨A, c, e, _⟩ := num_struct h1
  refine ⟨h1, ?_⟩
  rw [h2, e]; simp; omega
set_option maxHeartbeats 4000000 in
theorem codec_Text_to (σ : Store) (s : List UInt8) (hs : s.length < 1000000000) : ACallsTo TC 113 [.str s] σ (.str (textS s)) σ := by
  refine ACallsTo.of_body codec_Text_ok (by simp) fun hw _ => ?_
  have hN := fun σ => codec_Num_to σ s.length (by omega)
  have h1 := numS_le s.length
  unfold textS
  generalize numS s.length = N at *
  repeat' (first | refine SWp.seq ?_ | refine SWp.block ?_ | refine SWp.scope ?_ | refine SWp.condT rfl ?_ | refine SWp.condF rfl ?_ | (refine SWp.condD rfl (fun ht => ?_) (fun ht => ?_) <;> try (exfalso; omega)) | ((first | refine SWp.reg ?_ | refine SWp.skip ?_ | refine SWp.exit ?_ | refine SWp.ret ?_ | (apply callW.mk_pu; (first | exact (fun _ => hN _))) | (apply callW.any; (first | exact (hN _))) | ((first | apply splitG | apply splitGB | apply splitR | apply splitRB | apply splitE | apply splitEB | apply splitC | apply splitCB) <;> intro ht)); all_goals try simp (disch := first | omega | (simp only [lens, hc_len, hr_len, List.length_reverse, byteEs_len, byteEsC_len]; first | done | omega)) only [go_sem, Nat.reduceEqDiff, Nat.reduceBEq, Nat.reduceAdd, Nat.reduceMul, Nat.reduceSub, Nat.reduceLeDiff, Int.reduceToNat, Int.reducePow]))
  exact DownV.same hw (rlB_ok _ rfl)
set_option maxHeartbeats 4000000 in
theorem ref_Text_to (σ : Store) (s : List UInt8) (hs : s.length < 1000000000) : ACallsTo TC 100 [.str s] σ (.str (textS s)) σ := by
  refine ACallsTo.of_body speculumref03_Text_ok (by simp) fun hw _ => ?_
  have hN := fun σ => ref_Num_to σ s.length (by omega)
  have h1 := numS_le s.length
  unfold textS
  generalize numS s.length = N at *
  repeat' (first | refine SWp.seq ?_ | refine SWp.block ?_ | refine SWp.scope ?_ | refine SWp.condT rfl ?_ | refine SWp.condF rfl ?_ | (refine SWp.condD rfl (fun ht => ?_) (fun ht => ?_) <;> try (exfalso; omega)) | ((first | refine SWp.reg ?_ | refine SWp.skip ?_ | refine SWp.exit ?_ | refine SWp.ret ?_ | (apply callW.mk_pu; (first | exact (fun _ => hN _))) | (apply callW.any; (first | exact (hN _))) | ((first | apply splitG | apply splitGB | apply splitR | apply splitRB | apply splitE | apply splitEB | apply splitC | apply splitCB) <;> intro ht)); all_goals try simp (disch := first | omega | (simp only [lens, hc_len, hr_len, List.length_reverse, byteEs_len, byteEsC_len]; first | done | omega)) only [go_sem, Nat.reduceEqDiff, Nat.reduceBEq, Nat.reduceAdd, Nat.reduceMul, Nat.reduceSub, Nat.reduceLeDiff, Int.reduceToNat, Int.reducePow]))
  exact DownV.same hw (rlB_ok _ rfl)
set_option maxHeartbeats 4000000 in
theorem take_to (σ : Store) (s : List UInt8) (n : Nat) (hs : s.length < 1000000000) (hn : n < 18446744073709551616) : ACallsTo TC 151 [.str s, .int .u64 n] σ (stV (takeS s n)) σ := by
  refine ACallsTo.of_body codec_take_ok (by simp) fun hw _ => ?_
  by_cases h : n ≤ s.length
  · unfold takeS
    rw [if_pos h]
    unfold stV
    repeat' (first | refine SWp.seq ?_ | refine SWp.block ?_ | refine SWp.scope ?_ | refine SWp.condT rfl ?_ | refine SWp.condF rfl ?_ | (refine SWp.condD rfl (fun ht => ?_) (fun ht => ?_) <;> try (exfalso; omega)) | ((first | refine SWp.reg ?_ | refine SWp.skip ?_ | refine SWp.exit ?_ | refine SWp.ret ?_ | ((first | apply splitG | apply splitGB | apply splitR | apply splitRB | apply splitE | apply splitEB | apply splitC | apply splitCB) <;> intro ht)); all_goals try simp (disch := first | omega | (simp only [lens, hc_len, hr_len, List.length_reverse, byteEs_len, byteEsC_len]; first | done | omega)) only [go_sem, Nat.reduceEqDiff, Nat.reduceBEq, Nat.reduceAdd, Nat.reduceMul, Nat.reduceSub, Nat.reduceLeDiff, Int.reduceToNat, Int.reducePow]))
    exact DownV.same hw (rlB_ok _ rfl)
  · unfold takeS
    rw [if_neg h]
    unfold stV
    repeat' (first | refine SWp.seq ?_ | refine SWp.block ?_ | refine SWp.scope ?_ | refine SWp.condT rfl ?_ | refine SWp.condF rfl ?_ | (refine SWp.condD rfl (fun ht => ?_) (fun ht => ?_) <;> try (exfalso; omega)) | ((first | refine SWp.reg ?_ | refine SWp.skip ?_ | refine SWp.exit ?_ | refine SWp.ret ?_ | ((first | apply splitG | apply splitGB | apply splitR | apply splitRB | apply splitE | apply splitEB | apply splitC | apply splitCB) <;> intro ht)); all_goals try simp (disch := first | omega | (simp only [lens, hc_len, hr_len, List.length_reverse, byteEs_len, byteEsC_len]; first | done | omega)) only [go_sem, Nat.reduceEqDiff, Nat.reduceBEq, Nat.reduceAdd, Nat.reduceMul, Nat.reduceSub, Nat.reduceLeDiff, Int.reduceToNat, Int.reducePow]))
    exact DownV.same hw (rlB_ok _ rfl)
set_option maxHeartbeats 4000000 in
theorem codec_Cut_to (σ : Store) (s : List UInt8) (hs : s.length < 1000000000) : ACallsTo TC 104 [.str s] σ (stV (cutS s)) σ := by
  refine ACallsTo.of_body codec_Cut_ok (by simp) fun hw _ => ?_
  have hR := fun σ => codec_Read_to σ s hs
  unfold cutS
  cases hr : readS s with
  | none =>
    rw [hr] at hR
    unfold rdV at hR
    unfold stV
    repeat' (first | refine SWp.seq ?_ | refine SWp.block ?_ | refine SWp.scope ?_ | refine SWp.condT rfl ?_ | refine SWp.condF rfl ?_ | (refine SWp.condD rfl (fun ht => ?_) (fun ht => ?_) <;> try (exfalso; omega)) | ((first | refine SWp.reg ?_ | refine SWp.skip ?_ | refine SWp.exit ?_ | refine SWp.ret ?_ | (apply callW.mk_pu; (first | exact (fun _ => hR _))) | (apply callW.any; (first | exact (hR _))) | ((first | apply splitG | apply splitGB | apply splitR | apply splitRB | apply splitE | apply splitEB | apply splitC | apply splitCB) <;> intro ht)); all_goals try simp (disch := first | omega | (simp only [lens, hc_len, hr_len, List.length_reverse, byteEs_len, byteEsC_len]; first | done | omega)) only [go_sem, Nat.reduceEqDiff, Nat.reduceBEq, Nat.reduceAdd, Nat.reduceMul, Nat.reduceSub, Nat.reduceLeDiff, Int.reduceToNat, Int.reducePow]))
    exact DownV.same hw (rlB_ok _ rfl)
  | some x =>
    obtain ⟨n, r⟩ := x
    obtain ⟨h1, h2⟩ := readS_lt hr
    rw [hr] at hR
    unfold rdV at hR
    have hT := fun σ => take_to σ r n (by omega) h1
    simp only [Option.bind_some]
    unfold stV at hT ⊢
    cases ht : takeS r n with
    | none =>
      rw [ht] at hT
      repeat' (first | refine SWp.seq ?_ | refine SWp.block ?_ | refine SWp.scope ?_ | refine SWp.condT rfl ?_ | refine SWp.condF rfl ?_ | (refine SWp.condD rfl (fun ht => ?_) (fun ht => ?_) <;> try (exfalso; omega)) | ((first | refine SWp.reg ?_ | refine SWp.skip ?_ | refine SWp.exit ?_ | refine SWp.ret ?_ | (apply callW.mk_pu; (first | exact (fun _ => hR _) | exact (fun _ => hT _))) | (apply callW.any; (first | exact (hR _) | exact (hT _))) | ((first | apply splitG | apply splitGB | apply splitR | apply splitRB | apply splitE | apply splitEB | apply splitC | apply splitCB) <;> intro ht)); all_goals try simp (disch := first | omega | (simp only [lens, hc_len, hr_len, List.length_reverse, byteEs_len, byteEsC_len]; first | done | omega)) only [go_sem, Nat.reduceEqDiff, Nat.reduceBEq, Nat.reduceAdd, Nat.reduceMul, Nat.reduceSub, Nat.reduceLeDiff, Int.reduceToNat, Int.reducePow]))
      exact DownV.same hw (rlB_ok _ rfl)
    | some y =>
      rw [ht] at hT
      repeat' (first | refine SWp.seq ?_ | refine SWp.block ?_ | refine SWp.scope ?_ | refine SWp.condT rfl ?_ | refine SWp.condF rfl ?_ | (refine SWp.condD rfl (fun ht => ?_) (fun ht => ?_) <;> try (exfalso; omega)) | ((first | refine SWp.reg ?_ | refine SWp.skip ?_ | refine SWp.exit ?_ | refine SWp.ret ?_ | (apply callW.mk_pu; (first | exact (fun _ => hR _) | exact (fun _ => hT _))) | (apply callW.any; (first | exact (hR _) | exact (hT _))) | ((first | apply splitG | apply splitGB | apply splitR | apply splitRB | apply splitE | apply splitEB | apply splitC | apply splitCB) <;> intro ht)); all_goals try simp (disch := first | omega | (simp only [lens, hc_len, hr_len, List.length_reverse, byteEs_len, byteEsC_len]; first | done | omega)) only [go_sem, Nat.reduceEqDiff, Nat.reduceBEq, Nat.reduceAdd, Nat.reduceMul, Nat.reduceSub, Nat.reduceLeDiff, Int.reduceToNat, Int.reducePow]))
      exact DownV.same hw (rlB_ok _ rfl)
set_option maxHeartbeats 4000000 in
theorem ref_Cut_to (σ : Store) (s : List UInt8) (hs : s.length < 1000000000) : ACallsTo TC 109 [.str s] σ (stV (cutS s)) σ := by
  refine ACallsTo.of_body speculumref03_Cut_ok (by simp) fun hw _ => ?_
  have hR := fun σ => ref_Read_to σ s hs
  unfold cutS
  cases hr : readS s with
  | none =>
    rw [hr] at hR
    unfold rdV at hR
    unfold stV
    repeat' (first | refine SWp.seq ?_ | refine SWp.block ?_ | refine SWp.scope ?_ | refine SWp.condT rfl ?_ | refine SWp.condF rfl ?_ | (refine SWp.condD rfl (fun ht => ?_) (fun ht => ?_) <;> try (exfalso; omega)) | ((first | refine SWp.reg ?_ | refine SWp.skip ?_ | refine SWp.exit ?_ | refine SWp.ret ?_ | (apply callW.mk_pu; (first | exact (fun _ => hR _))) | (apply callW.any; (first | exact (hR _))) | ((first | apply splitG | apply splitGB | apply splitR | apply splitRB | apply splitE | apply splitEB | apply splitC | apply splitCB) <;> intro ht)); all_goals try simp (disch := first | omega | (simp only [lens, hc_len, hr_len, List.length_reverse, byteEs_len, byteEsC_len]; first | done | omega)) only [go_sem, Nat.reduceEqDiff, Nat.reduceBEq, Nat.reduceAdd, Nat.reduceMul, Nat.reduceSub, Nat.reduceLeDiff, Int.reduceToNat, Int.reducePow]))
    exact DownV.same hw (rlB_ok _ rfl)
  | some x =>
    obtain ⟨n, r⟩ := x
    obtain ⟨h1, h2⟩ := readS_lt hr
    rw [hr] at hR
    unfold rdV at hR
    simp only [Option.bind_some]
    unfold takeS
    by_cases h : n ≤ r.length
    · rw [if_pos h]
      unfold stV
      repeat' (first | refine SWp.seq ?_ | refine SWp.block ?_ | refine SWp.scope ?_ | refine SWp.condT rfl ?_ | refine SWp.condF rfl ?_ | (refine SWp.condD rfl (fun ht => ?_) (fun ht => ?_) <;> try (exfalso; omega)) | ((first | refine SWp.reg ?_ | refine SWp.skip ?_ | refine SWp.exit ?_ | refine SWp.ret ?_ | (apply callW.mk_pu; (first | exact (fun _ => hR _))) | (apply callW.any; (first | exact (hR _))) | ((first | apply splitG | apply splitGB | apply splitR | apply splitRB | apply splitE | apply splitEB | apply splitC | apply splitCB) <;> intro ht)); all_goals try simp (disch := first | omega | (simp only [lens, hc_len, hr_len, List.length_reverse, byteEs_len, byteEsC_len]; first | done | omega)) only [go_sem, Nat.reduceEqDiff, Nat.reduceBEq, Nat.reduceAdd, Nat.reduceMul, Nat.reduceSub, Nat.reduceLeDiff, Int.reduceToNat, Int.reducePow]))
      exact DownV.same hw (rlB_ok _ rfl)
    · rw [if_neg h]
      unfold stV
      repeat' (first | refine SWp.seq ?_ | refine SWp.block ?_ | refine SWp.scope ?_ | refine SWp.condT rfl ?_ | refine SWp.condF rfl ?_ | (refine SWp.condD rfl (fun ht => ?_) (fun ht => ?_) <;> try (exfalso; omega)) | ((first | refine SWp.reg ?_ | refine SWp.skip ?_ | refine SWp.exit ?_ | refine SWp.ret ?_ | (apply callW.mk_pu; (first | exact (fun _ => hR _))) | (apply callW.any; (first | exact (hR _))) | ((first | apply splitG | apply splitGB | apply splitR | apply splitRB | apply splitE | apply splitEB | apply splitC | apply splitCB) <;> intro ht)); all_goals try simp (disch := first | omega | (simp only [lens, hc_len, hr_len, List.length_reverse, byteEs_len, byteEsC_len]; first | done | omega)) only [go_sem, Nat.reduceEqDiff, Nat.reduceBEq, Nat.reduceAdd, Nat.reduceMul, Nat.reduceSub, Nat.reduceLeDiff, Int.reduceToNat, Int.reducePow]))
      exact DownV.same hw (rlB_ok _ rfl)
end Am
end Go.Proofs.YthgcooppjhcgcaaDoor
end
section
set_option linter.unusedSimpArgs false
set_option linter.unusedVariables false
/- Codec: contracts: the hash that stands ahead. -/
namespace Go.Proofs.YthgcooppjhcgcaaDoor
namespace Am
attribute [local irreducible] ACallsTo ACallsP
def toH (l : List UInt8) : Hash := if h : l.length = 32 then ⟨l, h⟩ else zeroH
theorem hc_toH {l : List UInt8} (h : l.length = 32) : hc (toH l) = byteEsC l := by simp [toH, h, hc]
theorem toH_val (h : Hash) : toH h.1 = h := by simp [toH, h.2]
def unS (s : List UInt8) : Option (Hash × List UInt8) := (takeS s 32).map fun x => (toH x.1, x.2)
def unV : Option (Hash × List UInt8) → AV
  | none => .tup [.agg (hc zeroH), .str [], .bool false]
  | some (h, r) => .tup [.agg (hc h), .str r, .bool true]
theorem unS_none {s : List UInt8} (h : ¬ 32 ≤ s.length) : unS s = none := by simp [unS, takeS, h]
theorem unS_some {s : List UInt8} (h : 32 ≤ s.length) : unS s = some (toH (s.take 32), s.drop 32) := by simp [unS, takeS, h]
theorem unV_some (h : Hash) (r : List UInt8) : unV (some (h, r)) = .tup [.agg (hc h), .str r, .bool true] := rfl
theorem unV_none : unV none = .tup [.agg z32, .str [], .bool false] := rfl
theorem rl_un {k : Nat} {cs : List AV} {r : List UInt8} {b : Bool} (h : RLs k cs) : RL k (.tup [.agg cs, .str r, .bool b]) := by
  simp only [RL, RLs]; exact ⟨h, trivial, trivial, trivial⟩
theorem z32_len : z32.length = 32 := rfl
set_option maxHeartbeats 4000000 in
theorem codec_Unhash_to (σ : Store) (s : List UInt8) (hs : s.length < 1000000000) : ACallsTo TC 103 [.str s] σ (unV (unS s)) σ := by
  refine ACallsTo.of_body codec_Unhash_ok (by simp) fun hw _ => ?_
  have hT := fun σ => take_to σ s 32 hs (by omega)
  by_cases h : 32 ≤ s.length
  · rw [unS_some h]
    rw [unV_some, hc_toH (by simp; omega)]
    have ht : takeS s 32 = some (s.take 32, s.drop 32) := by simp [takeS, h]
    rw [ht] at hT
    unfold stV at hT
    have hl : (s.take 32).length = 32 := by simp; omega
    generalize s.take 32 = a at *
    have hf := byteEs_flat a
    have hft : (byteEs a).take 32 = byteEs a := List.take_of_length_le (by rw [byteEs_len]; omega)
    have hfc : (byteEsC a).length = 32 := by rw [byteEsC_len]; exact hl
    have hfd : (byteEsC a).drop 32 = [] := List.drop_of_length_le (by omega)
    have hfk : (byteEsC a).take 32 = byteEsC a := List.take_of_length_le (by omega)
    repeat' (first | refine SWp.seq ?_ | refine SWp.block ?_ | refine SWp.scope ?_ | refine SWp.condT rfl ?_ | refine SWp.condF rfl ?_ | (refine SWp.condD rfl (fun ht => ?_) (fun ht => ?_) <;> try (exfalso; omega)) | ((first | refine SWp.reg ?_ | refine SWp.skip ?_ | refine SWp.exit ?_ | refine SWp.ret ?_ | (apply callW.mk_pu; (first | exact (fun _ => hT _))) | (apply callW.any; (first | exact (hT _))) | ((first | apply splitG | apply splitGB | apply splitR | apply splitRB | apply splitE | apply splitEB | apply splitC | apply splitCB) <;> intro ht)); all_goals try simp (disch := first | omega | (simp only [lens, hc_len, hr_len, List.length_reverse, byteEs_len, byteEsC_len]; first | done | omega)) only [go_sem, Nat.reduceEqDiff, Nat.reduceBEq, Nat.reduceAdd, Nat.reduceMul, Nat.reduceSub, Nat.reduceLeDiff, Int.reduceToNat, Int.reducePow, hf, hft, hl, hfc, hfd, hfk, List.append_nil, z32_len]))
    exact DownV.pure hw (rl_un (rl_bytes _))
  · rw [unS_none h, unV_none]
    have ht : takeS s 32 = none := by simp [takeS, h]
    rw [ht] at hT
    unfold stV at hT
    have hbe : (byteEs []).flatten = ([] : List AV) := rfl
    repeat' (first | refine SWp.seq ?_ | refine SWp.block ?_ | refine SWp.scope ?_ | refine SWp.condT rfl ?_ | refine SWp.condF rfl ?_ | (refine SWp.condD rfl (fun ht => ?_) (fun ht => ?_) <;> try (exfalso; omega)) | ((first | refine SWp.reg ?_ | refine SWp.skip ?_ | refine SWp.exit ?_ | refine SWp.ret ?_ | (apply callW.mk_pu; (first | exact (fun _ => hT _))) | (apply callW.any; (first | exact (hT _))) | ((first | apply splitG | apply splitGB | apply splitR | apply splitRB | apply splitE | apply splitEB | apply splitC | apply splitCB) <;> intro ht)); all_goals try simp (disch := first | omega | (simp only [lens, hc_len, hr_len, List.length_reverse, byteEs_len, byteEsC_len]; first | done | omega)) only [go_sem, Nat.reduceEqDiff, Nat.reduceBEq, Nat.reduceAdd, Nat.reduceMul, Nat.reduceSub, Nat.reduceLeDiff, Int.reduceToNat, Int.reducePow, z32_len, hbe, List.nil_append, List.drop_zero]))
    exact DownV.pure hw (rl_un (cs := z32) (rl_bytes (List.replicate 32 0)))
def ucells (s : List UInt8) (i : Nat) : List AV := byteEsC (s.take i) ++ List.replicate (32 - i) (.int .u8 0)
theorem ucells_len {s : List UInt8} {i : Nat} (h : i ≤ 32) (hs : 32 ≤ s.length) : (ucells s i).length = 32 := by simp [ucells, byteEsC_len]; omega
theorem ucells_step {s : List UInt8} {i : Nat} (h : i < 32) (hs : 32 ≤ s.length) :
    (ucells s i).take i ++ AV.int .u8 (s.getD i 0).toNat :: (ucells s i).drop (i + 1) = ucells s (i + 1) := by
  have h1 : (byteEsC (s.take i)).length = i := by rw [byteEsC_len, List.length_take]; omega
  have hs2 : s.take (i + 1) = s.take i ++ [s.getD i 0] := by
    rw [← List.take_append_getElem (by omega : i < s.length)]; simp [show i < s.length by omega]
  unfold ucells
  rw [List.take_append_of_le_length (by omega), List.take_of_length_le (by omega), List.drop_append, List.drop_of_length_le (by omega), h1, show i + 1 - i = 1 by omega, List.nil_append, hs2]
  rw [List.drop_replicate, show 32 - i - 1 = 32 - (i + 1) by omega]
  simp [byteEsC]
theorem ucells_end {s : List UInt8} : ucells s 32 = byteEsC (s.take 32) := by simp [ucells]
set_option maxHeartbeats 4000000 in
theorem ref_Unhash_to (σ : Store) (s : List UInt8) (hs : s.length < 1000000000) : ACallsTo TC 108 [.str s] σ (unV (unS s)) σ := by
  refine ACallsTo.of_body speculumref03_Unhash_ok (by simp) fun hw _ => ?_
  by_cases h : 32 ≤ s.length
  · rw [unS_some h]
    rw [unV_some, hc_toH (by simp; omega)]
    repeat' (first | refine SWp.seq ?_ | refine SWp.block ?_ | refine SWp.scope ?_ | refine SWp.condT rfl ?_ | refine SWp.condF rfl ?_ | (refine SWp.condD rfl (fun ht => ?_) (fun ht => ?_) <;> try (exfalso; omega)) | ((first | refine SWp.reg ?_ | refine SWp.skip ?_ | refine SWp.exit ?_ | refine SWp.ret ?_ | ((first | apply splitG | apply splitGB | apply splitR | apply splitRB | apply splitE | apply splitEB | apply splitC | apply splitCB) <;> intro ht)); all_goals try simp (disch := first | omega | (simp only [lens, hc_len, hr_len, List.length_reverse, byteEs_len, byteEsC_len]; first | done | omega)) only [go_sem, Nat.reduceEqDiff, Nat.reduceBEq, Nat.reduceAdd, Nat.reduceMul, Nat.reduceSub, Nat.reduceLeDiff, Int.reduceToNat, Int.reducePow, z32_len]))
    refine SWp.loop (fun m ρ σ' => ∃ i : Nat, m + i = 32 ∧ ρ 0 = .str s ∧ ρ 2 = .ptr σ.length 0 0 ∧ ρ 5 = .ptr (σ.length + 1) 0 0 ∧ ρ 6 = .int .i64 i ∧ σ' = σ ++ [some [z32], some [ucells s i]]) 32 ?_ ?_
    · exact ⟨0, by omega, by simp (disch := first | omega | (simp only [lens, hc_len, hr_len, List.length_reverse, byteEs_len, byteEsC_len]; first | done | omega)) only [go_sem, Nat.reduceEqDiff, Nat.reduceBEq, Nat.reduceAdd, Nat.reduceMul, Nat.reduceSub, Nat.reduceLeDiff, Int.reduceToNat, Int.reducePow], by simp (disch := first | omega | (simp only [lens, hc_len, hr_len, List.length_reverse, byteEs_len, byteEsC_len]; first | done | omega)) only [go_sem, Nat.reduceEqDiff, Nat.reduceBEq, Nat.reduceAdd, Nat.reduceMul, Nat.reduceSub, Nat.reduceLeDiff, Int.reduceToNat, Int.reducePow], by simp (disch := first | omega | (simp only [lens, hc_len, hr_len, List.length_reverse, byteEs_len, byteEsC_len]; first | done | omega)) only [go_sem, Nat.reduceEqDiff, Nat.reduceBEq, Nat.reduceAdd, Nat.reduceMul, Nat.reduceSub, Nat.reduceLeDiff, Int.reduceToNat, Int.reducePow], by simp (disch := first | omega | (simp only [lens, hc_len, hr_len, List.length_reverse, byteEs_len, byteEsC_len]; first | done | omega)) only [go_sem, Nat.reduceEqDiff, Nat.reduceBEq, Nat.reduceAdd, Nat.reduceMul, Nat.reduceSub, Nat.reduceLeDiff, Int.reduceToNat, Int.reducePow]; rfl, rfl⟩
    · rintro m ρ σ' ⟨i, hm, q0, q2, q5, q6, rfl⟩
      have hlen := ucells_len (s := s) (i := i) (by omega) h
      by_cases hi : i < 32
      · have hst := ucells_step hi h
        generalize ucells s i = cc at *
        repeat' (first | refine SWp.seq ?_ | refine SWp.block ?_ | refine SWp.scope ?_ | refine SWp.condT rfl ?_ | refine SWp.condF rfl ?_ | (refine SWp.condD rfl (fun ht => ?_) (fun ht => ?_) <;> try (exfalso; omega)) | ((first | refine SWp.reg ?_ | refine SWp.skip ?_ | refine SWp.exit ?_ | refine SWp.ret ?_ | ((first | apply splitG | apply splitGB | apply splitR | apply splitRB | apply splitE | apply splitEB | apply splitC | apply splitCB) <;> intro ht)); all_goals try simp (disch := first | omega | (simp only [lens, hc_len, hr_len, List.length_reverse, byteEs_len, byteEsC_len]; first | done | omega)) only [go_sem, Nat.reduceEqDiff, Nat.reduceBEq, Nat.reduceAdd, Nat.reduceMul, Nat.reduceSub, Nat.reduceLeDiff, Int.reduceToNat, Int.reducePow, q0, q2, q5, q6, hlen, hst, z32_len]))
        exact ⟨31 - i, by omega, i + 1, by omega, by simp, rfl⟩
      · obtain rfl : i = 32 := by omega
        rw [ucells_end] at *
        have hd : List.drop 32 z32 = [] := rfl
        repeat' (first | refine SWp.seq ?_ | refine SWp.block ?_ | refine SWp.scope ?_ | refine SWp.condT rfl ?_ | refine SWp.condF rfl ?_ | (refine SWp.condD rfl (fun ht => ?_) (fun ht => ?_) <;> try (exfalso; omega)) | ((first | refine SWp.reg ?_ | refine SWp.skip ?_ | refine SWp.exit ?_ | refine SWp.ret ?_ | ((first | apply splitG | apply splitGB | apply splitR | apply splitRB | apply splitE | apply splitEB | apply splitC | apply splitCB) <;> intro ht)); all_goals try simp (disch := first | omega | (simp only [lens, hc_len, hr_len, List.length_reverse, byteEs_len, byteEsC_len]; first | done | omega)) only [go_sem, Nat.reduceEqDiff, Nat.reduceBEq, Nat.reduceAdd, Nat.reduceMul, Nat.reduceSub, Nat.reduceLeDiff, Int.reduceToNat, Int.reducePow, q0, q2, q5, q6, hlen, hd, z32_len]))
        exact DownV.pure hw (rl_un (rl_bytes _))
  · rw [unS_none h, unV_none]
    have hd : List.drop 32 z32 = [] := rfl
    repeat' (first | refine SWp.seq ?_ | refine SWp.block ?_ | refine SWp.scope ?_ | refine SWp.condT rfl ?_ | refine SWp.condF rfl ?_ | (refine SWp.condD rfl (fun ht => ?_) (fun ht => ?_) <;> try (exfalso; omega)) | ((first | refine SWp.reg ?_ | refine SWp.skip ?_ | refine SWp.exit ?_ | refine SWp.ret ?_ | ((first | apply splitG | apply splitGB | apply splitR | apply splitRB | apply splitE | apply splitEB | apply splitC | apply splitCB) <;> intro ht)); all_goals try simp (disch := first | omega | (simp only [lens, hc_len, hr_len, List.length_reverse, byteEs_len, byteEsC_len]; first | done | omega)) only [go_sem, Nat.reduceEqDiff, Nat.reduceBEq, Nat.reduceAdd, Nat.reduceMul, Nat.reduceSub, Nat.reduceLeDiff, Int.reduceToNat, Int.reducePow, z32_len, hd]))
    exact DownV.pure hw (rl_un (cs := z32) (rl_bytes (List.replicate 32 0)))
end Am
end Go.Proofs.YthgcooppjhcgcaaDoor
end
