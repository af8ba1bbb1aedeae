/- THE ABSTRACT MACHINE, part 25: its steps, gathered for simp; numbers decided by omega. -/
import Derived.Test.YtkffgmpbhahioaaAmSimp
namespace Go.Proofs.Ytkffgmpbhahioaa
namespace Am
section
variable {C : Ctx} {n k : Nat} {Q : AExit → Env → Store → Prop} {ρ : Env} {σ : Store}
theorem SWp.condD {x : AX} {p q : ACode} {P : Prop} [hd : Decidable P] (hx : x.ev ρ = .bool (@decide P hd)) (h1 : P → SWp C n k p Q ρ σ) (h2 : ¬ P → SWp C n k q Q ρ σ) : SWp C n k (.cond x p q) Q ρ σ :=
  SWp.cond hx (fun h => h1 (of_decide_eq_true h)) (fun h => h2 (of_decide_eq_false h))
theorem SWp.condT {x : AX} {p q : ACode} (hx : x.ev ρ = .bool true) (h1 : SWp C n k p Q ρ σ) : SWp C n k (.cond x p q) Q ρ σ :=
  SWp.cond hx (fun _ => h1) (fun h => by cases h)
theorem SWp.condF {x : AX} {p q : ACode} (hx : x.ev ρ = .bool false) (h1 : SWp C n k q Q ρ σ) : SWp C n k (.cond x p q) Q ρ σ :=
  SWp.cond hx (fun h => by cases h) (fun _ => h1)
theorem w_i64 {n : Int} (h : -9223372036854775808 ≤ n ∧ n < 9223372036854775808) : IntKind.i64.wrap n = n := by
  simp [IntKind.wrap, IntKind.signed, IntKind.bits]; omega
theorem w_u64 {n : Int} (h : 0 ≤ n ∧ n < 18446744073709551616) : IntKind.u64.wrap n = n := by
  simp [IntKind.wrap, IntKind.signed, IntKind.bits]; omega
theorem w_u32 {n : Int} (h : 0 ≤ n ∧ n < 4294967296) : IntKind.u32.wrap n = n := by
  simp [IntKind.wrap, IntKind.signed, IntKind.bits]; omega
theorem w_u16 {n : Int} (h : 0 ≤ n ∧ n < 65536) : IntKind.u16.wrap n = n := by
  simp [IntKind.wrap, IntKind.signed, IntKind.bits]; omega
theorem w_u8 {n : Int} (h : 0 ≤ n ∧ n < 256) : IntKind.u8.wrap n = n := by
  simp [IntKind.wrap, IntKind.signed, IntKind.bits]; omega
theorem shr_u8 {a b : Int} (h : 0 ≤ b ∧ b < 8) : shBin .shr .u8 a b = some (.int .u8 (a / 2 ^ b.toNat)) := by
  simp only [shBin, IntKind.bits]
  rw [if_neg (by omega), Nat.min_eq_left (by omega), Int.fdiv_eq_ediv_of_nonneg _ (Int.pow_nonneg (by decide))]
theorem shl_u8 {a b : Int} (h : 0 ≤ b ∧ b < 8) : shBin .shl .u8 a b = some (.int .u8 (IntKind.u8.wrap (a * 2 ^ b.toNat))) := by
  simp only [shBin, IntKind.bits]
  rw [if_neg (by omega), Nat.min_eq_left (by omega)]
theorem shr_u16 {a b : Int} (h : 0 ≤ b ∧ b < 16) : shBin .shr .u16 a b = some (.int .u16 (a / 2 ^ b.toNat)) := by
  simp only [shBin, IntKind.bits]
  rw [if_neg (by omega), Nat.min_eq_left (by omega), Int.fdiv_eq_ediv_of_nonneg _ (Int.pow_nonneg (by decide))]
theorem shl_u16 {a b : Int} (h : 0 ≤ b ∧ b < 16) : shBin .shl .u16 a b = some (.int .u16 (IntKind.u16.wrap (a * 2 ^ b.toNat))) := by
  simp only [shBin, IntKind.bits]
  rw [if_neg (by omega), Nat.min_eq_left (by omega)]
theorem shr_u32 {a b : Int} (h : 0 ≤ b ∧ b < 32) : shBin .shr .u32 a b = some (.int .u32 (a / 2 ^ b.toNat)) := by
  simp only [shBin, IntKind.bits]
  rw [if_neg (by omega), Nat.min_eq_left (by omega), Int.fdiv_eq_ediv_of_nonneg _ (Int.pow_nonneg (by decide))]
theorem shl_u32 {a b : Int} (h : 0 ≤ b ∧ b < 32) : shBin .shl .u32 a b = some (.int .u32 (IntKind.u32.wrap (a * 2 ^ b.toNat))) := by
  simp only [shBin, IntKind.bits]
  rw [if_neg (by omega), Nat.min_eq_left (by omega)]
theorem shr_u64 {a b : Int} (h : 0 ≤ b ∧ b < 64) : shBin .shr .u64 a b = some (.int .u64 (a / 2 ^ b.toNat)) := by
  simp only [shBin, IntKind.bits]
  rw [if_neg (by omega), Nat.min_eq_left (by omega), Int.fdiv_eq_ediv_of_nonneg _ (Int.pow_nonneg (by decide))]
theorem shl_u64 {a b : Int} (h : 0 ≤ b ∧ b < 64) : shBin .shl .u64 a b = some (.int .u64 (IntKind.u64.wrap (a * 2 ^ b.toNat))) := by
  simp only [shBin, IntKind.bits]
  rw [if_neg (by omega), Nat.min_eq_left (by omega)]
theorem shr_i64 {a b : Int} (h : 0 ≤ b ∧ b < 64) : shBin .shr .i64 a b = some (.int .i64 (a / 2 ^ b.toNat)) := by
  simp only [shBin, IntKind.bits]
  rw [if_neg (by omega), Nat.min_eq_left (by omega), Int.fdiv_eq_ediv_of_nonneg _ (Int.pow_nonneg (by decide))]
theorem shl_i64 {a b : Int} (h : 0 ≤ b ∧ b < 64) : shBin .shl .i64 a b = some (.int .i64 (IntKind.i64.wrap (a * 2 ^ b.toNat))) := by
  simp only [shBin, IntKind.bits]
  rw [if_neg (by omega), Nat.min_eq_left (by omega)]
theorem ib_add {k : IntKind} {a b : Int} : intBin .add k a b = some (.int k (k.wrap (a + b))) := rfl
theorem ib_sub {k : IntKind} {a b : Int} : intBin .sub k a b = some (.int k (k.wrap (a - b))) := rfl
theorem ib_mul {k : IntKind} {a b : Int} : intBin .mul k a b = some (.int k (k.wrap (a * b))) := rfl
theorem ib_quo {k : IntKind} {a b : Int} : intBin .quo k a b = if b = 0 then none else some (.int k (k.wrap (a.tdiv b))) := rfl
theorem ib_rem {k : IntKind} {a b : Int} : intBin .rem k a b = if b = 0 then none else some (.int k (a.tmod b)) := rfl
theorem ib_eql {k : IntKind} {a b : Int} : intBin .eql k a b = some (.bool (a == b)) := rfl
theorem ib_neq {k : IntKind} {a b : Int} : intBin .neq k a b = some (.bool (a != b)) := rfl
theorem ib_lss {k : IntKind} {a b : Int} : intBin .lss k a b = some (.bool (decide (a < b))) := rfl
theorem ib_leq {k : IntKind} {a b : Int} : intBin .leq k a b = some (.bool (decide (a ≤ b))) := rfl
theorem ib_gtr {k : IntKind} {a b : Int} : intBin .gtr k a b = some (.bool (decide (a > b))) := rfl
theorem ib_geq {k : IntKind} {a b : Int} : intBin .geq k a b = some (.bool (decide (a ≥ b))) := rfl
theorem ib_and_u8 {a b : Int} (ha : 0 ≤ a ∧ a < 256) (hb : 0 ≤ b ∧ b < 256) : intBin .and .u8 a b = some (.int .u8 ((a.toNat &&& b.toNat : Nat) : Int)) := by
  have h : (BitVec.ofInt IntKind.u8.bits a &&& BitVec.ofInt IntKind.u8.bits b).toNat = a.toNat &&& b.toNat := by
    rw [BitVec.toNat_and, BitVec.toNat_ofInt, BitVec.toNat_ofInt]
    simp only [IntKind.bits]
    rw [Int.emod_eq_of_lt (by omega) (by omega), Int.emod_eq_of_lt (by omega) (by omega)]
  have h1 : a.toNat < 2 ^ 8 := by omega
  have h2 : b.toNat < 2 ^ 8 := by omega
  have h3 : a.toNat &&& b.toNat < 2 ^ 8 := Nat.and_lt_two_pow _ h2
  simp only [intBin]
  rw [h, w_u8 ⟨by omega, by omega⟩]
theorem ib_or_u8 {a b : Int} (ha : 0 ≤ a ∧ a < 256) (hb : 0 ≤ b ∧ b < 256) : intBin .or .u8 a b = some (.int .u8 ((a.toNat ||| b.toNat : Nat) : Int)) := by
  have h : (BitVec.ofInt IntKind.u8.bits a ||| BitVec.ofInt IntKind.u8.bits b).toNat = a.toNat ||| b.toNat := by
    rw [BitVec.toNat_or, BitVec.toNat_ofInt, BitVec.toNat_ofInt]
    simp only [IntKind.bits]
    rw [Int.emod_eq_of_lt (by omega) (by omega), Int.emod_eq_of_lt (by omega) (by omega)]
  have h1 : a.toNat < 2 ^ 8 := by omega
  have h2 : b.toNat < 2 ^ 8 := by omega
  have h3 : a.toNat ||| b.toNat < 2 ^ 8 := Nat.or_lt_two_pow h1 h2
  simp only [intBin]
  rw [h, w_u8 ⟨by omega, by omega⟩]
theorem ib_xor_u8 {a b : Int} (ha : 0 ≤ a ∧ a < 256) (hb : 0 ≤ b ∧ b < 256) : intBin .xor .u8 a b = some (.int .u8 ((a.toNat ^^^ b.toNat : Nat) : Int)) := by
  have h : (BitVec.ofInt IntKind.u8.bits a ^^^ BitVec.ofInt IntKind.u8.bits b).toNat = a.toNat ^^^ b.toNat := by
    rw [BitVec.toNat_xor, BitVec.toNat_ofInt, BitVec.toNat_ofInt]
    simp only [IntKind.bits]
    rw [Int.emod_eq_of_lt (by omega) (by omega), Int.emod_eq_of_lt (by omega) (by omega)]
  have h1 : a.toNat < 2 ^ 8 := by omega
  have h2 : b.toNat < 2 ^ 8 := by omega
  have h3 : a.toNat ^^^ b.toNat < 2 ^ 8 := Nat.xor_lt_two_pow h1 h2
  simp only [intBin]
  rw [h, w_u8 ⟨by omega, by omega⟩]
theorem ib_and_u16 {a b : Int} (ha : 0 ≤ a ∧ a < 65536) (hb : 0 ≤ b ∧ b < 65536) : intBin .and .u16 a b = some (.int .u16 ((a.toNat &&& b.toNat : Nat) : Int)) := by
  have h : (BitVec.ofInt IntKind.u16.bits a &&& BitVec.ofInt IntKind.u16.bits b).toNat = a.toNat &&& b.toNat := by
    rw [BitVec.toNat_and, BitVec.toNat_ofInt, BitVec.toNat_ofInt]
    simp only [IntKind.bits]
    rw [Int.emod_eq_of_lt (by omega) (by omega), Int.emod_eq_of_lt (by omega) (by omega)]
  have h1 : a.toNat < 2 ^ 16 := by omega
  have h2 : b.toNat < 2 ^ 16 := by omega
  have h3 : a.toNat &&& b.toNat < 2 ^ 16 := Nat.and_lt_two_pow _ h2
  simp only [intBin]
  rw [h, w_u16 ⟨by omega, by omega⟩]
theorem ib_or_u16 {a b : Int} (ha : 0 ≤ a ∧ a < 65536) (hb : 0 ≤ b ∧ b < 65536) : intBin .or .u16 a b = some (.int .u16 ((a.toNat ||| b.toNat : Nat) : Int)) := by
  have h : (BitVec.ofInt IntKind.u16.bits a ||| BitVec.ofInt IntKind.u16.bits b).toNat = a.toNat ||| b.toNat := by
    rw [BitVec.toNat_or, BitVec.toNat_ofInt, BitVec.toNat_ofInt]
    simp only [IntKind.bits]
    rw [Int.emod_eq_of_lt (by omega) (by omega), Int.emod_eq_of_lt (by omega) (by omega)]
  have h1 : a.toNat < 2 ^ 16 := by omega
  have h2 : b.toNat < 2 ^ 16 := by omega
  have h3 : a.toNat ||| b.toNat < 2 ^ 16 := Nat.or_lt_two_pow h1 h2
  simp only [intBin]
  rw [h, w_u16 ⟨by omega, by omega⟩]
theorem ib_xor_u16 {a b : Int} (ha : 0 ≤ a ∧ a < 65536) (hb : 0 ≤ b ∧ b < 65536) : intBin .xor .u16 a b = some (.int .u16 ((a.toNat ^^^ b.toNat : Nat) : Int)) := by
  have h : (BitVec.ofInt IntKind.u16.bits a ^^^ BitVec.ofInt IntKind.u16.bits b).toNat = a.toNat ^^^ b.toNat := by
    rw [BitVec.toNat_xor, BitVec.toNat_ofInt, BitVec.toNat_ofInt]
    simp only [IntKind.bits]
    rw [Int.emod_eq_of_lt (by omega) (by omega), Int.emod_eq_of_lt (by omega) (by omega)]
  have h1 : a.toNat < 2 ^ 16 := by omega
  have h2 : b.toNat < 2 ^ 16 := by omega
  have h3 : a.toNat ^^^ b.toNat < 2 ^ 16 := Nat.xor_lt_two_pow h1 h2
  simp only [intBin]
  rw [h, w_u16 ⟨by omega, by omega⟩]
theorem ib_and_u32 {a b : Int} (ha : 0 ≤ a ∧ a < 4294967296) (hb : 0 ≤ b ∧ b < 4294967296) : intBin .and .u32 a b = some (.int .u32 ((a.toNat &&& b.toNat : Nat) : Int)) := by
  have h : (BitVec.ofInt IntKind.u32.bits a &&& BitVec.ofInt IntKind.u32.bits b).toNat = a.toNat &&& b.toNat := by
    rw [BitVec.toNat_and, BitVec.toNat_ofInt, BitVec.toNat_ofInt]
    simp only [IntKind.bits]
    rw [Int.emod_eq_of_lt (by omega) (by omega), Int.emod_eq_of_lt (by omega) (by omega)]
  have h1 : a.toNat < 2 ^ 32 := by omega
  have h2 : b.toNat < 2 ^ 32 := by omega
  have h3 : a.toNat &&& b.toNat < 2 ^ 32 := Nat.and_lt_two_pow _ h2
  simp only [intBin]
  rw [h, w_u32 ⟨by omega, by omega⟩]
theorem ib_or_u32 {a b : Int} (ha : 0 ≤ a ∧ a < 4294967296) (hb : 0 ≤ b ∧ b < 4294967296) : intBin .or .u32 a b = some (.int .u32 ((a.toNat ||| b.toNat : Nat) : Int)) := by
  have h : (BitVec.ofInt IntKind.u32.bits a ||| BitVec.ofInt IntKind.u32.bits b).toNat = a.toNat ||| b.toNat := by
    rw [BitVec.toNat_or, BitVec.toNat_ofInt, BitVec.toNat_ofInt]
    simp only [IntKind.bits]
    rw [Int.emod_eq_of_lt (by omega) (by omega), Int.emod_eq_of_lt (by omega) (by omega)]
  have h1 : a.toNat < 2 ^ 32 := by omega
  have h2 : b.toNat < 2 ^ 32 := by omega
  have h3 : a.toNat ||| b.toNat < 2 ^ 32 := Nat.or_lt_two_pow h1 h2
  simp only [intBin]
  rw [h, w_u32 ⟨by omega, by omega⟩]
theorem ib_xor_u32 {a b : Int} (ha : 0 ≤ a ∧ a < 4294967296) (hb : 0 ≤ b ∧ b < 4294967296) : intBin .xor .u32 a b = some (.int .u32 ((a.toNat ^^^ b.toNat : Nat) : Int)) := by
  have h : (BitVec.ofInt IntKind.u32.bits a ^^^ BitVec.ofInt IntKind.u32.bits b).toNat = a.toNat ^^^ b.toNat := by
    rw [BitVec.toNat_xor, BitVec.toNat_ofInt, BitVec.toNat_ofInt]
    simp only [IntKind.bits]
    rw [Int.emod_eq_of_lt (by omega) (by omega), Int.emod_eq_of_lt (by omega) (by omega)]
  have h1 : a.toNat < 2 ^ 32 := by omega
  have h2 : b.toNat < 2 ^ 32 := by omega
  have h3 : a.toNat ^^^ b.toNat < 2 ^ 32 := Nat.xor_lt_two_pow h1 h2
  simp only [intBin]
  rw [h, w_u32 ⟨by omega, by omega⟩]
theorem ib_and_u64 {a b : Int} (ha : 0 ≤ a ∧ a < 18446744073709551616) (hb : 0 ≤ b ∧ b < 18446744073709551616) : intBin .and .u64 a b = some (.int .u64 ((a.toNat &&& b.toNat : Nat) : Int)) := by
  have h : (BitVec.ofInt IntKind.u64.bits a &&& BitVec.ofInt IntKind.u64.bits b).toNat = a.toNat &&& b.toNat := by
    rw [BitVec.toNat_and, BitVec.toNat_ofInt, BitVec.toNat_ofInt]
    simp only [IntKind.bits]
    rw [Int.emod_eq_of_lt (by omega) (by omega), Int.emod_eq_of_lt (by omega) (by omega)]
  have h1 : a.toNat < 2 ^ 64 := by omega
  have h2 : b.toNat < 2 ^ 64 := by omega
  have h3 : a.toNat &&& b.toNat < 2 ^ 64 := Nat.and_lt_two_pow _ h2
  simp only [intBin]
  rw [h, w_u64 ⟨by omega, by omega⟩]
theorem ib_or_u64 {a b : Int} (ha : 0 ≤ a ∧ a < 18446744073709551616) (hb : 0 ≤ b ∧ b < 18446744073709551616) : intBin .or .u64 a b = some (.int .u64 ((a.toNat ||| b.toNat : Nat) : Int)) := by
  have h : (BitVec.ofInt IntKind.u64.bits a ||| BitVec.ofInt IntKind.u64.bits b).toNat = a.toNat ||| b.toNat := by
    rw [BitVec.toNat_or, BitVec.toNat_ofInt, BitVec.toNat_ofInt]
    simp only [IntKind.bits]
    rw [Int.emod_eq_of_lt (by omega) (by omega), Int.emod_eq_of_lt (by omega) (by omega)]
  have h1 : a.toNat < 2 ^ 64 := by omega
  have h2 : b.toNat < 2 ^ 64 := by omega
  have h3 : a.toNat ||| b.toNat < 2 ^ 64 := Nat.or_lt_two_pow h1 h2
  simp only [intBin]
  rw [h, w_u64 ⟨by omega, by omega⟩]
theorem ib_xor_u64 {a b : Int} (ha : 0 ≤ a ∧ a < 18446744073709551616) (hb : 0 ≤ b ∧ b < 18446744073709551616) : intBin .xor .u64 a b = some (.int .u64 ((a.toNat ^^^ b.toNat : Nat) : Int)) := by
  have h : (BitVec.ofInt IntKind.u64.bits a ^^^ BitVec.ofInt IntKind.u64.bits b).toNat = a.toNat ^^^ b.toNat := by
    rw [BitVec.toNat_xor, BitVec.toNat_ofInt, BitVec.toNat_ofInt]
    simp only [IntKind.bits]
    rw [Int.emod_eq_of_lt (by omega) (by omega), Int.emod_eq_of_lt (by omega) (by omega)]
  have h1 : a.toNat < 2 ^ 64 := by omega
  have h2 : b.toNat < 2 ^ 64 := by omega
  have h3 : a.toNat ^^^ b.toNat < 2 ^ 64 := Nat.xor_lt_two_pow h1 h2
  simp only [intBin]
  rw [h, w_u64 ⟨by omega, by omega⟩]
theorem ib_and_i64 {a b : Int} (ha : 0 ≤ a ∧ a < 9223372036854775808) (hb : 0 ≤ b ∧ b < 9223372036854775808) : intBin .and .i64 a b = some (.int .i64 ((a.toNat &&& b.toNat : Nat) : Int)) := by
  have h : (BitVec.ofInt IntKind.i64.bits a &&& BitVec.ofInt IntKind.i64.bits b).toNat = a.toNat &&& b.toNat := by
    rw [BitVec.toNat_and, BitVec.toNat_ofInt, BitVec.toNat_ofInt]
    simp only [IntKind.bits]
    rw [Int.emod_eq_of_lt (by omega) (by omega), Int.emod_eq_of_lt (by omega) (by omega)]
  have h1 : a.toNat < 2 ^ 63 := by omega
  have h2 : b.toNat < 2 ^ 63 := by omega
  have h3 : a.toNat &&& b.toNat < 2 ^ 63 := Nat.and_lt_two_pow _ h2
  simp only [intBin]
  rw [h, w_i64 ⟨by omega, by omega⟩]
theorem ib_or_i64 {a b : Int} (ha : 0 ≤ a ∧ a < 9223372036854775808) (hb : 0 ≤ b ∧ b < 9223372036854775808) : intBin .or .i64 a b = some (.int .i64 ((a.toNat ||| b.toNat : Nat) : Int)) := by
  have h : (BitVec.ofInt IntKind.i64.bits a ||| BitVec.ofInt IntKind.i64.bits b).toNat = a.toNat ||| b.toNat := by
    rw [BitVec.toNat_or, BitVec.toNat_ofInt, BitVec.toNat_ofInt]
    simp only [IntKind.bits]
    rw [Int.emod_eq_of_lt (by omega) (by omega), Int.emod_eq_of_lt (by omega) (by omega)]
  have h1 : a.toNat < 2 ^ 63 := by omega
  have h2 : b.toNat < 2 ^ 63 := by omega
  have h3 : a.toNat ||| b.toNat < 2 ^ 63 := Nat.or_lt_two_pow h1 h2
  simp only [intBin]
  rw [h, w_i64 ⟨by omega, by omega⟩]
theorem ib_xor_i64 {a b : Int} (ha : 0 ≤ a ∧ a < 9223372036854775808) (hb : 0 ≤ b ∧ b < 9223372036854775808) : intBin .xor .i64 a b = some (.int .i64 ((a.toNat ^^^ b.toNat : Nat) : Int)) := by
  have h : (BitVec.ofInt IntKind.i64.bits a ^^^ BitVec.ofInt IntKind.i64.bits b).toNat = a.toNat ^^^ b.toNat := by
    rw [BitVec.toNat_xor, BitVec.toNat_ofInt, BitVec.toNat_ofInt]
    simp only [IntKind.bits]
    rw [Int.emod_eq_of_lt (by omega) (by omega), Int.emod_eq_of_lt (by omega) (by omega)]
  have h1 : a.toNat < 2 ^ 63 := by omega
  have h2 : b.toNat < 2 ^ 63 := by omega
  have h3 : a.toNat ^^^ b.toNat < 2 ^ 63 := Nat.xor_lt_two_pow h1 h2
  simp only [intBin]
  rw [h, w_i64 ⟨by omega, by omega⟩]
theorem mask1 (a : Nat) : a &&& 1 = a % 2 := Nat.and_two_pow_sub_one_eq_mod a 1
theorem mask2 (a : Nat) : a &&& 3 = a % 4 := Nat.and_two_pow_sub_one_eq_mod a 2
theorem mask3 (a : Nat) : a &&& 7 = a % 8 := Nat.and_two_pow_sub_one_eq_mod a 3
theorem mask4 (a : Nat) : a &&& 15 = a % 16 := Nat.and_two_pow_sub_one_eq_mod a 4
theorem mask5 (a : Nat) : a &&& 31 = a % 32 := Nat.and_two_pow_sub_one_eq_mod a 5
theorem mask6 (a : Nat) : a &&& 63 = a % 64 := Nat.and_two_pow_sub_one_eq_mod a 6
theorem mask7 (a : Nat) : a &&& 127 = a % 128 := Nat.and_two_pow_sub_one_eq_mod a 7
theorem mask8 (a : Nat) : a &&& 255 = a % 256 := Nat.and_two_pow_sub_one_eq_mod a 8
theorem mask12 (a : Nat) : a &&& 4095 = a % 4096 := Nat.and_two_pow_sub_one_eq_mod a 12
theorem int_beq (a b : Int) : (a == b) = decide (a = b) := by
  by_cases h : a = b <;> simp [h]
theorem int_bne (a b : Int) : (a != b) = decide (¬ a = b) := by
  by_cases h : a = b <;> simp [h]
theorem not_decide (p : Prop) [Decidable p] : (!decide p) = decide (¬ p) := by simp
theorem tdiv_pos {a b : Int} (h : 0 ≤ a) : a.tdiv b = a / b := Int.tdiv_eq_ediv_of_nonneg h
theorem tmod_pos' {a b : Int} (h : 0 ≤ a) : a.tmod b = a % b := Int.tmod_eq_emod_of_nonneg h
theorem fdiv_pos {a b : Int} (h : 0 ≤ b) : a.fdiv b = a / b := Int.fdiv_eq_ediv_of_nonneg a h
theorem getQ {α : Type} (l : List α) (i : Nat) (d : α) (h : i < l.length) : l[i]? = some (l.getD i d) := by
  simp [List.getD_eq_getElem?_getD, List.getElem?_eq_getElem h]
theorem upd_b {d t : Nat} {v : AV} : upd ρ d v t = bif t == d then v else ρ t := by
  unfold upd
  by_cases h : t = d
  · simp [h]
  · have : (t == d) = false := by simpa using h
    rw [if_neg h, this]; rfl
theorem contW_f' {K : Env → Store → Prop} {ρ' : Env} {σ' : Store} : contW K σ false (some (ρ', σ')) = K ρ' σ' := Eq.trans rfl rfl
theorem contW_t' {K : Env → Store → Prop} {ρ' : Env} {σ' : Store} : contW K σ true (some (ρ', σ')) = (σ' = σ ∧ K ρ' σ') := Eq.trans rfl rfl
section
variable {K : Hist → Env → Store → Prop} {H : Hist} {d : Option Nat} {g : Option (Nat × Bool)} {op : AOp} {nd : Nd} {f : AX} {xs : List AX} {v : AV} {s : Store}
theorem stepW_no : stepW K H ⟨d, g, .no, op⟩ ρ σ = contW (K H) σ false (insRun ⟨d, g, .no, op⟩ ρ σ) := Eq.trans rfl rfl
theorem stepW_same : stepW K H ⟨d, g, .same, op⟩ ρ σ = contW (K H) σ true (insRun ⟨d, g, .same, op⟩ ρ σ) := Eq.trans rfl rfl
theorem stepW_rd : stepW K H ⟨d, g, .rd, op⟩ ρ σ = rdW K H d op ρ σ (guardV ρ g) := Eq.trans rfl rfl
theorem stepW_ef : stepW K H ⟨d, g, .ef, op⟩ ρ σ = efW K H d op ρ σ (guardV ρ g) := Eq.trans rfl rfl
theorem rdW_t : rdW K H d op ρ σ (some true) = rdC K H d op ρ σ (op.run ρ σ) := Eq.trans rfl rfl
theorem rdW_f : rdW K H d op ρ σ (some false) = K H (putE ρ d .undef) σ := Eq.trans rfl rfl
theorem efW_t : efW K H d op ρ σ (some true) = efC K H d ρ σ (op.run ρ σ) := Eq.trans rfl rfl
theorem efW_f : efW K H d op ρ σ (some false) = K H (putE ρ d .undef) σ := Eq.trans rfl rfl
theorem rdC_s : rdC K H d op ρ σ (some (v, s)) = (s = σ ∧ (∀ h, H.pre h → op.run ρ h = some (v, h)) ∧ K ⟨H.pre, fun s => H.rds s ∧ op.run ρ s = some (v, s)⟩ (putE ρ d v) σ) := Eq.trans rfl rfl
theorem efC_s : efC K H d ρ σ (some (v, s)) = (H.rds s ∧ K ⟨fun t => H.pre t ∨ t = σ, H.rds⟩ (putE ρ d v) s) := Eq.trans rfl rfl
theorem callG_t' : callG C K H ρ σ d nd f xs (some true) = callW C K H ρ d nd σ (f.ev ρ) (xs.map (AX.ev ρ)) := Eq.trans rfl rfl
theorem callG_f' : callG C K H ρ σ d nd f xs (some false) = K H (putE ρ d .undef) σ := Eq.trans rfl rfl
theorem none_pre {h : Store} : Hist.none.pre h = False := Eq.trans rfl rfl
theorem none_rds {h : Store} : Hist.none.rds h = True := Eq.trans rfl rfl
end
theorem overw1 {c v : AV} : overw [c] 0 [v] = [v] := by simp [overw]
theorem byteEs_len (s : List UInt8) : (byteEs s).length = s.length := by simp [byteEs]
theorem byteEs_get {s : List UInt8} {i : Nat} (h : i < s.length) : (byteEs s)[i]? = some [.int .u8 (s.getD i 0).toNat] := by
  simp [byteEs, B8, List.getD_eq_getElem?_getD, List.getElem?_eq_getElem h]
theorem byteEs_set {s : List UInt8} {i : Nat} {n : Int} (h : 0 ≤ n ∧ n < 256) : (byteEs s).set i [.int .u8 n] = byteEs (s.set i (UInt8.ofNat n.toNat)) := by
  have e : ((n.toNat % 256 : Nat) : Int) = n := by omega
  simp [byteEs, B8, List.map_set, e]
theorem byteEs_rep (n : Nat) : List.replicate n [AV.int .u8 0] = byteEs (List.replicate n 0) := by simp [byteEs, B8]
theorem get_u8 {s : List UInt8} {i : Nat} (h : i < s.length) : s[i]? = some (s.getD i 0) := getQ s i 0 h
theorem slElems_sl {r off len esz : Nat} {lim : Option Nat} : slElems σ (.sl r off len lim esz) = match σ[r]? with | some (some o) => if off + len ≤ o.length then some ((o.drop off).take len) else none | _ => none := Eq.trans rfl rfl
theorem int_eq {k : IntKind} {a b : Int} (h : a = b) : AV.int k a = AV.int k b := by rw [h]
theorem str_eq {a b : List UInt8} (h : a = b) : AV.str a = AV.str b := by rw [h]
theorem wm_u8 {n : Int} : IntKind.u8.wrap n = n % 256 := by simp [IntKind.wrap, IntKind.signed, IntKind.bits]
theorem wm_u16 {n : Int} : IntKind.u16.wrap n = n % 65536 := by simp [IntKind.wrap, IntKind.signed, IntKind.bits]
theorem wm_u32 {n : Int} : IntKind.u32.wrap n = n % 4294967296 := by simp [IntKind.wrap, IntKind.signed, IntKind.bits]
theorem wm_u64 {n : Int} : IntKind.u64.wrap n = n % 18446744073709551616 := by simp [IntKind.wrap, IntKind.signed, IntKind.bits]
theorem byteEs_take {s : List UInt8} {i : Nat} : (byteEs s).take i = byteEs (s.take i) := by simp [byteEs, List.map_take]
theorem byteEs_drop {s : List UInt8} {i : Nat} : (byteEs s).drop i = byteEs (s.drop i) := by simp [byteEs, List.map_drop]
theorem byteEs_app {s t : List UInt8} : byteEs s ++ byteEs t = byteEs (s ++ t) := by simp [byteEs]
theorem subCells_f {cs : List AV} {off n : Nat} : subCells cs off n false = cs[off]? := Eq.trans rfl rfl
theorem subCells_t {cs : List AV} {off n : Nat} : subCells cs off n true = if off + n ≤ cs.length then some (.agg ((cs.drop off).take n)) else none := Eq.trans rfl rfl
/-! Guards. -/
def gv (v : AV) (b : Bool) : Option Bool := match v with
  | .bool x => some (x == b)
  | .undef => some false
  | _ => none
def insG (g : Option Bool) (d : Option Nat) (op : AOp) (ρ : Env) (σ : Store) : Option (Env × Store) := match g with
  | some true => (op.run ρ σ).map fun r => (putE ρ d r.1, r.2)
  | some false => some (putE ρ d .undef, σ)
  | none => none
theorem insRun_none {d : Option Nat} {nd : Nd} {op : AOp} : insRun ⟨d, none, nd, op⟩ ρ σ = (op.run ρ σ).map fun r => (putE ρ d r.1, r.2) := rfl
theorem insRun_some {d : Option Nat} {nd : Nd} {b : Bool} {s : Nat} {op : AOp} : insRun ⟨d, some (s, b), nd, op⟩ ρ σ = insG (gv (ρ s) b) d op ρ σ := rfl
theorem guardV_none : guardV ρ none = some true := rfl
theorem guardV_some {s : Nat} {b : Bool} : guardV ρ (some (s, b)) = gv (ρ s) b := rfl
theorem gv_tt : gv (.bool true) true = some true := rfl
theorem gv_tf : gv (.bool true) false = some false := rfl
theorem gv_ft : gv (.bool false) true = some false := rfl
theorem gv_ff : gv (.bool false) false = some true := rfl
theorem gv_undef {b : Bool} : gv .undef b = some false := rfl
theorem insG_t {d : Option Nat} {op : AOp} : insG (some true) d op ρ σ = (op.run ρ σ).map fun r => (putE ρ d r.1, r.2) := rfl
theorem insG_f {d : Option Nat} {op : AOp} : insG (some false) d op ρ σ = some (putE ρ d .undef, σ) := rfl
section
variable {K : Hist → Env → Store → Prop} {K1 : Env → Store → Prop} {H : Hist} {d : Option Nat} {op : AOp} {nd : Nd} {b x m : Bool} {P : Prop} {f : AX} {xs : List AX}
theorem splitG [hd : Decidable P] (h1 : P → contW K1 σ m (insG (gv (.bool true) b) d op ρ σ)) (h2 : ¬ P → contW K1 σ m (insG (gv (.bool false) b) d op ρ σ)) : contW K1 σ m (insG (gv (.bool (@decide P hd)) b) d op ρ σ) := by
  by_cases h : P
  · simpa [h] using h1 h
  · simpa [h] using h2 h
theorem splitGB (h1 : x = true → contW K1 σ m (insG (gv (.bool true) b) d op ρ σ)) (h2 : x = false → contW K1 σ m (insG (gv (.bool false) b) d op ρ σ)) : contW K1 σ m (insG (gv (.bool x) b) d op ρ σ) := by
  cases x
  · exact h2 rfl
  · exact h1 rfl
theorem splitR [hd : Decidable P] (h1 : P → rdW K H d op ρ σ (gv (.bool true) b)) (h2 : ¬ P → rdW K H d op ρ σ (gv (.bool false) b)) : rdW K H d op ρ σ (gv (.bool (@decide P hd)) b) := by
  by_cases h : P
  · simpa [h] using h1 h
  · simpa [h] using h2 h
theorem splitRB (h1 : x = true → rdW K H d op ρ σ (gv (.bool true) b)) (h2 : x = false → rdW K H d op ρ σ (gv (.bool false) b)) : rdW K H d op ρ σ (gv (.bool x) b) := by
  cases x
  · exact h2 rfl
  · exact h1 rfl
theorem splitE [hd : Decidable P] (h1 : P → efW K H d op ρ σ (gv (.bool true) b)) (h2 : ¬ P → efW K H d op ρ σ (gv (.bool false) b)) : efW K H d op ρ σ (gv (.bool (@decide P hd)) b) := by
  by_cases h : P
  · simpa [h] using h1 h
  · simpa [h] using h2 h
theorem splitEB (h1 : x = true → efW K H d op ρ σ (gv (.bool true) b)) (h2 : x = false → efW K H d op ρ σ (gv (.bool false) b)) : efW K H d op ρ σ (gv (.bool x) b) := by
  cases x
  · exact h2 rfl
  · exact h1 rfl
theorem splitC [hd : Decidable P] (h1 : P → callG C K H ρ σ d nd f xs (gv (.bool true) b)) (h2 : ¬ P → callG C K H ρ σ d nd f xs (gv (.bool false) b)) : callG C K H ρ σ d nd f xs (gv (.bool (@decide P hd)) b) := by
  by_cases h : P
  · simpa [h] using h1 h
  · simpa [h] using h2 h
theorem splitCB (h1 : x = true → callG C K H ρ σ d nd f xs (gv (.bool true) b)) (h2 : x = false → callG C K H ρ σ d nd f xs (gv (.bool false) b)) : callG C K H ρ σ d nd f xs (gv (.bool x) b) := by
  cases x
  · exact h2 rfl
  · exact h1 rfl
end
end
attribute [go_sem] opsWp_nil opsWp_call contW_f' contW_t' stepW_no stepW_same stepW_rd stepW_ef rdW_t rdW_f efW_t efW_f rdC_s efC_s callG_t' callG_f' none_pre none_rds false_or or_imp forall_and forall_eq false_implies implies_true insRun_none insRun_some guardV_none guardV_some gv_tt gv_tf gv_ft gv_ff gv_undef insG_t insG_f AOp.run AX.ev putE upd_b cond_true cond_false initE Option.map_some Option.bind_some Option.map_none rBin rEq strBin eqOp aUn aMin rConv rLoad rStore rMake rSlice rFa rFld rIxArr rIxStr rLenSl rElems rFill
  thenQ blkQ endQ endP retV oks Bool.and_true Bool.true_and RV.val RV.ok Option.getD_some Option.isSome_some List.map_cons List.map_nil List.getD_cons_zero List.getD_cons_succ List.getD_nil if_true if_false ite_true ite_false reduceCtorEq Bool.false_eq_true Bool.true_eq_false beq_true beq_false Bool.not_true Bool.not_false BEq.rfl beq_self_eq_true
  List.nil_append List.cons_append List.append_nil
  ow_mv ow_pick ow_alloc ow_box ow_build ow_lit ow_load ow_store ow_nilc ow_bin ow_un ow_conv ow_mkfn ow_make ow_slice ow_fa ow_fld ow_iaArr ow_iaSl ow_ixArr ow_ixStr ow_ext ow_lenStr ow_lenSl ow_lenArr ow_app ow_copy ow_clear ow_minmax
  getElem?_app getElem?_app0 set_app set_app0
  shr_u8 shl_u8 shr_u16 shl_u16 shr_u32 shl_u32 shr_u64 shl_u64 shr_i64 shl_i64 ib_add ib_sub ib_mul ib_quo ib_rem ib_eql ib_neq ib_lss ib_leq ib_gtr ib_geq ib_and_u8 ib_or_u8 ib_xor_u8 ib_and_u16 ib_or_u16 ib_xor_u16 ib_and_u32 ib_or_u32 ib_xor_u32 ib_and_u64 ib_or_u64 ib_xor_u64 ib_and_i64 ib_or_i64 ib_xor_i64 mask1 mask2 mask3 mask4 mask5 mask6 mask7 mask8 mask12
  cellsOf slElems srcElems bytesOf byteOf1 bytesOf_byteEs aIdxSl aIdxArr bnd aSliceStr aSliceVsl aSliceSl aSliceAsl knownN aApp aBox rCopy rClear List.length_cons List.length_nil Option.bind_none overw1 overw byteEs_len byteEs_get byteEs_set byteEs_rep byteEs_take byteEs_drop byteEs_app get_u8
  List.getElem?_cons_zero List.getElem?_cons_succ List.set_cons_zero List.set_cons_succ List.drop_zero Nat.add_zero Nat.zero_add
  subCells_f subCells_t List.drop_succ_cons List.take_succ_cons List.take_zero Nat.zero_mul Nat.mul_one true_and and_true eq_self List.take_of_length_le
  w_i64 w_u64 w_u32 w_u16 w_u8 int_beq int_bne not_decide tdiv_pos tmod_pos' if_pos if_neg decide_eq_true decide_eq_false Int.toNat_natCast
attribute [go_sem low] wm_u8 wm_u16 wm_u32 wm_u64
end Am
end Go.Proofs.Ytkffgmpbhahioaa
