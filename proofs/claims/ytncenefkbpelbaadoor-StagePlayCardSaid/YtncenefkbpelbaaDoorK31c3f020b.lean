import Derived.Test.YtncenefkbpelbaaDoorK2d3b92f56
import Derived.LaidMore
import Derived.Stop.Joined
import Derived.Test.YtncenefkbpelbaaDoorRows
import Derived.KernelRfl
import Derived.RangeFuncBox
import Derived.RangeFuncLeaves
import Derived.Shelf.Abstract
import Derived.WalkKit
import Derived.OwnWalkIn
import Derived.TacticsInMore
import Derived.LoopNIn
import Derived.LoopIn
import Derived.Test.YtncenefkbpelbaaDoorProg
import Derived.Shelf.Strings.Builder1
import Derived.Shelf.Strings.Builder2
import Derived.Shelf.Strings.BuilderF
import Derived.Shelf.Strings.Prefix
import Derived.Shelf.Bits.Mul64
import Derived.Shelf.Strings.Repeat
set_option linter.unusedSimpArgs false
set_option linter.unusedVariables false
open Nat (reduceEqDiff reduceAdd reduceMul reduceSub reduceLeDiff)
open Int (reduceToNat reducePow)
section
/- THE ABSTRACT MACHINE, part 25: its steps, gathered for simp; numbers decided by omega. -/
namespace Go.Proofs.YtncenefkbpelbaaDoor
namespace Am
theorem lens : (∀ {α : Type} {l : List α} {i : Nat} {a : α}, (l.set i a).length = l.length) /\ (∀ {α : Type} {l m : List α}, (l ++ m).length = l.length + m.length) /\ (∀ {α : Type} {a : α} {l : List α}, (a :: l).length = l.length + 1) /\ (∀ {α : Type}, ([] : List α).length = 0) /\ (∀ {α β : Type} {f : α -> β} {l : List α}, (l.map f).length = l.length) :=
  ⟨List.length_set, List.length_append, List.length_cons, List.length_nil, List.length_map _⟩
section
variable {C : Ctx} {n k : Nat} {Q : AExit -> Env -> Store -> Prop} {Z : Env} {O : Store}
theorem zW.zd {x : AX} {p q : ACode} {P : Prop} [hd : Decidable P] (hx : x.ev Z = .bool (@decide P hd)) (h1 : P -> zW C n k p Q Z O) (h2 : ¬ P -> zW C n k q Q Z O) : zW C n k (.cond x p q) Q Z O :=
  zW.cond hx (fun h => h1 (of_decide_eq_true h)) (fun h => h2 (of_decide_eq_false h))
theorem zW.zt {x : AX} {p q : ACode} (hx : x.ev Z = .bool true) (h1 : zW C n k p Q Z O) : zW C n k (.cond x p q) Q Z O :=
  zW.cond hx (fun _ => h1) (fun h => by cases h)
theorem zW.zf {x : AX} {p q : ACode} (hx : x.ev Z = .bool false) (h1 : zW C n k q Q Z O) : zW C n k (.cond x p q) Q Z O :=
  zW.cond hx (fun h => by cases h) (fun _ => h1)
theorem z7c {n : Int} (h : -9223372036854775808 <= n /\ n < 9223372036854775808) : IntKind.i64.wrap n = n := by
  simp [IntKind.wrap, IntKind.signed, IntKind.bits]; omega
theorem za8 {n : Int} (h : 0 <= n /\ n < 18446744073709551616) : IntKind.u64.wrap n = n := by
  simp [IntKind.wrap, IntKind.signed, IntKind.bits]; omega
theorem z8i {n : Int} (h : 0 <= n /\ n < 4294967296) : IntKind.u32.wrap n = n := by
  simp [IntKind.wrap, IntKind.signed, IntKind.bits]; omega
theorem za7 {n : Int} (h : 0 <= n /\ n < 65536) : IntKind.u16.wrap n = n := by
  simp [IntKind.wrap, IntKind.signed, IntKind.bits]; omega
theorem w_u8 {n : Int} (h : 0 <= n /\ n < 256) : IntKind.u8.wrap n = n := by
  simp [IntKind.wrap, IntKind.signed, IntKind.bits]; omega
theorem shr_u8 {a b : Int} (h : 0 <= b /\ b < 8) : z17 .shr .u8 a b = some (.int .u8 (a / 2 ^ b.toNat)) := by
  simp only [z17, IntKind.bits]
  rw [if_neg (by omega), Nat.min_eq_left (by omega), Int.fdiv_eq_ediv_of_nonneg _ (Int.pow_nonneg (by decide))]
theorem shl_u8 {a b : Int} (h : 0 <= b /\ b < 8) : z17 .shl .u8 a b = some (.int .u8 (IntKind.u8.wrap (a * 2 ^ b.toNat))) := by
  simp only [z17, IntKind.bits]
  rw [if_neg (by omega), Nat.min_eq_left (by omega)]
theorem zoa {a b : Int} (h : 0 <= b /\ b < 16) : z17 .shr .u16 a b = some (.int .u16 (a / 2 ^ b.toNat)) := by
  simp only [z17, IntKind.bits]
  rw [if_neg (by omega), Nat.min_eq_left (by omega), Int.fdiv_eq_ediv_of_nonneg _ (Int.pow_nonneg (by decide))]
theorem zo7 {a b : Int} (h : 0 <= b /\ b < 16) : z17 .shl .u16 a b = some (.int .u16 (IntKind.u16.wrap (a * 2 ^ b.toNat))) := by
  simp only [z17, IntKind.bits]
  rw [if_neg (by omega), Nat.min_eq_left (by omega)]
theorem zgc {a b : Int} (h : 0 <= b /\ b < 32) : z17 .shr .u32 a b = some (.int .u32 (a / 2 ^ b.toNat)) := by
  simp only [z17, IntKind.bits]
  rw [if_neg (by omega), Nat.min_eq_left (by omega), Int.fdiv_eq_ediv_of_nonneg _ (Int.pow_nonneg (by decide))]
theorem zgb {a b : Int} (h : 0 <= b /\ b < 32) : z17 .shl .u32 a b = some (.int .u32 (IntKind.u32.wrap (a * 2 ^ b.toNat))) := by
  simp only [z17, IntKind.bits]
  rw [if_neg (by omega), Nat.min_eq_left (by omega)]
theorem zob {a b : Int} (h : 0 <= b /\ b < 64) : z17 .shr .u64 a b = some (.int .u64 (a / 2 ^ b.toNat)) := by
  simp only [z17, IntKind.bits]
  rw [if_neg (by omega), Nat.min_eq_left (by omega), Int.fdiv_eq_ediv_of_nonneg _ (Int.pow_nonneg (by decide))]
theorem zo8 {a b : Int} (h : 0 <= b /\ b < 64) : z17 .shl .u64 a b = some (.int .u64 (IntKind.u64.wrap (a * 2 ^ b.toNat))) := by
  simp only [z17, IntKind.bits]
  rw [if_neg (by omega), Nat.min_eq_left (by omega)]
theorem zo9 {a b : Int} (h : 0 <= b /\ b < 64) : z17 .shr .i64 a b = some (.int .i64 (a / 2 ^ b.toNat)) := by
  simp only [z17, IntKind.bits]
  rw [if_neg (by omega), Nat.min_eq_left (by omega), Int.fdiv_eq_ediv_of_nonneg _ (Int.pow_nonneg (by decide))]
theorem zo6 {a b : Int} (h : 0 <= b /\ b < 64) : z17 .shl .i64 a b = some (.int .i64 (IntKind.i64.wrap (a * 2 ^ b.toNat))) := by
  simp only [z17, IntKind.bits]
  rw [if_neg (by omega), Nat.min_eq_left (by omega)]
theorem zej {k : IntKind} {a b : Int} : zu .add k a b = some (.int k (k.wrap (a + b))) := rfl
theorem ib_sub {k : IntKind} {a b : Int} : zu .sub k a b = some (.int k (k.wrap (a - b))) := rfl
theorem ib_mul {k : IntKind} {a b : Int} : zu .mul k a b = some (.int k (k.wrap (a * b))) := rfl
theorem ib_quo {k : IntKind} {a b : Int} : zu .quo k a b = if b = 0 then none else some (.int k (k.wrap (a.tdiv b))) := rfl
theorem ib_rem {k : IntKind} {a b : Int} : zu .rem k a b = if b = 0 then none else some (.int k (a.tmod b)) := rfl
theorem ib_eql {k : IntKind} {a b : Int} : zu .eql k a b = some (.bool (a == b)) := rfl
theorem ib_neq {k : IntKind} {a b : Int} : zu .neq k a b = some (.bool (a != b)) := rfl
theorem ib_lss {k : IntKind} {a b : Int} : zu .lss k a b = some (.bool (decide (a < b))) := rfl
theorem ib_leq {k : IntKind} {a b : Int} : zu .leq k a b = some (.bool (decide (a <= b))) := rfl
theorem ib_gtr {k : IntKind} {a b : Int} : zu .gtr k a b = some (.bool (decide (a > b))) := rfl
theorem ib_geq {k : IntKind} {a b : Int} : zu .geq k a b = some (.bool (decide (a >= b))) := rfl
theorem zkq {a b : Int} (ha : 0 <= a /\ a < 256) (hb : 0 <= b /\ b < 256) : zu .and .u8 a b = some (.int .u8 ((a.toNat &&& b.toNat : Nat) : Int)) := by
  have h : (BitVec.ofInt IntKind.u8.bits a &&& BitVec.ofInt IntKind.u8.bits b).toNat = a.toNat &&& b.toNat := by
    rw [BitVec.toNat_and, BitVec.toNat_ofInt, BitVec.toNat_ofInt]
    simp only [IntKind.bits]
    rw [Int.emod_eq_of_lt (by omega) (by omega), Int.emod_eq_of_lt (by omega) (by omega)]
  have h1 : a.toNat < 2 ^ 8 := by omega
  have h2 : b.toNat < 2 ^ 8 := by omega
  have h3 : a.toNat &&& b.toNat < 2 ^ 8 := Nat.and_lt_two_pow _ h2
  simp only [zu]
  rw [h, w_u8 ⟨by omega, by omega⟩]
theorem zku {a b : Int} (ha : 0 <= a /\ a < 256) (hb : 0 <= b /\ b < 256) : zu .or .u8 a b = some (.int .u8 ((a.toNat ||| b.toNat : Nat) : Int)) := by
  have h : (BitVec.ofInt IntKind.u8.bits a ||| BitVec.ofInt IntKind.u8.bits b).toNat = a.toNat ||| b.toNat := by
    rw [BitVec.toNat_or, BitVec.toNat_ofInt, BitVec.toNat_ofInt]
    simp only [IntKind.bits]
    rw [Int.emod_eq_of_lt (by omega) (by omega), Int.emod_eq_of_lt (by omega) (by omega)]
  have h1 : a.toNat < 2 ^ 8 := by omega
  have h2 : b.toNat < 2 ^ 8 := by omega
  have h3 : a.toNat ||| b.toNat < 2 ^ 8 := Nat.or_lt_two_pow h1 h2
  simp only [zu]
  rw [h, w_u8 ⟨by omega, by omega⟩]
theorem zky {a b : Int} (ha : 0 <= a /\ a < 256) (hb : 0 <= b /\ b < 256) : zu .xor .u8 a b = some (.int .u8 ((a.toNat ^^^ b.toNat : Nat) : Int)) := by
  have h : (BitVec.ofInt IntKind.u8.bits a ^^^ BitVec.ofInt IntKind.u8.bits b).toNat = a.toNat ^^^ b.toNat := by
    rw [BitVec.toNat_xor, BitVec.toNat_ofInt, BitVec.toNat_ofInt]
    simp only [IntKind.bits]
    rw [Int.emod_eq_of_lt (by omega) (by omega), Int.emod_eq_of_lt (by omega) (by omega)]
  have h1 : a.toNat < 2 ^ 8 := by omega
  have h2 : b.toNat < 2 ^ 8 := by omega
  have h3 : a.toNat ^^^ b.toNat < 2 ^ 8 := Nat.xor_lt_two_pow h1 h2
  simp only [zu]
  rw [h, w_u8 ⟨by omega, by omega⟩]
theorem zko {a b : Int} (ha : 0 <= a /\ a < 65536) (hb : 0 <= b /\ b < 65536) : zu .and .u16 a b = some (.int .u16 ((a.toNat &&& b.toNat : Nat) : Int)) := by
  have h : (BitVec.ofInt IntKind.u16.bits a &&& BitVec.ofInt IntKind.u16.bits b).toNat = a.toNat &&& b.toNat := by
    rw [BitVec.toNat_and, BitVec.toNat_ofInt, BitVec.toNat_ofInt]
    simp only [IntKind.bits]
    rw [Int.emod_eq_of_lt (by omega) (by omega), Int.emod_eq_of_lt (by omega) (by omega)]
  have h1 : a.toNat < 2 ^ 16 := by omega
  have h2 : b.toNat < 2 ^ 16 := by omega
  have h3 : a.toNat &&& b.toNat < 2 ^ 16 := Nat.and_lt_two_pow _ h2
  simp only [zu]
  rw [h, za7 ⟨by omega, by omega⟩]
theorem zks {a b : Int} (ha : 0 <= a /\ a < 65536) (hb : 0 <= b /\ b < 65536) : zu .or .u16 a b = some (.int .u16 ((a.toNat ||| b.toNat : Nat) : Int)) := by
  have h : (BitVec.ofInt IntKind.u16.bits a ||| BitVec.ofInt IntKind.u16.bits b).toNat = a.toNat ||| b.toNat := by
    rw [BitVec.toNat_or, BitVec.toNat_ofInt, BitVec.toNat_ofInt]
    simp only [IntKind.bits]
    rw [Int.emod_eq_of_lt (by omega) (by omega), Int.emod_eq_of_lt (by omega) (by omega)]
  have h1 : a.toNat < 2 ^ 16 := by omega
  have h2 : b.toNat < 2 ^ 16 := by omega
  have h3 : a.toNat ||| b.toNat < 2 ^ 16 := Nat.or_lt_two_pow h1 h2
  simp only [zu]
  rw [h, za7 ⟨by omega, by omega⟩]
theorem zkw {a b : Int} (ha : 0 <= a /\ a < 65536) (hb : 0 <= b /\ b < 65536) : zu .xor .u16 a b = some (.int .u16 ((a.toNat ^^^ b.toNat : Nat) : Int)) := by
  have h : (BitVec.ofInt IntKind.u16.bits a ^^^ BitVec.ofInt IntKind.u16.bits b).toNat = a.toNat ^^^ b.toNat := by
    rw [BitVec.toNat_xor, BitVec.toNat_ofInt, BitVec.toNat_ofInt]
    simp only [IntKind.bits]
    rw [Int.emod_eq_of_lt (by omega) (by omega), Int.emod_eq_of_lt (by omega) (by omega)]
  have h1 : a.toNat < 2 ^ 16 := by omega
  have h2 : b.toNat < 2 ^ 16 := by omega
  have h3 : a.toNat ^^^ b.toNat < 2 ^ 16 := Nat.xor_lt_two_pow h1 h2
  simp only [zu]
  rw [h, za7 ⟨by omega, by omega⟩]
theorem zek {a b : Int} (ha : 0 <= a /\ a < 4294967296) (hb : 0 <= b /\ b < 4294967296) : zu .and .u32 a b = some (.int .u32 ((a.toNat &&& b.toNat : Nat) : Int)) := by
  have h : (BitVec.ofInt IntKind.u32.bits a &&& BitVec.ofInt IntKind.u32.bits b).toNat = a.toNat &&& b.toNat := by
    rw [BitVec.toNat_and, BitVec.toNat_ofInt, BitVec.toNat_ofInt]
    simp only [IntKind.bits]
    rw [Int.emod_eq_of_lt (by omega) (by omega), Int.emod_eq_of_lt (by omega) (by omega)]
  have h1 : a.toNat < 2 ^ 32 := by omega
  have h2 : b.toNat < 2 ^ 32 := by omega
  have h3 : a.toNat &&& b.toNat < 2 ^ 32 := Nat.and_lt_two_pow _ h2
  simp only [zu]
  rw [h, z8i ⟨by omega, by omega⟩]
theorem zel {a b : Int} (ha : 0 <= a /\ a < 4294967296) (hb : 0 <= b /\ b < 4294967296) : zu .or .u32 a b = some (.int .u32 ((a.toNat ||| b.toNat : Nat) : Int)) := by
  have h : (BitVec.ofInt IntKind.u32.bits a ||| BitVec.ofInt IntKind.u32.bits b).toNat = a.toNat ||| b.toNat := by
    rw [BitVec.toNat_or, BitVec.toNat_ofInt, BitVec.toNat_ofInt]
    simp only [IntKind.bits]
    rw [Int.emod_eq_of_lt (by omega) (by omega), Int.emod_eq_of_lt (by omega) (by omega)]
  have h1 : a.toNat < 2 ^ 32 := by omega
  have h2 : b.toNat < 2 ^ 32 := by omega
  have h3 : a.toNat ||| b.toNat < 2 ^ 32 := Nat.or_lt_two_pow h1 h2
  simp only [zu]
  rw [h, z8i ⟨by omega, by omega⟩]
theorem zem {a b : Int} (ha : 0 <= a /\ a < 4294967296) (hb : 0 <= b /\ b < 4294967296) : zu .xor .u32 a b = some (.int .u32 ((a.toNat ^^^ b.toNat : Nat) : Int)) := by
  have h : (BitVec.ofInt IntKind.u32.bits a ^^^ BitVec.ofInt IntKind.u32.bits b).toNat = a.toNat ^^^ b.toNat := by
    rw [BitVec.toNat_xor, BitVec.toNat_ofInt, BitVec.toNat_ofInt]
    simp only [IntKind.bits]
    rw [Int.emod_eq_of_lt (by omega) (by omega), Int.emod_eq_of_lt (by omega) (by omega)]
  have h1 : a.toNat < 2 ^ 32 := by omega
  have h2 : b.toNat < 2 ^ 32 := by omega
  have h3 : a.toNat ^^^ b.toNat < 2 ^ 32 := Nat.xor_lt_two_pow h1 h2
  simp only [zu]
  rw [h, z8i ⟨by omega, by omega⟩]
theorem zkp {a b : Int} (ha : 0 <= a /\ a < 18446744073709551616) (hb : 0 <= b /\ b < 18446744073709551616) : zu .and .u64 a b = some (.int .u64 ((a.toNat &&& b.toNat : Nat) : Int)) := by
  have h : (BitVec.ofInt IntKind.u64.bits a &&& BitVec.ofInt IntKind.u64.bits b).toNat = a.toNat &&& b.toNat := by
    rw [BitVec.toNat_and, BitVec.toNat_ofInt, BitVec.toNat_ofInt]
    simp only [IntKind.bits]
    rw [Int.emod_eq_of_lt (by omega) (by omega), Int.emod_eq_of_lt (by omega) (by omega)]
  have h1 : a.toNat < 2 ^ 64 := by omega
  have h2 : b.toNat < 2 ^ 64 := by omega
  have h3 : a.toNat &&& b.toNat < 2 ^ 64 := Nat.and_lt_two_pow _ h2
  simp only [zu]
  rw [h, za8 ⟨by omega, by omega⟩]
theorem zkt {a b : Int} (ha : 0 <= a /\ a < 18446744073709551616) (hb : 0 <= b /\ b < 18446744073709551616) : zu .or .u64 a b = some (.int .u64 ((a.toNat ||| b.toNat : Nat) : Int)) := by
  have h : (BitVec.ofInt IntKind.u64.bits a ||| BitVec.ofInt IntKind.u64.bits b).toNat = a.toNat ||| b.toNat := by
    rw [BitVec.toNat_or, BitVec.toNat_ofInt, BitVec.toNat_ofInt]
    simp only [IntKind.bits]
    rw [Int.emod_eq_of_lt (by omega) (by omega), Int.emod_eq_of_lt (by omega) (by omega)]
  have h1 : a.toNat < 2 ^ 64 := by omega
  have h2 : b.toNat < 2 ^ 64 := by omega
  have h3 : a.toNat ||| b.toNat < 2 ^ 64 := Nat.or_lt_two_pow h1 h2
  simp only [zu]
  rw [h, za8 ⟨by omega, by omega⟩]
theorem zkx {a b : Int} (ha : 0 <= a /\ a < 18446744073709551616) (hb : 0 <= b /\ b < 18446744073709551616) : zu .xor .u64 a b = some (.int .u64 ((a.toNat ^^^ b.toNat : Nat) : Int)) := by
  have h : (BitVec.ofInt IntKind.u64.bits a ^^^ BitVec.ofInt IntKind.u64.bits b).toNat = a.toNat ^^^ b.toNat := by
    rw [BitVec.toNat_xor, BitVec.toNat_ofInt, BitVec.toNat_ofInt]
    simp only [IntKind.bits]
    rw [Int.emod_eq_of_lt (by omega) (by omega), Int.emod_eq_of_lt (by omega) (by omega)]
  have h1 : a.toNat < 2 ^ 64 := by omega
  have h2 : b.toNat < 2 ^ 64 := by omega
  have h3 : a.toNat ^^^ b.toNat < 2 ^ 64 := Nat.xor_lt_two_pow h1 h2
  simp only [zu]
  rw [h, za8 ⟨by omega, by omega⟩]
theorem zkn {a b : Int} (ha : 0 <= a /\ a < 9223372036854775808) (hb : 0 <= b /\ b < 9223372036854775808) : zu .and .i64 a b = some (.int .i64 ((a.toNat &&& b.toNat : Nat) : Int)) := by
  have h : (BitVec.ofInt IntKind.i64.bits a &&& BitVec.ofInt IntKind.i64.bits b).toNat = a.toNat &&& b.toNat := by
    rw [BitVec.toNat_and, BitVec.toNat_ofInt, BitVec.toNat_ofInt]
    simp only [IntKind.bits]
    rw [Int.emod_eq_of_lt (by omega) (by omega), Int.emod_eq_of_lt (by omega) (by omega)]
  have h1 : a.toNat < 2 ^ 63 := by omega
  have h2 : b.toNat < 2 ^ 63 := by omega
  have h3 : a.toNat &&& b.toNat < 2 ^ 63 := Nat.and_lt_two_pow _ h2
  simp only [zu]
  rw [h, z7c ⟨by omega, by omega⟩]
theorem zkr {a b : Int} (ha : 0 <= a /\ a < 9223372036854775808) (hb : 0 <= b /\ b < 9223372036854775808) : zu .or .i64 a b = some (.int .i64 ((a.toNat ||| b.toNat : Nat) : Int)) := by
  have h : (BitVec.ofInt IntKind.i64.bits a ||| BitVec.ofInt IntKind.i64.bits b).toNat = a.toNat ||| b.toNat := by
    rw [BitVec.toNat_or, BitVec.toNat_ofInt, BitVec.toNat_ofInt]
    simp only [IntKind.bits]
    rw [Int.emod_eq_of_lt (by omega) (by omega), Int.emod_eq_of_lt (by omega) (by omega)]
  have h1 : a.toNat < 2 ^ 63 := by omega
  have h2 : b.toNat < 2 ^ 63 := by omega
  have h3 : a.toNat ||| b.toNat < 2 ^ 63 := Nat.or_lt_two_pow h1 h2
  simp only [zu]
  rw [h, z7c ⟨by omega, by omega⟩]
theorem zkv {a b : Int} (ha : 0 <= a /\ a < 9223372036854775808) (hb : 0 <= b /\ b < 9223372036854775808) : zu .xor .i64 a b = some (.int .i64 ((a.toNat ^^^ b.toNat : Nat) : Int)) := by
  have h : (BitVec.ofInt IntKind.i64.bits a ^^^ BitVec.ofInt IntKind.i64.bits b).toNat = a.toNat ^^^ b.toNat := by
    rw [BitVec.toNat_xor, BitVec.toNat_ofInt, BitVec.toNat_ofInt]
    simp only [IntKind.bits]
    rw [Int.emod_eq_of_lt (by omega) (by omega), Int.emod_eq_of_lt (by omega) (by omega)]
  have h1 : a.toNat < 2 ^ 63 := by omega
  have h2 : b.toNat < 2 ^ 63 := by omega
  have h3 : a.toNat ^^^ b.toNat < 2 ^ 63 := Nat.xor_lt_two_pow h1 h2
  simp only [zu]
  rw [h, z7c ⟨by omega, by omega⟩]
theorem mask1 (a : Nat) : a &&& 1 = a % 2 := Nat.and_two_pow_sub_one_eq_mod a 1
theorem mask2 (a : Nat) : a &&& 3 = a % 4 := Nat.and_two_pow_sub_one_eq_mod a 2
theorem mask3 (a : Nat) : a &&& 7 = a % 8 := Nat.and_two_pow_sub_one_eq_mod a 3
theorem mask4 (a : Nat) : a &&& 15 = a % 16 := Nat.and_two_pow_sub_one_eq_mod a 4
theorem mask5 (a : Nat) : a &&& 31 = a % 32 := Nat.and_two_pow_sub_one_eq_mod a 5
theorem mask6 (a : Nat) : a &&& 63 = a % 64 := Nat.and_two_pow_sub_one_eq_mod a 6
theorem mask7 (a : Nat) : a &&& 127 = a % 128 := Nat.and_two_pow_sub_one_eq_mod a 7
theorem mask8 (a : Nat) : a &&& 255 = a % 256 := Nat.and_two_pow_sub_one_eq_mod a 8
theorem mask12 (a : Nat) : a &&& 4095 = a % 4096 := Nat.and_two_pow_sub_one_eq_mod a 12
theorem zl4 (a b : Int) : (a == b) = decide (a = b) := by
  by_cases h : a = b <;> simp [h]
theorem zl5 (a b : Int) : (a != b) = decide (¬ a = b) := by
  by_cases h : a = b <;> simp [h]
theorem zln (p : Prop) [Decidable p] : (!decide p) = decide (¬ p) := by simp
theorem zow {a b : Int} (h : 0 <= a) : a.tdiv b = a / b := Int.tdiv_eq_ediv_of_nonneg h
theorem zoy {a b : Int} (h : 0 <= a) : a.tmod b = a % b := Int.tmod_eq_emod_of_nonneg h
theorem getQ {α : Type} (l : List α) (i : Nat) (d : α) (h : i < l.length) : l[i]? = some (l.getD i d) := by
  simp [List.getD_eq_getElem?_getD, List.getElem?_eq_getElem h]
theorem upd_b {d t : Nat} {v : AV} : upd Z d v t = bif t == d then v else Z t := by
  unfold upd
  by_cases h : t = d
  · simp [h]
  · have : (t == d) = false := by simpa using h
    rw [if_neg h, this]; rfl
theorem z2e {K : Env -> Store -> Prop} {Z' : Env} {O' : Store} : z4a K O false (some (Z', O')) = K Z' O' := Eq.trans rfl rfl
theorem z2f {K : Env -> Store -> Prop} {Z' : Env} {O' : Store} : z4a K O true (some (Z', O')) = (O' = O /\ K Z' O') := Eq.trans rfl rfl
section
variable {K : Hist -> Env -> Store -> Prop} {H : Hist} {d : Option Nat} {g : Option (Nat × Bool)} {op : AOp} {nd : Nd} {f : AX} {xs : List AX} {v : AV} {s : Store}
theorem z3h : zo K H ⟨d, g, .no, op⟩ Z O = z4a (K H) O false (z1l ⟨d, g, .no, op⟩ Z O) := Eq.trans rfl rfl
theorem z3i : zo K H ⟨d, g, .same, op⟩ Z O = z4a (K H) O true (z1l ⟨d, g, .same, op⟩ Z O) := Eq.trans rfl rfl
theorem zon : zo K H ⟨d, g, .rd, op⟩ Z O = rdW K H d op Z O (z1c Z g) := Eq.trans rfl rfl
theorem zom : zo K H ⟨d, g, .ef, op⟩ Z O = efW K H d op Z O (z1c Z g) := Eq.trans rfl rfl
theorem rdW_t : rdW K H d op Z O (some true) = rdC K H d op Z O (op.run Z O) := Eq.trans rfl rfl
theorem rdW_f : rdW K H d op Z O (some false) = K H (putE Z d .undef) O := Eq.trans rfl rfl
theorem efW_t : efW K H d op Z O (some true) = efC K H d Z O (op.run Z O) := Eq.trans rfl rfl
theorem efW_f : efW K H d op Z O (some false) = K H (putE Z d .undef) O := Eq.trans rfl rfl
theorem rdC_s : rdC K H d op Z O (some (v, s)) = (s = O /\ (∀ h, H.pre h -> op.run Z h = some (v, h)) /\ K ⟨H.pre, fun s => H.rds s /\ op.run Z s = some (v, s)⟩ (putE Z d v) O) := Eq.trans rfl rfl
theorem efC_s : efC K H d Z O (some (v, s)) = (H.rds s /\ K ⟨fun t => H.pre t \/ t = O, H.rds⟩ (putE Z d v) s) := Eq.trans rfl rfl
theorem z2d : z3t C K H Z O d nd f xs (some true) = callW C K H Z d nd O (f.ev Z) (xs.map (AX.ev Z)) := Eq.trans rfl rfl
theorem z2c : z3t C K H Z O d nd f xs (some false) = K H (putE Z d .undef) O := Eq.trans rfl rfl
theorem zlf {O' : Store} : z59 .no H O O' = True := Eq.trans rfl rfl
theorem zlg {O' : Store} : z59 .same H O O' = (O' = O) := Eq.trans rfl rfl
theorem zle {O' : Store} : z59 .ef H O O' = H.rds O' := Eq.trans rfl rfl
theorem zlc : z4s .no H O = H := Eq.trans rfl rfl
theorem zld : z4s .same H O = H := Eq.trans rfl rfl
theorem zlb : z4s .ef H O = ⟨fun s => H.pre s \/ s = O, H.rds⟩ := Eq.trans rfl rfl
theorem un_not {b : Bool} : aUn .not (.bool b) = some (.bool (!b)) := Eq.trans rfl rfl
theorem un_neg {k : IntKind} {n : Int} : aUn .neg (.int k n) = some (.int k (k.wrap (0 - n))) := Eq.trans rfl rfl
theorem un_xor {k : IntKind} {n : Int} : aUn .xor (.int k n) = some (.int k (k.wrap (BitVec.ofInt k.bits (if k.signed then -1 else k.max) ^^^ BitVec.ofInt k.bits n).toNat)) := Eq.trans rfl rfl
theorem rdS_s {s : Store} : rdS K d Z O (some (v, s)) = (s = O /\ K (Hist.same O) (putE Z d v) O) := Eq.trans rfl rfl
theorem zny {h : Store} : (Hist.same O).pre h = (h = O) := Eq.trans rfl rfl
theorem znz {h : Store} : (Hist.same O).rds h = (h = O) := Eq.trans rfl rfl
theorem zll {h : Store} : Hist.none.pre h = False := Eq.trans rfl rfl
theorem zlm {h : Store} : Hist.none.rds h = True := Eq.trans rfl rfl
end
theorem zjr {k : IntKind} {m : Int} {cells : List AV} {off : Nat} {rest : List (Nat × Nat × AV)} (h : off + 1 <= cells.length) : z10 cells ((off, 1, (.int k m)) :: rest) = z10 (z19 cells off [(.int k m)]) rest := by
  simp [z10, cellsOf, h]
theorem zjy {s : List UInt8} {cells : List AV} {off : Nat} {rest : List (Nat × Nat × AV)} (h : off + 1 <= cells.length) : z10 cells ((off, 1, (.str s)) :: rest) = z10 (z19 cells off [(.str s)]) rest := by
  simp [z10, cellsOf, h]
theorem zjp {b : Bool} {cells : List AV} {off : Nat} {rest : List (Nat × Nat × AV)} (h : off + 1 <= cells.length) : z10 cells ((off, 1, (.bool b)) :: rest) = z10 (z19 cells off [(.bool b)]) rest := by
  simp [z10, cellsOf, h]
theorem zjw {r i o : Nat} {cells : List AV} {off : Nat} {rest : List (Nat × Nat × AV)} (h : off + 1 <= cells.length) : z10 cells ((off, 1, (.ptr r i o)) :: rest) = z10 (z19 cells off [(.ptr r i o)]) rest := by
  simp [z10, cellsOf, h]
theorem zju  {cells : List AV} {off : Nat} {rest : List (Nat × Nat × AV)} (h : off + 1 <= cells.length) : z10 cells ((off, 1, .nilp) :: rest) = z10 (z19 cells off [.nilp]) rest := by
  simp [z10, cellsOf, h]
theorem zjv  {cells : List AV} {off : Nat} {rest : List (Nat × Nat × AV)} (h : off + 1 <= cells.length) : z10 cells ((off, 1, .nilsl) :: rest) = z10 (z19 cells off [.nilsl]) rest := by
  simp [z10, cellsOf, h]
theorem zk0 {z : Nat} {es : List (List AV)} {x : Bool} {cells : List AV} {off : Nat} {rest : List (Nat × Nat × AV)} (h : off + 1 <= cells.length) : z10 cells ((off, 1, (.vsl z es x)) :: rest) = z10 (z19 cells off [(.vsl z es x)]) rest := by
  simp [z10, cellsOf, h]
theorem zjx {r o len z : Nat} {lim : Option Nat} {cells : List AV} {off : Nat} {rest : List (Nat × Nat × AV)} (h : off + 1 <= cells.length) : z10 cells ((off, 1, (.sl r o len lim z)) :: rest) = z10 (z19 cells off [(.sl r o len lim z)]) rest := by
  simp [z10, cellsOf, h]
theorem zjo {r i o len cap z : Nat} {cells : List AV} {off : Nat} {rest : List (Nat × Nat × AV)} (h : off + 1 <= cells.length) : z10 cells ((off, 1, (.asl r i o len cap z)) :: rest) = z10 (z19 cells off [(.asl r i o len cap z)]) rest := by
  simp [z10, cellsOf, h]
theorem zjz {cs : List AV} {cells : List AV} {off : Nat} {rest : List (Nat × Nat × AV)} (h : off + 1 <= cells.length) : z10 cells ((off, 1, (.vp cs)) :: rest) = z10 (z19 cells off [(.vp cs)]) rest := by
  simp [z10, cellsOf, h]
theorem zjq {f : FuncId} {caps : List AV} {cells : List AV} {off : Nat} {rest : List (Nat × Nat × AV)} (h : off + 1 <= cells.length) : z10 cells ((off, 1, (.fn f caps)) :: rest) = z10 (z19 cells off [(.fn f caps)]) rest := by
  simp [z10, cellsOf, h]
theorem zjt  {cells : List AV} {off : Nat} {rest : List (Nat × Nat × AV)} (h : off + 1 <= cells.length) : z10 cells ((off, 1, .nilfn) :: rest) = z10 (z19 cells off [.nilfn]) rest := by
  simp [z10, cellsOf, h]
theorem zjn {cs cells : List AV} {off n : Nat} {rest : List (Nat × Nat × AV)} (h0 : cs.length = n) (h : off + n <= cells.length) : z10 cells ((off, n, .agg cs) :: rest) = z10 (z19 cells off cs) rest := by
  simp [z10, cellsOf, h0, h]
theorem appB_n {ys : List (List AV)} : z4m O .nilsl ys = aApp O 1 .nilsl ys := rfl
theorem appB_v {esz : Nat} {es ys : List (List AV)} {ex : Bool} : z4m O (.vsl esz es ex) ys = aApp O 1 (.vsl esz es ex) ys := rfl
theorem appB_s {r off len esz : Nat} {lim : Option Nat} {ys : List (List AV)} : z4m O (.sl r off len lim esz) ys = aApp O 1 (.sl r off len lim esz) ys := rfl
theorem zi6 {ys : List (List AV)} : z4m O .bnil ys = if ys.length ≠ 0 /\ ys.length <= 1073741824 then some (.bsl O.length ys.length, O ++ [some ys]) else none := rfl
theorem zi7 {r len : Nat} {ys : List (List AV)} : z4m O (.bsl r len) ys = match O[r]? with
    | some (some o) => if ys.length ≠ 0 /\ o.length = len /\ len + ys.length <= 1073741824 then some (.bsl O.length (len + ys.length), O.set r none ++ [some (o ++ ys)]) else none
    | _ => none := rfl
theorem zaf {sz : Nat} {ys : List (List AV)} : aApp O sz .nilsl ys = if ys.length = 0 then (z2b O .nilsl).map fun _ => (.nilsl, O) else if ys.length <= 1073741824 then some (.sl O.length 0 ys.length none sz, O ++ [some ys]) else none := Eq.trans rfl rfl
theorem z7k {sz esz : Nat} {es ys : List (List AV)} {ex : Bool} : aApp O sz (.vsl esz es ex) ys = if ys.length = 0 then (z2b O (.vsl esz es ex)).map fun _ => (.vsl esz es ex, O) else if ex = true /\ esz = sz /\ es.length + ys.length <= 1073741824 then some (.sl O.length 0 (es.length + ys.length) none sz, O ++ [some (es ++ ys)]) else none := Eq.trans rfl rfl
theorem z8y {sz r off len esz : Nat} {lim : Option Nat} {ys : List (List AV)} : aApp O sz (.sl r off len lim esz) ys = if ys.length = 0 then (z2b O (.sl r off len lim esz)).map fun _ => (.sl r off len lim esz, O) else match O[r]? with
    | some (some o) => if esz = sz /\ off + len <= o.length /\ len + ys.length <= 1073741824 then
        (match lim with
         | none => if off + len + ys.length <= o.length then some (.sl r off (len + ys.length) none esz, O.set r (some (o.take (off + len) ++ ys ++ o.drop (off + len + ys.length))))
             else some (.sl O.length 0 (len + ys.length) none sz, O.set r none ++ [some ((o.drop off).take len ++ ys)])
         | some c => if len + ys.length <= c then (if off + len + ys.length <= o.length then some (.sl r off (len + ys.length) (some c) esz, O.set r (some (o.take (off + len) ++ ys ++ o.drop (off + len + ys.length)))) else none)
             else some (.sl O.length 0 (len + ys.length) none sz, O ++ [some ((o.drop off).take len ++ ys)])) else none
    | _ => none := Eq.trans rfl rfl
theorem zjs {cells : List AV} : z10 cells [] = some cells := rfl
theorem zmr {c : AV} {cs vs : List AV} {n : Nat} : z19 (c :: cs) (n + 1) vs = c :: z19 cs n vs := by
  have e : n + 1 + vs.length = (n + vs.length) + 1 := by omega
  simp [z19, e]
theorem zmu {c v : AV} {cs vs : List AV} : z19 (c :: cs) 0 (v :: vs) = v :: z19 cs 0 vs := by
  simp [z19]
theorem zmp {cs : List AV} : z19 cs 0 [] = cs := by simp [z19]
theorem zmt {cs vs : List AV} {n : Nat} : z19 cs n vs = cs.take n ++ vs ++ cs.drop (n + vs.length) := Eq.trans rfl rfl
theorem overw1 {c v : AV} : z19 [c] 0 [v] = [v] := by simp [z19]
theorem z44 (s : List UInt8) : (zl s).length = s.length := by simp [zl]
theorem z7m {s : List UInt8} {i : Nat} (h : i < s.length) : (zl s)[i]? = some [.int .u8 (s.getD i 0).toNat] := by
  simp [zl, B8, List.getD_eq_getElem?_getD, List.getElem?_eq_getElem h]
theorem zil {s : List UInt8} {i : Nat} {n : Int} (h : 0 <= n /\ n < 256) : (zl s).set i [.int .u8 n] = zl (s.set i (UInt8.ofNat n.toNat)) := by
  have e : ((n.toNat % 256 : Nat) : Int) = n := by omega
  simp [zl, B8, List.map_set, e]
theorem zik (n : Nat) : List.replicate n [AV.int .u8 0] = zl (List.replicate n 0) := by simp [zl, B8]
theorem zeb {s : List UInt8} {i : Nat} (h : i < s.length) : s[i]? = some (s.getD i 0) := getQ s i 0 h
theorem z9z {r off len esz : Nat} {lim : Option Nat} : z2b O (.sl r off len lim esz) = match O[r]? with | some (some o) => if off + len <= o.length then some ((o.drop off).take len) else none | _ => none := Eq.trans rfl rfl
theorem z6u {k : IntKind} {a b : Int} (h : a = b) : AV.int k a = AV.int k b := by rw [h]
theorem wm_u8 {n : Int} : IntKind.u8.wrap n = n % 256 := by simp [IntKind.wrap, IntKind.signed, IntKind.bits]
theorem wm_u16 {n : Int} : IntKind.u16.wrap n = n % 65536 := by simp [IntKind.wrap, IntKind.signed, IntKind.bits]
theorem z8j {n : Int} : IntKind.u32.wrap n = n % 4294967296 := by simp [IntKind.wrap, IntKind.signed, IntKind.bits]
theorem wm_u64 {n : Int} : IntKind.u64.wrap n = n % 18446744073709551616 := by simp [IntKind.wrap, IntKind.signed, IntKind.bits]
theorem zim {s : List UInt8} {i : Nat} : (zl s).take i = zl (s.take i) := by simp [zl, List.map_take]
theorem zii {s : List UInt8} {i : Nat} : (zl s).drop i = zl (s.drop i) := by simp [zl, List.map_drop]
theorem zdk {s t : List UInt8} : zl s ++ zl t = zl (s ++ t) := by simp [zl]
theorem zos {cs : List AV} {off n : Nat} : z3z cs off n false = cs[off]? := Eq.trans rfl rfl
theorem zot {cs : List AV} {off n : Nat} : z3z cs off n true = if off + n <= cs.length then some (.agg ((cs.drop off).take n)) else none := Eq.trans rfl rfl
/-! Guards. -/
def gv (v : AV) (b : Bool) : Option Bool := match v with
  | .bool x => some (x == b)
  | .undef => some false
  | _ => none
def insG (g : Option Bool) (d : Option Nat) (op : AOp) (Z : Env) (O : Store) : Option (Env × Store) := match g with
  | some true => (op.run Z O).map fun r => (putE Z d r.1, r.2)
  | some false => some (putE Z d .undef, O)
  | none => none
theorem zl1 {d : Option Nat} {nd : Nd} {op : AOp} : z1l ⟨d, none, nd, op⟩ Z O = (op.run Z O).map fun r => (putE Z d r.1, r.2) := rfl
theorem zl2 {d : Option Nat} {nd : Nd} {b : Bool} {s : Nat} {op : AOp} : z1l ⟨d, some (s, b), nd, op⟩ Z O = insG (gv (Z s) b) d op Z O := rfl
theorem zk7 : z1c Z none = some true := rfl
theorem zk8 {s : Nat} {b : Bool} : z1c Z (some (s, b)) = gv (Z s) b := rfl
theorem gv_tt : gv (.bool true) true = some true := rfl
theorem gv_tf : gv (.bool true) false = some false := rfl
theorem gv_ft : gv (.bool false) true = some false := rfl
theorem gv_ff : gv (.bool false) false = some true := rfl
theorem zk9 {b : Bool} : gv .undef b = some false := rfl
theorem insG_t {d : Option Nat} {op : AOp} : insG (some true) d op Z O = (op.run Z O).map fun r => (putE Z d r.1, r.2) := rfl
theorem insG_f {d : Option Nat} {op : AOp} : insG (some false) d op Z O = some (putE Z d .undef, O) := rfl
section
variable {K : Hist -> Env -> Store -> Prop} {K1 : Env -> Store -> Prop} {H : Hist} {d : Option Nat} {op : AOp} {nd : Nd} {b x m : Bool} {P : Prop} {f : AX} {xs : List AX}
theorem zg0 [hd : Decidable P] (h1 : P -> z4a K1 O m (insG (gv (.bool true) b) d op Z O)) (h2 : ¬ P -> z4a K1 O m (insG (gv (.bool false) b) d op Z O)) : z4a K1 O m (insG (gv (.bool (@decide P hd)) b) d op Z O) := by
  by_cases h : P
  · simpa [h] using h1 h
  · simpa [h] using h2 h
theorem zg1 (h1 : x = true -> z4a K1 O m (insG (gv (.bool true) b) d op Z O)) (h2 : x = false -> z4a K1 O m (insG (gv (.bool false) b) d op Z O)) : z4a K1 O m (insG (gv (.bool x) b) d op Z O) := by
  cases x
  · exact h2 rfl
  · exact h1 rfl
theorem zg2 [hd : Decidable P] (h1 : P -> rdW K H d op Z O (gv (.bool true) b)) (h2 : ¬ P -> rdW K H d op Z O (gv (.bool false) b)) : rdW K H d op Z O (gv (.bool (@decide P hd)) b) := by
  by_cases h : P
  · simpa [h] using h1 h
  · simpa [h] using h2 h
theorem zg3 (h1 : x = true -> rdW K H d op Z O (gv (.bool true) b)) (h2 : x = false -> rdW K H d op Z O (gv (.bool false) b)) : rdW K H d op Z O (gv (.bool x) b) := by
  cases x
  · exact h2 rfl
  · exact h1 rfl
theorem zg4 [hd : Decidable P] (h1 : P -> efW K H d op Z O (gv (.bool true) b)) (h2 : ¬ P -> efW K H d op Z O (gv (.bool false) b)) : efW K H d op Z O (gv (.bool (@decide P hd)) b) := by
  by_cases h : P
  · simpa [h] using h1 h
  · simpa [h] using h2 h
theorem zg5 (h1 : x = true -> efW K H d op Z O (gv (.bool true) b)) (h2 : x = false -> efW K H d op Z O (gv (.bool false) b)) : efW K H d op Z O (gv (.bool x) b) := by
  cases x
  · exact h2 rfl
  · exact h1 rfl
theorem zg6 [hd : Decidable P] (h1 : P -> z3t C K H Z O d nd f xs (gv (.bool true) b)) (h2 : ¬ P -> z3t C K H Z O d nd f xs (gv (.bool false) b)) : z3t C K H Z O d nd f xs (gv (.bool (@decide P hd)) b) := by
  by_cases h : P
  · simpa [h] using h1 h
  · simpa [h] using h2 h
theorem zg7 (h1 : x = true -> z3t C K H Z O d nd f xs (gv (.bool true) b)) (h2 : x = false -> z3t C K H Z O d nd f xs (gv (.bool false) b)) : z3t C K H Z O d nd f xs (gv (.bool x) b) := by
  cases x
  · exact h2 rfl
  · exact h1 rfl
end
end
attribute [go_sem] z2j z2i z2e z2f z3h z3i zon zom rdW_t rdW_f efW_t efW_f rdC_s efC_s z2d z2c zlf zlg zle zlc zld zlb zll zlm false_or or_imp forall_and forall_eq false_implies implies_true zl1 zl2 zk7 zk8 gv_tt gv_tf gv_ft gv_ff zk9 insG_t insG_f AOp.run AX.ev putE upd_b cond_true cond_false z1j Option.map_some Option.bind_some Option.map_none rBin rEq z1t eqOp aMin z1s z1p z26 z25 z1z rFa rFld z23 z24 z12 z1y
  z1i blkQ endQ endP retV oks Bool.and_true Bool.true_and RV.val RV.ok Option.getD_some Option.isSome_some List.map_cons List.map_nil List.getD_cons_zero List.getD_cons_succ List.getD_nil if_true if_false ite_true ite_false reduceCtorEq Bool.false_eq_true Bool.true_eq_false beq_true beq_false Bool.not_true Bool.not_false BEq.rfl beq_self_eq_true
  List.nil_append List.cons_append List.append_nil
  oj_mv zmc zlt zls zlu oj_box zlv oj_lit zm7 zme zmb oj_bin oj_un zly zma zm8 zmd oj_fa oj_fld zm0 zm1 zm2 zm3 oj_ext zm6 zm5 zm4 oj_app zlz zlx zm9 oj_nil zlw
  z39 z3b z2k zmv zmw aBld appB_n appB_v appB_s zi6 zi7 z2n z2o z33 z34 z3d z3a z2m z3e z2q z38 z35 z3c z2t z2u z2v z2w z2x z2y z2s z31 z30 z2z z2l z2r z2p z36
  getElem?_app getElem?_app0 z2a z3g
  shr_u8 shl_u8 zoa zo7 zgc zgb zob zo8 zo9 zo6 zej ib_sub ib_mul ib_quo ib_rem ib_eql ib_neq ib_lss ib_leq ib_gtr ib_geq zkq zku zky zko zks zkw zek zel zem zkp zkt zkx zkn zkr zkv mask1 mask2 mask3 mask4 mask5 mask6 mask7 mask8 mask12
  cellsOf z2b z4h z3s z7n zin z8r z8q bnd z8u z8v z8t z64 knownN zaf z7k z8y aBox rCopy zbv List.length_cons List.length_nil Option.bind_none overw1 zmr zmu zmp z44 z7m zil zik zim zii zdk zeb
  List.getElem?_cons_zero List.getElem?_cons_succ List.set_cons_zero List.set_cons_succ List.drop_zero Nat.add_zero Nat.zero_add
  zos zot List.drop_succ_cons List.take_succ_cons List.take_zero Nat.zero_mul Nat.mul_one true_and and_true eq_self List.take_of_length_le
  z7c za8 z8i za7 w_u8 zl4 zl5 zln zow zoy if_pos if_neg decide_eq_true decide_eq_false Int.toNat_natCast
attribute [go_sem low] un_xor zmt
/-- Slots that are kept in mind. -/
def z8x (Z' Z : Env) : List Nat -> Prop
  | [] => True
  | j :: l => Z' j = Z j /\ z8x Z' Z l
theorem zdf (Z : Env) : ∀ l, z8x Z Z l
  | [] => trivial
  | _ :: l => ⟨rfl, zdf Z l⟩
theorem zW.slots {C : Ctx} {n k : Nat} {ac : ACode} {Q : AExit -> Env -> Store -> Prop} {Z : Env} {O : Store} (l : List Nat) (h : ∀ Z', z8x Z' Z l -> zW C n k ac Q Z' O) : zW C n k ac Q Z O := h Z (zdf Z l)
attribute [go_sem] zjr zjy zjp zjw zju zjv zk0 zjx zjo zjz zjq zjt zjn zjs z8x un_not un_neg rdS_s zny znz
attribute [go_sem high] zn7 zjg zlh zlk
attribute [go_sem low] wm_u8 wm_u16 z8j wm_u64
end Am
end Go.Proofs.YtncenefkbpelbaaDoor
end
section
/- THE ABSTRACT MACHINE, part 27: the store as_ a heap: what is read behind writes; methods told by properties. -/
namespace Go.Proofs.YtncenefkbpelbaaDoor
namespace Am
section
variable {α : Type} {l m : List α} {r s : Nat} {x : α}
theorem z4b (h : r < l.length) : (l.set r x)[r]? = some x := List.getElem?_set_self h
theorem z1e (h : r ≠ s) : (l.set r x)[s]? = l[s]? := List.getElem?_set_ne h
theorem gapp (h : r < l.length) : (l ++ m)[r]? = l[r]? := List.getElem?_append_left h
theorem z4e (h : l.length <= r) : (l ++ m)[r]? = m[r - l.length]? := List.getElem?_append_right h
theorem sappr (h : l.length <= r) : (l ++ m).set r x = l ++ m.set (r - l.length) x := List.set_append_right _ _ h
theorem sapp (h : r < l.length) : (l ++ m).set r x = l.set r x ++ m := List.set_append_left _ _ h
end
/-- What holds at a function's end, with nothing let go. -/
def z81 (ts : List RV) (P : AV -> Store -> Prop) : AExit -> Env -> Store -> Prop
  | .exit _ => fun _ _ => False
  | _ => fun Z O => oks Z O ts = true /\ P (retV ts Z O) O
theorem ACallsP.of_keep {C : Ctx} {f : FuncId} {n : Nat} {ts : List RV} {ac : ACode} (hc : cFn C f = some (n, ts, ac)) {args : List AV} {O : Store} {P : AV -> Store -> Prop} (hn : args.length <= n)
    (h : zW C n O.length ac (z81 ts P) (z1j args) O) : ACallsP C f args O P := by
  simp only [cFn, Option.bind_eq_some_iff] at hc
  obtain ⟨fn, hf, hc⟩ := hc
  split at hc
  · cases hc
  · rename_i hname
    simp only [Option.bind_eq_some_iff, Option.map_eq_some_iff, Prod.mk.injEq] at hc
    obtain ⟨c, hb, ts', hts, ac', hac, rfl, rfl, rfl⟩ := hc
    intro γ w cargs hR ha
    left
    constructor
    · have hname' : (fn.name == "runtime.NumGoroutine") = false := by simpa using hname
      have h1 : fn.name ≠ "runtime.NumGoroutine" := by simpa using hname'
      simp [callFunc, hf, h1, hb]
    · have hl := ha.length
      refine calls_of_wp hf hb ?_
      have hw := h c hac γ w hR.gl hR.len γ { tmps := cargs.toArray ++ Array.replicate (fn.ntmps - cargs.toArray.size) undef, defers := [] } w (Step.refl _ _) hR
        (z7z ha _) (by simp; omega)
      refine wp_mono hw ?_
      rintro e a' w' ⟨ae, Z', O2, γ', rfl, hq, q1, q2, q3, q4, q5⟩
      have fin : (oks Z' O2 ts' = true /\ P (retV ts' Z' O2) O2) -> a'.defers = [] /\ ∃ v_1, (results fn a'.tmps).run C.P w' = .ok v_1 w' /\ ∃ cv v γ' O', Ending.returned v_1 = .returned cv /\ P v O' /\ Step γ w γ' w' /\ Rel C γ' O' w' /\ VR γ' w' v cv := by
        rintro ⟨hk, hp⟩
        obtain ⟨rv, r1, r2⟩ := z78 q2 q3 hts hk
        exact ⟨q4, _, r1, _, _, γ', O2, rfl, hp, q1, q2, r2⟩
      cases ae with
      | normal => exact fin hq
      | exit id => exact hq.elim
      | ret => exact fin hq
attribute [go_sem] z4b z1e gapp z81 z5k not_true_eq_false not_false_eq_true decide_false decide_true List.set_set List.append_assoc z4e sapp sappr List.length_set Nat.sub_self Nat.add_sub_cancel_left List.length_append List.length_map
@[go_sem] def zZ0 : List AV := [.int .u8 0, .int .u8 0, .int .u8 0, .int .u8 0, .int .u8 0, .int .u8 0, .int .u8 0, .int .u8 0, .int .u8 0, .int .u8 0, .int .u8 0, .int .u8 0, .int .u8 0, .int .u8 0, .int .u8 0, .int .u8 0, .int .u8 0, .int .u8 0, .int .u8 0, .int .u8 0, .int .u8 0, .int .u8 0, .int .u8 0, .int .u8 0, .int .u8 0, .int .u8 0, .int .u8 0, .int .u8 0, .int .u8 0, .int .u8 0, .int .u8 0, .int .u8 0]
end Am
end Go.Proofs.YtncenefkbpelbaaDoor
end
section
/- THE ABSTRACT MACHINE, part 28: package-level tables that are laid: what a law's row says of them, as_ the machine's own knowledge. -/
namespace Go.Proofs.YtncenefkbpelbaaDoor
namespace Am
open Go.ChangeShapes Go.WideShapes Go.ChangeAt Go.RowKit
section
variable {H : Type} {enc : TypeId × Value -> H} {P : Program} {w : World}
/-- An array of numbers, by its datum. -/
theorem zl6 {base : Nat} {spare : Nat -> Bool} {held : Bool} {fuel : Nat} {t e : TypeId} {n : Nat} {k : IntKind} {cs : List Value} {p : List MemPlace} (ns : List Int)
    (ht : P.underlying t = some (.array n e)) (he : P.underlying e = some (.int k)) (hc : P.cellsOf e = 1) (hct : P.cellsOf t = n)
    (h : DataW.trod enc P w base spare held fuel t cs = some (.agg (ns.map fun i => .lit (.int k i)), p)) : cs = ns.map (Value.int k) := by
  obtain ⟨xs, m, rfl, hx, hl, hn, hel⟩ := DataW.trod_array ht h
  simp only [Prod.mk.injEq, DataW.agg.injEq] at hx
  have hx1 := hx.1
  have hlen : ns.length = n := by
    have := congrArg List.length hx1
    simp only [List.length_map] at this
    omega
  rw [hct] at hl
  refine List.ext_getElem? fun i => ?_
  by_cases hi : i < n
  · have h1 := hel i hi
    rw [hc, Nat.mul_one] at h1
    obtain ⟨x, hxi⟩ : ∃ x, xs[i]? = some x := ⟨xs[i]'(by omega), List.getElem?_eq_getElem (by omega)⟩
    rw [hxi] at h1
    obtain ⟨v, e1, e2, _⟩ := DataW.trod_int he h1
    subst e2
    have h2 := congrArg (fun l => l[i]?) hx1
    simp only [List.getElem?_map, hxi, Option.map_some] at h2
    rw [List.getElem?_map]
    cases hns : ns[i]? with
    | none => rw [hns] at h2; simp at h2
    | some z =>
      rw [hns] at h2
      simp only [Option.map_some, Option.some.injEq, DataW.lit.injEq, Lit.int.injEq, true_and] at h2
      subst h2
      have h3 := congrArg (fun l => l[0]?) e1
      simp only [List.getElem?_take, List.getElem?_drop] at h3
      simpa using h3
  · rw [List.getElem?_eq_none (by omega), List.getElem?_eq_none (by simp; omega)]
theorem zo1 {n : String} {g : Nat} {cs : Array Value} (hg : P.globalNamed n = some g) (h : w.var? P n = some cs) : Imm [] w g /\ Seg w g 0 cs.toList := by
  unfold World.var? at h
  rw [hg, Option.bind_some] at h
  split at h
  · rename_i c ty fz hb
    simp only [Option.some.injEq] at h; subst h
    refine ⟨⟨?_, by simp⟩, c, ty, fz, [], [], hb, by simp, rfl⟩
    rcases Nat.lt_or_ge g w.heap.size with h2 | h2
    · exact h2
    · simp [Array.getElem?_eq_none h2] at hb
  · cases h
theorem zdc {γ : Places} {k : IntKind} : ∀ (ns : List Int), VRs γ w (ns.map (AV.int k)) (ns.map (Value.int k))
  | [] => VRs.nil
  | _ :: ns => VRs.cons ⟨VR.int, rfl⟩ (zdc ns)
/-- A laid table of numbers, as_ the machine knows it. -/
theorem vp_of_var {n : String} {g : Nat} {t e : TypeId} {m : Nat} {k : IntKind} {g' : Nat} {t' : TypeId} {cs : Array Value} {fuel : Nat} {p : List MemPlace} (ns : List Int)
    (hg : P.globalNamed n = some g) (htg : (P.globals[g]?).map (·.type) = some t) (ht : P.underlying t = some (.array m e)) (he : P.underlying e = some (.int k)) (hc : P.cellsOf e = 1) (hct : P.cellsOf t = m)
    (k1 : P.globalNamed n = some g') (k2 : (P.globals[g']?).map (·.type) = some t') (k3 : w.var? P n = some cs)
    (k4 : DataW.trod enc P w 0 (fun _ => true) false fuel t' cs.toList = some (.agg (ns.map fun i => .lit (.int k i)), p)) : VR [] w (.vp (ns.map (AV.int k))) (.pointer (some ⟨g, 0, none⟩)) := by
  obtain rfl := Option.some.inj (hg.symm.trans k1)
  obtain rfl := Option.some.inj (htg.symm.trans k2)
  obtain ⟨h1, h2⟩ := zo1 hg k3
  rw [zl6 ns ht he hc hct k4] at h2
  exact ⟨g, 0, _, rfl, h1, h2, zdc ns⟩
theorem law_contract_at {C : Ctx} {f : FuncId} {fn : Func} {e : Nat × List RV × ACode} (hc : cFn C f = some e) {d : Nat} {tys : List Ty} (htys : z8h C.P d fn.params.toList = some tys)
    (hlaw : ∀ avs, z62 tys avs -> ACallsTo C f avs [] (.bool true) []) {s : ChangeSpec} (hvars : s.vars = [])
    (hspec : ∀ ds : List (DataW H), ds.length = fn.params.toList.length -> (s.fn H ds).results = [.lit (.bool true)] /\ (s.fn H ds).args = ds /\ (s.fn H ds).vars = []) {tb : TypeId} (hres : fn.resultTypes = #[tb]) (htb : C.P.underlying tb = some .bool)
    (hl : laidOutB C.P = true) (hpar : (fn.params.toList.all fun t => C.P.readableRec t && decide (t < C.P.types.size)) = true)
    {W : World} (hR : Rel C [] [] W) {base : Nat} {args : Array Value} {ds gs : List (DataW H)} {before : List MemPlace} (hval : ∀ (j : Nat) t v, fn.params[j]? = some t -> args[j]? = some v -> Value.okWide C.P W .any base t v)
    (hW : DataW.Whole enc C.P fn.params.toList s.vars false W args.toList ds gs before) :
    Calls C.P f args W fun e W' => ∃ v, e = .returned v /\ s.post enc C.P fn false true false false W args v W' := by
  have hW' := hW
  obtain ⟨p, q, hA, hV, rfl, hfz, hnd⟩ := hW
  obtain ⟨avs, h1, h2⟩ := zf6 (r := .any) (b0 := base) htys (fun j t v hj hv => hval j t v (by simpa using hj) (by simpa using hv)) hA
  have hcall := (hlaw avs h2).calls hc hR h1
  have ea : args.toList.toArray = args := by simp
  rw [ea] at hcall
  refine hcall.mono ?_
  rintro x w' ⟨rfl, hb⟩
  refine ⟨_, rfl, zl9 hW' hvars (fun gs hgs => ?_) hres htb hl hpar hb⟩
  subst hgs
  rw [List.append_nil]
  exact hspec ds (zh5 hA)
end
end Am
end Go.Proofs.YtncenefkbpelbaaDoor
end
section
/- The seat's program, for the abstract machine. -/
namespace Go.Proofs.YtncenefkbpelbaaDoor
namespace Am
def shaFirst : List Int := [1779033703, 3144134277, 1013904242, 2773480762, 1359893119, 2600822924, 528734635, 1541459225]
def shaRounds : List Int := [1116352408, 1899447441, 3049323471, 3921009573, 961987163, 1508970993, 2453635748, 2870763221, 3624381080, 310598401, 607225278, 1426881987, 1925078388, 2162078206, 2614888103, 3248222580, 3835390401, 4022224774, 264347078, 604807628, 770255983, 1249150122, 1555081692, 1996064986, 2554220882, 2821834349, 2952996808, 3210313671, 3336571891, 3584528711, 113926993, 338241895, 666307205, 773529912, 1294757372, 1396182291, 1695183700, 1986661051, 2177026350, 2456956037, 2730485921, 2820302411, 3259730800, 3345764771, 3516065817, 3600352804, 4094571909, 275423344, 430227734, 506948616, 659060556, 883997877, 958139571, 1322822218, 1537002063, 1747873779, 1955562222, 2024104815, 2227730452, 2361852424, 2428436474, 2756734187, 3204031479, 3329325298]
def zb1 : List AV := shaFirst.map (AV.int .u32)
def gl_sha_rounds : List AV := shaRounds.map (AV.int .u32)
noncomputable def TC : Ctx := ⟨Tryd.prog, fun g => if g = 0 then some zb1 else if g = 1 then some gl_sha_rounds else none⟩
theorem zc3 {k : Nat} {i : IntKind} : ∀ (l : List Int), RLs k (l.map (AV.int i))
  | [] => by simp [RLs]
  | _ :: l => by simp [RLs, RL]; exact zc3 l
theorem glok : GlOK TC := by
  intro g cs h
  simp only [TC] at h
  split at h
  · cases h; exact zc3 _
  · split at h
    · cases h; exact zc3 _
    · cases h
end Am
end Go.Proofs.YtncenefkbpelbaaDoor
end
section
/- slices.Backward over hashes: its iterator, walked once. -/
namespace Go.Proofs
open Go.RowKit Go.Shelf
attribute [local go_sem] Oper.semAt_some
theorem zp6 {F : Fence} {n : Nat} {P : Program} {ops : Array Oper} {Q : Exit -> Act -> World -> Prop} {a : Act} {w : World} {rest : List Oper} {o : Oper} (t : TypeId) {x : Operand} {ad : Addr} {v : Value}
    (hg : o.guard = none) (hop : o.op = .load t x) (hl : (loadVar t ad).run P w = .ok v w) (hx : a.eval x = .pointer (some ad)) (h : wpListIn F n P ops Q rest (a.put o.dst v) w) : wpListIn F n P ops Q (o :: rest) a w := by
  refine wpListIn_plain hg fun K hK' => ?_
  unfold Oper.wpIn
  refine ⟨?_, ?_⟩
  · simp [Oper.about, hop]
  · rw [Oper.semAt_plain F _ _ (by rw [hop]; intro c hc'; cases hc')]
    have e : (execOp a.eval o).run P w = .ok (.value v) w := by
      simp only [execOp, hop, hx, Sem.run_bind, Instr.loadAt, Instr.sureAddr, Sem.run_pure, Result.andThen_ok, hl]
    rw [e]
    exact hK' _ _ h
set_option maxRecDepth 100000 in
set_option maxHeartbeats 2000000 in
theorem Tryd.back1_in (l B o0 N : Nat) (hN : N < 1000000) (J : Nat -> World -> Prop) (hd : ∀ j W, J j W -> J j W.drew)
    (hR : ∀ j W, J j W -> ∃ a cap, W.cell? ⟨B, o0, none⟩ = some (.slice a N cap) /\ (j < N -> ∃ (b o : Nat) (v : Value), a = some ⟨b, o, none⟩ /\ (loadVar 26 ⟨b, o + (N - 1 - j) * 32, none⟩).run Tryd.prog W = .ok v W ∧
      YieldAt Fence.wide 0 Tryd.prog l #[.int .i64 ((N : Int) - 1 - j), v] W fun e W' => e = .returned (.bool true) /\ J (j + 1) W'))
    (W : World) (h0 : J 0 W) :
    CallsIn Fence.wide 1 Tryd.prog 136 #[.func (.yield l) #[] #[], .pointer (some ⟨B, o0, none⟩)] W fun e W' => (∃ v, e = .returned v) /\ J N W' := by
  obtain ⟨a0, cap0, hc0, _⟩ := hR 0 W h0
  refine callsIn_of_wp Tryd.func136 rfl trivial ?_ rfl
  simp only [Tryd.ntmps136, List.size_toArray, List.length_cons, List.length_nil, Nat.reduceAdd, Nat.reduceSub, Array.replicate_succ, Array.replicate_zero, List.push_toArray, List.append_toArray, List.nil_append, List.cons_append]
  gi_wp2
  gi_loopw [3] (fun i wr => ∃ j : Nat, j <= N /\ i = .int .i64 ((N : Int) - 1 - j) /\ J j wr)
    (fun i _ => (intOf i + 1).toNat)
  case atStart => exact ⟨0, Nat.zero_le _, by simp, h0⟩
  case round =>
    obtain ⟨k, hk, rfl, hJs⟩ := hrel
    obtain ⟨a, cap, hc, hy⟩ := hR k wr hJs
    by_cases hlt : k < N
    · obtain ⟨b, o, v, rfl, hl, fn, tmps, assign, body, hy, hRd⟩ := hy hlt
      clear hR hd
      gi_wp2_with (refine zp6 26 rfl rfl hl rfl ?_)
      refine hRd.mono ?_
      rintro e W3 ⟨rfl, hJ3⟩
      gi_wp2
      go_roundw
      case rel => exact ⟨k + 1, by omega, by simp; omega, hJ3⟩
      case measure => simp [intOf]; omega
    · obtain rfl : k = N := by omega
      gi_wp2
      go_end0
      exact ⟨⟨_, rfl⟩, hJs⟩
end Go.Proofs
end
section
/- A range over slices.Backward of hashes. -/
namespace Go.Proofs.YtncenefkbpelbaaDoor
namespace Am
open Go.RowKit
set_option maxHeartbeats 2000000 in
theorem zn5 {n k : Nat} {g : AX} {p0 p1 : Nat} {xa xb : ACode} {Q : AExit -> Env -> Store -> Prop} {Z : Env} {O : Store} {rB : Nat} {es : List (List AV)}
    (hg : g.ev Z = .fn 136 [.ptr rB 0 0]) (hN : es.length < 1000000) (hp0 : p0 < n) (hp1 : p1 < n) (hu : ∀ e ∈ es, e.length = 32)
    (I : Nat -> Store -> Prop) (h0 : I 0 O) (hbox : ∀ j O', I j O' -> ∃ x, O'[rB]? = some (some [[x]]) /\ ((x = .nilsl /\ es = []) \/ ∃ ex, x = .vsl 32 es ex))
    (hround : ∀ (l j : Nat) (O' : Store) (cs : List AV), I j O' -> j < es.length -> es[es.length - 1 - j]? = some cs ->
      SWpI (some l) TC n O'.length xa (z1i (fun Z2 O2 => SWpI (some l) TC n O2.length xb (fun e _ O3 => e = .normal /\ I (j + 1) O3) Z2 O2) (fun _ _ _ => False))
        (upd (upd Z p0 (.int .i64 ((es.length : Int) - 1 - j))) p1 (.agg cs)) O')
    (hend : ∀ O', I es.length O' -> Q .normal Z O') : SWpD TC n k (.rangef g [p0, p1] xa xb) Q Z O := by
  intro c hc γ0 w0 hgl hk γ a w hst hR hE hn
  obtain ⟨go, ps, ca, cb, rfl, hgx, hps, ha, hb⟩ := ziu hc
  have hpsA : ps = #[p0, p1] := by
    apply Array.ext'
    rw [hps]
  subst hpsA
  have hgv : VR γ w (.fn 136 [.ptr rB 0 0]) (a.eval go) := by
    have := z9c hR hE go
    rwa [<- z1b hgx, hg] at this
  simp only [VR, VRt] at hgv
  obtain ⟨vs, hge, _, _, rfl, ⟨fl, plB, hplB, rfl⟩, rfl⟩ := hgv
  refine wpIn_rangeFunc ?_
  intro fn hfn
  rw [Fence.wide_round]
  obtain ⟨rec, hrec⟩ : ∃ rec : LoopState -> Option Code -> Loop, rec = fun st pe => { state := st, pending := pe, fn, tmps := a.tmps, params := #[p0, p1], assign := ca, body := cb, defers := w.heap.size } := ⟨_, rfl⟩
  obtain ⟨W1, hW1⟩ : ∃ W1, (w.alloc (.deferred (some []))).alloc (.loop (rec .ready none)) = W1 := ⟨_, rfl⟩
  have hL1 : W1.heap[w.heap.size + 1]? = some (.loop (rec .ready none)) := by
    rw [<- hW1]; have := World.alloc_heap_new (w.alloc (.deferred (some []))) (.loop (rec .ready none)); rwa [World.size_alloc] at this
  have hK1 : W1.heap[w.heap.size]? = some (.deferred (some [])) := by
    rw [<- hW1]; exact (Below.heap_alloc _ _ _ (by simp)).trans (World.alloc_heap_new w _)
  have hbk1 : Book w W1 := by rw [<- hW1]; exact (Book.alloc w _).trans (Book.alloc _ _)
  have hlow1 : ∀ b, b < w.heap.size -> W1.heap[b]? = w.heap[b]? := fun b hb => by
    rw [<- hW1, Below.heap_alloc _ _ _ (by simp; omega), Below.heap_alloc _ _ _ hb]
  let J : Nat -> World -> Prop := fun j W => ∃ γ' O', I j O' /\ Step γ w γ' W /\ Rel TC γ' O' W /\ W.heap[w.heap.size + 1]? = some (.loop (rec .ready none)) /\ W.heap[w.heap.size]? = some (.deferred (some []))
  have hJ0 : J 0 W1 := ⟨γ, O, h0, (Step.refl γ w).book hbk1 hlow1, hR.book hbk1, hL1, hK1⟩
  have hJd : ∀ j W, J j W -> J j W.drew := by
    rintro j W ⟨γ', O', i1, i2, i3, i4, i5⟩
    exact ⟨γ', O', i1, i2.book (Book.drew W) (fun _ _ => rfl), i3.book (Book.drew W), i4, i5⟩
  refine ⟨w.heap.size + 1, [{ target := .collected w.heap.size, args := #[] }], W1, { target := .fn (.func 136) #[.pointer (some ⟨plB.b, plB.base + 0 * plB.esz + 0, none⟩)], args := #[.func (.yield (w.heap.size + 1)) #[] #[]] }, W1, 136,
    #[.func (.yield (w.heap.size + 1)) #[] #[], .pointer (some ⟨plB.b, plB.base + 0 * plB.esz + 0, none⟩)], W1, ?_, ?_, fun _ _ => trivial, ?_, fun h => by simp [Fence.wide] at h, ?_⟩
  · rw [<- hW1, hrec]; exact run_enterLoop_outer _ _ _ _ _
  · simp only [resolve, hge]
    simp [go_sem]
  · have eg : ∀ args w, (callFunc 136 args).run TC.P w = .ok (.enter 136 args) w := enters_of Tryd.func136 (by kernel_rfl) rfl
    simp [invoke, go_sem, eg]
  · refine (Tryd.back1_in (w.heap.size + 1) plB.b (plB.base + 0 * plB.esz + 0) es.length hN J hJd ?_ W1 hJ0).mono ?_
    · -- what is read, and a round
      rintro j W ⟨γ', O', i1, i2, i3, i4, i5⟩
      obtain ⟨x, hx, hxs⟩ := hbox j O' i1
      obtain ⟨pl, hpl, hok⟩ := i3.alive rB _ hx
      obtain ⟨fl', hkp⟩ := i2.keep rB fl plB hplB
      rw [hpl] at hkp; cases hkp
      obtain ⟨vals, hsg, hvs⟩ := hok.elem (i := 0) (cs := [x]) rfl
      simp only [VRs] at hvs
      obtain ⟨v, _, rfl, ⟨hv, _⟩, rfl⟩ := hvs
      have hcell := hsg.cell (j := 0) (v := v) rfl
      rcases hxs with ⟨rfl, rfl⟩ | ⟨ex, rfl⟩
      · simp only [VR] at hv
        subst hv
        exact ⟨none, 0, hcell, fun h => by simp at h⟩
      · simp only [VR] at hv
        rcases hv with ⟨rfl, ad, rfl⟩ | ⟨b, o, cap, vals, rfl, q2, q3, q4, q5, q6, q7⟩
        · exact ⟨some ad, 0, hcell, fun h => by simp at h⟩
        · refine ⟨some ⟨b, o, none⟩, cap, hcell, fun hj => ?_⟩
          have hi : es.length - 1 - j < es.length := by omega
          obtain ⟨A, ev, B, rfl, e2, e3⟩ := q7.elem hu (List.getElem?_eq_getElem hi)
          have hseg : Seg W b (o + (es.length - 1 - j) * 32) ev := by
            obtain ⟨c, ty, fz, pre, post, s1, s2, s3⟩ := q5
            exact ⟨c, ty, fz, pre ++ A, B ++ post, s1, by rw [s2]; simp [List.append_assoc], by rw [List.length_append, s3, e2]⟩
          have hel : (es[es.length - 1 - j]).length = 32 := hu _ (List.getElem_mem hi)
          obtain ⟨cv, hrun, hcv⟩ := zc6 (C := TC) (t := 26) (off := 0) (n := 32) (ag := true) (a := .agg es[es.length - 1 - j]) (by kernel_rfl) (by kernel_rfl) hseg e3 (by
            unfold z3z
            rw [if_pos rfl, if_pos (by omega), List.drop_zero, List.take_of_length_le (by omega)])
          refine ⟨b, o, cv, rfl, hrun, ?_⟩
          have hy := run_yield (P := Tryd.prog) (args := #[.int .i64 ((es.length : Int) - 1 - j), cv]) i4 (by rw [hrec]; rfl)
          rw [hrec] at hy
          have hz : ((#[p0, p1] : Array Nat).zip #[Value.int .i64 ((es.length : Int) - 1 - j), cv]).foldl (fun tmps (x : Nat × Value) => match x with | (t, a) => tmps.setIfInBounds t a) a.tmps = (a.tmps.setIfInBounds p0 (.int .i64 ((es.length : Int) - 1 - j))).setIfInBounds p1 cv := by simp
          dsimp only at hy
          rw [hz] at hy
          refine ⟨fn, _, ca, cb, hy, roundIn_of_wpIn trivial ?_⟩
          have hEj : EnvR γ' W Z a.tmps := hE.mono i2
          have hE2 : EnvR γ' W (upd (upd Z p0 (.int .i64 ((es.length : Int) - 1 - j))) p1 (.agg es[es.length - 1 - j])) ((a.tmps.setIfInBounds p0 (.int .i64 ((es.length : Int) - 1 - j))).setIfInBounds p1 cv) := by
            have e1 := EnvR.put (a := a) hEj (d := some p0) (v := .int .i64 ((es.length : Int) - 1 - j)) (cv := .int .i64 ((es.length : Int) - 1 - j)) (by rintro x ⟨⟩; rw [hn]; exact hp0) (by simp only [VR])
            have e2 := EnvR.put (a := a.put (some p0) (.int .i64 ((es.length : Int) - 1 - j))) e1 (d := some p1) (cv := cv) (by rintro x ⟨⟩; simp [Act.put, hn, hp1]) hcv
            exact e2
          refine wpIn_mono ((hround (w.heap.size + 1) j O' _ i1 hj (List.getElem?_eq_getElem hi)) ca ha 0 γ' W i3.gl i3.len γ' { tmps := (a.tmps.setIfInBounds p0 (.int .i64 ((es.length : Int) - 1 - j))).setIfInBounds p1 cv, defers := [] } W (Step.refl _ _) i3 hE2 (by simp [hn])) ?_
          rintro e a2 w2 ⟨ae, Z2, O2, γ2, rfl, hq, t1, t2, t3, t4, t5⟩
          cases ae with
          | exit id => exact hq.elim
          | ret => exact hq.elim
          | normal =>
            have l2 := t1.other i3 i4 rfl
            have d2 := t1.other i3 i5 rfl
            have S2 := i2.trans t1
            have bk2 := Book.putObj (.loop { rec .ready none with state := .busy }) l2 rfl
            refine ⟨_, run_beginRound l2 (by rw [hrec]), ?_⟩
            have R2 := t2.book bk2
            have E2 : EnvR γ2 (w2.putObj (w.heap.size + 1) (.loop { rec .ready none with state := .busy })) Z2 a2.tmps := fun t => VR.book bk2 _ _ (t3 t)
            have S2' := S2.book bk2 fun b hb => World.putObj_heap_other (by omega)
            have hlt2 : w.heap.size + 1 < w2.heap.size := (Array.getElem?_eq_some_iff.1 l2).1
            have l3 : (w2.putObj (w.heap.size + 1) (.loop { rec .ready none with state := .busy })).heap[w.heap.size + 1]? = some (.loop { rec .ready none with state := .busy }) := World.putObj_heap_same hlt2
            have d3 : (w2.putObj (w.heap.size + 1) (.loop { rec .ready none with state := .busy })).heap[w.heap.size]? = some (.deferred (some [])) := (World.putObj_heap_other (by omega)).trans d2
            refine wpIn_mono (hq cb hb 0 γ2 _ R2.gl R2.len γ2 a2 _ (Step.refl _ _) R2 E2 t5) ?_
            rintro e a3 w3 ⟨ae, Z3, O3, γ3, rfl, ⟨rfl, hI⟩, u1, u2, u3, u4, u5⟩
            have l4 := u1.other R2 l3 rfl
            have d4 := u1.other R2 d3 rfl
            have S3 := S2'.trans u1
            have bk3 := Book.putObj (.loop (rec .ready none)) l4 rfl
            have hend := run_endRound (P := Tryd.prog) none l4
            refine ⟨_, _, hend, rfl, γ3, O3, hI, ?_, ?_, ?_, ?_⟩
            · exact S3.book (by simpa [hrec] using bk3) fun b hb => World.putObj_heap_other (by omega)
            · exact u2.book (by simpa [hrec] using bk3)
            · rw [World.putObj_heap_same (Array.getElem?_eq_some_iff.1 l4).1, hrec]; rfl
            · exact (World.putObj_heap_other (by omega)).trans d4
    · -- behind the iterator
      rintro e W2 ⟨⟨v, rfl⟩, γ', O', i1, i2, i3, i4, i5⟩
      have hel := run_endLoop (P := Tryd.prog) i4 (by rw [hrec]; simp)
      refine ⟨none, _, by rw [hrec] at hel; exact hel, ?_⟩
      refine ⟨.normal, Z, O', γ', rfl, hend O' i1, (hst.trans i2).book (Book.putObj _ i4 rfl) fun b hb => World.putObj_heap_other (by have := hst.size; omega), i3.book (Book.putObj _ i4 rfl), fun t => VR.book (Book.putObj _ i4 rfl) _ _ ((hE.mono i2) t), .inr ⟨w.heap.size, hst.size, rfl, (World.putObj_heap_other (by omega)).trans i5⟩, hn⟩
end Am
end Go.Proofs.YtncenefkbpelbaaDoor
end
section
/- The abstract code of the functions on bits. (Printed by wip/gen.) -/
namespace Go.Proofs.YtncenefkbpelbaaDoor
namespace Am
@[go_sem] def q0r0 : List AIns := [
  ⟨some 4,none,.no,.mv (.v (.str []))⟩]
@[go_sem] def q0r1 : List AIns := [
  ⟨some 7,none,.no,.mv (.t 1)⟩,
  ⟨some 8,none,.no,.bin .lss .none (.t 7) (.v (.int .i64 1))⟩,
  ⟨some 9,none,.no,.mv (.t 8)⟩,
  ⟨some 10, some (9, false), .no, .mv (.t 1)⟩,
  ⟨some 11, some (9, false), .no, .bin .gtr .none (.t 10) (.v (.int .i64 8))⟩,
  ⟨some 12,none,.no,.pick (.t 9) (.v (.bool true)) (.t 11)⟩]
@[go_sem] def q0r2 : List AIns := [
  ⟨some 4,none,.no,.mv (.v (.str []))⟩]
def q0c3 : ACode := .seq (.reg q0r2) .ret
def q0c4 : ACode := .cond (.t 12) q0c3 .skip
def q0c5 : ACode := .seq (.reg q0r1) q0c4
@[go_sem] def q0r6 : List AIns := [
  ⟨some 13,none,.no,.mv (.t 1)⟩,
  ⟨some 14,none,.no,.make 1 [(.int .u8 0)] (.t 13) (.t 13)⟩,
  ⟨some 5,none,.no,.mv (.t 14)⟩]
@[go_sem] def q0r7 : List AIns := [
  ⟨some 15,none,.no,.mv (.t 1)⟩,
  ⟨some 16,none,.no,.mv (.v (.int .i64 0))⟩]
@[go_sem] def q0r8 : List AIns := [
  ⟨some 17,none,.no,.bin .lss .none (.t 16) (.t 15)⟩]
@[go_sem] def q0r9 : List AIns := [
  ⟨some 18,none,.no,.mv (.t 16)⟩,
  ⟨some 6,none,.no,.mv (.t 18)⟩]
@[go_sem] def q0r10 : List AIns := [
  ⟨some 19,none,.no,.mv (.t 5)⟩,
  ⟨some 20,none,.no,.mv (.t 1)⟩,
  ⟨some 21,none,.no,.bin .sub .none (.t 20) (.v (.int .i64 1))⟩,
  ⟨some 22,none,.no,.mv (.t 6)⟩,
  ⟨some 23,none,.no,.bin .sub .none (.t 21) (.t 22)⟩,
  ⟨some 24,none,.no,.mv (.t 0)⟩,
  ⟨some 25,none,.no,.conv (.int .u8) (.t 24)⟩,
  ⟨some 26,none,.no,.iaSl 1 (.t 19) (.t 23)⟩,
  ⟨none,none,.no,.store 1 (.t 26) (.t 25)⟩]
@[go_sem] def q0r11 : List AIns := [
  ⟨some 27,none,.no,.mv (.t 0)⟩,
  ⟨some 28,none,.no,.bin .shr .none (.t 27) (.v (.int .u64 8))⟩,
  ⟨some 0,none,.no,.mv (.t 28)⟩]
def q0c12 : ACode := .seq (.reg q0r10) (.reg q0r11)
def q0c13 : ACode := .seq (.reg q0r9) q0c12
@[go_sem] def q0r14 : List AIns := [
  ⟨some 29,none,.no,.bin .add .none (.t 16) (.v (.int .i64 1))⟩,
  ⟨some 16,none,.no,.mv (.t 29)⟩]
def q0c15 : ACode := .seq (.block 1 q0c13) (.reg q0r14)
def q0c16 : ACode := .seq (.cond (.t 17) .skip (.exit 0)) q0c15
def q0c17 : ACode := .seq (.reg q0r8) q0c16
def q0c18 : ACode := .loop q0c17
def q0c19 : ACode := .block 0 q0c18
def q0c20 : ACode := .seq (.reg q0r7) q0c19
@[go_sem] def q0r21 : List AIns := [
  ⟨some 30,none,.no,.mv (.t 5)⟩,
  ⟨some 31,none,.no,.conv .str (.t 30)⟩,
  ⟨some 4,none,.no,.mv (.t 31)⟩]
def q0c22 : ACode := .seq (.reg q0r21) .ret
def q0c23 : ACode := .seq q0c20 q0c22
def q0c24 : ACode := .seq (.reg q0r6) q0c23
def q0c25 : ACode := .seq q0c5 q0c24
def q0c26 : ACode := .seq (.reg q0r0) q0c25
theorem q0ok : cFn TC 120 = some (32, [.t 4], q0c26) := by kernel_rfl

@[go_sem] def q1r0 : List AIns := [
  ⟨some 4,none,.no,.mv (.v (.int .u32 0))⟩]
@[go_sem] def q1r1 : List AIns := [
  ⟨some 5,none,.no,.mv (.t 0)⟩,
  ⟨some 6,none,.no,.mv (.t 1)⟩,
  ⟨some 7,none,.no,.bin .rem .none (.t 6) (.v (.int .i64 32))⟩,
  ⟨some 8,none,.no,.un .neg (.t 7)⟩,
  ⟨some 9,none,.no,.call (.v (.fn 152 [])) [(.t 5), (.t 8)]⟩,
  ⟨some 4,none,.no,.mv (.t 9)⟩]
def q1c2 : ACode := .seq (.reg q1r1) .ret
def q1c3 : ACode := .seq (.reg q1r0) q1c2
theorem q1ok : cFn TC 140 = some (10, [.t 4], q1c3) := by kernel_rfl

@[go_sem] def q2r0 : List AIns := [
  ⟨some 2,none,.no,.mv (.v (.int .i64 0))⟩]
@[go_sem] def q2r1 : List AIns := [
  ⟨some 3,none,.no,.mv (.t 0)⟩,
  ⟨some 4,none,.no,.minmax true (.t 3) (.v (.int .i64 0))⟩,
  ⟨some 5,none,.no,.conv (.int .u64) (.t 4)⟩,
  ⟨some 6,none,.no,.call (.v (.fn 135 [])) [(.t 5)]⟩,
  ⟨some 2,none,.no,.mv (.t 6)⟩]
def q2c2 : ACode := .seq (.reg q2r1) .ret
def q2c3 : ACode := .seq (.reg q2r0) q2c2
theorem q2ok : cFn TC 103 = some (7, [.t 2], q2c3) := by kernel_rfl

@[go_sem] def q3r0 : List AIns := [
  ⟨some 2,none,.no,.mv (.v (.int .i64 0))⟩]
@[go_sem] def q3r1 : List AIns := [
  ⟨some 3,none,.no,.mv (.v (.int .i64 0))⟩]
@[go_sem] def q3r2 : List AIns := [
  ⟨some 4,none,.no,.mv (.t 0)⟩,
  ⟨some 5,none,.no,.bin .gtr .none (.t 4) (.v (.int .i64 0))⟩]
def q3c3 : ACode := .cond (.t 5) .skip (.exit 0)
def q3c4 : ACode := .seq (.reg q3r2) q3c3
@[go_sem] def q3r5 : List AIns := [
  ⟨some 6,none,.no,.mv (.t 3)⟩,
  ⟨some 7,none,.no,.mv (.t 0)⟩,
  ⟨some 8,none,.no,.bin .rem .none (.t 7) (.v (.int .i64 2))⟩,
  ⟨some 9,none,.no,.bin .add .none (.t 6) (.t 8)⟩,
  ⟨some 3,none,.no,.mv (.t 9)⟩]
@[go_sem] def q3r6 : List AIns := [
  ⟨some 10,none,.no,.mv (.t 0)⟩,
  ⟨some 11,none,.no,.bin .quo .none (.t 10) (.v (.int .i64 2))⟩,
  ⟨some 0,none,.no,.mv (.t 11)⟩]
def q3c7 : ACode := .seq (.reg q3r5) (.reg q3r6)
def q3c8 : ACode := .block 1 q3c7
def q3c9 : ACode := .seq q3c4 q3c8
def q3c10 : ACode := .loop q3c9
@[go_sem] def z6c : List AIns := [
  ⟨some 12,none,.no,.mv (.t 3)⟩,
  ⟨some 2,none,.no,.mv (.t 12)⟩]
def q3c12 : ACode := .seq (.reg z6c) .ret
def q3c13 : ACode := .seq (.block 0 q3c10) q3c12
def q3c14 : ACode := .seq (.reg q3r1) q3c13
def q3c15 : ACode := .seq (.reg q3r0) q3c14
theorem q3ok : cFn TC 104 = some (13, [.t 2], q3c15) := by kernel_rfl

@[go_sem] def q4r0 : List AIns := [
  ⟨some 2,none,.no,.mv (.v (.int .u64 0))⟩]
@[go_sem] def q4r1 : List AIns := [
  ⟨some 3,none,.no,.mv (.v (.int .u64 0))⟩]
@[go_sem] def q4r2 : List AIns := [
  ⟨some 5,none,.no,.mv (.t 0)⟩,
  ⟨some 6,none,.no,.lenStr (.t 5)⟩,
  ⟨some 7,none,.no,.minmax false (.t 6) (.v (.int .i64 8))⟩,
  ⟨some 8,none,.no,.mv (.v (.int .i64 0))⟩]
@[go_sem] def q4r3 : List AIns := [
  ⟨some 9,none,.no,.bin .lss .none (.t 8) (.t 7)⟩]
@[go_sem] def q4r4 : List AIns := [
  ⟨some 10,none,.no,.mv (.t 8)⟩,
  ⟨some 4,none,.no,.mv (.t 10)⟩]
@[go_sem] def q4r5 : List AIns := [
  ⟨some 11,none,.no,.mv (.t 3)⟩,
  ⟨some 12,none,.no,.bin .shl .none (.t 11) (.v (.int .u64 8))⟩,
  ⟨some 13,none,.no,.mv (.t 0)⟩,
  ⟨some 14,none,.no,.mv (.t 4)⟩,
  ⟨some 15,none,.no,.ixStr (.t 13) (.t 14)⟩,
  ⟨some 16,none,.no,.conv (.int .u64) (.t 15)⟩,
  ⟨some 17,none,.no,.bin .add .none (.t 12) (.t 16)⟩,
  ⟨some 3,none,.no,.mv (.t 17)⟩]
def q4c6 : ACode := .seq (.reg q4r4) (.reg q4r5)
@[go_sem] def q4r7 : List AIns := [
  ⟨some 18,none,.no,.bin .add .none (.t 8) (.v (.int .i64 1))⟩,
  ⟨some 8,none,.no,.mv (.t 18)⟩]
def q4c8 : ACode := .seq (.block 1 q4c6) (.reg q4r7)
def q4c9 : ACode := .seq (.cond (.t 9) .skip (.exit 0)) q4c8
def q4c10 : ACode := .seq (.reg q4r3) q4c9
def q4c11 : ACode := .loop q4c10
def q4c12 : ACode := .block 0 q4c11
def q4c13 : ACode := .seq (.reg q4r2) q4c12
@[go_sem] def q4r14 : List AIns := [
  ⟨some 19,none,.no,.mv (.t 3)⟩,
  ⟨some 2,none,.no,.mv (.t 19)⟩]
def q4c15 : ACode := .seq (.reg q4r14) .ret
def q4c16 : ACode := .seq q4c13 q4c15
def q4c17 : ACode := .seq (.reg q4r1) q4c16
def q4c18 : ACode := .seq (.reg q4r0) q4c17
theorem q4ok : cFn TC 151 = some (20, [.t 2], q4c18) := by kernel_rfl

@[go_sem] def q5r0 : List AIns := [
  ⟨some 4,none,.no,.mv (.v (.int .u32 0))⟩]
@[go_sem] def q5r1 : List AIns := [
  ⟨some 6,none,.no,.mv (.t 1)⟩,
  ⟨some 7,none,.no,.conv (.int .u64) (.t 6)⟩,
  ⟨some 8,none,.no,.bin .and .none (.t 7) (.v (.int .u64 31))⟩,
  ⟨some 5,none,.no,.mv (.t 8)⟩]
@[go_sem] def q5r2 : List AIns := [
  ⟨some 9,none,.no,.mv (.t 0)⟩,
  ⟨some 10,none,.no,.mv (.t 5)⟩,
  ⟨some 11,none,.no,.bin .shl .none (.t 9) (.t 10)⟩,
  ⟨some 12,none,.no,.mv (.t 0)⟩,
  ⟨some 13,none,.no,.mv (.t 5)⟩,
  ⟨some 14,none,.no,.bin .sub .none (.v (.int .u64 32)) (.t 13)⟩,
  ⟨some 15,none,.no,.bin .shr .none (.t 12) (.t 14)⟩,
  ⟨some 16,none,.no,.bin .or .none (.t 11) (.t 15)⟩,
  ⟨some 4,none,.no,.mv (.t 16)⟩]
def q5c3 : ACode := .seq (.reg q5r2) .ret
def q5c4 : ACode := .seq (.reg q5r1) q5c3
def q5c5 : ACode := .seq (.reg q5r0) q5c4
theorem q5ok : cFn TC 152 = some (17, [.t 4], q5c5) := by kernel_rfl

@[go_sem] def q6r0 : List AIns := [
  ⟨some 2,none,.no,.mv (.v (.int .i64 0))⟩]
@[go_sem] def q6r1 : List AIns := [
  ⟨some 3,none,.no,.mv (.t 0)⟩,
  ⟨some 4,none,.no,.conv (.int .u32) (.t 3)⟩,
  ⟨some 5,none,.no,.call (.v (.fn 145 [])) [(.t 4)]⟩,
  ⟨some 2,none,.no,.mv (.t 5)⟩]
def q6c2 : ACode := .seq (.reg q6r1) .ret
@[go_sem] def q6r3 : List AIns := [
  ⟨some 6,none,.no,.mv (.t 0)⟩,
  ⟨some 7,none,.no,.call (.v (.fn 146 [])) [(.t 6)]⟩,
  ⟨some 2,none,.no,.mv (.t 7)⟩]
def q6c4 : ACode := .seq (.reg q6r3) .ret
def q6c5 : ACode := .seq (.cond (.v (.bool false)) q6c2 .skip) q6c4
def q6c6 : ACode := .seq (.reg q6r0) q6c5
theorem q6ok : cFn TC 135 = some (8, [.t 2], q6c6) := by kernel_rfl

@[go_sem] def q7r0 : List AIns := [
  ⟨some 2,none,.no,.mv (.v (.int .i64 0))⟩]
@[go_sem] def q7r1 : List AIns := [
  ⟨some 3,none,.no,.mv (.t 0)⟩,
  ⟨some 4,none,.no,.bin .shr .none (.t 3) (.v (.int .u64 1))⟩,
  ⟨some 5,none,.no,.bin .and .none (.t 4) (.v (.int .u64 6148914691236517205))⟩,
  ⟨some 6,none,.no,.mv (.t 0)⟩,
  ⟨some 7,none,.no,.bin .and .none (.t 6) (.v (.int .u64 6148914691236517205))⟩,
  ⟨some 8,none,.no,.bin .add .none (.t 5) (.t 7)⟩,
  ⟨some 0,none,.no,.mv (.t 8)⟩]
@[go_sem] def q7r2 : List AIns := [
  ⟨some 9,none,.no,.mv (.t 0)⟩,
  ⟨some 10,none,.no,.bin .shr .none (.t 9) (.v (.int .u64 2))⟩,
  ⟨some 11,none,.no,.bin .and .none (.t 10) (.v (.int .u64 3689348814741910323))⟩,
  ⟨some 12,none,.no,.mv (.t 0)⟩,
  ⟨some 13,none,.no,.bin .and .none (.t 12) (.v (.int .u64 3689348814741910323))⟩,
  ⟨some 14,none,.no,.bin .add .none (.t 11) (.t 13)⟩,
  ⟨some 0,none,.no,.mv (.t 14)⟩]
@[go_sem] def q7r3 : List AIns := [
  ⟨some 15,none,.no,.mv (.t 0)⟩,
  ⟨some 16,none,.no,.bin .shr .none (.t 15) (.v (.int .u64 4))⟩,
  ⟨some 17,none,.no,.mv (.t 0)⟩,
  ⟨some 18,none,.no,.bin .add .none (.t 16) (.t 17)⟩,
  ⟨some 19,none,.no,.bin .and .none (.t 18) (.v (.int .u64 1085102592571150095))⟩,
  ⟨some 0,none,.no,.mv (.t 19)⟩]
@[go_sem] def q7r4 : List AIns := [
  ⟨some 20,none,.no,.mv (.t 0)⟩,
  ⟨some 21,none,.no,.mv (.t 0)⟩,
  ⟨some 22,none,.no,.bin .shr .none (.t 21) (.v (.int .u64 8))⟩,
  ⟨some 23,none,.no,.bin .add .none (.t 20) (.t 22)⟩,
  ⟨some 0,none,.no,.mv (.t 23)⟩]
@[go_sem] def q7r5 : List AIns := [
  ⟨some 24,none,.no,.mv (.t 0)⟩,
  ⟨some 25,none,.no,.mv (.t 0)⟩,
  ⟨some 26,none,.no,.bin .shr .none (.t 25) (.v (.int .u64 16))⟩,
  ⟨some 27,none,.no,.bin .add .none (.t 24) (.t 26)⟩,
  ⟨some 0,none,.no,.mv (.t 27)⟩]
@[go_sem] def q7r6 : List AIns := [
  ⟨some 28,none,.no,.mv (.t 0)⟩,
  ⟨some 29,none,.no,.mv (.t 0)⟩,
  ⟨some 30,none,.no,.bin .shr .none (.t 29) (.v (.int .u64 32))⟩,
  ⟨some 31,none,.no,.bin .add .none (.t 28) (.t 30)⟩,
  ⟨some 0,none,.no,.mv (.t 31)⟩]
@[go_sem] def q7r7 : List AIns := [
  ⟨some 32,none,.no,.mv (.t 0)⟩,
  ⟨some 33,none,.no,.conv (.int .i64) (.t 32)⟩,
  ⟨some 34,none,.no,.bin .and .none (.t 33) (.v (.int .i64 127))⟩,
  ⟨some 2,none,.no,.mv (.t 34)⟩]
def q7c8 : ACode := .seq (.reg q7r7) .ret
def q7c9 : ACode := .seq (.reg q7r6) q7c8
def q7c10 : ACode := .seq (.reg q7r5) q7c9
def q7c11 : ACode := .seq (.reg q7r4) q7c10
def q7c12 : ACode := .seq (.reg q7r3) q7c11
def q7c13 : ACode := .seq (.reg q7r2) q7c12
def q7c14 : ACode := .seq (.reg q7r1) q7c13
def q7c15 : ACode := .seq (.reg q7r0) q7c14
theorem q7ok : cFn TC 146 = some (35, [.t 2], q7c15) := by kernel_rfl

end Am
end Go.Proofs.YtncenefkbpelbaaDoor
end
section
/- Functions on bits: what runs on given values. -/
namespace Go.Proofs.YtncenefkbpelbaaDoor
namespace Am
end Am
end Go.Proofs.YtncenefkbpelbaaDoor
end
section
/- Functions on bits: contracts. -/
namespace Go.Proofs.YtncenefkbpelbaaDoor
namespace Am

theorem and31 (k : Int) : IntKind.u64.wrap ((BitVec.ofInt IntKind.u64.bits (IntKind.u64.wrap k) &&& BitVec.ofInt IntKind.u64.bits 31).toNat : Int) = ((k % 32).toNat : Int) := by
  rw [u_nat (by rfl), BitVec.toNat_and]
  have h1 : (BitVec.ofInt IntKind.u64.bits 31).toNat = 2 ^ 5 - 1 := by decide
  have h2 : ((BitVec.ofInt IntKind.u64.bits (IntKind.u64.wrap k)).toNat : Int) = k % 18446744073709551616 := by
    rw [BitVec.toNat_ofInt, zaa (by rfl)]
    simp only [IntKind.bits]
    omega
  rw [h1, Nat.and_two_pow_sub_one_eq_mod]
  omega
theorem zp2 (x : BitVec 32) : IntKind.u32.wrap (x.toNat : Int) = x.toNat := u_nat (k := .u32) (by rfl) x
theorem rot_or (x : BitVec 32) (s : Nat) (hs : s < 32) :
    IntKind.u32.wrap ((BitVec.ofInt 32 (IntKind.u32.wrap ((x.toNat : Int) * 2 ^ min s 32)) ||| BitVec.ofInt 32 ((x.toNat : Int).fdiv (2 ^ min (32 - s) 32))).toNat : Int) = ((x.rotateLeft s).toNat : Int) := by
  rw [zp2]
  have h1 : BitVec.ofInt 32 (IntKind.u32.wrap ((x.toNat : Int) * 2 ^ min s 32)) = x <<< s := by
    apply BitVec.eq_of_toNat_eq
    rw [BitVec.toNat_ofInt, zaa (by rfl), Nat.min_eq_left (by omega), BitVec.toNat_shiftLeft, Nat.shiftLeft_eq]
    simp only [IntKind.bits]
    have : ((x.toNat : Int) * 2 ^ s) = ((x.toNat * 2 ^ s : Nat) : Int) := by simp
    rw [this]
    omega
  have h2 : BitVec.ofInt 32 ((x.toNat : Int).fdiv (2 ^ min (32 - s) 32)) = x >>> (32 - s) := by
    apply BitVec.eq_of_toNat_eq
    have hx := x.isLt
    rw [BitVec.toNat_ofInt, Nat.min_eq_left (by omega), BitVec.toNat_ushiftRight, Nat.shiftRight_eq_div_pow, Int.fdiv_eq_ediv_of_nonneg _ (by exact_mod_cast Nat.zero_le _)]
    have : ((x.toNat : Int) / 2 ^ (32 - s)) = ((x.toNat / 2 ^ (32 - s) : Nat) : Int) := by simp
    rw [this]
    have h3 : x.toNat / 2 ^ (32 - s) <= x.toNat := Nat.div_le_self _ _
    generalize x.toNat / 2 ^ (32 - s) = y at *
    omega
  rw [h1, h2, BitVec.rotateLeft_def]
  simp only [Nat.mod_eq_of_lt hs]
theorem zic (O : Store) (x : BitVec 32) (k : Int) : ACallsTo TC 152 [.int .u32 x.toNat, .int .i64 k] O (.int .u32 (x.rotateLeft (k % 32).toNat).toNat) O := by
  refine ACallsTo.of_body q5ok (by simp) fun hw _ => ?_
  have hs : (k % 32).toNat < 32 := by omega
  generalize hk : (k % 32).toNat = s at *
  have h31 := and31 k
  rw [hk] at h31
  have e1 : ¬ ((s : Int) < 0) := by omega
  have e2 : IntKind.u64.wrap (32 - (s : Int)) = ((32 - s : Nat) : Int) := by
    rw [zaa (by rfl)]; simp only [IntKind.bits]; omega
  have e3 : ¬ (((32 - s : Nat) : Int) < 0) := by omega
  unfold q5c5
  refine zW.seqReg ?_
  simp only [q5r0, z2j, z2i, z2e, z2f, z3h, z3i, z2d, z2c, z1l, z1c, AOp.run, AX.ev, putE, upd, z1j, Option.map_some, Option.bind_some, Option.map_none, rBin, rEq, zu, z17, z1t, eqOp, aUn, aMin, z1s, z1p, z26, z25, z1z, rFa, rFld, z23, z24, z12, z1y, z10, z1i, blkQ, endQ, retV, oks, RV.ok, RV.val, Bool.and_true, Bool.true_and, List.map_cons, List.map_nil, List.getD_cons_zero, List.getD_cons_succ, List.getD_nil, if_true, if_false, ite_true, ite_false, reduceCtorEq, Nat.reduceEqDiff, Nat.reduceAdd, Bool.false_eq_true, Bool.true_eq_false, beq_true, beq_false, Bool.not_true, Bool.not_false, BEq.rfl, beq_self_eq_true, List.nil_append, List.cons_append, List.append_nil, z39, z3b, z2k, z2n, z2o, z33, z34, z3d, z3a, z2m, z3e, z2q, z38, z35, z3c, z2t, z2u, z2v, z2w, z2x, z2y, z2s, z31, z30, z2z, z2l, z2r, z2p, z36, getElem?_app, getElem?_app0, z2a, z3g]
  unfold q5c4
  refine zW.seqReg ?_
  simp only [q5r1, z2j, z2i, z2e, z2f, z3h, z3i, z2d, z2c, z1l, z1c, AOp.run, AX.ev, putE, upd, z1j, Option.map_some, Option.bind_some, Option.map_none, rBin, rEq, zu, z17, z1t, eqOp, aUn, aMin, z1s, z1p, z26, z25, z1z, rFa, rFld, z23, z24, z12, z1y, z10, z1i, blkQ, endQ, retV, oks, RV.ok, RV.val, Bool.and_true, Bool.true_and, List.map_cons, List.map_nil, List.getD_cons_zero, List.getD_cons_succ, List.getD_nil, if_true, if_false, ite_true, ite_false, reduceCtorEq, Nat.reduceEqDiff, Nat.reduceAdd, Bool.false_eq_true, Bool.true_eq_false, beq_true, beq_false, Bool.not_true, Bool.not_false, BEq.rfl, beq_self_eq_true, List.nil_append, List.cons_append, List.append_nil, z39, z3b, z2k, z2n, z2o, z33, z34, z3d, z3a, z2m, z3e, z2q, z38, z35, z3c, z2t, z2u, z2v, z2w, z2x, z2y, z2s, z31, z30, z2z, z2l, z2r, z2p, z36, getElem?_app, getElem?_app0, z2a, z3g]
  unfold q5c3
  refine zW.seqReg ?_
  simp only [q5r2, h31, e1, e2, e3, Int.toNat_natCast, z2j, z2i, z2e, z2f, z3h, z3i, z2d, z2c, z1l, z1c, AOp.run, AX.ev, putE, upd, z1j, Option.map_some, Option.bind_some, Option.map_none, rBin, rEq, zu, z17, z1t, eqOp, aUn, aMin, z1s, z1p, z26, z25, z1z, rFa, rFld, z23, z24, z12, z1y, z10, z1i, blkQ, endQ, retV, oks, RV.ok, RV.val, Bool.and_true, Bool.true_and, List.map_cons, List.map_nil, List.getD_cons_zero, List.getD_cons_succ, List.getD_nil, if_true, if_false, ite_true, ite_false, reduceCtorEq, Nat.reduceEqDiff, Nat.reduceAdd, Bool.false_eq_true, Bool.true_eq_false, beq_true, beq_false, Bool.not_true, Bool.not_false, BEq.rfl, beq_self_eq_true, List.nil_append, List.cons_append, List.append_nil, z39, z3b, z2k, z2n, z2o, z33, z34, z3d, z3a, z2m, z3e, z2q, z38, z35, z3c, z2t, z2u, z2v, z2w, z2x, z2y, z2s, z31, z30, z2z, z2l, z2r, z2p, z36, getElem?_app, getElem?_app0, z2a, z3g]
  refine zW.zq ?_
  have h := rot_or x s hs
  simp only [IntKind.bits, h, z2j, z2i, z2e, z2f, z3h, z3i, z2d, z2c, z1l, z1c, AOp.run, AX.ev, putE, upd, z1j, Option.map_some, Option.bind_some, Option.map_none, rBin, rEq, zu, z17, z1t, eqOp, aUn, aMin, z1s, z1p, z26, z25, z1z, rFa, rFld, z23, z24, z12, z1y, z10, z1i, blkQ, endQ, retV, oks, RV.ok, RV.val, Bool.and_true, Bool.true_and, List.map_cons, List.map_nil, List.getD_cons_zero, List.getD_cons_succ, List.getD_nil, if_true, if_false, ite_true, ite_false, reduceCtorEq, Nat.reduceEqDiff, Nat.reduceAdd, Bool.false_eq_true, Bool.true_eq_false, beq_true, beq_false, Bool.not_true, Bool.not_false, BEq.rfl, beq_self_eq_true, List.nil_append, List.cons_append, List.append_nil, z39, z3b, z2k, z2n, z2o, z33, z34, z3d, z3a, z2m, z3e, z2q, z38, z35, z3c, z2t, z2u, z2v, z2w, z2x, z2y, z2s, z31, z30, z2z, z2l, z2r, z2p, z36, getElem?_app, getElem?_app0, z2a, z3g]
  exact ⟨trivial, (congrArg (fun z => DownV O.length (.int .u32 z) O (.int .u32 (x.rotateLeft s).toNat) O) h).mpr (DownV.same hw (z14 _ rfl))⟩
theorem zd1 {n : Int} (h1 : -9223372036854775808 <= n) (h2 : n < 9223372036854775808) : IntKind.i64.wrap n = n := by
  simp [IntKind.wrap, IntKind.signed, IntKind.bits]
  omega
theorem zli (k : Int) : (IntKind.i64.wrap (0 - k.tmod 32)) % 32 = (-k) % 32 := by
  have h : -31 <= k.tmod 32 /\ k.tmod 32 <= 31 := by
    rw [Int.tmod_eq_emod]; split <;> simp <;> omega
  rw [zd1 (by omega) (by omega), Int.tmod_eq_emod]
  split
  · omega
  · simp; omega
theorem z92 (O : Store) (x : BitVec 32) (k : Int) : ACallsTo TC 140 [.int .u32 x.toNat, .int .i64 k] O (.int .u32 (x.rotateLeft ((-k) % 32).toNat).toNat) O := by
  refine ACallsTo.of_body q1ok (by simp) fun hw _ => ?_
  refine zW.seqReg ?_
  simp only [q1r0, q1r1, z2j, z2i, z2e, z2f, z3h, z3i, z2d, z2c, z1l, z1c, AOp.run, AX.ev, putE, upd, z1j, Option.map_some, Option.bind_some, Option.map_none, rBin, rEq, zu, z17, z1t, eqOp, aUn, aMin, z1s, z1p, z26, z25, z1z, rFa, rFld, z23, z24, z12, z1y, z10, z1i, blkQ, endQ, retV, oks, RV.ok, RV.val, Bool.and_true, Bool.true_and, List.map_cons, List.map_nil, List.getD_cons_zero, List.getD_cons_succ, List.getD_nil, if_true, if_false, ite_true, ite_false, reduceCtorEq, Nat.reduceEqDiff, Nat.reduceAdd, Bool.false_eq_true, Bool.true_eq_false, beq_true, beq_false, Bool.not_true, Bool.not_false, BEq.rfl, beq_self_eq_true, List.nil_append, List.cons_append, List.append_nil, z39, z3b, z2k, z2n, z2o, z33, z34, z3d, z3a, z2m, z3e, z2q, z38, z35, z3c, z2t, z2u, z2v, z2w, z2x, z2y, z2s, z31, z30, z2z, z2l, z2r, z2p, z36, getElem?_app, getElem?_app0, z2a, z3g]
  refine zW.seqReg ?_
  simp only [q1r0, q1r1, show ¬ ((32 : Int) = 0) by decide, z2j, z2i, z2e, z2f, z3h, z3i, z2d, z2c, z1l, z1c, AOp.run, AX.ev, putE, upd, z1j, Option.map_some, Option.bind_some, Option.map_none, rBin, rEq, zu, z17, z1t, eqOp, aUn, aMin, z1s, z1p, z26, z25, z1z, rFa, rFld, z23, z24, z12, z1y, z10, z1i, blkQ, endQ, retV, oks, RV.ok, RV.val, Bool.and_true, Bool.true_and, List.map_cons, List.map_nil, List.getD_cons_zero, List.getD_cons_succ, List.getD_nil, if_true, if_false, ite_true, ite_false, reduceCtorEq, Nat.reduceEqDiff, Nat.reduceAdd, Bool.false_eq_true, Bool.true_eq_false, beq_true, beq_false, Bool.not_true, Bool.not_false, BEq.rfl, beq_self_eq_true, List.nil_append, List.cons_append, List.append_nil, z39, z3b, z2k, z2n, z2o, z33, z34, z3d, z3a, z2m, z3e, z2q, z38, z35, z3c, z2t, z2u, z2v, z2w, z2x, z2y, z2s, z31, z30, z2z, z2l, z2r, z2p, z36, getElem?_app, getElem?_app0, z2a, z3g]
  have h := zic O x (IntKind.i64.wrap (0 - k.tmod 32))
  rw [zli] at h
  refine callW.zp h ?_
  simp only [z2j, z2i, z2e, z2f, z3h, z3i, z2d, z2c, z1l, z1c, AOp.run, AX.ev, putE, upd, z1j, Option.map_some, Option.bind_some, Option.map_none, rBin, rEq, zu, z17, z1t, eqOp, aUn, aMin, z1s, z1p, z26, z25, z1z, rFa, rFld, z23, z24, z12, z1y, z10, z1i, blkQ, endQ, retV, oks, RV.ok, RV.val, Bool.and_true, Bool.true_and, List.map_cons, List.map_nil, List.getD_cons_zero, List.getD_cons_succ, List.getD_nil, if_true, if_false, ite_true, ite_false, reduceCtorEq, Nat.reduceEqDiff, Nat.reduceAdd, Bool.false_eq_true, Bool.true_eq_false, beq_true, beq_false, Bool.not_true, Bool.not_false, BEq.rfl, beq_self_eq_true, List.nil_append, List.cons_append, List.append_nil, z39, z3b, z2k, z2n, z2o, z33, z34, z3d, z3a, z2m, z3e, z2q, z38, z35, z3c, z2t, z2u, z2v, z2w, z2x, z2y, z2s, z31, z30, z2z, z2l, z2r, z2p, z36, getElem?_app, getElem?_app0, z2a, z3g]
  refine zW.zq ?_
  simp only [z2j, z2i, z2e, z2f, z3h, z3i, z2d, z2c, z1l, z1c, AOp.run, AX.ev, putE, upd, z1j, Option.map_some, Option.bind_some, Option.map_none, rBin, rEq, zu, z17, z1t, eqOp, aUn, aMin, z1s, z1p, z26, z25, z1z, rFa, rFld, z23, z24, z12, z1y, z10, z1i, blkQ, endQ, retV, oks, RV.ok, RV.val, Bool.and_true, Bool.true_and, List.map_cons, List.map_nil, List.getD_cons_zero, List.getD_cons_succ, List.getD_nil, if_true, if_false, ite_true, ite_false, reduceCtorEq, Nat.reduceEqDiff, Nat.reduceAdd, Bool.false_eq_true, Bool.true_eq_false, beq_true, beq_false, Bool.not_true, Bool.not_false, BEq.rfl, beq_self_eq_true, List.nil_append, List.cons_append, List.append_nil, z39, z3b, z2k, z2n, z2o, z33, z34, z3d, z3a, z2m, z3e, z2q, z38, z35, z3c, z2t, z2u, z2v, z2w, z2x, z2y, z2s, z31, z30, z2z, z2l, z2r, z2p, z36, getElem?_app, getElem?_app0, z2a, z3g]
  exact ⟨trivial, DownV.same hw (z14 _ rfl)⟩
/-- How many of the lowest w bits are 1. -/
def pc : Nat -> Nat -> Nat
  | 0, _ => 0
  | w + 1, n => n % 2 + pc w (n / 2)
theorem z9m (w : Nat) : pc w 0 = 0 := by induction w with
  | zero => rfl
  | succ w ih => simp [pc, ih]
theorem zoe (O : Store) (n : Int) (hn : n < 9223372036854775808) : ACallsTo TC 104 [.int .i64 n] O (.int .i64 (pc 64 n.toNat)) O := by
  refine ACallsTo.of_body q3ok (by simp) fun hw _ => ?_
  refine zW.seqReg ?_
  simp only [q3r0, q3r1, q3r2, q3r5, q3r6, z6c, z2j, z2i, z2e, z2f, z3h, z3i, z2d, z2c, z1l, z1c, AOp.run, AX.ev, putE, upd, z1j, Option.map_some, Option.bind_some, Option.map_none, rBin, rEq, zu, z17, z1t, eqOp, aUn, aMin, z1s, z1p, z26, z25, z1z, rFa, rFld, z23, z24, z12, z1y, z10, z1i, blkQ, endQ, retV, oks, RV.ok, RV.val, Bool.and_true, Bool.true_and, List.map_cons, List.map_nil, List.getD_cons_zero, List.getD_cons_succ, List.getD_nil, if_true, if_false, ite_true, ite_false, reduceCtorEq, Nat.reduceEqDiff, Nat.reduceAdd, Bool.false_eq_true, Bool.true_eq_false, beq_true, beq_false, Bool.not_true, Bool.not_false, BEq.rfl, beq_self_eq_true, List.nil_append, List.cons_append, List.append_nil, z39, z3b, z2k, z2n, z2o, z33, z34, z3d, z3a, z2m, z3e, z2q, z38, z35, z3c, z2t, z2u, z2v, z2w, z2x, z2y, z2s, z31, z30, z2z, z2l, z2r, z2p, z36, getElem?_app, getElem?_app0, z2a, z3g]
  refine zW.seqReg ?_
  simp only [q3r0, q3r1, q3r2, q3r5, q3r6, z6c, z2j, z2i, z2e, z2f, z3h, z3i, z2d, z2c, z1l, z1c, AOp.run, AX.ev, putE, upd, z1j, Option.map_some, Option.bind_some, Option.map_none, rBin, rEq, zu, z17, z1t, eqOp, aUn, aMin, z1s, z1p, z26, z25, z1z, rFa, rFld, z23, z24, z12, z1y, z10, z1i, blkQ, endQ, retV, oks, RV.ok, RV.val, Bool.and_true, Bool.true_and, List.map_cons, List.map_nil, List.getD_cons_zero, List.getD_cons_succ, List.getD_nil, if_true, if_false, ite_true, ite_false, reduceCtorEq, Nat.reduceEqDiff, Nat.reduceAdd, Bool.false_eq_true, Bool.true_eq_false, beq_true, beq_false, Bool.not_true, Bool.not_false, BEq.rfl, beq_self_eq_true, List.nil_append, List.cons_append, List.append_nil, z39, z3b, z2k, z2n, z2o, z33, z34, z3d, z3a, z2m, z3e, z2q, z38, z35, z3c, z2t, z2u, z2v, z2w, z2x, z2y, z2s, z31, z30, z2z, z2l, z2r, z2p, z36, getElem?_app, getElem?_app0, z2a, z3g]
  refine zW.zs (zW.zb (zW.loop (fun m Z O' => O' = O /\ ∃ (v : Int) (c : Nat), Z 0 = .int .i64 v /\ Z 3 = .int .i64 c /\ v < 2 ^ m /\ m <= 64 /\ c + m <= 64 /\ c + pc m v.toNat = pc 64 n.toNat) 64 ?_ ?_))
  · refine ⟨rfl, n, 0, ?_, ?_, by omega, by omega, by omega, by omega⟩ <;> simp only [z2j, z2i, z2e, z2f, z3h, z3i, z2d, z2c, z1l, z1c, AOp.run, AX.ev, putE, upd, z1j, Option.map_some, Option.bind_some, Option.map_none, rBin, rEq, zu, z17, z1t, eqOp, aUn, aMin, z1s, z1p, z26, z25, z1z, rFa, rFld, z23, z24, z12, z1y, z10, z1i, blkQ, endQ, retV, oks, RV.ok, RV.val, Bool.and_true, Bool.true_and, List.map_cons, List.map_nil, List.getD_cons_zero, List.getD_cons_succ, List.getD_nil, if_true, if_false, ite_true, ite_false, reduceCtorEq, Nat.reduceEqDiff, Nat.reduceAdd, Bool.false_eq_true, Bool.true_eq_false, beq_true, beq_false, Bool.not_true, Bool.not_false, BEq.rfl, beq_self_eq_true, List.nil_append, List.cons_append, List.append_nil, z39, z3b, z2k, z2n, z2o, z33, z34, z3d, z3a, z2m, z3e, z2q, z38, z35, z3c, z2t, z2u, z2v, z2w, z2x, z2y, z2s, z31, z30, z2z, z2l, z2r, z2p, z36, getElem?_app, getElem?_app0, z2a, z3g]
    rfl
  · rintro m Z _ ⟨rfl, v, c, q0, q3, hv, hm, hc, hpc⟩
    refine zW.zs (zW.seqReg ?_)
    simp only [q3r0, q3r1, q3r2, q3r5, q3r6, z6c, z2j, z2i, z2e, z2f, z3h, z3i, z2d, z2c, z1l, z1c, AOp.run, AX.ev, putE, upd, z1j, Option.map_some, Option.bind_some, Option.map_none, rBin, rEq, zu, z17, z1t, eqOp, aUn, aMin, z1s, z1p, z26, z25, z1z, rFa, rFld, z23, z24, z12, z1y, z10, z1i, blkQ, endQ, retV, oks, RV.ok, RV.val, Bool.and_true, Bool.true_and, List.map_cons, List.map_nil, List.getD_cons_zero, List.getD_cons_succ, List.getD_nil, if_true, if_false, ite_true, ite_false, reduceCtorEq, Nat.reduceEqDiff, Nat.reduceAdd, Bool.false_eq_true, Bool.true_eq_false, beq_true, beq_false, Bool.not_true, Bool.not_false, BEq.rfl, beq_self_eq_true, List.nil_append, List.cons_append, List.append_nil, z39, z3b, z2k, z2n, z2o, z33, z34, z3d, z3a, z2m, z3e, z2q, z38, z35, z3c, z2t, z2u, z2v, z2w, z2x, z2y, z2s, z31, z30, z2z, z2l, z2r, z2p, z36, getElem?_app, getElem?_app0, z2a, z3g, q0, q3]
    refine zW.cond rfl (fun ht => zW.zk ?_) (fun ht => zW.ze ?_)
    · have hp : 0 < v := of_decide_eq_true ht
      cases m with
      | zero => simp at hv; omega
      | succ m =>
        have h2 : ¬ ((2 : Int) = 0) := by decide
        have e1 : v.tmod 2 = ((v.toNat % 2 : Nat) : Int) := by rw [Int.tmod_eq_emod_of_nonneg (by omega)]; omega
        have e2 : IntKind.i64.wrap ((c : Int) + ((v.toNat % 2 : Nat) : Int)) = ((c + v.toNat % 2 : Nat) : Int) := by rw [zd1 (by omega) (by omega)]; omega
        have hvb : v < 2 ^ 64 := by
          have h : 2 ^ (m + 1) <= 2 ^ 64 := Nat.pow_le_pow_right (by decide) hm
          have h' : ((2 ^ (m + 1) : Nat) : Int) <= ((2 ^ 64 : Nat) : Int) := by exact_mod_cast h
          have h3 : ((2 ^ (m + 1) : Nat) : Int) = (2 : Int) ^ (m + 1) := by simp
          rw [h3] at h'
          exact Int.lt_of_lt_of_le hv h'
        have e3 : IntKind.i64.wrap (v.tdiv 2) = v / 2 := by rw [Int.tdiv_eq_ediv_of_nonneg (by omega)]; exact zd1 (by omega) (by omega)
        have e4 : (v / 2).toNat = v.toNat / 2 := by omega
        refine zW.zb (zW.seqReg ?_)
        simp only [q3r0, q3r1, q3r2, q3r5, q3r6, z6c, z2j, z2i, z2e, z2f, z3h, z3i, z2d, z2c, z1l, z1c, AOp.run, AX.ev, putE, upd, z1j, Option.map_some, Option.bind_some, Option.map_none, rBin, rEq, zu, z17, z1t, eqOp, aUn, aMin, z1s, z1p, z26, z25, z1z, rFa, rFld, z23, z24, z12, z1y, z10, z1i, blkQ, endQ, retV, oks, RV.ok, RV.val, Bool.and_true, Bool.true_and, List.map_cons, List.map_nil, List.getD_cons_zero, List.getD_cons_succ, List.getD_nil, if_true, if_false, ite_true, ite_false, reduceCtorEq, Nat.reduceEqDiff, Nat.reduceAdd, Bool.false_eq_true, Bool.true_eq_false, beq_true, beq_false, Bool.not_true, Bool.not_false, BEq.rfl, beq_self_eq_true, List.nil_append, List.cons_append, List.append_nil, z39, z3b, z2k, z2n, z2o, z33, z34, z3d, z3a, z2m, z3e, z2q, z38, z35, z3c, z2t, z2u, z2v, z2w, z2x, z2y, z2s, z31, z30, z2z, z2l, z2r, z2p, z36, getElem?_app, getElem?_app0, z2a, z3g, q0, q3, h2, e1, e2]
        refine zW.zr ?_
        simp only [q3r0, q3r1, q3r2, q3r5, q3r6, z6c, z2j, z2i, z2e, z2f, z3h, z3i, z2d, z2c, z1l, z1c, AOp.run, AX.ev, putE, upd, z1j, Option.map_some, Option.bind_some, Option.map_none, rBin, rEq, zu, z17, z1t, eqOp, aUn, aMin, z1s, z1p, z26, z25, z1z, rFa, rFld, z23, z24, z12, z1y, z10, z1i, blkQ, endQ, retV, oks, RV.ok, RV.val, Bool.and_true, Bool.true_and, List.map_cons, List.map_nil, List.getD_cons_zero, List.getD_cons_succ, List.getD_nil, if_true, if_false, ite_true, ite_false, reduceCtorEq, Nat.reduceEqDiff, Nat.reduceAdd, Bool.false_eq_true, Bool.true_eq_false, beq_true, beq_false, Bool.not_true, Bool.not_false, BEq.rfl, beq_self_eq_true, List.nil_append, List.cons_append, List.append_nil, z39, z3b, z2k, z2n, z2o, z33, z34, z3d, z3a, z2m, z3e, z2q, z38, z35, z3c, z2t, z2u, z2v, z2w, z2x, z2y, z2s, z31, z30, z2z, z2l, z2r, z2p, z36, getElem?_app, getElem?_app0, z2a, z3g, q0, q3, h2, e3]
        refine ⟨m, by omega, trivial, v / 2, c + v.toNat % 2, ?_, ?_, ?_, by omega, by omega, ?_⟩
        · simp only [z2j, z2i, z2e, z2f, z3h, z3i, z2d, z2c, z1l, z1c, AOp.run, AX.ev, putE, upd, z1j, Option.map_some, Option.bind_some, Option.map_none, rBin, rEq, zu, z17, z1t, eqOp, aUn, aMin, z1s, z1p, z26, z25, z1z, rFa, rFld, z23, z24, z12, z1y, z10, z1i, blkQ, endQ, retV, oks, RV.ok, RV.val, Bool.and_true, Bool.true_and, List.map_cons, List.map_nil, List.getD_cons_zero, List.getD_cons_succ, List.getD_nil, if_true, if_false, ite_true, ite_false, reduceCtorEq, Nat.reduceEqDiff, Nat.reduceAdd, Bool.false_eq_true, Bool.true_eq_false, beq_true, beq_false, Bool.not_true, Bool.not_false, BEq.rfl, beq_self_eq_true, List.nil_append, List.cons_append, List.append_nil, z39, z3b, z2k, z2n, z2o, z33, z34, z3d, z3a, z2m, z3e, z2q, z38, z35, z3c, z2t, z2u, z2v, z2w, z2x, z2y, z2s, z31, z30, z2z, z2l, z2r, z2p, z36, getElem?_app, getElem?_app0, z2a, z3g]
        · simp only [z2j, z2i, z2e, z2f, z3h, z3i, z2d, z2c, z1l, z1c, AOp.run, AX.ev, putE, upd, z1j, Option.map_some, Option.bind_some, Option.map_none, rBin, rEq, zu, z17, z1t, eqOp, aUn, aMin, z1s, z1p, z26, z25, z1z, rFa, rFld, z23, z24, z12, z1y, z10, z1i, blkQ, endQ, retV, oks, RV.ok, RV.val, Bool.and_true, Bool.true_and, List.map_cons, List.map_nil, List.getD_cons_zero, List.getD_cons_succ, List.getD_nil, if_true, if_false, ite_true, ite_false, reduceCtorEq, Nat.reduceEqDiff, Nat.reduceAdd, Bool.false_eq_true, Bool.true_eq_false, beq_true, beq_false, Bool.not_true, Bool.not_false, BEq.rfl, beq_self_eq_true, List.nil_append, List.cons_append, List.append_nil, z39, z3b, z2k, z2n, z2o, z33, z34, z3d, z3a, z2m, z3e, z2q, z38, z35, z3c, z2t, z2u, z2v, z2w, z2x, z2y, z2s, z31, z30, z2z, z2l, z2r, z2p, z36, getElem?_app, getElem?_app0, z2a, z3g]
        · rw [Int.pow_succ] at hv; omega
        · rw [e4, <- hpc, pc]; omega
    · have hp : ¬ 0 < v := of_decide_eq_false ht
      have e0 : v.toNat = 0 := by omega
      rw [e0, z9m] at hpc
      simp only [z2j, z2i, z2e, z2f, z3h, z3i, z2d, z2c, z1l, z1c, AOp.run, AX.ev, putE, upd, z1j, Option.map_some, Option.bind_some, Option.map_none, rBin, rEq, zu, z17, z1t, eqOp, aUn, aMin, z1s, z1p, z26, z25, z1z, rFa, rFld, z23, z24, z12, z1y, z10, z1i, blkQ, endQ, retV, oks, RV.ok, RV.val, Bool.and_true, Bool.true_and, List.map_cons, List.map_nil, List.getD_cons_zero, List.getD_cons_succ, List.getD_nil, if_true, if_false, ite_true, ite_false, reduceCtorEq, Nat.reduceEqDiff, Nat.reduceAdd, Bool.false_eq_true, Bool.true_eq_false, beq_true, beq_false, Bool.not_true, Bool.not_false, BEq.rfl, beq_self_eq_true, List.nil_append, List.cons_append, List.append_nil, z39, z3b, z2k, z2n, z2o, z33, z34, z3d, z3a, z2m, z3e, z2q, z38, z35, z3c, z2t, z2u, z2v, z2w, z2x, z2y, z2s, z31, z30, z2z, z2l, z2r, z2p, z36, getElem?_app, getElem?_app0, z2a, z3g]
      refine zW.seqReg ?_
      simp only [q3r0, q3r1, q3r2, q3r5, q3r6, z6c, z2j, z2i, z2e, z2f, z3h, z3i, z2d, z2c, z1l, z1c, AOp.run, AX.ev, putE, upd, z1j, Option.map_some, Option.bind_some, Option.map_none, rBin, rEq, zu, z17, z1t, eqOp, aUn, aMin, z1s, z1p, z26, z25, z1z, rFa, rFld, z23, z24, z12, z1y, z10, z1i, blkQ, endQ, retV, oks, RV.ok, RV.val, Bool.and_true, Bool.true_and, List.map_cons, List.map_nil, List.getD_cons_zero, List.getD_cons_succ, List.getD_nil, if_true, if_false, ite_true, ite_false, reduceCtorEq, Nat.reduceEqDiff, Nat.reduceAdd, Bool.false_eq_true, Bool.true_eq_false, beq_true, beq_false, Bool.not_true, Bool.not_false, BEq.rfl, beq_self_eq_true, List.nil_append, List.cons_append, List.append_nil, z39, z3b, z2k, z2n, z2o, z33, z34, z3d, z3a, z2m, z3e, z2q, z38, z35, z3c, z2t, z2u, z2v, z2w, z2x, z2y, z2s, z31, z30, z2z, z2l, z2r, z2p, z36, getElem?_app, getElem?_app0, z2a, z3g, q3]
      refine zW.zq ?_
      simp only [z2j, z2i, z2e, z2f, z3h, z3i, z2d, z2c, z1l, z1c, AOp.run, AX.ev, putE, upd, z1j, Option.map_some, Option.bind_some, Option.map_none, rBin, rEq, zu, z17, z1t, eqOp, aUn, aMin, z1s, z1p, z26, z25, z1z, rFa, rFld, z23, z24, z12, z1y, z10, z1i, blkQ, endQ, retV, oks, RV.ok, RV.val, Bool.and_true, Bool.true_and, List.map_cons, List.map_nil, List.getD_cons_zero, List.getD_cons_succ, List.getD_nil, if_true, if_false, ite_true, ite_false, reduceCtorEq, Nat.reduceEqDiff, Nat.reduceAdd, Bool.false_eq_true, Bool.true_eq_false, beq_true, beq_false, Bool.not_true, Bool.not_false, BEq.rfl, beq_self_eq_true, List.nil_append, List.cons_append, List.append_nil, z39, z3b, z2k, z2n, z2o, z33, z34, z3d, z3a, z2m, z3e, z2q, z38, z35, z3c, z2t, z2u, z2v, z2w, z2x, z2y, z2s, z31, z30, z2z, z2l, z2r, z2p, z36, getElem?_app, getElem?_app0, z2a, z3g, <- hpc, Nat.add_zero]
      exact ⟨trivial, DownV.same hw (z14 _ rfl)⟩
end Am
end Go.Proofs.YtncenefkbpelbaaDoor
end
section
/- Functions on bits: the place of the highest bit. -/
namespace Go.Proofs.YtncenefkbpelbaaDoor
namespace Am
end Am
end Go.Proofs.YtncenefkbpelbaaDoor
end
section
/- Functions on bits: how long a number is. -/
namespace Go.Proofs.YtncenefkbpelbaaDoor
namespace Am
end Am
end Go.Proofs.YtncenefkbpelbaaDoor
end
section
/- Functions on bits: how many are 1: the plain law. -/
namespace Go.Proofs.YtncenefkbpelbaaDoor
namespace Am
theorem z82 (a b c d : Nat) (hb : b < 256) (hd : d < 256) : (256 * a + b) &&& (256 * c + d) = 256 * (a &&& c) + (b &&& d) := by
  apply Nat.eq_of_testBit_eq
  intro i
  have e : ∀ x y : Nat, y < 256 -> (256 * x + y).testBit i = if i < 8 then y.testBit i else x.testBit (i - 8) := by
    intro x y hy
    have := Nat.testBit_two_pow_mul_add x (i := 8) (b := y) (by simpa using hy) i
    simpa using this
  have hbd : b &&& d < 256 := Nat.lt_of_le_of_lt Nat.and_le_left hb
  rw [Nat.testBit_and, e a b hb, e c d hd, e _ _ hbd]
  split <;> simp [Nat.testBit_and]
/-- The byte m, n times. -/
def rep (m : Nat) : Nat -> Nat
  | 0 => 0
  | n + 1 => 256 * rep m n + m
/-- A number's bytes, each turned. -/
def byB (g : Nat -> Nat) : Nat -> Nat -> Nat
  | 0, _ => 0
  | n + 1, x => 256 * byB g n (x / 256) + g (x % 256)
def st1 (x : Nat) : Nat := (x / 2 &&& 85) + (x &&& 85)
def st2 (x : Nat) : Nat := (x / 4 &&& 51) + (x &&& 51)
def st3 (x : Nat) : Nat := x / 16 + x % 16
theorem st1_lo : ∀ p : Fin 2, ∀ r : Fin 256, ((128 * p.val + r.val / 2) &&& 85) = (r.val / 2 &&& 85) := by decide +kernel
theorem st2_lo : ∀ p : Fin 4, ∀ r : Fin 256, ((64 * p.val + r.val / 4) &&& 51) = (r.val / 4 &&& 51) := by decide +kernel
theorem step1 : ∀ (n x : Nat), x < 256 ^ n -> ((x / 2) &&& rep 85 n) + (x &&& rep 85 n) = byB st1 n x
  | 0, x, h => by simp [rep, byB]
  | n + 1, x, h => by
    have ih := step1 n (x / 256) (by rw [Nat.pow_succ] at h; omega)
    have e1 : x / 2 = 256 * (x / 256 / 2) + (128 * (x / 256 % 2) + x % 256 / 2) := by omega
    have e2 : x = 256 * (x / 256) + x % 256 := by omega
    have l1 := st1_lo ⟨x / 256 % 2, by omega⟩ ⟨x % 256, by omega⟩
    simp only at l1
    rw [rep, byB, e1, z82 _ _ _ _ (by omega) (by decide), l1]
    conv => lhs; rhs; rw [e2]
    rw [z82 _ _ _ _ (by omega) (by decide), st1]
    omega
theorem step2 : ∀ (n x : Nat), x < 256 ^ n -> ((x / 4) &&& rep 51 n) + (x &&& rep 51 n) = byB st2 n x
  | 0, x, h => by simp [rep, byB]
  | n + 1, x, h => by
    have ih := step2 n (x / 256) (by rw [Nat.pow_succ] at h; omega)
    have e1 : x / 4 = 256 * (x / 256 / 4) + (64 * (x / 256 % 4) + x % 256 / 4) := by omega
    have e2 : x = 256 * (x / 256) + x % 256 := by omega
    have l1 := st2_lo ⟨x / 256 % 4, by omega⟩ ⟨x % 256, by omega⟩
    simp only at l1
    rw [rep, byB, e1, z82 _ _ _ _ (by omega) (by decide), l1]
    conv => lhs; rhs; rw [e2]
    rw [z82 _ _ _ _ (by omega) (by decide), st2]
    omega
/-- Nibbles of at most 4. -/
def nib4 : Nat -> Nat -> Prop
  | 0, x => x = 0
  | n + 1, x => x % 256 / 16 <= 4 /\ x % 16 <= 4 /\ nib4 n (x / 256)
theorem step3 : ∀ (n x : Nat), nib4 n x -> ((x / 16 + x) &&& rep 15 n) = byB st3 n x
  | 0, x, h => by simp [rep, byB]
  | n + 1, x, h => by
    obtain ⟨h1, h2, h3⟩ := h
    have ih := step3 n (x / 256) h3
    have hq : x / 256 % 16 <= 4 := by
      cases n with
      | zero => simp only [nib4] at h3; omega
      | succ n => exact h3.2.1
    have e1 : x / 16 + x = 256 * (x / 256 / 16 + x / 256) + (16 * (x / 256 % 16) + x % 256 / 16 + x % 256) := by omega
    rw [rep, byB, e1, z82 _ _ _ _ (by omega) (by decide), ih, st3]
    have e2 : (16 * (x / 256 % 16) + x % 256 / 16 + x % 256) &&& 15 = (16 * (x / 256 % 16) + x % 256 / 16 + x % 256) % 16 := Nat.and_two_pow_sub_one_eq_mod _ 4
    rw [e2]
    omega
theorem zag {f g : Nat -> Nat} (hg : ∀ b, b < 256 -> g b < 256) : ∀ (n x : Nat), byB f n (byB g n x) = byB (fun b => f (g b)) n x
  | 0, x => by simp [byB]
  | n + 1, x => by
    have hb := hg (x % 256) (by omega)
    have e1 : (256 * byB g n (x / 256) + g (x % 256)) / 256 = byB g n (x / 256) := by omega
    have e2 : (256 * byB g n (x / 256) + g (x % 256)) % 256 = g (x % 256) := by omega
    simp only [byB, e1, e2, zag hg n]
theorem zah {g : Nat -> Nat} (hg : ∀ b, b < 256 -> g b < 256) : ∀ (n x : Nat), byB g n x < 256 ^ n
  | 0, x => by simp [byB]
  | n + 1, x => by
    have := zah hg n (x / 256)
    have := hg (x % 256) (by omega)
    rw [byB, Nat.pow_succ]; omega
theorem st12 : ∀ b : Fin 256, st1 b.val < 256 /\ st2 (st1 b.val) < 256 /\ st2 (st1 b.val) / 16 <= 4 /\ st2 (st1 b.val) % 16 <= 4 /\ st3 (st2 (st1 b.val)) = pc 8 b.val /\ pc 8 b.val <= 8 := by decide +kernel
theorem zbd : ∀ (n x : Nat), nib4 n (byB (fun b => st2 (st1 b)) n x)
  | 0, x => by simp [nib4, byB]
  | n + 1, x => by
    obtain ⟨h1, h2, h3, h4, _⟩ := st12 ⟨x % 256, by omega⟩
    simp only at h1 h2 h3 h4
    have e1 : (256 * byB (fun b => st2 (st1 b)) n (x / 256) + st2 (st1 (x % 256))) / 256 = byB (fun b => st2 (st1 b)) n (x / 256) := by omega
    have ih := zbd n (x / 256)
    rw [byB, nib4, e1]
    exact ⟨by omega, by omega, ih⟩
theorem z5r (w x : Nat) : pc (8 + w) x = pc 8 (x % 256) + pc w (x / 256) := by
  have e : ∀ k, k < 8 -> x / 2 ^ k % 2 = (x % 256) / 2 ^ k % 2 := by
    intro k hk
    have : k = 0 \/ k = 1 \/ k = 2 \/ k = 3 \/ k = 4 \/ k = 5 \/ k = 6 \/ k = 7 := by omega
    rcases this with rfl | rfl | rfl | rfl | rfl | rfl | rfl | rfl <;> simp <;> omega
  rw [show 8 + w = w + 8 by omega]
  simp only [pc, Nat.div_div_eq_div_mul]
  simp
  omega
end Am
end Go.Proofs.YtncenefkbpelbaaDoor
end
section
/- Functions on bits: how many are 1. -/
namespace Go.Proofs.YtncenefkbpelbaaDoor
namespace Am
theorem byB8 (g : Nat -> Nat) (x : Nat) : byB g 8 x = g (x % 256) + 256 * (g (x / 256 % 256) + 256 * (g (x / 65536 % 256) + 256 * (g (x / 16777216 % 256) + 256 * (g (x / 4294967296 % 256) + 256 * (g (x / 1099511627776 % 256) + 256 * (g (x / 281474976710656 % 256) + 256 * g (x / 72057594037927936 % 256))))))) := by
  simp only [byB, Nat.div_div_eq_div_mul, Nat.reduceMul]
  omega
theorem pc64 (x : Nat) (_ : x < 18446744073709551616) : pc 64 x = pc 8 (x % 256) + pc 8 (x / 256 % 256) + pc 8 (x / 65536 % 256) + pc 8 (x / 16777216 % 256) + pc 8 (x / 4294967296 % 256) + pc 8 (x / 1099511627776 % 256) + pc 8 (x / 281474976710656 % 256) + pc 8 (x / 72057594037927936 % 256) := by
  have e0 := z5r 56 x
  have e1 := z5r 48 (x / 256)
  have e2 := z5r 40 (x / 256 / 256)
  have e3 := z5r 32 (x / 256 / 256 / 256)
  have e4 := z5r 24 (x / 256 / 256 / 256 / 256)
  have e5 := z5r 16 (x / 256 / 256 / 256 / 256 / 256)
  have e6 := z5r 8 (x / 256 / 256 / 256 / 256 / 256 / 256)
  have e7 := z5r 0 (x / 256 / 256 / 256 / 256 / 256 / 256 / 256)
  have e8 : pc 0 (x / 256 / 256 / 256 / 256 / 256 / 256 / 256 / 256) = 0 := rfl
  rw [e8] at e7
  simp only [Nat.reduceAdd, Nat.div_div_eq_div_mul, Nat.reduceMul, Nat.add_zero] at e0 e1 e2 e3 e4 e5 e6 e7
  rw [e0, e1, e2, e3, e4, e5, e6, e7]
  simp only [Nat.add_assoc]
theorem z3p (x : Nat) : pc 8 (x % 256) <= 8 := (st12 ⟨x % 256, by omega⟩).2.2.2.2.2
theorem sum8 (b0 b1 b2 b3 b4 b5 b6 b7 : Nat) (h0 : b0 <= 8) (h1 : b1 <= 8) (h2 : b2 <= 8) (h3 : b3 <= 8) (h4 : b4 <= 8) (h5 : b5 <= 8) (h6 : b6 <= 8) (h7 : b7 <= 8) (y y1 y2 y3 : Nat) 
   (hy : y = b0 + 256 * (b1 + 256 * (b2 + 256 * (b3 + 256 * (b4 + 256 * (b5 + 256 * (b6 + 256 * b7))))))) 
    (hy1 : y1 = y + y / 256)
    (hy2 : y2 = y1 + y1 / 65536) (hy3 : y3 = y2 + y2 / 4294967296) :
    y3 < 18446744073709551616 /\ y3 % 128 = b0 + b1 + b2 + b3 + b4 + b5 + b6 + b7 := by
  have e1 : y / 256 = b1 + 256 * (b2 + 256 * (b3 + 256 * (b4 + 256 * (b5 + 256 * (b6 + 256 * b7))))) := by clear hy1 hy2 hy3; omega
  have e2 : y1 = (b0 + b1) + 256 * ((b1 + b2) + 256 * ((b2 + b3) + 256 * ((b3 + b4) + 256 * ((b4 + b5) + 256 * ((b5 + b6) + 256 * ((b6 + b7) + 256 * b7)))))) := by rw [hy1, e1, hy]; clear e1 hy hy1 hy2 hy3; omega
  clear e1 hy hy1
  have e3 : y1 / 65536 = (b2 + b3) + 256 * ((b3 + b4) + 256 * ((b4 + b5) + 256 * ((b5 + b6) + 256 * ((b6 + b7) + 256 * b7)))) := by clear hy2 hy3; omega
  have e4 : y2 = (b0 + b1 + b2 + b3) + 256 * ((b1 + b2 + b3 + b4) + 256 * ((b2 + b3 + b4 + b5) + 256 * ((b3 + b4 + b5 + b6) + 256 * ((b4 + b5 + b6 + b7) + 256 * ((b5 + b6 + b7) + 256 * ((b6 + b7) + 256 * b7)))))) := by
    rw [hy2, e3, e2]; clear e3 e2 hy2 hy3; omega
  clear e2 e3 hy2
  have e5 : y2 / 4294967296 = (b4 + b5 + b6 + b7) + 256 * ((b5 + b6 + b7) + 256 * ((b6 + b7) + 256 * b7)) := by clear hy3; omega
  rw [e5, e4] at hy3
  clear e4 e5
  omega
theorem zf2 : ∀ (n x : Nat), nib4 n x -> x <= rep 68 n
  | 0, x, h => by simp only [nib4] at h; simp [rep, h]
  | n + 1, x, h => by
    obtain ⟨h1, h2, h3⟩ := h
    have := zf2 n (x / 256) h3
    simp only [rep]
    omega
theorem zjc (z : Nat) (hz : z < 18446744073709551616) : zu .and .i64 (IntKind.i64.wrap (z : Int)) 127 = some (.int .i64 ((z % 128 : Nat) : Int)) := by
  have ew : (BitVec.ofInt IntKind.i64.bits (IntKind.i64.wrap (z : Int))).toNat = z := by
    rw [BitVec.toNat_ofInt]
    simp only [IntKind.wrap, IntKind.signed, IntKind.bits]
    simp
    split <;> omega
  have e7 : (BitVec.ofInt IntKind.i64.bits 127).toNat = 2 ^ 7 - 1 := by decide
  have ea : (BitVec.ofInt IntKind.i64.bits (IntKind.i64.wrap (z : Int)) &&& BitVec.ofInt IntKind.i64.bits 127).toNat = z % 128 := by
    rw [BitVec.toNat_and, ew, e7]
    exact Nat.and_two_pow_sub_one_eq_mod z 7
  simp only [zu]
  rw [ea, z7c ⟨by omega, by omega⟩]
theorem zdj (O : Store) (x : Int) (h : 0 <= x /\ x < 18446744073709551616) : ACallsTo TC 146 [.int .u64 x] O (.int .i64 (pc 64 x.toNat)) O := by
  refine ACallsTo.of_body q7ok (by simp) fun hw _ => ?_
  obtain ⟨x, rfl⟩ : ∃ n : Nat, x = n := ⟨x.toNat, by omega⟩
  rw [Int.toNat_natCast]
  have hx : x < 256 ^ 8 := by omega
  have h1 := step1 8 x hx
  have h2 := step2 8 (byB st1 8 x) (zah (fun b hb => (st12 ⟨b, hb⟩).1) 8 x)
  rw [zag (fun b hb => (st12 ⟨b, hb⟩).1)] at h2
  have h3 := step3 8 (byB (fun b => st2 (st1 b)) 8 x) (zbd 8 x)
  rw [zag (fun b hb => (st12 ⟨b, hb⟩).2.1)] at h3
  have e3 : byB (fun b => st3 (st2 (st1 b))) 8 x = byB (pc 8) 8 x := by
    simp only [byB8]
    have : ∀ y, st3 (st2 (st1 (y % 256))) = pc 8 (y % 256) := fun y => (st12 ⟨y % 256, by omega⟩).2.2.2.2.1
    simp only [this]
  rw [e3] at h3
  have k1 : rep 85 8 = 6148914691236517205 := by simp only [rep]
  have k2 : rep 51 8 = 3689348814741910323 := by simp only [rep]
  have k3 : rep 15 8 = 1085102592571150095 := by simp only [rep]
  rw [k1] at h1; rw [k2] at h2; rw [k3] at h3
  have l1 : byB st1 8 x < 18446744073709551616 := by
    have h := zah (g := st1) (fun b hb => (st12 ⟨b, hb⟩).1) 8 x
    omega
  have l2 : byB (fun b => st2 (st1 b)) 8 x <= 4919131752989213764 := by
    have h := zf2 8 _ (zbd 8 x)
    simp only [rep] at h
    omega
  have hs := sum8 _ _ _ _ _ _ _ _ (z3p x) (z3p (x / 256)) (z3p (x / 65536)) (z3p (x / 16777216)) (z3p (x / 4294967296)) (z3p (x / 1099511627776)) (z3p (x / 281474976710656)) (z3p (x / 72057594037927936)) _ _ _ _ rfl rfl rfl rfl
  rw [<- byB8, <- pc64 x (by omega)] at hs
  generalize byB (pc 8) 8 x = y3 at *
  generalize byB (fun b => st2 (st1 b)) 8 x = y2 at *
  generalize byB st1 8 x = y1 at *
  clear e3
  try simp only at hs l2
  have hle : pc 64 x <= 64 := by
    rw [pc64 x (by omega)]
    have := z3p x; have := z3p (x / 256); have := z3p (x / 65536); have := z3p (x / 16777216); have := z3p (x / 4294967296); have := z3p (x / 1099511627776); have := z3p (x / 281474976710656); have := z3p (x / 72057594037927936)
    omega
  generalize pc 64 x = p at *
  have hy3 : y3 < 18446744073709551616 := by omega
  have t6 : ∀ (Z : Env) (z : Nat), z < 18446744073709551616 -> z % 128 = p -> Z 0 = .int .u64 (z : Int) -> zW TC 35 O.length q7c8 (endQ O.length [.t 2] (.int .i64 p) O) Z O := by
    intro Z z hs1 hs2 q0
    have e6 := zjc z hs1
    rw [hs2] at e6
    repeat' (first|refine zW.zs ?_|refine zW.zb ?_|refine zW.zc ?_|refine zW.zt rfl ?_|refine zW.zf rfl ?_|(refine zW.zd rfl (fun ht => ?_) (fun ht => ?_)<;>try (exfalso;omega))|((first|refine zW.zr ?_|refine zW.zk ?_|refine zW.ze ?_|refine zW.zq ?_|((first|apply zg0|apply zg1|apply zg2|apply zg3|apply zg4|apply zg5|apply zg6|apply zg7)<;>intro ht));all_goals try simp (disch:=first|omega|(simp only [lens];first|done|omega)) only [go_sem,reduceEqDiff,Nat.reduceBEq,reduceAdd,reduceMul,reduceSub,reduceLeDiff,reduceToNat,reducePow, q0, e6]))
    exact DownV.same hw (z14 _ rfl)
  have t5 : ∀ Z : Env, Z 0 = .int .u64 ((y3 + y3 / 256 + (y3 + y3 / 256) / 65536 : Nat) : Int) -> zW TC 35 O.length q7c9 (endQ O.length [.t 2] (.int .i64 p) O) Z O := by
    intro Z q0
    refine zW.seqReg ?_
    simp (disch:=first|omega|(simp only [lens];first|done|omega)) only [go_sem,reduceEqDiff,Nat.reduceBEq,reduceAdd,reduceMul,reduceSub,reduceLeDiff,reduceToNat,reducePow, q0]
    exact t6 _ _ hs.1 hs.2 (by simp (disch:=first|omega|(simp only [lens];first|done|omega)) only [go_sem,reduceEqDiff,Nat.reduceBEq,reduceAdd,reduceMul,reduceSub,reduceLeDiff,reduceToNat,reducePow, Int.natCast_add, Int.natCast_ediv, Int.cast_ofNat_Int])
  have t4 : ∀ Z : Env, Z 0 = .int .u64 ((y3 + y3 / 256 : Nat) : Int) -> zW TC 35 O.length q7c10 (endQ O.length [.t 2] (.int .i64 p) O) Z O := by
    intro Z q0
    refine zW.seqReg ?_
    simp (disch:=first|omega|(simp only [lens];first|done|omega)) only [go_sem,reduceEqDiff,Nat.reduceBEq,reduceAdd,reduceMul,reduceSub,reduceLeDiff,reduceToNat,reducePow, q0]
    exact t5 _ (by simp (disch:=first|omega|(simp only [lens];first|done|omega)) only [go_sem,reduceEqDiff,Nat.reduceBEq,reduceAdd,reduceMul,reduceSub,reduceLeDiff,reduceToNat,reducePow, Int.natCast_add, Int.natCast_ediv, Int.cast_ofNat_Int])
  have t3 : ∀ Z : Env, Z 0 = .int .u64 (y3 : Int) -> zW TC 35 O.length q7c11 (endQ O.length [.t 2] (.int .i64 p) O) Z O := by
    intro Z q0
    refine zW.seqReg ?_
    simp (disch:=first|omega|(simp only [lens];first|done|omega)) only [go_sem,reduceEqDiff,Nat.reduceBEq,reduceAdd,reduceMul,reduceSub,reduceLeDiff,reduceToNat,reducePow, q0]
    exact t4 _ (by simp (disch:=first|omega|(simp only [lens];first|done|omega)) only [go_sem,reduceEqDiff,Nat.reduceBEq,reduceAdd,reduceMul,reduceSub,reduceLeDiff,reduceToNat,reducePow, Int.natCast_add, Int.natCast_ediv, Int.cast_ofNat_Int])
  have t2 : ∀ Z : Env, Z 0 = .int .u64 (y2 : Int) -> zW TC 35 O.length q7c12 (endQ O.length [.t 2] (.int .i64 p) O) Z O := by
    intro Z q0
    refine zW.seqReg ?_
    have e : ((y2 : Int) / 16 + (y2 : Int)).toNat = y2 / 16 + y2 := by omega
    simp (disch:=first|omega|(simp only [lens];first|done|omega)) only [go_sem,reduceEqDiff,Nat.reduceBEq,reduceAdd,reduceMul,reduceSub,reduceLeDiff,reduceToNat,reducePow, q0, e, h3]
    exact t3 _ (by simp (disch:=first|omega|(simp only [lens];first|done|omega)) only [go_sem,reduceEqDiff,Nat.reduceBEq,reduceAdd,reduceMul,reduceSub,reduceLeDiff,reduceToNat,reducePow])
  have t1 : ∀ Z : Env, Z 0 = .int .u64 (y1 : Int) -> zW TC 35 O.length q7c13 (endQ O.length [.t 2] (.int .i64 p) O) Z O := by
    intro Z q0
    refine zW.seqReg ?_
    have e : ((y1 : Int) / 4).toNat = y1 / 4 := by omega
    have e' : ((y1 / 4 &&& 3689348814741910323 : Nat) : Int) + ((y1 &&& 3689348814741910323 : Nat) : Int) = (y2 : Int) := by omega
    simp (disch:=first|omega|(simp only [lens];first|done|omega)) only [go_sem,reduceEqDiff,Nat.reduceBEq,reduceAdd,reduceMul,reduceSub,reduceLeDiff,reduceToNat,reducePow, q0, e, e']
    exact t2 _ (by simp (disch:=first|omega|(simp only [lens];first|done|omega)) only [go_sem,reduceEqDiff,Nat.reduceBEq,reduceAdd,reduceMul,reduceSub,reduceLeDiff,reduceToNat,reducePow])
  refine zW.seqReg ?_
  simp (disch:=first|omega|(simp only [lens];first|done|omega)) only [go_sem,reduceEqDiff,Nat.reduceBEq,reduceAdd,reduceMul,reduceSub,reduceLeDiff,reduceToNat,reducePow]
  refine zW.seqReg ?_
  have e : ((x : Int) / 2).toNat = x / 2 := by omega
  have e' : ((x / 2 &&& 6148914691236517205 : Nat) : Int) + ((x &&& 6148914691236517205 : Nat) : Int) = (y1 : Int) := by omega
  simp (disch:=first|omega|(simp only [lens];first|done|omega)) only [go_sem,reduceEqDiff,Nat.reduceBEq,reduceAdd,reduceMul,reduceSub,reduceLeDiff,reduceToNat,reducePow, e, e']
  refine t1 _ ?_
  simp (disch:=first|omega|(simp only [lens];first|done|omega)) only [go_sem,reduceEqDiff,Nat.reduceBEq,reduceAdd,reduceMul,reduceSub,reduceLeDiff,reduceToNat,reducePow]
end Am
end Go.Proofs.YtncenefkbpelbaaDoor
end
section
/- Functions on bits: the contracts of all, numbers as_ Int. -/
namespace Go.Proofs.YtncenefkbpelbaaDoor
namespace Am
theorem z6e {k : Nat} {i : IntKind} {n : Int} : RL k (.int i n) := z14 _ rfl
theorem zc1 {k : Nat} {s : List UInt8} : RL k (.str s) := z14 _ rfl
theorem z3x {k : Nat} {b : Bool} : RL k (.bool b) := z14 _ rfl
theorem z90 (O : Store) (x : Int) (h : 0 <= x /\ x < 18446744073709551616) : ACallsTo TC 135 [.int .u64 x] O (.int .i64 (pc 64 x.toNat)) O := by
  refine ACallsTo.of_body q6ok (by simp) fun hw _ => ?_
  repeat' (first|refine zW.zs ?_|refine zW.zb ?_|refine zW.zc ?_|refine zW.zt rfl ?_|refine zW.zf rfl ?_|(refine zW.zd rfl (fun ht => ?_) (fun ht => ?_)<;>try (exfalso;omega))|((first|refine zW.zr ?_|refine zW.zk ?_|refine zW.ze ?_|refine zW.zq ?_|(apply callW.mk_pu; (first | exact (fun _ => zdj _ _ (by omega)))) | (apply callW.za; (first | exact (zdj _ _ (by omega)))) | ((first|apply zg0|apply zg1|apply zg2|apply zg3|apply zg4|apply zg5|apply zg6|apply zg7)<;>intro ht));all_goals try simp (disch:=first|omega|(simp only [lens];first|done|omega)) only [go_sem,reduceEqDiff,Nat.reduceBEq,reduceAdd,reduceMul,reduceSub,reduceLeDiff,reduceToNat,reducePow]))
  exact DownV.same hw z6e
theorem zib (O : Store) (x : Int) (h : -9223372036854775808 <= x /\ x < 9223372036854775808) : ACallsTo TC 103 [.int .i64 x] O (.int .i64 (pc 64 x.toNat)) O := by
  refine ACallsTo.of_body q2ok (by simp) fun hw _ => ?_
  by_cases hx : 0 > x
  · have e : x.toNat = (0 : Int).toNat := by omega
    rw [e]
    repeat' (first|refine zW.zs ?_|refine zW.zb ?_|refine zW.zc ?_|refine zW.zt rfl ?_|refine zW.zf rfl ?_|(refine zW.zd rfl (fun ht => ?_) (fun ht => ?_)<;>try (exfalso;omega))|((first|refine zW.zr ?_|refine zW.zk ?_|refine zW.ze ?_|refine zW.zq ?_|(apply callW.mk_pu; (first | exact (fun _ => z90 _ _ (by omega)))) | (apply callW.za; (first | exact (z90 _ _ (by omega)))) | ((first|apply zg0|apply zg1|apply zg2|apply zg3|apply zg4|apply zg5|apply zg6|apply zg7)<;>intro ht));all_goals try simp (disch:=first|omega|(simp only [lens];first|done|omega)) only [go_sem,reduceEqDiff,Nat.reduceBEq,reduceAdd,reduceMul,reduceSub,reduceLeDiff,reduceToNat,reducePow]))
    exact DownV.same hw z6e
  · repeat' (first|refine zW.zs ?_|refine zW.zb ?_|refine zW.zc ?_|refine zW.zt rfl ?_|refine zW.zf rfl ?_|(refine zW.zd rfl (fun ht => ?_) (fun ht => ?_)<;>try (exfalso;omega))|((first|refine zW.zr ?_|refine zW.zk ?_|refine zW.ze ?_|refine zW.zq ?_|(apply callW.mk_pu; (first | exact (fun _ => z90 _ _ (by omega)))) | (apply callW.za; (first | exact (z90 _ _ (by omega)))) | ((first|apply zg0|apply zg1|apply zg2|apply zg3|apply zg4|apply zg5|apply zg6|apply zg7)<;>intro ht));all_goals try simp (disch:=first|omega|(simp only [lens];first|done|omega)) only [go_sem,reduceEqDiff,Nat.reduceBEq,reduceAdd,reduceMul,reduceSub,reduceLeDiff,reduceToNat,reducePow]))
    exact DownV.same hw z6e
/-- A number's last bytes, the highest first. -/
def be : Nat -> Nat -> List UInt8
  | 0, _ => []
  | n + 1, x => be n (x / 256) ++ [UInt8.ofNat x]
theorem z52 : ∀ n x, (be n x).length = n
  | 0, _ => rfl
  | n + 1, x => by simp [be, z52 n]
theorem z8z : ∀ n x, be (n + 1) x = UInt8.ofNat (x / 256 ^ n) :: be n x
  | 0, x => by simp [be]
  | n + 1, x => by
    rw [be, z8z n (x / 256), Nat.div_div_eq_div_mul, Nat.pow_succ, Nat.mul_comm 256, be]
    rfl
def putS (x n : Int) : List UInt8 := if 1 <= n /\ n <= 8 then be n.toNat x.toNat else []
theorem z91 (O : Store) (x n : Int) (h : 0 <= x /\ x < 18446744073709551616) (hn : n < 9223372036854775808) : ACallsTo TC 120 [.int .u64 x, .int .i64 n] O (.str (putS x n)) O := by
  refine ACallsTo.of_body q0ok (by simp) fun hw _ => ?_
  repeat' (first|refine zW.zs ?_|refine zW.zb ?_|refine zW.zc ?_|refine zW.zt rfl ?_|refine zW.zf rfl ?_|(refine zW.zd rfl (fun ht => ?_) (fun ht => ?_)<;>try (exfalso;omega))|((first|refine zW.zr ?_|refine zW.zk ?_|refine zW.ze ?_|refine zW.zq ?_|((first|apply zg0|apply zg1|apply zg2|apply zg3|apply zg4|apply zg5|apply zg6|apply zg7)<;>intro ht));all_goals try simp (disch:=first|omega|(simp only [lens];first|done|omega)) only [go_sem,reduceEqDiff,Nat.reduceBEq,reduceAdd,reduceMul,reduceSub,reduceLeDiff,reduceToNat,reducePow]))
  · rw [putS, if_neg (by omega)]
    exact DownV.same hw zc1
  · rw [putS, if_neg (by omega)]
    exact DownV.same hw zc1
  rw [putS, if_pos (by omega)]
  obtain ⟨k, hk⟩ : ∃ k : Nat, n = k := ⟨n.toNat, by omega⟩
  subst hk
  rw [Int.toNat_natCast]
  refine zW.loop (fun m Z O' => ∃ (i : Nat) (y : Nat) (s : List UInt8), O' = O ++ [some (zl s)] /\ s.length = k /\ s.drop (k - i) = be i x.toNat /\ Z 0 = .int .u64 y /\ Z 1 = .int .i64 k /\ Z 15 = .int .i64 k /\ Z 5 = .sl O.length 0 k (some k) 1 /\ Z 16 = .int .i64 i /\ m + i = k /\ y = x.toNat / 256 ^ i) k ?_ ?_
  · refine ⟨0, x.toNat, List.replicate k 0, ?_, by simp, by simp [be], ?_, ?_, ?_, ?_, ?_, by omega, by simp⟩ <;> try simp (disch:=first|omega|(simp only [lens];first|done|omega)) only [go_sem,reduceEqDiff,Nat.reduceBEq,reduceAdd,reduceMul,reduceSub,reduceLeDiff,reduceToNat,reducePow, be]
    · exact z6u (by omega)
    · exact z6u (by omega)
  · rintro m Z _ ⟨i, y, s, rfl, hs, hd, q0, q1, q15, q5, q16, hm, hy⟩
    have hy2 : y < 18446744073709551616 := by
      have := Nat.div_le_self x.toNat (256 ^ i)
      omega
    repeat' (first|refine zW.zs ?_|refine zW.zb ?_|refine zW.zc ?_|refine zW.zt rfl ?_|refine zW.zf rfl ?_|(refine zW.zd rfl (fun ht => ?_) (fun ht => ?_)<;>try (exfalso;omega))|((first|refine zW.zr ?_|refine zW.zk ?_|refine zW.ze ?_|refine zW.zq ?_|((first|apply zg0|apply zg1|apply zg2|apply zg3|apply zg4|apply zg5|apply zg6|apply zg7)<;>intro ht));all_goals try simp (disch:=first|omega|(simp only [lens];first|done|omega)) only [go_sem,reduceEqDiff,Nat.reduceBEq,reduceAdd,reduceMul,reduceSub,reduceLeDiff,reduceToNat,reducePow, q0, q1, q15, q5, q16]))
    · refine ⟨m - 1, by omega, i + 1, y / 256, _, rfl, by simp [hs], ?_, z6u (by omega), z6u (by omega), by omega, ?_⟩
      · rw [z8z, <- hy, <- hd]
        have e1 : ((k : Int) - 1 - i).toNat = k - (i + 1) := by omega
        have e2 : UInt8.ofNat ((y : Int) % 256).toNat = UInt8.ofNat y := by
          apply UInt8.toNat_inj.1
          simp; omega
        rw [e1, e2, List.drop_set]
        simp only [Nat.lt_irrefl, if_false, Nat.sub_self]
        rw [List.drop_eq_getElem_cons (by omega), List.set_cons_zero, show k - (i + 1) + 1 = k - i by omega]
      · rw [hy, Nat.div_div_eq_div_mul, Nat.pow_succ]
    · have e : i = k := by omega
      subst e
      rw [Nat.sub_self, List.drop_zero] at hd
      rw [<- hd]
      exact DownV.pure hw zc1
end Am
end Go.Proofs.YtncenefkbpelbaaDoor
end
section
/- Functions on bits: Get, Bit, Left, Right. -/
namespace Go.Proofs.YtncenefkbpelbaaDoor
namespace Am
/-- The number of bytes, the highest first. -/
def val (s : List UInt8) : Nat := s.foldl (fun n b => 256 * n + b.toNat) 0
theorem zp3 (s : List UInt8) (b : UInt8) : val (s ++ [b]) = 256 * val s + b.toNat := by simp [val]
theorem zov {α : Type} (s : List α) (i : Nat) (d : α) (h : i < s.length) : s.take (i + 1) = s.take i ++ [s.getD i d] := by
  rw [List.take_add_one, getQ s i d h]; rfl
theorem zha (s : List UInt8) (i : Nat) (h : i < s.length) : val (s.take (i + 1)) = 256 * val (s.take i) + (s.getD i 0).toNat := by
  rw [zov s i 0 h, zp3]
theorem zh9 : ∀ (i : Nat) (s : List UInt8), i <= s.length -> val (s.take i) < 256 ^ i
  | 0, s, _ => by simp [val]
  | i + 1, s, h => by
    have := zh9 i s (by omega)
    have hb := (s.getD i 0).toNat_lt
    rw [zha s i (by omega), Nat.pow_succ]
    omega
def getS (s : List UInt8) : Nat := val (s.take 8)
theorem zdi (O : Store) (s : List UInt8) (hs : s.length < 9223372036854775808) : ACallsTo TC 151 [.str s] O (.int .u64 (getS s)) O := by
  refine ACallsTo.of_body q4ok (by simp) fun hw _ => ?_
  obtain ⟨k, hk, hk2⟩ : ∃ k : Nat, (k : Int) = (if (8 : Int) < s.length then (8 : Int) else (s.length : Int)) /\ k = min 8 s.length := ⟨min 8 s.length, by split <;> omega, rfl⟩
  have hgs : getS s = val (s.take k) := by
    rw [hk2, getS]
    by_cases h : 8 <= s.length
    · rw [Nat.min_eq_left h]
    · rw [Nat.min_eq_right (by omega), List.take_of_length_le (by omega), List.take_length]
  rw [hgs]
  repeat' (first|refine zW.zs ?_|refine zW.zb ?_|refine zW.zc ?_|refine zW.zt rfl ?_|refine zW.zf rfl ?_|(refine zW.zd rfl (fun ht => ?_) (fun ht => ?_)<;>try (exfalso;omega))|((first|refine zW.zr ?_|refine zW.zk ?_|refine zW.ze ?_|refine zW.zq ?_|((first|apply zg0|apply zg1|apply zg2|apply zg3|apply zg4|apply zg5|apply zg6|apply zg7)<;>intro ht));all_goals try simp (disch:=first|omega|(simp only [lens];first|done|omega)) only [go_sem,reduceEqDiff,Nat.reduceBEq,reduceAdd,reduceMul,reduceSub,reduceLeDiff,reduceToNat,reducePow, <- hk]))
  refine zW.loop (fun m Z O' => O' = O /\ ∃ (i : Nat), Z 0 = .str s /\ Z 7 = .int .i64 k /\ Z 8 = .int .i64 i /\ Z 3 = .int .u64 (val (s.take i)) /\ m + i = k) k ?_ ?_
  · refine ⟨rfl, 0, ?_, ?_, ?_, ?_, by omega⟩ <;> simp (disch:=first|omega|(simp only [lens];first|done|omega)) only [go_sem,reduceEqDiff,Nat.reduceBEq,reduceAdd,reduceMul,reduceSub,reduceLeDiff,reduceToNat,reducePow, <- hk] <;> rfl
  · rintro m Z _ ⟨rfl, i, q0, q7, q8, q3, hm⟩
    have hv := zh9 i s (by omega)
    have hp : i < k -> 256 * 256 ^ i <= 18446744073709551616 := by
      intro h
      have : 256 ^ (i + 1) <= 256 ^ 8 := Nat.pow_le_pow_right (by decide) (by omega)
      rw [Nat.pow_succ] at this
      omega
    have hb := (s.getD i 0).toNat_lt
    repeat' (first|refine zW.zs ?_|refine zW.zb ?_|refine zW.zc ?_|refine zW.zt rfl ?_|refine zW.zf rfl ?_|(refine zW.zd rfl (fun ht => ?_) (fun ht => ?_)<;>try (exfalso;omega))|((first|refine zW.zr ?_|refine zW.zk ?_|refine zW.ze ?_|refine zW.zq ?_|((first|apply zg0|apply zg1|apply zg2|apply zg3|apply zg4|apply zg5|apply zg6|apply zg7)<;>intro ht));all_goals try simp (disch:=first|omega|(simp only [lens];first|done|omega)) only [go_sem,reduceEqDiff,Nat.reduceBEq,reduceAdd,reduceMul,reduceSub,reduceLeDiff,reduceToNat,reducePow, q0, q7, q8, q3]))
    · have hp' := hp (by omega)
      have hvt := zha s i (by omega)
      refine ⟨m - 1, by omega, i + 1, z6u (by omega), ?_, by omega⟩
      rw [hvt]
      exact z6u (by omega)
    · have e : i = k := by omega
      subst e
      exact DownV.same hw z6e
/-- A text's bit at a place. -/
def bitS (s : List UInt8) (i : Int) : Nat := if 0 <= i /\ i / 8 < s.length then (s.getD (i / 8).toNat 0).toNat / 2 ^ (7 - i % 8).toNat % 2 else 0
end Am
end Go.Proofs.YtncenefkbpelbaaDoor
end
section
/- Functions on bits: plain laws. -/
namespace Go.Proofs.YtncenefkbpelbaaDoor
namespace Am
/-! Turning. -/
/-! Bits of a sum. -/
theorem zff : ∀ (a b n : Nat), pc (a + b) n = pc a (n % 2 ^ a) + pc b (n / 2 ^ a)
  | 0, b, n => by simp [pc, Nat.mod_one]
  | a + 1, b, n => by
    rw [show a + 1 + b = (a + b) + 1 by omega]
    simp only [pc]
    rw [zff a b (n / 2), Nat.div_div_eq_div_mul, Nat.pow_succ, Nat.mul_comm 2]
    have e1 : n % (2 ^ a * 2) % 2 = n % 2 := Nat.mod_mod_of_dvd _ (Nat.dvd_mul_left 2 _)
    have e2 : n % (2 ^ a * 2) / 2 = n / 2 % 2 ^ a := by rw [Nat.mul_comm, Nat.mod_mul_right_div_self]
    rw [e1, e2]
    omega
/-! What is put is got. -/
/-! The highest bit. -/
/-- The bits down to a place, counted. -/
theorem zfc : ∀ (w x : Nat), x < 2 ^ w -> ∀ v, pc (w + v) x = pc w x
  | 0, x, h, v => by simp at h; subst h; simp [z9m]
  | w + 1, x, h, v => by
    rw [show w + 1 + v = (w + v) + 1 by omega]
    simp only [pc]
    rw [zfc w (x / 2) (by rw [Nat.pow_succ] at h; omega) v]
end Am
end Go.Proofs.YtncenefkbpelbaaDoor
end
section
/- Abstract code. (Printed by wip/gen.) -/
set_option maxRecDepth 10000
namespace Go.Proofs.YtncenefkbpelbaaDoor
namespace Am



@[go_sem] def q8r0 : List AIns := [
  ⟨some 2,none,.no,.alloc zZ0⟩]
@[go_sem] def q8r1 : List AIns := [
  ⟨some 26,none,.no,.build [(.int .u32 0), (.int .u32 0), (.int .u32 0), (.int .u32 0), (.int .u32 0), (.int .u32 0), (.int .u32 0), (.int .u32 0), (.int .u32 0), (.int .u32 0), (.int .u32 0), (.int .u32 0), (.int .u32 0), (.int .u32 0), (.int .u32 0), (.int .u32 0), (.int .u32 0), (.int .u32 0), (.int .u32 0), (.int .u32 0), (.int .u32 0), (.int .u32 0), (.int .u32 0), (.int .u32 0), (.int .u32 0), (.int .u32 0), (.int .u32 0), (.int .u32 0), (.int .u32 0), (.int .u32 0), (.int .u32 0), (.int .u32 0), (.int .u32 0), (.int .u32 0), (.int .u32 0), (.int .u32 0), (.int .u32 0), (.int .u32 0), (.int .u32 0), (.int .u32 0), (.int .u32 0), (.int .u32 0), (.int .u32 0), (.int .u32 0), (.int .u32 0), (.int .u32 0), (.int .u32 0), (.int .u32 0), (.int .u32 0), (.int .u32 0), (.int .u32 0), (.int .u32 0), (.int .u32 0), (.int .u32 0), (.int .u32 0), (.int .u32 0), (.int .u32 0), (.int .u32 0), (.int .u32 0), (.int .u32 0), (.int .u32 0), (.int .u32 0), (.int .u32 0), (.int .u32 0)] [(0, 1, (.v (.int .u32 1116352408))), (1, 1, (.v (.int .u32 1899447441))), (2, 1, (.v (.int .u32 3049323471))), (3, 1, (.v (.int .u32 3921009573))), (4, 1, (.v (.int .u32 961987163))), (5, 1, (.v (.int .u32 1508970993))), (6, 1, (.v (.int .u32 2453635748))), (7, 1, (.v (.int .u32 2870763221))), (8, 1, (.v (.int .u32 3624381080))), (9, 1, (.v (.int .u32 310598401))), (10, 1, (.v (.int .u32 607225278))), (11, 1, (.v (.int .u32 1426881987))), (12, 1, (.v (.int .u32 1925078388))), (13, 1, (.v (.int .u32 2162078206))), (14, 1, (.v (.int .u32 2614888103))), (15, 1, (.v (.int .u32 3248222580))), (16, 1, (.v (.int .u32 3835390401))), (17, 1, (.v (.int .u32 4022224774))), (18, 1, (.v (.int .u32 264347078))), (19, 1, (.v (.int .u32 604807628))), (20, 1, (.v (.int .u32 770255983))), (21, 1, (.v (.int .u32 1249150122))), (22, 1, (.v (.int .u32 1555081692))), (23, 1, (.v (.int .u32 1996064986))), (24, 1, (.v (.int .u32 2554220882))), (25, 1, (.v (.int .u32 2821834349))), (26, 1, (.v (.int .u32 2952996808))), (27, 1, (.v (.int .u32 3210313671))), (28, 1, (.v (.int .u32 3336571891))), (29, 1, (.v (.int .u32 3584528711))), (30, 1, (.v (.int .u32 113926993))), (31, 1, (.v (.int .u32 338241895))), (32, 1, (.v (.int .u32 666307205))), (33, 1, (.v (.int .u32 773529912))), (34, 1, (.v (.int .u32 1294757372))), (35, 1, (.v (.int .u32 1396182291))), (36, 1, (.v (.int .u32 1695183700))), (37, 1, (.v (.int .u32 1986661051))), (38, 1, (.v (.int .u32 2177026350))), (39, 1, (.v (.int .u32 2456956037))), (40, 1, (.v (.int .u32 2730485921))), (41, 1, (.v (.int .u32 2820302411))), (42, 1, (.v (.int .u32 3259730800))), (43, 1, (.v (.int .u32 3345764771))), (44, 1, (.v (.int .u32 3516065817))), (45, 1, (.v (.int .u32 3600352804))), (46, 1, (.v (.int .u32 4094571909))), (47, 1, (.v (.int .u32 275423344))), (48, 1, (.v (.int .u32 430227734))), (49, 1, (.v (.int .u32 506948616))), (50, 1, (.v (.int .u32 659060556))), (51, 1, (.v (.int .u32 883997877))), (52, 1, (.v (.int .u32 958139571))), (53, 1, (.v (.int .u32 1322822218))), (54, 1, (.v (.int .u32 1537002063))), (55, 1, (.v (.int .u32 1747873779))), (56, 1, (.v (.int .u32 1955562222))), (57, 1, (.v (.int .u32 2024104815))), (58, 1, (.v (.int .u32 2227730452))), (59, 1, (.v (.int .u32 2361852424))), (60, 1, (.v (.int .u32 2428436474))), (61, 1, (.v (.int .u32 2756734187))), (62, 1, (.v (.int .u32 3204031479))), (63, 1, (.v (.int .u32 3329325298)))]⟩,
  ⟨some 3,none,.no,.alloc [(.int .u32 0), (.int .u32 0), (.int .u32 0), (.int .u32 0), (.int .u32 0), (.int .u32 0), (.int .u32 0), (.int .u32 0), (.int .u32 0), (.int .u32 0), (.int .u32 0), (.int .u32 0), (.int .u32 0), (.int .u32 0), (.int .u32 0), (.int .u32 0), (.int .u32 0), (.int .u32 0), (.int .u32 0), (.int .u32 0), (.int .u32 0), (.int .u32 0), (.int .u32 0), (.int .u32 0), (.int .u32 0), (.int .u32 0), (.int .u32 0), (.int .u32 0), (.int .u32 0), (.int .u32 0), (.int .u32 0), (.int .u32 0), (.int .u32 0), (.int .u32 0), (.int .u32 0), (.int .u32 0), (.int .u32 0), (.int .u32 0), (.int .u32 0), (.int .u32 0), (.int .u32 0), (.int .u32 0), (.int .u32 0), (.int .u32 0), (.int .u32 0), (.int .u32 0), (.int .u32 0), (.int .u32 0), (.int .u32 0), (.int .u32 0), (.int .u32 0), (.int .u32 0), (.int .u32 0), (.int .u32 0), (.int .u32 0), (.int .u32 0), (.int .u32 0), (.int .u32 0), (.int .u32 0), (.int .u32 0), (.int .u32 0), (.int .u32 0), (.int .u32 0), (.int .u32 0)]⟩,
  ⟨none,none,.no,.store 64 (.t 3) (.t 26)⟩]
@[go_sem] def q8r2 : List AIns := [
  ⟨some 27,none,.no,.build [(.int .u32 0), (.int .u32 0), (.int .u32 0), (.int .u32 0), (.int .u32 0), (.int .u32 0), (.int .u32 0), (.int .u32 0)] [(0, 1, (.v (.int .u32 1779033703))), (1, 1, (.v (.int .u32 3144134277))), (2, 1, (.v (.int .u32 1013904242))), (3, 1, (.v (.int .u32 2773480762))), (4, 1, (.v (.int .u32 1359893119))), (5, 1, (.v (.int .u32 2600822924))), (6, 1, (.v (.int .u32 528734635))), (7, 1, (.v (.int .u32 1541459225)))]⟩,
  ⟨some 4,none,.no,.alloc [(.int .u32 0), (.int .u32 0), (.int .u32 0), (.int .u32 0), (.int .u32 0), (.int .u32 0), (.int .u32 0), (.int .u32 0)]⟩,
  ⟨none,none,.no,.store 8 (.t 4) (.t 27)⟩]
@[go_sem] def q8r3 : List AIns := [
  ⟨some 28,none,.no,.mv (.t 0)⟩,
  ⟨some 29,none,.no,.call (.v (.fn 114 [])) [(.t 28)]⟩,
  ⟨some 5,none,.no,.mv (.t 29)⟩]
@[go_sem] def q8r4 : List AIns := [
  ⟨some 6,none,.no,.alloc [(.int .u32 0), (.int .u32 0), (.int .u32 0), (.int .u32 0), (.int .u32 0), (.int .u32 0), (.int .u32 0), (.int .u32 0), (.int .u32 0), (.int .u32 0), (.int .u32 0), (.int .u32 0), (.int .u32 0), (.int .u32 0), (.int .u32 0), (.int .u32 0), (.int .u32 0), (.int .u32 0), (.int .u32 0), (.int .u32 0), (.int .u32 0), (.int .u32 0), (.int .u32 0), (.int .u32 0), (.int .u32 0), (.int .u32 0), (.int .u32 0), (.int .u32 0), (.int .u32 0), (.int .u32 0), (.int .u32 0), (.int .u32 0), (.int .u32 0), (.int .u32 0), (.int .u32 0), (.int .u32 0), (.int .u32 0), (.int .u32 0), (.int .u32 0), (.int .u32 0), (.int .u32 0), (.int .u32 0), (.int .u32 0), (.int .u32 0), (.int .u32 0), (.int .u32 0), (.int .u32 0), (.int .u32 0), (.int .u32 0), (.int .u32 0), (.int .u32 0), (.int .u32 0), (.int .u32 0), (.int .u32 0), (.int .u32 0), (.int .u32 0), (.int .u32 0), (.int .u32 0), (.int .u32 0), (.int .u32 0), (.int .u32 0), (.int .u32 0), (.int .u32 0), (.int .u32 0)]⟩]
@[go_sem] def q8r5 : List AIns := [
  ⟨some 7,none,.no,.mv (.v (.int .i64 0))⟩]
@[go_sem] def q8r6 : List AIns := [
  ⟨some 30,none,.no,.mv (.t 7)⟩,
  ⟨some 31,none,.no,.mv (.t 5)⟩,
  ⟨some 32,none,.no,.lenSl (.t 31)⟩,
  ⟨some 33,none,.no,.bin .lss .none (.t 30) (.t 32)⟩]
def q8c7 : ACode := .cond (.t 33) .skip (.exit 0)
def q8c8 : ACode := .seq (.reg q8r6) q8c7
@[go_sem] def q8r9 : List AIns := [
  ⟨some 8,none,.no,.mv (.v (.int .i64 0))⟩]
@[go_sem] def q8r10 : List AIns := [
  ⟨some 36,none,.no,.mv (.t 8)⟩,
  ⟨some 37,none,.no,.bin .lss .none (.t 36) (.v (.int .i64 16))⟩]
def q8c11 : ACode := .cond (.t 37) .skip (.exit 2)
def q8c12 : ACode := .seq (.reg q8r10) q8c11
@[go_sem] def q8r13 : List AIns := [
  ⟨some 40,none,.no,.mv (.t 7)⟩,
  ⟨some 41,none,.no,.mv (.t 8)⟩,
  ⟨some 42,none,.no,.bin .mul .none (.v (.int .i64 4)) (.t 41)⟩,
  ⟨some 43,none,.no,.bin .add .none (.t 40) (.t 42)⟩,
  ⟨some 9,none,.no,.mv (.t 43)⟩]
@[go_sem] def q8r14 : List AIns := [
  ⟨some 44,none,.no,.mv (.t 8)⟩,
  ⟨some 45,none,.no,.mv (.t 5)⟩,
  ⟨some 46,none,.no,.mv (.t 9)⟩,
  ⟨some 47,none,.no,.iaSl 1 (.t 45) (.t 46)⟩,
  ⟨some 48, none, .rd, .load false 1 (.t 47)⟩,
  ⟨some 49,none,.no,.conv (.int .u32) (.t 48)⟩,
  ⟨some 50,none,.no,.bin .shl .none (.t 49) (.v (.int .u64 24))⟩,
  ⟨some 51,none,.no,.mv (.t 5)⟩,
  ⟨some 52,none,.no,.mv (.t 9)⟩,
  ⟨some 53,none,.no,.bin .add .none (.t 52) (.v (.int .i64 1))⟩,
  ⟨some 54,none,.no,.iaSl 1 (.t 51) (.t 53)⟩,
  ⟨some 55, none, .rd, .load false 1 (.t 54)⟩,
  ⟨some 56,none,.no,.conv (.int .u32) (.t 55)⟩,
  ⟨some 57,none,.no,.bin .shl .none (.t 56) (.v (.int .u64 16))⟩,
  ⟨some 58,none,.no,.bin .add .none (.t 50) (.t 57)⟩,
  ⟨some 59,none,.no,.mv (.t 5)⟩,
  ⟨some 60,none,.no,.mv (.t 9)⟩,
  ⟨some 61,none,.no,.bin .add .none (.t 60) (.v (.int .i64 2))⟩,
  ⟨some 62,none,.no,.iaSl 1 (.t 59) (.t 61)⟩,
  ⟨some 63, none, .rd, .load false 1 (.t 62)⟩,
  ⟨some 64,none,.no,.conv (.int .u32) (.t 63)⟩,
  ⟨some 65,none,.no,.bin .shl .none (.t 64) (.v (.int .u64 8))⟩,
  ⟨some 66,none,.no,.bin .add .none (.t 58) (.t 65)⟩,
  ⟨some 67,none,.no,.mv (.t 5)⟩,
  ⟨some 68,none,.no,.mv (.t 9)⟩,
  ⟨some 69,none,.no,.bin .add .none (.t 68) (.v (.int .i64 3))⟩,
  ⟨some 70,none,.no,.iaSl 1 (.t 67) (.t 69)⟩,
  ⟨some 71, none, .rd, .load false 1 (.t 70)⟩,
  ⟨some 72,none,.no,.conv (.int .u32) (.t 71)⟩,
  ⟨some 73,none,.no,.bin .add .none (.t 66) (.t 72)⟩,
  ⟨some 74,none,.no,.iaArr 64 1 (.t 6) (.t 44)⟩,
  ⟨none,none,.no,.store 1 (.t 74) (.t 73)⟩]
def q8c15 : ACode := .seq (.reg q8r13) (.reg q8r14)
@[go_sem] def q8r16 : List AIns := [
  ⟨some 38,none,.no,.mv (.t 8)⟩,
  ⟨some 39,none,.no,.bin .add .none (.t 38) (.v (.int .i64 1))⟩,
  ⟨some 8,none,.no,.mv (.t 39)⟩]
def q8c17 : ACode := .seq (.block 3 q8c15) (.reg q8r16)
def q8c18 : ACode := .seq q8c12 q8c17
def q8c19 : ACode := .loop q8c18
def q8c20 : ACode := .block 2 q8c19
def q8c21 : ACode := .seq (.reg q8r9) q8c20
@[go_sem] def q8r22 : List AIns := [
  ⟨some 10,none,.no,.mv (.v (.int .i64 16))⟩]
@[go_sem] def q8r23 : List AIns := [
  ⟨some 75,none,.no,.mv (.t 10)⟩,
  ⟨some 76,none,.no,.bin .lss .none (.t 75) (.v (.int .i64 64))⟩]
def q8c24 : ACode := .cond (.t 76) .skip (.exit 4)
def q8c25 : ACode := .seq (.reg q8r23) q8c24
@[go_sem] def q8r26 : List AIns := [
  ⟨some 79,none,.no,.mv (.t 10)⟩,
  ⟨some 80,none,.no,.bin .sub .none (.t 79) (.v (.int .i64 15))⟩,
  ⟨some 81,none,.no,.iaArr 64 1 (.t 6) (.t 80)⟩,
  ⟨some 82, none, .rd, .load false 1 (.t 81)⟩,
  ⟨some 83,none,.no,.mv (.t 10)⟩,
  ⟨some 84,none,.no,.bin .sub .none (.t 83) (.v (.int .i64 2))⟩,
  ⟨some 85,none,.no,.iaArr 64 1 (.t 6) (.t 84)⟩,
  ⟨some 86, none, .rd, .load false 1 (.t 85)⟩,
  ⟨some 11,none,.no,.mv (.t 82)⟩,
  ⟨some 12,none,.no,.mv (.t 86)⟩]
@[go_sem] def q8r27 : List AIns := [
  ⟨some 87,none,.no,.mv (.t 10)⟩,
  ⟨some 88,none,.no,.mv (.t 10)⟩,
  ⟨some 89,none,.no,.bin .sub .none (.t 88) (.v (.int .i64 16))⟩,
  ⟨some 90,none,.no,.iaArr 64 1 (.t 6) (.t 89)⟩,
  ⟨some 91, none, .rd, .load false 1 (.t 90)⟩,
  ⟨some 92,none,.no,.mv (.t 11)⟩,
  ⟨some 93, none, .ef, .call (.v (.fn 115 [])) [(.t 92), (.v (.int .u32 7))]⟩,
  ⟨some 94,none,.no,.mv (.t 11)⟩,
  ⟨some 95, none, .ef, .call (.v (.fn 115 [])) [(.t 94), (.v (.int .u32 18))]⟩,
  ⟨some 96,none,.no,.bin .xor .none (.t 93) (.t 95)⟩,
  ⟨some 97,none,.no,.mv (.t 11)⟩,
  ⟨some 98,none,.no,.bin .shr .none (.t 97) (.v (.int .u64 3))⟩,
  ⟨some 99,none,.no,.bin .xor .none (.t 96) (.t 98)⟩,
  ⟨some 100,none,.no,.bin .add .none (.t 91) (.t 99)⟩,
  ⟨some 101,none,.no,.mv (.t 10)⟩,
  ⟨some 102,none,.no,.bin .sub .none (.t 101) (.v (.int .i64 7))⟩,
  ⟨some 103,none,.no,.iaArr 64 1 (.t 6) (.t 102)⟩,
  ⟨some 104, none, .rd, .load false 1 (.t 103)⟩,
  ⟨some 105,none,.no,.bin .add .none (.t 100) (.t 104)⟩,
  ⟨some 106,none,.no,.mv (.t 12)⟩,
  ⟨some 107, none, .ef, .call (.v (.fn 115 [])) [(.t 106), (.v (.int .u32 17))]⟩,
  ⟨some 108,none,.no,.mv (.t 12)⟩,
  ⟨some 109, none, .ef, .call (.v (.fn 115 [])) [(.t 108), (.v (.int .u32 19))]⟩,
  ⟨some 110,none,.no,.bin .xor .none (.t 107) (.t 109)⟩,
  ⟨some 111,none,.no,.mv (.t 12)⟩,
  ⟨some 112,none,.no,.bin .shr .none (.t 111) (.v (.int .u64 10))⟩,
  ⟨some 113,none,.no,.bin .xor .none (.t 110) (.t 112)⟩,
  ⟨some 114,none,.no,.bin .add .none (.t 105) (.t 113)⟩,
  ⟨some 115,none,.no,.iaArr 64 1 (.t 6) (.t 87)⟩,
  ⟨none,none,.no,.store 1 (.t 115) (.t 114)⟩]
def q8c28 : ACode := .seq (.reg q8r26) (.reg q8r27)
@[go_sem] def q8r29 : List AIns := [
  ⟨some 77,none,.no,.mv (.t 10)⟩,
  ⟨some 78,none,.no,.bin .add .none (.t 77) (.v (.int .i64 1))⟩,
  ⟨some 10,none,.no,.mv (.t 78)⟩]
def q8c30 : ACode := .seq (.block 5 q8c28) (.reg q8r29)
def q8c31 : ACode := .seq q8c25 q8c30
def q8c32 : ACode := .loop q8c31
def q8c33 : ACode := .block 4 q8c32
def q8c34 : ACode := .seq (.reg q8r22) q8c33
@[go_sem] def q8r35 : List AIns := [
  ⟨some 116,none,.no,.iaArr 8 1 (.t 4) (.v (.int .i64 0))⟩,
  ⟨some 117, none, .rd, .load false 1 (.t 116)⟩,
  ⟨some 118,none,.no,.iaArr 8 1 (.t 4) (.v (.int .i64 1))⟩,
  ⟨some 119, none, .rd, .load false 1 (.t 118)⟩,
  ⟨some 120,none,.no,.iaArr 8 1 (.t 4) (.v (.int .i64 2))⟩,
  ⟨some 121, none, .rd, .load false 1 (.t 120)⟩,
  ⟨some 122,none,.no,.iaArr 8 1 (.t 4) (.v (.int .i64 3))⟩,
  ⟨some 123, none, .rd, .load false 1 (.t 122)⟩,
  ⟨some 124,none,.no,.iaArr 8 1 (.t 4) (.v (.int .i64 4))⟩,
  ⟨some 125, none, .rd, .load false 1 (.t 124)⟩,
  ⟨some 126,none,.no,.iaArr 8 1 (.t 4) (.v (.int .i64 5))⟩,
  ⟨some 127, none, .rd, .load false 1 (.t 126)⟩,
  ⟨some 128,none,.no,.iaArr 8 1 (.t 4) (.v (.int .i64 6))⟩,
  ⟨some 129, none, .rd, .load false 1 (.t 128)⟩,
  ⟨some 130,none,.no,.iaArr 8 1 (.t 4) (.v (.int .i64 7))⟩,
  ⟨some 131, none, .rd, .load false 1 (.t 130)⟩,
  ⟨some 13,none,.no,.mv (.t 117)⟩,
  ⟨some 14,none,.no,.mv (.t 119)⟩,
  ⟨some 15,none,.no,.mv (.t 121)⟩,
  ⟨some 16,none,.no,.mv (.t 123)⟩,
  ⟨some 17,none,.no,.mv (.t 125)⟩,
  ⟨some 18,none,.no,.mv (.t 127)⟩,
  ⟨some 19,none,.no,.mv (.t 129)⟩,
  ⟨some 20,none,.no,.mv (.t 131)⟩]
@[go_sem] def q8r36 : List AIns := [
  ⟨some 21,none,.no,.mv (.v (.int .i64 0))⟩]
@[go_sem] def q8r37 : List AIns := [
  ⟨some 132,none,.no,.mv (.t 21)⟩,
  ⟨some 133,none,.no,.bin .lss .none (.t 132) (.v (.int .i64 64))⟩]
def q8c38 : ACode := .cond (.t 133) .skip (.exit 6)
def q8c39 : ACode := .seq (.reg q8r37) q8c38
@[go_sem] def q8r40 : List AIns := [
  ⟨some 136,none,.no,.mv (.t 20)⟩,
  ⟨some 137,none,.no,.mv (.t 17)⟩,
  ⟨some 138, none, .ef, .call (.v (.fn 115 [])) [(.t 137), (.v (.int .u32 6))]⟩,
  ⟨some 139,none,.no,.mv (.t 17)⟩,
  ⟨some 140, none, .ef, .call (.v (.fn 115 [])) [(.t 139), (.v (.int .u32 11))]⟩,
  ⟨some 141,none,.no,.bin .xor .none (.t 138) (.t 140)⟩,
  ⟨some 142,none,.no,.mv (.t 17)⟩,
  ⟨some 143, none, .ef, .call (.v (.fn 115 [])) [(.t 142), (.v (.int .u32 25))]⟩,
  ⟨some 144,none,.no,.bin .xor .none (.t 141) (.t 143)⟩,
  ⟨some 145,none,.no,.bin .add .none (.t 136) (.t 144)⟩,
  ⟨some 146,none,.no,.mv (.t 17)⟩,
  ⟨some 147,none,.no,.mv (.t 18)⟩,
  ⟨some 148,none,.no,.bin .and .none (.t 146) (.t 147)⟩,
  ⟨some 149,none,.no,.mv (.t 17)⟩,
  ⟨some 150,none,.no,.un .xor (.t 149)⟩,
  ⟨some 151,none,.no,.mv (.t 19)⟩,
  ⟨some 152,none,.no,.bin .and .none (.t 150) (.t 151)⟩,
  ⟨some 153,none,.no,.bin .xor .none (.t 148) (.t 152)⟩,
  ⟨some 154,none,.no,.bin .add .none (.t 145) (.t 153)⟩,
  ⟨some 155,none,.no,.mv (.t 21)⟩,
  ⟨some 156,none,.no,.iaArr 64 1 (.t 3) (.t 155)⟩,
  ⟨some 157, none, .rd, .load false 1 (.t 156)⟩,
  ⟨some 158,none,.no,.bin .add .none (.t 154) (.t 157)⟩,
  ⟨some 159,none,.no,.mv (.t 21)⟩,
  ⟨some 160,none,.no,.iaArr 64 1 (.t 6) (.t 159)⟩,
  ⟨some 161, none, .rd, .load false 1 (.t 160)⟩,
  ⟨some 162,none,.no,.bin .add .none (.t 158) (.t 161)⟩,
  ⟨some 22,none,.no,.mv (.t 162)⟩]
@[go_sem] def q8r41 : List AIns := [
  ⟨some 163,none,.no,.mv (.t 13)⟩,
  ⟨some 164,none,.no,.call (.v (.fn 115 [])) [(.t 163), (.v (.int .u32 2))]⟩,
  ⟨some 165,none,.no,.mv (.t 13)⟩,
  ⟨some 166,none,.no,.call (.v (.fn 115 [])) [(.t 165), (.v (.int .u32 13))]⟩,
  ⟨some 167,none,.no,.bin .xor .none (.t 164) (.t 166)⟩,
  ⟨some 168,none,.no,.mv (.t 13)⟩,
  ⟨some 169,none,.no,.call (.v (.fn 115 [])) [(.t 168), (.v (.int .u32 22))]⟩,
  ⟨some 170,none,.no,.bin .xor .none (.t 167) (.t 169)⟩,
  ⟨some 171,none,.no,.mv (.t 13)⟩,
  ⟨some 172,none,.no,.mv (.t 14)⟩,
  ⟨some 173,none,.no,.bin .and .none (.t 171) (.t 172)⟩,
  ⟨some 174,none,.no,.mv (.t 13)⟩,
  ⟨some 175,none,.no,.mv (.t 15)⟩,
  ⟨some 176,none,.no,.bin .and .none (.t 174) (.t 175)⟩,
  ⟨some 177,none,.no,.bin .xor .none (.t 173) (.t 176)⟩,
  ⟨some 178,none,.no,.mv (.t 14)⟩,
  ⟨some 179,none,.no,.mv (.t 15)⟩,
  ⟨some 180,none,.no,.bin .and .none (.t 178) (.t 179)⟩,
  ⟨some 181,none,.no,.bin .xor .none (.t 177) (.t 180)⟩,
  ⟨some 182,none,.no,.bin .add .none (.t 170) (.t 181)⟩,
  ⟨some 23,none,.no,.mv (.t 182)⟩]
@[go_sem] def q8r42 : List AIns := [
  ⟨some 183,none,.no,.mv (.t 19)⟩,
  ⟨some 184,none,.no,.mv (.t 18)⟩,
  ⟨some 185,none,.no,.mv (.t 17)⟩,
  ⟨some 186,none,.no,.mv (.t 16)⟩,
  ⟨some 187,none,.no,.mv (.t 22)⟩,
  ⟨some 188,none,.no,.bin .add .none (.t 186) (.t 187)⟩,
  ⟨some 189,none,.no,.mv (.t 15)⟩,
  ⟨some 190,none,.no,.mv (.t 14)⟩,
  ⟨some 191,none,.no,.mv (.t 13)⟩,
  ⟨some 192,none,.no,.mv (.t 22)⟩,
  ⟨some 193,none,.no,.mv (.t 23)⟩,
  ⟨some 194,none,.no,.bin .add .none (.t 192) (.t 193)⟩,
  ⟨some 20,none,.no,.mv (.t 183)⟩,
  ⟨some 19,none,.no,.mv (.t 184)⟩,
  ⟨some 18,none,.no,.mv (.t 185)⟩,
  ⟨some 17,none,.no,.mv (.t 188)⟩,
  ⟨some 16,none,.no,.mv (.t 189)⟩,
  ⟨some 15,none,.no,.mv (.t 190)⟩,
  ⟨some 14,none,.no,.mv (.t 191)⟩,
  ⟨some 13,none,.no,.mv (.t 194)⟩]
def q8c43 : ACode := .seq (.reg q8r41) (.reg q8r42)
def q8c44 : ACode := .seq (.reg q8r40) q8c43
@[go_sem] def q8r45 : List AIns := [
  ⟨some 134,none,.no,.mv (.t 21)⟩,
  ⟨some 135,none,.no,.bin .add .none (.t 134) (.v (.int .i64 1))⟩,
  ⟨some 21,none,.no,.mv (.t 135)⟩]
def q8c46 : ACode := .seq (.block 7 q8c44) (.reg q8r45)
def q8c47 : ACode := .seq q8c39 q8c46
def q8c48 : ACode := .loop q8c47
def q8c49 : ACode := .block 6 q8c48
def q8c50 : ACode := .seq (.reg q8r36) q8c49
@[go_sem] def q8r51 : List AIns := [
  ⟨some 195,none,.no,.iaArr 8 1 (.t 4) (.v (.int .i64 0))⟩,
  ⟨some 196,none,.no,.load false 1 (.t 195)⟩,
  ⟨some 197,none,.no,.mv (.t 13)⟩,
  ⟨some 198,none,.no,.bin .add .none (.t 196) (.t 197)⟩,
  ⟨some 199,none,.no,.iaArr 8 1 (.t 4) (.v (.int .i64 1))⟩,
  ⟨some 200,none,.no,.load false 1 (.t 199)⟩,
  ⟨some 201,none,.no,.mv (.t 14)⟩,
  ⟨some 202,none,.no,.bin .add .none (.t 200) (.t 201)⟩,
  ⟨some 203,none,.no,.iaArr 8 1 (.t 4) (.v (.int .i64 2))⟩,
  ⟨some 204,none,.no,.load false 1 (.t 203)⟩,
  ⟨some 205,none,.no,.mv (.t 15)⟩,
  ⟨some 206,none,.no,.bin .add .none (.t 204) (.t 205)⟩,
  ⟨some 207,none,.no,.iaArr 8 1 (.t 4) (.v (.int .i64 3))⟩,
  ⟨some 208,none,.no,.load false 1 (.t 207)⟩,
  ⟨some 209,none,.no,.mv (.t 16)⟩,
  ⟨some 210,none,.no,.bin .add .none (.t 208) (.t 209)⟩,
  ⟨some 211,none,.no,.iaArr 8 1 (.t 4) (.v (.int .i64 4))⟩,
  ⟨some 212,none,.no,.load false 1 (.t 211)⟩,
  ⟨some 213,none,.no,.mv (.t 17)⟩,
  ⟨some 214,none,.no,.bin .add .none (.t 212) (.t 213)⟩,
  ⟨some 215,none,.no,.iaArr 8 1 (.t 4) (.v (.int .i64 5))⟩,
  ⟨some 216,none,.no,.load false 1 (.t 215)⟩,
  ⟨some 217,none,.no,.mv (.t 18)⟩,
  ⟨some 218,none,.no,.bin .add .none (.t 216) (.t 217)⟩,
  ⟨some 219,none,.no,.iaArr 8 1 (.t 4) (.v (.int .i64 6))⟩,
  ⟨some 220,none,.no,.load false 1 (.t 219)⟩,
  ⟨some 221,none,.no,.mv (.t 19)⟩,
  ⟨some 222,none,.no,.bin .add .none (.t 220) (.t 221)⟩,
  ⟨some 223,none,.no,.iaArr 8 1 (.t 4) (.v (.int .i64 7))⟩,
  ⟨some 224,none,.no,.load false 1 (.t 223)⟩,
  ⟨some 225,none,.no,.mv (.t 20)⟩,
  ⟨some 226,none,.no,.bin .add .none (.t 224) (.t 225)⟩,
  ⟨some 227,none,.no,.iaArr 8 1 (.t 4) (.v (.int .i64 0))⟩,
  ⟨none,none,.no,.store 1 (.t 227) (.t 198)⟩,
  ⟨some 228,none,.no,.iaArr 8 1 (.t 4) (.v (.int .i64 1))⟩,
  ⟨none,none,.no,.store 1 (.t 228) (.t 202)⟩,
  ⟨some 229,none,.no,.iaArr 8 1 (.t 4) (.v (.int .i64 2))⟩,
  ⟨none,none,.no,.store 1 (.t 229) (.t 206)⟩,
  ⟨some 230,none,.no,.iaArr 8 1 (.t 4) (.v (.int .i64 3))⟩,
  ⟨none,none,.no,.store 1 (.t 230) (.t 210)⟩,
  ⟨some 231,none,.no,.iaArr 8 1 (.t 4) (.v (.int .i64 4))⟩,
  ⟨none,none,.no,.store 1 (.t 231) (.t 214)⟩,
  ⟨some 232,none,.no,.iaArr 8 1 (.t 4) (.v (.int .i64 5))⟩,
  ⟨none,none,.no,.store 1 (.t 232) (.t 218)⟩,
  ⟨some 233,none,.no,.iaArr 8 1 (.t 4) (.v (.int .i64 6))⟩,
  ⟨none,none,.no,.store 1 (.t 233) (.t 222)⟩,
  ⟨some 234,none,.no,.iaArr 8 1 (.t 4) (.v (.int .i64 7))⟩,
  ⟨none,none,.no,.store 1 (.t 234) (.t 226)⟩]
def q8c52 : ACode := .seq q8c50 (.reg q8r51)
def q8c53 : ACode := .seq (.reg q8r35) q8c52
def q8c54 : ACode := .seq q8c34 q8c53
def q8c55 : ACode := .seq q8c21 q8c54
@[go_sem] def q8r56 : List AIns := [
  ⟨some 34,none,.no,.mv (.t 7)⟩,
  ⟨some 35,none,.no,.bin .add .none (.t 34) (.v (.int .i64 64))⟩,
  ⟨some 7,none,.no,.mv (.t 35)⟩]
def q8c57 : ACode := .seq (.block 1 q8c55) (.reg q8r56)
def q8c58 : ACode := .seq q8c8 q8c57
def q8c59 : ACode := .loop q8c58
def q8c60 : ACode := .block 0 q8c59
def q8c61 : ACode := .seq (.reg q8r5) q8c60
@[go_sem] def q8r62 : List AIns := [
  ⟨some 24,none,.no,.alloc zZ0⟩]
@[go_sem] def q8r63 : List AIns := [
  ⟨some 25,none,.no,.mv (.v (.int .i64 0))⟩]
@[go_sem] def q8r64 : List AIns := [
  ⟨some 235,none,.no,.mv (.t 25)⟩,
  ⟨some 236,none,.no,.bin .lss .none (.t 235) (.v (.int .i64 32))⟩]
def q8c65 : ACode := .cond (.t 236) .skip (.exit 8)
def q8c66 : ACode := .seq (.reg q8r64) q8c65
@[go_sem] def q8r67 : List AIns := [
  ⟨some 239,none,.no,.mv (.t 25)⟩,
  ⟨some 240,none,.no,.mv (.t 25)⟩,
  ⟨some 241,none,.no,.bin .quo .none (.t 240) (.v (.int .i64 4))⟩,
  ⟨some 242,none,.no,.iaArr 8 1 (.t 4) (.t 241)⟩,
  ⟨some 243,none,.no,.load false 1 (.t 242)⟩,
  ⟨some 244,none,.no,.mv (.t 25)⟩,
  ⟨some 245,none,.no,.bin .rem .none (.t 244) (.v (.int .i64 4))⟩,
  ⟨some 246,none,.no,.bin .mul .none (.v (.int .i64 8)) (.t 245)⟩,
  ⟨some 247,none,.no,.bin .sub .none (.v (.int .i64 24)) (.t 246)⟩,
  ⟨some 248,none,.no,.bin .shr .none (.t 243) (.t 247)⟩,
  ⟨some 249,none,.no,.conv (.int .u8) (.t 248)⟩,
  ⟨some 250,none,.no,.iaArr 32 1 (.t 24) (.t 239)⟩,
  ⟨none,none,.no,.store 1 (.t 250) (.t 249)⟩]
@[go_sem] def q8r68 : List AIns := [
  ⟨some 237,none,.no,.mv (.t 25)⟩,
  ⟨some 238,none,.no,.bin .add .none (.t 237) (.v (.int .i64 1))⟩,
  ⟨some 25,none,.no,.mv (.t 238)⟩]
def q8c69 : ACode := .seq (.block 9 (.reg q8r67)) (.reg q8r68)
def q8c70 : ACode := .seq q8c66 q8c69
def q8c71 : ACode := .loop q8c70
def q8c72 : ACode := .block 8 q8c71
def q8c73 : ACode := .seq (.reg q8r63) q8c72
@[go_sem] def q8r74 : List AIns := [
  ⟨some 251,none,.no,.load true 32 (.t 24)⟩,
  ⟨none,none,.no,.store 32 (.t 2) (.t 251)⟩]
def q8c75 : ACode := .seq (.reg q8r74) .ret
def q8c76 : ACode := .seq q8c73 q8c75
def q8c77 : ACode := .seq (.reg q8r62) q8c76
def q8c78 : ACode := .seq q8c61 q8c77
def q8c79 : ACode := .seq (.reg q8r4) q8c78
def q8c80 : ACode := .seq (.reg q8r3) q8c79
def q8c81 : ACode := .seq (.reg q8r2) q8c80
def q8c82 : ACode := .seq (.reg q8r1) q8c81
def q8c83 : ACode := .seq (.reg q8r0) q8c82
theorem q8ok : cFn TC 70 = some (252, [.c 2 true 32], q8c83) := by kernel_rfl

@[go_sem] def q9r0 : List AIns := [
  ⟨some 2,none,.no,.alloc zZ0⟩]
@[go_sem] def q9r1 : List AIns := [
  ⟨some 8,none,.no,.load true 8 (.v (.vp zb1))⟩,
  ⟨some 3,none,.no,.alloc [(.int .u32 0), (.int .u32 0), (.int .u32 0), (.int .u32 0), (.int .u32 0), (.int .u32 0), (.int .u32 0), (.int .u32 0)]⟩,
  ⟨none,none,.no,.store 8 (.t 3) (.t 8)⟩]
@[go_sem] def q9r2 : List AIns := [
  ⟨some 9,none,.no,.mv (.t 0)⟩,
  ⟨some 10,none,.no,.call (.v (.fn 122 [])) [(.t 9)]⟩,
  ⟨some 4,none,.no,.mv (.t 10)⟩]
@[go_sem] def q9r3 : List AIns := [
  ⟨some 11,none,.no,.mv (.t 4)⟩,
  ⟨some 12,none,.no,.bin .neq .none (.t 11) (.v (.str []))⟩]
def q9c4 : ACode := .cond (.t 12) .skip (.exit 0)
def q9c5 : ACode := .seq (.reg q9r3) q9c4
@[go_sem] def q9r6 : List AIns := [
  ⟨some 15,none,.no,.load true 8 (.t 3)⟩,
  ⟨some 16,none,.no,.mv (.t 4)⟩,
  ⟨some 17,none,.no,.slice .str (.t 16) none (some (.v (.int .i64 64))) none⟩,
  ⟨some 18,none,.no,.call (.v (.fn 123 [])) [(.t 15), (.t 17)]⟩,
  ⟨none,none,.no,.store 8 (.t 3) (.t 18)⟩]
@[go_sem] def q9r7 : List AIns := [
  ⟨some 13,none,.no,.mv (.t 4)⟩,
  ⟨some 14,none,.no,.slice .str (.t 13) (some (.v (.int .i64 64))) none none⟩,
  ⟨some 4,none,.no,.mv (.t 14)⟩]
def q9c8 : ACode := .seq (.block 1 (.reg q9r6)) (.reg q9r7)
def q9c9 : ACode := .seq q9c5 q9c8
def q9c10 : ACode := .loop q9c9
def q9c11 : ACode := .block 0 q9c10
def q9c12 : ACode := .seq (.reg q9r2) q9c11
@[go_sem] def q9r13 : List AIns := [
  ⟨some 5,none,.no,.alloc zZ0⟩]
@[go_sem] def q9r14 : List AIns := [
  ⟨some 19,none,.no,.load true 8 (.t 3)⟩,
  ⟨some 20,none,.no,.mv (.v (.int .i64 0))⟩]
@[go_sem] def q9r15 : List AIns := [
  ⟨some 21,none,.no,.bin .lss .none (.t 20) (.v (.int .i64 8))⟩]
@[go_sem] def q9r16 : List AIns := [
  ⟨some 22,none,.no,.mv (.t 20)⟩,
  ⟨some 23,none,.no,.ixArr 8 false 1 (.t 19) (.t 20)⟩,
  ⟨some 6,none,.no,.mv (.t 22)⟩,
  ⟨some 7,none,.no,.mv (.t 23)⟩]
@[go_sem] def q9r17 : List AIns := [
  ⟨some 24,none,.no,.mv (.t 6)⟩,
  ⟨some 25,none,.no,.bin .mul .none (.v (.int .i64 4)) (.t 24)⟩,
  ⟨some 26,none,.no,.slice (.arr 32 1) (.t 5) (some (.t 25)) none none⟩,
  ⟨some 27,none,.no,.mv (.t 7)⟩,
  ⟨some 28,none,.no,.conv (.int .u64) (.t 27)⟩,
  ⟨some 29,none,.no,.call (.v (.fn 120 [])) [(.t 28), (.v (.int .i64 4))]⟩,
  ⟨some 30,none,.no,.copy 1 (.t 26) (.t 29)⟩]
def q9c18 : ACode := .seq (.reg q9r16) (.reg q9r17)
@[go_sem] def q9r19 : List AIns := [
  ⟨some 31,none,.no,.bin .add .none (.t 20) (.v (.int .i64 1))⟩,
  ⟨some 20,none,.no,.mv (.t 31)⟩]
def q9c20 : ACode := .seq (.block 3 q9c18) (.reg q9r19)
def q9c21 : ACode := .seq (.cond (.t 21) .skip (.exit 2)) q9c20
def q9c22 : ACode := .seq (.reg q9r15) q9c21
def q9c23 : ACode := .loop q9c22
def q9c24 : ACode := .block 2 q9c23
def q9c25 : ACode := .seq (.reg q9r14) q9c24
@[go_sem] def q9r26 : List AIns := [
  ⟨some 32,none,.no,.load true 32 (.t 5)⟩,
  ⟨none,none,.no,.store 32 (.t 2) (.t 32)⟩]
def q9c27 : ACode := .seq (.reg q9r26) .ret
def q9c28 : ACode := .seq q9c25 q9c27
def q9c29 : ACode := .seq (.reg q9r13) q9c28
def q9c30 : ACode := .seq q9c12 q9c29
def q9c31 : ACode := .seq (.reg q9r1) q9c30
def q9c32 : ACode := .seq (.reg q9r0) q9c31
theorem q9ok : cFn TC 87 = some (33, [.c 2 true 32], q9c32) := by kernel_rfl

@[go_sem] def qar0 : List AIns := [
  ⟨some 2,none,.no,.mv (.v .nilsl)⟩]
@[go_sem] def qar1 : List AIns := [
  ⟨some 6,none,.no,.mv (.t 0)⟩,
  ⟨some 7,none,.no,.conv .bytes (.t 6)⟩,
  ⟨some 8,none,.no,.lit 1 [(.v (.int .u8 128))]⟩,
  ⟨some 9,none,.no,.appB (.t 7) (.t 8)⟩,
  ⟨some 3,none,.no,.mv (.t 9)⟩]
@[go_sem] def qar2 : List AIns := [
  ⟨some 10,none,.no,.mv (.t 3)⟩,
  ⟨some 11,none,.no,.lenSl (.t 10)⟩,
  ⟨some 12,none,.no,.bin .rem .none (.t 11) (.v (.int .i64 64))⟩,
  ⟨some 13,none,.no,.bin .neq .none (.t 12) (.v (.int .i64 56))⟩]
def qac3 : ACode := .cond (.t 13) .skip (.exit 0)
def qac4 : ACode := .seq (.reg qar2) qac3
@[go_sem] def qar5 : List AIns := [
  ⟨some 14,none,.no,.mv (.t 3)⟩,
  ⟨some 15,none,.no,.lit 1 [(.v (.int .u8 0))]⟩,
  ⟨some 16,none,.no,.appB (.t 14) (.t 15)⟩,
  ⟨some 3,none,.no,.mv (.t 16)⟩]
def qac6 : ACode := .block 1 (.reg qar5)
def qac7 : ACode := .seq qac4 qac6
def qac8 : ACode := .loop qac7
@[go_sem] def qar9 : List AIns := [
  ⟨some 17,none,.no,.mv (.t 0)⟩,
  ⟨some 18,none,.no,.lenStr (.t 17)⟩,
  ⟨some 19,none,.no,.conv (.int .u64) (.t 18)⟩,
  ⟨some 20,none,.no,.bin .mul .none (.t 19) (.v (.int .u64 8))⟩,
  ⟨some 4,none,.no,.mv (.t 20)⟩]
@[go_sem] def qar10 : List AIns := [
  ⟨some 5,none,.no,.mv (.v (.int .i64 7))⟩]
@[go_sem] def qar11 : List AIns := [
  ⟨some 21,none,.no,.mv (.t 5)⟩,
  ⟨some 22,none,.no,.bin .geq .none (.t 21) (.v (.int .i64 0))⟩]
def qac12 : ACode := .cond (.t 22) .skip (.exit 2)
def qac13 : ACode := .seq (.reg qar11) qac12
@[go_sem] def qar14 : List AIns := [
  ⟨some 25,none,.no,.mv (.t 3)⟩,
  ⟨some 26,none,.no,.mv (.t 4)⟩,
  ⟨some 27,none,.no,.mv (.t 5)⟩,
  ⟨some 28,none,.no,.bin .mul .none (.v (.int .i64 8)) (.t 27)⟩,
  ⟨some 29,none,.no,.bin .shr .none (.t 26) (.t 28)⟩,
  ⟨some 30,none,.no,.conv (.int .u8) (.t 29)⟩,
  ⟨some 31,none,.no,.lit 1 [(.t 30)]⟩,
  ⟨some 32,none,.no,.appB (.t 25) (.t 31)⟩,
  ⟨some 3,none,.no,.mv (.t 32)⟩]
@[go_sem] def qar15 : List AIns := [
  ⟨some 23,none,.no,.mv (.t 5)⟩,
  ⟨some 24,none,.no,.bin .sub .none (.t 23) (.v (.int .i64 1))⟩,
  ⟨some 5,none,.no,.mv (.t 24)⟩]
def qac16 : ACode := .seq (.block 3 (.reg qar14)) (.reg qar15)
def qac17 : ACode := .seq qac13 qac16
def qac18 : ACode := .loop qac17
def qac19 : ACode := .block 2 qac18
def qac20 : ACode := .seq (.reg qar10) qac19
@[go_sem] def qar21 : List AIns := [
  ⟨some 33,none,.no,.mv (.t 3)⟩,
  ⟨some 2,none,.no,.mv (.t 33)⟩]
def qac22 : ACode := .seq (.reg qar21) .ret
def qac23 : ACode := .seq qac20 qac22
def qac24 : ACode := .seq (.reg qar9) qac23
def qac25 : ACode := .seq (.block 0 qac8) qac24
def qac26 : ACode := .seq (.reg qar1) qac25
def qac27 : ACode := .seq (.reg qar0) qac26
theorem qaok : cFn TC 114 = some (34, [.t 2], qac27) := by kernel_rfl

@[go_sem] def qbr0 : List AIns := [
  ⟨some 4,none,.no,.mv (.v (.int .u32 0))⟩]
@[go_sem] def qbr1 : List AIns := [
  ⟨some 5,none,.no,.mv (.t 0)⟩,
  ⟨some 6,none,.no,.mv (.t 1)⟩,
  ⟨some 7,none,.no,.bin .shr .none (.t 5) (.t 6)⟩,
  ⟨some 8,none,.no,.mv (.t 0)⟩,
  ⟨some 9,none,.no,.mv (.t 1)⟩,
  ⟨some 10,none,.no,.bin .sub .none (.v (.int .u32 32)) (.t 9)⟩,
  ⟨some 11,none,.no,.bin .shl .none (.t 8) (.t 10)⟩,
  ⟨some 12,none,.no,.bin .or .none (.t 7) (.t 11)⟩,
  ⟨some 4,none,.no,.mv (.t 12)⟩]
def qbc2 : ACode := .seq (.reg qbr1) .ret
def qbc3 : ACode := .seq (.reg qbr0) qbc2
theorem qbok : cFn TC 115 = some (13, [.t 4], qbc3) := by kernel_rfl

@[go_sem] def qcr0 : List AIns := [
  ⟨some 2,none,.no,.mv (.v (.str []))⟩]
@[go_sem] def qcr1 : List AIns := [
  ⟨some 4,none,.no,.mv (.t 0)⟩,
  ⟨some 5,none,.no,.lenStr (.t 4)⟩,
  ⟨some 6,none,.no,.bin .rem .none (.t 5) (.v (.int .i64 64))⟩,
  ⟨some 7,none,.no,.bin .sub .none (.v (.int .i64 119)) (.t 6)⟩,
  ⟨some 8,none,.no,.bin .rem .none (.t 7) (.v (.int .i64 64))⟩,
  ⟨some 3,none,.no,.mv (.t 8)⟩]
@[go_sem] def qcr2 : List AIns := [
  ⟨some 9,none,.no,.mv (.t 0)⟩,
  ⟨some 10,none,.no,.bin .add .none (.t 9) (.v (.str [128]))⟩,
  ⟨some 11,none,.no,.mv (.t 3)⟩,
  ⟨some 12,none,.no,.call (.v (.fn 138 [])) [(.v (.str [0])), (.t 11)]⟩,
  ⟨some 13,none,.no,.bin .add .none (.t 10) (.t 12)⟩,
  ⟨some 14,none,.no,.mv (.t 0)⟩,
  ⟨some 15,none,.no,.lenStr (.t 14)⟩,
  ⟨some 16,none,.no,.conv (.int .u64) (.t 15)⟩,
  ⟨some 17,none,.no,.bin .mul .none (.t 16) (.v (.int .u64 8))⟩,
  ⟨some 18,none,.no,.call (.v (.fn 120 [])) [(.t 17), (.v (.int .i64 8))]⟩,
  ⟨some 19,none,.no,.bin .add .none (.t 13) (.t 18)⟩,
  ⟨some 2,none,.no,.mv (.t 19)⟩]
def qcc3 : ACode := .seq (.reg qcr2) .ret
def qcc4 : ACode := .seq (.reg qcr1) qcc3
def qcc5 : ACode := .seq (.reg qcr0) qcc4
theorem qcok : cFn TC 122 = some (20, [.t 2], qcc5) := by kernel_rfl

@[go_sem] def qdr0 : List AIns := [
  ⟨some 2,none,.no,.box (.t 0)⟩,
  ⟨some 4,none,.no,.alloc [(.int .u32 0), (.int .u32 0), (.int .u32 0), (.int .u32 0), (.int .u32 0), (.int .u32 0), (.int .u32 0), (.int .u32 0)]⟩]
@[go_sem] def qdr1 : List AIns := [
  ⟨some 13,none,.no,.load true 8 (.t 2)⟩,
  ⟨some 5,none,.no,.alloc [(.int .u32 0), (.int .u32 0), (.int .u32 0), (.int .u32 0), (.int .u32 0), (.int .u32 0), (.int .u32 0), (.int .u32 0)]⟩,
  ⟨none,none,.no,.store 8 (.t 5) (.t 13)⟩]
@[go_sem] def qdr2 : List AIns := [
  ⟨some 14,none,.no,.mv (.t 1)⟩,
  ⟨some 15,none,.no,.call (.v (.fn 139 [])) [(.t 14)]⟩,
  ⟨some 16,none,.no,.mv (.v (.int .i64 0))⟩]
@[go_sem] def qdr3 : List AIns := [
  ⟨some 17,none,.no,.bin .lss .none (.t 16) (.v (.int .i64 64))⟩]
@[go_sem] def qdr4 : List AIns := [
  ⟨some 18,none,.no,.mv (.t 16)⟩,
  ⟨some 19,none,.no,.ixArr 64 false 1 (.t 15) (.t 16)⟩,
  ⟨some 6,none,.no,.mv (.t 18)⟩,
  ⟨some 7,none,.no,.mv (.t 19)⟩]
@[go_sem] def qdr5 : List AIns := [
  ⟨some 20,none,.no,.iaArr 8 1 (.t 5) (.v (.int .i64 0))⟩,
  ⟨some 21, none, .rd, .load false 1 (.t 20)⟩,
  ⟨some 22,none,.no,.iaArr 8 1 (.t 5) (.v (.int .i64 4))⟩,
  ⟨some 23, none, .rd, .load false 1 (.t 22)⟩,
  ⟨some 8,none,.no,.mv (.t 21)⟩,
  ⟨some 9,none,.no,.mv (.t 23)⟩]
@[go_sem] def qdr6 : List AIns := [
  ⟨some 24,none,.no,.iaArr 8 1 (.t 5) (.v (.int .i64 7))⟩,
  ⟨some 25, none, .rd, .load false 1 (.t 24)⟩,
  ⟨some 26,none,.no,.mv (.t 9)⟩,
  ⟨some 27, none, .ef, .call (.v (.fn 140 [])) [(.t 26), (.v (.int .i64 6))]⟩,
  ⟨some 28,none,.no,.mv (.t 9)⟩,
  ⟨some 29, none, .ef, .call (.v (.fn 140 [])) [(.t 28), (.v (.int .i64 11))]⟩,
  ⟨some 30,none,.no,.bin .xor .none (.t 27) (.t 29)⟩,
  ⟨some 31,none,.no,.mv (.t 9)⟩,
  ⟨some 32, none, .ef, .call (.v (.fn 140 [])) [(.t 31), (.v (.int .i64 25))]⟩,
  ⟨some 33,none,.no,.bin .xor .none (.t 30) (.t 32)⟩,
  ⟨some 34,none,.no,.bin .add .none (.t 25) (.t 33)⟩,
  ⟨some 35,none,.no,.mv (.t 9)⟩,
  ⟨some 36,none,.no,.iaArr 8 1 (.t 5) (.v (.int .i64 5))⟩,
  ⟨some 37, none, .rd, .load false 1 (.t 36)⟩,
  ⟨some 38,none,.no,.bin .and .none (.t 35) (.t 37)⟩,
  ⟨some 39,none,.no,.mv (.t 9)⟩,
  ⟨some 40,none,.no,.un .xor (.t 39)⟩,
  ⟨some 41,none,.no,.iaArr 8 1 (.t 5) (.v (.int .i64 6))⟩,
  ⟨some 42, none, .rd, .load false 1 (.t 41)⟩,
  ⟨some 43,none,.no,.bin .and .none (.t 40) (.t 42)⟩,
  ⟨some 44,none,.no,.bin .xor .none (.t 38) (.t 43)⟩,
  ⟨some 45,none,.no,.bin .add .none (.t 34) (.t 44)⟩,
  ⟨some 46,none,.no,.mv (.t 6)⟩,
  ⟨some 47,none,.no,.iaArr 64 1 (.v (.vp gl_sha_rounds)) (.t 46)⟩,
  ⟨some 48, none, .rd, .load false 1 (.t 47)⟩,
  ⟨some 49,none,.no,.bin .add .none (.t 45) (.t 48)⟩,
  ⟨some 50,none,.no,.mv (.t 7)⟩,
  ⟨some 51,none,.no,.bin .add .none (.t 49) (.t 50)⟩,
  ⟨some 10,none,.no,.mv (.t 51)⟩]
@[go_sem] def qdr7 : List AIns := [
  ⟨some 52,none,.no,.mv (.t 8)⟩,
  ⟨some 53, none, .ef, .call (.v (.fn 140 [])) [(.t 52), (.v (.int .i64 2))]⟩,
  ⟨some 54,none,.no,.mv (.t 8)⟩,
  ⟨some 55, none, .ef, .call (.v (.fn 140 [])) [(.t 54), (.v (.int .i64 13))]⟩,
  ⟨some 56,none,.no,.bin .xor .none (.t 53) (.t 55)⟩,
  ⟨some 57,none,.no,.mv (.t 8)⟩,
  ⟨some 58, none, .ef, .call (.v (.fn 140 [])) [(.t 57), (.v (.int .i64 22))]⟩,
  ⟨some 59,none,.no,.bin .xor .none (.t 56) (.t 58)⟩,
  ⟨some 60,none,.no,.mv (.t 8)⟩,
  ⟨some 61,none,.no,.iaArr 8 1 (.t 5) (.v (.int .i64 1))⟩,
  ⟨some 62, none, .rd, .load false 1 (.t 61)⟩,
  ⟨some 63,none,.no,.bin .and .none (.t 60) (.t 62)⟩,
  ⟨some 64,none,.no,.mv (.t 8)⟩,
  ⟨some 65,none,.no,.iaArr 8 1 (.t 5) (.v (.int .i64 2))⟩,
  ⟨some 66, none, .rd, .load false 1 (.t 65)⟩,
  ⟨some 67,none,.no,.bin .and .none (.t 64) (.t 66)⟩,
  ⟨some 68,none,.no,.bin .xor .none (.t 63) (.t 67)⟩,
  ⟨some 69,none,.no,.iaArr 8 1 (.t 5) (.v (.int .i64 1))⟩,
  ⟨some 70, none, .rd, .load false 1 (.t 69)⟩,
  ⟨some 71,none,.no,.iaArr 8 1 (.t 5) (.v (.int .i64 2))⟩,
  ⟨some 72, none, .rd, .load false 1 (.t 71)⟩,
  ⟨some 73,none,.no,.bin .and .none (.t 70) (.t 72)⟩,
  ⟨some 74,none,.no,.bin .xor .none (.t 68) (.t 73)⟩,
  ⟨some 75,none,.no,.bin .add .none (.t 59) (.t 74)⟩,
  ⟨some 11,none,.no,.mv (.t 75)⟩]
@[go_sem] def qdr8 : List AIns := [
  ⟨some 76,none,.no,.mv (.t 10)⟩,
  ⟨some 77,none,.no,.mv (.t 11)⟩,
  ⟨some 78,none,.no,.bin .add .none (.t 76) (.t 77)⟩,
  ⟨some 79,none,.no,.mv (.t 8)⟩,
  ⟨some 80,none,.no,.iaArr 8 1 (.t 5) (.v (.int .i64 1))⟩,
  ⟨some 81,none,.no,.load false 1 (.t 80)⟩,
  ⟨some 82,none,.no,.iaArr 8 1 (.t 5) (.v (.int .i64 2))⟩,
  ⟨some 83,none,.no,.load false 1 (.t 82)⟩,
  ⟨some 84,none,.no,.iaArr 8 1 (.t 5) (.v (.int .i64 3))⟩,
  ⟨some 85,none,.no,.load false 1 (.t 84)⟩,
  ⟨some 86,none,.no,.mv (.t 10)⟩,
  ⟨some 87,none,.no,.bin .add .none (.t 85) (.t 86)⟩,
  ⟨some 88,none,.no,.mv (.t 9)⟩,
  ⟨some 89,none,.no,.iaArr 8 1 (.t 5) (.v (.int .i64 5))⟩,
  ⟨some 90,none,.no,.load false 1 (.t 89)⟩,
  ⟨some 91,none,.no,.iaArr 8 1 (.t 5) (.v (.int .i64 6))⟩,
  ⟨some 92,none,.no,.load false 1 (.t 91)⟩,
  ⟨some 93,none,.no,.build [(.int .u32 0), (.int .u32 0), (.int .u32 0), (.int .u32 0), (.int .u32 0), (.int .u32 0), (.int .u32 0), (.int .u32 0)] [(0, 1, (.t 78)), (1, 1, (.t 79)), (2, 1, (.t 81)), (3, 1, (.t 83)), (4, 1, (.t 87)), (5, 1, (.t 88)), (6, 1, (.t 90)), (7, 1, (.t 92))]⟩,
  ⟨none,none,.no,.store 8 (.t 5) (.t 93)⟩]
def qdc9 : ACode := .seq (.reg qdr7) (.reg qdr8)
def qdc10 : ACode := .seq (.reg qdr6) qdc9
def qdc11 : ACode := .seq (.reg qdr5) qdc10
def qdc12 : ACode := .seq (.reg qdr4) qdc11
@[go_sem] def qdr13 : List AIns := [
  ⟨some 94,none,.no,.bin .add .none (.t 16) (.v (.int .i64 1))⟩,
  ⟨some 16,none,.no,.mv (.t 94)⟩]
def qdc14 : ACode := .seq (.block 1 qdc12) (.reg qdr13)
def qdc15 : ACode := .seq (.cond (.t 17) .skip (.exit 0)) qdc14
def qdc16 : ACode := .seq (.reg qdr3) qdc15
def qdc17 : ACode := .loop qdc16
def qdc18 : ACode := .block 0 qdc17
def qdc19 : ACode := .seq (.reg qdr2) qdc18
@[go_sem] def qdr20 : List AIns := [
  ⟨some 95,none,.no,.mv (.v (.int .i64 0))⟩]
@[go_sem] def qdr21 : List AIns := [
  ⟨some 96,none,.no,.bin .lss .none (.t 95) (.v (.int .i64 8))⟩]
@[go_sem] def qdr22 : List AIns := [
  ⟨some 97,none,.no,.mv (.t 95)⟩,
  ⟨some 12,none,.no,.mv (.t 97)⟩]
@[go_sem] def qdr23 : List AIns := [
  ⟨some 98,none,.no,.mv (.t 12)⟩,
  ⟨some 99,none,.no,.iaArr 8 1 (.t 5) (.t 98)⟩,
  ⟨some 100, none, .rd, .load false 1 (.t 99)⟩,
  ⟨some 101,none,.no,.mv (.t 12)⟩,
  ⟨some 102,none,.no,.iaArr 8 1 (.t 2) (.t 101)⟩,
  ⟨some 103, none, .rd, .load false 1 (.t 102)⟩,
  ⟨some 104,none,.no,.bin .add .none (.t 100) (.t 103)⟩,
  ⟨some 105,none,.no,.iaArr 8 1 (.t 5) (.t 98)⟩,
  ⟨none,none,.no,.store 1 (.t 105) (.t 104)⟩]
def qdc24 : ACode := .seq (.reg qdr22) (.reg qdr23)
@[go_sem] def qdr25 : List AIns := [
  ⟨some 106,none,.no,.bin .add .none (.t 95) (.v (.int .i64 1))⟩,
  ⟨some 95,none,.no,.mv (.t 106)⟩]
def qdc26 : ACode := .seq (.block 3 qdc24) (.reg qdr25)
def qdc27 : ACode := .seq (.cond (.t 96) .skip (.exit 2)) qdc26
def qdc28 : ACode := .seq (.reg qdr21) qdc27
def qdc29 : ACode := .loop qdc28
def qdc30 : ACode := .block 2 qdc29
def qdc31 : ACode := .seq (.reg qdr20) qdc30
@[go_sem] def qdr32 : List AIns := [
  ⟨some 107,none,.no,.load true 8 (.t 5)⟩,
  ⟨none,none,.no,.store 8 (.t 4) (.t 107)⟩]
def qdc33 : ACode := .seq (.reg qdr32) .ret
def qdc34 : ACode := .seq qdc31 qdc33
def qdc35 : ACode := .seq qdc19 qdc34
def qdc36 : ACode := .seq (.reg qdr1) qdc35
def qdc37 : ACode := .seq (.reg qdr0) qdc36
theorem qdok : cFn TC 123 = some (108, [.c 4 true 8], qdc37) := by kernel_rfl

@[go_sem] def qer0 : List AIns := [
  ⟨some 2,none,.no,.alloc [(.int .u32 0), (.int .u32 0), (.int .u32 0), (.int .u32 0), (.int .u32 0), (.int .u32 0), (.int .u32 0), (.int .u32 0), (.int .u32 0), (.int .u32 0), (.int .u32 0), (.int .u32 0), (.int .u32 0), (.int .u32 0), (.int .u32 0), (.int .u32 0), (.int .u32 0), (.int .u32 0), (.int .u32 0), (.int .u32 0), (.int .u32 0), (.int .u32 0), (.int .u32 0), (.int .u32 0), (.int .u32 0), (.int .u32 0), (.int .u32 0), (.int .u32 0), (.int .u32 0), (.int .u32 0), (.int .u32 0), (.int .u32 0), (.int .u32 0), (.int .u32 0), (.int .u32 0), (.int .u32 0), (.int .u32 0), (.int .u32 0), (.int .u32 0), (.int .u32 0), (.int .u32 0), (.int .u32 0), (.int .u32 0), (.int .u32 0), (.int .u32 0), (.int .u32 0), (.int .u32 0), (.int .u32 0), (.int .u32 0), (.int .u32 0), (.int .u32 0), (.int .u32 0), (.int .u32 0), (.int .u32 0), (.int .u32 0), (.int .u32 0), (.int .u32 0), (.int .u32 0), (.int .u32 0), (.int .u32 0), (.int .u32 0), (.int .u32 0), (.int .u32 0), (.int .u32 0)]⟩]
@[go_sem] def qer1 : List AIns := [
  ⟨some 6,none,.no,.mv (.v (.int .i64 0))⟩]
@[go_sem] def qer2 : List AIns := [
  ⟨some 7,none,.no,.bin .lss .none (.t 6) (.v (.int .i64 64))⟩]
@[go_sem] def qer3 : List AIns := [
  ⟨some 8,none,.no,.mv (.t 6)⟩,
  ⟨some 3,none,.no,.mv (.t 8)⟩]
@[go_sem] def qer4 : List AIns := [
  ⟨some 9,none,.no,.mv (.t 3)⟩,
  ⟨some 10,none,.no,.bin .lss .none (.t 9) (.v (.int .i64 16))⟩]
@[go_sem] def qer5 : List AIns := [
  ⟨some 11,none,.no,.mv (.t 3)⟩,
  ⟨some 12,none,.no,.mv (.t 0)⟩,
  ⟨some 13,none,.no,.mv (.t 3)⟩,
  ⟨some 14,none,.no,.bin .mul .none (.v (.int .i64 4)) (.t 13)⟩,
  ⟨some 15,none,.no,.mv (.t 3)⟩,
  ⟨some 16,none,.no,.bin .mul .none (.v (.int .i64 4)) (.t 15)⟩,
  ⟨some 17,none,.no,.bin .add .none (.t 16) (.v (.int .i64 4))⟩,
  ⟨some 18,none,.no,.slice .str (.t 12) (some (.t 14)) (some (.t 17)) none⟩,
  ⟨some 19,none,.no,.call (.v (.fn 151 [])) [(.t 18)]⟩,
  ⟨some 20,none,.no,.conv (.int .u32) (.t 19)⟩,
  ⟨some 21,none,.no,.iaArr 64 1 (.t 2) (.t 11)⟩,
  ⟨none,none,.no,.store 1 (.t 21) (.t 20)⟩]
def qec6 : ACode := .seq (.reg qer5) (.exit 1)
def qec7 : ACode := .cond (.t 10) qec6 .skip
def qec8 : ACode := .seq (.reg qer4) qec7
@[go_sem] def qer9 : List AIns := [
  ⟨some 22,none,.no,.mv (.t 3)⟩,
  ⟨some 23,none,.no,.bin .sub .none (.t 22) (.v (.int .i64 15))⟩,
  ⟨some 24,none,.no,.iaArr 64 1 (.t 2) (.t 23)⟩,
  ⟨some 25, none, .rd, .load false 1 (.t 24)⟩,
  ⟨some 26,none,.no,.mv (.t 3)⟩,
  ⟨some 27,none,.no,.bin .sub .none (.t 26) (.v (.int .i64 2))⟩,
  ⟨some 28,none,.no,.iaArr 64 1 (.t 2) (.t 27)⟩,
  ⟨some 29, none, .rd, .load false 1 (.t 28)⟩,
  ⟨some 4,none,.no,.mv (.t 25)⟩,
  ⟨some 5,none,.no,.mv (.t 29)⟩]
@[go_sem] def qer10 : List AIns := [
  ⟨some 30,none,.no,.mv (.t 3)⟩,
  ⟨some 31,none,.no,.mv (.t 3)⟩,
  ⟨some 32,none,.no,.bin .sub .none (.t 31) (.v (.int .i64 16))⟩,
  ⟨some 33,none,.no,.iaArr 64 1 (.t 2) (.t 32)⟩,
  ⟨some 34, none, .rd, .load false 1 (.t 33)⟩,
  ⟨some 35,none,.no,.mv (.t 3)⟩,
  ⟨some 36,none,.no,.bin .sub .none (.t 35) (.v (.int .i64 7))⟩,
  ⟨some 37,none,.no,.iaArr 64 1 (.t 2) (.t 36)⟩,
  ⟨some 38, none, .rd, .load false 1 (.t 37)⟩,
  ⟨some 39,none,.no,.bin .add .none (.t 34) (.t 38)⟩,
  ⟨some 40,none,.no,.mv (.t 4)⟩,
  ⟨some 41, none, .ef, .call (.v (.fn 140 [])) [(.t 40), (.v (.int .i64 7))]⟩,
  ⟨some 42,none,.no,.mv (.t 4)⟩,
  ⟨some 43, none, .ef, .call (.v (.fn 140 [])) [(.t 42), (.v (.int .i64 18))]⟩,
  ⟨some 44,none,.no,.bin .xor .none (.t 41) (.t 43)⟩,
  ⟨some 45,none,.no,.mv (.t 4)⟩,
  ⟨some 46,none,.no,.bin .shr .none (.t 45) (.v (.int .u64 3))⟩,
  ⟨some 47,none,.no,.bin .xor .none (.t 44) (.t 46)⟩,
  ⟨some 48,none,.no,.bin .add .none (.t 39) (.t 47)⟩,
  ⟨some 49,none,.no,.mv (.t 5)⟩,
  ⟨some 50, none, .ef, .call (.v (.fn 140 [])) [(.t 49), (.v (.int .i64 17))]⟩,
  ⟨some 51,none,.no,.mv (.t 5)⟩,
  ⟨some 52, none, .ef, .call (.v (.fn 140 [])) [(.t 51), (.v (.int .i64 19))]⟩,
  ⟨some 53,none,.no,.bin .xor .none (.t 50) (.t 52)⟩,
  ⟨some 54,none,.no,.mv (.t 5)⟩,
  ⟨some 55,none,.no,.bin .shr .none (.t 54) (.v (.int .u64 10))⟩,
  ⟨some 56,none,.no,.bin .xor .none (.t 53) (.t 55)⟩,
  ⟨some 57,none,.no,.bin .add .none (.t 48) (.t 56)⟩,
  ⟨some 58,none,.no,.iaArr 64 1 (.t 2) (.t 30)⟩,
  ⟨none,none,.no,.store 1 (.t 58) (.t 57)⟩]
def qec11 : ACode := .seq (.reg qer9) (.reg qer10)
def qec12 : ACode := .seq qec8 qec11
def qec13 : ACode := .seq (.reg qer3) qec12
@[go_sem] def qer14 : List AIns := [
  ⟨some 59,none,.no,.bin .add .none (.t 6) (.v (.int .i64 1))⟩,
  ⟨some 6,none,.no,.mv (.t 59)⟩]
def qec15 : ACode := .seq (.block 1 qec13) (.reg qer14)
def qec16 : ACode := .seq (.cond (.t 7) .skip (.exit 0)) qec15
def qec17 : ACode := .seq (.reg qer2) qec16
def qec18 : ACode := .loop qec17
def qec19 : ACode := .block 0 qec18
def qec20 : ACode := .seq (.reg qer1) qec19
@[go_sem] def qer21 : List AIns := [
  ⟨some 60,none,.no,.load true 64 (.t 2)⟩,
  ⟨none,none,.no,.store 64 (.t 2) (.t 60)⟩]
def qec22 : ACode := .seq (.reg qer21) .ret
def qec23 : ACode := .seq qec20 qec22
def qec24 : ACode := .seq (.reg qer0) qec23
theorem qeok : cFn TC 139 = some (61, [.c 2 true 64], qec24) := by kernel_rfl
end Am
end Go.Proofs.YtncenefkbpelbaaDoor
end
section
/- SHA-256 in plain Lean, and words of 32 bits as_ the machine has them. -/
namespace Go.Proofs.YtncenefkbpelbaaDoor
namespace Am
abbrev W := BitVec 32
def wc (x : W) : AV := .int .u32 x.toNat
def ws (l : List W) : List AV := l.map wc
def ss0 (x : W) : W := (x.rotateLeft 25 ^^^ x.rotateLeft 14) ^^^ x >>> 3
def ss1 (y : W) : W := (y.rotateLeft 15 ^^^ y.rotateLeft 13) ^^^ y >>> 10
def bs1 (e : W) : W := (e.rotateLeft 26 ^^^ e.rotateLeft 21) ^^^ e.rotateLeft 7
def bs0 (a : W) : W := (a.rotateLeft 30 ^^^ a.rotateLeft 19) ^^^ a.rotateLeft 10
def chW (e f g : W) : W := (e &&& f) ^^^ (~~~e &&& g)
def majW (a b c : W) : W := ((a &&& b) ^^^ (a &&& c)) ^^^ (b &&& c)
def z6o (s : List UInt8) (i : Nat) : W := BitVec.ofNat 32 (getS ((s.drop (4 * i)).take 4))
def wat (w : List W) (i : Nat) : W := w.getD i 0
def z4d (s : List UInt8) (w : List W) : W :=
  if w.length < 16 then z6o s w.length else wat w (w.length - 16) + wat w (w.length - 7) + ss0 (wat w (w.length - 15)) + ss1 (wat w (w.length - 2))
def z11 (s : List UInt8) : Nat -> List W
  | 0 => []
  | n + 1 => z11 s n ++ [z4d s (z11 s n)]
structure V8 where
  a : W
  b : W
  c : W
  d : W
  e : W
  f : W
  g : W
  h : W
def V8.l (v : V8) : List W := [v.a, v.b, v.c, v.d, v.e, v.f, v.g, v.h]
def rnd (v : V8) (k w : W) : V8 :=
  ⟨(v.h + bs1 v.e + chW v.e v.f v.g + k + w) + (bs0 v.a + majW v.a v.b v.c), v.a, v.b, v.c, v.d + (v.h + bs1 v.e + chW v.e v.f v.g + k + w), v.e, v.f, v.g⟩
def kAt (n : Nat) : W := BitVec.ofInt 32 (shaRounds.getD n 0)
def rnds (s : List UInt8) (v : V8) : Nat -> V8
  | 0 => v
  | n + 1 => rnd (rnds s v n) (kAt n) (wat (z11 s 64) n)
def V8.add (v u : V8) : V8 := ⟨v.a + u.a, v.b + u.b, v.c + u.c, v.d + u.d, v.e + u.e, v.f + u.f, v.g + u.g, v.h + u.h⟩
def mixS (v : V8) (s : List UInt8) : V8 := (rnds s v 64).add v
def z5i : Nat -> V8 -> List UInt8 -> V8
  | 0, v, _ => v
  | n + 1, v, s => z5i n (mixS v (s.take 64)) (s.drop 64)
def v0 : V8 := ⟨1779033703#32, 3144134277#32, 1013904242#32, 2773480762#32, 1359893119#32, 2600822924#32, 528734635#32, 1541459225#32⟩
def padS (s : List UInt8) : List UInt8 := s ++ 128 :: (List.replicate ((119 - s.length % 64) % 64) 0 ++ be 8 (s.length * 8))
def outV (v : V8) : List UInt8 := v.l.flatMap fun x => be 4 x.toNat
/-- SHA-256. -/
def shaS (s : List UInt8) : List UInt8 := outV (z5i ((padS s).length / 64) v0 (padS s))
theorem z4w (s : List UInt8) : ∀ n, (z11 s n).length = n
  | 0 => rfl
  | n + 1 => by simp [z11, z4w s n]
theorem z7d {w : List W} {i : Nat} (h : i < w.length) : (ws w)[i]? = some (.int .u32 (wat w i).toNat) := by
  simp [ws, wc, wat, List.getElem?_map, List.getD_eq_getElem?_getD, List.getElem?_eq_getElem h]
theorem z4j (w : List W) : (ws w).length = w.length := by simp [ws]
section
theorem wr32 (x : BitVec 32) : IntKind.u32.wrap (x.toNat : Int) = x.toNat := z8i ⟨by omega, by have := x.isLt; omega⟩
theorem bw_add (a b : BitVec 32) : zu .add .u32 (a.toNat : Int) (b.toNat : Int) = some (.int .u32 ((a + b).toNat : Int)) := by
  rw [zej, z8j, BitVec.toNat_add]; rfl
theorem bw_xor (a b : BitVec 32) : zu .xor .u32 (a.toNat : Int) (b.toNat : Int) = some (.int .u32 ((a ^^^ b).toNat : Int)) := by
  rw [zem ⟨by omega, by have := a.isLt; omega⟩ ⟨by omega, by have := b.isLt; omega⟩, BitVec.toNat_xor]; rfl
theorem bw_and (a b : BitVec 32) : zu .and .u32 (a.toNat : Int) (b.toNat : Int) = some (.int .u32 ((a &&& b).toNat : Int)) := by
  rw [zek ⟨by omega, by have := a.isLt; omega⟩ ⟨by omega, by have := b.isLt; omega⟩, BitVec.toNat_and]; rfl
theorem bw_or (a b : BitVec 32) : zu .or .u32 (a.toNat : Int) (b.toNat : Int) = some (.int .u32 ((a ||| b).toNat : Int)) := by
  rw [zel ⟨by omega, by have := a.isLt; omega⟩ ⟨by omega, by have := b.isLt; omega⟩, BitVec.toNat_or]; rfl
theorem bw_shr {a : BitVec 32} {n : Int} (h : 0 <= n /\ n < 32) : z17 .shr .u32 (a.toNat : Int) n = some (.int .u32 ((a >>> n.toNat).toNat : Int)) := by
  rw [zgc h, BitVec.toNat_ushiftRight, Nat.shiftRight_eq_div_pow, Int.natCast_ediv, Int.natCast_pow]; rfl
theorem bw_shl {a : BitVec 32} {n : Int} (h : 0 <= n /\ n < 32) : z17 .shl .u32 (a.toNat : Int) n = some (.int .u32 ((a <<< n.toNat).toNat : Int)) := by
  rw [zgb h, BitVec.toNat_shiftLeft, Nat.shiftLeft_eq, z8j]
  rw [Int.natCast_emod, Int.natCast_mul, Int.natCast_pow]; rfl
theorem bw_not (a : BitVec 32) : aUn .xor (.int .u32 (a.toNat : Int)) = some (.int .u32 ((~~~a).toNat : Int)) := by
  have e1 : BitVec.ofInt IntKind.u32.bits (a.toNat : Int) = a := by
    apply BitVec.eq_of_toNat_eq
    have := a.isLt
    rw [BitVec.toNat_ofInt]
    simp only [IntKind.bits]
    omega
  have e2 : BitVec.ofInt IntKind.u32.bits (if IntKind.u32.signed = true then -1 else IntKind.u32.max) = BitVec.allOnes 32 := by rfl
  have e3 : aUn .xor (.int .u32 (a.toNat : Int)) = some (.int .u32 (IntKind.u32.wrap (((BitVec.ofInt IntKind.u32.bits (if IntKind.u32.signed = true then -1 else IntKind.u32.max) ^^^ BitVec.ofInt IntKind.u32.bits (a.toNat : Int)).toNat : Nat) : Int))) := rfl
  rw [e3, e1, e2]
  have e4 : BitVec.allOnes 32 ^^^ a = ~~~a := BitVec.allOnes_xor
  show some (AV.int .u32 (IntKind.u32.wrap ((BitVec.allOnes 32 ^^^ a).toNat : Int))) = _
  rw [e4, wr32]
end
attribute [go_sem high] bw_add bw_xor bw_and bw_or bw_shr bw_shl bw_not
end Am
end Go.Proofs.YtncenefkbpelbaaDoor
end
section
/- SHA-256: contracts: turn, spread. -/
namespace Go.Proofs.YtncenefkbpelbaaDoor
namespace Am
theorem rl_c {k : Nat} : ∀ (l : List W), RLs k (ws l)
  | [] => by simp [ws, RLs]
  | _ :: l => by have := rl_c (k := k) l; simp only [ws] at this; simp [ws, wc, RLs, RL, this]
theorem z3j {k : Nat} {l : List AV} (h : RLs k l) : RL k (.agg l) := by simpa only [RL] using h
theorem za4 (O : Store) (x : W) (k : Int) (h : 0 < k /\ k < 32) : ACallsTo TC 115 [.int .u32 x.toNat, .int .u32 k] O (.int .u32 (x.rotateLeft (32 - k.toNat)).toNat) O := by
  refine ACallsTo.of_body qbok (by simp) fun hw _ => ?_
  repeat' (first|refine zW.zs ?_|refine zW.zb ?_|refine zW.zc ?_|refine zW.zt rfl ?_|refine zW.zf rfl ?_|(refine zW.zd rfl (fun ht => ?_) (fun ht => ?_)<;>try (exfalso;omega))|((first|refine zW.zr ?_|refine zW.zk ?_|refine zW.ze ?_|refine zW.zq ?_|((first|apply zg0|apply zg1|apply zg2|apply zg3|apply zg4|apply zg5|apply zg6|apply zg7)<;>intro ht));all_goals try simp (disch:=first|omega|(simp only [lens];first|done|omega)) only [go_sem,reduceEqDiff,Nat.reduceBEq,reduceAdd,reduceMul,reduceSub,reduceLeDiff,reduceToNat,reducePow]))
  have e : (x >>> k.toNat ||| x <<< (32 - k).toNat) = x.rotateLeft (32 - k.toNat) := by
    obtain ⟨n, rfl⟩ : ∃ n : Nat, k = n := ⟨k.toNat, by omega⟩
    have e1 : ((32 : Int) - n).toNat = 32 - n := by omega
    rw [e1, Int.toNat_natCast, BitVec.rotateLeft_def, BitVec.or_comm]
    have : (32 - n) % 32 = 32 - n := Nat.mod_eq_of_lt (by omega)
    rw [this]
    congr 2
    omega
  rw [e]
  exact DownV.same hw (z14 _ rfl)
theorem zp4 (s : List UInt8) (i : Nat) : IntKind.u32.wrap ((getS ((s.drop (4 * i)).take 4) : Nat) : Int) = ((z6o s i).toNat : Int) := by
  rw [z8j, z6o, BitVec.toNat_ofNat]; rfl
theorem zj3 {w : List W} {x : W} {n : Nat} (h : w.length = n) (hn : n < 64) : (ws w ++ List.replicate (64 - n) (AV.int .u32 0)).take n ++ AV.int .u32 x.toNat :: (ws w ++ List.replicate (64 - n) (AV.int .u32 0)).drop (n + 1) = ws (w ++ [x]) ++ List.replicate (64 - (n + 1)) (AV.int .u32 0) := by
  have hl : (ws w).length = n := by rw [z4j, h]
  have e : 64 - n = (64 - (n + 1)) + 1 := by omega
  rw [List.take_append_of_le_length (by omega), List.take_of_length_le (by omega), List.drop_append, List.drop_of_length_le (by omega), hl]
  rw [show n + 1 - n = 1 by omega, e, List.replicate_succ, List.drop_succ_cons, List.drop_zero, List.nil_append]
  simp [ws, wc]
set_option maxHeartbeats 4000000 in
theorem zof (O : Store) (s : List UInt8) (h : 64 <= s.length) (hs : s.length < 9223372036854775808) : ACallsTo TC 139 [.str s] O (.agg (ws (z11 s 64))) O := by
  obtain ⟨R, hR⟩ : ∃ R, R = z11 s 64 := ⟨_, rfl⟩
  rw [<- hR]
  refine ACallsTo.of_body qeok (by simp) fun hw _ => ?_
  repeat' (first|refine zW.zs ?_|refine zW.zb ?_|refine zW.zc ?_|refine zW.zt rfl ?_|refine zW.zf rfl ?_|(refine zW.zd rfl (fun ht => ?_) (fun ht => ?_)<;>try (exfalso;omega))|((first|refine zW.zr ?_|refine zW.zk ?_|refine zW.ze ?_|refine zW.zq ?_|((first|apply zg0|apply zg1|apply zg2|apply zg3|apply zg4|apply zg5|apply zg6|apply zg7)<;>intro ht));all_goals try simp (disch:=first|omega|(simp only [lens];first|done|omega)) only [go_sem,reduceEqDiff,Nat.reduceBEq,reduceAdd,reduceMul,reduceSub,reduceLeDiff,reduceToNat,reducePow]))
  refine zW.loop (fun m Z O' => ∃ i : Nat, m + i = 64 /\ Z 0 = .str s /\ Z 2 = .ptr O.length 0 0 /\ Z 6 = .int .i64 i /\ O' = O ++ [some [ws (z11 s i) ++ List.replicate (64 - i) (AV.int .u32 0)]]) 64 ?_ ?_
  · exact ⟨0, by omega, by simp (disch:=first|omega|(simp only [lens];first|done|omega)) only [go_sem,reduceEqDiff,Nat.reduceBEq,reduceAdd,reduceMul,reduceSub,reduceLeDiff,reduceToNat,reducePow], by simp (disch:=first|omega|(simp only [lens];first|done|omega)) only [go_sem,reduceEqDiff,Nat.reduceBEq,reduceAdd,reduceMul,reduceSub,reduceLeDiff,reduceToNat,reducePow], by simp (disch:=first|omega|(simp only [lens];first|done|omega)) only [go_sem,reduceEqDiff,Nat.reduceBEq,reduceAdd,reduceMul,reduceSub,reduceLeDiff,reduceToNat,reducePow]; rfl, rfl⟩
  · rintro m Z O' ⟨i, hm, q0, q2, q6, rfl⟩
    have hsl := z4w s i
    have hset := fun x => zj3 (x := x) hsl
    have hwi : ∀ j, j < i -> (ws (z11 s i) ++ List.replicate (64 - i) (AV.int .u32 0))[j]? = some (.int .u32 (wat (z11 s i) j).toNat) := by
      intro j hj
      rw [List.getElem?_append_left (by rw [z4j]; omega), z7d (by omega)]
    have hlen : (ws (z11 s i) ++ List.replicate (64 - i) (AV.int .u32 0)).length = 64 \/ 64 < i := by
      simp [z4j, hsl]; omega
    by_cases hi : i < 64
    · have hlen : (ws (z11 s i) ++ List.replicate (64 - i) (AV.int .u32 0)).length = 64 := by omega
      generalize hcc : ws (z11 s i) ++ List.replicate (64 - i) (AV.int .u32 0) = cc at *
      by_cases h16 : i < 16
      · have hd1 : (s.take (4 * i + 4)).length = 4 * i + 4 := by rw [List.length_take]; omega
        repeat' (first|refine zW.zs ?_|refine zW.zb ?_|refine zW.zc ?_|refine zW.zt rfl ?_|refine zW.zf rfl ?_|(refine zW.zd rfl (fun ht => ?_) (fun ht => ?_)<;>try (exfalso;omega))|((first|refine zW.zr ?_|refine zW.zk ?_|refine zW.ze ?_|refine zW.zq ?_|(apply callW.mk_pu; (first | exact (fun _ => zdi _ _ (by simp; omega)))) | (apply callW.za; (first | exact (zdi _ _ (by simp; omega)))) | ((first|apply zg0|apply zg1|apply zg2|apply zg3|apply zg4|apply zg5|apply zg6|apply zg7)<;>intro ht));all_goals try simp (disch:=first|omega|(simp only [lens];first|done|omega)) only [go_sem,reduceEqDiff,Nat.reduceBEq,reduceAdd,reduceMul,reduceSub,reduceLeDiff,reduceToNat,reducePow, q0, q2, q6, hlen]))
        have ev : ((getS ((s.take (4 * (i : Int) + 4).toNat).drop (4 * (i : Int)).toNat) : Nat) : Int) % 4294967296 = ((z4d s (z11 s i)).toNat : Int) := by
          rw [show (4 * (i : Int) + 4).toNat = 4 * i + 4 by omega, show (4 * (i : Int)).toNat = 4 * i by omega, List.drop_take, show 4 * i + 4 - 4 * i = 4 by omega]
          have := zp4 s i
          rw [z8j] at this
          rw [this, z4d, if_pos (by omega), hsl]
        refine ⟨64 - (i + 1), by omega, i + 1, by omega, by simp, ?_⟩
        rw [ev, hset _ hi, z11]
      · have en : z4d s (z11 s i) = wat (z11 s i) (i - 16) + wat (z11 s i) (i - 7) + ss0 (wat (z11 s i) (i - 15)) + ss1 (wat (z11 s i) (i - 2)) := by rw [z4d, if_neg (by omega), hsl]
        have g16 := hwi (i - 16) (by omega)
        have g7 := hwi (i - 7) (by omega)
        have g15 := hwi (i - 15) (by omega)
        have g2 := hwi (i - 2) (by omega)
        have t16 : ((i : Int) - 16).toNat = i - 16 := by omega
        have t7 : ((i : Int) - 7).toNat = i - 7 := by omega
        have t15 : ((i : Int) - 15).toNat = i - 15 := by omega
        have t2 : ((i : Int) - 2).toNat = i - 2 := by omega
        generalize wat (z11 s i) (i - 16) = w16 at *
        generalize wat (z11 s i) (i - 7) = w7 at *
        generalize wat (z11 s i) (i - 15) = w15 at *
        generalize wat (z11 s i) (i - 2) = w2 at *
        have r7 : ((-7 : Int) % 32).toNat = 25 := rfl
        have r18 : ((-18 : Int) % 32).toNat = 14 := rfl
        have r17 : ((-17 : Int) % 32).toNat = 15 := rfl
        have r19 : ((-19 : Int) % 32).toNat = 13 := rfl
        have en2 := hset (z4d s (z11 s i)) hi
        rw [en] at en2
        simp only [ss0, ss1] at en2
        repeat' (first|refine zW.zs ?_|refine zW.zb ?_|refine zW.zc ?_|refine zW.zt rfl ?_|refine zW.zf rfl ?_|(refine zW.zd rfl (fun ht => ?_) (fun ht => ?_)<;>try (exfalso;omega))|((first|refine zW.zr ?_|refine zW.zk ?_|refine zW.ze ?_|refine zW.zq ?_|(apply callW.mk_pu; (first | exact (fun _ => z92 _ _ _))) | (apply callW.za; (first | exact (z92 _ _ _))) | ((first|apply zg0|apply zg1|apply zg2|apply zg3|apply zg4|apply zg5|apply zg6|apply zg7)<;>intro ht));all_goals try simp (disch:=first|omega|(simp only [lens];first|done|omega)) only [go_sem,reduceEqDiff,Nat.reduceBEq,reduceAdd,reduceMul,reduceSub,reduceLeDiff,reduceToNat,reducePow, q0, q2, q6, hlen, g16, g7, g15, g2, t16, t7, t15, t2, r7, r18, r17, r19]))
        refine ⟨64 - (i + 1), by omega, i + 1, by omega, by simp, ?_⟩
        rw [en2, z11, en]
        simp only [ss0, ss1]
    · have e : i = 64 := by omega
      have eR : z11 s i = R := by rw [hR, e]
      have hsR : R.length = 64 := by rw [<- eR, hsl, e]
      have hl64 : (ws R).length = 64 := by rw [z4j, hsR]
      have e0 : List.replicate (64 - i) (AV.int .u32 0) = [] := by rw [e]; rfl
      rw [eR, e0, List.append_nil] at *
      clear hwi hset hlen hR
      have hd : (ws R).drop 64 = [] := List.drop_of_length_le (by omega)
      repeat' (first|refine zW.zs ?_|refine zW.zb ?_|refine zW.zc ?_|refine zW.zt rfl ?_|refine zW.zf rfl ?_|(refine zW.zd rfl (fun ht => ?_) (fun ht => ?_)<;>try (exfalso;omega))|((first|refine zW.zr ?_|refine zW.zk ?_|refine zW.ze ?_|refine zW.zq ?_|((first|apply zg0|apply zg1|apply zg2|apply zg3|apply zg4|apply zg5|apply zg6|apply zg7)<;>intro ht));all_goals try simp (disch:=first|omega|(simp only [lens];first|done|omega)) only [go_sem,reduceEqDiff,Nat.reduceBEq,reduceAdd,reduceMul,reduceSub,reduceLeDiff,reduceToNat,reducePow, q0, q2, q6, hl64, hd]))
      exact DownV.pure hw (z3j (rl_c _))
end Am
end Go.Proofs.YtncenefkbpelbaaDoor
end
section
/- SHA-256: contracts: mix. -/
namespace Go.Proofs.YtncenefkbpelbaaDoor
namespace Am
def V8.c8 (v : V8) : List AV := [.int .u32 v.a.toNat, .int .u32 v.b.toNat, .int .u32 v.c.toNat, .int .u32 v.d.toNat, .int .u32 v.e.toNat, .int .u32 v.f.toNat, .int .u32 v.g.toNat, .int .u32 v.h.toNat]
theorem ws_l (v : V8) : ws v.l = v.c8 := rfl
theorem zeo {i : Nat} (h : i < 64) : (gl_sha_rounds.drop i)[0]? = some (.int .u32 (kAt i).toNat) := by
  have hall : ∀ j : Fin 64, (gl_sha_rounds.drop j.val)[0]? = some (.int .u32 (kAt j.val).toNat) := by
    intro j
    have h2 : (gl_sha_rounds.drop j.val)[0]? = some (AV.int .u32 (shaRounds.getD j.val 0)) := by
      have hl : shaRounds.length = 64 := rfl
      simp only [gl_sha_rounds, List.getElem?_drop, Nat.add_zero, List.getElem?_map, List.getD_eq_getElem?_getD]
      rw [List.getElem?_eq_getElem (by rw [hl]; exact j.isLt)]; rfl
    rw [h2]
    have h3 : ∀ j : Fin 64, shaRounds.getD j.val 0 = ((kAt j.val).toNat : Int) := by decide
    rw [h3 j]
  exact hall ⟨i, h⟩
theorem z7v : gl_sha_rounds.length = 64 := rfl
set_option maxHeartbeats 8000000 in
theorem mix_to (O : Store) (v : V8) (s : List UInt8) (h : 64 <= s.length) (hs : s.length < 9223372036854775808) : ACallsTo TC 123 [.agg (ws v.l), .str s] O (.agg (ws (mixS v s).l)) O := by
  obtain ⟨R, hR⟩ : ∃ R, R = z11 s 64 := ⟨_, rfl⟩
  have hsp := fun O => zof O s h hs
  rw [<- hR] at hsp
  have hRl : R.length = 64 := by rw [hR, z4w]
  have hwR : (ws R).length = 64 := by rw [z4j, hRl]
  have hst : ∀ n, rnds s v (n + 1) = rnd (rnds s v n) (kAt n) (wat R n) := fun n => by rw [rnds, hR]
  obtain ⟨F, hF⟩ : ∃ F, F = (rnds s v 64).add v := ⟨_, rfl⟩
  have hmix : mixS v s = F := hF.symm
  rw [hmix, ws_l, ws_l]
  clear hmix
  refine ACallsTo.of_body qdok (by simp) fun hw _ => ?_
  unfold V8.c8
  repeat' (first|refine zW.zs ?_|refine zW.zb ?_|refine zW.zc ?_|refine zW.zt rfl ?_|refine zW.zf rfl ?_|(refine zW.zd rfl (fun ht => ?_) (fun ht => ?_)<;>try (exfalso;omega))|((first|refine zW.zr ?_|refine zW.zk ?_|refine zW.ze ?_|refine zW.zq ?_|(apply callW.mk_pu; (first | exact (fun _ => hsp _))) | (apply callW.za; (first | exact (hsp _))) | ((first|apply zg0|apply zg1|apply zg2|apply zg3|apply zg4|apply zg5|apply zg6|apply zg7)<;>intro ht));all_goals try simp (disch:=first|omega|(simp only [lens];first|done|omega)) only [go_sem,reduceEqDiff,Nat.reduceBEq,reduceAdd,reduceMul,reduceSub,reduceLeDiff,reduceToNat,reducePow]))
  refine zW.loop (fun m Z O' => ∃ i : Nat, m + i = 64 /\ Z 2 = .ptr O.length 0 0 /\ Z 4 = .ptr (O.length + 1) 0 0 /\ Z 5 = .ptr (O.length + 2) 0 0 /\ Z 15 = .agg (ws R) /\ Z 16 = .int .i64 i ∧
    O' = O ++ [some [v.c8], some [[AV.int .u32 0, AV.int .u32 0, AV.int .u32 0, AV.int .u32 0, AV.int .u32 0, AV.int .u32 0, AV.int .u32 0, AV.int .u32 0]], some [(rnds s v i).c8]]) 64 ?_ ?_
  · exact ⟨0, by omega, by simp (disch:=first|omega|(simp only [lens];first|done|omega)) only [go_sem,reduceEqDiff,Nat.reduceBEq,reduceAdd,reduceMul,reduceSub,reduceLeDiff,reduceToNat,reducePow], by simp (disch:=first|omega|(simp only [lens];first|done|omega)) only [go_sem,reduceEqDiff,Nat.reduceBEq,reduceAdd,reduceMul,reduceSub,reduceLeDiff,reduceToNat,reducePow], by simp (disch:=first|omega|(simp only [lens];first|done|omega)) only [go_sem,reduceEqDiff,Nat.reduceBEq,reduceAdd,reduceMul,reduceSub,reduceLeDiff,reduceToNat,reducePow], by simp (disch:=first|omega|(simp only [lens];first|done|omega)) only [go_sem,reduceEqDiff,Nat.reduceBEq,reduceAdd,reduceMul,reduceSub,reduceLeDiff,reduceToNat,reducePow], by simp (disch:=first|omega|(simp only [lens];first|done|omega)) only [go_sem,reduceEqDiff,Nat.reduceBEq,reduceAdd,reduceMul,reduceSub,reduceLeDiff,reduceToNat,reducePow]; rfl, rfl⟩
  · rintro m Z O' ⟨i, hm, q2, q4, q5, q15, q16, rfl⟩
    by_cases hi : i < 64
    · have hk := zeo hi
      have hw := z7d (w := R) (i := i) (by omega)
      have hst := hst i
      generalize rnds s v i = u at *
      obtain ⟨a, b, c, d, e, f, g, h⟩ := u
      generalize kAt i = kk at *
      generalize wat R i = ww at *
      have r6 : ((-6 : Int) % 32).toNat = 26 := rfl
      have r11 : ((-11 : Int) % 32).toNat = 21 := rfl
      have r25 : ((-25 : Int) % 32).toNat = 7 := rfl
      have r2 : ((-2 : Int) % 32).toNat = 30 := rfl
      have r13 : ((-13 : Int) % 32).toNat = 19 := rfl
      have r22 : ((-22 : Int) % 32).toNat = 10 := rfl
      refine zW.zs ?_
      refine zW.zr ?_
      simp (disch:=first|omega|(simp only [lens];first|done|omega)) only [go_sem,reduceEqDiff,Nat.reduceBEq,reduceAdd,reduceMul,reduceSub,reduceLeDiff,reduceToNat,reducePow, q16]
      refine zW.zs ?_
      refine zW.zt rfl ?_
      refine zW.zk ?_
      simp (disch:=first|omega|(simp only [lens];first|done|omega)) only [go_sem,reduceEqDiff,Nat.reduceBEq,reduceAdd,reduceMul,reduceSub,reduceLeDiff,reduceToNat,reducePow]
      refine zW.zs ?_
      refine zW.zb ?_
      refine zW.zs ?_
      refine zW.regS ?_
      simp (disch:=first|omega|(simp only [lens];first|done|omega)) only [go_sem,reduceEqDiff,Nat.reduceBEq,reduceAdd,reduceMul,reduceSub,reduceLeDiff,reduceToNat,reducePow, q15, q16, hwR, hw]
      (refine zW.slots [2, 4, 5, 6, 7, 15, 16] ?_; intro Z1 hs; simp (disch:=first|omega|(simp only [lens];first|done|omega)) only [go_sem,reduceEqDiff,Nat.reduceBEq,reduceAdd,reduceMul,reduceSub,reduceLeDiff,reduceToNat,reducePow, q2, q4, q5, q15, q16] at hs; obtain ⟨s2, s4, s5, s6, s7, s15, s16⟩ := hs)
      refine zW.zs ?_
      refine zW.regS ?_
      simp (disch:=first|omega|(simp only [lens];first|done|omega)) only [go_sem,reduceEqDiff,Nat.reduceBEq,reduceAdd,reduceMul,reduceSub,reduceLeDiff,reduceToNat,reducePow, s5, V8.c8]
      (refine zW.slots [2, 4, 5, 6, 7, 8, 9, 15, 16] ?_; intro Z2 hs; simp (disch:=first|omega|(simp only [lens];first|done|omega)) only [go_sem,reduceEqDiff,Nat.reduceBEq,reduceAdd,reduceMul,reduceSub,reduceLeDiff,reduceToNat,reducePow, s2, s4, s5, s6, s7, s15, s16] at hs; obtain ⟨s2, s4, s5, s6, s7, s8, s9, s15, s16⟩ := hs)
      refine zW.zs ?_
      (refine zW.regS ?_; (simp (disch:=first|omega|(simp only [lens];first|done|omega)) only [go_sem,reduceEqDiff,Nat.reduceBEq,reduceAdd,reduceMul,reduceSub,reduceLeDiff,reduceToNat,reducePow, s2, s4, s5, s6, s7, s8, s9, V8.c8, hk, z7v, r6, r11, r25]); repeat' (apply callW.za; (first | exact (z92 _ _ _)); all_goals try (simp (disch:=first|omega|(simp only [lens];first|done|omega)) only [go_sem,reduceEqDiff,Nat.reduceBEq,reduceAdd,reduceMul,reduceSub,reduceLeDiff,reduceToNat,reducePow, s2, s4, s5, s6, s7, s8, s9, V8.c8, hk, z7v, r6, r11, r25])))
      (refine zW.slots [2, 4, 5, 8, 9, 10, 15, 16] ?_; intro Z3 hs; simp (disch:=first|omega|(simp only [lens];first|done|omega)) only [go_sem,reduceEqDiff,Nat.reduceBEq,reduceAdd,reduceMul,reduceSub,reduceLeDiff,reduceToNat,reducePow, s2, s4, s5, s8, s9, s15, s16] at hs; obtain ⟨s2, s4, s5, s8, s9, s10, s15, s16⟩ := hs)
      refine zW.zs ?_
      (refine zW.regS ?_; (simp (disch:=first|omega|(simp only [lens];first|done|omega)) only [go_sem,reduceEqDiff,Nat.reduceBEq,reduceAdd,reduceMul,reduceSub,reduceLeDiff,reduceToNat,reducePow, s5, s8, s9, V8.c8, r2, r13, r22]); repeat' (apply callW.za; (first | exact (z92 _ _ _)); all_goals try (simp (disch:=first|omega|(simp only [lens];first|done|omega)) only [go_sem,reduceEqDiff,Nat.reduceBEq,reduceAdd,reduceMul,reduceSub,reduceLeDiff,reduceToNat,reducePow, s5, s8, s9, V8.c8, r2, r13, r22])))
      (refine zW.slots [2, 4, 5, 8, 9, 10, 11, 15, 16] ?_; intro Z4 hs; simp (disch:=first|omega|(simp only [lens];first|done|omega)) only [go_sem,reduceEqDiff,Nat.reduceBEq,reduceAdd,reduceMul,reduceSub,reduceLeDiff,reduceToNat,reducePow, s2, s4, s5, s8, s9, s10, s15, s16] at hs; obtain ⟨s2, s4, s5, s8, s9, s10, s11, s15, s16⟩ := hs)
      (refine zW.regS ?_; (simp (disch:=first|omega|(simp only [lens];first|done|omega)) only [go_sem,reduceEqDiff,Nat.reduceBEq,reduceAdd,reduceMul,reduceSub,reduceLeDiff,reduceToNat,reducePow, s5, s8, s9, s10, s11, V8.c8]))
      (refine zW.slots [2, 4, 5, 15, 16] ?_; intro Z5 hs; simp (disch:=first|omega|(simp only [lens];first|done|omega)) only [go_sem,reduceEqDiff,Nat.reduceBEq,reduceAdd,reduceMul,reduceSub,reduceLeDiff,reduceToNat,reducePow, s2, s4, s5, s15, s16] at hs; obtain ⟨s2, s4, s5, s15, s16⟩ := hs)
      (refine zW.regS ?_; (simp (disch:=first|omega|(simp only [lens];first|done|omega)) only [go_sem,reduceEqDiff,Nat.reduceBEq,reduceAdd,reduceMul,reduceSub,reduceLeDiff,reduceToNat,reducePow, s16]))
      refine ⟨64 - (i + 1), by omega, i + 1, by omega, s2, s4, s5, s15, by simp, ?_⟩
      rw [hst]
      simp only [rnd, V8.c8, bs1, chW, bs0, majW]
    · obtain rfl : i = 64 := by omega
      clear hst
      generalize rnds s v 64 = U at *
      rw [hF, V8.add]
      clear hF hR
      obtain ⟨a, b, c, d, e, f, g, h⟩ := U
      obtain ⟨a', b', c', d', e', f', g', h'⟩ := v
      simp only [V8.c8] at *
      repeat' (first|refine zW.zs ?_|refine zW.zb ?_|refine zW.zc ?_|refine zW.zt rfl ?_|refine zW.zf rfl ?_|(refine zW.zd rfl (fun ht => ?_) (fun ht => ?_)<;>try (exfalso;omega))|((first|refine zW.zr ?_|refine zW.zk ?_|refine zW.ze ?_|refine zW.zq ?_|((first|apply zg0|apply zg1|apply zg2|apply zg3|apply zg4|apply zg5|apply zg6|apply zg7)<;>intro ht));all_goals try simp (disch:=first|omega|(simp only [lens];first|done|omega)) only [go_sem,reduceEqDiff,Nat.reduceBEq,reduceAdd,reduceMul,reduceSub,reduceLeDiff,reduceToNat,reducePow, q16]))
      refine zW.loop (fun m Z O' => ∃ j : Nat, m + j = 8 /\ Z 2 = .ptr O.length 0 0 /\ Z 4 = .ptr (O.length + 1) 0 0 /\ Z 5 = .ptr (O.length + 2) 0 0 /\ Z 95 = .int .i64 j ∧
        O' = O ++ [some [V8.c8 ⟨a', b', c', d', e', f', g', h'⟩], some [[AV.int .u32 0, AV.int .u32 0, AV.int .u32 0, AV.int .u32 0, AV.int .u32 0, AV.int .u32 0, AV.int .u32 0, AV.int .u32 0]], some [(V8.c8 ⟨a + a', b + b', c + c', d + d', e + e', f + f', g + g', h + h'⟩).take j ++ (V8.c8 ⟨a, b, c, d, e, f, g, h⟩).drop j]]) 8 ?_ ?_
      · exact ⟨0, by omega, by simp (disch:=first|omega|(simp only [lens];first|done|omega)) only [go_sem,reduceEqDiff,Nat.reduceBEq,reduceAdd,reduceMul,reduceSub,reduceLeDiff,reduceToNat,reducePow, q2], by simp (disch:=first|omega|(simp only [lens];first|done|omega)) only [go_sem,reduceEqDiff,Nat.reduceBEq,reduceAdd,reduceMul,reduceSub,reduceLeDiff,reduceToNat,reducePow, q4], by simp (disch:=first|omega|(simp only [lens];first|done|omega)) only [go_sem,reduceEqDiff,Nat.reduceBEq,reduceAdd,reduceMul,reduceSub,reduceLeDiff,reduceToNat,reducePow, q5], by simp (disch:=first|omega|(simp only [lens];first|done|omega)) only [go_sem,reduceEqDiff,Nat.reduceBEq,reduceAdd,reduceMul,reduceSub,reduceLeDiff,reduceToNat,reducePow]; rfl, rfl⟩
      · clear q2 q4 q5 q15 q16
        rintro m Z O' ⟨j, hm, q2, q4, q5, q95, rfl⟩
        have hj : j = 0 \/ j = 1 \/ j = 2 \/ j = 3 \/ j = 4 \/ j = 5 \/ j = 6 \/ j = 7 \/ j = 8 := by omega
        rcases hj with rfl | rfl | rfl | rfl | rfl | rfl | rfl | rfl | rfl
        · repeat' (first | refine zW.zs ?_ | refine zW.zb ?_ | refine zW.zc ?_ | refine zW.zt rfl ?_ | refine zW.zf rfl ?_ | (refine zW.zd rfl (fun ht => ?_) (fun ht => ?_) <;> try (exfalso; omega)) | ((first | refine zW.regS ?_ | refine zW.zk ?_ | refine zW.ze ?_ | refine zW.zq ?_ | ((first|apply zg0|apply zg1|apply zg2|apply zg3|apply zg4|apply zg5|apply zg6|apply zg7)<;>intro ht));all_goals try simp (disch:=first|omega|(simp only [lens];first|done|omega)) only [go_sem,reduceEqDiff,Nat.reduceBEq,reduceAdd,reduceMul,reduceSub,reduceLeDiff,reduceToNat,reducePow, q2, q4, q5, q95, V8.c8]))
          exact ⟨7, by omega, 1, by omega, rfl, rfl⟩
        · repeat' (first | refine zW.zs ?_ | refine zW.zb ?_ | refine zW.zc ?_ | refine zW.zt rfl ?_ | refine zW.zf rfl ?_ | (refine zW.zd rfl (fun ht => ?_) (fun ht => ?_) <;> try (exfalso; omega)) | ((first | refine zW.regS ?_ | refine zW.zk ?_ | refine zW.ze ?_ | refine zW.zq ?_ | ((first|apply zg0|apply zg1|apply zg2|apply zg3|apply zg4|apply zg5|apply zg6|apply zg7)<;>intro ht));all_goals try simp (disch:=first|omega|(simp only [lens];first|done|omega)) only [go_sem,reduceEqDiff,Nat.reduceBEq,reduceAdd,reduceMul,reduceSub,reduceLeDiff,reduceToNat,reducePow, q2, q4, q5, q95, V8.c8]))
          exact ⟨6, by omega, 2, by omega, rfl, rfl⟩
        · repeat' (first | refine zW.zs ?_ | refine zW.zb ?_ | refine zW.zc ?_ | refine zW.zt rfl ?_ | refine zW.zf rfl ?_ | (refine zW.zd rfl (fun ht => ?_) (fun ht => ?_) <;> try (exfalso; omega)) | ((first | refine zW.regS ?_ | refine zW.zk ?_ | refine zW.ze ?_ | refine zW.zq ?_ | ((first|apply zg0|apply zg1|apply zg2|apply zg3|apply zg4|apply zg5|apply zg6|apply zg7)<;>intro ht));all_goals try simp (disch:=first|omega|(simp only [lens];first|done|omega)) only [go_sem,reduceEqDiff,Nat.reduceBEq,reduceAdd,reduceMul,reduceSub,reduceLeDiff,reduceToNat,reducePow, q2, q4, q5, q95, V8.c8]))
          exact ⟨5, by omega, 3, by omega, rfl, rfl⟩
        · repeat' (first | refine zW.zs ?_ | refine zW.zb ?_ | refine zW.zc ?_ | refine zW.zt rfl ?_ | refine zW.zf rfl ?_ | (refine zW.zd rfl (fun ht => ?_) (fun ht => ?_) <;> try (exfalso; omega)) | ((first | refine zW.regS ?_ | refine zW.zk ?_ | refine zW.ze ?_ | refine zW.zq ?_ | ((first|apply zg0|apply zg1|apply zg2|apply zg3|apply zg4|apply zg5|apply zg6|apply zg7)<;>intro ht));all_goals try simp (disch:=first|omega|(simp only [lens];first|done|omega)) only [go_sem,reduceEqDiff,Nat.reduceBEq,reduceAdd,reduceMul,reduceSub,reduceLeDiff,reduceToNat,reducePow, q2, q4, q5, q95, V8.c8]))
          exact ⟨4, by omega, 4, by omega, rfl, rfl⟩
        · repeat' (first | refine zW.zs ?_ | refine zW.zb ?_ | refine zW.zc ?_ | refine zW.zt rfl ?_ | refine zW.zf rfl ?_ | (refine zW.zd rfl (fun ht => ?_) (fun ht => ?_) <;> try (exfalso; omega)) | ((first | refine zW.regS ?_ | refine zW.zk ?_ | refine zW.ze ?_ | refine zW.zq ?_ | ((first|apply zg0|apply zg1|apply zg2|apply zg3|apply zg4|apply zg5|apply zg6|apply zg7)<;>intro ht));all_goals try simp (disch:=first|omega|(simp only [lens];first|done|omega)) only [go_sem,reduceEqDiff,Nat.reduceBEq,reduceAdd,reduceMul,reduceSub,reduceLeDiff,reduceToNat,reducePow, q2, q4, q5, q95, V8.c8]))
          exact ⟨3, by omega, 5, by omega, rfl, rfl⟩
        · repeat' (first | refine zW.zs ?_ | refine zW.zb ?_ | refine zW.zc ?_ | refine zW.zt rfl ?_ | refine zW.zf rfl ?_ | (refine zW.zd rfl (fun ht => ?_) (fun ht => ?_) <;> try (exfalso; omega)) | ((first | refine zW.regS ?_ | refine zW.zk ?_ | refine zW.ze ?_ | refine zW.zq ?_ | ((first|apply zg0|apply zg1|apply zg2|apply zg3|apply zg4|apply zg5|apply zg6|apply zg7)<;>intro ht));all_goals try simp (disch:=first|omega|(simp only [lens];first|done|omega)) only [go_sem,reduceEqDiff,Nat.reduceBEq,reduceAdd,reduceMul,reduceSub,reduceLeDiff,reduceToNat,reducePow, q2, q4, q5, q95, V8.c8]))
          exact ⟨2, by omega, 6, by omega, rfl, rfl⟩
        · repeat' (first | refine zW.zs ?_ | refine zW.zb ?_ | refine zW.zc ?_ | refine zW.zt rfl ?_ | refine zW.zf rfl ?_ | (refine zW.zd rfl (fun ht => ?_) (fun ht => ?_) <;> try (exfalso; omega)) | ((first | refine zW.regS ?_ | refine zW.zk ?_ | refine zW.ze ?_ | refine zW.zq ?_ | ((first|apply zg0|apply zg1|apply zg2|apply zg3|apply zg4|apply zg5|apply zg6|apply zg7)<;>intro ht));all_goals try simp (disch:=first|omega|(simp only [lens];first|done|omega)) only [go_sem,reduceEqDiff,Nat.reduceBEq,reduceAdd,reduceMul,reduceSub,reduceLeDiff,reduceToNat,reducePow, q2, q4, q5, q95, V8.c8]))
          exact ⟨1, by omega, 7, by omega, rfl, rfl⟩
        · repeat' (first | refine zW.zs ?_ | refine zW.zb ?_ | refine zW.zc ?_ | refine zW.zt rfl ?_ | refine zW.zf rfl ?_ | (refine zW.zd rfl (fun ht => ?_) (fun ht => ?_) <;> try (exfalso; omega)) | ((first | refine zW.regS ?_ | refine zW.zk ?_ | refine zW.ze ?_ | refine zW.zq ?_ | ((first|apply zg0|apply zg1|apply zg2|apply zg3|apply zg4|apply zg5|apply zg6|apply zg7)<;>intro ht));all_goals try simp (disch:=first|omega|(simp only [lens];first|done|omega)) only [go_sem,reduceEqDiff,Nat.reduceBEq,reduceAdd,reduceMul,reduceSub,reduceLeDiff,reduceToNat,reducePow, q2, q4, q5, q95, V8.c8]))
          exact ⟨0, by omega, 8, by omega, rfl, rfl⟩
        · repeat' (first|refine zW.zs ?_|refine zW.zb ?_|refine zW.zc ?_|refine zW.zt rfl ?_|refine zW.zf rfl ?_|(refine zW.zd rfl (fun ht => ?_) (fun ht => ?_)<;>try (exfalso;omega))|((first|refine zW.zr ?_|refine zW.zk ?_|refine zW.ze ?_|refine zW.zq ?_|((first|apply zg0|apply zg1|apply zg2|apply zg3|apply zg4|apply zg5|apply zg6|apply zg7)<;>intro ht));all_goals try simp (disch:=first|omega|(simp only [lens];first|done|omega)) only [go_sem,reduceEqDiff,Nat.reduceBEq,reduceAdd,reduceMul,reduceSub,reduceLeDiff,reduceToNat,reducePow, q2, q4, q5, q95, V8.c8]))
          exact DownV.pure hw (z14 _ rfl)
end Am
end Go.Proofs.YtncenefkbpelbaaDoor
end
section
/- Contracts of library functions, laid off the kit's shelf for this program. -/
namespace Go.Proofs
open Go.Shelf
def Tryd.lays169_ren : Go.Shelf.Ren := ⟨fun | 169 => 126 | n => n, fun | 70 => 178 | 9 => 9 | 0 => 0 | 72 => 180 | 37 => 112 | 127 => 196 | 3 => 3 | 5 => 5 | n => n, fun | n => n⟩
theorem Tryd.lays169 : Go.Proofs.Lays.n169 Tryd.prog Tryd.lays169_ren := {
  mixed := by kernel_rfl
  f169 := Tryd.func126.trans (congrArg some (by kernel_rfl))
  t0 := Tryd.underlying0
  a0 := Tryd.isAgg0
  z0 := Tryd.sizeOf0
  v0 := Tryd.zeroValue0
  t3 := Tryd.underlying3
  a3 := Tryd.isAgg3
  z3 := Tryd.sizeOf3
  v3 := Tryd.zeroValue3
  t9 := Tryd.underlying9
  a9 := Tryd.isAgg9
  z9 := Tryd.sizeOf9
  v9 := Tryd.zeroValue9
  t37 := Tryd.underlying112
  a37 := Tryd.isAgg112
  z37 := Tryd.sizeOf112
  v37 := Tryd.zeroValue112
  t70 := Tryd.underlying178
  a70 := Tryd.isAgg178
  z70 := Tryd.sizeOf178
  v70 := Tryd.zeroValue178
  t72 := Tryd.underlying180
  a72 := Tryd.isAgg180
  z72 := Tryd.sizeOf180
  v72 := Tryd.zeroValue180
  t127 := Tryd.underlying196
  a127 := Tryd.isAgg196
  z127 := Tryd.sizeOf196
  v127 := Tryd.zeroValue196 }
theorem Tryd.Builder_Extra_169 : Builder.Extra Tryd.prog Tryd.lays169_ren := {
  sizeBuilder := by kernel_rfl
  liesBuilder := by kernel_rfl
  t5 := Tryd.underlying5
  a5 := Tryd.isAgg5
  z5 := Tryd.sizeOf5
  v5 := Tryd.zeroValue5
  infoByte := by kernel_rfl
  cellsByte := by kernel_rfl
  sizeByte := by kernel_rfl
  neB5 := by decide }
open Go.RowKit in
theorem Tryd.Builder_String_any (B b : Nat) (l : List UInt8) (w : World) (h : Lib.IsBuilder 180 5 B b (Lib.byteCells l) w) (hBw : B <= w.heap.size) :
    Calls Tryd.prog 126 #[.pointer (some ⟨b, 0, none⟩)] w fun e w' => e = .returned (.string ⟨l.toArray⟩) /\ Below B w w' := Any.Builder_String_any Tryd.lays169 Tryd.Builder_Extra_169 B b l w h hBw
def Tryd.lays105_ren : Go.Shelf.Ren := ⟨fun | 105 => 138 | 212 => 147 | 99 => 148 | 165 => 149 | 166 => 125 | 170 => 150 | 169 => 126 | 263 => 156 | 264 => 157 | 206 => 158 | 240 => 141 | 241 => 159 | 276 => 153 | 277 => 161 | n => n, fun | 9 => 9 | 3 => 3 | 4 => 4 | 20 => 20 | 0 => 0 | 46 => 170 | 109 => 201 | 5 => 5 | 72 => 180 | 76 => 184 | 51 => 166 | 146 => 209 | 53 => 175 | 148 => 211 | 70 => 178 | 37 => 112 | 75 => 182 | 127 => 196 | 164 => 206 | 80 => 186 | n => n, fun | n => n⟩
theorem Tryd.lays105 : Go.Proofs.Lays.n105 Tryd.prog Tryd.lays105_ren := {
  mixed := by kernel_rfl
  f99 := Tryd.func148.trans (congrArg some (by kernel_rfl))
  f105 := Tryd.func138.trans (congrArg some (by kernel_rfl))
  f165 := Tryd.func149.trans (congrArg some (by kernel_rfl))
  f166 := Tryd.func125.trans (congrArg some (by kernel_rfl))
  f169 := Tryd.func126.trans (congrArg some (by kernel_rfl))
  f170 := Tryd.func150.trans (congrArg some (by kernel_rfl))
  f206 := Tryd.func158.trans (congrArg some (by kernel_rfl))
  f212 := Tryd.func147.trans (congrArg some (by kernel_rfl))
  f240 := Tryd.func141.trans (congrArg some (by kernel_rfl))
  f241 := Tryd.func159.trans (congrArg some (by kernel_rfl))
  f263 := Tryd.func156.trans (congrArg some (by kernel_rfl))
  f264 := Tryd.func157.trans (congrArg some (by kernel_rfl))
  f276 := Tryd.func153.trans (congrArg some (by kernel_rfl))
  f277 := Tryd.func161.trans (congrArg some (by kernel_rfl))
  t0 := Tryd.underlying0
  a0 := Tryd.isAgg0
  z0 := Tryd.sizeOf0
  v0 := Tryd.zeroValue0
  t3 := Tryd.underlying3
  a3 := Tryd.isAgg3
  z3 := Tryd.sizeOf3
  v3 := Tryd.zeroValue3
  t4 := Tryd.underlying4
  a4 := Tryd.isAgg4
  z4 := Tryd.sizeOf4
  v4 := Tryd.zeroValue4
  t5 := Tryd.underlying5
  a5 := Tryd.isAgg5
  z5 := Tryd.sizeOf5
  v5 := Tryd.zeroValue5
  t9 := Tryd.underlying9
  a9 := Tryd.isAgg9
  z9 := Tryd.sizeOf9
  v9 := Tryd.zeroValue9
  t20 := Tryd.underlying20
  a20 := Tryd.isAgg20
  z20 := Tryd.sizeOf20
  v20 := Tryd.zeroValue20
  t37 := Tryd.underlying112
  a37 := Tryd.isAgg112
  z37 := Tryd.sizeOf112
  v37 := Tryd.zeroValue112
  t46 := Tryd.underlying170
  a46 := Tryd.isAgg170
  z46 := Tryd.sizeOf170
  v46 := Tryd.zeroValue170
  t51 := Tryd.underlying166
  a51 := Tryd.isAgg166
  z51 := Tryd.sizeOf166
  v51 := Tryd.zeroValue166
  t53 := Tryd.underlying175
  a53 := Tryd.isAgg175
  z53 := Tryd.sizeOf175
  v53 := Tryd.zeroValue175
  t70 := Tryd.underlying178
  a70 := Tryd.isAgg178
  z70 := Tryd.sizeOf178
  v70 := Tryd.zeroValue178
  t72 := Tryd.underlying180
  a72 := Tryd.isAgg180
  z72 := Tryd.sizeOf180
  v72 := Tryd.zeroValue180
  t75 := Tryd.underlying182
  a75 := Tryd.isAgg182
  z75 := Tryd.sizeOf182
  v75 := Tryd.zeroValue182
  t76 := Tryd.underlying184
  a76 := Tryd.isAgg184
  z76 := Tryd.sizeOf184
  v76 := Tryd.zeroValue184
  t109 := Tryd.underlying201
  a109 := Tryd.isAgg201
  z109 := Tryd.sizeOf201
  v109 := Tryd.zeroValue201
  t127 := Tryd.underlying196
  a127 := Tryd.isAgg196
  z127 := Tryd.sizeOf196
  v127 := Tryd.zeroValue196
  t146 := Tryd.underlying209
  a146 := Tryd.isAgg209
  z146 := Tryd.sizeOf209
  v146 := Tryd.zeroValue209
  t148 := Tryd.underlying211
  a148 := Tryd.isAgg211
  z148 := Tryd.sizeOf211
  v148 := Tryd.zeroValue211
  t164 := Tryd.underlying206
  a164 := Tryd.isAgg206
  z164 := Tryd.sizeOf206
  v164 := Tryd.zeroValue206 }
theorem Tryd.Builder_Extra_105 : Builder.Extra Tryd.prog Tryd.lays105_ren := {
  sizeBuilder := by kernel_rfl
  liesBuilder := by kernel_rfl
  t5 := Tryd.underlying5
  a5 := Tryd.isAgg5
  z5 := Tryd.sizeOf5
  v5 := Tryd.zeroValue5
  infoByte := by kernel_rfl
  cellsByte := by kernel_rfl
  sizeByte := by kernel_rfl
  neB5 := by decide }
open Go.RowKit Go.Lib in
theorem Tryd.strings_Repeat (s : ByteArray) (c : Nat) (w : World) (hc : c <= 9223372036854775807) (hlen : s.size * c <= 140737488355328) :
    Calls Tryd.prog 138 #[.string s, .int .i64 c] w fun e w' => e = .returned (.string ⟨(Lib.repeatL s.data.toList c).toArray⟩) /\ Below w.heap.size w w' := Any.strings_Repeat Tryd.lays105 Tryd.Builder_Extra_105 s c w hc hlen
end Go.Proofs
end
section
/- SHA-256: contracts: strings.Repeat (off the shelf), filled, Sum. -/
namespace Go.Proofs.YtncenefkbpelbaaDoor
namespace Am
open Go.RowKit
/-- A hash's cells. -/
def zg (l : List UInt8) : List AV := l.map fun b => .int .u8 b.toNat
theorem z3l {k : Nat} : ∀ (l : List UInt8), RLs k (zg l)
  | [] => by simp [zg, RLs]
  | _ :: l => by have := z3l (k := k) l; simp only [zg] at this; simp [zg, RLs, RL, this]
theorem Rel.below {C : Ctx} {γ : Places} {O : Store} {w w' : World} (h : Rel C γ O w) (hb : Below w.heap.size w w') : Step γ w γ w' /\ Rel C γ O w' := by
  have hs : Step γ w γ w' := ⟨fun r fl pl h => ⟨fl, h⟩, hb.size, fun b hb' _ => hb.block b hb', fun r pl h => .inl ⟨r, pl, h, rfl⟩, hb.os, hb.tape, hb.output⟩
  refine ⟨hs, h.len, fun r o hr => ?_, h.dead, h.inj, fun g cs hg => (h.gl g cs hg).mono hs⟩
  obtain ⟨pl, h1, h2⟩ := h.alive r o hr
  exact ⟨pl, h1, h2.mono hs (hb.block _ h2.lt)⟩
/-- A contract that lies elsewhere: the call leaves what was there. -/
theorem ACallsTo.of_calls {C : Ctx} {f : FuncId} {args : List AV} {O : Store} {v : AV} (hc : (cFn C f).isSome = true)
    (h : ∀ (γ : Places) (w : World) (cargs : List Value), VRt γ w args cargs -> Calls C.P f cargs.toArray w fun e w' => ∃ cv, e = .returned cv /\ VR γ w' v cv /\ Below w.heap.size w w') : ACallsTo C f args O v O := by
  obtain ⟨e, hc⟩ := Option.isSome_iff_exists.1 hc
  simp only [cFn, Option.bind_eq_some_iff] at hc
  obtain ⟨fn, hf, hc⟩ := hc
  split at hc
  · cases hc
  · rename_i hname
    simp only [Option.bind_eq_some_iff, Option.map_eq_some_iff] at hc
    obtain ⟨c, hb, _⟩ := hc
    intro γ w cargs hR ha
    left
    constructor
    · have h1 : fn.name ≠ "runtime.NumGoroutine" := by simpa using hname
      simp [callFunc, hf, h1, hb]
    · refine (h γ w cargs ha).mono ?_
      rintro e w' ⟨cv, rfl, hv, hbl⟩
      obtain ⟨s1, s2⟩ := hR.below hbl
      exact ⟨cv, γ, rfl, s1, s2, hv⟩
theorem znp (b : UInt8) : ∀ n, Lib.repeatL [b] n = List.replicate n b := by
  intro n
  induction n with
  | zero => simp [Lib.repeatL]
  | succ n ih => simp [Lib.repeatL, List.replicate_succ] at ih ⊢ <;> simp [ih]
theorem zfp (O : Store) (b : UInt8) (c : Nat) (h : c <= 1000000) : ACallsTo TC 138 [.str [b], .int .i64 c] O (.str (List.replicate c b)) O := by
  refine ACallsTo.of_calls (by kernel_rfl) ?_
  intro γ w cargs ha
  simp only [VRt, VR] at ha
  obtain ⟨_, _, rfl, rfl, _, _, rfl, rfl, rfl⟩ := ha
  refine (Tryd.strings_Repeat ⟨[b].toArray⟩ c w (by omega) (by simp [ByteArray.size]; omega)).mono ?_
  rintro e w' ⟨rfl, hb⟩
  refine ⟨_, rfl, ?_, hb⟩
  simp only [VR]
  rw [znp]
theorem zk1 (O : Store) (s : List UInt8) (h : s.length < 1000000000000) : ACallsTo TC 122 [.str s] O (.str (padS s)) O := by
  refine ACallsTo.of_body qcok (by simp) fun hw _ => ?_
  obtain ⟨z, hz⟩ : ∃ z : Nat, z = (119 - s.length % 64) % 64 := ⟨_, rfl⟩
  have hz64 : z < 64 := by rw [hz]; exact Nat.mod_lt _ (by decide)
  have hz2 : (119 - (s.length : Int) % 64) % 64 = z := by omega
  have hp : putS ((s.length : Int) * 8) 8 = be 8 (s.length * 8) := by
    unfold putS
    rw [if_pos (by omega)]
    rfl
  have hpl : (be 8 (s.length * 8)).length = 8 := z52 _ _
  repeat' (first|refine zW.zs ?_|refine zW.zb ?_|refine zW.zc ?_|refine zW.zt rfl ?_|refine zW.zf rfl ?_|(refine zW.zd rfl (fun ht => ?_) (fun ht => ?_)<;>try (exfalso;omega))|((first|refine zW.zr ?_|refine zW.zk ?_|refine zW.ze ?_|refine zW.zq ?_|(apply callW.mk_pu; (first | exact (fun _ => zfp _ 0 z (by omega)) | exact (fun _ => z91 _ ((s.length : Int) * 8) 8 (by omega) (by omega)))) | (apply callW.za; (first | exact (zfp _ 0 z (by omega)) | exact (z91 _ ((s.length : Int) * 8) 8 (by omega) (by omega)))) | ((first|apply zg0|apply zg1|apply zg2|apply zg3|apply zg4|apply zg5|apply zg6|apply zg7)<;>intro ht));all_goals try simp (disch:=first|omega|(simp only [lens];first|done|omega)) only [go_sem,reduceEqDiff,Nat.reduceBEq,reduceAdd,reduceMul,reduceSub,reduceLeDiff,reduceToNat,reducePow, hz2, hp, hpl, List.length_replicate]))
  have e : s ++ ([128] ++ (List.replicate z 0 ++ be 8 (s.length * 8))) = padS s := by unfold padS; rw [<- hz]; rfl
  rw [show s ++ 128 :: (List.replicate z 0 ++ be 8 (s.length * 8)) = padS s by unfold padS; rw [<- hz]]
  exact DownV.same hw (z14 _ rfl)
theorem zfa (s : List UInt8) : (padS s).length % 64 = 0 /\ (padS s).length < s.length + 80 := by
  unfold padS
  simp only [List.length_append, List.length_cons, List.length_replicate, z52]
  omega
theorem zk5 : zb1 = v0.c8 := rfl
theorem put4 (x : W) : putS (x.toNat : Int) 4 = be 4 x.toNat := by
  unfold putS
  rw [if_pos (by omega)]
  rfl
theorem mix_c8 (O : Store) (v : V8) (s : List UInt8) (h : 64 <= s.length) (hs : s.length < 9223372036854775808) : ACallsTo TC 123 [.agg v.c8, .str s] O (.agg (mixS v s).c8) O := mix_to O v s h hs
theorem zk3 {l : List W} {j : Nat} (h : j < l.length) : (l.flatMap fun x => be 4 x.toNat).take (4 * j) ++ be 4 (l[j]).toNat = (l.flatMap fun x => be 4 x.toNat).take (4 * (j + 1)) := by
  induction l generalizing j with
  | nil => simp at h
  | cons x l ih =>
    have hb : (be 4 x.toNat).length = 4 := z52 _ _
    rw [List.flatMap_cons]
    cases j with
    | zero =>
      simp only [Nat.mul_zero, List.take_zero, List.nil_append, List.getElem_cons_zero, Nat.zero_add, Nat.mul_one]
      rw [List.take_append_of_le_length (by omega), List.take_of_length_le (by omega)]
    | succ j =>
      simp only [List.length_cons] at h
      have e1 : (be 4 x.toNat).take (4 * (j + 1)) = be 4 x.toNat := List.take_of_length_le (by omega)
      have e2 : (be 4 x.toNat).take (4 * (j + 1 + 1)) = be 4 x.toNat := List.take_of_length_le (by omega)
      rw [List.getElem_cons_succ, List.take_append, List.take_append, e1, e2, hb, List.append_assoc, show 4 * (j + 1) - 4 = 4 * j by omega, show 4 * (j + 1 + 1) - 4 = 4 * (j + 1) by omega, ih (by omega)]
theorem z5a (v : V8) : (outV v).length = 32 := by
  simp [outV, V8.l, z52]
def z4q (v : V8) (j : Nat) : List AV := zg ((outV v).take (4 * j)) ++ List.replicate (32 - 4 * j) (.int .u8 0)
theorem z18 (l : List UInt8) : (zg l).length = l.length := by simp [zg]
theorem zki (v : V8) {j : Nat} (h : j <= 8) : (z4q v j).length = 32 := by
  simp [z4q, z18, z5a]; omega
theorem zij (l : List UInt8) : (zl l).flatten = zg l := by
  induction l with
  | nil => rfl
  | cons b l ih => simp [zl, zg, B8] at ih ⊢; exact ih
theorem zkj (v : V8) {j : Nat} (h : j < 8) : z19 (z4q v j) (4 * j) (zg (be 4 (wat v.l j).toNat)) = z4q v (j + 1) := by
  have hl : v.l.length = 8 := rfl
  have e := zk3 (l := v.l) (j := j) (by omega)
  have hw : wat v.l j = v.l[j]'(by omega) := by simp [wat, List.getD_eq_getElem?_getD, List.getElem?_eq_getElem (show j < v.l.length by omega)]
  have h1 : (zg ((outV v).take (4 * j))).length = 4 * j := by rw [z18, List.length_take, z5a]; omega
  have h2 : (zg (be 4 (wat v.l j).toNat)).length = 4 := by rw [z18, z52]
  unfold z19 z4q
  rw [List.take_append_of_le_length (by omega), List.take_of_length_le (by omega), List.drop_append, List.drop_of_length_le (by omega), h1, h2, List.nil_append]
  rw [show 4 * j + 4 - 4 * j = 4 by omega, List.drop_replicate, show 32 - 4 * j - 4 = 32 - 4 * (j + 1) by omega]
  congr 1
  unfold zg
  rw [<- List.map_append]
  congr 1
  rw [hw]
  exact e
set_option maxHeartbeats 4000000 in
theorem z79 (O : Store) (s : List UInt8) (h : s.length < 100000000000) : ACallsTo TC 87 [.str s] O (.agg (zg (shaS s))) O := by
  obtain ⟨p, hp⟩ : ∃ p, p = padS s := ⟨_, rfl⟩
  obtain ⟨hp1, hp2⟩ := zfa s
  rw [<- hp] at hp1 hp2
  obtain ⟨N, hN⟩ : ∃ N, p.length = 64 * N := ⟨p.length / 64, by omega⟩
  obtain ⟨V, hV⟩ : ∃ V, V = z5i N v0 p := ⟨_, rfl⟩
  have hS : shaS s = outV V := by
    unfold shaS
    rw [<- hp, hV]
    have : p.length / 64 = N := by omega
    rw [this]
  rw [hS]
  have hf := fun O => zk1 O s (by omega)
  rw [<- hp] at hf
  refine ACallsTo.of_body q9ok (by simp) fun hw _ => ?_
  repeat' (first|refine zW.zs ?_|refine zW.zb ?_|refine zW.zc ?_|refine zW.zt rfl ?_|refine zW.zf rfl ?_|(refine zW.zd rfl (fun ht => ?_) (fun ht => ?_)<;>try (exfalso;omega))|((first|refine zW.zr ?_|refine zW.zk ?_|refine zW.ze ?_|refine zW.zq ?_|(apply callW.mk_pu; (first | exact (fun _ => hf _))) | (apply callW.za; (first | exact (hf _))) | ((first|apply zg0|apply zg1|apply zg2|apply zg3|apply zg4|apply zg5|apply zg6|apply zg7)<;>intro ht));all_goals try simp (disch:=first|omega|(simp only [lens];first|done|omega)) only [go_sem,reduceEqDiff,Nat.reduceBEq,reduceAdd,reduceMul,reduceSub,reduceLeDiff,reduceToNat,reducePow, zk5, V8.c8]))
  refine zW.loop (fun m Z O' => ∃ u q, q.length = 64 * m /\ q.length <= p.length /\ z5i m u q = V /\ Z 2 = .ptr O.length 0 0 /\ Z 3 = .ptr (O.length + 1) 0 0 /\ Z 4 = .str q /\ O' = O ++ [some [zg (List.replicate 32 0)], some [u.c8]]) N ?_ ?_
  · exact ⟨v0, p, hN, Nat.le_refl _, hV.symm, by simp (disch:=first|omega|(simp only [lens];first|done|omega)) only [go_sem,reduceEqDiff,Nat.reduceBEq,reduceAdd,reduceMul,reduceSub,reduceLeDiff,reduceToNat,reducePow], by simp (disch:=first|omega|(simp only [lens];first|done|omega)) only [go_sem,reduceEqDiff,Nat.reduceBEq,reduceAdd,reduceMul,reduceSub,reduceLeDiff,reduceToNat,reducePow], by simp (disch:=first|omega|(simp only [lens];first|done|omega)) only [go_sem,reduceEqDiff,Nat.reduceBEq,reduceAdd,reduceMul,reduceSub,reduceLeDiff,reduceToNat,reducePow], rfl⟩
  · rintro m Z O' ⟨u, q, hq, hqp, hb, q2, q3, q4, rfl⟩
    have hz : (zg (List.replicate 32 0)).length = 32 := rfl
    cases m with
    | succ m =>
      have hne : (q == []) = false := by cases q with
        | nil => simp at hq
        | cons a q => rfl
      have hmix := fun O => mix_c8 O u (q.take 64) (by rw [List.length_take]; omega) (by rw [List.length_take]; omega)
      obtain ⟨M, hM⟩ : ∃ M, M = mixS u (q.take 64) := ⟨_, rfl⟩
      rw [<- hM] at hmix
      have hb2 : z5i m M (q.drop 64) = V := by rw [hM]; exact hb
      unfold V8.c8 at hmix
      repeat' (first | refine zW.zs ?_ | refine zW.zb ?_ | refine zW.zc ?_ | refine zW.zt rfl ?_ | refine zW.zf rfl ?_ | (refine zW.zd rfl (fun ht => ?_) (fun ht => ?_) <;> try (exfalso; omega)) | ((first | refine zW.regS ?_ | refine zW.zk ?_ | refine zW.ze ?_ | refine zW.zq ?_ | (apply callW.mk_pu; (first | exact (fun _ => hmix _))) | (apply callW.za; (first | exact (hmix _))) | ((first|apply zg0|apply zg1|apply zg2|apply zg3|apply zg4|apply zg5|apply zg6|apply zg7)<;>intro ht));all_goals try simp (disch:=first|omega|(simp only [lens];first|done|omega)) only [go_sem,reduceEqDiff,Nat.reduceBEq,reduceAdd,reduceMul,reduceSub,reduceLeDiff,reduceToNat,reducePow, q2, q3, q4, hne, V8.c8]))
      refine ⟨m, by omega, M, q.drop 64, by rw [List.length_drop]; omega, by rw [List.length_drop]; omega, hb2, rfl, rfl⟩
    | zero =>
      have hq0 : q = [] := List.eq_nil_of_length_eq_zero (by omega)
      subst hq0
      have hu : u = V := hb
      subst hu
      repeat' (first|refine zW.zs ?_|refine zW.zb ?_|refine zW.zc ?_|refine zW.zt rfl ?_|refine zW.zf rfl ?_|(refine zW.zd rfl (fun ht => ?_) (fun ht => ?_)<;>try (exfalso;omega))|((first|refine zW.zr ?_|refine zW.zk ?_|refine zW.ze ?_|refine zW.zq ?_|((first|apply zg0|apply zg1|apply zg2|apply zg3|apply zg4|apply zg5|apply zg6|apply zg7)<;>intro ht));all_goals try simp (disch:=first|omega|(simp only [lens];first|done|omega)) only [go_sem,reduceEqDiff,Nat.reduceBEq,reduceAdd,reduceMul,reduceSub,reduceLeDiff,reduceToNat,reducePow, q2, q3, q4, V8.c8]))
      refine zW.loop (fun m Z O' => ∃ j : Nat, m + j = 8 /\ Z 2 = .ptr O.length 0 0 /\ Z 5 = .ptr (O.length + 2) 0 0 /\ Z 19 = .agg u.c8 /\ Z 20 = .int .i64 j /\ O' = O ++ [some [zg (List.replicate 32 0)], some [u.c8], some [z4q u j]]) 8 ?_ ?_
      · exact ⟨0, by omega, by simp (disch:=first|omega|(simp only [lens];first|done|omega)) only [go_sem,reduceEqDiff,Nat.reduceBEq,reduceAdd,reduceMul,reduceSub,reduceLeDiff,reduceToNat,reducePow, q2], by simp (disch:=first|omega|(simp only [lens];first|done|omega)) only [go_sem,reduceEqDiff,Nat.reduceBEq,reduceAdd,reduceMul,reduceSub,reduceLeDiff,reduceToNat,reducePow], by simp (disch:=first|omega|(simp only [lens];first|done|omega)) only [go_sem,reduceEqDiff,Nat.reduceBEq,reduceAdd,reduceMul,reduceSub,reduceLeDiff,reduceToNat,reducePow]; rfl, by simp (disch:=first|omega|(simp only [lens];first|done|omega)) only [go_sem,reduceEqDiff,Nat.reduceBEq,reduceAdd,reduceMul,reduceSub,reduceLeDiff,reduceToNat,reducePow]; rfl, rfl⟩
      · clear q2 q3 q4
        rintro m Z O' ⟨j, hm, q2, q5, q19, q20, rfl⟩
        have hlen := zki u (j := j) (by omega)
        have h8 : u.c8.length = 8 := rfl
        by_cases hj : j < 8
        · have hst := zkj u hj
          have hw := z7d (w := u.l) (i := j) (by simpa [V8.l] using hj)
          rw [ws_l] at hw
          generalize wat u.l j = x at *
          generalize z4q u j = cc at *
          generalize hcc : z4q u (j + 1) = cc' at *
          have hx : x.toNat < 4294967296 := x.isLt
          have hb4 : (be 4 x.toNat).length = 4 := z52 _ _
          have ht4 : (zl (be 4 x.toNat)).take (32 - 4 * j) = zl (be 4 x.toNat) := List.take_of_length_le (by rw [z44, hb4]; omega)
          have hn4 : (4 * (j : Int)).toNat = 4 * j := by omega
          repeat' (first | refine zW.zs ?_ | refine zW.zb ?_ | refine zW.zc ?_ | refine zW.zt rfl ?_ | refine zW.zf rfl ?_ | (refine zW.zd rfl (fun ht => ?_) (fun ht => ?_) <;> try (exfalso; omega)) | ((first | refine zW.regS ?_ | refine zW.zk ?_ | refine zW.ze ?_ | refine zW.zq ?_ | (apply callW.mk_pu; (first | exact (fun _ => z91 _ _ _ (by omega) (by omega)))) | (apply callW.za; (first | exact (z91 _ _ _ (by omega) (by omega)))) | ((first|apply zg0|apply zg1|apply zg2|apply zg3|apply zg4|apply zg5|apply zg6|apply zg7)<;>intro ht));all_goals try simp (disch:=first|omega|(simp only [lens];first|done|omega)) only [go_sem,reduceEqDiff,Nat.reduceBEq,reduceAdd,reduceMul,reduceSub,reduceLeDiff,reduceToNat,reducePow, q2, q5, q19, q20, hlen, h8, hw, put4, hb4, ht4, hst, hn4, zij]))
          unfold z19 at hst
          rw [List.append_assoc] at hst
          exact ⟨8 - (j + 1), by omega, j + 1, by omega, by simp, by rw [hst, hcc]⟩
        · obtain rfl : j = 8 := by omega
          have e8 : z4q u 8 = zg (outV u) := by
            unfold z4q
            rw [List.take_of_length_le (by rw [z5a]; decide)]
            exact List.append_nil _
          have hd : List.drop 32 (zg (List.replicate 32 0)) = [] := rfl
          have hl : (zg (outV u)).length = 32 := by rw [z18, z5a]
          rw [e8] at *
          repeat' (first|refine zW.zs ?_|refine zW.zb ?_|refine zW.zc ?_|refine zW.zt rfl ?_|refine zW.zf rfl ?_|(refine zW.zd rfl (fun ht => ?_) (fun ht => ?_)<;>try (exfalso;omega))|((first|refine zW.zr ?_|refine zW.zk ?_|refine zW.ze ?_|refine zW.zq ?_|((first|apply zg0|apply zg1|apply zg2|apply zg3|apply zg4|apply zg5|apply zg6|apply zg7)<;>intro ht));all_goals try simp (disch:=first|omega|(simp only [lens];first|done|omega)) only [go_sem,reduceEqDiff,Nat.reduceBEq,reduceAdd,reduceMul,reduceSub,reduceLeDiff,reduceToNat,reducePow, q2, q5, q19, q20, hl, h8, hd]))
          exact DownV.pure hw (z3j (z3l _))
end Am
end Go.Proofs.YtncenefkbpelbaaDoor
end
section
/- strings.Builder: the contracts of copyCheck and String over the abstract store. -/
namespace Go.Proofs
open Go.Shelf Go.RowKit
def Tryd.lays240_ren : Go.Shelf.Ren := ⟨fun | 240 => 141 | 276 => 153 | n => n, fun | 0 => 0 | 4 => 4 | 9 => 9 | 20 => 20 | 70 => 178 | 72 => 180 | 164 => 206 | 37 => 112 | n => n, fun | n => n⟩
theorem Tryd.lays240 : Go.Proofs.Lays.n240 Tryd.prog Tryd.lays240_ren := {
  mixed := by kernel_rfl
  f240 := Tryd.func141.trans (congrArg some (by kernel_rfl))
  f276 := Tryd.func153.trans (congrArg some (by kernel_rfl))
  t0 := Tryd.underlying0
  a0 := Tryd.isAgg0
  z0 := Tryd.sizeOf0
  v0 := Tryd.zeroValue0
  t4 := Tryd.underlying4
  a4 := Tryd.isAgg4
  z4 := Tryd.sizeOf4
  v4 := Tryd.zeroValue4
  t9 := Tryd.underlying9
  a9 := Tryd.isAgg9
  z9 := Tryd.sizeOf9
  v9 := Tryd.zeroValue9
  t20 := Tryd.underlying20
  a20 := Tryd.isAgg20
  z20 := Tryd.sizeOf20
  v20 := Tryd.zeroValue20
  t70 := Tryd.underlying178
  a70 := Tryd.isAgg178
  z70 := Tryd.sizeOf178
  v70 := Tryd.zeroValue178
  t72 := Tryd.underlying180
  a72 := Tryd.isAgg180
  z72 := Tryd.sizeOf180
  v72 := Tryd.zeroValue180
  t164 := Tryd.underlying206
  a164 := Tryd.isAgg206
  z164 := Tryd.sizeOf206
  v164 := Tryd.zeroValue206 }
theorem Tryd.x72_240 : Builder.X72 Tryd.prog Tryd.lays240_ren := {
  sizeBuilder := by kernel_rfl
  liesBuilder := by kernel_rfl }
section
variable {P : Program} {Z : Ren}
set_option maxHeartbeats 1000000 in
set_option maxRecDepth 100000 in
/-- String, with all that it turns: the bytes are frozen. -/
theorem Tryd.string_ex (L : Lays.n169 P Z) (X : Builder.Extra P Z) (b g cap : Nat) (cur : Array Value) (p : Value) (fb fg : Nat × Nat) (l : List UInt8) (w : World) (h0 : l ≠ [])
    (hbk : w.heap[b]? = some (.cells #[p, .slice (some ⟨g, 0, none⟩) l.length cap] (Z.t 72) fb)) (hg : w.heap[g]? = some (.cells cur (Z.t 5) fg)) (hnc : l.length <= cap) (hcs : l.length <= cur.size) (hln : l.length <= 9223372036854775807)
    (hcl : ∀ j x, l[j]? = some x -> w.cell? ((⟨g, 0, none⟩ : Addr).add j) = some (.int .u8 x.toNat)) :
    Calls P (Z.f 169) #[.pointer (some ⟨b, 0, none⟩)] w fun e w' => e = .returned (.string ⟨l.toArray⟩) /\ w' = w.drew.freeze ⟨g, 0, none⟩ l.length := by
  have hl0 : l.length ≠ 0 := by simpa using h0
  have c1 : w.drew.cell? ⟨b, 1, none⟩ = some (.slice (some ⟨g, 0, none⟩) l.length cap) := by
    have : w.drew.heap[b]? = some (.cells #[p, .slice (some ⟨g, 0, none⟩) l.length cap] (Z.t 72) fb) := hbk
    rw [Lib.cell_of_heap this]; rfl
  have hSD : (Builtin.unsafeSliceData_ #[(Z.t 37)] (Z.t 127) #[.slice (some ⟨g, 0, none⟩) l.length cap]).run P w.drew = .ok (.pointer (some ⟨g, 0, none⟩)) w.drew :=
    Lib.run_unsafeSliceData_row _ _ _ _ _ _ (by omega)
  have hUS : (Builtin.unsafeString_ #[(Z.t 127), (Z.t 3)] (Z.t 9) #[.pointer (some ⟨g, 0, none⟩), .int .i64 l.length]).run P w.drew = .ok (.string ⟨l.toArray⟩) (w.drew.freeze ⟨g, 0, none⟩ l.length) :=
    Lib.run_unsafeString_row w.drew (Z.t 127) (Z.t 3) (Z.t 9) (Z.t 5) L.t127 X.cellsByte g cur.size (by have hg' : w.drew.heap[g]? = some (.cells cur (Z.t 5) fg) := hg; simp [World.shape?, hg']) l h0 hcs hln hcl
  have mixed := L.mixed
  have t72 := L.t72; have a72 := L.a72; have z72 := L.z72; have v72 := L.v72; have u72 := run_underlying L.t72
  have t70 := L.t70; have a70 := L.a70; have z70 := L.z70; have v70 := L.v70; have u70 := run_underlying L.t70
  have t37 := L.t37; have a37 := L.a37; have z37 := L.z37; have v37 := L.v37; have u37 := run_underlying L.t37
  have t127 := L.t127; have a127 := L.a127; have z127 := L.z127; have v127 := L.v127; have u127 := run_underlying L.t127
  have t3 := L.t3; have a3 := L.a3; have z3 := L.z3; have v3 := L.v3; have u3 := run_underlying L.t3
  have t9 := L.t9; have a9 := L.a9; have z9 := L.z9; have v9 := L.v9; have u9 := run_underlying L.t9
  have t5 := X.t5; have a5 := X.a5; have z5 := X.z5; have v5 := X.v5; have u5 := run_underlying X.t5
  clear hcl hcs hln hg hbk hnc
  go_enter L.f169, Body.n169_ntmps Z
  go_wp2
  go_region_o
  all_goals (go_wp2; go_ret; exact ⟨rfl, rfl⟩)
end
end Go.Proofs
namespace Go.Proofs.YtncenefkbpelbaaDoor
namespace Am
open Go.RowKit
section
variable {C : Ctx} {γ : Places} {O : Store} {w w' : World}
/-- A row is lost: its block may become what it will. -/
theorem Rel.lose (h : Rel C γ O w) {r : Nat} {pl : Place} (hr : γ[r]? = some (true, pl)) (hsz : w'.heap.size = w.heap.size) (hother : ∀ b, b ≠ pl.b -> w'.heap[b]? = w.heap[b]?) (ho : w'.os = w.os) (ht : w'.tape = w.tape) (hp : w'.output = w.output) :
    Step γ w (γ.set r (false, pl)) w' /\ Rel C (γ.set r (false, pl)) (O.set r none) w' := by
  obtain ⟨k1, k2⟩ := h.kill hr
  have hrl : r < γ.length := (List.getElem?_eq_some_iff.1 hr).1
  have hs : Step γ w (γ.set r (false, pl)) w' := ⟨k1.keep, by omega, fun b _ hn => hother b fun e => hn r pl hr e.symm, fun q x hx => by
    rcases k1.new q x hx with h | h
    · exact .inl h
    · exact .inr h, ho, ht, hp⟩
  refine ⟨hs, by simp [h.len], fun q o hq => ?_, fun q hq => k2.dead q hq, fun q q' x x' h1 h2 h3 => k2.inj q q' x x' h1 h2 h3, fun g cs hg => (h.gl g cs hg).mono hs⟩
  by_cases e : r = q
  · subst e
    rw [List.getElem?_set_self (by rw [<- h.len]; exact hrl)] at hq; cases hq
  · rw [List.getElem?_set_ne e] at hq
    obtain ⟨x, h1, h2⟩ := h.alive q o hq
    exact ⟨x, by rw [List.getElem?_set_ne e]; exact h1, h2.mono hs (hother _ fun e' => e (h.inj r q pl x hr h1 e'.symm))⟩
/-- A builder in memory. -/
theorem Rel.bld_at (hR : Rel C γ O w) {r : Nat} {x : AV} (hr : O[r]? = some (some [[.bld r, x]])) : ∃ (pl : Place) (v0 v1 : Value) (fz : Nat × Nat), γ[r]? = some (true, pl) /\ pl.base = 0 /\ pl.esz = 2 /\ w.heap[pl.b]? = some (.cells #[v0, v1] bldT fz) ∧
    (v0 = .pointer none \/ v0 = .pointer (some ⟨pl.b, 0, none⟩)) /\ VR γ w x v1 /\ (∀ k, k < 2 -> (decide (fz.1 <= k) && decide (k < fz.2)) = false) := by
  obtain ⟨pl, hpl, hok⟩ := hR.alive r _ hr
  obtain ⟨c, ty, fz, pre, mid, post, q1, q2, q3, q4, q5, q6⟩ := hok.ex
  simp only [List.flatten_cons, List.flatten_nil, List.append_nil, VRs] at q5
  obtain ⟨v0, _, rfl, ⟨k1, _⟩, v1, _, rfl, ⟨k2, _⟩, rfl⟩ := q5
  simp only [VR] at k1
  obtain ⟨fl, pl', hpl', ⟨e1, e2, e3, e4, e5⟩, k3⟩ := k1
  rw [hpl] at hpl'; cases hpl'
  have hty : ty = bldT := by
    obtain ⟨c0, fz0, h0⟩ := hok.tyk
    rw [q1] at h0; cases h0; exact e1
  have hpre : pre = [] := List.eq_nil_of_length_eq_zero (by omega)
  subst hpre
  have hlen : c.toList.length = 2 := by rw [Array.length_toList, q4, e5]
  have hpost : post = [] := by
    rw [q2] at hlen
    simpa using hlen
  subst hpost
  have hc : c = #[v0, v1] := by
    apply Array.ext'
    rw [q2]; rfl
  subst hc hty
  exact ⟨pl, v0, v1, fz, hpl, e2, e3, q1, k3, k2, fun k hk => q6 k hk⟩
end
theorem zo3 {O : Store} {r : Nat} {x : Option AObj} (h : O[r]? = some x) : O.set r x = O := by
  apply List.ext_getElem?
  intro i
  by_cases e : r = i
  · subst e
    rw [List.getElem?_set_self (List.getElem?_eq_some_iff.1 h).1, h]
  · rw [List.getElem?_set_ne e]
theorem zar (O : Store) (r : Nat) (x : AV) (hr : O[r]? = some (some [[.bld r, x]])) : ACallsTo TC 141 [.ptr r 0 0] O (.tup []) O := by
  obtain ⟨e, hc⟩ := Option.isSome_iff_exists.1 (show (cFn TC 141).isSome = true by kernel_rfl)
  simp only [cFn, Option.bind_eq_some_iff] at hc
  obtain ⟨fn, hf, hc⟩ := hc
  split at hc
  · cases hc
  · rename_i hname
    simp only [Option.bind_eq_some_iff, Option.map_eq_some_iff] at hc
    obtain ⟨c, hb, _⟩ := hc
    intro γ w cargs hR ha
    left
    constructor
    · have h1 : fn.name ≠ "runtime.NumGoroutine" := by simpa using hname
      simp [callFunc, hf, h1, hb]
    · obtain ⟨pl, v0, v1, fz, hpl, hb0, hez, hw, hv0, hv1, hfz⟩ := hR.bld_at hr
      simp only [VRt, VR] at ha
      obtain ⟨_, _, rfl, ⟨fl, pl', hpl', rfl⟩, rfl⟩ := ha
      rw [hpl] at hpl'; cases hpl'
      have ea : pl.base + 0 * pl.esz + 0 = 0 := by rw [hb0]; omega
      rw [ea]
      have hcell : w.cell? ⟨pl.b, 0, none⟩ = some v0 := by rw [Lib.cell_of_heap hw]; rfl
      rcases hv0 with rfl | rfl
      · refine (Any.Builder_copyCheck_fresh Tryd.lays240 Tryd.x72_240 pl.b w hcell (by simp [World.shape?, hw]; rfl) (by simp only [World.frozen?, hw]; exact hfz 0 (by omega))).mono ?_
        rintro e w' ⟨rfl, rfl⟩
        obtain ⟨w2, k1, k2, k3⟩ := hR.storeElem (i := 0) (off := 0) (vs := [.bld r]) (vals := [.pointer (some ⟨pl.b, 0, none⟩)]) hr hpl rfl (by simp) (VRs.one ⟨by
          simp only [VR]
          obtain ⟨pl2, hpl2, hok⟩ := hR.alive r _ hr
          rw [hpl] at hpl2; cases hpl2
          obtain ⟨c, ty, fz2, pre, mid, post, q1, q2, q3, q4, q5, q6⟩ := hok.ex
          simp only [List.flatten_cons, List.flatten_nil, List.append_nil, VRs, VR] at q5
          obtain ⟨u0, _, _, ⟨⟨fl3, pl3, hpl3, k, _⟩, _⟩, _⟩ := q5
          rw [hpl] at hpl3; cases hpl3
          exact ⟨true, pl, hpl, k, .inr rfl⟩, rfl⟩)
        rw [ea] at k1
        have e2 : w2 = w.setCell ⟨pl.b, 0, none⟩ (.pointer (some ⟨pl.b, 0, none⟩)) := by
          have hfr : w.frozen? ⟨pl.b, 0, none⟩ = false := by simp only [World.frozen?, hw]; exact hfz 0 (by omega)
          have hst : (store ⟨pl.b, 0, none⟩ (.pointer (some ⟨pl.b, 0, none⟩))).run TC.P w = .ok () (w.setCell ⟨pl.b, 0, none⟩ (.pointer (some ⟨pl.b, 0, none⟩))) := by
            rw [run_store TC.P w _ _ _ rfl, hcell]; simp [hfr]
          have := k1
          simp only [storeCells, z3r, Nat.add_zero, Sem.run_bind, hst, Result.andThen_ok, Sem.run_pure, Result.ok.injEq, true_and] at this
          exact this.symm
        rw [<- e2]
        have e3 : O.set r (some ([[.bld r, x]].set 0 (z19 [.bld r, x] 0 [.bld r]))) = O := by
          have : ([[AV.bld r, x]] : List (List AV)).set 0 (z19 [.bld r, x] 0 [.bld r]) = [[.bld r, x]] := by simp [z19]
          rw [this]
          exact zo3 hr
        rw [e3] at k3
        exact ⟨_, γ, rfl, k2, k3, by simp only [VR]; exact ⟨[], rfl, VRt.nil⟩⟩
      · refine (Any.Builder_copyCheck_used Tryd.lays240 Tryd.x72_240 pl.b w hcell).mono ?_
        rintro e w' ⟨rfl, rfl⟩
        exact ⟨_, γ, rfl, Step.refl _ _, hR, by simp only [VR]; exact ⟨[], rfl, VRt.nil⟩⟩
theorem zif (O : Store) (r rb : Nat) (s : List UInt8) (h0 : s ≠ []) (hs : s.length <= 1073741824) (h1 : O[r]? = some (some [[.bld r, .bsl rb s.length]])) (h2 : O[rb]? = some (some (zl s))) :
    ACallsTo TC 126 [.ptr r 0 0] O (.str s) (O.set rb none) := by
  obtain ⟨e, hc⟩ := Option.isSome_iff_exists.1 (show (cFn TC 126).isSome = true by kernel_rfl)
  simp only [cFn, Option.bind_eq_some_iff] at hc
  obtain ⟨fn, hf, hc⟩ := hc
  split at hc
  · cases hc
  · rename_i hname
    simp only [Option.bind_eq_some_iff, Option.map_eq_some_iff] at hc
    obtain ⟨c, hb, _⟩ := hc
    intro γ w cargs hR ha
    left
    constructor
    · have h1 : fn.name ≠ "runtime.NumGoroutine" := by simpa using hname
      simp [callFunc, hf, h1, hb]
    · obtain ⟨pl, v0, v1, fz, hpl, hb0, hez, hw, hv0, hv1, hfz⟩ := hR.bld_at h1
      simp only [VRt, VR] at ha
      obtain ⟨_, _, rfl, ⟨fl, pl', hpl', rfl⟩, rfl⟩ := ha
      rw [hpl] at hpl'; cases hpl'
      have ea : pl.base + 0 * pl.esz + 0 = 0 := by rw [hb0]; omega
      rw [ea]
      simp only [VR] at hv1
      obtain ⟨fl2, pb, cap, hpb, ⟨t1, t2, t3⟩, rfl, hso⟩ := hv1
      obtain ⟨pb', hpb', hok⟩ := hR.alive rb _ h2
      rw [hpb] at hpb'; cases hpb'
      obtain ⟨cur, ty, fg, pre, mid, post, q1, q2, q3, q4, q5, q6⟩ := hok.ex
      have hty : ty = u8T := by
        obtain ⟨c0, fz0, h0⟩ := hok.tyk
        rw [q1] at h0; cases h0; exact t1
      subst hty
      have hpre : pre = [] := List.eq_nil_of_length_eq_zero (by omega)
      subst hpre
      rw [zai] at q5
      have hml := q5.length
      rw [List.length_map] at hml
      have hcs : s.length <= cur.size := by
        rw [<- Array.length_toList, q2]; simp; omega
      refine (Tryd.string_ex Tryd.lays169 Tryd.Builder_Extra_169 pl.b pb.b cap cur v0 fz fg s w h0 hw q1 hso.le hcs (by omega) (fun j x hj => ?_)).mono ?_
      · obtain ⟨v, k1, k2⟩ := q5.get (i := j) (a := B8 x) (by rw [List.getElem?_map, hj]; rfl)
        have hv := k2.1
        simp only [B8, VR] at hv
        rw [z3r, Nat.zero_add, Lib.cell_of_heap q1]
        show cur[j]? = _
        rw [<- Array.getElem?_toList, q2, List.nil_append, List.getElem?_append_left (by
          rcases Nat.lt_or_ge j mid.length with h | h
          · exact h
          · simp [List.getElem?_eq_none h] at k1), k1, hv]
      · rintro e w' ⟨rfl, rfl⟩
        have hz : s.length ≠ 0 := by simpa using h0
        obtain ⟨k1, k2⟩ := hR.lose (w' := w.drew.freeze ⟨pb.b, 0, none⟩ s.length) hpb (by show (World.freeze w.drew _ _).heap.size = w.drew.heap.size; unfold World.freeze; rw [if_neg hz]; exact Array.size_modify) (fun b hb => by
          show (World.freeze w.drew _ _).heap[b]? = w.drew.heap[b]?
          unfold World.freeze
          rw [if_neg hz]
          simp only [Array.getElem?_modify]
          rw [if_neg (fun e => hb e.symm)]) (by unfold World.freeze; rw [if_neg hz]; rfl) (by unfold World.freeze; rw [if_neg hz]; rfl) (by unfold World.freeze; rw [if_neg hz]; rfl)
        exact ⟨_, _, rfl, k1, k2, by simp only [VR]⟩
end Am
end Go.Proofs.YtncenefkbpelbaaDoor
end
section
/- SHA-256: contracts of the reference: pad. -/
namespace Go.Proofs.YtncenefkbpelbaaDoor
namespace Am
theorem zhv {k : Nat} (l : List UInt8) : RLss k (zl l) := by
  induction l with
  | nil => simp [zl, RLss]
  | cons b l ih => simp only [zl, B8] at ih; simp [zl, RLss, B8, RLs, RL, ih]
/-- Own bytes behind what was there. -/
def OwnB (O O' : Store) (v : AV) (b : List UInt8) : Prop := ∃ news j, O' = O ++ news /\ v = .sl (O.length + j) 0 b.length none 1 /\ news[j]? = some (some (zl b))
theorem OwnB.down {O O' : Store} {v : AV} {b : List UInt8} (hw : Wf O.length O) (h : OwnB O O' v b) : DownV O.length v O' (.vsl 1 (zl b) false) O := by
  obtain ⟨news, j, rfl, rfl, h⟩ := h
  have hl : (zl b).length = b.length := z44 b
  have e : ((zl b).drop 0).take b.length = zl b := by rw [List.drop_zero, List.take_of_length_le (by omega)]
  have := DownV.froze (off := 0) (len := b.length) (esz := 1) (lim := none) hw h (by omega) (by rw [e]; exact zhv b)
  rw [e] at this
  exact this
theorem OwnB.app {O O' : Store} {r n : Nat} {b c : List UInt8} (h : OwnB O O' (.sl r 0 n none 1) b) : OwnB O (O'.set r none ++ [some (zl c)]) (.sl O'.length 0 c.length none 1) c := by
  obtain ⟨news, j, rfl, e, h⟩ := h
  simp only [AV.sl.injEq, true_and, and_true] at e
  obtain ⟨rfl, rfl⟩ := e
  refine ⟨news.set j none ++ [some (zl c)], news.length, ?_, by simp, ?_⟩
  · rw [List.set_append_right _ _ (by omega), Nat.add_sub_cancel_left, List.append_assoc]
  · rw [List.getElem?_append_right (by simp)]; simp
theorem OwnB.get {O O' : Store} {v : AV} {b : List UInt8} (h : OwnB O O' v b) : ∃ r, v = .sl r 0 b.length none 1 /\ O'[r]? = some (some (zl b)) := by
  obtain ⟨news, j, rfl, rfl, h⟩ := h
  exact ⟨_, rfl, by rw [List.getElem?_append_right (by omega), Nat.add_sub_cancel_left]; exact h⟩
theorem zdl (b : List UInt8) (x : Nat) (m : Int) (h : m = ((x % 256 : Nat) : Int)) : zl b ++ [[AV.int .u8 m]] = zl (b ++ [UInt8.ofNat x]) := by
  subst h
  simp [zl, B8]
theorem zia (x : Nat) {j : Nat} (h : j < 8) : (be 8 x).take j ++ [UInt8.ofNat (x / 2 ^ (8 * (7 - j)))] = (be 8 x).take (j + 1) := by
  have e : be 8 x = [UInt8.ofNat (x / 256 ^ 7), UInt8.ofNat (x / 256 ^ 6), UInt8.ofNat (x / 256 ^ 5), UInt8.ofNat (x / 256 ^ 4), UInt8.ofNat (x / 256 ^ 3), UInt8.ofNat (x / 256 ^ 2), UInt8.ofNat (x / 256 ^ 1), UInt8.ofNat (x / 256 ^ 0)] := by
    simp only [z8z]
    rfl
  rw [e]
  have hj : j = 0 \/ j = 1 \/ j = 2 \/ j = 3 \/ j = 4 \/ j = 5 \/ j = 6 \/ j = 7 := by omega
  rcases hj with rfl | rfl | rfl | rfl | rfl | rfl | rfl | rfl <;> rfl
set_option maxHeartbeats 4000000 in
theorem pad_to (O : Store) (s : List UInt8) (h : s.length < 1000000000) : ACallsTo TC 114 [.str s] O (.vsl 1 (zl (padS s)) false) O := by
  obtain ⟨z, hz⟩ : ∃ z : Nat, z = (119 - s.length % 64) % 64 := ⟨_, rfl⟩
  have hz64 : z < 64 := by rw [hz]; exact Nat.mod_lt _ (by decide)
  obtain ⟨P, hP⟩ : ∃ P, P = padS s := ⟨_, rfl⟩
  have hP2 : P = (s ++ 128 :: List.replicate z 0) ++ be 8 (s.length * 8) := by rw [hP, padS, hz]; simp
  rw [<- hP]
  refine ACallsTo.of_body qaok (by simp) fun hw _ => ?_
  repeat' (first|refine zW.zs ?_|refine zW.zb ?_|refine zW.zc ?_|refine zW.zt rfl ?_|refine zW.zf rfl ?_|(refine zW.zd rfl (fun ht => ?_) (fun ht => ?_)<;>try (exfalso;omega))|((first|refine zW.zr ?_|refine zW.zk ?_|refine zW.ze ?_|refine zW.zq ?_|((first|apply zg0|apply zg1|apply zg2|apply zg3|apply zg4|apply zg5|apply zg6|apply zg7)<;>intro ht));all_goals try simp (disch:=first|omega|(simp only [lens];first|done|omega)) only [go_sem,reduceEqDiff,Nat.reduceBEq,reduceAdd,reduceMul,reduceSub,reduceLeDiff,reduceToNat,reducePow]))
  refine zW.loop (fun m Z O' => ∃ k : Nat, m + k = z /\ Z 0 = .str s /\ OwnB O O' (Z 3) (s ++ 128 :: List.replicate k 0)) z ?_ ?_
  · refine ⟨0, by omega, by simp (disch:=first|omega|(simp only [lens];first|done|omega)) only [go_sem,reduceEqDiff,Nat.reduceBEq,reduceAdd,reduceMul,reduceSub,reduceLeDiff,reduceToNat,reducePow], ?_⟩
    simp (disch:=first|omega|(simp only [lens];first|done|omega)) only [go_sem,reduceEqDiff,Nat.reduceBEq,reduceAdd,reduceMul,reduceSub,reduceLeDiff,reduceToNat,reducePow]
    refine ⟨[none, some (zl (s ++ [128]))], 1, ?_, ?_, rfl⟩
    · simp [zl, B8]
    · simp
  · rintro m Z O' ⟨k, hm, q0, hO⟩
    obtain ⟨r, q3, hg⟩ := hO.get
    have hb : (s ++ 128 :: List.replicate k 0).length = s.length + 1 + k := by simp; omega
    have hbe := z44 (s ++ 128 :: List.replicate k 0)
    by_cases hk : k < z
    · rw [q3] at hO
      rw [hb] at q3 hbe hO
      have e0 : zl (s ++ 128 :: List.replicate k 0) ++ [[AV.int .u8 0]] = zl (s ++ 128 :: List.replicate (k + 1) 0) := by
        rw [zdl _ 0 0 (by simp), List.append_assoc, List.cons_append, List.replicate_succ']
        rfl
      have hO2 := hO.app (c := s ++ 128 :: List.replicate (k + 1) 0)
      have hc : (s ++ 128 :: List.replicate (k + 1) 0).length = s.length + 1 + k + 1 := by simp; omega
      rw [hc] at hO2
      generalize zl (s ++ 128 :: List.replicate k 0) = bb at *
      repeat' (first|refine zW.zs ?_|refine zW.zb ?_|refine zW.zc ?_|refine zW.zt rfl ?_|refine zW.zf rfl ?_|(refine zW.zd rfl (fun ht => ?_) (fun ht => ?_)<;>try (exfalso;omega))|((first|refine zW.zr ?_|refine zW.zk ?_|refine zW.ze ?_|refine zW.zq ?_|((first|apply zg0|apply zg1|apply zg2|apply zg3|apply zg4|apply zg5|apply zg6|apply zg7)<;>intro ht));all_goals try simp (disch:=first|omega|(simp only [lens];first|done|omega)) only [go_sem,reduceEqDiff,Nat.reduceBEq,reduceAdd,reduceMul,reduceSub,reduceLeDiff,reduceToNat,reducePow, q0, q3, hg, hbe, e0]))
      exact ⟨z - (k + 1), by omega, k + 1, by omega, hO2⟩
    · obtain rfl : k = z := by omega
      obtain ⟨N, hN⟩ : ∃ N, N = s.length * 8 := ⟨_, rfl⟩
      have hN2 : (s.length : Int) * 8 = N := by omega
      have hb8 : (be 8 N).length = 8 := z52 _ _
      rw [<- hN] at hP2
      rw [hb] at q3 hbe
      have h56 : ((s.length : Int) + 1 + k) % 64 = 56 := by omega
      generalize hB : s ++ 128 :: List.replicate k 0 = B at *
      repeat' (first|refine zW.zs ?_|refine zW.zb ?_|refine zW.zc ?_|refine zW.zt rfl ?_|refine zW.zf rfl ?_|(refine zW.zd rfl (fun ht => ?_) (fun ht => ?_)<;>try (exfalso;omega))|((first|refine zW.zr ?_|refine zW.zk ?_|refine zW.ze ?_|refine zW.zq ?_|((first|apply zg0|apply zg1|apply zg2|apply zg3|apply zg4|apply zg5|apply zg6|apply zg7)<;>intro ht));all_goals try simp (disch:=first|omega|(simp only [lens];first|done|omega)) only [go_sem,reduceEqDiff,Nat.reduceBEq,reduceAdd,reduceMul,reduceSub,reduceLeDiff,reduceToNat,reducePow, q0, q3, h56, hN2, Int.natCast_add, Int.natCast_one]))
      refine zW.loop (fun m Z O' => ∃ j : Nat, m + j = 8 /\ Z 4 = .int .u64 N /\ Z 5 = .int .i64 (7 - j) /\ OwnB O O' (Z 3) (B ++ (be 8 N).take j)) 8 ?_ ?_
      · refine ⟨0, by omega, by simp (disch:=first|omega|(simp only [lens];first|done|omega)) only [go_sem,reduceEqDiff,Nat.reduceBEq,reduceAdd,reduceMul,reduceSub,reduceLeDiff,reduceToNat,reducePow], by simp (disch:=first|omega|(simp only [lens];first|done|omega)) only [go_sem,reduceEqDiff,Nat.reduceBEq,reduceAdd,reduceMul,reduceSub,reduceLeDiff,reduceToNat,reducePow]; rfl, ?_⟩
        simp (disch:=first|omega|(simp only [lens];first|done|omega)) only [go_sem,reduceEqDiff,Nat.reduceBEq,reduceAdd,reduceMul,reduceSub,reduceLeDiff,reduceToNat,reducePow, q3]
        rw [q3] at hO
        exact hO
      · clear q0 q3 hO hg
        rintro m Z O' ⟨j, hm, q4, q5, hO⟩
        obtain ⟨r, q3, hg⟩ := hO.get
        have hl : (B ++ (be 8 N).take j).length = s.length + 1 + k + j := by rw [List.length_append, hb, List.length_take, hb8]; omega
        have hbe := z44 (B ++ (be 8 N).take j)
        by_cases hj : j < 8
        · rw [q3] at hO
          rw [hl] at q3 hbe hO
          have hO2 := hO.app (c := B ++ (be 8 N).take (j + 1))
          have hc : (B ++ (be 8 N).take (j + 1)).length = s.length + 1 + k + j + 1 := by rw [List.length_append, hb, List.length_take, hb8]; omega
          rw [hc] at hO2
          have hs : (8 * (7 - (j : Int))).toNat = 8 * (7 - j) := by omega
          have e0 : zl (B ++ (be 8 N).take j) ++ [[AV.int .u8 ((N : Int) / 2 ^ (8 * (7 - j)) % 256)]] = zl (B ++ (be 8 N).take (j + 1)) := by
            rw [zdl _ (N / 2 ^ (8 * (7 - j))) _ (by rw [Int.natCast_emod, Int.natCast_ediv, Int.natCast_pow]; rfl), List.append_assoc, zia N hj]
          generalize zl (B ++ (be 8 N).take j) = bb at *
          repeat' (first|refine zW.zs ?_|refine zW.zb ?_|refine zW.zc ?_|refine zW.zt rfl ?_|refine zW.zf rfl ?_|(refine zW.zd rfl (fun ht => ?_) (fun ht => ?_)<;>try (exfalso;omega))|((first|refine zW.zr ?_|refine zW.zk ?_|refine zW.ze ?_|refine zW.zq ?_|((first|apply zg0|apply zg1|apply zg2|apply zg3|apply zg4|apply zg5|apply zg6|apply zg7)<;>intro ht));all_goals try simp (disch:=first|omega|(simp only [lens];first|done|omega)) only [go_sem,reduceEqDiff,Nat.reduceBEq,reduceAdd,reduceMul,reduceSub,reduceLeDiff,reduceToNat,reducePow, q3, q4, q5, hg, hbe, hs, e0]))
          exact ⟨8 - (j + 1), by omega, j + 1, by omega, by rw [show (7 : Int) - ((j + 1 : Nat) : Int) = 7 - j - 1 by omega], hO2⟩
        · obtain rfl : j = 8 := by omega
          have e8 : B ++ (be 8 N).take 8 = P := by rw [List.take_of_length_le (by omega)]; exact hP2.symm
          rw [e8] at hO q3
          repeat' (first|refine zW.zs ?_|refine zW.zb ?_|refine zW.zc ?_|refine zW.zt rfl ?_|refine zW.zf rfl ?_|(refine zW.zd rfl (fun ht => ?_) (fun ht => ?_)<;>try (exfalso;omega))|((first|refine zW.zr ?_|refine zW.zk ?_|refine zW.ze ?_|refine zW.zq ?_|((first|apply zg0|apply zg1|apply zg2|apply zg3|apply zg4|apply zg5|apply zg6|apply zg7)<;>intro ht));all_goals try simp (disch:=first|omega|(simp only [lens];first|done|omega)) only [go_sem,reduceEqDiff,Nat.reduceBEq,reduceAdd,reduceMul,reduceSub,reduceLeDiff,reduceToNat,reducePow, q3, q5]))
          rw [q3] at hO
          exact hO.down hw
end Am
end Go.Proofs.YtncenefkbpelbaaDoor
end
section
/- SHA-256: the reference's Sum: the words. -/
namespace Go.Proofs.YtncenefkbpelbaaDoor
namespace Am
def z32 : List AV := zg (List.replicate 32 0)
/-- What the reference has in memory. -/
def mkS (τ : Store) (u : V8) (cells : List AV) : Store := τ ++ [some [z32], some [gl_sha_rounds], some [u.c8], some [cells]]
def Rk (Z : Env) (a : Nat) (p : List UInt8) (n : Nat) : Prop :=
  Z 2 = .ptr a 0 0 /\ Z 3 = .ptr (a + 1) 0 0 /\ Z 4 = .ptr (a + 2) 0 0 /\ Z 5 = .vsl 1 (zl p) false /\ Z 6 = .ptr (a + 3) 0 0 /\ Z 7 = .int .i64 n
theorem zdt {w : List W} {x : W} {n : Nat} {rest : List AV} (h : w.length = n) (hr : 0 < rest.length) : (ws w ++ rest).take n ++ AV.int .u32 x.toNat :: (ws w ++ rest).drop (n + 1) = ws (w ++ [x]) ++ rest.drop 1 := by
  have hl : (ws w).length = n := by rw [z4j, h]
  rw [List.take_append_of_le_length (by omega), List.take_of_length_le (by omega), List.drop_append, List.drop_of_length_le (by omega), hl]
  rw [show n + 1 - n = 1 by omega, List.nil_append]
  simp [ws, wc]
theorem zp5 {p : List UInt8} {n i : Nat} (h : n + 4 * i + 4 <= p.length) (hi : i < 16) :
    ((p.getD (n + 4 * i) 0).toNat : Int) * 16777216 + (p.getD (n + 4 * i + 1) 0).toNat * 65536 + (p.getD (n + 4 * i + 2) 0).toNat * 256 + (p.getD (n + 4 * i + 3) 0).toNat = ((z6o ((p.drop n).take 64) i).toNat : Int) := by
  have e : ((((p.drop n).take 64).drop (4 * i)).take 4) = [p.getD (n + 4 * i) 0, p.getD (n + 4 * i + 1) 0, p.getD (n + 4 * i + 2) 0, p.getD (n + 4 * i + 3) 0] := by
    rw [List.drop_take, List.take_take, List.drop_drop, show min 4 (64 - 4 * i) = 4 by omega]
    obtain ⟨A, hA⟩ : ∃ A, A = p.drop (n + 4 * i) := ⟨_, rfl⟩
    have g : ∀ k, p.getD (n + 4 * i + k) 0 = A.getD k 0 := by
      intro k
      rw [hA, List.getD_eq_getElem?_getD, List.getD_eq_getElem?_getD, List.getElem?_drop]
    have g0 := g 0
    rw [Nat.add_zero] at g0
    rw [g0, g 1, g 2, g 3, <- hA]
    have hl : 4 <= A.length := by rw [hA, List.length_drop]; omega
    match A, hl with
    | a :: b :: c :: d :: A, _ => rfl
  unfold z6o
  rw [e]
  generalize p.getD (n + 4 * i) 0 = a
  generalize p.getD (n + 4 * i + 1) 0 = b
  generalize p.getD (n + 4 * i + 2) 0 = c
  generalize p.getD (n + 4 * i + 3) 0 = d
  have h1 := a.toNat_lt
  have h2 := b.toNat_lt
  have h3 := c.toNat_lt
  have h4 := d.toNat_lt
  simp only [getS, val, List.take_of_length_le (show [a, b, c, d].length <= 8 by simp), List.foldl_cons, List.foldl_nil, BitVec.toNat_ofNat]
  omega
section
variable {k : Nat} {Q : AExit -> Env -> Store -> Prop} {Z : Env} {τ : Store} {u : V8} {p : List UInt8} {n : Nat}
set_option maxHeartbeats 4000000 in
theorem zno {cells : List AV} (K : Rk Z τ.length p n) (hp : n + 64 <= p.length) (hpl : p.length < 2000000000) (hc : cells.length = 64)
    (hQ : ∀ Z' rest, rest.length = 48 -> Rk Z' τ.length p n -> Q .normal Z' (mkS τ u (ws (z11 ((p.drop n).take 64) 16) ++ rest))) : zW TC 252 k q8c21 Q Z (mkS τ u cells) := by
  obtain ⟨k2, k3, k4, k5, k6, k7⟩ := K
  obtain ⟨q, hq⟩ : ∃ q, q = (p.drop n).take 64 := ⟨_, rfl⟩
  rw [<- hq] at hQ
  repeat' (first|refine zW.zs ?_|refine zW.zb ?_|refine zW.zc ?_|refine zW.zt rfl ?_|refine zW.zf rfl ?_|(refine zW.zd rfl (fun ht => ?_) (fun ht => ?_)<;>try (exfalso;omega))|((first|refine zW.zr ?_|refine zW.zk ?_|refine zW.ze ?_|refine zW.zq ?_|((first|apply zg0|apply zg1|apply zg2|apply zg3|apply zg4|apply zg5|apply zg6|apply zg7)<;>intro ht));all_goals try simp (disch:=first|omega|(simp only [lens];first|done|omega)) only [go_sem,reduceEqDiff,Nat.reduceBEq,reduceAdd,reduceMul,reduceSub,reduceLeDiff,reduceToNat,reducePow]))
  refine zW.loop (fun m Z O' => ∃ (i : Nat) (rest : List AV), m + i = 16 /\ rest.length = 64 - i /\ Rk Z τ.length p n /\ Z 8 = .int .i64 i /\ O' = mkS τ u (ws (z11 q i) ++ rest)) 16 ?_ ?_
  · exact ⟨0, cells, by omega, hc, ⟨by simp (disch:=first|omega|(simp only [lens];first|done|omega)) only [go_sem,reduceEqDiff,Nat.reduceBEq,reduceAdd,reduceMul,reduceSub,reduceLeDiff,reduceToNat,reducePow, k2], by simp (disch:=first|omega|(simp only [lens];first|done|omega)) only [go_sem,reduceEqDiff,Nat.reduceBEq,reduceAdd,reduceMul,reduceSub,reduceLeDiff,reduceToNat,reducePow, k3], by simp (disch:=first|omega|(simp only [lens];first|done|omega)) only [go_sem,reduceEqDiff,Nat.reduceBEq,reduceAdd,reduceMul,reduceSub,reduceLeDiff,reduceToNat,reducePow, k4], by simp (disch:=first|omega|(simp only [lens];first|done|omega)) only [go_sem,reduceEqDiff,Nat.reduceBEq,reduceAdd,reduceMul,reduceSub,reduceLeDiff,reduceToNat,reducePow, k5], by simp (disch:=first|omega|(simp only [lens];first|done|omega)) only [go_sem,reduceEqDiff,Nat.reduceBEq,reduceAdd,reduceMul,reduceSub,reduceLeDiff,reduceToNat,reducePow, k6], by simp (disch:=first|omega|(simp only [lens];first|done|omega)) only [go_sem,reduceEqDiff,Nat.reduceBEq,reduceAdd,reduceMul,reduceSub,reduceLeDiff,reduceToNat,reducePow, k7]⟩, by simp (disch:=first|omega|(simp only [lens];first|done|omega)) only [go_sem,reduceEqDiff,Nat.reduceBEq,reduceAdd,reduceMul,reduceSub,reduceLeDiff,reduceToNat,reducePow]; rfl, rfl⟩
  · rintro m Z O' ⟨i, rest, hm, hr, ⟨q2, q3, q4, q5, q6, q7⟩, q8, rfl⟩
    by_cases hi : i < 16
    · have hwd := zp5 (p := p) (n := n) (i := i) (by omega) hi
      rw [<- hq] at hwd
      have hset := zdt (x := z6o q i) (rest := rest) (z4w q i) (by omega)
      have hlen : (ws (z11 q i) ++ rest).length = 64 := by rw [List.length_append, z4j, z4w, hr]; omega
      have hsc : z11 q (i + 1) = z11 q i ++ [z6o q i] := by rw [z11, z4d, z4w, if_pos hi]
      have n0 : ((n : Int) + 4 * i).toNat = n + 4 * i := by omega
      have n1 : ((n : Int) + 4 * i + 1).toNat = n + 4 * i + 1 := by omega
      have n2 : ((n : Int) + 4 * i + 2).toNat = n + 4 * i + 2 := by omega
      have n3 : ((n : Int) + 4 * i + 3).toNat = n + 4 * i + 3 := by omega
      have b0 := (p.getD (n + 4 * i) 0).toNat_lt
      have b1 := (p.getD (n + 4 * i + 1) 0).toNat_lt
      have b2 := (p.getD (n + 4 * i + 2) 0).toNat_lt
      have b3 := (p.getD (n + 4 * i + 3) 0).toNat_lt
      have g0 := zeb (s := p) (i := n + 4 * i) (by omega)
      have e0 := z7m (s := p) (i := n + 4 * i) (by omega)
      have e1 := z7m (s := p) (i := n + 4 * i + 1) (by omega)
      have e2 := z7m (s := p) (i := n + 4 * i + 2) (by omega)
      have e3 := z7m (s := p) (i := n + 4 * i + 3) (by omega)
      have hpb := z44 p
      unfold mkS
      generalize p.getD (n + 4 * i) 0 = x0 at *
      generalize p.getD (n + 4 * i + 1) 0 = x1 at *
      generalize p.getD (n + 4 * i + 2) 0 = x2 at *
      generalize p.getD (n + 4 * i + 3) 0 = x3 at *
      generalize hpb2 : zl p = pb at *
      generalize hcc : ws (z11 q i) ++ rest = cc at *
      repeat' (first | refine zW.zs ?_ | refine zW.zb ?_ | refine zW.zc ?_ | refine zW.zt rfl ?_ | refine zW.zf rfl ?_ | (refine zW.zd rfl (fun ht => ?_) (fun ht => ?_) <;> try (exfalso; omega)) | ((first | refine zW.regS ?_ | refine zW.zk ?_ | refine zW.ze ?_ | refine zW.zq ?_ | ((first|apply zg0|apply zg1|apply zg2|apply zg3|apply zg4|apply zg5|apply zg6|apply zg7)<;>intro ht));all_goals try simp (disch:=first|omega|(simp only [lens];first|done|omega)) only [go_sem,reduceEqDiff,Nat.reduceBEq,reduceAdd,reduceMul,reduceSub,reduceLeDiff,reduceToNat,reducePow, q2, q3, q4, q5, q6, q7, q8, hlen, n0, n1, n2, n3, e0, e1, e2, e3]))
      refine ⟨16 - (i + 1), by omega, i + 1, rest.drop 1, by omega, by rw [List.length_drop]; omega, ⟨by simp (disch:=first|omega|(simp only [lens];first|done|omega)) only [go_sem,reduceEqDiff,Nat.reduceBEq,reduceAdd,reduceMul,reduceSub,reduceLeDiff,reduceToNat,reducePow, q2], by simp (disch:=first|omega|(simp only [lens];first|done|omega)) only [go_sem,reduceEqDiff,Nat.reduceBEq,reduceAdd,reduceMul,reduceSub,reduceLeDiff,reduceToNat,reducePow, q3], by simp (disch:=first|omega|(simp only [lens];first|done|omega)) only [go_sem,reduceEqDiff,Nat.reduceBEq,reduceAdd,reduceMul,reduceSub,reduceLeDiff,reduceToNat,reducePow, q4], (by simp (disch:=first|omega|(simp only [lens];first|done|omega)) only [go_sem,reduceEqDiff,Nat.reduceBEq,reduceAdd,reduceMul,reduceSub,reduceLeDiff,reduceToNat,reducePow, q5]; rw [hpb2]), by simp (disch:=first|omega|(simp only [lens];first|done|omega)) only [go_sem,reduceEqDiff,Nat.reduceBEq,reduceAdd,reduceMul,reduceSub,reduceLeDiff,reduceToNat,reducePow, q6], by simp (disch:=first|omega|(simp only [lens];first|done|omega)) only [go_sem,reduceEqDiff,Nat.reduceBEq,reduceAdd,reduceMul,reduceSub,reduceLeDiff,reduceToNat,reducePow, q7]⟩, by simp, ?_⟩
      rw [hwd, hset, hsc]
    · obtain rfl : i = 16 := by omega
      repeat' (first|refine zW.zs ?_|refine zW.zb ?_|refine zW.zc ?_|refine zW.zt rfl ?_|refine zW.zf rfl ?_|(refine zW.zd rfl (fun ht => ?_) (fun ht => ?_)<;>try (exfalso;omega))|((first|refine zW.zr ?_|refine zW.zk ?_|refine zW.ze ?_|refine zW.zq ?_|((first|apply zg0|apply zg1|apply zg2|apply zg3|apply zg4|apply zg5|apply zg6|apply zg7)<;>intro ht));all_goals try simp (disch:=first|omega|(simp only [lens];first|done|omega)) only [go_sem,reduceEqDiff,Nat.reduceBEq,reduceAdd,reduceMul,reduceSub,reduceLeDiff,reduceToNat,reducePow, q8]))
      exact hQ _ rest (by omega) ⟨by simp (disch:=first|omega|(simp only [lens];first|done|omega)) only [go_sem,reduceEqDiff,Nat.reduceBEq,reduceAdd,reduceMul,reduceSub,reduceLeDiff,reduceToNat,reducePow, q2], by simp (disch:=first|omega|(simp only [lens];first|done|omega)) only [go_sem,reduceEqDiff,Nat.reduceBEq,reduceAdd,reduceMul,reduceSub,reduceLeDiff,reduceToNat,reducePow, q3], by simp (disch:=first|omega|(simp only [lens];first|done|omega)) only [go_sem,reduceEqDiff,Nat.reduceBEq,reduceAdd,reduceMul,reduceSub,reduceLeDiff,reduceToNat,reducePow, q4], by simp (disch:=first|omega|(simp only [lens];first|done|omega)) only [go_sem,reduceEqDiff,Nat.reduceBEq,reduceAdd,reduceMul,reduceSub,reduceLeDiff,reduceToNat,reducePow, q5], by simp (disch:=first|omega|(simp only [lens];first|done|omega)) only [go_sem,reduceEqDiff,Nat.reduceBEq,reduceAdd,reduceMul,reduceSub,reduceLeDiff,reduceToNat,reducePow, q6], by simp (disch:=first|omega|(simp only [lens];first|done|omega)) only [go_sem,reduceEqDiff,Nat.reduceBEq,reduceAdd,reduceMul,reduceSub,reduceLeDiff,reduceToNat,reducePow, q7]⟩
set_option maxHeartbeats 4000000 in
theorem znn {q : List UInt8} {rest : List AV} (K : Rk Z τ.length p n) (hr : rest.length = 48)
    (hQ : ∀ Z', Rk Z' τ.length p n -> Q .normal Z' (mkS τ u (ws (z11 q 64)))) : zW TC 252 k q8c34 Q Z (mkS τ u (ws (z11 q 16) ++ rest)) := by
  obtain ⟨R, hR⟩ : ∃ R, R = z11 q 64 := ⟨_, rfl⟩
  rw [<- hR] at hQ
  obtain ⟨k2, k3, k4, k5, k6, k7⟩ := K
  repeat' (first|refine zW.zs ?_|refine zW.zb ?_|refine zW.zc ?_|refine zW.zt rfl ?_|refine zW.zf rfl ?_|(refine zW.zd rfl (fun ht => ?_) (fun ht => ?_)<;>try (exfalso;omega))|((first|refine zW.zr ?_|refine zW.zk ?_|refine zW.ze ?_|refine zW.zq ?_|((first|apply zg0|apply zg1|apply zg2|apply zg3|apply zg4|apply zg5|apply zg6|apply zg7)<;>intro ht));all_goals try simp (disch:=first|omega|(simp only [lens];first|done|omega)) only [go_sem,reduceEqDiff,Nat.reduceBEq,reduceAdd,reduceMul,reduceSub,reduceLeDiff,reduceToNat,reducePow]))
  refine zW.loop (fun m Z O' => ∃ (i : Nat) (rest : List AV), m + i = 64 /\ 16 <= i /\ rest.length = 64 - i /\ Rk Z τ.length p n /\ Z 10 = .int .i64 i /\ O' = mkS τ u (ws (z11 q i) ++ rest)) 48 ?_ ?_
  · exact ⟨16, rest, by omega, by omega, hr, ⟨by simp (disch:=first|omega|(simp only [lens];first|done|omega)) only [go_sem,reduceEqDiff,Nat.reduceBEq,reduceAdd,reduceMul,reduceSub,reduceLeDiff,reduceToNat,reducePow, k2], by simp (disch:=first|omega|(simp only [lens];first|done|omega)) only [go_sem,reduceEqDiff,Nat.reduceBEq,reduceAdd,reduceMul,reduceSub,reduceLeDiff,reduceToNat,reducePow, k3], by simp (disch:=first|omega|(simp only [lens];first|done|omega)) only [go_sem,reduceEqDiff,Nat.reduceBEq,reduceAdd,reduceMul,reduceSub,reduceLeDiff,reduceToNat,reducePow, k4], by simp (disch:=first|omega|(simp only [lens];first|done|omega)) only [go_sem,reduceEqDiff,Nat.reduceBEq,reduceAdd,reduceMul,reduceSub,reduceLeDiff,reduceToNat,reducePow, k5], by simp (disch:=first|omega|(simp only [lens];first|done|omega)) only [go_sem,reduceEqDiff,Nat.reduceBEq,reduceAdd,reduceMul,reduceSub,reduceLeDiff,reduceToNat,reducePow, k6], by simp (disch:=first|omega|(simp only [lens];first|done|omega)) only [go_sem,reduceEqDiff,Nat.reduceBEq,reduceAdd,reduceMul,reduceSub,reduceLeDiff,reduceToNat,reducePow, k7]⟩, by simp (disch:=first|omega|(simp only [lens];first|done|omega)) only [go_sem,reduceEqDiff,Nat.reduceBEq,reduceAdd,reduceMul,reduceSub,reduceLeDiff,reduceToNat,reducePow]; rfl, rfl⟩
  · clear hr
    rintro m Z O' ⟨i, rest, hm, h16, hr, ⟨q2, q3, q4, q5, q6, q7⟩, q10, rfl⟩
    have hsl := z4w q i
    by_cases hi : i < 64
    · have hset := zdt (x := z4d q (z11 q i)) (rest := rest) hsl (by omega)
      have hlen : (ws (z11 q i) ++ rest).length = 64 := by rw [List.length_append, z4j, z4w, hr]; omega
      have hsc : z11 q (i + 1) = z11 q i ++ [z4d q (z11 q i)] := by rw [z11]
      have en : z4d q (z11 q i) = wat (z11 q i) (i - 16) + wat (z11 q i) (i - 7) + ss0 (wat (z11 q i) (i - 15)) + ss1 (wat (z11 q i) (i - 2)) := by rw [z4d, if_neg (by omega), hsl]
      have hwi : ∀ j, j < i -> (ws (z11 q i) ++ rest)[j]? = some (.int .u32 (wat (z11 q i) j).toNat) := by
        intro j hj
        rw [List.getElem?_append_left (by rw [z4j]; omega), z7d (by omega)]
      have g16 := hwi (i - 16) (by omega)
      have g7 := hwi (i - 7) (by omega)
      have g15 := hwi (i - 15) (by omega)
      have g2 := hwi (i - 2) (by omega)
      have t16 : ((i : Int) - 16).toNat = i - 16 := by omega
      have t7 : ((i : Int) - 7).toNat = i - 7 := by omega
      have t15 : ((i : Int) - 15).toNat = i - 15 := by omega
      have t2 : ((i : Int) - 2).toNat = i - 2 := by omega
      have r7 : 32 - (7 : Int).toNat = 25 := rfl
      clear hwi
      generalize z4d q (z11 q i) = nx at *
      generalize wat (z11 q i) (i - 16) = w16 at *
      generalize wat (z11 q i) (i - 7) = w7 at *
      generalize wat (z11 q i) (i - 15) = w15 at *
      generalize wat (z11 q i) (i - 2) = w2 at *
      unfold mkS
      generalize hpb2 : zl p = pb at *
      generalize hcc : ws (z11 q i) ++ rest = cc at *
      repeat' (first | refine zW.zs ?_ | refine zW.zb ?_ | refine zW.zc ?_ | refine zW.zt rfl ?_ | refine zW.zf rfl ?_ | (refine zW.zd rfl (fun ht => ?_) (fun ht => ?_) <;> try (exfalso; omega)) | ((first | refine zW.regS ?_ | refine zW.zk ?_ | refine zW.ze ?_ | refine zW.zq ?_ | (apply callW.mk_pu; (first | exact (fun _ => za4 _ _ _ (by omega)))) | (apply callW.za; (first | exact (za4 _ _ _ (by omega)))) | ((first|apply zg0|apply zg1|apply zg2|apply zg3|apply zg4|apply zg5|apply zg6|apply zg7)<;>intro ht));all_goals try simp (disch:=first|omega|(simp only [lens];first|done|omega)) only [go_sem,reduceEqDiff,Nat.reduceBEq,reduceAdd,reduceMul,reduceSub,reduceLeDiff,reduceToNat,reducePow, q2, q3, q4, q5, q6, q7, q10, hlen, g16, g7, g15, g2, t16, t7, t15, t2]))
      refine ⟨64 - (i + 1), by omega, i + 1, rest.drop 1, by omega, by omega, by rw [List.length_drop]; omega, ⟨by simp (disch:=first|omega|(simp only [lens];first|done|omega)) only [go_sem,reduceEqDiff,Nat.reduceBEq,reduceAdd,reduceMul,reduceSub,reduceLeDiff,reduceToNat,reducePow, q2], by simp (disch:=first|omega|(simp only [lens];first|done|omega)) only [go_sem,reduceEqDiff,Nat.reduceBEq,reduceAdd,reduceMul,reduceSub,reduceLeDiff,reduceToNat,reducePow, q3], by simp (disch:=first|omega|(simp only [lens];first|done|omega)) only [go_sem,reduceEqDiff,Nat.reduceBEq,reduceAdd,reduceMul,reduceSub,reduceLeDiff,reduceToNat,reducePow, q4], (by simp (disch:=first|omega|(simp only [lens];first|done|omega)) only [go_sem,reduceEqDiff,Nat.reduceBEq,reduceAdd,reduceMul,reduceSub,reduceLeDiff,reduceToNat,reducePow, q5]; rw [hpb2]), by simp (disch:=first|omega|(simp only [lens];first|done|omega)) only [go_sem,reduceEqDiff,Nat.reduceBEq,reduceAdd,reduceMul,reduceSub,reduceLeDiff,reduceToNat,reducePow, q6], by simp (disch:=first|omega|(simp only [lens];first|done|omega)) only [go_sem,reduceEqDiff,Nat.reduceBEq,reduceAdd,reduceMul,reduceSub,reduceLeDiff,reduceToNat,reducePow, q7]⟩, by simp, ?_⟩
      rw [hsc, <- hset, en]
      have ec : ∀ s t : W, w16 + s + w7 + t = w16 + w7 + s + t := fun s t => by rw [BitVec.add_assoc w16 s w7, BitVec.add_comm s w7, <- BitVec.add_assoc w16 w7 s]
      rw [ec]
      rfl
    · obtain rfl : i = 64 := by omega
      have hr0 : rest = [] := List.eq_nil_of_length_eq_zero (by omega)
      rw [hr0, <- hR, List.append_nil]
      clear hsl hR
      repeat' (first|refine zW.zs ?_|refine zW.zb ?_|refine zW.zc ?_|refine zW.zt rfl ?_|refine zW.zf rfl ?_|(refine zW.zd rfl (fun ht => ?_) (fun ht => ?_)<;>try (exfalso;omega))|((first|refine zW.zr ?_|refine zW.zk ?_|refine zW.ze ?_|refine zW.zq ?_|((first|apply zg0|apply zg1|apply zg2|apply zg3|apply zg4|apply zg5|apply zg6|apply zg7)<;>intro ht));all_goals try simp (disch:=first|omega|(simp only [lens];first|done|omega)) only [go_sem,reduceEqDiff,Nat.reduceBEq,reduceAdd,reduceMul,reduceSub,reduceLeDiff,reduceToNat,reducePow, q10]))
      exact hQ _ ⟨by simp (disch:=first|omega|(simp only [lens];first|done|omega)) only [go_sem,reduceEqDiff,Nat.reduceBEq,reduceAdd,reduceMul,reduceSub,reduceLeDiff,reduceToNat,reducePow, q2], by simp (disch:=first|omega|(simp only [lens];first|done|omega)) only [go_sem,reduceEqDiff,Nat.reduceBEq,reduceAdd,reduceMul,reduceSub,reduceLeDiff,reduceToNat,reducePow, q3], by simp (disch:=first|omega|(simp only [lens];first|done|omega)) only [go_sem,reduceEqDiff,Nat.reduceBEq,reduceAdd,reduceMul,reduceSub,reduceLeDiff,reduceToNat,reducePow, q4], by simp (disch:=first|omega|(simp only [lens];first|done|omega)) only [go_sem,reduceEqDiff,Nat.reduceBEq,reduceAdd,reduceMul,reduceSub,reduceLeDiff,reduceToNat,reducePow, q5], by simp (disch:=first|omega|(simp only [lens];first|done|omega)) only [go_sem,reduceEqDiff,Nat.reduceBEq,reduceAdd,reduceMul,reduceSub,reduceLeDiff,reduceToNat,reducePow, q6], by simp (disch:=first|omega|(simp only [lens];first|done|omega)) only [go_sem,reduceEqDiff,Nat.reduceBEq,reduceAdd,reduceMul,reduceSub,reduceLeDiff,reduceToNat,reducePow, q7]⟩
end
end Am
end Go.Proofs.YtncenefkbpelbaaDoor
end
section
/- SHA-256: the reference's Sum: the rounds. -/
namespace Go.Proofs.YtncenefkbpelbaaDoor
namespace Am
theorem k_get {i : Nat} (h : i < 64) : gl_sha_rounds[i]? = some (.int .u32 (kAt i).toNat) := by
  have := zeo h
  rwa [List.getElem?_drop, Nat.add_zero] at this
section
variable {k : Nat} {Q : AExit -> Env -> Store -> Prop} {Z : Env} {τ : Store} {u : V8} {p : List UInt8} {n : Nat}
set_option maxHeartbeats 8000000 in
theorem znm {q : List UInt8} (K : Rk Z τ.length p n)
    (hQ : ∀ Z', Rk Z' τ.length p n -> Q .normal Z' (mkS τ (mixS u q) (ws (z11 q 64)))) : zW TC 252 k q8c53 Q Z (mkS τ u (ws (z11 q 64))) := by
  obtain ⟨R, hR⟩ : ∃ R, R = z11 q 64 := ⟨_, rfl⟩
  have hRl : R.length = 64 := by rw [hR, z4w]
  have hwR : (ws R).length = 64 := by rw [z4j, hRl]
  have hst : ∀ n, rnds q u (n + 1) = rnd (rnds q u n) (kAt n) (wat R n) := fun n => by rw [rnds, hR]
  obtain ⟨U, hU⟩ : ∃ U, U = rnds q u 64 := ⟨_, rfl⟩
  have hmix : mixS u q = U.add u := by rw [mixS, hU]
  rw [hmix] at hQ
  rw [<- hR] at hQ ⊢
  obtain ⟨k2, k3, k4, k5, k6, k7⟩ := K
  unfold mkS
  refine zW.zs ?_
  (refine zW.regS ?_; (simp (disch:=first|omega|(simp only [lens];first|done|omega)) only [go_sem,reduceEqDiff,Nat.reduceBEq,reduceAdd,reduceMul,reduceSub,reduceLeDiff,reduceToNat,reducePow, k4, V8.c8]))
  (refine zW.slots [2, 3, 4, 5, 6, 7, 13, 14, 15, 16, 17, 18, 19, 20] ?_; intro Z1 hs; simp (disch:=first|omega|(simp only [lens];first|done|omega)) only [go_sem,reduceEqDiff,Nat.reduceBEq,reduceAdd,reduceMul,reduceSub,reduceLeDiff,reduceToNat,reducePow, k2, k3, k4, k5, k6, k7] at hs; obtain ⟨s2, s3, s4, s5, s6, s7, s13, s14, s15, s16, s17, s18, s19, s20⟩ := hs)
  refine zW.zs ?_
  refine zW.zs ?_
  (refine zW.regS ?_; (simp (disch:=first|omega|(simp only [lens];first|done|omega)) only [go_sem,reduceEqDiff,Nat.reduceBEq,reduceAdd,reduceMul,reduceSub,reduceLeDiff,reduceToNat,reducePow]))
  refine zW.zb ?_
  refine zW.loop (fun m Z O' => ∃ i : Nat, m + i = 64 /\ Rk Z τ.length p n /\ Z 21 = .int .i64 i /\ Z 13 = .int .u32 (rnds q u i).a.toNat /\ Z 14 = .int .u32 (rnds q u i).b.toNat /\ Z 15 = .int .u32 (rnds q u i).c.toNat /\ Z 16 = .int .u32 (rnds q u i).d.toNat ∧
    Z 17 = .int .u32 (rnds q u i).e.toNat /\ Z 18 = .int .u32 (rnds q u i).f.toNat /\ Z 19 = .int .u32 (rnds q u i).g.toNat /\ Z 20 = .int .u32 (rnds q u i).h.toNat /\ O' = mkS τ u (ws R)) 64 ?_ ?_
  · exact ⟨0, by omega, ⟨by simp (disch:=first|omega|(simp only [lens];first|done|omega)) only [go_sem,reduceEqDiff,Nat.reduceBEq,reduceAdd,reduceMul,reduceSub,reduceLeDiff,reduceToNat,reducePow, s2], by simp (disch:=first|omega|(simp only [lens];first|done|omega)) only [go_sem,reduceEqDiff,Nat.reduceBEq,reduceAdd,reduceMul,reduceSub,reduceLeDiff,reduceToNat,reducePow, s3], by simp (disch:=first|omega|(simp only [lens];first|done|omega)) only [go_sem,reduceEqDiff,Nat.reduceBEq,reduceAdd,reduceMul,reduceSub,reduceLeDiff,reduceToNat,reducePow, s4], by simp (disch:=first|omega|(simp only [lens];first|done|omega)) only [go_sem,reduceEqDiff,Nat.reduceBEq,reduceAdd,reduceMul,reduceSub,reduceLeDiff,reduceToNat,reducePow, s5], by simp (disch:=first|omega|(simp only [lens];first|done|omega)) only [go_sem,reduceEqDiff,Nat.reduceBEq,reduceAdd,reduceMul,reduceSub,reduceLeDiff,reduceToNat,reducePow, s6], by simp (disch:=first|omega|(simp only [lens];first|done|omega)) only [go_sem,reduceEqDiff,Nat.reduceBEq,reduceAdd,reduceMul,reduceSub,reduceLeDiff,reduceToNat,reducePow, s7]⟩, by simp (disch:=first|omega|(simp only [lens];first|done|omega)) only [go_sem,reduceEqDiff,Nat.reduceBEq,reduceAdd,reduceMul,reduceSub,reduceLeDiff,reduceToNat,reducePow]; rfl, by simp (disch:=first|omega|(simp only [lens];first|done|omega)) only [go_sem,reduceEqDiff,Nat.reduceBEq,reduceAdd,reduceMul,reduceSub,reduceLeDiff,reduceToNat,reducePow, s13]; rfl, by simp (disch:=first|omega|(simp only [lens];first|done|omega)) only [go_sem,reduceEqDiff,Nat.reduceBEq,reduceAdd,reduceMul,reduceSub,reduceLeDiff,reduceToNat,reducePow, s14]; rfl, by simp (disch:=first|omega|(simp only [lens];first|done|omega)) only [go_sem,reduceEqDiff,Nat.reduceBEq,reduceAdd,reduceMul,reduceSub,reduceLeDiff,reduceToNat,reducePow, s15]; rfl, by simp (disch:=first|omega|(simp only [lens];first|done|omega)) only [go_sem,reduceEqDiff,Nat.reduceBEq,reduceAdd,reduceMul,reduceSub,reduceLeDiff,reduceToNat,reducePow, s16]; rfl, by simp (disch:=first|omega|(simp only [lens];first|done|omega)) only [go_sem,reduceEqDiff,Nat.reduceBEq,reduceAdd,reduceMul,reduceSub,reduceLeDiff,reduceToNat,reducePow, s17]; rfl, by simp (disch:=first|omega|(simp only [lens];first|done|omega)) only [go_sem,reduceEqDiff,Nat.reduceBEq,reduceAdd,reduceMul,reduceSub,reduceLeDiff,reduceToNat,reducePow, s18]; rfl, by simp (disch:=first|omega|(simp only [lens];first|done|omega)) only [go_sem,reduceEqDiff,Nat.reduceBEq,reduceAdd,reduceMul,reduceSub,reduceLeDiff,reduceToNat,reducePow, s19]; rfl, by simp (disch:=first|omega|(simp only [lens];first|done|omega)) only [go_sem,reduceEqDiff,Nat.reduceBEq,reduceAdd,reduceMul,reduceSub,reduceLeDiff,reduceToNat,reducePow, s20]; rfl, rfl⟩
  · clear s2 s3 s4 s5 s6 s7 s13 s14 s15 s16 s17 s18 s19 s20
    rintro m Z O' ⟨i, hm, ⟨q2, q3, q4, q5, q6, q7⟩, q21, q13, q14, q15, q16, q17, q18, q19, q20, rfl⟩
    by_cases hi : i < 64
    · have hk := k_get hi
      have hw := z7d (w := R) (i := i) (by omega)
      have hst := hst i
      generalize rnds q u i = v at *
      obtain ⟨a, b, c, d, e, f, g, h⟩ := v
      simp only at q13 q14 q15 q16 q17 q18 q19 q20
      generalize kAt i = kk at *
      generalize wat R i = ww at *
      generalize hpb : zl p = pb at *
      unfold mkS
      refine zW.zs ?_
      refine zW.zs ?_
      (refine zW.regS ?_; (simp (disch:=first|omega|(simp only [lens];first|done|omega)) only [go_sem,reduceEqDiff,Nat.reduceBEq,reduceAdd,reduceMul,reduceSub,reduceLeDiff,reduceToNat,reducePow, q21]))
      refine zW.zt rfl ?_
      refine zW.zk ?_
      simp (disch:=first|omega|(simp only [lens];first|done|omega)) only [go_sem,reduceEqDiff,Nat.reduceBEq,reduceAdd,reduceMul,reduceSub,reduceLeDiff,reduceToNat,reducePow]
      refine zW.zs ?_
      refine zW.zb ?_
      refine zW.zs ?_
      (refine zW.regS ?_; (simp (disch:=first|omega|(simp only [lens];first|done|omega)) only [go_sem,reduceEqDiff,Nat.reduceBEq,reduceAdd,reduceMul,reduceSub,reduceLeDiff,reduceToNat,reducePow, q3, q6, q17, q18, q19, q20, q21, hwR, hk, hw, z7v]); repeat' (apply callW.za; (first | exact (za4 _ _ _ (by omega))); all_goals try (simp (disch:=first|omega|(simp only [lens];first|done|omega)) only [go_sem,reduceEqDiff,Nat.reduceBEq,reduceAdd,reduceMul,reduceSub,reduceLeDiff,reduceToNat,reducePow, q3, q6, q17, q18, q19, q20, q21, hwR, hk, hw, z7v])))
      (refine zW.slots [2, 3, 4, 5, 6, 7, 13, 14, 15, 16, 17, 18, 19, 20, 21, 22] ?_; intro Z2 hs; simp (disch:=first|omega|(simp only [lens];first|done|omega)) only [go_sem,reduceEqDiff,Nat.reduceBEq,reduceAdd,reduceMul,reduceSub,reduceLeDiff,reduceToNat,reducePow, q2, q3, q4, q5, q6, q7, q13, q14, q15, q16, q17, q18, q19, q20, q21] at hs; obtain ⟨s2, s3, s4, s5, s6, s7, s13, s14, s15, s16, s17, s18, s19, s20, s21, s22⟩ := hs)
      refine zW.zs ?_
      (refine zW.regS ?_; (simp (disch:=first|omega|(simp only [lens];first|done|omega)) only [go_sem,reduceEqDiff,Nat.reduceBEq,reduceAdd,reduceMul,reduceSub,reduceLeDiff,reduceToNat,reducePow, s13, s14, s15]); repeat' (apply callW.za; (first | exact (za4 _ _ _ (by omega))); all_goals try (simp (disch:=first|omega|(simp only [lens];first|done|omega)) only [go_sem,reduceEqDiff,Nat.reduceBEq,reduceAdd,reduceMul,reduceSub,reduceLeDiff,reduceToNat,reducePow, s13, s14, s15])))
      (refine zW.slots [2, 3, 4, 5, 6, 7, 13, 14, 15, 16, 17, 18, 19, 20, 21, 22, 23] ?_; intro Z3 hs; simp (disch:=first|omega|(simp only [lens];first|done|omega)) only [go_sem,reduceEqDiff,Nat.reduceBEq,reduceAdd,reduceMul,reduceSub,reduceLeDiff,reduceToNat,reducePow, s2, s3, s4, s5, s6, s7, s13, s14, s15, s16, s17, s18, s19, s20, s21, s22] at hs; obtain ⟨s2, s3, s4, s5, s6, s7, s13, s14, s15, s16, s17, s18, s19, s20, s21, s22, s23⟩ := hs)
      (refine zW.regS ?_; (simp (disch:=first|omega|(simp only [lens];first|done|omega)) only [go_sem,reduceEqDiff,Nat.reduceBEq,reduceAdd,reduceMul,reduceSub,reduceLeDiff,reduceToNat,reducePow, s13, s14, s15, s16, s17, s18, s19, s22, s23]))
      (refine zW.slots [2, 3, 4, 5, 6, 7, 13, 14, 15, 16, 17, 18, 19, 20, 21] ?_; intro Z4 hs; simp (disch:=first|omega|(simp only [lens];first|done|omega)) only [go_sem,reduceEqDiff,Nat.reduceBEq,reduceAdd,reduceMul,reduceSub,reduceLeDiff,reduceToNat,reducePow, s2, s3, s4, s5, s6, s7, s21] at hs; obtain ⟨s2, s3, s4, s5, s6, s7, s13, s14, s15, s16, s17, s18, s19, s20, s21⟩ := hs)
      (refine zW.regS ?_; (simp (disch:=first|omega|(simp only [lens];first|done|omega)) only [go_sem,reduceEqDiff,Nat.reduceBEq,reduceAdd,reduceMul,reduceSub,reduceLeDiff,reduceToNat,reducePow, s21]))
      refine ⟨64 - (i + 1), by omega, i + 1, by omega, ⟨s2, s3, s4, by rw [hpb]; exact s5, s6, s7⟩, by simp, ?_⟩
      rw [hst]
      simp only [rnd, bs1, chW, bs0, majW]
      exact ⟨s13, s14, s15, s16, s17, s18, s19, s20⟩
    · obtain rfl : i = 64 := by omega
      rw [<- hU] at q13 q14 q15 q16 q17 q18 q19 q20
      clear hst hU hmix
      obtain ⟨a, b, c, d, e, f, g, h⟩ := U
      obtain ⟨a', b', c', d', e', f', g', h'⟩ := u
      simp only at q13 q14 q15 q16 q17 q18 q19 q20
      unfold mkS
      unfold mkS at hQ
      simp only [V8.add, V8.c8] at hQ
      simp only [V8.c8]
      generalize hpb : zl p = pb at *
      refine zW.zs ?_
      refine zW.zs ?_
      (refine zW.regS ?_; (simp (disch:=first|omega|(simp only [lens];first|done|omega)) only [go_sem,reduceEqDiff,Nat.reduceBEq,reduceAdd,reduceMul,reduceSub,reduceLeDiff,reduceToNat,reducePow, q21]))
      refine zW.zf rfl ?_
      refine zW.ze ?_
      simp (disch:=first|omega|(simp only [lens];first|done|omega)) only [go_sem,reduceEqDiff,Nat.reduceBEq,reduceAdd,reduceMul,reduceSub,reduceLeDiff,reduceToNat,reducePow]
      (refine zW.regS ?_; (simp (disch:=first|omega|(simp only [lens];first|done|omega)) only [go_sem,reduceEqDiff,Nat.reduceBEq,reduceAdd,reduceMul,reduceSub,reduceLeDiff,reduceToNat,reducePow, q4, q13, q14, q15, q16, q17, q18, q19, q20]))
      rw [BitVec.add_comm a' a, BitVec.add_comm b' b, BitVec.add_comm c' c, BitVec.add_comm d' d, BitVec.add_comm e' e, BitVec.add_comm f' f, BitVec.add_comm g' g, BitVec.add_comm h' h]
      exact hQ _ ⟨by simp (disch:=first|omega|(simp only [lens];first|done|omega)) only [go_sem,reduceEqDiff,Nat.reduceBEq,reduceAdd,reduceMul,reduceSub,reduceLeDiff,reduceToNat,reducePow, q2], by simp (disch:=first|omega|(simp only [lens];first|done|omega)) only [go_sem,reduceEqDiff,Nat.reduceBEq,reduceAdd,reduceMul,reduceSub,reduceLeDiff,reduceToNat,reducePow, q3], by simp (disch:=first|omega|(simp only [lens];first|done|omega)) only [go_sem,reduceEqDiff,Nat.reduceBEq,reduceAdd,reduceMul,reduceSub,reduceLeDiff,reduceToNat,reducePow, q4], (by simp (disch:=first|omega|(simp only [lens];first|done|omega)) only [go_sem,reduceEqDiff,Nat.reduceBEq,reduceAdd,reduceMul,reduceSub,reduceLeDiff,reduceToNat,reducePow, q5]; rw [hpb]), by simp (disch:=first|omega|(simp only [lens];first|done|omega)) only [go_sem,reduceEqDiff,Nat.reduceBEq,reduceAdd,reduceMul,reduceSub,reduceLeDiff,reduceToNat,reducePow, q6], by simp (disch:=first|omega|(simp only [lens];first|done|omega)) only [go_sem,reduceEqDiff,Nat.reduceBEq,reduceAdd,reduceMul,reduceSub,reduceLeDiff,reduceToNat,reducePow, q7]⟩
end
end Am
end Go.Proofs.YtncenefkbpelbaaDoor
end
