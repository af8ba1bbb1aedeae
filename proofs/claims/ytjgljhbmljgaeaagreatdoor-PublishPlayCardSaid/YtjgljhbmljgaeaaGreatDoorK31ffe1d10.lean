import Derived.Test.YtjgljhbmljgaeaaGreatDoorK2f3b62dca
import Derived.LaidMore
import Derived.Stop.Joined
import Derived.Test.YtjgljhbmljgaeaaGreatDoorRows
import Derived.KernelRfl
import Derived.RangeFuncBox
import Derived.RangeFuncLeaves
import Derived.Shelf.Abstract
import Derived.WalkKit
import Derived.OwnWalkIn
import Derived.TacticsInMore
import Derived.LoopNIn
import Derived.LoopIn
import Derived.Test.YtjgljhbmljgaeaaGreatDoorProg
import Derived.Shelf.Strings.Builder1
import Derived.Shelf.Strings.Builder2
import Derived.Shelf.Strings.BuilderF
import Derived.Shelf.Strings.Prefix
import Derived.Shelf.Bits.Mul64
import Derived.Shelf.Strings.Repeat
set_option linter.unusedSimpArgs false
set_option linter.unusedVariables false
open Nat (reduceEqDiff reduceAdd reduceMul reduceSub reduceLeDiff)
open Int (reduceToNat reducePow)
open Nat renaming reduceEqDiff -> nQ1, reduceBEq -> nQ2, reduceAdd -> nQ3, reduceMul -> nQ4, reduceSub -> nQ5, reduceLeDiff -> nQ6
open Int renaming reduceToNat -> nQ7, reducePow -> nQ8
open List renaming length_reverse -> lQr, length_map -> lQm, length_take -> lQt, length_drop -> lQd, length_set -> lQs
namespace Go.Proofs.YtjgljhbmljgaeaaGreatDoor
namespace Am
section
theorem lens : (∀ {α : Type} {l : List α} {i : Nat} {a : α}, (l.set i a).length = l.length) /\ (∀ {α : Type} {l m : List α}, (l ++ m).length = l.length + m.length) /\ (∀ {α : Type} {a : α} {l : List α}, (a :: l).length = l.length + 1) /\ (∀ {α : Type}, ([] : List α).length = 0) /\ (∀ {α β : Type} {f : α -> β} {l : List α}, (l.map f).length = l.length) :=
 ⟨List.length_set, List.length_append, List.length_cons, List.length_nil, List.length_map _⟩
section
variable {C : Ctx} {n k : Nat} {Q : AExit -> Env -> Store -> Prop} {O : Env} {Y : Store}
theorem zd_ {x : AX} {p q : ACode} {P : Prop} [hd : Decidable P] (hx : x.ev O = .bool (@decide P hd)) (h1 : P -> zW C n k p Q O Y) (h2 : ¬ P -> zW C n k q Q O Y) : zW C n k (.cond x p q) Q O Y :=
 zW.cond hx (fun h => h1 (of_decide_eq_true h)) (fun h => h2 (of_decide_eq_false h))
theorem zt_ {x : AX} {p q : ACode} (hx : x.ev O = .bool true) (h1 : zW C n k p Q O Y) : zW C n k (.cond x p q) Q O Y :=
 zW.cond hx (fun _ => h1) (fun h => by cases h)
theorem zf_ {x : AX} {p q : ACode} (hx : x.ev O = .bool false) (h1 : zW C n k q Q O Y) : zW C n k (.cond x p q) Q O Y :=
 zW.cond hx (fun h => by cases h) (fun _ => h1)
theorem z9a {n : Int} (h : -9223372036854775808 <= n /\ n < 9223372036854775808) : IntKind.i64.wrap n = n := by
 simp [IntKind.wrap, IntKind.signed, IntKind.bits]; omega
theorem zbe {n : Int} (h : 0 <= n /\ n < 18446744073709551616) : IntKind.u64.wrap n = n := by
 simp [IntKind.wrap, IntKind.signed, IntKind.bits]; omega
theorem z9b {n : Int} (h : 0 <= n /\ n < 4294967296) : IntKind.u32.wrap n = n := by
 simp [IntKind.wrap, IntKind.signed, IntKind.bits]; omega
theorem zbd {n : Int} (h : 0 <= n /\ n < 65536) : IntKind.u16.wrap n = n := by
 simp [IntKind.wrap, IntKind.signed, IntKind.bits]; omega
theorem w_u8 {n : Int} (h : 0 <= n /\ n < 256) : IntKind.u8.wrap n = n := by
 simp [IntKind.wrap, IntKind.signed, IntKind.bits]; omega
theorem shr_u8 {a b : Int} (h : 0 <= b /\ b < 8) : z1g .shr .u8 a b = some (.int .u8 (a / 2 ^ b.toNat)) := by
 simp only [z1g, IntKind.bits]
 rw [if_neg (by omega), Nat.min_eq_left (by omega), Int.fdiv_eq_ediv_of_nonneg _ (Int.pow_nonneg (by decide))]
theorem shl_u8 {a b : Int} (h : 0 <= b /\ b < 8) : z1g .shl .u8 a b = some (.int .u8 (IntKind.u8.wrap (a * 2 ^ b.toNat))) := by
 simp only [z1g, IntKind.bits]
 rw [if_neg (by omega), Nat.min_eq_left (by omega)]
theorem zs6 {a b : Int} (h : 0 <= b /\ b < 16) : z1g .shr .u16 a b = some (.int .u16 (a / 2 ^ b.toNat)) := by
 simp only [z1g, IntKind.bits]
 rw [if_neg (by omega), Nat.min_eq_left (by omega), Int.fdiv_eq_ediv_of_nonneg _ (Int.pow_nonneg (by decide))]
theorem zs1 {a b : Int} (h : 0 <= b /\ b < 16) : z1g .shl .u16 a b = some (.int .u16 (IntKind.u16.wrap (a * 2 ^ b.toNat))) := by
 simp only [z1g, IntKind.bits]
 rw [if_neg (by omega), Nat.min_eq_left (by omega)]
theorem zii {a b : Int} (h : 0 <= b /\ b < 32) : z1g .shr .u32 a b = some (.int .u32 (a / 2 ^ b.toNat)) := by
 simp only [z1g, IntKind.bits]
 rw [if_neg (by omega), Nat.min_eq_left (by omega), Int.fdiv_eq_ediv_of_nonneg _ (Int.pow_nonneg (by decide))]
theorem zif {a b : Int} (h : 0 <= b /\ b < 32) : z1g .shl .u32 a b = some (.int .u32 (IntKind.u32.wrap (a * 2 ^ b.toNat))) := by
 simp only [z1g, IntKind.bits]
 rw [if_neg (by omega), Nat.min_eq_left (by omega)]
theorem zs7 {a b : Int} (h : 0 <= b /\ b < 64) : z1g .shr .u64 a b = some (.int .u64 (a / 2 ^ b.toNat)) := by
 simp only [z1g, IntKind.bits]
 rw [if_neg (by omega), Nat.min_eq_left (by omega), Int.fdiv_eq_ediv_of_nonneg _ (Int.pow_nonneg (by decide))]
theorem zs2 {a b : Int} (h : 0 <= b /\ b < 64) : z1g .shl .u64 a b = some (.int .u64 (IntKind.u64.wrap (a * 2 ^ b.toNat))) := by
 simp only [z1g, IntKind.bits]
 rw [if_neg (by omega), Nat.min_eq_left (by omega)]
theorem zs5 {a b : Int} (h : 0 <= b /\ b < 64) : z1g .shr .i64 a b = some (.int .i64 (a / 2 ^ b.toNat)) := by
 simp only [z1g, IntKind.bits]
 rw [if_neg (by omega), Nat.min_eq_left (by omega), Int.fdiv_eq_ediv_of_nonneg _ (Int.pow_nonneg (by decide))]
theorem zs0 {a b : Int} (h : 0 <= b /\ b < 64) : z1g .shl .i64 a b = some (.int .i64 (IntKind.i64.wrap (a * 2 ^ b.toNat))) := by
 simp only [z1g, IntKind.bits]
 rw [if_neg (by omega), Nat.min_eq_left (by omega)]
theorem zgg {k : IntKind} {a b : Int} : z15 .add k a b = some (.int k (k.wrap (a + b))) := rfl
theorem ib_sub {k : IntKind} {a b : Int} : z15 .sub k a b = some (.int k (k.wrap (a - b))) := rfl
theorem ib_mul {k : IntKind} {a b : Int} : z15 .mul k a b = some (.int k (k.wrap (a * b))) := rfl
theorem ib_quo {k : IntKind} {a b : Int} : z15 .quo k a b = if b = 0 then none else some (.int k (k.wrap (a.tdiv b))) := rfl
theorem ib_rem {k : IntKind} {a b : Int} : z15 .rem k a b = if b = 0 then none else some (.int k (a.tmod b)) := rfl
theorem ib_eql {k : IntKind} {a b : Int} : z15 .eql k a b = some (.bool (a == b)) := rfl
theorem ib_neq {k : IntKind} {a b : Int} : z15 .neq k a b = some (.bool (a != b)) := rfl
theorem ib_lss {k : IntKind} {a b : Int} : z15 .lss k a b = some (.bool (decide (a < b))) := rfl
theorem ib_leq {k : IntKind} {a b : Int} : z15 .leq k a b = some (.bool (decide (a <= b))) := rfl
theorem ib_gtr {k : IntKind} {a b : Int} : z15 .gtr k a b = some (.bool (decide (a > b))) := rfl
theorem ib_geq {k : IntKind} {a b : Int} : z15 .geq k a b = some (.bool (decide (a >= b))) := rfl
theorem zmo {a b : Int} (ha : 0 <= a /\ a < 256) (hb : 0 <= b /\ b < 256) : z15 .and .u8 a b = some (.int .u8 ((a.toNat &&& b.toNat : Nat) : Int)) := by
 have h : (BitVec.ofInt IntKind.u8.bits a &&& BitVec.ofInt IntKind.u8.bits b).toNat = a.toNat &&& b.toNat := by
  rw [BitVec.toNat_and, BitVec.toNat_ofInt, BitVec.toNat_ofInt]
  simp only [IntKind.bits]
  rw [Int.emod_eq_of_lt (by omega) (by omega), Int.emod_eq_of_lt (by omega) (by omega)]
 have h1 : a.toNat < 2 ^ 8 := by omega
 have h2 : b.toNat < 2 ^ 8 := by omega
 have h3 : a.toNat &&& b.toNat < 2 ^ 8 := Nat.and_lt_two_pow _ h2
 simp only [z15]
 rw [h, w_u8 ⟨by omega, by omega⟩]
theorem zms {a b : Int} (ha : 0 <= a /\ a < 256) (hb : 0 <= b /\ b < 256) : z15 .or .u8 a b = some (.int .u8 ((a.toNat ||| b.toNat : Nat) : Int)) := by
 have h : (BitVec.ofInt IntKind.u8.bits a ||| BitVec.ofInt IntKind.u8.bits b).toNat = a.toNat ||| b.toNat := by
  rw [BitVec.toNat_or, BitVec.toNat_ofInt, BitVec.toNat_ofInt]
  simp only [IntKind.bits]
  rw [Int.emod_eq_of_lt (by omega) (by omega), Int.emod_eq_of_lt (by omega) (by omega)]
 have h1 : a.toNat < 2 ^ 8 := by omega
 have h2 : b.toNat < 2 ^ 8 := by omega
 have h3 : a.toNat ||| b.toNat < 2 ^ 8 := Nat.or_lt_two_pow h1 h2
 simp only [z15]
 rw [h, w_u8 ⟨by omega, by omega⟩]
theorem zmw {a b : Int} (ha : 0 <= a /\ a < 256) (hb : 0 <= b /\ b < 256) : z15 .xor .u8 a b = some (.int .u8 ((a.toNat ^^^ b.toNat : Nat) : Int)) := by
 have h : (BitVec.ofInt IntKind.u8.bits a ^^^ BitVec.ofInt IntKind.u8.bits b).toNat = a.toNat ^^^ b.toNat := by
  rw [BitVec.toNat_xor, BitVec.toNat_ofInt, BitVec.toNat_ofInt]
  simp only [IntKind.bits]
  rw [Int.emod_eq_of_lt (by omega) (by omega), Int.emod_eq_of_lt (by omega) (by omega)]
 have h1 : a.toNat < 2 ^ 8 := by omega
 have h2 : b.toNat < 2 ^ 8 := by omega
 have h3 : a.toNat ^^^ b.toNat < 2 ^ 8 := Nat.xor_lt_two_pow h1 h2
 simp only [z15]
 rw [h, w_u8 ⟨by omega, by omega⟩]
theorem zmm {a b : Int} (ha : 0 <= a /\ a < 65536) (hb : 0 <= b /\ b < 65536) : z15 .and .u16 a b = some (.int .u16 ((a.toNat &&& b.toNat : Nat) : Int)) := by
 have h : (BitVec.ofInt IntKind.u16.bits a &&& BitVec.ofInt IntKind.u16.bits b).toNat = a.toNat &&& b.toNat := by
  rw [BitVec.toNat_and, BitVec.toNat_ofInt, BitVec.toNat_ofInt]
  simp only [IntKind.bits]
  rw [Int.emod_eq_of_lt (by omega) (by omega), Int.emod_eq_of_lt (by omega) (by omega)]
 have h1 : a.toNat < 2 ^ 16 := by omega
 have h2 : b.toNat < 2 ^ 16 := by omega
 have h3 : a.toNat &&& b.toNat < 2 ^ 16 := Nat.and_lt_two_pow _ h2
 simp only [z15]
 rw [h, zbd ⟨by omega, by omega⟩]
theorem zmq {a b : Int} (ha : 0 <= a /\ a < 65536) (hb : 0 <= b /\ b < 65536) : z15 .or .u16 a b = some (.int .u16 ((a.toNat ||| b.toNat : Nat) : Int)) := by
 have h : (BitVec.ofInt IntKind.u16.bits a ||| BitVec.ofInt IntKind.u16.bits b).toNat = a.toNat ||| b.toNat := by
  rw [BitVec.toNat_or, BitVec.toNat_ofInt, BitVec.toNat_ofInt]
  simp only [IntKind.bits]
  rw [Int.emod_eq_of_lt (by omega) (by omega), Int.emod_eq_of_lt (by omega) (by omega)]
 have h1 : a.toNat < 2 ^ 16 := by omega
 have h2 : b.toNat < 2 ^ 16 := by omega
 have h3 : a.toNat ||| b.toNat < 2 ^ 16 := Nat.or_lt_two_pow h1 h2
 simp only [z15]
 rw [h, zbd ⟨by omega, by omega⟩]
theorem zmu {a b : Int} (ha : 0 <= a /\ a < 65536) (hb : 0 <= b /\ b < 65536) : z15 .xor .u16 a b = some (.int .u16 ((a.toNat ^^^ b.toNat : Nat) : Int)) := by
 have h : (BitVec.ofInt IntKind.u16.bits a ^^^ BitVec.ofInt IntKind.u16.bits b).toNat = a.toNat ^^^ b.toNat := by
  rw [BitVec.toNat_xor, BitVec.toNat_ofInt, BitVec.toNat_ofInt]
  simp only [IntKind.bits]
  rw [Int.emod_eq_of_lt (by omega) (by omega), Int.emod_eq_of_lt (by omega) (by omega)]
 have h1 : a.toNat < 2 ^ 16 := by omega
 have h2 : b.toNat < 2 ^ 16 := by omega
 have h3 : a.toNat ^^^ b.toNat < 2 ^ 16 := Nat.xor_lt_two_pow h1 h2
 simp only [z15]
 rw [h, zbd ⟨by omega, by omega⟩]
theorem zgh {a b : Int} (ha : 0 <= a /\ a < 4294967296) (hb : 0 <= b /\ b < 4294967296) : z15 .and .u32 a b = some (.int .u32 ((a.toNat &&& b.toNat : Nat) : Int)) := by
 have h : (BitVec.ofInt IntKind.u32.bits a &&& BitVec.ofInt IntKind.u32.bits b).toNat = a.toNat &&& b.toNat := by
  rw [BitVec.toNat_and, BitVec.toNat_ofInt, BitVec.toNat_ofInt]
  simp only [IntKind.bits]
  rw [Int.emod_eq_of_lt (by omega) (by omega), Int.emod_eq_of_lt (by omega) (by omega)]
 have h1 : a.toNat < 2 ^ 32 := by omega
 have h2 : b.toNat < 2 ^ 32 := by omega
 have h3 : a.toNat &&& b.toNat < 2 ^ 32 := Nat.and_lt_two_pow _ h2
 simp only [z15]
 rw [h, z9b ⟨by omega, by omega⟩]
theorem zgi {a b : Int} (ha : 0 <= a /\ a < 4294967296) (hb : 0 <= b /\ b < 4294967296) : z15 .or .u32 a b = some (.int .u32 ((a.toNat ||| b.toNat : Nat) : Int)) := by
 have h : (BitVec.ofInt IntKind.u32.bits a ||| BitVec.ofInt IntKind.u32.bits b).toNat = a.toNat ||| b.toNat := by
  rw [BitVec.toNat_or, BitVec.toNat_ofInt, BitVec.toNat_ofInt]
  simp only [IntKind.bits]
  rw [Int.emod_eq_of_lt (by omega) (by omega), Int.emod_eq_of_lt (by omega) (by omega)]
 have h1 : a.toNat < 2 ^ 32 := by omega
 have h2 : b.toNat < 2 ^ 32 := by omega
 have h3 : a.toNat ||| b.toNat < 2 ^ 32 := Nat.or_lt_two_pow h1 h2
 simp only [z15]
 rw [h, z9b ⟨by omega, by omega⟩]
theorem zgj {a b : Int} (ha : 0 <= a /\ a < 4294967296) (hb : 0 <= b /\ b < 4294967296) : z15 .xor .u32 a b = some (.int .u32 ((a.toNat ^^^ b.toNat : Nat) : Int)) := by
 have h : (BitVec.ofInt IntKind.u32.bits a ^^^ BitVec.ofInt IntKind.u32.bits b).toNat = a.toNat ^^^ b.toNat := by
  rw [BitVec.toNat_xor, BitVec.toNat_ofInt, BitVec.toNat_ofInt]
  simp only [IntKind.bits]
  rw [Int.emod_eq_of_lt (by omega) (by omega), Int.emod_eq_of_lt (by omega) (by omega)]
 have h1 : a.toNat < 2 ^ 32 := by omega
 have h2 : b.toNat < 2 ^ 32 := by omega
 have h3 : a.toNat ^^^ b.toNat < 2 ^ 32 := Nat.xor_lt_two_pow h1 h2
 simp only [z15]
 rw [h, z9b ⟨by omega, by omega⟩]
theorem zmn {a b : Int} (ha : 0 <= a /\ a < 18446744073709551616) (hb : 0 <= b /\ b < 18446744073709551616) : z15 .and .u64 a b = some (.int .u64 ((a.toNat &&& b.toNat : Nat) : Int)) := by
 have h : (BitVec.ofInt IntKind.u64.bits a &&& BitVec.ofInt IntKind.u64.bits b).toNat = a.toNat &&& b.toNat := by
  rw [BitVec.toNat_and, BitVec.toNat_ofInt, BitVec.toNat_ofInt]
  simp only [IntKind.bits]
  rw [Int.emod_eq_of_lt (by omega) (by omega), Int.emod_eq_of_lt (by omega) (by omega)]
 have h1 : a.toNat < 2 ^ 64 := by omega
 have h2 : b.toNat < 2 ^ 64 := by omega
 have h3 : a.toNat &&& b.toNat < 2 ^ 64 := Nat.and_lt_two_pow _ h2
 simp only [z15]
 rw [h, zbe ⟨by omega, by omega⟩]
theorem zmr {a b : Int} (ha : 0 <= a /\ a < 18446744073709551616) (hb : 0 <= b /\ b < 18446744073709551616) : z15 .or .u64 a b = some (.int .u64 ((a.toNat ||| b.toNat : Nat) : Int)) := by
 have h : (BitVec.ofInt IntKind.u64.bits a ||| BitVec.ofInt IntKind.u64.bits b).toNat = a.toNat ||| b.toNat := by
  rw [BitVec.toNat_or, BitVec.toNat_ofInt, BitVec.toNat_ofInt]
  simp only [IntKind.bits]
  rw [Int.emod_eq_of_lt (by omega) (by omega), Int.emod_eq_of_lt (by omega) (by omega)]
 have h1 : a.toNat < 2 ^ 64 := by omega
 have h2 : b.toNat < 2 ^ 64 := by omega
 have h3 : a.toNat ||| b.toNat < 2 ^ 64 := Nat.or_lt_two_pow h1 h2
 simp only [z15]
 rw [h, zbe ⟨by omega, by omega⟩]
theorem zmv {a b : Int} (ha : 0 <= a /\ a < 18446744073709551616) (hb : 0 <= b /\ b < 18446744073709551616) : z15 .xor .u64 a b = some (.int .u64 ((a.toNat ^^^ b.toNat : Nat) : Int)) := by
 have h : (BitVec.ofInt IntKind.u64.bits a ^^^ BitVec.ofInt IntKind.u64.bits b).toNat = a.toNat ^^^ b.toNat := by
  rw [BitVec.toNat_xor, BitVec.toNat_ofInt, BitVec.toNat_ofInt]
  simp only [IntKind.bits]
  rw [Int.emod_eq_of_lt (by omega) (by omega), Int.emod_eq_of_lt (by omega) (by omega)]
 have h1 : a.toNat < 2 ^ 64 := by omega
 have h2 : b.toNat < 2 ^ 64 := by omega
 have h3 : a.toNat ^^^ b.toNat < 2 ^ 64 := Nat.xor_lt_two_pow h1 h2
 simp only [z15]
 rw [h, zbe ⟨by omega, by omega⟩]
theorem zml {a b : Int} (ha : 0 <= a /\ a < 9223372036854775808) (hb : 0 <= b /\ b < 9223372036854775808) : z15 .and .i64 a b = some (.int .i64 ((a.toNat &&& b.toNat : Nat) : Int)) := by
 have h : (BitVec.ofInt IntKind.i64.bits a &&& BitVec.ofInt IntKind.i64.bits b).toNat = a.toNat &&& b.toNat := by
  rw [BitVec.toNat_and, BitVec.toNat_ofInt, BitVec.toNat_ofInt]
  simp only [IntKind.bits]
  rw [Int.emod_eq_of_lt (by omega) (by omega), Int.emod_eq_of_lt (by omega) (by omega)]
 have h1 : a.toNat < 2 ^ 63 := by omega
 have h2 : b.toNat < 2 ^ 63 := by omega
 have h3 : a.toNat &&& b.toNat < 2 ^ 63 := Nat.and_lt_two_pow _ h2
 simp only [z15]
 rw [h, z9a ⟨by omega, by omega⟩]
theorem zmp {a b : Int} (ha : 0 <= a /\ a < 9223372036854775808) (hb : 0 <= b /\ b < 9223372036854775808) : z15 .or .i64 a b = some (.int .i64 ((a.toNat ||| b.toNat : Nat) : Int)) := by
 have h : (BitVec.ofInt IntKind.i64.bits a ||| BitVec.ofInt IntKind.i64.bits b).toNat = a.toNat ||| b.toNat := by
  rw [BitVec.toNat_or, BitVec.toNat_ofInt, BitVec.toNat_ofInt]
  simp only [IntKind.bits]
  rw [Int.emod_eq_of_lt (by omega) (by omega), Int.emod_eq_of_lt (by omega) (by omega)]
 have h1 : a.toNat < 2 ^ 63 := by omega
 have h2 : b.toNat < 2 ^ 63 := by omega
 have h3 : a.toNat ||| b.toNat < 2 ^ 63 := Nat.or_lt_two_pow h1 h2
 simp only [z15]
 rw [h, z9a ⟨by omega, by omega⟩]
theorem zmt {a b : Int} (ha : 0 <= a /\ a < 9223372036854775808) (hb : 0 <= b /\ b < 9223372036854775808) : z15 .xor .i64 a b = some (.int .i64 ((a.toNat ^^^ b.toNat : Nat) : Int)) := by
 have h : (BitVec.ofInt IntKind.i64.bits a ^^^ BitVec.ofInt IntKind.i64.bits b).toNat = a.toNat ^^^ b.toNat := by
  rw [BitVec.toNat_xor, BitVec.toNat_ofInt, BitVec.toNat_ofInt]
  simp only [IntKind.bits]
  rw [Int.emod_eq_of_lt (by omega) (by omega), Int.emod_eq_of_lt (by omega) (by omega)]
 have h1 : a.toNat < 2 ^ 63 := by omega
 have h2 : b.toNat < 2 ^ 63 := by omega
 have h3 : a.toNat ^^^ b.toNat < 2 ^ 63 := Nat.xor_lt_two_pow h1 h2
 simp only [z15]
 rw [h, z9a ⟨by omega, by omega⟩]
theorem mask1 (a : Nat) : a &&& 1 = a % 2 := Nat.and_two_pow_sub_one_eq_mod a 1
theorem mask2 (a : Nat) : a &&& 3 = a % 4 := Nat.and_two_pow_sub_one_eq_mod a 2
theorem mask3 (a : Nat) : a &&& 7 = a % 8 := Nat.and_two_pow_sub_one_eq_mod a 3
theorem mask4 (a : Nat) : a &&& 15 = a % 16 := Nat.and_two_pow_sub_one_eq_mod a 4
theorem mask5 (a : Nat) : a &&& 31 = a % 32 := Nat.and_two_pow_sub_one_eq_mod a 5
theorem mask6 (a : Nat) : a &&& 63 = a % 64 := Nat.and_two_pow_sub_one_eq_mod a 6
theorem mask7 (a : Nat) : a &&& 127 = a % 128 := Nat.and_two_pow_sub_one_eq_mod a 7
theorem mask8 (a : Nat) : a &&& 255 = a % 256 := Nat.and_two_pow_sub_one_eq_mod a 8
theorem mask12 (a : Nat) : a &&& 4095 = a % 4096 := Nat.and_two_pow_sub_one_eq_mod a 12
theorem zn2 (a b : Int) : (a == b) = decide (a = b) := by
 by_cases h : a = b <;> simp [h]
theorem zn3 (a b : Int) : (a != b) = decide (¬ a = b) := by
 by_cases h : a = b <;> simp [h]
theorem zo1 (p : Prop) [Decidable p] : (!decide p) = decide (¬ p) := by simp
theorem zsx {a b : Int} (h : 0 <= a) : a.tdiv b = a / b := Int.tdiv_eq_ediv_of_nonneg h
theorem zsz {a b : Int} (h : 0 <= a) : a.tmod b = a % b := Int.tmod_eq_emod_of_nonneg h
theorem getQ {α : Type} (l : List α) (i : Nat) (d : α) (h : i < l.length) : l[i]? = some (l.getD i d) := by
 simp [List.getD_eq_getElem?_getD, List.getElem?_eq_getElem h]
theorem upd_b {d t : Nat} {v : AV} : upd O d v t = bif t == d then v else O t := by
 unfold upd
 by_cases h : t = d
 ·simp [h]
 ·have : (t == d) = false := by simpa using h
  rw [if_neg h, this]; rfl
theorem z43 {K : Env -> Store -> Prop} {O' : Env} {Y' : Store} : z36 K Y false (some (O', Y')) = K O' Y' := Eq.trans rfl rfl
theorem z44 {K : Env -> Store -> Prop} {O' : Env} {Y' : Store} : z36 K Y true (some (O', Y')) = (Y' = Y /\ K O' Y') := Eq.trans rfl rfl
section
variable {K : Hist -> Env -> Store -> Prop} {H : Hist} {d : Option Nat} {g : Option (Nat × Bool)} {op : AOp} {nd : Nd} {f : AX} {xs : List AX} {v : AV} {s : Store}
theorem z5b : zw K H ⟨d, g, .no, op⟩ O Y = z36 (K H) Y false (z2i ⟨d, g, .no, op⟩ O Y) := Eq.trans rfl rfl
theorem z5c : zw K H ⟨d, g, .same, op⟩ O Y = z36 (K H) Y true (z2i ⟨d, g, .same, op⟩ O Y) := Eq.trans rfl rfl
theorem zsn : zw K H ⟨d, g, .rd, op⟩ O Y = rdW K H d op O Y (z1k O g) := Eq.trans rfl rfl
theorem zsl : zw K H ⟨d, g, .ef, op⟩ O Y = efW K H d op O Y (z1k O g) := Eq.trans rfl rfl
theorem rdW_t : rdW K H d op O Y (some true) = rdC K H d op O Y (op.run O Y) := Eq.trans rfl rfl
theorem rdW_f : rdW K H d op O Y (some false) = K H (putE O d .undef) Y := Eq.trans rfl rfl
theorem efW_t : efW K H d op O Y (some true) = efC K H d O Y (op.run O Y) := Eq.trans rfl rfl
theorem efW_f : efW K H d op O Y (some false) = K H (putE O d .undef) Y := Eq.trans rfl rfl
theorem rdC_s : rdC K H d op O Y (some (v, s)) = (s = Y /\ (∀ h, H.pre h -> op.run O h = some (v, h)) /\ K ⟨H.pre, fun s => H.rds s /\ op.run O s = some (v, s), H.rd2⟩ (putE O d v) Y) := Eq.trans rfl rfl
theorem zso : zw K H ⟨d, g, .rd2, op⟩ O Y = rd2W K H d op O Y (z1k O g) := Eq.trans rfl rfl
theorem zsm : zw K H ⟨d, g, .ef2, op⟩ O Y = ef2W K H d op O Y (z1k O g) := Eq.trans rfl rfl
theorem rd2W_t : rd2W K H d op O Y (some true) = rd2C K H d op O Y (op.run O Y) := Eq.trans rfl rfl
theorem rd2W_f : rd2W K H d op O Y (some false) = K H (putE O d .undef) Y := Eq.trans rfl rfl
theorem ef2W_t : ef2W K H d op O Y (some true) = ef2C K H d O Y (op.run O Y) := Eq.trans rfl rfl
theorem ef2W_f : ef2W K H d op O Y (some false) = K H (putE O d .undef) Y := Eq.trans rfl rfl
theorem rd2C_s : rd2C K H d op O Y (some (v, s)) = (s = Y /\ (∀ h, H.pre h -> op.run O h = some (v, h)) /\ K ⟨H.pre, fun s => H.rds s /\ op.run O s = some (v, s), fun s => H.rd2 s /\ op.run O s = some (v, s)⟩ (putE O d v) Y) := Eq.trans rfl rfl
theorem ef2C_s : ef2C K H d O Y (some (v, s)) = (H.rd2 s /\ K ⟨fun t => H.pre t \/ t = Y, H.rds, H.rd2⟩ (putE O d v) s) := Eq.trans rfl rfl
theorem znz {h : Store} : Hist.none.rd2 h = True := Eq.trans rfl rfl
theorem zrn {h : Store} : (Hist.same Y).rd2 h = (h = Y) := Eq.trans rfl rfl
theorem efC_s : efC K H d O Y (some (v, s)) = (H.rds s /\ K ⟨fun t => H.pre t \/ t = Y, H.rds, H.rd2⟩ (putE O d v) s) := Eq.trans rfl rfl
theorem z42 : z2q C K H O Y d nd f xs (some true) = callW C K H O d nd Y (f.ev O) (xs.map (AX.ev O)) := Eq.trans rfl rfl
theorem z41 : z2q C K H O Y d nd f xs (some false) = K H (putE O d .undef) Y := Eq.trans rfl rfl
theorem znt {Y' : Store} : z2j .no H Y Y' = True := Eq.trans rfl rfl
theorem znu {Y' : Store} : z2j .same H Y Y' = (Y' = Y) := Eq.trans rfl rfl
theorem zns {Y' : Store} : z2j .ef H Y Y' = H.rds Y' := Eq.trans rfl rfl
theorem znq : z3s .no H Y = H := Eq.trans rfl rfl
theorem znr : z3s .same H Y = H := Eq.trans rfl rfl
theorem znp : z3s .ef H Y = ⟨fun s => H.pre s \/ s = Y, H.rds, H.rd2⟩ := Eq.trans rfl rfl
theorem un_not {b : Bool} : aUn .not (.bool b) = some (.bool (!b)) := Eq.trans rfl rfl
theorem un_neg {k : IntKind} {n : Int} : aUn .neg (.int k n) = some (.int k (k.wrap (0 - n))) := Eq.trans rfl rfl
theorem un_xor {k : IntKind} {n : Int} : aUn .xor (.int k n) = some (.int k (k.wrap (BitVec.ofInt k.bits (if k.signed then -1 else k.max) ^^^ BitVec.ofInt k.bits n).toNat)) := Eq.trans rfl rfl
theorem rdS_s {s : Store} : rdS K d O Y (some (v, s)) = (s = Y /\ K (Hist.same Y) (putE O d v) Y) := Eq.trans rfl rfl
theorem zrm {h : Store} : (Hist.same Y).pre h = (h = Y) := Eq.trans rfl rfl
theorem zro {h : Store} : (Hist.same Y).rds h = (h = Y) := Eq.trans rfl rfl
theorem zny {h : Store} : Hist.none.pre h = False := Eq.trans rfl rfl
theorem zo0 {h : Store} : Hist.none.rds h = True := Eq.trans rfl rfl
end
theorem zlk {k : IntKind} {m : Int} {cells : List AV} {off : Nat} {rest : List (Nat × Nat × AV)} (h : off + 1 <= cells.length) : z16 cells ((off, 1, (.int k m)) :: rest) = z16 (z19 cells off [(.int k m)]) rest := by
 simp [z16, cellsOf, h]
theorem zlr {s : List UInt8} {cells : List AV} {off : Nat} {rest : List (Nat × Nat × AV)} (h : off + 1 <= cells.length) : z16 cells ((off, 1, (.str s)) :: rest) = z16 (z19 cells off [(.str s)]) rest := by
 simp [z16, cellsOf, h]
theorem zli {b : Bool} {cells : List AV} {off : Nat} {rest : List (Nat × Nat × AV)} (h : off + 1 <= cells.length) : z16 cells ((off, 1, (.bool b)) :: rest) = z16 (z19 cells off [(.bool b)]) rest := by
 simp [z16, cellsOf, h]
theorem zlp {r i o : Nat} {cells : List AV} {off : Nat} {rest : List (Nat × Nat × AV)} (h : off + 1 <= cells.length) : z16 cells ((off, 1, (.ptr r i o)) :: rest) = z16 (z19 cells off [(.ptr r i o)]) rest := by
 simp [z16, cellsOf, h]
theorem zln  {cells : List AV} {off : Nat} {rest : List (Nat × Nat × AV)} (h : off + 1 <= cells.length) : z16 cells ((off, 1, .nilp) :: rest) = z16 (z19 cells off [.nilp]) rest := by
 simp [z16, cellsOf, h]
theorem zlo  {cells : List AV} {off : Nat} {rest : List (Nat × Nat × AV)} (h : off + 1 <= cells.length) : z16 cells ((off, 1, .nilsl) :: rest) = z16 (z19 cells off [.nilsl]) rest := by
 simp [z16, cellsOf, h]
theorem zlt {z : Nat} {es : List (List AV)} {x : Bool} {cells : List AV} {off : Nat} {rest : List (Nat × Nat × AV)} (h : off + 1 <= cells.length) : z16 cells ((off, 1, (.vsl z es x)) :: rest) = z16 (z19 cells off [(.vsl z es x)]) rest := by
 simp [z16, cellsOf, h]
theorem zlq {r o len z : Nat} {lim : Option Nat} {cells : List AV} {off : Nat} {rest : List (Nat × Nat × AV)} (h : off + 1 <= cells.length) : z16 cells ((off, 1, (.sl r o len lim z)) :: rest) = z16 (z19 cells off [(.sl r o len lim z)]) rest := by
 simp [z16, cellsOf, h]
theorem zlh {r i o len cap z : Nat} {cells : List AV} {off : Nat} {rest : List (Nat × Nat × AV)} (h : off + 1 <= cells.length) : z16 cells ((off, 1, (.asl r i o len cap z)) :: rest) = z16 (z19 cells off [(.asl r i o len cap z)]) rest := by
 simp [z16, cellsOf, h]
theorem zls {cs : List AV} {cells : List AV} {off : Nat} {rest : List (Nat × Nat × AV)} (h : off + 1 <= cells.length) : z16 cells ((off, 1, (.vp cs)) :: rest) = z16 (z19 cells off [(.vp cs)]) rest := by
 simp [z16, cellsOf, h]
theorem zlj {f : FuncId} {caps : List AV} {cells : List AV} {off : Nat} {rest : List (Nat × Nat × AV)} (h : off + 1 <= cells.length) : z16 cells ((off, 1, (.fn f caps)) :: rest) = z16 (z19 cells off [(.fn f caps)]) rest := by
 simp [z16, cellsOf, h]
theorem zlm  {cells : List AV} {off : Nat} {rest : List (Nat × Nat × AV)} (h : off + 1 <= cells.length) : z16 cells ((off, 1, .nilfn) :: rest) = z16 (z19 cells off [.nilfn]) rest := by
 simp [z16, cellsOf, h]
theorem zlg {cs cells : List AV} {off n : Nat} {rest : List (Nat × Nat × AV)} (h0 : cs.length = n) (h : off + n <= cells.length) : z16 cells ((off, n, .agg cs) :: rest) = z16 (z19 cells off cs) rest := by
 simp [z16, cellsOf, h0, h]
theorem appB_n {ys : List (List AV)} : z2f Y .nilsl ys = aApp Y 1 .nilsl ys := rfl
theorem appB_v {esz : Nat} {es ys : List (List AV)} {ex : Bool} : z2f Y (.vsl esz es ex) ys = aApp Y 1 (.vsl esz es ex) ys := rfl
theorem appB_s {r off len esz : Nat} {lim : Option Nat} {ys : List (List AV)} : z2f Y (.sl r off len lim esz) ys = aApp Y 1 (.sl r off len lim esz) ys := rfl
theorem zk1 {ys : List (List AV)} : z2f Y .bnil ys = if ys.length ≠ 0 /\ ys.length <= 1073741824 then some (.bsl Y.length ys.length, Y ++ [some ys]) else none := rfl
theorem zk2 {r len : Nat} {ys : List (List AV)} : z2f Y (.bsl r len) ys = match Y[r]? with
  | some (some o) => if ys.length ≠ 0 /\ o.length = len /\ len + ys.length <= 1073741824 then some (.bsl Y.length (len + ys.length), Y.set r none ++ [some (o ++ ys)]) else none
  | _ => none := rfl
theorem z9r {sz : Nat} {ys : List (List AV)} : aApp Y sz .nilsl ys = if ys.length = 0 then (z21 Y .nilsl).map fun _ => (.nilsl, Y) else if ys.length <= 1073741824 then some (.sl Y.length 0 ys.length none sz, Y ++ [some ys]) else none := Eq.trans rfl rfl
theorem z7x {sz esz : Nat} {es ys : List (List AV)} {ex : Bool} : aApp Y sz (.vsl esz es ex) ys = if ys.length = 0 then (z21 Y (.vsl esz es ex)).map fun _ => (.vsl esz es ex, Y) else if ex = true /\ esz = sz /\ es.length + ys.length <= 1073741824 then some (.sl Y.length 0 (es.length + ys.length) none sz, Y ++ [some (es ++ ys)]) else none := Eq.trans rfl rfl
theorem z7w {sz r off len esz : Nat} {lim : Option Nat} {ys : List (List AV)} : aApp Y sz (.sl r off len lim esz) ys = if ys.length = 0 then (z21 Y (.sl r off len lim esz)).map fun _ => (.sl r off len lim esz, Y) else match Y[r]? with
    | some (some o) => if esz = sz /\ off + len <= o.length /\ len + ys.length <= 1073741824 then
        (match lim with
         | none => if off + len + ys.length <= o.length then some (.sl r off (len + ys.length) none esz, Y.set r (some (o.take (off + len) ++ ys ++ o.drop (off + len + ys.length))))
             else some (.sl Y.length 0 (len + ys.length) none sz, Y.set r none ++ [some ((o.drop off).take len ++ ys)])
         | some c => if len + ys.length <= c then (if off + len + ys.length <= o.length then some (.sl r off (len + ys.length) (some c) esz, Y.set r (some (o.take (off + len) ++ ys ++ o.drop (off + len + ys.length)))) else none)
             else some (.sl Y.length 0 (len + ys.length) none sz, Y ++ [some ((o.drop off).take len ++ ys)])) else none
    | _ => none := Eq.trans rfl rfl
theorem zll {cells : List AV} : z16 cells [] = some cells := rfl
theorem zoz {c : AV} {cs vs : List AV} {n : Nat} : z19 (c :: cs) (n + 1) vs = c :: z19 cs n vs := by
 have e : n + 1 + vs.length = (n + vs.length) + 1 := by omega
 simp [z19, e]
theorem zp2 {c v : AV} {cs vs : List AV} : z19 (c :: cs) 0 (v :: vs) = v :: z19 cs 0 vs := by
 simp [z19]
theorem zox {cs : List AV} : z19 cs 0 [] = cs := by simp [z19]
theorem zp1 {cs vs : List AV} {n : Nat} : z19 cs n vs = cs.take n ++ vs ++ cs.drop (n + vs.length) := Eq.trans rfl rfl
theorem overw1 {c v : AV} : z19 [c] 0 [v] = [v] := by simp [z19]
theorem zl (s : List UInt8) : (zh s).length = s.length := by simp [zh]
theorem z82 {s : List UInt8} {i : Nat} (h : i < s.length) : (zh s)[i]? = some [.int .u8 (s.getD i 0).toNat] := by
 simp [zh, B8, List.getD_eq_getElem?_getD, List.getElem?_eq_getElem h]
theorem zkf {s : List UInt8} {i : Nat} {n : Int} (h : 0 <= n /\ n < 256) : (zh s).set i [.int .u8 n] = zh (s.set i (UInt8.ofNat n.toNat)) := by
 have e : ((n.toNat % 256 : Nat) : Int) = n := by omega
 simp [zh, B8, List.map_set, e]
theorem zke (n : Nat) : List.replicate n [AV.int .u8 0] = zh (List.replicate n 0) := by simp [zh, B8]
theorem zg8 {s : List UInt8} {i : Nat} (h : i < s.length) : s[i]? = some (s.getD i 0) := getQ s i 0 h
theorem zb4 {r off len esz : Nat} {lim : Option Nat} : z21 Y (.sl r off len lim esz) = match Y[r]? with | some (some o) => if off + len <= o.length then some ((o.drop off).take len) else none | _ => none := Eq.trans rfl rfl
theorem z38 {k : IntKind} {a b : Int} (h : a = b) : AV.int k a = AV.int k b := by rw [h]
theorem str_eq {a b : List UInt8} (h : a = b) : AV.str a = AV.str b := by rw [h]
theorem wm_u8 {n : Int} : IntKind.u8.wrap n = n % 256 := by simp [IntKind.wrap, IntKind.signed, IntKind.bits]
theorem wm_u16 {n : Int} : IntKind.u16.wrap n = n % 65536 := by simp [IntKind.wrap, IntKind.signed, IntKind.bits]
theorem z9c {n : Int} : IntKind.u32.wrap n = n % 4294967296 := by simp [IntKind.wrap, IntKind.signed, IntKind.bits]
theorem wm_u64 {n : Int} : IntKind.u64.wrap n = n % 18446744073709551616 := by simp [IntKind.wrap, IntKind.signed, IntKind.bits]
theorem zkg {s : List UInt8} {i : Nat} : (zh s).take i = zh (s.take i) := by simp [zh, List.map_take]
theorem zkd {s : List UInt8} {i : Nat} : (zh s).drop i = zh (s.drop i) := by simp [zh, List.map_drop]
theorem z81 {s t : List UInt8} : zh s ++ zh t = zh (s ++ t) := by simp [zh]
theorem zss {cs : List AV} {off n : Nat} : z2s cs off n false = cs[off]? := Eq.trans rfl rfl
theorem zst {cs : List AV} {off n : Nat} : z2s cs off n true = if off + n <= cs.length then some (.agg ((cs.drop off).take n)) else none := Eq.trans rfl rfl
/-! Guards. -/
def gv (v : AV) (b : Bool) : Option Bool := match v with
 | .bool x => some (x == b)
 | .undef => some false
 | _ => none
def insG (g : Option Bool) (d : Option Nat) (op : AOp) (O : Env) (Y : Store) : Option (Env × Store) := match g with
 | some true => (op.run O Y).map fun r => (putE O d r.1, r.2)
 | some false => some (putE O d .undef, Y)
 | none => none
theorem zmz {d : Option Nat} {nd : Nd} {op : AOp} : z2i ⟨d, none, nd, op⟩ O Y = (op.run O Y).map fun r => (putE O d r.1, r.2) := rfl
theorem zn0 {d : Option Nat} {nd : Nd} {b : Bool} {s : Nat} {op : AOp} : z2i ⟨d, some (s, b), nd, op⟩ O Y = insG (gv (O s) b) d op O Y := rfl
theorem zm6 : z1k O none = some true := rfl
theorem zm7 {s : Nat} {b : Bool} : z1k O (some (s, b)) = gv (O s) b := rfl
theorem gv_tt : gv (.bool true) true = some true := rfl
theorem gv_tf : gv (.bool true) false = some false := rfl
theorem gv_ft : gv (.bool false) true = some false := rfl
theorem gv_ff : gv (.bool false) false = some true := rfl
theorem zm8 {b : Bool} : gv .undef b = some false := rfl
theorem insG_t {d : Option Nat} {op : AOp} : insG (some true) d op O Y = (op.run O Y).map fun r => (putE O d r.1, r.2) := rfl
theorem insG_f {d : Option Nat} {op : AOp} : insG (some false) d op O Y = some (putE O d .undef, Y) := rfl
section
variable {K : Hist -> Env -> Store -> Prop} {K1 : Env -> Store -> Prop} {H : Hist} {d : Option Nat} {op : AOp} {nd : Nd} {b x m : Bool} {P : Prop} {f : AX} {xs : List AX}
theorem zg0 [hd : Decidable P] (h1 : P -> z36 K1 Y m (insG (gv (.bool true) b) d op O Y)) (h2 : ¬ P -> z36 K1 Y m (insG (gv (.bool false) b) d op O Y)) : z36 K1 Y m (insG (gv (.bool (@decide P hd)) b) d op O Y) := by
 by_cases h : P
 ·simpa [h] using h1 h
 ·simpa [h] using h2 h
theorem zg1 (h1 : x = true -> z36 K1 Y m (insG (gv (.bool true) b) d op O Y)) (h2 : x = false -> z36 K1 Y m (insG (gv (.bool false) b) d op O Y)) : z36 K1 Y m (insG (gv (.bool x) b) d op O Y) := by
 cases x
 ·exact h2 rfl
 ·exact h1 rfl
theorem zg2 [hd : Decidable P] (h1 : P -> rdW K H d op O Y (gv (.bool true) b)) (h2 : ¬ P -> rdW K H d op O Y (gv (.bool false) b)) : rdW K H d op O Y (gv (.bool (@decide P hd)) b) := by
 by_cases h : P
 ·simpa [h] using h1 h
 ·simpa [h] using h2 h
theorem zg3 (h1 : x = true -> rdW K H d op O Y (gv (.bool true) b)) (h2 : x = false -> rdW K H d op O Y (gv (.bool false) b)) : rdW K H d op O Y (gv (.bool x) b) := by
 cases x
 ·exact h2 rfl
 ·exact h1 rfl
theorem zg4 [hd : Decidable P] (h1 : P -> efW K H d op O Y (gv (.bool true) b)) (h2 : ¬ P -> efW K H d op O Y (gv (.bool false) b)) : efW K H d op O Y (gv (.bool (@decide P hd)) b) := by
 by_cases h : P
 ·simpa [h] using h1 h
 ·simpa [h] using h2 h
theorem zg5 (h1 : x = true -> efW K H d op O Y (gv (.bool true) b)) (h2 : x = false -> efW K H d op O Y (gv (.bool false) b)) : efW K H d op O Y (gv (.bool x) b) := by
 cases x
 ·exact h2 rfl
 ·exact h1 rfl
theorem zg6 [hd : Decidable P] (h1 : P -> z2q C K H O Y d nd f xs (gv (.bool true) b)) (h2 : ¬ P -> z2q C K H O Y d nd f xs (gv (.bool false) b)) : z2q C K H O Y d nd f xs (gv (.bool (@decide P hd)) b) := by
 by_cases h : P
 ·simpa [h] using h1 h
 ·simpa [h] using h2 h
theorem zg7 (h1 : x = true -> z2q C K H O Y d nd f xs (gv (.bool true) b)) (h2 : x = false -> z2q C K H O Y d nd f xs (gv (.bool false) b)) : z2q C K H O Y d nd f xs (gv (.bool x) b) := by
 cases x
 ·exact h2 rfl
 ·exact h1 rfl
end
end
attribute [go_sem] z49 z48 z43 z44 z5b z5c zsn zsl rdW_t rdW_f efW_t efW_f rdC_s efC_s zso zsm rd2W_t rd2W_f ef2W_t ef2W_f rd2C_s ef2C_s znz zrn z42 z41 znt znu zns znq znr znp zny zo0 false_or or_imp forall_and forall_eq false_implies implies_true zmz zn0 zm6 zm7 gv_tt gv_tf gv_ft gv_ff zm8 insG_t insG_f AOp.run AX.ev putE upd_b cond_true cond_false z2e Option.map_some Option.bind_some Option.map_none rBin rEq z2y eqOp aMin z2w z2r z3j z3i z30 rFa rFld z3g z3h z1j z2z
 z25 blkQ endQ endP retV oks Bool.and_true Bool.true_and RV.val RV.ok Option.getD_some Option.isSome_some List.map_cons List.map_nil List.getD_cons_zero List.getD_cons_succ List.getD_nil if_true if_false ite_true ite_false reduceCtorEq Bool.false_eq_true Bool.true_eq_false beq_true beq_false Bool.not_true Bool.not_false BEq.rfl beq_self_eq_true
 List.nil_append List.cons_append List.append_nil
 oj_mv zor zo8 zo7 zo9 oj_box zoa oj_lit zom zot zoq oj_bin oj_un zod zop zon zos oj_fa oj_fld zof zog zoh zoi oj_ext zol zok zoj oj_app zoe zoc zoo oj_nil zob
 z4y z50 z4b zp3 zp4 aBld appB_n appB_v appB_s zk1 zk2 z4e z4f z4t z4u z54 z4z z4d z55 z4h z4x z4v z52 z4k z4l z4m z4n z4o z4p z4j z4s z4r z4q z4c z4i z4g z4w
 getElem?_app getElem?_app0 z3w z59
 shr_u8 shl_u8 zs6 zs1 zii zif zs7 zs2 zs5 zs0 zgg ib_sub ib_mul ib_quo ib_rem ib_eql ib_neq ib_lss ib_leq ib_gtr ib_geq zmo zms zmw zmm zmq zmu zgh zgi zgj zmn zmr zmv zml zmp zmt mask1 mask2 mask3 mask4 mask5 mask6 mask7 mask8 mask12
 cellsOf z21 z3l z2p z83 zkh z9k z9j bnd z9n z9o z9m z64 knownN z9r z7x z7w aBox rCopy zdc List.length_cons List.length_nil Option.bind_none overw1 zoz zp2 zox zl z82 zkf zke zkg zkd z81 zg8
 List.getElem?_cons_zero List.getElem?_cons_succ List.set_cons_zero List.set_cons_succ List.drop_zero Nat.add_zero Nat.zero_add
 zss zst List.drop_succ_cons List.take_succ_cons List.take_zero Nat.zero_mul Nat.mul_one true_and and_true eq_self List.take_of_length_le
 z9a zbe z9b zbd w_u8 zn2 zn3 zo1 zsx zsz if_pos if_neg decide_eq_true decide_eq_false Int.toNat_natCast
attribute [go_sem low] un_xor zp1
def z9q (O' O : Env) : List Nat -> Prop
 | [] => True
 | j :: l => O' j = O j /\ z9q O' O l
theorem zev (O : Env) : ∀ l, z9q O O l
 | [] => trivial
 | _ :: l => ⟨rfl, zev O l⟩
theorem zW.slots {C : Ctx} {n k : Nat} {ac : ACode} {Q : AExit -> Env -> Store -> Prop} {O : Env} {Y : Store} (l : List Nat) (h : ∀ O', z9q O' O l -> zW C n k ac Q O' Y) : zW C n k ac Q O Y := h O (zev O l)
attribute [go_sem] zlk zlr zli zlp zln zlo zlt zlq zlh zls zlj zlm zlg zll z9q un_not un_neg rdS_s zrm zro
attribute [go_sem high] zqo zla znv znx
attribute [go_sem low] wm_u8 wm_u16 z9c wm_u64
end
section
section
variable {α : Type} {l m : List α} {r s : Nat} {x : α}
theorem z22 (h : r < l.length) : (l.set r x)[r]? = some x := List.getElem?_set_self h
theorem z1d (h : r ≠ s) : (l.set r x)[s]? = l[s]? := List.getElem?_set_ne h
theorem gapp (h : r < l.length) : (l ++ m)[r]? = l[r]? := List.getElem?_append_left h
theorem z1a (h : l.length <= r) : (l ++ m)[r]? = m[r - l.length]? := List.getElem?_append_right h
theorem sappr (h : l.length <= r) : (l ++ m).set r x = l ++ m.set (r - l.length) x := List.set_append_right _ _ h
theorem sapp (h : r < l.length) : (l ++ m).set r x = l.set r x ++ m := List.set_append_left _ _ h
end
def zcj (ts : List RV) (P : AV -> Store -> Prop) : AExit -> Env -> Store -> Prop
 | .exit _ => fun _ _ => False
 | _ => fun O Y => oks O Y ts = true /\ P (retV ts O Y) Y
theorem ACallsP.of_keep {C : Ctx} {f : FuncId} {n : Nat} {ts : List RV} {ac : ACode} (hc : cFn C f = some (n, ts, ac)) {args : List AV} {Y : Store} {P : AV -> Store -> Prop} (hn : args.length <= n)
  (h : zW C n Y.length ac (zcj ts P) (z2e args) Y) : ACallsP C f args Y P := by
 simp only [cFn, Option.bind_eq_some_iff] at hc
 obtain ⟨fn, hf, hc⟩ := hc
 split at hc
 ·cases hc
 ·rename_i hname
  simp only [Option.bind_eq_some_iff, Option.map_eq_some_iff, Prod.mk.injEq] at hc
  obtain ⟨c, hb, ts', hts, ac', hac, rfl, rfl, rfl⟩ := hc
  intro Z w cargs hR ha
  left
  constructor
  ·have hname' : (fn.name == "runtime.NumGoroutine") = false := by simpa using hname
   have h1 : fn.name ≠ "runtime.NumGoroutine" := by simpa using hname'
   simp [callFunc, hf, h1, hb]
  ·have hl := ha.length
   refine calls_of_wp hf hb ?_
   have hw := h c hac Z w hR.gl hR.len Z { tmps := cargs.toArray ++ Array.replicate (fn.ntmps - cargs.toArray.size) undef, defers := [] } w (Step.refl _ _) hR
    (z8k ha _) (by simp; omega)
   refine wp_mono hw ?_
   rintro e a' w' ⟨ae, O', Y2, Z', rfl, hq, q1, q2, q3, q4, q5⟩
   have fin : (oks O' Y2 ts' = true /\ P (retV ts' O' Y2) Y2) -> a'.defers = [] /\ ∃ v_1, (results fn a'.tmps).run C.P w' = .ok v_1 w' /\ ∃ cv v Z' Y', Ending.returned v_1 = .returned cv /\ P v Y' /\ Step Z w Z' w' /\ Rel C Z' Y' w' /\ VR Z' w' v cv := by
    rintro ⟨hk, hp⟩
    obtain ⟨rv, r1, r2⟩ := z7b q2 q3 hts hk
    exact ⟨q4, _, r1, _, _, Z', Y2, rfl, hp, q1, q2, r2⟩
   cases ae with
   | normal => exact fin hq
   | exit id => exact hq.elim
   | ret => exact fin hq
attribute [go_sem] z22 z1d gapp zcj z3r not_true_eq_false not_false_eq_true decide_false decide_true List.set_set List.append_assoc z1a sapp sappr List.length_set Nat.sub_self Nat.add_sub_cancel_left List.length_append List.length_map
@[go_sem] def zZ0 : List AV := [.int .u8 0, .int .u8 0, .int .u8 0, .int .u8 0, .int .u8 0, .int .u8 0, .int .u8 0, .int .u8 0, .int .u8 0, .int .u8 0, .int .u8 0, .int .u8 0, .int .u8 0, .int .u8 0, .int .u8 0, .int .u8 0, .int .u8 0, .int .u8 0, .int .u8 0, .int .u8 0, .int .u8 0, .int .u8 0, .int .u8 0, .int .u8 0, .int .u8 0, .int .u8 0, .int .u8 0, .int .u8 0, .int .u8 0, .int .u8 0, .int .u8 0, .int .u8 0]
end
section
open Go.ChangeShapes Go.WideShapes Go.ChangeAt Go.RowKit
section
variable {H : Type} {enc : TypeId × Value -> H} {P : Program} {w : World}
theorem zn4 {base : Nat} {spare : Nat -> Bool} {held : Bool} {fuel : Nat} {t e : TypeId} {n : Nat} {k : IntKind} {cs : List Value} {p : List MemPlace} (ns : List Int)
  (ht : P.underlying t = some (.array n e)) (he : P.underlying e = some (.int k)) (hc : P.cellsOf e = 1) (hct : P.cellsOf t = n)
  (h : DataW.trod enc P w base spare held fuel t cs = some (.agg (ns.map fun i => .lit (.int k i)), p)) : cs = ns.map (Value.int k) := by
 obtain ⟨xs, m, rfl, hx, hl, hn, hel⟩ := DataW.trod_array ht h
 simp only [Prod.mk.injEq, DataW.agg.injEq] at hx
 have hx1 := hx.1
 have hlen : ns.length = n := by
  have := congrArg List.length hx1
  simp only [List.length_map] at this
  omega
 rw [hct] at hl
 refine List.ext_getElem? fun i => ?_
 by_cases hi : i < n
 ·have h1 := hel i hi
  rw [hc, Nat.mul_one] at h1
  obtain ⟨x, hxi⟩ : ∃ x, xs[i]? = some x := ⟨xs[i]'(by omega), List.getElem?_eq_getElem (by omega)⟩
  rw [hxi] at h1
  obtain ⟨v, e1, e2, _⟩ := DataW.trod_int he h1
  subst e2
  have h2 := congrArg (fun l => l[i]?) hx1
  simp only [List.getElem?_map, hxi, Option.map_some] at h2
  rw [List.getElem?_map]
  cases hns : ns[i]? with
  | none => rw [hns] at h2; simp at h2
  | some z =>
   rw [hns] at h2
   simp only [Option.map_some, Option.some.injEq, DataW.lit.injEq, Lit.int.injEq, true_and] at h2
   subst h2
   have h3 := congrArg (fun l => l[0]?) e1
   simp only [List.getElem?_take, List.getElem?_drop] at h3
   simpa using h3
 ·rw [List.getElem?_eq_none (by omega), List.getElem?_eq_none (by simp; omega)]
theorem zrs {n : String} {g : Nat} {cs : Array Value} (hg : P.globalNamed n = some g) (h : w.var? P n = some cs) : Imm [] w g /\ Seg w g 0 cs.toList := by
 unfold World.var? at h
 rw [hg, Option.bind_some] at h
 split at h
 ·rename_i c ty fz hb
  simp only [Option.some.injEq] at h; subst h
  refine ⟨⟨?_, by simp⟩, c, ty, fz, [], [], hb, by simp, rfl⟩
  rcases Nat.lt_or_ge g w.heap.size with h2 | h2
  ·exact h2
  ·simp [Array.getElem?_eq_none h2] at hb
 ·cases h
theorem zeq {Z : Places} {k : IntKind} : ∀ (ns : List Int), VRs Z w (ns.map (AV.int k)) (ns.map (Value.int k))
 | [] => VRs.nil
 | _ :: ns => VRs.cons ⟨VR.int, rfl⟩ (zeq ns)
theorem vp_of_var {n : String} {g : Nat} {t e : TypeId} {m : Nat} {k : IntKind} {g' : Nat} {t' : TypeId} {cs : Array Value} {fuel : Nat} {p : List MemPlace} (ns : List Int)
  (hg : P.globalNamed n = some g) (htg : (P.globals[g]?).map (·.type) = some t) (ht : P.underlying t = some (.array m e)) (he : P.underlying e = some (.int k)) (hc : P.cellsOf e = 1) (hct : P.cellsOf t = m)
  (k1 : P.globalNamed n = some g') (k2 : (P.globals[g']?).map (·.type) = some t') (k3 : w.var? P n = some cs)
  (k4 : DataW.trod enc P w 0 (fun _ => true) false fuel t' cs.toList = some (.agg (ns.map fun i => .lit (.int k i)), p)) : VR [] w (.vp (ns.map (AV.int k))) (.pointer (some ⟨g, 0, none⟩)) := by
 obtain rfl := Option.some.inj (hg.symm.trans k1)
 obtain rfl := Option.some.inj (htg.symm.trans k2)
 obtain ⟨h1, h2⟩ := zrs hg k3
 rw [zn4 ns ht he hc hct k4] at h2
 exact ⟨g, 0, _, rfl, h1, h2, zeq ns⟩
theorem law_contract_at {C : Ctx} {f : FuncId} {fn : Func} {e : Nat × List RV × ACode} (hc : cFn C f = some e) {d : Nat} {tys : List Ty} (htys : z98 C.P d fn.params.toList = some tys)
  (hlaw : ∀ avs, z7o tys avs -> ACallsTo C f avs [] (.bool true) []) {s : ChangeSpec} (hvars : s.vars = [])
  (hspec : ∀ ds : List (DataW H), ds.length = fn.params.toList.length -> (s.fn H ds).results = [.lit (.bool true)] /\ (s.fn H ds).args = ds /\ (s.fn H ds).vars = []) {tb : TypeId} (hres : fn.resultTypes = #[tb]) (htb : C.P.underlying tb = some .bool)
  (hl : laidOutB C.P = true) (hpar : (fn.params.toList.all fun t => C.P.readableRec t && decide (t < C.P.types.size)) = true)
  {W : World} (hR : Rel C [] [] W) {base : Nat} {args : Array Value} {ds gs : List (DataW H)} {before : List MemPlace} (hval : ∀ (j : Nat) t v, fn.params[j]? = some t -> args[j]? = some v -> Value.okWide C.P W .any base t v)
  (hW : DataW.Whole enc C.P fn.params.toList s.vars false W args.toList ds gs before) :
  Calls C.P f args W fun e W' => ∃ v, e = .returned v /\ s.post enc C.P fn false true false false W args v W' := by
 have hW' := hW
 obtain ⟨p, q, hA, hV, rfl, hfz, hnd⟩ := hW
 obtain ⟨avs, h1, h2⟩ := zh6 (r := .any) (b0 := base) htys (fun j t v hj hv => hval j t v (by simpa using hj) (by simpa using hv)) hA
 have hcall := (hlaw avs h2).calls hc hR h1
 have ea : args.toList.toArray = args := by simp
 rw [ea] at hcall
 refine hcall.mono ?_
 rintro x w' ⟨rfl, hb⟩
 refine ⟨_, rfl, zng hW' hvars (fun gs hgs => ?_) hres htb hl hpar hb⟩
 subst hgs
 rw [List.append_nil]
 exact hspec ds (ziv hA)
end
end
section
def shaFirst : List Int := [1779033703, 3144134277, 1013904242, 2773480762, 1359893119, 2600822924, 528734635, 1541459225]
def shaRounds : List Int := [1116352408, 1899447441, 3049323471, 3921009573, 961987163, 1508970993, 2453635748, 2870763221, 3624381080, 310598401, 607225278, 1426881987, 1925078388, 2162078206, 2614888103, 3248222580, 3835390401, 4022224774, 264347078, 604807628, 770255983, 1249150122, 1555081692, 1996064986, 2554220882, 2821834349, 2952996808, 3210313671, 3336571891, 3584528711, 113926993, 338241895, 666307205, 773529912, 1294757372, 1396182291, 1695183700, 1986661051, 2177026350, 2456956037, 2730485921, 2820302411, 3259730800, 3345764771, 3516065817, 3600352804, 4094571909, 275423344, 430227734, 506948616, 659060556, 883997877, 958139571, 1322822218, 1537002063, 1747873779, 1955562222, 2024104815, 2227730452, 2361852424, 2428436474, 2756734187, 3204031479, 3329325298]
def zcb : List AV := shaFirst.map (AV.int .u32)
def gl_sha_rounds : List AV := shaRounds.map (AV.int .u32)
noncomputable def TC : Ctx := ⟨Tryz.prog, fun g => if g = 0 then some zcb else if g = 1 then some gl_sha_rounds else none⟩
theorem zdj {k : Nat} {i : IntKind} : ∀ (l : List Int), RLs k (l.map (AV.int i))
 | [] => by simp [RLs]
 | _ :: l => by simp [RLs, RL]; exact zdj l
theorem glok : GlOK TC := by
 intro g cs h
 simp only [TC] at h
 split at h
 ·cases h; exact zdj _
 ·split at h
  ·cases h; exact zdj _
  ·cases h
end
end Am
end Go.Proofs.YtjgljhbmljgaeaaGreatDoor
section
/- slices.Backward over hashes: its iterator, walked once. -/
namespace Go.Proofs
open Go.RowKit Go.Shelf
attribute [local go_sem] Oper.semAt_some
theorem zth {F : Fence} {n : Nat} {P : Program} {ops : Array Oper} {Q : Exit -> Act -> World -> Prop} {a : Act} {w : World} {rest : List Oper} {o : Oper} (t : TypeId) {x : Operand} {ad : Addr} {v : Value}
  (hg : o.guard = none) (hop : o.op = .load t x) (hl : (loadVar t ad).run P w = .ok v w) (hx : a.eval x = .pointer (some ad)) (h : wpListIn F n P ops Q rest (a.put o.dst v) w) : wpListIn F n P ops Q (o :: rest) a w := by
 refine wpListIn_plain hg fun K hK' => ?_
 unfold Oper.wpIn
 refine ⟨?_, ?_⟩
 ·simp [Oper.about, hop]
 ·rw [Oper.semAt_plain F _ _ (by rw [hop]; intro c hc'; cases hc')]
  have e : (execOp a.eval o).run P w = .ok (.value v) w := by
   simp only [execOp, hop, hx, Sem.run_bind, Instr.loadAt, Instr.sureAddr, Sem.run_pure, Result.andThen_ok, hl]
  rw [e]
  exact hK' _ _ h
set_option maxRecDepth 100000 in
set_option maxHeartbeats 2000000 in
theorem Tryz.back1_in (l B o0 N : Nat) (hN : N < 1000000) (J : Nat -> World -> Prop) (hd : ∀ j W, J j W -> J j W.drew)
  (hR : ∀ j W, J j W -> ∃ a cap, W.cell? ⟨B, o0, none⟩ = some (.slice a N cap) /\ (j < N -> ∃ (b o : Nat) (v : Value), a = some ⟨b, o, none⟩ /\ (loadVar 36 ⟨b, o + (N - 1 - j) * 32, none⟩).run Tryz.prog W = .ok v W ∧
   YieldAt Fence.wide 0 Tryz.prog l #[.int .i64 ((N : Int) - 1 - j), v] W fun e W' => e = .returned (.bool true) /\ J (j + 1) W'))
  (W : World) (h0 : J 0 W) :
  CallsIn Fence.wide 1 Tryz.prog 118 #[.func (.yield l) #[] #[], .pointer (some ⟨B, o0, none⟩)] W fun e W' => (∃ v, e = .returned v) /\ J N W' := by
 obtain ⟨a0, cap0, hc0, _⟩ := hR 0 W h0
 refine callsIn_of_wp Tryz.func118 rfl trivial ?_ rfl
 simp only [Tryz.ntmps118, List.size_toArray, List.length_cons, List.length_nil, Nat.reduceAdd, Nat.reduceSub, Array.replicate_succ, Array.replicate_zero, List.push_toArray, List.append_toArray, List.nil_append, List.cons_append]
 gi_wp2
 gi_loopw [3] (fun i wr => ∃ j : Nat, j <= N /\ i = .int .i64 ((N : Int) - 1 - j) /\ J j wr)
  (fun i _ => (intOf i + 1).toNat)
 case atStart => exact ⟨0, Nat.zero_le _, by simp, h0⟩
 case round =>
  obtain ⟨k, hk, rfl, hJs⟩ := hrel
  obtain ⟨a, cap, hc, hy⟩ := hR k wr hJs
  by_cases hlt : k < N
  ·obtain ⟨b, o, v, rfl, hl, fn, tmps, assign, body, hy, hRd⟩ := hy hlt
   clear hR hd
   gi_wp2_with (refine zth 36 rfl rfl hl rfl ?_)
   refine hRd.mono ?_
   rintro e W3 ⟨rfl, hJ3⟩
   gi_wp2
   go_roundw
   case rel => exact ⟨k + 1, by omega, by simp; omega, hJ3⟩
   case measure => simp [intOf]; omega
  ·obtain rfl : k = N := by omega
   gi_wp2
   go_end0
   exact ⟨⟨_, rfl⟩, hJs⟩
end Go.Proofs
end
namespace Go.Proofs.YtjgljhbmljgaeaaGreatDoor
namespace Am
section
open Go.RowKit
set_option maxHeartbeats 2000000 in
theorem zqn {n k : Nat} {g : AX} {p0 p1 : Nat} {xa xb : ACode} {Q : AExit -> Env -> Store -> Prop} {O : Env} {Y : Store} {rB : Nat} {es : List (List AV)}
  (hg : g.ev O = .fn 118 [.ptr rB 0 0]) (hN : es.length < 1000000) (hp0 : p0 < n) (hp1 : p1 < n) (hu : ∀ e ∈ es, e.length = 32)
  (I : Nat -> Store -> Prop) (h0 : I 0 Y) (hbox : ∀ j Y', I j Y' -> ∃ x, Y'[rB]? = some (some [[x]]) /\ ((x = .nilsl /\ es = []) \/ ∃ ex, x = .vsl 32 es ex))
  (hround : ∀ (l j : Nat) (Y' : Store) (cs : List AV), I j Y' -> j < es.length -> es[es.length - 1 - j]? = some cs ->
   SWpI (some l) TC n Y'.length xa (z25 (fun O2 Y2 => SWpI (some l) TC n Y2.length xb (fun e _ Y3 => e = .normal /\ I (j + 1) Y3) O2 Y2) (fun _ _ _ => False))
    (upd (upd O p0 (.int .i64 ((es.length : Int) - 1 - j))) p1 (.agg cs)) Y')
  (hend : ∀ Y', I es.length Y' -> Q .normal O Y') : SWpD TC n k (.rangef g [p0, p1] xa xb) Q O Y := by
 intro c hc Z0 w0 hgl hk Z a w hst hR hE hn
 obtain ⟨go, ps, ca, cb, rfl, hgx, hps, ha, hb⟩ := zkn hc
 have hpsA : ps = #[p0, p1] := by
  apply Array.ext'
  rw [hps]
 subst hpsA
 have hgv : VR Z w (.fn 118 [.ptr rB 0 0]) (a.eval go) := by
  have := za3 hR hE go
  rwa [<- z1c hgx, hg] at this
 simp only [VR, VRt] at hgv
 obtain ⟨vs, hge, _, _, rfl, ⟨fl, plB, hplB, rfl⟩, rfl⟩ := hgv
 refine wpIn_rangeFunc ?_
 intro fn hfn
 rw [Fence.wide_round]
 obtain ⟨rec, hrec⟩ : ∃ rec : LoopState -> Option Code -> Loop, rec = fun st pe => { state := st, pending := pe, fn, tmps := a.tmps, params := #[p0, p1], assign := ca, body := cb, defers := w.heap.size } := ⟨_, rfl⟩
 obtain ⟨W1, hW1⟩ : ∃ W1, (w.alloc (.deferred (some []))).alloc (.loop (rec .ready none)) = W1 := ⟨_, rfl⟩
 have hL1 : W1.heap[w.heap.size + 1]? = some (.loop (rec .ready none)) := by
  rw [<- hW1]; have := World.alloc_heap_new (w.alloc (.deferred (some []))) (.loop (rec .ready none)); rwa [World.size_alloc] at this
 have hK1 : W1.heap[w.heap.size]? = some (.deferred (some [])) := by
  rw [<- hW1]; exact (Below.heap_alloc _ _ _ (by simp)).trans (World.alloc_heap_new w _)
 have hbk1 : Book w W1 := by rw [<- hW1]; exact (Book.alloc w _).trans (Book.alloc _ _)
 have hlow1 : ∀ b, b < w.heap.size -> W1.heap[b]? = w.heap[b]? := fun b hb => by
  rw [<- hW1, Below.heap_alloc _ _ _ (by simp; omega), Below.heap_alloc _ _ _ hb]
 let J : Nat -> World -> Prop := fun j W => ∃ Z' Y', I j Y' /\ Step Z w Z' W /\ Rel TC Z' Y' W /\ W.heap[w.heap.size + 1]? = some (.loop (rec .ready none)) /\ W.heap[w.heap.size]? = some (.deferred (some []))
 have hJ0 : J 0 W1 := ⟨Z, Y, h0, (Step.refl Z w).book hbk1 hlow1, hR.book hbk1, hL1, hK1⟩
 have hJd : ∀ j W, J j W -> J j W.drew := by
  rintro j W ⟨Z', Y', i1, i2, i3, i4, i5⟩
  exact ⟨Z', Y', i1, i2.book (Book.drew W) (fun _ _ => rfl), i3.book (Book.drew W), i4, i5⟩
 refine ⟨w.heap.size + 1, [{ target := .collected w.heap.size, args := #[] }], W1, { target := .fn (.func 118) #[.pointer (some ⟨plB.b, plB.base + 0 * plB.esz + 0, none⟩)], args := #[.func (.yield (w.heap.size + 1)) #[] #[]] }, W1, 118,
  #[.func (.yield (w.heap.size + 1)) #[] #[], .pointer (some ⟨plB.b, plB.base + 0 * plB.esz + 0, none⟩)], W1, ?_, ?_, fun _ _ => trivial, ?_, fun h => by simp [Fence.wide] at h, ?_⟩
 ·rw [<- hW1, hrec]; exact run_enterLoop_outer _ _ _ _ _
 ·simp only [resolve, hge]
  simp [go_sem]
 ·have eg : ∀ args w, (callFunc 118 args).run TC.P w = .ok (.enter 118 args) w := enters_of Tryz.func118 (by kernel_rfl) rfl
  simp [invoke, go_sem, eg]
 ·refine (Tryz.back1_in (w.heap.size + 1) plB.b (plB.base + 0 * plB.esz + 0) es.length hN J hJd ?_ W1 hJ0).mono ?_
  ·-- what is read, and a round
   rintro j W ⟨Z', Y', i1, i2, i3, i4, i5⟩
   obtain ⟨x, hx, hxs⟩ := hbox j Y' i1
   obtain ⟨pl, hpl, hok⟩ := i3.alive rB _ hx
   obtain ⟨fl', hkp⟩ := i2.keep rB fl plB hplB
   rw [hpl] at hkp; cases hkp
   obtain ⟨vals, hsg, hvs⟩ := hok.elem (i := 0) (cs := [x]) rfl
   simp only [VRs] at hvs
   obtain ⟨v, _, rfl, ⟨hv, _⟩, rfl⟩ := hvs
   have hcell := hsg.cell (j := 0) (v := v) rfl
   rcases hxs with ⟨rfl, rfl⟩ | ⟨ex, rfl⟩
   ·simp only [VR] at hv
    subst hv
    exact ⟨none, 0, hcell, fun h => by simp at h⟩
   ·simp only [VR] at hv
    rcases hv with ⟨rfl, ad, rfl⟩ | ⟨b, o, cap, vals, rfl, q2, q3, q4, q5, q6, q7⟩
    ·exact ⟨some ad, 0, hcell, fun h => by simp at h⟩
    ·refine ⟨some ⟨b, o, none⟩, cap, hcell, fun hj => ?_⟩
     have hi : es.length - 1 - j < es.length := by omega
     obtain ⟨A, ev, B, rfl, e2, e3⟩ := q7.elem hu (List.getElem?_eq_getElem hi)
     have hseg : Seg W b (o + (es.length - 1 - j) * 32) ev := by
      obtain ⟨c, ty, fz, pre, post, s1, s2, s3⟩ := q5
      exact ⟨c, ty, fz, pre ++ A, B ++ post, s1, by rw [s2]; simp [List.append_assoc], by rw [List.length_append, s3, e2]⟩
     have hel : (es[es.length - 1 - j]).length = 32 := hu _ (List.getElem_mem hi)
     obtain ⟨cv, hrun, hcv⟩ := zdo (C := TC) (t := 36) (off := 0) (n := 32) (ag := true) (a := .agg es[es.length - 1 - j]) (by kernel_rfl) (by kernel_rfl) hseg e3 (by
      unfold z2s
      rw [if_pos rfl, if_pos (by omega), List.drop_zero, List.take_of_length_le (by omega)])
     refine ⟨b, o, cv, rfl, hrun, ?_⟩
     have hy := run_yield (P := Tryz.prog) (args := #[.int .i64 ((es.length : Int) - 1 - j), cv]) i4 (by rw [hrec]; rfl)
     rw [hrec] at hy
     have hz : ((#[p0, p1] : Array Nat).zip #[Value.int .i64 ((es.length : Int) - 1 - j), cv]).foldl (fun tmps (x : Nat × Value) => match x with | (t, a) => tmps.setIfInBounds t a) a.tmps = (a.tmps.setIfInBounds p0 (.int .i64 ((es.length : Int) - 1 - j))).setIfInBounds p1 cv := by simp
     dsimp only at hy
     rw [hz] at hy
     refine ⟨fn, _, ca, cb, hy, roundIn_of_wpIn trivial ?_⟩
     have hEj : EnvR Z' W O a.tmps := hE.mono i2
     have hE2 : EnvR Z' W (upd (upd O p0 (.int .i64 ((es.length : Int) - 1 - j))) p1 (.agg es[es.length - 1 - j])) ((a.tmps.setIfInBounds p0 (.int .i64 ((es.length : Int) - 1 - j))).setIfInBounds p1 cv) := by
      have e1 := EnvR.put (a := a) hEj (d := some p0) (v := .int .i64 ((es.length : Int) - 1 - j)) (cv := .int .i64 ((es.length : Int) - 1 - j)) (by rintro x ⟨⟩; rw [hn]; exact hp0) (by simp only [VR])
      have e2 := EnvR.put (a := a.put (some p0) (.int .i64 ((es.length : Int) - 1 - j))) e1 (d := some p1) (cv := cv) (by rintro x ⟨⟩; simp [Act.put, hn, hp1]) hcv
      exact e2
     refine wpIn_mono ((hround (w.heap.size + 1) j Y' _ i1 hj (List.getElem?_eq_getElem hi)) ca ha 0 Z' W i3.gl i3.len Z' { tmps := (a.tmps.setIfInBounds p0 (.int .i64 ((es.length : Int) - 1 - j))).setIfInBounds p1 cv, defers := [] } W (Step.refl _ _) i3 hE2 (by simp [hn])) ?_
     rintro e a2 w2 ⟨ae, O2, Y2, Z2, rfl, hq, t1, t2, t3, t4, t5⟩
     cases ae with
     | exit id => exact hq.elim
     | ret => exact hq.elim
     | normal =>
      have l2 := t1.other i3 i4 rfl
      have d2 := t1.other i3 i5 rfl
      have S2 := i2.trans t1
      have bk2 := Book.putObj (.loop { rec .ready none with state := .busy }) l2 rfl
      refine ⟨_, run_beginRound l2 (by rw [hrec]), ?_⟩
      have R2 := t2.book bk2
      have E2 : EnvR Z2 (w2.putObj (w.heap.size + 1) (.loop { rec .ready none with state := .busy })) O2 a2.tmps := fun t => VR.book bk2 _ _ (t3 t)
      have S2' := S2.book bk2 fun b hb => World.putObj_heap_other (by omega)
      have hlt2 : w.heap.size + 1 < w2.heap.size := (Array.getElem?_eq_some_iff.1 l2).1
      have l3 : (w2.putObj (w.heap.size + 1) (.loop { rec .ready none with state := .busy })).heap[w.heap.size + 1]? = some (.loop { rec .ready none with state := .busy }) := World.putObj_heap_same hlt2
      have d3 : (w2.putObj (w.heap.size + 1) (.loop { rec .ready none with state := .busy })).heap[w.heap.size]? = some (.deferred (some [])) := (World.putObj_heap_other (by omega)).trans d2
      refine wpIn_mono (hq cb hb 0 Z2 _ R2.gl R2.len Z2 a2 _ (Step.refl _ _) R2 E2 t5) ?_
      rintro e a3 w3 ⟨ae, O3, Y3, Z3, rfl, ⟨rfl, hI⟩, u1, u2, u3, u4, u5⟩
      have l4 := u1.other R2 l3 rfl
      have d4 := u1.other R2 d3 rfl
      have S3 := S2'.trans u1
      have bk3 := Book.putObj (.loop (rec .ready none)) l4 rfl
      have hend := run_endRound (P := Tryz.prog) none l4
      refine ⟨_, _, hend, rfl, Z3, Y3, hI, ?_, ?_, ?_, ?_⟩
      ·exact S3.book (by simpa [hrec] using bk3) fun b hb => World.putObj_heap_other (by omega)
      ·exact u2.book (by simpa [hrec] using bk3)
      ·rw [World.putObj_heap_same (Array.getElem?_eq_some_iff.1 l4).1, hrec]; rfl
      ·exact (World.putObj_heap_other (by omega)).trans d4
  ·-- behind the iterator
   rintro e W2 ⟨⟨v, rfl⟩, Z', Y', i1, i2, i3, i4, i5⟩
   have hel := run_endLoop (P := Tryz.prog) i4 (by rw [hrec]; simp)
   refine ⟨none, _, by rw [hrec] at hel; exact hel, ?_⟩
   refine ⟨.normal, O, Y', Z', rfl, hend Y' i1, (hst.trans i2).book (Book.putObj _ i4 rfl) fun b hb => World.putObj_heap_other (by have := hst.size; omega), i3.book (Book.putObj _ i4 rfl), fun t => VR.book (Book.putObj _ i4 rfl) _ _ ((hE.mono i2) t), .inr ⟨w.heap.size, hst.size, rfl, (World.putObj_heap_other (by omega)).trans i5⟩, hn⟩
end
section
@[go_sem] def q0r0 : List AIns := [
 ⟨some 4,none,.no,.mv (.v (.str []))⟩]
@[go_sem] def q0r1 : List AIns := [
 ⟨some 7,none,.no,.mv (.t 1)⟩,
 ⟨some 8,none,.no,.bin .lss .none (.t 7) (.v (.int .i64 1))⟩,
 ⟨some 9,none,.no,.mv (.t 8)⟩,
 ⟨some 10, some (9, false), .no, .mv (.t 1)⟩,
 ⟨some 11, some (9, false), .no, .bin .gtr .none (.t 10) (.v (.int .i64 8))⟩,
 ⟨some 12,none,.no,.pick (.t 9) (.v (.bool true)) (.t 11)⟩]
@[go_sem] def q0r2 : List AIns := [
 ⟨some 4,none,.no,.mv (.v (.str []))⟩]
def q0c3 : ACode := .seq (.reg q0r2) .ret
def q0c4 : ACode := .cond (.t 12) q0c3 .skip
def q0c5 : ACode := .seq (.reg q0r1) q0c4
@[go_sem] def q0r6 : List AIns := [
 ⟨some 13,none,.no,.mv (.t 1)⟩,
 ⟨some 14,none,.no,.make 1 [(.int .u8 0)] (.t 13) (.t 13)⟩,
 ⟨some 5,none,.no,.mv (.t 14)⟩]
@[go_sem] def q0r7 : List AIns := [
 ⟨some 15,none,.no,.mv (.t 1)⟩,
 ⟨some 16,none,.no,.mv (.v (.int .i64 0))⟩]
@[go_sem] def q0r8 : List AIns := [
 ⟨some 17,none,.no,.bin .lss .none (.t 16) (.t 15)⟩]
@[go_sem] def q0r9 : List AIns := [
 ⟨some 18,none,.no,.mv (.t 16)⟩,
 ⟨some 6,none,.no,.mv (.t 18)⟩]
@[go_sem] def q0r10 : List AIns := [
 ⟨some 19,none,.no,.mv (.t 5)⟩,
 ⟨some 20,none,.no,.mv (.t 1)⟩,
 ⟨some 21,none,.no,.bin .sub .none (.t 20) (.v (.int .i64 1))⟩,
 ⟨some 22,none,.no,.mv (.t 6)⟩,
 ⟨some 23,none,.no,.bin .sub .none (.t 21) (.t 22)⟩,
 ⟨some 24,none,.no,.mv (.t 0)⟩,
 ⟨some 25,none,.no,.conv (.int .u8) (.t 24)⟩,
 ⟨some 26,none,.no,.iaSl 1 (.t 19) (.t 23)⟩,
 ⟨none,none,.no,.store 1 (.t 26) (.t 25)⟩]
@[go_sem] def q0r11 : List AIns := [
 ⟨some 27,none,.no,.mv (.t 0)⟩,
 ⟨some 28,none,.no,.bin .shr .none (.t 27) (.v (.int .u64 8))⟩,
 ⟨some 0,none,.no,.mv (.t 28)⟩]
def q0c12 : ACode := .seq (.reg q0r10) (.reg q0r11)
def q0c13 : ACode := .seq (.reg q0r9) q0c12
@[go_sem] def q0r14 : List AIns := [
 ⟨some 29,none,.no,.bin .add .none (.t 16) (.v (.int .i64 1))⟩,
 ⟨some 16,none,.no,.mv (.t 29)⟩]
def q0c15 : ACode := .seq (.block 1 q0c13) (.reg q0r14)
def q0c16 : ACode := .seq (.cond (.t 17) .skip (.exit 0)) q0c15
def q0c17 : ACode := .seq (.reg q0r8) q0c16
def q0c18 : ACode := .loop q0c17
def q0c19 : ACode := .block 0 q0c18
def q0c20 : ACode := .seq (.reg q0r7) q0c19
@[go_sem] def q0r21 : List AIns := [
 ⟨some 30,none,.no,.mv (.t 5)⟩,
 ⟨some 31,none,.no,.conv .str (.t 30)⟩,
 ⟨some 4,none,.no,.mv (.t 31)⟩]
def q0c22 : ACode := .seq (.reg q0r21) .ret
def q0c23 : ACode := .seq q0c20 q0c22
def q0c24 : ACode := .seq (.reg q0r6) q0c23
def q0c25 : ACode := .seq q0c5 q0c24
def q0c26 : ACode := .seq (.reg q0r0) q0c25
theorem q0ok : cFn TC 98 = some (32, [.t 4], q0c26) := by kernel_rfl
@[go_sem] def q1r0 : List AIns := [
 ⟨some 4,none,.no,.mv (.v (.str []))⟩]
@[go_sem] def q1r1 : List AIns := [
 ⟨some 5,none,.no,.mv (.v (.str []))⟩]
@[go_sem] def q1r2 : List AIns := [
 ⟨some 6,none,.no,.mv (.v (.int .i64 0))⟩]
@[go_sem] def q1r3 : List AIns := [
 ⟨some 7,none,.no,.mv (.t 6)⟩,
 ⟨some 8,none,.no,.mv (.t 1)⟩,
 ⟨some 9,none,.no,.bin .lss .none (.t 7) (.t 8)⟩,
 ⟨some 10,none,.no,.mv (.t 9)⟩,
 ⟨some 11, some (10, true), .no, .mv (.t 1)⟩,
 ⟨some 12, some (10, true), .no, .bin .lss .none (.t 11) (.v (.int .i64 9))⟩,
 ⟨some 13,none,.no,.pick (.t 10) (.t 12) (.v (.bool false))⟩]
def q1c4 : ACode := .cond (.t 13) .skip (.exit 0)
def q1c5 : ACode := .seq (.reg q1r3) q1c4
@[go_sem] def q1r6 : List AIns := [
 ⟨some 16,none,.no,.mv (.t 0)⟩,
 ⟨some 17,none,.no,.bin .rem .none (.t 16) (.v (.int .u64 256))⟩,
 ⟨some 18,none,.no,.conv (.int .u8) (.t 17)⟩,
 ⟨some 19,none,.no,.lit 1 [(.t 18)]⟩,
 ⟨some 20,none,.no,.conv .str (.t 19)⟩,
 ⟨some 21,none,.no,.mv (.t 5)⟩,
 ⟨some 22,none,.no,.bin .add .none (.t 20) (.t 21)⟩,
 ⟨some 5,none,.no,.mv (.t 22)⟩]
@[go_sem] def q1r7 : List AIns := [
 ⟨some 23,none,.no,.mv (.t 0)⟩,
 ⟨some 24,none,.no,.bin .quo .none (.t 23) (.v (.int .u64 256))⟩,
 ⟨some 0,none,.no,.mv (.t 24)⟩]
def q1c8 : ACode := .seq (.reg q1r6) (.reg q1r7)
@[go_sem] def q1r9 : List AIns := [
 ⟨some 14,none,.no,.mv (.t 6)⟩,
 ⟨some 15,none,.no,.bin .add .none (.t 14) (.v (.int .i64 1))⟩,
 ⟨some 6,none,.no,.mv (.t 15)⟩]
def q1c10 : ACode := .seq (.block 1 q1c8) (.reg q1r9)
def q1c11 : ACode := .seq q1c5 q1c10
def q1c12 : ACode := .loop q1c11
def q1c13 : ACode := .block 0 q1c12
def q1c14 : ACode := .seq (.reg q1r2) q1c13
@[go_sem] def q1r15 : List AIns := [
 ⟨some 25,none,.no,.mv (.t 5)⟩,
 ⟨some 4,none,.no,.mv (.t 25)⟩]
def q1c16 : ACode := .seq (.reg q1r15) .ret
def q1c17 : ACode := .seq q1c14 q1c16
def q1c18 : ACode := .seq (.reg q1r1) q1c17
def q1c19 : ACode := .seq (.reg q1r0) q1c18
theorem q1ok : cFn TC 101 = some (26, [.t 4], q1c19) := by kernel_rfl
@[go_sem] def q2r0 : List AIns := [
 ⟨some 4,none,.no,.mv (.v (.int .u32 0))⟩]
@[go_sem] def q2r1 : List AIns := [
 ⟨some 5,none,.no,.mv (.t 0)⟩,
 ⟨some 6,none,.no,.mv (.t 1)⟩,
 ⟨some 7,none,.no,.bin .rem .none (.t 6) (.v (.int .i64 32))⟩,
 ⟨some 8,none,.no,.un .neg (.t 7)⟩,
 ⟨some 9,none,.no,.call (.v (.fn 135 [])) [(.t 5), (.t 8)]⟩,
 ⟨some 4,none,.no,.mv (.t 9)⟩]
def q2c2 : ACode := .seq (.reg q2r1) .ret
def q2c3 : ACode := .seq (.reg q2r0) q2c2
theorem q2ok : cFn TC 123 = some (10, [.t 4], q2c3) := by kernel_rfl
@[go_sem] def q3r0 : List AIns := [
 ⟨some 2,none,.no,.mv (.v (.int .i64 0))⟩]
@[go_sem] def q3r1 : List AIns := [
 ⟨some 3,none,.no,.mv (.t 0)⟩,
 ⟨some 4,none,.no,.minmax true (.t 3) (.v (.int .i64 0))⟩,
 ⟨some 5,none,.no,.conv (.int .u64) (.t 4)⟩,
 ⟨some 6,none,.no,.call (.v (.fn 129 [])) [(.t 5)]⟩,
 ⟨some 2,none,.no,.mv (.t 6)⟩]
def q3c2 : ACode := .seq (.reg q3r1) .ret
def q3c3 : ACode := .seq (.reg q3r0) q3c2
theorem q3ok : cFn TC 117 = some (7, [.t 2], q3c3) := by kernel_rfl
@[go_sem] def q4r0 : List AIns := [
 ⟨some 4,none,.no,.mv (.v (.int .i64 0))⟩]
@[go_sem] def q4r1 : List AIns := [
 ⟨some 5,none,.no,.mv (.t 1)⟩,
 ⟨some 6,none,.no,.bin .lss .none (.t 5) (.v (.int .i64 0))⟩,
 ⟨some 7,none,.no,.mv (.t 6)⟩,
 ⟨some 8, some (7, false), .no, .mv (.t 1)⟩,
 ⟨some 9, some (7, false), .no, .bin .quo .none (.t 8) (.v (.int .i64 8))⟩,
 ⟨some 10, some (7, false), .no, .mv (.t 0)⟩,
 ⟨some 11, some (7, false), .no, .lenStr (.t 10)⟩,
 ⟨some 12, some (7, false), .no, .bin .geq .none (.t 9) (.t 11)⟩,
 ⟨some 13,none,.no,.pick (.t 7) (.v (.bool true)) (.t 12)⟩]
@[go_sem] def q4r2 : List AIns := [
 ⟨some 4,none,.no,.mv (.v (.int .i64 0))⟩]
def q4c3 : ACode := .seq (.reg q4r2) .ret
def q4c4 : ACode := .cond (.t 13) q4c3 .skip
def q4c5 : ACode := .seq (.reg q4r1) q4c4
@[go_sem] def q4r6 : List AIns := [
 ⟨some 14,none,.no,.mv (.t 0)⟩,
 ⟨some 15,none,.no,.mv (.t 1)⟩,
 ⟨some 16,none,.no,.bin .quo .none (.t 15) (.v (.int .i64 8))⟩,
 ⟨some 17,none,.no,.ixStr (.t 14) (.t 16)⟩,
 ⟨some 18,none,.no,.mv (.t 1)⟩,
 ⟨some 19,none,.no,.bin .rem .none (.t 18) (.v (.int .i64 8))⟩,
 ⟨some 20,none,.no,.bin .sub .none (.v (.int .i64 7)) (.t 19)⟩,
 ⟨some 21,none,.no,.bin .shr .none (.t 17) (.t 20)⟩,
 ⟨some 22,none,.no,.bin .and .none (.t 21) (.v (.int .u8 1))⟩,
 ⟨some 23,none,.no,.conv (.int .i64) (.t 22)⟩,
 ⟨some 4,none,.no,.mv (.t 23)⟩]
def q4c7 : ACode := .seq (.reg q4r6) .ret
def q4c8 : ACode := .seq q4c5 q4c7
def q4c9 : ACode := .seq (.reg q4r0) q4c8
theorem q4ok : cFn TC 119 = some (24, [.t 4], q4c9) := by kernel_rfl
@[go_sem] def q5r0 : List AIns := [
 ⟨some 4,none,.no,.mv (.v (.int .i64 0))⟩]
@[go_sem] def q5r1 : List AIns := [
 ⟨some 7,none,.no,.mv (.t 1)⟩,
 ⟨some 8,none,.no,.bin .lss .none (.t 7) (.v (.int .i64 0))⟩,
 ⟨some 9,none,.no,.mv (.t 8)⟩,
 ⟨some 10, some (9, false), .no, .mv (.t 1)⟩,
 ⟨some 11, some (9, false), .no, .bin .quo .none (.t 10) (.v (.int .i64 8))⟩,
 ⟨some 12, some (9, false), .no, .mv (.t 0)⟩,
 ⟨some 13, some (9, false), .no, .lenStr (.t 12)⟩,
 ⟨some 14, some (9, false), .no, .bin .geq .none (.t 11) (.t 13)⟩,
 ⟨some 15,none,.no,.pick (.t 9) (.v (.bool true)) (.t 14)⟩]
@[go_sem] def q5r2 : List AIns := [
 ⟨some 4,none,.no,.mv (.v (.int .i64 0))⟩]
def q5c3 : ACode := .seq (.reg q5r2) .ret
def q5c4 : ACode := .cond (.t 15) q5c3 .skip
def q5c5 : ACode := .seq (.reg q5r1) q5c4
@[go_sem] def q5r6 : List AIns := [
 ⟨some 16,none,.no,.mv (.t 0)⟩,
 ⟨some 17,none,.no,.mv (.t 1)⟩,
 ⟨some 18,none,.no,.bin .quo .none (.t 17) (.v (.int .i64 8))⟩,
 ⟨some 19,none,.no,.ixStr (.t 16) (.t 18)⟩,
 ⟨some 5,none,.no,.mv (.t 19)⟩]
@[go_sem] def q5r7 : List AIns := [
 ⟨some 20,none,.no,.mv (.t 1)⟩,
 ⟨some 21,none,.no,.bin .rem .none (.t 20) (.v (.int .i64 8))⟩,
 ⟨some 6,none,.no,.mv (.t 21)⟩]
@[go_sem] def q5r8 : List AIns := [
 ⟨some 22,none,.no,.mv (.t 6)⟩,
 ⟨some 23,none,.no,.bin .lss .none (.t 22) (.v (.int .i64 7))⟩]
def q5c9 : ACode := .cond (.t 23) .skip (.exit 0)
def q5c10 : ACode := .seq (.reg q5r8) q5c9
@[go_sem] def q5r11 : List AIns := [
 ⟨some 26,none,.no,.mv (.t 5)⟩,
 ⟨some 27,none,.no,.bin .quo .none (.t 26) (.v (.int .u8 2))⟩,
 ⟨some 5,none,.no,.mv (.t 27)⟩]
@[go_sem] def q5r12 : List AIns := [
 ⟨some 24,none,.no,.mv (.t 6)⟩,
 ⟨some 25,none,.no,.bin .add .none (.t 24) (.v (.int .i64 1))⟩,
 ⟨some 6,none,.no,.mv (.t 25)⟩]
def q5c13 : ACode := .seq (.block 1 (.reg q5r11)) (.reg q5r12)
def q5c14 : ACode := .seq q5c10 q5c13
def q5c15 : ACode := .loop q5c14
def q5c16 : ACode := .block 0 q5c15
def q5c17 : ACode := .seq (.reg q5r7) q5c16
@[go_sem] def q5r18 : List AIns := [
 ⟨some 28,none,.no,.mv (.t 5)⟩,
 ⟨some 29,none,.no,.bin .rem .none (.t 28) (.v (.int .u8 2))⟩,
 ⟨some 30,none,.no,.conv (.int .i64) (.t 29)⟩,
 ⟨some 4,none,.no,.mv (.t 30)⟩]
def q5c19 : ACode := .seq (.reg q5r18) .ret
def q5c20 : ACode := .seq q5c17 q5c19
def q5c21 : ACode := .seq (.reg q5r6) q5c20
def q5c22 : ACode := .seq q5c5 q5c21
def q5c23 : ACode := .seq (.reg q5r0) q5c22
theorem q5ok : cFn TC 120 = some (31, [.t 4], q5c23) := by kernel_rfl
@[go_sem] def q6r0 : List AIns := [
 ⟨some 2,none,.no,.mv (.v (.int .u64 0))⟩]
@[go_sem] def q6r1 : List AIns := [
 ⟨some 3,none,.no,.mv (.v (.int .u64 0))⟩]
@[go_sem] def q6r2 : List AIns := [
 ⟨some 5,none,.no,.mv (.t 0)⟩,
 ⟨some 6,none,.no,.lenStr (.t 5)⟩,
 ⟨some 7,none,.no,.minmax false (.t 6) (.v (.int .i64 8))⟩,
 ⟨some 8,none,.no,.mv (.v (.int .i64 0))⟩]
@[go_sem] def q6r3 : List AIns := [
 ⟨some 9,none,.no,.bin .lss .none (.t 8) (.t 7)⟩]
@[go_sem] def q6r4 : List AIns := [
 ⟨some 10,none,.no,.mv (.t 8)⟩,
 ⟨some 4,none,.no,.mv (.t 10)⟩]
@[go_sem] def q6r5 : List AIns := [
 ⟨some 11,none,.no,.mv (.t 3)⟩,
 ⟨some 12,none,.no,.bin .shl .none (.t 11) (.v (.int .u64 8))⟩,
 ⟨some 13,none,.no,.mv (.t 0)⟩,
 ⟨some 14,none,.no,.mv (.t 4)⟩,
 ⟨some 15,none,.no,.ixStr (.t 13) (.t 14)⟩,
 ⟨some 16,none,.no,.conv (.int .u64) (.t 15)⟩,
 ⟨some 17,none,.no,.bin .add .none (.t 12) (.t 16)⟩,
 ⟨some 3,none,.no,.mv (.t 17)⟩]
def q6c6 : ACode := .seq (.reg q6r4) (.reg q6r5)
@[go_sem] def q6r7 : List AIns := [
 ⟨some 18,none,.no,.bin .add .none (.t 8) (.v (.int .i64 1))⟩,
 ⟨some 8,none,.no,.mv (.t 18)⟩]
def q6c8 : ACode := .seq (.block 1 q6c6) (.reg q6r7)
def q6c9 : ACode := .seq (.cond (.t 9) .skip (.exit 0)) q6c8
def q6c10 : ACode := .seq (.reg q6r3) q6c9
def q6c11 : ACode := .loop q6c10
def q6c12 : ACode := .block 0 q6c11
def q6c13 : ACode := .seq (.reg q6r2) q6c12
@[go_sem] def q6r14 : List AIns := [
 ⟨some 19,none,.no,.mv (.t 3)⟩,
 ⟨some 2,none,.no,.mv (.t 19)⟩]
def q6c15 : ACode := .seq (.reg q6r14) .ret
def q6c16 : ACode := .seq q6c13 q6c15
def q6c17 : ACode := .seq (.reg q6r1) q6c16
def q6c18 : ACode := .seq (.reg q6r0) q6c17
theorem q6ok : cFn TC 134 = some (20, [.t 2], q6c18) := by kernel_rfl
@[go_sem] def q7r0 : List AIns := [
 ⟨some 4,none,.no,.mv (.v (.int .u32 0))⟩]
@[go_sem] def q7r1 : List AIns := [
 ⟨some 6,none,.no,.mv (.t 1)⟩,
 ⟨some 7,none,.no,.conv (.int .u64) (.t 6)⟩,
 ⟨some 8,none,.no,.bin .and .none (.t 7) (.v (.int .u64 31))⟩,
 ⟨some 5,none,.no,.mv (.t 8)⟩]
@[go_sem] def q7r2 : List AIns := [
 ⟨some 9,none,.no,.mv (.t 0)⟩,
 ⟨some 10,none,.no,.mv (.t 5)⟩,
 ⟨some 11,none,.no,.bin .shl .none (.t 9) (.t 10)⟩,
 ⟨some 12,none,.no,.mv (.t 0)⟩,
 ⟨some 13,none,.no,.mv (.t 5)⟩,
 ⟨some 14,none,.no,.bin .sub .none (.v (.int .u64 32)) (.t 13)⟩,
 ⟨some 15,none,.no,.bin .shr .none (.t 12) (.t 14)⟩,
 ⟨some 16,none,.no,.bin .or .none (.t 11) (.t 15)⟩,
 ⟨some 4,none,.no,.mv (.t 16)⟩]
def q7c3 : ACode := .seq (.reg q7r2) .ret
def q7c4 : ACode := .seq (.reg q7r1) q7c3
def q7c5 : ACode := .seq (.reg q7r0) q7c4
theorem q7ok : cFn TC 135 = some (17, [.t 4], q7c5) := by kernel_rfl
@[go_sem] def q8r0 : List AIns := [
 ⟨some 2,none,.no,.mv (.v (.int .i64 0))⟩]
@[go_sem] def q8r1 : List AIns := [
 ⟨some 3,none,.no,.mv (.t 0)⟩,
 ⟨some 4,none,.no,.conv (.int .u32) (.t 3)⟩,
 ⟨some 5,none,.no,.call (.v (.fn 140 [])) [(.t 4)]⟩,
 ⟨some 2,none,.no,.mv (.t 5)⟩]
def q8c2 : ACode := .seq (.reg q8r1) .ret
@[go_sem] def q8r3 : List AIns := [
 ⟨some 6,none,.no,.mv (.t 0)⟩,
 ⟨some 7,none,.no,.call (.v (.fn 141 [])) [(.t 6)]⟩,
 ⟨some 2,none,.no,.mv (.t 7)⟩]
def q8c4 : ACode := .seq (.reg q8r3) .ret
def q8c5 : ACode := .seq (.cond (.v (.bool false)) q8c2 .skip) q8c4
def q8c6 : ACode := .seq (.reg q8r0) q8c5
theorem q8ok : cFn TC 129 = some (8, [.t 2], q8c6) := by kernel_rfl
@[go_sem] def q9r0 : List AIns := [
 ⟨some 2,none,.no,.mv (.v (.int .i64 0))⟩]
@[go_sem] def q9r1 : List AIns := [
 ⟨some 3,none,.no,.mv (.t 0)⟩,
 ⟨some 4,none,.no,.bin .shr .none (.t 3) (.v (.int .u64 1))⟩,
 ⟨some 5,none,.no,.bin .and .none (.t 4) (.v (.int .u64 6148914691236517205))⟩,
 ⟨some 6,none,.no,.mv (.t 0)⟩,
 ⟨some 7,none,.no,.bin .and .none (.t 6) (.v (.int .u64 6148914691236517205))⟩,
 ⟨some 8,none,.no,.bin .add .none (.t 5) (.t 7)⟩,
 ⟨some 0,none,.no,.mv (.t 8)⟩]
@[go_sem] def q9r2 : List AIns := [
 ⟨some 9,none,.no,.mv (.t 0)⟩,
 ⟨some 10,none,.no,.bin .shr .none (.t 9) (.v (.int .u64 2))⟩,
 ⟨some 11,none,.no,.bin .and .none (.t 10) (.v (.int .u64 3689348814741910323))⟩,
 ⟨some 12,none,.no,.mv (.t 0)⟩,
 ⟨some 13,none,.no,.bin .and .none (.t 12) (.v (.int .u64 3689348814741910323))⟩,
 ⟨some 14,none,.no,.bin .add .none (.t 11) (.t 13)⟩,
 ⟨some 0,none,.no,.mv (.t 14)⟩]
@[go_sem] def q9r3 : List AIns := [
 ⟨some 15,none,.no,.mv (.t 0)⟩,
 ⟨some 16,none,.no,.bin .shr .none (.t 15) (.v (.int .u64 4))⟩,
 ⟨some 17,none,.no,.mv (.t 0)⟩,
 ⟨some 18,none,.no,.bin .add .none (.t 16) (.t 17)⟩,
 ⟨some 19,none,.no,.bin .and .none (.t 18) (.v (.int .u64 1085102592571150095))⟩,
 ⟨some 0,none,.no,.mv (.t 19)⟩]
@[go_sem] def q9r4 : List AIns := [
 ⟨some 20,none,.no,.mv (.t 0)⟩,
 ⟨some 21,none,.no,.mv (.t 0)⟩,
 ⟨some 22,none,.no,.bin .shr .none (.t 21) (.v (.int .u64 8))⟩,
 ⟨some 23,none,.no,.bin .add .none (.t 20) (.t 22)⟩,
 ⟨some 0,none,.no,.mv (.t 23)⟩]
@[go_sem] def q9r5 : List AIns := [
 ⟨some 24,none,.no,.mv (.t 0)⟩,
 ⟨some 25,none,.no,.mv (.t 0)⟩,
 ⟨some 26,none,.no,.bin .shr .none (.t 25) (.v (.int .u64 16))⟩,
 ⟨some 27,none,.no,.bin .add .none (.t 24) (.t 26)⟩,
 ⟨some 0,none,.no,.mv (.t 27)⟩]
@[go_sem] def q9r6 : List AIns := [
 ⟨some 28,none,.no,.mv (.t 0)⟩,
 ⟨some 29,none,.no,.mv (.t 0)⟩,
 ⟨some 30,none,.no,.bin .shr .none (.t 29) (.v (.int .u64 32))⟩,
 ⟨some 31,none,.no,.bin .add .none (.t 28) (.t 30)⟩,
 ⟨some 0,none,.no,.mv (.t 31)⟩]
@[go_sem] def q9r7 : List AIns := [
 ⟨some 32,none,.no,.mv (.t 0)⟩,
 ⟨some 33,none,.no,.conv (.int .i64) (.t 32)⟩,
 ⟨some 34,none,.no,.bin .and .none (.t 33) (.v (.int .i64 127))⟩,
 ⟨some 2,none,.no,.mv (.t 34)⟩]
def q9c8 : ACode := .seq (.reg q9r7) .ret
def q9c9 : ACode := .seq (.reg q9r6) q9c8
def q9c10 : ACode := .seq (.reg q9r5) q9c9
def q9c11 : ACode := .seq (.reg q9r4) q9c10
def q9c12 : ACode := .seq (.reg q9r3) q9c11
def q9c13 : ACode := .seq (.reg q9r2) q9c12
def q9c14 : ACode := .seq (.reg q9r1) q9c13
def q9c15 : ACode := .seq (.reg q9r0) q9c14
theorem q9ok : cFn TC 141 = some (35, [.t 2], q9c15) := by kernel_rfl
end
section

end
section
theorem and31 (k : Int) : IntKind.u64.wrap ((BitVec.ofInt IntKind.u64.bits (IntKind.u64.wrap k) &&& BitVec.ofInt IntKind.u64.bits 31).toNat : Int) = ((k % 32).toNat : Int) := by
 rw [u_nat (by rfl), BitVec.toNat_and]
 have h1 : (BitVec.ofInt IntKind.u64.bits 31).toNat = 2 ^ 5 - 1 := by decide
 have h2 : ((BitVec.ofInt IntKind.u64.bits (IntKind.u64.wrap k)).toNat : Int) = k % 18446744073709551616 := by
  rw [BitVec.toNat_ofInt, zbh (by rfl)]
  simp only [IntKind.bits]
  omega
 rw [h1, Nat.and_two_pow_sub_one_eq_mod]
 omega
theorem zt9 (x : BitVec 32) : IntKind.u32.wrap (x.toNat : Int) = x.toNat := u_nat (k := .u32) (by rfl) x
theorem rot_or (x : BitVec 32) (s : Nat) (hs : s < 32) :
  IntKind.u32.wrap ((BitVec.ofInt 32 (IntKind.u32.wrap ((x.toNat : Int) * 2 ^ min s 32)) ||| BitVec.ofInt 32 ((x.toNat : Int).fdiv (2 ^ min (32 - s) 32))).toNat : Int) = ((x.rotateLeft s).toNat : Int) := by
 rw [zt9]
 have h1 : BitVec.ofInt 32 (IntKind.u32.wrap ((x.toNat : Int) * 2 ^ min s 32)) = x <<< s := by
  apply BitVec.eq_of_toNat_eq
  rw [BitVec.toNat_ofInt, zbh (by rfl), Nat.min_eq_left (by omega), BitVec.toNat_shiftLeft, Nat.shiftLeft_eq]
  simp only [IntKind.bits]
  have : ((x.toNat : Int) * 2 ^ s) = ((x.toNat * 2 ^ s : Nat) : Int) := by simp
  rw [this]
  omega
 have h2 : BitVec.ofInt 32 ((x.toNat : Int).fdiv (2 ^ min (32 - s) 32)) = x >>> (32 - s) := by
  apply BitVec.eq_of_toNat_eq
  have hx := x.isLt
  rw [BitVec.toNat_ofInt, Nat.min_eq_left (by omega), BitVec.toNat_ushiftRight, Nat.shiftRight_eq_div_pow, Int.fdiv_eq_ediv_of_nonneg _ (by exact_mod_cast Nat.zero_le _)]
  have : ((x.toNat : Int) / 2 ^ (32 - s)) = ((x.toNat / 2 ^ (32 - s) : Nat) : Int) := by simp
  rw [this]
  have h3 : x.toNat / 2 ^ (32 - s) <= x.toNat := Nat.div_le_self _ _
  generalize x.toNat / 2 ^ (32 - s) = y at *
  omega
 rw [h1, h2, BitVec.rotateLeft_def]
 simp only [Nat.mod_eq_of_lt hs]
theorem zk7 (Y : Store) (x : BitVec 32) (k : Int) : ACallsTo TC 135 [.int .u32 x.toNat, .int .i64 k] Y (.int .u32 (x.rotateLeft (k % 32).toNat).toNat) Y := by
 refine ACallsTo.of_body q7ok (by simp) fun hw _ => ?_
 have hs : (k % 32).toNat < 32 := by omega
 generalize hk : (k % 32).toNat = s at *
 have h31 := and31 k
 rw [hk] at h31
 have e1 : ¬ ((s : Int) < 0) := by omega
 have e2 : IntKind.u64.wrap (32 - (s : Int)) = ((32 - s : Nat) : Int) := by
  rw [zbh (by rfl)]; simp only [IntKind.bits]; omega
 have e3 : ¬ (((32 - s : Nat) : Int) < 0) := by omega
 unfold q7c5
 refine zW.seqReg ?_
 simp only [q7r0, z49, z48, z43, z44, z5b, z5c, z42, z41, z2i, z1k, AOp.run, AX.ev, putE, upd, z2e, Option.map_some, Option.bind_some, Option.map_none, rBin, rEq, z15, z1g, z2y, eqOp, aUn, aMin, z2w, z2r, z3j, z3i, z30, rFa, rFld, z3g, z3h, z1j, z2z, z16, z25, blkQ, endQ, retV, oks, RV.ok, RV.val, Bool.and_true, Bool.true_and, List.map_cons, List.map_nil, List.getD_cons_zero, List.getD_cons_succ, List.getD_nil, if_true, if_false, ite_true, ite_false, reduceCtorEq, Nat.reduceEqDiff, Nat.reduceAdd, Bool.false_eq_true, Bool.true_eq_false, beq_true, beq_false, Bool.not_true, Bool.not_false, BEq.rfl, beq_self_eq_true, List.nil_append, List.cons_append, List.append_nil, z4y, z50, z4b, z4e, z4f, z4t, z4u, z54, z4z, z4d, z55, z4h, z4x, z4v, z52, z4k, z4l, z4m, z4n, z4o, z4p, z4j, z4s, z4r, z4q, z4c, z4i, z4g, z4w, getElem?_app, getElem?_app0, z3w, z59]
 unfold q7c4
 refine zW.seqReg ?_
 simp only [q7r1, z49, z48, z43, z44, z5b, z5c, z42, z41, z2i, z1k, AOp.run, AX.ev, putE, upd, z2e, Option.map_some, Option.bind_some, Option.map_none, rBin, rEq, z15, z1g, z2y, eqOp, aUn, aMin, z2w, z2r, z3j, z3i, z30, rFa, rFld, z3g, z3h, z1j, z2z, z16, z25, blkQ, endQ, retV, oks, RV.ok, RV.val, Bool.and_true, Bool.true_and, List.map_cons, List.map_nil, List.getD_cons_zero, List.getD_cons_succ, List.getD_nil, if_true, if_false, ite_true, ite_false, reduceCtorEq, Nat.reduceEqDiff, Nat.reduceAdd, Bool.false_eq_true, Bool.true_eq_false, beq_true, beq_false, Bool.not_true, Bool.not_false, BEq.rfl, beq_self_eq_true, List.nil_append, List.cons_append, List.append_nil, z4y, z50, z4b, z4e, z4f, z4t, z4u, z54, z4z, z4d, z55, z4h, z4x, z4v, z52, z4k, z4l, z4m, z4n, z4o, z4p, z4j, z4s, z4r, z4q, z4c, z4i, z4g, z4w, getElem?_app, getElem?_app0, z3w, z59]
 unfold q7c3
 refine zW.seqReg ?_
 simp only [q7r2, h31, e1, e2, e3, Int.toNat_natCast, z49, z48, z43, z44, z5b, z5c, z42, z41, z2i, z1k, AOp.run, AX.ev, putE, upd, z2e, Option.map_some, Option.bind_some, Option.map_none, rBin, rEq, z15, z1g, z2y, eqOp, aUn, aMin, z2w, z2r, z3j, z3i, z30, rFa, rFld, z3g, z3h, z1j, z2z, z16, z25, blkQ, endQ, retV, oks, RV.ok, RV.val, Bool.and_true, Bool.true_and, List.map_cons, List.map_nil, List.getD_cons_zero, List.getD_cons_succ, List.getD_nil, if_true, if_false, ite_true, ite_false, reduceCtorEq, Nat.reduceEqDiff, Nat.reduceAdd, Bool.false_eq_true, Bool.true_eq_false, beq_true, beq_false, Bool.not_true, Bool.not_false, BEq.rfl, beq_self_eq_true, List.nil_append, List.cons_append, List.append_nil, z4y, z50, z4b, z4e, z4f, z4t, z4u, z54, z4z, z4d, z55, z4h, z4x, z4v, z52, z4k, z4l, z4m, z4n, z4o, z4p, z4j, z4s, z4r, z4q, z4c, z4i, z4g, z4w, getElem?_app, getElem?_app0, z3w, z59]
 refine zq_ ?_
 have h := rot_or x s hs
 simp only [IntKind.bits, h, z49, z48, z43, z44, z5b, z5c, z42, z41, z2i, z1k, AOp.run, AX.ev, putE, upd, z2e, Option.map_some, Option.bind_some, Option.map_none, rBin, rEq, z15, z1g, z2y, eqOp, aUn, aMin, z2w, z2r, z3j, z3i, z30, rFa, rFld, z3g, z3h, z1j, z2z, z16, z25, blkQ, endQ, retV, oks, RV.ok, RV.val, Bool.and_true, Bool.true_and, List.map_cons, List.map_nil, List.getD_cons_zero, List.getD_cons_succ, List.getD_nil, if_true, if_false, ite_true, ite_false, reduceCtorEq, Nat.reduceEqDiff, Nat.reduceAdd, Bool.false_eq_true, Bool.true_eq_false, beq_true, beq_false, Bool.not_true, Bool.not_false, BEq.rfl, beq_self_eq_true, List.nil_append, List.cons_append, List.append_nil, z4y, z50, z4b, z4e, z4f, z4t, z4u, z54, z4z, z4d, z55, z4h, z4x, z4v, z52, z4k, z4l, z4m, z4n, z4o, z4p, z4j, z4s, z4r, z4q, z4c, z4i, z4g, z4w, getElem?_app, getElem?_app0, z3w, z59]
 exact ⟨trivial, (congrArg (fun z => DownV Y.length (.int .u32 z) Y (.int .u32 (x.rotateLeft s).toNat) Y) h).mpr (DownV.same hw (z14 _ rfl))⟩
theorem wrap64 {n : Int} (h1 : -9223372036854775808 <= n) (h2 : n < 9223372036854775808) : IntKind.i64.wrap n = n := by
 simp [IntKind.wrap, IntKind.signed, IntKind.bits]
 omega
theorem znw (k : Int) : (IntKind.i64.wrap (0 - k.tmod 32)) % 32 = (-k) % 32 := by
 have h : -31 <= k.tmod 32 /\ k.tmod 32 <= 31 := by
  rw [Int.tmod_eq_emod]; split <;> simp <;> omega
 rw [wrap64 (by omega) (by omega), Int.tmod_eq_emod]
 split
 ·omega
 ·simp; omega
theorem z9t (Y : Store) (x : BitVec 32) (k : Int) : ACallsTo TC 123 [.int .u32 x.toNat, .int .i64 k] Y (.int .u32 (x.rotateLeft ((-k) % 32).toNat).toNat) Y := by
 refine ACallsTo.of_body q2ok (by simp) fun hw _ => ?_
 refine zW.seqReg ?_
 simp only [q2r0, q2r1, z49, z48, z43, z44, z5b, z5c, z42, z41, z2i, z1k, AOp.run, AX.ev, putE, upd, z2e, Option.map_some, Option.bind_some, Option.map_none, rBin, rEq, z15, z1g, z2y, eqOp, aUn, aMin, z2w, z2r, z3j, z3i, z30, rFa, rFld, z3g, z3h, z1j, z2z, z16, z25, blkQ, endQ, retV, oks, RV.ok, RV.val, Bool.and_true, Bool.true_and, List.map_cons, List.map_nil, List.getD_cons_zero, List.getD_cons_succ, List.getD_nil, if_true, if_false, ite_true, ite_false, reduceCtorEq, Nat.reduceEqDiff, Nat.reduceAdd, Bool.false_eq_true, Bool.true_eq_false, beq_true, beq_false, Bool.not_true, Bool.not_false, BEq.rfl, beq_self_eq_true, List.nil_append, List.cons_append, List.append_nil, z4y, z50, z4b, z4e, z4f, z4t, z4u, z54, z4z, z4d, z55, z4h, z4x, z4v, z52, z4k, z4l, z4m, z4n, z4o, z4p, z4j, z4s, z4r, z4q, z4c, z4i, z4g, z4w, getElem?_app, getElem?_app0, z3w, z59]
 refine zW.seqReg ?_
 simp only [q2r0, q2r1, show ¬ ((32 : Int) = 0) by decide, z49, z48, z43, z44, z5b, z5c, z42, z41, z2i, z1k, AOp.run, AX.ev, putE, upd, z2e, Option.map_some, Option.bind_some, Option.map_none, rBin, rEq, z15, z1g, z2y, eqOp, aUn, aMin, z2w, z2r, z3j, z3i, z30, rFa, rFld, z3g, z3h, z1j, z2z, z16, z25, blkQ, endQ, retV, oks, RV.ok, RV.val, Bool.and_true, Bool.true_and, List.map_cons, List.map_nil, List.getD_cons_zero, List.getD_cons_succ, List.getD_nil, if_true, if_false, ite_true, ite_false, reduceCtorEq, Nat.reduceEqDiff, Nat.reduceAdd, Bool.false_eq_true, Bool.true_eq_false, beq_true, beq_false, Bool.not_true, Bool.not_false, BEq.rfl, beq_self_eq_true, List.nil_append, List.cons_append, List.append_nil, z4y, z50, z4b, z4e, z4f, z4t, z4u, z54, z4z, z4d, z55, z4h, z4x, z4v, z52, z4k, z4l, z4m, z4n, z4o, z4p, z4j, z4s, z4r, z4q, z4c, z4i, z4g, z4w, getElem?_app, getElem?_app0, z3w, z59]
 have h := zk7 Y x (IntKind.i64.wrap (0 - k.tmod 32))
 rw [znw] at h
 refine callW.zp h ?_
 simp only [z49, z48, z43, z44, z5b, z5c, z42, z41, z2i, z1k, AOp.run, AX.ev, putE, upd, z2e, Option.map_some, Option.bind_some, Option.map_none, rBin, rEq, z15, z1g, z2y, eqOp, aUn, aMin, z2w, z2r, z3j, z3i, z30, rFa, rFld, z3g, z3h, z1j, z2z, z16, z25, blkQ, endQ, retV, oks, RV.ok, RV.val, Bool.and_true, Bool.true_and, List.map_cons, List.map_nil, List.getD_cons_zero, List.getD_cons_succ, List.getD_nil, if_true, if_false, ite_true, ite_false, reduceCtorEq, Nat.reduceEqDiff, Nat.reduceAdd, Bool.false_eq_true, Bool.true_eq_false, beq_true, beq_false, Bool.not_true, Bool.not_false, BEq.rfl, beq_self_eq_true, List.nil_append, List.cons_append, List.append_nil, z4y, z50, z4b, z4e, z4f, z4t, z4u, z54, z4z, z4d, z55, z4h, z4x, z4v, z52, z4k, z4l, z4m, z4n, z4o, z4p, z4j, z4s, z4r, z4q, z4c, z4i, z4g, z4w, getElem?_app, getElem?_app0, z3w, z59]
 refine zq_ ?_
 simp only [z49, z48, z43, z44, z5b, z5c, z42, z41, z2i, z1k, AOp.run, AX.ev, putE, upd, z2e, Option.map_some, Option.bind_some, Option.map_none, rBin, rEq, z15, z1g, z2y, eqOp, aUn, aMin, z2w, z2r, z3j, z3i, z30, rFa, rFld, z3g, z3h, z1j, z2z, z16, z25, blkQ, endQ, retV, oks, RV.ok, RV.val, Bool.and_true, Bool.true_and, List.map_cons, List.map_nil, List.getD_cons_zero, List.getD_cons_succ, List.getD_nil, if_true, if_false, ite_true, ite_false, reduceCtorEq, Nat.reduceEqDiff, Nat.reduceAdd, Bool.false_eq_true, Bool.true_eq_false, beq_true, beq_false, Bool.not_true, Bool.not_false, BEq.rfl, beq_self_eq_true, List.nil_append, List.cons_append, List.append_nil, z4y, z50, z4b, z4e, z4f, z4t, z4u, z54, z4z, z4d, z55, z4h, z4x, z4v, z52, z4k, z4l, z4m, z4n, z4o, z4p, z4j, z4s, z4r, z4q, z4c, z4i, z4g, z4w, getElem?_app, getElem?_app0, z3w, z59]
 exact ⟨trivial, DownV.same hw (z14 _ rfl)⟩
def pc : Nat -> Nat -> Nat
 | 0, _ => 0
 | w + 1, n => n % 2 + pc w (n / 2)
theorem zal (w : Nat) : pc w 0 = 0 := by induction w with
 | zero => rfl
 | succ w ih => simp [pc, ih]
end
section
def lg : Nat -> Nat -> Nat
 | 0, _ => 0
 | w + 1, n => if n = 0 then 0 else 1 + lg w (n / 2)
end
section

end
section
theorem z8m (a b c d : Nat) (hb : b < 256) (hd : d < 256) : (256 * a + b) &&& (256 * c + d) = 256 * (a &&& c) + (b &&& d) := by
 apply Nat.eq_of_testBit_eq
 intro i
 have e : ∀ x y : Nat, y < 256 -> (256 * x + y).testBit i = if i < 8 then y.testBit i else x.testBit (i - 8) := by
  intro x y hy
  have := Nat.testBit_two_pow_mul_add x (i := 8) (b := y) (by simpa using hy) i
  simpa using this
 have hbd : b &&& d < 256 := Nat.lt_of_le_of_lt Nat.and_le_left hb
 rw [Nat.testBit_and, e a b hb, e c d hd, e _ _ hbd]
 split <;> simp [Nat.testBit_and]
def rep (m : Nat) : Nat -> Nat
 | 0 => 0
 | n + 1 => 256 * rep m n + m
def byB (g : Nat -> Nat) : Nat -> Nat -> Nat
 | 0, _ => 0
 | n + 1, x => 256 * byB g n (x / 256) + g (x % 256)
def st1 (x : Nat) : Nat := (x / 2 &&& 85) + (x &&& 85)
def st2 (x : Nat) : Nat := (x / 4 &&& 51) + (x &&& 51)
def st3 (x : Nat) : Nat := x / 16 + x % 16
theorem st1_lo : ∀ p : Fin 2, ∀ r : Fin 256, ((128 * p.val + r.val / 2) &&& 85) = (r.val / 2 &&& 85) := by decide +kernel
theorem st2_lo : ∀ p : Fin 4, ∀ r : Fin 256, ((64 * p.val + r.val / 4) &&& 51) = (r.val / 4 &&& 51) := by decide +kernel
theorem step1 : ∀ (n x : Nat), x < 256 ^ n -> ((x / 2) &&& rep 85 n) + (x &&& rep 85 n) = byB st1 n x
 | 0, x, h => by simp [rep, byB]
 | n + 1, x, h => by
  have ih := step1 n (x / 256) (by rw [Nat.pow_succ] at h; omega)
  have e1 : x / 2 = 256 * (x / 256 / 2) + (128 * (x / 256 % 2) + x % 256 / 2) := by omega
  have e2 : x = 256 * (x / 256) + x % 256 := by omega
  have l1 := st1_lo ⟨x / 256 % 2, by omega⟩ ⟨x % 256, by omega⟩
  simp only at l1
  rw [rep, byB, e1, z8m _ _ _ _ (by omega) (by decide), l1]
  conv => lhs; rhs; rw [e2]
  rw [z8m _ _ _ _ (by omega) (by decide), st1]
  omega
theorem step2 : ∀ (n x : Nat), x < 256 ^ n -> ((x / 4) &&& rep 51 n) + (x &&& rep 51 n) = byB st2 n x
 | 0, x, h => by simp [rep, byB]
 | n + 1, x, h => by
  have ih := step2 n (x / 256) (by rw [Nat.pow_succ] at h; omega)
  have e1 : x / 4 = 256 * (x / 256 / 4) + (64 * (x / 256 % 4) + x % 256 / 4) := by omega
  have e2 : x = 256 * (x / 256) + x % 256 := by omega
  have l1 := st2_lo ⟨x / 256 % 4, by omega⟩ ⟨x % 256, by omega⟩
  simp only at l1
  rw [rep, byB, e1, z8m _ _ _ _ (by omega) (by decide), l1]
  conv => lhs; rhs; rw [e2]
  rw [z8m _ _ _ _ (by omega) (by decide), st2]
  omega
def nib4 : Nat -> Nat -> Prop
 | 0, x => x = 0
 | n + 1, x => x % 256 / 16 <= 4 /\ x % 16 <= 4 /\ nib4 n (x / 256)
theorem step3 : ∀ (n x : Nat), nib4 n x -> ((x / 16 + x) &&& rep 15 n) = byB st3 n x
 | 0, x, h => by simp [rep, byB]
 | n + 1, x, h => by
  obtain ⟨h1, h2, h3⟩ := h
  have ih := step3 n (x / 256) h3
  have hq : x / 256 % 16 <= 4 := by
   cases n with
   | zero => simp only [nib4] at h3; omega
   | succ n => exact h3.2.1
  have e1 : x / 16 + x = 256 * (x / 256 / 16 + x / 256) + (16 * (x / 256 % 16) + x % 256 / 16 + x % 256) := by omega
  rw [rep, byB, e1, z8m _ _ _ _ (by omega) (by decide), ih, st3]
  have e2 : (16 * (x / 256 % 16) + x % 256 / 16 + x % 256) &&& 15 = (16 * (x / 256 % 16) + x % 256 / 16 + x % 256) % 16 := Nat.and_two_pow_sub_one_eq_mod _ 4
  rw [e2]
  omega
theorem zbo {f g : Nat -> Nat} (hg : ∀ b, b < 256 -> g b < 256) : ∀ (n x : Nat), byB f n (byB g n x) = byB (fun b => f (g b)) n x
 | 0, x => by simp [byB]
 | n + 1, x => by
  have hb := hg (x % 256) (by omega)
  have e1 : (256 * byB g n (x / 256) + g (x % 256)) / 256 = byB g n (x / 256) := by omega
  have e2 : (256 * byB g n (x / 256) + g (x % 256)) % 256 = g (x % 256) := by omega
  simp only [byB, e1, e2, zbo hg n]
theorem zbp {g : Nat -> Nat} (hg : ∀ b, b < 256 -> g b < 256) : ∀ (n x : Nat), byB g n x < 256 ^ n
 | 0, x => by simp [byB]
 | n + 1, x => by
  have := zbp hg n (x / 256)
  have := hg (x % 256) (by omega)
  rw [byB, Nat.pow_succ]; omega
theorem st12 : ∀ b : Fin 256, st1 b.val < 256 /\ st2 (st1 b.val) < 256 /\ st2 (st1 b.val) / 16 <= 4 /\ st2 (st1 b.val) % 16 <= 4 /\ st3 (st2 (st1 b.val)) = pc 8 b.val /\ pc 8 b.val <= 8 := by decide +kernel
theorem zct : ∀ (n x : Nat), nib4 n (byB (fun b => st2 (st1 b)) n x)
 | 0, x => by simp [nib4, byB]
 | n + 1, x => by
  obtain ⟨h1, h2, h3, h4, _⟩ := st12 ⟨x % 256, by omega⟩
  simp only at h1 h2 h3 h4
  have e1 : (256 * byB (fun b => st2 (st1 b)) n (x / 256) + st2 (st1 (x % 256))) / 256 = byB (fun b => st2 (st1 b)) n (x / 256) := by omega
  have ih := zct n (x / 256)
  rw [byB, nib4, e1]
  exact ⟨by omega, by omega, ih⟩
theorem z5r (w x : Nat) : pc (8 + w) x = pc 8 (x % 256) + pc w (x / 256) := by
 have e : ∀ k, k < 8 -> x / 2 ^ k % 2 = (x % 256) / 2 ^ k % 2 := by
  intro k hk
  have : k = 0 \/ k = 1 \/ k = 2 \/ k = 3 \/ k = 4 \/ k = 5 \/ k = 6 \/ k = 7 := by omega
  rcases this with rfl | rfl | rfl | rfl | rfl | rfl | rfl | rfl <;> simp <;> omega
 rw [show 8 + w = w + 8 by omega]
 simp only [pc, Nat.div_div_eq_div_mul]
 simp
 omega
end
section
theorem byB8 (g : Nat -> Nat) (x : Nat) : byB g 8 x = g (x % 256) + 256 * (g (x / 256 % 256) + 256 * (g (x / 65536 % 256) + 256 * (g (x / 16777216 % 256) + 256 * (g (x / 4294967296 % 256) + 256 * (g (x / 1099511627776 % 256) + 256 * (g (x / 281474976710656 % 256) + 256 * g (x / 72057594037927936 % 256))))))) := by
 simp only [byB, Nat.div_div_eq_div_mul, Nat.reduceMul]
 omega
theorem pc64 (x : Nat) (_ : x < 18446744073709551616) : pc 64 x = pc 8 (x % 256) + pc 8 (x / 256 % 256) + pc 8 (x / 65536 % 256) + pc 8 (x / 16777216 % 256) + pc 8 (x / 4294967296 % 256) + pc 8 (x / 1099511627776 % 256) + pc 8 (x / 281474976710656 % 256) + pc 8 (x / 72057594037927936 % 256) := by
 have e0 := z5r 56 x
 have e1 := z5r 48 (x / 256)
 have e2 := z5r 40 (x / 256 / 256)
 have e3 := z5r 32 (x / 256 / 256 / 256)
 have e4 := z5r 24 (x / 256 / 256 / 256 / 256)
 have e5 := z5r 16 (x / 256 / 256 / 256 / 256 / 256)
 have e6 := z5r 8 (x / 256 / 256 / 256 / 256 / 256 / 256)
 have e7 := z5r 0 (x / 256 / 256 / 256 / 256 / 256 / 256 / 256)
 have e8 : pc 0 (x / 256 / 256 / 256 / 256 / 256 / 256 / 256 / 256) = 0 := rfl
 rw [e8] at e7
 simp only [Nat.reduceAdd, Nat.div_div_eq_div_mul, Nat.reduceMul, Nat.add_zero] at e0 e1 e2 e3 e4 e5 e6 e7
 rw [e0, e1, e2, e3, e4, e5, e6, e7]
 simp only [Nat.add_assoc]
theorem z2k (x : Nat) : pc 8 (x % 256) <= 8 := (st12 ⟨x % 256, by omega⟩).2.2.2.2.2
theorem sum8 (b0 b1 b2 b3 b4 b5 b6 b7 : Nat) (h0 : b0 <= 8) (h1 : b1 <= 8) (h2 : b2 <= 8) (h3 : b3 <= 8) (h4 : b4 <= 8) (h5 : b5 <= 8) (h6 : b6 <= 8) (h7 : b7 <= 8) (y y1 y2 y3 : Nat) 
   (hy : y = b0 + 256 * (b1 + 256 * (b2 + 256 * (b3 + 256 * (b4 + 256 * (b5 + 256 * (b6 + 256 * b7))))))) 
    (hy1 : y1 = y + y / 256)
    (hy2 : y2 = y1 + y1 / 65536) (hy3 : y3 = y2 + y2 / 4294967296) :
    y3 < 18446744073709551616 /\ y3 % 128 = b0 + b1 + b2 + b3 + b4 + b5 + b6 + b7 := by
  have e1 : y / 256 = b1 + 256 * (b2 + 256 * (b3 + 256 * (b4 + 256 * (b5 + 256 * (b6 + 256 * b7))))) := by clear hy1 hy2 hy3; omega
  have e2 : y1 = (b0 + b1) + 256 * ((b1 + b2) + 256 * ((b2 + b3) + 256 * ((b3 + b4) + 256 * ((b4 + b5) + 256 * ((b5 + b6) + 256 * ((b6 + b7) + 256 * b7)))))) := by rw [hy1, e1, hy]; clear e1 hy hy1 hy2 hy3; omega
  clear e1 hy hy1
  have e3 : y1 / 65536 = (b2 + b3) + 256 * ((b3 + b4) + 256 * ((b4 + b5) + 256 * ((b5 + b6) + 256 * ((b6 + b7) + 256 * b7)))) := by clear hy2 hy3; omega
  have e4 : y2 = (b0 + b1 + b2 + b3) + 256 * ((b1 + b2 + b3 + b4) + 256 * ((b2 + b3 + b4 + b5) + 256 * ((b3 + b4 + b5 + b6) + 256 * ((b4 + b5 + b6 + b7) + 256 * ((b5 + b6 + b7) + 256 * ((b6 + b7) + 256 * b7)))))) := by
    rw [hy2, e3, e2]; clear e3 e2 hy2 hy3; omega
  clear e2 e3 hy2
  have e5 : y2 / 4294967296 = (b4 + b5 + b6 + b7) + 256 * ((b5 + b6 + b7) + 256 * ((b6 + b7) + 256 * b7)) := by clear hy3; omega
  rw [e5, e4] at hy3
  clear e4 e5
  omega
theorem zgz : ∀ (n x : Nat), nib4 n x -> x <= rep 68 n
 | 0, x, h => by simp only [nib4] at h; simp [rep, h]
 | n + 1, x, h => by
  obtain ⟨h1, h2, h3⟩ := h
  have := zgz n (x / 256) h3
  simp only [rep]
  omega
theorem zl3 (z : Nat) (hz : z < 18446744073709551616) : z15 .and .i64 (IntKind.i64.wrap (z : Int)) 127 = some (.int .i64 ((z % 128 : Nat) : Int)) := by
 have ew : (BitVec.ofInt IntKind.i64.bits (IntKind.i64.wrap (z : Int))).toNat = z := by
  rw [BitVec.toNat_ofInt]
  simp only [IntKind.wrap, IntKind.signed, IntKind.bits]
  simp
  split <;> omega
 have e7 : (BitVec.ofInt IntKind.i64.bits 127).toNat = 2 ^ 7 - 1 := by decide
 have ea : (BitVec.ofInt IntKind.i64.bits (IntKind.i64.wrap (z : Int)) &&& BitVec.ofInt IntKind.i64.bits 127).toNat = z % 128 := by
  rw [BitVec.toNat_and, ew, e7]
  exact Nat.and_two_pow_sub_one_eq_mod z 7
 simp only [z15]
 rw [ea, z9a ⟨by omega, by omega⟩]
theorem zf2 (Y : Store) (x : Int) (h : 0 <= x /\ x < 18446744073709551616) : ACallsTo TC 141 [.int .u64 x] Y (.int .i64 (pc 64 x.toNat)) Y := by
 refine ACallsTo.of_body q9ok (by simp) fun hw _ => ?_
 obtain ⟨x, rfl⟩ : ∃ n : Nat, x = n := ⟨x.toNat, by omega⟩
 rw [Int.toNat_natCast]
 have hx : x < 256 ^ 8 := by omega
 have h1 := step1 8 x hx
 have h2 := step2 8 (byB st1 8 x) (zbp (fun b hb => (st12 ⟨b, hb⟩).1) 8 x)
 rw [zbo (fun b hb => (st12 ⟨b, hb⟩).1)] at h2
 have h3 := step3 8 (byB (fun b => st2 (st1 b)) 8 x) (zct 8 x)
 rw [zbo (fun b hb => (st12 ⟨b, hb⟩).2.1)] at h3
 have e3 : byB (fun b => st3 (st2 (st1 b))) 8 x = byB (pc 8) 8 x := by
  simp only [byB8]
  have : ∀ y, st3 (st2 (st1 (y % 256))) = pc 8 (y % 256) := fun y => (st12 ⟨y % 256, by omega⟩).2.2.2.2.1
  simp only [this]
 rw [e3] at h3
 have k1 : rep 85 8 = 6148914691236517205 := by simp only [rep]
 have k2 : rep 51 8 = 3689348814741910323 := by simp only [rep]
 have k3 : rep 15 8 = 1085102592571150095 := by simp only [rep]
 rw [k1] at h1; rw [k2] at h2; rw [k3] at h3
 have l1 : byB st1 8 x < 18446744073709551616 := by
  have h := zbp (g := st1) (fun b hb => (st12 ⟨b, hb⟩).1) 8 x
  omega
 have l2 : byB (fun b => st2 (st1 b)) 8 x <= 4919131752989213764 := by
  have h := zgz 8 _ (zct 8 x)
  simp only [rep] at h
  omega
 have hs := sum8 _ _ _ _ _ _ _ _ (z2k x) (z2k (x / 256)) (z2k (x / 65536)) (z2k (x / 16777216)) (z2k (x / 4294967296)) (z2k (x / 1099511627776)) (z2k (x / 281474976710656)) (z2k (x / 72057594037927936)) _ _ _ _ rfl rfl rfl rfl
 rw [<- byB8, <- pc64 x (by omega)] at hs
 generalize byB (pc 8) 8 x = y3 at *
 generalize byB (fun b => st2 (st1 b)) 8 x = y2 at *
 generalize byB st1 8 x = y1 at *
 clear e3
 try simp only at hs l2
 have hle : pc 64 x <= 64 := by
  rw [pc64 x (by omega)]
  have := z2k x; have := z2k (x / 256); have := z2k (x / 65536); have := z2k (x / 16777216); have := z2k (x / 4294967296); have := z2k (x / 1099511627776); have := z2k (x / 281474976710656); have := z2k (x / 72057594037927936)
  omega
 generalize pc 64 x = p at *
 have hy3 : y3 < 18446744073709551616 := by omega
 have t6 : ∀ (O : Env) (z : Nat), z < 18446744073709551616 -> z % 128 = p -> O 0 = .int .u64 (z : Int) -> zW TC 35 Y.length q9c8 (endQ Y.length [.t 2] (.int .i64 p) Y) O Y := by
  intro O z hs1 hs2 q0
  have e6 := zl3 z hs1
  rw [hs2] at e6
  repeat' (first|apply zs_|apply zb_|apply zc_|apply zt_ rfl|apply zf_ rfl|(refine zd_ rfl (fun ht => ?_) (fun ht => ?_)<;>try (exfalso;omega))|((first|apply zr_|apply zk_|apply ze_|apply zq_|((first|apply zg0|apply zg1|apply zg2|apply zg3|apply zg4|apply zg5|apply zg6|apply zg7)<;>intro ht));all_goals try simp (disch:=first|omega|(simp only [lens];first|done|omega)) only [go_sem,nQ1,nQ2,nQ3,nQ4,nQ5,nQ6,nQ7,nQ8,q0,e6]))
  exact DownV.same hw (z14 _ rfl)
 have t5 : ∀ O : Env, O 0 = .int .u64 ((y3 + y3 / 256 + (y3 + y3 / 256) / 65536 : Nat) : Int) -> zW TC 35 Y.length q9c9 (endQ Y.length [.t 2] (.int .i64 p) Y) O Y := by
  intro O q0
  refine zW.seqReg ?_
  simp (disch:=first|omega|(simp only [lens];first|done|omega)) only [go_sem,nQ1,nQ2,nQ3,nQ4,nQ5,nQ6,nQ7,nQ8,q0]
  exact t6 _ _ hs.1 hs.2 (by simp (disch:=first|omega|(simp only [lens];first|done|omega)) only [go_sem,nQ1,nQ2,nQ3,nQ4,nQ5,nQ6,nQ7,nQ8,Int.natCast_add,Int.natCast_ediv,Int.cast_ofNat_Int])
 have t4 : ∀ O : Env, O 0 = .int .u64 ((y3 + y3 / 256 : Nat) : Int) -> zW TC 35 Y.length q9c10 (endQ Y.length [.t 2] (.int .i64 p) Y) O Y := by
  intro O q0
  refine zW.seqReg ?_
  simp (disch:=first|omega|(simp only [lens];first|done|omega)) only [go_sem,nQ1,nQ2,nQ3,nQ4,nQ5,nQ6,nQ7,nQ8,q0]
  exact t5 _ (by simp (disch:=first|omega|(simp only [lens];first|done|omega)) only [go_sem,nQ1,nQ2,nQ3,nQ4,nQ5,nQ6,nQ7,nQ8,Int.natCast_add,Int.natCast_ediv,Int.cast_ofNat_Int])
 have t3 : ∀ O : Env, O 0 = .int .u64 (y3 : Int) -> zW TC 35 Y.length q9c11 (endQ Y.length [.t 2] (.int .i64 p) Y) O Y := by
  intro O q0
  refine zW.seqReg ?_
  simp (disch:=first|omega|(simp only [lens];first|done|omega)) only [go_sem,nQ1,nQ2,nQ3,nQ4,nQ5,nQ6,nQ7,nQ8,q0]
  exact t4 _ (by simp (disch:=first|omega|(simp only [lens];first|done|omega)) only [go_sem,nQ1,nQ2,nQ3,nQ4,nQ5,nQ6,nQ7,nQ8,Int.natCast_add,Int.natCast_ediv,Int.cast_ofNat_Int])
 have t2 : ∀ O : Env, O 0 = .int .u64 (y2 : Int) -> zW TC 35 Y.length q9c12 (endQ Y.length [.t 2] (.int .i64 p) Y) O Y := by
  intro O q0
  refine zW.seqReg ?_
  have e : ((y2 : Int) / 16 + (y2 : Int)).toNat = y2 / 16 + y2 := by omega
  simp (disch:=first|omega|(simp only [lens];first|done|omega)) only [go_sem,nQ1,nQ2,nQ3,nQ4,nQ5,nQ6,nQ7,nQ8,q0,e,h3]
  exact t3 _ (by simp (disch:=first|omega|(simp only [lens];first|done|omega)) only [go_sem,nQ1,nQ2,nQ3,nQ4,nQ5,nQ6,nQ7,nQ8])
 have t1 : ∀ O : Env, O 0 = .int .u64 (y1 : Int) -> zW TC 35 Y.length q9c13 (endQ Y.length [.t 2] (.int .i64 p) Y) O Y := by
  intro O q0
  refine zW.seqReg ?_
  have e : ((y1 : Int) / 4).toNat = y1 / 4 := by omega
  have e' : ((y1 / 4 &&& 3689348814741910323 : Nat) : Int) + ((y1 &&& 3689348814741910323 : Nat) : Int) = (y2 : Int) := by omega
  simp (disch:=first|omega|(simp only [lens];first|done|omega)) only [go_sem,nQ1,nQ2,nQ3,nQ4,nQ5,nQ6,nQ7,nQ8,q0,e,e']
  exact t2 _ (by simp (disch:=first|omega|(simp only [lens];first|done|omega)) only [go_sem,nQ1,nQ2,nQ3,nQ4,nQ5,nQ6,nQ7,nQ8])
 refine zW.seqReg ?_
 simp (disch:=first|omega|(simp only [lens];first|done|omega)) only [go_sem,nQ1,nQ2,nQ3,nQ4,nQ5,nQ6,nQ7,nQ8]
 refine zW.seqReg ?_
 have e : ((x : Int) / 2).toNat = x / 2 := by omega
 have e' : ((x / 2 &&& 6148914691236517205 : Nat) : Int) + ((x &&& 6148914691236517205 : Nat) : Int) = (y1 : Int) := by omega
 simp (disch:=first|omega|(simp only [lens];first|done|omega)) only [go_sem,nQ1,nQ2,nQ3,nQ4,nQ5,nQ6,nQ7,nQ8,e,e']
 refine t1 _ ?_
 simp (disch:=first|omega|(simp only [lens];first|done|omega)) only [go_sem,nQ1,nQ2,nQ3,nQ4,nQ5,nQ6,nQ7,nQ8]
end
section
theorem z3a {k : Nat} {i : IntKind} {n : Int} : RL k (.int i n) := z14 _ rfl
theorem z6b {k : Nat} {s : List UInt8} : RL k (.str s) := z14 _ rfl
theorem z2b {k : Nat} {b : Bool} : RL k (.bool b) := z14 _ rfl
theorem z9s (Y : Store) (x : Int) (h : 0 <= x /\ x < 18446744073709551616) : ACallsTo TC 129 [.int .u64 x] Y (.int .i64 (pc 64 x.toNat)) Y := by
 refine ACallsTo.of_body q8ok (by simp) fun hw _ => ?_
 repeat' (first|apply zs_|apply zb_|apply zc_|apply zt_ rfl|apply zf_ rfl|(refine zd_ rfl (fun ht => ?_) (fun ht => ?_)<;>try (exfalso;omega))|((first|apply zr_|apply zk_|apply ze_|apply zq_|(apply callW.mk_pu; (first | exact (fun _ => zf2 _ _ (by omega)))) | (apply callW.za; (first | exact (zf2 _ _ (by omega)))) | ((first|apply zg0|apply zg1|apply zg2|apply zg3|apply zg4|apply zg5|apply zg6|apply zg7)<;>intro ht));all_goals try simp (disch:=first|omega|(simp only [lens];first|done|omega)) only [go_sem,nQ1,nQ2,nQ3,nQ4,nQ5,nQ6,nQ7,nQ8]))
 exact DownV.same hw z3a
theorem zk6 (Y : Store) (x : Int) (h : -9223372036854775808 <= x /\ x < 9223372036854775808) : ACallsTo TC 117 [.int .i64 x] Y (.int .i64 (pc 64 x.toNat)) Y := by
 refine ACallsTo.of_body q3ok (by simp) fun hw _ => ?_
 by_cases hx : 0 > x
 ·have e : x.toNat = (0 : Int).toNat := by omega
  rw [e]
  repeat' (first|apply zs_|apply zb_|apply zc_|apply zt_ rfl|apply zf_ rfl|(refine zd_ rfl (fun ht => ?_) (fun ht => ?_)<;>try (exfalso;omega))|((first|apply zr_|apply zk_|apply ze_|apply zq_|(apply callW.mk_pu; (first | exact (fun _ => z9s _ _ (by omega)))) | (apply callW.za; (first | exact (z9s _ _ (by omega)))) | ((first|apply zg0|apply zg1|apply zg2|apply zg3|apply zg4|apply zg5|apply zg6|apply zg7)<;>intro ht));all_goals try simp (disch:=first|omega|(simp only [lens];first|done|omega)) only [go_sem,nQ1,nQ2,nQ3,nQ4,nQ5,nQ6,nQ7,nQ8]))
  exact DownV.same hw z3a
 ·repeat' (first|apply zs_|apply zb_|apply zc_|apply zt_ rfl|apply zf_ rfl|(refine zd_ rfl (fun ht => ?_) (fun ht => ?_)<;>try (exfalso;omega))|((first|apply zr_|apply zk_|apply ze_|apply zq_|(apply callW.mk_pu; (first | exact (fun _ => z9s _ _ (by omega)))) | (apply callW.za; (first | exact (z9s _ _ (by omega)))) | ((first|apply zg0|apply zg1|apply zg2|apply zg3|apply zg4|apply zg5|apply zg6|apply zg7)<;>intro ht));all_goals try simp (disch:=first|omega|(simp only [lens];first|done|omega)) only [go_sem,nQ1,nQ2,nQ3,nQ4,nQ5,nQ6,nQ7,nQ8]))
  exact DownV.same hw z3a
def be : Nat -> Nat -> List UInt8
 | 0, _ => []
 | n + 1, x => be n (x / 256) ++ [UInt8.ofNat x]
theorem z34 : ∀ n x, (be n x).length = n
 | 0, _ => rfl
 | n + 1, x => by simp [be, z34 n]
theorem z7z : ∀ n x, be (n + 1) x = UInt8.ofNat (x / 256 ^ n) :: be n x
 | 0, x => by simp [be]
 | n + 1, x => by
  rw [be, z7z n (x / 256), Nat.div_div_eq_div_mul, Nat.pow_succ, Nat.mul_comm 256, be]
  rfl
def putS (x n : Int) : List UInt8 := if 1 <= n /\ n <= 8 then be n.toNat x.toNat else []
theorem zdv (Y : Store) (x n : Int) (h : 0 <= x /\ x < 18446744073709551616) (hn : n < 9223372036854775808) : ACallsTo TC 101 [.int .u64 x, .int .i64 n] Y (.str (putS x n)) Y := by
 refine ACallsTo.of_body q1ok (by simp) fun hw _ => ?_
 repeat' (first|apply zs_|apply zb_|apply zc_|apply zt_ rfl|apply zf_ rfl|(refine zd_ rfl (fun ht => ?_) (fun ht => ?_)<;>try (exfalso;omega))|((first|apply zr_|apply zk_|apply ze_|apply zq_|((first|apply zg0|apply zg1|apply zg2|apply zg3|apply zg4|apply zg5|apply zg6|apply zg7)<;>intro ht));all_goals try simp (disch:=first|omega|(simp only [lens];first|done|omega)) only [go_sem,nQ1,nQ2,nQ3,nQ4,nQ5,nQ6,nQ7,nQ8]))
 refine zW.loop (fun m O Y' => Y' = Y /\ ∃ (i : Nat) (y : Nat), O 0 = .int .u64 y /\ O 1 = .int .i64 n /\ O 6 = .int .i64 i /\ O 5 = .str (be i x.toNat) /\ m + i = 9 /\ (i : Int) <= max n 0 /\ y = x.toNat / 256 ^ i /\ (0 < i -> n < 9)) 9 ?_ ?_
 ·refine ⟨rfl, 0, x.toNat, ?_, ?_, ?_, ?_, by omega, by omega, by simp, by omega⟩ <;> simp (disch:=first|omega|(simp only [lens];first|done|omega)) only [go_sem,nQ1,nQ2,nQ3,nQ4,nQ5,nQ6,nQ7,nQ8,be]
  ·exact z38 (by omega)
  ·rfl
 ·rintro m O _ ⟨rfl, i, y, q0, q1, q6, q5, hm, hi, hy, h9⟩
  have hl := z34 i x.toNat
  have hy2 : y < 18446744073709551616 := by
   have := Nat.div_le_self x.toNat (256 ^ i)
   omega
  repeat' (first|apply zs_|apply zb_|apply zc_|apply zt_ rfl|apply zf_ rfl|(refine zd_ rfl (fun ht => ?_) (fun ht => ?_)<;>try (exfalso;omega))|((first|apply zr_|apply zk_|apply ze_|apply zq_|((first|apply zg0|apply zg1|apply zg2|apply zg3|apply zg4|apply zg5|apply zg6|apply zg7)<;>intro ht));all_goals try simp (disch:=first|omega|(simp only [lens];first|done|omega)) only [go_sem,nQ1,nQ2,nQ3,nQ4,nQ5,nQ6,nQ7,nQ8,q0,q1,q6,q5]))
  ·refine ⟨m - 1, by omega, i + 1, y / 256, z38 (by omega), z38 (by omega), str_eq ?_, by omega, by omega, ?_, by omega⟩
   ·rw [z7z, <- hy]
    congr 1
    apply UInt8.toNat_inj.1
    simp; omega
   ·rw [hy, Nat.div_div_eq_div_mul, Nat.pow_succ]
  ·have e : i = 0 := by omega
   subst e
   rw [putS, if_neg (by omega)]
   exact DownV.same hw z6b
  ·by_cases h8 : 1 <= n /\ n <= 8
   ·have e : i = n.toNat := by omega
    rw [putS, if_pos h8, e]
    exact DownV.same hw z6b
   ·have e : i = 0 := by omega
    subst e
    rw [putS, if_neg h8]
    exact DownV.same hw z6b
theorem z65 (Y : Store) (x n : Int) (h : 0 <= x /\ x < 18446744073709551616) (hn : n < 9223372036854775808) : ACallsTo TC 98 [.int .u64 x, .int .i64 n] Y (.str (putS x n)) Y := by
 refine ACallsTo.of_body q0ok (by simp) fun hw _ => ?_
 repeat' (first|apply zs_|apply zb_|apply zc_|apply zt_ rfl|apply zf_ rfl|(refine zd_ rfl (fun ht => ?_) (fun ht => ?_)<;>try (exfalso;omega))|((first|apply zr_|apply zk_|apply ze_|apply zq_|((first|apply zg0|apply zg1|apply zg2|apply zg3|apply zg4|apply zg5|apply zg6|apply zg7)<;>intro ht));all_goals try simp (disch:=first|omega|(simp only [lens];first|done|omega)) only [go_sem,nQ1,nQ2,nQ3,nQ4,nQ5,nQ6,nQ7,nQ8]))
 ·rw [putS, if_neg (by omega)]
  exact DownV.same hw z6b
 ·rw [putS, if_neg (by omega)]
  exact DownV.same hw z6b
 rw [putS, if_pos (by omega)]
 obtain ⟨k, hk⟩ : ∃ k : Nat, n = k := ⟨n.toNat, by omega⟩
 subst hk
 rw [Int.toNat_natCast]
 refine zW.loop (fun m O Y' => ∃ (i : Nat) (y : Nat) (s : List UInt8), Y' = Y ++ [some (zh s)] /\ s.length = k /\ s.drop (k - i) = be i x.toNat /\ O 0 = .int .u64 y /\ O 1 = .int .i64 k /\ O 15 = .int .i64 k /\ O 5 = .sl Y.length 0 k (some k) 1 /\ O 16 = .int .i64 i /\ m + i = k /\ y = x.toNat / 256 ^ i) k ?_ ?_
 ·refine ⟨0, x.toNat, List.replicate k 0, ?_, by simp, by simp [be], ?_, ?_, ?_, ?_, ?_, by omega, by simp⟩ <;> try simp (disch:=first|omega|(simp only [lens];first|done|omega)) only [go_sem,nQ1,nQ2,nQ3,nQ4,nQ5,nQ6,nQ7,nQ8,be]
  ·exact z38 (by omega)
  ·exact z38 (by omega)
 ·rintro m O _ ⟨i, y, s, rfl, hs, hd, q0, q1, q15, q5, q16, hm, hy⟩
  have hy2 : y < 18446744073709551616 := by
   have := Nat.div_le_self x.toNat (256 ^ i)
   omega
  repeat' (first|apply zs_|apply zb_|apply zc_|apply zt_ rfl|apply zf_ rfl|(refine zd_ rfl (fun ht => ?_) (fun ht => ?_)<;>try (exfalso;omega))|((first|apply zr_|apply zk_|apply ze_|apply zq_|((first|apply zg0|apply zg1|apply zg2|apply zg3|apply zg4|apply zg5|apply zg6|apply zg7)<;>intro ht));all_goals try simp (disch:=first|omega|(simp only [lens];first|done|omega)) only [go_sem,nQ1,nQ2,nQ3,nQ4,nQ5,nQ6,nQ7,nQ8,q0,q1,q15,q5,q16]))
  ·refine ⟨m - 1, by omega, i + 1, y / 256, _, rfl, by simp [hs], ?_, z38 (by omega), z38 (by omega), by omega, ?_⟩
   ·rw [z7z, <- hy, <- hd]
    have e1 : ((k : Int) - 1 - i).toNat = k - (i + 1) := by omega
    have e2 : UInt8.ofNat ((y : Int) % 256).toNat = UInt8.ofNat y := by
     apply UInt8.toNat_inj.1
     simp; omega
    rw [e1, e2, List.drop_set]
    simp only [Nat.lt_irrefl, if_false, Nat.sub_self]
    rw [List.drop_eq_getElem_cons (by omega), List.set_cons_zero, show k - (i + 1) + 1 = k - i by omega]
   ·rw [hy, Nat.div_div_eq_div_mul, Nat.pow_succ]
  ·have e : i = k := by omega
   subst e
   rw [Nat.sub_self, List.drop_zero] at hd
   rw [<- hd]
   exact DownV.pure hw z6b
end
section
def val (s : List UInt8) : Nat := s.foldl (fun n b => 256 * n + b.toNat) 0
theorem ztc (s : List UInt8) (b : UInt8) : val (s ++ [b]) = 256 * val s + b.toNat := by simp [val]
theorem zsu {α : Type} (s : List α) (i : Nat) (d : α) (h : i < s.length) : s.take (i + 1) = s.take i ++ [s.getD i d] := by
 rw [List.take_add_one, getQ s i d h]; rfl
theorem zj0 (s : List UInt8) (i : Nat) (h : i < s.length) : val (s.take (i + 1)) = 256 * val (s.take i) + (s.getD i 0).toNat := by
 rw [zsu s i 0 h, ztc]
theorem ziz : ∀ (i : Nat) (s : List UInt8), i <= s.length -> val (s.take i) < 256 ^ i
 | 0, s, _ => by simp [val]
 | i + 1, s, h => by
  have := ziz i s (by omega)
  have hb := (s.getD i 0).toNat_lt
  rw [zj0 s i (by omega), Nat.pow_succ]
  omega
def getS (s : List UInt8) : Nat := val (s.take 8)
theorem zf1 (Y : Store) (s : List UInt8) (hs : s.length < 9223372036854775808) : ACallsTo TC 134 [.str s] Y (.int .u64 (getS s)) Y := by
 refine ACallsTo.of_body q6ok (by simp) fun hw _ => ?_
 obtain ⟨k, hk, hk2⟩ : ∃ k : Nat, (k : Int) = (if (8 : Int) < s.length then (8 : Int) else (s.length : Int)) /\ k = min 8 s.length := ⟨min 8 s.length, by split <;> omega, rfl⟩
 have hgs : getS s = val (s.take k) := by
  rw [hk2, getS]
  by_cases h : 8 <= s.length
  ·rw [Nat.min_eq_left h]
  ·rw [Nat.min_eq_right (by omega), List.take_of_length_le (by omega), List.take_length]
 rw [hgs]
 repeat' (first|apply zs_|apply zb_|apply zc_|apply zt_ rfl|apply zf_ rfl|(refine zd_ rfl (fun ht => ?_) (fun ht => ?_)<;>try (exfalso;omega))|((first|apply zr_|apply zk_|apply ze_|apply zq_|((first|apply zg0|apply zg1|apply zg2|apply zg3|apply zg4|apply zg5|apply zg6|apply zg7)<;>intro ht));all_goals try simp (disch:=first|omega|(simp only [lens];first|done|omega)) only [go_sem,nQ1,nQ2,nQ3,nQ4,nQ5,nQ6,nQ7,nQ8,<- hk]))
 refine zW.loop (fun m O Y' => Y' = Y /\ ∃ (i : Nat), O 0 = .str s /\ O 7 = .int .i64 k /\ O 8 = .int .i64 i /\ O 3 = .int .u64 (val (s.take i)) /\ m + i = k) k ?_ ?_
 ·refine ⟨rfl, 0, ?_, ?_, ?_, ?_, by omega⟩ <;> simp (disch:=first|omega|(simp only [lens];first|done|omega)) only [go_sem,nQ1,nQ2,nQ3,nQ4,nQ5,nQ6,nQ7,nQ8,<- hk] <;> rfl
 ·rintro m O _ ⟨rfl, i, q0, q7, q8, q3, hm⟩
  have hv := ziz i s (by omega)
  have hp : i < k -> 256 * 256 ^ i <= 18446744073709551616 := by
   intro h
   have : 256 ^ (i + 1) <= 256 ^ 8 := Nat.pow_le_pow_right (by decide) (by omega)
   rw [Nat.pow_succ] at this
   omega
  have hb := (s.getD i 0).toNat_lt
  repeat' (first|apply zs_|apply zb_|apply zc_|apply zt_ rfl|apply zf_ rfl|(refine zd_ rfl (fun ht => ?_) (fun ht => ?_)<;>try (exfalso;omega))|((first|apply zr_|apply zk_|apply ze_|apply zq_|((first|apply zg0|apply zg1|apply zg2|apply zg3|apply zg4|apply zg5|apply zg6|apply zg7)<;>intro ht));all_goals try simp (disch:=first|omega|(simp only [lens];first|done|omega)) only [go_sem,nQ1,nQ2,nQ3,nQ4,nQ5,nQ6,nQ7,nQ8,q0,q7,q8,q3]))
  ·have hp' := hp (by omega)
   have hvt := zj0 s i (by omega)
   refine ⟨m - 1, by omega, i + 1, z38 (by omega), ?_, by omega⟩
   rw [hvt]
   exact z38 (by omega)
  ·have e : i = k := by omega
   subst e
   exact DownV.same hw z3a
def bitS (s : List UInt8) (i : Int) : Nat := if 0 <= i /\ i / 8 < s.length then (s.getD (i / 8).toNat 0).toNat / 2 ^ (7 - i % 8).toNat % 2 else 0
theorem zfl (c n : Nat) : c / 2 ^ n <= c := Nat.div_le_self _ _
theorem zf0 (Y : Store) (s : List UInt8) (i : Int) (hs : s.length < 9223372036854775808) (hi : -9223372036854775808 <= i /\ i < 9223372036854775808) : ACallsTo TC 119 [.str s, .int .i64 i] Y (.int .i64 (bitS s i)) Y := by
 refine ACallsTo.of_body q4ok (by simp) fun hw _ => ?_
 have hb := (s.getD (i / 8).toNat 0).toNat_lt
 have hd := zfl (s.getD (i / 8).toNat 0).toNat (7 - i % 8).toNat
 obtain ⟨q, hq⟩ : ∃ q, q = (s.getD (i / 8).toNat 0).toNat / 2 ^ (7 - i % 8).toNat := ⟨_, rfl⟩
 have hc : ((s.getD (i / 8).toNat 0).toNat : Int) / 2 ^ (7 - i % 8).toNat = (q : Int) := by rw [hq]; simp
 rw [<- hq] at hd
 repeat' (first|apply zs_|apply zb_|apply zc_|apply zt_ rfl|apply zf_ rfl|(refine zd_ rfl (fun ht => ?_) (fun ht => ?_)<;>try (exfalso;omega))|((first|apply zr_|apply zk_|apply ze_|apply zq_|((first|apply zg0|apply zg1|apply zg2|apply zg3|apply zg4|apply zg5|apply zg6|apply zg7)<;>intro ht));all_goals try simp (disch:=first|omega|(simp only [lens];first|done|omega)) only [go_sem,nQ1,nQ2,nQ3,nQ4,nQ5,nQ6,nQ7,nQ8,hc]))
 ·rw [bitS, if_neg (by omega)]
  exact DownV.same hw z3a
 ·rw [bitS, if_neg (by omega)]
  exact DownV.same hw z3a
 ·rw [bitS, if_pos (by omega), <- hq]
  exact DownV.same hw z3a
theorem zse (Y : Store) (s : List UInt8) (i : Int) (hs : s.length < 9223372036854775808) (hi : -9223372036854775808 <= i /\ i < 9223372036854775808) : ACallsTo TC 120 [.str s, .int .i64 i] Y (.int .i64 (bitS s i)) Y := by
 refine ACallsTo.of_body q5ok (by simp) fun hw _ => ?_
 have hb := (s.getD (i / 8).toNat 0).toNat_lt
 repeat' (first|apply zs_|apply zb_|apply zc_|apply zt_ rfl|apply zf_ rfl|(refine zd_ rfl (fun ht => ?_) (fun ht => ?_)<;>try (exfalso;omega))|((first|apply zr_|apply zk_|apply ze_|apply zq_|((first|apply zg0|apply zg1|apply zg2|apply zg3|apply zg4|apply zg5|apply zg6|apply zg7)<;>intro ht));all_goals try simp (disch:=first|omega|(simp only [lens];first|done|omega)) only [go_sem,nQ1,nQ2,nQ3,nQ4,nQ5,nQ6,nQ7,nQ8]))
 ·rw [bitS, if_neg (by omega)]
  exact DownV.same hw z3a
 ·rw [bitS, if_neg (by omega)]
  exact DownV.same hw z3a
 rw [bitS, if_pos (by omega)]
 refine zW.loop (fun m O Y' => Y' = Y /\ ∃ (k q : Nat), O 5 = .int .u8 q /\ q = (s.getD (i / 8).toNat 0).toNat / 2 ^ k /\ O 6 = .int .i64 (i % 8 + k) /\ m + k = (7 - i % 8).toNat) (7 - i % 8).toNat ?_ ?_
 ·refine ⟨rfl, 0, (s.getD (i / 8).toNat 0).toNat, ?_, by simp, ?_, by omega⟩ <;> simp (disch:=first|omega|(simp only [lens];first|done|omega)) only [go_sem,nQ1,nQ2,nQ3,nQ4,nQ5,nQ6,nQ7,nQ8]
  exact z38 (by simp)
 ·rintro m O _ ⟨rfl, k, q, q5, hq, q6, hm⟩
  have hd := zfl (s.getD (i / 8).toNat 0).toNat k
  rw [<- hq] at hd
  repeat' (first|apply zs_|apply zb_|apply zc_|apply zt_ rfl|apply zf_ rfl|(refine zd_ rfl (fun ht => ?_) (fun ht => ?_)<;>try (exfalso;omega))|((first|apply zr_|apply zk_|apply ze_|apply zq_|((first|apply zg0|apply zg1|apply zg2|apply zg3|apply zg4|apply zg5|apply zg6|apply zg7)<;>intro ht));all_goals try simp (disch:=first|omega|(simp only [lens];first|done|omega)) only [go_sem,nQ1,nQ2,nQ3,nQ4,nQ5,nQ6,nQ7,nQ8,q5,q6]))
  ·refine ⟨m - 1, by omega, k + 1, q / 2, z38 (by omega), ?_, z38 (by omega), by omega⟩
   rw [Nat.pow_succ, <- Nat.div_div_eq_div_mul, hq]
  ·have e : k = (7 - i % 8).toNat := by omega
   rw [<- e, <- hq]
   exact DownV.same hw z3a
end
section
/-! Turning. -/
/-! Bits of a sum. -/
/-! What is put is got. -/
theorem zhl (x n : Int) : (putS x n).length <= 8 := by
 unfold putS
 split
 ·rw [z34]; omega
 ·simp
/-! The highest bit. -/
theorem zhc : ∀ (w x : Nat), x < 2 ^ w -> ∀ v, pc (w + v) x = pc w x
 | 0, x, h, v => by simp at h; subst h; simp [zal]
 | w + 1, x, h, v => by
  rw [show w + 1 + v = (w + v) + 1 by omega]
  simp only [pc]
  rw [zhc w (x / 2) (by rw [Nat.pow_succ] at h; omega) v]
end
section
set_option maxRecDepth 10000
@[go_sem] def qar0 : List AIns := [
 ⟨some 2,none,.no,.alloc zZ0⟩]
@[go_sem] def qar1 : List AIns := [
 ⟨some 26,none,.no,.build [(.int .u32 0), (.int .u32 0), (.int .u32 0), (.int .u32 0), (.int .u32 0), (.int .u32 0), (.int .u32 0), (.int .u32 0), (.int .u32 0), (.int .u32 0), (.int .u32 0), (.int .u32 0), (.int .u32 0), (.int .u32 0), (.int .u32 0), (.int .u32 0), (.int .u32 0), (.int .u32 0), (.int .u32 0), (.int .u32 0), (.int .u32 0), (.int .u32 0), (.int .u32 0), (.int .u32 0), (.int .u32 0), (.int .u32 0), (.int .u32 0), (.int .u32 0), (.int .u32 0), (.int .u32 0), (.int .u32 0), (.int .u32 0), (.int .u32 0), (.int .u32 0), (.int .u32 0), (.int .u32 0), (.int .u32 0), (.int .u32 0), (.int .u32 0), (.int .u32 0), (.int .u32 0), (.int .u32 0), (.int .u32 0), (.int .u32 0), (.int .u32 0), (.int .u32 0), (.int .u32 0), (.int .u32 0), (.int .u32 0), (.int .u32 0), (.int .u32 0), (.int .u32 0), (.int .u32 0), (.int .u32 0), (.int .u32 0), (.int .u32 0), (.int .u32 0), (.int .u32 0), (.int .u32 0), (.int .u32 0), (.int .u32 0), (.int .u32 0), (.int .u32 0), (.int .u32 0)] [(0, 1, (.v (.int .u32 1116352408))), (1, 1, (.v (.int .u32 1899447441))), (2, 1, (.v (.int .u32 3049323471))), (3, 1, (.v (.int .u32 3921009573))), (4, 1, (.v (.int .u32 961987163))), (5, 1, (.v (.int .u32 1508970993))), (6, 1, (.v (.int .u32 2453635748))), (7, 1, (.v (.int .u32 2870763221))), (8, 1, (.v (.int .u32 3624381080))), (9, 1, (.v (.int .u32 310598401))), (10, 1, (.v (.int .u32 607225278))), (11, 1, (.v (.int .u32 1426881987))), (12, 1, (.v (.int .u32 1925078388))), (13, 1, (.v (.int .u32 2162078206))), (14, 1, (.v (.int .u32 2614888103))), (15, 1, (.v (.int .u32 3248222580))), (16, 1, (.v (.int .u32 3835390401))), (17, 1, (.v (.int .u32 4022224774))), (18, 1, (.v (.int .u32 264347078))), (19, 1, (.v (.int .u32 604807628))), (20, 1, (.v (.int .u32 770255983))), (21, 1, (.v (.int .u32 1249150122))), (22, 1, (.v (.int .u32 1555081692))), (23, 1, (.v (.int .u32 1996064986))), (24, 1, (.v (.int .u32 2554220882))), (25, 1, (.v (.int .u32 2821834349))), (26, 1, (.v (.int .u32 2952996808))), (27, 1, (.v (.int .u32 3210313671))), (28, 1, (.v (.int .u32 3336571891))), (29, 1, (.v (.int .u32 3584528711))), (30, 1, (.v (.int .u32 113926993))), (31, 1, (.v (.int .u32 338241895))), (32, 1, (.v (.int .u32 666307205))), (33, 1, (.v (.int .u32 773529912))), (34, 1, (.v (.int .u32 1294757372))), (35, 1, (.v (.int .u32 1396182291))), (36, 1, (.v (.int .u32 1695183700))), (37, 1, (.v (.int .u32 1986661051))), (38, 1, (.v (.int .u32 2177026350))), (39, 1, (.v (.int .u32 2456956037))), (40, 1, (.v (.int .u32 2730485921))), (41, 1, (.v (.int .u32 2820302411))), (42, 1, (.v (.int .u32 3259730800))), (43, 1, (.v (.int .u32 3345764771))), (44, 1, (.v (.int .u32 3516065817))), (45, 1, (.v (.int .u32 3600352804))), (46, 1, (.v (.int .u32 4094571909))), (47, 1, (.v (.int .u32 275423344))), (48, 1, (.v (.int .u32 430227734))), (49, 1, (.v (.int .u32 506948616))), (50, 1, (.v (.int .u32 659060556))), (51, 1, (.v (.int .u32 883997877))), (52, 1, (.v (.int .u32 958139571))), (53, 1, (.v (.int .u32 1322822218))), (54, 1, (.v (.int .u32 1537002063))), (55, 1, (.v (.int .u32 1747873779))), (56, 1, (.v (.int .u32 1955562222))), (57, 1, (.v (.int .u32 2024104815))), (58, 1, (.v (.int .u32 2227730452))), (59, 1, (.v (.int .u32 2361852424))), (60, 1, (.v (.int .u32 2428436474))), (61, 1, (.v (.int .u32 2756734187))), (62, 1, (.v (.int .u32 3204031479))), (63, 1, (.v (.int .u32 3329325298)))]⟩,
 ⟨some 3,none,.no,.alloc [(.int .u32 0), (.int .u32 0), (.int .u32 0), (.int .u32 0), (.int .u32 0), (.int .u32 0), (.int .u32 0), (.int .u32 0), (.int .u32 0), (.int .u32 0), (.int .u32 0), (.int .u32 0), (.int .u32 0), (.int .u32 0), (.int .u32 0), (.int .u32 0), (.int .u32 0), (.int .u32 0), (.int .u32 0), (.int .u32 0), (.int .u32 0), (.int .u32 0), (.int .u32 0), (.int .u32 0), (.int .u32 0), (.int .u32 0), (.int .u32 0), (.int .u32 0), (.int .u32 0), (.int .u32 0), (.int .u32 0), (.int .u32 0), (.int .u32 0), (.int .u32 0), (.int .u32 0), (.int .u32 0), (.int .u32 0), (.int .u32 0), (.int .u32 0), (.int .u32 0), (.int .u32 0), (.int .u32 0), (.int .u32 0), (.int .u32 0), (.int .u32 0), (.int .u32 0), (.int .u32 0), (.int .u32 0), (.int .u32 0), (.int .u32 0), (.int .u32 0), (.int .u32 0), (.int .u32 0), (.int .u32 0), (.int .u32 0), (.int .u32 0), (.int .u32 0), (.int .u32 0), (.int .u32 0), (.int .u32 0), (.int .u32 0), (.int .u32 0), (.int .u32 0), (.int .u32 0)]⟩,
 ⟨none,none,.no,.store 64 (.t 3) (.t 26)⟩]
@[go_sem] def qar2 : List AIns := [
 ⟨some 27,none,.no,.build [(.int .u32 0), (.int .u32 0), (.int .u32 0), (.int .u32 0), (.int .u32 0), (.int .u32 0), (.int .u32 0), (.int .u32 0)] [(0, 1, (.v (.int .u32 1779033703))), (1, 1, (.v (.int .u32 3144134277))), (2, 1, (.v (.int .u32 1013904242))), (3, 1, (.v (.int .u32 2773480762))), (4, 1, (.v (.int .u32 1359893119))), (5, 1, (.v (.int .u32 2600822924))), (6, 1, (.v (.int .u32 528734635))), (7, 1, (.v (.int .u32 1541459225)))]⟩,
 ⟨some 4,none,.no,.alloc [(.int .u32 0), (.int .u32 0), (.int .u32 0), (.int .u32 0), (.int .u32 0), (.int .u32 0), (.int .u32 0), (.int .u32 0)]⟩,
 ⟨none,none,.no,.store 8 (.t 4) (.t 27)⟩]
@[go_sem] def qar3 : List AIns := [
 ⟨some 28,none,.no,.mv (.t 0)⟩,
 ⟨some 29,none,.no,.call (.v (.fn 105 [])) [(.t 28)]⟩,
 ⟨some 5,none,.no,.mv (.t 29)⟩]
@[go_sem] def qar4 : List AIns := [
 ⟨some 6,none,.no,.alloc [(.int .u32 0), (.int .u32 0), (.int .u32 0), (.int .u32 0), (.int .u32 0), (.int .u32 0), (.int .u32 0), (.int .u32 0), (.int .u32 0), (.int .u32 0), (.int .u32 0), (.int .u32 0), (.int .u32 0), (.int .u32 0), (.int .u32 0), (.int .u32 0), (.int .u32 0), (.int .u32 0), (.int .u32 0), (.int .u32 0), (.int .u32 0), (.int .u32 0), (.int .u32 0), (.int .u32 0), (.int .u32 0), (.int .u32 0), (.int .u32 0), (.int .u32 0), (.int .u32 0), (.int .u32 0), (.int .u32 0), (.int .u32 0), (.int .u32 0), (.int .u32 0), (.int .u32 0), (.int .u32 0), (.int .u32 0), (.int .u32 0), (.int .u32 0), (.int .u32 0), (.int .u32 0), (.int .u32 0), (.int .u32 0), (.int .u32 0), (.int .u32 0), (.int .u32 0), (.int .u32 0), (.int .u32 0), (.int .u32 0), (.int .u32 0), (.int .u32 0), (.int .u32 0), (.int .u32 0), (.int .u32 0), (.int .u32 0), (.int .u32 0), (.int .u32 0), (.int .u32 0), (.int .u32 0), (.int .u32 0), (.int .u32 0), (.int .u32 0), (.int .u32 0), (.int .u32 0)]⟩]
@[go_sem] def qar5 : List AIns := [
 ⟨some 7,none,.no,.mv (.v (.int .i64 0))⟩]
@[go_sem] def qar6 : List AIns := [
 ⟨some 30,none,.no,.mv (.t 7)⟩,
 ⟨some 31,none,.no,.mv (.t 5)⟩,
 ⟨some 32,none,.no,.lenSl (.t 31)⟩,
 ⟨some 33,none,.no,.bin .lss .none (.t 30) (.t 32)⟩]
def qac7 : ACode := .cond (.t 33) .skip (.exit 0)
def qac8 : ACode := .seq (.reg qar6) qac7
@[go_sem] def qar9 : List AIns := [
 ⟨some 8,none,.no,.mv (.v (.int .i64 0))⟩]
@[go_sem] def qar10 : List AIns := [
 ⟨some 36,none,.no,.mv (.t 8)⟩,
 ⟨some 37,none,.no,.bin .lss .none (.t 36) (.v (.int .i64 16))⟩]
def qac11 : ACode := .cond (.t 37) .skip (.exit 2)
def qac12 : ACode := .seq (.reg qar10) qac11
@[go_sem] def qar13 : List AIns := [
 ⟨some 40,none,.no,.mv (.t 7)⟩,
 ⟨some 41,none,.no,.mv (.t 8)⟩,
 ⟨some 42,none,.no,.bin .mul .none (.v (.int .i64 4)) (.t 41)⟩,
 ⟨some 43,none,.no,.bin .add .none (.t 40) (.t 42)⟩,
 ⟨some 9,none,.no,.mv (.t 43)⟩]
@[go_sem] def qar14 : List AIns := [
 ⟨some 44,none,.no,.mv (.t 8)⟩,
 ⟨some 45,none,.no,.mv (.t 5)⟩,
 ⟨some 46,none,.no,.mv (.t 9)⟩,
 ⟨some 47,none,.no,.iaSl 1 (.t 45) (.t 46)⟩,
 ⟨some 48, none, .rd, .load false 1 (.t 47)⟩,
 ⟨some 49,none,.no,.conv (.int .u32) (.t 48)⟩,
 ⟨some 50,none,.no,.bin .shl .none (.t 49) (.v (.int .u64 24))⟩,
 ⟨some 51,none,.no,.mv (.t 5)⟩,
 ⟨some 52,none,.no,.mv (.t 9)⟩,
 ⟨some 53,none,.no,.bin .add .none (.t 52) (.v (.int .i64 1))⟩,
 ⟨some 54,none,.no,.iaSl 1 (.t 51) (.t 53)⟩,
 ⟨some 55, none, .rd, .load false 1 (.t 54)⟩,
 ⟨some 56,none,.no,.conv (.int .u32) (.t 55)⟩,
 ⟨some 57,none,.no,.bin .shl .none (.t 56) (.v (.int .u64 16))⟩,
 ⟨some 58,none,.no,.bin .add .none (.t 50) (.t 57)⟩,
 ⟨some 59,none,.no,.mv (.t 5)⟩,
 ⟨some 60,none,.no,.mv (.t 9)⟩,
 ⟨some 61,none,.no,.bin .add .none (.t 60) (.v (.int .i64 2))⟩,
 ⟨some 62,none,.no,.iaSl 1 (.t 59) (.t 61)⟩,
 ⟨some 63, none, .rd, .load false 1 (.t 62)⟩,
 ⟨some 64,none,.no,.conv (.int .u32) (.t 63)⟩,
 ⟨some 65,none,.no,.bin .shl .none (.t 64) (.v (.int .u64 8))⟩,
 ⟨some 66,none,.no,.bin .add .none (.t 58) (.t 65)⟩,
 ⟨some 67,none,.no,.mv (.t 5)⟩,
 ⟨some 68,none,.no,.mv (.t 9)⟩,
 ⟨some 69,none,.no,.bin .add .none (.t 68) (.v (.int .i64 3))⟩,
 ⟨some 70,none,.no,.iaSl 1 (.t 67) (.t 69)⟩,
 ⟨some 71, none, .rd, .load false 1 (.t 70)⟩,
 ⟨some 72,none,.no,.conv (.int .u32) (.t 71)⟩,
 ⟨some 73,none,.no,.bin .add .none (.t 66) (.t 72)⟩,
 ⟨some 74,none,.no,.iaArr 64 1 (.t 6) (.t 44)⟩,
 ⟨none,none,.no,.store 1 (.t 74) (.t 73)⟩]
def qac15 : ACode := .seq (.reg qar13) (.reg qar14)
@[go_sem] def qar16 : List AIns := [
 ⟨some 38,none,.no,.mv (.t 8)⟩,
 ⟨some 39,none,.no,.bin .add .none (.t 38) (.v (.int .i64 1))⟩,
 ⟨some 8,none,.no,.mv (.t 39)⟩]
def qac17 : ACode := .seq (.block 3 qac15) (.reg qar16)
def qac18 : ACode := .seq qac12 qac17
def qac19 : ACode := .loop qac18
def qac20 : ACode := .block 2 qac19
def qac21 : ACode := .seq (.reg qar9) qac20
@[go_sem] def qar22 : List AIns := [
 ⟨some 10,none,.no,.mv (.v (.int .i64 16))⟩]
@[go_sem] def qar23 : List AIns := [
 ⟨some 75,none,.no,.mv (.t 10)⟩,
 ⟨some 76,none,.no,.bin .lss .none (.t 75) (.v (.int .i64 64))⟩]
def qac24 : ACode := .cond (.t 76) .skip (.exit 4)
def qac25 : ACode := .seq (.reg qar23) qac24
@[go_sem] def qar26 : List AIns := [
 ⟨some 79,none,.no,.mv (.t 10)⟩,
 ⟨some 80,none,.no,.bin .sub .none (.t 79) (.v (.int .i64 15))⟩,
 ⟨some 81,none,.no,.iaArr 64 1 (.t 6) (.t 80)⟩,
 ⟨some 82, none, .rd, .load false 1 (.t 81)⟩,
 ⟨some 83,none,.no,.mv (.t 10)⟩,
 ⟨some 84,none,.no,.bin .sub .none (.t 83) (.v (.int .i64 2))⟩,
 ⟨some 85,none,.no,.iaArr 64 1 (.t 6) (.t 84)⟩,
 ⟨some 86, none, .rd, .load false 1 (.t 85)⟩,
 ⟨some 11,none,.no,.mv (.t 82)⟩,
 ⟨some 12,none,.no,.mv (.t 86)⟩]
@[go_sem] def qar27 : List AIns := [
 ⟨some 87,none,.no,.mv (.t 10)⟩,
 ⟨some 88,none,.no,.mv (.t 10)⟩,
 ⟨some 89,none,.no,.bin .sub .none (.t 88) (.v (.int .i64 16))⟩,
 ⟨some 90,none,.no,.iaArr 64 1 (.t 6) (.t 89)⟩,
 ⟨some 91, none, .rd, .load false 1 (.t 90)⟩,
 ⟨some 92,none,.no,.mv (.t 11)⟩,
 ⟨some 93, none, .ef, .call (.v (.fn 106 [])) [(.t 92), (.v (.int .u32 7))]⟩,
 ⟨some 94,none,.no,.mv (.t 11)⟩,
 ⟨some 95, none, .ef, .call (.v (.fn 106 [])) [(.t 94), (.v (.int .u32 18))]⟩,
 ⟨some 96,none,.no,.bin .xor .none (.t 93) (.t 95)⟩,
 ⟨some 97,none,.no,.mv (.t 11)⟩,
 ⟨some 98,none,.no,.bin .shr .none (.t 97) (.v (.int .u64 3))⟩,
 ⟨some 99,none,.no,.bin .xor .none (.t 96) (.t 98)⟩,
 ⟨some 100,none,.no,.bin .add .none (.t 91) (.t 99)⟩,
 ⟨some 101,none,.no,.mv (.t 10)⟩,
 ⟨some 102,none,.no,.bin .sub .none (.t 101) (.v (.int .i64 7))⟩,
 ⟨some 103,none,.no,.iaArr 64 1 (.t 6) (.t 102)⟩,
 ⟨some 104, none, .rd, .load false 1 (.t 103)⟩,
 ⟨some 105,none,.no,.bin .add .none (.t 100) (.t 104)⟩,
 ⟨some 106,none,.no,.mv (.t 12)⟩,
 ⟨some 107, none, .ef, .call (.v (.fn 106 [])) [(.t 106), (.v (.int .u32 17))]⟩,
 ⟨some 108,none,.no,.mv (.t 12)⟩,
 ⟨some 109, none, .ef, .call (.v (.fn 106 [])) [(.t 108), (.v (.int .u32 19))]⟩,
 ⟨some 110,none,.no,.bin .xor .none (.t 107) (.t 109)⟩,
 ⟨some 111,none,.no,.mv (.t 12)⟩,
 ⟨some 112,none,.no,.bin .shr .none (.t 111) (.v (.int .u64 10))⟩,
 ⟨some 113,none,.no,.bin .xor .none (.t 110) (.t 112)⟩,
 ⟨some 114,none,.no,.bin .add .none (.t 105) (.t 113)⟩,
 ⟨some 115,none,.no,.iaArr 64 1 (.t 6) (.t 87)⟩,
 ⟨none,none,.no,.store 1 (.t 115) (.t 114)⟩]
def qac28 : ACode := .seq (.reg qar26) (.reg qar27)
@[go_sem] def qar29 : List AIns := [
 ⟨some 77,none,.no,.mv (.t 10)⟩,
 ⟨some 78,none,.no,.bin .add .none (.t 77) (.v (.int .i64 1))⟩,
 ⟨some 10,none,.no,.mv (.t 78)⟩]
def qac30 : ACode := .seq (.block 5 qac28) (.reg qar29)
def qac31 : ACode := .seq qac25 qac30
def qac32 : ACode := .loop qac31
def qac33 : ACode := .block 4 qac32
def qac34 : ACode := .seq (.reg qar22) qac33
@[go_sem] def qar35 : List AIns := [
 ⟨some 116,none,.no,.iaArr 8 1 (.t 4) (.v (.int .i64 0))⟩,
 ⟨some 117, none, .rd, .load false 1 (.t 116)⟩,
 ⟨some 118,none,.no,.iaArr 8 1 (.t 4) (.v (.int .i64 1))⟩,
 ⟨some 119, none, .rd, .load false 1 (.t 118)⟩,
 ⟨some 120,none,.no,.iaArr 8 1 (.t 4) (.v (.int .i64 2))⟩,
 ⟨some 121, none, .rd, .load false 1 (.t 120)⟩,
 ⟨some 122,none,.no,.iaArr 8 1 (.t 4) (.v (.int .i64 3))⟩,
 ⟨some 123, none, .rd, .load false 1 (.t 122)⟩,
 ⟨some 124,none,.no,.iaArr 8 1 (.t 4) (.v (.int .i64 4))⟩,
 ⟨some 125, none, .rd, .load false 1 (.t 124)⟩,
 ⟨some 126,none,.no,.iaArr 8 1 (.t 4) (.v (.int .i64 5))⟩,
 ⟨some 127, none, .rd, .load false 1 (.t 126)⟩,
 ⟨some 128,none,.no,.iaArr 8 1 (.t 4) (.v (.int .i64 6))⟩,
 ⟨some 129, none, .rd, .load false 1 (.t 128)⟩,
 ⟨some 130,none,.no,.iaArr 8 1 (.t 4) (.v (.int .i64 7))⟩,
 ⟨some 131, none, .rd, .load false 1 (.t 130)⟩,
 ⟨some 13,none,.no,.mv (.t 117)⟩,
 ⟨some 14,none,.no,.mv (.t 119)⟩,
 ⟨some 15,none,.no,.mv (.t 121)⟩,
 ⟨some 16,none,.no,.mv (.t 123)⟩,
 ⟨some 17,none,.no,.mv (.t 125)⟩,
 ⟨some 18,none,.no,.mv (.t 127)⟩,
 ⟨some 19,none,.no,.mv (.t 129)⟩,
 ⟨some 20,none,.no,.mv (.t 131)⟩]
@[go_sem] def qar36 : List AIns := [
 ⟨some 21,none,.no,.mv (.v (.int .i64 0))⟩]
@[go_sem] def qar37 : List AIns := [
 ⟨some 132,none,.no,.mv (.t 21)⟩,
 ⟨some 133,none,.no,.bin .lss .none (.t 132) (.v (.int .i64 64))⟩]
def qac38 : ACode := .cond (.t 133) .skip (.exit 6)
def qac39 : ACode := .seq (.reg qar37) qac38
@[go_sem] def qar40 : List AIns := [
 ⟨some 136,none,.no,.mv (.t 20)⟩,
 ⟨some 137,none,.no,.mv (.t 17)⟩,
 ⟨some 138, none, .ef, .call (.v (.fn 106 [])) [(.t 137), (.v (.int .u32 6))]⟩,
 ⟨some 139,none,.no,.mv (.t 17)⟩,
 ⟨some 140, none, .ef, .call (.v (.fn 106 [])) [(.t 139), (.v (.int .u32 11))]⟩,
 ⟨some 141,none,.no,.bin .xor .none (.t 138) (.t 140)⟩,
 ⟨some 142,none,.no,.mv (.t 17)⟩,
 ⟨some 143, none, .ef, .call (.v (.fn 106 [])) [(.t 142), (.v (.int .u32 25))]⟩,
 ⟨some 144,none,.no,.bin .xor .none (.t 141) (.t 143)⟩,
 ⟨some 145,none,.no,.bin .add .none (.t 136) (.t 144)⟩,
 ⟨some 146,none,.no,.mv (.t 17)⟩,
 ⟨some 147,none,.no,.mv (.t 18)⟩,
 ⟨some 148,none,.no,.bin .and .none (.t 146) (.t 147)⟩,
 ⟨some 149,none,.no,.mv (.t 17)⟩,
 ⟨some 150,none,.no,.un .xor (.t 149)⟩,
 ⟨some 151,none,.no,.mv (.t 19)⟩,
 ⟨some 152,none,.no,.bin .and .none (.t 150) (.t 151)⟩,
 ⟨some 153,none,.no,.bin .xor .none (.t 148) (.t 152)⟩,
 ⟨some 154,none,.no,.bin .add .none (.t 145) (.t 153)⟩,
 ⟨some 155,none,.no,.mv (.t 21)⟩,
 ⟨some 156,none,.no,.iaArr 64 1 (.t 3) (.t 155)⟩,
 ⟨some 157, none, .rd, .load false 1 (.t 156)⟩,
 ⟨some 158,none,.no,.bin .add .none (.t 154) (.t 157)⟩,
 ⟨some 159,none,.no,.mv (.t 21)⟩,
 ⟨some 160,none,.no,.iaArr 64 1 (.t 6) (.t 159)⟩,
 ⟨some 161, none, .rd, .load false 1 (.t 160)⟩,
 ⟨some 162,none,.no,.bin .add .none (.t 158) (.t 161)⟩,
 ⟨some 22,none,.no,.mv (.t 162)⟩]
@[go_sem] def qar41 : List AIns := [
 ⟨some 163,none,.no,.mv (.t 13)⟩,
 ⟨some 164,none,.no,.call (.v (.fn 106 [])) [(.t 163), (.v (.int .u32 2))]⟩,
 ⟨some 165,none,.no,.mv (.t 13)⟩,
 ⟨some 166,none,.no,.call (.v (.fn 106 [])) [(.t 165), (.v (.int .u32 13))]⟩,
 ⟨some 167,none,.no,.bin .xor .none (.t 164) (.t 166)⟩,
 ⟨some 168,none,.no,.mv (.t 13)⟩,
 ⟨some 169,none,.no,.call (.v (.fn 106 [])) [(.t 168), (.v (.int .u32 22))]⟩,
 ⟨some 170,none,.no,.bin .xor .none (.t 167) (.t 169)⟩,
 ⟨some 171,none,.no,.mv (.t 13)⟩,
 ⟨some 172,none,.no,.mv (.t 14)⟩,
 ⟨some 173,none,.no,.bin .and .none (.t 171) (.t 172)⟩,
 ⟨some 174,none,.no,.mv (.t 13)⟩,
 ⟨some 175,none,.no,.mv (.t 15)⟩,
 ⟨some 176,none,.no,.bin .and .none (.t 174) (.t 175)⟩,
 ⟨some 177,none,.no,.bin .xor .none (.t 173) (.t 176)⟩,
 ⟨some 178,none,.no,.mv (.t 14)⟩,
 ⟨some 179,none,.no,.mv (.t 15)⟩,
 ⟨some 180,none,.no,.bin .and .none (.t 178) (.t 179)⟩,
 ⟨some 181,none,.no,.bin .xor .none (.t 177) (.t 180)⟩,
 ⟨some 182,none,.no,.bin .add .none (.t 170) (.t 181)⟩,
 ⟨some 23,none,.no,.mv (.t 182)⟩]
@[go_sem] def qar42 : List AIns := [
 ⟨some 183,none,.no,.mv (.t 19)⟩,
 ⟨some 184,none,.no,.mv (.t 18)⟩,
 ⟨some 185,none,.no,.mv (.t 17)⟩,
 ⟨some 186,none,.no,.mv (.t 16)⟩,
 ⟨some 187,none,.no,.mv (.t 22)⟩,
 ⟨some 188,none,.no,.bin .add .none (.t 186) (.t 187)⟩,
 ⟨some 189,none,.no,.mv (.t 15)⟩,
 ⟨some 190,none,.no,.mv (.t 14)⟩,
 ⟨some 191,none,.no,.mv (.t 13)⟩,
 ⟨some 192,none,.no,.mv (.t 22)⟩,
 ⟨some 193,none,.no,.mv (.t 23)⟩,
 ⟨some 194,none,.no,.bin .add .none (.t 192) (.t 193)⟩,
 ⟨some 20,none,.no,.mv (.t 183)⟩,
 ⟨some 19,none,.no,.mv (.t 184)⟩,
 ⟨some 18,none,.no,.mv (.t 185)⟩,
 ⟨some 17,none,.no,.mv (.t 188)⟩,
 ⟨some 16,none,.no,.mv (.t 189)⟩,
 ⟨some 15,none,.no,.mv (.t 190)⟩,
 ⟨some 14,none,.no,.mv (.t 191)⟩,
 ⟨some 13,none,.no,.mv (.t 194)⟩]
def qac43 : ACode := .seq (.reg qar41) (.reg qar42)
def qac44 : ACode := .seq (.reg qar40) qac43
@[go_sem] def qar45 : List AIns := [
 ⟨some 134,none,.no,.mv (.t 21)⟩,
 ⟨some 135,none,.no,.bin .add .none (.t 134) (.v (.int .i64 1))⟩,
 ⟨some 21,none,.no,.mv (.t 135)⟩]
def qac46 : ACode := .seq (.block 7 qac44) (.reg qar45)
def qac47 : ACode := .seq qac39 qac46
def qac48 : ACode := .loop qac47
def qac49 : ACode := .block 6 qac48
def qac50 : ACode := .seq (.reg qar36) qac49
@[go_sem] def qar51 : List AIns := [
 ⟨some 195,none,.no,.iaArr 8 1 (.t 4) (.v (.int .i64 0))⟩,
 ⟨some 196,none,.no,.load false 1 (.t 195)⟩,
 ⟨some 197,none,.no,.mv (.t 13)⟩,
 ⟨some 198,none,.no,.bin .add .none (.t 196) (.t 197)⟩,
 ⟨some 199,none,.no,.iaArr 8 1 (.t 4) (.v (.int .i64 1))⟩,
 ⟨some 200,none,.no,.load false 1 (.t 199)⟩,
 ⟨some 201,none,.no,.mv (.t 14)⟩,
 ⟨some 202,none,.no,.bin .add .none (.t 200) (.t 201)⟩,
 ⟨some 203,none,.no,.iaArr 8 1 (.t 4) (.v (.int .i64 2))⟩,
 ⟨some 204,none,.no,.load false 1 (.t 203)⟩,
 ⟨some 205,none,.no,.mv (.t 15)⟩,
 ⟨some 206,none,.no,.bin .add .none (.t 204) (.t 205)⟩,
 ⟨some 207,none,.no,.iaArr 8 1 (.t 4) (.v (.int .i64 3))⟩,
 ⟨some 208,none,.no,.load false 1 (.t 207)⟩,
 ⟨some 209,none,.no,.mv (.t 16)⟩,
 ⟨some 210,none,.no,.bin .add .none (.t 208) (.t 209)⟩,
 ⟨some 211,none,.no,.iaArr 8 1 (.t 4) (.v (.int .i64 4))⟩,
 ⟨some 212,none,.no,.load false 1 (.t 211)⟩,
 ⟨some 213,none,.no,.mv (.t 17)⟩,
 ⟨some 214,none,.no,.bin .add .none (.t 212) (.t 213)⟩,
 ⟨some 215,none,.no,.iaArr 8 1 (.t 4) (.v (.int .i64 5))⟩,
 ⟨some 216,none,.no,.load false 1 (.t 215)⟩,
 ⟨some 217,none,.no,.mv (.t 18)⟩,
 ⟨some 218,none,.no,.bin .add .none (.t 216) (.t 217)⟩,
 ⟨some 219,none,.no,.iaArr 8 1 (.t 4) (.v (.int .i64 6))⟩,
 ⟨some 220,none,.no,.load false 1 (.t 219)⟩,
 ⟨some 221,none,.no,.mv (.t 19)⟩,
 ⟨some 222,none,.no,.bin .add .none (.t 220) (.t 221)⟩,
 ⟨some 223,none,.no,.iaArr 8 1 (.t 4) (.v (.int .i64 7))⟩,
 ⟨some 224,none,.no,.load false 1 (.t 223)⟩,
 ⟨some 225,none,.no,.mv (.t 20)⟩,
 ⟨some 226,none,.no,.bin .add .none (.t 224) (.t 225)⟩,
 ⟨some 227,none,.no,.iaArr 8 1 (.t 4) (.v (.int .i64 0))⟩,
 ⟨none,none,.no,.store 1 (.t 227) (.t 198)⟩,
 ⟨some 228,none,.no,.iaArr 8 1 (.t 4) (.v (.int .i64 1))⟩,
 ⟨none,none,.no,.store 1 (.t 228) (.t 202)⟩,
 ⟨some 229,none,.no,.iaArr 8 1 (.t 4) (.v (.int .i64 2))⟩,
 ⟨none,none,.no,.store 1 (.t 229) (.t 206)⟩,
 ⟨some 230,none,.no,.iaArr 8 1 (.t 4) (.v (.int .i64 3))⟩,
 ⟨none,none,.no,.store 1 (.t 230) (.t 210)⟩,
 ⟨some 231,none,.no,.iaArr 8 1 (.t 4) (.v (.int .i64 4))⟩,
 ⟨none,none,.no,.store 1 (.t 231) (.t 214)⟩,
 ⟨some 232,none,.no,.iaArr 8 1 (.t 4) (.v (.int .i64 5))⟩,
 ⟨none,none,.no,.store 1 (.t 232) (.t 218)⟩,
 ⟨some 233,none,.no,.iaArr 8 1 (.t 4) (.v (.int .i64 6))⟩,
 ⟨none,none,.no,.store 1 (.t 233) (.t 222)⟩,
 ⟨some 234,none,.no,.iaArr 8 1 (.t 4) (.v (.int .i64 7))⟩,
 ⟨none,none,.no,.store 1 (.t 234) (.t 226)⟩]
def qac52 : ACode := .seq qac50 (.reg qar51)
def qac53 : ACode := .seq (.reg qar35) qac52
def qac54 : ACode := .seq qac34 qac53
def qac55 : ACode := .seq qac21 qac54
@[go_sem] def qar56 : List AIns := [
 ⟨some 34,none,.no,.mv (.t 7)⟩,
 ⟨some 35,none,.no,.bin .add .none (.t 34) (.v (.int .i64 64))⟩,
 ⟨some 7,none,.no,.mv (.t 35)⟩]
def qac57 : ACode := .seq (.block 1 qac55) (.reg qar56)
def qac58 : ACode := .seq qac8 qac57
def qac59 : ACode := .loop qac58
def qac60 : ACode := .block 0 qac59
def qac61 : ACode := .seq (.reg qar5) qac60
@[go_sem] def qar62 : List AIns := [
 ⟨some 24,none,.no,.alloc zZ0⟩]
@[go_sem] def qar63 : List AIns := [
 ⟨some 25,none,.no,.mv (.v (.int .i64 0))⟩]
@[go_sem] def qar64 : List AIns := [
 ⟨some 235,none,.no,.mv (.t 25)⟩,
 ⟨some 236,none,.no,.bin .lss .none (.t 235) (.v (.int .i64 32))⟩]
def qac65 : ACode := .cond (.t 236) .skip (.exit 8)
def qac66 : ACode := .seq (.reg qar64) qac65
@[go_sem] def qar67 : List AIns := [
 ⟨some 239,none,.no,.mv (.t 25)⟩,
 ⟨some 240,none,.no,.mv (.t 25)⟩,
 ⟨some 241,none,.no,.bin .quo .none (.t 240) (.v (.int .i64 4))⟩,
 ⟨some 242,none,.no,.iaArr 8 1 (.t 4) (.t 241)⟩,
 ⟨some 243,none,.no,.load false 1 (.t 242)⟩,
 ⟨some 244,none,.no,.mv (.t 25)⟩,
 ⟨some 245,none,.no,.bin .rem .none (.t 244) (.v (.int .i64 4))⟩,
 ⟨some 246,none,.no,.bin .mul .none (.v (.int .i64 8)) (.t 245)⟩,
 ⟨some 247,none,.no,.bin .sub .none (.v (.int .i64 24)) (.t 246)⟩,
 ⟨some 248,none,.no,.bin .shr .none (.t 243) (.t 247)⟩,
 ⟨some 249,none,.no,.conv (.int .u8) (.t 248)⟩,
 ⟨some 250,none,.no,.iaArr 32 1 (.t 24) (.t 239)⟩,
 ⟨none,none,.no,.store 1 (.t 250) (.t 249)⟩]
@[go_sem] def qar68 : List AIns := [
 ⟨some 237,none,.no,.mv (.t 25)⟩,
 ⟨some 238,none,.no,.bin .add .none (.t 237) (.v (.int .i64 1))⟩,
 ⟨some 25,none,.no,.mv (.t 238)⟩]
def qac69 : ACode := .seq (.block 9 (.reg qar67)) (.reg qar68)
def qac70 : ACode := .seq qac66 qac69
def qac71 : ACode := .loop qac70
def qac72 : ACode := .block 8 qac71
def qac73 : ACode := .seq (.reg qar63) qac72
@[go_sem] def qar74 : List AIns := [
 ⟨some 251,none,.no,.load true 32 (.t 24)⟩,
 ⟨none,none,.no,.store 32 (.t 2) (.t 251)⟩]
def qac75 : ACode := .seq (.reg qar74) .ret
def qac76 : ACode := .seq qac73 qac75
def qac77 : ACode := .seq (.reg qar62) qac76
def qac78 : ACode := .seq qac61 qac77
def qac79 : ACode := .seq (.reg qar4) qac78
def qac80 : ACode := .seq (.reg qar3) qac79
def qac81 : ACode := .seq (.reg qar2) qac80
def qac82 : ACode := .seq (.reg qar1) qac81
def qac83 : ACode := .seq (.reg qar0) qac82
theorem qaok : cFn TC 76 = some (252, [.c 2 true 32], qac83) := by kernel_rfl
@[go_sem] def qbr0 : List AIns := [
 ⟨some 2,none,.no,.alloc zZ0⟩]
@[go_sem] def qbr1 : List AIns := [
 ⟨some 8,none,.no,.load true 8 (.v (.vp zcb))⟩,
 ⟨some 3,none,.no,.alloc [(.int .u32 0), (.int .u32 0), (.int .u32 0), (.int .u32 0), (.int .u32 0), (.int .u32 0), (.int .u32 0), (.int .u32 0)]⟩,
 ⟨none,none,.no,.store 8 (.t 3) (.t 8)⟩]
@[go_sem] def qbr2 : List AIns := [
 ⟨some 9,none,.no,.mv (.t 0)⟩,
 ⟨some 10,none,.no,.call (.v (.fn 103 [])) [(.t 9)]⟩,
 ⟨some 4,none,.no,.mv (.t 10)⟩]
@[go_sem] def qbr3 : List AIns := [
 ⟨some 11,none,.no,.mv (.t 4)⟩,
 ⟨some 12,none,.no,.bin .neq .none (.t 11) (.v (.str []))⟩]
def qbc4 : ACode := .cond (.t 12) .skip (.exit 0)
def qbc5 : ACode := .seq (.reg qbr3) qbc4
@[go_sem] def qbr6 : List AIns := [
 ⟨some 15,none,.no,.load true 8 (.t 3)⟩,
 ⟨some 16,none,.no,.mv (.t 4)⟩,
 ⟨some 17,none,.no,.slice .str (.t 16) none (some (.v (.int .i64 64))) none⟩,
 ⟨some 18,none,.no,.call (.v (.fn 104 [])) [(.t 15), (.t 17)]⟩,
 ⟨none,none,.no,.store 8 (.t 3) (.t 18)⟩]
@[go_sem] def qbr7 : List AIns := [
 ⟨some 13,none,.no,.mv (.t 4)⟩,
 ⟨some 14,none,.no,.slice .str (.t 13) (some (.v (.int .i64 64))) none none⟩,
 ⟨some 4,none,.no,.mv (.t 14)⟩]
def qbc8 : ACode := .seq (.block 1 (.reg qbr6)) (.reg qbr7)
def qbc9 : ACode := .seq qbc5 qbc8
def qbc10 : ACode := .loop qbc9
def qbc11 : ACode := .block 0 qbc10
def qbc12 : ACode := .seq (.reg qbr2) qbc11
@[go_sem] def qbr13 : List AIns := [
 ⟨some 5,none,.no,.alloc zZ0⟩]
@[go_sem] def qbr14 : List AIns := [
 ⟨some 19,none,.no,.load true 8 (.t 3)⟩,
 ⟨some 20,none,.no,.mv (.v (.int .i64 0))⟩]
@[go_sem] def qbr15 : List AIns := [
 ⟨some 21,none,.no,.bin .lss .none (.t 20) (.v (.int .i64 8))⟩]
@[go_sem] def qbr16 : List AIns := [
 ⟨some 22,none,.no,.mv (.t 20)⟩,
 ⟨some 23,none,.no,.ixArr 8 false 1 (.t 19) (.t 20)⟩,
 ⟨some 6,none,.no,.mv (.t 22)⟩,
 ⟨some 7,none,.no,.mv (.t 23)⟩]
@[go_sem] def qbr17 : List AIns := [
 ⟨some 24,none,.no,.mv (.t 6)⟩,
 ⟨some 25,none,.no,.bin .mul .none (.v (.int .i64 4)) (.t 24)⟩,
 ⟨some 26,none,.no,.slice (.arr 32 1) (.t 5) (some (.t 25)) none none⟩,
 ⟨some 27,none,.no,.mv (.t 7)⟩,
 ⟨some 28,none,.no,.conv (.int .u64) (.t 27)⟩,
 ⟨some 29,none,.no,.call (.v (.fn 98 [])) [(.t 28), (.v (.int .i64 4))]⟩,
 ⟨some 30,none,.no,.copy 1 (.t 26) (.t 29)⟩]
def qbc18 : ACode := .seq (.reg qbr16) (.reg qbr17)
@[go_sem] def qbr19 : List AIns := [
 ⟨some 31,none,.no,.bin .add .none (.t 20) (.v (.int .i64 1))⟩,
 ⟨some 20,none,.no,.mv (.t 31)⟩]
def qbc20 : ACode := .seq (.block 3 qbc18) (.reg qbr19)
def qbc21 : ACode := .seq (.cond (.t 21) .skip (.exit 2)) qbc20
def qbc22 : ACode := .seq (.reg qbr15) qbc21
def qbc23 : ACode := .loop qbc22
def qbc24 : ACode := .block 2 qbc23
def qbc25 : ACode := .seq (.reg qbr14) qbc24
@[go_sem] def qbr26 : List AIns := [
 ⟨some 32,none,.no,.load true 32 (.t 5)⟩,
 ⟨none,none,.no,.store 32 (.t 2) (.t 32)⟩]
def qbc27 : ACode := .seq (.reg qbr26) .ret
def qbc28 : ACode := .seq qbc25 qbc27
def qbc29 : ACode := .seq (.reg qbr13) qbc28
def qbc30 : ACode := .seq qbc12 qbc29
def qbc31 : ACode := .seq (.reg qbr1) qbc30
def qbc32 : ACode := .seq (.reg qbr0) qbc31
theorem qbok : cFn TC 72 = some (33, [.c 2 true 32], qbc32) := by kernel_rfl
@[go_sem] def qcr0 : List AIns := [
 ⟨some 2,none,.no,.mv (.v .nilsl)⟩]
@[go_sem] def qcr1 : List AIns := [
 ⟨some 6,none,.no,.mv (.t 0)⟩,
 ⟨some 7,none,.no,.conv .bytes (.t 6)⟩,
 ⟨some 8,none,.no,.lit 1 [(.v (.int .u8 128))]⟩,
 ⟨some 9,none,.no,.appB (.t 7) (.t 8)⟩,
 ⟨some 3,none,.no,.mv (.t 9)⟩]
@[go_sem] def qcr2 : List AIns := [
 ⟨some 10,none,.no,.mv (.t 3)⟩,
 ⟨some 11,none,.no,.lenSl (.t 10)⟩,
 ⟨some 12,none,.no,.bin .rem .none (.t 11) (.v (.int .i64 64))⟩,
 ⟨some 13,none,.no,.bin .neq .none (.t 12) (.v (.int .i64 56))⟩]
def qcc3 : ACode := .cond (.t 13) .skip (.exit 0)
def qcc4 : ACode := .seq (.reg qcr2) qcc3
@[go_sem] def qcr5 : List AIns := [
 ⟨some 14,none,.no,.mv (.t 3)⟩,
 ⟨some 15,none,.no,.lit 1 [(.v (.int .u8 0))]⟩,
 ⟨some 16,none,.no,.appB (.t 14) (.t 15)⟩,
 ⟨some 3,none,.no,.mv (.t 16)⟩]
def qcc6 : ACode := .block 1 (.reg qcr5)
def qcc7 : ACode := .seq qcc4 qcc6
def qcc8 : ACode := .loop qcc7
@[go_sem] def qcr9 : List AIns := [
 ⟨some 17,none,.no,.mv (.t 0)⟩,
 ⟨some 18,none,.no,.lenStr (.t 17)⟩,
 ⟨some 19,none,.no,.conv (.int .u64) (.t 18)⟩,
 ⟨some 20,none,.no,.bin .mul .none (.t 19) (.v (.int .u64 8))⟩,
 ⟨some 4,none,.no,.mv (.t 20)⟩]
@[go_sem] def qcr10 : List AIns := [
 ⟨some 5,none,.no,.mv (.v (.int .i64 7))⟩]
@[go_sem] def qcr11 : List AIns := [
 ⟨some 21,none,.no,.mv (.t 5)⟩,
 ⟨some 22,none,.no,.bin .geq .none (.t 21) (.v (.int .i64 0))⟩]
def qcc12 : ACode := .cond (.t 22) .skip (.exit 2)
def qcc13 : ACode := .seq (.reg qcr11) qcc12
@[go_sem] def qcr14 : List AIns := [
 ⟨some 25,none,.no,.mv (.t 3)⟩,
 ⟨some 26,none,.no,.mv (.t 4)⟩,
 ⟨some 27,none,.no,.mv (.t 5)⟩,
 ⟨some 28,none,.no,.bin .mul .none (.v (.int .i64 8)) (.t 27)⟩,
 ⟨some 29,none,.no,.bin .shr .none (.t 26) (.t 28)⟩,
 ⟨some 30,none,.no,.conv (.int .u8) (.t 29)⟩,
 ⟨some 31,none,.no,.lit 1 [(.t 30)]⟩,
 ⟨some 32,none,.no,.appB (.t 25) (.t 31)⟩,
 ⟨some 3,none,.no,.mv (.t 32)⟩]
@[go_sem] def qcr15 : List AIns := [
 ⟨some 23,none,.no,.mv (.t 5)⟩,
 ⟨some 24,none,.no,.bin .sub .none (.t 23) (.v (.int .i64 1))⟩,
 ⟨some 5,none,.no,.mv (.t 24)⟩]
def qcc16 : ACode := .seq (.block 3 (.reg qcr14)) (.reg qcr15)
def qcc17 : ACode := .seq qcc13 qcc16
def qcc18 : ACode := .loop qcc17
def qcc19 : ACode := .block 2 qcc18
def qcc20 : ACode := .seq (.reg qcr10) qcc19
@[go_sem] def qcr21 : List AIns := [
 ⟨some 33,none,.no,.mv (.t 3)⟩,
 ⟨some 2,none,.no,.mv (.t 33)⟩]
def qcc22 : ACode := .seq (.reg qcr21) .ret
def qcc23 : ACode := .seq qcc20 qcc22
def qcc24 : ACode := .seq (.reg qcr9) qcc23
def qcc25 : ACode := .seq (.block 0 qcc8) qcc24
def qcc26 : ACode := .seq (.reg qcr1) qcc25
def qcc27 : ACode := .seq (.reg qcr0) qcc26
theorem qcok : cFn TC 105 = some (34, [.t 2], qcc27) := by kernel_rfl
@[go_sem] def qdr0 : List AIns := [
 ⟨some 4,none,.no,.mv (.v (.int .u32 0))⟩]
@[go_sem] def qdr1 : List AIns := [
 ⟨some 5,none,.no,.mv (.t 0)⟩,
 ⟨some 6,none,.no,.mv (.t 1)⟩,
 ⟨some 7,none,.no,.bin .shr .none (.t 5) (.t 6)⟩,
 ⟨some 8,none,.no,.mv (.t 0)⟩,
 ⟨some 9,none,.no,.mv (.t 1)⟩,
 ⟨some 10,none,.no,.bin .sub .none (.v (.int .u32 32)) (.t 9)⟩,
 ⟨some 11,none,.no,.bin .shl .none (.t 8) (.t 10)⟩,
 ⟨some 12,none,.no,.bin .or .none (.t 7) (.t 11)⟩,
 ⟨some 4,none,.no,.mv (.t 12)⟩]
def qdc2 : ACode := .seq (.reg qdr1) .ret
def qdc3 : ACode := .seq (.reg qdr0) qdc2
theorem qdok : cFn TC 106 = some (13, [.t 4], qdc3) := by kernel_rfl
@[go_sem] def qer0 : List AIns := [
 ⟨some 2,none,.no,.mv (.v (.str []))⟩]
@[go_sem] def qer1 : List AIns := [
 ⟨some 4,none,.no,.mv (.t 0)⟩,
 ⟨some 5,none,.no,.lenStr (.t 4)⟩,
 ⟨some 6,none,.no,.bin .rem .none (.t 5) (.v (.int .i64 64))⟩,
 ⟨some 7,none,.no,.bin .sub .none (.v (.int .i64 119)) (.t 6)⟩,
 ⟨some 8,none,.no,.bin .rem .none (.t 7) (.v (.int .i64 64))⟩,
 ⟨some 3,none,.no,.mv (.t 8)⟩]
@[go_sem] def qer2 : List AIns := [
 ⟨some 9,none,.no,.mv (.t 0)⟩,
 ⟨some 10,none,.no,.bin .add .none (.t 9) (.v (.str [128]))⟩,
 ⟨some 11,none,.no,.mv (.t 3)⟩,
 ⟨some 12,none,.no,.call (.v (.fn 121 [])) [(.v (.str [0])), (.t 11)]⟩,
 ⟨some 13,none,.no,.bin .add .none (.t 10) (.t 12)⟩,
 ⟨some 14,none,.no,.mv (.t 0)⟩,
 ⟨some 15,none,.no,.lenStr (.t 14)⟩,
 ⟨some 16,none,.no,.conv (.int .u64) (.t 15)⟩,
 ⟨some 17,none,.no,.bin .mul .none (.t 16) (.v (.int .u64 8))⟩,
 ⟨some 18,none,.no,.call (.v (.fn 98 [])) [(.t 17), (.v (.int .i64 8))]⟩,
 ⟨some 19,none,.no,.bin .add .none (.t 13) (.t 18)⟩,
 ⟨some 2,none,.no,.mv (.t 19)⟩]
def qec3 : ACode := .seq (.reg qer2) .ret
def qec4 : ACode := .seq (.reg qer1) qec3
def qec5 : ACode := .seq (.reg qer0) qec4
theorem qeok : cFn TC 103 = some (20, [.t 2], qec5) := by kernel_rfl
@[go_sem] def qfr0 : List AIns := [
 ⟨some 2,none,.no,.box (.t 0)⟩,
 ⟨some 4,none,.no,.alloc [(.int .u32 0), (.int .u32 0), (.int .u32 0), (.int .u32 0), (.int .u32 0), (.int .u32 0), (.int .u32 0), (.int .u32 0)]⟩]
@[go_sem] def qfr1 : List AIns := [
 ⟨some 13,none,.no,.load true 8 (.t 2)⟩,
 ⟨some 5,none,.no,.alloc [(.int .u32 0), (.int .u32 0), (.int .u32 0), (.int .u32 0), (.int .u32 0), (.int .u32 0), (.int .u32 0), (.int .u32 0)]⟩,
 ⟨none,none,.no,.store 8 (.t 5) (.t 13)⟩]
@[go_sem] def qfr2 : List AIns := [
 ⟨some 14,none,.no,.mv (.t 1)⟩,
 ⟨some 15,none,.no,.call (.v (.fn 122 [])) [(.t 14)]⟩,
 ⟨some 16,none,.no,.mv (.v (.int .i64 0))⟩]
@[go_sem] def qfr3 : List AIns := [
 ⟨some 17,none,.no,.bin .lss .none (.t 16) (.v (.int .i64 64))⟩]
@[go_sem] def qfr4 : List AIns := [
 ⟨some 18,none,.no,.mv (.t 16)⟩,
 ⟨some 19,none,.no,.ixArr 64 false 1 (.t 15) (.t 16)⟩,
 ⟨some 6,none,.no,.mv (.t 18)⟩,
 ⟨some 7,none,.no,.mv (.t 19)⟩]
@[go_sem] def qfr5 : List AIns := [
 ⟨some 20,none,.no,.iaArr 8 1 (.t 5) (.v (.int .i64 0))⟩,
 ⟨some 21, none, .rd, .load false 1 (.t 20)⟩,
 ⟨some 22,none,.no,.iaArr 8 1 (.t 5) (.v (.int .i64 4))⟩,
 ⟨some 23, none, .rd, .load false 1 (.t 22)⟩,
 ⟨some 8,none,.no,.mv (.t 21)⟩,
 ⟨some 9,none,.no,.mv (.t 23)⟩]
@[go_sem] def qfr6 : List AIns := [
 ⟨some 24,none,.no,.iaArr 8 1 (.t 5) (.v (.int .i64 7))⟩,
 ⟨some 25, none, .rd, .load false 1 (.t 24)⟩,
 ⟨some 26,none,.no,.mv (.t 9)⟩,
 ⟨some 27, none, .ef, .call (.v (.fn 123 [])) [(.t 26), (.v (.int .i64 6))]⟩,
 ⟨some 28,none,.no,.mv (.t 9)⟩,
 ⟨some 29, none, .ef, .call (.v (.fn 123 [])) [(.t 28), (.v (.int .i64 11))]⟩,
 ⟨some 30,none,.no,.bin .xor .none (.t 27) (.t 29)⟩,
 ⟨some 31,none,.no,.mv (.t 9)⟩,
 ⟨some 32, none, .ef, .call (.v (.fn 123 [])) [(.t 31), (.v (.int .i64 25))]⟩,
 ⟨some 33,none,.no,.bin .xor .none (.t 30) (.t 32)⟩,
 ⟨some 34,none,.no,.bin .add .none (.t 25) (.t 33)⟩,
 ⟨some 35,none,.no,.mv (.t 9)⟩,
 ⟨some 36,none,.no,.iaArr 8 1 (.t 5) (.v (.int .i64 5))⟩,
 ⟨some 37, none, .rd, .load false 1 (.t 36)⟩,
 ⟨some 38,none,.no,.bin .and .none (.t 35) (.t 37)⟩,
 ⟨some 39,none,.no,.mv (.t 9)⟩,
 ⟨some 40,none,.no,.un .xor (.t 39)⟩,
 ⟨some 41,none,.no,.iaArr 8 1 (.t 5) (.v (.int .i64 6))⟩,
 ⟨some 42, none, .rd, .load false 1 (.t 41)⟩,
 ⟨some 43,none,.no,.bin .and .none (.t 40) (.t 42)⟩,
 ⟨some 44,none,.no,.bin .xor .none (.t 38) (.t 43)⟩,
 ⟨some 45,none,.no,.bin .add .none (.t 34) (.t 44)⟩,
 ⟨some 46,none,.no,.mv (.t 6)⟩,
 ⟨some 47,none,.no,.iaArr 64 1 (.v (.vp gl_sha_rounds)) (.t 46)⟩,
 ⟨some 48, none, .rd, .load false 1 (.t 47)⟩,
 ⟨some 49,none,.no,.bin .add .none (.t 45) (.t 48)⟩,
 ⟨some 50,none,.no,.mv (.t 7)⟩,
 ⟨some 51,none,.no,.bin .add .none (.t 49) (.t 50)⟩,
 ⟨some 10,none,.no,.mv (.t 51)⟩]
@[go_sem] def qfr7 : List AIns := [
 ⟨some 52,none,.no,.mv (.t 8)⟩,
 ⟨some 53, none, .ef, .call (.v (.fn 123 [])) [(.t 52), (.v (.int .i64 2))]⟩,
 ⟨some 54,none,.no,.mv (.t 8)⟩,
 ⟨some 55, none, .ef, .call (.v (.fn 123 [])) [(.t 54), (.v (.int .i64 13))]⟩,
 ⟨some 56,none,.no,.bin .xor .none (.t 53) (.t 55)⟩,
 ⟨some 57,none,.no,.mv (.t 8)⟩,
 ⟨some 58, none, .ef, .call (.v (.fn 123 [])) [(.t 57), (.v (.int .i64 22))]⟩,
 ⟨some 59,none,.no,.bin .xor .none (.t 56) (.t 58)⟩,
 ⟨some 60,none,.no,.mv (.t 8)⟩,
 ⟨some 61,none,.no,.iaArr 8 1 (.t 5) (.v (.int .i64 1))⟩,
 ⟨some 62, none, .rd, .load false 1 (.t 61)⟩,
 ⟨some 63,none,.no,.bin .and .none (.t 60) (.t 62)⟩,
 ⟨some 64,none,.no,.mv (.t 8)⟩,
 ⟨some 65,none,.no,.iaArr 8 1 (.t 5) (.v (.int .i64 2))⟩,
 ⟨some 66, none, .rd, .load false 1 (.t 65)⟩,
 ⟨some 67,none,.no,.bin .and .none (.t 64) (.t 66)⟩,
 ⟨some 68,none,.no,.bin .xor .none (.t 63) (.t 67)⟩,
 ⟨some 69,none,.no,.iaArr 8 1 (.t 5) (.v (.int .i64 1))⟩,
 ⟨some 70, none, .rd, .load false 1 (.t 69)⟩,
 ⟨some 71,none,.no,.iaArr 8 1 (.t 5) (.v (.int .i64 2))⟩,
 ⟨some 72, none, .rd, .load false 1 (.t 71)⟩,
 ⟨some 73,none,.no,.bin .and .none (.t 70) (.t 72)⟩,
 ⟨some 74,none,.no,.bin .xor .none (.t 68) (.t 73)⟩,
 ⟨some 75,none,.no,.bin .add .none (.t 59) (.t 74)⟩,
 ⟨some 11,none,.no,.mv (.t 75)⟩]
@[go_sem] def qfr8 : List AIns := [
 ⟨some 76,none,.no,.mv (.t 10)⟩,
 ⟨some 77,none,.no,.mv (.t 11)⟩,
 ⟨some 78,none,.no,.bin .add .none (.t 76) (.t 77)⟩,
 ⟨some 79,none,.no,.mv (.t 8)⟩,
 ⟨some 80,none,.no,.iaArr 8 1 (.t 5) (.v (.int .i64 1))⟩,
 ⟨some 81,none,.no,.load false 1 (.t 80)⟩,
 ⟨some 82,none,.no,.iaArr 8 1 (.t 5) (.v (.int .i64 2))⟩,
 ⟨some 83,none,.no,.load false 1 (.t 82)⟩,
 ⟨some 84,none,.no,.iaArr 8 1 (.t 5) (.v (.int .i64 3))⟩,
 ⟨some 85,none,.no,.load false 1 (.t 84)⟩,
 ⟨some 86,none,.no,.mv (.t 10)⟩,
 ⟨some 87,none,.no,.bin .add .none (.t 85) (.t 86)⟩,
 ⟨some 88,none,.no,.mv (.t 9)⟩,
 ⟨some 89,none,.no,.iaArr 8 1 (.t 5) (.v (.int .i64 5))⟩,
 ⟨some 90,none,.no,.load false 1 (.t 89)⟩,
 ⟨some 91,none,.no,.iaArr 8 1 (.t 5) (.v (.int .i64 6))⟩,
 ⟨some 92,none,.no,.load false 1 (.t 91)⟩,
 ⟨some 93,none,.no,.build [(.int .u32 0), (.int .u32 0), (.int .u32 0), (.int .u32 0), (.int .u32 0), (.int .u32 0), (.int .u32 0), (.int .u32 0)] [(0, 1, (.t 78)), (1, 1, (.t 79)), (2, 1, (.t 81)), (3, 1, (.t 83)), (4, 1, (.t 87)), (5, 1, (.t 88)), (6, 1, (.t 90)), (7, 1, (.t 92))]⟩,
 ⟨none,none,.no,.store 8 (.t 5) (.t 93)⟩]
def qfc9 : ACode := .seq (.reg qfr7) (.reg qfr8)
def qfc10 : ACode := .seq (.reg qfr6) qfc9
def qfc11 : ACode := .seq (.reg qfr5) qfc10
def qfc12 : ACode := .seq (.reg qfr4) qfc11
@[go_sem] def qfr13 : List AIns := [
 ⟨some 94,none,.no,.bin .add .none (.t 16) (.v (.int .i64 1))⟩,
 ⟨some 16,none,.no,.mv (.t 94)⟩]
def qfc14 : ACode := .seq (.block 1 qfc12) (.reg qfr13)
def qfc15 : ACode := .seq (.cond (.t 17) .skip (.exit 0)) qfc14
def qfc16 : ACode := .seq (.reg qfr3) qfc15
def qfc17 : ACode := .loop qfc16
def qfc18 : ACode := .block 0 qfc17
def qfc19 : ACode := .seq (.reg qfr2) qfc18
@[go_sem] def qfr20 : List AIns := [
 ⟨some 95,none,.no,.mv (.v (.int .i64 0))⟩]
@[go_sem] def qfr21 : List AIns := [
 ⟨some 96,none,.no,.bin .lss .none (.t 95) (.v (.int .i64 8))⟩]
@[go_sem] def qfr22 : List AIns := [
 ⟨some 97,none,.no,.mv (.t 95)⟩,
 ⟨some 12,none,.no,.mv (.t 97)⟩]
@[go_sem] def qfr23 : List AIns := [
 ⟨some 98,none,.no,.mv (.t 12)⟩,
 ⟨some 99,none,.no,.iaArr 8 1 (.t 5) (.t 98)⟩,
 ⟨some 100, none, .rd, .load false 1 (.t 99)⟩,
 ⟨some 101,none,.no,.mv (.t 12)⟩,
 ⟨some 102,none,.no,.iaArr 8 1 (.t 2) (.t 101)⟩,
 ⟨some 103, none, .rd, .load false 1 (.t 102)⟩,
 ⟨some 104,none,.no,.bin .add .none (.t 100) (.t 103)⟩,
 ⟨some 105,none,.no,.iaArr 8 1 (.t 5) (.t 98)⟩,
 ⟨none,none,.no,.store 1 (.t 105) (.t 104)⟩]
def qfc24 : ACode := .seq (.reg qfr22) (.reg qfr23)
@[go_sem] def qfr25 : List AIns := [
 ⟨some 106,none,.no,.bin .add .none (.t 95) (.v (.int .i64 1))⟩,
 ⟨some 95,none,.no,.mv (.t 106)⟩]
def qfc26 : ACode := .seq (.block 3 qfc24) (.reg qfr25)
def qfc27 : ACode := .seq (.cond (.t 96) .skip (.exit 2)) qfc26
def qfc28 : ACode := .seq (.reg qfr21) qfc27
def qfc29 : ACode := .loop qfc28
def qfc30 : ACode := .block 2 qfc29
def qfc31 : ACode := .seq (.reg qfr20) qfc30
@[go_sem] def qfr32 : List AIns := [
 ⟨some 107,none,.no,.load true 8 (.t 5)⟩,
 ⟨none,none,.no,.store 8 (.t 4) (.t 107)⟩]
def qfc33 : ACode := .seq (.reg qfr32) .ret
def qfc34 : ACode := .seq qfc31 qfc33
def qfc35 : ACode := .seq qfc19 qfc34
def qfc36 : ACode := .seq (.reg qfr1) qfc35
def qfc37 : ACode := .seq (.reg qfr0) qfc36
theorem qfok : cFn TC 104 = some (108, [.c 4 true 8], qfc37) := by kernel_rfl
@[go_sem] def qgr0 : List AIns := [
 ⟨some 2,none,.no,.alloc [(.int .u32 0), (.int .u32 0), (.int .u32 0), (.int .u32 0), (.int .u32 0), (.int .u32 0), (.int .u32 0), (.int .u32 0), (.int .u32 0), (.int .u32 0), (.int .u32 0), (.int .u32 0), (.int .u32 0), (.int .u32 0), (.int .u32 0), (.int .u32 0), (.int .u32 0), (.int .u32 0), (.int .u32 0), (.int .u32 0), (.int .u32 0), (.int .u32 0), (.int .u32 0), (.int .u32 0), (.int .u32 0), (.int .u32 0), (.int .u32 0), (.int .u32 0), (.int .u32 0), (.int .u32 0), (.int .u32 0), (.int .u32 0), (.int .u32 0), (.int .u32 0), (.int .u32 0), (.int .u32 0), (.int .u32 0), (.int .u32 0), (.int .u32 0), (.int .u32 0), (.int .u32 0), (.int .u32 0), (.int .u32 0), (.int .u32 0), (.int .u32 0), (.int .u32 0), (.int .u32 0), (.int .u32 0), (.int .u32 0), (.int .u32 0), (.int .u32 0), (.int .u32 0), (.int .u32 0), (.int .u32 0), (.int .u32 0), (.int .u32 0), (.int .u32 0), (.int .u32 0), (.int .u32 0), (.int .u32 0), (.int .u32 0), (.int .u32 0), (.int .u32 0), (.int .u32 0)]⟩]
@[go_sem] def qgr1 : List AIns := [
 ⟨some 6,none,.no,.mv (.v (.int .i64 0))⟩]
@[go_sem] def qgr2 : List AIns := [
 ⟨some 7,none,.no,.bin .lss .none (.t 6) (.v (.int .i64 64))⟩]
@[go_sem] def qgr3 : List AIns := [
 ⟨some 8,none,.no,.mv (.t 6)⟩,
 ⟨some 3,none,.no,.mv (.t 8)⟩]
@[go_sem] def qgr4 : List AIns := [
 ⟨some 9,none,.no,.mv (.t 3)⟩,
 ⟨some 10,none,.no,.bin .lss .none (.t 9) (.v (.int .i64 16))⟩]
@[go_sem] def qgr5 : List AIns := [
 ⟨some 11,none,.no,.mv (.t 3)⟩,
 ⟨some 12,none,.no,.mv (.t 0)⟩,
 ⟨some 13,none,.no,.mv (.t 3)⟩,
 ⟨some 14,none,.no,.bin .mul .none (.v (.int .i64 4)) (.t 13)⟩,
 ⟨some 15,none,.no,.mv (.t 3)⟩,
 ⟨some 16,none,.no,.bin .mul .none (.v (.int .i64 4)) (.t 15)⟩,
 ⟨some 17,none,.no,.bin .add .none (.t 16) (.v (.int .i64 4))⟩,
 ⟨some 18,none,.no,.slice .str (.t 12) (some (.t 14)) (some (.t 17)) none⟩,
 ⟨some 19,none,.no,.call (.v (.fn 134 [])) [(.t 18)]⟩,
 ⟨some 20,none,.no,.conv (.int .u32) (.t 19)⟩,
 ⟨some 21,none,.no,.iaArr 64 1 (.t 2) (.t 11)⟩,
 ⟨none,none,.no,.store 1 (.t 21) (.t 20)⟩]
def qgc6 : ACode := .seq (.reg qgr5) (.exit 1)
def qgc7 : ACode := .cond (.t 10) qgc6 .skip
def qgc8 : ACode := .seq (.reg qgr4) qgc7
@[go_sem] def qgr9 : List AIns := [
 ⟨some 22,none,.no,.mv (.t 3)⟩,
 ⟨some 23,none,.no,.bin .sub .none (.t 22) (.v (.int .i64 15))⟩,
 ⟨some 24,none,.no,.iaArr 64 1 (.t 2) (.t 23)⟩,
 ⟨some 25, none, .rd, .load false 1 (.t 24)⟩,
 ⟨some 26,none,.no,.mv (.t 3)⟩,
 ⟨some 27,none,.no,.bin .sub .none (.t 26) (.v (.int .i64 2))⟩,
 ⟨some 28,none,.no,.iaArr 64 1 (.t 2) (.t 27)⟩,
 ⟨some 29, none, .rd, .load false 1 (.t 28)⟩,
 ⟨some 4,none,.no,.mv (.t 25)⟩,
 ⟨some 5,none,.no,.mv (.t 29)⟩]
@[go_sem] def qgr10 : List AIns := [
 ⟨some 30,none,.no,.mv (.t 3)⟩,
 ⟨some 31,none,.no,.mv (.t 3)⟩,
 ⟨some 32,none,.no,.bin .sub .none (.t 31) (.v (.int .i64 16))⟩,
 ⟨some 33,none,.no,.iaArr 64 1 (.t 2) (.t 32)⟩,
 ⟨some 34, none, .rd, .load false 1 (.t 33)⟩,
 ⟨some 35,none,.no,.mv (.t 3)⟩,
 ⟨some 36,none,.no,.bin .sub .none (.t 35) (.v (.int .i64 7))⟩,
 ⟨some 37,none,.no,.iaArr 64 1 (.t 2) (.t 36)⟩,
 ⟨some 38, none, .rd, .load false 1 (.t 37)⟩,
 ⟨some 39,none,.no,.bin .add .none (.t 34) (.t 38)⟩,
 ⟨some 40,none,.no,.mv (.t 4)⟩,
 ⟨some 41, none, .ef, .call (.v (.fn 123 [])) [(.t 40), (.v (.int .i64 7))]⟩,
 ⟨some 42,none,.no,.mv (.t 4)⟩,
 ⟨some 43, none, .ef, .call (.v (.fn 123 [])) [(.t 42), (.v (.int .i64 18))]⟩,
 ⟨some 44,none,.no,.bin .xor .none (.t 41) (.t 43)⟩,
 ⟨some 45,none,.no,.mv (.t 4)⟩,
 ⟨some 46,none,.no,.bin .shr .none (.t 45) (.v (.int .u64 3))⟩,
 ⟨some 47,none,.no,.bin .xor .none (.t 44) (.t 46)⟩,
 ⟨some 48,none,.no,.bin .add .none (.t 39) (.t 47)⟩,
 ⟨some 49,none,.no,.mv (.t 5)⟩,
 ⟨some 50, none, .ef, .call (.v (.fn 123 [])) [(.t 49), (.v (.int .i64 17))]⟩,
 ⟨some 51,none,.no,.mv (.t 5)⟩,
 ⟨some 52, none, .ef, .call (.v (.fn 123 [])) [(.t 51), (.v (.int .i64 19))]⟩,
 ⟨some 53,none,.no,.bin .xor .none (.t 50) (.t 52)⟩,
 ⟨some 54,none,.no,.mv (.t 5)⟩,
 ⟨some 55,none,.no,.bin .shr .none (.t 54) (.v (.int .u64 10))⟩,
 ⟨some 56,none,.no,.bin .xor .none (.t 53) (.t 55)⟩,
 ⟨some 57,none,.no,.bin .add .none (.t 48) (.t 56)⟩,
 ⟨some 58,none,.no,.iaArr 64 1 (.t 2) (.t 30)⟩,
 ⟨none,none,.no,.store 1 (.t 58) (.t 57)⟩]
def qgc11 : ACode := .seq (.reg qgr9) (.reg qgr10)
def qgc12 : ACode := .seq qgc8 qgc11
def qgc13 : ACode := .seq (.reg qgr3) qgc12
@[go_sem] def qgr14 : List AIns := [
 ⟨some 59,none,.no,.bin .add .none (.t 6) (.v (.int .i64 1))⟩,
 ⟨some 6,none,.no,.mv (.t 59)⟩]
def qgc15 : ACode := .seq (.block 1 qgc13) (.reg qgr14)
def qgc16 : ACode := .seq (.cond (.t 7) .skip (.exit 0)) qgc15
def qgc17 : ACode := .seq (.reg qgr2) qgc16
def qgc18 : ACode := .loop qgc17
def qgc19 : ACode := .block 0 qgc18
def qgc20 : ACode := .seq (.reg qgr1) qgc19
@[go_sem] def qgr21 : List AIns := [
 ⟨some 60,none,.no,.load true 64 (.t 2)⟩,
 ⟨none,none,.no,.store 64 (.t 2) (.t 60)⟩]
def qgc22 : ACode := .seq (.reg qgr21) .ret
def qgc23 : ACode := .seq qgc20 qgc22
def qgc24 : ACode := .seq (.reg qgr0) qgc23
theorem qgok : cFn TC 122 = some (61, [.c 2 true 64], qgc24) := by kernel_rfl
end
section
abbrev W := BitVec 32
def wc (x : W) : AV := .int .u32 x.toNat
def ws (l : List W) : List AV := l.map wc
def ss0 (x : W) : W := (x.rotateLeft 25 ^^^ x.rotateLeft 14) ^^^ x >>> 3
def ss1 (y : W) : W := (y.rotateLeft 15 ^^^ y.rotateLeft 13) ^^^ y >>> 10
def bs1 (e : W) : W := (e.rotateLeft 26 ^^^ e.rotateLeft 21) ^^^ e.rotateLeft 7
def bs0 (a : W) : W := (a.rotateLeft 30 ^^^ a.rotateLeft 19) ^^^ a.rotateLeft 10
def chW (e f g : W) : W := (e &&& f) ^^^ (~~~e &&& g)
def majW (a b c : W) : W := ((a &&& b) ^^^ (a &&& c)) ^^^ (b &&& c)
def zn (s : List UInt8) (i : Nat) : W := BitVec.ofNat 32 (getS ((s.drop (4 * i)).take 4))
def wat (w : List W) (i : Nat) : W := w.getD i 0
def z2m (s : List UInt8) (w : List W) : W :=
 if w.length < 16 then zn s w.length else wat w (w.length - 16) + wat w (w.length - 7) + ss0 (wat w (w.length - 15)) + ss1 (wat w (w.length - 2))
def zy (s : List UInt8) : Nat -> List W
 | 0 => []
 | n + 1 => zy s n ++ [z2m s (zy s n)]
structure V8 where
 a : W
 b : W
 c : W
 d : W
 e : W
 f : W
 g : W
 h : W
def V8.l (v : V8) : List W := [v.a, v.b, v.c, v.d, v.e, v.f, v.g, v.h]
def rnd (v : V8) (k w : W) : V8 :=
 ⟨(v.h + bs1 v.e + chW v.e v.f v.g + k + w) + (bs0 v.a + majW v.a v.b v.c), v.a, v.b, v.c, v.d + (v.h + bs1 v.e + chW v.e v.f v.g + k + w), v.e, v.f, v.g⟩
def kAt (n : Nat) : W := BitVec.ofInt 32 (shaRounds.getD n 0)
def rnds (s : List UInt8) (v : V8) : Nat -> V8
 | 0 => v
 | n + 1 => rnd (rnds s v n) (kAt n) (wat (zy s 64) n)
def V8.add (v u : V8) : V8 := ⟨v.a + u.a, v.b + u.b, v.c + u.c, v.d + u.d, v.e + u.e, v.f + u.f, v.g + u.g, v.h + u.h⟩
def mixS (v : V8) (s : List UInt8) : V8 := (rnds s v 64).add v
def blocks : Nat -> V8 -> List UInt8 -> V8
 | 0, v, _ => v
 | n + 1, v, s => blocks n (mixS v (s.take 64)) (s.drop 64)
def v0 : V8 := ⟨1779033703#32, 3144134277#32, 1013904242#32, 2773480762#32, 1359893119#32, 2600822924#32, 528734635#32, 1541459225#32⟩
def padS (s : List UInt8) : List UInt8 := s ++ 128 :: (List.replicate ((119 - s.length % 64) % 64) 0 ++ be 8 (s.length * 8))
def outV (v : V8) : List UInt8 := v.l.flatMap fun x => be 4 x.toNat
def shaS (s : List UInt8) : List UInt8 := outV (blocks ((padS s).length / 64) v0 (padS s))
theorem z3v (s : List UInt8) : ∀ n, (zy s n).length = n
 | 0 => rfl
 | n + 1 => by simp [zy, z3v s n]
theorem z7j {w : List W} {i : Nat} (h : i < w.length) : (ws w)[i]? = some (.int .u32 (wat w i).toNat) := by
 simp [ws, wc, wat, List.getElem?_map, List.getD_eq_getElem?_getD, List.getElem?_eq_getElem h]
theorem z3o (w : List W) : (ws w).length = w.length := by simp [ws]
section
theorem wr32 (x : BitVec 32) : IntKind.u32.wrap (x.toNat : Int) = x.toNat := z9b ⟨by omega, by have := x.isLt; omega⟩
theorem bw_add (a b : BitVec 32) : z15 .add .u32 (a.toNat : Int) (b.toNat : Int) = some (.int .u32 ((a + b).toNat : Int)) := by
 rw [zgg, z9c, BitVec.toNat_add]; rfl
theorem bw_xor (a b : BitVec 32) : z15 .xor .u32 (a.toNat : Int) (b.toNat : Int) = some (.int .u32 ((a ^^^ b).toNat : Int)) := by
 rw [zgj ⟨by omega, by have := a.isLt; omega⟩ ⟨by omega, by have := b.isLt; omega⟩, BitVec.toNat_xor]; rfl
theorem bw_and (a b : BitVec 32) : z15 .and .u32 (a.toNat : Int) (b.toNat : Int) = some (.int .u32 ((a &&& b).toNat : Int)) := by
 rw [zgh ⟨by omega, by have := a.isLt; omega⟩ ⟨by omega, by have := b.isLt; omega⟩, BitVec.toNat_and]; rfl
theorem bw_or (a b : BitVec 32) : z15 .or .u32 (a.toNat : Int) (b.toNat : Int) = some (.int .u32 ((a ||| b).toNat : Int)) := by
 rw [zgi ⟨by omega, by have := a.isLt; omega⟩ ⟨by omega, by have := b.isLt; omega⟩, BitVec.toNat_or]; rfl
theorem bw_shr {a : BitVec 32} {n : Int} (h : 0 <= n /\ n < 32) : z1g .shr .u32 (a.toNat : Int) n = some (.int .u32 ((a >>> n.toNat).toNat : Int)) := by
 rw [zii h, BitVec.toNat_ushiftRight, Nat.shiftRight_eq_div_pow, Int.natCast_ediv, Int.natCast_pow]; rfl
theorem bw_shl {a : BitVec 32} {n : Int} (h : 0 <= n /\ n < 32) : z1g .shl .u32 (a.toNat : Int) n = some (.int .u32 ((a <<< n.toNat).toNat : Int)) := by
 rw [zif h, BitVec.toNat_shiftLeft, Nat.shiftLeft_eq, z9c]
 rw [Int.natCast_emod, Int.natCast_mul, Int.natCast_pow]; rfl
theorem bw_not (a : BitVec 32) : aUn .xor (.int .u32 (a.toNat : Int)) = some (.int .u32 ((~~~a).toNat : Int)) := by
 have e1 : BitVec.ofInt IntKind.u32.bits (a.toNat : Int) = a := by
  apply BitVec.eq_of_toNat_eq
  have := a.isLt
  rw [BitVec.toNat_ofInt]
  simp only [IntKind.bits]
  omega
 have e2 : BitVec.ofInt IntKind.u32.bits (if IntKind.u32.signed = true then -1 else IntKind.u32.max) = BitVec.allOnes 32 := by rfl
 have e3 : aUn .xor (.int .u32 (a.toNat : Int)) = some (.int .u32 (IntKind.u32.wrap (((BitVec.ofInt IntKind.u32.bits (if IntKind.u32.signed = true then -1 else IntKind.u32.max) ^^^ BitVec.ofInt IntKind.u32.bits (a.toNat : Int)).toNat : Nat) : Int))) := rfl
 rw [e3, e1, e2]
 have e4 : BitVec.allOnes 32 ^^^ a = ~~~a := BitVec.allOnes_xor
 show some (AV.int .u32 (IntKind.u32.wrap ((BitVec.allOnes 32 ^^^ a).toNat : Int))) = _
 rw [e4, wr32]
end
attribute [go_sem high] bw_add bw_xor bw_and bw_or bw_shr bw_shl bw_not
end
end Am
end Go.Proofs.YtjgljhbmljgaeaaGreatDoor
section
/- Packed words: lanes of 64 bits in one number. -/
namespace Go.Proofs.YtjgljhbmljgaeaaGreatDoor
namespace Pk
def pkN : List Nat -> Nat
 | [] => 0
 | x :: l => 2 ^ 64 * pkN l + x
def lane (l : List Nat) (q : Nat) : Nat := l.getD q 0
theorem zhf : ∀ (l : List Nat) (i : Nat), (∀ x ∈ l, x < 2 ^ 64) -> (pkN l).testBit i = (lane l (i / 64)).testBit (i % 64)
 | [], i, _ => by simp [pkN, lane]
 | x :: l, i, h => by
  rw [pkN, Nat.testBit_two_pow_mul_add _ (h x (by simp))]
  by_cases hi : i < 64
  ·rw [if_pos hi, show i / 64 = 0 by omega, show i % 64 = i by omega]; rfl
  ·rw [if_neg hi, zhf l (i - 64) (fun y hy => h y (by simp [hy])), show i / 64 = (i - 64) / 64 + 1 by omega, show i % 64 = (i - 64) % 64 by omega]
   rfl
theorem pk_at {l : List Nat} (hl : ∀ x ∈ l, x < 2 ^ 64) (q r : Nat) (hr : r < 64) : (pkN l).testBit (64 * q + r) = (lane l q).testBit r := by
 rw [zhf l _ hl, show (64 * q + r) / 64 = q by omega, show (64 * q + r) % 64 = r by omega]
section
variable {ι : Type} (L : List ι)
def P (f : ι -> Nat) : Nat := pkN (L.map f)
theorem P_add (f g : ι -> Nat) : P L f + P L g = P L (fun i => f i + g i) := by
 unfold P
 induction L with
 | nil => rfl
 | cons x l ih => simp only [List.map_cons, pkN] at ih ⊢; rw [<- ih]; omega
theorem P_mul (f : ι -> Nat) (c : Nat) : P L f * c = P L (fun i => f i * c) := by
 unfold P
 induction L with
 | nil => simp [pkN]
 | cons x l ih => simp only [List.map_cons, pkN] at ih ⊢; rw [<- ih, Nat.add_mul, Nat.mul_assoc]
theorem zne (f : ι -> Nat) (q : Nat) : lane (L.map f) q = ((L[q]?).map f).getD 0 := by
 simp [lane, List.getD_eq_getElem?_getD]
theorem z7m {f : ι -> Nat} (h : ∀ i, f i < 2 ^ 64) (q r : Nat) (hr : r < 64) : (P L f).testBit (64 * q + r) = ((L[q]?).map f).any (·.testBit r) := by
 unfold P
 rw [pk_at (by simp only [List.mem_map]; rintro x ⟨i, _, rfl⟩; exact h i) q r hr, zne]
 cases L[q]? <;> simp
theorem P_ext {f : ι -> Nat} (h : ∀ i, f i < 2 ^ 64) {N : Nat} (hN : ∀ q r, r < 64 -> N.testBit (64 * q + r) = ((L[q]?).map f).any (·.testBit r)) : N = P L f := by
 apply Nat.eq_of_testBit_eq
 intro i
 have e : i = 64 * (i / 64) + i % 64 := (Nat.div_add_mod i 64).symm
 rw [e, hN _ _ (Nat.mod_lt _ (by omega)), z7m L h _ _ (Nat.mod_lt _ (by omega))]
abbrev W := BitVec 32
def Q (f : ι -> W) : Nat := P L (fun i => (f i).toNat)
def M : Nat := P L (fun _ => 4294967295)
def one : Nat := P L (fun _ => 1)
theorem w64 (x : W) : x.toNat < 2 ^ 64 := by have := x.isLt; omega
theorem Q_bit {f : ι -> W} (q r : Nat) (hr : r < 64) : (Q L f).testBit (64 * q + r) = (L[q]?).any (fun i => (f i).getLsbD r) := by
 unfold Q
 rw [z7m L (fun i => w64 _) q r hr]
 cases L[q]? <;> simp [BitVec.getLsbD]
theorem Q_ext {f : ι -> W} {N : Nat} (hN : ∀ q r, r < 64 -> N.testBit (64 * q + r) = (L[q]?).any (fun i => (f i).getLsbD r)) : N = Q L f := by
 apply P_ext L (fun i => w64 _)
 intro q r hr
 rw [hN q r hr]
 cases L[q]? <;> simp [BitVec.getLsbD]
theorem M_bit (q r : Nat) (hr : r < 64) : (M L).testBit (64 * q + r) = (L[q]?).any (fun _ => decide (r < 32)) := by
 unfold M
 rw [z7m L (fun i => by omega) q r hr]
 cases L[q]? with
 | none => simp
 | some x =>
  simp only [Option.map_some, Option.any_some]
  rw [show (4294967295 : Nat) = 2 ^ 32 - 1 from rfl, Nat.testBit_two_pow_sub_one]
theorem Q_xor (f g : ι -> W) : Q L f ^^^ Q L g = Q L (fun i => f i ^^^ g i) := by
 apply Q_ext
 intro q r hr
 rw [Nat.testBit_xor, Q_bit L q r hr, Q_bit L q r hr]
 cases L[q]? <;> simp
theorem Q_and (f g : ι -> W) : Q L f &&& Q L g = Q L (fun i => f i &&& g i) := by
 apply Q_ext
 intro q r hr
 rw [Nat.testBit_and, Q_bit L q r hr, Q_bit L q r hr]
 cases L[q]? <;> simp
theorem Q_not (f : ι -> W) : M L ^^^ Q L f = Q L (fun i => ~~~ f i) := by
 apply Q_ext
 intro q r hr
 rw [Nat.testBit_xor, Q_bit L q r hr, M_bit L q r hr]
 cases L[q]? with
 | none => simp
 | some x =>
  simp only [Option.any_some, BitVec.getLsbD_not]
  by_cases h : r < 32
  ·simp [h]
  ·simp [h, BitVec.getLsbD_of_ge _ _ (show 32 <= r by omega)]
theorem P_mask {f : ι -> Nat} (h : ∀ i, f i < 2 ^ 64) : P L f &&& M L = Q L (fun i => BitVec.ofNat 32 (f i)) := by
 apply Q_ext
 intro q r hr
 rw [Nat.testBit_and, z7m L h q r hr, M_bit L q r hr]
 cases L[q]? with
 | none => simp
 | some x => simp [BitVec.getLsbD_ofNat]; exact Bool.and_comm _ _
def cD : Nat := 2 ^ 32 + 1
theorem cD_is (x : Nat) : x * cD = 2 ^ 32 * x + x := by rw [cD, Nat.mul_add, Nat.mul_comm, Nat.mul_one]
def dbl (x : Nat) : Nat := x * cD
theorem zl6 (x : W) (r : Nat) : (x.toNat * cD).testBit r = if r < 32 then x.getLsbD r else x.getLsbD (r - 32) := by
 rw [cD_is, Nat.testBit_two_pow_mul_add _ x.isLt]
 rfl
theorem dbl_lt (x : W) : x.toNat * cD < 2 ^ 64 := by have := x.isLt; rw [cD_is]; omega
theorem D_bit {f : ι -> W} (q r : Nat) (hr : r < 64) : (dbl (Q L f)).testBit (64 * q + r) = (L[q]?).any (fun i => if r < 32 then (f i).getLsbD r else (f i).getLsbD (r - 32)) := by
 have e : dbl (Q L f) = P L (fun i => (f i).toNat * cD) := by unfold dbl Q; rw [P_mul]
 rw [e, z7m L (fun i => dbl_lt (f i)) q r hr]
 cases L[q]? with
 | none => rfl
 | some x => rw [Option.map_some, Option.any_some, Option.any_some, zl6]
theorem rl_bit (x : W) (r k : Nat) (h0 : 0 < k) (hk : k < 32) (h : r < 32) : (x.rotateLeft (32 - k)).getLsbD r = if k + r < 32 then x.getLsbD (k + r) else x.getLsbD (k + r - 32) := by
 rw [BitVec.getLsbD_rotateLeft, Nat.mod_eq_of_lt (show 32 - k < 32 by omega)]
 by_cases h1 : r < 32 - k
 ·rw [if_pos (by omega), decide_eq_true h1, cond_true, show 32 - (32 - k) + r = k + r by omega]
 ·rw [if_neg (by omega), decide_eq_false h1, cond_false, decide_eq_true h, Bool.true_and, show k + r - 32 = r - (32 - k) by omega]
theorem z7l {f : ι -> W} (q r k : Nat) (h : r < 32) (h0 : 0 < k) (hk : k < 32) : (dbl (Q L f) >>> k).testBit (64 * q + r) = (L[q]?).any (fun i => ((f i).rotateLeft (32 - k)).getLsbD r) := by
 rw [Nat.testBit_shiftRight, show k + (64 * q + r) = 64 * q + (k + r) by omega, D_bit L q (k + r) (by omega)]
 cases L[q]? with
 | none => rfl
 | some x => simp only [Option.any_some]; rw [rl_bit _ _ _ h0 hk h]
theorem Q_rot3 (f : ι -> W) (a b c : Nat) (ha : 0 < a /\ a < 32) (hb : 0 < b /\ b < 32) (hc : 0 < c /\ c < 32) :
  ((dbl (Q L f) >>> a ^^^ dbl (Q L f) >>> b) ^^^ dbl (Q L f) >>> c) &&& M L = Q L (fun i => ((f i).rotateLeft (32 - a) ^^^ (f i).rotateLeft (32 - b)) ^^^ (f i).rotateLeft (32 - c)) := by
 apply Q_ext
 intro q r hr
 rw [Nat.testBit_and, M_bit L q r hr]
 by_cases h : r < 32
 ·rw [Nat.testBit_xor, Nat.testBit_xor, z7l L q r a h ha.1 ha.2, z7l L q r b h hb.1 hb.2, z7l L q r c h hc.1 hc.2]
  cases L[q]? <;> simp [h]
 ·cases L[q]? with
  | none => simp
  | some x => simp [h, BitVec.getLsbD_of_ge _ _ (show 32 <= r by omega)]
theorem Q_rot2 (f : ι -> W) (a b c : Nat) (ha : 0 < a /\ a < 32) (hb : 0 < b /\ b < 32) (hc : 0 < c /\ c < 32) :
  ((dbl (Q L f) >>> a ^^^ dbl (Q L f) >>> b) ^^^ Q L f >>> c) &&& M L = Q L (fun i => ((f i).rotateLeft (32 - a) ^^^ (f i).rotateLeft (32 - b)) ^^^ (f i) >>> c) := by
 apply Q_ext
 intro q r hr
 rw [Nat.testBit_and, M_bit L q r hr]
 by_cases h : r < 32
 ·rw [Nat.testBit_xor, Nat.testBit_xor, z7l L q r a h ha.1 ha.2, z7l L q r b h hb.1 hb.2, Nat.testBit_shiftRight, show c + (64 * q + r) = 64 * q + (c + r) by omega, Q_bit L q (c + r) (by omega)]
  cases L[q]? <;> simp [h]
 ·cases L[q]? with
  | none => simp
  | some x => simp [h, BitVec.getLsbD_of_ge _ _ (show 32 <= r by omega)]
end
end Pk
end Go.Proofs.YtjgljhbmljgaeaaGreatDoor
end
namespace Go.Proofs.YtjgljhbmljgaeaaGreatDoor
namespace Am
section
set_option maxRecDepth 4000
open Pk (P Q M one pkN dbl cD)
noncomputable def frc {α : Type} (n : Nat) (f : Nat -> α) : α := Nat.rec (f 0) (fun k _ => f (Nat.succ k)) n
theorem zo {α : Type} (n : Nat) (f : Nat -> α) : frc n f = f n := by cases n <;> rfl
structure S8 where
 a : Nat
 b : Nat
 c : Nat
 d : Nat
 e : Nat
 f : Nat
 g : Nat
 h : Nat
noncomputable def rot3 (m x a b c : Nat) : Nat := frc (Nat.mul x 4294967297) fun y => Nat.land (Nat.xor (Nat.xor (Nat.shiftRight y a) (Nat.shiftRight y b)) (Nat.shiftRight y c)) m
noncomputable def rot2 (m x a b c : Nat) : Nat := frc (Nat.mul x 4294967297) fun y => Nat.land (Nat.xor (Nat.xor (Nat.shiftRight y a) (Nat.shiftRight y b)) (Nat.shiftRight x c)) m
noncomputable def t1N (m o e f g h k w : Nat) : Nat :=
 Nat.add (Nat.add (Nat.add (Nat.add h (rot3 m e 6 11 25)) (Nat.xor (Nat.land e f) (Nat.land (Nat.xor m e) g))) (Nat.mul o k)) w
noncomputable def t2N (m a b c : Nat) : Nat := Nat.add (rot3 m a 2 13 22) (Nat.xor (Nat.xor (Nat.land a b) (Nat.land a c)) (Nat.land b c))
noncomputable def nwN (m w0 w1 w9 w14 : Nat) : Nat := Nat.land (Nat.add (Nat.add (Nat.add w0 w9) (rot2 m w1 7 18 3)) (rot2 m w14 17 19 10)) m
noncomputable def goN (m o : Nat) (ks : List Nat) : Nat -> Nat -> Nat -> Nat -> Nat -> Nat -> Nat -> Nat -> Nat -> Nat -> Nat -> Nat -> Nat -> Nat -> Nat -> Nat -> Nat -> Nat -> Nat -> Nat -> Nat -> Nat -> Nat -> Nat -> S8 :=
 List.rec (motive := fun _ => Nat -> Nat -> Nat -> Nat -> Nat -> Nat -> Nat -> Nat -> Nat -> Nat -> Nat -> Nat -> Nat -> Nat -> Nat -> Nat -> Nat -> Nat -> Nat -> Nat -> Nat -> Nat -> Nat -> Nat -> S8)
  (fun a b c d e f g h _ _ _ _ _ _ _ _ _ _ _ _ _ _ _ _ => ⟨a, b, c, d, e, f, g, h⟩)
  (fun k _ ih a b c d e f g h w0 w1 w2 w3 w4 w5 w6 w7 w8 w9 w10 w11 w12 w13 w14 w15 =>
   frc (t1N m o e f g h k w0) fun t => frc (Nat.land (Nat.add t (t2N m a b c)) m) fun a' => frc (Nat.land (Nat.add d t) m) fun e' => frc (nwN m w0 w1 w9 w14) fun w' =>
    ih a' a b c e' e f g w1 w2 w3 w4 w5 w6 w7 w8 w9 w10 w11 w12 w13 w14 w15 w') ks
theorem zm4 (m o a b c d e f g h w0 w1 w2 w3 w4 w5 w6 w7 w8 w9 w10 w11 w12 w13 w14 w15 : Nat) : goN m o [] a b c d e f g h w0 w1 w2 w3 w4 w5 w6 w7 w8 w9 w10 w11 w12 w13 w14 w15 = ⟨a, b, c, d, e, f, g, h⟩ := rfl
theorem zm3 (m o k : Nat) (ks : List Nat) (a b c d e f g h w0 w1 w2 w3 w4 w5 w6 w7 w8 w9 w10 w11 w12 w13 w14 w15 : Nat) : goN m o (k :: ks) a b c d e f g h w0 w1 w2 w3 w4 w5 w6 w7 w8 w9 w10 w11 w12 w13 w14 w15 =
  goN m o ks (Nat.land (Nat.add (t1N m o e f g h k w0) (t2N m a b c)) m) a b c (Nat.land (Nat.add d (t1N m o e f g h k w0)) m) e f g w1 w2 w3 w4 w5 w6 w7 w8 w9 w10 w11 w12 w13 w14 w15 (nwN m w0 w1 w9 w14) := by
 unfold goN
 dsimp only
 rw [zo, zo, zo, zo]
theorem zf9 : (4294967297 : Nat) = cD := by decide
section
variable {ι : Type} (L : List ι)
theorem zi4 (f : ι -> W) (a b c : Nat) (ha : 0 < a /\ a < 32) (hb : 0 < b /\ b < 32) (hc : 0 < c /\ c < 32) :
  rot3 (M L) (Q L f) a b c = Q L (fun i => ((f i).rotateLeft (32 - a) ^^^ (f i).rotateLeft (32 - b)) ^^^ (f i).rotateLeft (32 - c)) := by
 unfold rot3
 rw [zo, zf9]
 exact Pk.Q_rot3 L f a b c ha hb hc
theorem zi3 (f : ι -> W) (a b c : Nat) (ha : 0 < a /\ a < 32) (hb : 0 < b /\ b < 32) (hc : 0 < c /\ c < 32) :
  rot2 (M L) (Q L f) a b c = Q L (fun i => ((f i).rotateLeft (32 - a) ^^^ (f i).rotateLeft (32 - b)) ^^^ (f i) >>> c) := by
 unfold rot2
 rw [zo, zf9]
 exact Pk.Q_rot2 L f a b c ha hb hc
theorem t1_ok (e f g h w : ι -> W) (k : W) : t1N (M L) (one L) (Q L e) (Q L f) (Q L g) (Q L h) k.toNat (Q L w) = P L (fun i => (h i).toNat + (bs1 (e i)).toNat + (chW (e i) (f i) (g i)).toNat + k.toNat + (w i).toNat) := by
 unfold t1N
 rw [zi4 L e 6 11 25 (by omega) (by omega) (by omega)]
 have h1 : Nat.xor (Nat.land (Q L e) (Q L f)) (Nat.land (Nat.xor (M L) (Q L e)) (Q L g)) = Q L (fun i => chW (e i) (f i) (g i)) := by
  have a1 : Nat.land (Q L e) (Q L f) = Q L (fun i => e i &&& f i) := Pk.Q_and L e f
  have a2 : Nat.xor (M L) (Q L e) = Q L (fun i => ~~~ e i) := Pk.Q_not L e
  have a3 : Nat.land (Q L (fun i => ~~~ e i)) (Q L g) = Q L (fun i => ~~~ e i &&& g i) := Pk.Q_and L _ g
  rw [a1, a2, a3]
  exact Pk.Q_xor L _ _
 have h2 : Nat.mul (one L) k.toNat = P L (fun _ => k.toNat) := by
  have := Pk.P_mul L (fun _ => 1) k.toNat
  simpa [one] using this
 rw [h1, h2]
 have add : ∀ f g : ι -> Nat, Nat.add (P L f) (P L g) = P L (fun i => f i + g i) := Pk.P_add L
 unfold Q
 rw [add, add, add, add]
 rfl
theorem t2_ok (a b c : ι -> W) : t2N (M L) (Q L a) (Q L b) (Q L c) = P L (fun i => (bs0 (a i)).toNat + (majW (a i) (b i) (c i)).toNat) := by
 unfold t2N
 rw [zi4 L a 2 13 22 (by omega) (by omega) (by omega)]
 have h1 : Nat.xor (Nat.xor (Nat.land (Q L a) (Q L b)) (Nat.land (Q L a) (Q L c))) (Nat.land (Q L b) (Q L c)) = Q L (fun i => majW (a i) (b i) (c i)) := by
  have a1 : ∀ f g : ι -> W, Nat.land (Q L f) (Q L g) = Q L (fun i => f i &&& g i) := Pk.Q_and L
  have a2 : ∀ f g : ι -> W, Nat.xor (Q L f) (Q L g) = Q L (fun i => f i ^^^ g i) := Pk.Q_xor L
  rw [a1, a1, a1, a2, a2]
  rfl
 rw [h1]
 have add : ∀ f g : ι -> Nat, Nat.add (P L f) (P L g) = P L (fun i => f i + g i) := Pk.P_add L
 unfold Q
 rw [add]
 rfl
theorem z6w {f : ι -> Nat} (g : ι -> W) (h : ∀ i, f i < 2 ^ 64) (hg : ∀ i, BitVec.ofNat 32 (f i) = g i) : Nat.land (P L f) (M L) = Q L g := by
 have := Pk.P_mask L h
 rw [show (fun i => BitVec.ofNat 32 (f i)) = g from funext hg] at this
 exact this
theorem nw_ok (w0 w1 w9 w14 : ι -> W) : nwN (M L) (Q L w0) (Q L w1) (Q L w9) (Q L w14) = Q L (fun i => w0 i + w9 i + ss0 (w1 i) + ss1 (w14 i)) := by
 unfold nwN
 rw [zi3 L w1 7 18 3 (by omega) (by omega) (by omega), zi3 L w14 17 19 10 (by omega) (by omega) (by omega)]
 have add : ∀ f g : ι -> Nat, Nat.add (P L f) (P L g) = P L (fun i => f i + g i) := Pk.P_add L
 have e : Nat.add (Nat.add (Nat.add (Q L w0) (Q L w9)) (Q L (fun i => ss0 (w1 i)))) (Q L (fun i => ss1 (w14 i))) = P L (fun i => (w0 i).toNat + (w9 i).toNat + (ss0 (w1 i)).toNat + (ss1 (w14 i)).toNat) := by
  unfold Q
  rw [add, add, add]
 show Nat.land (Nat.add (Nat.add (Nat.add (Q L w0) (Q L w9)) (Q L (fun i => ss0 (w1 i)))) (Q L (fun i => ss1 (w14 i)))) (M L) = _
 rw [e]
 refine z6w L _ (fun i => ?_) fun i => ?_
 ·have := (w0 i).isLt; have := (w9 i).isLt; have := (ss0 (w1 i)).isLt; have := (ss1 (w14 i)).isLt; omega
 ·apply BitVec.eq_of_toNat_eq; simp only [BitVec.toNat_ofNat, BitVec.toNat_add]; omega
end
def wx (s : List UInt8) (t : Nat) : W := z2m s (zy s t)
theorem z6f (s : List UInt8) : ∀ n, (zy s n).length = n
 | 0 => rfl
 | n + 1 => by simp [zy, z6f s n]
theorem z7k (s : List UInt8) : ∀ (n t : Nat), t < n -> wat (zy s n) t = wx s t
 | n + 1, t, h => by
  unfold wat
  rw [zy, List.getD_eq_getElem?_getD]
  by_cases h1 : t < n
  ·rw [List.getElem?_append_left (by rw [z6f]; exact h1), <- List.getD_eq_getElem?_getD]
   exact z7k s n t h1
  ·obtain rfl : t = n := by omega
   rw [List.getElem?_append_right (by rw [z6f]; omega), z6f, Nat.sub_self]
   rfl
theorem wx_lo (s : List UInt8) (t : Nat) (h : t < 16) : wx s t = zn s t := by
 unfold wx z2m
 rw [z6f, if_pos h]
theorem wx_hi (s : List UInt8) (t : Nat) : wx s (t + 16) = wx s t + wx s (t + 9) + ss0 (wx s (t + 1)) + ss1 (wx s (t + 14)) := by
 conv => lhs; unfold wx z2m
 rw [z6f, if_neg (by omega), z7k s _ _ (by omega), z7k s _ _ (by omega), z7k s _ _ (by omega), z7k s _ _ (by omega)]
 rw [show t + 16 - 16 = t by omega, show t + 16 - 7 = t + 9 by omega, show t + 16 - 15 = t + 1 by omega, show t + 16 - 2 = t + 14 by omega]
theorem zi0 (s : List UInt8) (v : V8) (n : Nat) (h : n < 64) : rnds s v (n + 1) = rnd (rnds s v n) (kAt n) (wx s n) := by
 rw [rnds, z7k s 64 n h]
def kN (t : Nat) : Nat := (kAt t).toNat
section
variable {ι : Type} (L : List ι)
theorem zg9 (s : ι -> List UInt8) (v : ι -> V8) : ∀ (n t : Nat), t + n = 64 ->
  goN (M L) (one L) ((List.range' t n).map kN) (Q L fun i => (rnds (s i) (v i) t).a) (Q L fun i => (rnds (s i) (v i) t).b) (Q L fun i => (rnds (s i) (v i) t).c) (Q L fun i => (rnds (s i) (v i) t).d)
   (Q L fun i => (rnds (s i) (v i) t).e) (Q L fun i => (rnds (s i) (v i) t).f) (Q L fun i => (rnds (s i) (v i) t).g) (Q L fun i => (rnds (s i) (v i) t).h)
   (Q L fun i => wx (s i) t) (Q L fun i => wx (s i) (t + 1)) (Q L fun i => wx (s i) (t + 2)) (Q L fun i => wx (s i) (t + 3)) (Q L fun i => wx (s i) (t + 4)) (Q L fun i => wx (s i) (t + 5)) (Q L fun i => wx (s i) (t + 6)) (Q L fun i => wx (s i) (t + 7))
   (Q L fun i => wx (s i) (t + 8)) (Q L fun i => wx (s i) (t + 9)) (Q L fun i => wx (s i) (t + 10)) (Q L fun i => wx (s i) (t + 11)) (Q L fun i => wx (s i) (t + 12)) (Q L fun i => wx (s i) (t + 13)) (Q L fun i => wx (s i) (t + 14)) (Q L fun i => wx (s i) (t + 15)) =
  ⟨Q L fun i => (rnds (s i) (v i) 64).a, Q L fun i => (rnds (s i) (v i) 64).b, Q L fun i => (rnds (s i) (v i) 64).c, Q L fun i => (rnds (s i) (v i) 64).d, Q L fun i => (rnds (s i) (v i) 64).e, Q L fun i => (rnds (s i) (v i) 64).f, Q L fun i => (rnds (s i) (v i) 64).g, Q L fun i => (rnds (s i) (v i) 64).h⟩
 | 0, t, h => by
  obtain rfl : t = 64 := by omega
  exact zm4 ..
 | n + 1, t, h => by
  have ih := zg9 s v n (t + 1) (by omega)
  rw [List.range'_succ, List.map_cons, zm3]
  have e1 : t1N (M L) (one L) (Q L fun i => (rnds (s i) (v i) t).e) (Q L fun i => (rnds (s i) (v i) t).f) (Q L fun i => (rnds (s i) (v i) t).g) (Q L fun i => (rnds (s i) (v i) t).h) (kN t) (Q L fun i => wx (s i) t) = _ := t1_ok L _ _ _ _ _ (kAt t)
  rw [e1, t2_ok L, nw_ok L]
  have add : ∀ f g : ι -> Nat, Nat.add (P L f) (P L g) = P L (fun i => f i + g i) := Pk.P_add L
  rw [add]
  have e2 : Nat.add (Q L fun i => (rnds (s i) (v i) t).d) (P L fun i => ((rnds (s i) (v i) t).h).toNat + (bs1 (rnds (s i) (v i) t).e).toNat + (chW (rnds (s i) (v i) t).e (rnds (s i) (v i) t).f (rnds (s i) (v i) t).g).toNat + (kAt t).toNat + (wx (s i) t).toNat) = P L _ := add _ _
  rw [e2]
  rw [z6w L (fun i => (rnds (s i) (v i) (t + 1)).a) ?_ ?_, z6w L (fun i => (rnds (s i) (v i) (t + 1)).e) ?_ ?_]
  ·have hw : (fun i => wx (s i) t + wx (s i) (t + 9) + ss0 (wx (s i) (t + 1)) + ss1 (wx (s i) (t + 14))) = fun i => wx (s i) (t + 1 + 15) := by
    funext i
    rw [show t + 1 + 15 = t + 16 by omega, wx_hi]
   have hs : ∀ i, rnds (s i) (v i) (t + 1) = rnd (rnds (s i) (v i) t) (kAt t) (wx (s i) t) := fun i => zi0 _ _ _ (by omega)
   rw [hw]
   rw [<- ih]
   simp only [hs, rnd, Nat.add_assoc, Nat.reduceAdd]
  all_goals intro i
  all_goals (try dsimp only)
  all_goals (have hs : rnds (s i) (v i) (t + 1) = rnd (rnds (s i) (v i) t) (kAt t) (wx (s i) t) := zi0 _ _ _ (by omega))
  all_goals (try rw [hs])
  all_goals (generalize rnds (s i) (v i) t = r; generalize wx (s i) t = w; generalize kAt t = k)
  all_goals try simp only [rnd]
  all_goals (generalize bs1 r.e = p1; generalize chW r.e r.f r.g = p2; generalize bs0 r.a = p3; generalize majW r.a r.b r.c = p4)
  all_goals (have := r.a.isLt; have := r.d.isLt; have := r.h.isLt; have := w.isLt; have := k.isLt; have := p1.isLt; have := p2.isLt; have := p3.isLt; have := p4.isLt)
  all_goals first | omega | (simp only [BitVec.ofNat_add, BitVec.ofNat_toNat, BitVec.setWidth_eq])
end
end
section
set_option maxRecDepth 4000
open Pk (P Q M one pkN)
def k64 : List Nat := [1116352408, 1899447441, 3049323471, 3921009573, 961987163, 1508970993, 2453635748, 2870763221, 3624381080, 310598401, 607225278, 1426881987, 1925078388, 2162078206, 2614888103, 3248222580, 3835390401, 4022224774, 264347078, 604807628, 770255983, 1249150122, 1555081692, 1996064986, 2554220882, 2821834349, 2952996808, 3210313671, 3336571891, 3584528711, 113926993, 338241895, 666307205, 773529912, 1294757372, 1396182291, 1695183700, 1986661051, 2177026350, 2456956037, 2730485921, 2820302411, 3259730800, 3345764771, 3516065817, 3600352804, 4094571909, 275423344, 430227734, 506948616, 659060556, 883997877, 958139571, 1322822218, 1537002063, 1747873779, 1955562222, 2024104815, 2227730452, 2361852424, 2428436474, 2756734187, 3204031479, 3329325298]
theorem k64_is : (List.range' 0 64).map kN = k64 := by decide +kernel
noncomputable def finN {α : Type} (m a b c d e f g h : Nat) (k : Nat -> Nat -> Nat -> Nat -> Nat -> Nat -> Nat -> Nat -> α) (r : S8) : α :=
 S8.rec (motive := fun _ => α) (fun ra rb rc rd re rf rg rh =>
  frc (Nat.land (Nat.add ra a) m) fun a' => frc (Nat.land (Nat.add rb b) m) fun b' => frc (Nat.land (Nat.add rc c) m) fun c' => frc (Nat.land (Nat.add rd d) m) fun d' =>
  frc (Nat.land (Nat.add re e) m) fun e' => frc (Nat.land (Nat.add rf f) m) fun f' => frc (Nat.land (Nat.add rg g) m) fun g' => frc (Nat.land (Nat.add rh h) m) fun h' => k a' b' c' d' e' f' g' h') r
def r64 (v : V8) (s : List UInt8) : V8 := rnds s v 64
theorem zlv {α : Type} (m a b c d e f g h : Nat) (k : Nat -> Nat -> Nat -> Nat -> Nat -> Nat -> Nat -> Nat -> α) (ra rb rc rd re rf rg rh : Nat) :
  finN m a b c d e f g h k ⟨ra, rb, rc, rd, re, rf, rg, rh⟩ =
   k (Nat.land (Nat.add ra a) m) (Nat.land (Nat.add rb b) m) (Nat.land (Nat.add rc c) m) (Nat.land (Nat.add rd d) m) (Nat.land (Nat.add re e) m) (Nat.land (Nat.add rf f) m) (Nat.land (Nat.add rg g) m) (Nat.land (Nat.add rh h) m) := by
 unfold finN
 dsimp only
 rw [zo, zo, zo, zo, zo, zo, zo, zo]
theorem mix_a (v : V8) (s : List UInt8) : (mixS v s).a = (r64 v s).a + v.a := by unfold r64 mixS V8.add; exact Eq.refl _
theorem mix_b (v : V8) (s : List UInt8) : (mixS v s).b = (r64 v s).b + v.b := by unfold r64 mixS V8.add; exact Eq.refl _
theorem mix_c (v : V8) (s : List UInt8) : (mixS v s).c = (r64 v s).c + v.c := by unfold r64 mixS V8.add; exact Eq.refl _
theorem mix_d (v : V8) (s : List UInt8) : (mixS v s).d = (r64 v s).d + v.d := by unfold r64 mixS V8.add; exact Eq.refl _
theorem mix_e (v : V8) (s : List UInt8) : (mixS v s).e = (r64 v s).e + v.e := by unfold r64 mixS V8.add; exact Eq.refl _
theorem mix_f (v : V8) (s : List UInt8) : (mixS v s).f = (r64 v s).f + v.f := by unfold r64 mixS V8.add; exact Eq.refl _
theorem mix_g (v : V8) (s : List UInt8) : (mixS v s).g = (r64 v s).g + v.g := by unfold r64 mixS V8.add; exact Eq.refl _
theorem mix_h (v : V8) (s : List UInt8) : (mixS v s).h = (r64 v s).h + v.h := by unfold r64 mixS V8.add; exact Eq.refl _
section
variable {ι : Type} (L : List ι)
theorem zm2 (s : ι -> List UInt8) (v : ι -> V8) :
  goN (M L) (one L) k64 (Q L fun i => (v i).a) (Q L fun i => (v i).b) (Q L fun i => (v i).c) (Q L fun i => (v i).d) (Q L fun i => (v i).e) (Q L fun i => (v i).f) (Q L fun i => (v i).g) (Q L fun i => (v i).h)
   (Q L fun i => zn (s i) 0) (Q L fun i => zn (s i) 1) (Q L fun i => zn (s i) 2) (Q L fun i => zn (s i) 3) (Q L fun i => zn (s i) 4) (Q L fun i => zn (s i) 5) (Q L fun i => zn (s i) 6) (Q L fun i => zn (s i) 7)
   (Q L fun i => zn (s i) 8) (Q L fun i => zn (s i) 9) (Q L fun i => zn (s i) 10) (Q L fun i => zn (s i) 11) (Q L fun i => zn (s i) 12) (Q L fun i => zn (s i) 13) (Q L fun i => zn (s i) 14) (Q L fun i => zn (s i) 15) =
  ⟨Q L fun i => (r64 (v i) (s i)).a, Q L fun i => (r64 (v i) (s i)).b, Q L fun i => (r64 (v i) (s i)).c, Q L fun i => (r64 (v i) (s i)).d, Q L fun i => (r64 (v i) (s i)).e, Q L fun i => (r64 (v i) (s i)).f, Q L fun i => (r64 (v i) (s i)).g, Q L fun i => (r64 (v i) (s i)).h⟩ := by
 have g := zg9 L s v 64 0 rfl
 rw [k64_is] at g
 have hw : ∀ j, j < 16 -> (fun i => wx (s i) (0 + j)) = fun i => zn (s i) j := fun j hj => by funext i; rw [Nat.zero_add, wx_lo _ _ hj]
 have hw0 : (fun i => wx (s i) 0) = fun i => zn (s i) 0 := by funext i; rw [wx_lo _ _ (by omega)]
 rw [hw0, hw 1 (by omega), hw 2 (by omega), hw 3 (by omega), hw 4 (by omega), hw 5 (by omega), hw 6 (by omega), hw 7 (by omega), hw 8 (by omega), hw 9 (by omega), hw 10 (by omega), hw 11 (by omega), hw 12 (by omega), hw 13 (by omega), hw 14 (by omega), hw 15 (by omega)] at g
 have r0 : ∀ s v, rnds s v 0 = v := fun _ _ => rfl
 have e64 : ∀ s v, rnds s v 64 = r64 v s := fun s v => by unfold r64; exact Eq.refl _
 simp only [r0, e64] at g
 exact g
attribute [local irreducible] r64 k64
theorem z57 (f g : ι -> W) : Nat.land (Nat.add (Q L f) (Q L g)) (M L) = Q L (fun i => f i + g i) := by
 have add : ∀ f g : ι -> Nat, Nat.add (P L f) (P L g) = P L (fun i => f i + g i) := Pk.P_add L
 have e : Nat.add (Q L f) (Q L g) = P L (fun i => (f i).toNat + (g i).toNat) := by
  unfold Q
  rw [add]
 rw [e]
 refine z6w L _ (fun i => ?_) fun i => ?_
 ·have := (f i).isLt; have := (g i).isLt; omega
 ·simp only [BitVec.ofNat_add, BitVec.ofNat_toNat, BitVec.setWidth_eq]
theorem za0 {α : Type} (s : ι -> List UInt8) (v : ι -> V8) (w0 w1 w2 w3 w4 w5 w6 w7 w8 w9 w10 w11 w12 w13 w14 w15 : Nat) (k : Nat -> Nat -> Nat -> Nat -> Nat -> Nat -> Nat -> Nat -> α)
  (h0 : w0 = Q L fun i => zn (s i) 0) (h1 : w1 = Q L fun i => zn (s i) 1) (h2 : w2 = Q L fun i => zn (s i) 2) (h3 : w3 = Q L fun i => zn (s i) 3) (h4 : w4 = Q L fun i => zn (s i) 4) (h5 : w5 = Q L fun i => zn (s i) 5) (h6 : w6 = Q L fun i => zn (s i) 6) (h7 : w7 = Q L fun i => zn (s i) 7)
  (h8 : w8 = Q L fun i => zn (s i) 8) (h9 : w9 = Q L fun i => zn (s i) 9) (h10 : w10 = Q L fun i => zn (s i) 10) (h11 : w11 = Q L fun i => zn (s i) 11) (h12 : w12 = Q L fun i => zn (s i) 12) (h13 : w13 = Q L fun i => zn (s i) 13) (h14 : w14 = Q L fun i => zn (s i) 14) (h15 : w15 = Q L fun i => zn (s i) 15) :
  finN (M L) (Q L fun i => (v i).a) (Q L fun i => (v i).b) (Q L fun i => (v i).c) (Q L fun i => (v i).d) (Q L fun i => (v i).e) (Q L fun i => (v i).f) (Q L fun i => (v i).g) (Q L fun i => (v i).h) k
   (goN (M L) (one L) k64 (Q L fun i => (v i).a) (Q L fun i => (v i).b) (Q L fun i => (v i).c) (Q L fun i => (v i).d) (Q L fun i => (v i).e) (Q L fun i => (v i).f) (Q L fun i => (v i).g) (Q L fun i => (v i).h) w0 w1 w2 w3 w4 w5 w6 w7 w8 w9 w10 w11 w12 w13 w14 w15) =
  k (Q L fun i => (mixS (v i) (s i)).a) (Q L fun i => (mixS (v i) (s i)).b) (Q L fun i => (mixS (v i) (s i)).c) (Q L fun i => (mixS (v i) (s i)).d) (Q L fun i => (mixS (v i) (s i)).e) (Q L fun i => (mixS (v i) (s i)).f) (Q L fun i => (mixS (v i) (s i)).g) (Q L fun i => (mixS (v i) (s i)).h) := by
 subst h0 h1 h2 h3 h4 h5 h6 h7 h8 h9 h10 h11 h12 h13 h14 h15
 have g := zm2 L s v
 rw [g, zlv, z57, z57, z57, z57, z57, z57, z57, z57]
 simp only [mix_a, mix_b, mix_c, mix_d, mix_e, mix_f, mix_g, mix_h]
end
end
section
set_option maxRecDepth 4000
open Pk (P Q M one pkN)
theorem zd5 : ∀ (l m : List Nat), pkN (l ++ m) = pkN l + 2 ^ (64 * l.length) * pkN m
 | [], m => by simp [pkN]
 | x :: l, m => by
  have h : 2 ^ (64 * (l.length + 1)) = 2 ^ 64 * 2 ^ (64 * l.length) := by rw [<- Nat.pow_add]; congr 1; omega
  rw [List.cons_append, pkN, pkN, zd5 l m, List.length_cons, h, Nat.mul_add, Nat.mul_assoc]
  omega
theorem zei (f : Nat -> Nat) (n : Nat) : P (List.range (n + 1)) f = P (List.range n) f + 2 ^ (64 * n) * f n := by
 unfold P
 rw [List.range_succ, List.map_append, zd5, List.length_map, List.length_range]
 simp [pkN]
noncomputable def pkR (f : Nat -> Nat) (n acc : Nat) : Nat :=
 Nat.rec (motive := fun _ => Nat -> Nat) (fun acc => acc) (fun k ih acc => frc (Nat.add (Nat.mul acc 18446744073709551616) (f k)) ih) n acc
theorem zp9 (f : Nat -> Nat) (acc : Nat) : pkR f 0 acc = acc := rfl
theorem zp8 (f : Nat -> Nat) (n acc : Nat) : pkR f (n + 1) acc = pkR f n (Nat.add (Nat.mul acc 18446744073709551616) (f n)) := by
 show frc _ _ = _
 rw [zo]
 rfl
theorem zhe (f : Nat -> Nat) : ∀ (n acc : Nat), pkR f n acc = P (List.range n) f + 2 ^ (64 * n) * acc
 | 0, acc => by rw [zp9]; simp [P, pkN]
 | n + 1, acc => by
  rw [zp8, zhe f n, zei]
  have h : 2 ^ (64 * (n + 1)) = 2 ^ (64 * n) * 2 ^ 64 := by rw [<- Nat.pow_add]; congr 1
  have e : Nat.add (Nat.mul acc 18446744073709551616) (f n) = acc * 2 ^ 64 + f n := rfl
  rw [h, e, Nat.mul_add, Nat.mul_assoc, Nat.mul_comm acc]
  omega
def ones (n : Nat) : Nat := Nat.div (Nat.sub (Nat.pow 2 (Nat.mul 64 n)) 1) 18446744073709551615
theorem zh3 : ∀ n, (2 ^ 64 - 1) * P (List.range n) (fun _ => 1) + 1 = 2 ^ (64 * n)
 | 0 => rfl
 | n + 1 => by
  have ih := zh3 n
  have h : 2 ^ (64 * (n + 1)) = 2 ^ 64 * 2 ^ (64 * n) := by rw [<- Nat.pow_add]; congr 1; omega
  rw [zei, h]
  omega
theorem z6x (n : Nat) : ones n = one (List.range n) := by
 have h := zh3 n
 have e : ones n = (2 ^ (64 * n) - 1) / (2 ^ 64 - 1) := rfl
 rw [e, <- h, Nat.add_sub_cancel, Nat.mul_div_cancel_left _ (by decide)]
 rfl
theorem M_is (n : Nat) : Nat.mul (ones n) 4294967295 = M (List.range n) := by
 rw [z6x]
 have := Pk.P_mul (List.range n) (fun _ => 1) 4294967295
 simpa [one, M] using this
theorem zfj (n : Nat) (c : W) : Nat.mul (ones n) c.toNat = Q (List.range n) (fun _ => c) := by
 rw [z6x]
 have := Pk.P_mul (List.range n) (fun _ => 1) c.toNat
 simpa [one, Q] using this
section
variable {ι : Type} (L : List ι)
theorem q_shl (f : ι -> W) : Nat.land (Nat.mul (Q L f) 16777216) (M L) = Q L (fun i => f i <<< 24) := by
 have e : Nat.mul (Q L f) 16777216 = P L (fun i => (f i).toNat * 16777216) := by
  unfold Q
  exact Pk.P_mul L _ _
 rw [e]
 refine z6w L _ (fun i => ?_) fun i => ?_
 ·have := (f i).isLt; omega
 ·apply BitVec.eq_of_toNat_eq; rw [BitVec.toNat_ofNat, BitVec.toNat_shiftLeft, Nat.shiftLeft_eq]
theorem q_shr (f : ι -> W) : Nat.land (Nat.shiftRight (Q L f) 8) (M L) = Q L (fun i => f i >>> 8) := by
 apply Pk.Q_ext
 intro q r hr
 have e : Nat.land (Nat.shiftRight (Q L f) 8) (M L) = (Q L f >>> 8) &&& M L := rfl
 rw [e, Nat.testBit_and, Pk.M_bit L q r hr, Nat.testBit_shiftRight]
 by_cases h : r < 32
 ·rw [show 8 + (64 * q + r) = 64 * q + (8 + r) by omega, Pk.Q_bit L q (8 + r) (by omega)]
  cases L[q]? <;> simp [h]
 ·cases L[q]? with
  | none => simp
  | some x => simp [h, BitVec.getLsbD_of_ge _ _ (show 32 <= r by omega)]
def shW (x y : W) : W := x <<< 24 + y >>> 8
noncomputable def shN (m x y : Nat) : Nat := Nat.land (Nat.add (Nat.land (Nat.mul x 16777216) m) (Nat.land (Nat.shiftRight y 8) m)) m
theorem z3c (f g : ι -> W) : shN (M L) (Q L f) (Q L g) = Q L (fun i => shW (f i) (g i)) := by
 unfold shN
 rw [q_shl, q_shr, z57]
 rfl
end
theorem z7n (f : Nat -> W) {N a c : Nat} (h : a + c <= N) : Nat.land (Nat.shiftRight (Q (List.range N) f) (64 * a)) (2 ^ (64 * c) - 1) = Q (List.range c) (fun i => f (a + i)) := by
 apply Pk.Q_ext
 intro q r hr
 have e : Nat.land (Nat.shiftRight (Q (List.range N) f) (64 * a)) (2 ^ (64 * c) - 1) = (Q (List.range N) f >>> (64 * a)) &&& (2 ^ (64 * c) - 1) := rfl
 rw [e, Nat.testBit_and, Nat.testBit_shiftRight, show 64 * a + (64 * q + r) = 64 * (a + q) + r by omega, Pk.Q_bit _ _ r hr, Nat.testBit_two_pow_sub_one]
 by_cases hq : q < c
 ·rw [List.getElem?_range (by omega), List.getElem?_range hq, decide_eq_true (by omega)]; simp
 ·rw [decide_eq_false (by omega), Bool.and_false, List.getElem?_eq_none (by simp; omega)]; rfl
theorem z5j (f : Nat -> W) {N a : Nat} (h : a < N) : Nat.land (Nat.shiftRight (Q (List.range N) f) (64 * a)) 18446744073709551615 = (f a).toNat := by
 have := z7n f (a := a) (c := 1) (N := N) (by omega)
 rw [show (2 : Nat) ^ (64 * 1) - 1 = 18446744073709551615 from rfl] at this
 rw [this]
 simp [Q, P, pkN, List.range_succ]
set_option exponentiation.threshold 1000 in
theorem Q_prev (f : Nat -> W) (c : W) (n : Nat) : Nat.add (Nat.mul (Nat.land (Q (List.range (8 + n)) f) (2 ^ (64 * n) - 1)) (2 ^ 512)) (Nat.mul (ones 8) c.toNat) = Q (List.range (8 + n)) (fun l => if l < 8 then c else f (l - 8)) := by
 have e := z7n f (N := 8 + n) (a := 0) (c := n) (by omega)
 have e2 : Nat.land (Q (List.range (8 + n)) f) (2 ^ (64 * n) - 1) = Q (List.range n) f := by
  have : Nat.shiftRight (Q (List.range (8 + n)) f) (64 * 0) = Q (List.range (8 + n)) f := rfl
  rw [this] at e
  rw [e]
  simp
 rw [e2, zfj]
 unfold Q P
 rw [List.range_add, List.map_append, zd5, List.length_map, List.length_range, List.map_map]
 have e3 : (List.range 8).map (fun l => (if l < 8 then c else f (l - 8)).toNat) = (List.range 8).map (fun _ => c.toNat) := by
  apply List.map_congr_left
  intro l hl
  rw [if_pos (List.mem_range.1 hl)]
 have e4 : (List.range n).map ((fun l => (if l < 8 then c else f (l - 8)).toNat) ∘ fun x => 8 + x) = (List.range n).map (fun l => (f l).toNat) := by
  apply List.map_congr_left
  intro l hl
  simp only [Function.comp]
  rw [if_neg (by omega), show 8 + l - 8 = l by omega]
 rw [e3, e4]
 show pkN ((List.range n).map fun i => (f i).toNat) * 2 ^ 512 + _ = _
 rw [Nat.mul_comm, Nat.add_comm]
end
section
set_option maxRecDepth 4000
open Pk (P Q M one pkN)
/-! Words of bytes: a byte ahead of whole words. -/
def enc (ws : List W) : List UInt8 := ws.flatMap fun x => be 4 x.toNat
def lb (x : W) : UInt8 := UInt8.ofNat x.toNat
theorem be4 (n : Nat) : be 4 n = [UInt8.ofNat (n / 16777216), UInt8.ofNat (n / 65536), UInt8.ofNat (n / 256), UInt8.ofNat n] := by
 simp [be, Nat.div_div_eq_div_mul]
theorem zc4 (x : W) (l : List W) : enc (x :: l) = UInt8.ofNat (x.toNat / 16777216) :: UInt8.ofNat (x.toNat / 65536) :: UInt8.ofNat (x.toNat / 256) :: lb x :: enc l := by
 simp [enc, be4, lb]
theorem zc3 (a b : List W) : enc (a ++ b) = enc a ++ enc b := by simp [enc]
theorem z6r : ∀ l : List W, (enc l).length = 4 * l.length
 | [] => rfl
 | x :: l => by rw [zc4]; simp [z6r l]; omega
theorem zlw (y x : W) (t : List UInt8) : zn (lb y :: UInt8.ofNat (x.toNat / 16777216) :: UInt8.ofNat (x.toNat / 65536) :: UInt8.ofNat (x.toNat / 256) :: t) 0 = shW y x := by
 unfold zn shW
 apply BitVec.eq_of_toNat_eq
 simp only [Nat.mul_zero, List.drop_zero, List.take_succ_cons, List.take_zero, getS, List.take_nil, val, List.foldl_cons, List.foldl_nil, lb, UInt8.toNat_ofNat', BitVec.toNat_ofNat, BitVec.toNat_add, BitVec.toNat_shiftLeft, BitVec.toNat_ushiftRight, Nat.shiftLeft_eq, Nat.shiftRight_eq_div_pow]
 have := x.isLt
 have := y.isLt
 omega
theorem zbf (s : List UInt8) (a i : Nat) : zn (s.drop (4 * a)) i = zn s (a + i) := by
 unfold zn
 rw [List.drop_drop]
 congr 4
 omega
theorem zc5 : ∀ (i : Nat) (y : W) (l : List W) (t : List UInt8), i < l.length -> zn (lb y :: (enc l ++ t)) i = shW ((y :: l).getD i 0) ((y :: l).getD (i + 1) 0)
 | 0, y, x :: l, t, _ => by
  rw [zc4]
  exact zlw y x _
 | i + 1, y, x :: l, t, h => by
  have e : (lb y :: (enc (x :: l) ++ t)).drop (4 * 1) = lb x :: (enc l ++ t) := by rw [zc4]; rfl
  have ih := zc5 i x l t (by simpa using h)
  rw [<- e, zbf] at ih
  rw [show i + 1 = 1 + i by omega, ih]
  simp [List.getD_eq_getElem?_getD, Nat.add_comm 1 i]
theorem zeb (s : List UInt8) {n i : Nat} (h : 4 * i + 4 <= n) : zn (s.take n) i = zn s i := by
 unfold zn
 rw [List.drop_take, List.take_take, Nat.min_eq_left (by omega)]
theorem zha (y : W) (l : List W) (n : Nat) (h1 : l.length * 4 + 1 = n) : padS (lb y :: enc l) = lb y :: (enc l ++ 128 :: (List.replicate ((119 - n % 64) % 64) 0 ++ be 8 (n * 8))) := by
 unfold padS
 rw [List.length_cons, z6r, show 4 * l.length + 1 = n by omega]
 rfl
def padT : List W := [2147483648#32, 0#32, 0#32, 0#32, 0#32, 0#32, 0#32, 67584#32]
theorem zig (v : V8) : padS (3 :: outV v) = (lb 3#32 :: enc (v.l ++ padT)).take 64 /\ (padS (3 :: outV v)).length = 64 := by
 have h := zha 3#32 v.l 33 (by rfl)
 have e : padS (3 :: outV v) = lb 3#32 :: (enc v.l ++ 128 :: (List.replicate 22 0 ++ be 8 264)) := h
 have e2 : (lb 3#32 :: enc (v.l ++ padT)).take 64 = lb 3#32 :: (enc v.l ++ (enc padT).take 31) := by
  rw [zc3, show 64 = 63 + 1 from rfl, List.take_succ_cons, show (63 : Nat) = (enc v.l).length + 31 by rw [z6r]; rfl, List.take_length_add_append]
 have e3 : (enc padT).take 31 = 128 :: (List.replicate 22 0 ++ be 8 264) := by decide +kernel
 refine ⟨by rw [e, e2, e3], ?_⟩
 rw [e]
 simp [z6r, V8.l, be]
theorem zs4 (v : V8) (i : Nat) (h : i < 16) : zn (padS (3 :: outV v)) i = shW ((3#32 :: (v.l ++ padT)).getD i 0) ((3#32 :: (v.l ++ padT)).getD (i + 1) 0) := by
 rw [(zig v).1, zeb _ (by omega)]
 have := zc5 i 3#32 (v.l ++ padT) [] (by simp [V8.l, padT]; omega)
 rwa [List.append_nil] at this
theorem znm (v : V8) {s t : List UInt8} (h : ∀ i, i < 16 -> zn s i = zn t i) : mixS v s = mixS v t := by
 have hw : ∀ n, zy s n = zy t n := by
  intro n
  induction n with
  | zero => rfl
  | succ n ih =>
   rw [zy, zy, ih]
   congr 2
   unfold z2m
   rw [z6f]
   split
   ·rename_i h1; exact h n h1
   ·rfl
 have hr : ∀ n, rnds s v n = rnds t v n := by
  intro n
  induction n with
  | zero => rfl
  | succ n ih => rw [rnds, rnds, ih, hw]
 unfold mixS
 rw [hr]
theorem zgx (v : V8) (s : List UInt8) : mixS v (s.take 64) = mixS v s := znm v fun i h => zeb s (by omega)
theorem zf4 (v : V8) (s : List UInt8) : blocks 1 v s = mixS v s := by
 rw [blocks, zgx]; rfl
end
section
set_option maxRecDepth 4000
open Pk (P Q M one pkN)
def m512 : Nat := 13407807929942597099574024998205846127479365820592393377723561443721764030073546976801874298166903427690031858186486050853753882811946569946433649006084095
theorem zco : m512 = 2 ^ (64 * 8) - 1 := by decide +kernel
noncomputable def z8n (m o u0 u1 u2 u3 u4 u5 u6 u7 : Nat) (k : Nat -> Nat -> Nat -> Nat -> Nat -> Nat -> Nat -> Nat -> S8) (bs : List Nat) : Nat -> Nat -> Nat -> Nat -> Nat -> Nat -> Nat -> Nat -> S8 :=
 List.rec (motive := fun _ => Nat -> Nat -> Nat -> Nat -> Nat -> Nat -> Nat -> Nat -> S8) k
  (fun j _ ih a b c d e f g h => frc (Nat.mul j 1024) fun s => frc (Nat.add s 512) fun s' =>
   frc (Nat.land (Nat.shiftRight u0 s) m512) fun w0 =>
   frc (Nat.land (Nat.shiftRight u1 s) m512) fun w1 =>
   frc (Nat.land (Nat.shiftRight u2 s) m512) fun w2 =>
   frc (Nat.land (Nat.shiftRight u3 s) m512) fun w3 =>
   frc (Nat.land (Nat.shiftRight u4 s) m512) fun w4 =>
   frc (Nat.land (Nat.shiftRight u5 s) m512) fun w5 =>
   frc (Nat.land (Nat.shiftRight u6 s) m512) fun w6 =>
   frc (Nat.land (Nat.shiftRight u7 s) m512) fun w7 =>
   frc (Nat.land (Nat.shiftRight u0 s') m512) fun w8 =>
   frc (Nat.land (Nat.shiftRight u1 s') m512) fun w9 =>
   frc (Nat.land (Nat.shiftRight u2 s') m512) fun w10 =>
   frc (Nat.land (Nat.shiftRight u3 s') m512) fun w11 =>
   frc (Nat.land (Nat.shiftRight u4 s') m512) fun w12 =>
   frc (Nat.land (Nat.shiftRight u5 s') m512) fun w13 =>
   frc (Nat.land (Nat.shiftRight u6 s') m512) fun w14 =>
   frc (Nat.land (Nat.shiftRight u7 s') m512) fun w15 =>
   finN m a b c d e f g h ih (goN m o k64 a b c d e f g h w0 w1 w2 w3 w4 w5 w6 w7 w8 w9 w10 w11 w12 w13 w14 w15)) bs
theorem zni (m o u0 u1 u2 u3 u4 u5 u6 u7 : Nat) (k : Nat -> Nat -> Nat -> Nat -> Nat -> Nat -> Nat -> Nat -> S8) (j : Nat) (bs : List Nat) (a b c d e f g h : Nat) : z8n m o u0 u1 u2 u3 u4 u5 u6 u7 k (j :: bs) a b c d e f g h =
  finN m a b c d e f g h (z8n m o u0 u1 u2 u3 u4 u5 u6 u7 k bs) (goN m o k64 a b c d e f g h (Nat.land (Nat.shiftRight u0 (Nat.mul j 1024)) m512)
   (Nat.land (Nat.shiftRight u1 (Nat.mul j 1024)) m512)
   (Nat.land (Nat.shiftRight u2 (Nat.mul j 1024)) m512)
   (Nat.land (Nat.shiftRight u3 (Nat.mul j 1024)) m512)
   (Nat.land (Nat.shiftRight u4 (Nat.mul j 1024)) m512)
   (Nat.land (Nat.shiftRight u5 (Nat.mul j 1024)) m512)
   (Nat.land (Nat.shiftRight u6 (Nat.mul j 1024)) m512)
   (Nat.land (Nat.shiftRight u7 (Nat.mul j 1024)) m512)
   (Nat.land (Nat.shiftRight u0 (Nat.add (Nat.mul j 1024) 512)) m512)
   (Nat.land (Nat.shiftRight u1 (Nat.add (Nat.mul j 1024) 512)) m512)
   (Nat.land (Nat.shiftRight u2 (Nat.add (Nat.mul j 1024) 512)) m512)
   (Nat.land (Nat.shiftRight u3 (Nat.add (Nat.mul j 1024) 512)) m512)
   (Nat.land (Nat.shiftRight u4 (Nat.add (Nat.mul j 1024) 512)) m512)
   (Nat.land (Nat.shiftRight u5 (Nat.add (Nat.mul j 1024) 512)) m512)
   (Nat.land (Nat.shiftRight u6 (Nat.add (Nat.mul j 1024) 512)) m512)
   (Nat.land (Nat.shiftRight u7 (Nat.add (Nat.mul j 1024) 512)) m512)) := by
 unfold z8n
 dsimp only
 rw [zo, zo, zo, zo, zo, zo, zo, zo, zo, zo, zo, zo, zo, zo, zo, zo, zo, zo]
def z1s (v2 : Nat -> V8) (i : Nat) : List W := (List.range 512).flatMap fun k => (v2 (8 * k + i)).l
theorem flat8 (f : Nat -> V8) : ∀ (n k t : Nat), k < n -> t < 8 -> ((List.range n).flatMap fun k => (f k).l)[8 * k + t]? = (f k).l[t]?
 | n + 1, k, t, hk, ht => by
  have hl : ∀ n, ((List.range n).flatMap fun k => (f k).l).length = 8 * n := by
   intro n
   induction n with
   | zero => rfl
   | succ n ih => rw [List.range_succ, List.flatMap_append, List.length_append, ih]; simp [V8.l]; omega
  rw [List.range_succ, List.flatMap_append]
  by_cases h : k < n
  ·rw [List.getElem?_append_left (by rw [hl]; omega)]
   exact flat8 f n k t h ht
  ·obtain rfl : k = n := by omega
   rw [List.getElem?_append_right (by rw [hl]; omega), hl, Nat.add_sub_cancel_left]
   simp
theorem z5d (v2 : Nat -> V8) (i : Nat) : (z1s v2 i).length = 4096 := by
 unfold z1s
 have hl : ∀ n, ((List.range n).flatMap fun k => (v2 (8 * k + i)).l).length = 8 * n := by
  intro n
  induction n with
  | zero => rfl
  | succ n ih => rw [List.range_succ, List.flatMap_append, List.length_append, ih]; simp [V8.l]; omega
 rw [hl]
theorem zb7 (v2 : Nat -> V8) (i k t : Nat) (hk : k < 512) (ht : t < 8) : (z1s v2 i)[8 * k + t]? = (v2 (8 * k + i)).l[t]? := flat8 (fun k => v2 (8 * k + i)) 512 k t hk ht
def longT : List W := [2147483648#32, 0#32, 0#32, 0#32, 0#32, 0#32, 0#32, 0#32, 0#32, 0#32, 0#32, 0#32, 0#32, 0#32, 0#32, 33556480#32]
theorem zgu (l : List W) (hl : l.length = 4096) : padS (4 :: enc l) = (lb 4#32 :: enc (l ++ longT)).take 16448 /\ (padS (4 :: enc l)).length = 16448 := by
 have h := zha 4#32 l 16385 (by rw [hl])
 have e : padS (4 :: enc l) = lb 4#32 :: (enc l ++ 128 :: (List.replicate 54 0 ++ be 8 131080)) := h
 have e2 : (lb 4#32 :: enc (l ++ longT)).take 16448 = lb 4#32 :: (enc l ++ (enc longT).take 63) := by
  rw [zc3, show 16448 = 16447 + 1 from rfl, List.take_succ_cons, show (16447 : Nat) = (enc l).length + 63 by rw [z6r, hl], List.take_length_add_append]
 have e3 : (enc longT).take 63 = 128 :: (List.replicate 54 0 ++ be 8 131080) := by decide +kernel
 refine ⟨by rw [e, e2, e3], ?_⟩
 rw [e]
 simp [z6r, hl, be]
theorem zgv (l : List W) (hl : l.length = 4096) (i : Nat) (h : i < 4112) : zn (padS (4 :: enc l)) i = shW ((4#32 :: (l ++ longT)).getD i 0) ((4#32 :: (l ++ longT)).getD (i + 1) 0) := by
 rw [(zgu l hl).1, zeb _ (by omega)]
 have := zc5 i 4#32 (l ++ longT) [] (by rw [List.length_append, hl]; simp [longT]; omega)
 rwa [List.append_nil] at this
def v8w (v : V8) (t : Nat) : W := v.l.getD t 0
def pw (v2 : Nat -> V8) (t l : Nat) : W := if t = 0 then (if l < 8 then 4#32 else v8w (v2 (l - 8)) 7) else v8w (v2 l) (t - 1)
theorem zgt (v2 : Nat -> V8) (i k t : Nat) (hi : i < 8) (hk : k < 512) (ht : t < 8) : zn (padS (4 :: enc (z1s v2 i))) (8 * k + t) = shW (pw v2 t (8 * k + i)) (v8w (v2 (8 * k + i)) t) := by
 rw [zgv _ (z5d v2 i) _ (by omega)]
 have e1 : (4#32 :: (z1s v2 i ++ longT)).getD (8 * k + t + 1) 0 = v8w (v2 (8 * k + i)) t := by
  rw [List.getD_eq_getElem?_getD, List.getElem?_cons_succ, List.getElem?_append_left (by rw [z5d]; omega), zb7 v2 i k t hk ht, <- List.getD_eq_getElem?_getD]; rfl
 have e2 : (4#32 :: (z1s v2 i ++ longT)).getD (8 * k + t) 0 = pw v2 t (8 * k + i) := by
  unfold pw
  by_cases h0 : t = 0
  ·subst h0
   rw [if_pos rfl]
   by_cases hk0 : k = 0
   ·subst hk0
    rw [if_pos (by omega)]; rfl
   ·rw [if_neg (by omega), show 8 * k + 0 = (8 * (k - 1) + 7) + 1 by omega, List.getD_eq_getElem?_getD, List.getElem?_cons_succ, List.getElem?_append_left (by rw [z5d]; omega), zb7 v2 i (k - 1) 7 (by omega) (by omega), <- List.getD_eq_getElem?_getD, show 8 * k + i - 8 = 8 * (k - 1) + i by omega]; rfl
  ·rw [if_neg h0, show 8 * k + t = (8 * k + (t - 1)) + 1 by omega, List.getD_eq_getElem?_getD, List.getElem?_cons_succ, List.getElem?_append_left (by rw [z5d]; omega), zb7 v2 i k (t - 1) hk (by omega), <- List.getD_eq_getElem?_getD]; rfl
 rw [e1, e2]
theorem zf3 : ∀ (n : Nat) (v : V8) (s : List UInt8), blocks (n + 1) v s = mixS (blocks n v s) (s.drop (64 * n))
 | 0, v, s => by rw [zf4]; rfl
 | n + 1, v, s => by
  rw [blocks, zf3 n, List.drop_drop, <- blocks, show 64 + 64 * n = 64 * (n + 1) by omega]
def uT (v2 : Nat -> V8) (t : Nat) : Nat := Q (List.range 4096) fun l => shW (pw v2 t l) (v8w (v2 l) t)
theorem u_at (v2 : Nat -> V8) (b : Nat) (hb : b < 256) (t : Nat) (ht : t < 8) : Nat.land (Nat.shiftRight (uT v2 t) (Nat.mul b 1024)) m512 = Q (List.range 8) (fun i => zn ((padS (4 :: enc (z1s v2 i))).drop (64 * b)) t) := by
 have h := z7n (fun l => shW (pw v2 t l) (v8w (v2 l) t)) (N := 4096) (a := 16 * b) (c := 8) (by omega)
 rw [<- zco, show 64 * (16 * b) = Nat.mul b 1024 by show _ = b * 1024; omega] at h
 unfold uT
 rw [h]
 unfold Q P
 congr 1
 apply List.map_congr_left
 intro i hi
 dsimp only
 rw [show 64 * b = 4 * (16 * b) by omega, zbf, show 16 * b + t = 8 * (2 * b) + t by omega, zgt v2 i (2 * b) t (List.mem_range.1 hi) (by omega) ht, show 8 * (2 * b) + i = 16 * b + i by omega]
theorem z60 (v2 : Nat -> V8) (b : Nat) (hb : b < 256) (t : Nat) (ht : t < 8) : Nat.land (Nat.shiftRight (uT v2 t) (Nat.add (Nat.mul b 1024) 512)) m512 = Q (List.range 8) (fun i => zn ((padS (4 :: enc (z1s v2 i))).drop (64 * b)) (8 + t)) := by
 have h := z7n (fun l => shW (pw v2 t l) (v8w (v2 l) t)) (N := 4096) (a := 16 * b + 8) (c := 8) (by omega)
 rw [<- zco, show 64 * (16 * b + 8) = Nat.add (Nat.mul b 1024) 512 by show _ = b * 1024 + 512; omega] at h
 unfold uT
 rw [h]
 unfold Q P
 congr 1
 apply List.map_congr_left
 intro i hi
 dsimp only
 rw [show 64 * b = 4 * (16 * b) by omega, zbf, show 16 * b + (8 + t) = 8 * (2 * b + 1) + t by omega, zgt v2 i (2 * b + 1) t (List.mem_range.1 hi) (by omega) ht, show 8 * (2 * b + 1) + i = 16 * b + 8 + i by omega]
theorem zgp (v2 : Nat -> V8) (k : Nat -> Nat -> Nat -> Nat -> Nat -> Nat -> Nat -> Nat -> S8) : ∀ (n b : Nat) (v : Nat -> V8), b + n = 256 ->
  z8n (M (List.range 8)) (one (List.range 8)) (uT v2 0) (uT v2 1) (uT v2 2) (uT v2 3) (uT v2 4) (uT v2 5) (uT v2 6) (uT v2 7) k (List.range' b n) (Q (List.range 8) fun i => (v i).a) (Q (List.range 8) fun i => (v i).b) (Q (List.range 8) fun i => (v i).c) (Q (List.range 8) fun i => (v i).d) (Q (List.range 8) fun i => (v i).e) (Q (List.range 8) fun i => (v i).f) (Q (List.range 8) fun i => (v i).g) (Q (List.range 8) fun i => (v i).h) =
  k (Q (List.range 8) fun i => (blocks n (v i) ((padS (4 :: enc (z1s v2 i))).drop (64 * b))).a) (Q (List.range 8) fun i => (blocks n (v i) ((padS (4 :: enc (z1s v2 i))).drop (64 * b))).b) (Q (List.range 8) fun i => (blocks n (v i) ((padS (4 :: enc (z1s v2 i))).drop (64 * b))).c) (Q (List.range 8) fun i => (blocks n (v i) ((padS (4 :: enc (z1s v2 i))).drop (64 * b))).d) (Q (List.range 8) fun i => (blocks n (v i) ((padS (4 :: enc (z1s v2 i))).drop (64 * b))).e) (Q (List.range 8) fun i => (blocks n (v i) ((padS (4 :: enc (z1s v2 i))).drop (64 * b))).f) (Q (List.range 8) fun i => (blocks n (v i) ((padS (4 :: enc (z1s v2 i))).drop (64 * b))).g) (Q (List.range 8) fun i => (blocks n (v i) ((padS (4 :: enc (z1s v2 i))).drop (64 * b))).h)
 | 0, b, v, h => rfl
 | n + 1, b, v, h => by
  have ih := zgp v2 k n (b + 1) (fun i => mixS (v i) ((padS (4 :: enc (z1s v2 i))).drop (64 * b))) (by omega)
  rw [List.range'_succ, zni]
  refine (za0 (List.range 8) (fun i => (padS (4 :: enc (z1s v2 i))).drop (64 * b)) v _ _ _ _ _ _ _ _ _ _ _ _ _ _ _ _ _ (u_at v2 b (by omega) 0 (by omega)) (u_at v2 b (by omega) 1 (by omega)) (u_at v2 b (by omega) 2 (by omega)) (u_at v2 b (by omega) 3 (by omega)) (u_at v2 b (by omega) 4 (by omega)) (u_at v2 b (by omega) 5 (by omega)) (u_at v2 b (by omega) 6 (by omega)) (u_at v2 b (by omega) 7 (by omega)) (z60 v2 b (by omega) 0 (by omega)) (z60 v2 b (by omega) 1 (by omega)) (z60 v2 b (by omega) 2 (by omega)) (z60 v2 b (by omega) 3 (by omega)) (z60 v2 b (by omega) 4 (by omega)) (z60 v2 b (by omega) 5 (by omega)) (z60 v2 b (by omega) 6 (by omega)) (z60 v2 b (by omega) 7 (by omega))).trans ?_
  refine ih.trans ?_
  have e : ∀ i, blocks (n + 1) (v i) ((padS (4 :: enc (z1s v2 i))).drop (64 * b)) = blocks n (mixS (v i) ((padS (4 :: enc (z1s v2 i))).drop (64 * b))) ((padS (4 :: enc (z1s v2 i))).drop (64 * (b + 1))) := fun i => by
   rw [blocks, zgx, List.drop_drop, show 64 * b + 64 = 64 * (b + 1) by omega]
  simp only [e]
end
section
set_option maxRecDepth 4000
open Pk (P Q M one pkN)
def zah : Nat := Nat.sub (Nat.pow 2 261632) 1
def p512 : Nat := Nat.pow 2 512
theorem zp5 : zah = 2 ^ (64 * 4088) - 1 := by decide +kernel
theorem zp6 : p512 = 2 ^ 512 := by decide +kernel
noncomputable def zad (m o z a b c d e f g h : Nat) : S8 :=
 frc (shN m z (Nat.mul o 2147483648)) fun q0 =>
 frc (Nat.mul o 0) fun q1 =>
 frc (Nat.mul o 131080) fun q15 =>
 finN m a b c d e f g h S8.mk (goN m o k64 a b c d e f g h q0 q1 q1 q1 q1 q1 q1 q1 q1 q1 q1 q1 q1 q1 q1 q15)
noncomputable def zb8 (m8 o8 m y0 y1 y2 y3 y4 y5 y6 y7 : Nat) : S8 :=
 frc (shN m (Nat.add (Nat.mul (Nat.land y7 zah) p512) (Nat.mul o8 4)) y0) fun u0 =>
 frc (shN m y0 y1) fun u1 =>
 frc (shN m y1 y2) fun u2 =>
 frc (shN m y2 y3) fun u3 =>
 frc (shN m y3 y4) fun u4 =>
 frc (shN m y4 y5) fun u5 =>
 frc (shN m y5 y6) fun u6 =>
 frc (shN m y6 y7) fun u7 =>
 frc (Nat.land (Nat.shiftRight y7 261632) m512) fun z =>
 frc (Nat.mul o8 1779033703) fun na =>
 frc (Nat.mul o8 3144134277) fun nb =>
 frc (Nat.mul o8 1013904242) fun nc =>
 frc (Nat.mul o8 2773480762) fun nd =>
 frc (Nat.mul o8 1359893119) fun ne =>
 frc (Nat.mul o8 2600822924) fun nf =>
 frc (Nat.mul o8 528734635) fun ng =>
 frc (Nat.mul o8 1541459225) fun nh =>
 z8n m8 o8 u0 u1 u2 u3 u4 u5 u6 u7 (zad m8 o8 z) (List.range' 0 256) na nb nc nd ne nf ng nh
noncomputable def zb2 (m8 o8 m o x0 x1 x2 x3 x4 x5 x6 x7 : Nat) : S8 :=
 frc (shN m (Nat.mul o 3) x0) fun s0 =>
 frc (shN m x0 x1) fun s1 =>
 frc (shN m x1 x2) fun s2 =>
 frc (shN m x2 x3) fun s3 =>
 frc (shN m x3 x4) fun s4 =>
 frc (shN m x4 x5) fun s5 =>
 frc (shN m x5 x6) fun s6 =>
 frc (shN m x6 x7) fun s7 =>
 frc (shN m x7 (Nat.mul o 2147483648)) fun s8 =>
 frc (Nat.mul o 0) fun s9 =>
 frc (Nat.mul o 264) fun s15 =>
 frc (Nat.mul o 1779033703) fun na =>
 frc (Nat.mul o 3144134277) fun nb =>
 frc (Nat.mul o 1013904242) fun nc =>
 frc (Nat.mul o 2773480762) fun nd =>
 frc (Nat.mul o 1359893119) fun ne =>
 frc (Nat.mul o 2600822924) fun nf =>
 frc (Nat.mul o 528734635) fun ng =>
 frc (Nat.mul o 1541459225) fun nh =>
 finN m na nb nc nd ne nf ng nh (zb8 m8 o8 m) (goN m o k64 na nb nc nd ne nf ng nh s0 s1 s2 s3 s4 s5 s6 s7 s8 s9 s9 s9 s9 s9 s9 s15)
noncomputable def zae (wf : Nat -> Nat -> Nat) : S8 :=
 frc (ones 4096) fun o =>
 frc (Nat.mul o 4294967295) fun m =>
 frc (ones 8) fun o8 =>
 frc (Nat.mul o8 4294967295) fun m8 =>
 frc (Nat.land (pkR (wf 0) 4096 0) m) fun w0 =>
 frc (Nat.land (pkR (wf 1) 4096 0) m) fun w1 =>
 frc (Nat.land (pkR (wf 2) 4096 0) m) fun w2 =>
 frc (Nat.land (pkR (wf 3) 4096 0) m) fun w3 =>
 frc (Nat.land (pkR (wf 4) 4096 0) m) fun w4 =>
 frc (Nat.land (pkR (wf 5) 4096 0) m) fun w5 =>
 frc (Nat.land (pkR (wf 6) 4096 0) m) fun w6 =>
 frc (Nat.land (pkR (wf 7) 4096 0) m) fun w7 =>
 frc (Nat.land (pkR (wf 8) 4096 0) m) fun w8 =>
 frc (Nat.land (pkR (wf 9) 4096 0) m) fun w9 =>
 frc (Nat.land (pkR (wf 10) 4096 0) m) fun w10 =>
 frc (Nat.land (pkR (wf 11) 4096 0) m) fun w11 =>
 frc (Nat.land (pkR (wf 12) 4096 0) m) fun w12 =>
 frc (Nat.land (pkR (wf 13) 4096 0) m) fun w13 =>
 frc (Nat.land (pkR (wf 14) 4096 0) m) fun w14 =>
 frc (Nat.land (pkR (wf 15) 4096 0) m) fun w15 =>
 frc (Nat.mul o 1779033703) fun na =>
 frc (Nat.mul o 3144134277) fun nb =>
 frc (Nat.mul o 1013904242) fun nc =>
 frc (Nat.mul o 2773480762) fun nd =>
 frc (Nat.mul o 1359893119) fun ne =>
 frc (Nat.mul o 2600822924) fun nf =>
 frc (Nat.mul o 528734635) fun ng =>
 frc (Nat.mul o 1541459225) fun nh =>
 finN m na nb nc nd ne nf ng nh (zb2 m8 o8 m o) (goN m o k64 na nb nc nd ne nf ng nh w0 w1 w2 w3 w4 w5 w6 w7 w8 w9 w10 w11 w12 w13 w14 w15)
section
variable (v2 : Nat -> V8)
def tx (i : Nat) : List UInt8 := padS (4 :: enc (z1s v2 i))
theorem zcm (i : Nat) (hi : i < 8) (j : Nat) (hj : j < 16) : zn ((tx v2 i).drop (64 * 256)) j = shW ((v8w (v2 (4088 + i)) 7 :: longT).getD j 0) ((v8w (v2 (4088 + i)) 7 :: longT).getD (j + 1) 0) := by
 unfold tx
 rw [show 64 * 256 = 4 * 4096 from rfl, zbf, zgv _ (z5d v2 i) _ (by omega)]
 have e1 : ∀ n, (4#32 :: (z1s v2 i ++ longT)).getD (4096 + n) 0 = (v8w (v2 (4088 + i)) 7 :: longT).getD n 0 := by
  intro n
  match n with
  | 0 =>
   rw [Nat.add_zero, show (4096 : Nat) = (8 * 511 + 7) + 1 from rfl, List.getD_eq_getElem?_getD, List.getElem?_cons_succ, List.getElem?_append_left (by rw [z5d]; omega), zb7 v2 i 511 7 (by omega) (by omega), <- List.getD_eq_getElem?_getD, show 8 * 511 + i = 4088 + i by omega]; rfl
  | n + 1 =>
   rw [show 4096 + (n + 1) = (4096 + n) + 1 by omega, List.getD_eq_getElem?_getD, List.getElem?_cons_succ, List.getElem?_append_right (by rw [z5d]; omega), z5d, Nat.add_sub_cancel_left, List.getD_eq_getElem?_getD, List.getElem?_cons_succ]
 rw [e1, Nat.add_assoc, e1]
theorem z74 (n : Nat) (c : W) (k : Nat) (h : c.toNat = k) : Nat.mul (one (List.range n)) k = Q (List.range n) (fun _ => c) := by subst h; rw [<- z6x]; exact zfj n c
set_option exponentiation.threshold 1000 in
theorem q_prev (f : Nat -> W) (c : W) (n N p k : Nat) (hN : N = 8 + n) (hp : p = 2 ^ (64 * n) - 1) (hk : c.toNat = k) : Nat.add (Nat.mul (Nat.land (Q (List.range N) f) p) p512) (Nat.mul (one (List.range 8)) k) = Q (List.range N) (fun l => if l < 8 then c else f (l - 8)) := by
 subst hN hp hk
 rw [zp6, <- z6x]
 exact Q_prev f c n
theorem zdb {n : Nat} {f g : Nat -> W} (h : ∀ i, i < n -> f i = g i) : Q (List.range n) f = Q (List.range n) g := by
 unfold Q P
 congr 1
 apply List.map_congr_left
 intro i hi
 rw [h i (List.mem_range.1 hi)]
theorem znf (v : Nat -> V8) : zad (M (List.range 8)) (one (List.range 8)) (Q (List.range 8) fun i => v8w (v2 (4088 + i)) 7) (Q (List.range 8) fun i => (v i).a) (Q (List.range 8) fun i => (v i).b) (Q (List.range 8) fun i => (v i).c) (Q (List.range 8) fun i => (v i).d) (Q (List.range 8) fun i => (v i).e) (Q (List.range 8) fun i => (v i).f) (Q (List.range 8) fun i => (v i).g) (Q (List.range 8) fun i => (v i).h) =
    S8.mk (Q (List.range 8) fun i => (mixS (v i) ((tx v2 i).drop (64 * 256))).a) (Q (List.range 8) fun i => (mixS (v i) ((tx v2 i).drop (64 * 256))).b) (Q (List.range 8) fun i => (mixS (v i) ((tx v2 i).drop (64 * 256))).c) (Q (List.range 8) fun i => (mixS (v i) ((tx v2 i).drop (64 * 256))).d) (Q (List.range 8) fun i => (mixS (v i) ((tx v2 i).drop (64 * 256))).e) (Q (List.range 8) fun i => (mixS (v i) ((tx v2 i).drop (64 * 256))).f) (Q (List.range 8) fun i => (mixS (v i) ((tx v2 i).drop (64 * 256))).g) (Q (List.range 8) fun i => (mixS (v i) ((tx v2 i).drop (64 * 256))).h) := by
  unfold zad
  rw [zo, zo, zo]
  have h0 : shN (M (List.range 8)) (Q (List.range 8) fun i => v8w (v2 (4088 + i)) 7) (Nat.mul (one (List.range 8)) 2147483648) = Q (List.range 8) fun i => zn ((tx v2 i).drop (64 * 256)) 0 := by
    have e : Nat.mul (one (List.range 8)) 2147483648 = Q (List.range 8) fun _ => 2147483648#32 := z74 8 2147483648#32 _ rfl
    rw [e, z3c]
    exact zdb fun i hi => (zcm v2 i hi 0 (by omega)).symm
  have hz : ∀ j, 1 <= j -> j < 15 -> Nat.mul (one (List.range 8)) 0 = Q (List.range 8) fun i => zn ((tx v2 i).drop (64 * 256)) j := by
    intro j h1 h2
    have e : Nat.mul (one (List.range 8)) 0 = Q (List.range 8) fun _ => 0#32 := z74 8 0#32 _ rfl
    rw [e]
    refine zdb fun i hi => ?_
    rw [zcm v2 i hi j (by omega)]
    have : ∀ j : Fin 16, 1 <= j.val -> j.val < 15 -> 0#32 = shW (longT.getD (j.val - 1) 0) (longT.getD j.val 0) := by decide +kernel
    have h3 := this ⟨j, by omega⟩ h1 h2
    obtain ⟨k, rfl⟩ : ∃ k, j = k + 1 := ⟨j - 1, by omega⟩
    simpa [List.getD_eq_getElem?_getD] using h3
  have h15 : Nat.mul (one (List.range 8)) 131080 = Q (List.range 8) fun i => zn ((tx v2 i).drop (64 * 256)) 15 := by
    have e : Nat.mul (one (List.range 8)) 131080 = Q (List.range 8) fun _ => 131080#32 := z74 8 131080#32 _ rfl
    rw [e]
    refine zdb fun i hi => ?_
    rw [zcm v2 i hi 15 (by omega)]
    have : 131080#32 = shW (longT.getD 14 0) (longT.getD 15 0) := by decide +kernel
    simpa [List.getD_eq_getElem?_getD] using this
  exact za0 (List.range 8) (fun i => (tx v2 i).drop (64 * 256)) v _ _ _ _ _ _ _ _ _ _ _ _ _ _ _ _ S8.mk h0 (hz 1 (by omega) (by omega)) (hz 2 (by omega) (by omega)) (hz 3 (by omega) (by omega)) (hz 4 (by omega) (by omega)) (hz 5 (by omega) (by omega)) (hz 6 (by omega) (by omega)) (hz 7 (by omega) (by omega)) (hz 8 (by omega) (by omega)) (hz 9 (by omega) (by omega)) (hz 10 (by omega) (by omega)) (hz 11 (by omega) (by omega)) (hz 12 (by omega) (by omega)) (hz 13 (by omega) (by omega)) (hz 14 (by omega) (by omega)) h15
def z6u (i : Nat) : V8 := blocks 257 v0 (tx v2 i)
def s8Q (f : Nat -> V8) : S8 := ⟨Q (List.range 8) fun i => (f i).a, Q (List.range 8) fun i => (f i).b, Q (List.range 8) fun i => (f i).c, Q (List.range 8) fun i => (f i).d, Q (List.range 8) fun i => (f i).e, Q (List.range 8) fun i => (f i).f, Q (List.range 8) fun i => (f i).g, Q (List.range 8) fun i => (f i).h⟩
theorem zt4 : zb8 (M (List.range 8)) (one (List.range 8)) (M (List.range 4096)) (Q (List.range 4096) fun i => v8w (v2 i) 0) (Q (List.range 4096) fun i => v8w (v2 i) 1) (Q (List.range 4096) fun i => v8w (v2 i) 2) (Q (List.range 4096) fun i => v8w (v2 i) 3) (Q (List.range 4096) fun i => v8w (v2 i) 4) (Q (List.range 4096) fun i => v8w (v2 i) 5) (Q (List.range 4096) fun i => v8w (v2 i) 6) (Q (List.range 4096) fun i => v8w (v2 i) 7) = s8Q (z6u v2) := by
 unfold zb8
 rw [zo, zo, zo, zo, zo, zo, zo, zo, zo, zo, zo, zo, zo, zo, zo, zo, zo]
 have hp : Nat.add (Nat.mul (Nat.land (Q (List.range 4096) fun i => v8w (v2 i) 7) zah) p512) (Nat.mul (one (List.range 8)) 4) = Q (List.range 4096) (fun l => if l < 8 then 4#32 else v8w (v2 (l - 8)) 7) := by
  exact q_prev (fun i => v8w (v2 i) 7) 4#32 4088 4096 _ 4 rfl zp5 rfl
 have h0 : shN (M (List.range 4096)) (Nat.add (Nat.mul (Nat.land (Q (List.range 4096) fun i => v8w (v2 i) 7) zah) p512) (Nat.mul (one (List.range 8)) 4)) (Q (List.range 4096) fun i => v8w (v2 i) 0) = uT v2 0 := by
  rw [hp, z3c]; rfl
 have ht : ∀ t, shN (M (List.range 4096)) (Q (List.range 4096) fun i => v8w (v2 i) t) (Q (List.range 4096) fun i => v8w (v2 i) (t + 1)) = uT v2 (t + 1) := by
  intro t
  rw [z3c]
  unfold uT pw
  simp only [if_neg (Nat.succ_ne_zero t), Nat.add_sub_cancel]
 have hz : Nat.land (Nat.shiftRight (Q (List.range 4096) fun i => v8w (v2 i) 7) 261632) m512 = Q (List.range 8) fun i => v8w (v2 (4088 + i)) 7 := by
  rw [zco]
  exact z7n (fun i => v8w (v2 i) 7) (N := 4096) (a := 4088) (c := 8) (by omega)
 rw [h0, ht 0, ht 1, ht 2, ht 3, ht 4, ht 5, ht 6, hz]
 have hi : ∀ (c : W) (k : Nat), c.toNat = k -> Nat.mul (one (List.range 8)) k = Q (List.range 8) fun _ => c := z74 8
 have r := zgp v2 (zad (M (List.range 8)) (one (List.range 8)) (Q (List.range 8) fun i => v8w (v2 (4088 + i)) 7)) 256 0 (fun _ => v0) rfl
 have na : Nat.mul (one (List.range 8)) 1779033703 = Q (List.range 8) fun _ => v0.a := hi 1779033703#32 _ rfl
 have nb : Nat.mul (one (List.range 8)) 3144134277 = Q (List.range 8) fun _ => v0.b := hi 3144134277#32 _ rfl
 have nc : Nat.mul (one (List.range 8)) 1013904242 = Q (List.range 8) fun _ => v0.c := hi 1013904242#32 _ rfl
 have nd : Nat.mul (one (List.range 8)) 2773480762 = Q (List.range 8) fun _ => v0.d := hi 2773480762#32 _ rfl
 have ne : Nat.mul (one (List.range 8)) 1359893119 = Q (List.range 8) fun _ => v0.e := hi 1359893119#32 _ rfl
 have nf : Nat.mul (one (List.range 8)) 2600822924 = Q (List.range 8) fun _ => v0.f := hi 2600822924#32 _ rfl
 have ng : Nat.mul (one (List.range 8)) 528734635 = Q (List.range 8) fun _ => v0.g := hi 528734635#32 _ rfl
 have nh : Nat.mul (one (List.range 8)) 1541459225 = Q (List.range 8) fun _ => v0.h := hi 1541459225#32 _ rfl
 rw [na, nb, nc, nd, ne, nf, ng, nh]
 refine r.trans ?_
 refine (znf v2 (fun i => blocks 256 v0 ((padS (4 :: enc (z1s v2 i))).drop (64 * 0)))).trans ?_
 unfold s8Q z6u
 have e : ∀ i, blocks 257 v0 (tx v2 i) = mixS (blocks 256 v0 ((padS (4 :: enc (z1s v2 i))).drop (64 * 0))) ((tx v2 i).drop (64 * 256)) := fun i => zf3 256 v0 _
 simp only [e]
end
section
variable (v1 : Nat -> V8)
def sh2 (l : Nat) : V8 := mixS v0 (padS (3 :: outV (v1 l)))
theorem zs3 : zb2 (M (List.range 8)) (one (List.range 8)) (M (List.range 4096)) (one (List.range 4096)) (Q (List.range 4096) fun i => (v1 i).a) (Q (List.range 4096) fun i => (v1 i).b) (Q (List.range 4096) fun i => (v1 i).c) (Q (List.range 4096) fun i => (v1 i).d) (Q (List.range 4096) fun i => (v1 i).e) (Q (List.range 4096) fun i => (v1 i).f) (Q (List.range 4096) fun i => (v1 i).g) (Q (List.range 4096) fun i => (v1 i).h) = s8Q (z6u (sh2 v1)) := by
 unfold zb2
 rw [zo, zo, zo, zo, zo, zo, zo, zo, zo, zo, zo, zo, zo, zo, zo, zo, zo, zo, zo]
 have hc : ∀ (c : W) (k : Nat), c.toNat = k -> Nat.mul (one (List.range 4096)) k = Q (List.range 4096) fun _ => c := z74 4096
 have sw : ∀ j, j < 16 -> ∀ i, shW ((3#32 :: ((v1 i).l ++ padT)).getD j 0) ((3#32 :: ((v1 i).l ++ padT)).getD (j + 1) 0) = zn (padS (3 :: outV (v1 i))) j := fun j hj i => (zs4 (v1 i) j hj).symm
 have c3 : Nat.mul (one (List.range 4096)) 3 = Q (List.range 4096) fun _ => 3#32 := hc 3#32 _ rfl
 have c8 : Nat.mul (one (List.range 4096)) 2147483648 = Q (List.range 4096) fun _ => 2147483648#32 := hc 2147483648#32 _ rfl
 have c0 : Nat.mul (one (List.range 4096)) 0 = Q (List.range 4096) fun _ => 0#32 := hc 0#32 _ rfl
 have cF : Nat.mul (one (List.range 4096)) 264 = Q (List.range 4096) fun _ => 264#32 := hc 264#32 _ rfl
 rw [c3, c8, c0, cF]
 have na : Nat.mul (one (List.range 4096)) 1779033703 = Q (List.range 4096) fun _ => v0.a := hc 1779033703#32 _ rfl
 have nb : Nat.mul (one (List.range 4096)) 3144134277 = Q (List.range 4096) fun _ => v0.b := hc 3144134277#32 _ rfl
 have nc : Nat.mul (one (List.range 4096)) 1013904242 = Q (List.range 4096) fun _ => v0.c := hc 1013904242#32 _ rfl
 have nd : Nat.mul (one (List.range 4096)) 2773480762 = Q (List.range 4096) fun _ => v0.d := hc 2773480762#32 _ rfl
 have ne : Nat.mul (one (List.range 4096)) 1359893119 = Q (List.range 4096) fun _ => v0.e := hc 1359893119#32 _ rfl
 have nf : Nat.mul (one (List.range 4096)) 2600822924 = Q (List.range 4096) fun _ => v0.f := hc 2600822924#32 _ rfl
 have ng : Nat.mul (one (List.range 4096)) 528734635 = Q (List.range 4096) fun _ => v0.g := hc 528734635#32 _ rfl
 have nh : Nat.mul (one (List.range 4096)) 1541459225 = Q (List.range 4096) fun _ => v0.h := hc 1541459225#32 _ rfl
 rw [na, nb, nc, nd, ne, nf, ng, nh]
 have w0 : ∀ i, zn (padS (3 :: outV (v1 i))) 0 = shW 3#32 (v1 i).a := fun i => (sw 0 (by omega) i).symm.trans rfl
 have w1 : ∀ i, zn (padS (3 :: outV (v1 i))) 1 = shW (v1 i).a (v1 i).b := fun i => (sw 1 (by omega) i).symm.trans rfl
 have w2 : ∀ i, zn (padS (3 :: outV (v1 i))) 2 = shW (v1 i).b (v1 i).c := fun i => (sw 2 (by omega) i).symm.trans rfl
 have w3 : ∀ i, zn (padS (3 :: outV (v1 i))) 3 = shW (v1 i).c (v1 i).d := fun i => (sw 3 (by omega) i).symm.trans rfl
 have w4 : ∀ i, zn (padS (3 :: outV (v1 i))) 4 = shW (v1 i).d (v1 i).e := fun i => (sw 4 (by omega) i).symm.trans rfl
 have w5 : ∀ i, zn (padS (3 :: outV (v1 i))) 5 = shW (v1 i).e (v1 i).f := fun i => (sw 5 (by omega) i).symm.trans rfl
 have w6 : ∀ i, zn (padS (3 :: outV (v1 i))) 6 = shW (v1 i).f (v1 i).g := fun i => (sw 6 (by omega) i).symm.trans rfl
 have w7 : ∀ i, zn (padS (3 :: outV (v1 i))) 7 = shW (v1 i).g (v1 i).h := fun i => (sw 7 (by omega) i).symm.trans rfl
 have w8 : ∀ i, zn (padS (3 :: outV (v1 i))) 8 = shW (v1 i).h 2147483648#32 := fun i => (sw 8 (by omega) i).symm.trans rfl
 have w9 : ∀ i, zn (padS (3 :: outV (v1 i))) 9 = 0#32 := fun i => (sw 9 (by omega) i).symm.trans (by show shW 2147483648#32 0#32 = _; decide +kernel)
 have w10 : ∀ i, zn (padS (3 :: outV (v1 i))) 10 = 0#32 := fun i => (sw 10 (by omega) i).symm.trans (by show shW 0#32 0#32 = _; decide +kernel)
 have w11 : ∀ i, zn (padS (3 :: outV (v1 i))) 11 = 0#32 := fun i => (sw 11 (by omega) i).symm.trans (by show shW 0#32 0#32 = _; decide +kernel)
 have w12 : ∀ i, zn (padS (3 :: outV (v1 i))) 12 = 0#32 := fun i => (sw 12 (by omega) i).symm.trans (by show shW 0#32 0#32 = _; decide +kernel)
 have w13 : ∀ i, zn (padS (3 :: outV (v1 i))) 13 = 0#32 := fun i => (sw 13 (by omega) i).symm.trans (by show shW 0#32 0#32 = _; decide +kernel)
 have w14 : ∀ i, zn (padS (3 :: outV (v1 i))) 14 = 0#32 := fun i => (sw 14 (by omega) i).symm.trans (by show shW 0#32 0#32 = _; decide +kernel)
 have w15 : ∀ i, zn (padS (3 :: outV (v1 i))) 15 = 264#32 := fun i => (sw 15 (by omega) i).symm.trans (by show shW 0#32 67584#32 = _; decide +kernel)
 refine (za0 (List.range 4096) (fun i => padS (3 :: outV (v1 i))) (fun _ => v0) _ _ _ _ _ _ _ _ _ _ _ _ _ _ _ _ (zb8 (M (List.range 8)) (one (List.range 8)) (M (List.range 4096))) (by simp only [w0]; exact z3c _ _ _) (by simp only [w1]; exact z3c _ _ _) (by simp only [w2]; exact z3c _ _ _) (by simp only [w3]; exact z3c _ _ _) (by simp only [w4]; exact z3c _ _ _) (by simp only [w5]; exact z3c _ _ _) (by simp only [w6]; exact z3c _ _ _) (by simp only [w7]; exact z3c _ _ _) (by simp only [w8]; exact z3c _ _ _) (by simp only [w9]) (by simp only [w10]) (by simp only [w11]) (by simp only [w12]) (by simp only [w13]) (by simp only [w14]) (by simp only [w15])).trans ?_
 exact zt4 (sh2 v1)
end
set_option exponentiation.threshold 300000 in
theorem znh (wf : Nat -> Nat -> Nat) (msg : Nat -> List UInt8) (hm : ∀ l j, j < 16 -> zn (padS (msg l)) j = BitVec.ofNat 32 (wf j l)) (hb : ∀ j l, wf j l < 2 ^ 64) : zae wf = s8Q (z6u (sh2 fun l => mixS v0 (padS (msg l)))) := by
 unfold zae
 rw [zo, zo, zo, zo, zo, zo, zo, zo, zo, zo, zo, zo, zo, zo, zo, zo, zo, zo, zo, zo, zo, zo, zo, zo, zo, zo, zo, zo]
 rw [M_is, M_is, z6x, z6x]
 have hc : ∀ (c : W) (k : Nat), c.toNat = k -> Nat.mul (one (List.range 4096)) k = Q (List.range 4096) fun _ => c := z74 4096
 have na : Nat.mul (one (List.range 4096)) 1779033703 = Q (List.range 4096) fun _ => v0.a := hc 1779033703#32 _ rfl
 have nb : Nat.mul (one (List.range 4096)) 3144134277 = Q (List.range 4096) fun _ => v0.b := hc 3144134277#32 _ rfl
 have nc : Nat.mul (one (List.range 4096)) 1013904242 = Q (List.range 4096) fun _ => v0.c := hc 1013904242#32 _ rfl
 have nd : Nat.mul (one (List.range 4096)) 2773480762 = Q (List.range 4096) fun _ => v0.d := hc 2773480762#32 _ rfl
 have ne : Nat.mul (one (List.range 4096)) 1359893119 = Q (List.range 4096) fun _ => v0.e := hc 1359893119#32 _ rfl
 have nf : Nat.mul (one (List.range 4096)) 2600822924 = Q (List.range 4096) fun _ => v0.f := hc 2600822924#32 _ rfl
 have ng : Nat.mul (one (List.range 4096)) 528734635 = Q (List.range 4096) fun _ => v0.g := hc 528734635#32 _ rfl
 have nh : Nat.mul (one (List.range 4096)) 1541459225 = Q (List.range 4096) fun _ => v0.h := hc 1541459225#32 _ rfl
 rw [na, nb, nc, nd, ne, nf, ng, nh]
 have hw : ∀ j, j < 16 -> Nat.land (pkR (wf j) 4096 0) (M (List.range 4096)) = Q (List.range 4096) fun l => zn (padS (msg l)) j := by
  intro j hj
  rw [zhe, Nat.mul_zero, Nat.add_zero]
  exact z6w _ _ (hb j) fun i => (hm i j hj).symm
 refine (za0 (List.range 4096) (fun i => padS (msg i)) (fun _ => v0) _ _ _ _ _ _ _ _ _ _ _ _ _ _ _ _ (zb2 (M (List.range 8)) (one (List.range 8)) (M (List.range 4096)) (one (List.range 4096))) (hw 0 (by omega)) (hw 1 (by omega)) (hw 2 (by omega)) (hw 3 (by omega)) (hw 4 (by omega)) (hw 5 (by omega)) (hw 6 (by omega)) (hw 7 (by omega)) (hw 8 (by omega)) (hw 9 (by omega)) (hw 10 (by omega)) (hw 11 (by omega)) (hw 12 (by omega)) (hw 13 (by omega)) (hw 14 (by omega)) (hw 15 (by omega))).trans ?_
 exact zs3 fun l => mixS v0 (padS (msg l))
end
section
theorem rl_c {k : Nat} : ∀ (l : List W), RLs k (ws l)
 | [] => by simp [ws, RLs]
 | _ :: l => by have := rl_c (k := k) l; simp only [ws] at this; simp [ws, wc, RLs, RL, this]
theorem z2x {k : Nat} {l : List AV} (h : RLs k l) : RL k (.agg l) := by simpa only [RL] using h
theorem zba (Y : Store) (x : W) (k : Int) (h : 0 < k /\ k < 32) : ACallsTo TC 106 [.int .u32 x.toNat, .int .u32 k] Y (.int .u32 (x.rotateLeft (32 - k.toNat)).toNat) Y := by
 refine ACallsTo.of_body qdok (by simp) fun hw _ => ?_
 repeat' (first|apply zs_|apply zb_|apply zc_|apply zt_ rfl|apply zf_ rfl|(refine zd_ rfl (fun ht => ?_) (fun ht => ?_)<;>try (exfalso;omega))|((first|apply zr_|apply zk_|apply ze_|apply zq_|((first|apply zg0|apply zg1|apply zg2|apply zg3|apply zg4|apply zg5|apply zg6|apply zg7)<;>intro ht));all_goals try simp (disch:=first|omega|(simp only [lens];first|done|omega)) only [go_sem,nQ1,nQ2,nQ3,nQ4,nQ5,nQ6,nQ7,nQ8]))
 have e : (x >>> k.toNat ||| x <<< (32 - k).toNat) = x.rotateLeft (32 - k.toNat) := by
  obtain ⟨n, rfl⟩ : ∃ n : Nat, k = n := ⟨k.toNat, by omega⟩
  have e1 : ((32 : Int) - n).toNat = 32 - n := by omega
  rw [e1, Int.toNat_natCast, BitVec.rotateLeft_def, BitVec.or_comm]
  have : (32 - n) % 32 = 32 - n := Nat.mod_eq_of_lt (by omega)
  rw [this]
  congr 2
  omega
 rw [e]
 exact DownV.same hw (z14 _ rfl)
theorem ztf (s : List UInt8) (i : Nat) : IntKind.u32.wrap ((getS ((s.drop (4 * i)).take 4) : Nat) : Int) = ((zn s i).toNat : Int) := by
 rw [z9c, zn, BitVec.toNat_ofNat]; rfl
theorem zkw {w : List W} {x : W} {n : Nat} (h : w.length = n) (hn : n < 64) : (ws w ++ List.replicate (64 - n) (AV.int .u32 0)).take n ++ AV.int .u32 x.toNat :: (ws w ++ List.replicate (64 - n) (AV.int .u32 0)).drop (n + 1) = ws (w ++ [x]) ++ List.replicate (64 - (n + 1)) (AV.int .u32 0) := by
 have hl : (ws w).length = n := by rw [z3o, h]
 have e : 64 - n = (64 - (n + 1)) + 1 := by omega
 rw [List.take_append_of_le_length (by omega), List.take_of_length_le (by omega), List.drop_append, List.drop_of_length_le (by omega), hl]
 rw [show n + 1 - n = 1 by omega, e, List.replicate_succ, List.drop_succ_cons, List.drop_zero, List.nil_append]
 simp [ws, wc]
set_option maxHeartbeats 4000000 in
theorem zsf (Y : Store) (s : List UInt8) (h : 64 <= s.length) (hs : s.length < 9223372036854775808) : ACallsTo TC 122 [.str s] Y (.agg (ws (zy s 64))) Y := by
 obtain ⟨R, hR⟩ : ∃ R, R = zy s 64 := ⟨_, rfl⟩
 rw [<- hR]
 refine ACallsTo.of_body qgok (by simp) fun hw _ => ?_
 repeat' (first|apply zs_|apply zb_|apply zc_|apply zt_ rfl|apply zf_ rfl|(refine zd_ rfl (fun ht => ?_) (fun ht => ?_)<;>try (exfalso;omega))|((first|apply zr_|apply zk_|apply ze_|apply zq_|((first|apply zg0|apply zg1|apply zg2|apply zg3|apply zg4|apply zg5|apply zg6|apply zg7)<;>intro ht));all_goals try simp (disch:=first|omega|(simp only [lens];first|done|omega)) only [go_sem,nQ1,nQ2,nQ3,nQ4,nQ5,nQ6,nQ7,nQ8]))
 refine zW.loop (fun m O Y' => ∃ i : Nat, m + i = 64 /\ O 0 = .str s /\ O 2 = .ptr Y.length 0 0 /\ O 6 = .int .i64 i /\ Y' = Y ++ [some [ws (zy s i) ++ List.replicate (64 - i) (AV.int .u32 0)]]) 64 ?_ ?_
 ·exact ⟨0, by omega, by simp (disch:=first|omega|(simp only [lens];first|done|omega)) only [go_sem,nQ1,nQ2,nQ3,nQ4,nQ5,nQ6,nQ7,nQ8],by simp (disch:=first|omega|(simp only [lens];first|done|omega)) only [go_sem,nQ1,nQ2,nQ3,nQ4,nQ5,nQ6,nQ7,nQ8],by simp (disch:=first|omega|(simp only [lens];first|done|omega)) only [go_sem,nQ1,nQ2,nQ3,nQ4,nQ5,nQ6,nQ7,nQ8]; rfl,rfl⟩
 ·rintro m O Y' ⟨i, hm, q0, q2, q6, rfl⟩
  have hsl := z3v s i
  have hset := fun x => zkw (x := x) hsl
  have hwi : ∀ j, j < i -> (ws (zy s i) ++ List.replicate (64 - i) (AV.int .u32 0))[j]? = some (.int .u32 (wat (zy s i) j).toNat) := by
   intro j hj
   rw [List.getElem?_append_left (by rw [z3o]; omega), z7j (by omega)]
  have hlen : (ws (zy s i) ++ List.replicate (64 - i) (AV.int .u32 0)).length = 64 \/ 64 < i := by
   simp [z3o, hsl]; omega
  by_cases hi : i < 64
  ·have hlen : (ws (zy s i) ++ List.replicate (64 - i) (AV.int .u32 0)).length = 64 := by omega
   generalize hcc : ws (zy s i) ++ List.replicate (64 - i) (AV.int .u32 0) = cc at *
   by_cases h16 : i < 16
   ·have hd1 : (s.take (4 * i + 4)).length = 4 * i + 4 := by rw [List.length_take]; omega
    repeat' (first|apply zs_|apply zb_|apply zc_|apply zt_ rfl|apply zf_ rfl|(refine zd_ rfl (fun ht => ?_) (fun ht => ?_)<;>try (exfalso;omega))|((first|apply zr_|apply zk_|apply ze_|apply zq_|(apply callW.mk_pu; (first | exact (fun _ => zf1 _ _ (by simp; omega)))) | (apply callW.za; (first | exact (zf1 _ _ (by simp; omega)))) | ((first|apply zg0|apply zg1|apply zg2|apply zg3|apply zg4|apply zg5|apply zg6|apply zg7)<;>intro ht));all_goals try simp (disch:=first|omega|(simp only [lens];first|done|omega)) only [go_sem,nQ1,nQ2,nQ3,nQ4,nQ5,nQ6,nQ7,nQ8,q0,q2,q6,hlen]))
    have ev : ((getS ((s.take (4 * (i : Int) + 4).toNat).drop (4 * (i : Int)).toNat) : Nat) : Int) % 4294967296 = ((z2m s (zy s i)).toNat : Int) := by
     rw [show (4 * (i : Int) + 4).toNat = 4 * i + 4 by omega, show (4 * (i : Int)).toNat = 4 * i by omega, List.drop_take, show 4 * i + 4 - 4 * i = 4 by omega]
     have := ztf s i
     rw [z9c] at this
     rw [this, z2m, if_pos (by omega), hsl]
    refine ⟨64 - (i + 1), by omega, i + 1, by omega, by simp, ?_⟩
    rw [ev, hset _ hi, zy]
   ·have en : z2m s (zy s i) = wat (zy s i) (i - 16) + wat (zy s i) (i - 7) + ss0 (wat (zy s i) (i - 15)) + ss1 (wat (zy s i) (i - 2)) := by rw [z2m, if_neg (by omega), hsl]
    have g16 := hwi (i - 16) (by omega)
    have g7 := hwi (i - 7) (by omega)
    have g15 := hwi (i - 15) (by omega)
    have g2 := hwi (i - 2) (by omega)
    have t16 : ((i : Int) - 16).toNat = i - 16 := by omega
    have t7 : ((i : Int) - 7).toNat = i - 7 := by omega
    have t15 : ((i : Int) - 15).toNat = i - 15 := by omega
    have t2 : ((i : Int) - 2).toNat = i - 2 := by omega
    generalize wat (zy s i) (i - 16) = w16 at *
    generalize wat (zy s i) (i - 7) = w7 at *
    generalize wat (zy s i) (i - 15) = w15 at *
    generalize wat (zy s i) (i - 2) = w2 at *
    have r7 : ((-7 : Int) % 32).toNat = 25 := rfl
    have r18 : ((-18 : Int) % 32).toNat = 14 := rfl
    have r17 : ((-17 : Int) % 32).toNat = 15 := rfl
    have r19 : ((-19 : Int) % 32).toNat = 13 := rfl
    have en2 := hset (z2m s (zy s i)) hi
    rw [en] at en2
    simp only [ss0, ss1] at en2
    repeat' (first|apply zs_|apply zb_|apply zc_|apply zt_ rfl|apply zf_ rfl|(refine zd_ rfl (fun ht => ?_) (fun ht => ?_)<;>try (exfalso;omega))|((first|apply zr_|apply zk_|apply ze_|apply zq_|(apply callW.mk_pu; (first | exact (fun _ => z9t _ _ _))) | (apply callW.za; (first | exact (z9t _ _ _))) | ((first|apply zg0|apply zg1|apply zg2|apply zg3|apply zg4|apply zg5|apply zg6|apply zg7)<;>intro ht));all_goals try simp (disch:=first|omega|(simp only [lens];first|done|omega)) only [go_sem,nQ1,nQ2,nQ3,nQ4,nQ5,nQ6,nQ7,nQ8,q0,q2,q6,hlen,g16,g7,g15,g2,t16,t7,t15,t2,r7,r18,r17,r19]))
    refine ⟨64 - (i + 1), by omega, i + 1, by omega, by simp, ?_⟩
    rw [en2, zy, en]
    simp only [ss0, ss1]
  ·have e : i = 64 := by omega
   have eR : zy s i = R := by rw [hR, e]
   have hsR : R.length = 64 := by rw [<- eR, hsl, e]
   have hl64 : (ws R).length = 64 := by rw [z3o, hsR]
   have e0 : List.replicate (64 - i) (AV.int .u32 0) = [] := by rw [e]; rfl
   rw [eR, e0, List.append_nil] at *
   clear hwi hset hlen hR
   have hd : (ws R).drop 64 = [] := List.drop_of_length_le (by omega)
   repeat' (first|apply zs_|apply zb_|apply zc_|apply zt_ rfl|apply zf_ rfl|(refine zd_ rfl (fun ht => ?_) (fun ht => ?_)<;>try (exfalso;omega))|((first|apply zr_|apply zk_|apply ze_|apply zq_|((first|apply zg0|apply zg1|apply zg2|apply zg3|apply zg4|apply zg5|apply zg6|apply zg7)<;>intro ht));all_goals try simp (disch:=first|omega|(simp only [lens];first|done|omega)) only [go_sem,nQ1,nQ2,nQ3,nQ4,nQ5,nQ6,nQ7,nQ8,q0,q2,q6,hl64,hd]))
   exact DownV.pure hw (z2x (rl_c _))
end
section
def V8.c8 (v : V8) : List AV := [.int .u32 v.a.toNat, .int .u32 v.b.toNat, .int .u32 v.c.toNat, .int .u32 v.d.toNat, .int .u32 v.e.toNat, .int .u32 v.f.toNat, .int .u32 v.g.toNat, .int .u32 v.h.toNat]
theorem ws_l (v : V8) : ws v.l = v.c8 := rfl
theorem zgk {i : Nat} (h : i < 64) : (gl_sha_rounds.drop i)[0]? = some (.int .u32 (kAt i).toNat) := by
 have hall : ∀ j : Fin 64, (gl_sha_rounds.drop j.val)[0]? = some (.int .u32 (kAt j.val).toNat) := by
  intro j
  have h2 : (gl_sha_rounds.drop j.val)[0]? = some (AV.int .u32 (shaRounds.getD j.val 0)) := by
   have hl : shaRounds.length = 64 := rfl
   simp only [gl_sha_rounds, List.getElem?_drop, Nat.add_zero, List.getElem?_map, List.getD_eq_getElem?_getD]
   rw [List.getElem?_eq_getElem (by rw [hl]; exact j.isLt)]; rfl
  rw [h2]
  have h3 : ∀ j : Fin 64, shaRounds.getD j.val 0 = ((kAt j.val).toNat : Int) := by decide
  rw [h3 j]
 exact hall ⟨i, h⟩
theorem z8d : gl_sha_rounds.length = 64 := rfl
set_option maxHeartbeats 8000000 in
theorem mix_to (Y : Store) (v : V8) (s : List UInt8) (h : 64 <= s.length) (hs : s.length < 9223372036854775808) : ACallsTo TC 104 [.agg (ws v.l), .str s] Y (.agg (ws (mixS v s).l)) Y := by
 obtain ⟨R, hR⟩ : ∃ R, R = zy s 64 := ⟨_, rfl⟩
 have hsp := fun Y => zsf Y s h hs
 rw [<- hR] at hsp
 have hRl : R.length = 64 := by rw [hR, z3v]
 have hwR : (ws R).length = 64 := by rw [z3o, hRl]
 have hst : ∀ n, rnds s v (n + 1) = rnd (rnds s v n) (kAt n) (wat R n) := fun n => by rw [rnds, hR]
 obtain ⟨F, hF⟩ : ∃ F, F = (rnds s v 64).add v := ⟨_, rfl⟩
 have hmix : mixS v s = F := hF.symm
 rw [hmix, ws_l, ws_l]
 clear hmix
 refine ACallsTo.of_body qfok (by simp) fun hw _ => ?_
 unfold V8.c8
 repeat' (first|apply zs_|apply zb_|apply zc_|apply zt_ rfl|apply zf_ rfl|(refine zd_ rfl (fun ht => ?_) (fun ht => ?_)<;>try (exfalso;omega))|((first|apply zr_|apply zk_|apply ze_|apply zq_|(apply callW.mk_pu; (first | exact (fun _ => hsp _))) | (apply callW.za; (first | exact (hsp _))) | ((first|apply zg0|apply zg1|apply zg2|apply zg3|apply zg4|apply zg5|apply zg6|apply zg7)<;>intro ht));all_goals try simp (disch:=first|omega|(simp only [lens];first|done|omega)) only [go_sem,nQ1,nQ2,nQ3,nQ4,nQ5,nQ6,nQ7,nQ8]))
 refine zW.loop (fun m O Y' => ∃ i : Nat, m + i = 64 /\ O 2 = .ptr Y.length 0 0 /\ O 4 = .ptr (Y.length + 1) 0 0 /\ O 5 = .ptr (Y.length + 2) 0 0 /\ O 15 = .agg (ws R) /\ O 16 = .int .i64 i ∧
  Y' = Y ++ [some [v.c8], some [[AV.int .u32 0, AV.int .u32 0, AV.int .u32 0, AV.int .u32 0, AV.int .u32 0, AV.int .u32 0, AV.int .u32 0, AV.int .u32 0]], some [(rnds s v i).c8]]) 64 ?_ ?_
 ·exact ⟨0, by omega, by simp (disch:=first|omega|(simp only [lens];first|done|omega)) only [go_sem,nQ1,nQ2,nQ3,nQ4,nQ5,nQ6,nQ7,nQ8],by simp (disch:=first|omega|(simp only [lens];first|done|omega)) only [go_sem,nQ1,nQ2,nQ3,nQ4,nQ5,nQ6,nQ7,nQ8],by simp (disch:=first|omega|(simp only [lens];first|done|omega)) only [go_sem,nQ1,nQ2,nQ3,nQ4,nQ5,nQ6,nQ7,nQ8],by simp (disch:=first|omega|(simp only [lens];first|done|omega)) only [go_sem,nQ1,nQ2,nQ3,nQ4,nQ5,nQ6,nQ7,nQ8],by simp (disch:=first|omega|(simp only [lens];first|done|omega)) only [go_sem,nQ1,nQ2,nQ3,nQ4,nQ5,nQ6,nQ7,nQ8]; rfl,rfl⟩
 ·rintro m O Y' ⟨i, hm, q2, q4, q5, q15, q16, rfl⟩
  by_cases hi : i < 64
  ·have hk := zgk hi
   have hw := z7j (w := R) (i := i) (by omega)
   have hst := hst i
   generalize rnds s v i = u at *
   obtain ⟨a, b, c, d, e, f, g, h⟩ := u
   generalize kAt i = kk at *
   generalize wat R i = ww at *
   have r6 : ((-6 : Int) % 32).toNat = 26 := rfl
   have r11 : ((-11 : Int) % 32).toNat = 21 := rfl
   have r25 : ((-25 : Int) % 32).toNat = 7 := rfl
   have r2 : ((-2 : Int) % 32).toNat = 30 := rfl
   have r13 : ((-13 : Int) % 32).toNat = 19 := rfl
   have r22 : ((-22 : Int) % 32).toNat = 10 := rfl
   refine zs_ ?_
   refine zr_ ?_
   simp (disch:=first|omega|(simp only [lens];first|done|omega)) only [go_sem,nQ1,nQ2,nQ3,nQ4,nQ5,nQ6,nQ7,nQ8,q16]
   refine zs_ ?_
   refine zt_ rfl ?_
   refine zk_ ?_
   simp (disch:=first|omega|(simp only [lens];first|done|omega)) only [go_sem,nQ1,nQ2,nQ3,nQ4,nQ5,nQ6,nQ7,nQ8]
   refine zs_ ?_
   refine zb_ ?_
   refine zs_ ?_
   refine zW.regS ?_
   simp (disch:=first|omega|(simp only [lens];first|done|omega)) only [go_sem,nQ1,nQ2,nQ3,nQ4,nQ5,nQ6,nQ7,nQ8,q15,q16,hwR,hw]
   (refine zW.slots [2, 4, 5, 6, 7, 15, 16] ?_; intro O1 hs; simp (disch:=first|omega|(simp only [lens];first|done|omega)) only [go_sem,nQ1,nQ2,nQ3,nQ4,nQ5,nQ6,nQ7,nQ8,q2,q4,q5,q15,q16] at hs; obtain ⟨s2,s4,s5,s6,s7,s15,s16⟩ := hs)
   refine zs_ ?_
   refine zW.regS ?_
   simp (disch:=first|omega|(simp only [lens];first|done|omega)) only [go_sem,nQ1,nQ2,nQ3,nQ4,nQ5,nQ6,nQ7,nQ8,s5,V8.c8]
   (refine zW.slots [2, 4, 5, 6, 7, 8, 9, 15, 16] ?_; intro O2 hs; simp (disch:=first|omega|(simp only [lens];first|done|omega)) only [go_sem,nQ1,nQ2,nQ3,nQ4,nQ5,nQ6,nQ7,nQ8,s2,s4,s5,s6,s7,s15,s16] at hs; obtain ⟨s2,s4,s5,s6,s7,s8,s9,s15,s16⟩ := hs)
   refine zs_ ?_
   (refine zW.regS ?_; (simp (disch:=first|omega|(simp only [lens];first|done|omega)) only [go_sem,nQ1,nQ2,nQ3,nQ4,nQ5,nQ6,nQ7,nQ8,s2,s4,s5,s6,s7,s8,s9,V8.c8,hk,z8d,r6,r11,r25]); repeat' (apply callW.za; (first | exact (z9t _ _ _)); all_goals try (simp (disch:=first|omega|(simp only [lens];first|done|omega)) only [go_sem,nQ1,nQ2,nQ3,nQ4,nQ5,nQ6,nQ7,nQ8,s2,s4,s5,s6,s7,s8,s9,V8.c8,hk,z8d,r6,r11,r25])))
   (refine zW.slots [2, 4, 5, 8, 9, 10, 15, 16] ?_; intro O3 hs; simp (disch:=first|omega|(simp only [lens];first|done|omega)) only [go_sem,nQ1,nQ2,nQ3,nQ4,nQ5,nQ6,nQ7,nQ8,s2,s4,s5,s8,s9,s15,s16] at hs; obtain ⟨s2,s4,s5,s8,s9,s10,s15,s16⟩ := hs)
   refine zs_ ?_
   (refine zW.regS ?_; (simp (disch:=first|omega|(simp only [lens];first|done|omega)) only [go_sem,nQ1,nQ2,nQ3,nQ4,nQ5,nQ6,nQ7,nQ8,s5,s8,s9,V8.c8,r2,r13,r22]); repeat' (apply callW.za; (first | exact (z9t _ _ _)); all_goals try (simp (disch:=first|omega|(simp only [lens];first|done|omega)) only [go_sem,nQ1,nQ2,nQ3,nQ4,nQ5,nQ6,nQ7,nQ8,s5,s8,s9,V8.c8,r2,r13,r22])))
   (refine zW.slots [2, 4, 5, 8, 9, 10, 11, 15, 16] ?_; intro O4 hs; simp (disch:=first|omega|(simp only [lens];first|done|omega)) only [go_sem,nQ1,nQ2,nQ3,nQ4,nQ5,nQ6,nQ7,nQ8,s2,s4,s5,s8,s9,s10,s15,s16] at hs; obtain ⟨s2,s4,s5,s8,s9,s10,s11,s15,s16⟩ := hs)
   (refine zW.regS ?_; (simp (disch:=first|omega|(simp only [lens];first|done|omega)) only [go_sem,nQ1,nQ2,nQ3,nQ4,nQ5,nQ6,nQ7,nQ8,s5,s8,s9,s10,s11,V8.c8]))
   (refine zW.slots [2, 4, 5, 15, 16] ?_; intro O5 hs; simp (disch:=first|omega|(simp only [lens];first|done|omega)) only [go_sem,nQ1,nQ2,nQ3,nQ4,nQ5,nQ6,nQ7,nQ8,s2,s4,s5,s15,s16] at hs; obtain ⟨s2,s4,s5,s15,s16⟩ := hs)
   (refine zW.regS ?_; (simp (disch:=first|omega|(simp only [lens];first|done|omega)) only [go_sem,nQ1,nQ2,nQ3,nQ4,nQ5,nQ6,nQ7,nQ8,s16]))
   refine ⟨64 - (i + 1), by omega, i + 1, by omega, s2, s4, s5, s15, by simp, ?_⟩
   rw [hst]
   simp only [rnd, V8.c8, bs1, chW, bs0, majW]
  ·obtain rfl : i = 64 := by omega
   clear hst
   generalize rnds s v 64 = U at *
   rw [hF, V8.add]
   clear hF hR
   obtain ⟨a, b, c, d, e, f, g, h⟩ := U
   obtain ⟨a', b', c', d', e', f', g', h'⟩ := v
   simp only [V8.c8] at *
   repeat' (first|apply zs_|apply zb_|apply zc_|apply zt_ rfl|apply zf_ rfl|(refine zd_ rfl (fun ht => ?_) (fun ht => ?_)<;>try (exfalso;omega))|((first|apply zr_|apply zk_|apply ze_|apply zq_|((first|apply zg0|apply zg1|apply zg2|apply zg3|apply zg4|apply zg5|apply zg6|apply zg7)<;>intro ht));all_goals try simp (disch:=first|omega|(simp only [lens];first|done|omega)) only [go_sem,nQ1,nQ2,nQ3,nQ4,nQ5,nQ6,nQ7,nQ8,q16]))
   refine zW.loop (fun m O Y' => ∃ j : Nat, m + j = 8 /\ O 2 = .ptr Y.length 0 0 /\ O 4 = .ptr (Y.length + 1) 0 0 /\ O 5 = .ptr (Y.length + 2) 0 0 /\ O 95 = .int .i64 j ∧
    Y' = Y ++ [some [V8.c8 ⟨a', b', c', d', e', f', g', h'⟩], some [[AV.int .u32 0, AV.int .u32 0, AV.int .u32 0, AV.int .u32 0, AV.int .u32 0, AV.int .u32 0, AV.int .u32 0, AV.int .u32 0]], some [(V8.c8 ⟨a + a', b + b', c + c', d + d', e + e', f + f', g + g', h + h'⟩).take j ++ (V8.c8 ⟨a, b, c, d, e, f, g, h⟩).drop j]]) 8 ?_ ?_
   ·exact ⟨0, by omega, by simp (disch:=first|omega|(simp only [lens];first|done|omega)) only [go_sem,nQ1,nQ2,nQ3,nQ4,nQ5,nQ6,nQ7,nQ8,q2],by simp (disch:=first|omega|(simp only [lens];first|done|omega)) only [go_sem,nQ1,nQ2,nQ3,nQ4,nQ5,nQ6,nQ7,nQ8,q4],by simp (disch:=first|omega|(simp only [lens];first|done|omega)) only [go_sem,nQ1,nQ2,nQ3,nQ4,nQ5,nQ6,nQ7,nQ8,q5],by simp (disch:=first|omega|(simp only [lens];first|done|omega)) only [go_sem,nQ1,nQ2,nQ3,nQ4,nQ5,nQ6,nQ7,nQ8]; rfl,rfl⟩
   ·clear q2 q4 q5 q15 q16
    rintro m O Y' ⟨j, hm, q2, q4, q5, q95, rfl⟩
    have hj : j = 0 \/ j = 1 \/ j = 2 \/ j = 3 \/ j = 4 \/ j = 5 \/ j = 6 \/ j = 7 \/ j = 8 := by omega
    rcases hj with rfl | rfl | rfl | rfl | rfl | rfl | rfl | rfl | rfl
    ·repeat' (first | refine zs_ ?_ | refine zb_ ?_ | refine zc_ ?_ | refine zt_ rfl ?_ | refine zf_ rfl ?_ | (refine zd_ rfl (fun ht => ?_) (fun ht => ?_) <;> try (exfalso; omega)) | ((first | refine zW.regS ?_ | refine zk_ ?_ | refine ze_ ?_ | refine zq_ ?_ | ((first|apply zg0|apply zg1|apply zg2|apply zg3|apply zg4|apply zg5|apply zg6|apply zg7)<;>intro ht));all_goals try simp (disch:=first|omega|(simp only [lens];first|done|omega)) only [go_sem,nQ1,nQ2,nQ3,nQ4,nQ5,nQ6,nQ7,nQ8,q2,q4,q5,q95,V8.c8]))
     exact ⟨7, by omega, 1, by omega, rfl, rfl⟩
    ·repeat' (first | refine zs_ ?_ | refine zb_ ?_ | refine zc_ ?_ | refine zt_ rfl ?_ | refine zf_ rfl ?_ | (refine zd_ rfl (fun ht => ?_) (fun ht => ?_) <;> try (exfalso; omega)) | ((first | refine zW.regS ?_ | refine zk_ ?_ | refine ze_ ?_ | refine zq_ ?_ | ((first|apply zg0|apply zg1|apply zg2|apply zg3|apply zg4|apply zg5|apply zg6|apply zg7)<;>intro ht));all_goals try simp (disch:=first|omega|(simp only [lens];first|done|omega)) only [go_sem,nQ1,nQ2,nQ3,nQ4,nQ5,nQ6,nQ7,nQ8,q2,q4,q5,q95,V8.c8]))
     exact ⟨6, by omega, 2, by omega, rfl, rfl⟩
    ·repeat' (first | refine zs_ ?_ | refine zb_ ?_ | refine zc_ ?_ | refine zt_ rfl ?_ | refine zf_ rfl ?_ | (refine zd_ rfl (fun ht => ?_) (fun ht => ?_) <;> try (exfalso; omega)) | ((first | refine zW.regS ?_ | refine zk_ ?_ | refine ze_ ?_ | refine zq_ ?_ | ((first|apply zg0|apply zg1|apply zg2|apply zg3|apply zg4|apply zg5|apply zg6|apply zg7)<;>intro ht));all_goals try simp (disch:=first|omega|(simp only [lens];first|done|omega)) only [go_sem,nQ1,nQ2,nQ3,nQ4,nQ5,nQ6,nQ7,nQ8,q2,q4,q5,q95,V8.c8]))
     exact ⟨5, by omega, 3, by omega, rfl, rfl⟩
    ·repeat' (first | refine zs_ ?_ | refine zb_ ?_ | refine zc_ ?_ | refine zt_ rfl ?_ | refine zf_ rfl ?_ | (refine zd_ rfl (fun ht => ?_) (fun ht => ?_) <;> try (exfalso; omega)) | ((first | refine zW.regS ?_ | refine zk_ ?_ | refine ze_ ?_ | refine zq_ ?_ | ((first|apply zg0|apply zg1|apply zg2|apply zg3|apply zg4|apply zg5|apply zg6|apply zg7)<;>intro ht));all_goals try simp (disch:=first|omega|(simp only [lens];first|done|omega)) only [go_sem,nQ1,nQ2,nQ3,nQ4,nQ5,nQ6,nQ7,nQ8,q2,q4,q5,q95,V8.c8]))
     exact ⟨4, by omega, 4, by omega, rfl, rfl⟩
    ·repeat' (first | refine zs_ ?_ | refine zb_ ?_ | refine zc_ ?_ | refine zt_ rfl ?_ | refine zf_ rfl ?_ | (refine zd_ rfl (fun ht => ?_) (fun ht => ?_) <;> try (exfalso; omega)) | ((first | refine zW.regS ?_ | refine zk_ ?_ | refine ze_ ?_ | refine zq_ ?_ | ((first|apply zg0|apply zg1|apply zg2|apply zg3|apply zg4|apply zg5|apply zg6|apply zg7)<;>intro ht));all_goals try simp (disch:=first|omega|(simp only [lens];first|done|omega)) only [go_sem,nQ1,nQ2,nQ3,nQ4,nQ5,nQ6,nQ7,nQ8,q2,q4,q5,q95,V8.c8]))
     exact ⟨3, by omega, 5, by omega, rfl, rfl⟩
    ·repeat' (first | refine zs_ ?_ | refine zb_ ?_ | refine zc_ ?_ | refine zt_ rfl ?_ | refine zf_ rfl ?_ | (refine zd_ rfl (fun ht => ?_) (fun ht => ?_) <;> try (exfalso; omega)) | ((first | refine zW.regS ?_ | refine zk_ ?_ | refine ze_ ?_ | refine zq_ ?_ | ((first|apply zg0|apply zg1|apply zg2|apply zg3|apply zg4|apply zg5|apply zg6|apply zg7)<;>intro ht));all_goals try simp (disch:=first|omega|(simp only [lens];first|done|omega)) only [go_sem,nQ1,nQ2,nQ3,nQ4,nQ5,nQ6,nQ7,nQ8,q2,q4,q5,q95,V8.c8]))
     exact ⟨2, by omega, 6, by omega, rfl, rfl⟩
    ·repeat' (first | refine zs_ ?_ | refine zb_ ?_ | refine zc_ ?_ | refine zt_ rfl ?_ | refine zf_ rfl ?_ | (refine zd_ rfl (fun ht => ?_) (fun ht => ?_) <;> try (exfalso; omega)) | ((first | refine zW.regS ?_ | refine zk_ ?_ | refine ze_ ?_ | refine zq_ ?_ | ((first|apply zg0|apply zg1|apply zg2|apply zg3|apply zg4|apply zg5|apply zg6|apply zg7)<;>intro ht));all_goals try simp (disch:=first|omega|(simp only [lens];first|done|omega)) only [go_sem,nQ1,nQ2,nQ3,nQ4,nQ5,nQ6,nQ7,nQ8,q2,q4,q5,q95,V8.c8]))
     exact ⟨1, by omega, 7, by omega, rfl, rfl⟩
    ·repeat' (first | refine zs_ ?_ | refine zb_ ?_ | refine zc_ ?_ | refine zt_ rfl ?_ | refine zf_ rfl ?_ | (refine zd_ rfl (fun ht => ?_) (fun ht => ?_) <;> try (exfalso; omega)) | ((first | refine zW.regS ?_ | refine zk_ ?_ | refine ze_ ?_ | refine zq_ ?_ | ((first|apply zg0|apply zg1|apply zg2|apply zg3|apply zg4|apply zg5|apply zg6|apply zg7)<;>intro ht));all_goals try simp (disch:=first|omega|(simp only [lens];first|done|omega)) only [go_sem,nQ1,nQ2,nQ3,nQ4,nQ5,nQ6,nQ7,nQ8,q2,q4,q5,q95,V8.c8]))
     exact ⟨0, by omega, 8, by omega, rfl, rfl⟩
    ·repeat' (first|apply zs_|apply zb_|apply zc_|apply zt_ rfl|apply zf_ rfl|(refine zd_ rfl (fun ht => ?_) (fun ht => ?_)<;>try (exfalso;omega))|((first|apply zr_|apply zk_|apply ze_|apply zq_|((first|apply zg0|apply zg1|apply zg2|apply zg3|apply zg4|apply zg5|apply zg6|apply zg7)<;>intro ht));all_goals try simp (disch:=first|omega|(simp only [lens];first|done|omega)) only [go_sem,nQ1,nQ2,nQ3,nQ4,nQ5,nQ6,nQ7,nQ8,q2,q4,q5,q95,V8.c8]))
     exact DownV.pure hw (z14 _ rfl)
end
end Am
end Go.Proofs.YtjgljhbmljgaeaaGreatDoor
section
/- Contracts of library functions, laid off the kit's shelf for this program. -/
namespace Go.Proofs
open Go.Shelf
def Tryz.lays169_ren : Go.Shelf.Ren := ⟨fun | 169 => 112 | n => n, fun | 70 => 165 | 9 => 9 | 0 => 0 | 72 => 167 | 37 => 104 | 127 => 183 | 3 => 3 | 5 => 5 | n => n, fun | n => n⟩
theorem Tryz.lays169 : Go.Proofs.Lays.n169 Tryz.prog Tryz.lays169_ren := {
 mixed := by kernel_rfl
 f169 := Tryz.func112.trans (congrArg some (by kernel_rfl))
 t0 := Tryz.underlying0
 a0 := Tryz.isAgg0
 z0 := Tryz.sizeOf0
 v0 := Tryz.zeroValue0
 t3 := Tryz.underlying3
 a3 := Tryz.isAgg3
 z3 := Tryz.sizeOf3
 v3 := Tryz.zeroValue3
 t9 := Tryz.underlying9
 a9 := Tryz.isAgg9
 z9 := Tryz.sizeOf9
 v9 := Tryz.zeroValue9
 t37 := Tryz.underlying104
 a37 := Tryz.isAgg104
 z37 := Tryz.sizeOf104
 v37 := Tryz.zeroValue104
 t70 := Tryz.underlying165
 a70 := Tryz.isAgg165
 z70 := Tryz.sizeOf165
 v70 := Tryz.zeroValue165
 t72 := Tryz.underlying167
 a72 := Tryz.isAgg167
 z72 := Tryz.sizeOf167
 v72 := Tryz.zeroValue167
 t127 := Tryz.underlying183
 a127 := Tryz.isAgg183
 z127 := Tryz.sizeOf183
 v127 := Tryz.zeroValue183 }
theorem Tryz.Builder_Extra_169 : Builder.Extra Tryz.prog Tryz.lays169_ren := {
 sizeBuilder := by kernel_rfl
 liesBuilder := by kernel_rfl
 t5 := Tryz.underlying5
 a5 := Tryz.isAgg5
 z5 := Tryz.sizeOf5
 v5 := Tryz.zeroValue5
 infoByte := by kernel_rfl
 cellsByte := by kernel_rfl
 sizeByte := by kernel_rfl
 neB5 := by decide }
open Go.RowKit in
theorem Tryz.Builder_String_any (B b : Nat) (l : List UInt8) (w : World) (h : Lib.IsBuilder 167 5 B b (Lib.byteCells l) w) (hBw : B <= w.heap.size) :
  Calls Tryz.prog 112 #[.pointer (some ⟨b, 0, none⟩)] w fun e w' => e = .returned (.string ⟨l.toArray⟩) /\ Below B w w' := Any.Builder_String_any Tryz.lays169 Tryz.Builder_Extra_169 B b l w h hBw
def Tryz.lays105_ren : Go.Shelf.Ren := ⟨fun | 105 => 121 | 212 => 130 | 99 => 131 | 165 => 132 | 166 => 111 | 170 => 133 | 169 => 112 | 263 => 142 | 264 => 143 | 206 => 144 | 240 => 126 | 241 => 145 | 276 => 137 | 277 => 147 | n => n, fun | 9 => 9 | 3 => 3 | 4 => 4 | 20 => 20 | 0 => 0 | 46 => 161 | 109 => 185 | 5 => 5 | 72 => 167 | 76 => 171 | 51 => 155 | 146 => 198 | 53 => 153 | 148 => 200 | 70 => 165 | 37 => 104 | 75 => 169 | 127 => 183 | 164 => 193 | 80 => 173 | n => n, fun | n => n⟩
theorem Tryz.lays105 : Go.Proofs.Lays.n105 Tryz.prog Tryz.lays105_ren := {
 mixed := by kernel_rfl
 f99 := Tryz.func131.trans (congrArg some (by kernel_rfl))
 f105 := Tryz.func121.trans (congrArg some (by kernel_rfl))
 f165 := Tryz.func132.trans (congrArg some (by kernel_rfl))
 f166 := Tryz.func111.trans (congrArg some (by kernel_rfl))
 f169 := Tryz.func112.trans (congrArg some (by kernel_rfl))
 f170 := Tryz.func133.trans (congrArg some (by kernel_rfl))
 f206 := Tryz.func144.trans (congrArg some (by kernel_rfl))
 f212 := Tryz.func130.trans (congrArg some (by kernel_rfl))
 f240 := Tryz.func126.trans (congrArg some (by kernel_rfl))
 f241 := Tryz.func145.trans (congrArg some (by kernel_rfl))
 f263 := Tryz.func142.trans (congrArg some (by kernel_rfl))
 f264 := Tryz.func143.trans (congrArg some (by kernel_rfl))
 f276 := Tryz.func137.trans (congrArg some (by kernel_rfl))
 f277 := Tryz.func147.trans (congrArg some (by kernel_rfl))
 t0 := Tryz.underlying0
 a0 := Tryz.isAgg0
 z0 := Tryz.sizeOf0
 v0 := Tryz.zeroValue0
 t3 := Tryz.underlying3
 a3 := Tryz.isAgg3
 z3 := Tryz.sizeOf3
 v3 := Tryz.zeroValue3
 t4 := Tryz.underlying4
 a4 := Tryz.isAgg4
 z4 := Tryz.sizeOf4
 v4 := Tryz.zeroValue4
 t5 := Tryz.underlying5
 a5 := Tryz.isAgg5
 z5 := Tryz.sizeOf5
 v5 := Tryz.zeroValue5
 t9 := Tryz.underlying9
 a9 := Tryz.isAgg9
 z9 := Tryz.sizeOf9
 v9 := Tryz.zeroValue9
 t20 := Tryz.underlying20
 a20 := Tryz.isAgg20
 z20 := Tryz.sizeOf20
 v20 := Tryz.zeroValue20
 t37 := Tryz.underlying104
 a37 := Tryz.isAgg104
 z37 := Tryz.sizeOf104
 v37 := Tryz.zeroValue104
 t46 := Tryz.underlying161
 a46 := Tryz.isAgg161
 z46 := Tryz.sizeOf161
 v46 := Tryz.zeroValue161
 t51 := Tryz.underlying155
 a51 := Tryz.isAgg155
 z51 := Tryz.sizeOf155
 v51 := Tryz.zeroValue155
 t53 := Tryz.underlying153
 a53 := Tryz.isAgg153
 z53 := Tryz.sizeOf153
 v53 := Tryz.zeroValue153
 t70 := Tryz.underlying165
 a70 := Tryz.isAgg165
 z70 := Tryz.sizeOf165
 v70 := Tryz.zeroValue165
 t72 := Tryz.underlying167
 a72 := Tryz.isAgg167
 z72 := Tryz.sizeOf167
 v72 := Tryz.zeroValue167
 t75 := Tryz.underlying169
 a75 := Tryz.isAgg169
 z75 := Tryz.sizeOf169
 v75 := Tryz.zeroValue169
 t76 := Tryz.underlying171
 a76 := Tryz.isAgg171
 z76 := Tryz.sizeOf171
 v76 := Tryz.zeroValue171
 t109 := Tryz.underlying185
 a109 := Tryz.isAgg185
 z109 := Tryz.sizeOf185
 v109 := Tryz.zeroValue185
 t127 := Tryz.underlying183
 a127 := Tryz.isAgg183
 z127 := Tryz.sizeOf183
 v127 := Tryz.zeroValue183
 t146 := Tryz.underlying198
 a146 := Tryz.isAgg198
 z146 := Tryz.sizeOf198
 v146 := Tryz.zeroValue198
 t148 := Tryz.underlying200
 a148 := Tryz.isAgg200
 z148 := Tryz.sizeOf200
 v148 := Tryz.zeroValue200
 t164 := Tryz.underlying193
 a164 := Tryz.isAgg193
 z164 := Tryz.sizeOf193
 v164 := Tryz.zeroValue193 }
theorem Tryz.Builder_Extra_105 : Builder.Extra Tryz.prog Tryz.lays105_ren := {
 sizeBuilder := by kernel_rfl
 liesBuilder := by kernel_rfl
 t5 := Tryz.underlying5
 a5 := Tryz.isAgg5
 z5 := Tryz.sizeOf5
 v5 := Tryz.zeroValue5
 infoByte := by kernel_rfl
 cellsByte := by kernel_rfl
 sizeByte := by kernel_rfl
 neB5 := by decide }
open Go.RowKit Go.Lib in
theorem Tryz.strings_Repeat (s : ByteArray) (c : Nat) (w : World) (hc : c <= 9223372036854775807) (hlen : s.size * c <= 140737488355328) :
  Calls Tryz.prog 121 #[.string s, .int .i64 c] w fun e w' => e = .returned (.string ⟨(Lib.repeatL s.data.toList c).toArray⟩) /\ Below w.heap.size w w' := Any.strings_Repeat Tryz.lays105 Tryz.Builder_Extra_105 s c w hc hlen
end Go.Proofs
end
namespace Go.Proofs.YtjgljhbmljgaeaaGreatDoor
namespace Am
section
open Go.RowKit
def zx (l : List UInt8) : List AV := l.map fun b => .int .u8 b.toNat
theorem z2c {k : Nat} : ∀ (l : List UInt8), RLs k (zx l)
 | [] => by simp [zx, RLs]
 | _ :: l => by have := z2c (k := k) l; simp only [zx] at this; simp [zx, RLs, RL, this]
theorem Rel.below {C : Ctx} {Z : Places} {Y : Store} {w w' : World} (h : Rel C Z Y w) (hb : Below w.heap.size w w') : Step Z w Z w' /\ Rel C Z Y w' := by
 have hs : Step Z w Z w' := ⟨fun r fl pl h => ⟨fl, h⟩, hb.size, fun b hb' _ => hb.block b hb', fun r pl h => .inl ⟨r, pl, h, rfl⟩, hb.os, hb.tape, hb.output⟩
 refine ⟨hs, h.len, fun r o hr => ?_, h.dead, h.inj, fun g cs hg => (h.gl g cs hg).mono hs⟩
 obtain ⟨pl, h1, h2⟩ := h.alive r o hr
 exact ⟨pl, h1, h2.mono hs (hb.block _ h2.lt)⟩
theorem ACallsTo.of_calls {C : Ctx} {f : FuncId} {args : List AV} {Y : Store} {v : AV} (hc : (cFn C f).isSome = true)
  (h : ∀ (Z : Places) (w : World) (cargs : List Value), VRt Z w args cargs -> Calls C.P f cargs.toArray w fun e w' => ∃ cv, e = .returned cv /\ VR Z w' v cv /\ Below w.heap.size w w') : ACallsTo C f args Y v Y := by
 obtain ⟨e, hc⟩ := Option.isSome_iff_exists.1 hc
 simp only [cFn, Option.bind_eq_some_iff] at hc
 obtain ⟨fn, hf, hc⟩ := hc
 split at hc
 ·cases hc
 ·rename_i hname
  simp only [Option.bind_eq_some_iff, Option.map_eq_some_iff] at hc
  obtain ⟨c, hb, _⟩ := hc
  intro Z w cargs hR ha
  left
  constructor
  ·have h1 : fn.name ≠ "runtime.NumGoroutine" := by simpa using hname
   simp [callFunc, hf, h1, hb]
  ·refine (h Z w cargs ha).mono ?_
   rintro e w' ⟨cv, rfl, hv, hbl⟩
   obtain ⟨s1, s2⟩ := hR.below hbl
   exact ⟨cv, Z, rfl, s1, s2, hv⟩
theorem zrb (b : UInt8) : ∀ n, Lib.repeatL [b] n = List.replicate n b := by
 intro n
 induction n with
 | zero => simp [Lib.repeatL]
 | succ n ih => simp [Lib.repeatL, List.replicate_succ] at ih ⊢ <;> simp [ih]
theorem zhx (Y : Store) (b : UInt8) (c : Nat) (h : c <= 1000000) : ACallsTo TC 121 [.str [b], .int .i64 c] Y (.str (List.replicate c b)) Y := by
 refine ACallsTo.of_calls (by kernel_rfl) ?_
 intro Z w cargs ha
 simp only [VRt, VR] at ha
 obtain ⟨_, _, rfl, rfl, _, _, rfl, rfl, rfl⟩ := ha
 refine (Tryz.strings_Repeat ⟨[b].toArray⟩ c w (by omega) (by simp [ByteArray.size]; omega)).mono ?_
 rintro e w' ⟨rfl, hb⟩
 refine ⟨_, rfl, ?_, hb⟩
 simp only [VR]
 rw [zrb]
theorem zlu (Y : Store) (s : List UInt8) (h : s.length < 1000000000000) : ACallsTo TC 103 [.str s] Y (.str (padS s)) Y := by
 refine ACallsTo.of_body qeok (by simp) fun hw _ => ?_
 obtain ⟨z, hz⟩ : ∃ z : Nat, z = (119 - s.length % 64) % 64 := ⟨_, rfl⟩
 have hz64 : z < 64 := by rw [hz]; exact Nat.mod_lt _ (by decide)
 have hz2 : (119 - (s.length : Int) % 64) % 64 = z := by omega
 have hp : putS ((s.length : Int) * 8) 8 = be 8 (s.length * 8) := by
  unfold putS
  rw [if_pos (by omega)]
  rfl
 have hpl : (be 8 (s.length * 8)).length = 8 := z34 _ _
 repeat' (first|apply zs_|apply zb_|apply zc_|apply zt_ rfl|apply zf_ rfl|(refine zd_ rfl (fun ht => ?_) (fun ht => ?_)<;>try (exfalso;omega))|((first|apply zr_|apply zk_|apply ze_|apply zq_|(apply callW.mk_pu; (first | exact (fun _ => zhx _ 0 z (by omega)) | exact (fun _ => z65 _ ((s.length : Int) * 8) 8 (by omega) (by omega)))) | (apply callW.za; (first | exact (zhx _ 0 z (by omega)) | exact (z65 _ ((s.length : Int) * 8) 8 (by omega) (by omega)))) | ((first|apply zg0|apply zg1|apply zg2|apply zg3|apply zg4|apply zg5|apply zg6|apply zg7)<;>intro ht));all_goals try simp (disch:=first|omega|(simp only [lens];first|done|omega)) only [go_sem,nQ1,nQ2,nQ3,nQ4,nQ5,nQ6,nQ7,nQ8,hz2,hp,hpl,List.length_replicate]))
 have e : s ++ ([128] ++ (List.replicate z 0 ++ be 8 (s.length * 8))) = padS s := by unfold padS; rw [<- hz]; rfl
 rw [show s ++ 128 :: (List.replicate z 0 ++ be 8 (s.length * 8)) = padS s by unfold padS; rw [<- hz]]
 exact DownV.same hw (z14 _ rfl)
theorem zh9 (s : List UInt8) : (padS s).length % 64 = 0 /\ (padS s).length < s.length + 80 := by
 unfold padS
 simp only [List.length_append, List.length_cons, List.length_replicate, z34]
 omega
theorem zm1 : zcb = v0.c8 := rfl
theorem put4 (x : W) : putS (x.toNat : Int) 4 = be 4 x.toNat := by
 unfold putS
 rw [if_pos (by omega)]
 rfl
theorem mix_c8 (Y : Store) (v : V8) (s : List UInt8) (h : 64 <= s.length) (hs : s.length < 9223372036854775808) : ACallsTo TC 104 [.agg v.c8, .str s] Y (.agg (mixS v s).c8) Y := mix_to Y v s h hs
theorem zly {l : List W} {j : Nat} (h : j < l.length) : (l.flatMap fun x => be 4 x.toNat).take (4 * j) ++ be 4 (l[j]).toNat = (l.flatMap fun x => be 4 x.toNat).take (4 * (j + 1)) := by
 induction l generalizing j with
 | nil => simp at h
 | cons x l ih =>
  have hb : (be 4 x.toNat).length = 4 := z34 _ _
  rw [List.flatMap_cons]
  cases j with
  | zero =>
   simp only [Nat.mul_zero, List.take_zero, List.nil_append, List.getElem_cons_zero, Nat.zero_add, Nat.mul_one]
   rw [List.take_append_of_le_length (by omega), List.take_of_length_le (by omega)]
  | succ j =>
   simp only [List.length_cons] at h
   have e1 : (be 4 x.toNat).take (4 * (j + 1)) = be 4 x.toNat := List.take_of_length_le (by omega)
   have e2 : (be 4 x.toNat).take (4 * (j + 1 + 1)) = be 4 x.toNat := List.take_of_length_le (by omega)
   rw [List.getElem_cons_succ, List.take_append, List.take_append, e1, e2, hb, List.append_assoc, show 4 * (j + 1) - 4 = 4 * j by omega, show 4 * (j + 1 + 1) - 4 = 4 * (j + 1) by omega, ih (by omega)]
theorem z4a (v : V8) : (outV v).length = 32 := by
 simp [outV, V8.l, z34]
def z3q (v : V8) (j : Nat) : List AV := zx ((outV v).take (4 * j)) ++ List.replicate (32 - 4 * j) (.int .u8 0)
theorem z11 (l : List UInt8) : (zx l).length = l.length := by simp [zx]
theorem zmd (v : V8) {j : Nat} (h : j <= 8) : (z3q v j).length = 32 := by
 simp [z3q, z11, z4a]; omega
theorem zf5 (l : List UInt8) : (zh l).flatten = zx l := by
 induction l with
 | nil => rfl
 | cons b l ih => simp [zh, zx, B8] at ih ⊢; exact ih
theorem zme (v : V8) {j : Nat} (h : j < 8) : z19 (z3q v j) (4 * j) (zx (be 4 (wat v.l j).toNat)) = z3q v (j + 1) := by
 have hl : v.l.length = 8 := rfl
 have e := zly (l := v.l) (j := j) (by omega)
 have hw : wat v.l j = v.l[j]'(by omega) := by simp [wat, List.getD_eq_getElem?_getD, List.getElem?_eq_getElem (show j < v.l.length by omega)]
 have h1 : (zx ((outV v).take (4 * j))).length = 4 * j := by rw [z11, List.length_take, z4a]; omega
 have h2 : (zx (be 4 (wat v.l j).toNat)).length = 4 := by rw [z11, z34]
 unfold z19 z3q
 rw [List.take_append_of_le_length (by omega), List.take_of_length_le (by omega), List.drop_append, List.drop_of_length_le (by omega), h1, h2, List.nil_append]
 rw [show 4 * j + 4 - 4 * j = 4 by omega, List.drop_replicate, show 32 - 4 * j - 4 = 32 - 4 * (j + 1) by omega]
 congr 1
 unfold zx
 rw [<- List.map_append]
 congr 1
 rw [hw]
 exact e
set_option maxHeartbeats 4000000 in
theorem z7d (Y : Store) (s : List UInt8) (h : s.length < 100000000000) : ACallsTo TC 72 [.str s] Y (.agg (zx (shaS s))) Y := by
 obtain ⟨p, hp⟩ : ∃ p, p = padS s := ⟨_, rfl⟩
 obtain ⟨hp1, hp2⟩ := zh9 s
 rw [<- hp] at hp1 hp2
 obtain ⟨N, hN⟩ : ∃ N, p.length = 64 * N := ⟨p.length / 64, by omega⟩
 obtain ⟨V, hV⟩ : ∃ V, V = blocks N v0 p := ⟨_, rfl⟩
 have hS : shaS s = outV V := by
  unfold shaS
  rw [<- hp, hV]
  have : p.length / 64 = N := by omega
  rw [this]
 rw [hS]
 have hf := fun Y => zlu Y s (by omega)
 rw [<- hp] at hf
 refine ACallsTo.of_body qbok (by simp) fun hw _ => ?_
 repeat' (first|apply zs_|apply zb_|apply zc_|apply zt_ rfl|apply zf_ rfl|(refine zd_ rfl (fun ht => ?_) (fun ht => ?_)<;>try (exfalso;omega))|((first|apply zr_|apply zk_|apply ze_|apply zq_|(apply callW.mk_pu; (first | exact (fun _ => hf _))) | (apply callW.za; (first | exact (hf _))) | ((first|apply zg0|apply zg1|apply zg2|apply zg3|apply zg4|apply zg5|apply zg6|apply zg7)<;>intro ht));all_goals try simp (disch:=first|omega|(simp only [lens];first|done|omega)) only [go_sem,nQ1,nQ2,nQ3,nQ4,nQ5,nQ6,nQ7,nQ8,zm1,V8.c8]))
 refine zW.loop (fun m O Y' => ∃ u q, q.length = 64 * m /\ q.length <= p.length /\ blocks m u q = V /\ O 2 = .ptr Y.length 0 0 /\ O 3 = .ptr (Y.length + 1) 0 0 /\ O 4 = .str q /\ Y' = Y ++ [some [zx (List.replicate 32 0)], some [u.c8]]) N ?_ ?_
 ·exact ⟨v0, p, hN, Nat.le_refl _, hV.symm, by simp (disch:=first|omega|(simp only [lens];first|done|omega)) only [go_sem,nQ1,nQ2,nQ3,nQ4,nQ5,nQ6,nQ7,nQ8],by simp (disch:=first|omega|(simp only [lens];first|done|omega)) only [go_sem,nQ1,nQ2,nQ3,nQ4,nQ5,nQ6,nQ7,nQ8],by simp (disch:=first|omega|(simp only [lens];first|done|omega)) only [go_sem,nQ1,nQ2,nQ3,nQ4,nQ5,nQ6,nQ7,nQ8],rfl⟩
 ·rintro m O Y' ⟨u, q, hq, hqp, hb, q2, q3, q4, rfl⟩
  have hz : (zx (List.replicate 32 0)).length = 32 := rfl
  cases m with
  | succ m =>
   have hne : (q == []) = false := by cases q with
    | nil => simp at hq
    | cons a q => rfl
   have hmix := fun Y => mix_c8 Y u (q.take 64) (by rw [List.length_take]; omega) (by rw [List.length_take]; omega)
   obtain ⟨M, hM⟩ : ∃ M, M = mixS u (q.take 64) := ⟨_, rfl⟩
   rw [<- hM] at hmix
   have hb2 : blocks m M (q.drop 64) = V := by rw [hM]; exact hb
   unfold V8.c8 at hmix
   repeat' (first | refine zs_ ?_ | refine zb_ ?_ | refine zc_ ?_ | refine zt_ rfl ?_ | refine zf_ rfl ?_ | (refine zd_ rfl (fun ht => ?_) (fun ht => ?_) <;> try (exfalso; omega)) | ((first | refine zW.regS ?_ | refine zk_ ?_ | refine ze_ ?_ | refine zq_ ?_ | (apply callW.mk_pu; (first | exact (fun _ => hmix _))) | (apply callW.za; (first | exact (hmix _))) | ((first|apply zg0|apply zg1|apply zg2|apply zg3|apply zg4|apply zg5|apply zg6|apply zg7)<;>intro ht));all_goals try simp (disch:=first|omega|(simp only [lens];first|done|omega)) only [go_sem,nQ1,nQ2,nQ3,nQ4,nQ5,nQ6,nQ7,nQ8,q2,q3,q4,hne,V8.c8]))
   refine ⟨m, by omega, M, q.drop 64, by rw [List.length_drop]; omega, by rw [List.length_drop]; omega, hb2, rfl, rfl⟩
  | zero =>
   have hq0 : q = [] := List.eq_nil_of_length_eq_zero (by omega)
   subst hq0
   have hu : u = V := hb
   subst hu
   repeat' (first|apply zs_|apply zb_|apply zc_|apply zt_ rfl|apply zf_ rfl|(refine zd_ rfl (fun ht => ?_) (fun ht => ?_)<;>try (exfalso;omega))|((first|apply zr_|apply zk_|apply ze_|apply zq_|((first|apply zg0|apply zg1|apply zg2|apply zg3|apply zg4|apply zg5|apply zg6|apply zg7)<;>intro ht));all_goals try simp (disch:=first|omega|(simp only [lens];first|done|omega)) only [go_sem,nQ1,nQ2,nQ3,nQ4,nQ5,nQ6,nQ7,nQ8,q2,q3,q4,V8.c8]))
   refine zW.loop (fun m O Y' => ∃ j : Nat, m + j = 8 /\ O 2 = .ptr Y.length 0 0 /\ O 5 = .ptr (Y.length + 2) 0 0 /\ O 19 = .agg u.c8 /\ O 20 = .int .i64 j /\ Y' = Y ++ [some [zx (List.replicate 32 0)], some [u.c8], some [z3q u j]]) 8 ?_ ?_
   ·exact ⟨0, by omega, by simp (disch:=first|omega|(simp only [lens];first|done|omega)) only [go_sem,nQ1,nQ2,nQ3,nQ4,nQ5,nQ6,nQ7,nQ8,q2],by simp (disch:=first|omega|(simp only [lens];first|done|omega)) only [go_sem,nQ1,nQ2,nQ3,nQ4,nQ5,nQ6,nQ7,nQ8],by simp (disch:=first|omega|(simp only [lens];first|done|omega)) only [go_sem,nQ1,nQ2,nQ3,nQ4,nQ5,nQ6,nQ7,nQ8]; rfl,by simp (disch:=first|omega|(simp only [lens];first|done|omega)) only [go_sem,nQ1,nQ2,nQ3,nQ4,nQ5,nQ6,nQ7,nQ8]; rfl,rfl⟩
   ·clear q2 q3 q4
    rintro m O Y' ⟨j, hm, q2, q5, q19, q20, rfl⟩
    have hlen := zmd u (j := j) (by omega)
    have h8 : u.c8.length = 8 := rfl
    by_cases hj : j < 8
    ·have hst := zme u hj
     have hw := z7j (w := u.l) (i := j) (by simpa [V8.l] using hj)
     rw [ws_l] at hw
     generalize wat u.l j = x at *
     generalize z3q u j = cc at *
     generalize hcc : z3q u (j + 1) = cc' at *
     have hx : x.toNat < 4294967296 := x.isLt
     have hb4 : (be 4 x.toNat).length = 4 := z34 _ _
     have ht4 : (zh (be 4 x.toNat)).take (32 - 4 * j) = zh (be 4 x.toNat) := List.take_of_length_le (by rw [zl, hb4]; omega)
     have hn4 : (4 * (j : Int)).toNat = 4 * j := by omega
     repeat' (first | refine zs_ ?_ | refine zb_ ?_ | refine zc_ ?_ | refine zt_ rfl ?_ | refine zf_ rfl ?_ | (refine zd_ rfl (fun ht => ?_) (fun ht => ?_) <;> try (exfalso; omega)) | ((first | refine zW.regS ?_ | refine zk_ ?_ | refine ze_ ?_ | refine zq_ ?_ | (apply callW.mk_pu; (first | exact (fun _ => z65 _ _ _ (by omega) (by omega)))) | (apply callW.za; (first | exact (z65 _ _ _ (by omega) (by omega)))) | ((first|apply zg0|apply zg1|apply zg2|apply zg3|apply zg4|apply zg5|apply zg6|apply zg7)<;>intro ht));all_goals try simp (disch:=first|omega|(simp only [lens];first|done|omega)) only [go_sem,nQ1,nQ2,nQ3,nQ4,nQ5,nQ6,nQ7,nQ8,q2,q5,q19,q20,hlen,h8,hw,put4,hb4,ht4,hst,hn4,zf5]))
     unfold z19 at hst
     rw [List.append_assoc] at hst
     exact ⟨8 - (j + 1), by omega, j + 1, by omega, by simp, by rw [hst, hcc]⟩
    ·obtain rfl : j = 8 := by omega
     have e8 : z3q u 8 = zx (outV u) := by
      unfold z3q
      rw [List.take_of_length_le (by rw [z4a]; decide)]
      exact List.append_nil _
     have hd : List.drop 32 (zx (List.replicate 32 0)) = [] := rfl
     have hl : (zx (outV u)).length = 32 := by rw [z11, z4a]
     rw [e8] at *
     repeat' (first|apply zs_|apply zb_|apply zc_|apply zt_ rfl|apply zf_ rfl|(refine zd_ rfl (fun ht => ?_) (fun ht => ?_)<;>try (exfalso;omega))|((first|apply zr_|apply zk_|apply ze_|apply zq_|((first|apply zg0|apply zg1|apply zg2|apply zg3|apply zg4|apply zg5|apply zg6|apply zg7)<;>intro ht));all_goals try simp (disch:=first|omega|(simp only [lens];first|done|omega)) only [go_sem,nQ1,nQ2,nQ3,nQ4,nQ5,nQ6,nQ7,nQ8,q2,q5,q19,q20,hl,h8,hd]))
     exact DownV.pure hw (z2x (z2c _))
end
end Am
end Go.Proofs.YtjgljhbmljgaeaaGreatDoor
