/- Functions on bits: how many are 1. -/
import Derived.Test.YtkffgmpbhahioaaAmAuto
import Derived.Test.YtkffgmpbhahioaaBitsLen
import Derived.Test.YtkffgmpbhahioaaBitsPc
set_option linter.unusedSimpArgs false
namespace Go.Proofs.Ytkffgmpbhahioaa
namespace Am
theorem byB8 (g : Nat → Nat) (x : Nat) : byB g 8 x = g (x % 256) + 256 * (g (x / 256 % 256) + 256 * (g (x / 65536 % 256) + 256 * (g (x / 16777216 % 256) + 256 * (g (x / 4294967296 % 256) + 256 * (g (x / 1099511627776 % 256) + 256 * (g (x / 281474976710656 % 256) + 256 * g (x / 72057594037927936 % 256))))))) := by
  simp only [byB, Nat.div_div_eq_div_mul, Nat.reduceMul]
  omega
theorem pc64 (x : Nat) (_ : x < 18446744073709551616) : pc 64 x = pc 8 (x % 256) + pc 8 (x / 256 % 256) + pc 8 (x / 65536 % 256) + pc 8 (x / 16777216 % 256) + pc 8 (x / 4294967296 % 256) + pc 8 (x / 1099511627776 % 256) + pc 8 (x / 281474976710656 % 256) + pc 8 (x / 72057594037927936 % 256) := by
  have e0 := pc_bytes 56 x
  have e1 := pc_bytes 48 (x / 256)
  have e2 := pc_bytes 40 (x / 256 / 256)
  have e3 := pc_bytes 32 (x / 256 / 256 / 256)
  have e4 := pc_bytes 24 (x / 256 / 256 / 256 / 256)
  have e5 := pc_bytes 16 (x / 256 / 256 / 256 / 256 / 256)
  have e6 := pc_bytes 8 (x / 256 / 256 / 256 / 256 / 256 / 256)
  have e7 := pc_bytes 0 (x / 256 / 256 / 256 / 256 / 256 / 256 / 256)
  have e8 : pc 0 (x / 256 / 256 / 256 / 256 / 256 / 256 / 256 / 256) = 0 := rfl
  rw [e8] at e7
  simp only [Nat.reduceAdd, Nat.div_div_eq_div_mul, Nat.reduceMul, Nat.add_zero] at e0 e1 e2 e3 e4 e5 e6 e7
  rw [e0, e1, e2, e3, e4, e5, e6, e7]
  simp only [Nat.add_assoc]
theorem pc8_le (x : Nat) : pc 8 (x % 256) ≤ 8 := (st12 ⟨x % 256, by omega⟩).2.2.2.2.2
theorem sum8 (b0 b1 b2 b3 b4 b5 b6 b7 : Nat) (h0 : b0 ≤ 8) (h1 : b1 ≤ 8) (h2 : b2 ≤ 8) (h3 : b3 ≤ 8) (h4 : b4 ≤ 8) (h5 : b5 ≤ 8) (h6 : b6 ≤ 8) (h7 : b7 ≤ 8) (y y1 y2 y3 : Nat) 
   (hy : y = b0 + 256 * (b1 + 256 * (b2 + 256 * (b3 + 256 * (b4 + 256 * (b5 + 256 * (b6 + 256 * b7))))))) 
    (hy1 : y1 = y + y / 256)
    (hy2 : y2 = y1 + y1 / 65536) (hy3 : y3 = y2 + y2 / 4294967296) :
    y3 < 18446744073709551616 ∧ y3 % 128 = b0 + b1 + b2 + b3 + b4 + b5 + b6 + b7 := by
  have e1 : y / 256 = b1 + 256 * (b2 + 256 * (b3 + 256 * (b4 + 256 * (b5 + 256 * (b6 + 256 * b7))))) := by clear hy1 hy2 hy3; omega
  have e2 : y1 = (b0 + b1) + 256 * ((b1 + b2) + 256 * ((b2 + b3) + 256 * ((b3 + b4) + 256 * ((b4 + b5) + 256 * ((b5 + b6) + 256 * ((b6 + b7) + 256 * b7)))))) := by rw [hy1, e1, hy]; clear e1 hy hy1 hy2 hy3; omega
  clear e1 hy hy1
  have e3 : y1 / 65536 = (b2 + b3) + 256 * ((b3 + b4) + 256 * ((b4 + b5) + 256 * ((b5 + b6) + 256 * ((b6 + b7) + 256 * b7)))) := by clear hy2 hy3; omega
  have e4 : y2 = (b0 + b1 + b2 + b3) + 256 * ((b1 + b2 + b3 + b4) + 256 * ((b2 + b3 + b4 + b5) + 256 * ((b3 + b4 + b5 + b6) + 256 * ((b4 + b5 + b6 + b7) + 256 * ((b5 + b6 + b7) + 256 * ((b6 + b7) + 256 * b7)))))) := by
    rw [hy2, e3, e2]; clear e3 e2 hy2 hy3; omega
  clear e2 e3 hy2
  have e5 : y2 / 4294967296 = (b4 + b5 + b6 + b7) + 256 * ((b5 + b6 + b7) + 256 * ((b6 + b7) + 256 * b7)) := by clear hy3; omega
  rw [e5, e4] at hy3
  clear e4 e5
  omega
theorem nib4_le : ∀ (n x : Nat), nib4 n x → x ≤ rep 68 n
  | 0, x, h => by simp only [nib4] at h; simp [rep, h]
  | n + 1, x, h => by
    obtain ⟨h1, h2, h3⟩ := h
    have := nib4_le n (x / 256) h3
    simp only [rep]
    omega
theorem conv_mask (z : Nat) (hz : z < 18446744073709551616) : intBin .and .i64 (IntKind.i64.wrap (z : Int)) 127 = some (.int .i64 ((z % 128 : Nat) : Int)) := by
  have ew : (BitVec.ofInt IntKind.i64.bits (IntKind.i64.wrap (z : Int))).toNat = z := by
    rw [BitVec.toNat_ofInt]
    simp only [IntKind.wrap, IntKind.signed, IntKind.bits]
    simp
    split <;> omega
  have e7 : (BitVec.ofInt IntKind.i64.bits 127).toNat = 2 ^ 7 - 1 := by decide
  have ea : (BitVec.ofInt IntKind.i64.bits (IntKind.i64.wrap (z : Int)) &&& BitVec.ofInt IntKind.i64.bits 127).toNat = z % 128 := by
    rw [BitVec.toNat_and, ew, e7]
    exact Nat.and_two_pow_sub_one_eq_mod z 7
  simp only [intBin]
  rw [ea, w_i64 ⟨by omega, by omega⟩]
theorem bits_OnesCount64_to (σ : Store) (x : Int) (h : 0 ≤ x ∧ x < 18446744073709551616) : ACallsTo TC 52 [.int .u64 x] σ (.int .i64 (pc 64 x.toNat)) σ := by
  refine ACallsTo.of_body bits_OnesCount64_ok (by simp) fun hw _ => ?_
  obtain ⟨x, rfl⟩ : ∃ n : Nat, x = n := ⟨x.toNat, by omega⟩
  rw [Int.toNat_natCast]
  have hx : x < 256 ^ 8 := by omega
  have h1 := step1 8 x hx
  have h2 := step2 8 (byB st1 8 x) (byB_lt (fun b hb => (st12 ⟨b, hb⟩).1) 8 x)
  rw [byB_byB (fun b hb => (st12 ⟨b, hb⟩).1)] at h2
  have h3 := step3 8 (byB (fun b => st2 (st1 b)) 8 x) (nib4_12 8 x)
  rw [byB_byB (fun b hb => (st12 ⟨b, hb⟩).2.1)] at h3
  have e3 : byB (fun b => st3 (st2 (st1 b))) 8 x = byB (pc 8) 8 x := by
    simp only [byB8]
    have : ∀ y, st3 (st2 (st1 (y % 256))) = pc 8 (y % 256) := fun y => (st12 ⟨y % 256, by omega⟩).2.2.2.2.1
    simp only [this]
  rw [e3] at h3
  have k1 : rep 85 8 = 6148914691236517205 := by simp only [rep]
  have k2 : rep 51 8 = 3689348814741910323 := by simp only [rep]
  have k3 : rep 15 8 = 1085102592571150095 := by simp only [rep]
  rw [k1] at h1; rw [k2] at h2; rw [k3] at h3
  have l1 : byB st1 8 x < 18446744073709551616 := by
    have h := byB_lt (g := st1) (fun b hb => (st12 ⟨b, hb⟩).1) 8 x
    omega
  have l2 : byB (fun b => st2 (st1 b)) 8 x ≤ 4919131752989213764 := by
    have h := nib4_le 8 _ (nib4_12 8 x)
    simp only [rep] at h
    omega
  have hs := sum8 _ _ _ _ _ _ _ _ (pc8_le x) (pc8_le (x / 256)) (pc8_le (x / 65536)) (pc8_le (x / 16777216)) (pc8_le (x / 4294967296)) (pc8_le (x / 1099511627776)) (pc8_le (x / 281474976710656)) (pc8_le (x / 72057594037927936)) _ _ _ _ rfl rfl rfl rfl
  rw [← byB8, ← pc64 x (by omega)] at hs
  generalize byB (pc 8) 8 x = y3 at *
  generalize byB (fun b => st2 (st1 b)) 8 x = y2 at *
  generalize byB st1 8 x = y1 at *
  clear e3
  try simp only at hs l2
  have hle : pc 64 x ≤ 64 := by
    rw [pc64 x (by omega)]
    have := pc8_le x; have := pc8_le (x / 256); have := pc8_le (x / 65536); have := pc8_le (x / 16777216); have := pc8_le (x / 4294967296); have := pc8_le (x / 1099511627776); have := pc8_le (x / 281474976710656); have := pc8_le (x / 72057594037927936)
    omega
  generalize pc 64 x = p at *
  have hy3 : y3 < 18446744073709551616 := by omega
  have t6 : ∀ (ρ : Env) (z : Nat), z < 18446744073709551616 → z % 128 = p → ρ 0 = .int .u64 (z : Int) → SWp TC 35 σ.length bits_OnesCount64_c8 (endQ σ.length [2] (.int .i64 p) σ) ρ σ := by
    intro ρ z hs1 hs2 q0
    have e6 := conv_mask z hs1
    rw [hs2] at e6
    repeat' (first | refine SWp.seq ?_ | refine SWp.block ?_ | (refine SWp.reg ?_; (simp (disch := omega) only [go_sem, Nat.reduceEqDiff, Nat.reduceBEq, Nat.reduceAdd, Int.reduceToNat, Int.reducePow, q0, e6])) | refine SWp.condT rfl ?_ | refine SWp.condF rfl ?_ | (refine SWp.condD rfl (fun ht => ?_) (fun ht => ?_) <;> try (exfalso; omega)) | (refine SWp.skip ?_; try (simp (disch := omega) only [go_sem, Nat.reduceEqDiff, Nat.reduceBEq, Nat.reduceAdd, Int.reduceToNat, Int.reducePow, q0, e6])) | (refine SWp.exit ?_; try (simp (disch := omega) only [go_sem, Nat.reduceEqDiff, Nat.reduceBEq, Nat.reduceAdd, Int.reduceToNat, Int.reducePow, q0, e6])) | (refine SWp.ret ?_; try (simp (disch := omega) only [go_sem, Nat.reduceEqDiff, Nat.reduceBEq, Nat.reduceAdd, Int.reduceToNat, Int.reducePow, q0, e6])) | (refine splitG (fun ht => ?_) (fun ht => ?_) <;> (simp (disch := omega) only [go_sem, Nat.reduceEqDiff, Nat.reduceBEq, Nat.reduceAdd, Int.reduceToNat, Int.reducePow, q0, e6])) | (refine splitCG (fun ht => ?_) (fun ht => ?_) <;> (simp (disch := omega) only [go_sem, Nat.reduceEqDiff, Nat.reduceBEq, Nat.reduceAdd, Int.reduceToNat, Int.reducePow, q0, e6])) | (refine splitB (fun ht => ?_) (fun ht => ?_) <;> (simp (disch := omega) only [go_sem, Nat.reduceEqDiff, Nat.reduceBEq, Nat.reduceAdd, Int.reduceToNat, Int.reducePow, q0, e6])) | (refine splitCB (fun ht => ?_) (fun ht => ?_) <;> (simp (disch := omega) only [go_sem, Nat.reduceEqDiff, Nat.reduceBEq, Nat.reduceAdd, Int.reduceToNat, Int.reducePow, q0, e6])))
    exact DownV.same hw (rlB_ok _ rfl)
  have t5 : ∀ ρ : Env, ρ 0 = .int .u64 ((y3 + y3 / 256 + (y3 + y3 / 256) / 65536 : Nat) : Int) → SWp TC 35 σ.length bits_OnesCount64_c9 (endQ σ.length [2] (.int .i64 p) σ) ρ σ := by
    intro ρ q0
    refine SWp.seqReg ?_
    simp (disch := omega) only [go_sem, Nat.reduceEqDiff, Nat.reduceBEq, Nat.reduceAdd, Int.reduceToNat, Int.reducePow, q0]
    exact t6 _ _ hs.1 hs.2 (by simp (disch := omega) only [go_sem, Nat.reduceEqDiff, Nat.reduceBEq, Nat.reduceAdd, Int.reduceToNat, Int.reducePow, Int.natCast_add, Int.natCast_ediv, Int.cast_ofNat_Int])
  have t4 : ∀ ρ : Env, ρ 0 = .int .u64 ((y3 + y3 / 256 : Nat) : Int) → SWp TC 35 σ.length bits_OnesCount64_c10 (endQ σ.length [2] (.int .i64 p) σ) ρ σ := by
    intro ρ q0
    refine SWp.seqReg ?_
    simp (disch := omega) only [go_sem, Nat.reduceEqDiff, Nat.reduceBEq, Nat.reduceAdd, Int.reduceToNat, Int.reducePow, q0]
    exact t5 _ (by simp (disch := omega) only [go_sem, Nat.reduceEqDiff, Nat.reduceBEq, Nat.reduceAdd, Int.reduceToNat, Int.reducePow, Int.natCast_add, Int.natCast_ediv, Int.cast_ofNat_Int])
  have t3 : ∀ ρ : Env, ρ 0 = .int .u64 (y3 : Int) → SWp TC 35 σ.length bits_OnesCount64_c11 (endQ σ.length [2] (.int .i64 p) σ) ρ σ := by
    intro ρ q0
    refine SWp.seqReg ?_
    simp (disch := omega) only [go_sem, Nat.reduceEqDiff, Nat.reduceBEq, Nat.reduceAdd, Int.reduceToNat, Int.reducePow, q0]
    exact t4 _ (by simp (disch := omega) only [go_sem, Nat.reduceEqDiff, Nat.reduceBEq, Nat.reduceAdd, Int.reduceToNat, Int.reducePow, Int.natCast_add, Int.natCast_ediv, Int.cast_ofNat_Int])
  have t2 : ∀ ρ : Env, ρ 0 = .int .u64 (y2 : Int) → SWp TC 35 σ.length bits_OnesCount64_c12 (endQ σ.length [2] (.int .i64 p) σ) ρ σ := by
    intro ρ q0
    refine SWp.seqReg ?_
    have e : ((y2 : Int) / 16 + (y2 : Int)).toNat = y2 / 16 + y2 := by omega
    simp (disch := omega) only [go_sem, Nat.reduceEqDiff, Nat.reduceBEq, Nat.reduceAdd, Int.reduceToNat, Int.reducePow, q0, e, h3]
    exact t3 _ (by simp (disch := omega) only [go_sem, Nat.reduceEqDiff, Nat.reduceBEq, Nat.reduceAdd, Int.reduceToNat, Int.reducePow])
  have t1 : ∀ ρ : Env, ρ 0 = .int .u64 (y1 : Int) → SWp TC 35 σ.length bits_OnesCount64_c13 (endQ σ.length [2] (.int .i64 p) σ) ρ σ := by
    intro ρ q0
    refine SWp.seqReg ?_
    have e : ((y1 : Int) / 4).toNat = y1 / 4 := by omega
    have e' : ((y1 / 4 &&& 3689348814741910323 : Nat) : Int) + ((y1 &&& 3689348814741910323 : Nat) : Int) = (y2 : Int) := by omega
    simp (disch := omega) only [go_sem, Nat.reduceEqDiff, Nat.reduceBEq, Nat.reduceAdd, Int.reduceToNat, Int.reducePow, q0, e, e']
    exact t2 _ (by simp (disch := omega) only [go_sem, Nat.reduceEqDiff, Nat.reduceBEq, Nat.reduceAdd, Int.reduceToNat, Int.reducePow])
  refine SWp.seqReg ?_
  simp (disch := omega) only [go_sem, Nat.reduceEqDiff, Nat.reduceBEq, Nat.reduceAdd, Int.reduceToNat, Int.reducePow]
  refine SWp.seqReg ?_
  have e : ((x : Int) / 2).toNat = x / 2 := by omega
  have e' : ((x / 2 &&& 6148914691236517205 : Nat) : Int) + ((x &&& 6148914691236517205 : Nat) : Int) = (y1 : Int) := by omega
  simp (disch := omega) only [go_sem, Nat.reduceEqDiff, Nat.reduceBEq, Nat.reduceAdd, Int.reduceToNat, Int.reducePow, e, e']
  refine t1 _ ?_
  simp (disch := omega) only [go_sem, Nat.reduceEqDiff, Nat.reduceBEq, Nat.reduceAdd, Int.reduceToNat, Int.reducePow]
end Am
end Go.Proofs.Ytkffgmpbhahioaa
