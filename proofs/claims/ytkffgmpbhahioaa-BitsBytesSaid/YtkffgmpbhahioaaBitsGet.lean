/- Functions on bits: Get, Bit, Left, Right. -/
import Derived.Test.YtkffgmpbhahioaaBitsAll
set_option linter.unusedSimpArgs false
namespace Go.Proofs.Ytkffgmpbhahioaa
namespace Am
/-- The number of bytes, the highest first. -/
def val (s : List UInt8) : Nat := s.foldl (fun n b => 256 * n + b.toNat) 0
theorem val_snoc (s : List UInt8) (b : UInt8) : val (s ++ [b]) = 256 * val s + b.toNat := by simp [val]
theorem take_snoc {α : Type} (s : List α) (i : Nat) (d : α) (h : i < s.length) : s.take (i + 1) = s.take i ++ [s.getD i d] := by
  rw [List.take_add_one, getQ s i d h]; rfl
theorem val_take (s : List UInt8) (i : Nat) (h : i < s.length) : val (s.take (i + 1)) = 256 * val (s.take i) + (s.getD i 0).toNat := by
  rw [take_snoc s i 0 h, val_snoc]
theorem val_lt : ∀ (i : Nat) (s : List UInt8), i ≤ s.length → val (s.take i) < 256 ^ i
  | 0, s, _ => by simp [val]
  | i + 1, s, h => by
    have := val_lt i s (by omega)
    have hb := (s.getD i 0).toNat_lt
    rw [val_take s i (by omega), Nat.pow_succ]
    omega
def getS (s : List UInt8) : Nat := val (s.take 8)
theorem getS_lt (s : List UInt8) : getS s < 18446744073709551616 := by
  unfold getS
  by_cases h : 8 ≤ s.length
  · have := val_lt 8 s h; omega
  · rw [List.take_of_length_le (by omega)]
    have := val_lt s.length s (Nat.le_refl _)
    rw [List.take_length] at this
    have h2 : 256 ^ s.length ≤ 256 ^ 8 := Nat.pow_le_pow_right (by decide) (by omega)
    omega
theorem bits_Get_to (σ : Store) (s : List UInt8) (hs : s.length < 9223372036854775808) : ACallsTo TC 42 [.str s] σ (.int .u64 (getS s)) σ := by
  refine ACallsTo.of_body bits_Get_ok (by simp) fun hw _ => ?_
  obtain ⟨k, hk, hk2⟩ : ∃ k : Nat, (k : Int) = (if (8 : Int) < s.length then (8 : Int) else (s.length : Int)) ∧ k = min 8 s.length := ⟨min 8 s.length, by split <;> omega, rfl⟩
  have hgs : getS s = val (s.take k) := by
    rw [hk2, getS]
    by_cases h : 8 ≤ s.length
    · rw [Nat.min_eq_left h]
    · rw [Nat.min_eq_right (by omega), List.take_of_length_le (by omega), List.take_length]
  rw [hgs]
  repeat' (first | refine SWp.seq ?_ | refine SWp.block ?_ | (refine SWp.reg ?_; (simp (disch := omega) only [go_sem, Nat.reduceEqDiff, Nat.reduceBEq, Nat.reduceAdd, Nat.reduceMul, Nat.reduceSub, Nat.reduceLeDiff, Int.reduceToNat, Int.reducePow, ← hk])) | refine SWp.condT rfl ?_ | refine SWp.condF rfl ?_ | (refine SWp.condD rfl (fun ht => ?_) (fun ht => ?_) <;> try (exfalso; omega)) | (refine SWp.skip ?_; try (simp (disch := omega) only [go_sem, Nat.reduceEqDiff, Nat.reduceBEq, Nat.reduceAdd, Nat.reduceMul, Nat.reduceSub, Nat.reduceLeDiff, Int.reduceToNat, Int.reducePow, ← hk])) | (refine SWp.exit ?_; try (simp (disch := omega) only [go_sem, Nat.reduceEqDiff, Nat.reduceBEq, Nat.reduceAdd, Nat.reduceMul, Nat.reduceSub, Nat.reduceLeDiff, Int.reduceToNat, Int.reducePow, ← hk])) | (refine SWp.ret ?_; try (simp (disch := omega) only [go_sem, Nat.reduceEqDiff, Nat.reduceBEq, Nat.reduceAdd, Nat.reduceMul, Nat.reduceSub, Nat.reduceLeDiff, Int.reduceToNat, Int.reducePow, ← hk])) | (refine splitG (fun ht => ?_) (fun ht => ?_) <;> (simp (disch := omega) only [go_sem, Nat.reduceEqDiff, Nat.reduceBEq, Nat.reduceAdd, Nat.reduceMul, Nat.reduceSub, Nat.reduceLeDiff, Int.reduceToNat, Int.reducePow, ← hk])) | (refine splitCG (fun ht => ?_) (fun ht => ?_) <;> (simp (disch := omega) only [go_sem, Nat.reduceEqDiff, Nat.reduceBEq, Nat.reduceAdd, Nat.reduceMul, Nat.reduceSub, Nat.reduceLeDiff, Int.reduceToNat, Int.reducePow, ← hk])) | (refine splitB (fun ht => ?_) (fun ht => ?_) <;> (simp (disch := omega) only [go_sem, Nat.reduceEqDiff, Nat.reduceBEq, Nat.reduceAdd, Nat.reduceMul, Nat.reduceSub, Nat.reduceLeDiff, Int.reduceToNat, Int.reducePow, ← hk])) | (refine splitCB (fun ht => ?_) (fun ht => ?_) <;> (simp (disch := omega) only [go_sem, Nat.reduceEqDiff, Nat.reduceBEq, Nat.reduceAdd, Nat.reduceMul, Nat.reduceSub, Nat.reduceLeDiff, Int.reduceToNat, Int.reducePow, ← hk])))
  refine SWp.loop (fun m ρ σ' => σ' = σ ∧ ∃ (i : Nat), ρ 0 = .str s ∧ ρ 7 = .int .i64 k ∧ ρ 8 = .int .i64 i ∧ ρ 3 = .int .u64 (val (s.take i)) ∧ m + i = k) k ?_ ?_
  · refine ⟨rfl, 0, ?_, ?_, ?_, ?_, by omega⟩ <;> simp (disch := omega) only [go_sem, Nat.reduceEqDiff, Nat.reduceBEq, Nat.reduceAdd, Nat.reduceMul, Nat.reduceSub, Nat.reduceLeDiff, Int.reduceToNat, Int.reducePow, ← hk] <;> rfl
  · rintro m ρ _ ⟨rfl, i, q0, q7, q8, q3, hm⟩
    have hv := val_lt i s (by omega)
    have hp : i < k → 256 * 256 ^ i ≤ 18446744073709551616 := by
      intro h
      have : 256 ^ (i + 1) ≤ 256 ^ 8 := Nat.pow_le_pow_right (by decide) (by omega)
      rw [Nat.pow_succ] at this
      omega
    have hb := (s.getD i 0).toNat_lt
    repeat' (first | refine SWp.seq ?_ | refine SWp.block ?_ | (refine SWp.reg ?_; (simp (disch := omega) only [go_sem, Nat.reduceEqDiff, Nat.reduceBEq, Nat.reduceAdd, Nat.reduceMul, Nat.reduceSub, Nat.reduceLeDiff, Int.reduceToNat, Int.reducePow, q0, q7, q8, q3])) | refine SWp.condT rfl ?_ | refine SWp.condF rfl ?_ | (refine SWp.condD rfl (fun ht => ?_) (fun ht => ?_) <;> try (exfalso; omega)) | (refine SWp.skip ?_; try (simp (disch := omega) only [go_sem, Nat.reduceEqDiff, Nat.reduceBEq, Nat.reduceAdd, Nat.reduceMul, Nat.reduceSub, Nat.reduceLeDiff, Int.reduceToNat, Int.reducePow, q0, q7, q8, q3])) | (refine SWp.exit ?_; try (simp (disch := omega) only [go_sem, Nat.reduceEqDiff, Nat.reduceBEq, Nat.reduceAdd, Nat.reduceMul, Nat.reduceSub, Nat.reduceLeDiff, Int.reduceToNat, Int.reducePow, q0, q7, q8, q3])) | (refine SWp.ret ?_; try (simp (disch := omega) only [go_sem, Nat.reduceEqDiff, Nat.reduceBEq, Nat.reduceAdd, Nat.reduceMul, Nat.reduceSub, Nat.reduceLeDiff, Int.reduceToNat, Int.reducePow, q0, q7, q8, q3])) | (refine splitG (fun ht => ?_) (fun ht => ?_) <;> (simp (disch := omega) only [go_sem, Nat.reduceEqDiff, Nat.reduceBEq, Nat.reduceAdd, Nat.reduceMul, Nat.reduceSub, Nat.reduceLeDiff, Int.reduceToNat, Int.reducePow, q0, q7, q8, q3])) | (refine splitCG (fun ht => ?_) (fun ht => ?_) <;> (simp (disch := omega) only [go_sem, Nat.reduceEqDiff, Nat.reduceBEq, Nat.reduceAdd, Nat.reduceMul, Nat.reduceSub, Nat.reduceLeDiff, Int.reduceToNat, Int.reducePow, q0, q7, q8, q3])) | (refine splitB (fun ht => ?_) (fun ht => ?_) <;> (simp (disch := omega) only [go_sem, Nat.reduceEqDiff, Nat.reduceBEq, Nat.reduceAdd, Nat.reduceMul, Nat.reduceSub, Nat.reduceLeDiff, Int.reduceToNat, Int.reducePow, q0, q7, q8, q3])) | (refine splitCB (fun ht => ?_) (fun ht => ?_) <;> (simp (disch := omega) only [go_sem, Nat.reduceEqDiff, Nat.reduceBEq, Nat.reduceAdd, Nat.reduceMul, Nat.reduceSub, Nat.reduceLeDiff, Int.reduceToNat, Int.reducePow, q0, q7, q8, q3])))
    · have hp' := hp (by omega)
      have hvt := val_take s i (by omega)
      refine ⟨m - 1, by omega, i + 1, int_eq (by omega), ?_, by omega⟩
      rw [hvt]
      exact int_eq (by omega)
    · have e : i = k := by omega
      subst e
      exact DownV.same hw rl_int
theorem speculumref01_Get_to (σ : Store) (s : List UInt8) (hs : s.length < 9223372036854775808) : ACallsTo TC 43 [.str s] σ (.int .u64 (getS s)) σ := by
  refine ACallsTo.of_body speculumref01_Get_ok (by simp) fun hw _ => ?_
  repeat' (first | refine SWp.seq ?_ | refine SWp.block ?_ | (refine SWp.reg ?_; (simp (disch := omega) only [go_sem, Nat.reduceEqDiff, Nat.reduceBEq, Nat.reduceAdd, Nat.reduceMul, Nat.reduceSub, Nat.reduceLeDiff, Int.reduceToNat, Int.reducePow])) | refine SWp.condT rfl ?_ | refine SWp.condF rfl ?_ | (refine SWp.condD rfl (fun ht => ?_) (fun ht => ?_) <;> try (exfalso; omega)) | (refine SWp.skip ?_; try (simp (disch := omega) only [go_sem, Nat.reduceEqDiff, Nat.reduceBEq, Nat.reduceAdd, Nat.reduceMul, Nat.reduceSub, Nat.reduceLeDiff, Int.reduceToNat, Int.reducePow])) | (refine SWp.exit ?_; try (simp (disch := omega) only [go_sem, Nat.reduceEqDiff, Nat.reduceBEq, Nat.reduceAdd, Nat.reduceMul, Nat.reduceSub, Nat.reduceLeDiff, Int.reduceToNat, Int.reducePow])) | (refine SWp.ret ?_; try (simp (disch := omega) only [go_sem, Nat.reduceEqDiff, Nat.reduceBEq, Nat.reduceAdd, Nat.reduceMul, Nat.reduceSub, Nat.reduceLeDiff, Int.reduceToNat, Int.reducePow])) | (refine splitG (fun ht => ?_) (fun ht => ?_) <;> (simp (disch := omega) only [go_sem, Nat.reduceEqDiff, Nat.reduceBEq, Nat.reduceAdd, Nat.reduceMul, Nat.reduceSub, Nat.reduceLeDiff, Int.reduceToNat, Int.reducePow])) | (refine splitCG (fun ht => ?_) (fun ht => ?_) <;> (simp (disch := omega) only [go_sem, Nat.reduceEqDiff, Nat.reduceBEq, Nat.reduceAdd, Nat.reduceMul, Nat.reduceSub, Nat.reduceLeDiff, Int.reduceToNat, Int.reducePow])) | (refine splitB (fun ht => ?_) (fun ht => ?_) <;> (simp (disch := omega) only [go_sem, Nat.reduceEqDiff, Nat.reduceBEq, Nat.reduceAdd, Nat.reduceMul, Nat.reduceSub, Nat.reduceLeDiff, Int.reduceToNat, Int.reducePow])) | (refine splitCB (fun ht => ?_) (fun ht => ?_) <;> (simp (disch := omega) only [go_sem, Nat.reduceEqDiff, Nat.reduceBEq, Nat.reduceAdd, Nat.reduceMul, Nat.reduceSub, Nat.reduceLeDiff, Int.reduceToNat, Int.reducePow])))
  refine SWp.loop (fun m ρ σ' => σ' = σ ∧ ∃ (i : Nat), ρ 0 = .str s ∧ ρ 4 = .int .i64 i ∧ ρ 3 = .int .u64 (val (s.take i)) ∧ m + i = 8 ∧ i ≤ s.length) 8 ?_ ?_
  · refine ⟨rfl, 0, ?_, ?_, ?_, by omega, by omega⟩ <;> simp (disch := omega) only [go_sem, Nat.reduceEqDiff, Nat.reduceBEq, Nat.reduceAdd, Nat.reduceMul, Nat.reduceSub, Nat.reduceLeDiff, Int.reduceToNat, Int.reducePow] <;> rfl
  · rintro m ρ _ ⟨rfl, i, q0, q4, q3, hm, hi⟩
    have hv := val_lt i s (by omega)
    have hp : i < 8 → 256 * 256 ^ i ≤ 18446744073709551616 := by
      intro h
      have : 256 ^ (i + 1) ≤ 256 ^ 8 := Nat.pow_le_pow_right (by decide) (by omega)
      rw [Nat.pow_succ] at this
      omega
    have hb := (s.getD i 0).toNat_lt
    repeat' (first | refine SWp.seq ?_ | refine SWp.block ?_ | (refine SWp.reg ?_; (simp (disch := omega) only [go_sem, Nat.reduceEqDiff, Nat.reduceBEq, Nat.reduceAdd, Nat.reduceMul, Nat.reduceSub, Nat.reduceLeDiff, Int.reduceToNat, Int.reducePow, q0, q4, q3])) | refine SWp.condT rfl ?_ | refine SWp.condF rfl ?_ | (refine SWp.condD rfl (fun ht => ?_) (fun ht => ?_) <;> try (exfalso; omega)) | (refine SWp.skip ?_; try (simp (disch := omega) only [go_sem, Nat.reduceEqDiff, Nat.reduceBEq, Nat.reduceAdd, Nat.reduceMul, Nat.reduceSub, Nat.reduceLeDiff, Int.reduceToNat, Int.reducePow, q0, q4, q3])) | (refine SWp.exit ?_; try (simp (disch := omega) only [go_sem, Nat.reduceEqDiff, Nat.reduceBEq, Nat.reduceAdd, Nat.reduceMul, Nat.reduceSub, Nat.reduceLeDiff, Int.reduceToNat, Int.reducePow, q0, q4, q3])) | (refine SWp.ret ?_; try (simp (disch := omega) only [go_sem, Nat.reduceEqDiff, Nat.reduceBEq, Nat.reduceAdd, Nat.reduceMul, Nat.reduceSub, Nat.reduceLeDiff, Int.reduceToNat, Int.reducePow, q0, q4, q3])) | (refine splitG (fun ht => ?_) (fun ht => ?_) <;> (simp (disch := omega) only [go_sem, Nat.reduceEqDiff, Nat.reduceBEq, Nat.reduceAdd, Nat.reduceMul, Nat.reduceSub, Nat.reduceLeDiff, Int.reduceToNat, Int.reducePow, q0, q4, q3])) | (refine splitCG (fun ht => ?_) (fun ht => ?_) <;> (simp (disch := omega) only [go_sem, Nat.reduceEqDiff, Nat.reduceBEq, Nat.reduceAdd, Nat.reduceMul, Nat.reduceSub, Nat.reduceLeDiff, Int.reduceToNat, Int.reducePow, q0, q4, q3])) | (refine splitB (fun ht => ?_) (fun ht => ?_) <;> (simp (disch := omega) only [go_sem, Nat.reduceEqDiff, Nat.reduceBEq, Nat.reduceAdd, Nat.reduceMul, Nat.reduceSub, Nat.reduceLeDiff, Int.reduceToNat, Int.reducePow, q0, q4, q3])) | (refine splitCB (fun ht => ?_) (fun ht => ?_) <;> (simp (disch := omega) only [go_sem, Nat.reduceEqDiff, Nat.reduceBEq, Nat.reduceAdd, Nat.reduceMul, Nat.reduceSub, Nat.reduceLeDiff, Int.reduceToNat, Int.reducePow, q0, q4, q3])))
    · have hp' := hp (by omega)
      have hvt := val_take s i (by omega)
      refine ⟨m - 1, by omega, i + 1, int_eq (by omega), ?_, by omega, by omega⟩
      rw [hvt]
      exact int_eq (by omega)
    · have e : i = 8 := by omega
      subst e
      exact DownV.same hw rl_int
    · have e : i = s.length := by omega
      rw [getS, List.take_of_length_le (by omega)]
      exact DownV.same hw rl_int
/-- A text's bit at a place. -/
def bitS (s : List UInt8) (i : Int) : Nat := if 0 ≤ i ∧ i / 8 < s.length then (s.getD (i / 8).toNat 0).toNat / 2 ^ (7 - i % 8).toNat % 2 else 0
theorem div_pow_le (c n : Nat) : c / 2 ^ n ≤ c := Nat.div_le_self _ _
theorem bits_Bit_to (σ : Store) (s : List UInt8) (i : Int) (hs : s.length < 9223372036854775808) (hi : -9223372036854775808 ≤ i ∧ i < 9223372036854775808) : ACallsTo TC 40 [.str s, .int .i64 i] σ (.int .i64 (bitS s i)) σ := by
  refine ACallsTo.of_body bits_Bit_ok (by simp) fun hw _ => ?_
  have hb := (s.getD (i / 8).toNat 0).toNat_lt
  have hd := div_pow_le (s.getD (i / 8).toNat 0).toNat (7 - i % 8).toNat
  obtain ⟨q, hq⟩ : ∃ q, q = (s.getD (i / 8).toNat 0).toNat / 2 ^ (7 - i % 8).toNat := ⟨_, rfl⟩
  have hc : ((s.getD (i / 8).toNat 0).toNat : Int) / 2 ^ (7 - i % 8).toNat = (q : Int) := by rw [hq]; simp
  rw [← hq] at hd
  repeat' (first | refine SWp.seq ?_ | refine SWp.block ?_ | (refine SWp.reg ?_; (simp (disch := omega) only [go_sem, Nat.reduceEqDiff, Nat.reduceBEq, Nat.reduceAdd, Nat.reduceMul, Nat.reduceSub, Nat.reduceLeDiff, Int.reduceToNat, Int.reducePow, hc])) | refine SWp.condT rfl ?_ | refine SWp.condF rfl ?_ | (refine SWp.condD rfl (fun ht => ?_) (fun ht => ?_) <;> try (exfalso; omega)) | (refine SWp.skip ?_; try (simp (disch := omega) only [go_sem, Nat.reduceEqDiff, Nat.reduceBEq, Nat.reduceAdd, Nat.reduceMul, Nat.reduceSub, Nat.reduceLeDiff, Int.reduceToNat, Int.reducePow, hc])) | (refine SWp.exit ?_; try (simp (disch := omega) only [go_sem, Nat.reduceEqDiff, Nat.reduceBEq, Nat.reduceAdd, Nat.reduceMul, Nat.reduceSub, Nat.reduceLeDiff, Int.reduceToNat, Int.reducePow, hc])) | (refine SWp.ret ?_; try (simp (disch := omega) only [go_sem, Nat.reduceEqDiff, Nat.reduceBEq, Nat.reduceAdd, Nat.reduceMul, Nat.reduceSub, Nat.reduceLeDiff, Int.reduceToNat, Int.reducePow, hc])) | (refine splitG (fun ht => ?_) (fun ht => ?_) <;> (simp (disch := omega) only [go_sem, Nat.reduceEqDiff, Nat.reduceBEq, Nat.reduceAdd, Nat.reduceMul, Nat.reduceSub, Nat.reduceLeDiff, Int.reduceToNat, Int.reducePow, hc])) | (refine splitCG (fun ht => ?_) (fun ht => ?_) <;> (simp (disch := omega) only [go_sem, Nat.reduceEqDiff, Nat.reduceBEq, Nat.reduceAdd, Nat.reduceMul, Nat.reduceSub, Nat.reduceLeDiff, Int.reduceToNat, Int.reducePow, hc])) | (refine splitB (fun ht => ?_) (fun ht => ?_) <;> (simp (disch := omega) only [go_sem, Nat.reduceEqDiff, Nat.reduceBEq, Nat.reduceAdd, Nat.reduceMul, Nat.reduceSub, Nat.reduceLeDiff, Int.reduceToNat, Int.reducePow, hc])) | (refine splitCB (fun ht => ?_) (fun ht => ?_) <;> (simp (disch := omega) only [go_sem, Nat.reduceEqDiff, Nat.reduceBEq, Nat.reduceAdd, Nat.reduceMul, Nat.reduceSub, Nat.reduceLeDiff, Int.reduceToNat, Int.reducePow, hc])))
  · rw [bitS, if_neg (by omega)]
    exact DownV.same hw rl_int
  · rw [bitS, if_neg (by omega)]
    exact DownV.same hw rl_int
  · rw [bitS, if_pos (by omega), ← hq]
    exact DownV.same hw rl_int
theorem speculumref01_Bit_to (σ : Store) (s : List UInt8) (i : Int) (hs : s.length < 9223372036854775808) (hi : -9223372036854775808 ≤ i ∧ i < 9223372036854775808) : ACallsTo TC 41 [.str s, .int .i64 i] σ (.int .i64 (bitS s i)) σ := by
  refine ACallsTo.of_body speculumref01_Bit_ok (by simp) fun hw _ => ?_
  have hb := (s.getD (i / 8).toNat 0).toNat_lt
  repeat' (first | refine SWp.seq ?_ | refine SWp.block ?_ | (refine SWp.reg ?_; (simp (disch := omega) only [go_sem, Nat.reduceEqDiff, Nat.reduceBEq, Nat.reduceAdd, Nat.reduceMul, Nat.reduceSub, Nat.reduceLeDiff, Int.reduceToNat, Int.reducePow])) | refine SWp.condT rfl ?_ | refine SWp.condF rfl ?_ | (refine SWp.condD rfl (fun ht => ?_) (fun ht => ?_) <;> try (exfalso; omega)) | (refine SWp.skip ?_; try (simp (disch := omega) only [go_sem, Nat.reduceEqDiff, Nat.reduceBEq, Nat.reduceAdd, Nat.reduceMul, Nat.reduceSub, Nat.reduceLeDiff, Int.reduceToNat, Int.reducePow])) | (refine SWp.exit ?_; try (simp (disch := omega) only [go_sem, Nat.reduceEqDiff, Nat.reduceBEq, Nat.reduceAdd, Nat.reduceMul, Nat.reduceSub, Nat.reduceLeDiff, Int.reduceToNat, Int.reducePow])) | (refine SWp.ret ?_; try (simp (disch := omega) only [go_sem, Nat.reduceEqDiff, Nat.reduceBEq, Nat.reduceAdd, Nat.reduceMul, Nat.reduceSub, Nat.reduceLeDiff, Int.reduceToNat, Int.reducePow])) | (refine splitG (fun ht => ?_) (fun ht => ?_) <;> (simp (disch := omega) only [go_sem, Nat.reduceEqDiff, Nat.reduceBEq, Nat.reduceAdd, Nat.reduceMul, Nat.reduceSub, Nat.reduceLeDiff, Int.reduceToNat, Int.reducePow])) | (refine splitCG (fun ht => ?_) (fun ht => ?_) <;> (simp (disch := omega) only [go_sem, Nat.reduceEqDiff, Nat.reduceBEq, Nat.reduceAdd, Nat.reduceMul, Nat.reduceSub, Nat.reduceLeDiff, Int.reduceToNat, Int.reducePow])) | (refine splitB (fun ht => ?_) (fun ht => ?_) <;> (simp (disch := omega) only [go_sem, Nat.reduceEqDiff, Nat.reduceBEq, Nat.reduceAdd, Nat.reduceMul, Nat.reduceSub, Nat.reduceLeDiff, Int.reduceToNat, Int.reducePow])) | (refine splitCB (fun ht => ?_) (fun ht => ?_) <;> (simp (disch := omega) only [go_sem, Nat.reduceEqDiff, Nat.reduceBEq, Nat.reduceAdd, Nat.reduceMul, Nat.reduceSub, Nat.reduceLeDiff, Int.reduceToNat, Int.reducePow])))
  · rw [bitS, if_neg (by omega)]
    exact DownV.same hw rl_int
  · rw [bitS, if_neg (by omega)]
    exact DownV.same hw rl_int
  rw [bitS, if_pos (by omega)]
  refine SWp.loop (fun m ρ σ' => σ' = σ ∧ ∃ (k q : Nat), ρ 5 = .int .u8 q ∧ q = (s.getD (i / 8).toNat 0).toNat / 2 ^ k ∧ ρ 6 = .int .i64 (i % 8 + k) ∧ m + k = (7 - i % 8).toNat) (7 - i % 8).toNat ?_ ?_
  · refine ⟨rfl, 0, (s.getD (i / 8).toNat 0).toNat, ?_, by simp, ?_, by omega⟩ <;> simp (disch := omega) only [go_sem, Nat.reduceEqDiff, Nat.reduceBEq, Nat.reduceAdd, Nat.reduceMul, Nat.reduceSub, Nat.reduceLeDiff, Int.reduceToNat, Int.reducePow]
    exact int_eq (by simp)
  · rintro m ρ _ ⟨rfl, k, q, q5, hq, q6, hm⟩
    have hd := div_pow_le (s.getD (i / 8).toNat 0).toNat k
    rw [← hq] at hd
    repeat' (first | refine SWp.seq ?_ | refine SWp.block ?_ | (refine SWp.reg ?_; (simp (disch := omega) only [go_sem, Nat.reduceEqDiff, Nat.reduceBEq, Nat.reduceAdd, Nat.reduceMul, Nat.reduceSub, Nat.reduceLeDiff, Int.reduceToNat, Int.reducePow, q5, q6])) | refine SWp.condT rfl ?_ | refine SWp.condF rfl ?_ | (refine SWp.condD rfl (fun ht => ?_) (fun ht => ?_) <;> try (exfalso; omega)) | (refine SWp.skip ?_; try (simp (disch := omega) only [go_sem, Nat.reduceEqDiff, Nat.reduceBEq, Nat.reduceAdd, Nat.reduceMul, Nat.reduceSub, Nat.reduceLeDiff, Int.reduceToNat, Int.reducePow, q5, q6])) | (refine SWp.exit ?_; try (simp (disch := omega) only [go_sem, Nat.reduceEqDiff, Nat.reduceBEq, Nat.reduceAdd, Nat.reduceMul, Nat.reduceSub, Nat.reduceLeDiff, Int.reduceToNat, Int.reducePow, q5, q6])) | (refine SWp.ret ?_; try (simp (disch := omega) only [go_sem, Nat.reduceEqDiff, Nat.reduceBEq, Nat.reduceAdd, Nat.reduceMul, Nat.reduceSub, Nat.reduceLeDiff, Int.reduceToNat, Int.reducePow, q5, q6])) | (refine splitG (fun ht => ?_) (fun ht => ?_) <;> (simp (disch := omega) only [go_sem, Nat.reduceEqDiff, Nat.reduceBEq, Nat.reduceAdd, Nat.reduceMul, Nat.reduceSub, Nat.reduceLeDiff, Int.reduceToNat, Int.reducePow, q5, q6])) | (refine splitCG (fun ht => ?_) (fun ht => ?_) <;> (simp (disch := omega) only [go_sem, Nat.reduceEqDiff, Nat.reduceBEq, Nat.reduceAdd, Nat.reduceMul, Nat.reduceSub, Nat.reduceLeDiff, Int.reduceToNat, Int.reducePow, q5, q6])) | (refine splitB (fun ht => ?_) (fun ht => ?_) <;> (simp (disch := omega) only [go_sem, Nat.reduceEqDiff, Nat.reduceBEq, Nat.reduceAdd, Nat.reduceMul, Nat.reduceSub, Nat.reduceLeDiff, Int.reduceToNat, Int.reducePow, q5, q6])) | (refine splitCB (fun ht => ?_) (fun ht => ?_) <;> (simp (disch := omega) only [go_sem, Nat.reduceEqDiff, Nat.reduceBEq, Nat.reduceAdd, Nat.reduceMul, Nat.reduceSub, Nat.reduceLeDiff, Int.reduceToNat, Int.reducePow, q5, q6])))
    · refine ⟨m - 1, by omega, k + 1, q / 2, int_eq (by omega), ?_, int_eq (by omega), by omega⟩
      rw [Nat.pow_succ, ← Nat.div_div_eq_div_mul, hq]
    · have e : k = (7 - i % 8).toNat := by omega
      rw [← e, ← hq]
      exact DownV.same hw rl_int
/-- A number turned to the left. -/
def rotL (x k : Int) : Nat := ((BitVec.ofInt 32 x).rotateLeft (k % 32).toNat).toNat
theorem u32_bv (x : Int) (h : 0 ≤ x ∧ x < 4294967296) : x = ((BitVec.ofInt 32 x).toNat : Int) := by
  rw [BitVec.toNat_ofInt]
  omega
theorem bits_Left_i (σ : Store) (x k : Int) (h : 0 ≤ x ∧ x < 4294967296) : ACallsTo TC 31 [.int .u32 x, .int .i64 k] σ (.int .u32 (rotL x k)) σ := by
  have := bits_Left_to σ (BitVec.ofInt 32 x) k
  rw [← u32_bv x h] at this
  exact this
theorem speculumref01_Left_i (σ : Store) (x k : Int) (h : 0 ≤ x ∧ x < 4294967296) : ACallsTo TC 32 [.int .u32 x, .int .i64 k] σ (.int .u32 (rotL x k)) σ := by
  have := speculumref01_Left_to σ (BitVec.ofInt 32 x) k
  rw [← u32_bv x h] at this
  exact this
theorem bits_Right_i (σ : Store) (x k : Int) (h : 0 ≤ x ∧ x < 4294967296) : ACallsTo TC 33 [.int .u32 x, .int .i64 k] σ (.int .u32 (rotL x (-k))) σ := by
  have := bits_Right_to σ (BitVec.ofInt 32 x) k
  rw [← u32_bv x h] at this
  exact this
theorem speculumref01_Right_i (σ : Store) (x k : Int) (h : 0 ≤ x ∧ x < 4294967296) : ACallsTo TC 34 [.int .u32 x, .int .i64 k] σ (.int .u32 (rotL x (-k))) σ := by
  have := speculumref01_Right_to σ (BitVec.ofInt 32 x) k
  rw [← u32_bv x h] at this
  exact this
end Am
end Go.Proofs.Ytkffgmpbhahioaa
