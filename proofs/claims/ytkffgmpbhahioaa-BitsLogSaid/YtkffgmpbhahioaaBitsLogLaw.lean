/- The law BitsLog: its contract. -/
import Derived.Test.YtkffgmpbhahioaaBitsTell
import Derived.Test.YtkffgmpbhahioaaBitsPlain
set_option linter.unusedSimpArgs false
set_option linter.unusedVariables false
namespace Go.Proofs.Ytkffgmpbhahioaa
namespace Am
theorem BitsLog_zero : ACallsTo TC 9 [.int .u32 0] [] (.bool true) [] := by
  refine ACallsTo.of_body speculumlaw01_BitsLog_ok (by simp) fun hw _ => ?_
  repeat' (first | (refine callW.mk_pure (bits_Log_to _ _ (by omega)) ?_; try (simp (disch := omega) only [go_sem, Nat.reduceEqDiff, Nat.reduceBEq, Nat.reduceAdd, Nat.reduceMul, Nat.reduceSub, Nat.reduceLeDiff, Int.reduceToNat, Int.reducePow, lg_zero, pc_zero, Int.toNat_zero])) | (refine callW.mk_pure (bits_Ones_to _ _ (by omega)) ?_; try (simp (disch := omega) only [go_sem, Nat.reduceEqDiff, Nat.reduceBEq, Nat.reduceAdd, Nat.reduceMul, Nat.reduceSub, Nat.reduceLeDiff, Int.reduceToNat, Int.reducePow, lg_zero, pc_zero, Int.toNat_zero])) | (refine callW.mk_pure (turned_to _) ?_; try (simp (disch := omega) only [go_sem, Nat.reduceEqDiff, Nat.reduceBEq, Nat.reduceAdd, Nat.reduceMul, Nat.reduceSub, Nat.reduceLeDiff, Int.reduceToNat, Int.reducePow, lg_zero, pc_zero, Int.toNat_zero])) | refine SWp.seq ?_ | refine SWp.block ?_ | (refine SWp.reg ?_; (simp (disch := omega) only [go_sem, Nat.reduceEqDiff, Nat.reduceBEq, Nat.reduceAdd, Nat.reduceMul, Nat.reduceSub, Nat.reduceLeDiff, Int.reduceToNat, Int.reducePow, lg_zero, pc_zero, Int.toNat_zero])) | refine SWp.condT rfl ?_ | refine SWp.condF rfl ?_ | (refine SWp.condD rfl (fun ht => ?_) (fun ht => ?_) <;> try (exfalso; omega)) | (refine SWp.skip ?_; try (simp (disch := omega) only [go_sem, Nat.reduceEqDiff, Nat.reduceBEq, Nat.reduceAdd, Nat.reduceMul, Nat.reduceSub, Nat.reduceLeDiff, Int.reduceToNat, Int.reducePow, lg_zero, pc_zero, Int.toNat_zero])) | (refine SWp.exit ?_; try (simp (disch := omega) only [go_sem, Nat.reduceEqDiff, Nat.reduceBEq, Nat.reduceAdd, Nat.reduceMul, Nat.reduceSub, Nat.reduceLeDiff, Int.reduceToNat, Int.reducePow, lg_zero, pc_zero, Int.toNat_zero])) | (refine SWp.ret ?_; try (simp (disch := omega) only [go_sem, Nat.reduceEqDiff, Nat.reduceBEq, Nat.reduceAdd, Nat.reduceMul, Nat.reduceSub, Nat.reduceLeDiff, Int.reduceToNat, Int.reducePow, lg_zero, pc_zero, Int.toNat_zero])) | (refine splitG (fun ht => ?_) (fun ht => ?_) <;> (simp (disch := omega) only [go_sem, Nat.reduceEqDiff, Nat.reduceBEq, Nat.reduceAdd, Nat.reduceMul, Nat.reduceSub, Nat.reduceLeDiff, Int.reduceToNat, Int.reducePow, lg_zero, pc_zero, Int.toNat_zero])) | (refine splitCG (fun ht => ?_) (fun ht => ?_) <;> (simp (disch := omega) only [go_sem, Nat.reduceEqDiff, Nat.reduceBEq, Nat.reduceAdd, Nat.reduceMul, Nat.reduceSub, Nat.reduceLeDiff, Int.reduceToNat, Int.reducePow, lg_zero, pc_zero, Int.toNat_zero])) | (refine splitB (fun ht => ?_) (fun ht => ?_) <;> (simp (disch := omega) only [go_sem, Nat.reduceEqDiff, Nat.reduceBEq, Nat.reduceAdd, Nat.reduceMul, Nat.reduceSub, Nat.reduceLeDiff, Int.reduceToNat, Int.reducePow, lg_zero, pc_zero, Int.toNat_zero])) | (refine splitCB (fun ht => ?_) (fun ht => ?_) <;> (simp (disch := omega) only [go_sem, Nat.reduceEqDiff, Nat.reduceBEq, Nat.reduceAdd, Nat.reduceMul, Nat.reduceSub, Nat.reduceLeDiff, Int.reduceToNat, Int.reducePow, lg_zero, pc_zero, Int.toNat_zero])))
  exact DownV.same hw rl_bool
/-- One bit looked at. -/
theorem BitsLog_round (n k q i c b : Nat) (ρ : Env) (hn : n < 4294967296) (hi : i < 32) (hci : c ≤ i) (hb2 : b < 2) (hb0 : (i : Int) < 31 - k → b = 0) (hb1 : (i : Int) = 31 - k → b = 1) (hbs : bitS (be 4 n) i = b) (hk31 : k < 32)
    (q5 : ρ 5 = .str (be 4 n)) (q3 : ρ 3 = .int .i64 n) (q4 : ρ 4 = .int .i64 k) (q7 : ρ 7 = .int .i64 i) (q6 : ρ 6 = .int .i64 c) :
    SWp TC 88 0 speculumlaw01_BitsLog_c30 (fun e ρ' σ' => e = .normal ∧ σ' = [] ∧ ρ' 5 = .str (be 4 n) ∧ ρ' 3 = .int .i64 n ∧ ρ' 4 = .int .i64 k ∧ ρ' 7 = .int .i64 (i + 1 : Nat) ∧ ρ' 6 = .int .i64 (c + b : Nat)) ρ [] := by
  have fl := be_length 4 n
  by_cases hx : (i : Int) < 31 - k
  · have hb' := hb0 hx
    subst hb'
    repeat' (first | (refine callW.mk_pure (bits_Bit_to _ _ _ (by omega) (by omega)) ?_; try (simp (disch := omega) only [go_sem, Nat.reduceEqDiff, Nat.reduceBEq, Nat.reduceAdd, Nat.reduceMul, Nat.reduceSub, Nat.reduceLeDiff, Int.reduceToNat, Int.reducePow, q5, q3, q4, q7, q6, hbs, ne_eq, not_true_eq_false, decide_false])) | refine SWp.seq ?_ | refine SWp.block ?_ | (refine SWp.reg ?_; (simp (disch := omega) only [go_sem, Nat.reduceEqDiff, Nat.reduceBEq, Nat.reduceAdd, Nat.reduceMul, Nat.reduceSub, Nat.reduceLeDiff, Int.reduceToNat, Int.reducePow, q5, q3, q4, q7, q6, hbs, ne_eq, not_true_eq_false, decide_false])) | refine SWp.condT rfl ?_ | refine SWp.condF rfl ?_ | (refine SWp.condD rfl (fun ht => ?_) (fun ht => ?_) <;> try (exfalso; omega)) | (refine SWp.skip ?_; try (simp (disch := omega) only [go_sem, Nat.reduceEqDiff, Nat.reduceBEq, Nat.reduceAdd, Nat.reduceMul, Nat.reduceSub, Nat.reduceLeDiff, Int.reduceToNat, Int.reducePow, q5, q3, q4, q7, q6, hbs, ne_eq, not_true_eq_false, decide_false])) | (refine SWp.exit ?_; try (simp (disch := omega) only [go_sem, Nat.reduceEqDiff, Nat.reduceBEq, Nat.reduceAdd, Nat.reduceMul, Nat.reduceSub, Nat.reduceLeDiff, Int.reduceToNat, Int.reducePow, q5, q3, q4, q7, q6, hbs, ne_eq, not_true_eq_false, decide_false])) | (refine SWp.ret ?_; try (simp (disch := omega) only [go_sem, Nat.reduceEqDiff, Nat.reduceBEq, Nat.reduceAdd, Nat.reduceMul, Nat.reduceSub, Nat.reduceLeDiff, Int.reduceToNat, Int.reducePow, q5, q3, q4, q7, q6, hbs, ne_eq, not_true_eq_false, decide_false])) | (refine splitG (fun ht => ?_) (fun ht => ?_) <;> (simp (disch := omega) only [go_sem, Nat.reduceEqDiff, Nat.reduceBEq, Nat.reduceAdd, Nat.reduceMul, Nat.reduceSub, Nat.reduceLeDiff, Int.reduceToNat, Int.reducePow, q5, q3, q4, q7, q6, hbs, ne_eq, not_true_eq_false, decide_false])) | (refine splitCG (fun ht => ?_) (fun ht => ?_) <;> (simp (disch := omega) only [go_sem, Nat.reduceEqDiff, Nat.reduceBEq, Nat.reduceAdd, Nat.reduceMul, Nat.reduceSub, Nat.reduceLeDiff, Int.reduceToNat, Int.reducePow, q5, q3, q4, q7, q6, hbs, ne_eq, not_true_eq_false, decide_false])) | (refine splitB (fun ht => ?_) (fun ht => ?_) <;> (simp (disch := omega) only [go_sem, Nat.reduceEqDiff, Nat.reduceBEq, Nat.reduceAdd, Nat.reduceMul, Nat.reduceSub, Nat.reduceLeDiff, Int.reduceToNat, Int.reducePow, q5, q3, q4, q7, q6, hbs, ne_eq, not_true_eq_false, decide_false])) | (refine splitCB (fun ht => ?_) (fun ht => ?_) <;> (simp (disch := omega) only [go_sem, Nat.reduceEqDiff, Nat.reduceBEq, Nat.reduceAdd, Nat.reduceMul, Nat.reduceSub, Nat.reduceLeDiff, Int.reduceToNat, Int.reducePow, q5, q3, q4, q7, q6, hbs, ne_eq, not_true_eq_false, decide_false])))
    exact ⟨int_eq (by omega), int_eq (by omega)⟩
  · by_cases hy : (i : Int) = 31 - k
    · have hb' := hb1 hy
      subst hb'
      repeat' (first | (refine callW.mk_pure (bits_Bit_to _ _ _ (by omega) (by omega)) ?_; try (simp (disch := omega) only [go_sem, Nat.reduceEqDiff, Nat.reduceBEq, Nat.reduceAdd, Nat.reduceMul, Nat.reduceSub, Nat.reduceLeDiff, Int.reduceToNat, Int.reducePow, q5, q3, q4, q7, q6, hbs, ne_eq, not_true_eq_false, decide_false])) | refine SWp.seq ?_ | refine SWp.block ?_ | (refine SWp.reg ?_; (simp (disch := omega) only [go_sem, Nat.reduceEqDiff, Nat.reduceBEq, Nat.reduceAdd, Nat.reduceMul, Nat.reduceSub, Nat.reduceLeDiff, Int.reduceToNat, Int.reducePow, q5, q3, q4, q7, q6, hbs, ne_eq, not_true_eq_false, decide_false])) | refine SWp.condT rfl ?_ | refine SWp.condF rfl ?_ | (refine SWp.condD rfl (fun ht => ?_) (fun ht => ?_) <;> try (exfalso; omega)) | (refine SWp.skip ?_; try (simp (disch := omega) only [go_sem, Nat.reduceEqDiff, Nat.reduceBEq, Nat.reduceAdd, Nat.reduceMul, Nat.reduceSub, Nat.reduceLeDiff, Int.reduceToNat, Int.reducePow, q5, q3, q4, q7, q6, hbs, ne_eq, not_true_eq_false, decide_false])) | (refine SWp.exit ?_; try (simp (disch := omega) only [go_sem, Nat.reduceEqDiff, Nat.reduceBEq, Nat.reduceAdd, Nat.reduceMul, Nat.reduceSub, Nat.reduceLeDiff, Int.reduceToNat, Int.reducePow, q5, q3, q4, q7, q6, hbs, ne_eq, not_true_eq_false, decide_false])) | (refine SWp.ret ?_; try (simp (disch := omega) only [go_sem, Nat.reduceEqDiff, Nat.reduceBEq, Nat.reduceAdd, Nat.reduceMul, Nat.reduceSub, Nat.reduceLeDiff, Int.reduceToNat, Int.reducePow, q5, q3, q4, q7, q6, hbs, ne_eq, not_true_eq_false, decide_false])) | (refine splitG (fun ht => ?_) (fun ht => ?_) <;> (simp (disch := omega) only [go_sem, Nat.reduceEqDiff, Nat.reduceBEq, Nat.reduceAdd, Nat.reduceMul, Nat.reduceSub, Nat.reduceLeDiff, Int.reduceToNat, Int.reducePow, q5, q3, q4, q7, q6, hbs, ne_eq, not_true_eq_false, decide_false])) | (refine splitCG (fun ht => ?_) (fun ht => ?_) <;> (simp (disch := omega) only [go_sem, Nat.reduceEqDiff, Nat.reduceBEq, Nat.reduceAdd, Nat.reduceMul, Nat.reduceSub, Nat.reduceLeDiff, Int.reduceToNat, Int.reducePow, q5, q3, q4, q7, q6, hbs, ne_eq, not_true_eq_false, decide_false])) | (refine splitB (fun ht => ?_) (fun ht => ?_) <;> (simp (disch := omega) only [go_sem, Nat.reduceEqDiff, Nat.reduceBEq, Nat.reduceAdd, Nat.reduceMul, Nat.reduceSub, Nat.reduceLeDiff, Int.reduceToNat, Int.reducePow, q5, q3, q4, q7, q6, hbs, ne_eq, not_true_eq_false, decide_false])) | (refine splitCB (fun ht => ?_) (fun ht => ?_) <;> (simp (disch := omega) only [go_sem, Nat.reduceEqDiff, Nat.reduceBEq, Nat.reduceAdd, Nat.reduceMul, Nat.reduceSub, Nat.reduceLeDiff, Int.reduceToNat, Int.reducePow, q5, q3, q4, q7, q6, hbs, ne_eq, not_true_eq_false, decide_false])))
      exact ⟨int_eq (by omega), int_eq (by omega)⟩
    · repeat' (first | (refine callW.mk_pure (bits_Bit_to _ _ _ (by omega) (by omega)) ?_; try (simp (disch := omega) only [go_sem, Nat.reduceEqDiff, Nat.reduceBEq, Nat.reduceAdd, Nat.reduceMul, Nat.reduceSub, Nat.reduceLeDiff, Int.reduceToNat, Int.reducePow, q5, q3, q4, q7, q6, hbs])) | refine SWp.seq ?_ | refine SWp.block ?_ | (refine SWp.reg ?_; (simp (disch := omega) only [go_sem, Nat.reduceEqDiff, Nat.reduceBEq, Nat.reduceAdd, Nat.reduceMul, Nat.reduceSub, Nat.reduceLeDiff, Int.reduceToNat, Int.reducePow, q5, q3, q4, q7, q6, hbs])) | refine SWp.condT rfl ?_ | refine SWp.condF rfl ?_ | (refine SWp.condD rfl (fun ht => ?_) (fun ht => ?_) <;> try (exfalso; omega)) | (refine SWp.skip ?_; try (simp (disch := omega) only [go_sem, Nat.reduceEqDiff, Nat.reduceBEq, Nat.reduceAdd, Nat.reduceMul, Nat.reduceSub, Nat.reduceLeDiff, Int.reduceToNat, Int.reducePow, q5, q3, q4, q7, q6, hbs])) | (refine SWp.exit ?_; try (simp (disch := omega) only [go_sem, Nat.reduceEqDiff, Nat.reduceBEq, Nat.reduceAdd, Nat.reduceMul, Nat.reduceSub, Nat.reduceLeDiff, Int.reduceToNat, Int.reducePow, q5, q3, q4, q7, q6, hbs])) | (refine SWp.ret ?_; try (simp (disch := omega) only [go_sem, Nat.reduceEqDiff, Nat.reduceBEq, Nat.reduceAdd, Nat.reduceMul, Nat.reduceSub, Nat.reduceLeDiff, Int.reduceToNat, Int.reducePow, q5, q3, q4, q7, q6, hbs])) | (refine splitG (fun ht => ?_) (fun ht => ?_) <;> (simp (disch := omega) only [go_sem, Nat.reduceEqDiff, Nat.reduceBEq, Nat.reduceAdd, Nat.reduceMul, Nat.reduceSub, Nat.reduceLeDiff, Int.reduceToNat, Int.reducePow, q5, q3, q4, q7, q6, hbs])) | (refine splitCG (fun ht => ?_) (fun ht => ?_) <;> (simp (disch := omega) only [go_sem, Nat.reduceEqDiff, Nat.reduceBEq, Nat.reduceAdd, Nat.reduceMul, Nat.reduceSub, Nat.reduceLeDiff, Int.reduceToNat, Int.reducePow, q5, q3, q4, q7, q6, hbs])) | (refine splitB (fun ht => ?_) (fun ht => ?_) <;> (simp (disch := omega) only [go_sem, Nat.reduceEqDiff, Nat.reduceBEq, Nat.reduceAdd, Nat.reduceMul, Nat.reduceSub, Nat.reduceLeDiff, Int.reduceToNat, Int.reducePow, q5, q3, q4, q7, q6, hbs])) | (refine splitCB (fun ht => ?_) (fun ht => ?_) <;> (simp (disch := omega) only [go_sem, Nat.reduceEqDiff, Nat.reduceBEq, Nat.reduceAdd, Nat.reduceMul, Nat.reduceSub, Nat.reduceLeDiff, Int.reduceToNat, Int.reducePow, q5, q3, q4, q7, q6, hbs])))
      exact ⟨int_eq (by omega), int_eq (by omega)⟩
set_option maxHeartbeats 2000000 in
theorem BitsLog_pos (n k q : Nat) (hn : n < 4294967296) (h0 : 0 < n) (hk : lg 64 n = k + 1) (hk31 : k < 32) (f1 : pc 64 q = 1) (f2 : (2 : Int) ^ k = q) (hq : q = 2 ^ k) (p1 : q ≤ n) (p2 : n < 2 * q) :
    ACallsTo TC 9 [.int .u32 n] [] (.bool true) [] := by
  have f4 : ((k + 1 : Nat) : Int) - 1 = k := by omega
  refine ACallsTo.of_body speculumlaw01_BitsLog_ok (by simp) fun hw _ => ?_
  refine SWp.seqReg ?_
  simp (disch := omega) only [go_sem, Nat.reduceEqDiff, Nat.reduceBEq, Nat.reduceAdd, Nat.reduceMul, Nat.reduceSub, Nat.reduceLeDiff, Int.reduceToNat, Int.reducePow]
  refine SWp.seqReg ?_
  simp (disch := omega) only [go_sem, Nat.reduceEqDiff, Nat.reduceBEq, Nat.reduceAdd, Nat.reduceMul, Nat.reduceSub, Nat.reduceLeDiff, Int.reduceToNat, Int.reducePow]
  refine SWp.seqReg ?_
  simp (disch := omega) only [go_sem, Nat.reduceEqDiff, Nat.reduceBEq, Nat.reduceAdd, Nat.reduceMul, Nat.reduceSub, Nat.reduceLeDiff, Int.reduceToNat, Int.reducePow]
  refine callW.mk_pure (bits_Log_to _ _ (by omega)) ?_
  simp (disch := omega) only [go_sem, Nat.reduceEqDiff, Nat.reduceBEq, Nat.reduceAdd, Nat.reduceMul, Nat.reduceSub, Nat.reduceLeDiff, Int.reduceToNat, Int.reducePow, hk, f4]
  refine SWp.seq (SWp.seqReg ?_)
  simp (disch := omega) only [go_sem, Nat.reduceEqDiff, Nat.reduceBEq, Nat.reduceAdd, Nat.reduceMul, Nat.reduceSub, Nat.reduceLeDiff, Int.reduceToNat, Int.reducePow]
  refine SWp.condF rfl ?_
  refine SWp.skip ?_
  simp (disch := omega) only [go_sem, Nat.reduceEqDiff, Nat.reduceBEq, Nat.reduceAdd, Nat.reduceMul, Nat.reduceSub, Nat.reduceLeDiff, Int.reduceToNat, Int.reducePow]
  refine SWp.seq (SWp.seqReg ?_)
  simp (disch := omega) only [go_sem, Nat.reduceEqDiff, Nat.reduceBEq, Nat.reduceAdd, Nat.reduceMul, Nat.reduceSub, Nat.reduceLeDiff, Int.reduceToNat, Int.reducePow, f2, Int.one_mul]
  refine callW.mk_pure (bits_Ones_to _ _ (by omega)) ?_
  simp (disch := omega) only [go_sem, Nat.reduceEqDiff, Nat.reduceBEq, Nat.reduceAdd, Nat.reduceMul, Nat.reduceSub, Nat.reduceLeDiff, Int.reduceToNat, Int.reducePow, f1]
  have fP : putS (n : Int) 4 = be 4 n := by rw [putS, if_pos (by omega)]; rfl
  have fl := be_length 4 n
  have fO : pc 64 n = pc 32 n := pc_more 32 n (by omega) 32
  have fL : pc 32 n ≤ 64 := by rw [← fO]; exact pc64_le n (by omega)
  repeat' (first | (refine callW.mk_pure (bits_Put_to _ _ _ (by omega) (by omega)) ?_; try (simp (disch := omega) only [go_sem, Nat.reduceEqDiff, Nat.reduceBEq, Nat.reduceAdd, Nat.reduceMul, Nat.reduceSub, Nat.reduceLeDiff, Int.reduceToNat, Int.reducePow, fP])) | refine SWp.seq ?_ | refine SWp.block ?_ | (refine SWp.reg ?_; (simp (disch := omega) only [go_sem, Nat.reduceEqDiff, Nat.reduceBEq, Nat.reduceAdd, Nat.reduceMul, Nat.reduceSub, Nat.reduceLeDiff, Int.reduceToNat, Int.reducePow, fP])) | refine SWp.condT rfl ?_ | refine SWp.condF rfl ?_ | (refine SWp.condD rfl (fun ht => ?_) (fun ht => ?_) <;> try (exfalso; omega)) | (refine SWp.skip ?_; try (simp (disch := omega) only [go_sem, Nat.reduceEqDiff, Nat.reduceBEq, Nat.reduceAdd, Nat.reduceMul, Nat.reduceSub, Nat.reduceLeDiff, Int.reduceToNat, Int.reducePow, fP])) | (refine SWp.exit ?_; try (simp (disch := omega) only [go_sem, Nat.reduceEqDiff, Nat.reduceBEq, Nat.reduceAdd, Nat.reduceMul, Nat.reduceSub, Nat.reduceLeDiff, Int.reduceToNat, Int.reducePow, fP])) | (refine SWp.ret ?_; try (simp (disch := omega) only [go_sem, Nat.reduceEqDiff, Nat.reduceBEq, Nat.reduceAdd, Nat.reduceMul, Nat.reduceSub, Nat.reduceLeDiff, Int.reduceToNat, Int.reducePow, fP])) | (refine splitG (fun ht => ?_) (fun ht => ?_) <;> (simp (disch := omega) only [go_sem, Nat.reduceEqDiff, Nat.reduceBEq, Nat.reduceAdd, Nat.reduceMul, Nat.reduceSub, Nat.reduceLeDiff, Int.reduceToNat, Int.reducePow, fP])) | (refine splitCG (fun ht => ?_) (fun ht => ?_) <;> (simp (disch := omega) only [go_sem, Nat.reduceEqDiff, Nat.reduceBEq, Nat.reduceAdd, Nat.reduceMul, Nat.reduceSub, Nat.reduceLeDiff, Int.reduceToNat, Int.reducePow, fP])) | (refine splitB (fun ht => ?_) (fun ht => ?_) <;> (simp (disch := omega) only [go_sem, Nat.reduceEqDiff, Nat.reduceBEq, Nat.reduceAdd, Nat.reduceMul, Nat.reduceSub, Nat.reduceLeDiff, Int.reduceToNat, Int.reducePow, fP])) | (refine splitCB (fun ht => ?_) (fun ht => ?_) <;> (simp (disch := omega) only [go_sem, Nat.reduceEqDiff, Nat.reduceBEq, Nat.reduceAdd, Nat.reduceMul, Nat.reduceSub, Nat.reduceLeDiff, Int.reduceToNat, Int.reducePow, fP])))
  refine SWp.loop (fun m ρ σ' => σ' = [] ∧ ∃ (i c : Nat), ρ 5 = .str (be 4 n) ∧ ρ 3 = .int .i64 n ∧ ρ 4 = .int .i64 k ∧ ρ 7 = .int .i64 i ∧ ρ 6 = .int .i64 c ∧ c = pc i (n / 2 ^ (32 - i)) ∧ c ≤ i ∧ m + i = 32) 32 ?_ ?_
  · refine ⟨rfl, 0, 0, ?_, ?_, ?_, ?_, ?_, by simp [pc], by omega, by omega⟩ <;> simp (disch := omega) only [go_sem, Nat.reduceEqDiff, Nat.reduceBEq, Nat.reduceAdd, Nat.reduceMul, Nat.reduceSub, Nat.reduceLeDiff, Int.reduceToNat, Int.reducePow] <;> rfl
  · rintro m ρ _ ⟨rfl, i, c, q5, q3, q4, q7, q6, hc, hci, hm⟩
    obtain ⟨b, hb⟩ : ∃ b, b = n / 2 ^ (31 - i) % 2 := ⟨_, rfl⟩
    have hbs : i < 32 → bitS (be 4 n) i = b := fun h => by rw [hb, bitS_be n i h]
    have hb2 : b < 2 := by omega
    have hb0 : (i : Int) < 31 - k → b = 0 := by
      intro h
      have h1 : 2 ^ (k + 1) ≤ 2 ^ (31 - i) := Nat.pow_le_pow_right (by decide) (by omega)
      have h2 : n / 2 ^ (31 - i) = 0 := Nat.div_eq_of_lt (by omega)
      rw [hb, h2]
    have hb1 : (i : Int) = 31 - k → b = 1 := by
      intro h
      have h1 : 31 - i = k := by omega
      have h2 : n / q = 1 := by
        rw [Nat.div_eq_iff (by omega)]; omega
      rw [hb, h1, ← hq, h2]
    by_cases hi : i < 32
    · have hbs' := hbs hi
      have ht := pc_top i n hi
      rw [← hb, ← hc] at ht
      have he : c + b = pc (i + 1) (n / 2 ^ (32 - (i + 1))) := by rw [show 32 - (i + 1) = 31 - i by omega]; exact ht
      clear ht hb hc
      refine SWp.mono (BitsLog_round n k q i c b ρ hn hi hci hb2 hb0 hb1 hbs' hk31 q5 q3 q4 q7 q6) ?_
      rintro e ρ' σ' ⟨rfl, rfl, k5, k3, k4, k7, k6⟩
      exact ⟨m - 1, by omega, rfl, i + 1, c + b, k5, k3, k4, k7, k6, he, by omega, by omega⟩
    · have e : i = 32 := by omega
      subst e
      simp only [Nat.sub_self, Nat.pow_zero, Nat.div_one] at hc
      clear hb hbs hb0 hb1 hb2 hq f1 f2 p1 p2
      generalize pc 32 n = p at *
      subst hc
      repeat' (first | (refine callW.mk_pure (bits_Ones_to _ _ (by omega)) ?_; try (simp (disch := omega) only [go_sem, Nat.reduceEqDiff, Nat.reduceBEq, Nat.reduceAdd, Nat.reduceMul, Nat.reduceSub, Nat.reduceLeDiff, Int.reduceToNat, Int.reducePow, q5, q3, q4, q7, q6, fO])) | (refine callW.mk_pure (turned_to _) ?_; try (simp (disch := omega) only [go_sem, Nat.reduceEqDiff, Nat.reduceBEq, Nat.reduceAdd, Nat.reduceMul, Nat.reduceSub, Nat.reduceLeDiff, Int.reduceToNat, Int.reducePow, q5, q3, q4, q7, q6, fO])) | refine SWp.seq ?_ | refine SWp.block ?_ | (refine SWp.reg ?_; (simp (disch := omega) only [go_sem, Nat.reduceEqDiff, Nat.reduceBEq, Nat.reduceAdd, Nat.reduceMul, Nat.reduceSub, Nat.reduceLeDiff, Int.reduceToNat, Int.reducePow, q5, q3, q4, q7, q6, fO])) | refine SWp.condT rfl ?_ | refine SWp.condF rfl ?_ | (refine SWp.condD rfl (fun ht => ?_) (fun ht => ?_) <;> try (exfalso; omega)) | (refine SWp.skip ?_; try (simp (disch := omega) only [go_sem, Nat.reduceEqDiff, Nat.reduceBEq, Nat.reduceAdd, Nat.reduceMul, Nat.reduceSub, Nat.reduceLeDiff, Int.reduceToNat, Int.reducePow, q5, q3, q4, q7, q6, fO])) | (refine SWp.exit ?_; try (simp (disch := omega) only [go_sem, Nat.reduceEqDiff, Nat.reduceBEq, Nat.reduceAdd, Nat.reduceMul, Nat.reduceSub, Nat.reduceLeDiff, Int.reduceToNat, Int.reducePow, q5, q3, q4, q7, q6, fO])) | (refine SWp.ret ?_; try (simp (disch := omega) only [go_sem, Nat.reduceEqDiff, Nat.reduceBEq, Nat.reduceAdd, Nat.reduceMul, Nat.reduceSub, Nat.reduceLeDiff, Int.reduceToNat, Int.reducePow, q5, q3, q4, q7, q6, fO])) | (refine splitG (fun ht => ?_) (fun ht => ?_) <;> (simp (disch := omega) only [go_sem, Nat.reduceEqDiff, Nat.reduceBEq, Nat.reduceAdd, Nat.reduceMul, Nat.reduceSub, Nat.reduceLeDiff, Int.reduceToNat, Int.reducePow, q5, q3, q4, q7, q6, fO])) | (refine splitCG (fun ht => ?_) (fun ht => ?_) <;> (simp (disch := omega) only [go_sem, Nat.reduceEqDiff, Nat.reduceBEq, Nat.reduceAdd, Nat.reduceMul, Nat.reduceSub, Nat.reduceLeDiff, Int.reduceToNat, Int.reducePow, q5, q3, q4, q7, q6, fO])) | (refine splitB (fun ht => ?_) (fun ht => ?_) <;> (simp (disch := omega) only [go_sem, Nat.reduceEqDiff, Nat.reduceBEq, Nat.reduceAdd, Nat.reduceMul, Nat.reduceSub, Nat.reduceLeDiff, Int.reduceToNat, Int.reducePow, q5, q3, q4, q7, q6, fO])) | (refine splitCB (fun ht => ?_) (fun ht => ?_) <;> (simp (disch := omega) only [go_sem, Nat.reduceEqDiff, Nat.reduceBEq, Nat.reduceAdd, Nat.reduceMul, Nat.reduceSub, Nat.reduceLeDiff, Int.reduceToNat, Int.reducePow, q5, q3, q4, q7, q6, fO])))
      exact DownV.same hw rl_bool
theorem BitsLog_to (avs : List AV) (h : ShAll [.int .u32] avs) : ACallsTo TC 9 avs [] (.bool true) [] := by
  simp only [ShAll, Sh, ShC] at h
  obtain ⟨_, _, rfl, ⟨n, hn, hn1, hn2⟩, rfl⟩ := h
  cases hn
  simp only [IntKind.min, IntKind.max, IntKind.signed, IntKind.bits] at hn1 hn2
  simp at hn1 hn2
  obtain ⟨n, rfl⟩ : ∃ k : Nat, n = k := ⟨n.toNat, by omega⟩
  by_cases h0 : n = 0
  · subst h0; exact BitsLog_zero
  obtain ⟨k, hk⟩ : ∃ k, lg 64 n = k + 1 := ⟨lg 64 n - 1, by have := lg_pos 64 n (by omega) (by omega); omega⟩
  obtain ⟨p1, p2, p3⟩ := lg_pos 64 n (by omega) (by omega)
  rw [hk] at p1 p2
  simp only [Nat.add_sub_cancel] at p1
  have hk31 : k < 32 := by
    rcases Nat.lt_or_ge k 32 with h | h
    · exact h
    · have := Nat.pow_le_pow_right (n := 2) (by decide) h; omega
  rw [Nat.pow_succ] at p2
  exact BitsLog_pos n k (2 ^ k) (by omega) (by omega) hk hk31 (pc_pow 64 k (by omega)) (by simp) rfl p1 (by omega)
end Am
end Go.Proofs.Ytkffgmpbhahioaa
