import Derived.Test.YthgcooppjhcgcaaDoorK4a1b42f97
import Derived.Test.YthgcooppjhcgcaaDoorK3cf819d1e
import Derived.Test.YthgcooppjhcgcaaDoorRows
import Derived.Test.YthgcooppjhcgcaaDoorCards
import Derived.Test.YthgcooppjhcgcaaDoorTie
import Derived.Test.YthgcooppjhcgcaaDoorK27b2f0988
import Derived.ProofKit
import Derived.LaidMore
import Derived.OpenShut
import Derived.Stop.Joined
import Derived.SevenTiedAt
import Derived.MakeChecks
section
set_option linter.unusedSimpArgs false
set_option linter.unusedVariables false
/- Ranges: contracts: slices.Equal, Valid, step, push. -/
set_option linter.unusedSimpArgs false
set_option linter.unusedVariables false
namespace Go.Proofs.YthgcooppjhcgcaaDoor
namespace Am
theorem take_hd {l : List Hash} {i : Nat} (h : i < l.length) : l.take (i + 1) = l.take i ++ [hd l i] := by
  rw [hd_get h]; exact (List.take_append_getElem h).symm
set_option maxHeartbeats 4000000 in
theorem Equal_v (σ : Store) (A B : List Hash) (x y : AV) (hx : SlV 32 (hr A) x) (hy : SlV 32 (hr B) y) (hl : A.length < 1000000000) (hl2 : B.length < 1000000000) :
    ACallsTo TC 94 [x, y] σ (.bool (decide (A = B))) σ := by
  refine ACallsTo.of_body slices_Equal_api_Hash__ok (by simp) fun hw _ => ?_
  have r1 := hx.len
  have r2 := hy.len
  rw [hr_len] at r1 r2
  unfold rLenSl at r1 r2
  by_cases hL : A.length = B.length
  · repeat' (first | refine SWp.seq ?_ | refine SWp.block ?_ | refine SWp.scope ?_ | refine SWp.condT rfl ?_ | refine SWp.condF rfl ?_ | (refine SWp.condD rfl (fun ht => ?_) (fun ht => ?_) <;> try (exfalso; omega)) | ((first | refine SWp.reg ?_ | refine SWp.skip ?_ | refine SWp.exit ?_ | refine SWp.ret ?_ | ((first | apply splitG | apply splitGB | apply splitR | apply splitRB | apply splitE | apply splitEB | apply splitC | apply splitCB) <;> intro ht)); all_goals try simp (disch := first | omega | (simp only [lens]; first | done | omega)) only [go_sem, Nat.reduceEqDiff, Nat.reduceBEq, Nat.reduceAdd, Nat.reduceMul, Nat.reduceSub, Nat.reduceLeDiff, Int.reduceToNat, Int.reducePow, r1, r2]))
    refine SWp.loop (fun m ρ σ' => ∃ i : Nat, σ' = σ ∧ m + i = A.length ∧ A.take i = B.take i ∧ ρ 0 = x ∧ ρ 1 = y ∧ ρ 12 = .int .i64 A.length ∧ ρ 13 = .int .i64 i) A.length ?_ ?_
    · exact ⟨0, rfl, by omega, rfl, by simp (disch := first | omega | (simp only [lens]; first | done | omega)) only [go_sem, Nat.reduceEqDiff, Nat.reduceBEq, Nat.reduceAdd, Nat.reduceMul, Nat.reduceSub, Nat.reduceLeDiff, Int.reduceToNat, Int.reducePow], by simp (disch := first | omega | (simp only [lens]; first | done | omega)) only [go_sem, Nat.reduceEqDiff, Nat.reduceBEq, Nat.reduceAdd, Nat.reduceMul, Nat.reduceSub, Nat.reduceLeDiff, Int.reduceToNat, Int.reducePow], by simp (disch := first | omega | (simp only [lens]; first | done | omega)) only [go_sem, Nat.reduceEqDiff, Nat.reduceBEq, Nat.reduceAdd, Nat.reduceMul, Nat.reduceSub, Nat.reduceLeDiff, Int.reduceToNat, Int.reducePow, r1], by simp (disch := first | omega | (simp only [lens]; first | done | omega)) only [go_sem, Nat.reduceEqDiff, Nat.reduceBEq, Nat.reduceAdd, Nat.reduceMul, Nat.reduceSub, Nat.reduceLeDiff, Int.reduceToNat, Int.reducePow]; rfl⟩
    · rintro m ρ σ' ⟨i, rfl, hm, hp, q0, q1, q12, q13⟩
      by_cases hi : i < A.length
      · have hi2 : i < B.length := by omega
        obtain ⟨e1, rfl⟩ := hx.vsl (by rw [hr_len]; omega)
        obtain ⟨e2, rfl⟩ := hy.vsl (by rw [hr_len]; omega)
        have hn1 := take_hd hi
        have hn2 := take_hd hi2
        by_cases he : hd A i = hd B i
        · have hn : A.take (i + 1) = B.take (i + 1) := by rw [hn1, hn2, hp, he]
          have hde := decide_eq_true he
          clear hn1 hn2
          repeat' (first | refine SWp.seq ?_ | refine SWp.block ?_ | refine SWp.scope ?_ | refine SWp.condT rfl ?_ | refine SWp.condF rfl ?_ | (refine SWp.condD rfl (fun ht => ?_) (fun ht => ?_) <;> try (exfalso; omega)) | ((first | refine SWp.regS ?_ | refine SWp.skip ?_ | refine SWp.exit ?_ | refine SWp.ret ?_ | ((first | apply splitG | apply splitGB | apply splitR | apply splitRB | apply splitE | apply splitEB | apply splitC | apply splitCB) <;> intro ht)); all_goals try simp (disch := first | omega | (simp only [lens]; first | done | omega)) only [go_sem, Nat.reduceEqDiff, Nat.reduceBEq, Nat.reduceAdd, Nat.reduceMul, Nat.reduceSub, Nat.reduceLeDiff, Int.reduceToNat, Int.reducePow, q0, q1, q12, q13, hde]))
          exact ⟨A.length - (i + 1), by omega, i + 1, by omega, hn, by simp⟩
        · have e : decide (A = B) = false := decide_eq_false fun e => he (by subst e; rfl)
          have hde := decide_eq_false he
          rw [e]
          repeat' (first | refine SWp.seq ?_ | refine SWp.block ?_ | refine SWp.scope ?_ | refine SWp.condT rfl ?_ | refine SWp.condF rfl ?_ | (refine SWp.condD rfl (fun ht => ?_) (fun ht => ?_) <;> try (exfalso; omega)) | ((first | refine SWp.regS ?_ | refine SWp.skip ?_ | refine SWp.exit ?_ | refine SWp.ret ?_ | ((first | apply splitG | apply splitGB | apply splitR | apply splitRB | apply splitE | apply splitEB | apply splitC | apply splitCB) <;> intro ht)); all_goals try simp (disch := first | omega | (simp only [lens]; first | done | omega)) only [go_sem, Nat.reduceEqDiff, Nat.reduceBEq, Nat.reduceAdd, Nat.reduceMul, Nat.reduceSub, Nat.reduceLeDiff, Int.reduceToNat, Int.reducePow, q0, q1, q12, q13, hde]))
          exact DownV.same hw (rlB_ok _ rfl)
      · have e : decide (A = B) = true := decide_eq_true (by
          rw [List.take_of_length_le (by omega), List.take_of_length_le (by omega)] at hp
          exact hp)
        rw [e]
        repeat' (first | refine SWp.seq ?_ | refine SWp.block ?_ | refine SWp.scope ?_ | refine SWp.condT rfl ?_ | refine SWp.condF rfl ?_ | (refine SWp.condD rfl (fun ht => ?_) (fun ht => ?_) <;> try (exfalso; omega)) | ((first | refine SWp.reg ?_ | refine SWp.skip ?_ | refine SWp.exit ?_ | refine SWp.ret ?_ | ((first | apply splitG | apply splitGB | apply splitR | apply splitRB | apply splitE | apply splitEB | apply splitC | apply splitCB) <;> intro ht)); all_goals try simp (disch := first | omega | (simp only [lens]; first | done | omega)) only [go_sem, Nat.reduceEqDiff, Nat.reduceBEq, Nat.reduceAdd, Nat.reduceMul, Nat.reduceSub, Nat.reduceLeDiff, Int.reduceToNat, Int.reducePow, q0, q1, q12, q13]))
        exact DownV.same hw (rlB_ok _ rfl)
  · have e : decide (A = B) = false := decide_eq_false fun e => hL (by rw [e])
    have hL' : ¬ (A.length : Int) = B.length := by omega
    rw [e]
    repeat' (first | refine SWp.seq ?_ | refine SWp.block ?_ | refine SWp.scope ?_ | refine SWp.condT rfl ?_ | refine SWp.condF rfl ?_ | (refine SWp.condD rfl (fun ht => ?_) (fun ht => ?_) <;> try (exfalso; omega)) | ((first | refine SWp.reg ?_ | refine SWp.skip ?_ | refine SWp.exit ?_ | refine SWp.ret ?_ | ((first | apply splitG | apply splitGB | apply splitR | apply splitRB | apply splitE | apply splitEB | apply splitC | apply splitCB) <;> intro ht)); all_goals try simp (disch := first | omega | (simp only [lens]; first | done | omega)) only [go_sem, Nat.reduceEqDiff, Nat.reduceBEq, Nat.reduceAdd, Nat.reduceMul, Nat.reduceSub, Nat.reduceLeDiff, Int.reduceToNat, Int.reducePow, r1, r2, hL']))
    exact DownV.same hw (rlB_ok _ rfl)
theorem Equal_h (σ : Store) (A B : List Hash) (x y : AV) (hx : RdSl σ 32 (hr A) x) (hy : RdSl σ 32 (hr B) y) (hl : A.length < 1000000000) (hl2 : B.length < 1000000000) :
    ACallsTo TC 94 [x, y] σ (.bool (decide (A = B))) σ := by
  obtain ⟨x0, h0, hd⟩ := hx.lend (rlss_hr A)
  obtain ⟨y0, h1, hd1⟩ := hy.lend (rlss_hr B)
  have := ACallsTo.lend glok (Equal_v [] A B x0 y0 h0 h1 hl hl2) (drsc hd (drs1 hd1))
  rwa [show sh σ.length (.bool (decide (A = B))) = .bool (decide (A = B)) from rfl, shS_nil, List.append_nil] at this
def validR (n : Int) (len : Nat) : Bool := decide (0 ≤ n ∧ n ≤ 4096 ∧ len = pc 64 n.toNat)
theorem ranges_Valid_h (σ : Store) (n : Int) (hs : List Hash) (x : AV) (hx : RdSl σ 32 (hr hs) x) :
    ACallsTo TC 21 [.agg [.int .i64 n, x]] σ (.bool (validR n hs.length)) σ := by
  have r1 := hx.len
  rw [hr_len] at r1
  unfold rLenSl at r1
  refine ACallsTo.of_body ranges_Valid_ok (by simp) fun hw _ => ?_
  by_cases h1 : 0 ≤ n ∧ n ≤ 4096
  · have h := fun σ => bits_Ones_to σ n (by omega)
    by_cases h2 : hs.length = pc 64 n.toNat
    · have e : validR n hs.length = true := decide_eq_true ⟨h1.1, h1.2, h2⟩
      have h2' : (hs.length : Int) = pc 64 n.toNat := by omega
      rw [e]
      repeat' (first | refine SWp.seq ?_ | refine SWp.block ?_ | refine SWp.scope ?_ | refine SWp.condT rfl ?_ | refine SWp.condF rfl ?_ | (refine SWp.condD rfl (fun ht => ?_) (fun ht => ?_) <;> try (exfalso; omega)) | ((first | refine SWp.reg ?_ | refine SWp.skip ?_ | refine SWp.exit ?_ | refine SWp.ret ?_ | (apply callW.mk_pu; (first | exact (fun _ => h _))) | (apply callW.any; (first | exact (h _))) | ((first | apply splitG | apply splitGB | apply splitR | apply splitRB | apply splitE | apply splitEB | apply splitC | apply splitCB) <;> intro ht)); all_goals try simp (disch := first | omega | (simp only [lens]; first | done | omega)) only [go_sem, Nat.reduceEqDiff, Nat.reduceBEq, Nat.reduceAdd, Nat.reduceMul, Nat.reduceSub, Nat.reduceLeDiff, Int.reduceToNat, Int.reducePow, r1, h2']))
      exact DownV.pure hw (rlB_ok _ rfl)
    · have e : validR n hs.length = false := decide_eq_false fun e => h2 e.2.2
      have h2' : ¬ (hs.length : Int) = pc 64 n.toNat := by omega
      rw [e]
      repeat' (first | refine SWp.seq ?_ | refine SWp.block ?_ | refine SWp.scope ?_ | refine SWp.condT rfl ?_ | refine SWp.condF rfl ?_ | (refine SWp.condD rfl (fun ht => ?_) (fun ht => ?_) <;> try (exfalso; omega)) | ((first | refine SWp.reg ?_ | refine SWp.skip ?_ | refine SWp.exit ?_ | refine SWp.ret ?_ | (apply callW.mk_pu; (first | exact (fun _ => h _))) | (apply callW.any; (first | exact (h _))) | ((first | apply splitG | apply splitGB | apply splitR | apply splitRB | apply splitE | apply splitEB | apply splitC | apply splitCB) <;> intro ht)); all_goals try simp (disch := first | omega | (simp only [lens]; first | done | omega)) only [go_sem, Nat.reduceEqDiff, Nat.reduceBEq, Nat.reduceAdd, Nat.reduceMul, Nat.reduceSub, Nat.reduceLeDiff, Int.reduceToNat, Int.reducePow, r1, h2']))
      exact DownV.pure hw (rlB_ok _ rfl)
  · have e : validR n hs.length = false := decide_eq_false fun e => h1 ⟨e.1, e.2.1⟩
    rw [e]
    repeat' (first | refine SWp.seq ?_ | refine SWp.block ?_ | refine SWp.scope ?_ | refine SWp.condT rfl ?_ | refine SWp.condF rfl ?_ | (refine SWp.condD rfl (fun ht => ?_) (fun ht => ?_) <;> try (exfalso; omega)) | ((first | refine SWp.reg ?_ | refine SWp.skip ?_ | refine SWp.exit ?_ | refine SWp.ret ?_ | ((first | apply splitG | apply splitGB | apply splitR | apply splitRB | apply splitE | apply splitEB | apply splitC | apply splitCB) <;> intro ht)); all_goals try simp (disch := first | omega | (simp only [lens]; first | done | omega)) only [go_sem, Nat.reduceEqDiff, Nat.reduceBEq, Nat.reduceAdd, Nat.reduceMul, Nat.reduceSub, Nat.reduceLeDiff, Int.reduceToNat, Int.reducePow, r1]))
    all_goals exact DownV.pure hw (rlB_ok _ rfl)
theorem ref_Valid_h (σ : Store) (n : Int) (hs : List Hash) (x : AV) (hx : RdSl σ 32 (hr hs) x) :
    ACallsTo TC 22 [.agg [.int .i64 n, x]] σ (.bool (validR n hs.length)) σ := by
  have r1 := hx.len
  rw [hr_len] at r1
  unfold rLenSl at r1
  refine ACallsTo.of_body speculumref05_Valid_ok (by simp) fun hw _ => ?_
  by_cases h1 : 0 ≤ n ∧ n ≤ 4096
  · have h := fun σ => speculumref01_Ones_to σ n (by omega)
    by_cases h2 : hs.length = pc 64 n.toNat
    · have e : validR n hs.length = true := decide_eq_true ⟨h1.1, h1.2, h2⟩
      have h2' : (hs.length : Int) = pc 64 n.toNat := by omega
      rw [e]
      repeat' (first | refine SWp.seq ?_ | refine SWp.block ?_ | refine SWp.scope ?_ | refine SWp.condT rfl ?_ | refine SWp.condF rfl ?_ | (refine SWp.condD rfl (fun ht => ?_) (fun ht => ?_) <;> try (exfalso; omega)) | ((first | refine SWp.reg ?_ | refine SWp.skip ?_ | refine SWp.exit ?_ | refine SWp.ret ?_ | (apply callW.mk_pu; (first | exact (fun _ => h _))) | (apply callW.any; (first | exact (h _))) | ((first | apply splitG | apply splitGB | apply splitR | apply splitRB | apply splitE | apply splitEB | apply splitC | apply splitCB) <;> intro ht)); all_goals try simp (disch := first | omega | (simp only [lens]; first | done | omega)) only [go_sem, Nat.reduceEqDiff, Nat.reduceBEq, Nat.reduceAdd, Nat.reduceMul, Nat.reduceSub, Nat.reduceLeDiff, Int.reduceToNat, Int.reducePow, r1, h2']))
      exact DownV.pure hw (rlB_ok _ rfl)
    · have e : validR n hs.length = false := decide_eq_false fun e => h2 e.2.2
      have h2' : ¬ (hs.length : Int) = pc 64 n.toNat := by omega
      rw [e]
      repeat' (first | refine SWp.seq ?_ | refine SWp.block ?_ | refine SWp.scope ?_ | refine SWp.condT rfl ?_ | refine SWp.condF rfl ?_ | (refine SWp.condD rfl (fun ht => ?_) (fun ht => ?_) <;> try (exfalso; omega)) | ((first | refine SWp.reg ?_ | refine SWp.skip ?_ | refine SWp.exit ?_ | refine SWp.ret ?_ | (apply callW.mk_pu; (first | exact (fun _ => h _))) | (apply callW.any; (first | exact (h _))) | ((first | apply splitG | apply splitGB | apply splitR | apply splitRB | apply splitE | apply splitEB | apply splitC | apply splitCB) <;> intro ht)); all_goals try simp (disch := first | omega | (simp only [lens]; first | done | omega)) only [go_sem, Nat.reduceEqDiff, Nat.reduceBEq, Nat.reduceAdd, Nat.reduceMul, Nat.reduceSub, Nat.reduceLeDiff, Int.reduceToNat, Int.reducePow, r1, h2']))
      exact DownV.pure hw (rlB_ok _ rfl)
  · have e : validR n hs.length = false := decide_eq_false fun e => h1 ⟨e.1, e.2.1⟩
    rw [e]
    repeat' (first | refine SWp.seq ?_ | refine SWp.block ?_ | refine SWp.scope ?_ | refine SWp.condT rfl ?_ | refine SWp.condF rfl ?_ | (refine SWp.condD rfl (fun ht => ?_) (fun ht => ?_) <;> try (exfalso; omega)) | ((first | refine SWp.reg ?_ | refine SWp.skip ?_ | refine SWp.exit ?_ | refine SWp.ret ?_ | ((first | apply splitG | apply splitGB | apply splitR | apply splitRB | apply splitE | apply splitEB | apply splitC | apply splitCB) <;> intro ht)); all_goals try simp (disch := first | omega | (simp only [lens]; first | done | omega)) only [go_sem, Nat.reduceEqDiff, Nat.reduceBEq, Nat.reduceAdd, Nat.reduceMul, Nat.reduceSub, Nat.reduceLeDiff, Int.reduceToNat, Int.reducePow, r1]))
    all_goals exact DownV.pure hw (rlB_ok _ rfl)
theorem step_to (σ : Store) (n d : Nat) (h0 : 0 < d) (h : n + d ≤ 4096) : ACallsTo TC 92 [.int .i64 n, .int .i64 ((n + d : Nat) : Int)] σ (.int .i64 (stepS n d)) σ := by
  refine ACallsTo.of_body ranges_step_ok (by simp) fun hw _ => ?_
  have hsub : ((n + d : Nat) : Int) - n = d := by omega
  repeat' (first | refine SWp.seq ?_ | refine SWp.block ?_ | refine SWp.scope ?_ | refine SWp.condT rfl ?_ | refine SWp.condF rfl ?_ | (refine SWp.condD rfl (fun ht => ?_) (fun ht => ?_) <;> try (exfalso; omega)) | ((first | refine SWp.reg ?_ | refine SWp.skip ?_ | refine SWp.exit ?_ | refine SWp.ret ?_ | ((first | apply splitG | apply splitGB | apply splitR | apply splitRB | apply splitE | apply splitEB | apply splitC | apply splitCB) <;> intro ht)); all_goals try simp (disch := first | omega | (simp only [lens]; first | done | omega)) only [go_sem, Nat.reduceEqDiff, Nat.reduceBEq, Nat.reduceAdd, Nat.reduceMul, Nat.reduceSub, Nat.reduceLeDiff, Int.reduceToNat, Int.reducePow]))
  refine SWp.loop (fun m ρ σ' => ∃ k : Nat, σ' = σ ∧ k ≤ d ∧ 0 < k ∧ d < 2 ^ m * k ∧ stepF m n d k = stepS n d ∧ ρ 0 = .int .i64 n ∧ ρ 1 = .int .i64 ((n + d : Nat) : Int) ∧ ρ 5 = .int .i64 k) 13 ?_ ?_
  · exact ⟨1, rfl, by omega, by omega, by omega, rfl, by simp (disch := first | omega | (simp only [lens]; first | done | omega)) only [go_sem, Nat.reduceEqDiff, Nat.reduceBEq, Nat.reduceAdd, Nat.reduceMul, Nat.reduceSub, Nat.reduceLeDiff, Int.reduceToNat, Int.reducePow], by simp (disch := first | omega | (simp only [lens]; first | done | omega)) only [go_sem, Nat.reduceEqDiff, Nat.reduceBEq, Nat.reduceAdd, Nat.reduceMul, Nat.reduceSub, Nat.reduceLeDiff, Int.reduceToNat, Int.reducePow], by simp (disch := first | omega | (simp only [lens]; first | done | omega)) only [go_sem, Nat.reduceEqDiff, Nat.reduceBEq, Nat.reduceAdd, Nat.reduceMul, Nat.reduceSub, Nat.reduceLeDiff, Int.reduceToNat, Int.reducePow]; rfl⟩
  · rintro m ρ σ' ⟨k, rfl, hk, hk0, hkm, hp, q0, q1, q5⟩
    cases m with
    | zero => simp at hkm; omega
    | succ m =>
      have hmod : (n : Int) % (2 * k) = ((n % (2 * k) : Nat) : Int) := by simp
      have hk2 : ¬ (2 * (k : Int)) = 0 := by omega
      simp only [stepF] at hp
      by_cases hc : 2 * k ≤ d ∧ n % (2 * k) = 0
      · rw [if_pos hc] at hp
        have hc1 : (k : Int) ≤ d / 2 := by omega
        have hc2 : ((n % (2 * k) : Nat) : Int) = 0 := by omega
        generalize n % (2 * k) = r at *
        have e2 := Nat.pow_succ (n := 2) (m := m)
        repeat' (first | refine SWp.seq ?_ | refine SWp.block ?_ | refine SWp.scope ?_ | refine SWp.condT rfl ?_ | refine SWp.condF rfl ?_ | (refine SWp.condD rfl (fun ht => ?_) (fun ht => ?_) <;> try (exfalso; omega)) | ((first | refine SWp.reg ?_ | refine SWp.skip ?_ | refine SWp.exit ?_ | refine SWp.ret ?_ | ((first | apply splitG | apply splitGB | apply splitR | apply splitRB | apply splitE | apply splitEB | apply splitC | apply splitCB) <;> intro ht)); all_goals try simp (disch := first | omega | (simp only [lens]; first | done | omega)) only [go_sem, Nat.reduceEqDiff, Nat.reduceBEq, Nat.reduceAdd, Nat.reduceMul, Nat.reduceSub, Nat.reduceLeDiff, Int.reduceToNat, Int.reducePow, q0, q1, q5, hsub, hmod, hk2, hc2, hc1]))
        exact ⟨m, by omega, 2 * k, by omega, by omega, by rw [e2, Nat.mul_assoc] at hkm; exact hkm, hp, by simp; omega⟩
      · rw [if_neg hc] at hp
        rw [← hp]
        by_cases hc1 : (k : Int) ≤ d / 2
        · have hc2 : ¬ ((n % (2 * k) : Nat) : Int) = 0 := by omega
          generalize n % (2 * k) = r at *
          repeat' (first | refine SWp.seq ?_ | refine SWp.block ?_ | refine SWp.scope ?_ | refine SWp.condT rfl ?_ | refine SWp.condF rfl ?_ | (refine SWp.condD rfl (fun ht => ?_) (fun ht => ?_) <;> try (exfalso; omega)) | ((first | refine SWp.reg ?_ | refine SWp.skip ?_ | refine SWp.exit ?_ | refine SWp.ret ?_ | ((first | apply splitG | apply splitGB | apply splitR | apply splitRB | apply splitE | apply splitEB | apply splitC | apply splitCB) <;> intro ht)); all_goals try simp (disch := first | omega | (simp only [lens]; first | done | omega)) only [go_sem, Nat.reduceEqDiff, Nat.reduceBEq, Nat.reduceAdd, Nat.reduceMul, Nat.reduceSub, Nat.reduceLeDiff, Int.reduceToNat, Int.reducePow, q0, q1, q5, hsub, hmod, hk2, hc2, hc1]))
          exact DownV.same hw (rlB_ok _ rfl)
        · repeat' (first | refine SWp.seq ?_ | refine SWp.block ?_ | refine SWp.scope ?_ | refine SWp.condT rfl ?_ | refine SWp.condF rfl ?_ | (refine SWp.condD rfl (fun ht => ?_) (fun ht => ?_) <;> try (exfalso; omega)) | ((first | refine SWp.reg ?_ | refine SWp.skip ?_ | refine SWp.exit ?_ | refine SWp.ret ?_ | ((first | apply splitG | apply splitGB | apply splitR | apply splitRB | apply splitE | apply splitEB | apply splitC | apply splitCB) <;> intro ht)); all_goals try simp (disch := first | omega | (simp only [lens]; first | done | omega)) only [go_sem, Nat.reduceEqDiff, Nat.reduceBEq, Nat.reduceAdd, Nat.reduceMul, Nat.reduceSub, Nat.reduceLeDiff, Int.reduceToNat, Int.reducePow, q0, q1, q5, hsub, hmod, hk2, hc1]))
          exact DownV.same hw (rlB_ok _ rfl)
end Am
end Go.Proofs.YthgcooppjhcgcaaDoor
end
section
set_option linter.unusedSimpArgs false
set_option linter.unusedVariables false
/- Ranges: contracts: push. -/
set_option linter.unusedSimpArgs false
set_option linter.unusedVariables false
namespace Go.Proofs.YthgcooppjhcgcaaDoor
namespace Am
def Ext (σ σ' : Store) : Prop := ∃ news, σ' = σ ++ news
theorem Ext.refl (σ : Store) : Ext σ σ := ⟨[], by simp⟩
theorem Ext.app {σ σ' y : Store} (h : Ext σ σ') : Ext σ (σ' ++ y) := by
  obtain ⟨n, rfl⟩ := h
  exact ⟨n ++ y, by rw [List.append_assoc]⟩
theorem Ext.set {σ σ' : Store} {r : Nat} {x : Option AObj} (h : Ext σ σ') (hr : σ.length ≤ r) : Ext σ (σ'.set r x) := by
  obtain ⟨n, rfl⟩ := h
  exact ⟨n.set (r - σ.length) x, List.set_append_right _ _ hr⟩
theorem Ext.trans {σ σ' σ'' : Store} (h : Ext σ σ') (h' : Ext σ' σ'') : Ext σ σ'' := by
  obtain ⟨n, rfl⟩ := h
  obtain ⟨m, rfl⟩ := h'
  exact ⟨n ++ m, by rw [List.append_assoc]⟩
theorem Ext.le {σ σ' : Store} (h : Ext σ σ') : σ.length ≤ σ'.length := by
  obtain ⟨n, rfl⟩ := h; simp
theorem Clone_ex (σ : Store) (l : List Hash) (x : AV) (hx : RdSl σ 32 (hr l) x) : ∃ v σ', OwnE 32 σ σ' v (hr l) ∧ (x = .nilsl ↔ v = .nilsl) := by
  have h1 := own_is σ 32 (hr l)
  rcases hx with (⟨rfl, h⟩ | ⟨ex, rfl⟩) | ⟨r, off, lim, o, rfl, _⟩
  · exact ⟨.nilsl, σ, .inl ⟨[], by simp, .inl ⟨h, rfl⟩⟩, Iff.rfl⟩
  · by_cases h0 : hr l = []
    · exact ⟨.vsl 32 [] true, σ, .inr ⟨h0, rfl, [], by simp⟩, by simp⟩
    · refine ⟨_, _, .inl h1, ?_⟩
      unfold ownV; rw [if_neg h0]; simp
  · by_cases h0 : hr l = []
    · exact ⟨.vsl 32 [] true, σ, .inr ⟨h0, rfl, [], by simp⟩, by simp⟩
    · refine ⟨_, _, .inl h1, ?_⟩
      unfold ownV; rw [if_neg h0]; simp
theorem and_pow {n i : Nat} : n &&& 2 ^ i = if n / 2 ^ i % 2 = 1 then 2 ^ i else 0 := by
  apply Nat.eq_of_testBit_eq
  intro k
  rw [Nat.testBit_and, Nat.testBit_two_pow]
  by_cases hk : i = k
  · subst hk
    rw [Nat.testBit_eq_decide_div_mod_eq]
    split
    · rename_i h; simp [h, Nat.testBit_two_pow]
    · rename_i h; simp [h]
  · split
    · simp [hk, Nat.testBit_two_pow]
    · simp [hk]
theorem pc_odd {f q : Nat} (h : q % 2 = 1) (hf : 0 < f) : pc f q = 1 + pc (f - 1) (q / 2) := by
  match f, hf with
  | f + 1, _ => simp [pc, h]
/-- A loop that is left in its first round. -/
theorem SWp.once {C : Ctx} {n k : Nat} {Q : AExit → Env → Store → Prop} {ρ : Env} {σ : Store} {x : ACode} (h : SWp C n k x (thenQ (fun _ _ => False) Q) ρ σ) : SWp C n k (.loop x) Q ρ σ :=
  SWp.loop (fun _ ρ' σ' => ρ' = ρ ∧ σ' = σ) 0 ⟨rfl, rfl⟩ (by
    rintro m _ _ ⟨rfl, rfl⟩
    refine h.mono fun e ρ σ h => ?_
    cases e
    · exact h.elim
    · exact h
    · exact h)
set_option maxHeartbeats 8000000 in
theorem push_to (σ : Store) (n j : Nat) (x : AV) (hs : List Hash) (h : Hash) (hx : RdSl σ 32 (hr hs) x) (hj : 2 ^ j ∣ n) (hn : n + 2 ^ j ≤ 4096) (hl : hs.length = pc 13 n) :
    ACallsTo TC 83 [.agg [.int .i64 n, x], .int .i64 ((2 ^ j : Nat) : Int), .agg (hc h)] σ (.agg [.int .i64 ((n + 2 ^ j : Nat) : Int), .vsl 32 (hr (pushR (n / 2 ^ j) hs.reverse h).reverse) false]) σ := by
  have hp : 0 < 2 ^ j := Nat.pow_pos (by decide)
  have hj12 : j ≤ 12 := by
    rcases Nat.lt_or_ge j 13 with h | h
    · omega
    · have := Nat.pow_le_pow_right (n := 2) (by decide) h
      omega
  have hlen : hs.length < 1000000 := by
    have : ∀ f q, pc f q ≤ f := fun f => by
      induction f with
      | zero => intro q; simp [pc]
      | succ f ih => intro q; simp only [pc]; have := ih (q / 2); omega
    have := this 13 n; omega
  obtain ⟨q0, hq0⟩ := hj
  have hdiv : n / 2 ^ j = q0 := by rw [hq0]; exact Nat.mul_div_cancel_left _ hp
  have hpl : hs.length = pc (13 - j) (n / 2 ^ j) := by
    have := pc_two j (13 - j) q0
    rw [← hq0, show 13 - j + j = 13 by omega] at this
    rw [hl, this, hdiv]
  generalize hk0 : 2 ^ j = k0 at *
  have hadd : ((n : Int) + k0) = ((n + k0 : Nat) : Int) := by omega
  refine ACallsTo.of_body ranges_push_ok (by simp) fun hw _ => ?_
  repeat' (first | refine SWp.seq ?_ | refine SWp.block ?_ | refine SWp.scope ?_ | refine SWp.condT rfl ?_ | refine SWp.condF rfl ?_ | (refine SWp.condD rfl (fun ht => ?_) (fun ht => ?_) <;> try (exfalso; omega)) | ((first | refine SWp.reg ?_ | refine SWp.skip ?_ | refine SWp.exit ?_ | refine SWp.ret ?_ | ((first | apply splitG | apply splitGB | apply splitR | apply splitRB | apply splitE | apply splitEB | apply splitC | apply splitCB) <;> intro ht)); all_goals try simp (disch := first | omega | (simp only [lens]; first | done | omega)) only [go_sem, Nat.reduceEqDiff, Nat.reduceBEq, Nat.reduceAdd, Nat.reduceMul, Nat.reduceSub, Nat.reduceLeDiff, Int.reduceToNat, Int.reducePow]))
  refine callW.mkP (Clone_h _ hs x hx.app hlen) (Clone_ex _ hs x hx.app) ?_
  rintro v σ1 ⟨hO, _⟩
  obtain ⟨y, hy⟩ := hO.ext
  have b0 : σ1[σ.length]? = some (some [[.int .i64 n, x]]) := by rw [hy]; simp
  have b1 : σ1[σ.length + 1]? = some (some [hc h]) := by rw [hy]; simp
  have b2 : σ1[σ.length + 2]? = some (some [[.int .i64 0, .nilsl]]) := by rw [hy]; simp
  have b3 : Ext σ σ1 := by rw [hy]; exact (Ext.refl σ).app.app
  have g0 := slen b0
  have g1 := slen b1
  have g2 := slen b2
  by_cases h0 : hs = []
  · subst h0
    have hn0 : n / k0 % 2 = 0 := by
      have := hpl
      simp at this
      rcases Nat.mod_two_eq_zero_or_one (n / k0) with h | h
      · exact h
      · rw [pc_odd h (by omega)] at this; omega
    have hand := and_pow (n := n) (i := j)
    rw [hk0, if_neg (by omega)] at hand
    have hres : hr (pushR (n / k0) ([] : List Hash).reverse h).reverse = [hc h] := rfl
    rw [hres]
    have hv : v = .nilsl ∨ v = .vsl 32 [] true := by
      rcases hO with ⟨_, _, ⟨_, rfl⟩ | ⟨_, h1, _⟩⟩ | ⟨_, rfl, _⟩
      · exact .inl rfl
      · exact absurd rfl h1
      · exact .inr rfl
    have fin : ∀ σ2 r, Ext σ σ2 → σ.length ≤ r → σ2[r]? = some (some [hc h]) → DownV σ.length (.agg [.int .i64 ((n + k0 : Nat) : Int), .sl r 0 1 none 32]) σ2 (.agg [.int .i64 ((n + k0 : Nat) : Int), .vsl 32 [hc h] false]) σ := fun σ2 r e hr hg => by
      obtain ⟨news, rfl⟩ := e
      exact DownV.all hw (drA (drsc (FrzD.same (by simp [RL])) (drs1 (FrzD.sl (es := [hc h]) hr hg (by simp) (by simp) (by simp only [RLss]; exact ⟨rl_hc _, trivial⟩)))))
    rcases hv with rfl | rfl
    · repeat' (first | refine SWp.seq ?_ | refine SWp.block ?_ | refine SWp.scope ?_ | refine SWp.condT rfl ?_ | refine SWp.condF rfl ?_ | (refine SWp.condD rfl (fun ht => ?_) (fun ht => ?_) <;> try (exfalso; omega)) | ((first | refine SWp.reg ?_ | refine SWp.skip ?_ | refine SWp.exit ?_ | refine SWp.ret ?_ | ((first | apply splitG | apply splitGB | apply splitR | apply splitRB | apply splitE | apply splitEB | apply splitC | apply splitCB) <;> intro ht)); all_goals try simp (disch := first | omega | (simp only [lens]; first | done | omega)) only [go_sem, Nat.reduceEqDiff, Nat.reduceBEq, Nat.reduceAdd, Nat.reduceMul, Nat.reduceSub, Nat.reduceLeDiff, Int.reduceToNat, Int.reducePow, b0, b1, b2]))
      refine SWp.once ?_
      repeat' (first | refine SWp.seq ?_ | refine SWp.block ?_ | refine SWp.scope ?_ | refine SWp.condT rfl ?_ | refine SWp.condF rfl ?_ | (refine SWp.condD rfl (fun ht => ?_) (fun ht => ?_) <;> try (exfalso; omega)) | ((first | refine SWp.reg ?_ | refine SWp.skip ?_ | refine SWp.exit ?_ | refine SWp.ret ?_ | ((first | apply splitG | apply splitGB | apply splitR | apply splitRB | apply splitE | apply splitEB | apply splitC | apply splitCB) <;> intro ht)); all_goals try simp (disch := first | omega | (simp only [lens]; first | done | omega)) only [go_sem, Nat.reduceEqDiff, Nat.reduceBEq, Nat.reduceAdd, Nat.reduceMul, Nat.reduceSub, Nat.reduceLeDiff, Int.reduceToNat, Int.reducePow, b0, b1, b2, hand, hadd]))
      exact fin _ _ (b3.set (by omega)).app (by omega) (by simp)
    · repeat' (first | refine SWp.seq ?_ | refine SWp.block ?_ | refine SWp.scope ?_ | refine SWp.condT rfl ?_ | refine SWp.condF rfl ?_ | (refine SWp.condD rfl (fun ht => ?_) (fun ht => ?_) <;> try (exfalso; omega)) | ((first | refine SWp.reg ?_ | refine SWp.skip ?_ | refine SWp.exit ?_ | refine SWp.ret ?_ | ((first | apply splitG | apply splitGB | apply splitR | apply splitRB | apply splitE | apply splitEB | apply splitC | apply splitCB) <;> intro ht)); all_goals try simp (disch := first | omega | (simp only [lens]; first | done | omega)) only [go_sem, Nat.reduceEqDiff, Nat.reduceBEq, Nat.reduceAdd, Nat.reduceMul, Nat.reduceSub, Nat.reduceLeDiff, Int.reduceToNat, Int.reducePow, b0, b1, b2]))
      refine SWp.once ?_
      repeat' (first | refine SWp.seq ?_ | refine SWp.block ?_ | refine SWp.scope ?_ | refine SWp.condT rfl ?_ | refine SWp.condF rfl ?_ | (refine SWp.condD rfl (fun ht => ?_) (fun ht => ?_) <;> try (exfalso; omega)) | ((first | refine SWp.reg ?_ | refine SWp.skip ?_ | refine SWp.exit ?_ | refine SWp.ret ?_ | ((first | apply splitG | apply splitGB | apply splitR | apply splitRB | apply splitE | apply splitEB | apply splitC | apply splitCB) <;> intro ht)); all_goals try simp (disch := first | omega | (simp only [lens]; first | done | omega)) only [go_sem, Nat.reduceEqDiff, Nat.reduceBEq, Nat.reduceAdd, Nat.reduceMul, Nat.reduceSub, Nat.reduceLeDiff, Int.reduceToNat, Int.reducePow, b0, b1, b2, hand, hadd]))
      exact fin _ _ (b3.set (by omega)).app (by omega) (by simp)
  · have hpos : 0 < hs.length := List.length_pos_iff.2 h0
    obtain ⟨r, rfl, hgr, hrl⟩ : ∃ r, v = .sl r 0 hs.length none 32 ∧ σ1[r]? = some (some (hr hs)) ∧ σ.length + 3 ≤ r := by
      rcases hO with hO | hO
      · obtain ⟨r, h1, h2, h3⟩ := hO.sl (by rw [Ne, hr_nil_iff]; exact h0)
        rw [hr_len] at h1
        exact ⟨r, h1, h2, by simpa using h3⟩
      · exact absurd (hr_nil_iff.1 hO.1) h0
    have g3 := slen hgr
    repeat' (first | refine SWp.seq ?_ | refine SWp.block ?_ | refine SWp.scope ?_ | refine SWp.condT rfl ?_ | refine SWp.condF rfl ?_ | (refine SWp.condD rfl (fun ht => ?_) (fun ht => ?_) <;> try (exfalso; omega)) | ((first | refine SWp.reg ?_ | refine SWp.skip ?_ | refine SWp.exit ?_ | refine SWp.ret ?_ | ((first | apply splitG | apply splitGB | apply splitR | apply splitRB | apply splitE | apply splitEB | apply splitC | apply splitCB) <;> intro ht)); all_goals try simp (disch := first | omega | (simp only [lens]; first | done | omega)) only [go_sem, Nat.reduceEqDiff, Nat.reduceBEq, Nat.reduceAdd, Nat.reduceMul, Nat.reduceSub, Nat.reduceLeDiff, Int.reduceToNat, Int.reducePow, b0, b1, b2, hadd]))
    refine SWp.loop (fun m ρ σ' => ∃ (i : Nat) (h' : Hash), m ≤ hs.length ∧ j ≤ i ∧ i ≤ 13 ∧ m = pc (13 - i) (n / 2 ^ i) ∧ pushR (n / 2 ^ i) (hs.take m).reverse h' = pushR (n / k0) hs.reverse h ∧
      σ'[σ.length]? = some (some [[.int .i64 n, x]]) ∧ σ'[σ.length + 1]? = some (some [hc h']) ∧ σ'[σ.length + 2]? = some (some [[.int .i64 0, .nilsl]]) ∧ σ'[r]? = some (some (hr hs)) ∧ Ext σ σ' ∧
      ρ 1 = .int .i64 k0 ∧ ρ 3 = .ptr σ.length 0 0 ∧ ρ 5 = .ptr (σ.length + 1) 0 0 ∧ ρ 6 = .ptr (σ.length + 2) 0 0 ∧ ρ 7 = .sl r 0 m none 32 ∧ ρ 8 = .int .i64 ((2 ^ i : Nat) : Int)) hs.length ?_ ?_
    · refine ⟨j, h, Nat.le_refl _, Nat.le_refl _, by omega, ?_, ?_, b0, b1, b2, hgr, b3, by simp (disch := first | omega | (simp only [lens]; first | done | omega)) only [go_sem, Nat.reduceEqDiff, Nat.reduceBEq, Nat.reduceAdd, Nat.reduceMul, Nat.reduceSub, Nat.reduceLeDiff, Int.reduceToNat, Int.reducePow], by simp (disch := first | omega | (simp only [lens]; first | done | omega)) only [go_sem, Nat.reduceEqDiff, Nat.reduceBEq, Nat.reduceAdd, Nat.reduceMul, Nat.reduceSub, Nat.reduceLeDiff, Int.reduceToNat, Int.reducePow], by simp (disch := first | omega | (simp only [lens]; first | done | omega)) only [go_sem, Nat.reduceEqDiff, Nat.reduceBEq, Nat.reduceAdd, Nat.reduceMul, Nat.reduceSub, Nat.reduceLeDiff, Int.reduceToNat, Int.reducePow], by simp (disch := first | omega | (simp only [lens]; first | done | omega)) only [go_sem, Nat.reduceEqDiff, Nat.reduceBEq, Nat.reduceAdd, Nat.reduceMul, Nat.reduceSub, Nat.reduceLeDiff, Int.reduceToNat, Int.reducePow], by simp (disch := first | omega | (simp only [lens]; first | done | omega)) only [go_sem, Nat.reduceEqDiff, Nat.reduceBEq, Nat.reduceAdd, Nat.reduceMul, Nat.reduceSub, Nat.reduceLeDiff, Int.reduceToNat, Int.reducePow], by simp (disch := first | omega | (simp only [lens]; first | done | omega)) only [go_sem, Nat.reduceEqDiff, Nat.reduceBEq, Nat.reduceAdd, Nat.reduceMul, Nat.reduceSub, Nat.reduceLeDiff, Int.reduceToNat, Int.reducePow]; rw [hk0]⟩
      · rw [hk0]; exact hpl
      · rw [hk0, List.take_of_length_le (Nat.le_refl _)]
    · rintro m ρ σ' ⟨i, h', hm, hji, hi13, hmp, hpush, c0, c1, c2, cr, ce, q1, q3, q5, q6, q7, q8⟩
      have d0 := slen c0
      have d1 := slen c1
      have d2 := slen c2
      have dr := slen cr
      have hki : 0 < 2 ^ i := Nat.pow_pos (by decide)
      have hand := and_pow (n := n) (i := i)
      have hi8 : 2 ^ i ≤ 8192 := by
        have := Nat.pow_le_pow_right (n := 2) (by decide) hi13
        exact this
      have hs2 : 2 ^ (i + 1) = 2 ^ i * 2 := Nat.pow_succ ..
      have hdd : n / 2 ^ i / 2 = n / 2 ^ (i + 1) := by rw [Nat.div_div_eq_div_mul, hs2]
      by_cases hbit : n / 2 ^ i % 2 = 1
      · rw [if_pos hbit] at hand
        have hi12 : i < 13 := by
          rcases Nat.lt_or_ge i 13 with h | h
          · exact h
          · have e13 : i = 13 := by omega
            rw [e13, Nat.div_eq_of_lt (by omega)] at hbit
            simp at hbit
        rw [pc_odd hbit (by omega)] at hmp
        obtain ⟨l, rfl⟩ : ∃ l, m = l + 1 := ⟨m - 1, by omega⟩
        have hrev : (hs.take (l + 1)).reverse = hd hs l :: (hs.take l).reverse := by rw [take_hd (by omega)]; simp
        rw [hrev, pushR_odd hbit, hdd] at hpush
        rw [hdd, show 13 - i - 1 = 13 - (i + 1) by omega] at hmp
        generalize hki2 : 2 ^ i = k at *
        have hne : ¬ (k : Int) = 0 := by omega
        have hl1 : ((l + 1 : Nat) : Int) - 1 = l := by omega
        repeat' (first | refine SWp.seq ?_ | refine SWp.block ?_ | refine SWp.scope ?_ | refine SWp.condT rfl ?_ | refine SWp.condF rfl ?_ | (refine SWp.condD rfl (fun ht => ?_) (fun ht => ?_) <;> try (exfalso; omega)) | ((first | refine SWp.regS ?_ | refine SWp.skip ?_ | refine SWp.exit ?_ | refine SWp.ret ?_ | (apply callW.mk_pu; (first | exact (fun _ => trees_Node_h _ _ _))) | (apply callW.any; (first | exact (trees_Node_h _ _ _))) | ((first | apply splitG | apply splitGB | apply splitR | apply splitRB | apply splitE | apply splitEB | apply splitC | apply splitCB) <;> intro ht)); all_goals try simp (disch := first | omega | (simp only [lens]; first | done | omega)) only [go_sem, Nat.reduceEqDiff, Nat.reduceBEq, Nat.reduceAdd, Nat.reduceMul, Nat.reduceSub, Nat.reduceLeDiff, Int.reduceToNat, Int.reducePow, q1, q3, q5, q6, q7, q8, c0, c1, c2, cr, hand, hne, hl1]))
        exact ⟨l, by omega, i + 1, nodeH (hd hs l) h', by omega, by omega, by omega, by omega, hpush, rfl, ce.set (by omega), by simp, by rw [hs2]; simp⟩
      · rw [if_neg hbit] at hand
        rw [pushR_even (by omega)] at hpush
        have hres : (pushR (n / k0) hs.reverse h).reverse = hs.take m ++ [h'] := by rw [← hpush]; simp
        rw [hres]
        generalize hki2 : 2 ^ i = k at *
        have fin : ∀ σ2 r2 o, Ext σ σ2 → σ.length ≤ r2 → σ2[r2]? = some (some o) → m + 1 ≤ o.length → o.take (m + 1) = hr (hs.take m ++ [h']) → DownV σ.length (.agg [.int .i64 ((n + k0 : Nat) : Int), .sl r2 0 (m + 1) none 32]) σ2 (.agg [.int .i64 ((n + k0 : Nat) : Int), .vsl 32 (hr (hs.take m ++ [h'])) false]) σ := fun σ2 r2 o e hr2 hg ho1 ho2 => by
          obtain ⟨news, rfl⟩ := e
          have hl3 : (hr (hs.take m ++ [h'])).length = m + 1 := by simp [hr_len]; omega
          have := FrzD.sl (τ := σ) (news := news) (r := r2) (off := 0) (lim := none) (esz := 32) (o := o) (es := hr (hs.take m ++ [h'])) hr2 hg (by omega) (by rw [hl3, List.drop_zero]; exact ho2) (rlss_hr _)
          rw [hl3] at this
          exact DownV.all hw (drA (drsc (FrzD.same (by simp [RL])) (drs1 this)))
        by_cases hfull : m < hs.length
        · repeat' (first | refine SWp.seq ?_ | refine SWp.block ?_ | refine SWp.scope ?_ | refine SWp.condT rfl ?_ | refine SWp.condF rfl ?_ | (refine SWp.condD rfl (fun ht => ?_) (fun ht => ?_) <;> try (exfalso; omega)) | ((first | refine SWp.reg ?_ | refine SWp.skip ?_ | refine SWp.exit ?_ | refine SWp.ret ?_ | ((first | apply splitG | apply splitGB | apply splitR | apply splitRB | apply splitE | apply splitEB | apply splitC | apply splitCB) <;> intro ht)); all_goals try simp (disch := first | omega | (simp only [lens]; first | done | omega)) only [go_sem, Nat.reduceEqDiff, Nat.reduceBEq, Nat.reduceAdd, Nat.reduceMul, Nat.reduceSub, Nat.reduceLeDiff, Int.reduceToNat, Int.reducePow, q1, q3, q5, q6, q7, q8, c0, c1, c2, cr, hand, hadd]))
          refine fin _ r _ ((ce.set (by omega)).set (by omega)) (by omega) (by rw [gset_ne (by omega), gset_eq dr]) (by simp [hr_len]; omega) ?_
          rw [show hr (hs.take m) ++ hc h' :: hr (hs.drop (m + 1)) = hr ((hs.take m ++ [h']) ++ hs.drop (m + 1)) by simp [hr], hr_take, List.take_left' (by simp; omega)]
        · have hm' : hs.take m = hs := List.take_of_length_le (by omega)
          rw [hm'] at fin
          repeat' (first | refine SWp.seq ?_ | refine SWp.block ?_ | refine SWp.scope ?_ | refine SWp.condT rfl ?_ | refine SWp.condF rfl ?_ | (refine SWp.condD rfl (fun ht => ?_) (fun ht => ?_) <;> try (exfalso; omega)) | ((first | refine SWp.reg ?_ | refine SWp.skip ?_ | refine SWp.exit ?_ | refine SWp.ret ?_ | ((first | apply splitG | apply splitGB | apply splitR | apply splitRB | apply splitE | apply splitEB | apply splitC | apply splitCB) <;> intro ht)); all_goals try simp (disch := first | omega | (simp only [lens]; first | done | omega)) only [go_sem, Nat.reduceEqDiff, Nat.reduceBEq, Nat.reduceAdd, Nat.reduceMul, Nat.reduceSub, Nat.reduceLeDiff, Int.reduceToNat, Int.reducePow, q1, q3, q5, q6, q7, q8, c0, c1, c2, cr, hand, hadd]))
          refine fin _ _ _ ((ce.set (by omega)).set (by omega)).app (by omega) (by rw [gappr (by simp), List.length_set, List.length_set, Nat.sub_self]; rfl) (by simp [hr_len]; omega) ?_
          rw [show hr hs ++ [hc h'] = hr (hs ++ [h']) by simp [hr], hr_take, List.take_of_length_le (by simp; omega)]
end Am
end Go.Proofs.YthgcooppjhcgcaaDoor
end
section
set_option linter.unusedSimpArgs false
set_option linter.unusedVariables false
/- Ranges: contracts: Extend, Append, Of. -/
set_option linter.unusedSimpArgs false
set_option linter.unusedVariables false
namespace Go.Proofs.YthgcooppjhcgcaaDoor
namespace Am
/-- Nil if it was nil. -/
def knil (es : List (List AV)) : AV → AV
  | .nilsl => .nilsl
  | _ => .vsl 32 es false
theorem knil_ne {es : List (List AV)} {x : AV} (h : x ≠ .nilsl) : knil es x = .vsl 32 es false := by
  cases x <;> first | rfl | exact absurd rfl h
theorem knil_slv {σ : Store} {l : List Hash} {x : AV} (h : RdSl σ 32 (hr l) x) : SlV 32 (hr l) (knil (hr l) x) := by
  rcases h with (⟨rfl, h⟩ | ⟨ex, rfl⟩) | ⟨r, off, lim, o, rfl, _⟩
  · exact .inl ⟨rfl, h⟩
  · exact .inr ⟨false, rfl⟩
  · exact .inr ⟨false, rfl⟩
theorem rl_knil {k : Nat} (l : List Hash) (x : AV) : RL k (knil (hr l) x) := by
  by_cases h : x = .nilsl
  · subst h; simp [knil, RL]
  · rw [knil_ne h]; simp only [RL]; exact rlss_hr _
theorem Clone_v (σ : Store) (l : List Hash) (x : AV) (hx : RdSl σ 32 (hr l) x) (hl : l.length < 1000000) :
    ACallsTo TC 82 [x] σ (knil (hr l) x) σ := by
  refine ACallsP.toDown (Clone_h σ l x hx hl) fun hw v σ' h => ?_
  obtain ⟨h, hn⟩ := h
  obtain ⟨y, rfl⟩ := h.ext
  refine DownV.all hw ?_
  by_cases h0 : x = .nilsl
  · rw [hn.1 h0, h0]; simp [knil, DR]
  · have hv : v ≠ .nilsl := fun e => h0 (hn.2 e)
    rw [knil_ne h0]
    rcases h with h | ⟨h1, rfl, _⟩
    · have h2 := h.frz (rlss_hr l)
      unfold slVal at h2
      split at h2
      · simp only [DR] at h2; exact absurd h2 hv
      · exact h2
    · rw [h1]
      simp only [DR]
      exact .inl ⟨_, _, rfl, by simp, by simp [DRss]⟩
theorem Ext.pure {σ σ' : Store} {v : AV} (hw : Wf σ.length σ) (h : Ext σ σ') (hv : RL σ.length v) : DownV σ.length v σ' v σ := by
  obtain ⟨n, rfl⟩ := h
  exact DownV.pure hw hv
/-- The hashes of a range that was gone on with: nil if it was nil, and nothing came. -/
def zv (x : AV) (first : Bool) (l : List Hash) : AV := if first then knil (hr l) x else .vsl 32 (hr l) false
theorem zv_slv {σ : Store} {x : AV} {first : Bool} {l : List Hash} (h : first = true → RdSl σ 32 (hr l) x) : SlV 32 (hr l) (zv x first l) := by
  unfold zv
  cases first with
  | true => exact knil_slv (h rfl)
  | false => exact .inr ⟨false, rfl⟩
theorem rl_zv {k : Nat} (x : AV) (first : Bool) (l : List Hash) : RL k (zv x first l) := by
  unfold zv
  cases first with
  | true => exact rl_knil _ _
  | false => simp only [Bool.false_eq_true, if_false, RL]; exact rlss_hr _
theorem zv_cells (x : AV) (first : Bool) (l : List Hash) : cellsOf (zv x first l) = some [zv x first l] := by
  unfold zv
  cases first with
  | true =>
    by_cases h : x = .nilsl
    · subst h; rfl
    · simp only [if_true]; rw [knil_ne h]; rfl
  | false => rfl
def rg (n : Int) (z : AV) (e : Int) : AV := .tup [.agg [.int .i64 n, z], .int .i64 e]
theorem rl_rg {k : Nat} {n e : Int} {z : AV} (h : RL k z) : RL k (rg n z e) := by simp only [rg, RL, RLs]; exact ⟨⟨trivial, h, trivial⟩, trivial, trivial⟩
/-- What Extend answers. -/
def extA (n : Int) (hs l : List Hash) (x : AV) : AV :=
  if validR n hs.length = false then rg 0 .nilsl 2
  else if 4096 - n < l.length then rg 0 .nilsl 60
  else rg (n + l.length) (zv x l.isEmpty (extR n.toNat hs.reverse l).reverse) 0
theorem pc13 {n : Nat} (h : n ≤ 4096) : pc 64 n = pc 13 n := pc_more 13 n (by omega) 51
theorem push_one (σ : Store) (n : Nat) (x : AV) (hs : List Hash) (h : Hash) (hx : RdSl σ 32 (hr hs) x) (hn : n + 1 ≤ 4096) (hl : hs.length = pc 13 n) :
    ACallsTo TC 83 [.agg [.int .i64 n, x], .int .i64 1, .agg (hc h)] σ (.agg [.int .i64 ((n + 1 : Nat) : Int), .vsl 32 (hr (pushR n hs.reverse h).reverse) false]) σ := by
  have := push_to σ n 0 x hs h hx ⟨n, by simp⟩ hn hl
  simpa using this
attribute [local irreducible] ACallsTo ACallsP
set_option maxHeartbeats 8000000 in
theorem Extend_v (σ : Store) (n : Int) (hs l : List Hash) (x y : AV) (hx : RdSl σ 32 (hr hs) x) (hy : SlV 32 (hr l) y) (hn : -9223372036854775808 ≤ n ∧ n ≤ 9223372036854775807) (hhl : hs.length < 1000000) (hl : l.length < 1000000) :
    ACallsTo TC 16 [.agg [.int .i64 n, x], y] σ (extA n hs l x) σ := by
  have r1 := hy.len
  rw [hr_len] at r1
  unfold rLenSl at r1
  have hV := fun y => ranges_Valid_h (σ ++ y) n hs x hx.app
  unfold extA
  by_cases hv : validR n hs.length = true
  · rw [if_neg (by simp [hv])]
    rw [hv] at hV
    have hv' := of_decide_eq_true hv
    obtain ⟨n, rfl⟩ : ∃ k : Nat, n = k := ⟨n.toNat, by omega⟩
    rw [Int.toNat_natCast] at hv' ⊢
    have hhs : hs.length = pc 13 n := by rw [hv'.2.2, pc13 (by omega)]
    by_cases hf : 4096 - (n : Int) < l.length
    · rw [if_pos hf]
      refine ACallsTo.of_body ranges_Extend_ok (by simp) fun hw _ => ?_
      repeat' (first | refine SWp.seq ?_ | refine SWp.block ?_ | refine SWp.scope ?_ | refine SWp.condT rfl ?_ | refine SWp.condF rfl ?_ | (refine SWp.condD rfl (fun ht => ?_) (fun ht => ?_) <;> try (exfalso; omega)) | ((first | refine SWp.reg ?_ | refine SWp.skip ?_ | refine SWp.exit ?_ | refine SWp.ret ?_ | (apply callW.mk_pu; (first | exact (fun _ => hV _))) | (apply callW.any; (first | exact (hV _))) | ((first | apply splitG | apply splitGB | apply splitR | apply splitRB | apply splitE | apply splitEB | apply splitC | apply splitCB) <;> intro ht)); all_goals try simp (disch := first | omega | (simp only [lens]; first | done | omega)) only [go_sem, Nat.reduceEqDiff, Nat.reduceBEq, Nat.reduceAdd, Nat.reduceMul, Nat.reduceSub, Nat.reduceLeDiff, Int.reduceToNat, Int.reducePow, r1]))
      exact DownV.pure hw (rl_rg (by simp [RL]))
    · rw [if_neg hf]
      refine ACallsTo.of_body ranges_Extend_ok (by simp) fun hw _ => ?_
      have hCl := fun y => Clone_v (σ ++ y) hs x hx.app (by omega)
      have hk := knil_slv hx
      have e0 : knil (hr hs) x = zv x true (extR n hs.reverse (l.take 0)).reverse := by simp [zv, extR]
      rw [e0] at hCl
      have z0 := zv_cells x true (extR n hs.reverse (l.take 0)).reverse
      generalize hzz : zv x true (extR n hs.reverse (l.take 0)).reverse = z at *
      unfold cellsOf at z0
      repeat' (first | refine SWp.seq ?_ | refine SWp.block ?_ | refine SWp.scope ?_ | refine SWp.condT rfl ?_ | refine SWp.condF rfl ?_ | (refine SWp.condD rfl (fun ht => ?_) (fun ht => ?_) <;> try (exfalso; omega)) | ((first | refine SWp.reg ?_ | refine SWp.skip ?_ | refine SWp.exit ?_ | refine SWp.ret ?_ | (apply callW.mk_pu; (first | exact (fun _ => hV _) | exact (fun _ => hCl _))) | (apply callW.any; (first | exact (hV _) | exact (hCl _))) | ((first | apply splitG | apply splitGB | apply splitR | apply splitRB | apply splitE | apply splitEB | apply splitC | apply splitCB) <;> intro ht)); all_goals try simp (disch := first | omega | (simp only [lens]; first | done | omega)) only [go_sem, Nat.reduceEqDiff, Nat.reduceBEq, Nat.reduceAdd, Nat.reduceMul, Nat.reduceSub, Nat.reduceLeDiff, Int.reduceToNat, Int.reducePow, r1, z0]))
      refine SWp.loop (fun m ρ σ' => ∃ i : Nat, m + i = l.length ∧ Ext σ σ' ∧ σ'[σ.length]? = some (some [[.int .i64 ((n + i : Nat) : Int), zv x (decide (i = 0)) (extR n hs.reverse (l.take i)).reverse]]) ∧ σ'[σ.length + 1]? = some (some [[.int .i64 0, .nilsl]]) ∧
        ρ 2 = .ptr σ.length 0 0 ∧ ρ 4 = .ptr (σ.length + 1) 0 0 ∧ ρ 5 = .int .i64 0 ∧ ρ 25 = y ∧ ρ 26 = .int .i64 l.length ∧ ρ 27 = .int .i64 i) l.length ?_ ?_
      · refine ⟨0, by omega, ?_, ?_, ?_, by simp (disch := first | omega | (simp only [lens]; first | done | omega)) only [go_sem, Nat.reduceEqDiff, Nat.reduceBEq, Nat.reduceAdd, Nat.reduceMul, Nat.reduceSub, Nat.reduceLeDiff, Int.reduceToNat, Int.reducePow], by simp (disch := first | omega | (simp only [lens]; first | done | omega)) only [go_sem, Nat.reduceEqDiff, Nat.reduceBEq, Nat.reduceAdd, Nat.reduceMul, Nat.reduceSub, Nat.reduceLeDiff, Int.reduceToNat, Int.reducePow], by simp (disch := first | omega | (simp only [lens]; first | done | omega)) only [go_sem, Nat.reduceEqDiff, Nat.reduceBEq, Nat.reduceAdd, Nat.reduceMul, Nat.reduceSub, Nat.reduceLeDiff, Int.reduceToNat, Int.reducePow], by simp (disch := first | omega | (simp only [lens]; first | done | omega)) only [go_sem, Nat.reduceEqDiff, Nat.reduceBEq, Nat.reduceAdd, Nat.reduceMul, Nat.reduceSub, Nat.reduceLeDiff, Int.reduceToNat, Int.reducePow], by simp (disch := first | omega | (simp only [lens]; first | done | omega)) only [go_sem, Nat.reduceEqDiff, Nat.reduceBEq, Nat.reduceAdd, Nat.reduceMul, Nat.reduceSub, Nat.reduceLeDiff, Int.reduceToNat, Int.reducePow, r1], by simp (disch := first | omega | (simp only [lens]; first | done | omega)) only [go_sem, Nat.reduceEqDiff, Nat.reduceBEq, Nat.reduceAdd, Nat.reduceMul, Nat.reduceSub, Nat.reduceLeDiff, Int.reduceToNat, Int.reducePow]; rfl⟩
        · first | exact (Ext.refl σ).app | exact ⟨_, rfl⟩
        · rw [← hzz]; simp
        · simp
      · rintro m ρ σ' ⟨i, hm, he, c0, c1, q2, q4, q5, q25, q26, q27⟩
        have d0 := slen c0
        have d1 := slen c1
        by_cases hi : i < l.length
        · obtain ⟨ex, rfl⟩ := hy.vsl (by rw [hr_len]; omega)
          have hz : SlV 32 (hr (extR n hs.reverse (l.take i)).reverse) (zv x (decide (i = 0)) (extR n hs.reverse (l.take i)).reverse) := zv_slv fun h => by
            have : i = 0 := of_decide_eq_true h
            subst this
            simpa [extR] using hx
          have hlen : (extR n hs.reverse (l.take i)).reverse.length = pc 13 (n + i) := by
            rw [List.length_reverse, extR_len 13 n hs.reverse (l.take i) (by rw [List.length_take]; omega) (by rw [List.length_reverse]; exact hhs), List.length_take, Nat.min_eq_left (by omega)]
          have hP := fun σ => push_one σ (n + i) _ _ (hd l i) (.of hz) (by omega) hlen
          have hnext : pushR (n + i) (extR n hs.reverse (l.take i)) (hd l i) = extR n hs.reverse (l.take (i + 1)) := by
            rw [take_hd hi, extR_app, List.length_take, Nat.min_eq_left (by omega)]; rfl
          simp only [List.reverse_reverse, hnext] at hP
          clear hz hlen hnext
          generalize zv x (decide (i = 0)) (extR n hs.reverse (l.take i)).reverse = z at *
          repeat' (first | refine SWp.seq ?_ | refine SWp.block ?_ | refine SWp.scope ?_ | refine SWp.condT rfl ?_ | refine SWp.condF rfl ?_ | (refine SWp.condD rfl (fun ht => ?_) (fun ht => ?_) <;> try (exfalso; omega)) | ((first | refine SWp.reg ?_ | refine SWp.skip ?_ | refine SWp.exit ?_ | refine SWp.ret ?_ | (apply callW.mk_pu; (first | exact (fun _ => hP _))) | (apply callW.any; (first | exact (hP _))) | ((first | apply splitG | apply splitGB | apply splitR | apply splitRB | apply splitE | apply splitEB | apply splitC | apply splitCB) <;> intro ht)); all_goals try simp (disch := first | omega | (simp only [lens]; first | done | omega)) only [go_sem, Nat.reduceEqDiff, Nat.reduceBEq, Nat.reduceAdd, Nat.reduceMul, Nat.reduceSub, Nat.reduceLeDiff, Int.reduceToNat, Int.reducePow, q2, q4, q5, q25, q26, q27, c0, c1]))
          refine ⟨l.length - (i + 1), by omega, i + 1, by omega, ?_, ?_, ?_⟩
          · first | exact (he.app.set (by omega)) | exact (he.set (by omega)).app
          · simp [zv]; omega
          · simp
        · have hil : i = l.length := by omega
          subst hil
          rw [List.take_of_length_le (Nat.le_refl _)] at c0
          have e1 : decide (l.length = 0) = l.isEmpty := by cases l <;> simp
          rw [e1] at c0
          have hz := rl_zv (k := σ.length) x l.isEmpty (extR n hs.reverse l).reverse
          have hcast : (n : Int) + l.length = ((n + l.length : Nat) : Int) := by omega
          rw [hcast]
          generalize zv x l.isEmpty (extR n hs.reverse l).reverse = z at *
          repeat' (first | refine SWp.seq ?_ | refine SWp.block ?_ | refine SWp.scope ?_ | refine SWp.condT rfl ?_ | refine SWp.condF rfl ?_ | (refine SWp.condD rfl (fun ht => ?_) (fun ht => ?_) <;> try (exfalso; omega)) | ((first | refine SWp.reg ?_ | refine SWp.skip ?_ | refine SWp.exit ?_ | refine SWp.ret ?_ | ((first | apply splitG | apply splitGB | apply splitR | apply splitRB | apply splitE | apply splitEB | apply splitC | apply splitCB) <;> intro ht)); all_goals try simp (disch := first | omega | (simp only [lens]; first | done | omega)) only [go_sem, Nat.reduceEqDiff, Nat.reduceBEq, Nat.reduceAdd, Nat.reduceMul, Nat.reduceSub, Nat.reduceLeDiff, Int.reduceToNat, Int.reducePow, q2, q4, q5, q25, q26, q27, c0, c1]))
          exact Ext.pure hw (he.set (by omega)) (rl_rg hz)
  · have hv0 : validR n hs.length = false := by simpa using hv
    rw [if_pos hv0]
    rw [hv0] at hV
    refine ACallsTo.of_body ranges_Extend_ok (by simp) fun hw _ => ?_
    repeat' (first | refine SWp.seq ?_ | refine SWp.block ?_ | refine SWp.scope ?_ | refine SWp.condT rfl ?_ | refine SWp.condF rfl ?_ | (refine SWp.condD rfl (fun ht => ?_) (fun ht => ?_) <;> try (exfalso; omega)) | ((first | refine SWp.reg ?_ | refine SWp.skip ?_ | refine SWp.exit ?_ | refine SWp.ret ?_ | (apply callW.mk_pu; (first | exact (fun _ => hV _))) | (apply callW.any; (first | exact (hV _))) | ((first | apply splitG | apply splitGB | apply splitR | apply splitRB | apply splitE | apply splitEB | apply splitC | apply splitCB) <;> intro ht)); all_goals try simp (disch := first | omega | (simp only [lens]; first | done | omega)) only [go_sem, Nat.reduceEqDiff, Nat.reduceBEq, Nat.reduceAdd, Nat.reduceMul, Nat.reduceSub, Nat.reduceLeDiff, Int.reduceToNat, Int.reducePow, r1]))
    exact DownV.pure hw (rl_rg (by simp [RL]))
end Am
end Go.Proofs.YthgcooppjhcgcaaDoor
end
section
set_option linter.unusedSimpArgs false
set_option linter.unusedVariables false
/- Rows: numbers, trees. (The laws are printed by wip/rows.py.) -/
set_option linter.unusedSimpArgs false
set_option linter.unusedVariables false
namespace Go.Proofs.YthgcooppjhcgcaaDoor
namespace Am
def numsR : Nat → List AV := fun n => [.int .i64 n]
def nums (l : List (Nat)) : List (List AV) := l.map numsR
@[go_sem] theorem nums_len (l : List (Nat)) : (nums l).length = l.length := by simp [nums]
@[go_sem] theorem nums_take (l : List (Nat)) (n : Nat) : (nums l).take n = nums (l.take n) := by simp [nums, List.map_take]
@[go_sem] theorem nums_drop (l : List (Nat)) (n : Nat) : (nums l).drop n = nums (l.drop n) := by simp [nums, List.map_drop]
@[go_sem] theorem nums_set (l : List (Nat)) (i : Nat) (x : Nat) : (nums l).set i (numsR x) = nums (l.set i x) := by simp [nums, List.map_set]
theorem nums_app (a b : List (Nat)) : nums (a ++ b) = nums a ++ nums b := by simp [nums]
def numsD (l : List (Nat)) (i : Nat) : Nat := l.getD i 0
@[go_sem] theorem nums_get {l : List (Nat)} {i : Nat} (h : i < l.length) : (nums l)[i]? = some (numsR (numsD l i)) := by
  simp [nums, numsD, List.getElem?_map, List.getElem?_eq_getElem h]
theorem rlss_nums {k : Nat} : ∀ (l : List (Nat)), RLss k (nums l)
  | [] => by simp [nums, RLss]
  | x :: l => by
    have := rlss_nums (k := k) l
    simp only [nums, List.map_cons, RLss] at this ⊢
    exact ⟨by simp [numsR, RLs, RL], this⟩
def trsR : Nat × Hash → List AV := fun t => .int .i64 t.1 :: hc t.2
def trs (l : List (Nat × Hash)) : List (List AV) := l.map trsR
@[go_sem] theorem trs_len (l : List (Nat × Hash)) : (trs l).length = l.length := by simp [trs]
@[go_sem] theorem trs_take (l : List (Nat × Hash)) (n : Nat) : (trs l).take n = trs (l.take n) := by simp [trs, List.map_take]
@[go_sem] theorem trs_drop (l : List (Nat × Hash)) (n : Nat) : (trs l).drop n = trs (l.drop n) := by simp [trs, List.map_drop]
@[go_sem] theorem trs_set (l : List (Nat × Hash)) (i : Nat) (x : Nat × Hash) : (trs l).set i (trsR x) = trs (l.set i x) := by simp [trs, List.map_set]
theorem trs_app (a b : List (Nat × Hash)) : trs (a ++ b) = trs a ++ trs b := by simp [trs]
theorem trs_nil : trs [] = [] := rfl
theorem trs_nil_iff {l : List (Nat × Hash)} : trs l = [] ↔ l = [] := by simp [trs]
def trsD (l : List (Nat × Hash)) (i : Nat) : Nat × Hash := l.getD i (0, zeroH)
@[go_sem] theorem trs_get {l : List (Nat × Hash)} {i : Nat} (h : i < l.length) : (trs l)[i]? = some (trsR (trsD l i)) := by
  simp [trs, trsD, List.getElem?_map, List.getElem?_eq_getElem h]
theorem trsD_get {l : List (Nat × Hash)} {i : Nat} (h : i < l.length) : trsD l i = l[i] := by simp [trsD, h]
theorem take_trsD {l : List (Nat × Hash)} {i : Nat} (h : i < l.length) : l.take (i + 1) = l.take i ++ [trsD l i] := by
  rw [trsD_get h]; exact (List.take_append_getElem h).symm
theorem rlss_trs {k : Nat} : ∀ (l : List (Nat × Hash)), RLss k (trs l)
  | [] => by simp [trs, RLss]
  | x :: l => by
    have := rlss_trs (k := k) l
    simp only [trs, List.map_cons, RLss] at this ⊢
    exact ⟨by simp only [trsR, RLs, RL]; exact ⟨trivial, rl_hc _⟩, this⟩
/-- All that is new is let go; what is read of a slice stays. -/
theorem RdSl.frz {sz : Nat} {τ news : Store} {v : AV} {es : List (List AV)} (h : RdSl (τ ++ news) sz es v) (hn : ∀ r off len lim e, v = .sl r off len lim e → τ.length ≤ r) (hr : RLss τ.length es) : ∃ v2, SlV sz es v2 ∧ DR (FrzD τ news) v2 v := by
  rcases h with (⟨rfl, rfl⟩ | ⟨ex, rfl⟩) | ⟨r, off, lim, o, rfl, hg, h1, h2⟩
  · exact ⟨.nilsl, .inl ⟨rfl, rfl⟩, by simp [DR]⟩
  · exact ⟨.vsl sz es ex, .inr ⟨ex, rfl⟩, FrzD.same (by simpa only [RL] using hr)⟩
  · exact ⟨.vsl sz es false, .inr ⟨false, rfl⟩, FrzD.sl (hn _ _ _ _ _ rfl) hg h1 h2 hr⟩
theorem row_at {o es : List (List AV)} {off i : Nat} (h : (o.drop off).take es.length = es) (hi : i < es.length) : o[off + i]? = es[i]? := by
  have e : es[i]? = ((o.drop off).take es.length)[i]? := by rw [h]
  rw [e, List.getElem?_take_of_lt hi, List.getElem?_drop]
theorem Ext.all {σ σ' : Store} {v v2 : AV} (hw : Wf σ.length σ) (he : Ext σ σ') (h : ∀ news, σ' = σ ++ news → DR (FrzD σ news) v2 v) : DownV σ.length v σ' v2 σ := by
  obtain ⟨news, rfl⟩ := he
  exact DownV.all hw (h news rfl)
/-- Own elements in memory, from the k-th object on. -/
def OwnR (sz k : Nat) (σ' : Store) (v : AV) (es : List (List AV)) : Prop := (es = [] ∧ v = .nilsl) ∨ ∃ r, k ≤ r ∧ es ≠ [] ∧ v = .sl r 0 es.length none sz ∧ σ'[r]? = some (some es)
theorem OwnR.nil {sz k : Nat} {σ' : Store} : OwnR sz k σ' .nilsl [] := .inl ⟨rfl, rfl⟩
theorem OwnR.cells {sz k : Nat} {σ' : Store} {v : AV} {es : List (List AV)} (h : OwnR sz k σ' v es) : cellsOf v = some [v] := by
  rcases h with ⟨_, rfl⟩ | ⟨r, _, _, rfl, _⟩ <;> rfl
theorem OwnR.rd {sz k : Nat} {σ' : Store} {v : AV} {es : List (List AV)} (h : OwnR sz k σ' v es) : RdSl σ' sz es v := by
  rcases h with ⟨h, rfl⟩ | ⟨r, _, _, rfl, hg⟩
  · exact .inl (.inl ⟨rfl, h⟩)
  · exact .inr ⟨r, 0, none, es, rfl, hg, by omega, by simp⟩
theorem OwnR.len {sz k : Nat} {σ' : Store} {v : AV} {es : List (List AV)} (h : OwnR sz k σ' v es) : rLenSl v = some (.int .i64 es.length) := h.rd.len
theorem OwnR.set {sz k q : Nat} {σ' : Store} {v : AV} {es : List (List AV)} {x : Option AObj} (h : OwnR sz k σ' v es) (hq : q < k) : OwnR sz k (σ'.set q x) v es := by
  rcases h with h | ⟨r, h1, h2, h3, h4⟩
  · exact .inl h
  · exact .inr ⟨r, h1, h2, h3, by rw [gset_ne (by omega)]; exact h4⟩
theorem OwnR.more {sz k : Nat} {σ' y : Store} {v : AV} {es : List (List AV)} (h : OwnR sz k σ' v es) : OwnR sz k (σ' ++ y) v es := by
  rcases h with h | ⟨r, h1, h2, h3, h4⟩
  · exact .inl h
  · exact .inr ⟨r, h1, h2, h3, by rw [gapp (slen h4)]; exact h4⟩
theorem OwnR.app {sz k : Nat} {σ' : Store} {v : AV} {es ys : List (List AV)} (h : OwnR sz k σ' v es) (hk : k ≤ σ'.length) (h0 : ys.length ≠ 0) (hl : es.length + ys.length ≤ 1073741824) :
    ∃ v' σ2, aApp σ' sz v ys = some (v', σ2) ∧ OwnR sz k σ2 v' (es ++ ys) ∧ (∀ q, q < k → σ2[q]? = σ'[q]?) ∧ (∀ σ : Store, σ.length ≤ k → Ext σ σ' → Ext σ σ2) ∧ k ≤ σ2.length := by
  have hne : es ++ ys ≠ [] := fun e => h0 (by rw [(List.append_eq_nil_iff.1 e).2]; rfl)
  rcases h with ⟨rfl, rfl⟩ | ⟨r, h1, h2, rfl, hg⟩
  · refine ⟨.sl σ'.length 0 ys.length none sz, σ' ++ [some ys], by rw [app_n, if_neg h0, if_pos (by simpa using hl)], .inr ⟨σ'.length, hk, hne, by simp, by simp⟩, fun q hq => gapp (by omega), fun σ _ he => he.app, by simp; omega⟩
  · have hr := slen hg
    refine ⟨.sl σ'.length 0 (es.length + ys.length) none sz, σ'.set r none ++ [some (es ++ ys)], ?_, .inr ⟨σ'.length, hk, hne, by simp, by rw [gappr (by simp)]; simp⟩, fun q hq => by rw [gapp (by simp; omega), gset_ne (by omega)], fun σ hs he => (he.set (by omega)).app, by simp; omega⟩
    rw [app_s, if_neg h0, hg]
    simp only
    rw [if_pos ⟨trivial, by omega, by omega⟩, if_neg (by omega), List.drop_zero, List.take_of_length_le (Nat.le_refl _)]
theorem OwnR.frz {sz k : Nat} {τ news : Store} {v : AV} {es : List (List AV)} (h : OwnR sz k (τ ++ news) v es) (hk : τ.length ≤ k) (hr : RLss τ.length es) : DR (FrzD τ news) (slVal sz es) v := by
  unfold slVal
  rcases h with ⟨rfl, rfl⟩ | ⟨r, h1, h2, rfl, hg⟩
  · simp [DR]
  · rw [if_neg h2]
    exact FrzD.sl (by omega) hg (by omega) (by simp) hr
theorem OwnR.fr {sz k : Nat} {τ σ' news : Store} {v : AV} {es : List (List AV)} (h : OwnR sz k σ' v es) (e : σ' = τ ++ news) (hk : τ.length ≤ k) (hr : RLss τ.length es) : DR (FrzD τ news) (slVal sz es) v := by
  subst e; exact h.frz hk hr
end Am
end Go.Proofs.YthgcooppjhcgcaaDoor
end
section
set_option linter.unusedSimpArgs false
set_option linter.unusedVariables false
/- Ranges: contracts: the reference's open, join, close. -/
namespace Go.Proofs.YthgcooppjhcgcaaDoor
namespace Am
attribute [local irreducible] ACallsTo ACallsP
/-- A range's trees, the first one first. -/
def opn (n : Nat) (hs : List Hash) : List (Nat × Hash) := (trR 13 1 n hs.reverse).reverse
/-- The trees of the bits from the i-th on: what open has so far. -/
def opI (n i : Nat) (hs : List Hash) : List (Nat × Hash) := (trR (13 - i) (2 ^ i) (n / 2 ^ i) (hs.take (pc (13 - i) (n / 2 ^ i))).reverse).reverse
theorem opI_len {n i : Nat} {hs : List Hash} (hn : n < 8192) (hl : hs.length = pc 13 n) (hi : i ≤ 13) : (opI n i hs).length = pc (13 - i) (n / 2 ^ i) ∧ pc (13 - i) (n / 2 ^ i) ≤ hs.length := by
  have h1 : pc (13 - i) (n / 2 ^ i) ≤ hs.length := by
    rw [hl]
    have := pc_split i (13 - i) n
    rw [show i + (13 - i) = 13 by omega] at this
    omega
  refine ⟨?_, h1⟩
  have hd : n / 2 ^ i < 2 ^ (13 - i) := by
    rw [Nat.div_lt_iff_lt_mul (Nat.pow_pos (by decide)), ← Nat.pow_add, show 13 - i + i = 13 by omega]; exact hn
  have := (trR_sum (13 - i) (2 ^ i) (n / 2 ^ i) (hs.take (pc (13 - i) (n / 2 ^ i))).reverse hd (by rw [List.length_reverse, List.length_take]; omega)).2
  have h2 := congrArg List.length this
  rw [List.length_map, List.length_reverse, List.length_take] at h2
  rw [opI, List.length_reverse, h2]; omega
theorem opI_zero (n : Nat) (hs : List Hash) (hl : hs.length = pc 13 n) : opI n 0 hs = opn n hs := by
  unfold opI opn
  rw [show 13 - 0 = 13 from rfl, Nat.pow_zero, Nat.div_one, ← hl, List.take_of_length_le (Nat.le_refl _)]
theorem opI_step {n i : Nat} {hs : List Hash} (hn : n < 8192) (hl : hs.length = pc 13 n) (hi : i < 13) :
    opI n i hs = if n / 2 ^ i % 2 = 1 then opI n (i + 1) hs ++ [(2 ^ i, hd hs (opI n (i + 1) hs).length)] else opI n (i + 1) hs := by
  obtain ⟨l1, l2⟩ := opI_len (i := i + 1) hn hl (by omega)
  obtain ⟨_, l3⟩ := opI_len (i := i) hn hl (by omega)
  have hdd : n / 2 ^ i / 2 = n / 2 ^ (i + 1) := by rw [Nat.div_div_eq_div_mul, ← Nat.pow_succ]
  have e1 : 13 - i = (13 - (i + 1)) + 1 := by omega
  have e2 : 2 * 2 ^ i = 2 ^ (i + 1) := by rw [Nat.pow_succ, Nat.mul_comm]
  rw [l1]
  unfold opI at *
  rw [e1] at l3 ⊢
  simp only [pc] at l3 ⊢
  rw [hdd] at l3 ⊢
  generalize 13 - (i + 1) = f at *
  by_cases h1 : n / 2 ^ i % 2 = 1
  · rw [if_pos h1, h1]
    rw [h1] at l3
    have hrev : (hs.take (1 + pc f (n / 2 ^ (i + 1)))).reverse = hd hs (pc f (n / 2 ^ (i + 1))) :: (hs.take (pc f (n / 2 ^ (i + 1)))).reverse := by
      rw [show 1 + pc f (n / 2 ^ (i + 1)) = pc f (n / 2 ^ (i + 1)) + 1 by omega, take_hd (by omega)]; simp
    rw [hrev]
    simp only [trR, h1, if_true]
    rw [hdd, e2, List.reverse_cons]
  · rw [if_neg h1, show n / 2 ^ i % 2 = 0 by omega, Nat.zero_add]
    simp only [trR]
    rw [if_neg h1, hdd, e2]
theorem opI_top (n : Nat) (hs : List Hash) : opI n 13 hs = [] := by simp [opI, trR]
theorem pc_le : ∀ (f n : Nat), pc f n ≤ f
  | 0, _ => Nat.le_refl _
  | f + 1, n => by simp only [pc]; have := pc_le f (n / 2); omega
theorem OwnN.base {sz : Nat} {τ y σ' : Store} {v : AV} {es : List (List AV)} (h : OwnN sz (τ ++ y) σ' v es) : OwnN sz τ σ' v es := by
  obtain ⟨news, rfl, h⟩ := h
  refine ⟨y ++ news, by rw [List.append_assoc], ?_⟩
  rcases h with h | ⟨j, h0, rfl, hj⟩
  · exact .inl h
  · exact .inr ⟨y.length + j, h0, by rw [List.length_append]; congr 1; omega, by rw [List.getElem?_append_right (by omega), Nat.add_sub_cancel_left]; exact hj⟩
set_option maxHeartbeats 8000000 in
theorem open_to (σ : Store) (n : Nat) (hs : List Hash) (x : AV) (hx : SlV 32 (hr hs) x) (hn : n ≤ 4096) (hl : hs.length = pc 13 n) :
    ACallsTo TC 84 [.agg [.int .i64 n, x]] σ (slVal 33 (trs (opn n hs))) σ := by
  refine ACallsTo.of_body speculumref05_open_ok (by simp) fun hw _ => ?_
  rw [← opI_zero n hs hl]
  repeat' (first | refine SWp.seq ?_ | refine SWp.block ?_ | refine SWp.scope ?_ | refine SWp.condT rfl ?_ | refine SWp.condF rfl ?_ | (refine SWp.condD rfl (fun ht => ?_) (fun ht => ?_) <;> try (exfalso; omega)) | ((first | refine SWp.reg ?_ | refine SWp.skip ?_ | refine SWp.exit ?_ | refine SWp.ret ?_ | ((first | apply splitG | apply splitGB | apply splitR | apply splitRB | apply splitE | apply splitEB | apply splitC | apply splitCB) <;> intro ht)); all_goals try simp (disch := first | omega | (simp only [lens, hc_len, hr_len, trs_len, nums_len, List.length_reverse]; first | done | omega)) only [go_sem, Nat.reduceEqDiff, Nat.reduceBEq, Nat.reduceAdd, Nat.reduceMul, Nat.reduceSub, Nat.reduceLeDiff, Int.reduceToNat, Int.reducePow]))
  refine SWp.loop (fun i ρ σ' => ∃ k : Nat, i ≤ 13 ∧ (k = if i = 0 then 0 else 2 ^ (i - 1)) ∧ ρ 1 = .ptr σ.length 0 0 ∧ ρ 4 = .int .i64 k ∧ OwnN 33 (σ ++ [some [[.int .i64 n, x]]]) σ' (ρ 3) (trs (opI n i hs))) 13 ?_ ?_
  · refine ⟨4096, by omega, by simp, by simp (disch := first | omega | (simp only [lens, hc_len, hr_len, trs_len, nums_len, List.length_reverse]; first | done | omega)) only [go_sem, Nat.reduceEqDiff, Nat.reduceBEq, Nat.reduceAdd, Nat.reduceMul, Nat.reduceSub, Nat.reduceLeDiff, Int.reduceToNat, Int.reducePow], by simp (disch := first | omega | (simp only [lens, hc_len, hr_len, trs_len, nums_len, List.length_reverse]; first | done | omega)) only [go_sem, Nat.reduceEqDiff, Nat.reduceBEq, Nat.reduceAdd, Nat.reduceMul, Nat.reduceSub, Nat.reduceLeDiff, Int.reduceToNat, Int.reducePow]; rfl, ?_⟩
    rw [opI_top]
    simp (disch := first | omega | (simp only [lens, hc_len, hr_len, trs_len, nums_len, List.length_reverse]; first | done | omega)) only [go_sem, Nat.reduceEqDiff, Nat.reduceBEq, Nat.reduceAdd, Nat.reduceMul, Nat.reduceSub, Nat.reduceLeDiff, Int.reduceToNat, Int.reducePow]
    exact ⟨[], by simp, .inl ⟨rfl, rfl⟩⟩
  · rintro i ρ σ' ⟨k, hi, hk, q1, q4, hO⟩
    generalize q3 : ρ 3 = v at *
    have g : σ'[σ.length]? = some (some [[.int .i64 n, x]]) := by
      obtain ⟨y, rfl⟩ := hO.ext
      simp
    have g1 := slen g
    have r3 := hO.len
    rw [trs_len] at r3
    have hp13 := pc_le 13 n
    unfold rLenSl at r3
    cases i with
    | zero =>
      simp only [if_true] at hk
      subst hk
      repeat' (first | refine SWp.seq ?_ | refine SWp.block ?_ | refine SWp.scope ?_ | refine SWp.condT rfl ?_ | refine SWp.condF rfl ?_ | (refine SWp.condD rfl (fun ht => ?_) (fun ht => ?_) <;> try (exfalso; omega)) | ((first | refine SWp.reg ?_ | refine SWp.skip ?_ | refine SWp.exit ?_ | refine SWp.ret ?_ | ((first | apply splitG | apply splitGB | apply splitR | apply splitRB | apply splitE | apply splitEB | apply splitC | apply splitCB) <;> intro ht)); all_goals try simp (disch := first | omega | (simp only [lens, hc_len, hr_len, trs_len, nums_len, List.length_reverse]; first | done | omega)) only [go_sem, Nat.reduceEqDiff, Nat.reduceBEq, Nat.reduceAdd, Nat.reduceMul, Nat.reduceSub, Nat.reduceLeDiff, Int.reduceToNat, Int.reducePow, q1, q3, q4, g]))
      exact hO.base.froze hw (rlss_trs _)
    | succ i =>
      simp only [Nat.succ_ne_zero, if_false, Nat.add_sub_cancel] at hk
      have hst := opI_step (i := i) (hs := hs) (n := n) (by omega) hl (by omega)
      obtain ⟨l1, l2⟩ := opI_len (i := i) (hs := hs) (n := n) (by omega) hl (by omega)
      obtain ⟨l3, l4⟩ := opI_len (i := i + 1) (hs := hs) (n := n) (by omega) hl (by omega)
      have hkp : 0 < k := by rw [hk]; exact Nat.pow_pos (by decide)
      have hk4 : k ≤ 4096 := by
        rw [hk]
        have := Nat.pow_le_pow_right (n := 2) (by decide) (show i ≤ 12 by omega)
        exact this
      have hkn : k / 2 = if i = 0 then 0 else 2 ^ (i - 1) := by
        rw [hk]
        by_cases h0 : i = 0
        · subst h0; rfl
        · rw [if_neg h0, show i = (i - 1) + 1 by omega, Nat.pow_succ]; simp
      have hdiv : (n : Int) / (k : Int) = ((n / k : Nat) : Int) := by simp
      have hk2 : (k : Int) / 2 = ((k / 2 : Nat) : Int) := by simp
      rw [← hk] at hst
      have hk0 : ¬ (k : Int) = 0 := by omega
      have hq : n / k ≤ n := Nat.div_le_self _ _
      by_cases hbit : n / k % 2 = 1
      · rw [if_pos hbit] at hst
        have hlen : (opI n (i + 1) hs).length < hs.length := by
          have := congrArg List.length hst
          rw [List.length_append, List.length_singleton] at this
          omega
        obtain ⟨ex, rfl⟩ := hx.vsl (by rw [hr_len]; omega)
        obtain ⟨v', σ2, he, hO2⟩ := hO.app (ys := [.int .i64 k :: hc (hd hs (opI n (i + 1) hs).length)]) (by simp) (by rw [trs_len]; simp; omega)
        have hcat : trs (opI n (i + 1) hs) ++ [.int .i64 k :: hc (hd hs (opI n (i + 1) hs).length)] = trs (opI n i hs) := by rw [hst, trs_app]; rfl
        rw [hcat] at hO2
        have hb1 : ((n / k : Nat) : Int) % 2 = 1 := by omega
        generalize hll : (opI n (i + 1) hs).length = ll at *
        generalize hqq : n / k = q at *
        repeat' (first | refine SWp.seq ?_ | refine SWp.block ?_ | refine SWp.scope ?_ | refine SWp.condT rfl ?_ | refine SWp.condF rfl ?_ | (refine SWp.condD rfl (fun ht => ?_) (fun ht => ?_) <;> try (exfalso; omega)) | ((first | refine SWp.reg ?_ | refine SWp.skip ?_ | refine SWp.exit ?_ | refine SWp.ret ?_ | ((first | apply splitG | apply splitGB | apply splitR | apply splitRB | apply splitE | apply splitEB | apply splitC | apply splitCB) <;> intro ht)); all_goals try simp (disch := first | omega | (simp only [lens, hc_len, hr_len, trs_len, nums_len, List.length_reverse]; first | done | omega)) only [go_sem, Nat.reduceEqDiff, Nat.reduceBEq, Nat.reduceAdd, Nat.reduceMul, Nat.reduceSub, Nat.reduceLeDiff, Int.reduceToNat, Int.reducePow, q1, q3, q4, g, r3, hdiv, hk0, hb1, he, hk2]))
        exact ⟨i, by omega, k / 2, by omega, hkn, rfl, hO2⟩
      · rw [if_neg hbit] at hst
        have hb1 : ¬ ((n / k : Nat) : Int) % 2 = 1 := by omega
        rw [← hst] at hO
        generalize hqq : n / k = q at *
        repeat' (first | refine SWp.seq ?_ | refine SWp.block ?_ | refine SWp.scope ?_ | refine SWp.condT rfl ?_ | refine SWp.condF rfl ?_ | (refine SWp.condD rfl (fun ht => ?_) (fun ht => ?_) <;> try (exfalso; omega)) | ((first | refine SWp.reg ?_ | refine SWp.skip ?_ | refine SWp.exit ?_ | refine SWp.ret ?_ | ((first | apply splitG | apply splitGB | apply splitR | apply splitRB | apply splitE | apply splitEB | apply splitC | apply splitCB) <;> intro ht)); all_goals try simp (disch := first | omega | (simp only [lens, hc_len, hr_len, trs_len, nums_len, List.length_reverse]; first | done | omega)) only [go_sem, Nat.reduceEqDiff, Nat.reduceBEq, Nat.reduceAdd, Nat.reduceMul, Nat.reduceSub, Nat.reduceLeDiff, Int.reduceToNat, Int.reducePow, q1, q3, q4, g, hdiv, hk0, hb1, hk2]))
        exact ⟨i, by omega, k / 2, by omega, hkn, rfl, hO⟩
set_option maxHeartbeats 8000000 in
theorem join_to (σ : Store) (r : Nat) (t : Nat × Hash) (rest : List (Nat × Hash)) (hg : σ[r]? = some (some (trs (rest.reverse ++ [t])))) (hl : rest.length < 1000) (hb : ∀ u ∈ t :: rest, u.1 < 1000000) (ht : t.1 * 2 ^ rest.length < 1000000) :
    ACallsP TC 85 [.sl r 0 (rest.length + 1) none 33] σ (fun v σ' => ∃ r', v = .sl r' 0 (joinL t rest).length none 33 ∧ σ'[r']? = some (some (trs (joinL t rest).reverse)) ∧ (r' = r ∨ σ.length ≤ r') ∧ Ext σ σ') := by
  refine ACallsP.of_keep speculumref05_join_ok (by simp) ?_
  repeat' (first | refine SWp.seq ?_ | refine SWp.block ?_ | refine SWp.scope ?_ | refine SWp.condT rfl ?_ | refine SWp.condF rfl ?_ | (refine SWp.condD rfl (fun ht => ?_) (fun ht => ?_) <;> try (exfalso; omega)) | ((first | refine SWp.reg ?_ | refine SWp.skip ?_ | refine SWp.exit ?_ | refine SWp.ret ?_ | ((first | apply splitG | apply splitGB | apply splitR | apply splitRB | apply splitE | apply splitEB | apply splitC | apply splitCB) <;> intro ht)); all_goals try simp (disch := first | omega | (simp only [lens, hc_len, hr_len, trs_len, nums_len, List.length_reverse]; first | done | omega)) only [go_sem, Nat.reduceEqDiff, Nat.reduceBEq, Nat.reduceAdd, Nat.reduceMul, Nat.reduceSub, Nat.reduceLeDiff, Int.reduceToNat, Int.reducePow]))
  refine SWp.loop (fun m ρ σ' => ∃ (t' : Nat × Hash) (rest' : List (Nat × Hash)) (r' : Nat), m = rest'.length ∧ m ≤ rest.length ∧ joinL t' rest' = joinL t rest ∧ t'.1 * 2 ^ rest'.length < 1000000 ∧ (∀ u ∈ rest', u.1 < 1000000) ∧ σ'[r']? = some (some (trs (rest'.reverse ++ [t']))) ∧ (r' = r ∨ σ.length ≤ r') ∧ Ext σ σ' ∧
    ρ 0 = .sl r' 0 (rest'.length + 1) none 33 ∧ ρ 3 = .int .i64 ((rest'.length + 1 : Nat) : Int)) rest.length ?_ ?_
  · exact ⟨t, rest, r, rfl, Nat.le_refl _, rfl, ht, fun u hu => hb u (by simp [hu]), hg, .inl rfl, Ext.refl _, by simp (disch := first | omega | (simp only [lens, hc_len, hr_len, trs_len, nums_len, List.length_reverse]; first | done | omega)) only [go_sem, Nat.reduceEqDiff, Nat.reduceBEq, Nat.reduceAdd, Nat.reduceMul, Nat.reduceSub, Nat.reduceLeDiff, Int.reduceToNat, Int.reducePow], by simp (disch := first | omega | (simp only [lens, hc_len, hr_len, trs_len, nums_len, List.length_reverse]; first | done | omega)) only [go_sem, Nat.reduceEqDiff, Nat.reduceBEq, Nat.reduceAdd, Nat.reduceMul, Nat.reduceSub, Nat.reduceLeDiff, Int.reduceToNat, Int.reducePow]⟩
  · rintro m ρ σ' ⟨t', rest', r', rfl, hm, hj, ht', hb', cg, hr', he, q0, q3⟩
    have d0 := slen cg
    match rest', hm, hj, ht', hb', cg, q0, q3 with
    | [], hm, hj, ht', hb', cg, q0, q3 =>
      repeat' (first | refine SWp.seq ?_ | refine SWp.block ?_ | refine SWp.scope ?_ | refine SWp.condT rfl ?_ | refine SWp.condF rfl ?_ | (refine SWp.condD rfl (fun ht => ?_) (fun ht => ?_) <;> try (exfalso; omega)) | ((first | refine SWp.reg ?_ | refine SWp.skip ?_ | refine SWp.exit ?_ | refine SWp.ret ?_ | ((first | apply splitG | apply splitGB | apply splitR | apply splitRB | apply splitE | apply splitEB | apply splitC | apply splitCB) <;> intro ht)); all_goals try simp (disch := first | omega | (simp only [lens, hc_len, hr_len, trs_len, nums_len, List.length_reverse]; first | done | omega)) only [go_sem, Nat.reduceEqDiff, Nat.reduceBEq, Nat.reduceAdd, Nat.reduceMul, Nat.reduceSub, Nat.reduceLeDiff, Int.reduceToNat, Int.reducePow, q0, q3, cg]))
      refine ⟨r', ?_, ?_, hr', he⟩
      · rw [← hj]; simp [joinL]
      · rw [← hj]; simpa [joinL] using cg
    | u :: l, hm, hj, ht', hb', cg, q0, q3 =>
      have hu := hb' u (by simp)
      obtain ⟨T, hT⟩ : ∃ T, (u :: l).reverse ++ [t'] = T := ⟨_, rfl⟩
      have hTl : T.length = l.length + 2 := by rw [← hT]; simp
      have g1 : trsD T (l.length + 1) = t' := by rw [← hT]; simp [trsD]
      have g2 : trsD T l.length = u := by rw [← hT]; simp [trsD]
      have gt : T.take l.length = l.reverse := by rw [← hT]; simp
      rw [hT] at cg
      simp only [List.length_cons] at q0 q3 ht' hm
      have i1 : ((l.length + 1 + 1 : Nat) : Int) - 1 = ((l.length + 1 : Nat) : Int) := by omega
      have i2 : ((l.length + 1 + 1 : Nat) : Int) - 2 = (l.length : Int) := by omega
      have i3 : ((l.length + 1 + 1 : Nat) : Int) > 1 := by omega
      have ht1 : t'.1 < 1000000 := by
        have : 0 < 2 ^ (l.length + 1) := Nat.pow_pos (by decide)
        exact Nat.lt_of_le_of_lt (Nat.le_mul_of_pos_right _ this) ht'
      by_cases hc1 : t'.1 = u.1
      · have hc2 : (t'.1 : Int) = u.1 := by omega
        have hjj : joinL t' (u :: l) = joinL (2 * t'.1, nodeH u.2 t'.2) l := by simp [joinL, hc1]
        rw [hjj] at hj
        have e2 : 2 ^ (l.length + 1) = 2 ^ l.length * 2 := Nat.pow_succ ..
        have hkl : ¬ (l.length : Int) < 0 := by omega
        have hnew : trs (l.reverse ++ [(2 * t'.1, nodeH u.2 t'.2)]) = trs l.reverse ++ [.int .i64 (2 * (u.1 : Int)) :: hc (nodeH u.2 t'.2)] := by rw [trs_app]; simp [trs, trsR, hc1]
        have fin : ∀ (σ2 : Store) (r2 : Nat), (r2 = r ∨ σ.length ≤ r2) → Ext σ σ2 → σ2[r2]? = some (some (trs (l.reverse ++ [(2 * t'.1, nodeH u.2 t'.2)]))) → ∃ m', m' < l.length + 1 ∧ ∃ (t'1 : Nat × Hash) (rest' : List (Nat × Hash)) (r' : Nat), m' = rest'.length ∧ m' ≤ rest.length ∧ joinL t'1 rest' = joinL t rest ∧ t'1.1 * 2 ^ rest'.length < 1000000 ∧ (∀ u ∈ rest', u.1 < 1000000) ∧ σ2[r']? = some (some (trs (rest'.reverse ++ [t'1]))) ∧ (r' = r ∨ σ.length ≤ r') ∧ Ext σ σ2 ∧ AV.sl r2 0 (l.length + 1) none 33 = .sl r' 0 (rest'.length + 1) none 33 ∧ AV.int .i64 ((l.length + 1 : Nat) : Int) = .int .i64 ((rest'.length + 1 : Nat) : Int) :=
          fun σ2 r2 h1 h2 h3 => ⟨l.length, by omega, (2 * t'.1, nodeH u.2 t'.2), l, r2, rfl, by omega, hj, by rw [e2] at ht'; rw [Nat.mul_comm 2, Nat.mul_assoc, Nat.mul_comm 2]; exact ht', fun v hv => hb' v (by simp [hv]), h3, h1, h2, rfl, rfl⟩
        have hwr : IntKind.i64.wrap (2 * (t'.1 : Int)) = 2 * (t'.1 : Int) := w_i64 ⟨by omega, by omega⟩
        clear hj hjj ht' hb'
        by_cases h0 : l.length = 0
        · repeat' (first | refine SWp.seq ?_ | refine SWp.block ?_ | refine SWp.scope ?_ | refine SWp.condT rfl ?_ | refine SWp.condF rfl ?_ | (refine SWp.condD rfl (fun ht => ?_) (fun ht => ?_) <;> try (exfalso; omega)) | ((first | refine SWp.reg ?_ | refine SWp.skip ?_ | refine SWp.exit ?_ | refine SWp.ret ?_ | (apply callW.mk_pu; (first | exact (fun _ => ref_Node_h _ _ _))) | (apply callW.any; (first | exact (ref_Node_h _ _ _))) | ((first | apply splitG | apply splitGB | apply splitR | apply splitRB | apply splitE | apply splitEB | apply splitC | apply splitCB) <;> intro ht)); all_goals try simp (disch := first | omega | (simp only [lens, hc_len, hr_len, trs_len, nums_len, List.length_reverse]; first | done | omega)) only [go_sem, Nat.reduceEqDiff, Nat.reduceBEq, Nat.reduceAdd, Nat.reduceMul, Nat.reduceSub, Nat.reduceLeDiff, Int.reduceToNat, Int.reducePow, q0, q3, cg, hTl, g1, g2, gt, i1, i2, i3, hc2, trsR, hwr, List.length_reverse, Nat.sub_zero]))
          obtain rfl : l = [] := List.eq_nil_of_length_eq_zero h0
          exact fin _ σ'.length (.inr he.le) he.app (by rw [hnew]; simp [trs])
        · repeat' (first | refine SWp.seq ?_ | refine SWp.block ?_ | refine SWp.scope ?_ | refine SWp.condT rfl ?_ | refine SWp.condF rfl ?_ | (refine SWp.condD rfl (fun ht => ?_) (fun ht => ?_) <;> try (exfalso; omega)) | ((first | refine SWp.reg ?_ | refine SWp.skip ?_ | refine SWp.exit ?_ | refine SWp.ret ?_ | (apply callW.mk_pu; (first | exact (fun _ => ref_Node_h _ _ _))) | (apply callW.any; (first | exact (ref_Node_h _ _ _))) | ((first | apply splitG | apply splitGB | apply splitR | apply splitRB | apply splitE | apply splitEB | apply splitC | apply splitCB) <;> intro ht)); all_goals try simp (disch := first | omega | (simp only [lens, hc_len, hr_len, trs_len, nums_len, List.length_reverse]; first | done | omega)) only [go_sem, Nat.reduceEqDiff, Nat.reduceBEq, Nat.reduceAdd, Nat.reduceMul, Nat.reduceSub, Nat.reduceLeDiff, Int.reduceToNat, Int.reducePow, q0, q3, cg, hTl, g1, g2, gt, i1, i2, i3, hc2, trsR, hwr, List.length_reverse, Nat.sub_zero]))
          exact fin _ (σ'.length + 1) (.inr (by have := he.le; omega)) he.app (by rw [hnew]; simp)
      · have hc2 : ¬ (t'.1 : Int) = u.1 := by omega
        have hjj : joinL t' (u :: l) = t' :: u :: l := by simp [joinL, hc1]
        rw [hjj] at hj
        repeat' (first | refine SWp.seq ?_ | refine SWp.block ?_ | refine SWp.scope ?_ | refine SWp.condT rfl ?_ | refine SWp.condF rfl ?_ | (refine SWp.condD rfl (fun ht => ?_) (fun ht => ?_) <;> try (exfalso; omega)) | ((first | refine SWp.regS ?_ | refine SWp.skip ?_ | refine SWp.exit ?_ | refine SWp.ret ?_ | ((first | apply splitG | apply splitGB | apply splitR | apply splitRB | apply splitE | apply splitEB | apply splitC | apply splitCB) <;> intro ht)); all_goals try simp (disch := first | omega | (simp only [lens, hc_len, hr_len, trs_len, nums_len, List.length_reverse]; first | done | omega)) only [go_sem, Nat.reduceEqDiff, Nat.reduceBEq, Nat.reduceAdd, Nat.reduceMul, Nat.reduceSub, Nat.reduceLeDiff, Int.reduceToNat, Int.reducePow, q0, q3, cg, hTl, g1, g2, i1, i2, i3, hc2, trsR]))
        refine ⟨r', ?_, ?_, hr', he⟩
        · rw [← hj]; simp
        · rw [← hj]; rw [← hT] at cg; simpa using cg
/-- A number of trees' leaves. -/
def szs (T : List (Nat × Hash)) : Nat := (T.map (·.1)).sum
def hss (T : List (Nat × Hash)) : List Hash := T.map (·.2)
theorem szs_step {T : List (Nat × Hash)} {i : Nat} (h : i < T.length) : szs (T.take (i + 1)) = szs (T.take i) + (trsD T i).1 := by
  rw [take_trsD h]; simp [szs]
theorem hss_step {T : List (Nat × Hash)} {i : Nat} (h : i < T.length) : hss (T.take (i + 1)) = hss (T.take i) ++ [(trsD T i).2] := by
  rw [take_trsD h]; simp [hss]
theorem szs_le : ∀ (T : List (Nat × Hash)) (i : Nat), szs (T.take i) ≤ szs T
  | [], i => by simp [szs]
  | t :: T, 0 => by simp [szs]
  | t :: T, i + 1 => by have := szs_le T i; simp [szs] at this ⊢; omega
set_option maxHeartbeats 8000000 in
theorem close_to (σ : Store) (x : AV) (T : List (Nat × Hash)) (hx : RdSl σ 33 (trs T) x) (hl : T.length < 1000) (hs : szs T < 1000000) :
    ACallsTo TC 86 [x] σ (.agg [.int .i64 (szs T), slVal 32 (hr (hss T))]) σ := by
  have r1 := hx.len
  rw [trs_len] at r1
  unfold rLenSl at r1
  refine ACallsTo.of_body speculumref05_close_ok (by simp) fun hw _ => ?_
  repeat' (first | refine SWp.seq ?_ | refine SWp.block ?_ | refine SWp.scope ?_ | refine SWp.condT rfl ?_ | refine SWp.condF rfl ?_ | (refine SWp.condD rfl (fun ht => ?_) (fun ht => ?_) <;> try (exfalso; omega)) | ((first | refine SWp.reg ?_ | refine SWp.skip ?_ | refine SWp.exit ?_ | refine SWp.ret ?_ | ((first | apply splitG | apply splitGB | apply splitR | apply splitRB | apply splitE | apply splitEB | apply splitC | apply splitCB) <;> intro ht)); all_goals try simp (disch := first | omega | (simp only [lens, hc_len, hr_len, trs_len, nums_len, List.length_reverse]; first | done | omega)) only [go_sem, Nat.reduceEqDiff, Nat.reduceBEq, Nat.reduceAdd, Nat.reduceMul, Nat.reduceSub, Nat.reduceLeDiff, Int.reduceToNat, Int.reducePow, r1]))
  refine SWp.loop (fun m ρ σ' => ∃ (i : Nat) (v : AV), m + i = T.length ∧ σ'[σ.length]? = some (some [[.int .i64 0, .nilsl]]) ∧ σ'[σ.length + 1]? = some (some [[.int .i64 (szs (T.take i)), v]]) ∧
    OwnR 32 (σ.length + 2) σ' v (hr (hss (T.take i))) ∧ Ext σ σ' ∧ (∀ q, q < σ.length → σ'[q]? = σ[q]?) ∧ ρ 0 = x ∧ ρ 2 = .ptr σ.length 0 0 ∧ ρ 3 = .ptr (σ.length + 1) 0 0 ∧ ρ 4 = .int .i64 i) T.length ?_ ?_
  · exact ⟨0, .nilsl, by omega, by simp, by simp [szs], OwnR.nil, (Ext.refl σ).app, fun q hq => gapp hq, by simp (disch := first | omega | (simp only [lens, hc_len, hr_len, trs_len, nums_len, List.length_reverse]; first | done | omega)) only [go_sem, Nat.reduceEqDiff, Nat.reduceBEq, Nat.reduceAdd, Nat.reduceMul, Nat.reduceSub, Nat.reduceLeDiff, Int.reduceToNat, Int.reducePow], by simp (disch := first | omega | (simp only [lens, hc_len, hr_len, trs_len, nums_len, List.length_reverse]; first | done | omega)) only [go_sem, Nat.reduceEqDiff, Nat.reduceBEq, Nat.reduceAdd, Nat.reduceMul, Nat.reduceSub, Nat.reduceLeDiff, Int.reduceToNat, Int.reducePow], by simp (disch := first | omega | (simp only [lens, hc_len, hr_len, trs_len, nums_len, List.length_reverse]; first | done | omega)) only [go_sem, Nat.reduceEqDiff, Nat.reduceBEq, Nat.reduceAdd, Nat.reduceMul, Nat.reduceSub, Nat.reduceLeDiff, Int.reduceToNat, Int.reducePow], by simp (disch := first | omega | (simp only [lens, hc_len, hr_len, trs_len, nums_len, List.length_reverse]; first | done | omega)) only [go_sem, Nat.reduceEqDiff, Nat.reduceBEq, Nat.reduceAdd, Nat.reduceMul, Nat.reduceSub, Nat.reduceLeDiff, Int.reduceToNat, Int.reducePow]; rfl⟩
  · rintro m ρ σ' ⟨i, v, hm, c0, c1, hO, he, hkp, q0, q2, q3, q4⟩
    have d0 := slen c0
    have d1 := slen c1
    have hsz := szs_le T i
    by_cases hi : i < T.length
    · have hsz2 := szs_le T (i + 1)
      have hst := szs_step hi
      obtain ⟨v', σ2, ha, hO2, hk2, hE2, hl2⟩ := hO.app (ys := [hc (trsD T i).2]) (by omega) (by simp) (by rw [hr_len, hss, List.length_map, List.length_take]; simp; omega)
      have hcat : hr (hss (T.take i)) ++ [hc (trsD T i).2] = hr (hss (T.take (i + 1))) := by rw [hss_step hi, hr_app]; rfl
      rw [hcat] at hO2
      have c1' := hk2 (σ.length + 1) (by omega)
      rw [c1] at c1'
      have c0' := hk2 σ.length (by omega)
      rw [c0] at c0'
      have z0 := hO2.cells
      unfold cellsOf at z0
      have hadd : ((szs (T.take i) : Nat) : Int) + ((trsD T i).1 : Nat) = ((szs (T.take (i + 1)) : Nat) : Int) := by omega
      generalize hs2 : szs (T.take (i + 1)) = s2 at *
      generalize szs (T.take i) = s1 at *
      rcases hx with (⟨rfl, hnil⟩ | ⟨ex, rfl⟩) | ⟨r, off, lim, o, rfl, hg, h1, h2⟩
      · exact absurd (trs_nil_iff.1 hnil) (by intro e; subst e; simp at hi)
      · repeat' (first | refine SWp.seq ?_ | refine SWp.block ?_ | refine SWp.scope ?_ | refine SWp.condT rfl ?_ | refine SWp.condF rfl ?_ | (refine SWp.condD rfl (fun ht => ?_) (fun ht => ?_) <;> try (exfalso; omega)) | ((first | refine SWp.reg ?_ | refine SWp.skip ?_ | refine SWp.exit ?_ | refine SWp.ret ?_ | ((first | apply splitG | apply splitGB | apply splitR | apply splitRB | apply splitE | apply splitEB | apply splitC | apply splitCB) <;> intro ht)); all_goals try simp (disch := first | omega | (simp only [lens, hc_len, hr_len, trs_len, nums_len, List.length_reverse]; first | done | omega)) only [go_sem, Nat.reduceEqDiff, Nat.reduceBEq, Nat.reduceAdd, Nat.reduceMul, Nat.reduceSub, Nat.reduceLeDiff, Int.reduceToNat, Int.reducePow, q0, q2, q3, q4, r1, c0, c1, ha, c1', c0', z0, trsR, hadd]))
        exact ⟨T.length - (i + 1), by omega, i + 1, v', by omega, by rw [hs2], hO2.set (by omega), (hE2 σ (by omega) he).set (by omega), fun q hq => by rw [gset_ne (by omega), hk2 q (by omega)]; exact hkp q hq, by simp⟩
      · have hgr := hkp r (slen hg)
        rw [hg] at hgr
        have hgr2 := hk2 r (by have := slen hg; omega)
        rw [hgr] at hgr2
        have hrl := slen hg
        have hro := row_at h2 (i := i) (by rw [trs_len]; exact hi)
        rw [trs_get hi] at hro
        rw [trs_len] at h1
        have hne : ¬ r = σ.length + 1 := by omega
        repeat' (first | refine SWp.seq ?_ | refine SWp.block ?_ | refine SWp.scope ?_ | refine SWp.condT rfl ?_ | refine SWp.condF rfl ?_ | (refine SWp.condD rfl (fun ht => ?_) (fun ht => ?_) <;> try (exfalso; omega)) | ((first | refine SWp.reg ?_ | refine SWp.skip ?_ | refine SWp.exit ?_ | refine SWp.ret ?_ | ((first | apply splitG | apply splitGB | apply splitR | apply splitRB | apply splitE | apply splitEB | apply splitC | apply splitCB) <;> intro ht)); all_goals try simp (disch := first | omega | (simp only [lens, hc_len, hr_len, trs_len, nums_len, List.length_reverse]; first | done | omega)) only [go_sem, Nat.reduceEqDiff, Nat.reduceBEq, Nat.reduceAdd, Nat.reduceMul, Nat.reduceSub, Nat.reduceLeDiff, Int.reduceToNat, Int.reducePow, q0, q2, q3, q4, r1, c0, c1, ha, c1', c0', z0, trsR, hadd, hgr, hgr2, hro, trs_len]))
        exact ⟨T.length - (i + 1), by omega, i + 1, v', by omega, by rw [hs2], hO2.set (by omega), (hE2 σ (by omega) he).set (by omega), fun q hq => by rw [gset_ne (by omega), hk2 q (by omega)]; exact hkp q hq, by simp⟩
    · have hil : i = T.length := by omega
      subst hil
      rw [List.take_of_length_le (Nat.le_refl _)] at c1 hO
      have z0 := hO.cells
      unfold cellsOf at z0
      repeat' (first | refine SWp.seq ?_ | refine SWp.block ?_ | refine SWp.scope ?_ | refine SWp.condT rfl ?_ | refine SWp.condF rfl ?_ | (refine SWp.condD rfl (fun ht => ?_) (fun ht => ?_) <;> try (exfalso; omega)) | ((first | refine SWp.reg ?_ | refine SWp.skip ?_ | refine SWp.exit ?_ | refine SWp.ret ?_ | ((first | apply splitG | apply splitGB | apply splitR | apply splitRB | apply splitE | apply splitEB | apply splitC | apply splitCB) <;> intro ht)); all_goals try simp (disch := first | omega | (simp only [lens, hc_len, hr_len, trs_len, nums_len, List.length_reverse]; first | done | omega)) only [go_sem, Nat.reduceEqDiff, Nat.reduceBEq, Nat.reduceAdd, Nat.reduceMul, Nat.reduceSub, Nat.reduceLeDiff, Int.reduceToNat, Int.reducePow, q0, q2, q3, q4, r1, c0, c1, z0]))
      exact Ext.all hw (he.set (Nat.le_refl _)) fun news e => drA (drsc (FrzD.same (by simp [RL])) (drs1 ((hO.set (by omega)).fr e (by omega) (rlss_hr _))))
end Am
end Go.Proofs.YthgcooppjhcgcaaDoor
end
section
set_option linter.unusedSimpArgs false
set_option linter.unusedVariables false
/- Ranges: contracts: the reference's Extend. -/
namespace Go.Proofs.YthgcooppjhcgcaaDoor
namespace Am
attribute [local irreducible] ACallsTo ACallsP
theorem rl_slVal {k sz : Nat} {es : List (List AV)} (h : RLss k es) : RL k (slVal sz es) := by
  unfold slVal
  split
  · simp [RL]
  · simpa only [RL] using h
theorem slVal_r {sz : Nat} {es : List (List AV)} {σ : Store} : RdSl σ sz es (slVal sz es) := .of (slVal_is sz es)
theorem RdSl.rel {σ : Store} {sz : Nat} {es : List (List AV)} {x : AV} (h : RdSl σ sz es x) : srcElems σ sz x = some es := by
  rcases h with (⟨rfl, rfl⟩ | ⟨ex, rfl⟩) | ⟨r, off, lim, o, rfl, hg, h1, h2⟩
  · rfl
  · simp [srcElems]
  · simp [srcElems, slElems_sl, hg, h1, h2]
/-- One leaf more. -/
theorem opn_push {n : Nat} {hs : List Hash} {h : Hash} (hn : n + 1 < 8192) (hl : hs.length = pc 13 n) : (joinL (1, h) (opn n hs).reverse).reverse = opn (n + 1) (pushR n hs.reverse h).reverse := by
  unfold opn
  rw [List.reverse_reverse, List.reverse_reverse, join_push 13 1 n hs.reverse h (by decide) hn (by rw [List.length_reverse]; exact hl)]
theorem opn_szs {n : Nat} {hs : List Hash} (hn : n < 8192) (hl : hs.length = pc 13 n) : szs (opn n hs) = n ∧ hss (opn n hs) = hs ∧ (opn n hs).length = hs.length := by
  obtain ⟨h1, h2⟩ := trR_sum 13 1 n hs.reverse hn (by rw [List.length_reverse]; exact hl)
  have h3 : hss (opn n hs) = hs := by
    unfold hss opn
    rw [List.map_reverse, h2, List.reverse_reverse]
  refine ⟨?_, h3, ?_⟩
  · unfold szs opn
    rw [List.map_reverse, List.sum_reverse, h1, Nat.one_mul]
  · have := congrArg List.length h3
    unfold hss at this
    rwa [List.length_map] at this
theorem szs_mem : ∀ (l : List (Nat × Hash)) (u : Nat × Hash), u ∈ l → u.1 ≤ szs l
  | [], u, h => by simp at h
  | w :: l, u, h => by
    simp only [szs, List.map_cons, List.sum_cons]
    rcases List.mem_cons.1 h with rfl | h
    · omega
    · have := szs_mem l u h; simp only [szs] at this; omega
/-- What the reference's Extend answers. -/
def extB (n : Int) (hs l : List Hash) : AV :=
  if validR n hs.length = false then rg 0 .nilsl 2
  else if 4096 < n + l.length then rg 0 .nilsl 60
  else rg (n + l.length) (slVal 32 (hr (extR n.toNat hs.reverse l).reverse)) 0
set_option maxHeartbeats 8000000 in
theorem refExtend_to (σ : Store) (n : Int) (hs l : List Hash) (x y : AV) (hx : SlV 32 (hr hs) x) (hy : SlV 32 (hr l) y) (hn : -9223372036854775808 ≤ n ∧ n ≤ 9223372036854775807) (hl : l.length < 1000000) :
    ACallsTo TC 17 [.agg [.int .i64 n, x], y] σ (extB n hs l) σ := by
  have r1 := hy.len
  rw [hr_len] at r1
  unfold rLenSl at r1
  have hV := fun σ => ref_Valid_h σ n hs x (.of hx)
  unfold extB
  by_cases hv : validR n hs.length = true
  · rw [if_neg (by simp [hv])]
    rw [hv] at hV
    have hv' := of_decide_eq_true hv
    obtain ⟨n, rfl⟩ : ∃ k : Nat, n = k := ⟨n.toNat, by omega⟩
    rw [Int.toNat_natCast] at hv' ⊢
    have hhs : hs.length = pc 13 n := by rw [hv'.2.2, pc13 (by omega)]
    by_cases hf : 4096 < (n : Int) + l.length
    · rw [if_pos hf]
      refine ACallsTo.of_body speculumref05_Extend_ok (by simp) fun hw _ => ?_
      repeat' (first | refine SWp.seq ?_ | refine SWp.block ?_ | refine SWp.scope ?_ | refine SWp.condT rfl ?_ | refine SWp.condF rfl ?_ | (refine SWp.condD rfl (fun ht => ?_) (fun ht => ?_) <;> try (exfalso; omega)) | ((first | refine SWp.reg ?_ | refine SWp.skip ?_ | refine SWp.exit ?_ | refine SWp.ret ?_ | (apply callW.mk_pu; (first | exact (fun _ => hV _))) | (apply callW.any; (first | exact (hV _))) | ((first | apply splitG | apply splitGB | apply splitR | apply splitRB | apply splitE | apply splitEB | apply splitC | apply splitCB) <;> intro ht)); all_goals try simp (disch := first | omega | (simp only [lens, hc_len, hr_len, trs_len, nums_len, List.length_reverse]; first | done | omega)) only [go_sem, Nat.reduceEqDiff, Nat.reduceBEq, Nat.reduceAdd, Nat.reduceMul, Nat.reduceSub, Nat.reduceLeDiff, Int.reduceToNat, Int.reducePow, r1]))
      exact DownV.pure hw (rl_rg (by simp [RL]))
    · rw [if_neg hf]
      have hadd : (n : Int) + l.length = ((n + l.length : Nat) : Int) := by omega
      rw [hadd]
      have hO := fun σ => open_to σ n hs x hx (by omega) hhs
      have hlens : ∀ i, i ≤ l.length → (extR n hs.reverse (l.take i)).reverse.length = pc 13 (n + i) := fun i hi => by
        rw [List.length_reverse, extR_len 13 n hs.reverse (l.take i) (by rw [List.length_take]; omega) (by rw [List.length_reverse]; exact hhs), List.length_take, Nat.min_eq_left (by omega)]
      refine ACallsTo.of_body speculumref05_Extend_ok (by simp) fun hw _ => ?_
      repeat' (first | refine SWp.seq ?_ | refine SWp.block ?_ | refine SWp.scope ?_ | refine SWp.condT rfl ?_ | refine SWp.condF rfl ?_ | (refine SWp.condD rfl (fun ht => ?_) (fun ht => ?_) <;> try (exfalso; omega)) | ((first | refine SWp.reg ?_ | refine SWp.skip ?_ | refine SWp.exit ?_ | refine SWp.ret ?_ | (apply callW.mk_pu; (first | exact (fun _ => hV _) | exact (fun _ => hO _))) | (apply callW.any; (first | exact (hV _) | exact (hO _))) | ((first | apply splitG | apply splitGB | apply splitR | apply splitRB | apply splitE | apply splitEB | apply splitC | apply splitCB) <;> intro ht)); all_goals try simp (disch := first | omega | (simp only [lens, hc_len, hr_len, trs_len, nums_len, List.length_reverse]; first | done | omega)) only [go_sem, Nat.reduceEqDiff, Nat.reduceBEq, Nat.reduceAdd, Nat.reduceMul, Nat.reduceSub, Nat.reduceLeDiff, Int.reduceToNat, Int.reducePow, r1]))
      refine SWp.loop (fun m ρ σ' => ∃ (i : Nat) (v : AV), m + i = l.length ∧ Ext σ σ' ∧ σ'[σ.length + 1]? = some (some [[.int .i64 0, .nilsl]]) ∧ RdSl σ' 33 (trs (opn (n + i) (extR n hs.reverse (l.take i)).reverse)) v ∧
        ρ 1 = y ∧ ρ 4 = .ptr (σ.length + 1) 0 0 ∧ ρ 5 = .int .i64 0 ∧ ρ 6 = v ∧ ρ 7 = .int .i64 i) l.length ?_ ?_
      · refine ⟨0, slVal 33 (trs (opn n hs)), by omega, ?_, ?_, ?_, by simp (disch := first | omega | (simp only [lens, hc_len, hr_len, trs_len, nums_len, List.length_reverse]; first | done | omega)) only [go_sem, Nat.reduceEqDiff, Nat.reduceBEq, Nat.reduceAdd, Nat.reduceMul, Nat.reduceSub, Nat.reduceLeDiff, Int.reduceToNat, Int.reducePow], by simp (disch := first | omega | (simp only [lens, hc_len, hr_len, trs_len, nums_len, List.length_reverse]; first | done | omega)) only [go_sem, Nat.reduceEqDiff, Nat.reduceBEq, Nat.reduceAdd, Nat.reduceMul, Nat.reduceSub, Nat.reduceLeDiff, Int.reduceToNat, Int.reducePow], by simp (disch := first | omega | (simp only [lens, hc_len, hr_len, trs_len, nums_len, List.length_reverse]; first | done | omega)) only [go_sem, Nat.reduceEqDiff, Nat.reduceBEq, Nat.reduceAdd, Nat.reduceMul, Nat.reduceSub, Nat.reduceLeDiff, Int.reduceToNat, Int.reducePow], by simp (disch := first | omega | (simp only [lens, hc_len, hr_len, trs_len, nums_len, List.length_reverse]; first | done | omega)) only [go_sem, Nat.reduceEqDiff, Nat.reduceBEq, Nat.reduceAdd, Nat.reduceMul, Nat.reduceSub, Nat.reduceLeDiff, Int.reduceToNat, Int.reducePow], by simp (disch := first | omega | (simp only [lens, hc_len, hr_len, trs_len, nums_len, List.length_reverse]; first | done | omega)) only [go_sem, Nat.reduceEqDiff, Nat.reduceBEq, Nat.reduceAdd, Nat.reduceMul, Nat.reduceSub, Nat.reduceLeDiff, Int.reduceToNat, Int.reducePow]; rfl⟩
        · exact (Ext.refl σ).app
        · simp
        · simp only [List.take_zero, extR, List.reverse_reverse, Nat.add_zero]
          exact slVal_r
      · rintro m ρ σ' ⟨i, v, hm, he, c1, hR, q1, q4, q5, q6, q7⟩
        have d1 := slen c1
        have hle := he.le
        obtain ⟨s1, s2, s3⟩ := opn_szs (n := n + i) (hs := (extR n hs.reverse (l.take i)).reverse) (by omega) (hlens i (by omega))
        have hp13 := pc_le 13 (n + i)
        rw [hlens i (by omega)] at s3
        by_cases hi : i < l.length
        · obtain ⟨ex, rfl⟩ := hy.vsl (by rw [hr_len]; omega)
          have hpush := opn_push (n := n + i) (hs := (extR n hs.reverse (l.take i)).reverse) (h := hd l i) (by omega) (hlens i (by omega))
          have hnext : pushR (n + i) (extR n hs.reverse (l.take i)) (hd l i) = extR n hs.reverse (l.take (i + 1)) := by
            rw [take_hd hi, extR_app, List.length_take, Nat.min_eq_left (by omega)]; rfl
          rw [List.reverse_reverse, hnext] at hpush
          generalize opn (n + i) (extR n hs.reverse (l.take i)).reverse = T at *
          have hmem := szs_mem T
          have hJ : ∀ σ2 r, σ2[r]? = some (some (trs T ++ [.int .i64 1 :: hc (hd l i)])) → ACallsP TC 85 [.sl r 0 (T.length + 1) none 33] σ2 (fun v σ' => ∃ r', v = .sl r' 0 (joinL (1, hd l i) T.reverse).length none 33 ∧ σ'[r']? = some (some (trs (joinL (1, hd l i) T.reverse).reverse)) ∧ (r' = r ∨ σ2.length ≤ r') ∧ Ext σ2 σ') := fun σ2 r hg => by
            have := join_to σ2 r (1, hd l i) T.reverse (by rw [hg, List.reverse_reverse, trs_app]; rfl) (by rw [List.length_reverse]; omega) (fun u hu => by
              rcases List.mem_cons.1 hu with rfl | hu
              · show 1 < 1000000; decide
              · have := hmem u (by simpa using hu); omega) (by
              rw [List.length_reverse, Nat.one_mul]
              have := Nat.pow_le_pow_right (n := 2) (by decide) (show T.length ≤ 13 by omega)
              omega)
            rwa [List.length_reverse] at this
          have hJx : ∀ (σ2 : Store) (r : Nat), ∃ v σ', ∃ r', v = AV.sl r' 0 (joinL (1, hd l i) T.reverse).length none 33 ∧ σ'[r']? = some (some (trs (joinL (1, hd l i) T.reverse).reverse)) ∧ (r' = r ∨ σ2.length ≤ r') ∧ Ext σ2 σ' := fun σ2 r =>
            ⟨_, σ2 ++ [some (trs (joinL (1, hd l i) T.reverse).reverse)], σ2.length, rfl, by simp, .inr (Nat.le_refl _), _, rfl⟩
          have rdO : ∀ {σ2 : Store} {r' : Nat}, σ2[r']? = some (some (trs (joinL (1, hd l i) T.reverse).reverse)) → RdSl σ2 33 (trs (joinL (1, hd l i) T.reverse).reverse) (.sl r' 0 (joinL (1, hd l i) T.reverse).length none 33) := fun h =>
            .inr ⟨_, 0, none, _, by rw [trs_len, List.length_reverse], h, by rw [trs_len]; omega, by simp⟩
          rcases hR with (⟨hv1, hnil⟩ | ⟨ex2, hv1⟩) | ⟨r0, off, lim, o, hv1, hg, h1, h2⟩
          · subst hv1
            obtain rfl := trs_nil_iff.1 hnil
            repeat' (first | refine SWp.seq ?_ | refine SWp.block ?_ | refine SWp.scope ?_ | refine SWp.condT rfl ?_ | refine SWp.condF rfl ?_ | (refine SWp.condD rfl (fun ht => ?_) (fun ht => ?_) <;> try (exfalso; omega)) | ((first | refine SWp.reg ?_ | refine SWp.skip ?_ | refine SWp.exit ?_ | refine SWp.ret ?_ | ((first | apply splitG | apply splitGB | apply splitR | apply splitRB | apply splitE | apply splitEB | apply splitC | apply splitCB) <;> intro ht)); all_goals try simp (disch := first | omega | (simp only [lens, hc_len, hr_len, trs_len, nums_len, List.length_reverse]; first | done | omega)) only [go_sem, Nat.reduceEqDiff, Nat.reduceBEq, Nat.reduceAdd, Nat.reduceMul, Nat.reduceSub, Nat.reduceLeDiff, Int.reduceToNat, Int.reducePow, q1, q4, q5, q6, q7, r1, c1]))
            refine callW.mkP (hJ _ (σ'.length) (by simp [trs])) (hJx _ _) ?_
            rintro _ σ3 ⟨r', rfl, hg3, hr3, he3⟩
            obtain ⟨y3, rfl⟩ := he3
            repeat' (first | refine SWp.seq ?_ | refine SWp.block ?_ | refine SWp.scope ?_ | refine SWp.condT rfl ?_ | refine SWp.condF rfl ?_ | (refine SWp.condD rfl (fun ht => ?_) (fun ht => ?_) <;> try (exfalso; omega)) | ((first | refine SWp.reg ?_ | refine SWp.skip ?_ | refine SWp.exit ?_ | refine SWp.ret ?_ | ((first | apply splitG | apply splitGB | apply splitR | apply splitRB | apply splitE | apply splitEB | apply splitC | apply splitCB) <;> intro ht)); all_goals try simp (disch := first | omega | (simp only [lens, hc_len, hr_len, trs_len, nums_len, List.length_reverse]; first | done | omega)) only [go_sem, Nat.reduceEqDiff, Nat.reduceBEq, Nat.reduceAdd, Nat.reduceMul, Nat.reduceSub, Nat.reduceLeDiff, Int.reduceToNat, Int.reducePow, q1, q4, q5, q6, q7, r1, c1]))
            exact ⟨l.length - (i + 1), by omega, i + 1, _, by omega, he.app, by rw [show n + (i + 1) = n + i + 1 by omega, ← hpush]; exact rdO (by simpa using hg3), rfl, by simp⟩
          · subst hv1
            by_cases h0 : T.length = 0
            · obtain rfl := List.eq_nil_of_length_eq_zero h0
              repeat' (first | refine SWp.seq ?_ | refine SWp.block ?_ | refine SWp.scope ?_ | refine SWp.condT rfl ?_ | refine SWp.condF rfl ?_ | (refine SWp.condD rfl (fun ht => ?_) (fun ht => ?_) <;> try (exfalso; omega)) | ((first | refine SWp.reg ?_ | refine SWp.skip ?_ | refine SWp.exit ?_ | refine SWp.ret ?_ | ((first | apply splitG | apply splitGB | apply splitR | apply splitRB | apply splitE | apply splitEB | apply splitC | apply splitCB) <;> intro ht)); all_goals try simp (disch := first | omega | (simp only [lens, hc_len, hr_len, trs_len, nums_len, List.length_reverse]; first | done | omega)) only [go_sem, Nat.reduceEqDiff, Nat.reduceBEq, Nat.reduceAdd, Nat.reduceMul, Nat.reduceSub, Nat.reduceLeDiff, Int.reduceToNat, Int.reducePow, q1, q4, q5, q6, q7, r1, c1, trs_nil]))
              refine callW.mkP (hJ _ (σ'.length) (by simp [trs])) (hJx _ _) ?_
              rintro _ σ3 ⟨r', rfl, hg3, hr3, he3⟩
              obtain ⟨y3, rfl⟩ := he3
              repeat' (first | refine SWp.seq ?_ | refine SWp.block ?_ | refine SWp.scope ?_ | refine SWp.condT rfl ?_ | refine SWp.condF rfl ?_ | (refine SWp.condD rfl (fun ht => ?_) (fun ht => ?_) <;> try (exfalso; omega)) | ((first | refine SWp.reg ?_ | refine SWp.skip ?_ | refine SWp.exit ?_ | refine SWp.ret ?_ | ((first | apply splitG | apply splitGB | apply splitR | apply splitRB | apply splitE | apply splitEB | apply splitC | apply splitCB) <;> intro ht)); all_goals try simp (disch := first | omega | (simp only [lens, hc_len, hr_len, trs_len, nums_len, List.length_reverse]; first | done | omega)) only [go_sem, Nat.reduceEqDiff, Nat.reduceBEq, Nat.reduceAdd, Nat.reduceMul, Nat.reduceSub, Nat.reduceLeDiff, Int.reduceToNat, Int.reducePow, q1, q4, q5, q6, q7, r1, c1]))
              exact ⟨l.length - (i + 1), by omega, i + 1, _, by omega, he.app, by rw [show n + (i + 1) = n + i + 1 by omega, ← hpush]; exact rdO (by simpa using hg3), rfl, by simp⟩
            · repeat' (first | refine SWp.seq ?_ | refine SWp.block ?_ | refine SWp.scope ?_ | refine SWp.condT rfl ?_ | refine SWp.condF rfl ?_ | (refine SWp.condD rfl (fun ht => ?_) (fun ht => ?_) <;> try (exfalso; omega)) | ((first | refine SWp.reg ?_ | refine SWp.skip ?_ | refine SWp.exit ?_ | refine SWp.ret ?_ | ((first | apply splitG | apply splitGB | apply splitR | apply splitRB | apply splitE | apply splitEB | apply splitC | apply splitCB) <;> intro ht)); all_goals try simp (disch := first | omega | (simp only [lens, hc_len, hr_len, trs_len, nums_len, List.length_reverse]; first | done | omega)) only [go_sem, Nat.reduceEqDiff, Nat.reduceBEq, Nat.reduceAdd, Nat.reduceMul, Nat.reduceSub, Nat.reduceLeDiff, Int.reduceToNat, Int.reducePow, q1, q4, q5, q6, q7, r1, c1]))
              refine callW.mkP (hJ _ (σ'.length + 1) (by simp)) (hJx _ _) ?_
              rintro _ σ3 ⟨r', rfl, hg3, hr3, he3⟩
              obtain ⟨y3, rfl⟩ := he3
              repeat' (first | refine SWp.seq ?_ | refine SWp.block ?_ | refine SWp.scope ?_ | refine SWp.condT rfl ?_ | refine SWp.condF rfl ?_ | (refine SWp.condD rfl (fun ht => ?_) (fun ht => ?_) <;> try (exfalso; omega)) | ((first | refine SWp.reg ?_ | refine SWp.skip ?_ | refine SWp.exit ?_ | refine SWp.ret ?_ | ((first | apply splitG | apply splitGB | apply splitR | apply splitRB | apply splitE | apply splitEB | apply splitC | apply splitCB) <;> intro ht)); all_goals try simp (disch := first | omega | (simp only [lens, hc_len, hr_len, trs_len, nums_len, List.length_reverse]; first | done | omega)) only [go_sem, Nat.reduceEqDiff, Nat.reduceBEq, Nat.reduceAdd, Nat.reduceMul, Nat.reduceSub, Nat.reduceLeDiff, Int.reduceToNat, Int.reducePow, q1, q4, q5, q6, q7, r1, c1]))
              exact ⟨l.length - (i + 1), by omega, i + 1, _, by omega, he.app, by rw [show n + (i + 1) = n + i + 1 by omega, ← hpush]; exact rdO (by simpa using hg3), rfl, by simp⟩
          · subst hv1
            have dg := slen hg
            by_cases h0 : T.length = 0
            · obtain rfl := List.eq_nil_of_length_eq_zero h0
              rw [trs_nil] at h1 h2
              repeat' (first | refine SWp.seq ?_ | refine SWp.block ?_ | refine SWp.scope ?_ | refine SWp.condT rfl ?_ | refine SWp.condF rfl ?_ | (refine SWp.condD rfl (fun ht => ?_) (fun ht => ?_) <;> try (exfalso; omega)) | ((first | refine SWp.reg ?_ | refine SWp.skip ?_ | refine SWp.exit ?_ | refine SWp.ret ?_ | ((first | apply splitG | apply splitGB | apply splitR | apply splitRB | apply splitE | apply splitEB | apply splitC | apply splitCB) <;> intro ht)); all_goals try simp (disch := first | omega | (simp only [lens, hc_len, hr_len, trs_len, nums_len, List.length_reverse]; first | done | omega)) only [go_sem, Nat.reduceEqDiff, Nat.reduceBEq, Nat.reduceAdd, Nat.reduceMul, Nat.reduceSub, Nat.reduceLeDiff, Int.reduceToNat, Int.reducePow, q1, q4, q5, q6, q7, r1, c1, hg, h1, h2]))
              refine callW.mkP (hJ _ (σ'.length) (by simp [trs])) (hJx _ _) ?_
              rintro _ σ3 ⟨r', rfl, hg3, hr3, he3⟩
              obtain ⟨y3, rfl⟩ := he3
              repeat' (first | refine SWp.seq ?_ | refine SWp.block ?_ | refine SWp.scope ?_ | refine SWp.condT rfl ?_ | refine SWp.condF rfl ?_ | (refine SWp.condD rfl (fun ht => ?_) (fun ht => ?_) <;> try (exfalso; omega)) | ((first | refine SWp.reg ?_ | refine SWp.skip ?_ | refine SWp.exit ?_ | refine SWp.ret ?_ | ((first | apply splitG | apply splitGB | apply splitR | apply splitRB | apply splitE | apply splitEB | apply splitC | apply splitCB) <;> intro ht)); all_goals try simp (disch := first | omega | (simp only [lens, hc_len, hr_len, trs_len, nums_len, List.length_reverse]; first | done | omega)) only [go_sem, Nat.reduceEqDiff, Nat.reduceBEq, Nat.reduceAdd, Nat.reduceMul, Nat.reduceSub, Nat.reduceLeDiff, Int.reduceToNat, Int.reducePow, q1, q4, q5, q6, q7, r1, c1]))
              exact ⟨l.length - (i + 1), by omega, i + 1, _, by omega, he.app, by rw [show n + (i + 1) = n + i + 1 by omega, ← hpush]; exact rdO (by simpa using hg3), rfl, by simp⟩
            · rw [trs_len] at h1 h2
              repeat' (first | refine SWp.seq ?_ | refine SWp.block ?_ | refine SWp.scope ?_ | refine SWp.condT rfl ?_ | refine SWp.condF rfl ?_ | (refine SWp.condD rfl (fun ht => ?_) (fun ht => ?_) <;> try (exfalso; omega)) | ((first | refine SWp.reg ?_ | refine SWp.skip ?_ | refine SWp.exit ?_ | refine SWp.ret ?_ | ((first | apply splitG | apply splitGB | apply splitR | apply splitRB | apply splitE | apply splitEB | apply splitC | apply splitCB) <;> intro ht)); all_goals try simp (disch := first | omega | (simp only [lens, hc_len, hr_len, trs_len, nums_len, List.length_reverse]; first | done | omega)) only [go_sem, Nat.reduceEqDiff, Nat.reduceBEq, Nat.reduceAdd, Nat.reduceMul, Nat.reduceSub, Nat.reduceLeDiff, Int.reduceToNat, Int.reducePow, q1, q4, q5, q6, q7, r1, c1, hg, h1, h2]))
              refine callW.mkP (hJ _ (σ'.length + 1) (by simp)) (hJx _ _) ?_
              rintro _ σ3 ⟨r', rfl, hg3, hr3, he3⟩
              obtain ⟨y3, rfl⟩ := he3
              repeat' (first | refine SWp.seq ?_ | refine SWp.block ?_ | refine SWp.scope ?_ | refine SWp.condT rfl ?_ | refine SWp.condF rfl ?_ | (refine SWp.condD rfl (fun ht => ?_) (fun ht => ?_) <;> try (exfalso; omega)) | ((first | refine SWp.reg ?_ | refine SWp.skip ?_ | refine SWp.exit ?_ | refine SWp.ret ?_ | ((first | apply splitG | apply splitGB | apply splitR | apply splitRB | apply splitE | apply splitEB | apply splitC | apply splitCB) <;> intro ht)); all_goals try simp (disch := first | omega | (simp only [lens, hc_len, hr_len, trs_len, nums_len, List.length_reverse]; first | done | omega)) only [go_sem, Nat.reduceEqDiff, Nat.reduceBEq, Nat.reduceAdd, Nat.reduceMul, Nat.reduceSub, Nat.reduceLeDiff, Int.reduceToNat, Int.reducePow, q1, q4, q5, q6, q7, r1, c1]))
              exact ⟨l.length - (i + 1), by omega, i + 1, _, by omega, he.app, by rw [show n + (i + 1) = n + i + 1 by omega, ← hpush]; exact rdO (by simpa using hg3), rfl, by simp⟩
        · have hil : i = l.length := by omega
          subst hil
          rw [List.take_of_length_le (Nat.le_refl _)] at hR s1 s2 s3
          have hC := fun y => close_to (σ' ++ y) v _ hR.app (by omega) (by omega)
          rw [s1, s2] at hC
          have hC0 := hC []
          rw [List.append_nil] at hC0
          repeat' (first | refine SWp.seq ?_ | refine SWp.block ?_ | refine SWp.scope ?_ | refine SWp.condT rfl ?_ | refine SWp.condF rfl ?_ | (refine SWp.condD rfl (fun ht => ?_) (fun ht => ?_) <;> try (exfalso; omega)) | ((first | refine SWp.reg ?_ | refine SWp.skip ?_ | refine SWp.exit ?_ | refine SWp.ret ?_ | (apply callW.mk_pu; (first | exact (fun _ => hC0))) | (apply callW.any; (first | exact (hC0))) | ((first | apply splitG | apply splitGB | apply splitR | apply splitRB | apply splitE | apply splitEB | apply splitC | apply splitCB) <;> intro ht)); all_goals try simp (disch := first | omega | (simp only [lens, hc_len, hr_len, trs_len, nums_len, List.length_reverse]; first | done | omega)) only [go_sem, Nat.reduceEqDiff, Nat.reduceBEq, Nat.reduceAdd, Nat.reduceMul, Nat.reduceSub, Nat.reduceLeDiff, Int.reduceToNat, Int.reducePow, q1, q4, q5, q6, q7, r1, c1]))
          exact Ext.pure hw (he.set (by omega)) (rl_rg (rl_slVal (rlss_hr _)))
  · have hv0 : validR n hs.length = false := by simpa using hv
    rw [if_pos hv0]
    rw [hv0] at hV
    refine ACallsTo.of_body speculumref05_Extend_ok (by simp) fun hw _ => ?_
    repeat' (first | refine SWp.seq ?_ | refine SWp.block ?_ | refine SWp.scope ?_ | refine SWp.condT rfl ?_ | refine SWp.condF rfl ?_ | (refine SWp.condD rfl (fun ht => ?_) (fun ht => ?_) <;> try (exfalso; omega)) | ((first | refine SWp.reg ?_ | refine SWp.skip ?_ | refine SWp.exit ?_ | refine SWp.ret ?_ | (apply callW.mk_pu; (first | exact (fun _ => hV _))) | (apply callW.any; (first | exact (hV _))) | ((first | apply splitG | apply splitGB | apply splitR | apply splitRB | apply splitE | apply splitEB | apply splitC | apply splitCB) <;> intro ht)); all_goals try simp (disch := first | omega | (simp only [lens, hc_len, hr_len, trs_len, nums_len, List.length_reverse]; first | done | omega)) only [go_sem, Nat.reduceEqDiff, Nat.reduceBEq, Nat.reduceAdd, Nat.reduceMul, Nat.reduceSub, Nat.reduceLeDiff, Int.reduceToNat, Int.reducePow, r1]))
    exact DownV.pure hw (rl_rg (by simp [RL]))
end Am
end Go.Proofs.YthgcooppjhcgcaaDoor
end
section
set_option linter.unusedSimpArgs false
set_option linter.unusedVariables false
/- Ranges: contracts: Of, Append, Same, the parts, Part. -/
namespace Go.Proofs.YthgcooppjhcgcaaDoor
namespace Am
attribute [local irreducible] ACallsTo ACallsP
theorem extA_sh (n : Int) (hs l : List Hash) (x : AV) : ∃ n' z e, extA n hs l x = .tup [.agg [.int .i64 n', z], .int .i64 e] ∧ (∀ k, RL k z) ∧ cellsOf z = some [z] := by
  unfold extA
  split
  · exact ⟨0, .nilsl, 2, rfl, fun k => by simp [RL], rfl⟩
  · split
    · exact ⟨0, .nilsl, 60, rfl, fun k => by simp [RL], rfl⟩
    · exact ⟨_, _, 0, rfl, fun k => rl_zv _ _ _, zv_cells _ _ _⟩
theorem Of_to (σ : Store) (l : List Hash) (y : AV) (hy : SlV 32 (hr l) y) (hl : l.length < 1000000) : ACallsTo TC 25 [y] σ (extA 0 [] l .nilsl) σ := by
  have hE := fun σ => Extend_v σ 0 [] l .nilsl y (.of (.inl ⟨rfl, rfl⟩)) hy (by omega) (by simp) hl
  obtain ⟨n', z, e, h, hz, hcz⟩ := extA_sh 0 [] l .nilsl
  rw [h] at hE ⊢
  unfold cellsOf at hcz
  refine ACallsTo.of_body ranges_Of_ok (by simp) fun hw _ => ?_
  repeat' (first | refine SWp.seq ?_ | refine SWp.block ?_ | refine SWp.scope ?_ | refine SWp.condT rfl ?_ | refine SWp.condF rfl ?_ | (refine SWp.condD rfl (fun ht => ?_) (fun ht => ?_) <;> try (exfalso; omega)) | ((first | refine SWp.reg ?_ | refine SWp.skip ?_ | refine SWp.exit ?_ | refine SWp.ret ?_ | (apply callW.mk_pu; (first | exact (fun _ => hE _))) | (apply callW.any; (first | exact (hE _))) | ((first | apply splitG | apply splitGB | apply splitR | apply splitRB | apply splitE | apply splitEB | apply splitC | apply splitCB) <;> intro ht)); all_goals try simp (disch := first | omega | (simp only [lens, hc_len, hr_len, trs_len, nums_len, List.length_reverse]; first | done | omega)) only [go_sem, Nat.reduceEqDiff, Nat.reduceBEq, Nat.reduceAdd, Nat.reduceMul, Nat.reduceSub, Nat.reduceLeDiff, Int.reduceToNat, Int.reducePow, hcz]))
  exact DownV.pure hw (rl_rg (hz _))
theorem Append_to (σ : Store) (n : Int) (hs : List Hash) (x : AV) (h : Hash) (hx : RdSl σ 32 (hr hs) x) (hn : -9223372036854775808 ≤ n ∧ n ≤ 9223372036854775807) (hhl : hs.length < 1000000) :
    ACallsTo TC 26 [.agg [.int .i64 n, x], .agg (hc h)] σ (extA n hs [h] x) σ := by
  have hE := fun y => Extend_v (σ ++ y) n hs [h] x (.vsl 32 [hc h] true) hx.app (.inr ⟨true, rfl⟩) hn hhl (by simp)
  obtain ⟨n', z, e, h', hz, hcz⟩ := extA_sh n hs [h] x
  rw [h'] at hE ⊢
  unfold cellsOf at hcz
  refine ACallsTo.of_body ranges_Append_ok (by simp) fun hw _ => ?_
  repeat' (first | refine SWp.seq ?_ | refine SWp.block ?_ | refine SWp.scope ?_ | refine SWp.condT rfl ?_ | refine SWp.condF rfl ?_ | (refine SWp.condD rfl (fun ht => ?_) (fun ht => ?_) <;> try (exfalso; omega)) | ((first | refine SWp.reg ?_ | refine SWp.skip ?_ | refine SWp.exit ?_ | refine SWp.ret ?_ | (apply callW.mk_pu; (first | exact (fun _ => hE _))) | (apply callW.any; (first | exact (hE _))) | ((first | apply splitG | apply splitGB | apply splitR | apply splitRB | apply splitE | apply splitEB | apply splitC | apply splitCB) <;> intro ht)); all_goals try simp (disch := first | omega | (simp only [lens, hc_len, hr_len, trs_len, nums_len, List.length_reverse]; first | done | omega)) only [go_sem, Nat.reduceEqDiff, Nat.reduceBEq, Nat.reduceAdd, Nat.reduceMul, Nat.reduceSub, Nat.reduceLeDiff, Int.reduceToNat, Int.reducePow, hcz]))
  exact DownV.pure hw (rl_rg (hz _))
theorem rangesSame_to (σ : Store) (n m : Int) (A B : List Hash) (x y : AV) (hx : RdSl σ 32 (hr A) x) (hy : RdSl σ 32 (hr B) y) (hl : A.length < 1000000) (hl2 : B.length < 1000000) :
    ACallsTo TC 28 [.agg [.int .i64 n, x], .agg [.int .i64 m, y]] σ (.bool (decide (n = m ∧ A = B))) σ := by
  have hE := fun z => Equal_h (σ ++ z) A B x y hx.app hy.app (by omega) (by omega)
  refine ACallsTo.of_body ranges_Same_ok (by simp) fun hw _ => ?_
  by_cases h : n = m
  · by_cases h2 : A = B
    · rw [decide_eq_true h2] at hE
      rw [decide_eq_true ⟨h, h2⟩]
      repeat' (first | refine SWp.seq ?_ | refine SWp.block ?_ | refine SWp.scope ?_ | refine SWp.condT rfl ?_ | refine SWp.condF rfl ?_ | (refine SWp.condD rfl (fun ht => ?_) (fun ht => ?_) <;> try (exfalso; omega)) | ((first | refine SWp.reg ?_ | refine SWp.skip ?_ | refine SWp.exit ?_ | refine SWp.ret ?_ | (apply callW.mk_pu; (first | exact (fun _ => hE _))) | (apply callW.any; (first | exact (hE _))) | ((first | apply splitG | apply splitGB | apply splitR | apply splitRB | apply splitE | apply splitEB | apply splitC | apply splitCB) <;> intro ht)); all_goals try simp (disch := first | omega | (simp only [lens, hc_len, hr_len, trs_len, nums_len, List.length_reverse]; first | done | omega)) only [go_sem, Nat.reduceEqDiff, Nat.reduceBEq, Nat.reduceAdd, Nat.reduceMul, Nat.reduceSub, Nat.reduceLeDiff, Int.reduceToNat, Int.reducePow, h]))
      exact DownV.pure hw (rlB_ok _ rfl)
    · rw [decide_eq_false h2] at hE
      rw [decide_eq_false (fun e => h2 e.2)]
      repeat' (first | refine SWp.seq ?_ | refine SWp.block ?_ | refine SWp.scope ?_ | refine SWp.condT rfl ?_ | refine SWp.condF rfl ?_ | (refine SWp.condD rfl (fun ht => ?_) (fun ht => ?_) <;> try (exfalso; omega)) | ((first | refine SWp.reg ?_ | refine SWp.skip ?_ | refine SWp.exit ?_ | refine SWp.ret ?_ | (apply callW.mk_pu; (first | exact (fun _ => hE _))) | (apply callW.any; (first | exact (hE _))) | ((first | apply splitG | apply splitGB | apply splitR | apply splitRB | apply splitE | apply splitEB | apply splitC | apply splitCB) <;> intro ht)); all_goals try simp (disch := first | omega | (simp only [lens, hc_len, hr_len, trs_len, nums_len, List.length_reverse]; first | done | omega)) only [go_sem, Nat.reduceEqDiff, Nat.reduceBEq, Nat.reduceAdd, Nat.reduceMul, Nat.reduceSub, Nat.reduceLeDiff, Int.reduceToNat, Int.reducePow, h]))
      exact DownV.pure hw (rlB_ok _ rfl)
  · rw [decide_eq_false (fun e => h e.1)]
    repeat' (first | refine SWp.seq ?_ | refine SWp.block ?_ | refine SWp.scope ?_ | refine SWp.condT rfl ?_ | refine SWp.condF rfl ?_ | (refine SWp.condD rfl (fun ht => ?_) (fun ht => ?_) <;> try (exfalso; omega)) | ((first | refine SWp.reg ?_ | refine SWp.skip ?_ | refine SWp.exit ?_ | refine SWp.ret ?_ | ((first | apply splitG | apply splitGB | apply splitR | apply splitRB | apply splitE | apply splitEB | apply splitC | apply splitCB) <;> intro ht)); all_goals try simp (disch := first | omega | (simp only [lens, hc_len, hr_len, trs_len, nums_len, List.length_reverse]; first | done | omega)) only [go_sem, Nat.reduceEqDiff, Nat.reduceBEq, Nat.reduceAdd, Nat.reduceMul, Nat.reduceSub, Nat.reduceLeDiff, Int.reduceToNat, Int.reducePow, h]))
    exact DownV.pure hw (rlB_ok _ rfl)
set_option maxHeartbeats 4000000 in
theorem refSame_v (σ : Store) (n k : Int) (A B : List Hash) (x y : AV) (hx : SlV 32 (hr A) x) (hy : SlV 32 (hr B) y) (hl : A.length < 1000000) (hl2 : B.length < 1000000) :
    ACallsTo TC 20 [.agg [.int .i64 n, x], .agg [.int .i64 k, y]] σ (.bool (decide (n = k ∧ A = B))) σ := by
  refine ACallsTo.of_body speculumref05_Same_ok (by simp) fun hw _ => ?_
  have r1 := hx.len
  have r2 := hy.len
  rw [hr_len] at r1 r2
  unfold rLenSl at r1 r2
  by_cases hnk : n = k
  · by_cases hL : A.length = B.length
    · subst hnk
      repeat' (first | refine SWp.seq ?_ | refine SWp.block ?_ | refine SWp.scope ?_ | refine SWp.condT rfl ?_ | refine SWp.condF rfl ?_ | (refine SWp.condD rfl (fun ht => ?_) (fun ht => ?_) <;> try (exfalso; omega)) | ((first | refine SWp.reg ?_ | refine SWp.skip ?_ | refine SWp.exit ?_ | refine SWp.ret ?_ | ((first | apply splitG | apply splitGB | apply splitR | apply splitRB | apply splitE | apply splitEB | apply splitC | apply splitCB) <;> intro ht)); all_goals try simp (disch := first | omega | (simp only [lens, hc_len, hr_len, trs_len, nums_len, List.length_reverse]; first | done | omega)) only [go_sem, Nat.reduceEqDiff, Nat.reduceBEq, Nat.reduceAdd, Nat.reduceMul, Nat.reduceSub, Nat.reduceLeDiff, Int.reduceToNat, Int.reducePow, r1, r2]))
      refine SWp.loop (fun m ρ σ' => ∃ i : Nat, σ' = σ ++ [some [[.int .i64 n, x]], some [[.int .i64 n, y]]] ∧ m + i = A.length ∧ A.take i = B.take i ∧ ρ 2 = .ptr σ.length 0 0 ∧ ρ 3 = .ptr (σ.length + 1) 0 0 ∧ ρ 5 = .int .i64 i) A.length ?_ ?_
      · exact ⟨0, rfl, by omega, rfl, by simp (disch := first | omega | (simp only [lens, hc_len, hr_len, trs_len, nums_len, List.length_reverse]; first | done | omega)) only [go_sem, Nat.reduceEqDiff, Nat.reduceBEq, Nat.reduceAdd, Nat.reduceMul, Nat.reduceSub, Nat.reduceLeDiff, Int.reduceToNat, Int.reducePow], by simp (disch := first | omega | (simp only [lens, hc_len, hr_len, trs_len, nums_len, List.length_reverse]; first | done | omega)) only [go_sem, Nat.reduceEqDiff, Nat.reduceBEq, Nat.reduceAdd, Nat.reduceMul, Nat.reduceSub, Nat.reduceLeDiff, Int.reduceToNat, Int.reducePow], by simp (disch := first | omega | (simp only [lens, hc_len, hr_len, trs_len, nums_len, List.length_reverse]; first | done | omega)) only [go_sem, Nat.reduceEqDiff, Nat.reduceBEq, Nat.reduceAdd, Nat.reduceMul, Nat.reduceSub, Nat.reduceLeDiff, Int.reduceToNat, Int.reducePow]; rfl⟩
      · rintro m ρ σ' ⟨i, rfl, hm, hp, q2, q3, q5⟩
        by_cases hi : i < A.length
        · have hi2 : i < B.length := by omega
          obtain ⟨e1, rfl⟩ := hx.vsl (by rw [hr_len]; omega)
          obtain ⟨e2, rfl⟩ := hy.vsl (by rw [hr_len]; omega)
          have hn1 := take_hd hi
          have hn2 := take_hd hi2
          by_cases he : hd A i = hd B i
          · have hn : A.take (i + 1) = B.take (i + 1) := by rw [hn1, hn2, hp, he]
            have hde := decide_eq_true he
            clear hn1 hn2
            repeat' (first | refine SWp.seq ?_ | refine SWp.block ?_ | refine SWp.scope ?_ | refine SWp.condT rfl ?_ | refine SWp.condF rfl ?_ | (refine SWp.condD rfl (fun ht => ?_) (fun ht => ?_) <;> try (exfalso; omega)) | ((first | refine SWp.regS ?_ | refine SWp.skip ?_ | refine SWp.exit ?_ | refine SWp.ret ?_ | ((first | apply splitG | apply splitGB | apply splitR | apply splitRB | apply splitE | apply splitEB | apply splitC | apply splitCB) <;> intro ht)); all_goals try simp (disch := first | omega | (simp only [lens, hc_len, hr_len, trs_len, nums_len, List.length_reverse]; first | done | omega)) only [go_sem, Nat.reduceEqDiff, Nat.reduceBEq, Nat.reduceAdd, Nat.reduceMul, Nat.reduceSub, Nat.reduceLeDiff, Int.reduceToNat, Int.reducePow, q2, q3, q5, hde]))
            exact ⟨A.length - (i + 1), by omega, i + 1, by omega, hn, by simp⟩
          · have e : decide (A = B) = false := decide_eq_false fun e => he (by rw [e])
            have hde := decide_eq_false he
            rw [e]
            repeat' (first | refine SWp.seq ?_ | refine SWp.block ?_ | refine SWp.scope ?_ | refine SWp.condT rfl ?_ | refine SWp.condF rfl ?_ | (refine SWp.condD rfl (fun ht => ?_) (fun ht => ?_) <;> try (exfalso; omega)) | ((first | refine SWp.regS ?_ | refine SWp.skip ?_ | refine SWp.exit ?_ | refine SWp.ret ?_ | ((first | apply splitG | apply splitGB | apply splitR | apply splitRB | apply splitE | apply splitEB | apply splitC | apply splitCB) <;> intro ht)); all_goals try simp (disch := first | omega | (simp only [lens, hc_len, hr_len, trs_len, nums_len, List.length_reverse]; first | done | omega)) only [go_sem, Nat.reduceEqDiff, Nat.reduceBEq, Nat.reduceAdd, Nat.reduceMul, Nat.reduceSub, Nat.reduceLeDiff, Int.reduceToNat, Int.reducePow, q2, q3, q5, hde]))
            exact DownV.pure hw (rlB_ok _ rfl)
        · have e : decide (A = B) = true := decide_eq_true (by
            rw [List.take_of_length_le (by omega), List.take_of_length_le (by omega)] at hp
            exact hp)
          rw [e]
          repeat' (first | refine SWp.seq ?_ | refine SWp.block ?_ | refine SWp.scope ?_ | refine SWp.condT rfl ?_ | refine SWp.condF rfl ?_ | (refine SWp.condD rfl (fun ht => ?_) (fun ht => ?_) <;> try (exfalso; omega)) | ((first | refine SWp.reg ?_ | refine SWp.skip ?_ | refine SWp.exit ?_ | refine SWp.ret ?_ | ((first | apply splitG | apply splitGB | apply splitR | apply splitRB | apply splitE | apply splitEB | apply splitC | apply splitCB) <;> intro ht)); all_goals try simp (disch := first | omega | (simp only [lens, hc_len, hr_len, trs_len, nums_len, List.length_reverse]; first | done | omega)) only [go_sem, Nat.reduceEqDiff, Nat.reduceBEq, Nat.reduceAdd, Nat.reduceMul, Nat.reduceSub, Nat.reduceLeDiff, Int.reduceToNat, Int.reducePow, q2, q3, q5, r1, r2]))
          exact DownV.pure hw (rlB_ok _ rfl)
    · have e : decide (n = k ∧ A = B) = false := decide_eq_false fun e => hL (by rw [e.2])
      have hL' : ¬ (A.length : Int) = B.length := by omega
      rw [e]
      repeat' (first | refine SWp.seq ?_ | refine SWp.block ?_ | refine SWp.scope ?_ | refine SWp.condT rfl ?_ | refine SWp.condF rfl ?_ | (refine SWp.condD rfl (fun ht => ?_) (fun ht => ?_) <;> try (exfalso; omega)) | ((first | refine SWp.reg ?_ | refine SWp.skip ?_ | refine SWp.exit ?_ | refine SWp.ret ?_ | ((first | apply splitG | apply splitGB | apply splitR | apply splitRB | apply splitE | apply splitEB | apply splitC | apply splitCB) <;> intro ht)); all_goals try simp (disch := first | omega | (simp only [lens, hc_len, hr_len, trs_len, nums_len, List.length_reverse]; first | done | omega)) only [go_sem, Nat.reduceEqDiff, Nat.reduceBEq, Nat.reduceAdd, Nat.reduceMul, Nat.reduceSub, Nat.reduceLeDiff, Int.reduceToNat, Int.reducePow, r1, r2, hL', hnk]))
      exact DownV.pure hw (rlB_ok _ rfl)
  · rw [decide_eq_false (fun e => hnk e.1)]
    repeat' (first | refine SWp.seq ?_ | refine SWp.block ?_ | refine SWp.scope ?_ | refine SWp.condT rfl ?_ | refine SWp.condF rfl ?_ | (refine SWp.condD rfl (fun ht => ?_) (fun ht => ?_) <;> try (exfalso; omega)) | ((first | refine SWp.reg ?_ | refine SWp.skip ?_ | refine SWp.exit ?_ | refine SWp.ret ?_ | ((first | apply splitG | apply splitGB | apply splitR | apply splitRB | apply splitE | apply splitEB | apply splitC | apply splitCB) <;> intro ht)); all_goals try simp (disch := first | omega | (simp only [lens, hc_len, hr_len, trs_len, nums_len, List.length_reverse]; first | done | omega)) only [go_sem, Nat.reduceEqDiff, Nat.reduceBEq, Nat.reduceAdd, Nat.reduceMul, Nat.reduceSub, Nat.reduceLeDiff, Int.reduceToNat, Int.reducePow, r1, r2, hnk]))
    exact DownV.pure hw (rlB_ok _ rfl)
theorem refSame_h (σ : Store) (n k : Int) (A B : List Hash) (x y : AV) (hx : RdSl σ 32 (hr A) x) (hy : RdSl σ 32 (hr B) y) (hl : A.length < 1000000) (hl2 : B.length < 1000000) :
    ACallsTo TC 20 [.agg [.int .i64 n, x], .agg [.int .i64 k, y]] σ (.bool (decide (n = k ∧ A = B))) σ := by
  obtain ⟨x0, h0, hd⟩ := hx.lend (rlss_hr A)
  obtain ⟨y0, h1, hd1⟩ := hy.lend (rlss_hr B)
  have hi : ∀ i : Int, RL 0 (.int .i64 i) := fun i => by simp [RL]
  have := ACallsTo.lend glok (refSame_v [] n k A B x0 y0 h0 h1 hl hl2) (drsc (drA (drsc (rl0 (hi n) σ) (drs1 hd))) (drs1 (drA (drsc (rl0 (hi k) σ) (drs1 hd1)))))
  rwa [show sh σ.length (.bool (decide (n = k ∧ A = B))) = .bool (decide (n = k ∧ A = B)) from rfl, shS_nil, List.append_nil] at this
/-- The parts. -/
def partE (n : Int) (len : Nat) : Int := if n < 0 ∨ 4096 < n ∨ 4096 < n + len then 2 else 0
def partL (n : Int) (l : List Hash) : List Hash := if partE n l.length = 0 then rootsL (partsS n.toNat l.length) l else []
set_option maxHeartbeats 8000000 in
theorem parts_to (σ : Store) (n d : Nat) (h : n + d ≤ 4096) : ACallsTo TC 93 [.int .i64 n, .int .i64 ((n + d : Nat) : Int)] σ (slVal 1 (nums (partsS n d))) σ := by
  refine ACallsTo.of_body speculumref05_parts_ok (by simp) fun hw _ => ?_
  repeat' (first | refine SWp.seq ?_ | refine SWp.block ?_ | refine SWp.scope ?_ | refine SWp.condT rfl ?_ | refine SWp.condF rfl ?_ | (refine SWp.condD rfl (fun ht => ?_) (fun ht => ?_) <;> try (exfalso; omega)) | ((first | refine SWp.reg ?_ | refine SWp.skip ?_ | refine SWp.exit ?_ | refine SWp.ret ?_ | ((first | apply splitG | apply splitGB | apply splitR | apply splitRB | apply splitE | apply splitEB | apply splitC | apply splitCB) <;> intro ht)); all_goals try simp (disch := first | omega | (simp only [lens, hc_len, hr_len, trs_len, nums_len, List.length_reverse]; first | done | omega)) only [go_sem, Nat.reduceEqDiff, Nat.reduceBEq, Nat.reduceAdd, Nat.reduceMul, Nat.reduceSub, Nat.reduceLeDiff, Int.reduceToNat, Int.reducePow]))
  refine SWp.loop (fun m ρ σ' => ∃ (a : Nat) (done : List Nat), m + a = d ∧ done ++ partsS (n + a) (d - a) = partsS n d ∧ done.length ≤ a ∧ OwnN 1 σ σ' (ρ 5) (nums done) ∧ ρ 0 = .int .i64 ((n + a : Nat) : Int) ∧ ρ 1 = .int .i64 ((n + d : Nat) : Int)) d ?_ ?_
  · refine ⟨0, [], by omega, by simp, by simp, ?_, by simp (disch := first | omega | (simp only [lens, hc_len, hr_len, trs_len, nums_len, List.length_reverse]; first | done | omega)) only [go_sem, Nat.reduceEqDiff, Nat.reduceBEq, Nat.reduceAdd, Nat.reduceMul, Nat.reduceSub, Nat.reduceLeDiff, Int.reduceToNat, Int.reducePow], by simp (disch := first | omega | (simp only [lens, hc_len, hr_len, trs_len, nums_len, List.length_reverse]; first | done | omega)) only [go_sem, Nat.reduceEqDiff, Nat.reduceBEq, Nat.reduceAdd, Nat.reduceMul, Nat.reduceSub, Nat.reduceLeDiff, Int.reduceToNat, Int.reducePow]⟩
    simp (disch := first | omega | (simp only [lens, hc_len, hr_len, trs_len, nums_len, List.length_reverse]; first | done | omega)) only [go_sem, Nat.reduceEqDiff, Nat.reduceBEq, Nat.reduceAdd, Nat.reduceMul, Nat.reduceSub, Nat.reduceLeDiff, Int.reduceToNat, Int.reducePow]
    exact ⟨[], by simp, .inl ⟨rfl, rfl⟩⟩
  · rintro m ρ σ' ⟨a, done, hm, hp, hdl, hO, q0, q1⟩
    generalize q5 : ρ 5 = v at *
    by_cases hc : a < d
    · obtain ⟨s1, s2⟩ := stepS_pos (n := n + a) (d := d - a) (by omega) (by omega)
      have hst := partsS_pos (n := n + a) (d := d - a) (by omega) (by omega)
      obtain ⟨v', σ2, he, hO2⟩ := hO.app (ys := [[.int .i64 (stepS (n + a) (d - a))]]) (by simp) (by rw [nums_len]; simp; omega)
      have hcat : nums done ++ [[.int .i64 (stepS (n + a) (d - a))]] = nums (done ++ [stepS (n + a) (d - a)]) := by rw [nums_app]; rfl
      rw [hcat] at hO2
      rw [hst] at hp
      have hsub : ((n + d : Nat) : Int) - ((n + a : Nat) : Int) = ((d - a : Nat) : Int) := by omega
      have huniq : ∀ k, StepIs (n + a) (d - a) k → k = stepS (n + a) (d - a) := fun k hk => hk.uniq (stepS_is (by omega) (by omega))
      generalize hN : n + a = N at *
      generalize hD : d - a = D at *
      generalize hto : n + d = M at *
      repeat' (first | refine SWp.seq ?_ | refine SWp.block ?_ | refine SWp.scope ?_ | refine SWp.condT rfl ?_ | refine SWp.condF rfl ?_ | (refine SWp.condD rfl (fun ht => ?_) (fun ht => ?_) <;> try (exfalso; omega)) | ((first | refine SWp.reg ?_ | refine SWp.skip ?_ | refine SWp.exit ?_ | refine SWp.ret ?_ | ((first | apply splitG | apply splitGB | apply splitR | apply splitRB | apply splitE | apply splitEB | apply splitC | apply splitCB) <;> intro ht)); all_goals try simp (disch := first | omega | (simp only [lens, hc_len, hr_len, trs_len, nums_len, List.length_reverse]; first | done | omega)) only [go_sem, Nat.reduceEqDiff, Nat.reduceBEq, Nat.reduceAdd, Nat.reduceMul, Nat.reduceSub, Nat.reduceLeDiff, Int.reduceToNat, Int.reducePow, q0, q1, q5]))
      refine SWp.loop (fun m ρ σ2 => ∃ (i t : Nat), σ2 = σ' ∧ m + i = 13 ∧ 2 ^ t ≤ D ∧ 2 ^ t ∣ N ∧ t ≤ i ∧ (∀ u, t < u → u < i → ¬ 2 ^ u ∣ N) ∧ ρ 0 = .int .i64 (N : Nat) ∧ ρ 1 = .int .i64 (M : Nat) ∧ ρ 5 = v ∧ ρ 6 = .int .i64 ((2 ^ t : Nat) : Int) ∧ ρ 7 = .int .i64 ((2 ^ i : Nat) : Int)) 13 ?_ ?_
      · exact ⟨0, 0, rfl, by omega, by omega, ⟨N, by simp⟩, by omega, fun u h1 h2 => by omega, by simp (disch := first | omega | (simp only [lens, hc_len, hr_len, trs_len, nums_len, List.length_reverse]; first | done | omega)) only [go_sem, Nat.reduceEqDiff, Nat.reduceBEq, Nat.reduceAdd, Nat.reduceMul, Nat.reduceSub, Nat.reduceLeDiff, Int.reduceToNat, Int.reducePow, q0], by simp (disch := first | omega | (simp only [lens, hc_len, hr_len, trs_len, nums_len, List.length_reverse]; first | done | omega)) only [go_sem, Nat.reduceEqDiff, Nat.reduceBEq, Nat.reduceAdd, Nat.reduceMul, Nat.reduceSub, Nat.reduceLeDiff, Int.reduceToNat, Int.reducePow, q1], by simp (disch := first | omega | (simp only [lens, hc_len, hr_len, trs_len, nums_len, List.length_reverse]; first | done | omega)) only [go_sem, Nat.reduceEqDiff, Nat.reduceBEq, Nat.reduceAdd, Nat.reduceMul, Nat.reduceSub, Nat.reduceLeDiff, Int.reduceToNat, Int.reducePow, q5], by simp (disch := first | omega | (simp only [lens, hc_len, hr_len, trs_len, nums_len, List.length_reverse]; first | done | omega)) only [go_sem, Nat.reduceEqDiff, Nat.reduceBEq, Nat.reduceAdd, Nat.reduceMul, Nat.reduceSub, Nat.reduceLeDiff, Int.reduceToNat, Int.reducePow]; rfl, by simp (disch := first | omega | (simp only [lens, hc_len, hr_len, trs_len, nums_len, List.length_reverse]; first | done | omega)) only [go_sem, Nat.reduceEqDiff, Nat.reduceBEq, Nat.reduceAdd, Nat.reduceMul, Nat.reduceSub, Nat.reduceLeDiff, Int.reduceToNat, Int.reducePow]; rfl⟩
      · rintro m2 ρ2 σ2' ⟨i, t, rfl, hmi, ht1, ht2, hti, ht3, z0, z1, z5, z6, z7⟩
        have hi13 : 2 ^ i ≤ 2 ^ 13 := Nat.pow_le_pow_right (by decide) (by omega)
        have hip : 0 < 2 ^ i := Nat.pow_pos (by decide)
        have his : 2 ^ (i + 1) = 2 ^ i * 2 := Nat.pow_succ ..
        have hmod : (N : Int) % ((2 ^ i : Nat) : Int) = ((N % 2 ^ i : Nat) : Int) := by simp
        by_cases hle : 2 ^ i ≤ D
        · have hm2 : 0 < m2 := by
            rcases Nat.eq_zero_or_pos m2 with h0 | h0
            · subst h0
              have : i = 13 := by omega
              subst this; omega
            · exact h0
          by_cases hdv : 2 ^ i ∣ N
          · have hz : ((N % 2 ^ i : Nat) : Int) = 0 := by have := Nat.mod_eq_zero_of_dvd hdv; omega
            generalize hki : 2 ^ i = k at *
            generalize N % k = rr at *
            have hk0 : ¬ (k : Int) = 0 := by omega
            repeat' (first | refine SWp.seq ?_ | refine SWp.block ?_ | refine SWp.scope ?_ | refine SWp.condT rfl ?_ | refine SWp.condF rfl ?_ | (refine SWp.condD rfl (fun ht => ?_) (fun ht => ?_) <;> try (exfalso; omega)) | ((first | refine SWp.reg ?_ | refine SWp.skip ?_ | refine SWp.exit ?_ | refine SWp.ret ?_ | ((first | apply splitG | apply splitGB | apply splitR | apply splitRB | apply splitE | apply splitEB | apply splitC | apply splitCB) <;> intro ht)); all_goals try simp (disch := first | omega | (simp only [lens, hc_len, hr_len, trs_len, nums_len, List.length_reverse]; first | done | omega)) only [go_sem, Nat.reduceEqDiff, Nat.reduceBEq, Nat.reduceAdd, Nat.reduceMul, Nat.reduceSub, Nat.reduceLeDiff, Int.reduceToNat, Int.reducePow, z0, z1, z5, z6, z7, hsub, hmod, hz, hk0]))
            exact ⟨m2 - 1, by omega, i + 1, i, by omega, by omega, by rw [hki]; exact hdv, by omega, fun u h1 h2 => by omega, by rw [hki], by rw [his]; simp⟩
          · have hz : ¬ ((N % 2 ^ i : Nat) : Int) = 0 := fun e => hdv (Nat.dvd_of_mod_eq_zero (by omega))
            generalize hki : 2 ^ i = k at *
            generalize N % k = rr at *
            have hk0 : ¬ (k : Int) = 0 := by omega
            repeat' (first | refine SWp.seq ?_ | refine SWp.block ?_ | refine SWp.scope ?_ | refine SWp.condT rfl ?_ | refine SWp.condF rfl ?_ | (refine SWp.condD rfl (fun ht => ?_) (fun ht => ?_) <;> try (exfalso; omega)) | ((first | refine SWp.reg ?_ | refine SWp.skip ?_ | refine SWp.exit ?_ | refine SWp.ret ?_ | ((first | apply splitG | apply splitGB | apply splitR | apply splitRB | apply splitE | apply splitEB | apply splitC | apply splitCB) <;> intro ht)); all_goals try simp (disch := first | omega | (simp only [lens, hc_len, hr_len, trs_len, nums_len, List.length_reverse]; first | done | omega)) only [go_sem, Nat.reduceEqDiff, Nat.reduceBEq, Nat.reduceAdd, Nat.reduceMul, Nat.reduceSub, Nat.reduceLeDiff, Int.reduceToNat, Int.reducePow, z0, z1, z5, z6, z7, hsub, hmod, hz, hk0]))
            refine ⟨m2 - 1, by omega, i + 1, t, by omega, ht1, ht2, by omega, fun u h1 h2 => ?_, rfl, by rw [his]; simp⟩
            rcases Nat.lt_or_ge u i with h3 | h3
            · exact ht3 u h1 h3
            · have : u = i := by omega
              subst this; rw [hki]; exact hdv
        · have hk := huniq (2 ^ t) ⟨t, rfl, ht1, ht2, fun hh => by
            rcases Nat.lt_or_ge (t + 1) i with h3 | h3
            · exact ht3 (t + 1) (by omega) h3 hh.2
            · have := Nat.pow_le_pow_right (n := 2) (by decide) h3
              omega⟩
          rw [hk] at z6
          generalize hki : 2 ^ i = k at *
          generalize stepS N D = ss at *
          repeat' (first | refine SWp.seq ?_ | refine SWp.block ?_ | refine SWp.scope ?_ | refine SWp.condT rfl ?_ | refine SWp.condF rfl ?_ | (refine SWp.condD rfl (fun ht => ?_) (fun ht => ?_) <;> try (exfalso; omega)) | ((first | refine SWp.reg ?_ | refine SWp.skip ?_ | refine SWp.exit ?_ | refine SWp.ret ?_ | ((first | apply splitG | apply splitGB | apply splitR | apply splitRB | apply splitE | apply splitEB | apply splitC | apply splitCB) <;> intro ht)); all_goals try simp (disch := first | omega | (simp only [lens, hc_len, hr_len, trs_len, nums_len, List.length_reverse]; first | done | omega)) only [go_sem, Nat.reduceEqDiff, Nat.reduceBEq, Nat.reduceAdd, Nat.reduceMul, Nat.reduceSub, Nat.reduceLeDiff, Int.reduceToNat, Int.reducePow, z0, z1, z5, z6, z7, hsub, he]))
          refine ⟨m - ss, by omega, a + ss, done ++ [ss], by omega, ?_, by simp; omega, hO2, by simp; omega⟩
          rw [List.append_assoc]
          simp only [List.singleton_append]
          rw [← hp, show n + (a + ss) = N + ss by omega, show d - (a + ss) = D - ss by omega]
    · have had : a = d := by omega
      subst had
      rw [Nat.sub_self, partsS_zero, List.append_nil] at hp
      rw [← hp]
      repeat' (first | refine SWp.seq ?_ | refine SWp.block ?_ | refine SWp.scope ?_ | refine SWp.condT rfl ?_ | refine SWp.condF rfl ?_ | (refine SWp.condD rfl (fun ht => ?_) (fun ht => ?_) <;> try (exfalso; omega)) | ((first | refine SWp.reg ?_ | refine SWp.skip ?_ | refine SWp.exit ?_ | refine SWp.ret ?_ | ((first | apply splitG | apply splitGB | apply splitR | apply splitRB | apply splitE | apply splitEB | apply splitC | apply splitCB) <;> intro ht)); all_goals try simp (disch := first | omega | (simp only [lens, hc_len, hr_len, trs_len, nums_len, List.length_reverse]; first | done | omega)) only [go_sem, Nat.reduceEqDiff, Nat.reduceBEq, Nat.reduceAdd, Nat.reduceMul, Nat.reduceSub, Nat.reduceLeDiff, Int.reduceToNat, Int.reducePow, q0, q1, q5]))
      exact hO.froze hw (rlss_nums _)
end Am
end Go.Proofs.YthgcooppjhcgcaaDoor
end
section
set_option linter.unusedSimpArgs false
set_option linter.unusedVariables false
/- Ranges: contracts: Part. -/
namespace Go.Proofs.YthgcooppjhcgcaaDoor
namespace Am
attribute [local irreducible] ACallsTo ACallsP
theorem partL_bad {n : Int} {l : List Hash} (h : n < 0 ∨ 4096 < n ∨ 4096 < n + l.length) : partE n l.length = 2 ∧ partL n l = [] := by
  have : partE n l.length = 2 := by unfold partE; rw [if_pos h]
  refine ⟨this, ?_⟩
  unfold partL; rw [this]; rfl
theorem partL_ok {n : Nat} {l : List Hash} (h : n + l.length ≤ 4096) : partE n l.length = 0 ∧ partL n l = rootsL (partsS n l.length) l := by
  have : partE n l.length = 0 := by unfold partE; rw [if_neg (by omega)]
  refine ⟨this, ?_⟩
  unfold partL; rw [this]; rfl
set_option maxHeartbeats 8000000 in
theorem Part_to (σ : Store) (n : Int) (l : List Hash) (y : AV) (hy : SlV 32 (hr l) y) (hn : -9223372036854775808 ≤ n ∧ n ≤ 9223372036854775807) (hl : l.length < 1000000) :
    ACallsTo TC 27 [.int .i64 n, y] σ (.tup [slVal 32 (hr (partL n l)), .int .i64 (partE n l.length)]) σ := by
  have r1 := hy.len
  rw [hr_len] at r1
  unfold rLenSl at r1
  by_cases hb : n < 0 ∨ 4096 < n ∨ 4096 < n + l.length
  · obtain ⟨e1, e2⟩ := partL_bad (n := n) (l := l) hb
    rw [e1, e2, show slVal 32 (hr []) = .nilsl from rfl]
    refine ACallsTo.of_body ranges_Part_ok (by simp) fun hw _ => ?_
    repeat' (first | refine SWp.seq ?_ | refine SWp.block ?_ | refine SWp.scope ?_ | refine SWp.condT rfl ?_ | refine SWp.condF rfl ?_ | (refine SWp.condD rfl (fun ht => ?_) (fun ht => ?_) <;> try (exfalso; omega)) | ((first | refine SWp.reg ?_ | refine SWp.skip ?_ | refine SWp.exit ?_ | refine SWp.ret ?_ | ((first | apply splitG | apply splitGB | apply splitR | apply splitRB | apply splitE | apply splitEB | apply splitC | apply splitCB) <;> intro ht)); all_goals try simp (disch := first | omega | (simp only [lens, hc_len, hr_len, trs_len, nums_len, List.length_reverse]; first | done | omega)) only [go_sem, Nat.reduceEqDiff, Nat.reduceBEq, Nat.reduceAdd, Nat.reduceMul, Nat.reduceSub, Nat.reduceLeDiff, Int.reduceToNat, Int.reducePow, r1]))
    all_goals exact DownV.same hw (rlB_ok _ rfl)
  · obtain ⟨n, rfl⟩ : ∃ k : Nat, n = k := ⟨n.toNat, by omega⟩
    obtain ⟨e1, e2⟩ := partL_ok (n := n) (l := l) (by omega)
    rw [e1, e2]
    have hadd : (n : Int) + l.length = ((n + l.length : Nat) : Int) := by omega
    refine ACallsTo.of_body ranges_Part_ok (by simp) fun hw _ => ?_
    repeat' (first | refine SWp.seq ?_ | refine SWp.block ?_ | refine SWp.scope ?_ | refine SWp.condT rfl ?_ | refine SWp.condF rfl ?_ | (refine SWp.condD rfl (fun ht => ?_) (fun ht => ?_) <;> try (exfalso; omega)) | ((first | refine SWp.reg ?_ | refine SWp.skip ?_ | refine SWp.exit ?_ | refine SWp.ret ?_ | ((first | apply splitG | apply splitGB | apply splitR | apply splitRB | apply splitE | apply splitEB | apply splitC | apply splitCB) <;> intro ht)); all_goals try simp (disch := first | omega | (simp only [lens, hc_len, hr_len, trs_len, nums_len, List.length_reverse]; first | done | omega)) only [go_sem, Nat.reduceEqDiff, Nat.reduceBEq, Nat.reduceAdd, Nat.reduceMul, Nat.reduceSub, Nat.reduceLeDiff, Int.reduceToNat, Int.reducePow, r1, hadd]))
    refine SWp.loop (fun m ρ σ' => ∃ (a : Nat) (done : List Hash) (y' : AV), m + a = l.length ∧ done ++ rootsL (partsS (n + a) (l.length - a)) (l.drop a) = rootsL (partsS n l.length) l ∧ done.length ≤ a ∧ OwnN 32 σ σ' (ρ 6) (hr done) ∧ SlV 32 (hr (l.drop a)) y' ∧
      ρ 0 = .int .i64 ((n + a : Nat) : Int) ∧ ρ 1 = y' ∧ ρ 7 = .int .i64 ((n + l.length : Nat) : Int)) l.length ?_ ?_
    · refine ⟨0, [], y, by omega, by simp, by simp, ?_, by simpa using hy, by simp (disch := first | omega | (simp only [lens, hc_len, hr_len, trs_len, nums_len, List.length_reverse]; first | done | omega)) only [go_sem, Nat.reduceEqDiff, Nat.reduceBEq, Nat.reduceAdd, Nat.reduceMul, Nat.reduceSub, Nat.reduceLeDiff, Int.reduceToNat, Int.reducePow], by simp (disch := first | omega | (simp only [lens, hc_len, hr_len, trs_len, nums_len, List.length_reverse]; first | done | omega)) only [go_sem, Nat.reduceEqDiff, Nat.reduceBEq, Nat.reduceAdd, Nat.reduceMul, Nat.reduceSub, Nat.reduceLeDiff, Int.reduceToNat, Int.reducePow], by simp (disch := first | omega | (simp only [lens, hc_len, hr_len, trs_len, nums_len, List.length_reverse]; first | done | omega)) only [go_sem, Nat.reduceEqDiff, Nat.reduceBEq, Nat.reduceAdd, Nat.reduceMul, Nat.reduceSub, Nat.reduceLeDiff, Int.reduceToNat, Int.reducePow]⟩
      simp (disch := first | omega | (simp only [lens, hc_len, hr_len, trs_len, nums_len, List.length_reverse]; first | done | omega)) only [go_sem, Nat.reduceEqDiff, Nat.reduceBEq, Nat.reduceAdd, Nat.reduceMul, Nat.reduceSub, Nat.reduceLeDiff, Int.reduceToNat, Int.reducePow]
      exact ⟨[], by simp, .inl ⟨rfl, rfl⟩⟩
    · rintro m ρ σ' ⟨a, done, y', hm, hp, hdl, hO, hy', q0, q1, q7⟩
      generalize q6 : ρ 6 = v at *
      by_cases hlt : a < l.length
      · obtain ⟨s1, s2⟩ := stepS_pos (n := n + a) (d := l.length - a) (by omega) (by omega)
        have hst := partsS_pos (n := n + a) (d := l.length - a) (by omega) (by omega)
        rw [hst] at hp
        have hS := fun σ => step_to σ (n + a) (l.length - a) (by omega) (by omega)
        rw [show n + a + (l.length - a) = n + l.length by omega] at hS
        obtain ⟨ex, rfl⟩ := hy'.vsl (by rw [hr_len, List.length_drop]; omega)
        have hdl2 : (l.drop a).length = l.length - a := List.length_drop
        generalize hkk : stepS (n + a) (l.length - a) = k at *
        have hR := fun σ b => trees_Root_h σ ((l.drop a).take k) (.vsl 32 (hr ((l.drop a).take k)) b) (.of (.inr ⟨b, rfl⟩)) (by rw [List.length_take]; omega)
        obtain ⟨v', σ2, he, hO2⟩ := hO.app (ys := [hc (rootH ((l.drop a).take k))]) (by simp) (by rw [hr_len]; simp; omega)
        have hcat : hr done ++ [hc (rootH ((l.drop a).take k))] = hr (done ++ [rootH ((l.drop a).take k)]) := by rw [hr_app]; rfl
        rw [hcat] at hO2
        have hdd : (l.drop a).drop k = l.drop (a + k) := by rw [List.drop_drop]
        have hak : ((n + a : Nat) : Int) + k = ((n + (a + k) : Nat) : Int) := by omega
        repeat' (first | refine SWp.seq ?_ | refine SWp.block ?_ | refine SWp.scope ?_ | refine SWp.condT rfl ?_ | refine SWp.condF rfl ?_ | (refine SWp.condD rfl (fun ht => ?_) (fun ht => ?_) <;> try (exfalso; omega)) | ((first | refine SWp.reg ?_ | refine SWp.skip ?_ | refine SWp.exit ?_ | refine SWp.ret ?_ | (apply callW.mk_pu; (first | exact (fun _ => hS _) | exact (fun _ => hR _ _))) | (apply callW.any; (first | exact (hS _) | exact (hR _ _))) | ((first | apply splitG | apply splitGB | apply splitR | apply splitRB | apply splitE | apply splitEB | apply splitC | apply splitCB) <;> intro ht)); all_goals try simp (disch := first | omega | (simp only [lens, hc_len, hr_len, trs_len, nums_len, List.length_reverse]; first | done | omega)) only [go_sem, Nat.reduceEqDiff, Nat.reduceBEq, Nat.reduceAdd, Nat.reduceMul, Nat.reduceSub, Nat.reduceLeDiff, Int.reduceToNat, Int.reducePow, q0, q1, q6, q7, hdl2, he, hak, hdd]))
        refine ⟨l.length - (a + k), by omega, a + k, done ++ [rootH ((l.drop a).take k)], _, by omega, ?_, by simp; omega, hO2, .inr ⟨_, rfl⟩, rfl, rfl⟩
        rw [← hp, List.append_assoc, show n + (a + k) = n + a + k by omega, show l.length - (a + k) = l.length - a - k by omega, ← hdd]
        rfl
      · have had : a = l.length := by omega
        subst had
        rw [Nat.sub_self, partsS_zero] at hp
        simp only [rootsL, List.append_nil] at hp
        rw [← hp]
        repeat' (first | refine SWp.seq ?_ | refine SWp.block ?_ | refine SWp.scope ?_ | refine SWp.condT rfl ?_ | refine SWp.condF rfl ?_ | (refine SWp.condD rfl (fun ht => ?_) (fun ht => ?_) <;> try (exfalso; omega)) | ((first | refine SWp.reg ?_ | refine SWp.skip ?_ | refine SWp.exit ?_ | refine SWp.ret ?_ | ((first | apply splitG | apply splitGB | apply splitR | apply splitRB | apply splitE | apply splitEB | apply splitC | apply splitCB) <;> intro ht)); all_goals try simp (disch := first | omega | (simp only [lens, hc_len, hr_len, trs_len, nums_len, List.length_reverse]; first | done | omega)) only [go_sem, Nat.reduceEqDiff, Nat.reduceBEq, Nat.reduceAdd, Nat.reduceMul, Nat.reduceSub, Nat.reduceLeDiff, Int.reduceToNat, Int.reducePow, q0, q1, q6, q7]))
        exact (hO.froze hw (rlss_hr _)).tup2
end Am
end Go.Proofs.YthgcooppjhcgcaaDoor
end
section
set_option linter.unusedSimpArgs false
set_option linter.unusedVariables false
/- Ranges: contracts: the reference's Of, the program's Merge. -/
namespace Go.Proofs.YthgcooppjhcgcaaDoor
namespace Am
attribute [local irreducible] ACallsTo ACallsP
/-- What Merge answers. -/
def mrgA (n size : Int) (hs p : List Hash) (x : AV) : AV :=
  if validR n hs.length = false ∨ size < n ∨ 4096 < size then rg 0 .nilsl 2
  else if (partsS n.toNat (size - n).toNat).length ≠ p.length then rg 0 .nilsl 2
  else rg size (zv x (decide (size = n)) (mergeL n.toNat hs.reverse (partsS n.toNat (size - n).toNat) p).reverse) 0
theorem rl_z {k : Nat} {l : List Hash} {z : AV} (h : SlV 32 (hr l) z) : RL k z := by
  rcases h with ⟨rfl, _⟩ | ⟨ex, rfl⟩
  · simp [RL]
  · simp only [RL]; exact rlss_hr _
theorem slv_cells {sz : Nat} {es : List (List AV)} {z : AV} (h : SlV sz es z) : cellsOf z = some [z] := by
  rcases h with ⟨rfl, _⟩ | ⟨ex, rfl⟩ <;> rfl
set_option maxHeartbeats 8000000 in
theorem Merge_v (σ : Store) (n size : Int) (hs p : List Hash) (x y : AV) (hx : RdSl σ 32 (hr hs) x) (hy : SlV 32 (hr p) y) (hn : -9223372036854775808 ≤ n ∧ n ≤ 9223372036854775807) (hsz : -9223372036854775808 ≤ size ∧ size ≤ 9223372036854775807) (hhl : hs.length < 1000000) (hpl : p.length < 1000000) :
    ACallsTo TC 23 [.agg [.int .i64 n, x], .int .i64 size, y] σ (mrgA n size hs p x) σ := by
  have r1 := hy.len
  rw [hr_len] at r1
  unfold rLenSl at r1
  have hV := fun y => ranges_Valid_h (σ ++ y) n hs x hx.app
  unfold mrgA
  by_cases hb : validR n hs.length = false ∨ size < n ∨ 4096 < size
  · rw [if_pos hb]
    refine ACallsTo.of_body ranges_Merge_ok (by simp) fun hw _ => ?_
    by_cases hv : validR n hs.length = true
    · rw [hv] at hV
      rcases hb with hb | hb | hb
      · rw [hv] at hb; cases hb
      · repeat' (first | refine SWp.seq ?_ | refine SWp.block ?_ | refine SWp.scope ?_ | refine SWp.condT rfl ?_ | refine SWp.condF rfl ?_ | (refine SWp.condD rfl (fun ht => ?_) (fun ht => ?_) <;> try (exfalso; omega)) | ((first | refine SWp.reg ?_ | refine SWp.skip ?_ | refine SWp.exit ?_ | refine SWp.ret ?_ | (apply callW.mk_pu; (first | exact (fun _ => hV _))) | (apply callW.any; (first | exact (hV _))) | ((first | apply splitG | apply splitGB | apply splitR | apply splitRB | apply splitE | apply splitEB | apply splitC | apply splitCB) <;> intro ht)); all_goals try simp (disch := first | omega | (simp only [lens, hc_len, hr_len, trs_len, nums_len, List.length_reverse]; first | done | omega)) only [go_sem, Nat.reduceEqDiff, Nat.reduceBEq, Nat.reduceAdd, Nat.reduceMul, Nat.reduceSub, Nat.reduceLeDiff, Int.reduceToNat, Int.reducePow, r1]))
        all_goals exact DownV.pure hw (rl_rg (by simp [RL]))
      · repeat' (first | refine SWp.seq ?_ | refine SWp.block ?_ | refine SWp.scope ?_ | refine SWp.condT rfl ?_ | refine SWp.condF rfl ?_ | (refine SWp.condD rfl (fun ht => ?_) (fun ht => ?_) <;> try (exfalso; omega)) | ((first | refine SWp.reg ?_ | refine SWp.skip ?_ | refine SWp.exit ?_ | refine SWp.ret ?_ | (apply callW.mk_pu; (first | exact (fun _ => hV _))) | (apply callW.any; (first | exact (hV _))) | ((first | apply splitG | apply splitGB | apply splitR | apply splitRB | apply splitE | apply splitEB | apply splitC | apply splitCB) <;> intro ht)); all_goals try simp (disch := first | omega | (simp only [lens, hc_len, hr_len, trs_len, nums_len, List.length_reverse]; first | done | omega)) only [go_sem, Nat.reduceEqDiff, Nat.reduceBEq, Nat.reduceAdd, Nat.reduceMul, Nat.reduceSub, Nat.reduceLeDiff, Int.reduceToNat, Int.reducePow, r1]))
        all_goals exact DownV.pure hw (rl_rg (by simp [RL]))
    · have hv0 : validR n hs.length = false := by simpa using hv
      rw [hv0] at hV
      repeat' (first | refine SWp.seq ?_ | refine SWp.block ?_ | refine SWp.scope ?_ | refine SWp.condT rfl ?_ | refine SWp.condF rfl ?_ | (refine SWp.condD rfl (fun ht => ?_) (fun ht => ?_) <;> try (exfalso; omega)) | ((first | refine SWp.reg ?_ | refine SWp.skip ?_ | refine SWp.exit ?_ | refine SWp.ret ?_ | (apply callW.mk_pu; (first | exact (fun _ => hV _))) | (apply callW.any; (first | exact (hV _))) | ((first | apply splitG | apply splitGB | apply splitR | apply splitRB | apply splitE | apply splitEB | apply splitC | apply splitCB) <;> intro ht)); all_goals try simp (disch := first | omega | (simp only [lens, hc_len, hr_len, trs_len, nums_len, List.length_reverse]; first | done | omega)) only [go_sem, Nat.reduceEqDiff, Nat.reduceBEq, Nat.reduceAdd, Nat.reduceMul, Nat.reduceSub, Nat.reduceLeDiff, Int.reduceToNat, Int.reducePow, r1]))
      all_goals exact DownV.pure hw (rl_rg (by simp [RL]))
  · rw [if_neg hb]
    have hv : validR n hs.length = true := by
      cases h : validR n hs.length
      · exact absurd (.inl h) hb
      · rfl
    rw [hv] at hV
    have hv' := of_decide_eq_true hv
    obtain ⟨n, rfl⟩ : ∃ k : Nat, n = k := ⟨n.toNat, by omega⟩
    obtain ⟨d, rfl⟩ : ∃ d : Nat, size = ((n + d : Nat) : Int) := ⟨(size - n).toNat, by omega⟩
    have hnd : n + d ≤ 4096 := by omega
    have hhs : hs.length = pc 13 n := by rw [hv'.2.2, Int.toNat_natCast, pc13 (by omega)]
    rw [Int.toNat_natCast, show (((n + d : Nat) : Int) - (n : Int)).toNat = d by omega]
    have hdz : decide (((n + d : Nat) : Int) = (n : Int)) = decide (d = 0) := by
      rw [Bool.eq_iff_iff]; simp only [decide_eq_true_eq]; omega
    rw [hdz]
    have hCl := fun y => Clone_v (σ ++ y) hs x hx.app (by omega)
    have hz0 := knil_slv hx
    have zc := slv_cells hz0
    refine ACallsTo.of_body ranges_Merge_ok (by simp) fun hw _ => ?_
    have e0 : knil (hr hs) x = zv x true hs := rfl
    rw [e0] at hCl hz0 zc
    generalize hzz : zv x true hs = z0 at *
    unfold cellsOf at zc
    repeat' (first | refine SWp.seq ?_ | refine SWp.block ?_ | refine SWp.scope ?_ | refine SWp.condT rfl ?_ | refine SWp.condF rfl ?_ | (refine SWp.condD rfl (fun ht => ?_) (fun ht => ?_) <;> try (exfalso; omega)) | ((first | refine SWp.reg ?_ | refine SWp.skip ?_ | refine SWp.exit ?_ | refine SWp.ret ?_ | (apply callW.mk_pu; (first | exact (fun _ => hV _) | exact (fun _ => hCl _))) | (apply callW.any; (first | exact (hV _) | exact (hCl _))) | ((first | apply splitG | apply splitGB | apply splitR | apply splitRB | apply splitE | apply splitEB | apply splitC | apply splitCB) <;> intro ht)); all_goals try simp (disch := first | omega | (simp only [lens, hc_len, hr_len, trs_len, nums_len, List.length_reverse]; first | done | omega)) only [go_sem, Nat.reduceEqDiff, Nat.reduceBEq, Nat.reduceAdd, Nat.reduceMul, Nat.reduceSub, Nat.reduceLeDiff, Int.reduceToNat, Int.reducePow, r1, zc]))
    refine SWp.loop (fun m ρ σ' => ∃ (a i : Nat) (rs : List Hash) (y' z : AV) (pre : List Nat), m + a = d ∧ pre ++ partsS (n + a) (d - a) = partsS n d ∧ pre.length = i ∧ i ≤ p.length ∧ mergeL (n + a) rs (partsS (n + a) (d - a)) (p.drop i) = mergeL n hs.reverse (partsS n d) p ∧
      rs.length = pc 13 (n + a) ∧ z = zv x (decide (a = 0)) rs.reverse ∧ SlV 32 (hr rs.reverse) z ∧ SlV 32 (hr (p.drop i)) y' ∧
      σ'[σ.length]? = some (some [[.int .i64 ((n + a : Nat) : Int), z]]) ∧ σ'[σ.length + 1]? = some (some [[.int .i64 0, .nilsl]]) ∧ Ext σ σ' ∧
      ρ 1 = .int .i64 ((n + d : Nat) : Int) ∧ ρ 2 = y' ∧ ρ 3 = .ptr σ.length 0 0 ∧ ρ 6 = .ptr (σ.length + 1) 0 0) d ?_ ?_
    · exact ⟨0, 0, hs.reverse, y, z0, [], by omega, by simp, rfl, by omega, by simp, by rw [List.length_reverse]; exact hhs, by rw [List.reverse_reverse, ← hzz]; rfl, by rw [List.reverse_reverse]; exact hz0, by simpa using hy, by simp, by simp, by first | exact (Ext.refl σ).app | exact ((Ext.refl σ).app.set (by simp)), by simp (disch := first | omega | (simp only [lens, hc_len, hr_len, trs_len, nums_len, List.length_reverse]; first | done | omega)) only [go_sem, Nat.reduceEqDiff, Nat.reduceBEq, Nat.reduceAdd, Nat.reduceMul, Nat.reduceSub, Nat.reduceLeDiff, Int.reduceToNat, Int.reducePow], by simp (disch := first | omega | (simp only [lens, hc_len, hr_len, trs_len, nums_len, List.length_reverse]; first | done | omega)) only [go_sem, Nat.reduceEqDiff, Nat.reduceBEq, Nat.reduceAdd, Nat.reduceMul, Nat.reduceSub, Nat.reduceLeDiff, Int.reduceToNat, Int.reducePow], by simp (disch := first | omega | (simp only [lens, hc_len, hr_len, trs_len, nums_len, List.length_reverse]; first | done | omega)) only [go_sem, Nat.reduceEqDiff, Nat.reduceBEq, Nat.reduceAdd, Nat.reduceMul, Nat.reduceSub, Nat.reduceLeDiff, Int.reduceToNat, Int.reducePow], by simp (disch := first | omega | (simp only [lens, hc_len, hr_len, trs_len, nums_len, List.length_reverse]; first | done | omega)) only [go_sem, Nat.reduceEqDiff, Nat.reduceBEq, Nat.reduceAdd, Nat.reduceMul, Nat.reduceSub, Nat.reduceLeDiff, Int.reduceToNat, Int.reducePow]⟩
    · rintro m ρ σ' ⟨a, i, rs, y', z, pre, hm, hparts, hpi, hip, hmrg, hrl, hz, hzs, hys, c0, c1, he, q1, q2, q3, q6⟩
      have d0 := slen c0
      have d1 := slen c1
      have r2 := hys.len
      rw [hr_len, List.length_drop] at r2
      unfold rLenSl at r2
      have zc2 := slv_cells hzs
      unfold cellsOf at zc2
      by_cases hlt : a < d
      · obtain ⟨s1, s2⟩ := stepS_pos (n := n + a) (d := d - a) (by omega) (by omega)
        have hst := partsS_pos (n := n + a) (d := d - a) (by omega) (by omega)
        by_cases hp0 : p.length - i = 0
        · have hlen : (partsS n d).length ≠ p.length := by
            rw [← hparts, hst, List.length_append, List.length_cons]; omega
          rw [if_pos hlen]
          have hp0' : ((p.length - i : Nat) : Int) = 0 := by omega
          repeat' (first | refine SWp.seq ?_ | refine SWp.block ?_ | refine SWp.scope ?_ | refine SWp.condT rfl ?_ | refine SWp.condF rfl ?_ | (refine SWp.condD rfl (fun ht => ?_) (fun ht => ?_) <;> try (exfalso; omega)) | ((first | refine SWp.reg ?_ | refine SWp.skip ?_ | refine SWp.exit ?_ | refine SWp.ret ?_ | ((first | apply splitG | apply splitGB | apply splitR | apply splitRB | apply splitE | apply splitEB | apply splitC | apply splitCB) <;> intro ht)); all_goals try simp (disch := first | omega | (simp only [lens, hc_len, hr_len, trs_len, nums_len, List.length_reverse]; first | done | omega)) only [go_sem, Nat.reduceEqDiff, Nat.reduceBEq, Nat.reduceAdd, Nat.reduceMul, Nat.reduceSub, Nat.reduceLeDiff, Int.reduceToNat, Int.reducePow, q1, q2, q3, q6, c0, c1, r2, hp0']))
          exact Ext.pure hw (he.set (by omega)) (rl_rg (by simp [RL]))
        · obtain ⟨t, ek, _, hdv, _⟩ := stepS_is (n := n + a) (d := d - a) (by omega) (by omega)
          obtain ⟨ex, rfl⟩ := hys.vsl (by rw [hr_len, List.length_drop]; omega)
          have hS := fun σ => step_to σ (n + a) (d - a) (by omega) (by omega)
          rw [show n + a + (d - a) = n + d by omega] at hS
          have hP := fun σ => push_to σ (n + a) t z rs.reverse (hd (p.drop i) 0) (.of hzs) hdv (by omega) (by rw [List.length_reverse]; exact hrl)
          rw [← ek, List.reverse_reverse] at hP
          have hmrg' := hmrg
          rw [hst] at hmrg'
          simp only [mergeL, List.drop_drop] at hmrg'
          have hrl' : (pushR ((n + a) / stepS (n + a) (d - a)) rs (hd (p.drop i) 0)).length = pc 13 (n + (a + stepS (n + a) (d - a))) := by
            have h1 := partsS_pos (n := n + a) (d := stepS (n + a) (d - a)) (by omega) s1
            have := merge_len (stepS (n + a) (d - a)) (n + a) (stepS (n + a) (d - a)) rs (p.drop i) (Nat.le_refl _) (by omega) hrl
            have e1 : stepS (n + a) (stepS (n + a) (d - a)) = stepS (n + a) (d - a) := StepIs.uniq (stepS_is (by omega) s1) ⟨t, ek, by omega, hdv, fun hh => by have := Nat.pow_succ (n := 2) (m := t); omega⟩
            rw [h1, e1, Nat.sub_self, partsS_zero] at this
            simp only [mergeL] at this
            rw [this]; congr 1; omega
          have hdl : (p.drop i).length = p.length - i := List.length_drop
          have hdd : (p.drop i).drop 1 = p.drop (i + 1) := by rw [List.drop_drop]
          have hpn : ¬ ((p.length - i : Nat) : Int) = 0 := by omega
          have hsum : n + a + stepS (n + a) (d - a) = n + (a + stepS (n + a) (d - a)) := by omega
          rw [hsum] at hP
          generalize hkk : stepS (n + a) (d - a) = k at *
          generalize hrs2 : pushR ((n + a) / k) rs (hd (p.drop i) 0) = rs2 at *
          repeat' (first | refine SWp.seq ?_ | refine SWp.block ?_ | refine SWp.scope ?_ | refine SWp.condT rfl ?_ | refine SWp.condF rfl ?_ | (refine SWp.condD rfl (fun ht => ?_) (fun ht => ?_) <;> try (exfalso; omega)) | ((first | refine SWp.reg ?_ | refine SWp.skip ?_ | refine SWp.exit ?_ | refine SWp.ret ?_ | (apply callW.mk_pu; (first | exact (fun _ => hS _) | exact (fun _ => hP _))) | (apply callW.any; (first | exact (hS _) | exact (hP _))) | ((first | apply splitG | apply splitGB | apply splitR | apply splitRB | apply splitE | apply splitEB | apply splitC | apply splitCB) <;> intro ht)); all_goals try simp (disch := first | omega | (simp only [lens, hc_len, hr_len, trs_len, nums_len, List.length_reverse]; first | done | omega)) only [go_sem, Nat.reduceEqDiff, Nat.reduceBEq, Nat.reduceAdd, Nat.reduceMul, Nat.reduceSub, Nat.reduceLeDiff, Int.reduceToNat, Int.reducePow, q1, q2, q3, q6, c0, c1, r2, hdl, hdd, hpn]))
          refine ⟨m - k, by omega, a + k, i + 1, rs2, _, .vsl 32 (hr rs2.reverse) false, pre ++ [k], by omega, ?_, by simp [hpi], by omega, ?_, hrl', by rw [decide_eq_false (by omega)]; rfl, .inr ⟨_, rfl⟩, .inr ⟨_, rfl⟩, rfl, he.set (by omega), rfl⟩
          · rw [List.append_assoc, List.singleton_append, ← hparts, hst, ← hsum, show d - (a + k) = d - a - k by omega]
          · rw [← hsum, show d - (a + k) = d - a - k by omega]; exact hmrg'
      · have had : a = d := by omega
        subst had
        rw [Nat.sub_self, partsS_zero] at hparts hmrg
        rw [List.append_nil] at hparts
        simp only [mergeL] at hmrg
        rw [← hmrg, ← hparts, hpi]
        by_cases hp0 : p.length - i = 0
        · have hp0' : ¬ ((p.length - i : Nat) : Int) > 0 := by omega
          rw [if_neg (by omega), ← hz]
          repeat' (first | refine SWp.seq ?_ | refine SWp.block ?_ | refine SWp.scope ?_ | refine SWp.condT rfl ?_ | refine SWp.condF rfl ?_ | (refine SWp.condD rfl (fun ht => ?_) (fun ht => ?_) <;> try (exfalso; omega)) | ((first | refine SWp.reg ?_ | refine SWp.skip ?_ | refine SWp.exit ?_ | refine SWp.ret ?_ | ((first | apply splitG | apply splitGB | apply splitR | apply splitRB | apply splitE | apply splitEB | apply splitC | apply splitCB) <;> intro ht)); all_goals try simp (disch := first | omega | (simp only [lens, hc_len, hr_len, trs_len, nums_len, List.length_reverse]; first | done | omega)) only [go_sem, Nat.reduceEqDiff, Nat.reduceBEq, Nat.reduceAdd, Nat.reduceMul, Nat.reduceSub, Nat.reduceLeDiff, Int.reduceToNat, Int.reducePow, q1, q2, q3, q6, c0, c1, r2, hp0', zc2]))
          exact Ext.pure hw (he.set (by omega)) (rl_rg (rl_z hzs))
        · have hp0' : ((p.length - i : Nat) : Int) > 0 := by omega
          rw [if_pos (by omega)]
          repeat' (first | refine SWp.seq ?_ | refine SWp.block ?_ | refine SWp.scope ?_ | refine SWp.condT rfl ?_ | refine SWp.condF rfl ?_ | (refine SWp.condD rfl (fun ht => ?_) (fun ht => ?_) <;> try (exfalso; omega)) | ((first | refine SWp.reg ?_ | refine SWp.skip ?_ | refine SWp.exit ?_ | refine SWp.ret ?_ | ((first | apply splitG | apply splitGB | apply splitR | apply splitRB | apply splitE | apply splitEB | apply splitC | apply splitCB) <;> intro ht)); all_goals try simp (disch := first | omega | (simp only [lens, hc_len, hr_len, trs_len, nums_len, List.length_reverse]; first | done | omega)) only [go_sem, Nat.reduceEqDiff, Nat.reduceBEq, Nat.reduceAdd, Nat.reduceMul, Nat.reduceSub, Nat.reduceLeDiff, Int.reduceToNat, Int.reducePow, q1, q2, q3, q6, c0, c1, r2, hp0']))
          exact Ext.pure hw (he.set (by omega)) (rl_rg (by simp [RL]))
end Am
end Go.Proofs.YthgcooppjhcgcaaDoor
end
section
set_option linter.unusedSimpArgs false
set_option linter.unusedVariables false
/- Ranges: the chapter's example. -/
namespace Go.Proofs.YthgcooppjhcgcaaDoor
namespace Am
set_option maxRecDepth 100000 in
theorem first_nz : nodeS (nodeS (someH 9 0) (someH 9 1)) (nodeS (someH 9 2) (someH 9 3)) ≠ List.replicate 32 0 := by decide +kernel
theorem first_nh : nodeH (nodeH (someHH 9 0) (someHH 9 1)) (nodeH (someHH 9 2) (someHH 9 3)) ≠ zeroH := fun h => by
  have := congrArg Subtype.val h
  simp only [nodeH, someHH, zeroH] at this
  exact first_nz this
theorem someL6 : someL 9 6 = [someHH 9 0, someHH 9 1, someHH 9 2, someHH 9 3, someHH 9 4, someHH 9 5] := by simp [someL, List.range_succ]
theorem root_2 (a b : Hash) : rootH [a, b] = nodeH a b := by
  rw [rootH_two (by simp)]; simp [split2, rootH_one]
theorem root_4 (a b c d : Hash) : rootH [a, b, c, d] = nodeH (nodeH a b) (nodeH c d) := by
  rw [rootH_two (by simp)]; simp [split4, root_2]
theorem parts_1_4 : partsS 1 4 = [1, 2, 1] := by decide
theorem eA5 (a b c d e : Hash) : extA 0 [] [a, b, c, d, e] .nilsl = .tup [.agg [.int .i64 5, .vsl 32 (hr [nodeH (nodeH a b) (nodeH c d), e]) false], .int .i64 0] := rfl
theorem eA1 (a : Hash) : extA 0 [] [a] .nilsl = .tup [.agg [.int .i64 1, .vsl 32 (hr [a]) false], .int .i64 0] := rfl
theorem eA6 (a e f : Hash) (x : AV) : extA 5 [a, e] [f] x = .tup [.agg [.int .i64 6, .vsl 32 (hr [a, nodeH e f]) false], .int .i64 0] := rfl
theorem ePt (a b c d : Hash) : partL 1 [a, b, c, d] = [a, nodeH b c, d] ∧ partE 1 4 = 0 := by
  have h1 : partE 1 4 = 0 := by decide
  refine ⟨?_, h1⟩
  unfold partL
  rw [show ([a, b, c, d] : List Hash).length = 4 from rfl, if_pos h1, show (1 : Int).toNat = 1 from rfl, parts_1_4]
  simp [rootsL, root_2, rootH_one]
theorem eM (a b c d e : Hash) (x : AV) : mrgA 1 5 [a] [b, nodeH c d, e] x = .tup [.agg [.int .i64 5, .vsl 32 (hr [nodeH (nodeH a b) (nodeH c d), e]) false], .int .i64 0] := by
  unfold mrgA
  rw [if_neg (by show ¬ (validR 1 1 = false ∨ (5 : Int) < 1 ∨ (4096 : Int) < 5); decide), show (1 : Int).toNat = 1 from rfl, show ((5 : Int) - 1).toNat = 4 from rfl, parts_1_4, if_neg (by simp)]
  rfl
attribute [local irreducible] ACallsTo ACallsP
set_option maxHeartbeats 16000000 in
theorem ranged_to (σ : Store) : ACallsTo TC 15 [] σ (.bool true) σ := by
  obtain ⟨a, b, c, d, e, f, hL, hne⟩ : ∃ a b c d e f : Hash, someL 9 6 = [a, b, c, d, e, f] ∧ nodeH (nodeH a b) (nodeH c d) ≠ zeroH :=
    ⟨_, _, _, _, _, _, someL6, first_nh⟩
  have hS : ∀ σ, ACallsTo TC 79 [.int .i64 6, .int .u8 9] σ (.vsl 32 (hr [a, b, c, d, e, f]) false) σ := fun σ => by
    have := Some_h σ 6 9 (by decide)
    rw [show (6 : Int).toNat = 6 from rfl, hL] at this
    exact this
  have hO5 := fun σ t => Of_to σ [a, b, c, d, e] (.vsl 32 (hr [a, b, c, d, e]) t) (.inr ⟨t, rfl⟩) (by simp)
  have hO1 := fun σ t => Of_to σ [a] (.vsl 32 (hr [a]) t) (.inr ⟨t, rfl⟩) (by simp)
  have hPt := fun σ t => Part_to σ 1 [b, c, d, e] (.vsl 32 (hr [b, c, d, e]) t) (.inr ⟨t, rfl⟩) (by decide) (by simp)
  obtain ⟨p1, p2⟩ := ePt b c d e
  simp only [eA5, eA1, p1, List.length_cons, List.length_nil, Nat.zero_add, Nat.reduceAdd, p2] at hO5 hO1 hPt
  have hR4 := fun σ t => trees_Root_h σ [a, b, c, d] (.vsl 32 (hr [a, b, c, d]) t) (.of (.inr ⟨t, rfl⟩)) (by simp)
  simp only [root_4] at hR4
  generalize hF : nodeH (nodeH a b) (nodeH c d) = F at *
  have hAp := fun σ => Append_to σ 5 [F, e] (.vsl 32 (hr [F, e]) false) f (.of (.inr ⟨false, rfl⟩)) (by decide) (by simp)
  have hM := fun σ => Merge_v σ 1 5 [a] [b, nodeH c d, e] (.vsl 32 (hr [a]) false) (.vsl 32 (hr [b, nodeH c d, e]) false) (.of (.inr ⟨false, rfl⟩)) (.inr ⟨false, rfl⟩) (by decide) (by decide) (by simp) (by simp)
  simp only [eA6, eM, hF] at hAp hM
  have hPs : slVal 32 (hr [b, nodeH c d, e]) = .vsl 32 (hr [b, nodeH c d, e]) false := rfl
  simp only [hPs] at hPt
  have hs1 := fun σ t => Same_h σ [F, e] [F, e] (.vsl 32 (hr [F, e]) false) (.vsl 32 [hc F, hc e] t) (.of (.inr ⟨false, rfl⟩)) (.of (.inr ⟨t, rfl⟩)) (by simp) (by simp)
  have hs2 := fun σ t => Same_h σ [F, nodeH e f] [F, nodeH e f] (.vsl 32 (hr [F, nodeH e f]) false) (.vsl 32 [hc F, hc (nodeH e f)] t) (.of (.inr ⟨false, rfl⟩)) (.of (.inr ⟨t, rfl⟩)) (by simp) (by simp)
  have hs3 := fun σ t => Same_h σ [b, nodeH c d, e] [b, nodeH c d, e] (.vsl 32 (hr [b, nodeH c d, e]) false) (.vsl 32 [hc b, hc (nodeH c d), hc e] t) (.of (.inr ⟨false, rfl⟩)) (.of (.inr ⟨t, rfl⟩)) (by simp) (by simp)
  have hs4 := fun σ => rangesSame_to σ 5 5 [F, e] [F, e] (.vsl 32 (hr [F, e]) false) (.vsl 32 (hr [F, e]) false) (.of (.inr ⟨false, rfl⟩)) (.of (.inr ⟨false, rfl⟩)) (by simp) (by simp)
  simp only [and_self, decide_true] at hs1 hs2 hs3 hs4
  have hn1 := fun σ => trees_Node_h σ e f
  have hn2 := fun σ => trees_Node_h σ c d
  have hz : eqCells (hc F) [.int .u8 0, .int .u8 0, .int .u8 0, .int .u8 0, .int .u8 0, .int .u8 0, .int .u8 0, .int .u8 0, .int .u8 0, .int .u8 0, .int .u8 0, .int .u8 0, .int .u8 0, .int .u8 0, .int .u8 0, .int .u8 0, .int .u8 0, .int .u8 0, .int .u8 0, .int .u8 0, .int .u8 0, .int .u8 0, .int .u8 0, .int .u8 0, .int .u8 0, .int .u8 0, .int .u8 0, .int .u8 0, .int .u8 0, .int .u8 0, .int .u8 0, .int .u8 0] = false := by
    show eqCells (hc F) (hc zeroH) = false
    rw [hc_eq]; exact decide_eq_false hne
  have hzk : ([.int .u8 0, .int .u8 0, .int .u8 0, .int .u8 0, .int .u8 0, .int .u8 0, .int .u8 0, .int .u8 0, .int .u8 0, .int .u8 0, .int .u8 0, .int .u8 0, .int .u8 0, .int .u8 0, .int .u8 0, .int .u8 0, .int .u8 0, .int .u8 0, .int .u8 0, .int .u8 0, .int .u8 0, .int .u8 0, .int .u8 0, .int .u8 0, .int .u8 0, .int .u8 0, .int .u8 0, .int .u8 0, .int .u8 0, .int .u8 0, .int .u8 0, .int .u8 0] : List AV).map kindOf = (List.replicate 32 (LK.i .u8)).map some := rfl
  have g1 : hd [a, b, c, d, e, f] 1 = b := rfl
  have g2 : hd [a, b, c, d, e, f] 2 = c := rfl
  have g3 : hd [a, b, c, d, e, f] 3 = d := rfl
  have g4 : hd [a, b, c, d, e, f] 4 = e := rfl
  have g5 : hd [a, b, c, d, e, f] 5 = f := rfl
  clear hL hne hF p1 p2
  refine ACallsTo.of_body speculumlaw05_ranged_ok (by simp) fun hw _ => ?_
  repeat' (first | refine SWp.seq ?_ | refine SWp.block ?_ | refine SWp.scope ?_ | refine SWp.condT rfl ?_ | refine SWp.condF rfl ?_ | (refine SWp.condD rfl (fun ht => ?_) (fun ht => ?_) <;> try (exfalso; omega)) | ((first | refine SWp.reg ?_ | refine SWp.skip ?_ | refine SWp.exit ?_ | refine SWp.ret ?_ | (apply callW.mk_pu; (first | exact (fun _ => hS _) | exact (fun _ => hO5 _ _))) | (apply callW.any; (first | exact (hS _) | exact (hO5 _ _))) | ((first | apply splitG | apply splitGB | apply splitR | apply splitRB | apply splitE | apply splitEB | apply splitC | apply splitCB) <;> intro ht)); all_goals try simp (disch := first | omega | (simp only [lens, hc_len, hr_len, trs_len, nums_len, List.length_reverse]; first | done | omega)) only [go_sem, Nat.reduceEqDiff, Nat.reduceBEq, Nat.reduceAdd, Nat.reduceMul, Nat.reduceSub, Nat.reduceLeDiff, Int.reduceToNat, Int.reducePow, g1, g2, g3, g4, g5]))
  refine SWp.reg2 ?_ ?_
  · simp (disch := first | omega | (simp only [lens, hc_len, hr_len, trs_len, nums_len, List.length_reverse]; first | done | omega)) only [go_sem, Nat.reduceEqDiff, Nat.reduceBEq, Nat.reduceAdd, Nat.reduceMul, Nat.reduceSub, Nat.reduceLeDiff, Int.reduceToNat, Int.reducePow, g1, g2, g3, g4, g5]
    repeat' (first | refine SWp.seq ?_ | refine SWp.block ?_ | refine SWp.scope ?_ | refine SWp.condT rfl ?_ | refine SWp.condF rfl ?_ | (refine SWp.condD rfl (fun ht => ?_) (fun ht => ?_) <;> try (exfalso; omega)) | ((first | refine SWp.reg ?_ | refine SWp.skip ?_ | refine SWp.exit ?_ | refine SWp.ret ?_ | (apply callW.mk_pu; (first | exact (fun _ => hAp _) | exact (fun _ => hPt _ _) | exact (fun _ => hO1 _ _) | exact (fun _ => hM _) | exact (fun _ => hR4 _ _) | exact (fun _ => hs1 _ _) | exact (fun _ => hs2 _ _) | exact (fun _ => hs3 _ _) | exact (fun _ => hs4 _) | exact (fun _ => hn1 _) | exact (fun _ => hn2 _))) | (apply callW.any; (first | exact (hAp _) | exact (hPt _ _) | exact (hO1 _ _) | exact (hM _) | exact (hR4 _ _) | exact (hs1 _ _) | exact (hs2 _ _) | exact (hs3 _ _) | exact (hs4 _) | exact (hn1 _) | exact (hn2 _))) | ((first | apply splitG | apply splitGB | apply splitR | apply splitRB | apply splitE | apply splitEB | apply splitC | apply splitCB) <;> intro ht)); all_goals try simp (disch := first | omega | (simp only [lens, hc_len, hr_len, trs_len, nums_len, List.length_reverse]; first | done | omega)) only [go_sem, Nat.reduceEqDiff, Nat.reduceBEq, Nat.reduceAdd, Nat.reduceMul, Nat.reduceSub, Nat.reduceLeDiff, Int.reduceToNat, Int.reducePow, g1, g2, g3, g4, g5, hz, hzk]))
    exact DownV.pure hw (rlB_ok _ rfl)
  · simp (disch := first | omega | (simp only [lens, hc_len, hr_len, trs_len, nums_len, List.length_reverse]; first | done | omega)) only [go_sem, Nat.reduceEqDiff, Nat.reduceBEq, Nat.reduceAdd, Nat.reduceMul, Nat.reduceSub, Nat.reduceLeDiff, Int.reduceToNat, Int.reducePow, g1, g2, g3, g4, g5]
    repeat' (first | refine SWp.seq ?_ | refine SWp.block ?_ | refine SWp.scope ?_ | refine SWp.condT rfl ?_ | refine SWp.condF rfl ?_ | (refine SWp.condD rfl (fun ht => ?_) (fun ht => ?_) <;> try (exfalso; omega)) | ((first | refine SWp.reg ?_ | refine SWp.skip ?_ | refine SWp.exit ?_ | refine SWp.ret ?_ | (apply callW.mk_pu; (first | exact (fun _ => hAp _) | exact (fun _ => hPt _ _) | exact (fun _ => hO1 _ _) | exact (fun _ => hM _) | exact (fun _ => hR4 _ _) | exact (fun _ => hs1 _ _) | exact (fun _ => hs2 _ _) | exact (fun _ => hs3 _ _) | exact (fun _ => hs4 _) | exact (fun _ => hn1 _) | exact (fun _ => hn2 _))) | (apply callW.any; (first | exact (hAp _) | exact (hPt _ _) | exact (hO1 _ _) | exact (hM _) | exact (hR4 _ _) | exact (hs1 _ _) | exact (hs2 _ _) | exact (hs3 _ _) | exact (hs4 _) | exact (hn1 _) | exact (hn2 _))) | ((first | apply splitG | apply splitGB | apply splitR | apply splitRB | apply splitE | apply splitEB | apply splitC | apply splitCB) <;> intro ht)); all_goals try simp (disch := first | omega | (simp only [lens, hc_len, hr_len, trs_len, nums_len, List.length_reverse]; first | done | omega)) only [go_sem, Nat.reduceEqDiff, Nat.reduceBEq, Nat.reduceAdd, Nat.reduceMul, Nat.reduceSub, Nat.reduceLeDiff, Int.reduceToNat, Int.reducePow, g1, g2, g3, g4, g5, hz, hzk]))
    exact DownV.pure hw (rlB_ok _ rfl)
end Am
end Go.Proofs.YthgcooppjhcgcaaDoor
end
section
set_option linter.unusedSimpArgs false
set_option linter.unusedVariables false
/- Ranges: the law RangesPart: its contract. -/
namespace Go.Proofs.YthgcooppjhcgcaaDoor
namespace Am
theorem Great_to (σ : Store) (n : Int) (hs : List Hash) (x : AV) (hx : SlV 32 (hr hs) x) : ACallsTo TC 14 [.agg [.int .i64 n, x]] σ (.bool (decide ((hs.length : Int) > 100))) σ := by
  have r1 := hx.len
  rw [hr_len] at r1
  unfold rLenSl at r1
  refine ACallsTo.of_body speculumlaw05_Great_ok (by simp) fun hw _ => ?_
  repeat' (first | refine SWp.seq ?_ | refine SWp.block ?_ | refine SWp.scope ?_ | refine SWp.condT rfl ?_ | refine SWp.condF rfl ?_ | (refine SWp.condD rfl (fun ht => ?_) (fun ht => ?_) <;> try (exfalso; omega)) | ((first | refine SWp.reg ?_ | refine SWp.skip ?_ | refine SWp.exit ?_ | refine SWp.ret ?_ | ((first | apply splitG | apply splitGB | apply splitR | apply splitRB | apply splitE | apply splitEB | apply splitC | apply splitCB) <;> intro ht)); all_goals try simp (disch := first | omega | (simp only [lens, hc_len, hr_len, trs_len, nums_len, List.length_reverse]; first | done | omega)) only [go_sem, Nat.reduceEqDiff, Nat.reduceBEq, Nat.reduceAdd, Nat.reduceMul, Nat.reduceSub, Nat.reduceLeDiff, Int.reduceToNat, Int.reducePow, r1]))
  exact DownV.pure hw (rlB_ok _ rfl)
/-- Both say the same. -/
theorem ext_cmp {σ : Store} {n : Int} {hs l : List Hash} {x : AV} (hx : RdSl σ 32 (hr hs) x) : ∃ n' z w e L, extA n hs l x = .tup [.agg [.int .i64 n', z], .int .i64 e] ∧ extB n hs l = .tup [.agg [.int .i64 n', w], .int .i64 e] ∧ SlV 32 (hr L) z ∧ SlV 32 (hr L) w ∧ L.length < 1000 := by
  have nil : SlV 32 (hr []) .nilsl := .inl ⟨rfl, rfl⟩
  unfold extA extB
  by_cases hv : validR n hs.length = false
  · rw [if_pos hv, if_pos hv]
    exact ⟨0, .nilsl, .nilsl, 2, [], rfl, rfl, nil, nil, by simp⟩
  · rw [if_neg hv, if_neg hv]
    by_cases h : 4096 - n < l.length
    · rw [if_pos h, if_pos (by omega)]
      exact ⟨0, .nilsl, .nilsl, 60, [], rfl, rfl, nil, nil, by simp⟩
    · rw [if_neg h, if_neg (by omega)]
      have hv' : validR n hs.length = true := by simpa using hv
      have hv2 := of_decide_eq_true hv'
      refine ⟨_, _, _, 0, (extR n.toNat hs.reverse l).reverse, rfl, rfl, zv_slv (σ := σ) fun h => ?_, slVal_is _ _, ?_⟩
      · have : l = [] := by cases l <;> simp at h ⊢
        subst this
        simpa [extR] using hx
      · have := extR_len 13 n.toNat hs.reverse l (by omega) (by rw [List.length_reverse, hv2.2.2, pc13 (by omega)])
        rw [List.length_reverse, this]
        exact Nat.lt_of_le_of_lt (pc_le _ _) (by decide)
attribute [local irreducible] ACallsTo ACallsP
theorem hslC_h {cs : List AV} (h : ShC (.sl 32 hashTy) cs) : ∃ (l : List Hash) (a : AV), cs = [a] ∧ SlV 32 (hr l) a ∧ l.length ≤ maxLen := by
  simp only [ShC] at h
  rcases h with rfl | ⟨es, rfl, hl, _, h2⟩
  · exact ⟨[], .nilsl, rfl, .inl ⟨rfl, rfl⟩, Nat.zero_le _⟩
  · obtain ⟨hs, rfl, hH⟩ := hashes_of es h2
    obtain ⟨m, rfl⟩ := hb_of hH
    rw [hr_hb] at *
    exact ⟨m, _, rfl, .inr ⟨false, rfl⟩, by rwa [hr_len] at hl⟩
theorem range_h {a : AV} (h : Sh (.row [.int .i64, .sl 32 hashTy]) a) : ∃ (n : Int) (l : List Hash) (x : AV), a = .agg [.int .i64 n, x] ∧ -9223372036854775808 ≤ n ∧ n ≤ 9223372036854775807 ∧ SlV 32 (hr l) x ∧ l.length ≤ maxLen := by
  simp only [Sh] at h
  obtain ⟨cs, rfl, h⟩ := h
  simp only [ShRow] at h
  obtain ⟨a, b, rfl, ha, c, d, rfl, hb, rfl⟩ := h
  simp only [ShC] at ha
  obtain ⟨n, rfl, h1, h2⟩ := ha
  obtain ⟨l, x, rfl, h3, h4⟩ := hslC_h hb
  simp only [IntKind.min, IntKind.max, IntKind.signed, IntKind.bits] at h1 h2
  simp at h1 h2
  exact ⟨n, l, x, rfl, h1, h2, h3, h4⟩
end Am
end Go.Proofs.YthgcooppjhcgcaaDoor
end
section
set_option linter.unusedSimpArgs false
set_option linter.unusedVariables false
/- Ranges: the law RangesFull: its contract. -/
namespace Go.Proofs.YthgcooppjhcgcaaDoor
namespace Am
attribute [local irreducible] ACallsTo ACallsP
end Am
end Go.Proofs.YthgcooppjhcgcaaDoor
end
section
set_option linter.unusedSimpArgs false
set_option linter.unusedVariables false
/- Ranges: the root of a range. -/
namespace Go.Proofs.YthgcooppjhcgcaaDoor
namespace Am
attribute [local irreducible] ACallsTo ACallsP
theorem Backward_to (σ : Store) (x : AV) (hx : cellsOf x = some [x]) :
    ACallsTo TC 87 [x] σ (.fn 144 [.ptr σ.length 0 0]) (σ ++ [some [[x]]]) := by
  unfold cellsOf at hx
  refine ACallsTo.of_body_keep slices_Backward_api_Hash__ok (by simp) ?_
  repeat' (first | refine SWp.seq ?_ | refine SWp.block ?_ | refine SWp.scope ?_ | refine SWp.condT rfl ?_ | refine SWp.condF rfl ?_ | (refine SWp.condD rfl (fun ht => ?_) (fun ht => ?_) <;> try (exfalso; omega)) | ((first | refine SWp.reg ?_ | refine SWp.skip ?_ | refine SWp.exit ?_ | refine SWp.ret ?_ | ((first | apply splitG | apply splitGB | apply splitR | apply splitRB | apply splitE | apply splitEB | apply splitC | apply splitCB) <;> intro ht)); all_goals try simp (disch := first | omega | (simp only [lens, hc_len, hr_len, List.length_reverse]; first | done | omega)) only [go_sem, Nat.reduceEqDiff, Nat.reduceBEq, Nat.reduceAdd, Nat.reduceMul, Nat.reduceSub, Nat.reduceLeDiff, Int.reduceToNat, Int.reducePow, hx, keepQ]))
def rootA (n : Int) (hs : List Hash) : AV := if validR n hs.length = false then .tup [.agg (hc zeroH), .int .i64 2] else .tup [.agg (hc (rootR hs.reverse)), .int .i64 0]
theorem rl_rootA {k : Nat} {h : Hash} {e : Int} : RL k (.tup [.agg (hc h), .int .i64 e]) := by simp only [RL, RLs]; exact ⟨rl_hc h, trivial, trivial⟩
theorem rootR_snoc_take {hs : List Hash} {m : Nat} (h : hs.length = m + 1) : rootR hs.reverse = ((hs.take m).reverse.take m).foldl (fun o h => nodeH h o) (hd hs m) := by
  have e : hs = hs.take m ++ [hd hs m] := by rw [← take_hd (by omega), List.take_of_length_le (by omega)]
  have e2 : hs.reverse = hd hs m :: (hs.take m).reverse := by
    conv => lhs; rw [e]
    rw [List.reverse_append, List.reverse_singleton, List.singleton_append]
  have e3 : (hs.take m).reverse.take m = (hs.take m).reverse := List.take_of_length_le (by simp; omega)
  rw [e2, rootR, e3]
theorem fold_step {R : List Hash} {j : Nat} (x : Hash) (h : j < R.length) : (R.reverse.take (j + 1)).foldl (fun o h => nodeH h o) x = nodeH (hd R (R.length - 1 - j)) ((R.reverse.take j).foldl (fun o h => nodeH h o) x) := by
  have hj : j < R.reverse.length := by rw [List.length_reverse]; exact h
  rw [List.take_add_one, List.getElem?_eq_getElem hj]
  simp only [Option.toList_some, List.foldl_append, List.foldl_cons, List.foldl_nil]
  rw [hd_get (by omega), List.getElem_reverse]
theorem pc_pos : ∀ (f m : Nat), 0 < m → m < 2 ^ f → 0 < pc f m
  | 0, m, h, h1 => by simp at h1; omega
  | f + 1, m, h, h1 => by
    simp only [pc]
    by_cases h2 : m % 2 = 1
    · omega
    · have := pc_pos f (m / 2) (by omega) (by rw [Nat.pow_succ] at h1; omega)
      omega
set_option maxHeartbeats 16000000 in
theorem Root_v (σ : Store) (n : Int) (hs : List Hash) (x : AV) (hx : SlV 32 (hr hs) x) (hl : hs.length < 1000000) (hn : -9223372036854775808 ≤ n ∧ n ≤ 9223372036854775807) :
    ACallsTo TC 18 [.agg [.int .i64 n, x]] σ (rootA n hs) σ := by
  have xc := slv_cells hx
  unfold cellsOf at xc
  have r1 := hx.len
  rw [hr_len] at r1
  unfold rLenSl at r1
  have hV := fun σ => ranges_Valid_h σ n hs x (.of hx)
  have hT := fun σ => trees_Root_h σ [] .nilsl (.of (.inl ⟨rfl, rfl⟩)) (by decide)
  refine ACallsTo.of_bodyD ranges_Root_ok (by simp) fun hw _ => ?_
  unfold rootA
  refine SWpD.seqS ?_
  repeat' (first | refine SWp.seq ?_ | refine SWp.block ?_ | refine SWp.scope ?_ | refine SWp.condT rfl ?_ | refine SWp.condF rfl ?_ | (refine SWp.condD rfl (fun ht => ?_) (fun ht => ?_) <;> try (exfalso; omega)) | ((first | refine SWp.reg ?_ | refine SWp.skip ?_ | refine SWp.exit ?_ | refine SWp.ret ?_ | ((first | apply splitG | apply splitGB | apply splitR | apply splitRB | apply splitE | apply splitEB | apply splitC | apply splitCB) <;> intro ht)); all_goals try simp (disch := first | omega | (simp only [lens, hc_len, hr_len, List.length_reverse]; first | done | omega)) only [go_sem, Nat.reduceEqDiff, Nat.reduceBEq, Nat.reduceAdd, Nat.reduceMul, Nat.reduceSub, Nat.reduceLeDiff, Int.reduceToNat, Int.reducePow, xc]))
  refine SWpD.seqS ?_
  cases hv : validR n hs.length with
  | false =>
    rw [hv] at hV
    rw [if_pos rfl]
    repeat' (first | refine SWp.seq ?_ | refine SWp.block ?_ | refine SWp.scope ?_ | refine SWp.condT rfl ?_ | refine SWp.condF rfl ?_ | (refine SWp.condD rfl (fun ht => ?_) (fun ht => ?_) <;> try (exfalso; omega)) | ((first | refine SWp.reg ?_ | refine SWp.skip ?_ | refine SWp.exit ?_ | refine SWp.ret ?_ | (apply callW.mk_pu; (first | exact (fun _ => hV _))) | (apply callW.any; (first | exact (hV _))) | ((first | apply splitG | apply splitGB | apply splitR | apply splitRB | apply splitE | apply splitEB | apply splitC | apply splitCB) <;> intro ht)); all_goals try simp (disch := first | omega | (simp only [lens, hc_len, hr_len, List.length_reverse]; first | done | omega)) only [go_sem, Nat.reduceEqDiff, Nat.reduceBEq, Nat.reduceAdd, Nat.reduceMul, Nat.reduceSub, Nat.reduceLeDiff, Int.reduceToNat, Int.reducePow, xc]))
    exact DownV.pure hw (rl_rootA (h := zeroH))
  | true =>
    rw [hv] at hV
    rw [if_neg (by simp)]
    by_cases hn0 : n = 0
    · subst hn0
      have h0 : hs = [] := by
        have := of_decide_eq_true hv
        exact List.eq_nil_of_length_eq_zero this.2.2
      subst h0
      repeat' (first | refine SWp.seq ?_ | refine SWp.block ?_ | refine SWp.scope ?_ | refine SWp.condT rfl ?_ | refine SWp.condF rfl ?_ | (refine SWp.condD rfl (fun ht => ?_) (fun ht => ?_) <;> try (exfalso; omega)) | ((first | refine SWp.reg ?_ | refine SWp.skip ?_ | refine SWp.exit ?_ | refine SWp.ret ?_ | (apply callW.mk_pu; (first | exact (fun _ => hV _) | exact (fun _ => hT _))) | (apply callW.any; (first | exact (hV _) | exact (hT _))) | ((first | apply splitG | apply splitGB | apply splitR | apply splitRB | apply splitE | apply splitEB | apply splitC | apply splitCB) <;> intro ht)); all_goals try simp (disch := first | omega | (simp only [lens, hc_len, hr_len, List.length_reverse]; first | done | omega)) only [go_sem, Nat.reduceEqDiff, Nat.reduceBEq, Nat.reduceAdd, Nat.reduceMul, Nat.reduceSub, Nat.reduceLeDiff, Int.reduceToNat, Int.reducePow, xc]))
      exact DownV.pure hw rl_rootA
    · obtain ⟨_, hn2, hpc⟩ := of_decide_eq_true hv
      have hlen : ∃ m, hs.length = m + 1 := by
        rcases Nat.eq_zero_or_pos hs.length with h | h
        · exfalso
          have := pc_pos 64 n.toNat (by omega) (by omega)
          omega
        · exact ⟨hs.length - 1, by omega⟩
      obtain ⟨m, hm⟩ := hlen
      obtain ⟨ex, rfl⟩ := hx.vsl (by rw [hr_len]; omega)
      have hm1 : ((hs.length : Nat) : Int) - 1 = (m : Int) := by omega
      have hmm : ((m : Nat) : Int).toNat = m := rfl
      have hB := fun σ t => Backward_to σ (.vsl 32 (hr (hs.take m)) t) rfl
      have hlt : (hs.take m).length = m := by rw [List.length_take]; omega
      have hR := rootR_snoc_take hm
      repeat' (first | refine SWp.seq ?_ | refine SWp.block ?_ | refine SWp.scope ?_ | refine SWp.condT rfl ?_ | refine SWp.condF rfl ?_ | (refine SWp.condD rfl (fun ht => ?_) (fun ht => ?_) <;> try (exfalso; omega)) | ((first | refine SWp.reg ?_ | refine SWp.skip ?_ | refine SWp.exit ?_ | refine SWp.ret ?_ | (apply callW.mk_pu; (first | exact (fun _ => hV _))) | (apply callW.any; (first | exact (hV _))) | ((first | apply splitG | apply splitGB | apply splitR | apply splitRB | apply splitE | apply splitEB | apply splitC | apply splitCB) <;> intro ht)); all_goals try simp (disch := first | omega | (simp only [lens, hc_len, hr_len, List.length_reverse]; first | done | omega)) only [go_sem, Nat.reduceEqDiff, Nat.reduceBEq, Nat.reduceAdd, Nat.reduceMul, Nat.reduceSub, Nat.reduceLeDiff, Int.reduceToNat, Int.reducePow, xc, hn0]))
      refine SWpD.seqS ?_
      repeat' (first | refine SWp.seq ?_ | refine SWp.block ?_ | refine SWp.scope ?_ | refine SWp.condT rfl ?_ | refine SWp.condF rfl ?_ | (refine SWp.condD rfl (fun ht => ?_) (fun ht => ?_) <;> try (exfalso; omega)) | ((first | refine SWp.reg ?_ | refine SWp.skip ?_ | refine SWp.exit ?_ | refine SWp.ret ?_ | ((first | apply splitG | apply splitGB | apply splitR | apply splitRB | apply splitE | apply splitEB | apply splitC | apply splitCB) <;> intro ht)); all_goals try simp (disch := first | omega | (simp only [lens, hc_len, hr_len, List.length_reverse]; first | done | omega)) only [go_sem, Nat.reduceEqDiff, Nat.reduceBEq, Nat.reduceAdd, Nat.reduceMul, Nat.reduceSub, Nat.reduceLeDiff, Int.reduceToNat, Int.reducePow, xc, r1, hm1]))
      refine SWpD.seqS ?_
      repeat' (first | refine SWp.seq ?_ | refine SWp.block ?_ | refine SWp.scope ?_ | refine SWp.condT rfl ?_ | refine SWp.condF rfl ?_ | (refine SWp.condD rfl (fun ht => ?_) (fun ht => ?_) <;> try (exfalso; omega)) | ((first | refine SWp.reg ?_ | refine SWp.skip ?_ | refine SWp.exit ?_ | refine SWp.ret ?_ | ((first | apply splitG | apply splitGB | apply splitR | apply splitRB | apply splitE | apply splitEB | apply splitC | apply splitCB) <;> intro ht)); all_goals try simp (disch := first | omega | (simp only [lens, hc_len, hr_len, List.length_reverse]; first | done | omega)) only [go_sem, Nat.reduceEqDiff, Nat.reduceBEq, Nat.reduceAdd, Nat.reduceMul, Nat.reduceSub, Nat.reduceLeDiff, Int.reduceToNat, Int.reducePow, xc, r1, hm1, hmm]))
      refine SWpD.seqR ?_
      refine SWpD.seqS ?_
      repeat' (first | refine SWp.seq ?_ | refine SWp.block ?_ | refine SWp.scope ?_ | refine SWp.condT rfl ?_ | refine SWp.condF rfl ?_ | (refine SWp.condD rfl (fun ht => ?_) (fun ht => ?_) <;> try (exfalso; omega)) | ((first | refine SWp.reg ?_ | refine SWp.skip ?_ | refine SWp.exit ?_ | refine SWp.ret ?_ | (apply callW.mk_pu; (first | exact (fun _ => hB _ _))) | (apply callW.any; (first | exact (hB _ _))) | ((first | apply splitG | apply splitGB | apply splitR | apply splitRB | apply splitE | apply splitEB | apply splitC | apply splitCB) <;> intro ht)); all_goals try simp (disch := first | omega | (simp only [lens, hc_len, hr_len, List.length_reverse]; first | done | omega)) only [go_sem, Nat.reduceEqDiff, Nat.reduceBEq, Nat.reduceAdd, Nat.reduceMul, Nat.reduceSub, Nat.reduceLeDiff, Int.reduceToNat, Int.reducePow, xc, r1, hm1, hmm]))
      refine SWpD.block ?_
      refine range_back (rB := σ.length + 3) (es := hr (hs.take m)) (by simp (disch := first | omega | (simp only [lens, hc_len, hr_len, List.length_reverse]; first | done | omega)) only [go_sem, Nat.reduceEqDiff, Nat.reduceBEq, Nat.reduceAdd, Nat.reduceMul, Nat.reduceSub, Nat.reduceLeDiff, Int.reduceToNat, Int.reducePow] <;> rfl) (by rw [hr_len]; omega) (by decide) (by decide) (fun e he => by
          simp only [hr, List.mem_map] at he
          obtain ⟨h, _, rfl⟩ := he
          exact hc_len h)
        (fun j σ' => σ'[σ.length + 1]? = some (some [hc zeroH]) ∧ σ'[σ.length + 2]? = some (some [hc (((hs.take m).reverse.take j).foldl (fun o h => nodeH h o) (hd hs m))]) ∧ (∃ ex, σ'[σ.length + 3]? = some (some [[.vsl 32 (hr (hs.take m)) ex]])) ∧ ∃ news, σ' = σ ++ news) ?_ ?_ ?_ ?_
      · refine ⟨by simp (disch := first | omega | (simp only [lens, hc_len, hr_len, List.length_reverse]; first | done | omega)) only [go_sem, Nat.reduceEqDiff, Nat.reduceBEq, Nat.reduceAdd, Nat.reduceMul, Nat.reduceSub, Nat.reduceLeDiff, Int.reduceToNat, Int.reducePow] <;> rfl, by simp (disch := first | omega | (simp only [lens, hc_len, hr_len, List.length_reverse]; first | done | omega)) only [go_sem, Nat.reduceEqDiff, Nat.reduceBEq, Nat.reduceAdd, Nat.reduceMul, Nat.reduceSub, Nat.reduceLeDiff, Int.reduceToNat, Int.reducePow] <;> rfl, ⟨_, by simp (disch := first | omega | (simp only [lens, hc_len, hr_len, List.length_reverse]; first | done | omega)) only [go_sem, Nat.reduceEqDiff, Nat.reduceBEq, Nat.reduceAdd, Nat.reduceMul, Nat.reduceSub, Nat.reduceLeDiff, Int.reduceToNat, Int.reducePow] <;> rfl⟩, _, rfl⟩
      · rintro j σ' ⟨_, _, ⟨ex, h⟩, _⟩
        exact ⟨_, h, .inr ⟨ex, rfl⟩⟩
      · rintro l j σ' cs ⟨i1, i2, ⟨ex2, i3⟩, news, rfl⟩ hj hcs
        rw [hr_len, hlt] at hj
        have hcs2 : cs = hc (hd (hs.take m) (m - 1 - j)) := by
          rw [hr_len, hlt, hr_get (by omega)] at hcs
          exact (Option.some.inj hcs).symm
        subst hcs2
        have hN := fun σ => trees_Node_h σ (hd (hs.take m) (m - 1 - j)) (((hs.take m).reverse.take j).foldl (fun o h => nodeH h o) (hd hs m))
        have hst := fold_step (R := hs.take m) (j := j) (hd hs m) (by omega)
        rw [hlt] at hst
        rw [← hst] at hN
        generalize ((hs.take m).reverse.take j).foldl (fun o h => nodeH h o) (hd hs m) = A at *
        generalize ((hs.take m).reverse.take (j + 1)).foldl (fun o h => nodeH h o) (hd hs m) = B at *
        generalize hd (hs.take m) (m - 1 - j) = H at *
        rw [getElem?_app] at i1 i2 i3
        have l1 := slen i1
        have l2 := slen i2
        have l3 := slen i3
        refine SWpI.reg rfl ?_
        simp (disch := first | omega | (simp only [lens, hc_len, hr_len, List.length_reverse]; first | done | omega)) only [go_sem, Nat.reduceEqDiff, Nat.reduceBEq, Nat.reduceAdd, Nat.reduceMul, Nat.reduceSub, Nat.reduceLeDiff, Int.reduceToNat, Int.reducePow]
        refine SWpI.block ?_
        refine SWpI.reg rfl ?_
        simp (disch := first | omega | (simp only [lens, hc_len, hr_len, List.length_reverse]; first | done | omega)) only [go_sem, Nat.reduceEqDiff, Nat.reduceBEq, Nat.reduceAdd, Nat.reduceMul, Nat.reduceSub, Nat.reduceLeDiff, Int.reduceToNat, Int.reducePow, i1, i2, i3, l1, l2, l3]
        refine callW.any (hN _) trivial ?_
        simp (disch := first | omega | (simp only [lens, hc_len, hr_len, List.length_reverse]; first | done | omega)) only [go_sem, Nat.reduceEqDiff, Nat.reduceBEq, Nat.reduceAdd, Nat.reduceMul, Nat.reduceSub, Nat.reduceLeDiff, Int.reduceToNat, Int.reducePow, i1, i2, i3, l1, l2, l3]
        exact ⟨⟨_, rfl⟩, _, rfl⟩
      · rintro σ' ⟨i1, i2, ⟨ex2, i3⟩, news, rfl⟩
        rw [hr_len, hlt] at i2
        rw [← hR] at i2
        rw [getElem?_app] at i1 i2
        have l1 := slen i1
        have l2 := slen i2
        repeat' (first | refine SWp.seq ?_ | refine SWp.block ?_ | refine SWp.scope ?_ | refine SWp.condT rfl ?_ | refine SWp.condF rfl ?_ | (refine SWp.condD rfl (fun ht => ?_) (fun ht => ?_) <;> try (exfalso; omega)) | ((first | refine SWp.reg ?_ | refine SWp.skip ?_ | refine SWp.exit ?_ | refine SWp.ret ?_ | ((first | apply splitG | apply splitGB | apply splitR | apply splitRB | apply splitE | apply splitEB | apply splitC | apply splitCB) <;> intro ht)); all_goals try simp (disch := first | omega | (simp only [lens, hc_len, hr_len, List.length_reverse]; first | done | omega)) only [go_sem, Nat.reduceEqDiff, Nat.reduceBEq, Nat.reduceAdd, Nat.reduceMul, Nat.reduceSub, Nat.reduceLeDiff, Int.reduceToNat, Int.reducePow, i1, i2, l1, l2]))
        exact DownV.pure hw rl_rootA
end Am
end Go.Proofs.YthgcooppjhcgcaaDoor
end
section
set_option linter.unusedSimpArgs false
set_option linter.unusedVariables false
/- Ranges: the law RangesSame: its contract. -/
namespace Go.Proofs.YthgcooppjhcgcaaDoor
namespace Am
attribute [local irreducible] ACallsTo ACallsP
theorem Root_h (σ : Store) (n : Int) (hs : List Hash) (x : AV) (hx : RdSl σ 32 (hr hs) x) (hl : hs.length < 1000000) (hn : -9223372036854775808 ≤ n ∧ n ≤ 9223372036854775807) :
    ACallsTo TC 18 [.agg [.int .i64 n, x]] σ (rootA n hs) σ := by
  obtain ⟨x0, h0, hd⟩ := hx.lend (rlss_hr hs)
  have hi : ∀ i : Int, RL 0 (.int .i64 i) := fun i => by simp [RL]
  have := ACallsTo.lend glok (Root_v [] n hs x0 h0 hl hn) (drs1 (drA (drsc (rl0 (hi n) σ) (drs1 hd))))
  have e : sh σ.length (rootA n hs) = rootA n hs := by
    unfold rootA
    split
    all_goals simp only [sh, shs, shs_hc]
  rwa [e, shS_nil, List.append_nil] at this
end Am
end Go.Proofs.YthgcooppjhcgcaaDoor
end
section
set_option linter.unusedSimpArgs false
set_option linter.unusedVariables false
/- Ranges: the reference's Root and Merge. -/
namespace Go.Proofs.YthgcooppjhcgcaaDoor
namespace Am
theorem hd_take {l : List Hash} {m i : Nat} (h : i < m) (hl : m ≤ l.length) : hd (l.take m) i = hd l i := by
  rw [hd_get (l := l.take m) (by rw [List.length_take]; omega), hd_get (l := l) (by omega), List.getElem_take]
attribute [local irreducible] ACallsTo ACallsP
set_option maxHeartbeats 16000000 in
theorem refRoot_v (σ : Store) (n : Int) (hs : List Hash) (x : AV) (hx : SlV 32 (hr hs) x) (hl : hs.length < 1000000) :
    ACallsTo TC 19 [.agg [.int .i64 n, x]] σ (rootA n hs) σ := by
  have xc := slv_cells hx
  unfold cellsOf at xc
  have r1 := hx.len
  rw [hr_len] at r1
  unfold rLenSl at r1
  have hV := fun σ => ref_Valid_h σ n hs x (.of hx)
  refine ACallsTo.of_body speculumref05_Root_ok (by simp) fun hw _ => ?_
  unfold rootA
  cases hv : validR n hs.length with
  | false =>
    rw [hv] at hV
    rw [if_pos rfl]
    repeat' (first | refine SWp.seq ?_ | refine SWp.block ?_ | refine SWp.scope ?_ | refine SWp.condT rfl ?_ | refine SWp.condF rfl ?_ | (refine SWp.condD rfl (fun ht => ?_) (fun ht => ?_) <;> try (exfalso; omega)) | ((first | refine SWp.reg ?_ | refine SWp.skip ?_ | refine SWp.exit ?_ | refine SWp.ret ?_ | (apply callW.mk_pu; (first | exact (fun _ => hV _))) | (apply callW.any; (first | exact (hV _))) | ((first | apply splitG | apply splitGB | apply splitR | apply splitRB | apply splitE | apply splitEB | apply splitC | apply splitCB) <;> intro ht)); all_goals try simp (disch := first | omega | (simp only [lens, hc_len, hr_len, trs_len, nums_len, List.length_reverse]; first | done | omega)) only [go_sem, Nat.reduceEqDiff, Nat.reduceBEq, Nat.reduceAdd, Nat.reduceMul, Nat.reduceSub, Nat.reduceLeDiff, Int.reduceToNat, Int.reducePow, xc, r1]))
    exact DownV.pure hw (rl_rootA (h := zeroH))
  | true =>
    rw [hv] at hV
    rw [if_neg (by simp)]
    rcases Nat.eq_zero_or_pos hs.length with h0 | hpos
    · obtain rfl := List.eq_nil_of_length_eq_zero h0
      have hT : ∀ σ, ACallsTo TC 88 [.str []] σ (.agg (hc (shaH []))) σ := fun σ => ref_Sum_to σ [] (by simp)
      repeat' (first | refine SWp.seq ?_ | refine SWp.block ?_ | refine SWp.scope ?_ | refine SWp.condT rfl ?_ | refine SWp.condF rfl ?_ | (refine SWp.condD rfl (fun ht => ?_) (fun ht => ?_) <;> try (exfalso; omega)) | ((first | refine SWp.reg ?_ | refine SWp.skip ?_ | refine SWp.exit ?_ | refine SWp.ret ?_ | (apply callW.mk_pu; (first | exact (fun _ => hV _) | exact (fun _ => hT _))) | (apply callW.any; (first | exact (hV _) | exact (hT _))) | ((first | apply splitG | apply splitGB | apply splitR | apply splitRB | apply splitE | apply splitEB | apply splitC | apply splitCB) <;> intro ht)); all_goals try simp (disch := first | omega | (simp only [lens, hc_len, hr_len, trs_len, nums_len, List.length_reverse]; first | done | omega)) only [go_sem, Nat.reduceEqDiff, Nat.reduceBEq, Nat.reduceAdd, Nat.reduceMul, Nat.reduceSub, Nat.reduceLeDiff, Int.reduceToNat, Int.reducePow, xc, r1]))
      exact DownV.pure hw rl_rootA
    · obtain ⟨M, hM⟩ : ∃ M, hs.length = M + 1 := ⟨hs.length - 1, by omega⟩
      obtain ⟨ex, rfl⟩ := hx.vsl (by rw [hr_len]; omega)
      have hR := rootR_snoc_take hM
      have hlt : (hs.take M).length = M := by rw [List.length_take]; omega
      have hm1 : ((hs.length : Nat) : Int) - 1 = (M : Int) := by omega
      have hm2 : ((hs.length : Nat) : Int) - 2 = (M : Int) - 1 := by omega
      have hmm : ((M : Nat) : Int).toNat = M := rfl
      have hz : ¬ ((hs.length : Nat) : Int) = 0 := by omega
      rw [hR]
      repeat' (first | refine SWp.seq ?_ | refine SWp.block ?_ | refine SWp.scope ?_ | refine SWp.condT rfl ?_ | refine SWp.condF rfl ?_ | (refine SWp.condD rfl (fun ht => ?_) (fun ht => ?_) <;> try (exfalso; omega)) | ((first | refine SWp.reg ?_ | refine SWp.skip ?_ | refine SWp.exit ?_ | refine SWp.ret ?_ | (apply callW.mk_pu; (first | exact (fun _ => hV _))) | (apply callW.any; (first | exact (hV _))) | ((first | apply splitG | apply splitGB | apply splitR | apply splitRB | apply splitE | apply splitEB | apply splitC | apply splitCB) <;> intro ht)); all_goals try simp (disch := first | omega | (simp only [lens, hc_len, hr_len, trs_len, nums_len, List.length_reverse]; first | done | omega)) only [go_sem, Nat.reduceEqDiff, Nat.reduceBEq, Nat.reduceAdd, Nat.reduceMul, Nat.reduceSub, Nat.reduceLeDiff, Int.reduceToNat, Int.reducePow, xc, r1, hm1, hm2, hmm, hz]))
      refine SWp.loop (fun m ρ σ' => ∃ j : Nat, m + j = M ∧ Ext σ σ' ∧ σ'[σ.length]? = some (some [[.int .i64 n, .vsl 32 (hr hs) ex]]) ∧ σ'[σ.length + 1]? = some (some [hc zeroH]) ∧ σ'[σ.length + 2]? = some (some [hc (((hs.take M).reverse.take j).foldl (fun o h => nodeH h o) (hd hs M))]) ∧
        ρ 1 = .ptr σ.length 0 0 ∧ ρ 2 = .ptr (σ.length + 1) 0 0 ∧ ρ 5 = .ptr (σ.length + 2) 0 0 ∧ ρ 6 = .int .i64 ((m : Int) - 1)) M ?_ ?_
      · exact ⟨0, by omega, (Ext.refl σ).app, by simp, by simp; rfl, by simp, by simp (disch := first | omega | (simp only [lens, hc_len, hr_len, trs_len, nums_len, List.length_reverse]; first | done | omega)) only [go_sem, Nat.reduceEqDiff, Nat.reduceBEq, Nat.reduceAdd, Nat.reduceMul, Nat.reduceSub, Nat.reduceLeDiff, Int.reduceToNat, Int.reducePow], by simp (disch := first | omega | (simp only [lens, hc_len, hr_len, trs_len, nums_len, List.length_reverse]; first | done | omega)) only [go_sem, Nat.reduceEqDiff, Nat.reduceBEq, Nat.reduceAdd, Nat.reduceMul, Nat.reduceSub, Nat.reduceLeDiff, Int.reduceToNat, Int.reducePow], by simp (disch := first | omega | (simp only [lens, hc_len, hr_len, trs_len, nums_len, List.length_reverse]; first | done | omega)) only [go_sem, Nat.reduceEqDiff, Nat.reduceBEq, Nat.reduceAdd, Nat.reduceMul, Nat.reduceSub, Nat.reduceLeDiff, Int.reduceToNat, Int.reducePow], by simp (disch := first | omega | (simp only [lens, hc_len, hr_len, trs_len, nums_len, List.length_reverse]; first | done | omega)) only [go_sem, Nat.reduceEqDiff, Nat.reduceBEq, Nat.reduceAdd, Nat.reduceMul, Nat.reduceSub, Nat.reduceLeDiff, Int.reduceToNat, Int.reducePow]⟩
      · rintro m ρ σ' ⟨j, hm, he, c0, c1, c2, q1, q2, q5, q6⟩
        have d0 := slen c0
        have d1 := slen c1
        have d2 := slen c2
        have hle := he.le
        cases m with
        | zero =>
          obtain rfl : j = M := by omega
          have hq : ¬ ((0 : Nat) : Int) - 1 ≥ 0 := by omega
          repeat' (first | refine SWp.seq ?_ | refine SWp.block ?_ | refine SWp.scope ?_ | refine SWp.condT rfl ?_ | refine SWp.condF rfl ?_ | (refine SWp.condD rfl (fun ht => ?_) (fun ht => ?_) <;> try (exfalso; omega)) | ((first | refine SWp.reg ?_ | refine SWp.skip ?_ | refine SWp.exit ?_ | refine SWp.ret ?_ | ((first | apply splitG | apply splitGB | apply splitR | apply splitRB | apply splitE | apply splitEB | apply splitC | apply splitCB) <;> intro ht)); all_goals try simp (disch := first | omega | (simp only [lens, hc_len, hr_len, trs_len, nums_len, List.length_reverse]; first | done | omega)) only [go_sem, Nat.reduceEqDiff, Nat.reduceBEq, Nat.reduceAdd, Nat.reduceMul, Nat.reduceSub, Nat.reduceLeDiff, Int.reduceToNat, Int.reducePow, q1, q2, q5, q6, c0, c1, c2, hq]))
          exact Ext.pure hw (he.set (by omega)) rl_rootA
        | succ m =>
          have hst := fold_step (R := hs.take M) (j := j) (hd hs M) (by omega)
          rw [hlt, show M - 1 - j = m by omega, hd_take (by omega) (by omega)] at hst
          have hN := fun σ => ref_Node_h σ (hd hs m) (((hs.take M).reverse.take j).foldl (fun o h => nodeH h o) (hd hs M))
          rw [← hst] at hN
          have hq : ((m + 1 : Nat) : Int) - 1 = (m : Int) := by omega
          have hq2 : ((m : Nat) : Int).toNat = m := rfl
          repeat' (first | refine SWp.seq ?_ | refine SWp.block ?_ | refine SWp.scope ?_ | refine SWp.condT rfl ?_ | refine SWp.condF rfl ?_ | (refine SWp.condD rfl (fun ht => ?_) (fun ht => ?_) <;> try (exfalso; omega)) | ((first | refine SWp.reg ?_ | refine SWp.skip ?_ | refine SWp.exit ?_ | refine SWp.ret ?_ | (apply callW.mk_pu; (first | exact (fun _ => hN _))) | (apply callW.any; (first | exact (hN _))) | ((first | apply splitG | apply splitGB | apply splitR | apply splitRB | apply splitE | apply splitEB | apply splitC | apply splitCB) <;> intro ht)); all_goals try simp (disch := first | omega | (simp only [lens, hc_len, hr_len, trs_len, nums_len, List.length_reverse]; first | done | omega)) only [go_sem, Nat.reduceEqDiff, Nat.reduceBEq, Nat.reduceAdd, Nat.reduceMul, Nat.reduceSub, Nat.reduceLeDiff, Int.reduceToNat, Int.reducePow, q1, q2, q5, q6, c0, c1, c2, hq, hq2]))
          exact ⟨m, by omega, j + 1, by omega, he.set (by omega), by simp⟩
theorem refRoot_h (σ : Store) (n : Int) (hs : List Hash) (x : AV) (hx : RdSl σ 32 (hr hs) x) (hl : hs.length < 1000000) :
    ACallsTo TC 19 [.agg [.int .i64 n, x]] σ (rootA n hs) σ := by
  obtain ⟨x0, h0, hd⟩ := hx.lend (rlss_hr hs)
  have hi : ∀ i : Int, RL 0 (.int .i64 i) := fun i => by simp [RL]
  have := ACallsTo.lend glok (refRoot_v [] n hs x0 h0 hl) (drs1 (drA (drsc (rl0 (hi n) σ) (drs1 hd))))
  have e : sh σ.length (rootA n hs) = rootA n hs := by
    unfold rootA
    split
    all_goals simp only [sh, shs, shs_hc]
  rwa [e, shS_nil, List.append_nil] at this
/-- Trees of one size more. -/
theorem opn_pushk {n t : Nat} {hs : List Hash} {h : Hash} (ht : t ≤ 12) (hd : 2 ^ t ∣ n) (hn : n + 2 ^ t < 8192) (hl : hs.length = pc 13 n) : (joinL (2 ^ t, h) (opn n hs).reverse).reverse = opn (n + 2 ^ t) (pushR (n / 2 ^ t) hs.reverse h).reverse ∧ (opn n hs).length ≤ 13 - t := by
  obtain ⟨q, rfl⟩ := hd
  have hp : 0 < 2 ^ t := Nat.pow_pos (by decide)
  have e1 : 2 ^ t * q / 2 ^ t = q := Nat.mul_div_cancel_left q hp
  have e2 : 2 ^ t * q + 2 ^ t = 2 ^ t * (q + 1) := by rw [Nat.mul_add, Nat.mul_one]
  have e13 : 13 = 13 - t + t := by omega
  have hpw : 2 ^ 13 = 2 ^ t * 2 ^ (13 - t) := by rw [← Nat.pow_add]; congr 1; omega
  have hq : q + 1 < 2 ^ (13 - t) := by
    rw [e2] at hn
    exact Nat.lt_of_mul_lt_mul_left (a := 2 ^ t) (by rw [← hpw]; exact hn)
  have hl' : hs.length = pc (13 - t) q := by
    rw [hl]
    conv => lhs; rw [e13]
    exact pc_two t (13 - t) q
  unfold opn
  rw [List.reverse_reverse, List.reverse_reverse, e1, e2]
  have a1 := trR_two t (13 - t) 1 q hs.reverse
  have a2 := trR_two t (13 - t) 1 (q + 1) (pushR q hs.reverse h)
  rw [← e13, Nat.mul_one] at a1 a2
  rw [a1, a2, join_push (13 - t) (2 ^ t) q hs.reverse h hp hq (by rw [List.length_reverse]; exact hl')]
  refine ⟨rfl, ?_⟩
  have := (trR_sum (13 - t) (2 ^ t) q hs.reverse (by omega) (by rw [List.length_reverse]; exact hl')).2
  have := congrArg List.length this
  rw [List.length_map, List.length_reverse] at this
  rw [List.length_reverse, this, hl']
  exact pc_le _ _
end Am
end Go.Proofs.YthgcooppjhcgcaaDoor
end
section
set_option linter.unusedSimpArgs false
set_option linter.unusedVariables false
/- Ranges: the reference's Merge. -/
namespace Go.Proofs.YthgcooppjhcgcaaDoor
namespace Am
def mrgB (n size : Int) (hs p : List Hash) : AV :=
  if validR n hs.length = false ∨ size < n ∨ 4096 < size then rg 0 .nilsl 2
  else if (partsS n.toNat (size - n).toNat).length ≠ p.length then rg 0 .nilsl 2
  else rg size (slVal 32 (hr (mergeL n.toNat hs.reverse (partsS n.toNat (size - n).toNat) p).reverse)) 0
theorem numsD_app {a : List Nat} {k : Nat} {b : List Nat} {i : Nat} (h : a.length = i) : numsD (a ++ k :: b) i = k := by
  subst h
  simp [numsD]
attribute [local irreducible] ACallsTo ACallsP
set_option maxHeartbeats 16000000 in
theorem refMerge_v (σ : Store) (n size : Int) (hs p : List Hash) (x y : AV) (hx : SlV 32 (hr hs) x) (hy : SlV 32 (hr p) y) (hn : -9223372036854775808 ≤ n ∧ n ≤ 9223372036854775807) (hsz : -9223372036854775808 ≤ size ∧ size ≤ 9223372036854775807) (hpl : p.length < 1000000) :
    ACallsTo TC 24 [.agg [.int .i64 n, x], .int .i64 size, y] σ (mrgB n size hs p) σ := by
  have r1 := hy.len
  rw [hr_len] at r1
  unfold rLenSl at r1
  have hV := fun σ => ref_Valid_h σ n hs x (.of hx)
  unfold mrgB
  by_cases hb : validR n hs.length = false ∨ size < n ∨ 4096 < size
  · rw [if_pos hb]
    refine ACallsTo.of_body speculumref05_Merge_ok (by simp) fun hw _ => ?_
    by_cases hv : validR n hs.length = true
    · rw [hv] at hV
      rcases hb with hb | hb | hb
      · rw [hv] at hb; cases hb
      · repeat' (first | refine SWp.seq ?_ | refine SWp.block ?_ | refine SWp.scope ?_ | refine SWp.condT rfl ?_ | refine SWp.condF rfl ?_ | (refine SWp.condD rfl (fun ht => ?_) (fun ht => ?_) <;> try (exfalso; omega)) | ((first | refine SWp.reg ?_ | refine SWp.skip ?_ | refine SWp.exit ?_ | refine SWp.ret ?_ | (apply callW.mk_pu; (first | exact (fun _ => hV _))) | (apply callW.any; (first | exact (hV _))) | ((first | apply splitG | apply splitGB | apply splitR | apply splitRB | apply splitE | apply splitEB | apply splitC | apply splitCB) <;> intro ht)); all_goals try simp (disch := first | omega | (simp only [lens, hc_len, hr_len, trs_len, nums_len, List.length_reverse]; first | done | omega)) only [go_sem, Nat.reduceEqDiff, Nat.reduceBEq, Nat.reduceAdd, Nat.reduceMul, Nat.reduceSub, Nat.reduceLeDiff, Int.reduceToNat, Int.reducePow, r1]))
        all_goals exact DownV.pure hw (rl_rg (by simp [RL]))
      · repeat' (first | refine SWp.seq ?_ | refine SWp.block ?_ | refine SWp.scope ?_ | refine SWp.condT rfl ?_ | refine SWp.condF rfl ?_ | (refine SWp.condD rfl (fun ht => ?_) (fun ht => ?_) <;> try (exfalso; omega)) | ((first | refine SWp.reg ?_ | refine SWp.skip ?_ | refine SWp.exit ?_ | refine SWp.ret ?_ | (apply callW.mk_pu; (first | exact (fun _ => hV _))) | (apply callW.any; (first | exact (hV _))) | ((first | apply splitG | apply splitGB | apply splitR | apply splitRB | apply splitE | apply splitEB | apply splitC | apply splitCB) <;> intro ht)); all_goals try simp (disch := first | omega | (simp only [lens, hc_len, hr_len, trs_len, nums_len, List.length_reverse]; first | done | omega)) only [go_sem, Nat.reduceEqDiff, Nat.reduceBEq, Nat.reduceAdd, Nat.reduceMul, Nat.reduceSub, Nat.reduceLeDiff, Int.reduceToNat, Int.reducePow, r1]))
        all_goals exact DownV.pure hw (rl_rg (by simp [RL]))
    · have hv0 : validR n hs.length = false := by simpa using hv
      rw [hv0] at hV
      repeat' (first | refine SWp.seq ?_ | refine SWp.block ?_ | refine SWp.scope ?_ | refine SWp.condT rfl ?_ | refine SWp.condF rfl ?_ | (refine SWp.condD rfl (fun ht => ?_) (fun ht => ?_) <;> try (exfalso; omega)) | ((first | refine SWp.reg ?_ | refine SWp.skip ?_ | refine SWp.exit ?_ | refine SWp.ret ?_ | (apply callW.mk_pu; (first | exact (fun _ => hV _))) | (apply callW.any; (first | exact (hV _))) | ((first | apply splitG | apply splitGB | apply splitR | apply splitRB | apply splitE | apply splitEB | apply splitC | apply splitCB) <;> intro ht)); all_goals try simp (disch := first | omega | (simp only [lens, hc_len, hr_len, trs_len, nums_len, List.length_reverse]; first | done | omega)) only [go_sem, Nat.reduceEqDiff, Nat.reduceBEq, Nat.reduceAdd, Nat.reduceMul, Nat.reduceSub, Nat.reduceLeDiff, Int.reduceToNat, Int.reducePow, r1]))
      all_goals exact DownV.pure hw (rl_rg (by simp [RL]))
  · rw [if_neg hb]
    have hv : validR n hs.length = true := by
      cases h : validR n hs.length
      · exact absurd (.inl h) hb
      · rfl
    rw [hv] at hV
    have hv' := of_decide_eq_true hv
    obtain ⟨n, rfl⟩ : ∃ k : Nat, n = k := ⟨n.toNat, by omega⟩
    obtain ⟨d, rfl⟩ : ∃ d : Nat, size = ((n + d : Nat) : Int) := ⟨(size - n).toNat, by omega⟩
    have hnd : n + d ≤ 4096 := by omega
    have hhs : hs.length = pc 13 n := by rw [hv'.2.2, Int.toNat_natCast, pc13 (by omega)]
    rw [Int.toNat_natCast, show (((n + d : Nat) : Int) - (n : Int)).toNat = d by omega]
    have hPt := fun σ => parts_to σ n d hnd
    have hpv := slVal_is 1 (nums (partsS n d))
    have r6 := hpv.len
    rw [nums_len] at r6
    unfold rLenSl at r6
    generalize hpp : slVal 1 (nums (partsS n d)) = pv at *
    by_cases hlen : (partsS n d).length = p.length
    · have hlen' : ((partsS n d).length : Int) = p.length := by rw [hlen]
      rw [if_neg (by simp [hlen])]
      have hO := fun σ => open_to σ n hs x hx (by omega) hhs
      obtain ⟨P, hP⟩ : ∃ P, partsS n d = P := ⟨_, rfl⟩
      refine ACallsTo.of_body speculumref05_Merge_ok (by simp) fun hw _ => ?_
      repeat' (first | refine SWp.seq ?_ | refine SWp.block ?_ | refine SWp.scope ?_ | refine SWp.condT rfl ?_ | refine SWp.condF rfl ?_ | (refine SWp.condD rfl (fun ht => ?_) (fun ht => ?_) <;> try (exfalso; omega)) | ((first | refine SWp.reg ?_ | refine SWp.skip ?_ | refine SWp.exit ?_ | refine SWp.ret ?_ | (apply callW.mk_pu; (first | exact (fun _ => hV _) | exact (fun _ => hPt _) | exact (fun _ => hO _))) | (apply callW.any; (first | exact (hV _) | exact (hPt _) | exact (hO _))) | ((first | apply splitG | apply splitGB | apply splitR | apply splitRB | apply splitE | apply splitEB | apply splitC | apply splitCB) <;> intro ht)); all_goals try simp (disch := first | omega | (simp only [lens, hc_len, hr_len, trs_len, nums_len, List.length_reverse]; first | done | omega)) only [go_sem, Nat.reduceEqDiff, Nat.reduceBEq, Nat.reduceAdd, Nat.reduceMul, Nat.reduceSub, Nat.reduceLeDiff, Int.reduceToNat, Int.reducePow, r1, r6, hlen']))
      refine SWp.loop (fun m ρ σ' => ∃ (a i : Nat) (rs : List Hash) (v : AV) (pre : List Nat), m + i = p.length ∧ a ≤ d ∧ pre ++ partsS (n + a) (d - a) = partsS n d ∧ pre.length = i ∧ mergeL (n + a) rs (partsS (n + a) (d - a)) (p.drop i) = mergeL n hs.reverse (partsS n d) p ∧
        rs.length = pc 13 (n + a) ∧ RdSl σ' 33 (trs (opn (n + a) rs.reverse)) v ∧ Ext σ σ' ∧ σ'[σ.length + 1]? = some (some [[.int .i64 0, .nilsl]]) ∧
        ρ 2 = y ∧ ρ 6 = .ptr (σ.length + 1) 0 0 ∧ ρ 7 = .int .i64 0 ∧ ρ 8 = pv ∧ ρ 9 = v ∧ ρ 10 = .int .i64 i) p.length ?_ ?_
      · exact ⟨0, 0, hs.reverse, slVal 33 (trs (opn n hs)), [], by omega, by omega, by simp, rfl, by simp, by rw [List.length_reverse]; exact hhs, by rw [List.reverse_reverse]; exact slVal_r, (Ext.refl σ).app, by simp, by simp (disch := first | omega | (simp only [lens, hc_len, hr_len, trs_len, nums_len, List.length_reverse]; first | done | omega)) only [go_sem, Nat.reduceEqDiff, Nat.reduceBEq, Nat.reduceAdd, Nat.reduceMul, Nat.reduceSub, Nat.reduceLeDiff, Int.reduceToNat, Int.reducePow], by simp (disch := first | omega | (simp only [lens, hc_len, hr_len, trs_len, nums_len, List.length_reverse]; first | done | omega)) only [go_sem, Nat.reduceEqDiff, Nat.reduceBEq, Nat.reduceAdd, Nat.reduceMul, Nat.reduceSub, Nat.reduceLeDiff, Int.reduceToNat, Int.reducePow], by simp (disch := first | omega | (simp only [lens, hc_len, hr_len, trs_len, nums_len, List.length_reverse]; first | done | omega)) only [go_sem, Nat.reduceEqDiff, Nat.reduceBEq, Nat.reduceAdd, Nat.reduceMul, Nat.reduceSub, Nat.reduceLeDiff, Int.reduceToNat, Int.reducePow], by simp (disch := first | omega | (simp only [lens, hc_len, hr_len, trs_len, nums_len, List.length_reverse]; first | done | omega)) only [go_sem, Nat.reduceEqDiff, Nat.reduceBEq, Nat.reduceAdd, Nat.reduceMul, Nat.reduceSub, Nat.reduceLeDiff, Int.reduceToNat, Int.reducePow], by simp (disch := first | omega | (simp only [lens, hc_len, hr_len, trs_len, nums_len, List.length_reverse]; first | done | omega)) only [go_sem, Nat.reduceEqDiff, Nat.reduceBEq, Nat.reduceAdd, Nat.reduceMul, Nat.reduceSub, Nat.reduceLeDiff, Int.reduceToNat, Int.reducePow], by simp (disch := first | omega | (simp only [lens, hc_len, hr_len, trs_len, nums_len, List.length_reverse]; first | done | omega)) only [go_sem, Nat.reduceEqDiff, Nat.reduceBEq, Nat.reduceAdd, Nat.reduceMul, Nat.reduceSub, Nat.reduceLeDiff, Int.reduceToNat, Int.reducePow]; rfl⟩
      · rintro m ρ σ' ⟨a, i, rs, v, pre, hm, had, hparts, hpi, hmrg, hrl, hR, he, c1, q2, q6, q7, q8, q9, q10⟩
        have d1 := slen c1
        have hle := he.le
        have hrl' : rs.reverse.length = pc 13 (n + a) := by rw [List.length_reverse]; exact hrl
        obtain ⟨s1, s2, s3⟩ := opn_szs (n := n + a) (hs := rs.reverse) (by omega) hrl'
        have hp13 := pc_le 13 (n + a)
        rw [hrl'] at s3
        by_cases hi : i < p.length
        · have hda : a < d := by
            rcases Nat.lt_or_ge a d with h | h
            · exact h
            · have : partsS (n + a) (d - a) = [] := by rw [show d - a = 0 by omega]; rfl
              rw [this, List.append_nil] at hparts
              have := congrArg List.length hparts
              omega
          obtain ⟨k1, k2⟩ := stepS_pos (n := n + a) (d := d - a) (by omega) (by omega)
          have hst := partsS_pos (n := n + a) (d := d - a) (by omega) (by omega)
          obtain ⟨t, ek, _, hdv, _⟩ := stepS_is (n := n + a) (d := d - a) (by omega) (by omega)
          obtain ⟨ex, rfl⟩ := hy.vsl (by rw [hr_len]; omega)
          obtain ⟨ex2, rfl⟩ := hpv.vsl (by rw [nums_len]; omega)
          have hPi : numsD (partsS n d) i = stepS (n + a) (d - a) := by
            rw [← hparts, hst]; exact numsD_app hpi
          have hPl : i < (partsS n d).length := by omega
          have hmrg' := hmrg
          rw [hst] at hmrg'
          simp only [mergeL, List.drop_drop] at hmrg'
          have hpd : hd (p.drop i) 0 = hd p i := by
            rw [hd_get (l := p.drop i) (by rw [List.length_drop]; omega), hd_get (l := p) hi, List.getElem_drop]; simp
          rw [hpd] at hmrg'
          have ht12 : t ≤ 12 := by
            rcases Nat.lt_or_ge 12 t with h | h
            · have := Nat.pow_le_pow_right (n := 2) (by decide) (show 13 ≤ t by omega)
              omega
            · exact h
          obtain ⟨hpush, hTl⟩ := opn_pushk (n := n + a) (hs := rs.reverse) (h := hd p i) ht12 hdv (by omega) hrl'
          rw [List.reverse_reverse, ← ek] at hpush
          have hrl2 : (pushR ((n + a) / stepS (n + a) (d - a)) rs (hd p i)).length = pc 13 (n + (a + stepS (n + a) (d - a))) := by
            have h1 := partsS_pos (n := n + a) (d := stepS (n + a) (d - a)) (by omega) k1
            have := merge_len (stepS (n + a) (d - a)) (n + a) (stepS (n + a) (d - a)) rs (p.drop i) (Nat.le_refl _) (by omega) hrl
            have e1 : stepS (n + a) (stepS (n + a) (d - a)) = stepS (n + a) (d - a) := StepIs.uniq (stepS_is (by omega) k1) ⟨t, ek, by omega, hdv, fun hh => by have := Nat.pow_succ (n := 2) (m := t); omega⟩
            rw [h1, e1, Nat.sub_self, partsS_zero] at this
            simp only [mergeL] at this
            rw [hpd] at this
            rw [this]; congr 1; omega
          have hmem := szs_mem (opn (n + a) rs.reverse)
          have htb : stepS (n + a) (d - a) * 2 ^ (opn (n + a) rs.reverse).length < 1000000 := by
            have h1 := Nat.pow_le_pow_right (n := 2) (by decide) hTl
            have h2 : 2 ^ t * 2 ^ (13 - t) = 2 ^ 13 := by rw [← Nat.pow_add]; congr 1; omega
            have h3 := Nat.mul_le_mul_left (2 ^ t) h1
            rw [ek]
            omega
          generalize opn (n + a) rs.reverse = T at *
          have hJ : ∀ σ2 r, σ2[r]? = some (some (trs T ++ [.int .i64 (stepS (n + a) (d - a)) :: hc (hd p i)])) → ACallsP TC 85 [.sl r 0 (T.length + 1) none 33] σ2 (fun v σ' => ∃ r', v = .sl r' 0 (joinL (stepS (n + a) (d - a), hd p i) T.reverse).length none 33 ∧ σ'[r']? = some (some (trs (joinL (stepS (n + a) (d - a), hd p i) T.reverse).reverse)) ∧ (r' = r ∨ σ2.length ≤ r') ∧ Ext σ2 σ') := fun σ2 r hg => by
            have := join_to σ2 r (stepS (n + a) (d - a), hd p i) T.reverse (by rw [hg, List.reverse_reverse, trs_app]; rfl) (by rw [List.length_reverse]; omega) (fun u hu => by
              rcases List.mem_cons.1 hu with rfl | hu
              · show stepS (n + a) (d - a) < 1000000; omega
              · have := hmem u (by simpa using hu); omega) (by rw [List.length_reverse]; exact htb)
            rwa [List.length_reverse] at this
          have hnx : n + (a + stepS (n + a) (d - a)) = n + a + stepS (n + a) (d - a) := by omega
          rw [hnx] at hrl2
          have hparts2 : (pre ++ [stepS (n + a) (d - a)]) ++ partsS (n + a + stepS (n + a) (d - a)) (d - (a + stepS (n + a) (d - a))) = partsS n d := by
            rw [List.append_assoc, List.singleton_append, ← hparts, hst, show d - (a + stepS (n + a) (d - a)) = d - a - stepS (n + a) (d - a) by omega]
          have hmrg2 : mergeL (n + a + stepS (n + a) (d - a)) (pushR ((n + a) / stepS (n + a) (d - a)) rs (hd p i)) (partsS (n + a + stepS (n + a) (d - a)) (d - (a + stepS (n + a) (d - a)))) (p.drop (i + 1)) = mergeL n hs.reverse (partsS n d) p := by
            rw [show d - (a + stepS (n + a) (d - a)) = d - a - stepS (n + a) (d - a) by omega]; exact hmrg'
          clear hmrg hmrg' hparts hst hpv hPt hO hdv
          generalize pushR ((n + a) / stepS (n + a) (d - a)) rs (hd p i) = rs2 at *
          generalize stepS (n + a) (d - a) = k at *
          have hJx : ∀ (σ2 : Store) (r : Nat), ∃ v σ', ∃ r', v = AV.sl r' 0 (joinL (k, hd p i) T.reverse).length none 33 ∧ σ'[r']? = some (some (trs (joinL (k, hd p i) T.reverse).reverse)) ∧ (r' = r ∨ σ2.length ≤ r') ∧ Ext σ2 σ' := fun σ2 r =>
            ⟨_, σ2 ++ [some (trs (joinL (k, hd p i) T.reverse).reverse)], σ2.length, rfl, by simp, .inr (Nat.le_refl _), _, rfl⟩
          have rdO : ∀ {σ2 : Store} {r' : Nat}, σ2[r']? = some (some (trs (joinL (k, hd p i) T.reverse).reverse)) → RdSl σ2 33 (trs (joinL (k, hd p i) T.reverse).reverse) (.sl r' 0 (joinL (k, hd p i) T.reverse).length none 33) := fun h =>
            .inr ⟨_, 0, none, _, by rw [trs_len, List.length_reverse], h, by rw [trs_len]; omega, by simp⟩
          rcases hR with (⟨hv1, hnil⟩ | ⟨ex3, hv1⟩) | ⟨r0, off, lim, o, hv1, hg, h1, h2⟩
          · subst hv1
            obtain rfl := trs_nil_iff.1 hnil
            repeat' (first | refine SWp.seq ?_ | refine SWp.block ?_ | refine SWp.scope ?_ | refine SWp.condT rfl ?_ | refine SWp.condF rfl ?_ | (refine SWp.condD rfl (fun ht => ?_) (fun ht => ?_) <;> try (exfalso; omega)) | ((first | refine SWp.reg ?_ | refine SWp.skip ?_ | refine SWp.exit ?_ | refine SWp.ret ?_ | ((first | apply splitG | apply splitGB | apply splitR | apply splitRB | apply splitE | apply splitEB | apply splitC | apply splitCB) <;> intro ht)); all_goals try simp (disch := first | omega | (simp only [lens, hc_len, hr_len, trs_len, nums_len, List.length_reverse]; first | done | omega)) only [go_sem, Nat.reduceEqDiff, Nat.reduceBEq, Nat.reduceAdd, Nat.reduceMul, Nat.reduceSub, Nat.reduceLeDiff, Int.reduceToNat, Int.reducePow, q2, q6, q7, q8, q9, q10, r1, r6, c1, hPi, numsR]))
            refine callW.mkP (hJ _ (σ'.length) (by simp [trs])) (hJx _ _) ?_
            rintro _ σ3 ⟨r', rfl, hg3, hr3, he3⟩
            obtain ⟨y3, rfl⟩ := he3
            repeat' (first | refine SWp.seq ?_ | refine SWp.block ?_ | refine SWp.scope ?_ | refine SWp.condT rfl ?_ | refine SWp.condF rfl ?_ | (refine SWp.condD rfl (fun ht => ?_) (fun ht => ?_) <;> try (exfalso; omega)) | ((first | refine SWp.reg ?_ | refine SWp.skip ?_ | refine SWp.exit ?_ | refine SWp.ret ?_ | ((first | apply splitG | apply splitGB | apply splitR | apply splitRB | apply splitE | apply splitEB | apply splitC | apply splitCB) <;> intro ht)); all_goals try simp (disch := first | omega | (simp only [lens, hc_len, hr_len, trs_len, nums_len, List.length_reverse]; first | done | omega)) only [go_sem, Nat.reduceEqDiff, Nat.reduceBEq, Nat.reduceAdd, Nat.reduceMul, Nat.reduceSub, Nat.reduceLeDiff, Int.reduceToNat, Int.reducePow, q2, q6, q7, q8, q9, q10, r1, r6, c1, hPi, numsR]))
            exact ⟨p.length - (i + 1), by omega, a + k, i + 1, rs2, _, pre ++ [k], by omega, by omega, by rw [hnx]; exact hparts2, by simp [hpi], by rw [hnx]; exact hmrg2, by rw [hnx]; exact hrl2, by rw [hnx, ← hpush]; exact rdO (by simpa using hg3), he.app, rfl, by simp⟩
          · subst hv1
            by_cases h0 : T.length = 0
            · obtain rfl := List.eq_nil_of_length_eq_zero h0
              repeat' (first | refine SWp.seq ?_ | refine SWp.block ?_ | refine SWp.scope ?_ | refine SWp.condT rfl ?_ | refine SWp.condF rfl ?_ | (refine SWp.condD rfl (fun ht => ?_) (fun ht => ?_) <;> try (exfalso; omega)) | ((first | refine SWp.reg ?_ | refine SWp.skip ?_ | refine SWp.exit ?_ | refine SWp.ret ?_ | ((first | apply splitG | apply splitGB | apply splitR | apply splitRB | apply splitE | apply splitEB | apply splitC | apply splitCB) <;> intro ht)); all_goals try simp (disch := first | omega | (simp only [lens, hc_len, hr_len, trs_len, nums_len, List.length_reverse]; first | done | omega)) only [go_sem, Nat.reduceEqDiff, Nat.reduceBEq, Nat.reduceAdd, Nat.reduceMul, Nat.reduceSub, Nat.reduceLeDiff, Int.reduceToNat, Int.reducePow, q2, q6, q7, q8, q9, q10, r1, r6, c1, hPi, numsR, trs_nil]))
              refine callW.mkP (hJ _ (σ'.length) (by simp [trs])) (hJx _ _) ?_
              rintro _ σ3 ⟨r', rfl, hg3, hr3, he3⟩
              obtain ⟨y3, rfl⟩ := he3
              repeat' (first | refine SWp.seq ?_ | refine SWp.block ?_ | refine SWp.scope ?_ | refine SWp.condT rfl ?_ | refine SWp.condF rfl ?_ | (refine SWp.condD rfl (fun ht => ?_) (fun ht => ?_) <;> try (exfalso; omega)) | ((first | refine SWp.reg ?_ | refine SWp.skip ?_ | refine SWp.exit ?_ | refine SWp.ret ?_ | ((first | apply splitG | apply splitGB | apply splitR | apply splitRB | apply splitE | apply splitEB | apply splitC | apply splitCB) <;> intro ht)); all_goals try simp (disch := first | omega | (simp only [lens, hc_len, hr_len, trs_len, nums_len, List.length_reverse]; first | done | omega)) only [go_sem, Nat.reduceEqDiff, Nat.reduceBEq, Nat.reduceAdd, Nat.reduceMul, Nat.reduceSub, Nat.reduceLeDiff, Int.reduceToNat, Int.reducePow, q2, q6, q7, q8, q9, q10, r1, r6, c1, hPi, numsR]))
              exact ⟨p.length - (i + 1), by omega, a + k, i + 1, rs2, _, pre ++ [k], by omega, by omega, by rw [hnx]; exact hparts2, by simp [hpi], by rw [hnx]; exact hmrg2, by rw [hnx]; exact hrl2, by rw [hnx, ← hpush]; exact rdO (by simpa using hg3), he.app, rfl, by simp⟩
            · repeat' (first | refine SWp.seq ?_ | refine SWp.block ?_ | refine SWp.scope ?_ | refine SWp.condT rfl ?_ | refine SWp.condF rfl ?_ | (refine SWp.condD rfl (fun ht => ?_) (fun ht => ?_) <;> try (exfalso; omega)) | ((first | refine SWp.reg ?_ | refine SWp.skip ?_ | refine SWp.exit ?_ | refine SWp.ret ?_ | ((first | apply splitG | apply splitGB | apply splitR | apply splitRB | apply splitE | apply splitEB | apply splitC | apply splitCB) <;> intro ht)); all_goals try simp (disch := first | omega | (simp only [lens, hc_len, hr_len, trs_len, nums_len, List.length_reverse]; first | done | omega)) only [go_sem, Nat.reduceEqDiff, Nat.reduceBEq, Nat.reduceAdd, Nat.reduceMul, Nat.reduceSub, Nat.reduceLeDiff, Int.reduceToNat, Int.reducePow, q2, q6, q7, q8, q9, q10, r1, r6, c1, hPi, numsR]))
              refine callW.mkP (hJ _ (σ'.length + 1) (by simp)) (hJx _ _) ?_
              rintro _ σ3 ⟨r', rfl, hg3, hr3, he3⟩
              obtain ⟨y3, rfl⟩ := he3
              repeat' (first | refine SWp.seq ?_ | refine SWp.block ?_ | refine SWp.scope ?_ | refine SWp.condT rfl ?_ | refine SWp.condF rfl ?_ | (refine SWp.condD rfl (fun ht => ?_) (fun ht => ?_) <;> try (exfalso; omega)) | ((first | refine SWp.reg ?_ | refine SWp.skip ?_ | refine SWp.exit ?_ | refine SWp.ret ?_ | ((first | apply splitG | apply splitGB | apply splitR | apply splitRB | apply splitE | apply splitEB | apply splitC | apply splitCB) <;> intro ht)); all_goals try simp (disch := first | omega | (simp only [lens, hc_len, hr_len, trs_len, nums_len, List.length_reverse]; first | done | omega)) only [go_sem, Nat.reduceEqDiff, Nat.reduceBEq, Nat.reduceAdd, Nat.reduceMul, Nat.reduceSub, Nat.reduceLeDiff, Int.reduceToNat, Int.reducePow, q2, q6, q7, q8, q9, q10, r1, r6, c1, hPi, numsR]))
              exact ⟨p.length - (i + 1), by omega, a + k, i + 1, rs2, _, pre ++ [k], by omega, by omega, by rw [hnx]; exact hparts2, by simp [hpi], by rw [hnx]; exact hmrg2, by rw [hnx]; exact hrl2, by rw [hnx, ← hpush]; exact rdO (by simpa using hg3), he.app, rfl, by simp⟩
          · subst hv1
            have dg := slen hg
            by_cases h0 : T.length = 0
            · obtain rfl := List.eq_nil_of_length_eq_zero h0
              rw [trs_nil] at h1 h2
              repeat' (first | refine SWp.seq ?_ | refine SWp.block ?_ | refine SWp.scope ?_ | refine SWp.condT rfl ?_ | refine SWp.condF rfl ?_ | (refine SWp.condD rfl (fun ht => ?_) (fun ht => ?_) <;> try (exfalso; omega)) | ((first | refine SWp.reg ?_ | refine SWp.skip ?_ | refine SWp.exit ?_ | refine SWp.ret ?_ | ((first | apply splitG | apply splitGB | apply splitR | apply splitRB | apply splitE | apply splitEB | apply splitC | apply splitCB) <;> intro ht)); all_goals try simp (disch := first | omega | (simp only [lens, hc_len, hr_len, trs_len, nums_len, List.length_reverse]; first | done | omega)) only [go_sem, Nat.reduceEqDiff, Nat.reduceBEq, Nat.reduceAdd, Nat.reduceMul, Nat.reduceSub, Nat.reduceLeDiff, Int.reduceToNat, Int.reducePow, q2, q6, q7, q8, q9, q10, r1, r6, c1, hPi, numsR, hg, h1, h2]))
              refine callW.mkP (hJ _ (σ'.length) (by simp [trs])) (hJx _ _) ?_
              rintro _ σ3 ⟨r', rfl, hg3, hr3, he3⟩
              obtain ⟨y3, rfl⟩ := he3
              repeat' (first | refine SWp.seq ?_ | refine SWp.block ?_ | refine SWp.scope ?_ | refine SWp.condT rfl ?_ | refine SWp.condF rfl ?_ | (refine SWp.condD rfl (fun ht => ?_) (fun ht => ?_) <;> try (exfalso; omega)) | ((first | refine SWp.reg ?_ | refine SWp.skip ?_ | refine SWp.exit ?_ | refine SWp.ret ?_ | ((first | apply splitG | apply splitGB | apply splitR | apply splitRB | apply splitE | apply splitEB | apply splitC | apply splitCB) <;> intro ht)); all_goals try simp (disch := first | omega | (simp only [lens, hc_len, hr_len, trs_len, nums_len, List.length_reverse]; first | done | omega)) only [go_sem, Nat.reduceEqDiff, Nat.reduceBEq, Nat.reduceAdd, Nat.reduceMul, Nat.reduceSub, Nat.reduceLeDiff, Int.reduceToNat, Int.reducePow, q2, q6, q7, q8, q9, q10, r1, r6, c1, hPi, numsR]))
              exact ⟨p.length - (i + 1), by omega, a + k, i + 1, rs2, _, pre ++ [k], by omega, by omega, by rw [hnx]; exact hparts2, by simp [hpi], by rw [hnx]; exact hmrg2, by rw [hnx]; exact hrl2, by rw [hnx, ← hpush]; exact rdO (by simpa using hg3), he.app, rfl, by simp⟩
            · rw [trs_len] at h1 h2
              repeat' (first | refine SWp.seq ?_ | refine SWp.block ?_ | refine SWp.scope ?_ | refine SWp.condT rfl ?_ | refine SWp.condF rfl ?_ | (refine SWp.condD rfl (fun ht => ?_) (fun ht => ?_) <;> try (exfalso; omega)) | ((first | refine SWp.reg ?_ | refine SWp.skip ?_ | refine SWp.exit ?_ | refine SWp.ret ?_ | ((first | apply splitG | apply splitGB | apply splitR | apply splitRB | apply splitE | apply splitEB | apply splitC | apply splitCB) <;> intro ht)); all_goals try simp (disch := first | omega | (simp only [lens, hc_len, hr_len, trs_len, nums_len, List.length_reverse]; first | done | omega)) only [go_sem, Nat.reduceEqDiff, Nat.reduceBEq, Nat.reduceAdd, Nat.reduceMul, Nat.reduceSub, Nat.reduceLeDiff, Int.reduceToNat, Int.reducePow, q2, q6, q7, q8, q9, q10, r1, r6, c1, hPi, numsR, hg, h1, h2]))
              refine callW.mkP (hJ _ (σ'.length + 1) (by simp)) (hJx _ _) ?_
              rintro _ σ3 ⟨r', rfl, hg3, hr3, he3⟩
              obtain ⟨y3, rfl⟩ := he3
              repeat' (first | refine SWp.seq ?_ | refine SWp.block ?_ | refine SWp.scope ?_ | refine SWp.condT rfl ?_ | refine SWp.condF rfl ?_ | (refine SWp.condD rfl (fun ht => ?_) (fun ht => ?_) <;> try (exfalso; omega)) | ((first | refine SWp.reg ?_ | refine SWp.skip ?_ | refine SWp.exit ?_ | refine SWp.ret ?_ | ((first | apply splitG | apply splitGB | apply splitR | apply splitRB | apply splitE | apply splitEB | apply splitC | apply splitCB) <;> intro ht)); all_goals try simp (disch := first | omega | (simp only [lens, hc_len, hr_len, trs_len, nums_len, List.length_reverse]; first | done | omega)) only [go_sem, Nat.reduceEqDiff, Nat.reduceBEq, Nat.reduceAdd, Nat.reduceMul, Nat.reduceSub, Nat.reduceLeDiff, Int.reduceToNat, Int.reducePow, q2, q6, q7, q8, q9, q10, r1, r6, c1, hPi, numsR]))
              exact ⟨p.length - (i + 1), by omega, a + k, i + 1, rs2, _, pre ++ [k], by omega, by omega, by rw [hnx]; exact hparts2, by simp [hpi], by rw [hnx]; exact hmrg2, by rw [hnx]; exact hrl2, by rw [hnx, ← hpush]; exact rdO (by simpa using hg3), he.app, rfl, by simp⟩
        · obtain rfl : i = p.length := by omega
          have hda : a = d := by
            rcases Nat.lt_or_ge a d with h | h
            · exfalso
              have := partsS_pos (n := n + a) (d := d - a) (by omega) (by omega)
              rw [this] at hparts
              have := congrArg List.length hparts
              rw [List.length_append, List.length_cons] at this
              omega
            · omega
          subst hda
          rw [Nat.sub_self, partsS_zero] at hmrg
          simp only [mergeL] at hmrg
          rw [← hmrg]
          have hC := fun y => close_to (σ' ++ y) v _ hR.app (by omega) (by omega)
          rw [s1, s2] at hC
          have hC0 := hC []
          rw [List.append_nil] at hC0
          repeat' (first | refine SWp.seq ?_ | refine SWp.block ?_ | refine SWp.scope ?_ | refine SWp.condT rfl ?_ | refine SWp.condF rfl ?_ | (refine SWp.condD rfl (fun ht => ?_) (fun ht => ?_) <;> try (exfalso; omega)) | ((first | refine SWp.reg ?_ | refine SWp.skip ?_ | refine SWp.exit ?_ | refine SWp.ret ?_ | (apply callW.mk_pu; (first | exact (fun _ => hC0))) | (apply callW.any; (first | exact (hC0))) | ((first | apply splitG | apply splitGB | apply splitR | apply splitRB | apply splitE | apply splitEB | apply splitC | apply splitCB) <;> intro ht)); all_goals try simp (disch := first | omega | (simp only [lens, hc_len, hr_len, trs_len, nums_len, List.length_reverse]; first | done | omega)) only [go_sem, Nat.reduceEqDiff, Nat.reduceBEq, Nat.reduceAdd, Nat.reduceMul, Nat.reduceSub, Nat.reduceLeDiff, Int.reduceToNat, Int.reducePow, q2, q6, q7, q8, q9, q10, r1, r6, hlen', c1]))
          exact Ext.pure hw (he.set (by omega)) (rl_rg (rl_slVal (rlss_hr _)))
    · rw [if_pos (by simpa using hlen)]
      have hlen' : ¬ ((partsS n d).length : Int) = p.length := by omega
      refine ACallsTo.of_body speculumref05_Merge_ok (by simp) fun hw _ => ?_
      repeat' (first | refine SWp.seq ?_ | refine SWp.block ?_ | refine SWp.scope ?_ | refine SWp.condT rfl ?_ | refine SWp.condF rfl ?_ | (refine SWp.condD rfl (fun ht => ?_) (fun ht => ?_) <;> try (exfalso; omega)) | ((first | refine SWp.reg ?_ | refine SWp.skip ?_ | refine SWp.exit ?_ | refine SWp.ret ?_ | (apply callW.mk_pu; (first | exact (fun _ => hV _) | exact (fun _ => hPt _))) | (apply callW.any; (first | exact (hV _) | exact (hPt _))) | ((first | apply splitG | apply splitGB | apply splitR | apply splitRB | apply splitE | apply splitEB | apply splitC | apply splitCB) <;> intro ht)); all_goals try simp (disch := first | omega | (simp only [lens, hc_len, hr_len, trs_len, nums_len, List.length_reverse]; first | done | omega)) only [go_sem, Nat.reduceEqDiff, Nat.reduceBEq, Nat.reduceAdd, Nat.reduceMul, Nat.reduceSub, Nat.reduceLeDiff, Int.reduceToNat, Int.reducePow, r1, r6, hlen']))
      exact DownV.pure hw (rl_rg (by simp [RL]))
end Am
end Go.Proofs.YthgcooppjhcgcaaDoor
end
section
set_option linter.unusedSimpArgs false
set_option linter.unusedVariables false
/- Ranges: the law RangesTell: its contract. -/
namespace Go.Proofs.YthgcooppjhcgcaaDoor
namespace Am
theorem mrg_cmp {σ : Store} {n size : Int} {hs p : List Hash} {x : AV} (hx : RdSl σ 32 (hr hs) x) : ∃ n' z w e L, mrgA n size hs p x = .tup [.agg [.int .i64 n', z], .int .i64 e] ∧ mrgB n size hs p = .tup [.agg [.int .i64 n', w], .int .i64 e] ∧ SlV 32 (hr L) z ∧ SlV 32 (hr L) w ∧ L.length < 1000 := by
  have nil : SlV 32 (hr []) .nilsl := .inl ⟨rfl, rfl⟩
  unfold mrgA mrgB
  by_cases hb : validR n hs.length = false ∨ size < n ∨ 4096 < size
  · rw [if_pos hb, if_pos hb]
    exact ⟨0, .nilsl, .nilsl, 2, [], rfl, rfl, nil, nil, by simp⟩
  · rw [if_neg hb, if_neg hb]
    by_cases hl : (partsS n.toNat (size - n).toNat).length = p.length
    · rw [if_neg (by simp [hl]), if_neg (by simp [hl])]
      have hv : validR n hs.length = true := by
        cases h : validR n hs.length
        · exact absurd (.inl h) hb
        · rfl
      have hv2 := of_decide_eq_true hv
      refine ⟨_, _, _, 0, (mergeL n.toNat hs.reverse (partsS n.toNat (size - n).toNat) p).reverse, rfl, rfl, zv_slv (σ := σ) fun h => ?_, slVal_is _ _, ?_⟩
      · have : size = n := of_decide_eq_true h
        subst this
        rw [show (size - size).toNat = 0 by omega, partsS_zero]
        simpa [mergeL] using hx
      · have := merge_len (size - n).toNat n.toNat (size - n).toNat hs.reverse p (Nat.le_refl _) (by omega) (by rw [List.length_reverse, hv2.2.2, pc13 (by omega)])
        rw [List.length_reverse, this]
        exact Nat.lt_of_le_of_lt (pc_le _ _) (by decide)
    · rw [if_pos (by simpa using hl), if_pos (by simpa using hl)]
      exact ⟨0, .nilsl, .nilsl, 2, [], rfl, rfl, nil, nil, by simp⟩
theorem rootA_is (n : Int) (hs : List Hash) : ∃ H e, rootA n hs = .tup [.agg (hc H), .int .i64 e] := by
  unfold rootA
  split
  · exact ⟨_, _, rfl⟩
  · exact ⟨_, _, rfl⟩
attribute [local irreducible] ACallsTo ACallsP
set_option maxHeartbeats 32000000 in
theorem RangesTell_tail (n size : Int) (hs l : List Hash) (x y : AV) (hx : SlV 32 (hr hs) x) (hy : SlV 32 (hr l) y) (hn : -9223372036854775808 ≤ n ∧ n ≤ 9223372036854775807) (hsz : -9223372036854775808 ≤ size ∧ size ≤ 9223372036854775807) (hhl : hs.length ≤ 100) (hl : l.length ≤ 60)
    (hw : Wf 0 []) (ρ : Env) (σ' : Store) (ro : Nat) (z : AV) (c0 : σ'[0]? = some (some [[.int .i64 n, x]])) (co : σ'[ro]? = some (some [[.int .i64 n, z]])) (hz : RdSl σ' 32 (hr hs) z) (zc : cellsOf z = some [z])
    (q1 : ρ 1 = y) (q2 : ρ 2 = .int .i64 size) (q3 : ρ 3 = .ptr 0 0 0) (q7 : ρ 7 = .ptr ro 0 0) :
    SWp TC 135 0 speculumlaw05_RangesTell_c55 (endQ 0 [RV.t 6] (AV.bool true) []) ρ σ' := by
  have r1 := hy.len
  rw [hr_len] at r1
  unfold rLenSl at r1
  have xc := slv_cells hx
  unfold cellsOf at xc zc
  have d0 := slen c0
  have do' := slen co
  obtain ⟨n1, z1, w1, e1, L1, ea, eb, s1, t1, hL1⟩ := ext_cmp (n := n) (hs := hs) (l := l) hz
  have hE1 := Extend_v σ' n hs l z y hz hy hn (by omega) (by omega)
  rw [ea] at hE1
  have hE2 := fun σ => refExtend_to σ n hs l x y hx hy hn (by omega)
  simp only [eb] at hE2
  obtain ⟨H, e2, eR⟩ := rootA_is n hs
  have hR1 := fun y => Root_h (σ' ++ y) n hs z hz.app (by omega) hn
  have hR2 := fun σ => refRoot_h σ n hs x (.of hx) (by omega)
  simp only [eR] at hR1 hR2
  have hS1 := fun σ => refSame_h σ n1 n1 L1 L1 z1 w1 (.of s1) (.of t1) (by omega) (by omega)
  have hS2 := fun y => refSame_h (σ' ++ y) n n hs hs z x hz.app (.of hx) (by omega) (by omega)
  simp only [and_self, decide_true] at hS1 hS2
  have hV1 := fun y => ranges_Valid_h (σ' ++ y) n hs z hz.app
  have hV2 := fun σ => ref_Valid_h σ n hs x (.of hx)
  generalize validR n hs.length = vb at hV1 hV2
  have zc1 := slv_cells s1
  have wc1 := slv_cells t1
  unfold cellsOf at zc1 wc1
  have hM1 := fun m (hm : -9223372036854775808 ≤ m ∧ m ≤ 9223372036854775807) y' => Merge_v (σ' ++ y') n m hs l z y hz.app hy hn hm (by omega) (by omega)
  have hM2 := fun m (hm : -9223372036854775808 ≤ m ∧ m ≤ 9223372036854775807) σ => refMerge_v σ n m hs l x y hx hy hn hm (by omega)
  clear ea eb eR
  repeat' (first | refine SWp.seq ?_ | refine SWp.block ?_ | refine SWp.scope ?_ | refine SWp.condT rfl ?_ | refine SWp.condF rfl ?_ | (refine SWp.condD rfl (fun ht => ?_) (fun ht => ?_) <;> try (exfalso; omega)) | ((first | refine SWp.reg ?_ | refine SWp.skip ?_ | refine SWp.exit ?_ | refine SWp.ret ?_ | (apply callW.mk_pu; (first | exact (fun _ => hE1) | exact (fun _ => hE2 _) | exact (fun _ => hR1 _) | exact (fun _ => hR2 _) | exact (fun _ => hS1 _) | exact (fun _ => hV1 _) | exact (fun _ => hV2 _))) | (apply callW.any; (first | exact (hE1) | exact (hE2 _) | exact (hR1 _) | exact (hR2 _) | exact (hS1 _) | exact (hV1 _) | exact (hV2 _))) | ((first | apply splitG | apply splitGB | apply splitR | apply splitRB | apply splitE | apply splitEB | apply splitC | apply splitCB) <;> intro ht)); all_goals try simp (disch := first | omega | (simp only [lens, hc_len, hr_len, trs_len, nums_len, List.length_reverse]; first | done | omega)) only [go_sem, Nat.reduceEqDiff, Nat.reduceBEq, Nat.reduceAdd, Nat.reduceMul, Nat.reduceSub, Nat.reduceLeDiff, Int.reduceToNat, Int.reducePow, q1, q2, q3, q7, c0, co, xc, zc, zc1, wc1, bne_self_eq_false]))
  refine SWp.loop (fun m ρ τ => ∃ k : Nat, m + k = 3 ∧ (∃ y', τ = σ' ++ y') ∧
    ρ 1 = y ∧ ρ 2 = .int .i64 size ∧ ρ 3 = .ptr 0 0 0 ∧ ρ 7 = .ptr ro 0 0 ∧ ρ 16 = .int .i64 k) 3 ?_ ?_
  · exact ⟨0, by omega, ⟨_, rfl⟩, by simp (disch := first | omega | (simp only [lens, hc_len, hr_len, trs_len, nums_len, List.length_reverse]; first | done | omega)) only [go_sem, Nat.reduceEqDiff, Nat.reduceBEq, Nat.reduceAdd, Nat.reduceMul, Nat.reduceSub, Nat.reduceLeDiff, Int.reduceToNat, Int.reducePow, q1], by simp (disch := first | omega | (simp only [lens, hc_len, hr_len, trs_len, nums_len, List.length_reverse]; first | done | omega)) only [go_sem, Nat.reduceEqDiff, Nat.reduceBEq, Nat.reduceAdd, Nat.reduceMul, Nat.reduceSub, Nat.reduceLeDiff, Int.reduceToNat, Int.reducePow, q2], by simp (disch := first | omega | (simp only [lens, hc_len, hr_len, trs_len, nums_len, List.length_reverse]; first | done | omega)) only [go_sem, Nat.reduceEqDiff, Nat.reduceBEq, Nat.reduceAdd, Nat.reduceMul, Nat.reduceSub, Nat.reduceLeDiff, Int.reduceToNat, Int.reducePow, q3], by simp (disch := first | omega | (simp only [lens, hc_len, hr_len, trs_len, nums_len, List.length_reverse]; first | done | omega)) only [go_sem, Nat.reduceEqDiff, Nat.reduceBEq, Nat.reduceAdd, Nat.reduceMul, Nat.reduceSub, Nat.reduceLeDiff, Int.reduceToNat, Int.reducePow, q7], by simp (disch := first | omega | (simp only [lens, hc_len, hr_len, trs_len, nums_len, List.length_reverse]; first | done | omega)) only [go_sem, Nat.reduceEqDiff, Nat.reduceBEq, Nat.reduceAdd, Nat.reduceMul, Nat.reduceSub, Nat.reduceLeDiff, Int.reduceToNat, Int.reducePow]; rfl⟩
  · clear hE1 hE2 hR1 hR2 hS1 hV1 hV2 q1 q2 q3 q7 s1 t1 zc1 wc1 hL1
    rintro m ρ τ ⟨k, hm, ⟨y', rfl⟩, q1, q2, q3, q7, q16⟩
    by_cases hk : k < 3
    · by_cases hk0 : k = 0
      · subst hk0
        obtain ⟨n2, z2, w2, e3, L2, ea, eb, s2, t2, hL2⟩ := mrg_cmp (n := n) (size := size) (hs := hs) (p := l) hz
        have hA1 := fun y' => Merge_v (σ' ++ y') n (size) hs l z y hz.app hy hn hsz (by omega) (by omega)
        have hA2 := fun σ => refMerge_v σ n (size) hs l x y hx hy hn hsz (by omega)
        simp only [ea] at hA1
        simp only [eb] at hA2
        have hS3 := fun σ => refSame_h σ n2 n2 L2 L2 z2 w2 (.of s2) (.of t2) (by omega) (by omega)
        simp only [and_self, decide_true] at hS3
        have zc2 := slv_cells s2
        have wc2 := slv_cells t2
        unfold cellsOf at zc2 wc2
        clear ea eb
        repeat' (first | refine SWp.seq ?_ | refine SWp.block ?_ | refine SWp.scope ?_ | refine SWp.condT rfl ?_ | refine SWp.condF rfl ?_ | (refine SWp.condD rfl (fun ht => ?_) (fun ht => ?_) <;> try (exfalso; omega)) | ((first | refine SWp.reg ?_ | refine SWp.skip ?_ | refine SWp.exit ?_ | refine SWp.ret ?_ | (apply callW.mk_pu; (first | exact (fun _ => hA1 _) | exact (fun _ => hA2 _) | exact (fun _ => hS3 _))) | (apply callW.any; (first | exact (hA1 _) | exact (hA2 _) | exact (hS3 _))) | ((first | apply splitG | apply splitGB | apply splitR | apply splitRB | apply splitE | apply splitEB | apply splitC | apply splitCB) <;> intro ht)); all_goals try simp (disch := first | omega | (simp only [lens, hc_len, hr_len, trs_len, nums_len, List.length_reverse]; first | done | omega)) only [go_sem, Nat.reduceEqDiff, Nat.reduceBEq, Nat.reduceAdd, Nat.reduceMul, Nat.reduceSub, Nat.reduceLeDiff, Int.reduceToNat, Int.reducePow, q1, q2, q3, q7, q16, c0, co, r1, xc, zc, bne_self_eq_false, zc2, wc2]))
        exact ⟨2, by omega, 1, by omega, ⟨_, by simp; rfl⟩, by simp⟩
      · by_cases hk1 : k = 1
        · subst hk1
          by_cases h5 : n < 5000
          · obtain ⟨n2, z2, w2, e3, L2, ea, eb, s2, t2, hL2⟩ := mrg_cmp (n := n) (size := n + l.length) (hs := hs) (p := l) hz
            have hA1 := fun y' => Merge_v (σ' ++ y') n (n + l.length) hs l z y hz.app hy hn (by omega) (by omega) (by omega)
            have hA2 := fun σ => refMerge_v σ n (n + l.length) hs l x y hx hy hn (by omega) (by omega)
            simp only [ea] at hA1
            simp only [eb] at hA2
            have hS3 := fun σ => refSame_h σ n2 n2 L2 L2 z2 w2 (.of s2) (.of t2) (by omega) (by omega)
            simp only [and_self, decide_true] at hS3
            have zc2 := slv_cells s2
            have wc2 := slv_cells t2
            unfold cellsOf at zc2 wc2
            clear ea eb
            repeat' (first | refine SWp.seq ?_ | refine SWp.block ?_ | refine SWp.scope ?_ | refine SWp.condT rfl ?_ | refine SWp.condF rfl ?_ | (refine SWp.condD rfl (fun ht => ?_) (fun ht => ?_) <;> try (exfalso; omega)) | ((first | refine SWp.reg ?_ | refine SWp.skip ?_ | refine SWp.exit ?_ | refine SWp.ret ?_ | (apply callW.mk_pu; (first | exact (fun _ => hA1 _) | exact (fun _ => hA2 _) | exact (fun _ => hS3 _))) | (apply callW.any; (first | exact (hA1 _) | exact (hA2 _) | exact (hS3 _))) | ((first | apply splitG | apply splitGB | apply splitR | apply splitRB | apply splitE | apply splitEB | apply splitC | apply splitCB) <;> intro ht)); all_goals try simp (disch := first | omega | (simp only [lens, hc_len, hr_len, trs_len, nums_len, List.length_reverse]; first | done | omega)) only [go_sem, Nat.reduceEqDiff, Nat.reduceBEq, Nat.reduceAdd, Nat.reduceMul, Nat.reduceSub, Nat.reduceLeDiff, Int.reduceToNat, Int.reducePow, q1, q2, q3, q7, q16, c0, co, r1, xc, zc, bne_self_eq_false, zc2, wc2, h5]))
            exact ⟨1, by omega, 2, by omega, ⟨_, by simp; rfl⟩, by simp⟩
          · obtain ⟨n2, z2, w2, e3, L2, ea, eb, s2, t2, hL2⟩ := mrg_cmp (n := n) (size := size) (hs := hs) (p := l) hz
            have hA1 := fun y' => Merge_v (σ' ++ y') n (size) hs l z y hz.app hy hn hsz (by omega) (by omega)
            have hA2 := fun σ => refMerge_v σ n (size) hs l x y hx hy hn hsz (by omega)
            simp only [ea] at hA1
            simp only [eb] at hA2
            have hS3 := fun σ => refSame_h σ n2 n2 L2 L2 z2 w2 (.of s2) (.of t2) (by omega) (by omega)
            simp only [and_self, decide_true] at hS3
            have zc2 := slv_cells s2
            have wc2 := slv_cells t2
            unfold cellsOf at zc2 wc2
            clear ea eb
            repeat' (first | refine SWp.seq ?_ | refine SWp.block ?_ | refine SWp.scope ?_ | refine SWp.condT rfl ?_ | refine SWp.condF rfl ?_ | (refine SWp.condD rfl (fun ht => ?_) (fun ht => ?_) <;> try (exfalso; omega)) | ((first | refine SWp.reg ?_ | refine SWp.skip ?_ | refine SWp.exit ?_ | refine SWp.ret ?_ | (apply callW.mk_pu; (first | exact (fun _ => hA1 _) | exact (fun _ => hA2 _) | exact (fun _ => hS3 _))) | (apply callW.any; (first | exact (hA1 _) | exact (hA2 _) | exact (hS3 _))) | ((first | apply splitG | apply splitGB | apply splitR | apply splitRB | apply splitE | apply splitEB | apply splitC | apply splitCB) <;> intro ht)); all_goals try simp (disch := first | omega | (simp only [lens, hc_len, hr_len, trs_len, nums_len, List.length_reverse]; first | done | omega)) only [go_sem, Nat.reduceEqDiff, Nat.reduceBEq, Nat.reduceAdd, Nat.reduceMul, Nat.reduceSub, Nat.reduceLeDiff, Int.reduceToNat, Int.reducePow, q1, q2, q3, q7, q16, c0, co, r1, xc, zc, bne_self_eq_false, zc2, wc2, h5]))
            exact ⟨1, by omega, 2, by omega, ⟨_, by simp; rfl⟩, by simp⟩
        · obtain rfl : k = 2 := by omega
          have mk : intBin .and .i64 size 4095 = some (.int .i64 (size % 4096)) := by have := and_mask size 12 (by decide); simpa using this
          obtain ⟨n2, z2, w2, e3, L2, ea, eb, s2, t2, hL2⟩ := mrg_cmp (n := n) (size := 1 + size % 4096) (hs := hs) (p := l) hz
          have hA1 := fun y' => Merge_v (σ' ++ y') n (1 + size % 4096) hs l z y hz.app hy hn (by omega) (by omega) (by omega)
          have hA2 := fun σ => refMerge_v σ n (1 + size % 4096) hs l x y hx hy hn (by omega) (by omega)
          simp only [ea] at hA1
          simp only [eb] at hA2
          have hS3 := fun σ => refSame_h σ n2 n2 L2 L2 z2 w2 (.of s2) (.of t2) (by omega) (by omega)
          simp only [and_self, decide_true] at hS3
          have zc2 := slv_cells s2
          have wc2 := slv_cells t2
          unfold cellsOf at zc2 wc2
          clear ea eb
          repeat' (first | refine SWp.seq ?_ | refine SWp.block ?_ | refine SWp.scope ?_ | refine SWp.condT rfl ?_ | refine SWp.condF rfl ?_ | (refine SWp.condD rfl (fun ht => ?_) (fun ht => ?_) <;> try (exfalso; omega)) | ((first | refine SWp.reg ?_ | refine SWp.skip ?_ | refine SWp.exit ?_ | refine SWp.ret ?_ | (apply callW.mk_pu; (first | exact (fun _ => hA1 _) | exact (fun _ => hA2 _) | exact (fun _ => hS3 _))) | (apply callW.any; (first | exact (hA1 _) | exact (hA2 _) | exact (hS3 _))) | ((first | apply splitG | apply splitGB | apply splitR | apply splitRB | apply splitE | apply splitEB | apply splitC | apply splitCB) <;> intro ht)); all_goals try simp (disch := first | omega | (simp only [lens, hc_len, hr_len, trs_len, nums_len, List.length_reverse]; first | done | omega)) only [go_sem, Nat.reduceEqDiff, Nat.reduceBEq, Nat.reduceAdd, Nat.reduceMul, Nat.reduceSub, Nat.reduceLeDiff, Int.reduceToNat, Int.reducePow, q1, q2, q3, q7, q16, c0, co, r1, xc, zc, bne_self_eq_false, zc2, wc2, mk]))
          exact ⟨0, by omega, 3, by omega, ⟨_, by simp; rfl⟩, by simp⟩
    · obtain rfl : k = 3 := by omega
      repeat' (first | refine SWp.seq ?_ | refine SWp.block ?_ | refine SWp.scope ?_ | refine SWp.condT rfl ?_ | refine SWp.condF rfl ?_ | (refine SWp.condD rfl (fun ht => ?_) (fun ht => ?_) <;> try (exfalso; omega)) | ((first | refine SWp.reg ?_ | refine SWp.skip ?_ | refine SWp.exit ?_ | refine SWp.ret ?_ | (apply callW.mk_pu; (first | exact (fun _ => hS2 _) | exact (fun _ => ranged_to _))) | (apply callW.any; (first | exact (hS2 _) | exact (ranged_to _))) | ((first | apply splitG | apply splitGB | apply splitR | apply splitRB | apply splitE | apply splitEB | apply splitC | apply splitCB) <;> intro ht)); all_goals try simp (disch := first | omega | (simp only [lens, hc_len, hr_len, trs_len, nums_len, List.length_reverse]; first | done | omega)) only [go_sem, Nat.reduceEqDiff, Nat.reduceBEq, Nat.reduceAdd, Nat.reduceMul, Nat.reduceSub, Nat.reduceLeDiff, Int.reduceToNat, Int.reducePow, q1, q2, q3, q7, q16, c0, co, r1, xc, zc]))
      exact DownV.pure (τ := []) hw (rlB_ok _ rfl)
set_option maxHeartbeats 32000000 in
theorem RangesTell_to (n size : Int) (hs l : List Hash) (x y : AV) (hx : SlV 32 (hr hs) x) (hy : SlV 32 (hr l) y) (hn : -9223372036854775808 ≤ n ∧ n ≤ 9223372036854775807) (hsz : -9223372036854775808 ≤ size ∧ size ≤ 9223372036854775807) :
    ACallsTo TC 3 [.agg [.int .i64 n, x], y, .int .i64 size] [] (.bool true) [] := by
  have r1 := hy.len
  rw [hr_len] at r1
  unfold rLenSl at r1
  have xc := slv_cells hx
  unfold cellsOf at xc
  have hG := fun σ => Great_to σ n hs x hx
  refine ACallsTo.of_body speculumlaw05_RangesTell_ok (by simp) fun hw _ => ?_
  by_cases hg : hs.length ≤ 100
  · by_cases hl : l.length ≤ 60
    · have hg' : ¬ (hs.length : Int) > 100 := by omega
      have hl' : ¬ (l.length : Int) > 60 := by omega
      repeat' (first | refine SWp.seq ?_ | refine SWp.block ?_ | refine SWp.scope ?_ | refine SWp.condT rfl ?_ | refine SWp.condF rfl ?_ | (refine SWp.condD rfl (fun ht => ?_) (fun ht => ?_) <;> try (exfalso; omega)) | ((first | refine SWp.reg ?_ | refine SWp.skip ?_ | refine SWp.exit ?_ | refine SWp.ret ?_ | (apply callW.mk_pu; (first | exact (fun _ => hG _))) | (apply callW.any; (first | exact (hG _))) | ((first | apply splitG | apply splitGB | apply splitR | apply splitRB | apply splitE | apply splitEB | apply splitC | apply splitCB) <;> intro ht)); all_goals try simp (disch := first | omega | (simp only [lens, hc_len, hr_len, trs_len, nums_len, List.length_reverse]; first | done | omega)) only [go_sem, Nat.reduceEqDiff, Nat.reduceBEq, Nat.reduceAdd, Nat.reduceMul, Nat.reduceSub, Nat.reduceLeDiff, Int.reduceToNat, Int.reducePow, r1, hg', hl', xc]))
      have T := RangesTell_tail n size hs l x y hx hy hn hsz hg hl hw
      rcases hx with ⟨rfl, hnil⟩ | ⟨ex, rfl⟩
      · have hz : ∀ σ, RdSl σ 32 (hr hs) .nilsl := fun σ => .of (.inl ⟨rfl, hnil⟩)
        refine SWp.reg2 ?_ ?_
        · simp (disch := first | omega | (simp only [lens, hc_len, hr_len, trs_len, nums_len, List.length_reverse]; first | done | omega)) only [go_sem, Nat.reduceEqDiff, Nat.reduceBEq, Nat.reduceAdd, Nat.reduceMul, Nat.reduceSub, Nat.reduceLeDiff, Int.reduceToNat, Int.reducePow, r1, xc]
          exact T _ _ 1 .nilsl rfl rfl (hz _) rfl (by simp (disch := first | omega | (simp only [lens, hc_len, hr_len, trs_len, nums_len, List.length_reverse]; first | done | omega)) only [go_sem, Nat.reduceEqDiff, Nat.reduceBEq, Nat.reduceAdd, Nat.reduceMul, Nat.reduceSub, Nat.reduceLeDiff, Int.reduceToNat, Int.reducePow]) (by simp (disch := first | omega | (simp only [lens, hc_len, hr_len, trs_len, nums_len, List.length_reverse]; first | done | omega)) only [go_sem, Nat.reduceEqDiff, Nat.reduceBEq, Nat.reduceAdd, Nat.reduceMul, Nat.reduceSub, Nat.reduceLeDiff, Int.reduceToNat, Int.reducePow]) (by simp (disch := first | omega | (simp only [lens, hc_len, hr_len, trs_len, nums_len, List.length_reverse]; first | done | omega)) only [go_sem, Nat.reduceEqDiff, Nat.reduceBEq, Nat.reduceAdd, Nat.reduceMul, Nat.reduceSub, Nat.reduceLeDiff, Int.reduceToNat, Int.reducePow]) (by simp (disch := first | omega | (simp only [lens, hc_len, hr_len, trs_len, nums_len, List.length_reverse]; first | done | omega)) only [go_sem, Nat.reduceEqDiff, Nat.reduceBEq, Nat.reduceAdd, Nat.reduceMul, Nat.reduceSub, Nat.reduceLeDiff, Int.reduceToNat, Int.reducePow])
        · simp (disch := first | omega | (simp only [lens, hc_len, hr_len, trs_len, nums_len, List.length_reverse]; first | done | omega)) only [go_sem, Nat.reduceEqDiff, Nat.reduceBEq, Nat.reduceAdd, Nat.reduceMul, Nat.reduceSub, Nat.reduceLeDiff, Int.reduceToNat, Int.reducePow, r1, xc]
          exact T _ _ 1 .nilsl rfl rfl (hz _) rfl (by simp (disch := first | omega | (simp only [lens, hc_len, hr_len, trs_len, nums_len, List.length_reverse]; first | done | omega)) only [go_sem, Nat.reduceEqDiff, Nat.reduceBEq, Nat.reduceAdd, Nat.reduceMul, Nat.reduceSub, Nat.reduceLeDiff, Int.reduceToNat, Int.reducePow]) (by simp (disch := first | omega | (simp only [lens, hc_len, hr_len, trs_len, nums_len, List.length_reverse]; first | done | omega)) only [go_sem, Nat.reduceEqDiff, Nat.reduceBEq, Nat.reduceAdd, Nat.reduceMul, Nat.reduceSub, Nat.reduceLeDiff, Int.reduceToNat, Int.reducePow]) (by simp (disch := first | omega | (simp only [lens, hc_len, hr_len, trs_len, nums_len, List.length_reverse]; first | done | omega)) only [go_sem, Nat.reduceEqDiff, Nat.reduceBEq, Nat.reduceAdd, Nat.reduceMul, Nat.reduceSub, Nat.reduceLeDiff, Int.reduceToNat, Int.reducePow]) (by simp (disch := first | omega | (simp only [lens, hc_len, hr_len, trs_len, nums_len, List.length_reverse]; first | done | omega)) only [go_sem, Nat.reduceEqDiff, Nat.reduceBEq, Nat.reduceAdd, Nat.reduceMul, Nat.reduceSub, Nat.reduceLeDiff, Int.reduceToNat, Int.reducePow])
      · by_cases h0 : hs.length = 0
        · obtain rfl := List.eq_nil_of_length_eq_zero h0
          have hz : ∀ σ, RdSl σ 32 (hr []) .nilsl := fun σ => .of (.inl ⟨rfl, rfl⟩)
          refine SWp.reg2 ?_ ?_
          · simp (disch := first | omega | (simp only [lens, hc_len, hr_len, trs_len, nums_len, List.length_reverse]; first | done | omega)) only [go_sem, Nat.reduceEqDiff, Nat.reduceBEq, Nat.reduceAdd, Nat.reduceMul, Nat.reduceSub, Nat.reduceLeDiff, Int.reduceToNat, Int.reducePow, r1, xc, hr_nil]
            exact T _ _ 1 .nilsl rfl rfl (hz _) rfl (by simp (disch := first | omega | (simp only [lens, hc_len, hr_len, trs_len, nums_len, List.length_reverse]; first | done | omega)) only [go_sem, Nat.reduceEqDiff, Nat.reduceBEq, Nat.reduceAdd, Nat.reduceMul, Nat.reduceSub, Nat.reduceLeDiff, Int.reduceToNat, Int.reducePow]) (by simp (disch := first | omega | (simp only [lens, hc_len, hr_len, trs_len, nums_len, List.length_reverse]; first | done | omega)) only [go_sem, Nat.reduceEqDiff, Nat.reduceBEq, Nat.reduceAdd, Nat.reduceMul, Nat.reduceSub, Nat.reduceLeDiff, Int.reduceToNat, Int.reducePow]) (by simp (disch := first | omega | (simp only [lens, hc_len, hr_len, trs_len, nums_len, List.length_reverse]; first | done | omega)) only [go_sem, Nat.reduceEqDiff, Nat.reduceBEq, Nat.reduceAdd, Nat.reduceMul, Nat.reduceSub, Nat.reduceLeDiff, Int.reduceToNat, Int.reducePow]) (by simp (disch := first | omega | (simp only [lens, hc_len, hr_len, trs_len, nums_len, List.length_reverse]; first | done | omega)) only [go_sem, Nat.reduceEqDiff, Nat.reduceBEq, Nat.reduceAdd, Nat.reduceMul, Nat.reduceSub, Nat.reduceLeDiff, Int.reduceToNat, Int.reducePow])
          · simp (disch := first | omega | (simp only [lens, hc_len, hr_len, trs_len, nums_len, List.length_reverse]; first | done | omega)) only [go_sem, Nat.reduceEqDiff, Nat.reduceBEq, Nat.reduceAdd, Nat.reduceMul, Nat.reduceSub, Nat.reduceLeDiff, Int.reduceToNat, Int.reducePow, r1, xc, hr_nil]
            exact T _ _ 1 .nilsl rfl rfl (hz _) rfl (by simp (disch := first | omega | (simp only [lens, hc_len, hr_len, trs_len, nums_len, List.length_reverse]; first | done | omega)) only [go_sem, Nat.reduceEqDiff, Nat.reduceBEq, Nat.reduceAdd, Nat.reduceMul, Nat.reduceSub, Nat.reduceLeDiff, Int.reduceToNat, Int.reducePow]) (by simp (disch := first | omega | (simp only [lens, hc_len, hr_len, trs_len, nums_len, List.length_reverse]; first | done | omega)) only [go_sem, Nat.reduceEqDiff, Nat.reduceBEq, Nat.reduceAdd, Nat.reduceMul, Nat.reduceSub, Nat.reduceLeDiff, Int.reduceToNat, Int.reducePow]) (by simp (disch := first | omega | (simp only [lens, hc_len, hr_len, trs_len, nums_len, List.length_reverse]; first | done | omega)) only [go_sem, Nat.reduceEqDiff, Nat.reduceBEq, Nat.reduceAdd, Nat.reduceMul, Nat.reduceSub, Nat.reduceLeDiff, Int.reduceToNat, Int.reducePow]) (by simp (disch := first | omega | (simp only [lens, hc_len, hr_len, trs_len, nums_len, List.length_reverse]; first | done | omega)) only [go_sem, Nat.reduceEqDiff, Nat.reduceBEq, Nat.reduceAdd, Nat.reduceMul, Nat.reduceSub, Nat.reduceLeDiff, Int.reduceToNat, Int.reducePow])
        · refine SWp.reg2 ?_ ?_
          · simp (disch := first | omega | (simp only [lens, hc_len, hr_len, trs_len, nums_len, List.length_reverse]; first | done | omega)) only [go_sem, Nat.reduceEqDiff, Nat.reduceBEq, Nat.reduceAdd, Nat.reduceMul, Nat.reduceSub, Nat.reduceLeDiff, Int.reduceToNat, Int.reducePow, r1, xc, h0]
            exact T _ _ 2 (.sl 1 0 hs.length none 32) rfl rfl (.inr ⟨1, 0, none, hr hs, by rw [hr_len], rfl, by rw [hr_len]; omega, by simp⟩) rfl (by simp (disch := first | omega | (simp only [lens, hc_len, hr_len, trs_len, nums_len, List.length_reverse]; first | done | omega)) only [go_sem, Nat.reduceEqDiff, Nat.reduceBEq, Nat.reduceAdd, Nat.reduceMul, Nat.reduceSub, Nat.reduceLeDiff, Int.reduceToNat, Int.reducePow]) (by simp (disch := first | omega | (simp only [lens, hc_len, hr_len, trs_len, nums_len, List.length_reverse]; first | done | omega)) only [go_sem, Nat.reduceEqDiff, Nat.reduceBEq, Nat.reduceAdd, Nat.reduceMul, Nat.reduceSub, Nat.reduceLeDiff, Int.reduceToNat, Int.reducePow]) (by simp (disch := first | omega | (simp only [lens, hc_len, hr_len, trs_len, nums_len, List.length_reverse]; first | done | omega)) only [go_sem, Nat.reduceEqDiff, Nat.reduceBEq, Nat.reduceAdd, Nat.reduceMul, Nat.reduceSub, Nat.reduceLeDiff, Int.reduceToNat, Int.reducePow]) (by simp (disch := first | omega | (simp only [lens, hc_len, hr_len, trs_len, nums_len, List.length_reverse]; first | done | omega)) only [go_sem, Nat.reduceEqDiff, Nat.reduceBEq, Nat.reduceAdd, Nat.reduceMul, Nat.reduceSub, Nat.reduceLeDiff, Int.reduceToNat, Int.reducePow])
          · simp (disch := first | omega | (simp only [lens, hc_len, hr_len, trs_len, nums_len, List.length_reverse]; first | done | omega)) only [go_sem, Nat.reduceEqDiff, Nat.reduceBEq, Nat.reduceAdd, Nat.reduceMul, Nat.reduceSub, Nat.reduceLeDiff, Int.reduceToNat, Int.reducePow, r1, xc, h0]
            exact T _ _ 1 (.sl 2 0 hs.length none 32) rfl rfl (.inr ⟨2, 0, none, hr hs, by rw [hr_len], rfl, by rw [hr_len]; omega, by simp⟩) rfl (by simp (disch := first | omega | (simp only [lens, hc_len, hr_len, trs_len, nums_len, List.length_reverse]; first | done | omega)) only [go_sem, Nat.reduceEqDiff, Nat.reduceBEq, Nat.reduceAdd, Nat.reduceMul, Nat.reduceSub, Nat.reduceLeDiff, Int.reduceToNat, Int.reducePow]) (by simp (disch := first | omega | (simp only [lens, hc_len, hr_len, trs_len, nums_len, List.length_reverse]; first | done | omega)) only [go_sem, Nat.reduceEqDiff, Nat.reduceBEq, Nat.reduceAdd, Nat.reduceMul, Nat.reduceSub, Nat.reduceLeDiff, Int.reduceToNat, Int.reducePow]) (by simp (disch := first | omega | (simp only [lens, hc_len, hr_len, trs_len, nums_len, List.length_reverse]; first | done | omega)) only [go_sem, Nat.reduceEqDiff, Nat.reduceBEq, Nat.reduceAdd, Nat.reduceMul, Nat.reduceSub, Nat.reduceLeDiff, Int.reduceToNat, Int.reducePow]) (by simp (disch := first | omega | (simp only [lens, hc_len, hr_len, trs_len, nums_len, List.length_reverse]; first | done | omega)) only [go_sem, Nat.reduceEqDiff, Nat.reduceBEq, Nat.reduceAdd, Nat.reduceMul, Nat.reduceSub, Nat.reduceLeDiff, Int.reduceToNat, Int.reducePow])
    · have hg' : ¬ (hs.length : Int) > 100 := by omega
      have hl' : (l.length : Int) > 60 := by omega
      repeat' (first | refine SWp.seq ?_ | refine SWp.block ?_ | refine SWp.scope ?_ | refine SWp.condT rfl ?_ | refine SWp.condF rfl ?_ | (refine SWp.condD rfl (fun ht => ?_) (fun ht => ?_) <;> try (exfalso; omega)) | ((first | refine SWp.reg ?_ | refine SWp.skip ?_ | refine SWp.exit ?_ | refine SWp.ret ?_ | (apply callW.mk_pu; (first | exact (fun _ => hG _) | exact (fun _ => ranged_to _))) | (apply callW.any; (first | exact (hG _) | exact (ranged_to _))) | ((first | apply splitG | apply splitGB | apply splitR | apply splitRB | apply splitE | apply splitEB | apply splitC | apply splitCB) <;> intro ht)); all_goals try simp (disch := first | omega | (simp only [lens, hc_len, hr_len, trs_len, nums_len, List.length_reverse]; first | done | omega)) only [go_sem, Nat.reduceEqDiff, Nat.reduceBEq, Nat.reduceAdd, Nat.reduceMul, Nat.reduceSub, Nat.reduceLeDiff, Int.reduceToNat, Int.reducePow, r1, hg', hl', xc]))
      exact DownV.pure (τ := []) hw (rlB_ok _ rfl)
  · have hg' : (hs.length : Int) > 100 := by omega
    repeat' (first | refine SWp.seq ?_ | refine SWp.block ?_ | refine SWp.scope ?_ | refine SWp.condT rfl ?_ | refine SWp.condF rfl ?_ | (refine SWp.condD rfl (fun ht => ?_) (fun ht => ?_) <;> try (exfalso; omega)) | ((first | refine SWp.reg ?_ | refine SWp.skip ?_ | refine SWp.exit ?_ | refine SWp.ret ?_ | (apply callW.mk_pu; (first | exact (fun _ => hG _) | exact (fun _ => ranged_to _))) | (apply callW.any; (first | exact (hG _) | exact (ranged_to _))) | ((first | apply splitG | apply splitGB | apply splitR | apply splitRB | apply splitE | apply splitEB | apply splitC | apply splitCB) <;> intro ht)); all_goals try simp (disch := first | omega | (simp only [lens, hc_len, hr_len, trs_len, nums_len, List.length_reverse]; first | done | omega)) only [go_sem, Nat.reduceEqDiff, Nat.reduceBEq, Nat.reduceAdd, Nat.reduceMul, Nat.reduceSub, Nat.reduceLeDiff, Int.reduceToNat, Int.reducePow, r1, hg', xc]))
    exact DownV.pure (τ := []) hw (rlB_ok _ rfl)
theorem RangesTell_law (avs : List AV) (h : ShAll [.row [.int .i64, .sl 32 hashTy], .sl 32 hashTy, .int .i64] avs) : ACallsTo TC 3 avs [] (.bool true) [] := by
  simp only [ShAll] at h
  obtain ⟨_, _, rfl, h1, _, _, rfl, h2, _, _, rfl, h3, rfl⟩ := h
  obtain ⟨n, hs, x, rfl, n1, n2, k3, k4⟩ := range_h h1
  obtain ⟨l, k1, k2⟩ := hsl_h h2
  obtain ⟨size, rfl, f1, f2⟩ := i64_of h3
  exact RangesTell_to n size hs l x _ k3 k1 ⟨n1, n2⟩ ⟨f1, f2⟩
end Am
end Go.Proofs.YthgcooppjhcgcaaDoor
end
section
set_option linter.unusedSimpArgs false
set_option linter.unusedVariables false
/- What a law with the laid tables of sha begins with. -/
namespace Go.Proofs.YthgcooppjhcgcaaDoor.LawDoor
open Go.ChangeShapes Go.WideShapes Go.ChangeAt Go.RowKit
theorem own : ownKnob Tryd.prog.godebug = none := by kernel_rfl
theorem laidOut : laidOutB Tryd.prog = true := by kernel_rfl
def laidS : List (String × DataW Unit) := [("speculum/sha.first", Rows.laid_speculum_sha_first), ("speculum/sha.rounds", Rows.laid_speculum_sha_rounds)]
set_option maxRecDepth 100000
/-- The door's own heap meets the condition. -/
theorem door_met (os : Os) (args : Array Value) : laidMetH Tryd.prog laidS ((World.doorLaid Tryd.prog 400 os).forCall (fun _ _ => 0) ⟨#[], args, []⟩).memory :=
  laidMetH_of_parts3 (fuel := 8) (laidMet_of_run' 8 (by kernel_rfl) (by kernel_rfl)) (by kernel_rfl) (by kernel_rfl)
/-- What the condition gives the walks: the tables, as_ the machine knows them. -/
theorem rel_of {W : World} (h : laidMetH Tryd.prog laidS W) : Am.Rel Am.TC [] [] W := by
  rw [MakeChecks.laidMetH_plain _ _ _ (by kernel_rfl)] at h
  obtain ⟨ps, ⟨g0, t0, cs0, f0, p0, q0, hg0, ht0, hv0, hd0, ⟨g1, t1, cs1, f1, p1, q1, hg1, ht1, hv1, hd1, _, _⟩, _⟩, _, _⟩ := h
  have v0 := Am.vp_of_var (P := Tryd.prog) (n := "speculum/sha.first") (g := 0) (t := 179) (e := 177) (m := 8) (k := .u32) Am.shaFirst (by kernel_rfl) (by kernel_rfl) (by kernel_rfl) (by kernel_rfl) (by kernel_rfl) (by kernel_rfl) hg0 ht0 hv0 hd0
  have v1 := Am.vp_of_var (P := Tryd.prog) (n := "speculum/sha.rounds") (g := 1) (t := 178) (e := 177) (m := 64) (k := .u32) Am.shaRounds (by kernel_rfl) (by kernel_rfl) (by kernel_rfl) (by kernel_rfl) (by kernel_rfl) (by kernel_rfl) hg1 ht1 hv1 hd1
  refine ⟨rfl, fun r o h => by simp at h, fun r h => by simp at h, fun r r' pl pl' h => by simp at h, fun g cs h => ?_⟩
  simp only [Am.TC] at h
  split at h
  · rename_i hg; subst hg; cases h; exact v0
  · split at h
    · rename_i hg; subst hg; cases h; exact v1
    · cases h
end Go.Proofs.YthgcooppjhcgcaaDoor.LawDoor
end
