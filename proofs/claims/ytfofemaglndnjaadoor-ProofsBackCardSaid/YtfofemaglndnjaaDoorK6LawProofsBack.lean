import Derived.Test.YtfofemaglndnjaaDoorK555ec1341
import Derived.Test.YtfofemaglndnjaaDoorK36206dcf8
import Derived.Test.YtfofemaglndnjaaDoorRows
import Derived.Test.YtfofemaglndnjaaDoorCards
import Derived.Test.YtfofemaglndnjaaDoorTie
import Derived.ProofKit
import Derived.LaidMore
import Derived.OpenShut
import Derived.Stop.Joined
import Derived.SevenTiedAt
import Derived.MakeChecks
section
set_option linter.unusedSimpArgs false
set_option linter.unusedVariables false
/- Proofs: contract: Check of the program. -/
set_option linter.unusedSimpArgs false
set_option linter.unusedVariables false
namespace Go.Proofs.YtfofemaglndnjaaDoor
namespace Am
attribute [local irreducible] proofs_Check_c71
set_option maxHeartbeats 8000000 in
theorem Check_main (σ : Store) (m n : Nat) (o nw : List UInt8) (x : AV) (ps : List (List UInt8)) (hx : SlV 32 (hrows ps) x) (hH : H32 ps) (ho : o.length = 32) (hn : nw.length = 32) (h0 : 0 < m) (h1 : m < n) (h2 : n ≤ 4096) (hl : ps.length < 1000000) :
    ACallsTo TC 19 [.int .i64 m, .int .i64 n, .agg (byteEsC o), .agg (byteEsC nw), x] σ (.int .i64 (fitI (chkS (m - 1) (n - 1) o ps) o nw)) σ := by
  have r0 := hx.cells
  unfold cellsOf at r0
  have c1 := byteEsC_len o
  have c2 := byteEsC_len nw
  rw [ho] at c1
  rw [hn] at c2
  have d1 := hash_drop ho
  have t1 := hash_take ho
  obtain ⟨R, hR⟩ : ∃ R, R = chkS (m - 1) (n - 1) o ps := ⟨_, rfl⟩
  rw [← hR]
  refine ACallsTo.of_body proofs_Check_ok (by simp) fun hw _ => ?_
  have hm1 : (m : Int) - 1 = ((m - 1 : Nat) : Int) := by omega
  have hn1 : (n : Int) - 1 = ((n - 1 : Nat) : Int) := by omega
  repeat' (first | refine SWp.seq ?_ | refine SWp.block ?_ | refine SWp.scope ?_ | (refine SWp.reg ?_; (simp (disch := first | omega | (simp only [List.length_set, List.length_append, List.length_cons, List.length_nil, List.length_map]; omega)) only [go_sem, Nat.reduceEqDiff, Nat.reduceBEq, Nat.reduceAdd, Nat.reduceMul, Nat.reduceSub, Nat.reduceLeDiff, Int.reduceToNat, Int.reducePow, r0, hm1, hn1])) | refine SWp.condT rfl ?_ | refine SWp.condF rfl ?_ | (refine SWp.condD rfl (fun ht => ?_) (fun ht => ?_) <;> try (exfalso; omega)) | ((first | refine SWp.skip ?_ | refine SWp.exit ?_ | refine SWp.ret ?_); try (simp (disch := first | omega | (simp only [List.length_set, List.length_append, List.length_cons, List.length_nil, List.length_map]; omega)) only [go_sem, Nat.reduceEqDiff, Nat.reduceBEq, Nat.reduceAdd, Nat.reduceMul, Nat.reduceSub, Nat.reduceLeDiff, Int.reduceToNat, Int.reducePow, r0, hm1, hn1])) | ((first | refine splitG (fun ht => ?_) (fun ht => ?_) | refine splitGB (fun ht => ?_) (fun ht => ?_) | refine splitR (fun ht => ?_) (fun ht => ?_) | refine splitRB (fun ht => ?_) (fun ht => ?_) | refine splitE (fun ht => ?_) (fun ht => ?_) | refine splitEB (fun ht => ?_) (fun ht => ?_) | refine splitC (fun ht => ?_) (fun ht => ?_) | refine splitCB (fun ht => ?_) (fun ht => ?_)) <;> (simp (disch := first | omega | (simp only [List.length_set, List.length_append, List.length_cons, List.length_nil, List.length_map]; omega)) only [go_sem, Nat.reduceEqDiff, Nat.reduceBEq, Nat.reduceAdd, Nat.reduceMul, Nat.reduceSub, Nat.reduceLeDiff, Int.reduceToNat, Int.reducePow, r0, hm1, hn1])))
  refine SWp.loop (fun k ρ σ' => ∃ (i last : Nat), k = i ∧ σ' = σ ++ [some [byteEsC o], some [byteEsC nw], some [[x]]] ∧ R = chkG (st i last).1 (st i last).2 o ps ∧ i < 4096 ∧ last < 4096 ∧
    ρ 7 = .ptr σ.length 0 0 ∧ ρ 8 = .ptr (σ.length + 1) 0 0 ∧ ρ 9 = .ptr (σ.length + 2) 0 0 ∧ ρ 11 = .int .i64 i ∧ ρ 12 = .int .i64 last) (m - 1) ?_ ?_
  · exact ⟨m - 1, n - 1, rfl, by simp, hR, by omega, by omega, by simp (disch := first | omega | (simp only [List.length_set, List.length_append, List.length_cons, List.length_nil, List.length_map]; omega)) only [go_sem, Nat.reduceEqDiff, Nat.reduceBEq, Nat.reduceAdd, Nat.reduceMul, Nat.reduceSub, Nat.reduceLeDiff, Int.reduceToNat, Int.reducePow], by simp (disch := first | omega | (simp only [List.length_set, List.length_append, List.length_cons, List.length_nil, List.length_map]; omega)) only [go_sem, Nat.reduceEqDiff, Nat.reduceBEq, Nat.reduceAdd, Nat.reduceMul, Nat.reduceSub, Nat.reduceLeDiff, Int.reduceToNat, Int.reducePow], by simp (disch := first | omega | (simp only [List.length_set, List.length_append, List.length_cons, List.length_nil, List.length_map]; omega)) only [go_sem, Nat.reduceEqDiff, Nat.reduceBEq, Nat.reduceAdd, Nat.reduceMul, Nat.reduceSub, Nat.reduceLeDiff, Int.reduceToNat, Int.reducePow], by simp (disch := first | omega | (simp only [List.length_set, List.length_append, List.length_cons, List.length_nil, List.length_map]; omega)) only [go_sem, Nat.reduceEqDiff, Nat.reduceBEq, Nat.reduceAdd, Nat.reduceMul, Nat.reduceSub, Nat.reduceLeDiff, Int.reduceToNat, Int.reducePow], by simp (disch := first | omega | (simp only [List.length_set, List.length_append, List.length_cons, List.length_nil, List.length_map]; omega)) only [go_sem, Nat.reduceEqDiff, Nat.reduceBEq, Nat.reduceAdd, Nat.reduceMul, Nat.reduceSub, Nat.reduceLeDiff, Int.reduceToNat, Int.reducePow]⟩
  · clear hm1 hn1 hR h0 h1 h2
    rintro i ρ σ' ⟨_, last, rfl, rfl, hR, hi, hla, q7, q8, q9, q11, q12⟩
    by_cases ho1 : i % 2 = 1
    · have hx1 : (i : Int) % 2 = 1 := by omega
      rw [st_odd ho1] at hR
      repeat' (first | refine SWp.seq ?_ | refine SWp.block ?_ | refine SWp.scope ?_ | (refine SWp.reg ?_; (simp (disch := first | omega | (simp only [List.length_set, List.length_append, List.length_cons, List.length_nil, List.length_map]; omega)) only [go_sem, Nat.reduceEqDiff, Nat.reduceBEq, Nat.reduceAdd, Nat.reduceMul, Nat.reduceSub, Nat.reduceLeDiff, Int.reduceToNat, Int.reducePow, q7, q8, q9, q11, q12, hx1])) | refine SWp.condT rfl ?_ | refine SWp.condF rfl ?_ | (refine SWp.condD rfl (fun ht => ?_) (fun ht => ?_) <;> try (exfalso; omega)) | ((first | refine SWp.skip ?_ | refine SWp.exit ?_ | refine SWp.ret ?_); try (simp (disch := first | omega | (simp only [List.length_set, List.length_append, List.length_cons, List.length_nil, List.length_map]; omega)) only [go_sem, Nat.reduceEqDiff, Nat.reduceBEq, Nat.reduceAdd, Nat.reduceMul, Nat.reduceSub, Nat.reduceLeDiff, Int.reduceToNat, Int.reducePow, q7, q8, q9, q11, q12, hx1])) | ((first | refine splitG (fun ht => ?_) (fun ht => ?_) | refine splitGB (fun ht => ?_) (fun ht => ?_) | refine splitR (fun ht => ?_) (fun ht => ?_) | refine splitRB (fun ht => ?_) (fun ht => ?_) | refine splitE (fun ht => ?_) (fun ht => ?_) | refine splitEB (fun ht => ?_) (fun ht => ?_) | refine splitC (fun ht => ?_) (fun ht => ?_) | refine splitCB (fun ht => ?_) (fun ht => ?_)) <;> (simp (disch := first | omega | (simp only [List.length_set, List.length_append, List.length_cons, List.length_nil, List.length_map]; omega)) only [go_sem, Nat.reduceEqDiff, Nat.reduceBEq, Nat.reduceAdd, Nat.reduceMul, Nat.reduceSub, Nat.reduceLeDiff, Int.reduceToNat, Int.reducePow, q7, q8, q9, q11, q12, hx1])))
      exact ⟨i / 2, by omega, i / 2, last / 2, rfl, hR, by omega, by omega, by simp, by simp⟩
    · have hx1 : (i : Int) % 2 = 0 := by omega
      rw [st_even ho1] at hR
      simp only [chkG] at hR
      have hM : ∀ ia ib : Nat, ((ia = 3 ∧ ib = 4) ∨ (ia = 4 ∧ ib = 3)) → ChkM ia ib σ (σ ++ [some [byteEsC o], some [byteEsC nw], some [[x]], some [byteEsC o], some [byteEsC o]]) o nw x ps o o := fun ia ib hab =>
        ⟨hab, by simp, fun q hq => gapp hq, by simp, by simp, by simp, by rcases hab with ⟨rfl, rfl⟩ | ⟨rfl, rfl⟩ <;> simp, by rcases hab with ⟨rfl, rfl⟩ | ⟨rfl, rfl⟩ <;> simp, hx, ho, ho⟩
      have key : ∀ (ia ib : Nat), ((ia = 3 ∧ ib = 4) ∨ (ia = 4 ∧ ib = 3)) → ∀ ρ1 : Env, ρ1 7 = .ptr σ.length 0 0 → ρ1 8 = .ptr (σ.length + 1) 0 0 → ρ1 9 = .ptr (σ.length + 2) 0 0 → ρ1 11 = .int .i64 i → ρ1 12 = .int .i64 last →
          ρ1 13 = .fn 64 [.ptr (σ.length + 2) 0 0] → ρ1 14 = .ptr (σ.length + ia) 0 0 → ρ1 15 = .ptr (σ.length + ib) 0 0 →
          SWp TC 152 σ.length proofs_Check_c72 (endQ σ.length [.t 10] (.int .i64 (fitI R o nw)) σ) ρ1 (σ ++ [some [byteEsC o], some [byteEsC nw], some [[x]], some [byteEsC o], some [byteEsC o]]) := by
        clear q7 q8 q9 q11 q12
        intro ia ib hab ρ1 q7 q8 q9 q11 q12 q13 q14 q15
        have hM1 := hM ia ib hab
        by_cases hi0 : i = 0
        · subst hi0
          rw [if_neg (by omega)] at hR
          repeat' (first | refine SWp.seq ?_ | refine SWp.block ?_ | refine SWp.scope ?_ | (refine SWp.reg ?_; (simp (disch := first | omega | (simp only [List.length_set, List.length_append, List.length_cons, List.length_nil, List.length_map]; omega)) only [go_sem, Nat.reduceEqDiff, Nat.reduceBEq, Nat.reduceAdd, Nat.reduceMul, Nat.reduceSub, Nat.reduceLeDiff, Int.reduceToNat, Int.reducePow, q7, q8, q9, q11, q12, c1, c2, d1, t1])) | refine SWp.condT rfl ?_ | refine SWp.condF rfl ?_ | (refine SWp.condD rfl (fun ht => ?_) (fun ht => ?_) <;> try (exfalso; omega)) | ((first | refine SWp.skip ?_ | refine SWp.exit ?_ | refine SWp.ret ?_); try (simp (disch := first | omega | (simp only [List.length_set, List.length_append, List.length_cons, List.length_nil, List.length_map]; omega)) only [go_sem, Nat.reduceEqDiff, Nat.reduceBEq, Nat.reduceAdd, Nat.reduceMul, Nat.reduceSub, Nat.reduceLeDiff, Int.reduceToNat, Int.reducePow, q7, q8, q9, q11, q12, c1, c2, d1, t1])) | ((first | refine splitG (fun ht => ?_) (fun ht => ?_) | refine splitGB (fun ht => ?_) (fun ht => ?_) | refine splitR (fun ht => ?_) (fun ht => ?_) | refine splitRB (fun ht => ?_) (fun ht => ?_) | refine splitE (fun ht => ?_) (fun ht => ?_) | refine splitEB (fun ht => ?_) (fun ht => ?_) | refine splitC (fun ht => ?_) (fun ht => ?_) | refine splitCB (fun ht => ?_) (fun ht => ?_)) <;> (simp (disch := first | omega | (simp only [List.length_set, List.length_append, List.length_cons, List.length_nil, List.length_map]; omega)) only [go_sem, Nat.reduceEqDiff, Nat.reduceBEq, Nat.reduceAdd, Nat.reduceMul, Nat.reduceSub, Nat.reduceLeDiff, Int.reduceToNat, Int.reducePow, q7, q8, q9, q11, q12, c1, c2, d1, t1])))
          refine Check_loop ia ib σ hw o nw ho hn R _ _ 0 last x ps o o hM1 hH (by omega) hla hl hR.symm ?_ ?_ ?_ ?_ ?_ ?_ ?_ ?_ <;> simp (disch := first | omega | (simp only [List.length_set, List.length_append, List.length_cons, List.length_nil, List.length_map]; omega)) only [go_sem, Nat.reduceEqDiff, Nat.reduceBEq, Nat.reduceAdd, Nat.reduceMul, Nat.reduceSub, Nat.reduceLeDiff, Int.reduceToNat, Int.reducePow, q7, q8, q9, q11, q12, q13, q14, q15]
        · have hi1 : (0 : Int) < i := by omega
          rw [if_pos (by omega)] at hR
          have g2 := hM1.g2
          have g3 := hM1.g3
          have g4 := hM1.g4
          have hlen := hM1.len
          cases ps with
          | nil =>
            have hnx := next_none (σ.length + 2) _ x hx g2
            have cz : (byteEsC zero32).length = 32 := by rw [byteEsC_len]; rfl
            have dz : (byteEsC zero32).drop 32 = [] := rfl
            have hf : fitI R o nw = 80 := by rw [hR]; rfl
            rw [hf]
            have hM2 := hM1.app (y := [some [byteEsC zero32], some [byteEsC zero32]])
            generalize (σ ++ [some [byteEsC o], some [byteEsC nw], some [[x]], some [byteEsC o], some [byteEsC o]]) = σ1 at *
            repeat' (first | (apply callW.any; (first | exact (hnx)); all_goals try (simp (disch := first | omega | (simp only [List.length_set, List.length_append, List.length_cons, List.length_nil, List.length_map]; omega)) only [go_sem, Nat.reduceEqDiff, Nat.reduceBEq, Nat.reduceAdd, Nat.reduceMul, Nat.reduceSub, Nat.reduceLeDiff, Int.reduceToNat, Int.reducePow, q7, q8, q9, q11, q12, q13, q14, q15, c1, c2, d1, t1, hi1, cz, dz])) | refine SWp.seq ?_ | refine SWp.block ?_ | refine SWp.scope ?_ | (refine SWp.reg ?_; (simp (disch := first | omega | (simp only [List.length_set, List.length_append, List.length_cons, List.length_nil, List.length_map]; omega)) only [go_sem, Nat.reduceEqDiff, Nat.reduceBEq, Nat.reduceAdd, Nat.reduceMul, Nat.reduceSub, Nat.reduceLeDiff, Int.reduceToNat, Int.reducePow, q7, q8, q9, q11, q12, q13, q14, q15, c1, c2, d1, t1, hi1, cz, dz])) | refine SWp.condT rfl ?_ | refine SWp.condF rfl ?_ | (refine SWp.condD rfl (fun ht => ?_) (fun ht => ?_) <;> try (exfalso; omega)) | ((first | refine SWp.skip ?_ | refine SWp.exit ?_ | refine SWp.ret ?_); try (simp (disch := first | omega | (simp only [List.length_set, List.length_append, List.length_cons, List.length_nil, List.length_map]; omega)) only [go_sem, Nat.reduceEqDiff, Nat.reduceBEq, Nat.reduceAdd, Nat.reduceMul, Nat.reduceSub, Nat.reduceLeDiff, Int.reduceToNat, Int.reducePow, q7, q8, q9, q11, q12, q13, q14, q15, c1, c2, d1, t1, hi1, cz, dz])) | ((first | refine splitG (fun ht => ?_) (fun ht => ?_) | refine splitGB (fun ht => ?_) (fun ht => ?_) | refine splitR (fun ht => ?_) (fun ht => ?_) | refine splitRB (fun ht => ?_) (fun ht => ?_) | refine splitE (fun ht => ?_) (fun ht => ?_) | refine splitEB (fun ht => ?_) (fun ht => ?_) | refine splitC (fun ht => ?_) (fun ht => ?_) | refine splitCB (fun ht => ?_) (fun ht => ?_)) <;> (simp (disch := first | omega | (simp only [List.length_set, List.length_append, List.length_cons, List.length_nil, List.length_map]; omega)) only [go_sem, Nat.reduceEqDiff, Nat.reduceBEq, Nat.reduceAdd, Nat.reduceMul, Nat.reduceSub, Nat.reduceLeDiff, Int.reduceToNat, Int.reducePow, q7, q8, q9, q11, q12, q13, q14, q15, c1, c2, d1, t1, hi1, cz, dz])))
            exact hM2.fin hw
          | cons h qs =>
            have hh : h.length = 32 := hH h (by simp)
            have hq : H32 qs := fun x hx => hH x (by simp [hx])
            obtain ⟨ex, rfl⟩ := hx.vsl (by rw [hrows_len]; simp)
            simp only [List.length_cons] at hl
            have hnx := next_to (σ.length + 2) _ h qs ex hh (by omega) g2
            have ch := byteEsC_len h
            rw [hh] at ch
            have d2 := hash_drop hh
            have t2 := hash_take hh
            have hM2 := ((((hM1.setp (qs := qs) (qv := .vsl 32 (hrows qs) ex) (.inr ⟨ex, rfl⟩)).seta hh).setb hh).app (y := [some [byteEsC h], some [byteEsC h]]))
            generalize (σ ++ [some [byteEsC o], some [byteEsC nw], some [[AV.vsl 32 (hrows (h :: qs)) ex]], some [byteEsC o], some [byteEsC o]]) = σ1 at *
            repeat' (first | (apply callW.any; (first | exact (hnx)); all_goals try (simp (disch := first | omega | (simp only [List.length_set, List.length_append, List.length_cons, List.length_nil, List.length_map]; omega)) only [go_sem, Nat.reduceEqDiff, Nat.reduceBEq, Nat.reduceAdd, Nat.reduceMul, Nat.reduceSub, Nat.reduceLeDiff, Int.reduceToNat, Int.reducePow, q7, q8, q9, q11, q12, q13, q14, q15, g2, g3, g4, c1, c2, ch, d1, d2, t1, t2, hi1])) | refine SWp.seq ?_ | refine SWp.block ?_ | refine SWp.scope ?_ | (refine SWp.reg ?_; (simp (disch := first | omega | (simp only [List.length_set, List.length_append, List.length_cons, List.length_nil, List.length_map]; omega)) only [go_sem, Nat.reduceEqDiff, Nat.reduceBEq, Nat.reduceAdd, Nat.reduceMul, Nat.reduceSub, Nat.reduceLeDiff, Int.reduceToNat, Int.reducePow, q7, q8, q9, q11, q12, q13, q14, q15, g2, g3, g4, c1, c2, ch, d1, d2, t1, t2, hi1])) | refine SWp.condT rfl ?_ | refine SWp.condF rfl ?_ | (refine SWp.condD rfl (fun ht => ?_) (fun ht => ?_) <;> try (exfalso; omega)) | ((first | refine SWp.skip ?_ | refine SWp.exit ?_ | refine SWp.ret ?_); try (simp (disch := first | omega | (simp only [List.length_set, List.length_append, List.length_cons, List.length_nil, List.length_map]; omega)) only [go_sem, Nat.reduceEqDiff, Nat.reduceBEq, Nat.reduceAdd, Nat.reduceMul, Nat.reduceSub, Nat.reduceLeDiff, Int.reduceToNat, Int.reducePow, q7, q8, q9, q11, q12, q13, q14, q15, g2, g3, g4, c1, c2, ch, d1, d2, t1, t2, hi1])) | ((first | refine splitG (fun ht => ?_) (fun ht => ?_) | refine splitGB (fun ht => ?_) (fun ht => ?_) | refine splitR (fun ht => ?_) (fun ht => ?_) | refine splitRB (fun ht => ?_) (fun ht => ?_) | refine splitE (fun ht => ?_) (fun ht => ?_) | refine splitEB (fun ht => ?_) (fun ht => ?_) | refine splitC (fun ht => ?_) (fun ht => ?_) | refine splitCB (fun ht => ?_) (fun ht => ?_)) <;> (simp (disch := first | omega | (simp only [List.length_set, List.length_append, List.length_cons, List.length_nil, List.length_map]; omega)) only [go_sem, Nat.reduceEqDiff, Nat.reduceBEq, Nat.reduceAdd, Nat.reduceMul, Nat.reduceSub, Nat.reduceLeDiff, Int.reduceToNat, Int.reducePow, q7, q8, q9, q11, q12, q13, q14, q15, g2, g3, g4, c1, c2, ch, d1, d2, t1, t2, hi1])))
            refine Check_loop ia ib σ hw o nw ho hn R _ _ i last (.vsl 32 (hrows qs) ex) qs h h hM2 hq hi hla (by omega) hR.symm ?_ ?_ ?_ ?_ ?_ ?_ ?_ ?_ <;> simp (disch := first | omega | (simp only [List.length_set, List.length_append, List.length_cons, List.length_nil, List.length_map]; omega)) only [go_sem, Nat.reduceEqDiff, Nat.reduceBEq, Nat.reduceAdd, Nat.reduceMul, Nat.reduceSub, Nat.reduceLeDiff, Int.reduceToNat, Int.reducePow, q7, q8, q9, q11, q12, q13, q14, q15]
      clear hM
      repeat' (first | refine SWp.seq ?_ | refine SWp.block ?_ | refine SWp.scope ?_ | (refine SWp.reg ?_; (simp (disch := first | omega | (simp only [List.length_set, List.length_append, List.length_cons, List.length_nil, List.length_map]; omega)) only [go_sem, Nat.reduceEqDiff, Nat.reduceBEq, Nat.reduceAdd, Nat.reduceMul, Nat.reduceSub, Nat.reduceLeDiff, Int.reduceToNat, Int.reducePow, q7, q8, q9, q11, q12, hx1])) | refine SWp.condT rfl ?_ | refine SWp.condF rfl ?_ | (refine SWp.condD rfl (fun ht => ?_) (fun ht => ?_) <;> try (exfalso; omega)) | ((first | refine SWp.skip ?_ | refine SWp.exit ?_ | refine SWp.ret ?_); try (simp (disch := first | omega | (simp only [List.length_set, List.length_append, List.length_cons, List.length_nil, List.length_map]; omega)) only [go_sem, Nat.reduceEqDiff, Nat.reduceBEq, Nat.reduceAdd, Nat.reduceMul, Nat.reduceSub, Nat.reduceLeDiff, Int.reduceToNat, Int.reducePow, q7, q8, q9, q11, q12, hx1])) | ((first | refine splitG (fun ht => ?_) (fun ht => ?_) | refine splitGB (fun ht => ?_) (fun ht => ?_) | refine splitR (fun ht => ?_) (fun ht => ?_) | refine splitRB (fun ht => ?_) (fun ht => ?_) | refine splitE (fun ht => ?_) (fun ht => ?_) | refine splitEB (fun ht => ?_) (fun ht => ?_) | refine splitC (fun ht => ?_) (fun ht => ?_) | refine splitCB (fun ht => ?_) (fun ht => ?_)) <;> (simp (disch := first | omega | (simp only [List.length_set, List.length_append, List.length_cons, List.length_nil, List.length_map]; omega)) only [go_sem, Nat.reduceEqDiff, Nat.reduceBEq, Nat.reduceAdd, Nat.reduceMul, Nat.reduceSub, Nat.reduceLeDiff, Int.reduceToNat, Int.reducePow, q7, q8, q9, q11, q12, hx1])))
      refine SWp.reg2 ?_ ?_
      · simp (disch := first | omega | (simp only [List.length_set, List.length_append, List.length_cons, List.length_nil, List.length_map]; omega)) only [go_sem, Nat.reduceEqDiff, Nat.reduceBEq, Nat.reduceAdd, Nat.reduceMul, Nat.reduceSub, Nat.reduceLeDiff, Int.reduceToNat, Int.reducePow, q7, q8, q9, q11, q12, c1, c2, d1, t1]
        refine key 3 4 (.inl ⟨rfl, rfl⟩) _ ?_ ?_ ?_ ?_ ?_ ?_ ?_ ?_ <;> simp (disch := first | omega | (simp only [List.length_set, List.length_append, List.length_cons, List.length_nil, List.length_map]; omega)) only [go_sem, Nat.reduceEqDiff, Nat.reduceBEq, Nat.reduceAdd, Nat.reduceMul, Nat.reduceSub, Nat.reduceLeDiff, Int.reduceToNat, Int.reducePow, q7, q8, q9, q11, q12]
      · simp (disch := first | omega | (simp only [List.length_set, List.length_append, List.length_cons, List.length_nil, List.length_map]; omega)) only [go_sem, Nat.reduceEqDiff, Nat.reduceBEq, Nat.reduceAdd, Nat.reduceMul, Nat.reduceSub, Nat.reduceLeDiff, Int.reduceToNat, Int.reducePow, q7, q8, q9, q11, q12, c1, c2, d1, t1]
        refine key 4 3 (.inr ⟨rfl, rfl⟩) _ ?_ ?_ ?_ ?_ ?_ ?_ ?_ ?_ <;> simp (disch := first | omega | (simp only [List.length_set, List.length_append, List.length_cons, List.length_nil, List.length_map]; omega)) only [go_sem, Nat.reduceEqDiff, Nat.reduceBEq, Nat.reduceAdd, Nat.reduceMul, Nat.reduceSub, Nat.reduceLeDiff, Int.reduceToNat, Int.reducePow, q7, q8, q9, q11, q12]
theorem Check_to (σ : Store) (m n : Int) (o nw : List UInt8) (x : AV) (ps : List (List UInt8)) (hx : SlV 32 (hrows ps) x) (hH : H32 ps) (ho : o.length = 32) (hn : nw.length = 32) (hl : ps.length < 1000000) :
    ACallsTo TC 19 [.int .i64 m, .int .i64 n, .agg (byteEsC o), .agg (byteEsC nw), x] σ (.int .i64 (chkI m n o nw ps)) σ := by
  unfold chkI
  by_cases h1 : n < 0 ∨ 4096 < n ∨ m < 0 ∨ n < m
  · rw [if_pos h1]; exact Check_bad σ m n o nw x _ hx h1
  · rw [if_neg h1]
    by_cases h2 : m = 0
    · subst h2; rw [if_pos rfl]; exact Check_zero σ n o nw x ps hx ho hn (by omega) (by omega) hl
    · rw [if_neg h2]
      by_cases h3 : m = n
      · subst h3; rw [if_pos rfl]; exact Check_same σ m o nw x ps hx ho hn (by omega) (by omega) hl
      · rw [if_neg h3]
        obtain ⟨m, rfl⟩ : ∃ k : Nat, m = k := ⟨m.toNat, by omega⟩
        obtain ⟨n, rfl⟩ : ∃ k : Nat, n = k := ⟨n.toNat, by omega⟩
        exact Check_main σ m n o nw x ps hx hH ho hn (by omega) (by omega) (by omega) hl
theorem Check_rd (σ : Store) (m n : Int) (o nw : List UInt8) (x : AV) (ps : List (List UInt8)) (hx : RdSl σ 32 (hrows ps) x) (hH : H32 ps) (ho : o.length = 32) (hn : nw.length = 32) (hl : ps.length < 1000000) :
    ACallsTo TC 19 [.int .i64 m, .int .i64 n, .agg (byteEsC o), .agg (byteEsC nw), x] σ (.int .i64 (chkI m n o nw ps)) σ := by
  obtain ⟨x0, h0, hd⟩ := hx.lend (rlss_h ps)
  have hi : ∀ i : Int, RL 0 (.int .i64 i) := fun i => by simp [RL]
  have := ACallsTo.lend glok (Check_to [] m n o nw x0 ps h0 hH ho hn hl) (drsc (rl0 (hi m) σ) (drsc (rl0 (hi n) σ) (drsc (rl0 (rl_agg (rl_bytes _)) σ) (drsc (rl0 (rl_agg (rl_bytes _)) σ) (drs1 hd)))))
  rwa [show sh σ.length (.int .i64 (chkI m n o nw ps)) = .int .i64 (chkI m n o nw ps) from rfl, shS_nil, List.append_nil] at this
end Am
end Go.Proofs.YtfofemaglndnjaaDoor
end
section
set_option linter.unusedSimpArgs false
set_option linter.unusedVariables false
/- Proofs: contract: the law's own example. -/
set_option linter.unusedSimpArgs false
set_option linter.unusedVariables false
namespace Go.Proofs.YtfofemaglndnjaaDoor
namespace Am
theorem split2 : splitS 2 = 1 := by decide
theorem split4 : splitS 4 = 2 := by decide
theorem split5 : splitS 5 = 4 := by decide
theorem root2 (a b : List UInt8) : rootS [a, b] = nodeS a b := by
  rw [rootS_two (by simp)]; simp [split2, rootS_one]
theorem root5 (a b c d e : List UInt8) : rootS [a, b, c, d, e] = nodeS (rootS [a, b, c, d]) e := by
  rw [rootS_two (by simp)]; simp [split5, rootS_one]
theorem sub_five3 (a b c d e : List UInt8) : proofL [a, b, c, d, e] 3 = [c, d, nodeS a b, e] := by
  have h1 : proofL [a, b, c, d, e] 3 = subS [a, b, c, d, e] 3 true := by unfold proofL; rw [if_pos (by simp)]; rfl
  rw [h1, subS_left (by decide) (by simp) (by simp [split5])]
  simp only [List.length_cons, List.length_nil, Nat.zero_add, Nat.reduceAdd, split5, List.take_succ_cons, List.take_zero, List.drop_succ_cons, List.drop_zero, rootS_one]
  rw [subS_right (by simp) (by simp [split4])]
  simp only [List.length_cons, List.length_nil, Nat.zero_add, Nat.reduceAdd, split4, List.take_succ_cons, List.take_zero, List.drop_succ_cons, List.drop_zero, root2, Nat.reduceSub]
  rw [subS_left (by decide) (by simp) (by simp [split2])]
  simp only [List.length_cons, List.length_nil, Nat.zero_add, Nat.reduceAdd, split2, List.take_succ_cons, List.take_zero, List.drop_succ_cons, List.drop_zero, rootS_one]
  have := subS_all [c] false
  simp only [List.length_cons, List.length_nil, Nat.zero_add] at this
  rw [this]
  simp [rootS_one]
theorem sub_five4 (a b c d e : List UInt8) : proofL [a, b, c, d, e] 4 = [e] := by
  have h1 : proofL [a, b, c, d, e] 4 = subS [a, b, c, d, e] 4 true := by unfold proofL; rw [if_pos (by simp)]; rfl
  rw [h1, subS_left (by decide) (by simp) (by simp [split5])]
  simp only [List.length_cons, List.length_nil, Nat.zero_add, Nat.reduceAdd, split5, List.take_succ_cons, List.take_zero, List.drop_succ_cons, List.drop_zero, rootS_one]
  have := subS_all [a, b, c, d] true
  simp only [List.length_cons, List.length_nil, Nat.zero_add, Nat.reduceAdd] at this
  rw [this]; rfl
theorem chk_five4 (a b c d e : List UInt8) : chkI 4 5 (rootS [a, b, c, d]) (rootS [a, b, c, d, e]) [e] = 0 := by
  rw [root5]
  generalize rootS [a, b, c, d] = o
  have h1 : chkI 4 5 o (nodeS o e) [e] = fitI (chkS 3 4 o [e]) o (nodeS o e) := by unfold chkI; simp
  have h2 : chkS 3 4 o [e] = some (o, nodeS o e) := by
    unfold chkS
    rw [st_odd (by decide), st_odd (by decide), st_even (by decide)]
    simp only [chkG, Nat.reduceDiv, Nat.lt_irrefl, if_false]
    rw [lp_ne (by decide) (by decide) (by decide), lp_zero]
    rfl
  rw [h1, h2]
  simp [fitI]
theorem chk_five3 (o nw e : List UInt8) : chkI 3 5 o nw [e] = 80 := by
  have h1 : chkI 3 5 o nw [e] = fitI (chkS 2 4 o [e]) o nw := by unfold chkI; simp
  have h2 : chkS 2 4 o [e] = none := by
    unfold chkS
    rw [st_even (by decide)]
    simp only [chkG, Nat.reduceLT, if_true, Nat.zero_lt_succ]
    obtain ⟨t, P, h⟩ := lp_pos (i := 2) (last := 4) (by decide)
    rw [h, run_nil]
  rw [h1, h2]; rfl
theorem OwnN.nilv {sz : Nat} {τ σ' : Store} {v : AV} (h : OwnN sz τ σ' v []) : v = .nilsl := by
  obtain ⟨news, rfl, ⟨_, rfl⟩ | ⟨j, h0, _⟩⟩ := h
  · rfl
  · exact absurd rfl h0
theorem ProofP.is {σ σ' : Store} {hs : List (List UInt8)} {m : Int} {v : AV} (h : ProofP σ hs m v σ') : ∃ v2, v = .tup [v2, .int .i64 (proofE hs m)] ∧ OwnN 32 σ σ' v2 (hrows (proofL hs m)) := h
set_option maxHeartbeats 8000000 in
theorem proved7_to (σ : Store) : ACallsTo TC 15 [] σ (.bool true) σ := by
  refine ACallsTo.of_body speculumlaw07_proved_ok (by simp) fun hw _ => ?_
  obtain ⟨a, b, c, d, e, hl5, hH⟩ : ∃ a b c d e, someS 2 5 = [a, b, c, d, e] ∧ H32 [a, b, c, d, e] := ⟨_, _, _, _, _, rfl, someS_H 2 5⟩
  have hS : ∀ σ, ACallsTo TC 21 [.int .i64 5, .int .u8 2] σ (.vsl 32 (hrows [a, b, c, d, e]) false) σ := fun σ => by
    have := Some_to σ 5 2 (by decide)
    have e1 : slVal 32 (hrows (someS 2 (5 : Int).toNat)) = .vsl 32 (hrows [a, b, c, d, e]) false := by
      rw [show (5 : Int).toNat = 5 from rfl, hl5]; rfl
    rw [e1] at this
    exact this
  have ha : a.length = 32 := hH a (by simp)
  have hb : b.length = 32 := hH b (by simp)
  have hc : c.length = 32 := hH c (by simp)
  have hd : d.length = 32 := hH d (by simp)
  have he : e.length = 32 := hH e (by simp)
  have hsl : SlV 32 (hrows [a, b, c, d, e]) (.vsl 32 (hrows [a, b, c, d, e]) false) := .inr ⟨false, rfl⟩
  have hP := fun σ (m : Int) => Proof_to σ [a, b, c, d, e] (.vsl 32 (hrows [a, b, c, d, e]) false) m hsl hH (by simp)
  have p3 := sub_five3 a b c d e
  have p4 := sub_five4 a b c d e
  have p5 : proofL [a, b, c, d, e] 5 = [] := by unfold proofL; rw [if_neg (by simp)]
  have p0 : proofL [a, b, c, d, e] 0 = [] := by unfold proofL; rw [if_neg (by simp)]
  have p6 : proofL [a, b, c, d, e] 6 = [] := by unfold proofL; rw [if_neg (by simp)]
  have e3 : proofE [a, b, c, d, e] 3 = 0 := by unfold proofE; rw [if_neg (by simp)]
  have e4 : proofE [a, b, c, d, e] 4 = 0 := by unfold proofE; rw [if_neg (by simp)]
  have e5 : proofE [a, b, c, d, e] 5 = 0 := by unfold proofE; rw [if_neg (by simp)]
  have e0 : proofE [a, b, c, d, e] 0 = 0 := by unfold proofE; rw [if_neg (by simp)]
  have e6 : proofE [a, b, c, d, e] 6 = 2 := by unfold proofE; rw [if_pos (by simp)]
  repeat' (first | (apply callW.any; (first | exact (hS _)); all_goals try (simp (disch := first | omega | (simp only [List.length_set, List.length_append, List.length_cons, List.length_nil, List.length_map]; omega)) only [go_sem, Nat.reduceEqDiff, Nat.reduceBEq, Nat.reduceAdd, Nat.reduceMul, Nat.reduceSub, Nat.reduceLeDiff, Int.reduceToNat, Int.reducePow])) | refine SWp.seq ?_ | refine SWp.block ?_ | refine SWp.scope ?_ | (refine SWp.reg ?_; (simp (disch := first | omega | (simp only [List.length_set, List.length_append, List.length_cons, List.length_nil, List.length_map]; omega)) only [go_sem, Nat.reduceEqDiff, Nat.reduceBEq, Nat.reduceAdd, Nat.reduceMul, Nat.reduceSub, Nat.reduceLeDiff, Int.reduceToNat, Int.reducePow])) | refine SWp.condT rfl ?_ | refine SWp.condF rfl ?_ | (refine SWp.condD rfl (fun ht => ?_) (fun ht => ?_) <;> try (exfalso; omega)) | ((first | refine SWp.skip ?_ | refine SWp.exit ?_ | refine SWp.ret ?_); try (simp (disch := first | omega | (simp only [List.length_set, List.length_append, List.length_cons, List.length_nil, List.length_map]; omega)) only [go_sem, Nat.reduceEqDiff, Nat.reduceBEq, Nat.reduceAdd, Nat.reduceMul, Nat.reduceSub, Nat.reduceLeDiff, Int.reduceToNat, Int.reducePow])) | ((first | refine splitG (fun ht => ?_) (fun ht => ?_) | refine splitGB (fun ht => ?_) (fun ht => ?_) | refine splitR (fun ht => ?_) (fun ht => ?_) | refine splitRB (fun ht => ?_) (fun ht => ?_) | refine splitE (fun ht => ?_) (fun ht => ?_) | refine splitEB (fun ht => ?_) (fun ht => ?_) | refine splitC (fun ht => ?_) (fun ht => ?_) | refine splitCB (fun ht => ?_) (fun ht => ?_)) <;> (simp (disch := first | omega | (simp only [List.length_set, List.length_append, List.length_cons, List.length_nil, List.length_map]; omega)) only [go_sem, Nat.reduceEqDiff, Nat.reduceBEq, Nat.reduceAdd, Nat.reduceMul, Nat.reduceSub, Nat.reduceLeDiff, Int.reduceToNat, Int.reducePow])))
  refine callW.mkP (hP _ 3) (ProofP.ex _ _ _) ?_
  rintro _ σ1 ⟨v3, rfl, o3⟩
  rw [p3] at o3
  rw [e3]
  repeat' (first | refine SWp.seq ?_ | refine SWp.block ?_ | refine SWp.scope ?_ | (refine SWp.reg ?_; (simp (disch := first | omega | (simp only [List.length_set, List.length_append, List.length_cons, List.length_nil, List.length_map]; omega)) only [go_sem, Nat.reduceEqDiff, Nat.reduceBEq, Nat.reduceAdd, Nat.reduceMul, Nat.reduceSub, Nat.reduceLeDiff, Int.reduceToNat, Int.reducePow])) | refine SWp.condT rfl ?_ | refine SWp.condF rfl ?_ | (refine SWp.condD rfl (fun ht => ?_) (fun ht => ?_) <;> try (exfalso; omega)) | ((first | refine SWp.skip ?_ | refine SWp.exit ?_ | refine SWp.ret ?_); try (simp (disch := first | omega | (simp only [List.length_set, List.length_append, List.length_cons, List.length_nil, List.length_map]; omega)) only [go_sem, Nat.reduceEqDiff, Nat.reduceBEq, Nat.reduceAdd, Nat.reduceMul, Nat.reduceSub, Nat.reduceLeDiff, Int.reduceToNat, Int.reducePow])) | ((first | refine splitG (fun ht => ?_) (fun ht => ?_) | refine splitGB (fun ht => ?_) (fun ht => ?_) | refine splitR (fun ht => ?_) (fun ht => ?_) | refine splitRB (fun ht => ?_) (fun ht => ?_) | refine splitE (fun ht => ?_) (fun ht => ?_) | refine splitEB (fun ht => ?_) (fun ht => ?_) | refine splitC (fun ht => ?_) (fun ht => ?_) | refine splitCB (fun ht => ?_) (fun ht => ?_)) <;> (simp (disch := first | omega | (simp only [List.length_set, List.length_append, List.length_cons, List.length_nil, List.length_map]; omega)) only [go_sem, Nat.reduceEqDiff, Nat.reduceBEq, Nat.reduceAdd, Nat.reduceMul, Nat.reduceSub, Nat.reduceLeDiff, Int.reduceToNat, Int.reducePow])))
  refine callW.mkP (hP _ 4) (ProofP.ex _ _ _) ?_
  rintro _ σ2 ⟨v4, rfl, o4⟩
  rw [p4] at o4
  rw [e4]
  repeat' (first | refine SWp.seq ?_ | refine SWp.block ?_ | refine SWp.scope ?_ | (refine SWp.reg ?_; (simp (disch := first | omega | (simp only [List.length_set, List.length_append, List.length_cons, List.length_nil, List.length_map]; omega)) only [go_sem, Nat.reduceEqDiff, Nat.reduceBEq, Nat.reduceAdd, Nat.reduceMul, Nat.reduceSub, Nat.reduceLeDiff, Int.reduceToNat, Int.reducePow])) | refine SWp.condT rfl ?_ | refine SWp.condF rfl ?_ | (refine SWp.condD rfl (fun ht => ?_) (fun ht => ?_) <;> try (exfalso; omega)) | ((first | refine SWp.skip ?_ | refine SWp.exit ?_ | refine SWp.ret ?_); try (simp (disch := first | omega | (simp only [List.length_set, List.length_append, List.length_cons, List.length_nil, List.length_map]; omega)) only [go_sem, Nat.reduceEqDiff, Nat.reduceBEq, Nat.reduceAdd, Nat.reduceMul, Nat.reduceSub, Nat.reduceLeDiff, Int.reduceToNat, Int.reducePow])) | ((first | refine splitG (fun ht => ?_) (fun ht => ?_) | refine splitGB (fun ht => ?_) (fun ht => ?_) | refine splitR (fun ht => ?_) (fun ht => ?_) | refine splitRB (fun ht => ?_) (fun ht => ?_) | refine splitE (fun ht => ?_) (fun ht => ?_) | refine splitEB (fun ht => ?_) (fun ht => ?_) | refine splitC (fun ht => ?_) (fun ht => ?_) | refine splitCB (fun ht => ?_) (fun ht => ?_)) <;> (simp (disch := first | omega | (simp only [List.length_set, List.length_append, List.length_cons, List.length_nil, List.length_map]; omega)) only [go_sem, Nat.reduceEqDiff, Nat.reduceBEq, Nat.reduceAdd, Nat.reduceMul, Nat.reduceSub, Nat.reduceLeDiff, Int.reduceToNat, Int.reducePow])))
  refine callW.mkP (hP _ 5) (ProofP.ex _ _ _) ?_
  rintro _ σ3 ⟨v5, rfl, o5⟩
  rw [p5] at o5
  rw [e5]
  obtain rfl := o5.nilv
  repeat' (first | refine SWp.seq ?_ | refine SWp.block ?_ | refine SWp.scope ?_ | (refine SWp.reg ?_; (simp (disch := first | omega | (simp only [List.length_set, List.length_append, List.length_cons, List.length_nil, List.length_map]; omega)) only [go_sem, Nat.reduceEqDiff, Nat.reduceBEq, Nat.reduceAdd, Nat.reduceMul, Nat.reduceSub, Nat.reduceLeDiff, Int.reduceToNat, Int.reducePow])) | refine SWp.condT rfl ?_ | refine SWp.condF rfl ?_ | (refine SWp.condD rfl (fun ht => ?_) (fun ht => ?_) <;> try (exfalso; omega)) | ((first | refine SWp.skip ?_ | refine SWp.exit ?_ | refine SWp.ret ?_); try (simp (disch := first | omega | (simp only [List.length_set, List.length_append, List.length_cons, List.length_nil, List.length_map]; omega)) only [go_sem, Nat.reduceEqDiff, Nat.reduceBEq, Nat.reduceAdd, Nat.reduceMul, Nat.reduceSub, Nat.reduceLeDiff, Int.reduceToNat, Int.reducePow])) | ((first | refine splitG (fun ht => ?_) (fun ht => ?_) | refine splitGB (fun ht => ?_) (fun ht => ?_) | refine splitR (fun ht => ?_) (fun ht => ?_) | refine splitRB (fun ht => ?_) (fun ht => ?_) | refine splitE (fun ht => ?_) (fun ht => ?_) | refine splitEB (fun ht => ?_) (fun ht => ?_) | refine splitC (fun ht => ?_) (fun ht => ?_) | refine splitCB (fun ht => ?_) (fun ht => ?_)) <;> (simp (disch := first | omega | (simp only [List.length_set, List.length_append, List.length_cons, List.length_nil, List.length_map]; omega)) only [go_sem, Nat.reduceEqDiff, Nat.reduceBEq, Nat.reduceAdd, Nat.reduceMul, Nat.reduceSub, Nat.reduceLeDiff, Int.reduceToNat, Int.reducePow])))
  refine callW.mkP (hP _ 0) (ProofP.ex _ _ _) ?_
  rintro _ σ4 ⟨v0, rfl, o0⟩
  rw [p0] at o0
  rw [e0]
  obtain rfl := o0.nilv
  repeat' (first | refine SWp.seq ?_ | refine SWp.block ?_ | refine SWp.scope ?_ | (refine SWp.reg ?_; (simp (disch := first | omega | (simp only [List.length_set, List.length_append, List.length_cons, List.length_nil, List.length_map]; omega)) only [go_sem, Nat.reduceEqDiff, Nat.reduceBEq, Nat.reduceAdd, Nat.reduceMul, Nat.reduceSub, Nat.reduceLeDiff, Int.reduceToNat, Int.reducePow])) | refine SWp.condT rfl ?_ | refine SWp.condF rfl ?_ | (refine SWp.condD rfl (fun ht => ?_) (fun ht => ?_) <;> try (exfalso; omega)) | ((first | refine SWp.skip ?_ | refine SWp.exit ?_ | refine SWp.ret ?_); try (simp (disch := first | omega | (simp only [List.length_set, List.length_append, List.length_cons, List.length_nil, List.length_map]; omega)) only [go_sem, Nat.reduceEqDiff, Nat.reduceBEq, Nat.reduceAdd, Nat.reduceMul, Nat.reduceSub, Nat.reduceLeDiff, Int.reduceToNat, Int.reducePow])) | ((first | refine splitG (fun ht => ?_) (fun ht => ?_) | refine splitGB (fun ht => ?_) (fun ht => ?_) | refine splitR (fun ht => ?_) (fun ht => ?_) | refine splitRB (fun ht => ?_) (fun ht => ?_) | refine splitE (fun ht => ?_) (fun ht => ?_) | refine splitEB (fun ht => ?_) (fun ht => ?_) | refine splitC (fun ht => ?_) (fun ht => ?_) | refine splitCB (fun ht => ?_) (fun ht => ?_)) <;> (simp (disch := first | omega | (simp only [List.length_set, List.length_append, List.length_cons, List.length_nil, List.length_map]; omega)) only [go_sem, Nat.reduceEqDiff, Nat.reduceBEq, Nat.reduceAdd, Nat.reduceMul, Nat.reduceSub, Nat.reduceLeDiff, Int.reduceToNat, Int.reducePow])))
  refine callW.mkP (hP _ 6) (ProofP.ex _ _ _) ?_
  rintro _ σ5 ⟨v6, rfl, o6⟩
  rw [p6] at o6
  rw [e6]
  obtain rfl := o6.nilv
  obtain ⟨y2, rfl⟩ := o4.ext
  obtain ⟨y3, rfl⟩ := o5.ext
  obtain ⟨y4, rfl⟩ := o0.ext
  obtain ⟨y5, rfl⟩ := o6.ext
  obtain ⟨y1, hy1⟩ := o3.ext
  have r3 : ∀ y, RdSl (σ1 ++ y2 ++ y3 ++ y4 ++ y5 ++ y) 32 (hrows [c, d, nodeS a b, e]) v3 := fun y => ((((o3.rd.app).app).app).app).app
  have r4 : ∀ y, RdSl (σ1 ++ y2 ++ y3 ++ y4 ++ y5 ++ y) 32 (hrows [e]) v4 := fun y => (((o4.rd.app).app).app).app
  have hall : ∃ y, σ1 ++ y2 ++ y3 ++ y4 ++ y5 = σ ++ y := ⟨y1 ++ y2 ++ y3 ++ y4 ++ y5, by rw [hy1]; simp⟩
  clear hP o3 o4 o5 o0 o6 hy1
  generalize σ1 ++ y2 ++ y3 ++ y4 ++ y5 = σ6 at *
  obtain ⟨y, rfl⟩ := hall
  have hRt := fun σ => trees_Root_to σ [a, b, c, d, e] (.vsl 32 (hrows [a, b, c, d, e]) false) hsl hH (by simp)
  have hrl : (rootS [a, b, c, d, e]).length = 32 := rootS_len hH
  have hH4 : H32 [a, b, c, d] := fun x hx => hH x (by simp at hx ⊢; rcases hx with h | h | h | h <;> simp [h])
  have hH3 : H32 [a, b, c] := fun x hx => hH x (by simp at hx ⊢; rcases hx with h | h | h <;> simp [h])
  have hr4 : (rootS [a, b, c, d]).length = 32 := rootS_len hH4
  have hr3 : (rootS [a, b, c]).length = 32 := rootS_len hH3
  have hq4 := chk_five4 a b c d e
  have hq3 := chk_five3 (rootS [a, b, c]) (rootS [a, b, c, d, e]) e
  have hCk4 := fun y1 => Check_rd (σ ++ y ++ y1) 4 5 (rootS [a, b, c, d]) (rootS [a, b, c, d, e]) v4 [e] (r4 y1) (fun x hx => by simp at hx; rw [hx]; exact he) hr4 hrl (by simp)
  have hCk3 := fun y1 => Check_rd (σ ++ y ++ y1) 3 5 (rootS [a, b, c]) (rootS [a, b, c, d, e]) v4 [e] (r4 y1) (fun x hx => by simp at hx; rw [hx]; exact he) hr3 hrl (by simp)
  rw [hq4] at hCk4
  rw [hq3] at hCk3
  have hH34 : H32 [c, d, nodeS a b, e] := fun x hx => by
    simp at hx
    rcases hx with rfl | rfl | rfl | rfl
    · exact hc
    · exact hd
    · exact nodeS_len _ _
    · exact he
  have hH1 : H32 [e] := fun x hx => by simp at hx; rw [hx]; exact he
  have hSm3 := fun y1 => Same_rd (σ ++ y ++ y1) [c, d, nodeS a b, e] [c, d, nodeS a b, e] v3 (.vsl 32 (hrows [c, d, nodeS a b, e]) true) (r3 y1) (.of (.inr ⟨true, rfl⟩)) hH34 hH34 (by simp) (by simp)
  have hSm4 := fun y1 => Same_rd (σ ++ y ++ y1) [e] [e] v4 (.vsl 32 (hrows [e]) true) (r4 y1) (.of (.inr ⟨true, rfl⟩)) hH1 hH1 (by simp) (by simp)
  rw [decide_eq_true rfl] at hSm3 hSm4
  have hR4 := fun σ ex => trees_Root_to σ [a, b, c, d] (.vsl 32 (hrows [a, b, c, d]) ex) (.inr ⟨ex, rfl⟩) hH4 (by simp)
  have hR3 := fun σ ex => trees_Root_to σ [a, b, c] (.vsl 32 (hrows [a, b, c]) ex) (.inr ⟨ex, rfl⟩) hH3 (by simp)
  have hNd := fun σ => trees_Node_to σ a b ha hb
  have ca := byteEsC_len a
  have cb := byteEsC_len b
  have cc := byteEsC_len c
  have cd := byteEsC_len d
  have ce := byteEsC_len e
  have cn := byteEsC_len (nodeS a b)
  have cr := byteEsC_len (rootS [a, b, c, d, e])
  rw [ha] at ca
  rw [hb] at cb
  rw [hc] at cc
  rw [hd] at cd
  rw [he] at ce
  rw [nodeS_len] at cn
  rw [hrl] at cr
  simp only [List.append_assoc] at hSm3 hSm4 hCk4 hCk3
  simp only [hrows, List.map_cons, List.map_nil] at hRt hCk4 hCk3 hSm3 hSm4 hR4 hR3 ⊢
  clear r3 r4 hH hH34 hH1 hH4 hH3 p3 p4 p5 p0 p6 e3 e4 e5 e0 e6 hS hsl hq4 hq3 hl5
  generalize byteEsC (rootS [a, b, c, d, e]) = rr at *
  generalize byteEsC (nodeS a b) = rn at *
  generalize byteEsC a = ra at *
  generalize byteEsC b = rb at *
  generalize byteEsC c = rc at *
  generalize byteEsC d = rd at *
  generalize byteEsC e = re at *
  have dr : rr.drop 32 = [] := List.drop_of_length_le (by omega)
  repeat' (first | (apply callW.any; (first | exact (hRt _) | exact (hNd _) | exact (hSm3 _) | exact (hSm4 _) | exact (hR4 _ _) | exact (hR3 _ _) | exact (hCk4 _) | exact (hCk3 _)); all_goals try (simp (disch := first | omega | (simp only [List.length_set, List.length_append, List.length_cons, List.length_nil, List.length_map]; omega)) only [go_sem, Nat.reduceEqDiff, Nat.reduceBEq, Nat.reduceAdd, Nat.reduceMul, Nat.reduceSub, Nat.reduceLeDiff, Int.reduceToNat, Int.reducePow, ca, cb, cc, cd, ce, cn, cr, dr])) | refine SWp.seq ?_ | refine SWp.block ?_ | refine SWp.scope ?_ | (refine SWp.regS ?_; (simp (disch := first | omega | (simp only [List.length_set, List.length_append, List.length_cons, List.length_nil, List.length_map]; omega)) only [go_sem, Nat.reduceEqDiff, Nat.reduceBEq, Nat.reduceAdd, Nat.reduceMul, Nat.reduceSub, Nat.reduceLeDiff, Int.reduceToNat, Int.reducePow, ca, cb, cc, cd, ce, cn, cr, dr])) | refine SWp.condT rfl ?_ | refine SWp.condF rfl ?_ | (refine SWp.condD rfl (fun ht => ?_) (fun ht => ?_) <;> try (exfalso; omega)) | ((first | refine SWp.skip ?_ | refine SWp.exit ?_ | refine SWp.ret ?_); try (simp (disch := first | omega | (simp only [List.length_set, List.length_append, List.length_cons, List.length_nil, List.length_map]; omega)) only [go_sem, Nat.reduceEqDiff, Nat.reduceBEq, Nat.reduceAdd, Nat.reduceMul, Nat.reduceSub, Nat.reduceLeDiff, Int.reduceToNat, Int.reducePow, ca, cb, cc, cd, ce, cn, cr, dr])) | ((first | refine splitG (fun ht => ?_) (fun ht => ?_) | refine splitGB (fun ht => ?_) (fun ht => ?_) | refine splitR (fun ht => ?_) (fun ht => ?_) | refine splitRB (fun ht => ?_) (fun ht => ?_) | refine splitE (fun ht => ?_) (fun ht => ?_) | refine splitEB (fun ht => ?_) (fun ht => ?_) | refine splitC (fun ht => ?_) (fun ht => ?_) | refine splitCB (fun ht => ?_) (fun ht => ?_)) <;> (simp (disch := first | omega | (simp only [List.length_set, List.length_append, List.length_cons, List.length_nil, List.length_map]; omega)) only [go_sem, Nat.reduceEqDiff, Nat.reduceBEq, Nat.reduceAdd, Nat.reduceMul, Nat.reduceSub, Nat.reduceLeDiff, Int.reduceToNat, Int.reducePow, ca, cb, cc, cd, ce, cn, cr, dr])))
  exact DownV.pure hw (rlB_ok _ rfl)
end Am
end Go.Proofs.YtfofemaglndnjaaDoor
end
section
set_option linter.unusedSimpArgs false
set_option linter.unusedVariables false
/- Proofs: the law ProofsProof: its contract. -/
set_option linter.unusedSimpArgs false
set_option linter.unusedVariables false
namespace Go.Proofs.YtfofemaglndnjaaDoor
namespace Am
def hashTy : Ty := .row (List.replicate 32 (.int .u8))
theorem bytes_of : ∀ (n : Nat) (cs : List AV), ShRow (List.replicate n (.int .u8)) cs → ∃ h : List UInt8, cs = byteEsC h ∧ h.length = n
  | 0, cs, h => ⟨[], by simpa only [List.replicate_zero, ShRow, byteEsC, List.map_nil] using h, rfl⟩
  | n + 1, cs, h => by
    simp only [List.replicate_succ, ShRow, ShC] at h
    obtain ⟨_, b, rfl, ⟨x, rfl, h1, h2⟩, h3⟩ := h
    obtain ⟨l, rfl, hl⟩ := bytes_of n b h3
    simp only [IntKind.min, IntKind.max, IntKind.signed, IntKind.bits] at h1 h2
    simp at h1 h2
    refine ⟨UInt8.ofNat x.toNat :: l, ?_, by simp [hl]⟩
    have : ((UInt8.ofNat x.toNat).toNat : Int) = x := by rw [UInt8.toNat_ofNat']; omega
    simp only [byteEsC, List.map_cons, List.singleton_append, this]
theorem hash_of {cs : List AV} (h : ShC hashTy cs) : ∃ l : List UInt8, cs = byteEsC l ∧ l.length = 32 := bytes_of 32 cs (by simpa only [hashTy, ShC] using h)
theorem hashes_of : ∀ (es : List (List AV)), (∀ x ∈ es, ShC hashTy x) → ∃ hs, es = hrows hs ∧ H32 hs
  | [], _ => ⟨[], rfl, fun _ h => by simp at h⟩
  | e :: es, h => by
    obtain ⟨l, rfl, hl⟩ := hash_of (h e (by simp))
    obtain ⟨hs, rfl, hH⟩ := hashes_of es (fun x hx => h x (by simp [hx]))
    refine ⟨l :: hs, rfl, fun x hx => ?_⟩
    rcases List.mem_cons.1 hx with rfl | hx
    · exact hl
    · exact hH x hx
/-- A slice of hashes, as_ an argument. -/
theorem hsl_of {a : AV} (h : Sh (.sl 32 hashTy) a) : ∃ hs, SlV 32 (hrows hs) a ∧ H32 hs ∧ hs.length ≤ maxLen := by
  simp only [Sh, ShC] at h
  rcases h with h | ⟨es, h, hl, _, h2⟩
  · cases h
    exact ⟨[], .inl ⟨rfl, rfl⟩, fun _ h => by simp at h, Nat.zero_le _⟩
  · cases h
    obtain ⟨hs, rfl, hH⟩ := hashes_of es h2
    exact ⟨hs, .inr ⟨false, rfl⟩, hH, by rwa [hrows_len] at hl⟩
theorem i64_of {a : AV} (h : Sh (.int .i64) a) : ∃ n : Int, a = .int .i64 n ∧ -9223372036854775808 ≤ n ∧ n ≤ 9223372036854775807 := by
  simp only [Sh, ShC] at h
  obtain ⟨n, h, h1, h2⟩ := h
  cases h
  simp only [IntKind.min, IntKind.max, IntKind.signed, IntKind.bits] at h1 h2
  simp at h1 h2
  exact ⟨n, rfl, h1, h2⟩
theorem RefP.ex (σ : Store) (hs : List (List UInt8)) (m : Int) : ∃ v σ', RefP σ hs m v σ' := ⟨_, _, _, rfl, .inl (own_is σ 32 _)⟩
set_option maxHeartbeats 8000000 in
theorem ProofsProof_to (hs : List (List UInt8)) (x : AV) (mm : Int) (hx : SlV 32 (hrows hs) x) (hH : H32 hs) (hml : hs.length ≤ maxLen) : ACallsTo TC 3 [x, .int .i64 mm] [] (.bool true) [] := by
  clear hml
  refine ACallsTo.of_body speculumlaw07_ProofsProof_ok (by simp) fun hw _ => ?_
  have r1 := hx.len
  rw [hrows_len] at r1
  unfold rLenSl at r1
  by_cases hl : hs.length ≤ 60
  · have hP := fun σ m => Proof_to σ hs x m hx hH (by omega)
    have hP2 := fun σ m => refProof_to σ hs x m hx hH (by omega)
    repeat' (first | refine SWp.seq ?_ | refine SWp.block ?_ | refine SWp.scope ?_ | (refine SWp.reg ?_; (simp (disch := first | omega | (simp only [List.length_set, List.length_append, List.length_cons, List.length_nil, List.length_map]; omega)) only [go_sem, Nat.reduceEqDiff, Nat.reduceBEq, Nat.reduceAdd, Nat.reduceMul, Nat.reduceSub, Nat.reduceLeDiff, Int.reduceToNat, Int.reducePow, r1])) | refine SWp.condT rfl ?_ | refine SWp.condF rfl ?_ | (refine SWp.condD rfl (fun ht => ?_) (fun ht => ?_) <;> try (exfalso; omega)) | ((first | refine SWp.skip ?_ | refine SWp.exit ?_ | refine SWp.ret ?_); try (simp (disch := first | omega | (simp only [List.length_set, List.length_append, List.length_cons, List.length_nil, List.length_map]; omega)) only [go_sem, Nat.reduceEqDiff, Nat.reduceBEq, Nat.reduceAdd, Nat.reduceMul, Nat.reduceSub, Nat.reduceLeDiff, Int.reduceToNat, Int.reducePow, r1])) | ((first | refine splitG (fun ht => ?_) (fun ht => ?_) | refine splitGB (fun ht => ?_) (fun ht => ?_) | refine splitR (fun ht => ?_) (fun ht => ?_) | refine splitRB (fun ht => ?_) (fun ht => ?_) | refine splitE (fun ht => ?_) (fun ht => ?_) | refine splitEB (fun ht => ?_) (fun ht => ?_) | refine splitC (fun ht => ?_) (fun ht => ?_) | refine splitCB (fun ht => ?_) (fun ht => ?_)) <;> (simp (disch := first | omega | (simp only [List.length_set, List.length_append, List.length_cons, List.length_nil, List.length_map]; omega)) only [go_sem, Nat.reduceEqDiff, Nat.reduceBEq, Nat.reduceAdd, Nat.reduceMul, Nat.reduceSub, Nat.reduceLeDiff, Int.reduceToNat, Int.reducePow, r1])))
    refine SWp.loop (fun m ρ σ' => ∃ k : Int, m = (hs.length + 4 - k).toNat ∧ -1 ≤ k ∧ k ≤ hs.length + 3 ∧ ρ 0 = x ∧ ρ 1 = .int .i64 mm ∧ ρ 5 = .int .i64 k) (hs.length + 5) ?_ ?_
    · exact ⟨-1, by omega, by omega, by omega, by simp (disch := first | omega | (simp only [List.length_set, List.length_append, List.length_cons, List.length_nil, List.length_map]; omega)) only [go_sem, Nat.reduceEqDiff, Nat.reduceBEq, Nat.reduceAdd, Nat.reduceMul, Nat.reduceSub, Nat.reduceLeDiff, Int.reduceToNat, Int.reducePow], by simp (disch := first | omega | (simp only [List.length_set, List.length_append, List.length_cons, List.length_nil, List.length_map]; omega)) only [go_sem, Nat.reduceEqDiff, Nat.reduceBEq, Nat.reduceAdd, Nat.reduceMul, Nat.reduceSub, Nat.reduceLeDiff, Int.reduceToNat, Int.reducePow], by simp (disch := first | omega | (simp only [List.length_set, List.length_append, List.length_cons, List.length_nil, List.length_map]; omega)) only [go_sem, Nat.reduceEqDiff, Nat.reduceBEq, Nat.reduceAdd, Nat.reduceMul, Nat.reduceSub, Nat.reduceLeDiff, Int.reduceToNat, Int.reducePow]⟩
    · rintro _ ρ σ' ⟨k, rfl, hk1, hk2, q0, q1, q5⟩
      by_cases hk : k ≤ hs.length + 2
      · by_cases hke : k = hs.length + 2
        · subst hke
          repeat' (first | refine SWp.seq ?_ | refine SWp.block ?_ | refine SWp.scope ?_ | (refine SWp.reg ?_; (simp (disch := first | omega | (simp only [List.length_set, List.length_append, List.length_cons, List.length_nil, List.length_map]; omega)) only [go_sem, Nat.reduceEqDiff, Nat.reduceBEq, Nat.reduceAdd, Nat.reduceMul, Nat.reduceSub, Nat.reduceLeDiff, Int.reduceToNat, Int.reducePow, q0, q1, q5, r1])) | refine SWp.condT rfl ?_ | refine SWp.condF rfl ?_ | (refine SWp.condD rfl (fun ht => ?_) (fun ht => ?_) <;> try (exfalso; omega)) | ((first | refine SWp.skip ?_ | refine SWp.exit ?_ | refine SWp.ret ?_); try (simp (disch := first | omega | (simp only [List.length_set, List.length_append, List.length_cons, List.length_nil, List.length_map]; omega)) only [go_sem, Nat.reduceEqDiff, Nat.reduceBEq, Nat.reduceAdd, Nat.reduceMul, Nat.reduceSub, Nat.reduceLeDiff, Int.reduceToNat, Int.reducePow, q0, q1, q5, r1])) | ((first | refine splitG (fun ht => ?_) (fun ht => ?_) | refine splitGB (fun ht => ?_) (fun ht => ?_) | refine splitR (fun ht => ?_) (fun ht => ?_) | refine splitRB (fun ht => ?_) (fun ht => ?_) | refine splitE (fun ht => ?_) (fun ht => ?_) | refine splitEB (fun ht => ?_) (fun ht => ?_) | refine splitC (fun ht => ?_) (fun ht => ?_) | refine splitCB (fun ht => ?_) (fun ht => ?_)) <;> (simp (disch := first | omega | (simp only [List.length_set, List.length_append, List.length_cons, List.length_nil, List.length_map]; omega)) only [go_sem, Nat.reduceEqDiff, Nat.reduceBEq, Nat.reduceAdd, Nat.reduceMul, Nat.reduceSub, Nat.reduceLeDiff, Int.reduceToNat, Int.reducePow, q0, q1, q5, r1])))
          refine callW.mkP (hP σ' mm) (ProofP.ex _ _ _) ?_
          rintro _ σ1 ⟨v2, rfl, o1⟩
          have hE : proofE hs mm = 0 ∨ proofE hs mm = 2 := by unfold proofE; split <;> simp
          generalize hee : proofE hs mm = ee at *
          repeat' (first | refine SWp.seq ?_ | refine SWp.block ?_ | refine SWp.scope ?_ | (refine SWp.reg ?_; (simp (disch := first | omega | (simp only [List.length_set, List.length_append, List.length_cons, List.length_nil, List.length_map]; omega)) only [go_sem, Nat.reduceEqDiff, Nat.reduceBEq, Nat.reduceAdd, Nat.reduceMul, Nat.reduceSub, Nat.reduceLeDiff, Int.reduceToNat, Int.reducePow, q0, q1, q5])) | refine SWp.condT rfl ?_ | refine SWp.condF rfl ?_ | (refine SWp.condD rfl (fun ht => ?_) (fun ht => ?_) <;> try (exfalso; omega)) | ((first | refine SWp.skip ?_ | refine SWp.exit ?_ | refine SWp.ret ?_); try (simp (disch := first | omega | (simp only [List.length_set, List.length_append, List.length_cons, List.length_nil, List.length_map]; omega)) only [go_sem, Nat.reduceEqDiff, Nat.reduceBEq, Nat.reduceAdd, Nat.reduceMul, Nat.reduceSub, Nat.reduceLeDiff, Int.reduceToNat, Int.reducePow, q0, q1, q5])) | ((first | refine splitG (fun ht => ?_) (fun ht => ?_) | refine splitGB (fun ht => ?_) (fun ht => ?_) | refine splitR (fun ht => ?_) (fun ht => ?_) | refine splitRB (fun ht => ?_) (fun ht => ?_) | refine splitE (fun ht => ?_) (fun ht => ?_) | refine splitEB (fun ht => ?_) (fun ht => ?_) | refine splitC (fun ht => ?_) (fun ht => ?_) | refine splitCB (fun ht => ?_) (fun ht => ?_)) <;> (simp (disch := first | omega | (simp only [List.length_set, List.length_append, List.length_cons, List.length_nil, List.length_map]; omega)) only [go_sem, Nat.reduceEqDiff, Nat.reduceBEq, Nat.reduceAdd, Nat.reduceMul, Nat.reduceSub, Nat.reduceLeDiff, Int.reduceToNat, Int.reducePow, q0, q1, q5])))
          refine callW.mkP (hP2 σ1 mm) (RefP.ex _ _ _) ?_
          rintro _ σ2 ⟨v3, rfl, o2⟩
          rw [hee]
          obtain ⟨y, rfl⟩ := o2.ext
          have hSm := Same_rd (σ1 ++ y) _ _ v2 v3 (o1.rd.app (y := y)) o2.rd (proofL_H hH) (proofL_H hH) (Nat.lt_of_le_of_lt (proofL_le hH) (by omega)) (Nat.lt_of_le_of_lt (proofL_le hH) (by omega))
          rw [decide_eq_true rfl] at hSm
          repeat' (first | (apply callW.any; (first | exact (hSm)); all_goals try (simp (disch := first | omega | (simp only [List.length_set, List.length_append, List.length_cons, List.length_nil, List.length_map]; omega)) only [go_sem, Nat.reduceEqDiff, Nat.reduceBEq, Nat.reduceAdd, Nat.reduceMul, Nat.reduceSub, Nat.reduceLeDiff, Int.reduceToNat, Int.reducePow, q0, q1, q5, r1])) | refine SWp.seq ?_ | refine SWp.block ?_ | refine SWp.scope ?_ | (refine SWp.reg ?_; (simp (disch := first | omega | (simp only [List.length_set, List.length_append, List.length_cons, List.length_nil, List.length_map]; omega)) only [go_sem, Nat.reduceEqDiff, Nat.reduceBEq, Nat.reduceAdd, Nat.reduceMul, Nat.reduceSub, Nat.reduceLeDiff, Int.reduceToNat, Int.reducePow, q0, q1, q5, r1])) | refine SWp.condT rfl ?_ | refine SWp.condF rfl ?_ | (refine SWp.condD rfl (fun ht => ?_) (fun ht => ?_) <;> try (exfalso; omega)) | ((first | refine SWp.skip ?_ | refine SWp.exit ?_ | refine SWp.ret ?_); try (simp (disch := first | omega | (simp only [List.length_set, List.length_append, List.length_cons, List.length_nil, List.length_map]; omega)) only [go_sem, Nat.reduceEqDiff, Nat.reduceBEq, Nat.reduceAdd, Nat.reduceMul, Nat.reduceSub, Nat.reduceLeDiff, Int.reduceToNat, Int.reducePow, q0, q1, q5, r1])) | ((first | refine splitG (fun ht => ?_) (fun ht => ?_) | refine splitGB (fun ht => ?_) (fun ht => ?_) | refine splitR (fun ht => ?_) (fun ht => ?_) | refine splitRB (fun ht => ?_) (fun ht => ?_) | refine splitE (fun ht => ?_) (fun ht => ?_) | refine splitEB (fun ht => ?_) (fun ht => ?_) | refine splitC (fun ht => ?_) (fun ht => ?_) | refine splitCB (fun ht => ?_) (fun ht => ?_)) <;> (simp (disch := first | omega | (simp only [List.length_set, List.length_append, List.length_cons, List.length_nil, List.length_map]; omega)) only [go_sem, Nat.reduceEqDiff, Nat.reduceBEq, Nat.reduceAdd, Nat.reduceMul, Nat.reduceSub, Nat.reduceLeDiff, Int.reduceToNat, Int.reducePow, q0, q1, q5, r1])))
          exact ⟨_, by omega, ((hs.length : Int) + 2) + 1, rfl, by omega, by omega, by simp⟩

        · repeat' (first | refine SWp.seq ?_ | refine SWp.block ?_ | refine SWp.scope ?_ | (refine SWp.reg ?_; (simp (disch := first | omega | (simp only [List.length_set, List.length_append, List.length_cons, List.length_nil, List.length_map]; omega)) only [go_sem, Nat.reduceEqDiff, Nat.reduceBEq, Nat.reduceAdd, Nat.reduceMul, Nat.reduceSub, Nat.reduceLeDiff, Int.reduceToNat, Int.reducePow, q0, q1, q5, r1])) | refine SWp.condT rfl ?_ | refine SWp.condF rfl ?_ | (refine SWp.condD rfl (fun ht => ?_) (fun ht => ?_) <;> try (exfalso; omega)) | ((first | refine SWp.skip ?_ | refine SWp.exit ?_ | refine SWp.ret ?_); try (simp (disch := first | omega | (simp only [List.length_set, List.length_append, List.length_cons, List.length_nil, List.length_map]; omega)) only [go_sem, Nat.reduceEqDiff, Nat.reduceBEq, Nat.reduceAdd, Nat.reduceMul, Nat.reduceSub, Nat.reduceLeDiff, Int.reduceToNat, Int.reducePow, q0, q1, q5, r1])) | ((first | refine splitG (fun ht => ?_) (fun ht => ?_) | refine splitGB (fun ht => ?_) (fun ht => ?_) | refine splitR (fun ht => ?_) (fun ht => ?_) | refine splitRB (fun ht => ?_) (fun ht => ?_) | refine splitE (fun ht => ?_) (fun ht => ?_) | refine splitEB (fun ht => ?_) (fun ht => ?_) | refine splitC (fun ht => ?_) (fun ht => ?_) | refine splitCB (fun ht => ?_) (fun ht => ?_)) <;> (simp (disch := first | omega | (simp only [List.length_set, List.length_append, List.length_cons, List.length_nil, List.length_map]; omega)) only [go_sem, Nat.reduceEqDiff, Nat.reduceBEq, Nat.reduceAdd, Nat.reduceMul, Nat.reduceSub, Nat.reduceLeDiff, Int.reduceToNat, Int.reducePow, q0, q1, q5, r1])))
          refine callW.mkP (hP σ' k) (ProofP.ex _ _ _) ?_
          rintro _ σ1 ⟨v2, rfl, o1⟩
          have hE : proofE hs k = 0 ∨ proofE hs k = 2 := by unfold proofE; split <;> simp
          generalize hee : proofE hs k = ee at *
          repeat' (first | refine SWp.seq ?_ | refine SWp.block ?_ | refine SWp.scope ?_ | (refine SWp.reg ?_; (simp (disch := first | omega | (simp only [List.length_set, List.length_append, List.length_cons, List.length_nil, List.length_map]; omega)) only [go_sem, Nat.reduceEqDiff, Nat.reduceBEq, Nat.reduceAdd, Nat.reduceMul, Nat.reduceSub, Nat.reduceLeDiff, Int.reduceToNat, Int.reducePow, q0, q1, q5])) | refine SWp.condT rfl ?_ | refine SWp.condF rfl ?_ | (refine SWp.condD rfl (fun ht => ?_) (fun ht => ?_) <;> try (exfalso; omega)) | ((first | refine SWp.skip ?_ | refine SWp.exit ?_ | refine SWp.ret ?_); try (simp (disch := first | omega | (simp only [List.length_set, List.length_append, List.length_cons, List.length_nil, List.length_map]; omega)) only [go_sem, Nat.reduceEqDiff, Nat.reduceBEq, Nat.reduceAdd, Nat.reduceMul, Nat.reduceSub, Nat.reduceLeDiff, Int.reduceToNat, Int.reducePow, q0, q1, q5])) | ((first | refine splitG (fun ht => ?_) (fun ht => ?_) | refine splitGB (fun ht => ?_) (fun ht => ?_) | refine splitR (fun ht => ?_) (fun ht => ?_) | refine splitRB (fun ht => ?_) (fun ht => ?_) | refine splitE (fun ht => ?_) (fun ht => ?_) | refine splitEB (fun ht => ?_) (fun ht => ?_) | refine splitC (fun ht => ?_) (fun ht => ?_) | refine splitCB (fun ht => ?_) (fun ht => ?_)) <;> (simp (disch := first | omega | (simp only [List.length_set, List.length_append, List.length_cons, List.length_nil, List.length_map]; omega)) only [go_sem, Nat.reduceEqDiff, Nat.reduceBEq, Nat.reduceAdd, Nat.reduceMul, Nat.reduceSub, Nat.reduceLeDiff, Int.reduceToNat, Int.reducePow, q0, q1, q5])))
          refine callW.mkP (hP2 σ1 k) (RefP.ex _ _ _) ?_
          rintro _ σ2 ⟨v3, rfl, o2⟩
          rw [hee]
          obtain ⟨y, rfl⟩ := o2.ext
          have hSm := Same_rd (σ1 ++ y) _ _ v2 v3 (o1.rd.app (y := y)) o2.rd (proofL_H hH) (proofL_H hH) (Nat.lt_of_le_of_lt (proofL_le hH) (by omega)) (Nat.lt_of_le_of_lt (proofL_le hH) (by omega))
          rw [decide_eq_true rfl] at hSm
          repeat' (first | (apply callW.any; (first | exact (hSm)); all_goals try (simp (disch := first | omega | (simp only [List.length_set, List.length_append, List.length_cons, List.length_nil, List.length_map]; omega)) only [go_sem, Nat.reduceEqDiff, Nat.reduceBEq, Nat.reduceAdd, Nat.reduceMul, Nat.reduceSub, Nat.reduceLeDiff, Int.reduceToNat, Int.reducePow, q0, q1, q5, r1])) | refine SWp.seq ?_ | refine SWp.block ?_ | refine SWp.scope ?_ | (refine SWp.reg ?_; (simp (disch := first | omega | (simp only [List.length_set, List.length_append, List.length_cons, List.length_nil, List.length_map]; omega)) only [go_sem, Nat.reduceEqDiff, Nat.reduceBEq, Nat.reduceAdd, Nat.reduceMul, Nat.reduceSub, Nat.reduceLeDiff, Int.reduceToNat, Int.reducePow, q0, q1, q5, r1])) | refine SWp.condT rfl ?_ | refine SWp.condF rfl ?_ | (refine SWp.condD rfl (fun ht => ?_) (fun ht => ?_) <;> try (exfalso; omega)) | ((first | refine SWp.skip ?_ | refine SWp.exit ?_ | refine SWp.ret ?_); try (simp (disch := first | omega | (simp only [List.length_set, List.length_append, List.length_cons, List.length_nil, List.length_map]; omega)) only [go_sem, Nat.reduceEqDiff, Nat.reduceBEq, Nat.reduceAdd, Nat.reduceMul, Nat.reduceSub, Nat.reduceLeDiff, Int.reduceToNat, Int.reducePow, q0, q1, q5, r1])) | ((first | refine splitG (fun ht => ?_) (fun ht => ?_) | refine splitGB (fun ht => ?_) (fun ht => ?_) | refine splitR (fun ht => ?_) (fun ht => ?_) | refine splitRB (fun ht => ?_) (fun ht => ?_) | refine splitE (fun ht => ?_) (fun ht => ?_) | refine splitEB (fun ht => ?_) (fun ht => ?_) | refine splitC (fun ht => ?_) (fun ht => ?_) | refine splitCB (fun ht => ?_) (fun ht => ?_)) <;> (simp (disch := first | omega | (simp only [List.length_set, List.length_append, List.length_cons, List.length_nil, List.length_map]; omega)) only [go_sem, Nat.reduceEqDiff, Nat.reduceBEq, Nat.reduceAdd, Nat.reduceMul, Nat.reduceSub, Nat.reduceLeDiff, Int.reduceToNat, Int.reducePow, q0, q1, q5, r1])))
          exact ⟨_, by omega, k + 1, rfl, by omega, by omega, by simp⟩

      · repeat' (first | (apply callW.any; (first | exact (proved7_to _)); all_goals try (simp (disch := first | omega | (simp only [List.length_set, List.length_append, List.length_cons, List.length_nil, List.length_map]; omega)) only [go_sem, Nat.reduceEqDiff, Nat.reduceBEq, Nat.reduceAdd, Nat.reduceMul, Nat.reduceSub, Nat.reduceLeDiff, Int.reduceToNat, Int.reducePow, q0, q5, r1])) | refine SWp.seq ?_ | refine SWp.block ?_ | refine SWp.scope ?_ | (refine SWp.reg ?_; (simp (disch := first | omega | (simp only [List.length_set, List.length_append, List.length_cons, List.length_nil, List.length_map]; omega)) only [go_sem, Nat.reduceEqDiff, Nat.reduceBEq, Nat.reduceAdd, Nat.reduceMul, Nat.reduceSub, Nat.reduceLeDiff, Int.reduceToNat, Int.reducePow, q0, q5, r1])) | refine SWp.condT rfl ?_ | refine SWp.condF rfl ?_ | (refine SWp.condD rfl (fun ht => ?_) (fun ht => ?_) <;> try (exfalso; omega)) | ((first | refine SWp.skip ?_ | refine SWp.exit ?_ | refine SWp.ret ?_); try (simp (disch := first | omega | (simp only [List.length_set, List.length_append, List.length_cons, List.length_nil, List.length_map]; omega)) only [go_sem, Nat.reduceEqDiff, Nat.reduceBEq, Nat.reduceAdd, Nat.reduceMul, Nat.reduceSub, Nat.reduceLeDiff, Int.reduceToNat, Int.reducePow, q0, q5, r1])) | ((first | refine splitG (fun ht => ?_) (fun ht => ?_) | refine splitGB (fun ht => ?_) (fun ht => ?_) | refine splitR (fun ht => ?_) (fun ht => ?_) | refine splitRB (fun ht => ?_) (fun ht => ?_) | refine splitE (fun ht => ?_) (fun ht => ?_) | refine splitEB (fun ht => ?_) (fun ht => ?_) | refine splitC (fun ht => ?_) (fun ht => ?_) | refine splitCB (fun ht => ?_) (fun ht => ?_)) <;> (simp (disch := first | omega | (simp only [List.length_set, List.length_append, List.length_cons, List.length_nil, List.length_map]; omega)) only [go_sem, Nat.reduceEqDiff, Nat.reduceBEq, Nat.reduceAdd, Nat.reduceMul, Nat.reduceSub, Nat.reduceLeDiff, Int.reduceToNat, Int.reducePow, q0, q5, r1])))
        exact DownV.pure (τ := []) (news := σ') hw (rlB_ok _ rfl)
  · repeat' (first | (apply callW.any; (first | exact (proved7_to _)); all_goals try (simp (disch := first | omega | (simp only [List.length_set, List.length_append, List.length_cons, List.length_nil, List.length_map]; omega)) only [go_sem, Nat.reduceEqDiff, Nat.reduceBEq, Nat.reduceAdd, Nat.reduceMul, Nat.reduceSub, Nat.reduceLeDiff, Int.reduceToNat, Int.reducePow, r1])) | refine SWp.seq ?_ | refine SWp.block ?_ | refine SWp.scope ?_ | (refine SWp.reg ?_; (simp (disch := first | omega | (simp only [List.length_set, List.length_append, List.length_cons, List.length_nil, List.length_map]; omega)) only [go_sem, Nat.reduceEqDiff, Nat.reduceBEq, Nat.reduceAdd, Nat.reduceMul, Nat.reduceSub, Nat.reduceLeDiff, Int.reduceToNat, Int.reducePow, r1])) | refine SWp.condT rfl ?_ | refine SWp.condF rfl ?_ | (refine SWp.condD rfl (fun ht => ?_) (fun ht => ?_) <;> try (exfalso; omega)) | ((first | refine SWp.skip ?_ | refine SWp.exit ?_ | refine SWp.ret ?_); try (simp (disch := first | omega | (simp only [List.length_set, List.length_append, List.length_cons, List.length_nil, List.length_map]; omega)) only [go_sem, Nat.reduceEqDiff, Nat.reduceBEq, Nat.reduceAdd, Nat.reduceMul, Nat.reduceSub, Nat.reduceLeDiff, Int.reduceToNat, Int.reducePow, r1])) | ((first | refine splitG (fun ht => ?_) (fun ht => ?_) | refine splitGB (fun ht => ?_) (fun ht => ?_) | refine splitR (fun ht => ?_) (fun ht => ?_) | refine splitRB (fun ht => ?_) (fun ht => ?_) | refine splitE (fun ht => ?_) (fun ht => ?_) | refine splitEB (fun ht => ?_) (fun ht => ?_) | refine splitC (fun ht => ?_) (fun ht => ?_) | refine splitCB (fun ht => ?_) (fun ht => ?_)) <;> (simp (disch := first | omega | (simp only [List.length_set, List.length_append, List.length_cons, List.length_nil, List.length_map]; omega)) only [go_sem, Nat.reduceEqDiff, Nat.reduceBEq, Nat.reduceAdd, Nat.reduceMul, Nat.reduceSub, Nat.reduceLeDiff, Int.reduceToNat, Int.reducePow, r1])))
    exact DownV.pure hw (rlB_ok _ rfl)
theorem ProofsProof_law (avs : List AV) (h : ShAll [.sl 32 hashTy, .int .i64] avs) : ACallsTo TC 3 avs [] (.bool true) [] := by
  simp only [ShAll] at h
  obtain ⟨_, _, rfl, h1, _, _, rfl, h2, rfl⟩ := h
  obtain ⟨hs, k1, k2, k3⟩ := hsl_of h1
  obtain ⟨n, rfl, _, _⟩ := i64_of h2
  exact ProofsProof_to hs _ n k1 k2 k3
end Am
end Go.Proofs.YtfofemaglndnjaaDoor
end
section
set_option linter.unusedSimpArgs false
set_option linter.unusedVariables false
/- Proofs: the law ProofsBack: its contract. -/
set_option linter.unusedSimpArgs false
set_option linter.unusedVariables false
namespace Go.Proofs.YtfofemaglndnjaaDoor
namespace Am
set_option maxHeartbeats 8000000 in
theorem ProofsBack_to (hs : List (List UInt8)) (x : AV) (h : List UInt8) (hx : SlV 32 (hrows hs) x) (hH : H32 hs) (hh : h.length = 32) : ACallsTo TC 5 [x, .agg (byteEsC h)] [] (.bool true) [] := by
  refine ACallsTo.of_body speculumlaw07_ProofsBack_ok (by simp) fun hw _ => ?_
  have r1 := hx.len
  rw [hrows_len] at r1
  unfold rLenSl at r1
  have ch := byteEsC_len h
  rw [hh] at ch
  have dh := hash_drop hh
  have th := hash_take hh
  by_cases hl : hs.length ≤ 40
  · have hrl : (rootS hs).length = 32 := rootS_len hH
    have cr := byteEsC_len (rootS hs)
    rw [hrl] at cr
    have dr := hash_drop hrl
    have tr := hash_take hrl
    have hP := fun σ m => Proof_to σ hs x m hx hH (by omega)
    repeat' (first | (apply callW.any; (first | exact (trees_Root_to _ hs x hx hH (by omega))); all_goals try (simp (disch := first | omega | (simp only [List.length_set, List.length_append, List.length_cons, List.length_nil, List.length_map]; omega)) only [go_sem, Nat.reduceEqDiff, Nat.reduceBEq, Nat.reduceAdd, Nat.reduceMul, Nat.reduceSub, Nat.reduceLeDiff, Int.reduceToNat, Int.reducePow, r1, ch, cr, dr])) | refine SWp.seq ?_ | refine SWp.block ?_ | refine SWp.scope ?_ | (refine SWp.reg ?_; (simp (disch := first | omega | (simp only [List.length_set, List.length_append, List.length_cons, List.length_nil, List.length_map]; omega)) only [go_sem, Nat.reduceEqDiff, Nat.reduceBEq, Nat.reduceAdd, Nat.reduceMul, Nat.reduceSub, Nat.reduceLeDiff, Int.reduceToNat, Int.reducePow, r1, ch, cr, dr])) | refine SWp.condT rfl ?_ | refine SWp.condF rfl ?_ | (refine SWp.condD rfl (fun ht => ?_) (fun ht => ?_) <;> try (exfalso; omega)) | ((first | refine SWp.skip ?_ | refine SWp.exit ?_ | refine SWp.ret ?_); try (simp (disch := first | omega | (simp only [List.length_set, List.length_append, List.length_cons, List.length_nil, List.length_map]; omega)) only [go_sem, Nat.reduceEqDiff, Nat.reduceBEq, Nat.reduceAdd, Nat.reduceMul, Nat.reduceSub, Nat.reduceLeDiff, Int.reduceToNat, Int.reducePow, r1, ch, cr, dr])) | ((first | refine splitG (fun ht => ?_) (fun ht => ?_) | refine splitGB (fun ht => ?_) (fun ht => ?_) | refine splitR (fun ht => ?_) (fun ht => ?_) | refine splitRB (fun ht => ?_) (fun ht => ?_) | refine splitE (fun ht => ?_) (fun ht => ?_) | refine splitEB (fun ht => ?_) (fun ht => ?_) | refine splitC (fun ht => ?_) (fun ht => ?_) | refine splitCB (fun ht => ?_) (fun ht => ?_)) <;> (simp (disch := first | omega | (simp only [List.length_set, List.length_append, List.length_cons, List.length_nil, List.length_map]; omega)) only [go_sem, Nat.reduceEqDiff, Nat.reduceBEq, Nat.reduceAdd, Nat.reduceMul, Nat.reduceSub, Nat.reduceLeDiff, Int.reduceToNat, Int.reducePow, r1, ch, cr, dr])))
    refine SWp.loop (fun k ρ σ' => ∃ m : Nat, k = hs.length + 1 - m ∧ m ≤ hs.length + 1 ∧ σ'[0]? = some (some [byteEsC h]) ∧ σ'[1]? = some (some [byteEsC (rootS hs)]) ∧ ρ 0 = x ∧ ρ 3 = .ptr 0 0 0 ∧ ρ 5 = .ptr 1 0 0 ∧ ρ 6 = .int .i64 m) (hs.length + 1) ?_ ?_
    · exact ⟨0, by omega, by omega, by simp, by simp, by simp (disch := first | omega | (simp only [List.length_set, List.length_append, List.length_cons, List.length_nil, List.length_map]; omega)) only [go_sem, Nat.reduceEqDiff, Nat.reduceBEq, Nat.reduceAdd, Nat.reduceMul, Nat.reduceSub, Nat.reduceLeDiff, Int.reduceToNat, Int.reducePow], by simp (disch := first | omega | (simp only [List.length_set, List.length_append, List.length_cons, List.length_nil, List.length_map]; omega)) only [go_sem, Nat.reduceEqDiff, Nat.reduceBEq, Nat.reduceAdd, Nat.reduceMul, Nat.reduceSub, Nat.reduceLeDiff, Int.reduceToNat, Int.reducePow], by simp (disch := first | omega | (simp only [List.length_set, List.length_append, List.length_cons, List.length_nil, List.length_map]; omega)) only [go_sem, Nat.reduceEqDiff, Nat.reduceBEq, Nat.reduceAdd, Nat.reduceMul, Nat.reduceSub, Nat.reduceLeDiff, Int.reduceToNat, Int.reducePow], by simp (disch := first | omega | (simp only [List.length_set, List.length_append, List.length_cons, List.length_nil, List.length_map]; omega)) only [go_sem, Nat.reduceEqDiff, Nat.reduceBEq, Nat.reduceAdd, Nat.reduceMul, Nat.reduceSub, Nat.reduceLeDiff, Int.reduceToNat, Int.reducePow]; rfl⟩
    · rintro _ ρ σ' ⟨m, rfl, hm, g0, g1, q0, q3, q5, q6⟩
      by_cases hm1 : m ≤ hs.length
      · have hE0 : proofE hs m = 0 := by unfold proofE; rw [if_neg (by omega)]
        rcases hx with ⟨rfl, hnil⟩ | ⟨ex, rfl⟩
        · obtain rfl := hrows_nil.1 hnil
          obtain rfl : m = 0 := by simpa using hm1
          have hRn : ∀ σ, ACallsTo TC 22 [.nilsl] σ (.agg (byteEsC (rootS (([] : List (List UInt8)).take 0)))) σ := fun σ => trees_Root_to σ [] .nilsl (.inl ⟨rfl, rfl⟩) h32_nil (by simp)
          repeat' (first | refine SWp.seq ?_ | refine SWp.block ?_ | refine SWp.scope ?_ | (refine SWp.reg ?_; (simp (disch := first | omega | (simp only [List.length_set, List.length_append, List.length_cons, List.length_nil, List.length_map]; omega)) only [go_sem, Nat.reduceEqDiff, Nat.reduceBEq, Nat.reduceAdd, Nat.reduceMul, Nat.reduceSub, Nat.reduceLeDiff, Int.reduceToNat, Int.reducePow, q0, q3, q5, q6, r1])) | refine SWp.condT rfl ?_ | refine SWp.condF rfl ?_ | (refine SWp.condD rfl (fun ht => ?_) (fun ht => ?_) <;> try (exfalso; omega)) | ((first | refine SWp.skip ?_ | refine SWp.exit ?_ | refine SWp.ret ?_); try (simp (disch := first | omega | (simp only [List.length_set, List.length_append, List.length_cons, List.length_nil, List.length_map]; omega)) only [go_sem, Nat.reduceEqDiff, Nat.reduceBEq, Nat.reduceAdd, Nat.reduceMul, Nat.reduceSub, Nat.reduceLeDiff, Int.reduceToNat, Int.reducePow, q0, q3, q5, q6, r1])) | ((first | refine splitG (fun ht => ?_) (fun ht => ?_) | refine splitGB (fun ht => ?_) (fun ht => ?_) | refine splitR (fun ht => ?_) (fun ht => ?_) | refine splitRB (fun ht => ?_) (fun ht => ?_) | refine splitE (fun ht => ?_) (fun ht => ?_) | refine splitEB (fun ht => ?_) (fun ht => ?_) | refine splitC (fun ht => ?_) (fun ht => ?_) | refine splitCB (fun ht => ?_) (fun ht => ?_)) <;> (simp (disch := first | omega | (simp only [List.length_set, List.length_append, List.length_cons, List.length_nil, List.length_map]; omega)) only [go_sem, Nat.reduceEqDiff, Nat.reduceBEq, Nat.reduceAdd, Nat.reduceMul, Nat.reduceSub, Nat.reduceLeDiff, Int.reduceToNat, Int.reducePow, q0, q3, q5, q6, r1])))
          refine callW.mkP (hP σ' _) (ProofP.ex _ _ _) ?_
          rintro _ σ1 ⟨v2, rfl, o1⟩
          rw [hE0]
          have n1 := o1.len
          rw [hrows_len] at n1
          unfold rLenSl at n1
          have hb13 := proofL_bound (m := 0) hm1 (by omega : ([] : List (List UInt8)).length ≤ 4096)
          have hk0 := honest_chk (m := 0) hm1 (by omega : ([] : List (List UInt8)).length ≤ 4096)
          have ho := fun qs hq => other_chk (l := []) (qs := qs) (m := 0) (o := rootS (([] : List (List UInt8)).take 0)) (nw := rootS []) hm1 (by omega) hq
          have hH1 := proofL_H (m := 0) hH
          have hrt : (rootS (([] : List (List UInt8)).take 0)).length = 32 := rootS_len h32_nil
          obtain ⟨y1, rfl⟩ := o1.ext
          have g0' : (σ' ++ y1)[0]? = some (some [byteEsC h]) := by rw [gapp (List.getElem?_eq_some_iff.1 g0).1]; exact g0
          have g1' : (σ' ++ y1)[1]? = some (some [byteEsC (rootS [])]) := by rw [gapp (List.getElem?_eq_some_iff.1 g1).1]; exact g1
          have hlt : 2 ≤ (σ' ++ y1).length := by have := (List.getElem?_eq_some_iff.1 g1').1; omega
          have hrd : ∀ y, RdSl ((σ' ++ y1) ++ y) 32 (hrows (proofL [] (0 : Nat))) v2 := fun y => o1.rd.app
          have hC1 := fun y => Check_rd ((σ' ++ y1) ++ y) (0 : Nat) ([] : List (List UInt8)).length (rootS (([] : List (List UInt8)).take 0)) (rootS []) v2 (proofL [] (0 : Nat)) (hrd y) hH1 hrt hrl (by omega)
          rw [hk0] at hC1
          have hC2 : ∀ (σ : Store) (qs : List (List UInt8)) (v : AV), RdSl σ 32 (hrows qs) v → H32 qs → qs.length ≤ 14 → qs.length ≠ (proofL [] (0 : Nat)).length → ACallsTo TC 19 [.int .i64 (0 : Nat), .int .i64 ([] : List (List UInt8)).length, .agg (byteEsC (rootS (([] : List (List UInt8)).take 0))), .agg (byteEsC (rootS [])), v] σ (.int .i64 80) σ := fun σ qs v h1 h2 h3 h4 => by
            have := Check_rd σ (0 : Nat) ([] : List (List UInt8)).length (rootS (([] : List (List UInt8)).take 0)) (rootS []) v qs h1 h2 hrt hrl (by omega)
            rwa [ho qs h4] at this
          have tk := hrows_take [] 0
          have cm := byteEsC_len (rootS (([] : List (List UInt8)).take 0))
          rw [hrt] at cm
          have dm := hash_drop hrt
          have tm := hash_take hrt
          have hlr := hrows_len []
          have hlp := hrows_len (proofL [] (0 : Nat))
          by_cases hes : proofL [] (0 : Nat) = []
          · rw [hes] at o1 n1 hlp
            obtain rfl := o1.nilv
            have hC3 : ∀ (σ : Store) (r : Nat), σ[r]? = some (some [byteEsC h]) → ACallsTo TC 19 [.int .i64 (0 : Nat), .int .i64 ([] : List (List UInt8)).length, .agg (byteEsC (rootS (([] : List (List UInt8)).take 0))), .agg (byteEsC (rootS [])), .sl r 0 1 none 32] σ (.int .i64 80) σ := fun σ r hg =>
              hC2 σ [h] _ (.inr ⟨r, 0, none, [byteEsC h], rfl, hg, by simp [hrows], by simp [hrows]⟩) (fun x hx => by simp at hx; rw [hx]; exact hh) (by simp) (by rw [hes]; simp)
            generalize hs12 : σ' ++ y1 = σ1 at *
            repeat' (first | (apply callW.any; (first | exact (hRn _) | exact (hC1 _) | exact (hC3 _ _ (by simp))); all_goals try (simp (disch := first | omega | (simp only [List.length_set, List.length_append, List.length_cons, List.length_nil, List.length_map]; omega)) only [go_sem, Nat.reduceEqDiff, Nat.reduceBEq, Nat.reduceAdd, Nat.reduceMul, Nat.reduceSub, Nat.reduceLeDiff, Int.reduceToNat, Int.reducePow, q0, q3, q5, q6, r1, g0', g1', ch, cr, cm, dm, dh, dr, tm, th, tr, hlr, tk])) | refine SWp.seq ?_ | refine SWp.block ?_ | refine SWp.scope ?_ | (refine SWp.reg ?_; (simp (disch := first | omega | (simp only [List.length_set, List.length_append, List.length_cons, List.length_nil, List.length_map]; omega)) only [go_sem, Nat.reduceEqDiff, Nat.reduceBEq, Nat.reduceAdd, Nat.reduceMul, Nat.reduceSub, Nat.reduceLeDiff, Int.reduceToNat, Int.reducePow, q0, q3, q5, q6, r1, g0', g1', ch, cr, cm, dm, dh, dr, tm, th, tr, hlr, tk])) | refine SWp.condT rfl ?_ | refine SWp.condF rfl ?_ | (refine SWp.condD rfl (fun ht => ?_) (fun ht => ?_) <;> try (exfalso; omega)) | ((first | refine SWp.skip ?_ | refine SWp.exit ?_ | refine SWp.ret ?_); try (simp (disch := first | omega | (simp only [List.length_set, List.length_append, List.length_cons, List.length_nil, List.length_map]; omega)) only [go_sem, Nat.reduceEqDiff, Nat.reduceBEq, Nat.reduceAdd, Nat.reduceMul, Nat.reduceSub, Nat.reduceLeDiff, Int.reduceToNat, Int.reducePow, q0, q3, q5, q6, r1, g0', g1', ch, cr, cm, dm, dh, dr, tm, th, tr, hlr, tk])) | ((first | refine splitG (fun ht => ?_) (fun ht => ?_) | refine splitGB (fun ht => ?_) (fun ht => ?_) | refine splitR (fun ht => ?_) (fun ht => ?_) | refine splitRB (fun ht => ?_) (fun ht => ?_) | refine splitE (fun ht => ?_) (fun ht => ?_) | refine splitEB (fun ht => ?_) (fun ht => ?_) | refine splitC (fun ht => ?_) (fun ht => ?_) | refine splitCB (fun ht => ?_) (fun ht => ?_)) <;> (simp (disch := first | omega | (simp only [List.length_set, List.length_append, List.length_cons, List.length_nil, List.length_map]; omega)) only [go_sem, Nat.reduceEqDiff, Nat.reduceBEq, Nat.reduceAdd, Nat.reduceMul, Nat.reduceSub, Nat.reduceLeDiff, Int.reduceToNat, Int.reducePow, q0, q3, q5, q6, r1, g0', g1', ch, cr, cm, dm, dh, dr, tm, th, tr, hlr, tk])))
            refine ⟨0, ?_, 1, ?_, ?_, ?_⟩ <;> simp
          · exact absurd (by unfold proofL; rw [if_neg (by simp)]) hes
        · have hRt := fun σ ex => trees_Root_to σ (hs.take m) (.vsl 32 (hrows (hs.take m)) ex) (.inr ⟨ex, rfl⟩) (hH.take m) (by rw [List.length_take]; omega)
          repeat' (first | refine SWp.seq ?_ | refine SWp.block ?_ | refine SWp.scope ?_ | (refine SWp.reg ?_; (simp (disch := first | omega | (simp only [List.length_set, List.length_append, List.length_cons, List.length_nil, List.length_map]; omega)) only [go_sem, Nat.reduceEqDiff, Nat.reduceBEq, Nat.reduceAdd, Nat.reduceMul, Nat.reduceSub, Nat.reduceLeDiff, Int.reduceToNat, Int.reducePow, q0, q3, q5, q6, r1])) | refine SWp.condT rfl ?_ | refine SWp.condF rfl ?_ | (refine SWp.condD rfl (fun ht => ?_) (fun ht => ?_) <;> try (exfalso; omega)) | ((first | refine SWp.skip ?_ | refine SWp.exit ?_ | refine SWp.ret ?_); try (simp (disch := first | omega | (simp only [List.length_set, List.length_append, List.length_cons, List.length_nil, List.length_map]; omega)) only [go_sem, Nat.reduceEqDiff, Nat.reduceBEq, Nat.reduceAdd, Nat.reduceMul, Nat.reduceSub, Nat.reduceLeDiff, Int.reduceToNat, Int.reducePow, q0, q3, q5, q6, r1])) | ((first | refine splitG (fun ht => ?_) (fun ht => ?_) | refine splitGB (fun ht => ?_) (fun ht => ?_) | refine splitR (fun ht => ?_) (fun ht => ?_) | refine splitRB (fun ht => ?_) (fun ht => ?_) | refine splitE (fun ht => ?_) (fun ht => ?_) | refine splitEB (fun ht => ?_) (fun ht => ?_) | refine splitC (fun ht => ?_) (fun ht => ?_) | refine splitCB (fun ht => ?_) (fun ht => ?_)) <;> (simp (disch := first | omega | (simp only [List.length_set, List.length_append, List.length_cons, List.length_nil, List.length_map]; omega)) only [go_sem, Nat.reduceEqDiff, Nat.reduceBEq, Nat.reduceAdd, Nat.reduceMul, Nat.reduceSub, Nat.reduceLeDiff, Int.reduceToNat, Int.reducePow, q0, q3, q5, q6, r1])))
          refine callW.mkP (hP σ' m) (ProofP.ex _ _ _) ?_
          rintro _ σ1 ⟨v2, rfl, o1⟩
          rw [hE0]
          have n1 := o1.len
          rw [hrows_len] at n1
          unfold rLenSl at n1
          have hb13 := proofL_bound (m := m) hm1 (by omega : hs.length ≤ 4096)
          have hk0 := honest_chk (m := m) hm1 (by omega : hs.length ≤ 4096)
          have ho := fun qs hq => other_chk (l := hs) (qs := qs) (m := m) (o := rootS (hs.take m)) (nw := rootS hs) hm1 (by omega) hq
          have hH1 := proofL_H (m := m) hH
          have hrt : (rootS (hs.take m)).length = 32 := rootS_len (hH.take m)
          obtain ⟨y1, rfl⟩ := o1.ext
          have g0' : (σ' ++ y1)[0]? = some (some [byteEsC h]) := by rw [gapp (List.getElem?_eq_some_iff.1 g0).1]; exact g0
          have g1' : (σ' ++ y1)[1]? = some (some [byteEsC (rootS hs)]) := by rw [gapp (List.getElem?_eq_some_iff.1 g1).1]; exact g1
          have hlt : 2 ≤ (σ' ++ y1).length := by have := (List.getElem?_eq_some_iff.1 g1').1; omega
          have hrd : ∀ y, RdSl ((σ' ++ y1) ++ y) 32 (hrows (proofL hs m)) v2 := fun y => o1.rd.app
          have hC1 := fun y => Check_rd ((σ' ++ y1) ++ y) m hs.length (rootS (hs.take m)) (rootS hs) v2 (proofL hs m) (hrd y) hH1 hrt hrl (by omega)
          rw [hk0] at hC1
          have hC2 : ∀ (σ : Store) (qs : List (List UInt8)) (v : AV), RdSl σ 32 (hrows qs) v → H32 qs → qs.length ≤ 14 → qs.length ≠ (proofL hs m).length → ACallsTo TC 19 [.int .i64 m, .int .i64 hs.length, .agg (byteEsC (rootS (hs.take m))), .agg (byteEsC (rootS hs)), v] σ (.int .i64 80) σ := fun σ qs v h1 h2 h3 h4 => by
            have := Check_rd σ m hs.length (rootS (hs.take m)) (rootS hs) v qs h1 h2 hrt hrl (by omega)
            rwa [ho qs h4] at this
          have tk := hrows_take hs m
          have cm := byteEsC_len (rootS (hs.take m))
          rw [hrt] at cm
          have dm := hash_drop hrt
          have tm := hash_take hrt
          have hlr := hrows_len hs
          have hlp := hrows_len (proofL hs m)
          by_cases hes : proofL hs m = []
          · rw [hes] at o1 n1 hlp
            obtain rfl := o1.nilv
            have hC3 : ∀ (σ : Store) (r : Nat), σ[r]? = some (some [byteEsC h]) → ACallsTo TC 19 [.int .i64 m, .int .i64 hs.length, .agg (byteEsC (rootS (hs.take m))), .agg (byteEsC (rootS hs)), .sl r 0 1 none 32] σ (.int .i64 80) σ := fun σ r hg =>
              hC2 σ [h] _ (.inr ⟨r, 0, none, [byteEsC h], rfl, hg, by simp [hrows], by simp [hrows]⟩) (fun x hx => by simp at hx; rw [hx]; exact hh) (by simp) (by rw [hes]; simp)
            generalize hs12 : σ' ++ y1 = σ1 at *
            repeat' (first | (apply callW.any; (first | exact (hRt _ _) | exact (hC1 _) | exact (hC3 _ _ (by simp))); all_goals try (simp (disch := first | omega | (simp only [List.length_set, List.length_append, List.length_cons, List.length_nil, List.length_map]; omega)) only [go_sem, Nat.reduceEqDiff, Nat.reduceBEq, Nat.reduceAdd, Nat.reduceMul, Nat.reduceSub, Nat.reduceLeDiff, Int.reduceToNat, Int.reducePow, q0, q3, q5, q6, r1, g0', g1', ch, cr, cm, dm, dh, dr, tm, th, tr, hlr, tk])) | refine SWp.seq ?_ | refine SWp.block ?_ | refine SWp.scope ?_ | (refine SWp.reg ?_; (simp (disch := first | omega | (simp only [List.length_set, List.length_append, List.length_cons, List.length_nil, List.length_map]; omega)) only [go_sem, Nat.reduceEqDiff, Nat.reduceBEq, Nat.reduceAdd, Nat.reduceMul, Nat.reduceSub, Nat.reduceLeDiff, Int.reduceToNat, Int.reducePow, q0, q3, q5, q6, r1, g0', g1', ch, cr, cm, dm, dh, dr, tm, th, tr, hlr, tk])) | refine SWp.condT rfl ?_ | refine SWp.condF rfl ?_ | (refine SWp.condD rfl (fun ht => ?_) (fun ht => ?_) <;> try (exfalso; omega)) | ((first | refine SWp.skip ?_ | refine SWp.exit ?_ | refine SWp.ret ?_); try (simp (disch := first | omega | (simp only [List.length_set, List.length_append, List.length_cons, List.length_nil, List.length_map]; omega)) only [go_sem, Nat.reduceEqDiff, Nat.reduceBEq, Nat.reduceAdd, Nat.reduceMul, Nat.reduceSub, Nat.reduceLeDiff, Int.reduceToNat, Int.reducePow, q0, q3, q5, q6, r1, g0', g1', ch, cr, cm, dm, dh, dr, tm, th, tr, hlr, tk])) | ((first | refine splitG (fun ht => ?_) (fun ht => ?_) | refine splitGB (fun ht => ?_) (fun ht => ?_) | refine splitR (fun ht => ?_) (fun ht => ?_) | refine splitRB (fun ht => ?_) (fun ht => ?_) | refine splitE (fun ht => ?_) (fun ht => ?_) | refine splitEB (fun ht => ?_) (fun ht => ?_) | refine splitC (fun ht => ?_) (fun ht => ?_) | refine splitCB (fun ht => ?_) (fun ht => ?_)) <;> (simp (disch := first | omega | (simp only [List.length_set, List.length_append, List.length_cons, List.length_nil, List.length_map]; omega)) only [go_sem, Nat.reduceEqDiff, Nat.reduceBEq, Nat.reduceAdd, Nat.reduceMul, Nat.reduceSub, Nat.reduceLeDiff, Int.reduceToNat, Int.reducePow, q0, q3, q5, q6, r1, g0', g1', ch, cr, cm, dm, dh, dr, tm, th, tr, hlr, tk])))
            exact ⟨hs.length + 1 - (m + 1), by omega, m + 1, rfl, by omega, by simp⟩
          · obtain ⟨r, rfl, hgr, hrlo⟩ := o1.sl (by intro e; exact hes (hrows_nil.1 e))
            have hpl : 0 < (proofL hs m).length := List.length_pos_iff.2 hes
            have hC3 : ∀ (σ : Store) (r : Nat) (L : Nat), L = (proofL hs m).length + 1 → σ[r]? = some (some (hrows (proofL hs m) ++ [byteEsC h])) → ACallsTo TC 19 [.int .i64 m, .int .i64 hs.length, .agg (byteEsC (rootS (hs.take m))), .agg (byteEsC (rootS hs)), .sl r 0 L none 32] σ (.int .i64 80) σ := fun σ r L hL hg => by
              have e : hrows (proofL hs m ++ [h]) = hrows (proofL hs m) ++ [byteEsC h] := by simp [hrows]
              refine hC2 σ (proofL hs m ++ [h]) _ (.inr ⟨r, 0, none, _, ?_, hg, ?_, ?_⟩) ?_ (by simp; omega) (by simp)
              · rw [hrows_len, hL]; simp
              · rw [e]; omega
              · rw [e, List.drop_zero, List.take_of_length_le (Nat.le_refl _)]
              · intro x hx
                rcases List.mem_append.1 hx with hx | hx
                · exact hH1 x hx
                · simp at hx; rw [hx]; exact hh
            have hC4 : ∀ (σ : Store) (L : Nat) (lim : Option Nat), L = (proofL hs m).length - 1 → σ[r]? = some (some (hrows (proofL hs m))) → ACallsTo TC 19 [.int .i64 m, .int .i64 hs.length, .agg (byteEsC (rootS (hs.take m))), .agg (byteEsC (rootS hs)), .sl r 1 L lim 32] σ (.int .i64 80) σ := fun σ L lim hL hg => by
              refine hC2 σ ((proofL hs m).drop 1) _ (.inr ⟨r, 1, lim, _, ?_, hg, ?_, ?_⟩) (hH1.drop 1) (by simp; omega) (by simp; omega)
              · rw [hrows_len, hL, List.length_drop]
              · rw [hrows_len, hrows_len, List.length_drop]; omega
              · rw [hrows_len, List.length_drop, hrows_drop, List.take_of_length_le (by rw [hrows_len, List.length_drop]; omega)]
            have hC5 : ∀ (σ : Store) (L : Nat) (lim : Option Nat), L = (proofL hs m).length - 1 → σ[r]? = some (some (hrows (proofL hs m))) → ACallsTo TC 19 [.int .i64 m, .int .i64 hs.length, .agg (byteEsC (rootS (hs.take m))), .agg (byteEsC (rootS hs)), .sl r 0 L lim 32] σ (.int .i64 80) σ := fun σ L lim hL hg => by
              refine hC2 σ ((proofL hs m).take ((proofL hs m).length - 1)) _ (.inr ⟨r, 0, lim, _, ?_, hg, ?_, ?_⟩) (hH1.take _) (by simp; omega) (by simp; omega)
              · rw [hrows_len, hL, List.length_take]; congr 1; omega
              · rw [hrows_len, hrows_len, List.length_take]; omega
              · rw [hrows_len, List.length_take, List.drop_zero, hrows_take]; congr 2; omega
            have hrl2 := (List.getElem?_eq_some_iff.1 hgr).1
            simp only [hlp] at hC1
            generalize hs12 : σ' ++ y1 = σ1 at *
            generalize hrows (proofL hs m) = es at *
            generalize hpn : (proofL hs m).length = pn at *
            have hfull : (es.drop 0).take pn = es := by rw [List.drop_zero, List.take_of_length_le (by omega)]
            repeat' (first | (apply callW.any; (first | exact (hRt _ _) | exact (hC1 _) | exact (hC3 _ _ _ (by simp) (by simp)) | exact (hC4 _ _ _ (by simp) (by rw [gapp hrl2]; exact hgr)) | exact (hC5 _ _ _ (by simp) (by rw [gapp hrl2]; exact hgr))); all_goals try (simp (disch := first | omega | (simp only [List.length_set, List.length_append, List.length_cons, List.length_nil, List.length_map]; omega)) only [go_sem, Nat.reduceEqDiff, Nat.reduceBEq, Nat.reduceAdd, Nat.reduceMul, Nat.reduceSub, Nat.reduceLeDiff, Int.reduceToNat, Int.reducePow, q0, q3, q5, q6, r1, g0', g1', hgr, ch, cr, cm, dm, dh, dr, tm, th, tr, hlr, hlp, tk])) | refine SWp.seq ?_ | refine SWp.block ?_ | refine SWp.scope ?_ | (refine SWp.reg ?_; (simp (disch := first | omega | (simp only [List.length_set, List.length_append, List.length_cons, List.length_nil, List.length_map]; omega)) only [go_sem, Nat.reduceEqDiff, Nat.reduceBEq, Nat.reduceAdd, Nat.reduceMul, Nat.reduceSub, Nat.reduceLeDiff, Int.reduceToNat, Int.reducePow, q0, q3, q5, q6, r1, g0', g1', hgr, ch, cr, cm, dm, dh, dr, tm, th, tr, hlr, hlp, tk])) | refine SWp.condT rfl ?_ | refine SWp.condF rfl ?_ | (refine SWp.condD rfl (fun ht => ?_) (fun ht => ?_) <;> try (exfalso; omega)) | ((first | refine SWp.skip ?_ | refine SWp.exit ?_ | refine SWp.ret ?_); try (simp (disch := first | omega | (simp only [List.length_set, List.length_append, List.length_cons, List.length_nil, List.length_map]; omega)) only [go_sem, Nat.reduceEqDiff, Nat.reduceBEq, Nat.reduceAdd, Nat.reduceMul, Nat.reduceSub, Nat.reduceLeDiff, Int.reduceToNat, Int.reducePow, q0, q3, q5, q6, r1, g0', g1', hgr, ch, cr, cm, dm, dh, dr, tm, th, tr, hlr, hlp, tk])) | ((first | refine splitG (fun ht => ?_) (fun ht => ?_) | refine splitGB (fun ht => ?_) (fun ht => ?_) | refine splitR (fun ht => ?_) (fun ht => ?_) | refine splitRB (fun ht => ?_) (fun ht => ?_) | refine splitE (fun ht => ?_) (fun ht => ?_) | refine splitEB (fun ht => ?_) (fun ht => ?_) | refine splitC (fun ht => ?_) (fun ht => ?_) | refine splitCB (fun ht => ?_) (fun ht => ?_)) <;> (simp (disch := first | omega | (simp only [List.length_set, List.length_append, List.length_cons, List.length_nil, List.length_map]; omega)) only [go_sem, Nat.reduceEqDiff, Nat.reduceBEq, Nat.reduceAdd, Nat.reduceMul, Nat.reduceSub, Nat.reduceLeDiff, Int.reduceToNat, Int.reducePow, q0, q3, q5, q6, r1, g0', g1', hgr, ch, cr, cm, dm, dh, dr, tm, th, tr, hlr, hlp, tk])))
            exact ⟨hs.length + 1 - (m + 1), by omega, m + 1, rfl, by omega, by simp⟩
      · repeat' (first | (apply callW.any; (first | exact (proved7_to _)); all_goals try (simp (disch := first | omega | (simp only [List.length_set, List.length_append, List.length_cons, List.length_nil, List.length_map]; omega)) only [go_sem, Nat.reduceEqDiff, Nat.reduceBEq, Nat.reduceAdd, Nat.reduceMul, Nat.reduceSub, Nat.reduceLeDiff, Int.reduceToNat, Int.reducePow, q0, q6, r1])) | refine SWp.seq ?_ | refine SWp.block ?_ | refine SWp.scope ?_ | (refine SWp.reg ?_; (simp (disch := first | omega | (simp only [List.length_set, List.length_append, List.length_cons, List.length_nil, List.length_map]; omega)) only [go_sem, Nat.reduceEqDiff, Nat.reduceBEq, Nat.reduceAdd, Nat.reduceMul, Nat.reduceSub, Nat.reduceLeDiff, Int.reduceToNat, Int.reducePow, q0, q6, r1])) | refine SWp.condT rfl ?_ | refine SWp.condF rfl ?_ | (refine SWp.condD rfl (fun ht => ?_) (fun ht => ?_) <;> try (exfalso; omega)) | ((first | refine SWp.skip ?_ | refine SWp.exit ?_ | refine SWp.ret ?_); try (simp (disch := first | omega | (simp only [List.length_set, List.length_append, List.length_cons, List.length_nil, List.length_map]; omega)) only [go_sem, Nat.reduceEqDiff, Nat.reduceBEq, Nat.reduceAdd, Nat.reduceMul, Nat.reduceSub, Nat.reduceLeDiff, Int.reduceToNat, Int.reducePow, q0, q6, r1])) | ((first | refine splitG (fun ht => ?_) (fun ht => ?_) | refine splitGB (fun ht => ?_) (fun ht => ?_) | refine splitR (fun ht => ?_) (fun ht => ?_) | refine splitRB (fun ht => ?_) (fun ht => ?_) | refine splitE (fun ht => ?_) (fun ht => ?_) | refine splitEB (fun ht => ?_) (fun ht => ?_) | refine splitC (fun ht => ?_) (fun ht => ?_) | refine splitCB (fun ht => ?_) (fun ht => ?_)) <;> (simp (disch := first | omega | (simp only [List.length_set, List.length_append, List.length_cons, List.length_nil, List.length_map]; omega)) only [go_sem, Nat.reduceEqDiff, Nat.reduceBEq, Nat.reduceAdd, Nat.reduceMul, Nat.reduceSub, Nat.reduceLeDiff, Int.reduceToNat, Int.reducePow, q0, q6, r1])))
        exact DownV.pure (τ := []) (news := σ') hw (rlB_ok _ rfl)
  · repeat' (first | (apply callW.any; (first | exact (proved7_to _)); all_goals try (simp (disch := first | omega | (simp only [List.length_set, List.length_append, List.length_cons, List.length_nil, List.length_map]; omega)) only [go_sem, Nat.reduceEqDiff, Nat.reduceBEq, Nat.reduceAdd, Nat.reduceMul, Nat.reduceSub, Nat.reduceLeDiff, Int.reduceToNat, Int.reducePow, r1, ch])) | refine SWp.seq ?_ | refine SWp.block ?_ | refine SWp.scope ?_ | (refine SWp.reg ?_; (simp (disch := first | omega | (simp only [List.length_set, List.length_append, List.length_cons, List.length_nil, List.length_map]; omega)) only [go_sem, Nat.reduceEqDiff, Nat.reduceBEq, Nat.reduceAdd, Nat.reduceMul, Nat.reduceSub, Nat.reduceLeDiff, Int.reduceToNat, Int.reducePow, r1, ch])) | refine SWp.condT rfl ?_ | refine SWp.condF rfl ?_ | (refine SWp.condD rfl (fun ht => ?_) (fun ht => ?_) <;> try (exfalso; omega)) | ((first | refine SWp.skip ?_ | refine SWp.exit ?_ | refine SWp.ret ?_); try (simp (disch := first | omega | (simp only [List.length_set, List.length_append, List.length_cons, List.length_nil, List.length_map]; omega)) only [go_sem, Nat.reduceEqDiff, Nat.reduceBEq, Nat.reduceAdd, Nat.reduceMul, Nat.reduceSub, Nat.reduceLeDiff, Int.reduceToNat, Int.reducePow, r1, ch])) | ((first | refine splitG (fun ht => ?_) (fun ht => ?_) | refine splitGB (fun ht => ?_) (fun ht => ?_) | refine splitR (fun ht => ?_) (fun ht => ?_) | refine splitRB (fun ht => ?_) (fun ht => ?_) | refine splitE (fun ht => ?_) (fun ht => ?_) | refine splitEB (fun ht => ?_) (fun ht => ?_) | refine splitC (fun ht => ?_) (fun ht => ?_) | refine splitCB (fun ht => ?_) (fun ht => ?_)) <;> (simp (disch := first | omega | (simp only [List.length_set, List.length_append, List.length_cons, List.length_nil, List.length_map]; omega)) only [go_sem, Nat.reduceEqDiff, Nat.reduceBEq, Nat.reduceAdd, Nat.reduceMul, Nat.reduceSub, Nat.reduceLeDiff, Int.reduceToNat, Int.reducePow, r1, ch])))
    exact DownV.pure (τ := []) (news := _) hw (rlB_ok _ rfl)
theorem hash_arg {a : AV} (h : Sh hashTy a) : ∃ l : List UInt8, a = .agg (byteEsC l) ∧ l.length = 32 := by
  simp only [hashTy, Sh] at h
  obtain ⟨cs, rfl, h⟩ := h
  obtain ⟨l, rfl, hl⟩ := bytes_of 32 cs h
  exact ⟨l, rfl, hl⟩
theorem ProofsBack_law (avs : List AV) (h : ShAll [.sl 32 hashTy, hashTy] avs) : ACallsTo TC 5 avs [] (.bool true) [] := by
  simp only [ShAll] at h
  obtain ⟨_, _, rfl, h1, _, _, rfl, h2, rfl⟩ := h
  obtain ⟨hs, k1, k2, k3⟩ := hsl_of h1
  obtain ⟨l, rfl, hl⟩ := hash_arg h2
  exact ProofsBack_to hs _ l k1 k2 hl
end Am
end Go.Proofs.YtfofemaglndnjaaDoor
end
section
set_option linter.unusedSimpArgs false
set_option linter.unusedVariables false
/- What a law with the laid tables of sha begins with. -/
namespace Go.Proofs.YtfofemaglndnjaaDoor.LawDoor
open Go.ChangeShapes Go.WideShapes Go.ChangeAt Go.RowKit
theorem own : ownKnob Tryd.prog.godebug = none := by kernel_rfl
theorem laidOut : laidOutB Tryd.prog = true := by kernel_rfl
def laidS : List (String × DataW Unit) := [("speculum/sha.first", Rows.laid_speculum_sha_first), ("speculum/sha.rounds", Rows.laid_speculum_sha_rounds)]
set_option maxRecDepth 100000
/-- The door's own heap meets the condition. -/
theorem door_met (os : Os) (args : Array Value) : laidMetH Tryd.prog laidS ((World.doorLaid Tryd.prog 400 os).forCall (fun _ _ => 0) ⟨#[], args, []⟩).memory :=
  laidMetH_of_parts3 (fuel := 8) (laidMet_of_run' 8 (by kernel_rfl) (by kernel_rfl)) (by kernel_rfl) (by kernel_rfl)
/-- What the condition gives the walks: the tables, as_ the machine knows them. -/
theorem rel_of {W : World} (h : laidMetH Tryd.prog laidS W) : Am.Rel Am.TC [] [] W := by
  rw [MakeChecks.laidMetH_plain _ _ _ (by kernel_rfl)] at h
  obtain ⟨ps, ⟨g0, t0, cs0, f0, p0, q0, hg0, ht0, hv0, hd0, ⟨g1, t1, cs1, f1, p1, q1, hg1, ht1, hv1, hd1, _, _⟩, _⟩, _, _⟩ := h
  have v0 := Am.vp_of_var (P := Tryd.prog) (n := "speculum/sha.first") (g := 0) (t := 140) (e := 138) (m := 8) (k := .u32) Am.shaFirst (by kernel_rfl) (by kernel_rfl) (by kernel_rfl) (by kernel_rfl) (by kernel_rfl) (by kernel_rfl) hg0 ht0 hv0 hd0
  have v1 := Am.vp_of_var (P := Tryd.prog) (n := "speculum/sha.rounds") (g := 1) (t := 139) (e := 138) (m := 64) (k := .u32) Am.shaRounds (by kernel_rfl) (by kernel_rfl) (by kernel_rfl) (by kernel_rfl) (by kernel_rfl) (by kernel_rfl) hg1 ht1 hv1 hd1
  refine ⟨rfl, fun r o h => by simp at h, fun r h => by simp at h, fun r r' pl pl' h => by simp at h, fun g cs h => ?_⟩
  simp only [Am.TC] at h
  split at h
  · rename_i hg; subst hg; cases h; exact v0
  · split at h
    · rename_i hg; subst hg; cases h; exact v1
    · cases h
end Go.Proofs.YtfofemaglndnjaaDoor.LawDoor
end
section
set_option linter.unusedSimpArgs false
set_option linter.unusedVariables false
/- The law ProofsBack returns true and leaves its arguments as_ they were. For every input, without conditions. -/
namespace Go.Proofs.YtfofemaglndnjaaDoor.proofsBack
open Go.ChangeShapes Go.WideShapes Go.ChangeAt Go.RowKit Go.Proofs.YtfofemaglndnjaaDoor.LawDoor
set_option maxRecDepth 100000 in
theorem lifted (os : Os) (started : os.Started) (H : Type) (enc : TypeId × Value → H) :
    ReturnsInHanded {} Tryd.checked os 5 .any (fun w args => (Rows.proofsBackSpec.pre enc Tryd.prog Tryd.f5 [] false w args ∧ laidMetH Tryd.prog laidS w) ∧ sizedMet enc Tryd.prog Tryd.f5 (OpenSpec.ofChange Rows.proofsBackSpec) false w args)
      (Rows.proofsBackSpec.post enc Tryd.prog Tryd.f5 false true false false) := by
  refine returnsInHanded_of_change_and (C := Tryd.checked) (X := fun w _ => laidMetH Tryd.prog laidS w) (fun _ _ _ hh h => h.of_heap hh) own started (by kernel_rfl) Tryd.func5
    (ChangeSpec.witness_shaped (enc := enc) (C := Tryd.checked) (os := os) (X := fun w _ => laidMetH Tryd.prog laidS w) false (World.doorLaid Tryd.prog 400 os) #[.slice none 0 0, .agg #[.int .u8 0, .int .u8 0, .int .u8 0, .int .u8 0, .int .u8 0, .int .u8 0, .int .u8 0, .int .u8 0, .int .u8 0, .int .u8 0, .int .u8 0, .int .u8 0, .int .u8 0, .int .u8 0, .int .u8 0, .int .u8 0, .int .u8 0, .int .u8 0, .int .u8 0, .int .u8 0, .int .u8 0, .int .u8 0, .int .u8 0, .int .u8 0, .int .u8 0, .int .u8 0, .int .u8 0, .int .u8 0, .int .u8 0, .int .u8 0, .int .u8 0, .int .u8 0]] 8 rfl (World.shaped_of_RefB (by kernel_rfl) (by kernel_rfl)) (by kernel_rfl) (by kernel_rfl) (by kernel_rfl) (door_met os _)) ?_
  intro W base args ds gs before hval0 hW _ _ hL _
  have hval : ∀ (j : Nat) t v, (Tryd.f5).params[j]? = some t → args[j]? = some v → Value.okWide Tryd.prog W .any base t v := hval0
  refine Am.law_contract_at (C := Am.TC) Am.speculumlaw07_ProofsBack_ok (d := 12) (tys := _) (by kernel_rfl) Am.ProofsBack_law rfl (tb := 4) ?_ (by kernel_rfl) (by kernel_rfl) laidOut (by kernel_rfl) (rel_of hL) hval hW
  intro ds hd
  match ds, hd with
  | [d1, d2], _ => exact ⟨rfl, rfl, rfl⟩
theorem over : Rows.ProofsBackSaid :=
  OpenClaim.holds_of_wide 5 Tryd.f5 rfl rfl rfl rfl rfl rfl rfl ⟨rfl, rfl, rfl, rfl, rfl⟩ rfl rfl rfl rfl rfl (by kernel_rfl) Tryd.func5 (by kernel_rfl)
    (of_decide_eq_true (by kernel_rfl)) (by unfold Func.isWrapper; first | (rw [if_pos (by decide +kernel)]; kernel_rfl) | (rw [if_neg (by decide +kernel)]; exact ⟨rfl, rfl⟩))
    (fun os started H enc _ => lifted os started H enc)
theorem card : Rows.ProofsBackCardSaid :=
  Claim7.holds_tied_plain_at .later [] [.data, .data] true Rows.proofsBackCard.stood.harness false
    over (fun _ h => by cases h) (by kernel_rfl) (fun _ h => by cases h) proofsBack_row_tie rfl ⟨rfl, rfl⟩ (by kernel_rfl) rfl
    (fun f fn hf hfn => by
      obtain rfl : f = 5 := Option.some.inj ((show Tryd.prog.funcNamed "speculum/speculumlaw07.ProofsBack" = some 5 by kernel_rfl).symm.trans hf) |>.symm
      obtain rfl : fn = Tryd.f5 := (Option.some.inj (Tryd.func5.symm.trans hfn)).symm
      exact ⟨by kernel_rfl, fun j t ht => by
        have hall : ((Tryd.f5).params.toList.all fun u => !Tryd.prog.wantsStandIn u) = true := by kernel_rfl
        have hm : t ∈ (Tryd.f5).params.toList := by
          obtain ⟨hj, rfl⟩ := Array.getElem?_eq_some_iff.1 ht
          exact Array.getElem_mem_toList hj
        show Tryd.prog.wantsStandIn t = false
        simpa using List.all_eq_true.1 hall t hm⟩)
    (by kernel_rfl)
#print axioms card
end Go.Proofs.YtfofemaglndnjaaDoor.proofsBack
end
