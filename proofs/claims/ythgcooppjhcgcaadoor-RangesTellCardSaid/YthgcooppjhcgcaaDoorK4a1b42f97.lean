import Derived.Test.YthgcooppjhcgcaaDoorK3cf819d1e
import Derived.Test.YthgcooppjhcgcaaDoorK27b2f0988
section
set_option linter.unusedSimpArgs false
set_option linter.unusedVariables false
/- SHA-256: the reference's Sum: the words. -/
set_option linter.unusedSimpArgs false
set_option linter.unusedVariables false
namespace Go.Proofs.YthgcooppjhcgcaaDoor
namespace Am
def z32 : List AV := byteEsC (List.replicate 32 0)
/-- What the reference has in memory. -/
def mkS (τ : Store) (u : V8) (cells : List AV) : Store := τ ++ [some [z32], some [gl_sha_rounds], some [u.c8], some [cells]]
def Rk (ρ : Env) (a : Nat) (p : List UInt8) (n : Nat) : Prop :=
  ρ 2 = .ptr a 0 0 ∧ ρ 3 = .ptr (a + 1) 0 0 ∧ ρ 4 = .ptr (a + 2) 0 0 ∧ ρ 5 = .vsl 1 (byteEs p) false ∧ ρ 6 = .ptr (a + 3) 0 0 ∧ ρ 7 = .int .i64 n
theorem cells_put {w : List W} {x : W} {n : Nat} {rest : List AV} (h : w.length = n) (hr : 0 < rest.length) : (ws w ++ rest).take n ++ AV.int .u32 x.toNat :: (ws w ++ rest).drop (n + 1) = ws (w ++ [x]) ++ rest.drop 1 := by
  have hl : (ws w).length = n := by rw [ws_len, h]
  rw [List.take_append_of_le_length (by omega), List.take_of_length_le (by omega), List.drop_append, List.drop_of_length_le (by omega), hl]
  rw [show n + 1 - n = 1 by omega, List.nil_append]
  simp [ws, wc]
theorem word_of {p : List UInt8} {n i : Nat} (h : n + 4 * i + 4 ≤ p.length) (hi : i < 16) :
    ((p.getD (n + 4 * i) 0).toNat : Int) * 16777216 + (p.getD (n + 4 * i + 1) 0).toNat * 65536 + (p.getD (n + 4 * i + 2) 0).toNat * 256 + (p.getD (n + 4 * i + 3) 0).toNat = ((wordS ((p.drop n).take 64) i).toNat : Int) := by
  have e : ((((p.drop n).take 64).drop (4 * i)).take 4) = [p.getD (n + 4 * i) 0, p.getD (n + 4 * i + 1) 0, p.getD (n + 4 * i + 2) 0, p.getD (n + 4 * i + 3) 0] := by
    rw [List.drop_take, List.take_take, List.drop_drop, show min 4 (64 - 4 * i) = 4 by omega]
    obtain ⟨A, hA⟩ : ∃ A, A = p.drop (n + 4 * i) := ⟨_, rfl⟩
    have g : ∀ k, p.getD (n + 4 * i + k) 0 = A.getD k 0 := by
      intro k
      rw [hA, List.getD_eq_getElem?_getD, List.getD_eq_getElem?_getD, List.getElem?_drop]
    have g0 := g 0
    rw [Nat.add_zero] at g0
    rw [g0, g 1, g 2, g 3, ← hA]
    have hl : 4 ≤ A.length := by rw [hA, List.length_drop]; omega
    match A, hl with
    | a :: b :: c :: d :: A, _ => rfl
  unfold wordS
  rw [e]
  generalize p.getD (n + 4 * i) 0 = a
  generalize p.getD (n + 4 * i + 1) 0 = b
  generalize p.getD (n + 4 * i + 2) 0 = c
  generalize p.getD (n + 4 * i + 3) 0 = d
  have h1 := a.toNat_lt
  have h2 := b.toNat_lt
  have h3 := c.toNat_lt
  have h4 := d.toNat_lt
  simp only [getS, val, List.take_of_length_le (show [a, b, c, d].length ≤ 8 by simp), List.foldl_cons, List.foldl_nil, BitVec.toNat_ofNat]
  omega
section
variable {k : Nat} {Q : AExit → Env → Store → Prop} {ρ : Env} {τ : Store} {u : V8} {p : List UInt8} {n : Nat}
set_option maxHeartbeats 4000000 in
theorem ref_words {cells : List AV} (K : Rk ρ τ.length p n) (hp : n + 64 ≤ p.length) (hpl : p.length < 2000000000) (hc : cells.length = 64)
    (hQ : ∀ ρ' rest, rest.length = 48 → Rk ρ' τ.length p n → Q .normal ρ' (mkS τ u (ws (sched ((p.drop n).take 64) 16) ++ rest))) : SWp TC 252 k speculumref02_Sum_c21 Q ρ (mkS τ u cells) := by
  obtain ⟨k2, k3, k4, k5, k6, k7⟩ := K
  obtain ⟨q, hq⟩ : ∃ q, q = (p.drop n).take 64 := ⟨_, rfl⟩
  rw [← hq] at hQ
  repeat' (first | refine SWp.seq ?_ | refine SWp.block ?_ | refine SWp.scope ?_ | refine SWp.condT rfl ?_ | refine SWp.condF rfl ?_ | (refine SWp.condD rfl (fun ht => ?_) (fun ht => ?_) <;> try (exfalso; omega)) | ((first | refine SWp.reg ?_ | refine SWp.skip ?_ | refine SWp.exit ?_ | refine SWp.ret ?_ | ((first | apply splitG | apply splitGB | apply splitR | apply splitRB | apply splitE | apply splitEB | apply splitC | apply splitCB) <;> intro ht)); all_goals try simp (disch := first | omega | (simp only [lens]; first | done | omega)) only [go_sem, Nat.reduceEqDiff, Nat.reduceBEq, Nat.reduceAdd, Nat.reduceMul, Nat.reduceSub, Nat.reduceLeDiff, Int.reduceToNat, Int.reducePow]))
  refine SWp.loop (fun m ρ σ' => ∃ (i : Nat) (rest : List AV), m + i = 16 ∧ rest.length = 64 - i ∧ Rk ρ τ.length p n ∧ ρ 8 = .int .i64 i ∧ σ' = mkS τ u (ws (sched q i) ++ rest)) 16 ?_ ?_
  · exact ⟨0, cells, by omega, hc, ⟨by simp (disch := first | omega | (simp only [lens]; first | done | omega)) only [go_sem, Nat.reduceEqDiff, Nat.reduceBEq, Nat.reduceAdd, Nat.reduceMul, Nat.reduceSub, Nat.reduceLeDiff, Int.reduceToNat, Int.reducePow, k2], by simp (disch := first | omega | (simp only [lens]; first | done | omega)) only [go_sem, Nat.reduceEqDiff, Nat.reduceBEq, Nat.reduceAdd, Nat.reduceMul, Nat.reduceSub, Nat.reduceLeDiff, Int.reduceToNat, Int.reducePow, k3], by simp (disch := first | omega | (simp only [lens]; first | done | omega)) only [go_sem, Nat.reduceEqDiff, Nat.reduceBEq, Nat.reduceAdd, Nat.reduceMul, Nat.reduceSub, Nat.reduceLeDiff, Int.reduceToNat, Int.reducePow, k4], by simp (disch := first | omega | (simp only [lens]; first | done | omega)) only [go_sem, Nat.reduceEqDiff, Nat.reduceBEq, Nat.reduceAdd, Nat.reduceMul, Nat.reduceSub, Nat.reduceLeDiff, Int.reduceToNat, Int.reducePow, k5], by simp (disch := first | omega | (simp only [lens]; first | done | omega)) only [go_sem, Nat.reduceEqDiff, Nat.reduceBEq, Nat.reduceAdd, Nat.reduceMul, Nat.reduceSub, Nat.reduceLeDiff, Int.reduceToNat, Int.reducePow, k6], by simp (disch := first | omega | (simp only [lens]; first | done | omega)) only [go_sem, Nat.reduceEqDiff, Nat.reduceBEq, Nat.reduceAdd, Nat.reduceMul, Nat.reduceSub, Nat.reduceLeDiff, Int.reduceToNat, Int.reducePow, k7]⟩, by simp (disch := first | omega | (simp only [lens]; first | done | omega)) only [go_sem, Nat.reduceEqDiff, Nat.reduceBEq, Nat.reduceAdd, Nat.reduceMul, Nat.reduceSub, Nat.reduceLeDiff, Int.reduceToNat, Int.reducePow]; rfl, rfl⟩
  · rintro m ρ σ' ⟨i, rest, hm, hr, ⟨q2, q3, q4, q5, q6, q7⟩, q8, rfl⟩
    by_cases hi : i < 16
    · have hwd := word_of (p := p) (n := n) (i := i) (by omega) hi
      rw [← hq] at hwd
      have hset := cells_put (x := wordS q i) (rest := rest) (sched_len q i) (by omega)
      have hlen : (ws (sched q i) ++ rest).length = 64 := by rw [List.length_append, ws_len, sched_len, hr]; omega
      have hsc : sched q (i + 1) = sched q i ++ [wordS q i] := by rw [sched, sNext, sched_len, if_pos hi]
      have n0 : ((n : Int) + 4 * i).toNat = n + 4 * i := by omega
      have n1 : ((n : Int) + 4 * i + 1).toNat = n + 4 * i + 1 := by omega
      have n2 : ((n : Int) + 4 * i + 2).toNat = n + 4 * i + 2 := by omega
      have n3 : ((n : Int) + 4 * i + 3).toNat = n + 4 * i + 3 := by omega
      have b0 := (p.getD (n + 4 * i) 0).toNat_lt
      have b1 := (p.getD (n + 4 * i + 1) 0).toNat_lt
      have b2 := (p.getD (n + 4 * i + 2) 0).toNat_lt
      have b3 := (p.getD (n + 4 * i + 3) 0).toNat_lt
      have g0 := get_u8 (s := p) (i := n + 4 * i) (by omega)
      have e0 := byteEs_get (s := p) (i := n + 4 * i) (by omega)
      have e1 := byteEs_get (s := p) (i := n + 4 * i + 1) (by omega)
      have e2 := byteEs_get (s := p) (i := n + 4 * i + 2) (by omega)
      have e3 := byteEs_get (s := p) (i := n + 4 * i + 3) (by omega)
      have hpb := byteEs_len p
      unfold mkS
      generalize p.getD (n + 4 * i) 0 = x0 at *
      generalize p.getD (n + 4 * i + 1) 0 = x1 at *
      generalize p.getD (n + 4 * i + 2) 0 = x2 at *
      generalize p.getD (n + 4 * i + 3) 0 = x3 at *
      generalize hpb2 : byteEs p = pb at *
      generalize hcc : ws (sched q i) ++ rest = cc at *
      repeat' (first | refine SWp.seq ?_ | refine SWp.block ?_ | refine SWp.scope ?_ | refine SWp.condT rfl ?_ | refine SWp.condF rfl ?_ | (refine SWp.condD rfl (fun ht => ?_) (fun ht => ?_) <;> try (exfalso; omega)) | ((first | refine SWp.regS ?_ | refine SWp.skip ?_ | refine SWp.exit ?_ | refine SWp.ret ?_ | ((first | apply splitG | apply splitGB | apply splitR | apply splitRB | apply splitE | apply splitEB | apply splitC | apply splitCB) <;> intro ht)); all_goals try simp (disch := first | omega | (simp only [lens]; first | done | omega)) only [go_sem, Nat.reduceEqDiff, Nat.reduceBEq, Nat.reduceAdd, Nat.reduceMul, Nat.reduceSub, Nat.reduceLeDiff, Int.reduceToNat, Int.reducePow, q2, q3, q4, q5, q6, q7, q8, hlen, n0, n1, n2, n3, e0, e1, e2, e3]))
      refine ⟨16 - (i + 1), by omega, i + 1, rest.drop 1, by omega, by rw [List.length_drop]; omega, ⟨by simp (disch := first | omega | (simp only [lens]; first | done | omega)) only [go_sem, Nat.reduceEqDiff, Nat.reduceBEq, Nat.reduceAdd, Nat.reduceMul, Nat.reduceSub, Nat.reduceLeDiff, Int.reduceToNat, Int.reducePow, q2], by simp (disch := first | omega | (simp only [lens]; first | done | omega)) only [go_sem, Nat.reduceEqDiff, Nat.reduceBEq, Nat.reduceAdd, Nat.reduceMul, Nat.reduceSub, Nat.reduceLeDiff, Int.reduceToNat, Int.reducePow, q3], by simp (disch := first | omega | (simp only [lens]; first | done | omega)) only [go_sem, Nat.reduceEqDiff, Nat.reduceBEq, Nat.reduceAdd, Nat.reduceMul, Nat.reduceSub, Nat.reduceLeDiff, Int.reduceToNat, Int.reducePow, q4], (by simp (disch := first | omega | (simp only [lens]; first | done | omega)) only [go_sem, Nat.reduceEqDiff, Nat.reduceBEq, Nat.reduceAdd, Nat.reduceMul, Nat.reduceSub, Nat.reduceLeDiff, Int.reduceToNat, Int.reducePow, q5]; rw [hpb2]), by simp (disch := first | omega | (simp only [lens]; first | done | omega)) only [go_sem, Nat.reduceEqDiff, Nat.reduceBEq, Nat.reduceAdd, Nat.reduceMul, Nat.reduceSub, Nat.reduceLeDiff, Int.reduceToNat, Int.reducePow, q6], by simp (disch := first | omega | (simp only [lens]; first | done | omega)) only [go_sem, Nat.reduceEqDiff, Nat.reduceBEq, Nat.reduceAdd, Nat.reduceMul, Nat.reduceSub, Nat.reduceLeDiff, Int.reduceToNat, Int.reducePow, q7]⟩, by simp, ?_⟩
      rw [hwd, hset, hsc]
    · obtain rfl : i = 16 := by omega
      repeat' (first | refine SWp.seq ?_ | refine SWp.block ?_ | refine SWp.scope ?_ | refine SWp.condT rfl ?_ | refine SWp.condF rfl ?_ | (refine SWp.condD rfl (fun ht => ?_) (fun ht => ?_) <;> try (exfalso; omega)) | ((first | refine SWp.reg ?_ | refine SWp.skip ?_ | refine SWp.exit ?_ | refine SWp.ret ?_ | ((first | apply splitG | apply splitGB | apply splitR | apply splitRB | apply splitE | apply splitEB | apply splitC | apply splitCB) <;> intro ht)); all_goals try simp (disch := first | omega | (simp only [lens]; first | done | omega)) only [go_sem, Nat.reduceEqDiff, Nat.reduceBEq, Nat.reduceAdd, Nat.reduceMul, Nat.reduceSub, Nat.reduceLeDiff, Int.reduceToNat, Int.reducePow, q8]))
      exact hQ _ rest (by omega) ⟨by simp (disch := first | omega | (simp only [lens]; first | done | omega)) only [go_sem, Nat.reduceEqDiff, Nat.reduceBEq, Nat.reduceAdd, Nat.reduceMul, Nat.reduceSub, Nat.reduceLeDiff, Int.reduceToNat, Int.reducePow, q2], by simp (disch := first | omega | (simp only [lens]; first | done | omega)) only [go_sem, Nat.reduceEqDiff, Nat.reduceBEq, Nat.reduceAdd, Nat.reduceMul, Nat.reduceSub, Nat.reduceLeDiff, Int.reduceToNat, Int.reducePow, q3], by simp (disch := first | omega | (simp only [lens]; first | done | omega)) only [go_sem, Nat.reduceEqDiff, Nat.reduceBEq, Nat.reduceAdd, Nat.reduceMul, Nat.reduceSub, Nat.reduceLeDiff, Int.reduceToNat, Int.reducePow, q4], by simp (disch := first | omega | (simp only [lens]; first | done | omega)) only [go_sem, Nat.reduceEqDiff, Nat.reduceBEq, Nat.reduceAdd, Nat.reduceMul, Nat.reduceSub, Nat.reduceLeDiff, Int.reduceToNat, Int.reducePow, q5], by simp (disch := first | omega | (simp only [lens]; first | done | omega)) only [go_sem, Nat.reduceEqDiff, Nat.reduceBEq, Nat.reduceAdd, Nat.reduceMul, Nat.reduceSub, Nat.reduceLeDiff, Int.reduceToNat, Int.reducePow, q6], by simp (disch := first | omega | (simp only [lens]; first | done | omega)) only [go_sem, Nat.reduceEqDiff, Nat.reduceBEq, Nat.reduceAdd, Nat.reduceMul, Nat.reduceSub, Nat.reduceLeDiff, Int.reduceToNat, Int.reducePow, q7]⟩
set_option maxHeartbeats 4000000 in
theorem ref_sched {q : List UInt8} {rest : List AV} (K : Rk ρ τ.length p n) (hr : rest.length = 48)
    (hQ : ∀ ρ', Rk ρ' τ.length p n → Q .normal ρ' (mkS τ u (ws (sched q 64)))) : SWp TC 252 k speculumref02_Sum_c34 Q ρ (mkS τ u (ws (sched q 16) ++ rest)) := by
  obtain ⟨R, hR⟩ : ∃ R, R = sched q 64 := ⟨_, rfl⟩
  rw [← hR] at hQ
  obtain ⟨k2, k3, k4, k5, k6, k7⟩ := K
  repeat' (first | refine SWp.seq ?_ | refine SWp.block ?_ | refine SWp.scope ?_ | refine SWp.condT rfl ?_ | refine SWp.condF rfl ?_ | (refine SWp.condD rfl (fun ht => ?_) (fun ht => ?_) <;> try (exfalso; omega)) | ((first | refine SWp.reg ?_ | refine SWp.skip ?_ | refine SWp.exit ?_ | refine SWp.ret ?_ | ((first | apply splitG | apply splitGB | apply splitR | apply splitRB | apply splitE | apply splitEB | apply splitC | apply splitCB) <;> intro ht)); all_goals try simp (disch := first | omega | (simp only [lens]; first | done | omega)) only [go_sem, Nat.reduceEqDiff, Nat.reduceBEq, Nat.reduceAdd, Nat.reduceMul, Nat.reduceSub, Nat.reduceLeDiff, Int.reduceToNat, Int.reducePow]))
  refine SWp.loop (fun m ρ σ' => ∃ (i : Nat) (rest : List AV), m + i = 64 ∧ 16 ≤ i ∧ rest.length = 64 - i ∧ Rk ρ τ.length p n ∧ ρ 10 = .int .i64 i ∧ σ' = mkS τ u (ws (sched q i) ++ rest)) 48 ?_ ?_
  · exact ⟨16, rest, by omega, by omega, hr, ⟨by simp (disch := first | omega | (simp only [lens]; first | done | omega)) only [go_sem, Nat.reduceEqDiff, Nat.reduceBEq, Nat.reduceAdd, Nat.reduceMul, Nat.reduceSub, Nat.reduceLeDiff, Int.reduceToNat, Int.reducePow, k2], by simp (disch := first | omega | (simp only [lens]; first | done | omega)) only [go_sem, Nat.reduceEqDiff, Nat.reduceBEq, Nat.reduceAdd, Nat.reduceMul, Nat.reduceSub, Nat.reduceLeDiff, Int.reduceToNat, Int.reducePow, k3], by simp (disch := first | omega | (simp only [lens]; first | done | omega)) only [go_sem, Nat.reduceEqDiff, Nat.reduceBEq, Nat.reduceAdd, Nat.reduceMul, Nat.reduceSub, Nat.reduceLeDiff, Int.reduceToNat, Int.reducePow, k4], by simp (disch := first | omega | (simp only [lens]; first | done | omega)) only [go_sem, Nat.reduceEqDiff, Nat.reduceBEq, Nat.reduceAdd, Nat.reduceMul, Nat.reduceSub, Nat.reduceLeDiff, Int.reduceToNat, Int.reducePow, k5], by simp (disch := first | omega | (simp only [lens]; first | done | omega)) only [go_sem, Nat.reduceEqDiff, Nat.reduceBEq, Nat.reduceAdd, Nat.reduceMul, Nat.reduceSub, Nat.reduceLeDiff, Int.reduceToNat, Int.reducePow, k6], by simp (disch := first | omega | (simp only [lens]; first | done | omega)) only [go_sem, Nat.reduceEqDiff, Nat.reduceBEq, Nat.reduceAdd, Nat.reduceMul, Nat.reduceSub, Nat.reduceLeDiff, Int.reduceToNat, Int.reducePow, k7]⟩, by simp (disch := first | omega | (simp only [lens]; first | done | omega)) only [go_sem, Nat.reduceEqDiff, Nat.reduceBEq, Nat.reduceAdd, Nat.reduceMul, Nat.reduceSub, Nat.reduceLeDiff, Int.reduceToNat, Int.reducePow]; rfl, rfl⟩
  · clear hr
    rintro m ρ σ' ⟨i, rest, hm, h16, hr, ⟨q2, q3, q4, q5, q6, q7⟩, q10, rfl⟩
    have hsl := sched_len q i
    by_cases hi : i < 64
    · have hset := cells_put (x := sNext q (sched q i)) (rest := rest) hsl (by omega)
      have hlen : (ws (sched q i) ++ rest).length = 64 := by rw [List.length_append, ws_len, sched_len, hr]; omega
      have hsc : sched q (i + 1) = sched q i ++ [sNext q (sched q i)] := by rw [sched]
      have en : sNext q (sched q i) = wat (sched q i) (i - 16) + wat (sched q i) (i - 7) + ss0 (wat (sched q i) (i - 15)) + ss1 (wat (sched q i) (i - 2)) := by rw [sNext, if_neg (by omega), hsl]
      have hwi : ∀ j, j < i → (ws (sched q i) ++ rest)[j]? = some (.int .u32 (wat (sched q i) j).toNat) := by
        intro j hj
        rw [List.getElem?_append_left (by rw [ws_len]; omega), wat_lt (by omega)]
      have g16 := hwi (i - 16) (by omega)
      have g7 := hwi (i - 7) (by omega)
      have g15 := hwi (i - 15) (by omega)
      have g2 := hwi (i - 2) (by omega)
      have t16 : ((i : Int) - 16).toNat = i - 16 := by omega
      have t7 : ((i : Int) - 7).toNat = i - 7 := by omega
      have t15 : ((i : Int) - 15).toNat = i - 15 := by omega
      have t2 : ((i : Int) - 2).toNat = i - 2 := by omega
      have r7 : 32 - (7 : Int).toNat = 25 := rfl
      clear hwi
      generalize sNext q (sched q i) = nx at *
      generalize wat (sched q i) (i - 16) = w16 at *
      generalize wat (sched q i) (i - 7) = w7 at *
      generalize wat (sched q i) (i - 15) = w15 at *
      generalize wat (sched q i) (i - 2) = w2 at *
      unfold mkS
      generalize hpb2 : byteEs p = pb at *
      generalize hcc : ws (sched q i) ++ rest = cc at *
      repeat' (first | refine SWp.seq ?_ | refine SWp.block ?_ | refine SWp.scope ?_ | refine SWp.condT rfl ?_ | refine SWp.condF rfl ?_ | (refine SWp.condD rfl (fun ht => ?_) (fun ht => ?_) <;> try (exfalso; omega)) | ((first | refine SWp.regS ?_ | refine SWp.skip ?_ | refine SWp.exit ?_ | refine SWp.ret ?_ | (apply callW.mk_pu; (first | exact (fun _ => turn_to _ _ _ (by omega)))) | (apply callW.any; (first | exact (turn_to _ _ _ (by omega)))) | ((first | apply splitG | apply splitGB | apply splitR | apply splitRB | apply splitE | apply splitEB | apply splitC | apply splitCB) <;> intro ht)); all_goals try simp (disch := first | omega | (simp only [lens]; first | done | omega)) only [go_sem, Nat.reduceEqDiff, Nat.reduceBEq, Nat.reduceAdd, Nat.reduceMul, Nat.reduceSub, Nat.reduceLeDiff, Int.reduceToNat, Int.reducePow, q2, q3, q4, q5, q6, q7, q10, hlen, g16, g7, g15, g2, t16, t7, t15, t2]))
      refine ⟨64 - (i + 1), by omega, i + 1, rest.drop 1, by omega, by omega, by rw [List.length_drop]; omega, ⟨by simp (disch := first | omega | (simp only [lens]; first | done | omega)) only [go_sem, Nat.reduceEqDiff, Nat.reduceBEq, Nat.reduceAdd, Nat.reduceMul, Nat.reduceSub, Nat.reduceLeDiff, Int.reduceToNat, Int.reducePow, q2], by simp (disch := first | omega | (simp only [lens]; first | done | omega)) only [go_sem, Nat.reduceEqDiff, Nat.reduceBEq, Nat.reduceAdd, Nat.reduceMul, Nat.reduceSub, Nat.reduceLeDiff, Int.reduceToNat, Int.reducePow, q3], by simp (disch := first | omega | (simp only [lens]; first | done | omega)) only [go_sem, Nat.reduceEqDiff, Nat.reduceBEq, Nat.reduceAdd, Nat.reduceMul, Nat.reduceSub, Nat.reduceLeDiff, Int.reduceToNat, Int.reducePow, q4], (by simp (disch := first | omega | (simp only [lens]; first | done | omega)) only [go_sem, Nat.reduceEqDiff, Nat.reduceBEq, Nat.reduceAdd, Nat.reduceMul, Nat.reduceSub, Nat.reduceLeDiff, Int.reduceToNat, Int.reducePow, q5]; rw [hpb2]), by simp (disch := first | omega | (simp only [lens]; first | done | omega)) only [go_sem, Nat.reduceEqDiff, Nat.reduceBEq, Nat.reduceAdd, Nat.reduceMul, Nat.reduceSub, Nat.reduceLeDiff, Int.reduceToNat, Int.reducePow, q6], by simp (disch := first | omega | (simp only [lens]; first | done | omega)) only [go_sem, Nat.reduceEqDiff, Nat.reduceBEq, Nat.reduceAdd, Nat.reduceMul, Nat.reduceSub, Nat.reduceLeDiff, Int.reduceToNat, Int.reducePow, q7]⟩, by simp, ?_⟩
      rw [hsc, ← hset, en]
      have ec : ∀ s t : W, w16 + s + w7 + t = w16 + w7 + s + t := fun s t => by rw [BitVec.add_assoc w16 s w7, BitVec.add_comm s w7, ← BitVec.add_assoc w16 w7 s]
      rw [ec]
      rfl
    · obtain rfl : i = 64 := by omega
      have hr0 : rest = [] := List.eq_nil_of_length_eq_zero (by omega)
      rw [hr0, ← hR, List.append_nil]
      clear hsl hR
      repeat' (first | refine SWp.seq ?_ | refine SWp.block ?_ | refine SWp.scope ?_ | refine SWp.condT rfl ?_ | refine SWp.condF rfl ?_ | (refine SWp.condD rfl (fun ht => ?_) (fun ht => ?_) <;> try (exfalso; omega)) | ((first | refine SWp.reg ?_ | refine SWp.skip ?_ | refine SWp.exit ?_ | refine SWp.ret ?_ | ((first | apply splitG | apply splitGB | apply splitR | apply splitRB | apply splitE | apply splitEB | apply splitC | apply splitCB) <;> intro ht)); all_goals try simp (disch := first | omega | (simp only [lens]; first | done | omega)) only [go_sem, Nat.reduceEqDiff, Nat.reduceBEq, Nat.reduceAdd, Nat.reduceMul, Nat.reduceSub, Nat.reduceLeDiff, Int.reduceToNat, Int.reducePow, q10]))
      exact hQ _ ⟨by simp (disch := first | omega | (simp only [lens]; first | done | omega)) only [go_sem, Nat.reduceEqDiff, Nat.reduceBEq, Nat.reduceAdd, Nat.reduceMul, Nat.reduceSub, Nat.reduceLeDiff, Int.reduceToNat, Int.reducePow, q2], by simp (disch := first | omega | (simp only [lens]; first | done | omega)) only [go_sem, Nat.reduceEqDiff, Nat.reduceBEq, Nat.reduceAdd, Nat.reduceMul, Nat.reduceSub, Nat.reduceLeDiff, Int.reduceToNat, Int.reducePow, q3], by simp (disch := first | omega | (simp only [lens]; first | done | omega)) only [go_sem, Nat.reduceEqDiff, Nat.reduceBEq, Nat.reduceAdd, Nat.reduceMul, Nat.reduceSub, Nat.reduceLeDiff, Int.reduceToNat, Int.reducePow, q4], by simp (disch := first | omega | (simp only [lens]; first | done | omega)) only [go_sem, Nat.reduceEqDiff, Nat.reduceBEq, Nat.reduceAdd, Nat.reduceMul, Nat.reduceSub, Nat.reduceLeDiff, Int.reduceToNat, Int.reducePow, q5], by simp (disch := first | omega | (simp only [lens]; first | done | omega)) only [go_sem, Nat.reduceEqDiff, Nat.reduceBEq, Nat.reduceAdd, Nat.reduceMul, Nat.reduceSub, Nat.reduceLeDiff, Int.reduceToNat, Int.reducePow, q6], by simp (disch := first | omega | (simp only [lens]; first | done | omega)) only [go_sem, Nat.reduceEqDiff, Nat.reduceBEq, Nat.reduceAdd, Nat.reduceMul, Nat.reduceSub, Nat.reduceLeDiff, Int.reduceToNat, Int.reducePow, q7]⟩
end
end Am
end Go.Proofs.YthgcooppjhcgcaaDoor
end
section
set_option linter.unusedSimpArgs false
set_option linter.unusedVariables false
/- SHA-256: the reference's Sum: the rounds. -/
set_option linter.unusedSimpArgs false
set_option linter.unusedVariables false
namespace Go.Proofs.YthgcooppjhcgcaaDoor
namespace Am
theorem k_get {i : Nat} (h : i < 64) : gl_sha_rounds[i]? = some (.int .u32 (kAt i).toNat) := by
  have := kAt_get h
  rwa [List.getElem?_drop, Nat.add_zero] at this
section
variable {k : Nat} {Q : AExit → Env → Store → Prop} {ρ : Env} {τ : Store} {u : V8} {p : List UInt8} {n : Nat}
set_option maxHeartbeats 8000000 in
theorem ref_rounds {q : List UInt8} (K : Rk ρ τ.length p n)
    (hQ : ∀ ρ', Rk ρ' τ.length p n → Q .normal ρ' (mkS τ (mixS u q) (ws (sched q 64)))) : SWp TC 252 k speculumref02_Sum_c53 Q ρ (mkS τ u (ws (sched q 64))) := by
  obtain ⟨R, hR⟩ : ∃ R, R = sched q 64 := ⟨_, rfl⟩
  have hRl : R.length = 64 := by rw [hR, sched_len]
  have hwR : (ws R).length = 64 := by rw [ws_len, hRl]
  have hst : ∀ n, rnds q u (n + 1) = rnd (rnds q u n) (kAt n) (wat R n) := fun n => by rw [rnds, hR]
  obtain ⟨U, hU⟩ : ∃ U, U = rnds q u 64 := ⟨_, rfl⟩
  have hmix : mixS u q = U.add u := by rw [mixS, hU]
  rw [hmix] at hQ
  rw [← hR] at hQ ⊢
  obtain ⟨k2, k3, k4, k5, k6, k7⟩ := K
  unfold mkS
  refine SWp.seq ?_
  (refine SWp.regS ?_; (simp (disch := first | omega | (simp only [lens]; first | done | omega)) only [go_sem, Nat.reduceEqDiff, Nat.reduceBEq, Nat.reduceAdd, Nat.reduceMul, Nat.reduceSub, Nat.reduceLeDiff, Int.reduceToNat, Int.reducePow, k4, V8.c8]))
  (refine SWp.slots [2, 3, 4, 5, 6, 7, 13, 14, 15, 16, 17, 18, 19, 20] ?_; intro ρ1 hs; simp (disch := first | omega | (simp only [lens]; first | done | omega)) only [go_sem, Nat.reduceEqDiff, Nat.reduceBEq, Nat.reduceAdd, Nat.reduceMul, Nat.reduceSub, Nat.reduceLeDiff, Int.reduceToNat, Int.reducePow, k2, k3, k4, k5, k6, k7] at hs; obtain ⟨s2, s3, s4, s5, s6, s7, s13, s14, s15, s16, s17, s18, s19, s20⟩ := hs)
  refine SWp.seq ?_
  refine SWp.seq ?_
  (refine SWp.regS ?_; (simp (disch := first | omega | (simp only [lens]; first | done | omega)) only [go_sem, Nat.reduceEqDiff, Nat.reduceBEq, Nat.reduceAdd, Nat.reduceMul, Nat.reduceSub, Nat.reduceLeDiff, Int.reduceToNat, Int.reducePow]))
  refine SWp.block ?_
  refine SWp.loop (fun m ρ σ' => ∃ i : Nat, m + i = 64 ∧ Rk ρ τ.length p n ∧ ρ 21 = .int .i64 i ∧ ρ 13 = .int .u32 (rnds q u i).a.toNat ∧ ρ 14 = .int .u32 (rnds q u i).b.toNat ∧ ρ 15 = .int .u32 (rnds q u i).c.toNat ∧ ρ 16 = .int .u32 (rnds q u i).d.toNat ∧
    ρ 17 = .int .u32 (rnds q u i).e.toNat ∧ ρ 18 = .int .u32 (rnds q u i).f.toNat ∧ ρ 19 = .int .u32 (rnds q u i).g.toNat ∧ ρ 20 = .int .u32 (rnds q u i).h.toNat ∧ σ' = mkS τ u (ws R)) 64 ?_ ?_
  · exact ⟨0, by omega, ⟨by simp (disch := first | omega | (simp only [lens]; first | done | omega)) only [go_sem, Nat.reduceEqDiff, Nat.reduceBEq, Nat.reduceAdd, Nat.reduceMul, Nat.reduceSub, Nat.reduceLeDiff, Int.reduceToNat, Int.reducePow, s2], by simp (disch := first | omega | (simp only [lens]; first | done | omega)) only [go_sem, Nat.reduceEqDiff, Nat.reduceBEq, Nat.reduceAdd, Nat.reduceMul, Nat.reduceSub, Nat.reduceLeDiff, Int.reduceToNat, Int.reducePow, s3], by simp (disch := first | omega | (simp only [lens]; first | done | omega)) only [go_sem, Nat.reduceEqDiff, Nat.reduceBEq, Nat.reduceAdd, Nat.reduceMul, Nat.reduceSub, Nat.reduceLeDiff, Int.reduceToNat, Int.reducePow, s4], by simp (disch := first | omega | (simp only [lens]; first | done | omega)) only [go_sem, Nat.reduceEqDiff, Nat.reduceBEq, Nat.reduceAdd, Nat.reduceMul, Nat.reduceSub, Nat.reduceLeDiff, Int.reduceToNat, Int.reducePow, s5], by simp (disch := first | omega | (simp only [lens]; first | done | omega)) only [go_sem, Nat.reduceEqDiff, Nat.reduceBEq, Nat.reduceAdd, Nat.reduceMul, Nat.reduceSub, Nat.reduceLeDiff, Int.reduceToNat, Int.reducePow, s6], by simp (disch := first | omega | (simp only [lens]; first | done | omega)) only [go_sem, Nat.reduceEqDiff, Nat.reduceBEq, Nat.reduceAdd, Nat.reduceMul, Nat.reduceSub, Nat.reduceLeDiff, Int.reduceToNat, Int.reducePow, s7]⟩, by simp (disch := first | omega | (simp only [lens]; first | done | omega)) only [go_sem, Nat.reduceEqDiff, Nat.reduceBEq, Nat.reduceAdd, Nat.reduceMul, Nat.reduceSub, Nat.reduceLeDiff, Int.reduceToNat, Int.reducePow]; rfl, by simp (disch := first | omega | (simp only [lens]; first | done | omega)) only [go_sem, Nat.reduceEqDiff, Nat.reduceBEq, Nat.reduceAdd, Nat.reduceMul, Nat.reduceSub, Nat.reduceLeDiff, Int.reduceToNat, Int.reducePow, s13]; rfl, by simp (disch := first | omega | (simp only [lens]; first | done | omega)) only [go_sem, Nat.reduceEqDiff, Nat.reduceBEq, Nat.reduceAdd, Nat.reduceMul, Nat.reduceSub, Nat.reduceLeDiff, Int.reduceToNat, Int.reducePow, s14]; rfl, by simp (disch := first | omega | (simp only [lens]; first | done | omega)) only [go_sem, Nat.reduceEqDiff, Nat.reduceBEq, Nat.reduceAdd, Nat.reduceMul, Nat.reduceSub, Nat.reduceLeDiff, Int.reduceToNat, Int.reducePow, s15]; rfl, by simp (disch := first | omega | (simp only [lens]; first | done | omega)) only [go_sem, Nat.reduceEqDiff, Nat.reduceBEq, Nat.reduceAdd, Nat.reduceMul, Nat.reduceSub, Nat.reduceLeDiff, Int.reduceToNat, Int.reducePow, s16]; rfl, by simp (disch := first | omega | (simp only [lens]; first | done | omega)) only [go_sem, Nat.reduceEqDiff, Nat.reduceBEq, Nat.reduceAdd, Nat.reduceMul, Nat.reduceSub, Nat.reduceLeDiff, Int.reduceToNat, Int.reducePow, s17]; rfl, by simp (disch := first | omega | (simp only [lens]; first | done | omega)) only [go_sem, Nat.reduceEqDiff, Nat.reduceBEq, Nat.reduceAdd, Nat.reduceMul, Nat.reduceSub, Nat.reduceLeDiff, Int.reduceToNat, Int.reducePow, s18]; rfl, by simp (disch := first | omega | (simp only [lens]; first | done | omega)) only [go_sem, Nat.reduceEqDiff, Nat.reduceBEq, Nat.reduceAdd, Nat.reduceMul, Nat.reduceSub, Nat.reduceLeDiff, Int.reduceToNat, Int.reducePow, s19]; rfl, by simp (disch := first | omega | (simp only [lens]; first | done | omega)) only [go_sem, Nat.reduceEqDiff, Nat.reduceBEq, Nat.reduceAdd, Nat.reduceMul, Nat.reduceSub, Nat.reduceLeDiff, Int.reduceToNat, Int.reducePow, s20]; rfl, rfl⟩
  · clear s2 s3 s4 s5 s6 s7 s13 s14 s15 s16 s17 s18 s19 s20
    rintro m ρ σ' ⟨i, hm, ⟨q2, q3, q4, q5, q6, q7⟩, q21, q13, q14, q15, q16, q17, q18, q19, q20, rfl⟩
    by_cases hi : i < 64
    · have hk := k_get hi
      have hw := wat_lt (w := R) (i := i) (by omega)
      have hst := hst i
      generalize rnds q u i = v at *
      obtain ⟨a, b, c, d, e, f, g, h⟩ := v
      simp only at q13 q14 q15 q16 q17 q18 q19 q20
      generalize kAt i = kk at *
      generalize wat R i = ww at *
      generalize hpb : byteEs p = pb at *
      unfold mkS
      refine SWp.seq ?_
      refine SWp.seq ?_
      (refine SWp.regS ?_; (simp (disch := first | omega | (simp only [lens]; first | done | omega)) only [go_sem, Nat.reduceEqDiff, Nat.reduceBEq, Nat.reduceAdd, Nat.reduceMul, Nat.reduceSub, Nat.reduceLeDiff, Int.reduceToNat, Int.reducePow, q21]))
      refine SWp.condT rfl ?_
      refine SWp.skip ?_
      simp (disch := first | omega | (simp only [lens]; first | done | omega)) only [go_sem, Nat.reduceEqDiff, Nat.reduceBEq, Nat.reduceAdd, Nat.reduceMul, Nat.reduceSub, Nat.reduceLeDiff, Int.reduceToNat, Int.reducePow]
      refine SWp.seq ?_
      refine SWp.block ?_
      refine SWp.seq ?_
      (refine SWp.regS ?_; (simp (disch := first | omega | (simp only [lens]; first | done | omega)) only [go_sem, Nat.reduceEqDiff, Nat.reduceBEq, Nat.reduceAdd, Nat.reduceMul, Nat.reduceSub, Nat.reduceLeDiff, Int.reduceToNat, Int.reducePow, q3, q6, q17, q18, q19, q20, q21, hwR, hk, hw, gl_rounds_len]); repeat' (apply callW.any; (first | exact (turn_to _ _ _ (by omega))); all_goals try (simp (disch := first | omega | (simp only [lens]; first | done | omega)) only [go_sem, Nat.reduceEqDiff, Nat.reduceBEq, Nat.reduceAdd, Nat.reduceMul, Nat.reduceSub, Nat.reduceLeDiff, Int.reduceToNat, Int.reducePow, q3, q6, q17, q18, q19, q20, q21, hwR, hk, hw, gl_rounds_len])))
      (refine SWp.slots [2, 3, 4, 5, 6, 7, 13, 14, 15, 16, 17, 18, 19, 20, 21, 22] ?_; intro ρ2 hs; simp (disch := first | omega | (simp only [lens]; first | done | omega)) only [go_sem, Nat.reduceEqDiff, Nat.reduceBEq, Nat.reduceAdd, Nat.reduceMul, Nat.reduceSub, Nat.reduceLeDiff, Int.reduceToNat, Int.reducePow, q2, q3, q4, q5, q6, q7, q13, q14, q15, q16, q17, q18, q19, q20, q21] at hs; obtain ⟨s2, s3, s4, s5, s6, s7, s13, s14, s15, s16, s17, s18, s19, s20, s21, s22⟩ := hs)
      refine SWp.seq ?_
      (refine SWp.regS ?_; (simp (disch := first | omega | (simp only [lens]; first | done | omega)) only [go_sem, Nat.reduceEqDiff, Nat.reduceBEq, Nat.reduceAdd, Nat.reduceMul, Nat.reduceSub, Nat.reduceLeDiff, Int.reduceToNat, Int.reducePow, s13, s14, s15]); repeat' (apply callW.any; (first | exact (turn_to _ _ _ (by omega))); all_goals try (simp (disch := first | omega | (simp only [lens]; first | done | omega)) only [go_sem, Nat.reduceEqDiff, Nat.reduceBEq, Nat.reduceAdd, Nat.reduceMul, Nat.reduceSub, Nat.reduceLeDiff, Int.reduceToNat, Int.reducePow, s13, s14, s15])))
      (refine SWp.slots [2, 3, 4, 5, 6, 7, 13, 14, 15, 16, 17, 18, 19, 20, 21, 22, 23] ?_; intro ρ3 hs; simp (disch := first | omega | (simp only [lens]; first | done | omega)) only [go_sem, Nat.reduceEqDiff, Nat.reduceBEq, Nat.reduceAdd, Nat.reduceMul, Nat.reduceSub, Nat.reduceLeDiff, Int.reduceToNat, Int.reducePow, s2, s3, s4, s5, s6, s7, s13, s14, s15, s16, s17, s18, s19, s20, s21, s22] at hs; obtain ⟨s2, s3, s4, s5, s6, s7, s13, s14, s15, s16, s17, s18, s19, s20, s21, s22, s23⟩ := hs)
      (refine SWp.regS ?_; (simp (disch := first | omega | (simp only [lens]; first | done | omega)) only [go_sem, Nat.reduceEqDiff, Nat.reduceBEq, Nat.reduceAdd, Nat.reduceMul, Nat.reduceSub, Nat.reduceLeDiff, Int.reduceToNat, Int.reducePow, s13, s14, s15, s16, s17, s18, s19, s22, s23]))
      (refine SWp.slots [2, 3, 4, 5, 6, 7, 13, 14, 15, 16, 17, 18, 19, 20, 21] ?_; intro ρ4 hs; simp (disch := first | omega | (simp only [lens]; first | done | omega)) only [go_sem, Nat.reduceEqDiff, Nat.reduceBEq, Nat.reduceAdd, Nat.reduceMul, Nat.reduceSub, Nat.reduceLeDiff, Int.reduceToNat, Int.reducePow, s2, s3, s4, s5, s6, s7, s21] at hs; obtain ⟨s2, s3, s4, s5, s6, s7, s13, s14, s15, s16, s17, s18, s19, s20, s21⟩ := hs)
      (refine SWp.regS ?_; (simp (disch := first | omega | (simp only [lens]; first | done | omega)) only [go_sem, Nat.reduceEqDiff, Nat.reduceBEq, Nat.reduceAdd, Nat.reduceMul, Nat.reduceSub, Nat.reduceLeDiff, Int.reduceToNat, Int.reducePow, s21]))
      refine ⟨64 - (i + 1), by omega, i + 1, by omega, ⟨s2, s3, s4, by rw [hpb]; exact s5, s6, s7⟩, by simp, ?_⟩
      rw [hst]
      simp only [rnd, bs1, chW, bs0, majW]
      exact ⟨s13, s14, s15, s16, s17, s18, s19, s20⟩
    · obtain rfl : i = 64 := by omega
      rw [← hU] at q13 q14 q15 q16 q17 q18 q19 q20
      clear hst hU hmix
      obtain ⟨a, b, c, d, e, f, g, h⟩ := U
      obtain ⟨a', b', c', d', e', f', g', h'⟩ := u
      simp only at q13 q14 q15 q16 q17 q18 q19 q20
      unfold mkS
      unfold mkS at hQ
      simp only [V8.add, V8.c8] at hQ
      simp only [V8.c8]
      generalize hpb : byteEs p = pb at *
      refine SWp.seq ?_
      refine SWp.seq ?_
      (refine SWp.regS ?_; (simp (disch := first | omega | (simp only [lens]; first | done | omega)) only [go_sem, Nat.reduceEqDiff, Nat.reduceBEq, Nat.reduceAdd, Nat.reduceMul, Nat.reduceSub, Nat.reduceLeDiff, Int.reduceToNat, Int.reducePow, q21]))
      refine SWp.condF rfl ?_
      refine SWp.exit ?_
      simp (disch := first | omega | (simp only [lens]; first | done | omega)) only [go_sem, Nat.reduceEqDiff, Nat.reduceBEq, Nat.reduceAdd, Nat.reduceMul, Nat.reduceSub, Nat.reduceLeDiff, Int.reduceToNat, Int.reducePow]
      (refine SWp.regS ?_; (simp (disch := first | omega | (simp only [lens]; first | done | omega)) only [go_sem, Nat.reduceEqDiff, Nat.reduceBEq, Nat.reduceAdd, Nat.reduceMul, Nat.reduceSub, Nat.reduceLeDiff, Int.reduceToNat, Int.reducePow, q4, q13, q14, q15, q16, q17, q18, q19, q20]))
      rw [BitVec.add_comm a' a, BitVec.add_comm b' b, BitVec.add_comm c' c, BitVec.add_comm d' d, BitVec.add_comm e' e, BitVec.add_comm f' f, BitVec.add_comm g' g, BitVec.add_comm h' h]
      exact hQ _ ⟨by simp (disch := first | omega | (simp only [lens]; first | done | omega)) only [go_sem, Nat.reduceEqDiff, Nat.reduceBEq, Nat.reduceAdd, Nat.reduceMul, Nat.reduceSub, Nat.reduceLeDiff, Int.reduceToNat, Int.reducePow, q2], by simp (disch := first | omega | (simp only [lens]; first | done | omega)) only [go_sem, Nat.reduceEqDiff, Nat.reduceBEq, Nat.reduceAdd, Nat.reduceMul, Nat.reduceSub, Nat.reduceLeDiff, Int.reduceToNat, Int.reducePow, q3], by simp (disch := first | omega | (simp only [lens]; first | done | omega)) only [go_sem, Nat.reduceEqDiff, Nat.reduceBEq, Nat.reduceAdd, Nat.reduceMul, Nat.reduceSub, Nat.reduceLeDiff, Int.reduceToNat, Int.reducePow, q4], (by simp (disch := first | omega | (simp only [lens]; first | done | omega)) only [go_sem, Nat.reduceEqDiff, Nat.reduceBEq, Nat.reduceAdd, Nat.reduceMul, Nat.reduceSub, Nat.reduceLeDiff, Int.reduceToNat, Int.reducePow, q5]; rw [hpb]), by simp (disch := first | omega | (simp only [lens]; first | done | omega)) only [go_sem, Nat.reduceEqDiff, Nat.reduceBEq, Nat.reduceAdd, Nat.reduceMul, Nat.reduceSub, Nat.reduceLeDiff, Int.reduceToNat, Int.reducePow, q6], by simp (disch := first | omega | (simp only [lens]; first | done | omega)) only [go_sem, Nat.reduceEqDiff, Nat.reduceBEq, Nat.reduceAdd, Nat.reduceMul, Nat.reduceSub, Nat.reduceLeDiff, Int.reduceToNat, Int.reducePow, q7]⟩
end
end Am
end Go.Proofs.YthgcooppjhcgcaaDoor
end
section
set_option linter.unusedSimpArgs false
set_option linter.unusedVariables false
/- SHA-256: the reference's Sum. -/
set_option linter.unusedSimpArgs false
set_option linter.unusedVariables false
namespace Go.Proofs.YthgcooppjhcgcaaDoor
namespace Am
theorem sum_r1 {C : Ctx} {K : Env → Store → Prop} {H : Hist} {ρ : Env} {σ : Store} : opsWp C K speculumref02_Sum_r1 H ρ σ = opsWp C K (speculumref02_Sum_r1.drop 1) H (upd ρ 26 (.agg gl_sha_rounds)) σ := by kernel_rfl
theorem flat_get {l : List W} {i : Nat} (h : i < 4 * l.length) : (l.flatMap fun x => be 4 x.toNat)[i]? = (be 4 (wat l (i / 4)).toNat)[i % 4]? := by
  induction l generalizing i with
  | nil => simp at h
  | cons x l ih =>
    have hb : (be 4 x.toNat).length = 4 := be_length _ _
    rw [List.flatMap_cons]
    by_cases hi : i < 4
    · rw [List.getElem?_append_left (by omega), Nat.div_eq_of_lt hi, Nat.mod_eq_of_lt hi]; rfl
    · simp only [List.length_cons] at h
      rw [List.getElem?_append_right (by omega), hb, ih (by omega), show i / 4 = (i - 4) / 4 + 1 by omega, show (i - 4) % 4 = i % 4 by omega]
      rfl
theorem be4_get (x : Nat) {j : Nat} (h : j < 4) : (be 4 x)[j]? = some (UInt8.ofNat (x / 2 ^ (24 - 8 * j))) := by
  have e : be 4 x = [UInt8.ofNat (x / 256 ^ 3), UInt8.ofNat (x / 256 ^ 2), UInt8.ofNat (x / 256 ^ 1), UInt8.ofNat (x / 256 ^ 0)] := by
    simp only [be_cons]
    rfl
  rw [e]
  have hj : j = 0 ∨ j = 1 ∨ j = 2 ∨ j = 3 := by omega
  rcases hj with rfl | rfl | rfl | rfl <;> rfl
theorem out_get (v : V8) {i : Nat} (h : i < 32) : (outV v)[i]? = some (UInt8.ofNat ((wat v.l (i / 4)).toNat / 2 ^ (24 - 8 * (i % 4)))) := by
  unfold outV
  rw [flat_get (by simp [V8.l]; omega), be4_get _ (Nat.mod_lt _ (by decide))]
def ocells (v : V8) (i : Nat) : List AV := byteEsC ((outV v).take i) ++ List.replicate (32 - i) (.int .u8 0)
theorem ocells_len (v : V8) {i : Nat} (h : i ≤ 32) : (ocells v i).length = 32 := by simp [ocells, byteEsC_len, outV_len]; omega
theorem ocells_step (v : V8) {i : Nat} (h : i < 32) {b : Int} (hb : b = (((wat v.l (i / 4)).toNat / 2 ^ (24 - 8 * (i % 4)) % 256 : Nat) : Int)) :
    (ocells v i).take i ++ AV.int .u8 b :: (ocells v i).drop (i + 1) = ocells v (i + 1) := by
  have h1 : (byteEsC ((outV v).take i)).length = i := by rw [byteEsC_len, List.length_take, outV_len]; omega
  have hg := out_get v h
  have hs : (outV v).take (i + 1) = (outV v).take i ++ [UInt8.ofNat ((wat v.l (i / 4)).toNat / 2 ^ (24 - 8 * (i % 4)))] := by
    rw [List.take_add_one, hg]; rfl
  unfold ocells
  rw [List.take_append_of_le_length (by omega), List.take_of_length_le (by omega), List.drop_append, List.drop_of_length_le (by omega), h1, show i + 1 - i = 1 by omega, List.nil_append, hs]
  rw [List.drop_replicate, show 32 - i - 1 = 32 - (i + 1) by omega]
  simp [byteEsC, hb]
set_option maxHeartbeats 8000000 in
theorem ref_Sum_to (σ : Store) (s : List UInt8) (h : s.length < 900000000) : ACallsTo TC 88 [.str s] σ (.agg (byteEsC (shaS s))) σ := by
  obtain ⟨p, hp⟩ : ∃ p, p = padS s := ⟨_, rfl⟩
  obtain ⟨hp1, hp2⟩ := padS_len s
  rw [← hp] at hp1 hp2
  obtain ⟨N, hN⟩ : ∃ N, p.length = 64 * N := ⟨p.length / 64, by omega⟩
  obtain ⟨V, hV⟩ : ∃ V, V = blocks N v0 p := ⟨_, rfl⟩
  have hS : shaS s = outV V := by
    unfold shaS
    rw [← hp, hV]
    have : p.length / 64 = N := by omega
    rw [this]
  rw [hS]
  have hf := fun σ => pad_to σ s (by omega)
  rw [← hp] at hf
  refine ACallsTo.of_body speculumref02_Sum_ok (by simp) fun hw _ => ?_
  refine SWp.seq ?_
  refine SWp.reg ?_
  simp (disch := first | omega | (simp only [lens]; first | done | omega)) only [go_sem, Nat.reduceEqDiff, Nat.reduceBEq, Nat.reduceAdd, Nat.reduceMul, Nat.reduceSub, Nat.reduceLeDiff, Int.reduceToNat, Int.reducePow]
  refine SWp.seq ?_
  refine SWp.reg ?_
  rw [sum_r1]
  simp (disch := first | omega | (simp only [lens]; first | done | omega)) only [go_sem, Nat.reduceEqDiff, Nat.reduceBEq, Nat.reduceAdd, Nat.reduceMul, Nat.reduceSub, Nat.reduceLeDiff, Int.reduceToNat, Int.reducePow, gl_rounds_len]
  refine SWp.seq ?_
  refine SWp.reg ?_
  simp (disch := first | omega | (simp only [lens]; first | done | omega)) only [go_sem, Nat.reduceEqDiff, Nat.reduceBEq, Nat.reduceAdd, Nat.reduceMul, Nat.reduceSub, Nat.reduceLeDiff, Int.reduceToNat, Int.reducePow]
  refine SWp.seq ?_
  repeat' (first | refine SWp.seq ?_ | refine SWp.block ?_ | refine SWp.scope ?_ | refine SWp.condT rfl ?_ | refine SWp.condF rfl ?_ | (refine SWp.condD rfl (fun ht => ?_) (fun ht => ?_) <;> try (exfalso; omega)) | ((first | refine SWp.reg ?_ | refine SWp.skip ?_ | refine SWp.exit ?_ | refine SWp.ret ?_ | (apply callW.mk_pu; (first | exact (fun _ => hf _))) | (apply callW.any; (first | exact (hf _))) | ((first | apply splitG | apply splitGB | apply splitR | apply splitRB | apply splitE | apply splitEB | apply splitC | apply splitCB) <;> intro ht)); all_goals try simp (disch := first | omega | (simp only [lens]; first | done | omega)) only [go_sem, Nat.reduceEqDiff, Nat.reduceBEq, Nat.reduceAdd, Nat.reduceMul, Nat.reduceSub, Nat.reduceLeDiff, Int.reduceToNat, Int.reducePow]))
  refine SWp.loop (fun m ρ σ' => ∃ (u : V8) (n : Nat) (cells : List AV), n + 64 * m = p.length ∧ Rk ρ σ.length p n ∧ cells.length = 64 ∧ blocks m u (p.drop n) = V ∧ σ' = mkS σ u cells) N ?_ ?_
  · exact ⟨v0, 0, List.replicate 64 (.int .u32 0), by omega, ⟨by simp (disch := first | omega | (simp only [lens]; first | done | omega)) only [go_sem, Nat.reduceEqDiff, Nat.reduceBEq, Nat.reduceAdd, Nat.reduceMul, Nat.reduceSub, Nat.reduceLeDiff, Int.reduceToNat, Int.reducePow], by simp (disch := first | omega | (simp only [lens]; first | done | omega)) only [go_sem, Nat.reduceEqDiff, Nat.reduceBEq, Nat.reduceAdd, Nat.reduceMul, Nat.reduceSub, Nat.reduceLeDiff, Int.reduceToNat, Int.reducePow], by simp (disch := first | omega | (simp only [lens]; first | done | omega)) only [go_sem, Nat.reduceEqDiff, Nat.reduceBEq, Nat.reduceAdd, Nat.reduceMul, Nat.reduceSub, Nat.reduceLeDiff, Int.reduceToNat, Int.reducePow], by simp (disch := first | omega | (simp only [lens]; first | done | omega)) only [go_sem, Nat.reduceEqDiff, Nat.reduceBEq, Nat.reduceAdd, Nat.reduceMul, Nat.reduceSub, Nat.reduceLeDiff, Int.reduceToNat, Int.reducePow], by simp (disch := first | omega | (simp only [lens]; first | done | omega)) only [go_sem, Nat.reduceEqDiff, Nat.reduceBEq, Nat.reduceAdd, Nat.reduceMul, Nat.reduceSub, Nat.reduceLeDiff, Int.reduceToNat, Int.reducePow], by simp (disch := first | omega | (simp only [lens]; first | done | omega)) only [go_sem, Nat.reduceEqDiff, Nat.reduceBEq, Nat.reduceAdd, Nat.reduceMul, Nat.reduceSub, Nat.reduceLeDiff, Int.reduceToNat, Int.reducePow]; rfl⟩, rfl, by rw [List.drop_zero]; exact hV.symm, rfl⟩
  · rintro m ρ σ' ⟨u, n, cells, hn, ⟨q2, q3, q4, q5, q6, q7⟩, hc, hb, rfl⟩
    have hpb := byteEs_len p
    cases m with
    | succ m =>
      refine SWp.seq ?_
      refine SWp.seq ?_
      (refine SWp.regS ?_; (simp (disch := first | omega | (simp only [lens]; first | done | omega)) only [go_sem, Nat.reduceEqDiff, Nat.reduceBEq, Nat.reduceAdd, Nat.reduceMul, Nat.reduceSub, Nat.reduceLeDiff, Int.reduceToNat, Int.reducePow, q5, q7, hpb]))
      refine SWp.condT rfl ?_
      refine SWp.skip ?_
      simp (disch := first | omega | (simp only [lens]; first | done | omega)) only [go_sem, Nat.reduceEqDiff, Nat.reduceBEq, Nat.reduceAdd, Nat.reduceMul, Nat.reduceSub, Nat.reduceLeDiff, Int.reduceToNat, Int.reducePow]
      refine SWp.seq ?_
      refine SWp.block ?_
      refine SWp.seq ?_
      refine ref_words (p := p) (n := n) (u := u) (cells := cells) ⟨by simp (disch := first | omega | (simp only [lens]; first | done | omega)) only [go_sem, Nat.reduceEqDiff, Nat.reduceBEq, Nat.reduceAdd, Nat.reduceMul, Nat.reduceSub, Nat.reduceLeDiff, Int.reduceToNat, Int.reducePow, q2], by simp (disch := first | omega | (simp only [lens]; first | done | omega)) only [go_sem, Nat.reduceEqDiff, Nat.reduceBEq, Nat.reduceAdd, Nat.reduceMul, Nat.reduceSub, Nat.reduceLeDiff, Int.reduceToNat, Int.reducePow, q3], by simp (disch := first | omega | (simp only [lens]; first | done | omega)) only [go_sem, Nat.reduceEqDiff, Nat.reduceBEq, Nat.reduceAdd, Nat.reduceMul, Nat.reduceSub, Nat.reduceLeDiff, Int.reduceToNat, Int.reducePow, q4], by simp (disch := first | omega | (simp only [lens]; first | done | omega)) only [go_sem, Nat.reduceEqDiff, Nat.reduceBEq, Nat.reduceAdd, Nat.reduceMul, Nat.reduceSub, Nat.reduceLeDiff, Int.reduceToNat, Int.reducePow, q5], by simp (disch := first | omega | (simp only [lens]; first | done | omega)) only [go_sem, Nat.reduceEqDiff, Nat.reduceBEq, Nat.reduceAdd, Nat.reduceMul, Nat.reduceSub, Nat.reduceLeDiff, Int.reduceToNat, Int.reducePow, q6], by simp (disch := first | omega | (simp only [lens]; first | done | omega)) only [go_sem, Nat.reduceEqDiff, Nat.reduceBEq, Nat.reduceAdd, Nat.reduceMul, Nat.reduceSub, Nat.reduceLeDiff, Int.reduceToNat, Int.reducePow, q7]⟩ (by omega) (by omega) hc ?_
      intro ρ1 rest hr K1
      refine SWp.seq ?_
      refine ref_sched K1 hr ?_
      intro ρ2 K2
      refine ref_rounds K2 ?_
      intro ρ3 ⟨t2, t3, t4, t5, t6, t7⟩
      simp only [thenQ, blkQ]
      (refine SWp.regS ?_; (simp (disch := first | omega | (simp only [lens]; first | done | omega)) only [go_sem, Nat.reduceEqDiff, Nat.reduceBEq, Nat.reduceAdd, Nat.reduceMul, Nat.reduceSub, Nat.reduceLeDiff, Int.reduceToNat, Int.reducePow, t7]))
      refine ⟨m, by omega, mixS u ((p.drop n).take 64), n + 64, ws (sched ((p.drop n).take 64) 64), by omega, ⟨by simp (disch := first | omega | (simp only [lens]; first | done | omega)) only [go_sem, Nat.reduceEqDiff, Nat.reduceBEq, Nat.reduceAdd, Nat.reduceMul, Nat.reduceSub, Nat.reduceLeDiff, Int.reduceToNat, Int.reducePow, t2], by simp (disch := first | omega | (simp only [lens]; first | done | omega)) only [go_sem, Nat.reduceEqDiff, Nat.reduceBEq, Nat.reduceAdd, Nat.reduceMul, Nat.reduceSub, Nat.reduceLeDiff, Int.reduceToNat, Int.reducePow, t3], by simp (disch := first | omega | (simp only [lens]; first | done | omega)) only [go_sem, Nat.reduceEqDiff, Nat.reduceBEq, Nat.reduceAdd, Nat.reduceMul, Nat.reduceSub, Nat.reduceLeDiff, Int.reduceToNat, Int.reducePow, t4], by simp (disch := first | omega | (simp only [lens]; first | done | omega)) only [go_sem, Nat.reduceEqDiff, Nat.reduceBEq, Nat.reduceAdd, Nat.reduceMul, Nat.reduceSub, Nat.reduceLeDiff, Int.reduceToNat, Int.reducePow, t5], by simp (disch := first | omega | (simp only [lens]; first | done | omega)) only [go_sem, Nat.reduceEqDiff, Nat.reduceBEq, Nat.reduceAdd, Nat.reduceMul, Nat.reduceSub, Nat.reduceLeDiff, Int.reduceToNat, Int.reducePow, t6], by simp (disch := first | omega | (simp only [lens]; first | done | omega)) only [go_sem, Nat.reduceEqDiff, Nat.reduceBEq, Nat.reduceAdd, Nat.reduceMul, Nat.reduceSub, Nat.reduceLeDiff, Int.reduceToNat, Int.reducePow]; rw [Int.natCast_add]; rfl⟩, by rw [ws_len, sched_len], ?_, rfl⟩
      rw [← hb, blocks, List.drop_drop]
    | zero =>
      have hd : p.drop n = [] := List.drop_of_length_le (by omega)
      rw [hd] at hb
      have hu : u = V := hb
      subst hu
      clear hb hd hV
      unfold mkS
      repeat' (first | refine SWp.seq ?_ | refine SWp.block ?_ | refine SWp.scope ?_ | refine SWp.condT rfl ?_ | refine SWp.condF rfl ?_ | (refine SWp.condD rfl (fun ht => ?_) (fun ht => ?_) <;> try (exfalso; omega)) | ((first | refine SWp.reg ?_ | refine SWp.skip ?_ | refine SWp.exit ?_ | refine SWp.ret ?_ | ((first | apply splitG | apply splitGB | apply splitR | apply splitRB | apply splitE | apply splitEB | apply splitC | apply splitCB) <;> intro ht)); all_goals try simp (disch := first | omega | (simp only [lens]; first | done | omega)) only [go_sem, Nat.reduceEqDiff, Nat.reduceBEq, Nat.reduceAdd, Nat.reduceMul, Nat.reduceSub, Nat.reduceLeDiff, Int.reduceToNat, Int.reducePow, q5, q7, hpb]))
      refine SWp.loop (fun m ρ σ' => ∃ i : Nat, m + i = 32 ∧ ρ 2 = .ptr σ.length 0 0 ∧ ρ 4 = .ptr (σ.length + 2) 0 0 ∧ ρ 24 = .ptr (σ.length + 4) 0 0 ∧ ρ 25 = .int .i64 i ∧ σ' = σ ++ [some [z32], some [gl_sha_rounds], some [u.c8], some [cells], some [ocells u i]]) 32 ?_ ?_
      · exact ⟨0, by omega, by simp (disch := first | omega | (simp only [lens]; first | done | omega)) only [go_sem, Nat.reduceEqDiff, Nat.reduceBEq, Nat.reduceAdd, Nat.reduceMul, Nat.reduceSub, Nat.reduceLeDiff, Int.reduceToNat, Int.reducePow, q2], by simp (disch := first | omega | (simp only [lens]; first | done | omega)) only [go_sem, Nat.reduceEqDiff, Nat.reduceBEq, Nat.reduceAdd, Nat.reduceMul, Nat.reduceSub, Nat.reduceLeDiff, Int.reduceToNat, Int.reducePow, q4], by simp (disch := first | omega | (simp only [lens]; first | done | omega)) only [go_sem, Nat.reduceEqDiff, Nat.reduceBEq, Nat.reduceAdd, Nat.reduceMul, Nat.reduceSub, Nat.reduceLeDiff, Int.reduceToNat, Int.reducePow], by simp (disch := first | omega | (simp only [lens]; first | done | omega)) only [go_sem, Nat.reduceEqDiff, Nat.reduceBEq, Nat.reduceAdd, Nat.reduceMul, Nat.reduceSub, Nat.reduceLeDiff, Int.reduceToNat, Int.reducePow]; rfl, rfl⟩
      · clear q2 q3 q4 q5 q6 q7
        rintro m ρ σ' ⟨i, hm, q2, q4, q24, q25, rfl⟩
        have hlen := ocells_len u (i := i) (by omega)
        have h8 : u.c8.length = 8 := rfl
        have hz : z32.length = 32 := rfl
        by_cases hi : i < 32
        · have hst := ocells_step u hi (b := ((((wat u.l (i / 4)).toNat / 2 ^ (24 - 8 * (i % 4)) % 256 : Nat)) : Int)) rfl
          have hw := wat_lt (w := u.l) (i := i / 4) (by simp [V8.l]; omega)
          rw [ws_l] at hw
          generalize wat u.l (i / 4) = x at *
          generalize ocells u i = cc at *
          have hd4 : ((i : Int) / 4).toNat = i / 4 := by omega
          have hsh : (24 - 8 * ((i : Int) % 4)).toNat = 24 - 8 * (i % 4) := by omega
          repeat' (first | refine SWp.seq ?_ | refine SWp.block ?_ | refine SWp.scope ?_ | refine SWp.condT rfl ?_ | refine SWp.condF rfl ?_ | (refine SWp.condD rfl (fun ht => ?_) (fun ht => ?_) <;> try (exfalso; omega)) | ((first | refine SWp.regS ?_ | refine SWp.skip ?_ | refine SWp.exit ?_ | refine SWp.ret ?_ | ((first | apply splitG | apply splitGB | apply splitR | apply splitRB | apply splitE | apply splitEB | apply splitC | apply splitCB) <;> intro ht)); all_goals try simp (disch := first | omega | (simp only [lens]; first | done | omega)) only [go_sem, Nat.reduceEqDiff, Nat.reduceBEq, Nat.reduceAdd, Nat.reduceMul, Nat.reduceSub, Nat.reduceLeDiff, Int.reduceToNat, Int.reducePow, q2, q4, q24, q25, hlen, h8, hw, hd4, hsh]))
          refine ⟨32 - (i + 1), by omega, i + 1, by omega, by simp, ?_⟩
          rw [BitVec.toNat_ushiftRight, Nat.shiftRight_eq_div_pow, ← hst, Int.natCast_emod]
          rfl
        · obtain rfl : i = 32 := by omega
          have e32 : ocells u 32 = byteEsC (outV u) := by
            unfold ocells
            rw [List.take_of_length_le (by rw [outV_len]; decide)]
            exact List.append_nil _
          have hd : List.drop 32 z32 = [] := rfl
          have hl : (byteEsC (outV u)).length = 32 := by rw [byteEsC_len, outV_len]
          rw [e32] at *
          repeat' (first | refine SWp.seq ?_ | refine SWp.block ?_ | refine SWp.scope ?_ | refine SWp.condT rfl ?_ | refine SWp.condF rfl ?_ | (refine SWp.condD rfl (fun ht => ?_) (fun ht => ?_) <;> try (exfalso; omega)) | ((first | refine SWp.reg ?_ | refine SWp.skip ?_ | refine SWp.exit ?_ | refine SWp.ret ?_ | ((first | apply splitG | apply splitGB | apply splitR | apply splitRB | apply splitE | apply splitEB | apply splitC | apply splitCB) <;> intro ht)); all_goals try simp (disch := first | omega | (simp only [lens]; first | done | omega)) only [go_sem, Nat.reduceEqDiff, Nat.reduceBEq, Nat.reduceAdd, Nat.reduceMul, Nat.reduceSub, Nat.reduceLeDiff, Int.reduceToNat, Int.reducePow, q2, q4, q24, q25, hl, h8, hd, hz]))
          exact DownV.pure hw (rl_agg (rl_bytes _))
end Am
end Go.Proofs.YthgcooppjhcgcaaDoor
end
section
set_option linter.unusedSimpArgs false
set_option linter.unusedVariables false
/- Abstract code. (Printed by wip/gen.) -/
set_option maxRecDepth 10000
namespace Go.Proofs.YthgcooppjhcgcaaDoor
namespace Am



@[go_sem] def speculumlaw03_Same_r0 : List AIns := [
  ⟨some 4, none, .no, .mv (.v (.bool false))⟩]
@[go_sem] def speculumlaw03_Same_r1 : List AIns := [
  ⟨some 6, none, .no, .mv (.t 0)⟩,
  ⟨some 7, none, .no, .lenSl (.t 6)⟩,
  ⟨some 8, none, .no, .mv (.t 1)⟩,
  ⟨some 9, none, .no, .lenSl (.t 8)⟩,
  ⟨some 10, none, .no, .bin .neq .none (.t 7) (.t 9)⟩]
@[go_sem] def speculumlaw03_Same_r2 : List AIns := [
  ⟨some 4, none, .no, .mv (.v (.bool false))⟩]
def speculumlaw03_Same_c3 : ACode := .seq (.reg speculumlaw03_Same_r2) .ret
def speculumlaw03_Same_c4 : ACode := .cond (.t 10) speculumlaw03_Same_c3 .skip
def speculumlaw03_Same_c5 : ACode := .seq (.reg speculumlaw03_Same_r1) speculumlaw03_Same_c4
@[go_sem] def speculumlaw03_Same_r6 : List AIns := [
  ⟨some 5, none, .no, .mv (.v (.int .i64 (0)))⟩]
@[go_sem] def speculumlaw03_Same_r7 : List AIns := [
  ⟨some 11, none, .no, .mv (.t 5)⟩,
  ⟨some 12, none, .no, .mv (.t 0)⟩,
  ⟨some 13, none, .no, .lenSl (.t 12)⟩,
  ⟨some 14, none, .no, .bin .lss .none (.t 11) (.t 13)⟩]
def speculumlaw03_Same_c8 : ACode := .cond (.t 14) .skip (.exit 0)
def speculumlaw03_Same_c9 : ACode := .seq (.reg speculumlaw03_Same_r7) speculumlaw03_Same_c8
@[go_sem] def speculumlaw03_Same_r10 : List AIns := [
  ⟨some 17, none, .no, .mv (.t 0)⟩,
  ⟨some 18, none, .no, .mv (.t 5)⟩,
  ⟨some 19, none, .no, .iaSl 32 (.t 17) (.t 18)⟩,
  ⟨some 20, none, .rd, .load true 32 (.t 19)⟩,
  ⟨some 21, none, .no, .mv (.t 1)⟩,
  ⟨some 22, none, .no, .mv (.t 5)⟩,
  ⟨some 23, none, .no, .iaSl 32 (.t 21) (.t 22)⟩,
  ⟨some 24, none, .rd, .load true 32 (.t 23)⟩,
  ⟨some 25, none, .no, .bin .neq (.agg (List.replicate 32 (.i .u8) ++ [])) (.t 20) (.t 24)⟩]
@[go_sem] def speculumlaw03_Same_r11 : List AIns := [
  ⟨some 4, none, .no, .mv (.v (.bool false))⟩]
def speculumlaw03_Same_c12 : ACode := .seq (.reg speculumlaw03_Same_r11) .ret
def speculumlaw03_Same_c13 : ACode := .cond (.t 25) speculumlaw03_Same_c12 .skip
def speculumlaw03_Same_c14 : ACode := .seq (.reg speculumlaw03_Same_r10) speculumlaw03_Same_c13
@[go_sem] def speculumlaw03_Same_r15 : List AIns := [
  ⟨some 15, none, .no, .mv (.t 5)⟩,
  ⟨some 16, none, .no, .bin .add .none (.t 15) (.v (.int .i64 (1)))⟩,
  ⟨some 5, none, .no, .mv (.t 16)⟩]
def speculumlaw03_Same_c16 : ACode := .seq (.block 1 speculumlaw03_Same_c14) (.reg speculumlaw03_Same_r15)
def speculumlaw03_Same_c17 : ACode := .seq speculumlaw03_Same_c9 speculumlaw03_Same_c16
def speculumlaw03_Same_c18 : ACode := .loop speculumlaw03_Same_c17
def speculumlaw03_Same_c19 : ACode := .block 0 speculumlaw03_Same_c18
def speculumlaw03_Same_c20 : ACode := .seq (.reg speculumlaw03_Same_r6) speculumlaw03_Same_c19
@[go_sem] def speculumlaw03_Same_r21 : List AIns := [
  ⟨some 4, none, .no, .mv (.v (.bool true))⟩]
def speculumlaw03_Same_c22 : ACode := .seq (.reg speculumlaw03_Same_r21) .ret
def speculumlaw03_Same_c23 : ACode := .seq speculumlaw03_Same_c20 speculumlaw03_Same_c22
def speculumlaw03_Same_c24 : ACode := .seq speculumlaw03_Same_c5 speculumlaw03_Same_c23
def speculumlaw03_Same_c25 : ACode := .seq (.reg speculumlaw03_Same_r0) speculumlaw03_Same_c24
theorem speculumlaw03_Same_ok : cFn TC 80 = some (26, [.t 4], speculumlaw03_Same_c25) := by kernel_rfl

@[go_sem] def speculumlaw04_Some_r0 : List AIns := [
  ⟨some 4, none, .no, .mv (.v .nilsl)⟩]
@[go_sem] def speculumlaw04_Some_r1 : List AIns := [
  ⟨some 5, none, .no, .mv (.v .nilsl)⟩]
@[go_sem] def speculumlaw04_Some_r2 : List AIns := [
  ⟨some 6, none, .no, .mv (.v (.int .i64 (0)))⟩]
@[go_sem] def speculumlaw04_Some_r3 : List AIns := [
  ⟨some 7, none, .no, .mv (.t 6)⟩,
  ⟨some 8, none, .no, .mv (.t 0)⟩,
  ⟨some 9, none, .no, .bin .lss .none (.t 7) (.t 8)⟩]
def speculumlaw04_Some_c4 : ACode := .cond (.t 9) .skip (.exit 0)
def speculumlaw04_Some_c5 : ACode := .seq (.reg speculumlaw04_Some_r3) speculumlaw04_Some_c4
@[go_sem] def speculumlaw04_Some_r6 : List AIns := [
  ⟨some 12, none, .no, .mv (.t 5)⟩,
  ⟨some 13, none, .no, .mv (.t 1)⟩,
  ⟨some 14, none, .no, .mv (.t 6)⟩,
  ⟨some 15, none, .no, .conv (.int .u8) (.t 14)⟩,
  ⟨some 16, none, .no, .mv (.t 6)⟩,
  ⟨some 17, none, .no, .bin .quo .none (.t 16) (.v (.int .i64 (256)))⟩,
  ⟨some 18, none, .no, .conv (.int .u8) (.t 17)⟩,
  ⟨some 19, none, .no, .build [(.int .u8 (0)), (.int .u8 (0)), (.int .u8 (0)), (.int .u8 (0)), (.int .u8 (0)), (.int .u8 (0)), (.int .u8 (0)), (.int .u8 (0)), (.int .u8 (0)), (.int .u8 (0)), (.int .u8 (0)), (.int .u8 (0)), (.int .u8 (0)), (.int .u8 (0)), (.int .u8 (0)), (.int .u8 (0)), (.int .u8 (0)), (.int .u8 (0)), (.int .u8 (0)), (.int .u8 (0)), (.int .u8 (0)), (.int .u8 (0)), (.int .u8 (0)), (.int .u8 (0)), (.int .u8 (0)), (.int .u8 (0)), (.int .u8 (0)), (.int .u8 (0)), (.int .u8 (0)), (.int .u8 (0)), (.int .u8 (0)), (.int .u8 (0))] [(0, 1, (.t 13)), (1, 1, (.t 15)), (2, 1, (.t 18)), (3, 1, (.v (.int .u8 (1))))]⟩,
  ⟨some 20, none, .no, .lit 32 [(.t 19)]⟩,
  ⟨some 21, none, .no, .app 32 (.t 12) (.t 20)⟩,
  ⟨some 5, none, .no, .mv (.t 21)⟩]
@[go_sem] def speculumlaw04_Some_r7 : List AIns := [
  ⟨some 10, none, .no, .mv (.t 6)⟩,
  ⟨some 11, none, .no, .bin .add .none (.t 10) (.v (.int .i64 (1)))⟩,
  ⟨some 6, none, .no, .mv (.t 11)⟩]
def speculumlaw04_Some_c8 : ACode := .seq (.block 1 (.reg speculumlaw04_Some_r6)) (.reg speculumlaw04_Some_r7)
def speculumlaw04_Some_c9 : ACode := .seq speculumlaw04_Some_c5 speculumlaw04_Some_c8
def speculumlaw04_Some_c10 : ACode := .loop speculumlaw04_Some_c9
def speculumlaw04_Some_c11 : ACode := .block 0 speculumlaw04_Some_c10
def speculumlaw04_Some_c12 : ACode := .seq (.reg speculumlaw04_Some_r2) speculumlaw04_Some_c11
@[go_sem] def speculumlaw04_Some_r13 : List AIns := [
  ⟨some 22, none, .no, .mv (.t 5)⟩,
  ⟨some 4, none, .no, .mv (.t 22)⟩]
def speculumlaw04_Some_c14 : ACode := .seq (.reg speculumlaw04_Some_r13) .ret
def speculumlaw04_Some_c15 : ACode := .seq speculumlaw04_Some_c12 speculumlaw04_Some_c14
def speculumlaw04_Some_c16 : ACode := .seq (.reg speculumlaw04_Some_r1) speculumlaw04_Some_c15
def speculumlaw04_Some_c17 : ACode := .seq (.reg speculumlaw04_Some_r0) speculumlaw04_Some_c16
theorem speculumlaw04_Some_ok : cFn TC 79 = some (23, [.t 4], speculumlaw04_Some_c17) := by kernel_rfl

@[go_sem] def trees_Root_r0 : List AIns := [
  ⟨some 1, none, .no, .box (.t 0)⟩,
  ⟨some 2, none, .no, .alloc [(.int .u8 (0)), (.int .u8 (0)), (.int .u8 (0)), (.int .u8 (0)), (.int .u8 (0)), (.int .u8 (0)), (.int .u8 (0)), (.int .u8 (0)), (.int .u8 (0)), (.int .u8 (0)), (.int .u8 (0)), (.int .u8 (0)), (.int .u8 (0)), (.int .u8 (0)), (.int .u8 (0)), (.int .u8 (0)), (.int .u8 (0)), (.int .u8 (0)), (.int .u8 (0)), (.int .u8 (0)), (.int .u8 (0)), (.int .u8 (0)), (.int .u8 (0)), (.int .u8 (0)), (.int .u8 (0)), (.int .u8 (0)), (.int .u8 (0)), (.int .u8 (0)), (.int .u8 (0)), (.int .u8 (0)), (.int .u8 (0)), (.int .u8 (0))]⟩]
@[go_sem] def trees_Root_r1 : List AIns := [
  ⟨some 4, none, .no, .load false 1 (.t 1)⟩,
  ⟨some 5, none, .no, .lenSl (.t 4)⟩,
  ⟨some 6, none, .no, .bin .eql .none (.t 5) (.v (.int .i64 (0)))⟩]
@[go_sem] def trees_Root_r2 : List AIns := [
  ⟨some 7, none, .no, .call (.v (.fn 95 [])) [(.v (.str []))]⟩,
  ⟨none, none, .no, .store 32 (.t 2) (.t 7)⟩]
def trees_Root_c3 : ACode := .seq (.reg trees_Root_r2) .ret
def trees_Root_c4 : ACode := .cond (.t 6) trees_Root_c3 .skip
def trees_Root_c5 : ACode := .seq (.reg trees_Root_r1) trees_Root_c4
@[go_sem] def trees_Root_r6 : List AIns := [
  ⟨some 3, none, .no, .alloc [.nilfn]⟩]
@[go_sem] def trees_Root_r7 : List AIns := [
  ⟨some 8, none, .no, .mkfn 96 [(.t 1), (.t 3)]⟩,
  ⟨none, none, .no, .store 1 (.t 3) (.t 8)⟩]
@[go_sem] def trees_Root_r8 : List AIns := [
  ⟨some 9, none, .no, .load false 1 (.t 3)⟩,
  ⟨some 10, none, .no, .load false 1 (.t 1)⟩,
  ⟨some 11, none, .no, .lenSl (.t 10)⟩,
  ⟨some 12, none, .no, .call (.t 9) [(.v (.int .i64 (0))), (.t 11)]⟩,
  ⟨none, none, .no, .store 32 (.t 2) (.t 12)⟩]
def trees_Root_c9 : ACode := .seq (.reg trees_Root_r8) .ret
def trees_Root_c10 : ACode := .seq (.reg trees_Root_r7) trees_Root_c9
def trees_Root_c11 : ACode := .seq (.reg trees_Root_r6) trees_Root_c10
def trees_Root_c12 : ACode := .seq trees_Root_c5 trees_Root_c11
def trees_Root_c13 : ACode := .seq (.reg trees_Root_r0) trees_Root_c12
theorem trees_Root_ok : cFn TC 29 = some (13, [.c 2 true 32], trees_Root_c13) := by kernel_rfl

@[go_sem] def trees_Node_r0 : List AIns := [
  ⟨some 2, none, .no, .box (.t 0)⟩,
  ⟨some 3, none, .no, .box (.t 1)⟩,
  ⟨some 4, none, .no, .alloc [(.int .u8 (0)), (.int .u8 (0)), (.int .u8 (0)), (.int .u8 (0)), (.int .u8 (0)), (.int .u8 (0)), (.int .u8 (0)), (.int .u8 (0)), (.int .u8 (0)), (.int .u8 (0)), (.int .u8 (0)), (.int .u8 (0)), (.int .u8 (0)), (.int .u8 (0)), (.int .u8 (0)), (.int .u8 (0)), (.int .u8 (0)), (.int .u8 (0)), (.int .u8 (0)), (.int .u8 (0)), (.int .u8 (0)), (.int .u8 (0)), (.int .u8 (0)), (.int .u8 (0)), (.int .u8 (0)), (.int .u8 (0)), (.int .u8 (0)), (.int .u8 (0)), (.int .u8 (0)), (.int .u8 (0)), (.int .u8 (0)), (.int .u8 (0))]⟩]
@[go_sem] def trees_Node_r1 : List AIns := [
  ⟨some 5, none, .rd, .load true 32 (.t 2)⟩,
  ⟨some 6, none, .ef, .call (.v (.fn 112 [])) [(.t 5)]⟩,
  ⟨some 7, none, .no, .bin .add .none (.v (.str [1])) (.t 6)⟩,
  ⟨some 8, none, .rd, .load true 32 (.t 3)⟩,
  ⟨some 9, none, .no, .call (.v (.fn 112 [])) [(.t 8)]⟩,
  ⟨some 10, none, .no, .bin .add .none (.t 7) (.t 9)⟩,
  ⟨some 11, none, .no, .call (.v (.fn 95 [])) [(.t 10)]⟩,
  ⟨none, none, .no, .store 32 (.t 4) (.t 11)⟩]
def trees_Node_c2 : ACode := .seq (.reg trees_Node_r1) .ret
def trees_Node_c3 : ACode := .seq (.reg trees_Node_r0) trees_Node_c2
theorem trees_Node_ok : cFn TC 81 = some (12, [.c 4 true 32], trees_Node_c3) := by kernel_rfl

@[go_sem] def trees_Split_r0 : List AIns := [
  ⟨some 2, none, .no, .mv (.v (.int .i64 (0)))⟩]
@[go_sem] def trees_Split_r1 : List AIns := [
  ⟨some 4, none, .no, .mv (.t 0)⟩,
  ⟨some 5, none, .no, .bin .lss .none (.t 4) (.v (.int .i64 (2)))⟩]
@[go_sem] def trees_Split_r2 : List AIns := [
  ⟨some 2, none, .no, .mv (.v (.int .i64 (0)))⟩]
def trees_Split_c3 : ACode := .seq (.reg trees_Split_r2) .ret
def trees_Split_c4 : ACode := .cond (.t 5) trees_Split_c3 .skip
def trees_Split_c5 : ACode := .seq (.reg trees_Split_r1) trees_Split_c4
@[go_sem] def trees_Split_r6 : List AIns := [
  ⟨some 3, none, .no, .mv (.v (.int .i64 (1)))⟩]
@[go_sem] def trees_Split_r7 : List AIns := [
  ⟨some 6, none, .no, .mv (.t 3)⟩,
  ⟨some 7, none, .no, .mv (.t 0)⟩,
  ⟨some 8, none, .no, .mv (.t 3)⟩,
  ⟨some 9, none, .no, .bin .sub .none (.t 7) (.t 8)⟩,
  ⟨some 10, none, .no, .bin .lss .none (.t 6) (.t 9)⟩]
def trees_Split_c8 : ACode := .cond (.t 10) .skip (.exit 0)
def trees_Split_c9 : ACode := .seq (.reg trees_Split_r7) trees_Split_c8
@[go_sem] def trees_Split_r10 : List AIns := [
  ⟨some 11, none, .no, .mv (.t 3)⟩,
  ⟨some 12, none, .no, .bin .mul .none (.t 11) (.v (.int .i64 (2)))⟩,
  ⟨some 3, none, .no, .mv (.t 12)⟩]
def trees_Split_c11 : ACode := .block 1 (.reg trees_Split_r10)
def trees_Split_c12 : ACode := .seq trees_Split_c9 trees_Split_c11
def trees_Split_c13 : ACode := .loop trees_Split_c12
@[go_sem] def trees_Split_r14 : List AIns := [
  ⟨some 13, none, .no, .mv (.t 3)⟩,
  ⟨some 2, none, .no, .mv (.t 13)⟩]
def trees_Split_c15 : ACode := .seq (.reg trees_Split_r14) .ret
def trees_Split_c16 : ACode := .seq (.block 0 trees_Split_c13) trees_Split_c15
def trees_Split_c17 : ACode := .seq (.reg trees_Split_r6) trees_Split_c16
def trees_Split_c18 : ACode := .seq trees_Split_c5 trees_Split_c17
def trees_Split_c19 : ACode := .seq (.reg trees_Split_r0) trees_Split_c18
theorem trees_Split_ok : cFn TC 97 = some (14, [.t 2], trees_Split_c19) := by kernel_rfl

@[go_sem] def trees_Root_1_r0 : List AIns := [
  ⟨some 6, none, .no, .alloc [(.int .u8 (0)), (.int .u8 (0)), (.int .u8 (0)), (.int .u8 (0)), (.int .u8 (0)), (.int .u8 (0)), (.int .u8 (0)), (.int .u8 (0)), (.int .u8 (0)), (.int .u8 (0)), (.int .u8 (0)), (.int .u8 (0)), (.int .u8 (0)), (.int .u8 (0)), (.int .u8 (0)), (.int .u8 (0)), (.int .u8 (0)), (.int .u8 (0)), (.int .u8 (0)), (.int .u8 (0)), (.int .u8 (0)), (.int .u8 (0)), (.int .u8 (0)), (.int .u8 (0)), (.int .u8 (0)), (.int .u8 (0)), (.int .u8 (0)), (.int .u8 (0)), (.int .u8 (0)), (.int .u8 (0)), (.int .u8 (0)), (.int .u8 (0))]⟩]
@[go_sem] def trees_Root_1_r1 : List AIns := [
  ⟨some 8, none, .no, .mv (.t 1)⟩,
  ⟨some 9, none, .no, .mv (.t 0)⟩,
  ⟨some 10, none, .no, .bin .sub .none (.t 8) (.t 9)⟩,
  ⟨some 11, none, .no, .call (.v (.fn 97 [])) [(.t 10)]⟩,
  ⟨some 7, none, .no, .mv (.t 11)⟩]
@[go_sem] def trees_Root_1_r2 : List AIns := [
  ⟨some 12, none, .no, .mv (.t 7)⟩,
  ⟨some 13, none, .no, .bin .eql .none (.t 12) (.v (.int .i64 (0)))⟩]
@[go_sem] def trees_Root_1_r3 : List AIns := [
  ⟨some 14, none, .no, .load false 1 (.t 2)⟩,
  ⟨some 15, none, .no, .mv (.t 0)⟩,
  ⟨some 16, none, .no, .iaSl 32 (.t 14) (.t 15)⟩,
  ⟨some 17, none, .no, .load true 32 (.t 16)⟩,
  ⟨none, none, .no, .store 32 (.t 6) (.t 17)⟩]
def trees_Root_1_c4 : ACode := .seq (.reg trees_Root_1_r3) .ret
def trees_Root_1_c5 : ACode := .cond (.t 13) trees_Root_1_c4 .skip
def trees_Root_1_c6 : ACode := .seq (.reg trees_Root_1_r2) trees_Root_1_c5
@[go_sem] def trees_Root_1_r7 : List AIns := [
  ⟨some 18, none, .rd, .load false 1 (.t 3)⟩,
  ⟨some 19, none, .no, .mv (.t 0)⟩,
  ⟨some 20, none, .no, .mv (.t 0)⟩,
  ⟨some 21, none, .no, .mv (.t 7)⟩,
  ⟨some 22, none, .no, .bin .add .none (.t 20) (.t 21)⟩,
  ⟨some 23, none, .ef, .call (.t 18) [(.t 19), (.t 22)]⟩,
  ⟨some 24, none, .rd, .load false 1 (.t 3)⟩,
  ⟨some 25, none, .no, .mv (.t 0)⟩,
  ⟨some 26, none, .no, .mv (.t 7)⟩,
  ⟨some 27, none, .no, .bin .add .none (.t 25) (.t 26)⟩,
  ⟨some 28, none, .no, .mv (.t 1)⟩,
  ⟨some 29, none, .no, .call (.t 24) [(.t 27), (.t 28)]⟩,
  ⟨some 30, none, .no, .call (.v (.fn 81 [])) [(.t 23), (.t 29)]⟩,
  ⟨none, none, .no, .store 32 (.t 6) (.t 30)⟩]
def trees_Root_1_c8 : ACode := .seq (.reg trees_Root_1_r7) .ret
def trees_Root_1_c9 : ACode := .seq trees_Root_1_c6 trees_Root_1_c8
def trees_Root_1_c10 : ACode := .seq (.reg trees_Root_1_r1) trees_Root_1_c9
def trees_Root_1_c11 : ACode := .seq (.reg trees_Root_1_r0) trees_Root_1_c10
theorem trees_Root_1_ok : cFn TC 96 = some (31, [.c 6 true 32], trees_Root_1_c11) := by kernel_rfl

@[go_sem] def speculumref04_Node_r0 : List AIns := [
  ⟨some 2, none, .no, .box (.t 0)⟩,
  ⟨some 3, none, .no, .box (.t 1)⟩,
  ⟨some 4, none, .no, .alloc [(.int .u8 (0)), (.int .u8 (0)), (.int .u8 (0)), (.int .u8 (0)), (.int .u8 (0)), (.int .u8 (0)), (.int .u8 (0)), (.int .u8 (0)), (.int .u8 (0)), (.int .u8 (0)), (.int .u8 (0)), (.int .u8 (0)), (.int .u8 (0)), (.int .u8 (0)), (.int .u8 (0)), (.int .u8 (0)), (.int .u8 (0)), (.int .u8 (0)), (.int .u8 (0)), (.int .u8 (0)), (.int .u8 (0)), (.int .u8 (0)), (.int .u8 (0)), (.int .u8 (0)), (.int .u8 (0)), (.int .u8 (0)), (.int .u8 (0)), (.int .u8 (0)), (.int .u8 (0)), (.int .u8 (0)), (.int .u8 (0)), (.int .u8 (0))]⟩]
@[go_sem] def speculumref04_Node_r1 : List AIns := [
  ⟨some 5, none, .rd, .load true 32 (.t 2)⟩,
  ⟨some 6, none, .ef, .call (.v (.fn 99 [])) [(.t 5)]⟩,
  ⟨some 7, none, .no, .bin .add .none (.v (.str [1])) (.t 6)⟩,
  ⟨some 8, none, .rd, .load true 32 (.t 3)⟩,
  ⟨some 9, none, .no, .call (.v (.fn 99 [])) [(.t 8)]⟩,
  ⟨some 10, none, .no, .bin .add .none (.t 7) (.t 9)⟩,
  ⟨some 11, none, .no, .call (.v (.fn 88 [])) [(.t 10)]⟩,
  ⟨none, none, .no, .store 32 (.t 4) (.t 11)⟩]
def speculumref04_Node_c2 : ACode := .seq (.reg speculumref04_Node_r1) .ret
def speculumref04_Node_c3 : ACode := .seq (.reg speculumref04_Node_r0) speculumref04_Node_c2
theorem speculumref04_Node_ok : cFn TC 89 = some (12, [.c 4 true 32], speculumref04_Node_c3) := by kernel_rfl

@[go_sem] def speculumref03_Hash_r0 : List AIns := [
  ⟨some 1, none, .no, .box (.t 0)⟩,
  ⟨some 2, none, .no, .mv (.v (.str []))⟩]
@[go_sem] def speculumref03_Hash_r1 : List AIns := [
  ⟨some 3, none, .no, .mv (.v .nilsl)⟩]
@[go_sem] def speculumref03_Hash_r2 : List AIns := [
  ⟨some 4, none, .no, .mv (.v (.int .i64 (0)))⟩]
@[go_sem] def speculumref03_Hash_r3 : List AIns := [
  ⟨some 5, none, .no, .mv (.t 4)⟩,
  ⟨some 6, none, .no, .bin .lss .none (.t 5) (.v (.int .i64 (32)))⟩]
def speculumref03_Hash_c4 : ACode := .cond (.t 6) .skip (.exit 0)
def speculumref03_Hash_c5 : ACode := .seq (.reg speculumref03_Hash_r3) speculumref03_Hash_c4
@[go_sem] def speculumref03_Hash_r6 : List AIns := [
  ⟨some 9, none, .no, .mv (.t 3)⟩,
  ⟨some 10, none, .no, .mv (.t 4)⟩,
  ⟨some 11, none, .no, .iaArr 32 1 (.t 1) (.t 10)⟩,
  ⟨some 12, none, .no, .load false 1 (.t 11)⟩,
  ⟨some 13, none, .no, .lit 1 [(.t 12)]⟩,
  ⟨some 14, none, .no, .appB (.t 9) (.t 13)⟩,
  ⟨some 3, none, .no, .mv (.t 14)⟩]
@[go_sem] def speculumref03_Hash_r7 : List AIns := [
  ⟨some 7, none, .no, .mv (.t 4)⟩,
  ⟨some 8, none, .no, .bin .add .none (.t 7) (.v (.int .i64 (1)))⟩,
  ⟨some 4, none, .no, .mv (.t 8)⟩]
def speculumref03_Hash_c8 : ACode := .seq (.block 1 (.reg speculumref03_Hash_r6)) (.reg speculumref03_Hash_r7)
def speculumref03_Hash_c9 : ACode := .seq speculumref03_Hash_c5 speculumref03_Hash_c8
def speculumref03_Hash_c10 : ACode := .loop speculumref03_Hash_c9
def speculumref03_Hash_c11 : ACode := .block 0 speculumref03_Hash_c10
def speculumref03_Hash_c12 : ACode := .seq (.reg speculumref03_Hash_r2) speculumref03_Hash_c11
@[go_sem] def speculumref03_Hash_r13 : List AIns := [
  ⟨some 15, none, .no, .mv (.t 3)⟩,
  ⟨some 16, none, .no, .conv .str (.t 15)⟩,
  ⟨some 2, none, .no, .mv (.t 16)⟩]
def speculumref03_Hash_c14 : ACode := .seq (.reg speculumref03_Hash_r13) .ret
def speculumref03_Hash_c15 : ACode := .seq speculumref03_Hash_c12 speculumref03_Hash_c14
def speculumref03_Hash_c16 : ACode := .seq (.reg speculumref03_Hash_r1) speculumref03_Hash_c15
def speculumref03_Hash_c17 : ACode := .seq (.reg speculumref03_Hash_r0) speculumref03_Hash_c16
theorem speculumref03_Hash_ok : cFn TC 99 = some (17, [.t 2], speculumref03_Hash_c17) := by kernel_rfl

@[go_sem] def codec_Hash_r0 : List AIns := [
  ⟨some 1, none, .no, .box (.t 0)⟩,
  ⟨some 2, none, .no, .mv (.v (.str []))⟩]
@[go_sem] def codec_Hash_r1 : List AIns := [
  ⟨some 3, none, .no, .slice (.arr 32 1) (.t 1) none none none⟩,
  ⟨some 4, none, .no, .conv .str (.t 3)⟩,
  ⟨some 2, none, .no, .mv (.t 4)⟩]
def codec_Hash_c2 : ACode := .seq (.reg codec_Hash_r1) .ret
def codec_Hash_c3 : ACode := .seq (.reg codec_Hash_r0) codec_Hash_c2
theorem codec_Hash_ok : cFn TC 112 = some (5, [.t 2], codec_Hash_c3) := by kernel_rfl

end Am
end Go.Proofs.YthgcooppjhcgcaaDoor
end
section
set_option linter.unusedSimpArgs false
set_option linter.unusedVariables false
/- Trees: contracts: a hash's bytes, Node. -/
set_option linter.unusedSimpArgs false
set_option linter.unusedVariables false
namespace Go.Proofs.YthgcooppjhcgcaaDoor
namespace Am
theorem shaS_len (s : List UInt8) : (shaS s).length = 32 := outV_len _
def nodeS (a b : List UInt8) : List UInt8 := shaS (1 :: (a ++ b))
theorem nodeS_len (a b : List UInt8) : (nodeS a b).length = 32 := shaS_len _
theorem chunk_C : ∀ (l : List UInt8), chunk 1 l.length (byteEsC l) = byteEs l
  | [] => rfl
  | b :: l => by
    have := chunk_C l
    simp only [byteEsC, byteEs] at this
    simp [byteEsC, byteEs, chunk, B8] at this ⊢
    exact this
theorem codec_Hash_to (σ : Store) (h : List UInt8) (hl : h.length = 32) : ACallsTo TC 112 [.agg (byteEsC h)] σ (.str h) σ := by
  refine ACallsTo.of_body codec_Hash_ok (by simp) fun hw _ => ?_
  have h1 := byteEsC_len h
  have hc := chunk_C h
  rw [hl] at h1 hc
  repeat' (first | refine SWp.seq ?_ | refine SWp.block ?_ | refine SWp.scope ?_ | refine SWp.condT rfl ?_ | refine SWp.condF rfl ?_ | (refine SWp.condD rfl (fun ht => ?_) (fun ht => ?_) <;> try (exfalso; omega)) | ((first | refine SWp.reg ?_ | refine SWp.skip ?_ | refine SWp.exit ?_ | refine SWp.ret ?_ | ((first | apply splitG | apply splitGB | apply splitR | apply splitRB | apply splitE | apply splitEB | apply splitC | apply splitCB) <;> intro ht)); all_goals try simp (disch := first | omega | (simp only [lens]; first | done | omega)) only [go_sem, Nat.reduceEqDiff, Nat.reduceBEq, Nat.reduceAdd, Nat.reduceMul, Nat.reduceSub, Nat.reduceLeDiff, Int.reduceToNat, Int.reducePow, h1, hc]))
  exact DownV.pure hw (rlB_ok _ rfl)
/-- Own elements behind what was there, or none yet. -/
def OwnN (sz : Nat) (τ σ' : Store) (v : AV) (es : List (List AV)) : Prop :=
  ∃ news, σ' = τ ++ news ∧ ((es = [] ∧ v = .nilsl) ∨ ∃ j, es ≠ [] ∧ v = .sl (τ.length + j) 0 es.length none sz ∧ news[j]? = some (some es))
theorem OwnN.len {sz : Nat} {τ σ' : Store} {v : AV} {es : List (List AV)} (h : OwnN sz τ σ' v es) : rLenSl v = some (.int .i64 es.length) := by
  obtain ⟨news, rfl, ⟨rfl, rfl⟩ | ⟨j, _, rfl, h⟩⟩ := h <;> rfl
theorem OwnN.appB {sz : Nat} {τ σ' : Store} {v : AV} {es ys : List (List AV)} (h : OwnN sz τ σ' v es) : aAppB σ' v ys = aApp σ' 1 v ys := by
  obtain ⟨news, rfl, ⟨rfl, rfl⟩ | ⟨j, _, rfl, h⟩⟩ := h <;> rfl
theorem OwnN.nil {sz : Nat} {τ news : Store} : OwnN sz τ (τ ++ news) .nilsl [] := ⟨news, rfl, .inl ⟨rfl, rfl⟩⟩
theorem OwnN.ext {sz : Nat} {τ σ' : Store} {v : AV} {es : List (List AV)} (h : OwnN sz τ σ' v es) : ∃ news, σ' = τ ++ news := by
  obtain ⟨news, h, _⟩ := h; exact ⟨news, h⟩
/-- What others append behind leaves it. -/
theorem OwnN.more {sz : Nat} {τ σ' : Store} {v : AV} {es : List (List AV)} (h : OwnN sz τ σ' v es) (y : Store) : OwnN sz τ (σ' ++ y) v es := by
  obtain ⟨news, rfl, h | ⟨j, h0, rfl, h⟩⟩ := h
  · exact ⟨news ++ y, by rw [List.append_assoc], .inl h⟩
  · exact ⟨news ++ y, by rw [List.append_assoc], .inr ⟨j, h0, rfl, by rw [List.getElem?_append_left (List.getElem?_eq_some_iff.1 h).1]; exact h⟩⟩
theorem OwnN.app {sz : Nat} {τ σ' : Store} {v : AV} {es ys : List (List AV)} (h : OwnN sz τ σ' v es) (h0 : ys.length ≠ 0) (hl : es.length + ys.length ≤ 1073741824) :
    ∃ v' σ'', aApp σ' sz v ys = some (v', σ'') ∧ OwnN sz τ σ'' v' (es ++ ys) := by
  have hne : es ++ ys ≠ [] := fun e => h0 (by rw [(List.append_eq_nil_iff.1 e).2]; rfl)
  obtain ⟨news, rfl, ⟨rfl, rfl⟩ | ⟨j, _, rfl, h⟩⟩ := h
  · refine ⟨_, _, by rw [app_n, if_neg h0, if_pos (by simpa using hl)], news ++ [some ys], by rw [List.append_assoc], .inr ⟨news.length, hne, by simp, by rw [List.getElem?_append_right (Nat.le_refl _)]; simp⟩⟩
  · have hj := (List.getElem?_eq_some_iff.1 h).1
    have hg : (τ ++ news)[τ.length + j]? = some (some es) := by rw [List.getElem?_append_right (by omega), Nat.add_sub_cancel_left]; exact h
    refine ⟨.sl (τ ++ news).length 0 (es.length + ys.length) none sz, (τ ++ news).set (τ.length + j) none ++ [some (es ++ ys)], ?_, news.set j none ++ [some (es ++ ys)], ?_, .inr ⟨news.length, hne, by simp, by rw [List.getElem?_append_right (by simp)]; simp⟩⟩
    · rw [app_s, if_neg h0, hg]
      simp only
      rw [if_pos ⟨trivial, by omega, by omega⟩, if_neg (by omega), List.drop_zero, List.take_of_length_le (Nat.le_refl _)]
    · rw [List.set_append_right _ _ (by omega), Nat.add_sub_cancel_left, List.append_assoc]
theorem OwnN.sl {sz : Nat} {τ σ' : Store} {v : AV} {es : List (List AV)} (h : OwnN sz τ σ' v es) (h0 : es ≠ []) : ∃ r, v = .sl r 0 es.length none sz ∧ σ'[r]? = some (some es) ∧ τ.length ≤ r := by
  obtain ⟨news, rfl, ⟨rfl, rfl⟩ | ⟨j, _, rfl, h⟩⟩ := h
  · exact absurd rfl h0
  · exact ⟨_, rfl, by rw [List.getElem?_append_right (by omega), Nat.add_sub_cancel_left]; exact h, by omega⟩
/-- A slice that nobody writes. -/
def SlV (sz : Nat) (es : List (List AV)) (x : AV) : Prop := (x = .nilsl ∧ es = []) ∨ ∃ ex, x = .vsl sz es ex
theorem SlV.len {sz : Nat} {es : List (List AV)} {x : AV} (h : SlV sz es x) : rLenSl x = some (.int .i64 es.length) := by
  rcases h with ⟨rfl, rfl⟩ | ⟨ex, rfl⟩ <;> rfl
theorem SlV.vsl {sz : Nat} {es : List (List AV)} {x : AV} (h : SlV sz es x) (h0 : 0 < es.length) : ∃ ex, x = .vsl sz es ex := by
  rcases h with ⟨rfl, rfl⟩ | h
  · simp at h0
  · exact h
def slVal (sz : Nat) (es : List (List AV)) : AV := if es = [] then .nilsl else .vsl sz es false
theorem slVal_is (sz : Nat) (es : List (List AV)) : SlV sz es (slVal sz es) := by
  unfold slVal
  split
  · rename_i h; exact .inl ⟨rfl, h⟩
  · exact .inr ⟨false, rfl⟩
/-- A new slice for the caller: who, and the store with it. -/
def ownV (σ : Store) (sz : Nat) (es : List (List AV)) : AV := if es = [] then .nilsl else .sl σ.length 0 es.length none sz
def ownS (σ : Store) (es : List (List AV)) : Store := if es = [] then σ else σ ++ [some es]
theorem own_is (σ : Store) (sz : Nat) (es : List (List AV)) : OwnN sz σ (ownS σ es) (ownV σ sz es) es := by
  unfold ownV ownS
  by_cases h : es = []
  · rw [if_pos h, if_pos h]; exact ⟨[], by simp, .inl ⟨h, rfl⟩⟩
  · rw [if_neg h, if_neg h]; exact ⟨[some es], rfl, .inr ⟨0, h, rfl, rfl⟩⟩
/-- At a function's end it is a value .. -/
theorem OwnN.froze {sz : Nat} {σ σ' : Store} {v : AV} {es : List (List AV)} (hw : Wf σ.length σ) (h : OwnN sz σ σ' v es) (hr : RLss σ.length es) : DownV σ.length v σ' (slVal sz es) σ := by
  unfold slVal
  obtain ⟨news, rfl, ⟨rfl, rfl⟩ | ⟨j, h0, rfl, h⟩⟩ := h
  · rw [if_pos rfl]; exact DownV.pure hw (rlB_ok _ rfl)
  · have e : (es.drop 0).take es.length = es := by rw [List.drop_zero, List.take_of_length_le (Nat.le_refl _)]
    have := DownV.froze (off := 0) (len := es.length) (esz := sz) (lim := none) hw h (by omega) (by rw [e]; exact hr)
    rw [e] at this
    rw [if_neg h0]; exact this
/-- .. or its caller's own. -/
theorem OwnN.own {sz : Nat} {σ σ' : Store} {v : AV} {es : List (List AV)} (hw : Wf σ.length σ) (h : OwnN sz σ σ' v es) (hr : RLss σ.length es) : DownV σ.length v σ' (ownV σ sz es) (ownS σ es) := by
  unfold ownV ownS
  obtain ⟨news, rfl, ⟨rfl, rfl⟩ | ⟨j, h0, rfl, h⟩⟩ := h
  · rw [if_pos rfl, if_pos rfl]; exact DownV.pure hw (rlB_ok _ rfl)
  · rw [if_neg h0, if_neg h0]; exact DownV.own (off := 0) (len := es.length) (esz := sz) (lim := none) hw h hr
theorem byteEsC_get {l : List UInt8} {i : Nat} (h : i < l.length) : (byteEsC l)[i]? = some (.int .u8 (l.getD i 0).toNat) := by
  simp [byteEsC, List.getD_eq_getElem?_getD, List.getElem?_eq_getElem h]
set_option maxHeartbeats 4000000 in
theorem ref_Hash_to (σ : Store) (h : List UInt8) (hl : h.length = 32) : ACallsTo TC 99 [.agg (byteEsC h)] σ (.str h) σ := by
  refine ACallsTo.of_body speculumref03_Hash_ok (by simp) fun hw _ => ?_
  have h1 := byteEsC_len h
  rw [hl] at h1
  repeat' (first | refine SWp.seq ?_ | refine SWp.block ?_ | refine SWp.scope ?_ | refine SWp.condT rfl ?_ | refine SWp.condF rfl ?_ | (refine SWp.condD rfl (fun ht => ?_) (fun ht => ?_) <;> try (exfalso; omega)) | ((first | refine SWp.reg ?_ | refine SWp.skip ?_ | refine SWp.exit ?_ | refine SWp.ret ?_ | ((first | apply splitG | apply splitGB | apply splitR | apply splitRB | apply splitE | apply splitEB | apply splitC | apply splitCB) <;> intro ht)); all_goals try simp (disch := first | omega | (simp only [lens]; first | done | omega)) only [go_sem, Nat.reduceEqDiff, Nat.reduceBEq, Nat.reduceAdd, Nat.reduceMul, Nat.reduceSub, Nat.reduceLeDiff, Int.reduceToNat, Int.reducePow, h1]))
  refine SWp.loop (fun m ρ σ' => ∃ i : Nat, m + i = 32 ∧ ρ 1 = .ptr σ.length 0 0 ∧ ρ 4 = .int .i64 i ∧ OwnN 1 (σ ++ [some [byteEsC h]]) σ' (ρ 3) (byteEs (h.take i))) 32 ?_ ?_
  · refine ⟨0, by omega, by simp (disch := first | omega | (simp only [lens]; first | done | omega)) only [go_sem, Nat.reduceEqDiff, Nat.reduceBEq, Nat.reduceAdd, Nat.reduceMul, Nat.reduceSub, Nat.reduceLeDiff, Int.reduceToNat, Int.reducePow], by simp (disch := first | omega | (simp only [lens]; first | done | omega)) only [go_sem, Nat.reduceEqDiff, Nat.reduceBEq, Nat.reduceAdd, Nat.reduceMul, Nat.reduceSub, Nat.reduceLeDiff, Int.reduceToNat, Int.reducePow]; rfl, ?_⟩
    simp (disch := first | omega | (simp only [lens]; first | done | omega)) only [go_sem, Nat.reduceEqDiff, Nat.reduceBEq, Nat.reduceAdd, Nat.reduceMul, Nat.reduceSub, Nat.reduceLeDiff, Int.reduceToNat, Int.reducePow]
    have := OwnN.nil (sz := 1) (τ := σ ++ [some [byteEsC h]]) (news := [])
    rwa [List.append_nil] at this
  · rintro m ρ σ' ⟨i, hm, q1, q4, hO⟩
    by_cases hi : i < 32
    · have hg := byteEsC_get (l := h) (i := i) (by omega)
      have hs : h.take (i + 1) = h.take i ++ [h.getD i 0] := by
        rw [List.take_add_one, List.getD_eq_getElem?_getD, List.getElem?_eq_getElem (by omega)]; rfl
      obtain ⟨v', σ2, he, hO2⟩ := hO.app (ys := byteEs [h.getD i 0]) (by simp [byteEs]) (by simp [byteEs_len]; omega)
      have ho : σ'[σ.length]? = some (some [byteEsC h]) := by
        obtain ⟨news, rfl, _⟩ := hO
        rw [List.append_assoc, List.getElem?_append_right (Nat.le_refl _), Nat.sub_self]; rfl
      have hb : byteEs [h.getD i 0] = [[.int .u8 (h.getD i 0).toNat]] := rfl
      rw [hb] at he
      rw [← hO.appB] at he
      generalize h.getD i 0 = x at *
      generalize hv : ρ 3 = v at *
      repeat' (first | refine SWp.seq ?_ | refine SWp.block ?_ | refine SWp.scope ?_ | refine SWp.condT rfl ?_ | refine SWp.condF rfl ?_ | (refine SWp.condD rfl (fun ht => ?_) (fun ht => ?_) <;> try (exfalso; omega)) | ((first | refine SWp.reg ?_ | refine SWp.skip ?_ | refine SWp.exit ?_ | refine SWp.ret ?_ | ((first | apply splitG | apply splitGB | apply splitR | apply splitRB | apply splitE | apply splitEB | apply splitC | apply splitCB) <;> intro ht)); all_goals try simp (disch := first | omega | (simp only [lens]; first | done | omega)) only [go_sem, Nat.reduceEqDiff, Nat.reduceBEq, Nat.reduceAdd, Nat.reduceMul, Nat.reduceSub, Nat.reduceLeDiff, Int.reduceToNat, Int.reducePow, q1, q4, hv, ho, h1, hg, he]))
      refine ⟨32 - (i + 1), by omega, i + 1, by omega, by simp, ?_⟩
      rw [hs, ← byteEs_app]
      exact hO2
    · obtain rfl : i = 32 := by omega
      rw [List.take_of_length_le (by omega)] at hO
      obtain ⟨r, q3, hg, _⟩ := hO.sl (by intro e; have := byteEs_len h; rw [e] at this; simp at this; omega)
      rw [byteEs_len] at q3
      repeat' (first | refine SWp.seq ?_ | refine SWp.block ?_ | refine SWp.scope ?_ | refine SWp.condT rfl ?_ | refine SWp.condF rfl ?_ | (refine SWp.condD rfl (fun ht => ?_) (fun ht => ?_) <;> try (exfalso; omega)) | ((first | refine SWp.reg ?_ | refine SWp.skip ?_ | refine SWp.exit ?_ | refine SWp.ret ?_ | ((first | apply splitG | apply splitGB | apply splitR | apply splitRB | apply splitE | apply splitEB | apply splitC | apply splitCB) <;> intro ht)); all_goals try simp (disch := first | omega | (simp only [lens]; first | done | omega)) only [go_sem, Nat.reduceEqDiff, Nat.reduceBEq, Nat.reduceAdd, Nat.reduceMul, Nat.reduceSub, Nat.reduceLeDiff, Int.reduceToNat, Int.reducePow, q1, q4, q3, hg]))
      obtain ⟨news, rfl, _⟩ := hO
      rw [List.append_assoc]
      exact DownV.pure hw (rlB_ok _ rfl)
theorem trees_Node_to (σ : Store) (a b : List UInt8) (ha : a.length = 32) (hb : b.length = 32) : ACallsTo TC 81 [.agg (byteEsC a), .agg (byteEsC b)] σ (.agg (byteEsC (nodeS a b))) σ := by
  refine ACallsTo.of_body trees_Node_ok (by simp) fun hw _ => ?_
  have h1 := byteEsC_len a
  have h2 := byteEsC_len b
  have h3 := byteEsC_len (nodeS a b)
  rw [ha] at h1
  rw [hb] at h2
  rw [nodeS_len] at h3
  obtain ⟨n, hn⟩ : ∃ n, n = nodeS a b := ⟨_, rfl⟩
  have hs : ∀ σ, ACallsTo TC 95 [.str (1 :: (a ++ b))] σ (.agg (byteEsC n)) σ := fun σ => by rw [hn]; exact sha_Sum_to σ _ (by simp; omega)
  rw [← hn] at h3 ⊢
  repeat' (first | refine SWp.seq ?_ | refine SWp.block ?_ | refine SWp.scope ?_ | refine SWp.condT rfl ?_ | refine SWp.condF rfl ?_ | (refine SWp.condD rfl (fun ht => ?_) (fun ht => ?_) <;> try (exfalso; omega)) | ((first | refine SWp.regS ?_ | refine SWp.skip ?_ | refine SWp.exit ?_ | refine SWp.ret ?_ | (apply callW.mk_pu; (first | exact (fun _ => codec_Hash_to _ _ ha) | exact (fun _ => codec_Hash_to _ _ hb) | exact (fun _ => hs _))) | (apply callW.any; (first | exact (codec_Hash_to _ _ ha) | exact (codec_Hash_to _ _ hb) | exact (hs _))) | ((first | apply splitG | apply splitGB | apply splitR | apply splitRB | apply splitE | apply splitEB | apply splitC | apply splitCB) <;> intro ht)); all_goals try simp (disch := first | omega | (simp only [lens]; first | done | omega)) only [go_sem, Nat.reduceEqDiff, Nat.reduceBEq, Nat.reduceAdd, Nat.reduceMul, Nat.reduceSub, Nat.reduceLeDiff, Int.reduceToNat, Int.reducePow, h1, h2, h3]))
  exact DownV.pure hw (rl_agg (rl_bytes _))
theorem ref_Node_to (σ : Store) (a b : List UInt8) (ha : a.length = 32) (hb : b.length = 32) : ACallsTo TC 89 [.agg (byteEsC a), .agg (byteEsC b)] σ (.agg (byteEsC (nodeS a b))) σ := by
  refine ACallsTo.of_body speculumref04_Node_ok (by simp) fun hw _ => ?_
  have h1 := byteEsC_len a
  have h2 := byteEsC_len b
  have h3 := byteEsC_len (nodeS a b)
  rw [ha] at h1
  rw [hb] at h2
  rw [nodeS_len] at h3
  obtain ⟨n, hn⟩ : ∃ n, n = nodeS a b := ⟨_, rfl⟩
  have hs : ∀ σ, ACallsTo TC 88 [.str (1 :: (a ++ b))] σ (.agg (byteEsC n)) σ := fun σ => by rw [hn]; exact ref_Sum_to σ _ (by simp; omega)
  rw [← hn] at h3 ⊢
  repeat' (first | refine SWp.seq ?_ | refine SWp.block ?_ | refine SWp.scope ?_ | refine SWp.condT rfl ?_ | refine SWp.condF rfl ?_ | (refine SWp.condD rfl (fun ht => ?_) (fun ht => ?_) <;> try (exfalso; omega)) | ((first | refine SWp.regS ?_ | refine SWp.skip ?_ | refine SWp.exit ?_ | refine SWp.ret ?_ | (apply callW.mk_pu; (first | exact (fun _ => ref_Hash_to _ _ ha) | exact (fun _ => ref_Hash_to _ _ hb) | exact (fun _ => hs _))) | (apply callW.any; (first | exact (ref_Hash_to _ _ ha) | exact (ref_Hash_to _ _ hb) | exact (hs _))) | ((first | apply splitG | apply splitGB | apply splitR | apply splitRB | apply splitE | apply splitEB | apply splitC | apply splitCB) <;> intro ht)); all_goals try simp (disch := first | omega | (simp only [lens]; first | done | omega)) only [go_sem, Nat.reduceEqDiff, Nat.reduceBEq, Nat.reduceAdd, Nat.reduceMul, Nat.reduceSub, Nat.reduceLeDiff, Int.reduceToNat, Int.reducePow, h1, h2, h3]))
  exact DownV.pure hw (rl_agg (rl_bytes _))
end Am
end Go.Proofs.YthgcooppjhcgcaaDoor
end
section
set_option linter.unusedSimpArgs false
set_option linter.unusedVariables false
/- Trees: contracts: Split, Root. -/
set_option linter.unusedSimpArgs false
set_option linter.unusedVariables false
namespace Go.Proofs.YthgcooppjhcgcaaDoor
namespace Am
def splitS (n : Nat) : Nat := if n < 2 then 0 else 2 ^ Nat.log2 (n - 1)
theorem split_spec {n : Nat} (h : 2 ≤ n) : splitS n < n ∧ n ≤ 2 * splitS n ∧ 0 < splitS n := by
  unfold splitS
  rw [if_neg (by omega)]
  have h1 := Nat.log2_self_le (n := n - 1) (by omega)
  have h2 := Nat.lt_log2_self (n := n - 1)
  rw [Nat.pow_succ] at h2
  have h3 : 0 < 2 ^ Nat.log2 (n - 1) := Nat.pow_pos (by decide)
  omega
theorem split_uniq {n j : Nat} (h1 : 2 ^ j < n) (h2 : n ≤ 2 ^ (j + 1)) : splitS n = 2 ^ j := by
  have h3 : 0 < 2 ^ j := Nat.pow_pos (by decide)
  unfold splitS
  rw [if_neg (by omega)]
  have h4 := Nat.log2_self_le (n := n - 1) (by omega)
  have h5 := Nat.lt_log2_self (n := n - 1)
  congr 1
  generalize Nat.log2 (n - 1) = i at *
  have a1 : 2 ^ j < 2 ^ (i + 1) := by omega
  have a2 : 2 ^ i < 2 ^ (j + 1) := by omega
  have b1 := (Nat.pow_lt_pow_iff_right (by decide : 1 < 2)).1 a1
  have b2 := (Nat.pow_lt_pow_iff_right (by decide : 1 < 2)).1 a2
  omega
theorem trees_Split_to (σ : Store) (n : Nat) (h : n < 1000000000000) : ACallsTo TC 97 [.int .i64 n] σ (.int .i64 (splitS n)) σ := by
  refine ACallsTo.of_body trees_Split_ok (by simp) fun hw _ => ?_
  by_cases h2 : n < 2
  · have e : splitS n = 0 := by unfold splitS; rw [if_pos h2]
    rw [e]
    repeat' (first | refine SWp.seq ?_ | refine SWp.block ?_ | refine SWp.scope ?_ | refine SWp.condT rfl ?_ | refine SWp.condF rfl ?_ | (refine SWp.condD rfl (fun ht => ?_) (fun ht => ?_) <;> try (exfalso; omega)) | ((first | refine SWp.reg ?_ | refine SWp.skip ?_ | refine SWp.exit ?_ | refine SWp.ret ?_ | ((first | apply splitG | apply splitGB | apply splitR | apply splitRB | apply splitE | apply splitEB | apply splitC | apply splitCB) <;> intro ht)); all_goals try simp (disch := first | omega | (simp only [lens]; first | done | omega)) only [go_sem, Nat.reduceEqDiff, Nat.reduceBEq, Nat.reduceAdd, Nat.reduceMul, Nat.reduceSub, Nat.reduceLeDiff, Int.reduceToNat, Int.reducePow]))
    exact DownV.same hw (rlB_ok _ rfl)
  · repeat' (first | refine SWp.seq ?_ | refine SWp.block ?_ | refine SWp.scope ?_ | refine SWp.condT rfl ?_ | refine SWp.condF rfl ?_ | (refine SWp.condD rfl (fun ht => ?_) (fun ht => ?_) <;> try (exfalso; omega)) | ((first | refine SWp.reg ?_ | refine SWp.skip ?_ | refine SWp.exit ?_ | refine SWp.ret ?_ | ((first | apply splitG | apply splitGB | apply splitR | apply splitRB | apply splitE | apply splitEB | apply splitC | apply splitCB) <;> intro ht)); all_goals try simp (disch := first | omega | (simp only [lens]; first | done | omega)) only [go_sem, Nat.reduceEqDiff, Nat.reduceBEq, Nat.reduceAdd, Nat.reduceMul, Nat.reduceSub, Nat.reduceLeDiff, Int.reduceToNat, Int.reducePow]))
    refine SWp.loop (fun m ρ σ' => ∃ j : Nat, m = n - 2 ^ j ∧ 2 ^ j < n ∧ ρ 0 = .int .i64 n ∧ ρ 3 = .int .i64 ((2 ^ j : Nat) : Int) ∧ σ' = σ) (n - 1) ?_ ?_
    · exact ⟨0, rfl, by omega, by simp (disch := first | omega | (simp only [lens]; first | done | omega)) only [go_sem, Nat.reduceEqDiff, Nat.reduceBEq, Nat.reduceAdd, Nat.reduceMul, Nat.reduceSub, Nat.reduceLeDiff, Int.reduceToNat, Int.reducePow], by simp (disch := first | omega | (simp only [lens]; first | done | omega)) only [go_sem, Nat.reduceEqDiff, Nat.reduceBEq, Nat.reduceAdd, Nat.reduceMul, Nat.reduceSub, Nat.reduceLeDiff, Int.reduceToNat, Int.reducePow]; rfl, rfl⟩
    · rintro m ρ σ' ⟨j, hm, hj, q0, q3, rfl⟩
      have hp : 0 < 2 ^ j := Nat.pow_pos (by decide)
      have hs : 2 ^ (j + 1) = 2 ^ j * 2 := Nat.pow_succ ..
      generalize hk : 2 ^ j = k at *
      by_cases hc : (k : Int) < n - k
      · repeat' (first | refine SWp.seq ?_ | refine SWp.block ?_ | refine SWp.scope ?_ | refine SWp.condT rfl ?_ | refine SWp.condF rfl ?_ | (refine SWp.condD rfl (fun ht => ?_) (fun ht => ?_) <;> try (exfalso; omega)) | ((first | refine SWp.reg ?_ | refine SWp.skip ?_ | refine SWp.exit ?_ | refine SWp.ret ?_ | ((first | apply splitG | apply splitGB | apply splitR | apply splitRB | apply splitE | apply splitEB | apply splitC | apply splitCB) <;> intro ht)); all_goals try simp (disch := first | omega | (simp only [lens]; first | done | omega)) only [go_sem, Nat.reduceEqDiff, Nat.reduceBEq, Nat.reduceAdd, Nat.reduceMul, Nat.reduceSub, Nat.reduceLeDiff, Int.reduceToNat, Int.reducePow, q0, q3]))
        exact ⟨n - k * 2, by omega, j + 1, by rw [hs], by omega, by rw [hs]; rfl⟩
      · have e : splitS n = k := by rw [← hk]; exact split_uniq (by omega) (by omega)
        rw [e]
        repeat' (first | refine SWp.seq ?_ | refine SWp.block ?_ | refine SWp.scope ?_ | refine SWp.condT rfl ?_ | refine SWp.condF rfl ?_ | (refine SWp.condD rfl (fun ht => ?_) (fun ht => ?_) <;> try (exfalso; omega)) | ((first | refine SWp.reg ?_ | refine SWp.skip ?_ | refine SWp.exit ?_ | refine SWp.ret ?_ | ((first | apply splitG | apply splitGB | apply splitR | apply splitRB | apply splitE | apply splitEB | apply splitC | apply splitCB) <;> intro ht)); all_goals try simp (disch := first | omega | (simp only [lens]; first | done | omega)) only [go_sem, Nat.reduceEqDiff, Nat.reduceBEq, Nat.reduceAdd, Nat.reduceMul, Nat.reduceSub, Nat.reduceLeDiff, Int.reduceToNat, Int.reducePow, q0, q3]))
        exact DownV.same hw (rlB_ok _ rfl)
def rootF : Nat → List (List UInt8) → List UInt8
  | 0, _ => []
  | _ + 1, [] => shaS []
  | _ + 1, [h] => h
  | f + 1, a :: b :: l => nodeS (rootF f ((a :: b :: l).take (splitS (l.length + 2)))) (rootF f ((a :: b :: l).drop (splitS (l.length + 2))))
theorem rootF_eq : ∀ (f g : Nat) (l : List (List UInt8)), l.length < f → l.length < g → rootF f l = rootF g l
  | 0, _, _, h, _ => by omega
  | _ + 1, 0, _, _, h => by omega
  | f + 1, g + 1, [], _, _ => rfl
  | f + 1, g + 1, [_], _, _ => rfl
  | f + 1, g + 1, a :: b :: l, h, h' => by
    obtain ⟨s1, s2, s3⟩ := split_spec (n := l.length + 2) (by omega)
    simp only [List.length_cons] at h h'
    simp only [rootF]
    rw [rootF_eq f g ((a :: b :: l).take (splitS (l.length + 2))) (by rw [List.length_take]; simp; omega) (by rw [List.length_take]; simp; omega),
      rootF_eq f g ((a :: b :: l).drop (splitS (l.length + 2))) (by rw [List.length_drop]; simp; omega) (by rw [List.length_drop]; simp; omega)]
/-- The root of leaves. -/
def rootS (l : List (List UInt8)) : List UInt8 := rootF (l.length + 1) l
theorem rootS_nil : rootS [] = shaS [] := rfl
theorem rootS_two {l : List (List UInt8)} (h : 2 ≤ l.length) : rootS l = nodeS (rootS (l.take (splitS l.length))) (rootS (l.drop (splitS l.length))) := by
  match l, h with
  | a :: b :: l, _ =>
    obtain ⟨s1, s2, s3⟩ := split_spec (n := l.length + 2) (by omega)
    unfold rootS
    simp only [rootF, List.length_cons]
    congr 1
    · refine rootF_eq _ _ _ ?_ (Nat.lt_succ_self _)
      rw [List.length_take]
      simp only [List.length_cons]
      omega
    · refine rootF_eq _ _ _ ?_ (Nat.lt_succ_self _)
      rw [List.length_drop]
      simp only [List.length_cons]
      omega
def H32 (l : List (List UInt8)) : Prop := ∀ h ∈ l, h.length = 32
theorem H32.take {l : List (List UInt8)} (h : H32 l) (n : Nat) : H32 (l.take n) := fun x hx => h x (List.mem_of_mem_take hx)
theorem H32.drop {l : List (List UInt8)} (h : H32 l) (n : Nat) : H32 (l.drop n) := fun x hx => h x (List.mem_of_mem_drop hx)
theorem rootS_len {l : List (List UInt8)} (h : H32 l) : (rootS l).length = 32 := by
  match l, h with
  | [], _ => exact shaS_len _
  | [x], h => exact h x (by simp)
  | a :: b :: l, _ => rw [rootS_two (by simp)]; exact nodeS_len _ _
end Am
end Go.Proofs.YthgcooppjhcgcaaDoor
end
section
set_option linter.unusedSimpArgs false
set_option linter.unusedVariables false
/- Trees: contracts: Root. -/
set_option linter.unusedSimpArgs false
set_option linter.unusedVariables false
namespace Go.Proofs.YthgcooppjhcgcaaDoor
namespace Am
/-- Hashes as_ rows. -/
def hrows (l : List (List UInt8)) : List (List AV) := l.map byteEsC
theorem hrows_len (l : List (List UInt8)) : (hrows l).length = l.length := by simp [hrows]
theorem hrows_get {l : List (List UInt8)} {i : Nat} (h : i < l.length) : (hrows l)[i]? = some (byteEsC l[i]) := by
  simp [hrows, List.getElem?_map, List.getElem?_eq_getElem h]
theorem rlss_h {k : Nat} : ∀ (l : List (List UInt8)), RLss k (hrows l)
  | [] => by simp [hrows, RLss]
  | h :: l => by have := rlss_h (k := k) l; simp only [hrows] at this; simp [hrows, RLss, this, rl_bytes]
set_option maxHeartbeats 4000000 in
theorem Root_1_to (hs : List (List UInt8)) (hH : H32 hs) (hl : hs.length < 1000000000) (ex : Bool) (r1 r3 : Nat) :
    ∀ (d : Nat) (σ : Store) (a : Nat), 0 < d → a + d ≤ hs.length → σ[r1]? = some (some [[.vsl 32 (hrows hs) ex]]) → σ[r3]? = some (some [[.fn 96 [.ptr r1 0 0, .ptr r3 0 0]]]) →
      ACallsTo TC 96 [.int .i64 a, .int .i64 ((a + d : Nat) : Int), .ptr r1 0 0, .ptr r3 0 0] σ (.agg (byteEsC (rootS ((hs.drop a).take d)))) σ := by
  intro d
  induction d using Nat.strongRecOn with
  | _ d ih =>
    intro σ a h0 had hg1 hg3
    have hr1 := (List.getElem?_eq_some_iff.1 hg1).1
    have hr3 := (List.getElem?_eq_some_iff.1 hg3).1
    obtain ⟨L, hL⟩ : ∃ L, L = (hs.drop a).take d := ⟨_, rfl⟩
    have hLl : L.length = d := by rw [hL, List.length_take, List.length_drop]; omega
    have hLH : H32 L := by rw [hL]; exact (hH.drop a).take d
    have hn := rootS_len hLH
    have hc := byteEsC_len (rootS L)
    rw [hn] at hc
    rw [← hL]
    have hsub : ((a + d : Nat) : Int) - a = d := by omega
    by_cases h1 : d = 1
    · have e0 : splitS d = 0 := by unfold splitS; rw [if_pos (by omega)]
      have hsp := fun σ => trees_Split_to σ d (by omega)
      rw [e0] at hsp
      obtain ⟨x, hx⟩ : ∃ x, hs[a]? = some x := ⟨_, List.getElem?_eq_getElem (by omega)⟩
      have hgr : (hrows hs)[a]? = some (byteEsC x) := by simp [hrows, hx]
      have eL : rootS L = x := by
        have : L = [x] := by
          rw [hL, h1]
          apply List.ext_getElem?
          intro i
          cases i with
          | zero => simp [List.getElem?_take, List.getElem?_drop, hx]
          | succ i => simp [List.getElem?_take]
        rw [this]; rfl
      rw [eL] at hc ⊢
      have hrl := hrows_len hs
      clear eL
      generalize hrows hs = rows at *
      refine ACallsTo.of_body trees_Root_1_ok (by simp) fun hw _ => ?_
      repeat' (first | refine SWp.seq ?_ | refine SWp.block ?_ | refine SWp.scope ?_ | refine SWp.condT rfl ?_ | refine SWp.condF rfl ?_ | (refine SWp.condD rfl (fun ht => ?_) (fun ht => ?_) <;> try (exfalso; omega)) | ((first | refine SWp.reg ?_ | refine SWp.skip ?_ | refine SWp.exit ?_ | refine SWp.ret ?_ | (apply callW.mk_pu; (first | exact (fun _ => hsp _))) | (apply callW.any; (first | exact (hsp _))) | ((first | apply splitG | apply splitGB | apply splitR | apply splitRB | apply splitE | apply splitEB | apply splitC | apply splitCB) <;> intro ht)); all_goals try simp (disch := first | omega | (simp only [lens]; first | done | omega)) only [go_sem, Nat.reduceEqDiff, Nat.reduceBEq, Nat.reduceAdd, Nat.reduceMul, Nat.reduceSub, Nat.reduceLeDiff, Int.reduceToNat, Int.reducePow, hsub, hg1, hgr, hc]))
      exact DownV.pure hw (rl_agg (rl_bytes _))
    · obtain ⟨s1, s2, s3⟩ := split_spec (n := d) (by omega)
      have hsp := fun σ => trees_Split_to σ d (by omega)
      have eL := rootS_two (l := L) (by omega)
      rw [hLl] at eL
      have t1 : L.take (splitS d) = (hs.drop a).take (splitS d) := by rw [hL, List.take_take, Nat.min_eq_left (by omega)]
      have t2 : L.drop (splitS d) = (hs.drop (a + splitS d)).take (d - splitS d) := by rw [hL, List.drop_take, List.drop_drop]
      generalize hk : splitS d = k at *
      have i1 := fun y => ih k (by omega) (σ ++ y) a (by omega) (by omega) (by rw [gapp hr1]; exact hg1) (by rw [gapp hr3]; exact hg3)
      have i2 := fun y => ih (d - k) (by omega) (σ ++ y) (a + k) (by omega) (by omega) (by rw [gapp hr1]; exact hg1) (by rw [gapp hr3]; exact hg3)
      rw [← t1] at i1
      rw [← t2] at i2
      rw [show a + k + (d - k) = a + d by omega] at i2
      have n1 := rootS_len (hLH.take k)
      have n2 := rootS_len (hLH.drop k)
      have e1 : ((a : Int) + k) = ((a + k : Nat) : Int) := by omega
      rw [eL] at hc ⊢
      generalize rootS (L.take k) = A at *
      generalize rootS (L.drop k) = B at *
      have k0 : ¬ (k : Int) = 0 := by omega
      refine ACallsTo.of_body trees_Root_1_ok (by simp) fun hw _ => ?_
      repeat' (first | refine SWp.seq ?_ | refine SWp.block ?_ | refine SWp.scope ?_ | refine SWp.condT rfl ?_ | refine SWp.condF rfl ?_ | (refine SWp.condD rfl (fun ht => ?_) (fun ht => ?_) <;> try (exfalso; omega)) | ((first | refine SWp.regS ?_ | refine SWp.skip ?_ | refine SWp.exit ?_ | refine SWp.ret ?_ | (apply callW.mk_pu; (first | exact (fun _ => hsp _) | exact (fun _ => i1 _) | exact (fun _ => i2 _) | exact (fun _ => trees_Node_to _ _ _ n1 n2))) | (apply callW.any; (first | exact (hsp _) | exact (i1 _) | exact (i2 _) | exact (trees_Node_to _ _ _ n1 n2))) | ((first | apply splitG | apply splitGB | apply splitR | apply splitRB | apply splitE | apply splitEB | apply splitC | apply splitCB) <;> intro ht)); all_goals try simp (disch := first | omega | (simp only [lens]; first | done | omega)) only [go_sem, Nat.reduceEqDiff, Nat.reduceBEq, Nat.reduceAdd, Nat.reduceMul, Nat.reduceSub, Nat.reduceLeDiff, Int.reduceToNat, Int.reducePow, hsub, hg1, hg3, hc, e1]))
      exact DownV.pure hw (rl_agg (rl_bytes _))
theorem trees_Root_to (σ : Store) (hs : List (List UInt8)) (x : AV) (hx : SlV 32 (hrows hs) x) (hH : H32 hs) (hl : hs.length < 1000000000) : ACallsTo TC 29 [x] σ (.agg (byteEsC (rootS hs))) σ := by
  have hc := byteEsC_len (rootS hs)
  rw [rootS_len hH] at hc
  have hrl := hrows_len hs
  by_cases h0 : hs = []
  · subst h0
    have hx' := hx.len
    unfold rLenSl at hx'
    refine ACallsTo.of_body trees_Root_ok (by simp) fun hw _ => ?_
    rw [rootS_nil] at hc ⊢
    rcases hx with ⟨rfl, h⟩ | ⟨ex, rfl⟩
    · repeat' (first | refine SWp.seq ?_ | refine SWp.block ?_ | refine SWp.scope ?_ | refine SWp.condT rfl ?_ | refine SWp.condF rfl ?_ | (refine SWp.condD rfl (fun ht => ?_) (fun ht => ?_) <;> try (exfalso; omega)) | ((first | refine SWp.reg ?_ | refine SWp.skip ?_ | refine SWp.exit ?_ | refine SWp.ret ?_ | (apply callW.mk_pu; (first | exact (fun _ => sha_Sum_to _ [] (by simp)))) | (apply callW.any; (first | exact (sha_Sum_to _ [] (by simp)))) | ((first | apply splitG | apply splitGB | apply splitR | apply splitRB | apply splitE | apply splitEB | apply splitC | apply splitCB) <;> intro ht)); all_goals try simp (disch := first | omega | (simp only [lens]; first | done | omega)) only [go_sem, Nat.reduceEqDiff, Nat.reduceBEq, Nat.reduceAdd, Nat.reduceMul, Nat.reduceSub, Nat.reduceLeDiff, Int.reduceToNat, Int.reducePow, hc]))
      exact DownV.pure hw (rl_agg (rl_bytes _))
    · repeat' (first | refine SWp.seq ?_ | refine SWp.block ?_ | refine SWp.scope ?_ | refine SWp.condT rfl ?_ | refine SWp.condF rfl ?_ | (refine SWp.condD rfl (fun ht => ?_) (fun ht => ?_) <;> try (exfalso; omega)) | ((first | refine SWp.reg ?_ | refine SWp.skip ?_ | refine SWp.exit ?_ | refine SWp.ret ?_ | (apply callW.mk_pu; (first | exact (fun _ => sha_Sum_to _ [] (by simp)))) | (apply callW.any; (first | exact (sha_Sum_to _ [] (by simp)))) | ((first | apply splitG | apply splitGB | apply splitR | apply splitRB | apply splitE | apply splitEB | apply splitC | apply splitCB) <;> intro ht)); all_goals try simp (disch := first | omega | (simp only [lens]; first | done | omega)) only [go_sem, Nat.reduceEqDiff, Nat.reduceBEq, Nat.reduceAdd, Nat.reduceMul, Nat.reduceSub, Nat.reduceLeDiff, Int.reduceToNat, Int.reducePow, hc, hrl]))
      exact DownV.pure hw (rl_agg (rl_bytes _))
  · have hpos : 0 < hs.length := List.length_pos_iff.2 h0
    obtain ⟨ex, rfl⟩ := hx.vsl (by rw [hrl]; exact hpos)
    have h1 := Root_1_to hs hH hl ex σ.length (σ.length + 2) hs.length
    refine ACallsTo.of_body trees_Root_ok (by simp) fun hw _ => ?_
    have h1 := fun σ' => h1 σ' 0 hpos (by omega)
    simp only [Nat.zero_add, List.drop_zero, List.take_length] at h1
    generalize rootS hs = R at *
    generalize hrows hs = rows at *
    repeat' (first | refine SWp.seq ?_ | refine SWp.block ?_ | refine SWp.scope ?_ | refine SWp.condT rfl ?_ | refine SWp.condF rfl ?_ | (refine SWp.condD rfl (fun ht => ?_) (fun ht => ?_) <;> try (exfalso; omega)) | ((first | refine SWp.reg ?_ | refine SWp.skip ?_ | refine SWp.exit ?_ | refine SWp.ret ?_ | (apply callW.mk_pu; (first | exact (fun _ => h1 _ (by simp) (by simp)))) | (apply callW.any; (first | exact (h1 _ (by simp) (by simp)))) | ((first | apply splitG | apply splitGB | apply splitR | apply splitRB | apply splitE | apply splitEB | apply splitC | apply splitCB) <;> intro ht)); all_goals try simp (disch := first | omega | (simp only [lens]; first | done | omega)) only [go_sem, Nat.reduceEqDiff, Nat.reduceBEq, Nat.reduceAdd, Nat.reduceMul, Nat.reduceSub, Nat.reduceLeDiff, Int.reduceToNat, Int.reducePow, hc, hrl]))
    exact DownV.pure hw (rl_agg (rl_bytes _))
end Am
end Go.Proofs.YthgcooppjhcgcaaDoor
end
section
set_option linter.unusedSimpArgs false
set_option linter.unusedVariables false
/- Slices that are read: values, or own rows lent; Same; Some. -/
set_option linter.unusedSimpArgs false
set_option linter.unusedVariables false
namespace Go.Proofs.YthgcooppjhcgcaaDoor
namespace Am
/-- A slice that is read: a value, or an own row. -/
def RdSl (σ : Store) (sz : Nat) (es : List (List AV)) (x : AV) : Prop :=
  SlV sz es x ∨ ∃ r off lim o, x = .sl r off es.length lim sz ∧ σ[r]? = some (some o) ∧ off + es.length ≤ o.length ∧ (o.drop off).take es.length = es
theorem RdSl.of {σ : Store} {sz : Nat} {es : List (List AV)} {x : AV} (h : SlV sz es x) : RdSl σ sz es x := .inl h
theorem OwnN.rd {sz : Nat} {τ σ' : Store} {v : AV} {es : List (List AV)} (h : OwnN sz τ σ' v es) : RdSl σ' sz es v := by
  by_cases h0 : es = []
  · obtain ⟨news, rfl, ⟨rfl, rfl⟩ | ⟨j, h1, _⟩⟩ := h
    · exact .inl (.inl ⟨rfl, rfl⟩)
    · exact absurd h0 h1
  · obtain ⟨r, rfl, hg, _⟩ := h.sl h0
    exact .inr ⟨r, 0, none, es, rfl, hg, by omega, by rw [List.drop_zero, List.take_of_length_le (Nat.le_refl _)]⟩
theorem RdSl.app {σ y : Store} {sz : Nat} {es : List (List AV)} {x : AV} (h : RdSl σ sz es x) : RdSl (σ ++ y) sz es x := by
  rcases h with h | ⟨r, off, lim, o, rfl, hg, h1, h2⟩
  · exact .inl h
  · exact .inr ⟨r, off, lim, o, rfl, by rw [gapp (List.getElem?_eq_some_iff.1 hg).1]; exact hg, h1, h2⟩
theorem RdSl.len {σ : Store} {sz : Nat} {es : List (List AV)} {x : AV} (h : RdSl σ sz es x) : rLenSl x = some (.int .i64 es.length) := by
  rcases h with h | ⟨r, off, lim, o, rfl, _⟩
  · exact h.len
  · rfl
theorem RdSl.lend {σ : Store} {sz : Nat} {es : List (List AV)} {x : AV} (h : RdSl σ sz es x) (hr : RLss 0 es) : ∃ x0, SlV sz es x0 ∧ DR (lendD σ) x0 x := by
  rcases h with h | ⟨r, off, lim, o, rfl, hg, h1, h2⟩
  · refine ⟨x, h, DR.refl (k := 0) (by omega) x ?_⟩
    rcases h with ⟨rfl, _⟩ | ⟨ex, rfl⟩
    · simp [RL]
    · simpa only [RL] using hr
  · refine ⟨.vsl sz es false, .inr ⟨false, rfl⟩, ?_⟩
    simp only [DR, lendD]
    exact .inr ⟨r, off, lim, o, rfl, trivial, hg, h1, by simp, by rw [h2]; exact DRss.refl (k := 0) (by omega) es hr⟩
theorem rl0 {a : AV} (h : RL 0 a) (σ : Store) : DR (lendD σ) a a := DR.refl (k := 0) (by omega) a h
theorem drs1 {D : DC} {a b : AV} (h : DR D a b) : DRs D [a] [b] := by simp only [DRs]; exact ⟨b, [], rfl, h, rfl⟩
theorem drsc {D : DC} {a b : AV} {l m : List AV} (h : DR D a b) (h2 : DRs D l m) : DRs D (a :: l) (b :: m) := by simp only [DRs]; exact ⟨b, m, rfl, h, h2⟩
theorem shs_bytes (k : Nat) : ∀ (l : List UInt8), shs k (byteEsC l) = byteEsC l
  | [] => rfl
  | b :: l => by have := shs_bytes k l; simp only [byteEsC] at this; simp [byteEsC, shs, sh, this]
theorem sh_hash (k : Nat) (l : List UInt8) : sh k (.agg (byteEsC l)) = .agg (byteEsC l) := by simp only [sh, shs_bytes]
theorem shS_nil (k : Nat) : shS k [] = [] := rfl
theorem trees_Root_rd (σ : Store) (hs : List (List UInt8)) (x : AV) (hx : RdSl σ 32 (hrows hs) x) (hH : H32 hs) (hl : hs.length < 1000000000) : ACallsTo TC 29 [x] σ (.agg (byteEsC (rootS hs))) σ := by
  obtain ⟨x0, h0, hd⟩ := hx.lend (rlss_h hs)
  have := ACallsTo.lend glok (trees_Root_to [] hs x0 h0 hH hl) (drs1 hd)
  rwa [sh_hash, shS_nil, List.append_nil] at this
theorem eq_hash : ∀ (a b : List UInt8), eqCells (byteEsC a) (byteEsC b) = decide (a = b)
  | [], [] => rfl
  | [], _ :: _ => rfl
  | _ :: _, [] => rfl
  | a :: l, b :: m => by
    have ih := eq_hash l m
    simp only [byteEsC, List.map_cons, eqCells, eqCell] at ih ⊢
    rw [ih, Bool.eq_iff_iff]
    simp [← UInt8.toNat_inj]
    intro _
    omega
theorem kind_hash : ∀ (l : List UInt8), (byteEsC l).map kindOf = List.replicate l.length (some (LK.i .u8))
  | [] => rfl
  | _ :: l => by have := kind_hash l; simp only [byteEsC] at this; simp [byteEsC, kindOf, this, List.replicate_succ]
theorem kinds32 {l : List UInt8} (h : l.length = 32) : (byteEsC l).map kindOf = (List.replicate 32 (LK.i .u8)).map some := by rw [kind_hash, h]; rfl
set_option maxHeartbeats 4000000 in
theorem Same_to (σ : Store) (A B : List (List UInt8)) (x y : AV) (hx : SlV 32 (hrows A) x) (hy : SlV 32 (hrows B) y) (hA : H32 A) (hB : H32 B) (hl : A.length < 1000000000) (hl2 : B.length < 1000000000) :
    ACallsTo TC 80 [x, y] σ (.bool (decide (A = B))) σ := by
  refine ACallsTo.of_body speculumlaw03_Same_ok (by simp) fun hw _ => ?_
  have r1 := hx.len
  have r2 := hy.len
  rw [hrows_len] at r1 r2
  unfold rLenSl at r1 r2
  by_cases hL : A.length = B.length
  · repeat' (first | refine SWp.seq ?_ | refine SWp.block ?_ | refine SWp.scope ?_ | refine SWp.condT rfl ?_ | refine SWp.condF rfl ?_ | (refine SWp.condD rfl (fun ht => ?_) (fun ht => ?_) <;> try (exfalso; omega)) | ((first | refine SWp.reg ?_ | refine SWp.skip ?_ | refine SWp.exit ?_ | refine SWp.ret ?_ | ((first | apply splitG | apply splitGB | apply splitR | apply splitRB | apply splitE | apply splitEB | apply splitC | apply splitCB) <;> intro ht)); all_goals try simp (disch := first | omega | (simp only [lens]; first | done | omega)) only [go_sem, Nat.reduceEqDiff, Nat.reduceBEq, Nat.reduceAdd, Nat.reduceMul, Nat.reduceSub, Nat.reduceLeDiff, Int.reduceToNat, Int.reducePow, r1, r2]))
    refine SWp.loop (fun m ρ σ' => ∃ i : Nat, σ' = σ ∧ m + i = A.length ∧ A.take i = B.take i ∧ ρ 0 = x ∧ ρ 1 = y ∧ ρ 5 = .int .i64 i) A.length ?_ ?_
    · exact ⟨0, rfl, by omega, rfl, by simp (disch := first | omega | (simp only [lens]; first | done | omega)) only [go_sem, Nat.reduceEqDiff, Nat.reduceBEq, Nat.reduceAdd, Nat.reduceMul, Nat.reduceSub, Nat.reduceLeDiff, Int.reduceToNat, Int.reducePow], by simp (disch := first | omega | (simp only [lens]; first | done | omega)) only [go_sem, Nat.reduceEqDiff, Nat.reduceBEq, Nat.reduceAdd, Nat.reduceMul, Nat.reduceSub, Nat.reduceLeDiff, Int.reduceToNat, Int.reducePow], by simp (disch := first | omega | (simp only [lens]; first | done | omega)) only [go_sem, Nat.reduceEqDiff, Nat.reduceBEq, Nat.reduceAdd, Nat.reduceMul, Nat.reduceSub, Nat.reduceLeDiff, Int.reduceToNat, Int.reducePow]; rfl⟩
    · rintro m ρ σ' ⟨i, rfl, hm, hp, q0, q1, q5⟩
      by_cases hi : i < A.length
      · have hi2 : i < B.length := by omega
        obtain ⟨e1, rfl⟩ := hx.vsl (by rw [hrows_len]; omega)
        obtain ⟨e2, rfl⟩ := hy.vsl (by rw [hrows_len]; omega)
        have g1 := hrows_get hi
        have g2 := hrows_get hi2
        have c1 := byteEsC_len A[i]
        have c2 := byteEsC_len B[i]
        rw [hA _ (List.getElem_mem _)] at c1
        rw [hB _ (List.getElem_mem _)] at c2
        have k1 := kinds32 (hA _ (List.getElem_mem hi))
        have k2 := kinds32 (hB _ (List.getElem_mem hi2))
        have heq := eq_hash A[i] B[i]
        have l1 := hrows_len A
        have l2 := hrows_len B
        have hn1 : A.take (i + 1) = A.take i ++ [A[i]] := (List.take_append_getElem hi).symm
        have hn2 : B.take (i + 1) = B.take i ++ [B[i]] := (List.take_append_getElem hi2).symm
        by_cases he : A[i] = B[i]
        · have hn : A.take (i + 1) = B.take (i + 1) := by rw [hn1, hn2, hp, he]
          rw [decide_eq_true he] at heq
          clear hn1 hn2 he
          generalize byteEsC A[i] = ra at *
          generalize byteEsC B[i] = rb at *
          generalize hrows A = rA at *
          generalize hrows B = rB at *
          repeat' (first | refine SWp.seq ?_ | refine SWp.block ?_ | refine SWp.scope ?_ | refine SWp.condT rfl ?_ | refine SWp.condF rfl ?_ | (refine SWp.condD rfl (fun ht => ?_) (fun ht => ?_) <;> try (exfalso; omega)) | ((first | refine SWp.regS ?_ | refine SWp.skip ?_ | refine SWp.exit ?_ | refine SWp.ret ?_ | ((first | apply splitG | apply splitGB | apply splitR | apply splitRB | apply splitE | apply splitEB | apply splitC | apply splitCB) <;> intro ht)); all_goals try simp (disch := first | omega | (simp only [lens]; first | done | omega)) only [go_sem, Nat.reduceEqDiff, Nat.reduceBEq, Nat.reduceAdd, Nat.reduceMul, Nat.reduceSub, Nat.reduceLeDiff, Int.reduceToNat, Int.reducePow, q0, q1, q5, g1, g2, c1, c2, k1, k2, heq, l1, l2]))
          exact ⟨A.length - (i + 1), by omega, i + 1, by omega, hn, by simp⟩
        · have e : decide (A = B) = false := decide_eq_false fun e => he (by subst e; rfl)
          rw [decide_eq_false he] at heq
          rw [e]
          clear hn1 hn2 he
          generalize byteEsC A[i] = ra at *
          generalize byteEsC B[i] = rb at *
          generalize hrows A = rA at *
          generalize hrows B = rB at *
          repeat' (first | refine SWp.seq ?_ | refine SWp.block ?_ | refine SWp.scope ?_ | refine SWp.condT rfl ?_ | refine SWp.condF rfl ?_ | (refine SWp.condD rfl (fun ht => ?_) (fun ht => ?_) <;> try (exfalso; omega)) | ((first | refine SWp.regS ?_ | refine SWp.skip ?_ | refine SWp.exit ?_ | refine SWp.ret ?_ | ((first | apply splitG | apply splitGB | apply splitR | apply splitRB | apply splitE | apply splitEB | apply splitC | apply splitCB) <;> intro ht)); all_goals try simp (disch := first | omega | (simp only [lens]; first | done | omega)) only [go_sem, Nat.reduceEqDiff, Nat.reduceBEq, Nat.reduceAdd, Nat.reduceMul, Nat.reduceSub, Nat.reduceLeDiff, Int.reduceToNat, Int.reducePow, q0, q1, q5, g1, g2, c1, c2, k1, k2, heq, l1, l2]))
          exact DownV.same hw (rlB_ok _ rfl)
      · have e : decide (A = B) = true := decide_eq_true (by
          rw [List.take_of_length_le (by omega), List.take_of_length_le (by omega)] at hp
          exact hp)
        rw [e]
        repeat' (first | refine SWp.seq ?_ | refine SWp.block ?_ | refine SWp.scope ?_ | refine SWp.condT rfl ?_ | refine SWp.condF rfl ?_ | (refine SWp.condD rfl (fun ht => ?_) (fun ht => ?_) <;> try (exfalso; omega)) | ((first | refine SWp.reg ?_ | refine SWp.skip ?_ | refine SWp.exit ?_ | refine SWp.ret ?_ | ((first | apply splitG | apply splitGB | apply splitR | apply splitRB | apply splitE | apply splitEB | apply splitC | apply splitCB) <;> intro ht)); all_goals try simp (disch := first | omega | (simp only [lens]; first | done | omega)) only [go_sem, Nat.reduceEqDiff, Nat.reduceBEq, Nat.reduceAdd, Nat.reduceMul, Nat.reduceSub, Nat.reduceLeDiff, Int.reduceToNat, Int.reducePow, q0, q1, q5, r1, r2]))
        exact DownV.same hw (rlB_ok _ rfl)
  · have e : decide (A = B) = false := decide_eq_false fun e => hL (by rw [e])
    rw [e]
    repeat' (first | refine SWp.seq ?_ | refine SWp.block ?_ | refine SWp.scope ?_ | refine SWp.condT rfl ?_ | refine SWp.condF rfl ?_ | (refine SWp.condD rfl (fun ht => ?_) (fun ht => ?_) <;> try (exfalso; omega)) | ((first | refine SWp.reg ?_ | refine SWp.skip ?_ | refine SWp.exit ?_ | refine SWp.ret ?_ | ((first | apply splitG | apply splitGB | apply splitR | apply splitRB | apply splitE | apply splitEB | apply splitC | apply splitCB) <;> intro ht)); all_goals try simp (disch := first | omega | (simp only [lens]; first | done | omega)) only [go_sem, Nat.reduceEqDiff, Nat.reduceBEq, Nat.reduceAdd, Nat.reduceMul, Nat.reduceSub, Nat.reduceLeDiff, Int.reduceToNat, Int.reducePow, r1, r2]))
    exact DownV.same hw (rlB_ok _ rfl)
theorem Same_rd (σ : Store) (A B : List (List UInt8)) (x y : AV) (hx : RdSl σ 32 (hrows A) x) (hy : RdSl σ 32 (hrows B) y) (hA : H32 A) (hB : H32 B) (hl : A.length < 1000000000) (hl2 : B.length < 1000000000) :
    ACallsTo TC 80 [x, y] σ (.bool (decide (A = B))) σ := by
  obtain ⟨x0, h0, hd⟩ := hx.lend (rlss_h A)
  obtain ⟨y0, h1, hd1⟩ := hy.lend (rlss_h B)
  have := ACallsTo.lend glok (Same_to [] A B x0 y0 h0 h1 hA hB hl hl2) (drsc hd (drs1 hd1))
  rwa [show sh σ.length (.bool (decide (A = B))) = .bool (decide (A = B)) from rfl, shS_nil, List.append_nil] at this
/-- Some leaves. -/
def someH (seed : UInt8) (i : Nat) : List UInt8 := seed :: UInt8.ofNat i :: UInt8.ofNat (i / 256) :: 1 :: List.replicate 28 0
def someS (seed : UInt8) (n : Nat) : List (List UInt8) := (List.range n).map (someH seed)
theorem someS_len (seed : UInt8) (n : Nat) : (someS seed n).length = n := by simp [someS]
theorem someS_succ (seed : UInt8) (n : Nat) : someS seed (n + 1) = someS seed n ++ [someH seed n] := by simp [someS, List.range_succ]
set_option maxHeartbeats 4000000 in
theorem Some_to (σ : Store) (n : Int) (seed : UInt8) (h : n < 1000000) : ACallsTo TC 79 [.int .i64 n, .int .u8 seed.toNat] σ (slVal 32 (hrows (someS seed n.toNat))) σ := by
  refine ACallsTo.of_body speculumlaw04_Some_ok (by simp) fun hw _ => ?_
  repeat' (first | refine SWp.seq ?_ | refine SWp.block ?_ | refine SWp.scope ?_ | refine SWp.condT rfl ?_ | refine SWp.condF rfl ?_ | (refine SWp.condD rfl (fun ht => ?_) (fun ht => ?_) <;> try (exfalso; omega)) | ((first | refine SWp.reg ?_ | refine SWp.skip ?_ | refine SWp.exit ?_ | refine SWp.ret ?_ | ((first | apply splitG | apply splitGB | apply splitR | apply splitRB | apply splitE | apply splitEB | apply splitC | apply splitCB) <;> intro ht)); all_goals try simp (disch := first | omega | (simp only [lens]; first | done | omega)) only [go_sem, Nat.reduceEqDiff, Nat.reduceBEq, Nat.reduceAdd, Nat.reduceMul, Nat.reduceSub, Nat.reduceLeDiff, Int.reduceToNat, Int.reducePow]))
  refine SWp.loop (fun m ρ σ' => ∃ i : Nat, m + i = n.toNat ∧ ρ 0 = .int .i64 n ∧ ρ 1 = .int .u8 seed.toNat ∧ ρ 6 = .int .i64 i ∧ OwnN 32 σ σ' (ρ 5) (hrows (someS seed i))) n.toNat ?_ ?_
  · refine ⟨0, by omega, by simp (disch := first | omega | (simp only [lens]; first | done | omega)) only [go_sem, Nat.reduceEqDiff, Nat.reduceBEq, Nat.reduceAdd, Nat.reduceMul, Nat.reduceSub, Nat.reduceLeDiff, Int.reduceToNat, Int.reducePow], by simp (disch := first | omega | (simp only [lens]; first | done | omega)) only [go_sem, Nat.reduceEqDiff, Nat.reduceBEq, Nat.reduceAdd, Nat.reduceMul, Nat.reduceSub, Nat.reduceLeDiff, Int.reduceToNat, Int.reducePow], by simp (disch := first | omega | (simp only [lens]; first | done | omega)) only [go_sem, Nat.reduceEqDiff, Nat.reduceBEq, Nat.reduceAdd, Nat.reduceMul, Nat.reduceSub, Nat.reduceLeDiff, Int.reduceToNat, Int.reducePow]; rfl, ?_⟩
    simp (disch := first | omega | (simp only [lens]; first | done | omega)) only [go_sem, Nat.reduceEqDiff, Nat.reduceBEq, Nat.reduceAdd, Nat.reduceMul, Nat.reduceSub, Nat.reduceLeDiff, Int.reduceToNat, Int.reducePow]
    have := OwnN.nil (sz := 32) (τ := σ) (news := [])
    rwa [List.append_nil] at this
  · rintro m ρ σ' ⟨i, hm, q0, q1, q6, hO⟩
    by_cases hi : (i : Int) < n
    · obtain ⟨v', σ2, he, hO2⟩ := hO.app (ys := hrows [someH seed i]) (by simp [hrows]) (by rw [hrows_len, someS_len, hrows_len]; simp; omega)
      have hb : hrows [someH seed i] = [[.int .u8 seed.toNat, .int .u8 ((i : Int) % 256), .int .u8 ((i : Int) / 256 % 256), .int .u8 1, .int .u8 0, .int .u8 0, .int .u8 0, .int .u8 0, .int .u8 0, .int .u8 0, .int .u8 0, .int .u8 0, .int .u8 0, .int .u8 0, .int .u8 0, .int .u8 0, .int .u8 0, .int .u8 0, .int .u8 0, .int .u8 0, .int .u8 0, .int .u8 0, .int .u8 0, .int .u8 0, .int .u8 0, .int .u8 0, .int .u8 0, .int .u8 0, .int .u8 0, .int .u8 0, .int .u8 0, .int .u8 0]] := by
        simp [hrows, byteEsC, someH, List.replicate_succ]
      rw [hb] at he
      generalize hv : ρ 5 = v at *
      repeat' (first | refine SWp.seq ?_ | refine SWp.block ?_ | refine SWp.scope ?_ | refine SWp.condT rfl ?_ | refine SWp.condF rfl ?_ | (refine SWp.condD rfl (fun ht => ?_) (fun ht => ?_) <;> try (exfalso; omega)) | ((first | refine SWp.reg ?_ | refine SWp.skip ?_ | refine SWp.exit ?_ | refine SWp.ret ?_ | ((first | apply splitG | apply splitGB | apply splitR | apply splitRB | apply splitE | apply splitEB | apply splitC | apply splitCB) <;> intro ht)); all_goals try simp (disch := first | omega | (simp only [lens]; first | done | omega)) only [go_sem, Nat.reduceEqDiff, Nat.reduceBEq, Nat.reduceAdd, Nat.reduceMul, Nat.reduceSub, Nat.reduceLeDiff, Int.reduceToNat, Int.reducePow, q0, q1, q6, hv, he]))
      exact ⟨n.toNat - (i + 1), by omega, i + 1, by omega, by simp, by rw [someS_succ]; simpa [hrows] using hO2⟩
    · have e : n.toNat = i := by omega
      generalize hv : ρ 5 = v at *
      rw [e]
      repeat' (first | refine SWp.seq ?_ | refine SWp.block ?_ | refine SWp.scope ?_ | refine SWp.condT rfl ?_ | refine SWp.condF rfl ?_ | (refine SWp.condD rfl (fun ht => ?_) (fun ht => ?_) <;> try (exfalso; omega)) | ((first | refine SWp.reg ?_ | refine SWp.skip ?_ | refine SWp.exit ?_ | refine SWp.ret ?_ | ((first | apply splitG | apply splitGB | apply splitR | apply splitRB | apply splitE | apply splitEB | apply splitC | apply splitCB) <;> intro ht)); all_goals try simp (disch := first | omega | (simp only [lens]; first | done | omega)) only [go_sem, Nat.reduceEqDiff, Nat.reduceBEq, Nat.reduceAdd, Nat.reduceMul, Nat.reduceSub, Nat.reduceLeDiff, Int.reduceToNat, Int.reducePow, q0, q6, hv]))
      exact hO.froze hw (rlss_h _)
end Am
end Go.Proofs.YthgcooppjhcgcaaDoor
end
section
set_option linter.unusedSimpArgs false
set_option linter.unusedVariables false
/- Abstract code. (Printed by wip/gen.) -/
set_option maxRecDepth 10000
namespace Go.Proofs.YthgcooppjhcgcaaDoor
namespace Am



@[go_sem] def proofs_Check_r39 : List AIns := [
  ⟨some 95, none, .no, .mv (.t 12)⟩,
  ⟨some 96, none, .no, .bin .gtr .none (.t 95) (.v (.int .i64 (0)))⟩]
def proofs_Check_c40 : ACode := .cond (.t 96) .skip (.exit 3)
def proofs_Check_c41 : ACode := .seq (.reg proofs_Check_r39) proofs_Check_c40
@[go_sem] def proofs_Check_r42 : List AIns := [
  ⟨some 98, none, .no, .mv (.t 13)⟩,
  ⟨some 99, none, .no, .call (.t 98) []⟩,
  ⟨some 97, none, .no, .mv (.t 99)⟩,
  ⟨some 100, none, .no, .ext 0 (.t 97)⟩,
  ⟨some 101, none, .no, .ext 1 (.t 97)⟩,
  ⟨some 18, none, .no, .alloc [(.int .u8 (0)), (.int .u8 (0)), (.int .u8 (0)), (.int .u8 (0)), (.int .u8 (0)), (.int .u8 (0)), (.int .u8 (0)), (.int .u8 (0)), (.int .u8 (0)), (.int .u8 (0)), (.int .u8 (0)), (.int .u8 (0)), (.int .u8 (0)), (.int .u8 (0)), (.int .u8 (0)), (.int .u8 (0)), (.int .u8 (0)), (.int .u8 (0)), (.int .u8 (0)), (.int .u8 (0)), (.int .u8 (0)), (.int .u8 (0)), (.int .u8 (0)), (.int .u8 (0)), (.int .u8 (0)), (.int .u8 (0)), (.int .u8 (0)), (.int .u8 (0)), (.int .u8 (0)), (.int .u8 (0)), (.int .u8 (0)), (.int .u8 (0))]⟩,
  ⟨none, none, .no, .store 32 (.t 18) (.t 100)⟩,
  ⟨some 19, none, .no, .mv (.t 101)⟩]
@[go_sem] def proofs_Check_r43 : List AIns := [
  ⟨some 106, none, .no, .mv (.t 19)⟩,
  ⟨some 107, none, .no, .un .not (.t 106)⟩,
  ⟨some 105, none, .no, .mv (.t 107)⟩]
@[go_sem] def proofs_Check_r44 : List AIns := [
  ⟨some 10, none, .no, .mv (.v (.int .i64 (80)))⟩]
def proofs_Check_c45 : ACode := .seq (.reg proofs_Check_r44) .ret
@[go_sem] def proofs_Check_r46 : List AIns := [
  ⟨some 109, none, .no, .mv (.t 11)⟩,
  ⟨some 110, none, .no, .bin .rem .none (.t 109) (.v (.int .i64 (2)))⟩,
  ⟨some 111, none, .no, .bin .eql .none (.t 110) (.v (.int .i64 (1)))⟩,
  ⟨some 112, none, .no, .mv (.t 111)⟩,
  ⟨some 113, some (112, false), .no, .mv (.t 11)⟩,
  ⟨some 114, some (112, false), .no, .mv (.t 12)⟩,
  ⟨some 115, some (112, false), .no, .bin .eql .none (.t 113) (.t 114)⟩,
  ⟨some 116, none, .no, .pick (.t 112) (.v (.bool true)) (.t 115)⟩,
  ⟨some 108, none, .no, .mv (.t 116)⟩]
@[go_sem] def proofs_Check_r47 : List AIns := [
  ⟨some 117, none, .rd, .load true 32 (.t 18)⟩,
  ⟨some 118, none, .rd, .load true 32 (.t 14)⟩,
  ⟨some 119, none, .ef, .call (.v (.fn 81 [])) [(.t 117), (.t 118)]⟩,
  ⟨some 120, none, .rd, .load true 32 (.t 18)⟩,
  ⟨some 121, none, .rd, .load true 32 (.t 15)⟩,
  ⟨some 122, none, .no, .call (.v (.fn 81 [])) [(.t 120), (.t 121)]⟩,
  ⟨none, none, .no, .store 32 (.t 14) (.t 119)⟩,
  ⟨none, none, .no, .store 32 (.t 15) (.t 122)⟩]
@[go_sem] def proofs_Check_r48 : List AIns := [
  ⟨some 123, none, .no, .mv (.t 11)⟩,
  ⟨some 124, none, .no, .bin .rem .none (.t 123) (.v (.int .i64 (2)))⟩,
  ⟨some 125, none, .no, .bin .eql .none (.t 124) (.v (.int .i64 (0)))⟩,
  ⟨some 126, none, .no, .mv (.t 125)⟩,
  ⟨some 127, some (126, true), .no, .mv (.t 11)⟩,
  ⟨some 128, some (126, true), .no, .bin .gtr .none (.t 127) (.v (.int .i64 (0)))⟩,
  ⟨some 129, none, .no, .pick (.t 126) (.t 128) (.v (.bool false))⟩]
def proofs_Check_c49 : ACode := .cond (.t 129) .skip (.exit 6)
def proofs_Check_c50 : ACode := .seq (.reg proofs_Check_r48) proofs_Check_c49
@[go_sem] def proofs_Check_r51 : List AIns := [
  ⟨some 130, none, .no, .mv (.t 11)⟩,
  ⟨some 131, none, .no, .bin .quo .none (.t 130) (.v (.int .i64 (2)))⟩,
  ⟨some 132, none, .no, .mv (.t 12)⟩,
  ⟨some 133, none, .no, .bin .quo .none (.t 132) (.v (.int .i64 (2)))⟩,
  ⟨some 11, none, .no, .mv (.t 131)⟩,
  ⟨some 12, none, .no, .mv (.t 133)⟩]
def proofs_Check_c52 : ACode := .block 7 (.reg proofs_Check_r51)
def proofs_Check_c53 : ACode := .seq proofs_Check_c50 proofs_Check_c52
def proofs_Check_c54 : ACode := .loop proofs_Check_c53
def proofs_Check_c55 : ACode := .block 6 proofs_Check_c54
def proofs_Check_c56 : ACode := .seq (.reg proofs_Check_r47) proofs_Check_c55
@[go_sem] def proofs_Check_r57 : List AIns := [
  ⟨some 102, none, .no, .load true 32 (.t 15)⟩,
  ⟨some 103, none, .no, .load true 32 (.t 18)⟩,
  ⟨some 104, none, .no, .call (.v (.fn 81 [])) [(.t 102), (.t 103)]⟩,
  ⟨none, none, .no, .store 32 (.t 15) (.t 104)⟩]
def proofs_Check_c58 : ACode := .cond (.t 108) proofs_Check_c56 (.reg proofs_Check_r57)
def proofs_Check_c59 : ACode := .seq (.reg proofs_Check_r46) proofs_Check_c58
def proofs_Check_c60 : ACode := .cond (.t 105) proofs_Check_c45 proofs_Check_c59
def proofs_Check_c61 : ACode := .seq (.reg proofs_Check_r43) proofs_Check_c60
def proofs_Check_c62 : ACode := .block 5 proofs_Check_c61
def proofs_Check_c63 : ACode := .seq (.reg proofs_Check_r42) proofs_Check_c62
@[go_sem] def proofs_Check_r64 : List AIns := [
  ⟨some 134, none, .no, .mv (.t 11)⟩,
  ⟨some 135, none, .no, .bin .quo .none (.t 134) (.v (.int .i64 (2)))⟩,
  ⟨some 136, none, .no, .mv (.t 12)⟩,
  ⟨some 137, none, .no, .bin .quo .none (.t 136) (.v (.int .i64 (2)))⟩,
  ⟨some 11, none, .no, .mv (.t 135)⟩,
  ⟨some 12, none, .no, .mv (.t 137)⟩]
def proofs_Check_c65 : ACode := .seq proofs_Check_c63 (.reg proofs_Check_r64)
def proofs_Check_c66 : ACode := .block 4 proofs_Check_c65
def proofs_Check_c67 : ACode := .seq proofs_Check_c41 proofs_Check_c66
def proofs_Check_c68 : ACode := .loop proofs_Check_c67
@[go_sem] def proofs_Check_r69 : List AIns := [
  ⟨some 138, none, .no, .load false 1 (.t 9)⟩,
  ⟨some 139, none, .no, .lenSl (.t 138)⟩,
  ⟨some 140, none, .no, .bin .eql .none (.t 139) (.v (.int .i64 (0)))⟩,
  ⟨some 141, none, .no, .mv (.t 140)⟩,
  ⟨some 142, some (141, true), .no, .load true 32 (.t 14)⟩,
  ⟨some 143, some (141, true), .no, .load true 32 (.t 7)⟩,
  ⟨some 144, some (141, true), .no, .bin .eql (.agg (List.replicate 32 (.i .u8) ++ [])) (.t 142) (.t 143)⟩,
  ⟨some 145, none, .no, .pick (.t 141) (.t 144) (.v (.bool false))⟩,
  ⟨some 146, none, .no, .mv (.t 145)⟩,
  ⟨some 147, some (146, true), .no, .load true 32 (.t 15)⟩,
  ⟨some 148, some (146, true), .no, .load true 32 (.t 8)⟩,
  ⟨some 149, some (146, true), .no, .bin .eql (.agg (List.replicate 32 (.i .u8) ++ [])) (.t 147) (.t 148)⟩,
  ⟨some 150, none, .no, .pick (.t 146) (.t 149) (.v (.bool false))⟩,
  ⟨some 151, none, .no, .call (.v (.fn 163 [])) [(.t 150)]⟩,
  ⟨some 10, none, .no, .mv (.t 151)⟩]
def proofs_Check_c70 : ACode := .seq (.reg proofs_Check_r69) .ret
def proofs_Check_c71 : ACode := .seq (.block 3 proofs_Check_c68) proofs_Check_c70
end Am
end Go.Proofs.YthgcooppjhcgcaaDoor
end
section
set_option linter.unusedSimpArgs false
set_option linter.unusedVariables false
/- Proofs: contracts: Proof of the program. -/
set_option linter.unusedSimpArgs false
set_option linter.unusedVariables false
namespace Go.Proofs.YthgcooppjhcgcaaDoor
namespace Am
/-- A sub-proof. -/
def subF : Nat → List (List UInt8) → Nat → Bool → List (List UInt8)
  | 0, _, _, _ => []
  | f + 1, l, m, known =>
    if m = l.length then (if known then [] else [rootS l])
    else if m ≤ splitS l.length then subF f (l.take (splitS l.length)) m known ++ [rootS (l.drop (splitS l.length))]
    else subF f (l.drop (splitS l.length)) (m - splitS l.length) false ++ [rootS (l.take (splitS l.length))]
def subS (l : List (List UInt8)) (m : Nat) (known : Bool) : List (List UInt8) := subF (l.length + 1) l m known
/-- What Proof has in memory: its own proof, itself, and rows of its own. -/
structure PrS (σ0 σ' : Store) (v : AV) (es : List (List AV)) : Prop where
  out : σ'[σ0.length]? = some (some [[v]])
  fn : σ'[σ0.length + 1]? = some (some [[.fn 162 [.ptr σ0.length 0 0, .ptr (σ0.length + 1) 0 0]]])
  keep : ∀ q, q < σ0.length → σ'[q]? = σ0[q]?
  sl : (es = [] ∧ v = .nilsl) ∨ ∃ r, σ0.length + 2 ≤ r ∧ es ≠ [] ∧ v = .sl r 0 es.length none 32 ∧ σ'[r]? = some (some es)
theorem PrS.lt {σ0 σ' : Store} {v : AV} {es : List (List AV)} (h : PrS σ0 σ' v es) : σ0.length + 2 ≤ σ'.length := by
  have := (List.getElem?_eq_some_iff.1 h.fn).1; omega
/-- One more. -/
theorem PrS.add {σ0 σ' : Store} {v : AV} {es : List (List AV)} (h : PrS σ0 σ' v es) (row : List AV) (hl : es.length + 1 ≤ 1073741824) :
    ∃ r σ2, aApp σ' 32 v [row] = some (.sl r 0 (es.length + 1) none 32, σ2) ∧ σ2[σ0.length]? = some (some [[v]]) ∧ PrS σ0 (σ2.set σ0.length (some [[.sl r 0 (es.length + 1) none 32]])) (.sl r 0 (es.length + 1) none 32) (es ++ [row]) := by
  have hlt := h.lt
  obtain ⟨h1, h2, h3, ⟨rfl, rfl⟩ | ⟨r, hr, h0, rfl, hg⟩⟩ := h
  · refine ⟨σ'.length, σ' ++ [some [row]], rfl, by rw [gapp (by omega)]; exact h1, ⟨?_, ?_, ?_, .inr ⟨σ'.length, by omega, by simp, by simp, ?_⟩⟩⟩
    · rw [gset_eq (by simp; omega)]
    · rw [gset_ne (by omega), gapp (by omega)]; exact h2
    · intro q hq; rw [gset_ne (by omega), gapp (by omega)]; exact h3 q hq
    · rw [gset_ne (by omega), gappr (Nat.le_refl _), Nat.sub_self]; rfl
  · have hrl := (List.getElem?_eq_some_iff.1 hg).1
    refine ⟨σ'.length, σ'.set r none ++ [some (es ++ [row])], ?_, ?_, ⟨?_, ?_, ?_, .inr ⟨σ'.length, by omega, by simp, by simp, ?_⟩⟩⟩
    · rw [app_s, if_neg (by simp), hg]
      simp only [List.length_cons, List.length_nil]
      rw [if_pos ⟨trivial, by omega, by omega⟩, if_neg (by omega), List.drop_zero, List.take_of_length_le (Nat.le_refl _)]
    · rw [gapp (by simp; omega), gset_ne (by omega)]; exact h1
    · rw [gset_eq (by simp; omega)]
    · rw [gset_ne (by omega), gapp (by simp; omega), gset_ne (by omega)]; exact h2
    · intro q hq; rw [gset_ne (by omega), gapp (by simp; omega), gset_ne (by omega)]; exact h3 q hq
    · rw [gset_ne (by omega), gappr (by simp), List.length_set, Nat.sub_self]; rfl
theorem PrS.ex (σ0 : Store) (es : List (List AV)) : ∃ v σ', PrS σ0 σ' v es := by
  by_cases h : es = []
  · exact ⟨.nilsl, σ0 ++ [some [[.nilsl]], some [[.fn 162 [.ptr σ0.length 0 0, .ptr (σ0.length + 1) 0 0]]]], by simp, by simp, fun q hq => gapp hq, .inl ⟨h, rfl⟩⟩
  · exact ⟨.sl (σ0.length + 2) 0 es.length none 32, σ0 ++ [some [[.sl (σ0.length + 2) 0 es.length none 32]], some [[.fn 162 [.ptr σ0.length 0 0, .ptr (σ0.length + 1) 0 0]]], some es], by simp, by simp, fun q hq => gapp hq, .inr ⟨_, Nat.le_refl _, h, rfl, by simp⟩⟩
theorem DownV.tup2 {k : Nat} {v v2 : AV} {σ σ2 : Store} {i : IntKind} {e : Int} (h : DownV k v σ v2 σ2) : DownV k (.tup [v, .int i e]) σ (.tup [v2, .int i e]) σ2 := by
  obtain ⟨D, a, b, c⟩ := h
  exact ⟨D, a, b, by simp only [DR, DRs]; exact ⟨_, rfl, _, _, rfl, c, _, _, rfl, rfl, rfl⟩⟩
theorem ext_of {σ σ' : Store} (h : σ.length ≤ σ'.length) (h2 : ∀ q, q < σ.length → σ'[q]? = σ[q]?) : ∃ y, σ' = σ ++ y := by
  refine ⟨σ'.drop σ.length, ?_⟩
  have e : σ'.take σ.length = σ := by
    refine List.ext_getElem? fun i => ?_
    by_cases hi : i < σ.length
    · rw [List.getElem?_take_of_lt hi]; exact h2 i hi
    · rw [List.getElem?_eq_none (by simp; omega), List.getElem?_eq_none (by omega)]
  calc σ' = σ'.take σ.length ++ σ'.drop σ.length := (List.take_append_drop _ _).symm
    _ = σ ++ σ'.drop σ.length := by rw [e]
theorem PrS.own {σ0 σ' : Store} {v : AV} {es : List (List AV)} (h : PrS σ0 σ' v es) : OwnN 32 σ0 σ' v es := by
  have hlt := h.lt
  obtain ⟨y, rfl⟩ := ext_of (by omega) h.keep
  obtain ⟨h1, h2, h3, h4 | ⟨r, hr, h0, rfl, hg⟩⟩ := h
  · exact ⟨y, rfl, .inl h4⟩
  · refine ⟨y, rfl, .inr ⟨r - σ0.length, h0, by rw [show σ0.length + (r - σ0.length) = r by omega], ?_⟩⟩
    rw [List.getElem?_append_right (by omega)] at hg; exact hg
/-- What Proof answers. -/
def proofL (hs : List (List UInt8)) (m : Int) : List (List UInt8) := if 0 < m ∧ m < hs.length then subS hs m.toNat true else []
def proofE (hs : List (List UInt8)) (m : Int) : Int := if m < 0 ∨ (hs.length : Int) < m then 2 else 0
def ProofP (σ : Store) (hs : List (List UInt8)) (m : Int) (v : AV) (σ' : Store) : Prop := ∃ v2, v = .tup [v2, .int .i64 (proofE hs m)] ∧ OwnN 32 σ σ' v2 (hrows (proofL hs m))
theorem ProofP.ex (σ : Store) (hs : List (List UInt8)) (m : Int) : ∃ v σ', ProofP σ hs m v σ' := ⟨_, _, _, rfl, own_is σ 32 _⟩
theorem ProofP.none {σ : Store} {hs : List (List UInt8)} {m : Int} (h : proofL hs m = []) : ProofP σ hs m (.tup [.nilsl, .int .i64 (proofE hs m)]) σ := ⟨.nilsl, rfl, by rw [h]; exact ⟨[], by simp, .inl ⟨rfl, rfl⟩⟩⟩
end Am
end Go.Proofs.YthgcooppjhcgcaaDoor
end
section
set_option linter.unusedSimpArgs false
set_option linter.unusedVariables false
/- Proofs: contracts: Proof of the reference. -/
set_option linter.unusedSimpArgs false
set_option linter.unusedVariables false
namespace Go.Proofs.YthgcooppjhcgcaaDoor
namespace Am
/-- Own elements, or a literal that can be gone on with. -/
def OwnA (sz : Nat) (τ σ' : Store) (v : AV) (es : List (List AV)) : Prop := OwnN sz τ σ' v es ∨ (v = .vsl sz es true ∧ es ≠ [] ∧ ∃ news, σ' = τ ++ news)
theorem OwnA.app {sz : Nat} {τ σ' : Store} {v : AV} {es ys : List (List AV)} (h : OwnA sz τ σ' v es) (h0 : ys.length ≠ 0) (hl : es.length + ys.length ≤ 1073741824) :
    ∃ v' σ'', aApp σ' sz v ys = some (v', σ'') ∧ OwnN sz τ σ'' v' (es ++ ys) := by
  rcases h with h | ⟨rfl, h1, news, rfl⟩
  · exact h.app h0 hl
  · refine ⟨.sl (τ ++ news).length 0 (es.length + ys.length) none sz, (τ ++ news) ++ [some (es ++ ys)], by rw [app_v, if_neg h0, if_pos ⟨rfl, rfl, hl⟩], news ++ [some (es ++ ys)], by rw [List.append_assoc], .inr ⟨news.length, by simp [h1], by simp, by rw [List.getElem?_append_right (Nat.le_refl _)]; simp⟩⟩
theorem OwnA.rd {sz : Nat} {τ σ' : Store} {v : AV} {es : List (List AV)} (h : OwnA sz τ σ' v es) : RdSl σ' sz es v := by
  rcases h with h | ⟨rfl, _⟩
  · exact h.rd
  · exact .inl (.inr ⟨true, rfl⟩)
theorem OwnA.more {sz : Nat} {τ σ' : Store} {v : AV} {es : List (List AV)} (h : OwnA sz τ σ' v es) (y : Store) : OwnA sz τ (σ' ++ y) v es := by
  rcases h with h | ⟨rfl, h1, news, rfl⟩
  · exact .inl (h.more y)
  · exact .inr ⟨rfl, h1, news ++ y, by rw [List.append_assoc]⟩
theorem OwnA.ext {sz : Nat} {τ σ' : Store} {v : AV} {es : List (List AV)} (h : OwnA sz τ σ' v es) : ∃ news, σ' = τ ++ news := by
  rcases h with h | ⟨_, _, h⟩
  · exact h.ext
  · exact h
theorem OwnA.down {sz : Nat} {σ σ' : Store} {v : AV} {es : List (List AV)} (hw : Wf σ.length σ) (h : OwnA sz σ σ' v es) (hr : RLss σ.length es) : ∃ v2 σ2, OwnA sz σ σ2 v2 es ∧ DownV σ.length v σ' v2 σ2 := by
  rcases h with h | ⟨rfl, h1, news, rfl⟩
  · exact ⟨_, _, .inl (own_is σ sz es), h.own hw hr⟩
  · exact ⟨_, σ, .inr ⟨rfl, h1, [], by simp⟩, DownV.pure hw (by simpa only [RL] using hr)⟩
end Am
end Go.Proofs.YthgcooppjhcgcaaDoor
end
section
set_option linter.unusedSimpArgs false
set_option linter.unusedVariables false
/- Proofs: what a proof says, by plain loops; the reference's Proof; a proof's next hash. -/
set_option linter.unusedSimpArgs false
set_option linter.unusedVariables false
namespace Go.Proofs.YthgcooppjhcgcaaDoor
namespace Am
def RefP (σ : Store) (hs : List (List UInt8)) (m : Int) (v : AV) (σ' : Store) : Prop := ∃ v2, v = .tup [v2, .int .i64 (proofE hs m)] ∧ OwnA 32 σ σ' v2 (hrows (proofL hs m))
/-- Up to where the older tree's last full one hangs. -/
def st (i last : Nat) : Nat × Nat := if h : i % 2 = 1 then st (i / 2) (last / 2) else (i, last)
termination_by i
decreasing_by omega
/-- Two roots, of the hashes. -/
def run : List Bool → List (List UInt8) → List UInt8 → List UInt8 → Option (List UInt8 × List UInt8)
  | [], [], a, b => some (a, b)
  | true :: p, h :: ps, a, b => run p ps (nodeS h a) (nodeS h b)
  | false :: p, h :: ps, a, b => run p ps a (nodeS b h)
  | _, _, _, _ => none
end Am
end Go.Proofs.YthgcooppjhcgcaaDoor
end
section
set_option linter.unusedSimpArgs false
set_option linter.unusedVariables false
/- Proofs: contract: Check of the program. -/
set_option linter.unusedSimpArgs false
set_option linter.unusedVariables false
namespace Go.Proofs.YthgcooppjhcgcaaDoor
namespace Am
/-- What Check has in memory. -/
structure ChkM (ia ib : Nat) (σ σ' : Store) (o nw : List UInt8) (pv : AV) (ps : List (List UInt8)) (a b : List UInt8) : Prop where
  hab : (ia = 3 ∧ ib = 4) ∨ (ia = 4 ∧ ib = 3)
  len : σ.length + 5 ≤ σ'.length
  keep : ∀ q, q < σ.length → σ'[q]? = σ[q]?
  g0 : σ'[σ.length]? = some (some [byteEsC o])
  g1 : σ'[σ.length + 1]? = some (some [byteEsC nw])
  g2 : σ'[σ.length + 2]? = some (some [[pv]])
  g3 : σ'[σ.length + ia]? = some (some [byteEsC a])
  g4 : σ'[σ.length + ib]? = some (some [byteEsC b])
  hp : SlV 32 (hrows ps) pv
  ha : a.length = 32
  hb : b.length = 32
theorem ChkM.app {ia ib : Nat} {σ σ' y : Store} {o nw : List UInt8} {pv : AV} {ps : List (List UInt8)} {a b : List UInt8} (h : ChkM ia ib σ σ' o nw pv ps a b) : ChkM ia ib σ (σ' ++ y) o nw pv ps a b := by
  have hl := h.len
  have hab := h.hab
  refine ⟨hab, by rw [List.length_append]; omega, fun q hq => ?_, ?_, ?_, ?_, ?_, ?_, h.hp, h.ha, h.hb⟩
  · rw [gapp (by omega)]; exact h.keep q hq
  · rw [gapp (by omega)]; exact h.g0
  · rw [gapp (by omega)]; exact h.g1
  · rw [gapp (by omega)]; exact h.g2
  · rw [gapp (by omega)]; exact h.g3
  · rw [gapp (by omega)]; exact h.g4
theorem ChkM.fin {ia ib : Nat} {σ σ' : Store} {o nw : List UInt8} {pv : AV} {ps : List (List UInt8)} {a b : List UInt8} (h : ChkM ia ib σ σ' o nw pv ps a b) (hw : Wf σ.length σ) {i : Int} : DownV σ.length (.int .i64 i) σ' (.int .i64 i) σ := by
  have hl := h.len
  have hab := h.hab
  obtain ⟨y, rfl⟩ := ext_of (by omega) h.keep
  exact DownV.pure hw (rlB_ok _ rfl)
theorem SlV.cells {sz : Nat} {es : List (List AV)} {x : AV} (h : SlV sz es x) : cellsOf x = some [x] := by
  rcases h with ⟨rfl, rfl⟩ | ⟨ex, rfl⟩ <;> rfl
end Am
end Go.Proofs.YthgcooppjhcgcaaDoor
end
section
set_option linter.unusedSimpArgs false
set_option linter.unusedVariables false
/- Proofs: contract: Check of the program, the loop. -/
set_option linter.unusedSimpArgs false
set_option linter.unusedVariables false
namespace Go.Proofs.YthgcooppjhcgcaaDoor
namespace Am
end Am
end Go.Proofs.YthgcooppjhcgcaaDoor
end
section
set_option linter.unusedSimpArgs false
set_option linter.unusedVariables false
/- Proofs: contract: Check of the program. -/
set_option linter.unusedSimpArgs false
set_option linter.unusedVariables false
namespace Go.Proofs.YthgcooppjhcgcaaDoor
namespace Am
attribute [local irreducible] proofs_Check_c71
end Am
end Go.Proofs.YthgcooppjhcgcaaDoor
end
section
set_option linter.unusedSimpArgs false
set_option linter.unusedVariables false
/- Proofs: contract: the law's own example. -/
set_option linter.unusedSimpArgs false
set_option linter.unusedVariables false
namespace Go.Proofs.YthgcooppjhcgcaaDoor
namespace Am
theorem split2 : splitS 2 = 1 := by decide
theorem split4 : splitS 4 = 2 := by decide
theorem ProofP.is {σ σ' : Store} {hs : List (List UInt8)} {m : Int} {v : AV} (h : ProofP σ hs m v σ') : ∃ v2, v = .tup [v2, .int .i64 (proofE hs m)] ∧ OwnN 32 σ σ' v2 (hrows (proofL hs m)) := h
end Am
end Go.Proofs.YthgcooppjhcgcaaDoor
end
section
set_option linter.unusedSimpArgs false
set_option linter.unusedVariables false
/- Proofs: the law ProofsProof: its contract. -/
set_option linter.unusedSimpArgs false
set_option linter.unusedVariables false
namespace Go.Proofs.YthgcooppjhcgcaaDoor
namespace Am
def hashTy : Ty := .row (List.replicate 32 (.int .u8))
theorem bytes_of : ∀ (n : Nat) (cs : List AV), ShRow (List.replicate n (.int .u8)) cs → ∃ h : List UInt8, cs = byteEsC h ∧ h.length = n
  | 0, cs, h => ⟨[], by simpa only [List.replicate_zero, ShRow, byteEsC, List.map_nil] using h, rfl⟩
  | n + 1, cs, h => by
    simp only [List.replicate_succ, ShRow, ShC] at h
    obtain ⟨_, b, rfl, ⟨x, rfl, h1, h2⟩, h3⟩ := h
    obtain ⟨l, rfl, hl⟩ := bytes_of n b h3
    simp only [IntKind.min, IntKind.max, IntKind.signed, IntKind.bits] at h1 h2
    simp at h1 h2
    refine ⟨UInt8.ofNat x.toNat :: l, ?_, by simp [hl]⟩
    have : ((UInt8.ofNat x.toNat).toNat : Int) = x := by rw [UInt8.toNat_ofNat']; omega
    simp only [byteEsC, List.map_cons, List.singleton_append, this]
theorem hash_of {cs : List AV} (h : ShC hashTy cs) : ∃ l : List UInt8, cs = byteEsC l ∧ l.length = 32 := bytes_of 32 cs (by simpa only [hashTy, ShC] using h)
theorem hashes_of : ∀ (es : List (List AV)), (∀ x ∈ es, ShC hashTy x) → ∃ hs, es = hrows hs ∧ H32 hs
  | [], _ => ⟨[], rfl, fun _ h => by simp at h⟩
  | e :: es, h => by
    obtain ⟨l, rfl, hl⟩ := hash_of (h e (by simp))
    obtain ⟨hs, rfl, hH⟩ := hashes_of es (fun x hx => h x (by simp [hx]))
    refine ⟨l :: hs, rfl, fun x hx => ?_⟩
    rcases List.mem_cons.1 hx with rfl | hx
    · exact hl
    · exact hH x hx
/-- A slice of hashes, as_ an argument. -/
theorem hsl_of {a : AV} (h : Sh (.sl 32 hashTy) a) : ∃ hs, SlV 32 (hrows hs) a ∧ H32 hs ∧ hs.length ≤ maxLen := by
  simp only [Sh, ShC] at h
  rcases h with h | ⟨es, h, hl, _, h2⟩
  · cases h
    exact ⟨[], .inl ⟨rfl, rfl⟩, fun _ h => by simp at h, Nat.zero_le _⟩
  · cases h
    obtain ⟨hs, rfl, hH⟩ := hashes_of es h2
    exact ⟨hs, .inr ⟨false, rfl⟩, hH, by rwa [hrows_len] at hl⟩
theorem i64_of {a : AV} (h : Sh (.int .i64) a) : ∃ n : Int, a = .int .i64 n ∧ -9223372036854775808 ≤ n ∧ n ≤ 9223372036854775807 := by
  simp only [Sh, ShC] at h
  obtain ⟨n, h, h1, h2⟩ := h
  cases h
  simp only [IntKind.min, IntKind.max, IntKind.signed, IntKind.bits] at h1 h2
  simp at h1 h2
  exact ⟨n, rfl, h1, h2⟩
theorem RefP.ex (σ : Store) (hs : List (List UInt8)) (m : Int) : ∃ v σ', RefP σ hs m v σ' := ⟨_, _, _, rfl, .inl (own_is σ 32 _)⟩
end Am
end Go.Proofs.YthgcooppjhcgcaaDoor
end
section
set_option linter.unusedSimpArgs false
set_option linter.unusedVariables false
/- Hashes as_ one thing each: 32 bytes, hidden behind a name. -/
set_option linter.unusedSimpArgs false
set_option linter.unusedVariables false
namespace Go.Proofs.YthgcooppjhcgcaaDoor
namespace Am
abbrev Hash := {l : List UInt8 // l.length = 32}
def hc (h : Hash) : List AV := byteEsC h.1
def hr (l : List Hash) : List (List AV) := l.map hc
def hb (l : List Hash) : List (List UInt8) := l.map (·.1)
theorem hb_H (l : List Hash) : H32 (hb l) := fun x hx => by
  simp only [hb, List.mem_map] at hx
  obtain ⟨h, _, rfl⟩ := hx
  exact h.2
theorem hb_len (l : List Hash) : (hb l).length = l.length := by simp [hb]
theorem hb_take (l : List Hash) (n : Nat) : (hb l).take n = hb (l.take n) := by simp [hb, List.map_take]
theorem hb_drop (l : List Hash) (n : Nat) : (hb l).drop n = hb (l.drop n) := by simp [hb, List.map_drop]
theorem hr_hb (l : List Hash) : hrows (hb l) = hr l := by simp [hrows, hb, hr, hc]
theorem hb_of : ∀ {l : List (List UInt8)}, H32 l → ∃ m : List Hash, l = hb m
  | [], _ => ⟨[], rfl⟩
  | x :: l, h => by
    obtain ⟨m, hm⟩ := hb_of (l := l) fun y hy => h y (by simp [hy])
    exact ⟨⟨x, h x (by simp)⟩ :: m, by simp [hb, hm]⟩
theorem hb_inj : ∀ {a b : List Hash}, hb a = hb b → a = b
  | [], [], _ => rfl
  | [], _ :: _, h => by simp [hb] at h
  | _ :: _, [], h => by simp [hb] at h
  | x :: a, y :: b, h => by
    simp only [hb, List.map_cons, List.cons.injEq] at h
    rw [Subtype.ext h.1, hb_inj (a := a) (b := b) h.2]
@[go_sem] theorem hc_len (h : Hash) : (hc h).length = 32 := by rw [hc, byteEsC_len, h.2]
@[go_sem] theorem hc_drop (h : Hash) : (hc h).drop 32 = [] := List.drop_of_length_le (by rw [hc_len]; decide)
@[go_sem] theorem hc_take (h : Hash) : (hc h).take 32 = hc h := List.take_of_length_le (by rw [hc_len]; decide)
@[go_sem] theorem hc_take_app (h : Hash) (l : List AV) : (hc h ++ l).take 32 = hc h := by
  have := hc_len h
  rw [List.take_append_of_le_length (by omega), hc_take]
@[go_sem] theorem hc_drop_app (h : Hash) (l : List AV) : (hc h ++ l).drop 32 = l := by
  have := hc_len h
  rw [List.drop_append_of_le_length (by omega), hc_drop, List.nil_append]
@[go_sem] theorem hc_eq (a b : Hash) : eqCells (hc a) (hc b) = decide (a = b) := by
  rw [hc, hc, eq_hash, Bool.eq_iff_iff]
  simp [Subtype.ext_iff]
@[go_sem] theorem hc_kinds (h : Hash) : (hc h).map kindOf = (List.replicate 32 (LK.i .u8)).map some := kinds32 h.2
@[go_sem] theorem hr_len (l : List Hash) : (hr l).length = l.length := by simp [hr]
@[go_sem] theorem hr_take (l : List Hash) (n : Nat) : (hr l).take n = hr (l.take n) := by simp [hr, List.map_take]
@[go_sem] theorem hr_drop (l : List Hash) (n : Nat) : (hr l).drop n = hr (l.drop n) := by simp [hr, List.map_drop]
@[go_sem] theorem hr_set (l : List Hash) (i : Nat) (h : Hash) : (hr l).set i (hc h) = hr (l.set i h) := by simp [hr, List.map_set]
theorem hr_app (a b : List Hash) : hr (a ++ b) = hr a ++ hr b := by simp [hr]
theorem hr_nil : hr [] = [] := rfl
theorem hr_nil_iff {l : List Hash} : hr l = [] ↔ l = [] := by simp [hr]
def zeroH : Hash := ⟨List.replicate 32 0, by simp⟩
def hd (l : List Hash) (i : Nat) : Hash := l.getD i zeroH
@[go_sem] theorem hr_get {l : List Hash} {i : Nat} (h : i < l.length) : (hr l)[i]? = some (hc (hd l i)) := by
  simp [hr, hd, List.getElem?_map, List.getElem?_eq_getElem h]
theorem hd_get {l : List Hash} {i : Nat} (h : i < l.length) : hd l i = l[i] := by simp [hd, h]
theorem rl_hc {k : Nat} (h : Hash) : RLs k (hc h) := rl_bytes _
theorem rlss_hr {k : Nat} (l : List Hash) : RLss k (hr l) := by rw [← hr_hb]; exact rlss_h _
theorem shs_hc (k : Nat) (h : Hash) : shs k (hc h) = hc h := shs_bytes k _
def nodeH (a b : Hash) : Hash := ⟨nodeS a.1 b.1, nodeS_len _ _⟩
def rootH (l : List Hash) : Hash := ⟨rootS (hb l), rootS_len (hb_H l)⟩
def shaH (s : List UInt8) : Hash := ⟨shaS s, shaS_len s⟩
theorem rootH_one (h : Hash) : rootH [h] = h := rfl
theorem rootH_two {l : List Hash} (h : 2 ≤ l.length) : rootH l = nodeH (rootH (l.take (splitS l.length))) (rootH (l.drop (splitS l.length))) := by
  apply Subtype.ext
  show rootS (hb l) = nodeS (rootS (hb _)) (rootS (hb _))
  rw [← hb_take, ← hb_drop]
  have := rootS_two (l := hb l) (by rw [hb_len]; exact h)
  rwa [hb_len] at this
theorem trees_Node_h (σ : Store) (a b : Hash) : ACallsTo TC 81 [.agg (hc a), .agg (hc b)] σ (.agg (hc (nodeH a b))) σ := trees_Node_to σ a.1 b.1 a.2 b.2
theorem ref_Node_h (σ : Store) (a b : Hash) : ACallsTo TC 89 [.agg (hc a), .agg (hc b)] σ (.agg (hc (nodeH a b))) σ := ref_Node_to σ a.1 b.1 a.2 b.2
theorem trees_Root_h (σ : Store) (l : List Hash) (x : AV) (hx : RdSl σ 32 (hr l) x) (hl : l.length < 1000000000) : ACallsTo TC 29 [x] σ (.agg (hc (rootH l))) σ :=
  trees_Root_rd σ (hb l) x (by rw [hr_hb]; exact hx) (hb_H l) (by rw [hb_len]; exact hl)
theorem Same_h (σ : Store) (A B : List Hash) (x y : AV) (hx : RdSl σ 32 (hr A) x) (hy : RdSl σ 32 (hr B) y) (hl : A.length < 1000000000) (hl2 : B.length < 1000000000) :
    ACallsTo TC 80 [x, y] σ (.bool (decide (A = B))) σ := by
  have := Same_rd σ (hb A) (hb B) x y (by rw [hr_hb]; exact hx) (by rw [hr_hb]; exact hy) (hb_H A) (hb_H B) (by rw [hb_len]; exact hl) (by rw [hb_len]; exact hl2)
  rwa [show decide (hb A = hb B) = decide (A = B) by rw [Bool.eq_iff_iff]; simp only [decide_eq_true_eq]; exact ⟨hb_inj, fun e => by rw [e]⟩] at this
theorem and_mask (a : Int) (j : Nat) (hj : j < 63) : intBin .and .i64 a ((2 ^ j - 1 : Nat) : Int) = some (.int .i64 (a % 2 ^ j)) := by
  have hp : 0 < 2 ^ j := Nat.pow_pos (by decide)
  have hlt : 2 ^ j < 2 ^ 63 := Nat.pow_lt_pow_right (by decide) hj
  have e64 : (2 : Nat) ^ 64 = 2 ^ j * 2 ^ (64 - j) := by rw [← Nat.pow_add]; congr 1; omega
  have h : (BitVec.ofInt IntKind.i64.bits a &&& BitVec.ofInt IntKind.i64.bits ((2 ^ j - 1 : Nat) : Int)).toNat = (a % 2 ^ j).toNat := by
    rw [BitVec.toNat_and, BitVec.toNat_ofInt, BitVec.toNat_ofInt]
    simp only [IntKind.bits]
    have e1 : (((2 ^ j - 1 : Nat) : Int) % ((2 ^ 64 : Nat) : Int)).toNat = 2 ^ j - 1 := by
      rw [Int.emod_eq_of_lt (by omega) (by omega)]; simp
    rw [e1, Nat.and_two_pow_sub_one_eq_mod]
    have e2 : 0 ≤ a % ((2 ^ 64 : Nat) : Int) := Int.emod_nonneg _ (by decide)
    have e3 : ((a % ((2 ^ 64 : Nat) : Int)).toNat : Int) = a % ((2 ^ 64 : Nat) : Int) := Int.toNat_of_nonneg e2
    have e4 : (((a % ((2 ^ 64 : Nat) : Int)).toNat % 2 ^ j : Nat) : Int) = a % 2 ^ j := by
      rw [Int.natCast_emod, e3, e64, Int.natCast_mul, Int.natCast_pow]
      exact Int.emod_emod_of_dvd _ ⟨_, rfl⟩
    rw [← e4, Int.toNat_natCast]
  have n0 : (2 : Int) ^ j ≠ 0 := by
    have h0 : ((2 ^ j : Nat) : Int) ≠ 0 := by omega
    rwa [Int.natCast_pow] at h0
  have n1 : 0 ≤ a % 2 ^ j := Int.emod_nonneg _ n0
  have n2 : a % 2 ^ j < ((2 ^ j : Nat) : Int) := by
    have := Int.emod_lt_of_pos a (b := ((2 ^ j : Nat) : Int)) (by omega)
    simpa using this
  simp only [intBin]
  rw [h, Int.toNat_of_nonneg n1, w_i64 ⟨by omega, by omega⟩]
/-- Some leaves. -/
def someHH (seed : UInt8) (i : Nat) : Hash := ⟨someH seed i, by simp [someH]⟩
def someL (seed : UInt8) (n : Nat) : List Hash := (List.range n).map (someHH seed)
theorem someL_hb (seed : UInt8) (n : Nat) : hb (someL seed n) = someS seed n := by simp [someL, hb, someS, someHH, Function.comp_def]
theorem Some_h (σ : Store) (n : Int) (seed : UInt8) (h : n < 1000000) : ACallsTo TC 79 [.int .i64 n, .int .u8 seed.toNat] σ (slVal 32 (hr (someL seed n.toNat))) σ := by
  have := Some_to σ n seed h
  rwa [← someL_hb, hr_hb] at this
theorem hsl_h {a : AV} (h : Sh (.sl 32 hashTy) a) : ∃ l : List Hash, SlV 32 (hr l) a ∧ l.length ≤ maxLen := by
  obtain ⟨hs, h1, h2, h3⟩ := hsl_of h
  obtain ⟨m, rfl⟩ := hb_of h2
  exact ⟨m, by rwa [hr_hb] at h1, by rwa [hb_len] at h3⟩
end Am
end Go.Proofs.YthgcooppjhcgcaaDoor
end
section
set_option linter.unusedSimpArgs false
set_option linter.unusedVariables false
/- Ranges: plain laws: trees side by side, and what is pushed behind them. -/
set_option linter.unusedSimpArgs false
set_option linter.unusedVariables false
namespace Go.Proofs.YthgcooppjhcgcaaDoor
namespace Am
/-- A tree behind others, the last one first. -/
def pushR : Nat → List Hash → Hash → List Hash
  | _, [], h => [h]
  | m, x :: rs, h => if m % 2 = 1 then pushR (m / 2) rs (nodeH x h) else h :: x :: rs
theorem pushR_even {m : Nat} {rs : List Hash} {h : Hash} (hm : m % 2 = 0) : pushR m rs h = h :: rs := by
  cases rs with
  | nil => rfl
  | cons x rs => simp [pushR, hm]
theorem pushR_odd {m : Nat} {rs : List Hash} {x h : Hash} (hm : m % 2 = 1) : pushR m (x :: rs) h = pushR (m / 2) rs (nodeH x h) := by simp [pushR, hm]
/-- Trees with their sizes, the last one first. -/
def trR : Nat → Nat → Nat → List Hash → List (Nat × Hash)
  | 0, _, _, _ => []
  | f + 1, k, m, rs => if m % 2 = 1 then (match rs with | x :: rs => (k, x) :: trR f (2 * k) (m / 2) rs | [] => []) else trR f (2 * k) (m / 2) rs
def joinL : Nat × Hash → List (Nat × Hash) → List (Nat × Hash)
  | t, [] => [t]
  | t, u :: l => if t.1 = u.1 then joinL (2 * t.1, nodeH u.2 t.2) l else t :: u :: l
theorem trR_ge : ∀ (f k m : Nat) (rs : List Hash), ∀ u ∈ trR f k m rs, k ≤ u.1
  | 0, _, _, _, u, h => by simp [trR] at h
  | f + 1, k, m, rs, u, h => by
    simp only [trR] at h
    split at h
    · split at h
      · rcases List.mem_cons.1 h with rfl | h
        · exact Nat.le_refl _
        · have := trR_ge f _ _ _ u h; omega
      · simp at h
    · have := trR_ge f _ _ _ u h; omega
theorem joinL_ne {t : Nat × Hash} {l : List (Nat × Hash)} (h : ∀ u ∈ l, t.1 < u.1) : joinL t l = t :: l := by
  cases l with
  | nil => rfl
  | cons u l => simp only [joinL]; rw [if_neg (by have := h u (by simp); omega)]
theorem join_push : ∀ (f k m : Nat) (rs : List Hash) (h : Hash), 0 < k → m + 1 < 2 ^ f → rs.length = pc f m → joinL (k, h) (trR f k m rs) = trR f k (m + 1) (pushR m rs h)
  | 0, _, _, _, _, _, h, _ => by simp at h
  | f + 1, k, m, rs, h, hk, hm, hl => by
    have e2 := Nat.pow_succ (n := 2) (m := f)
    simp only [pc] at hl
    by_cases h1 : m % 2 = 1
    · match rs, hl with
      | [], hl => simp at hl; omega
      | x :: rs, hl =>
        simp only [List.length_cons] at hl
        have ih := join_push f (2 * k) (m / 2) rs (nodeH x h) (by omega) (by omega) (by omega)
        rw [pushR_odd h1]
        simp only [trR, h1, if_true]
        rw [if_neg (by omega), show (m + 1) / 2 = m / 2 + 1 by omega, ← ih]
        simp [joinL]
    · rw [pushR_even (by omega)]
      simp only [trR]
      rw [if_neg h1, if_pos (by omega), show (m + 1) / 2 = m / 2 by omega]
      refine joinL_ne fun u hu => ?_
      have := trR_ge _ _ _ _ u hu
      simp only; omega
theorem push_len : ∀ (f m : Nat) (rs : List Hash) (h : Hash), m + 1 < 2 ^ f → rs.length = pc f m → (pushR m rs h).length = pc f (m + 1)
  | 0, _, _, _, h, _ => by simp at h
  | f + 1, m, rs, h, hm, hl => by
    have e2 := Nat.pow_succ (n := 2) (m := f)
    simp only [pc] at hl ⊢
    by_cases h1 : m % 2 = 1
    · match rs, hl with
      | [], hl => simp at hl; omega
      | x :: rs, hl =>
        simp only [List.length_cons] at hl
        rw [pushR_odd h1, push_len f (m / 2) rs (nodeH x h) (by omega) (by omega), show (m + 1) / 2 = m / 2 + 1 by omega]
        omega
    · rw [pushR_even (by omega), List.length_cons, show (m + 1) / 2 = m / 2 by omega]
      omega
theorem trR_two (j f k m : Nat) (rs : List Hash) : trR (f + j) k (2 ^ j * m) rs = trR f (2 ^ j * k) m rs := by
  induction j generalizing k with
  | zero => simp
  | succ j ih =>
    have e2 := Nat.pow_succ (n := 2) (m := j)
    show trR ((f + j) + 1) k _ rs = _
    simp only [trR]
    have h1 : 2 ^ (j + 1) * m = 2 * (2 ^ j * m) := by rw [e2, Nat.mul_comm (2 ^ j) 2, Nat.mul_assoc]
    rw [h1, if_neg (by omega), Nat.mul_div_cancel_left _ (by decide), ih, e2, Nat.mul_assoc]
theorem pc_two (j f m : Nat) : pc (f + j) (2 ^ j * m) = pc f m := by
  induction j with
  | zero => simp
  | succ j ih =>
    have h1 : 2 ^ (j + 1) * m = 2 * (2 ^ j * m) := by rw [Nat.pow_succ, Nat.mul_comm (2 ^ j) 2, Nat.mul_assoc]
    show pc ((f + j) + 1) _ = _
    simp only [pc]
    rw [h1, Nat.mul_div_cancel_left _ (by decide), ih]; omega
theorem trR_sum : ∀ (f k m : Nat) (rs : List Hash), m < 2 ^ f → rs.length = pc f m → ((trR f k m rs).map (·.1)).sum = k * m ∧ (trR f k m rs).map (·.2) = rs
  | 0, k, m, rs, h, hl => by
    simp at h; subst h
    simp [pc] at hl
    simp [trR, hl]
  | f + 1, k, m, rs, h, hl => by
    have e2 := Nat.pow_succ (n := 2) (m := f)
    simp only [pc] at hl
    by_cases h1 : m % 2 = 1
    · match rs, hl with
      | [], hl => simp at hl; omega
      | x :: rs, hl =>
        simp only [List.length_cons] at hl
        obtain ⟨i1, i2⟩ := trR_sum f (2 * k) (m / 2) rs (by omega) (by omega)
        simp only [trR, h1, if_true, List.map_cons, List.sum_cons, i1, i2]
        refine ⟨?_, trivial⟩
        have : m = 2 * (m / 2) + 1 := by omega
        generalize m / 2 = q at *
        subst this
        rw [Nat.mul_add, Nat.mul_one, Nat.add_comm, Nat.mul_comm 2 k, Nat.mul_assoc]
    · obtain ⟨i1, i2⟩ := trR_sum f (2 * k) (m / 2) rs (by omega) (by omega)
      simp only [trR]
      rw [if_neg h1]
      refine ⟨?_, i2⟩
      rw [i1]
      have : m = 2 * (m / 2) := by omega
      generalize m / 2 = q at *
      subst this
      rw [Nat.mul_comm 2 k, Nat.mul_assoc]
/-- Leaves behind a range, one by one. -/
def extR : Nat → List Hash → List Hash → List Hash
  | _, rs, [] => rs
  | n, rs, x :: l => extR (n + 1) (pushR n rs x) l
theorem extR_app : ∀ (n : Nat) (rs l m : List Hash), extR n rs (l ++ m) = extR (n + l.length) (extR n rs l) m
  | n, rs, [], m => by simp [extR]
  | n, rs, x :: l, m => by
    simp only [List.cons_append, extR, List.length_cons]
    rw [extR_app (n + 1), show n + 1 + l.length = n + (l.length + 1) by omega]
theorem extR_len : ∀ (f n : Nat) (rs l : List Hash), n + l.length < 2 ^ f → rs.length = pc f n → (extR n rs l).length = pc f (n + l.length)
  | _, _, _, [], _, h => h
  | f, n, rs, x :: l, h, hl => by
    simp only [List.length_cons] at h ⊢
    simp only [extR]
    rw [extR_len f (n + 1) _ l (by omega) (push_len f n rs x (by omega) hl), show n + 1 + l.length = n + (l.length + 1) by omega]
/-- The root of trees. -/
def rootR : List Hash → Hash
  | [] => shaH []
  | x :: rs => rs.foldl (fun o h => nodeH h o) x
end Am
end Go.Proofs.YthgcooppjhcgcaaDoor
end
section
set_option linter.unusedSimpArgs false
set_option linter.unusedVariables false
/- Ranges: plain laws: the parts of leaves that stand behind others. -/
set_option linter.unusedSimpArgs false
set_option linter.unusedVariables false
namespace Go.Proofs.YthgcooppjhcgcaaDoor
namespace Am
/-- How many leaves the next part has, of d behind n. -/
def StepIs (n d k : Nat) : Prop := ∃ t, k = 2 ^ t ∧ 2 ^ t ≤ d ∧ 2 ^ t ∣ n ∧ ¬ (2 ^ (t + 1) ≤ d ∧ 2 ^ (t + 1) ∣ n)
theorem StepIs.uniq {n d k k' : Nat} (h : StepIs n d k) (h' : StepIs n d k') : k = k' := by
  obtain ⟨t, rfl, a1, a2, a3⟩ := h
  obtain ⟨u, rfl, b1, b2, b3⟩ := h'
  rcases Nat.lt_trichotomy t u with hl | rfl | hl
  · exact absurd ⟨Nat.le_trans (Nat.pow_le_pow_right (by decide) hl) b1, Nat.dvd_trans (Nat.pow_dvd_pow 2 hl) b2⟩ a3
  · rfl
  · exact absurd ⟨Nat.le_trans (Nat.pow_le_pow_right (by decide) hl) a1, Nat.dvd_trans (Nat.pow_dvd_pow 2 hl) a2⟩ b3
def stepF : Nat → Nat → Nat → Nat → Nat
  | 0, _, _, k => k
  | f + 1, n, d, k => if 2 * k ≤ d ∧ n % (2 * k) = 0 then stepF f n d (2 * k) else k
theorem stepF_is : ∀ (f n d t : Nat), d < 2 ^ (f + t) → 2 ^ t ≤ d → 2 ^ t ∣ n → StepIs n d (stepF f n d (2 ^ t))
  | 0, n, d, t, h, h1, _ => by rw [Nat.zero_add] at h; omega
  | f + 1, n, d, t, h, h1, h2 => by
    have e2 : 2 * 2 ^ t = 2 ^ (t + 1) := by rw [Nat.pow_succ, Nat.mul_comm]
    simp only [stepF]
    rw [e2]
    split
    · rename_i hc
      exact stepF_is f n d (t + 1) (by rw [show f + (t + 1) = f + 1 + t by omega]; exact h) hc.1 (Nat.dvd_of_mod_eq_zero hc.2)
    · rename_i hc
      exact ⟨t, rfl, h1, h2, fun hh => hc ⟨hh.1, Nat.mod_eq_zero_of_dvd hh.2⟩⟩
def stepS (n d : Nat) : Nat := stepF 13 n d 1
theorem stepS_is {n d : Nat} (h : d < 8192) (h0 : 0 < d) : StepIs n d (stepS n d) := stepF_is 13 n d 0 h h0 ⟨n, by simp⟩
theorem stepS_pos {n d : Nat} (h : d < 8192) (h0 : 0 < d) : 0 < stepS n d ∧ stepS n d ≤ d := by
  obtain ⟨t, e, h1, _⟩ := stepS_is (n := n) h h0
  rw [e]; exact ⟨Nat.pow_pos (by decide), h1⟩
/-- How many leaves each part has. -/
def partsF : Nat → Nat → Nat → List Nat
  | 0, _, _ => []
  | f + 1, n, d => if d = 0 then [] else stepS n d :: partsF f (n + stepS n d) (d - stepS n d)
def partsS (n d : Nat) : List Nat := partsF d n d
theorem partsF_eq : ∀ (f g n d : Nat), d ≤ f → d ≤ g → d < 8192 → partsF f n d = partsF g n d
  | 0, 0, _, _, _, _, _ => rfl
  | 0, g + 1, n, d, h, _, _ => by simp only [partsF]; rw [if_pos (by omega)]
  | f + 1, 0, n, d, _, h, _ => by simp only [partsF]; rw [if_pos (by omega)]
  | f + 1, g + 1, n, d, h, h', hd => by
    simp only [partsF]
    by_cases h0 : d = 0
    · rw [if_pos h0, if_pos h0]
    · obtain ⟨s1, s2⟩ := stepS_pos (n := n) hd (by omega)
      rw [if_neg h0, if_neg h0, partsF_eq f g _ _ (by omega) (by omega) (by omega)]
theorem partsS_zero (n : Nat) : partsS n 0 = [] := rfl
theorem partsS_pos {n d : Nat} (h : d < 8192) (h0 : 0 < d) : partsS n d = stepS n d :: partsS (n + stepS n d) (d - stepS n d) := by
  obtain ⟨s1, s2⟩ := stepS_pos (n := n) h h0
  unfold partsS
  rw [show partsF d n d = partsF ((d - 1) + 1) n d by congr 1; omega]
  simp only [partsF]
  rw [if_neg (by omega), partsF_eq (d - 1) (d - stepS n d) _ _ (by omega) (Nat.le_refl _) (by omega)]
/-- The roots of parts. -/
def rootsL : List Nat → List Hash → List Hash
  | [], _ => []
  | k :: ks, l => rootH (l.take k) :: rootsL ks (l.drop k)
/-- Parts behind a range. -/
def mergeL : Nat → List Hash → List Nat → List Hash → List Hash
  | _, rs, [], _ => rs
  | n, rs, k :: ks, p => mergeL (n + k) (pushR (n / k) rs (hd p 0)) ks (p.drop 1)
theorem merge_len : ∀ (f n d : Nat) (rs p : List Hash), d ≤ f → n + d < 8192 → rs.length = pc 13 n → (mergeL n rs (partsS n d) p).length = pc 13 (n + d)
  | 0, n, d, rs, p, h, _, hl => by obtain rfl : d = 0 := by omega
                                   exact hl
  | f + 1, n, d, rs, p, h, hd', hl => by
    by_cases h0 : d = 0
    · subst h0; exact hl
    · obtain ⟨s1, s2⟩ := stepS_pos (n := n) (d := d) (by omega) (by omega)
      obtain ⟨t, e, h1, ⟨q, hq⟩, _⟩ := stepS_is (n := n) (d := d) (by omega) (by omega)
      rw [partsS_pos (by omega) (by omega)]
      simp only [mergeL]
      have hp : 0 < 2 ^ t := Nat.pow_pos (by decide)
      have eq_ : n / stepS n d = q := by
        rw [e, hq]
        exact Nat.mul_div_cancel_left _ hp
      have ht : t ≤ 12 := by
        rcases Nat.lt_or_ge t 13 with h | h
        · omega
        · have := Nat.pow_le_pow_right (n := 2) (by decide) h
          omega
      have e13 : (2 : Nat) ^ 13 = 2 ^ t * 2 ^ (13 - t) := by rw [← Nat.pow_add]; congr 1; omega
      have hpl := push_len (13 - t) q rs (hd p 0) (by
        have hh : 2 ^ t * (q + 1) < 2 ^ t * 2 ^ (13 - t) := by rw [← e13, Nat.mul_add, ← hq]; omega
        exact Nat.lt_of_mul_lt_mul_left hh) (by
        have := pc_two t (13 - t) q
        rw [← hq, show 13 - t + t = 13 by omega] at this
        rw [hl, this])
      have := merge_len f (n + stepS n d) (d - stepS n d) (pushR (n / stepS n d) rs (hd p 0)) (p.drop 1) (by omega) (by omega) (by
        rw [eq_, hpl]
        have := pc_two t (13 - t) (q + 1)
        rw [show 13 - t + t = 13 by omega] at this
        rw [← this, Nat.mul_add, ← hq, e]; simp)
      rw [this]; congr 1; omega
end Am
end Go.Proofs.YthgcooppjhcgcaaDoor
end
section
set_option linter.unusedSimpArgs false
set_option linter.unusedVariables false
/- Abstract code. (Printed by wip/gen.) -/
set_option maxRecDepth 10000
namespace Go.Proofs.YthgcooppjhcgcaaDoor
namespace Am



@[go_sem] def speculumlaw05_RangesTell_r0 : List AIns := [
  ⟨some 3, none, .no, .box (.t 0)⟩,
  ⟨some 6, none, .no, .mv (.v (.bool false))⟩]
@[go_sem] def speculumlaw05_RangesTell_r1 : List AIns := [
  ⟨some 22, none, .no, .load true 2 (.t 3)⟩,
  ⟨some 23, none, .no, .call (.v (.fn 14 [])) [(.t 22)]⟩,
  ⟨some 24, none, .no, .mv (.t 23)⟩,
  ⟨some 25, some (24, false), .no, .mv (.t 1)⟩,
  ⟨some 26, some (24, false), .no, .lenSl (.t 25)⟩,
  ⟨some 27, some (24, false), .no, .bin .gtr .none (.t 26) (.v (.int .i64 (60)))⟩,
  ⟨some 28, none, .no, .pick (.t 24) (.v (.bool true)) (.t 27)⟩]
@[go_sem] def speculumlaw05_RangesTell_r2 : List AIns := [
  ⟨some 29, none, .no, .call (.v (.fn 15 [])) []⟩,
  ⟨some 6, none, .no, .mv (.t 29)⟩]
def speculumlaw05_RangesTell_c3 : ACode := .seq (.reg speculumlaw05_RangesTell_r2) .ret
def speculumlaw05_RangesTell_c4 : ACode := .cond (.t 28) speculumlaw05_RangesTell_c3 .skip
def speculumlaw05_RangesTell_c5 : ACode := .seq (.reg speculumlaw05_RangesTell_r1) speculumlaw05_RangesTell_c4
@[go_sem] def speculumlaw05_RangesTell_r6 : List AIns := [
  ⟨some 30, none, .no, .fa 0 (.t 3)⟩,
  ⟨some 31, none, .rd, .load false 1 (.t 30)⟩,
  ⟨some 32, none, .no, .fa 1 (.t 3)⟩,
  ⟨some 33, none, .rd, .load false 1 (.t 32)⟩,
  ⟨some 34, none, .ef, .app 32 (.v .nilsl) (.t 33)⟩,
  ⟨some 35, none, .no, .build [(.int .i64 (0)), .nilsl] [(0, 1, (.t 31)), (1, 1, (.t 34))]⟩,
  ⟨some 7, none, .ef, .alloc [(.int .i64 (0)), .nilsl]⟩,
  ⟨none, none, .no, .store 2 (.t 7) (.t 35)⟩]
@[go_sem] def speculumlaw05_RangesTell_r7 : List AIns := [
  ⟨some 30, none, .no, .fa 0 (.t 3)⟩,
  ⟨some 31, none, .rd, .load false 1 (.t 30)⟩,
  ⟨some 32, none, .no, .fa 1 (.t 3)⟩,
  ⟨some 33, none, .rd, .load false 1 (.t 32)⟩,
  ⟨some 7, none, .ef, .alloc [(.int .i64 (0)), .nilsl]⟩,
  ⟨some 34, none, .ef, .app 32 (.v .nilsl) (.t 33)⟩,
  ⟨some 35, none, .no, .build [(.int .i64 (0)), .nilsl] [(0, 1, (.t 31)), (1, 1, (.t 34))]⟩,
  ⟨none, none, .no, .store 2 (.t 7) (.t 35)⟩]
@[go_sem] def speculumlaw05_RangesTell_r8 : List AIns := [
  ⟨some 37, none, .no, .load true 2 (.t 7)⟩,
  ⟨some 38, none, .no, .mv (.t 1)⟩,
  ⟨some 39, none, .no, .call (.v (.fn 16 [])) [(.t 37), (.t 38)]⟩,
  ⟨some 36, none, .no, .mv (.t 39)⟩,
  ⟨some 40, none, .no, .ext 0 (.t 36)⟩,
  ⟨some 41, none, .no, .ext 1 (.t 36)⟩,
  ⟨some 8, none, .no, .alloc [(.int .i64 (0)), .nilsl]⟩,
  ⟨none, none, .no, .store 2 (.t 8) (.t 40)⟩,
  ⟨some 9, none, .no, .mv (.t 41)⟩]
@[go_sem] def speculumlaw05_RangesTell_r9 : List AIns := [
  ⟨some 43, none, .no, .load true 2 (.t 3)⟩,
  ⟨some 44, none, .no, .mv (.t 1)⟩,
  ⟨some 45, none, .no, .call (.v (.fn 17 [])) [(.t 43), (.t 44)]⟩,
  ⟨some 42, none, .no, .mv (.t 45)⟩,
  ⟨some 46, none, .no, .ext 0 (.t 42)⟩,
  ⟨some 47, none, .no, .ext 1 (.t 42)⟩,
  ⟨some 10, none, .no, .alloc [(.int .i64 (0)), .nilsl]⟩,
  ⟨none, none, .no, .store 2 (.t 10) (.t 46)⟩,
  ⟨some 11, none, .no, .mv (.t 47)⟩]
@[go_sem] def speculumlaw05_RangesTell_r10 : List AIns := [
  ⟨some 49, none, .no, .load true 2 (.t 7)⟩,
  ⟨some 50, none, .no, .call (.v (.fn 18 [])) [(.t 49)]⟩,
  ⟨some 48, none, .no, .mv (.t 50)⟩,
  ⟨some 51, none, .no, .ext 0 (.t 48)⟩,
  ⟨some 52, none, .no, .ext 1 (.t 48)⟩,
  ⟨some 12, none, .no, .alloc [(.int .u8 (0)), (.int .u8 (0)), (.int .u8 (0)), (.int .u8 (0)), (.int .u8 (0)), (.int .u8 (0)), (.int .u8 (0)), (.int .u8 (0)), (.int .u8 (0)), (.int .u8 (0)), (.int .u8 (0)), (.int .u8 (0)), (.int .u8 (0)), (.int .u8 (0)), (.int .u8 (0)), (.int .u8 (0)), (.int .u8 (0)), (.int .u8 (0)), (.int .u8 (0)), (.int .u8 (0)), (.int .u8 (0)), (.int .u8 (0)), (.int .u8 (0)), (.int .u8 (0)), (.int .u8 (0)), (.int .u8 (0)), (.int .u8 (0)), (.int .u8 (0)), (.int .u8 (0)), (.int .u8 (0)), (.int .u8 (0)), (.int .u8 (0))]⟩,
  ⟨none, none, .no, .store 32 (.t 12) (.t 51)⟩,
  ⟨some 13, none, .no, .mv (.t 52)⟩]
@[go_sem] def speculumlaw05_RangesTell_r11 : List AIns := [
  ⟨some 54, none, .no, .load true 2 (.t 3)⟩,
  ⟨some 55, none, .no, .call (.v (.fn 19 [])) [(.t 54)]⟩,
  ⟨some 53, none, .no, .mv (.t 55)⟩,
  ⟨some 56, none, .no, .ext 0 (.t 53)⟩,
  ⟨some 57, none, .no, .ext 1 (.t 53)⟩,
  ⟨some 14, none, .no, .alloc [(.int .u8 (0)), (.int .u8 (0)), (.int .u8 (0)), (.int .u8 (0)), (.int .u8 (0)), (.int .u8 (0)), (.int .u8 (0)), (.int .u8 (0)), (.int .u8 (0)), (.int .u8 (0)), (.int .u8 (0)), (.int .u8 (0)), (.int .u8 (0)), (.int .u8 (0)), (.int .u8 (0)), (.int .u8 (0)), (.int .u8 (0)), (.int .u8 (0)), (.int .u8 (0)), (.int .u8 (0)), (.int .u8 (0)), (.int .u8 (0)), (.int .u8 (0)), (.int .u8 (0)), (.int .u8 (0)), (.int .u8 (0)), (.int .u8 (0)), (.int .u8 (0)), (.int .u8 (0)), (.int .u8 (0)), (.int .u8 (0)), (.int .u8 (0))]⟩,
  ⟨none, none, .no, .store 32 (.t 14) (.t 56)⟩,
  ⟨some 15, none, .no, .mv (.t 57)⟩]
@[go_sem] def speculumlaw05_RangesTell_r12 : List AIns := [
  ⟨some 58, none, .rd, .load true 2 (.t 8)⟩,
  ⟨some 59, none, .rd, .load true 2 (.t 10)⟩,
  ⟨some 60, none, .no, .call (.v (.fn 20 [])) [(.t 58), (.t 59)]⟩,
  ⟨some 61, none, .no, .un .not (.t 60)⟩,
  ⟨some 62, none, .no, .mv (.t 61)⟩,
  ⟨some 63, some (62, false), .no, .mv (.t 9)⟩,
  ⟨some 64, some (62, false), .no, .mv (.t 11)⟩,
  ⟨some 65, some (62, false), .no, .bin .neq .none (.t 63) (.t 64)⟩,
  ⟨some 66, none, .no, .pick (.t 62) (.v (.bool true)) (.t 65)⟩,
  ⟨some 67, none, .no, .mv (.t 66)⟩,
  ⟨some 68, some (67, false), .rd, .load true 32 (.t 12)⟩,
  ⟨some 69, some (67, false), .rd, .load true 32 (.t 14)⟩,
  ⟨some 70, some (67, false), .no, .bin .neq (.agg (List.replicate 32 (.i .u8) ++ [])) (.t 68) (.t 69)⟩,
  ⟨some 71, none, .no, .pick (.t 67) (.v (.bool true)) (.t 70)⟩,
  ⟨some 72, none, .no, .mv (.t 71)⟩,
  ⟨some 73, some (72, false), .no, .mv (.t 13)⟩,
  ⟨some 74, some (72, false), .no, .mv (.t 15)⟩,
  ⟨some 75, some (72, false), .no, .bin .neq .none (.t 73) (.t 74)⟩,
  ⟨some 76, none, .no, .pick (.t 72) (.v (.bool true)) (.t 75)⟩,
  ⟨some 77, none, .no, .mv (.t 76)⟩,
  ⟨some 78, some (77, false), .rd, .load true 2 (.t 7)⟩,
  ⟨some 79, some (77, false), .ef, .call (.v (.fn 21 [])) [(.t 78)]⟩,
  ⟨some 80, some (77, false), .rd, .load true 2 (.t 3)⟩,
  ⟨some 81, some (77, false), .no, .call (.v (.fn 22 [])) [(.t 80)]⟩,
  ⟨some 82, some (77, false), .no, .bin .neq .bool (.t 79) (.t 81)⟩,
  ⟨some 83, none, .no, .pick (.t 77) (.v (.bool true)) (.t 82)⟩]
@[go_sem] def speculumlaw05_RangesTell_r13 : List AIns := [
  ⟨some 6, none, .no, .mv (.v (.bool false))⟩]
def speculumlaw05_RangesTell_c14 : ACode := .seq (.reg speculumlaw05_RangesTell_r13) .ret
def speculumlaw05_RangesTell_c15 : ACode := .cond (.t 83) speculumlaw05_RangesTell_c14 .skip
def speculumlaw05_RangesTell_c16 : ACode := .seq (.reg speculumlaw05_RangesTell_r12) speculumlaw05_RangesTell_c15
@[go_sem] def speculumlaw05_RangesTell_r17 : List AIns := [
  ⟨some 16, none, .no, .mv (.v (.int .i64 (0)))⟩]
@[go_sem] def speculumlaw05_RangesTell_r18 : List AIns := [
  ⟨some 84, none, .no, .mv (.t 16)⟩,
  ⟨some 85, none, .no, .bin .lss .none (.t 84) (.v (.int .i64 (3)))⟩]
def speculumlaw05_RangesTell_c19 : ACode := .cond (.t 85) .skip (.exit 0)
def speculumlaw05_RangesTell_c20 : ACode := .seq (.reg speculumlaw05_RangesTell_r18) speculumlaw05_RangesTell_c19
@[go_sem] def speculumlaw05_RangesTell_r21 : List AIns := [
  ⟨some 88, none, .no, .mv (.t 2)⟩,
  ⟨some 17, none, .no, .mv (.t 88)⟩]
@[go_sem] def speculumlaw05_RangesTell_r22 : List AIns := [
  ⟨some 89, none, .no, .mv (.t 16)⟩,
  ⟨some 90, none, .no, .bin .eql .none (.t 89) (.v (.int .i64 (1)))⟩,
  ⟨some 91, none, .no, .mv (.t 90)⟩,
  ⟨some 92, some (91, true), .no, .fa 0 (.t 3)⟩,
  ⟨some 93, some (91, true), .no, .load false 1 (.t 92)⟩,
  ⟨some 94, some (91, true), .no, .bin .lss .none (.t 93) (.v (.int .i64 (5000)))⟩,
  ⟨some 95, none, .no, .pick (.t 91) (.t 94) (.v (.bool false))⟩]
@[go_sem] def speculumlaw05_RangesTell_r23 : List AIns := [
  ⟨some 96, none, .no, .fa 0 (.t 3)⟩,
  ⟨some 97, none, .no, .load false 1 (.t 96)⟩,
  ⟨some 98, none, .no, .mv (.t 1)⟩,
  ⟨some 99, none, .no, .lenSl (.t 98)⟩,
  ⟨some 100, none, .no, .bin .add .none (.t 97) (.t 99)⟩,
  ⟨some 17, none, .no, .mv (.t 100)⟩]
def speculumlaw05_RangesTell_c24 : ACode := .cond (.t 95) (.reg speculumlaw05_RangesTell_r23) .skip
def speculumlaw05_RangesTell_c25 : ACode := .seq (.reg speculumlaw05_RangesTell_r22) speculumlaw05_RangesTell_c24
@[go_sem] def speculumlaw05_RangesTell_r26 : List AIns := [
  ⟨some 101, none, .no, .mv (.t 16)⟩,
  ⟨some 102, none, .no, .bin .eql .none (.t 101) (.v (.int .i64 (2)))⟩]
@[go_sem] def speculumlaw05_RangesTell_r27 : List AIns := [
  ⟨some 103, none, .no, .mv (.t 2)⟩,
  ⟨some 104, none, .no, .bin .and .none (.t 103) (.v (.int .i64 (4095)))⟩,
  ⟨some 105, none, .no, .bin .add .none (.v (.int .i64 (1))) (.t 104)⟩,
  ⟨some 17, none, .no, .mv (.t 105)⟩]
def speculumlaw05_RangesTell_c28 : ACode := .cond (.t 102) (.reg speculumlaw05_RangesTell_r27) .skip
def speculumlaw05_RangesTell_c29 : ACode := .seq (.reg speculumlaw05_RangesTell_r26) speculumlaw05_RangesTell_c28
@[go_sem] def speculumlaw05_RangesTell_r30 : List AIns := [
  ⟨some 107, none, .no, .load true 2 (.t 7)⟩,
  ⟨some 108, none, .no, .mv (.t 17)⟩,
  ⟨some 109, none, .no, .mv (.t 1)⟩,
  ⟨some 110, none, .no, .call (.v (.fn 23 [])) [(.t 107), (.t 108), (.t 109)]⟩,
  ⟨some 106, none, .no, .mv (.t 110)⟩,
  ⟨some 111, none, .no, .ext 0 (.t 106)⟩,
  ⟨some 112, none, .no, .ext 1 (.t 106)⟩,
  ⟨some 18, none, .no, .alloc [(.int .i64 (0)), .nilsl]⟩,
  ⟨none, none, .no, .store 2 (.t 18) (.t 111)⟩,
  ⟨some 19, none, .no, .mv (.t 112)⟩]
@[go_sem] def speculumlaw05_RangesTell_r31 : List AIns := [
  ⟨some 114, none, .no, .load true 2 (.t 3)⟩,
  ⟨some 115, none, .no, .mv (.t 17)⟩,
  ⟨some 116, none, .no, .mv (.t 1)⟩,
  ⟨some 117, none, .no, .call (.v (.fn 24 [])) [(.t 114), (.t 115), (.t 116)]⟩,
  ⟨some 113, none, .no, .mv (.t 117)⟩,
  ⟨some 118, none, .no, .ext 0 (.t 113)⟩,
  ⟨some 119, none, .no, .ext 1 (.t 113)⟩,
  ⟨some 20, none, .no, .alloc [(.int .i64 (0)), .nilsl]⟩,
  ⟨none, none, .no, .store 2 (.t 20) (.t 118)⟩,
  ⟨some 21, none, .no, .mv (.t 119)⟩]
@[go_sem] def speculumlaw05_RangesTell_r32 : List AIns := [
  ⟨some 120, none, .no, .load true 2 (.t 18)⟩,
  ⟨some 121, none, .no, .load true 2 (.t 20)⟩,
  ⟨some 122, none, .no, .call (.v (.fn 20 [])) [(.t 120), (.t 121)]⟩,
  ⟨some 123, none, .no, .un .not (.t 122)⟩,
  ⟨some 124, none, .no, .mv (.t 123)⟩,
  ⟨some 125, some (124, false), .no, .mv (.t 19)⟩,
  ⟨some 126, some (124, false), .no, .mv (.t 21)⟩,
  ⟨some 127, some (124, false), .no, .bin .neq .none (.t 125) (.t 126)⟩,
  ⟨some 128, none, .no, .pick (.t 124) (.v (.bool true)) (.t 127)⟩]
@[go_sem] def speculumlaw05_RangesTell_r33 : List AIns := [
  ⟨some 6, none, .no, .mv (.v (.bool false))⟩]
def speculumlaw05_RangesTell_c34 : ACode := .seq (.reg speculumlaw05_RangesTell_r33) .ret
def speculumlaw05_RangesTell_c35 : ACode := .cond (.t 128) speculumlaw05_RangesTell_c34 .skip
def speculumlaw05_RangesTell_c36 : ACode := .seq (.reg speculumlaw05_RangesTell_r32) speculumlaw05_RangesTell_c35
def speculumlaw05_RangesTell_c37 : ACode := .seq (.reg speculumlaw05_RangesTell_r31) speculumlaw05_RangesTell_c36
def speculumlaw05_RangesTell_c38 : ACode := .seq (.reg speculumlaw05_RangesTell_r30) speculumlaw05_RangesTell_c37
def speculumlaw05_RangesTell_c39 : ACode := .seq speculumlaw05_RangesTell_c29 speculumlaw05_RangesTell_c38
def speculumlaw05_RangesTell_c40 : ACode := .seq speculumlaw05_RangesTell_c25 speculumlaw05_RangesTell_c39
def speculumlaw05_RangesTell_c41 : ACode := .seq (.reg speculumlaw05_RangesTell_r21) speculumlaw05_RangesTell_c40
@[go_sem] def speculumlaw05_RangesTell_r42 : List AIns := [
  ⟨some 86, none, .no, .mv (.t 16)⟩,
  ⟨some 87, none, .no, .bin .add .none (.t 86) (.v (.int .i64 (1)))⟩,
  ⟨some 16, none, .no, .mv (.t 87)⟩]
def speculumlaw05_RangesTell_c43 : ACode := .seq (.block 1 speculumlaw05_RangesTell_c41) (.reg speculumlaw05_RangesTell_r42)
def speculumlaw05_RangesTell_c44 : ACode := .seq speculumlaw05_RangesTell_c20 speculumlaw05_RangesTell_c43
def speculumlaw05_RangesTell_c45 : ACode := .loop speculumlaw05_RangesTell_c44
def speculumlaw05_RangesTell_c46 : ACode := .block 0 speculumlaw05_RangesTell_c45
def speculumlaw05_RangesTell_c47 : ACode := .seq (.reg speculumlaw05_RangesTell_r17) speculumlaw05_RangesTell_c46
@[go_sem] def speculumlaw05_RangesTell_r48 : List AIns := [
  ⟨some 129, none, .no, .load true 2 (.t 7)⟩,
  ⟨some 130, none, .no, .load true 2 (.t 3)⟩,
  ⟨some 131, none, .no, .call (.v (.fn 20 [])) [(.t 129), (.t 130)]⟩,
  ⟨some 132, none, .no, .mv (.t 131)⟩,
  ⟨some 133, some (132, true), .no, .call (.v (.fn 15 [])) []⟩,
  ⟨some 134, none, .no, .pick (.t 132) (.t 133) (.v (.bool false))⟩,
  ⟨some 6, none, .no, .mv (.t 134)⟩]
def speculumlaw05_RangesTell_c49 : ACode := .seq (.reg speculumlaw05_RangesTell_r48) .ret
def speculumlaw05_RangesTell_c50 : ACode := .seq speculumlaw05_RangesTell_c47 speculumlaw05_RangesTell_c49
def speculumlaw05_RangesTell_c51 : ACode := .seq speculumlaw05_RangesTell_c16 speculumlaw05_RangesTell_c50
def speculumlaw05_RangesTell_c52 : ACode := .seq (.reg speculumlaw05_RangesTell_r11) speculumlaw05_RangesTell_c51
def speculumlaw05_RangesTell_c53 : ACode := .seq (.reg speculumlaw05_RangesTell_r10) speculumlaw05_RangesTell_c52
def speculumlaw05_RangesTell_c54 : ACode := .seq (.reg speculumlaw05_RangesTell_r9) speculumlaw05_RangesTell_c53
def speculumlaw05_RangesTell_c55 : ACode := .seq (.reg speculumlaw05_RangesTell_r8) speculumlaw05_RangesTell_c54
def speculumlaw05_RangesTell_c56 : ACode := .seq (.reg2 speculumlaw05_RangesTell_r6 speculumlaw05_RangesTell_r7) speculumlaw05_RangesTell_c55
def speculumlaw05_RangesTell_c57 : ACode := .seq speculumlaw05_RangesTell_c5 speculumlaw05_RangesTell_c56
def speculumlaw05_RangesTell_c58 : ACode := .seq (.reg speculumlaw05_RangesTell_r0) speculumlaw05_RangesTell_c57
theorem speculumlaw05_RangesTell_ok : cFn TC 3 = some (135, [.t 6], speculumlaw05_RangesTell_c58) := by kernel_rfl

@[go_sem] def speculumlaw05_Great_r0 : List AIns := [
  ⟨some 1, none, .no, .box (.t 0)⟩,
  ⟨some 2, none, .no, .mv (.v (.bool false))⟩]
@[go_sem] def speculumlaw05_Great_r1 : List AIns := [
  ⟨some 3, none, .no, .fa 1 (.t 1)⟩,
  ⟨some 4, none, .no, .load false 1 (.t 3)⟩,
  ⟨some 5, none, .no, .lenSl (.t 4)⟩,
  ⟨some 6, none, .no, .bin .gtr .none (.t 5) (.v (.int .i64 (100)))⟩,
  ⟨some 2, none, .no, .mv (.t 6)⟩]
def speculumlaw05_Great_c2 : ACode := .seq (.reg speculumlaw05_Great_r1) .ret
def speculumlaw05_Great_c3 : ACode := .seq (.reg speculumlaw05_Great_r0) speculumlaw05_Great_c2
theorem speculumlaw05_Great_ok : cFn TC 14 = some (7, [.t 2], speculumlaw05_Great_c3) := by kernel_rfl

@[go_sem] def speculumlaw05_ranged_r0 : List AIns := [
  ⟨some 0, none, .no, .mv (.v (.bool false))⟩]
@[go_sem] def speculumlaw05_ranged_r1 : List AIns := [
  ⟨some 13, none, .no, .call (.v (.fn 79 [])) [(.v (.int .i64 (6))), (.v (.int .u8 (9)))]⟩,
  ⟨some 1, none, .no, .mv (.t 13)⟩]
@[go_sem] def speculumlaw05_ranged_r2 : List AIns := [
  ⟨some 15, none, .no, .mv (.t 1)⟩,
  ⟨some 16, none, .no, .slice (.sl 32) (.t 15) none (some (.v (.int .i64 (5)))) none⟩,
  ⟨some 17, none, .no, .call (.v (.fn 25 [])) [(.t 16)]⟩,
  ⟨some 14, none, .no, .mv (.t 17)⟩,
  ⟨some 18, none, .no, .ext 0 (.t 14)⟩,
  ⟨some 19, none, .no, .ext 1 (.t 14)⟩,
  ⟨some 2, none, .no, .alloc [(.int .i64 (0)), .nilsl]⟩,
  ⟨none, none, .no, .store 2 (.t 2) (.t 18)⟩,
  ⟨some 3, none, .no, .mv (.t 19)⟩]
@[go_sem] def speculumlaw05_ranged_r3 : List AIns := [
  ⟨some 21, none, .rd, .load true 2 (.t 2)⟩,
  ⟨some 22, none, .no, .mv (.t 1)⟩,
  ⟨some 23, none, .no, .iaSl 32 (.t 22) (.v (.int .i64 (5)))⟩,
  ⟨some 24, none, .rd, .load true 32 (.t 23)⟩,
  ⟨some 25, none, .ef, .call (.v (.fn 26 [])) [(.t 21), (.t 24)]⟩,
  ⟨some 20, none, .no, .mv (.t 25)⟩,
  ⟨some 26, none, .no, .ext 0 (.t 20)⟩,
  ⟨some 27, none, .no, .ext 1 (.t 20)⟩,
  ⟨some 4, none, .ef, .alloc [(.int .i64 (0)), .nilsl]⟩,
  ⟨none, none, .no, .store 2 (.t 4) (.t 26)⟩,
  ⟨some 5, none, .no, .mv (.t 27)⟩]
@[go_sem] def speculumlaw05_ranged_r4 : List AIns := [
  ⟨some 21, none, .rd, .load true 2 (.t 2)⟩,
  ⟨some 22, none, .no, .mv (.t 1)⟩,
  ⟨some 23, none, .no, .iaSl 32 (.t 22) (.v (.int .i64 (5)))⟩,
  ⟨some 24, none, .rd, .load true 32 (.t 23)⟩,
  ⟨some 4, none, .ef, .alloc [(.int .i64 (0)), .nilsl]⟩,
  ⟨some 25, none, .ef, .call (.v (.fn 26 [])) [(.t 21), (.t 24)]⟩,
  ⟨some 20, none, .no, .mv (.t 25)⟩,
  ⟨some 26, none, .no, .ext 0 (.t 20)⟩,
  ⟨some 27, none, .no, .ext 1 (.t 20)⟩,
  ⟨none, none, .no, .store 2 (.t 4) (.t 26)⟩,
  ⟨some 5, none, .no, .mv (.t 27)⟩]
@[go_sem] def speculumlaw05_ranged_r5 : List AIns := [
  ⟨some 29, none, .no, .mv (.t 1)⟩,
  ⟨some 30, none, .no, .slice (.sl 32) (.t 29) (some (.v (.int .i64 (1)))) (some (.v (.int .i64 (5)))) none⟩,
  ⟨some 31, none, .no, .call (.v (.fn 27 [])) [(.v (.int .i64 (1))), (.t 30)]⟩,
  ⟨some 28, none, .no, .mv (.t 31)⟩,
  ⟨some 32, none, .no, .ext 0 (.t 28)⟩,
  ⟨some 33, none, .no, .ext 1 (.t 28)⟩,
  ⟨some 6, none, .no, .mv (.t 32)⟩,
  ⟨some 7, none, .no, .mv (.t 33)⟩]
@[go_sem] def speculumlaw05_ranged_r6 : List AIns := [
  ⟨some 35, none, .no, .mv (.t 1)⟩,
  ⟨some 36, none, .no, .slice (.sl 32) (.t 35) none (some (.v (.int .i64 (1)))) none⟩,
  ⟨some 37, none, .no, .call (.v (.fn 25 [])) [(.t 36)]⟩,
  ⟨some 34, none, .no, .mv (.t 37)⟩,
  ⟨some 38, none, .no, .ext 0 (.t 34)⟩,
  ⟨some 39, none, .no, .ext 1 (.t 34)⟩,
  ⟨some 8, none, .no, .alloc [(.int .i64 (0)), .nilsl]⟩,
  ⟨none, none, .no, .store 2 (.t 8) (.t 38)⟩,
  ⟨some 9, none, .no, .mv (.t 39)⟩]
@[go_sem] def speculumlaw05_ranged_r7 : List AIns := [
  ⟨some 41, none, .no, .load true 2 (.t 8)⟩,
  ⟨some 42, none, .no, .mv (.t 6)⟩,
  ⟨some 43, none, .no, .call (.v (.fn 23 [])) [(.t 41), (.v (.int .i64 (5))), (.t 42)]⟩,
  ⟨some 40, none, .no, .mv (.t 43)⟩,
  ⟨some 44, none, .no, .ext 0 (.t 40)⟩,
  ⟨some 45, none, .no, .ext 1 (.t 40)⟩,
  ⟨some 10, none, .no, .alloc [(.int .i64 (0)), .nilsl]⟩,
  ⟨none, none, .no, .store 2 (.t 10) (.t 44)⟩,
  ⟨some 11, none, .no, .mv (.t 45)⟩]
@[go_sem] def speculumlaw05_ranged_r8 : List AIns := [
  ⟨some 46, none, .no, .mv (.t 1)⟩,
  ⟨some 47, none, .no, .slice (.sl 32) (.t 46) none (some (.v (.int .i64 (4)))) none⟩,
  ⟨some 48, none, .no, .call (.v (.fn 29 [])) [(.t 47)]⟩,
  ⟨some 12, none, .no, .alloc [(.int .u8 (0)), (.int .u8 (0)), (.int .u8 (0)), (.int .u8 (0)), (.int .u8 (0)), (.int .u8 (0)), (.int .u8 (0)), (.int .u8 (0)), (.int .u8 (0)), (.int .u8 (0)), (.int .u8 (0)), (.int .u8 (0)), (.int .u8 (0)), (.int .u8 (0)), (.int .u8 (0)), (.int .u8 (0)), (.int .u8 (0)), (.int .u8 (0)), (.int .u8 (0)), (.int .u8 (0)), (.int .u8 (0)), (.int .u8 (0)), (.int .u8 (0)), (.int .u8 (0)), (.int .u8 (0)), (.int .u8 (0)), (.int .u8 (0)), (.int .u8 (0)), (.int .u8 (0)), (.int .u8 (0)), (.int .u8 (0)), (.int .u8 (0))]⟩,
  ⟨none, none, .no, .store 32 (.t 12) (.t 48)⟩]
@[go_sem] def speculumlaw05_ranged_r9 : List AIns := [
  ⟨some 49, none, .no, .mv (.t 3)⟩,
  ⟨some 50, none, .no, .bin .eql .none (.t 49) (.v (.int .i64 (0)))⟩,
  ⟨some 51, none, .no, .mv (.t 50)⟩,
  ⟨some 52, some (51, true), .no, .mv (.t 5)⟩,
  ⟨some 53, some (51, true), .no, .bin .eql .none (.t 52) (.v (.int .i64 (0)))⟩,
  ⟨some 54, none, .no, .pick (.t 51) (.t 53) (.v (.bool false))⟩,
  ⟨some 55, none, .no, .mv (.t 54)⟩,
  ⟨some 56, some (55, true), .no, .mv (.t 7)⟩,
  ⟨some 57, some (55, true), .no, .bin .eql .none (.t 56) (.v (.int .i64 (0)))⟩,
  ⟨some 58, none, .no, .pick (.t 55) (.t 57) (.v (.bool false))⟩,
  ⟨some 59, none, .no, .mv (.t 58)⟩,
  ⟨some 60, some (59, true), .no, .mv (.t 9)⟩,
  ⟨some 61, some (59, true), .no, .bin .eql .none (.t 60) (.v (.int .i64 (0)))⟩,
  ⟨some 62, none, .no, .pick (.t 59) (.t 61) (.v (.bool false))⟩,
  ⟨some 63, none, .no, .mv (.t 62)⟩,
  ⟨some 64, some (63, true), .no, .mv (.t 11)⟩,
  ⟨some 65, some (63, true), .no, .bin .eql .none (.t 64) (.v (.int .i64 (0)))⟩,
  ⟨some 66, none, .no, .pick (.t 63) (.t 65) (.v (.bool false))⟩,
  ⟨some 67, none, .no, .mv (.t 66)⟩,
  ⟨some 68, some (67, true), .no, .fa 0 (.t 2)⟩,
  ⟨some 69, some (67, true), .no, .load false 1 (.t 68)⟩,
  ⟨some 70, some (67, true), .no, .bin .eql .none (.t 69) (.v (.int .i64 (5)))⟩,
  ⟨some 71, none, .no, .pick (.t 67) (.t 70) (.v (.bool false))⟩,
  ⟨some 72, none, .no, .mv (.t 71)⟩,
  ⟨some 73, some (72, true), .no, .fa 1 (.t 2)⟩,
  ⟨some 74, some (72, true), .rd, .load false 1 (.t 73)⟩,
  ⟨some 75, some (72, true), .rd, .load true 32 (.t 12)⟩,
  ⟨some 76, some (72, true), .no, .mv (.t 1)⟩,
  ⟨some 77, some (72, true), .no, .iaSl 32 (.t 76) (.v (.int .i64 (4)))⟩,
  ⟨some 78, some (72, true), .rd, .load true 32 (.t 77)⟩,
  ⟨some 79, some (72, true), .no, .lit 32 [(.t 75), (.t 78)]⟩,
  ⟨some 80, some (72, true), .no, .call (.v (.fn 80 [])) [(.t 74), (.t 79)]⟩,
  ⟨some 81, none, .no, .pick (.t 72) (.t 80) (.v (.bool false))⟩,
  ⟨some 82, none, .no, .mv (.t 81)⟩,
  ⟨some 83, some (82, true), .no, .fa 1 (.t 4)⟩,
  ⟨some 84, some (82, true), .rd, .load false 1 (.t 83)⟩,
  ⟨some 85, some (82, true), .rd, .load true 32 (.t 12)⟩,
  ⟨some 86, some (82, true), .no, .mv (.t 1)⟩,
  ⟨some 87, some (82, true), .no, .iaSl 32 (.t 86) (.v (.int .i64 (4)))⟩,
  ⟨some 88, some (82, true), .rd, .load true 32 (.t 87)⟩,
  ⟨some 89, some (82, true), .no, .mv (.t 1)⟩,
  ⟨some 90, some (82, true), .no, .iaSl 32 (.t 89) (.v (.int .i64 (5)))⟩,
  ⟨some 91, some (82, true), .rd, .load true 32 (.t 90)⟩,
  ⟨some 92, some (82, true), .ef, .call (.v (.fn 81 [])) [(.t 88), (.t 91)]⟩,
  ⟨some 93, some (82, true), .no, .lit 32 [(.t 85), (.t 92)]⟩,
  ⟨some 94, some (82, true), .no, .call (.v (.fn 80 [])) [(.t 84), (.t 93)]⟩,
  ⟨some 95, none, .no, .pick (.t 82) (.t 94) (.v (.bool false))⟩,
  ⟨some 96, none, .no, .mv (.t 95)⟩,
  ⟨some 97, some (96, true), .no, .mv (.t 6)⟩,
  ⟨some 98, some (96, true), .no, .mv (.t 1)⟩,
  ⟨some 99, some (96, true), .no, .iaSl 32 (.t 98) (.v (.int .i64 (1)))⟩,
  ⟨some 100, some (96, true), .rd, .load true 32 (.t 99)⟩,
  ⟨some 101, some (96, true), .no, .mv (.t 1)⟩,
  ⟨some 102, some (96, true), .no, .iaSl 32 (.t 101) (.v (.int .i64 (2)))⟩,
  ⟨some 103, some (96, true), .rd, .load true 32 (.t 102)⟩,
  ⟨some 104, some (96, true), .no, .mv (.t 1)⟩,
  ⟨some 105, some (96, true), .no, .iaSl 32 (.t 104) (.v (.int .i64 (3)))⟩,
  ⟨some 106, some (96, true), .rd, .load true 32 (.t 105)⟩,
  ⟨some 107, some (96, true), .ef, .call (.v (.fn 81 [])) [(.t 103), (.t 106)]⟩,
  ⟨some 108, some (96, true), .no, .mv (.t 1)⟩,
  ⟨some 109, some (96, true), .no, .iaSl 32 (.t 108) (.v (.int .i64 (4)))⟩,
  ⟨some 110, some (96, true), .rd, .load true 32 (.t 109)⟩,
  ⟨some 111, some (96, true), .no, .lit 32 [(.t 100), (.t 107), (.t 110)]⟩,
  ⟨some 112, some (96, true), .no, .call (.v (.fn 80 [])) [(.t 97), (.t 111)]⟩,
  ⟨some 113, none, .no, .pick (.t 96) (.t 112) (.v (.bool false))⟩,
  ⟨some 114, none, .no, .mv (.t 113)⟩,
  ⟨some 115, some (114, true), .rd, .load true 2 (.t 2)⟩,
  ⟨some 116, some (114, true), .rd, .load true 2 (.t 10)⟩,
  ⟨some 117, some (114, true), .no, .call (.v (.fn 28 [])) [(.t 115), (.t 116)]⟩,
  ⟨some 118, none, .no, .pick (.t 114) (.t 117) (.v (.bool false))⟩,
  ⟨some 119, none, .no, .mv (.t 118)⟩,
  ⟨some 120, some (119, true), .no, .load true 32 (.t 12)⟩,
  ⟨some 121, some (119, true), .no, .build [(.int .u8 (0)), (.int .u8 (0)), (.int .u8 (0)), (.int .u8 (0)), (.int .u8 (0)), (.int .u8 (0)), (.int .u8 (0)), (.int .u8 (0)), (.int .u8 (0)), (.int .u8 (0)), (.int .u8 (0)), (.int .u8 (0)), (.int .u8 (0)), (.int .u8 (0)), (.int .u8 (0)), (.int .u8 (0)), (.int .u8 (0)), (.int .u8 (0)), (.int .u8 (0)), (.int .u8 (0)), (.int .u8 (0)), (.int .u8 (0)), (.int .u8 (0)), (.int .u8 (0)), (.int .u8 (0)), (.int .u8 (0)), (.int .u8 (0)), (.int .u8 (0)), (.int .u8 (0)), (.int .u8 (0)), (.int .u8 (0)), (.int .u8 (0))] []⟩,
  ⟨some 122, some (119, true), .no, .bin .neq (.agg (List.replicate 32 (.i .u8) ++ [])) (.t 120) (.t 121)⟩,
  ⟨some 123, none, .no, .pick (.t 119) (.t 122) (.v (.bool false))⟩,
  ⟨some 0, none, .no, .mv (.t 123)⟩]
def speculumlaw05_ranged_c10 : ACode := .seq (.reg speculumlaw05_ranged_r9) .ret
def speculumlaw05_ranged_c11 : ACode := .seq (.reg speculumlaw05_ranged_r8) speculumlaw05_ranged_c10
def speculumlaw05_ranged_c12 : ACode := .seq (.reg speculumlaw05_ranged_r7) speculumlaw05_ranged_c11
def speculumlaw05_ranged_c13 : ACode := .seq (.reg speculumlaw05_ranged_r6) speculumlaw05_ranged_c12
def speculumlaw05_ranged_c14 : ACode := .seq (.reg speculumlaw05_ranged_r5) speculumlaw05_ranged_c13
def speculumlaw05_ranged_c15 : ACode := .seq (.reg2 speculumlaw05_ranged_r3 speculumlaw05_ranged_r4) speculumlaw05_ranged_c14
def speculumlaw05_ranged_c16 : ACode := .seq (.reg speculumlaw05_ranged_r2) speculumlaw05_ranged_c15
def speculumlaw05_ranged_c17 : ACode := .seq (.reg speculumlaw05_ranged_r1) speculumlaw05_ranged_c16
def speculumlaw05_ranged_c18 : ACode := .seq (.reg speculumlaw05_ranged_r0) speculumlaw05_ranged_c17
theorem speculumlaw05_ranged_ok : cFn TC 15 = some (124, [.t 0], speculumlaw05_ranged_c18) := by kernel_rfl

@[go_sem] def ranges_Part_r0 : List AIns := [
  ⟨some 4, none, .no, .mv (.v .nilsl)⟩,
  ⟨some 5, none, .no, .mv (.v (.int .i64 (0)))⟩]
@[go_sem] def ranges_Part_r1 : List AIns := [
  ⟨some 9, none, .no, .mv (.t 0)⟩,
  ⟨some 10, none, .no, .bin .lss .none (.t 9) (.v (.int .i64 (0)))⟩,
  ⟨some 11, none, .no, .mv (.t 10)⟩,
  ⟨some 12, some (11, false), .no, .mv (.t 0)⟩,
  ⟨some 13, some (11, false), .no, .bin .gtr .none (.t 12) (.v (.int .i64 (4096)))⟩,
  ⟨some 14, none, .no, .pick (.t 11) (.v (.bool true)) (.t 13)⟩,
  ⟨some 15, none, .no, .mv (.t 14)⟩,
  ⟨some 16, some (15, false), .no, .mv (.t 1)⟩,
  ⟨some 17, some (15, false), .no, .lenSl (.t 16)⟩,
  ⟨some 18, some (15, false), .no, .mv (.t 0)⟩,
  ⟨some 19, some (15, false), .no, .bin .sub .none (.v (.int .i64 (4096))) (.t 18)⟩,
  ⟨some 20, some (15, false), .no, .bin .gtr .none (.t 17) (.t 19)⟩,
  ⟨some 21, none, .no, .pick (.t 15) (.v (.bool true)) (.t 20)⟩]
@[go_sem] def ranges_Part_r2 : List AIns := [
  ⟨some 4, none, .no, .mv (.v .nilsl)⟩,
  ⟨some 5, none, .no, .mv (.v (.int .i64 (2)))⟩]
def ranges_Part_c3 : ACode := .seq (.reg ranges_Part_r2) .ret
def ranges_Part_c4 : ACode := .cond (.t 21) ranges_Part_c3 .skip
def ranges_Part_c5 : ACode := .seq (.reg ranges_Part_r1) ranges_Part_c4
@[go_sem] def ranges_Part_r6 : List AIns := [
  ⟨some 6, none, .no, .mv (.v .nilsl)⟩]
@[go_sem] def ranges_Part_r7 : List AIns := [
  ⟨some 22, none, .no, .mv (.t 0)⟩,
  ⟨some 23, none, .no, .mv (.t 1)⟩,
  ⟨some 24, none, .no, .lenSl (.t 23)⟩,
  ⟨some 25, none, .no, .bin .add .none (.t 22) (.t 24)⟩,
  ⟨some 7, none, .no, .mv (.t 25)⟩]
@[go_sem] def ranges_Part_r8 : List AIns := [
  ⟨some 26, none, .no, .mv (.t 0)⟩,
  ⟨some 27, none, .no, .mv (.t 7)⟩,
  ⟨some 28, none, .no, .bin .lss .none (.t 26) (.t 27)⟩]
def ranges_Part_c9 : ACode := .cond (.t 28) .skip (.exit 0)
def ranges_Part_c10 : ACode := .seq (.reg ranges_Part_r8) ranges_Part_c9
@[go_sem] def ranges_Part_r11 : List AIns := [
  ⟨some 29, none, .no, .mv (.t 0)⟩,
  ⟨some 30, none, .no, .mv (.t 7)⟩,
  ⟨some 31, none, .no, .call (.v (.fn 92 [])) [(.t 29), (.t 30)]⟩,
  ⟨some 8, none, .no, .mv (.t 31)⟩]
@[go_sem] def ranges_Part_r12 : List AIns := [
  ⟨some 32, none, .no, .mv (.t 6)⟩,
  ⟨some 33, none, .no, .mv (.t 1)⟩,
  ⟨some 34, none, .no, .mv (.t 8)⟩,
  ⟨some 35, none, .no, .slice (.sl 32) (.t 33) none (some (.t 34)) none⟩,
  ⟨some 36, none, .no, .call (.v (.fn 29 [])) [(.t 35)]⟩,
  ⟨some 37, none, .no, .lit 32 [(.t 36)]⟩,
  ⟨some 38, none, .no, .app 32 (.t 32) (.t 37)⟩,
  ⟨some 6, none, .no, .mv (.t 38)⟩]
@[go_sem] def ranges_Part_r13 : List AIns := [
  ⟨some 39, none, .no, .mv (.t 0)⟩,
  ⟨some 40, none, .no, .mv (.t 8)⟩,
  ⟨some 41, none, .no, .bin .add .none (.t 39) (.t 40)⟩,
  ⟨some 42, none, .no, .mv (.t 1)⟩,
  ⟨some 43, none, .no, .mv (.t 8)⟩,
  ⟨some 44, none, .no, .slice (.sl 32) (.t 42) (some (.t 43)) none none⟩,
  ⟨some 0, none, .no, .mv (.t 41)⟩,
  ⟨some 1, none, .no, .mv (.t 44)⟩]
def ranges_Part_c14 : ACode := .seq (.reg ranges_Part_r12) (.reg ranges_Part_r13)
def ranges_Part_c15 : ACode := .seq (.reg ranges_Part_r11) ranges_Part_c14
def ranges_Part_c16 : ACode := .block 1 ranges_Part_c15
def ranges_Part_c17 : ACode := .seq ranges_Part_c10 ranges_Part_c16
def ranges_Part_c18 : ACode := .loop ranges_Part_c17
def ranges_Part_c19 : ACode := .block 0 ranges_Part_c18
def ranges_Part_c20 : ACode := .seq (.reg ranges_Part_r7) ranges_Part_c19
@[go_sem] def ranges_Part_r21 : List AIns := [
  ⟨some 45, none, .no, .mv (.t 6)⟩,
  ⟨some 4, none, .no, .mv (.t 45)⟩,
  ⟨some 5, none, .no, .mv (.v (.int .i64 (0)))⟩]
def ranges_Part_c22 : ACode := .seq (.reg ranges_Part_r21) .ret
def ranges_Part_c23 : ACode := .seq ranges_Part_c20 ranges_Part_c22
def ranges_Part_c24 : ACode := .seq (.reg ranges_Part_r6) ranges_Part_c23
def ranges_Part_c25 : ACode := .seq ranges_Part_c5 ranges_Part_c24
def ranges_Part_c26 : ACode := .seq (.reg ranges_Part_r0) ranges_Part_c25
theorem ranges_Part_ok : cFn TC 27 = some (46, [.t 4, .t 5], ranges_Part_c26) := by kernel_rfl

@[go_sem] def ranges_Of_r0 : List AIns := [
  ⟨some 2, none, .no, .alloc [(.int .i64 (0)), .nilsl]⟩,
  ⟨some 3, none, .no, .mv (.v (.int .i64 (0)))⟩]
@[go_sem] def ranges_Of_r1 : List AIns := [
  ⟨some 4, none, .no, .build [(.int .i64 (0)), .nilsl] []⟩,
  ⟨some 5, none, .no, .mv (.t 0)⟩,
  ⟨some 6, none, .no, .call (.v (.fn 16 [])) [(.t 4), (.t 5)]⟩,
  ⟨some 7, none, .no, .ext 0 (.t 6)⟩,
  ⟨some 8, none, .no, .ext 1 (.t 6)⟩,
  ⟨none, none, .no, .store 2 (.t 2) (.t 7)⟩,
  ⟨some 3, none, .no, .mv (.t 8)⟩]
def ranges_Of_c2 : ACode := .seq (.reg ranges_Of_r1) .ret
def ranges_Of_c3 : ACode := .seq (.reg ranges_Of_r0) ranges_Of_c2
theorem ranges_Of_ok : cFn TC 25 = some (9, [.c 2 true 2, .t 3], ranges_Of_c3) := by kernel_rfl

@[go_sem] def speculumref05_Same_r0 : List AIns := [
  ⟨some 2, none, .no, .box (.t 0)⟩,
  ⟨some 3, none, .no, .box (.t 1)⟩,
  ⟨some 4, none, .no, .mv (.v (.bool false))⟩]
@[go_sem] def speculumref05_Same_r1 : List AIns := [
  ⟨some 6, none, .no, .fa 0 (.t 2)⟩,
  ⟨some 7, none, .no, .load false 1 (.t 6)⟩,
  ⟨some 8, none, .no, .fa 0 (.t 3)⟩,
  ⟨some 9, none, .no, .load false 1 (.t 8)⟩,
  ⟨some 10, none, .no, .bin .neq .none (.t 7) (.t 9)⟩,
  ⟨some 11, none, .no, .mv (.t 10)⟩,
  ⟨some 12, some (11, false), .no, .fa 1 (.t 2)⟩,
  ⟨some 13, some (11, false), .no, .load false 1 (.t 12)⟩,
  ⟨some 14, some (11, false), .no, .lenSl (.t 13)⟩,
  ⟨some 15, some (11, false), .no, .fa 1 (.t 3)⟩,
  ⟨some 16, some (11, false), .no, .load false 1 (.t 15)⟩,
  ⟨some 17, some (11, false), .no, .lenSl (.t 16)⟩,
  ⟨some 18, some (11, false), .no, .bin .neq .none (.t 14) (.t 17)⟩,
  ⟨some 19, none, .no, .pick (.t 11) (.v (.bool true)) (.t 18)⟩]
@[go_sem] def speculumref05_Same_r2 : List AIns := [
  ⟨some 4, none, .no, .mv (.v (.bool false))⟩]
def speculumref05_Same_c3 : ACode := .seq (.reg speculumref05_Same_r2) .ret
def speculumref05_Same_c4 : ACode := .cond (.t 19) speculumref05_Same_c3 .skip
def speculumref05_Same_c5 : ACode := .seq (.reg speculumref05_Same_r1) speculumref05_Same_c4
@[go_sem] def speculumref05_Same_r6 : List AIns := [
  ⟨some 5, none, .no, .mv (.v (.int .i64 (0)))⟩]
@[go_sem] def speculumref05_Same_r7 : List AIns := [
  ⟨some 20, none, .no, .mv (.t 5)⟩,
  ⟨some 21, none, .no, .fa 1 (.t 2)⟩,
  ⟨some 22, none, .no, .load false 1 (.t 21)⟩,
  ⟨some 23, none, .no, .lenSl (.t 22)⟩,
  ⟨some 24, none, .no, .bin .lss .none (.t 20) (.t 23)⟩]
def speculumref05_Same_c8 : ACode := .cond (.t 24) .skip (.exit 0)
def speculumref05_Same_c9 : ACode := .seq (.reg speculumref05_Same_r7) speculumref05_Same_c8
@[go_sem] def speculumref05_Same_r10 : List AIns := [
  ⟨some 27, none, .no, .fa 1 (.t 2)⟩,
  ⟨some 28, none, .rd, .load false 1 (.t 27)⟩,
  ⟨some 29, none, .no, .mv (.t 5)⟩,
  ⟨some 30, none, .no, .iaSl 32 (.t 28) (.t 29)⟩,
  ⟨some 31, none, .rd, .load true 32 (.t 30)⟩,
  ⟨some 32, none, .no, .fa 1 (.t 3)⟩,
  ⟨some 33, none, .rd, .load false 1 (.t 32)⟩,
  ⟨some 34, none, .no, .mv (.t 5)⟩,
  ⟨some 35, none, .no, .iaSl 32 (.t 33) (.t 34)⟩,
  ⟨some 36, none, .rd, .load true 32 (.t 35)⟩,
  ⟨some 37, none, .no, .bin .neq (.agg (List.replicate 32 (.i .u8) ++ [])) (.t 31) (.t 36)⟩]
@[go_sem] def speculumref05_Same_r11 : List AIns := [
  ⟨some 4, none, .no, .mv (.v (.bool false))⟩]
def speculumref05_Same_c12 : ACode := .seq (.reg speculumref05_Same_r11) .ret
def speculumref05_Same_c13 : ACode := .cond (.t 37) speculumref05_Same_c12 .skip
def speculumref05_Same_c14 : ACode := .seq (.reg speculumref05_Same_r10) speculumref05_Same_c13
@[go_sem] def speculumref05_Same_r15 : List AIns := [
  ⟨some 25, none, .no, .mv (.t 5)⟩,
  ⟨some 26, none, .no, .bin .add .none (.t 25) (.v (.int .i64 (1)))⟩,
  ⟨some 5, none, .no, .mv (.t 26)⟩]
def speculumref05_Same_c16 : ACode := .seq (.block 1 speculumref05_Same_c14) (.reg speculumref05_Same_r15)
def speculumref05_Same_c17 : ACode := .seq speculumref05_Same_c9 speculumref05_Same_c16
def speculumref05_Same_c18 : ACode := .loop speculumref05_Same_c17
def speculumref05_Same_c19 : ACode := .block 0 speculumref05_Same_c18
def speculumref05_Same_c20 : ACode := .seq (.reg speculumref05_Same_r6) speculumref05_Same_c19
@[go_sem] def speculumref05_Same_r21 : List AIns := [
  ⟨some 4, none, .no, .mv (.v (.bool true))⟩]
def speculumref05_Same_c22 : ACode := .seq (.reg speculumref05_Same_r21) .ret
def speculumref05_Same_c23 : ACode := .seq speculumref05_Same_c20 speculumref05_Same_c22
def speculumref05_Same_c24 : ACode := .seq speculumref05_Same_c5 speculumref05_Same_c23
def speculumref05_Same_c25 : ACode := .seq (.reg speculumref05_Same_r0) speculumref05_Same_c24
theorem speculumref05_Same_ok : cFn TC 20 = some (38, [.t 4], speculumref05_Same_c25) := by kernel_rfl

@[go_sem] def ranges_Same_r0 : List AIns := [
  ⟨some 2, none, .no, .box (.t 0)⟩,
  ⟨some 3, none, .no, .box (.t 1)⟩,
  ⟨some 4, none, .no, .mv (.v (.bool false))⟩]
@[go_sem] def ranges_Same_r1 : List AIns := [
  ⟨some 5, none, .no, .fa 0 (.t 2)⟩,
  ⟨some 6, none, .no, .load false 1 (.t 5)⟩,
  ⟨some 7, none, .no, .fa 0 (.t 3)⟩,
  ⟨some 8, none, .no, .load false 1 (.t 7)⟩,
  ⟨some 9, none, .no, .bin .eql .none (.t 6) (.t 8)⟩,
  ⟨some 10, none, .no, .mv (.t 9)⟩,
  ⟨some 11, some (10, true), .no, .fa 1 (.t 2)⟩,
  ⟨some 12, some (10, true), .no, .load false 1 (.t 11)⟩,
  ⟨some 13, some (10, true), .no, .fa 1 (.t 3)⟩,
  ⟨some 14, some (10, true), .no, .load false 1 (.t 13)⟩,
  ⟨some 15, some (10, true), .no, .call (.v (.fn 94 [])) [(.t 12), (.t 14)]⟩,
  ⟨some 16, none, .no, .pick (.t 10) (.t 15) (.v (.bool false))⟩,
  ⟨some 4, none, .no, .mv (.t 16)⟩]
def ranges_Same_c2 : ACode := .seq (.reg ranges_Same_r1) .ret
def ranges_Same_c3 : ACode := .seq (.reg ranges_Same_r0) ranges_Same_c2
theorem ranges_Same_ok : cFn TC 28 = some (17, [.t 4], ranges_Same_c3) := by kernel_rfl

@[go_sem] def ranges_Append_r0 : List AIns := [
  ⟨some 2, none, .no, .box (.t 0)⟩,
  ⟨some 3, none, .no, .box (.t 1)⟩,
  ⟨some 4, none, .no, .alloc [(.int .i64 (0)), .nilsl]⟩,
  ⟨some 5, none, .no, .mv (.v (.int .i64 (0)))⟩]
@[go_sem] def ranges_Append_r1 : List AIns := [
  ⟨some 6, none, .no, .load true 2 (.t 2)⟩,
  ⟨some 7, none, .no, .load true 32 (.t 3)⟩,
  ⟨some 8, none, .no, .lit 32 [(.t 7)]⟩,
  ⟨some 9, none, .no, .call (.v (.fn 16 [])) [(.t 6), (.t 8)]⟩,
  ⟨some 10, none, .no, .ext 0 (.t 9)⟩,
  ⟨some 11, none, .no, .ext 1 (.t 9)⟩,
  ⟨none, none, .no, .store 2 (.t 4) (.t 10)⟩,
  ⟨some 5, none, .no, .mv (.t 11)⟩]
def ranges_Append_c2 : ACode := .seq (.reg ranges_Append_r1) .ret
def ranges_Append_c3 : ACode := .seq (.reg ranges_Append_r0) ranges_Append_c2
theorem ranges_Append_ok : cFn TC 26 = some (12, [.c 4 true 2, .t 5], ranges_Append_c3) := by kernel_rfl

@[go_sem] def speculumref05_Extend_r0 : List AIns := [
  ⟨some 2, none, .no, .box (.t 0)⟩,
  ⟨some 4, none, .no, .alloc [(.int .i64 (0)), .nilsl]⟩,
  ⟨some 5, none, .no, .mv (.v (.int .i64 (0)))⟩]
@[go_sem] def speculumref05_Extend_r1 : List AIns := [
  ⟨some 8, none, .no, .load true 2 (.t 2)⟩,
  ⟨some 9, none, .no, .call (.v (.fn 22 [])) [(.t 8)]⟩,
  ⟨some 10, none, .no, .un .not (.t 9)⟩]
@[go_sem] def speculumref05_Extend_r2 : List AIns := [
  ⟨some 11, none, .no, .build [(.int .i64 (0)), .nilsl] []⟩,
  ⟨none, none, .no, .store 2 (.t 4) (.t 11)⟩,
  ⟨some 5, none, .no, .mv (.v (.int .i64 (2)))⟩]
def speculumref05_Extend_c3 : ACode := .seq (.reg speculumref05_Extend_r2) .ret
def speculumref05_Extend_c4 : ACode := .cond (.t 10) speculumref05_Extend_c3 .skip
def speculumref05_Extend_c5 : ACode := .seq (.reg speculumref05_Extend_r1) speculumref05_Extend_c4
@[go_sem] def speculumref05_Extend_r6 : List AIns := [
  ⟨some 12, none, .no, .fa 0 (.t 2)⟩,
  ⟨some 13, none, .no, .load false 1 (.t 12)⟩,
  ⟨some 14, none, .no, .mv (.t 1)⟩,
  ⟨some 15, none, .no, .lenSl (.t 14)⟩,
  ⟨some 16, none, .no, .bin .add .none (.t 13) (.t 15)⟩,
  ⟨some 17, none, .no, .bin .gtr .none (.t 16) (.v (.int .i64 (4096)))⟩]
@[go_sem] def speculumref05_Extend_r7 : List AIns := [
  ⟨some 18, none, .no, .build [(.int .i64 (0)), .nilsl] []⟩,
  ⟨none, none, .no, .store 2 (.t 4) (.t 18)⟩,
  ⟨some 5, none, .no, .mv (.v (.int .i64 (60)))⟩]
def speculumref05_Extend_c8 : ACode := .seq (.reg speculumref05_Extend_r7) .ret
def speculumref05_Extend_c9 : ACode := .cond (.t 17) speculumref05_Extend_c8 .skip
def speculumref05_Extend_c10 : ACode := .seq (.reg speculumref05_Extend_r6) speculumref05_Extend_c9
@[go_sem] def speculumref05_Extend_r11 : List AIns := [
  ⟨some 19, none, .no, .load true 2 (.t 2)⟩,
  ⟨some 20, none, .no, .call (.v (.fn 84 [])) [(.t 19)]⟩,
  ⟨some 6, none, .no, .mv (.t 20)⟩]
@[go_sem] def speculumref05_Extend_r12 : List AIns := [
  ⟨some 7, none, .no, .mv (.v (.int .i64 (0)))⟩]
@[go_sem] def speculumref05_Extend_r13 : List AIns := [
  ⟨some 21, none, .no, .mv (.t 7)⟩,
  ⟨some 22, none, .no, .mv (.t 1)⟩,
  ⟨some 23, none, .no, .lenSl (.t 22)⟩,
  ⟨some 24, none, .no, .bin .lss .none (.t 21) (.t 23)⟩]
def speculumref05_Extend_c14 : ACode := .cond (.t 24) .skip (.exit 0)
def speculumref05_Extend_c15 : ACode := .seq (.reg speculumref05_Extend_r13) speculumref05_Extend_c14
@[go_sem] def speculumref05_Extend_r16 : List AIns := [
  ⟨some 27, none, .no, .mv (.t 6)⟩,
  ⟨some 28, none, .ef, .app 33 (.v .nilsl) (.t 27)⟩,
  ⟨some 29, none, .no, .mv (.t 1)⟩,
  ⟨some 30, none, .no, .mv (.t 7)⟩,
  ⟨some 31, none, .no, .iaSl 32 (.t 29) (.t 30)⟩,
  ⟨some 32, none, .rd, .load true 32 (.t 31)⟩,
  ⟨some 33, none, .no, .build [(.int .i64 (0)), (.int .u8 (0)), (.int .u8 (0)), (.int .u8 (0)), (.int .u8 (0)), (.int .u8 (0)), (.int .u8 (0)), (.int .u8 (0)), (.int .u8 (0)), (.int .u8 (0)), (.int .u8 (0)), (.int .u8 (0)), (.int .u8 (0)), (.int .u8 (0)), (.int .u8 (0)), (.int .u8 (0)), (.int .u8 (0)), (.int .u8 (0)), (.int .u8 (0)), (.int .u8 (0)), (.int .u8 (0)), (.int .u8 (0)), (.int .u8 (0)), (.int .u8 (0)), (.int .u8 (0)), (.int .u8 (0)), (.int .u8 (0)), (.int .u8 (0)), (.int .u8 (0)), (.int .u8 (0)), (.int .u8 (0)), (.int .u8 (0)), (.int .u8 (0))] [(0, 1, (.v (.int .i64 (1)))), (1, 32, (.t 32))]⟩,
  ⟨some 34, none, .no, .lit 33 [(.t 33)]⟩,
  ⟨some 35, none, .no, .app 33 (.t 28) (.t 34)⟩,
  ⟨some 36, none, .no, .call (.v (.fn 85 [])) [(.t 35)]⟩,
  ⟨some 6, none, .no, .mv (.t 36)⟩]
@[go_sem] def speculumref05_Extend_r17 : List AIns := [
  ⟨some 25, none, .no, .mv (.t 7)⟩,
  ⟨some 26, none, .no, .bin .add .none (.t 25) (.v (.int .i64 (1)))⟩,
  ⟨some 7, none, .no, .mv (.t 26)⟩]
def speculumref05_Extend_c18 : ACode := .seq (.block 1 (.reg speculumref05_Extend_r16)) (.reg speculumref05_Extend_r17)
def speculumref05_Extend_c19 : ACode := .seq speculumref05_Extend_c15 speculumref05_Extend_c18
def speculumref05_Extend_c20 : ACode := .loop speculumref05_Extend_c19
def speculumref05_Extend_c21 : ACode := .block 0 speculumref05_Extend_c20
def speculumref05_Extend_c22 : ACode := .seq (.reg speculumref05_Extend_r12) speculumref05_Extend_c21
@[go_sem] def speculumref05_Extend_r23 : List AIns := [
  ⟨some 37, none, .no, .mv (.t 6)⟩,
  ⟨some 38, none, .no, .call (.v (.fn 86 [])) [(.t 37)]⟩,
  ⟨none, none, .no, .store 2 (.t 4) (.t 38)⟩,
  ⟨some 5, none, .no, .mv (.v (.int .i64 (0)))⟩]
def speculumref05_Extend_c24 : ACode := .seq (.reg speculumref05_Extend_r23) .ret
def speculumref05_Extend_c25 : ACode := .seq speculumref05_Extend_c22 speculumref05_Extend_c24
def speculumref05_Extend_c26 : ACode := .seq (.reg speculumref05_Extend_r11) speculumref05_Extend_c25
def speculumref05_Extend_c27 : ACode := .seq speculumref05_Extend_c10 speculumref05_Extend_c26
def speculumref05_Extend_c28 : ACode := .seq speculumref05_Extend_c5 speculumref05_Extend_c27
def speculumref05_Extend_c29 : ACode := .seq (.reg speculumref05_Extend_r0) speculumref05_Extend_c28
theorem speculumref05_Extend_ok : cFn TC 17 = some (39, [.c 4 true 2, .t 5], speculumref05_Extend_c29) := by kernel_rfl

@[go_sem] def ranges_Extend_r0 : List AIns := [
  ⟨some 2, none, .no, .box (.t 0)⟩,
  ⟨some 4, none, .no, .alloc [(.int .i64 (0)), .nilsl]⟩,
  ⟨some 5, none, .no, .mv (.v (.int .i64 (0)))⟩]
@[go_sem] def ranges_Extend_r1 : List AIns := [
  ⟨some 9, none, .no, .load true 2 (.t 2)⟩,
  ⟨some 10, none, .no, .call (.v (.fn 21 [])) [(.t 9)]⟩,
  ⟨some 11, none, .no, .un .not (.t 10)⟩,
  ⟨some 8, none, .no, .mv (.t 11)⟩]
@[go_sem] def ranges_Extend_r2 : List AIns := [
  ⟨some 12, none, .no, .build [(.int .i64 (0)), .nilsl] []⟩,
  ⟨none, none, .no, .store 2 (.t 4) (.t 12)⟩,
  ⟨some 5, none, .no, .mv (.v (.int .i64 (2)))⟩]
def ranges_Extend_c3 : ACode := .seq (.reg ranges_Extend_r2) .ret
@[go_sem] def ranges_Extend_r4 : List AIns := [
  ⟨some 14, none, .no, .mv (.t 1)⟩,
  ⟨some 15, none, .no, .lenSl (.t 14)⟩,
  ⟨some 16, none, .no, .fa 0 (.t 2)⟩,
  ⟨some 17, none, .no, .load false 1 (.t 16)⟩,
  ⟨some 18, none, .no, .bin .sub .none (.v (.int .i64 (4096))) (.t 17)⟩,
  ⟨some 19, none, .no, .bin .gtr .none (.t 15) (.t 18)⟩,
  ⟨some 13, none, .no, .mv (.t 19)⟩]
@[go_sem] def ranges_Extend_r5 : List AIns := [
  ⟨some 20, none, .no, .build [(.int .i64 (0)), .nilsl] []⟩,
  ⟨none, none, .no, .store 2 (.t 4) (.t 20)⟩,
  ⟨some 5, none, .no, .mv (.v (.int .i64 (60)))⟩]
def ranges_Extend_c6 : ACode := .seq (.reg ranges_Extend_r5) .ret
def ranges_Extend_c7 : ACode := .cond (.t 13) ranges_Extend_c6 .skip
def ranges_Extend_c8 : ACode := .seq (.reg ranges_Extend_r4) ranges_Extend_c7
def ranges_Extend_c9 : ACode := .cond (.t 8) ranges_Extend_c3 ranges_Extend_c8
def ranges_Extend_c10 : ACode := .seq (.reg ranges_Extend_r1) ranges_Extend_c9
@[go_sem] def ranges_Extend_r11 : List AIns := [
  ⟨some 21, none, .no, .fa 1 (.t 2)⟩,
  ⟨some 22, none, .no, .load false 1 (.t 21)⟩,
  ⟨some 23, none, .no, .call (.v (.fn 82 [])) [(.t 22)]⟩,
  ⟨some 24, none, .no, .fa 1 (.t 2)⟩,
  ⟨none, none, .no, .store 1 (.t 24) (.t 23)⟩]
@[go_sem] def ranges_Extend_r12 : List AIns := [
  ⟨some 25, none, .no, .mv (.t 1)⟩,
  ⟨some 26, none, .no, .lenSl (.t 25)⟩,
  ⟨some 27, none, .no, .mv (.v (.int .i64 (0)))⟩]
@[go_sem] def ranges_Extend_r13 : List AIns := [
  ⟨some 28, none, .no, .bin .lss .none (.t 27) (.t 26)⟩]
@[go_sem] def ranges_Extend_r14 : List AIns := [
  ⟨some 29, none, .no, .iaSl 32 (.t 25) (.t 27)⟩,
  ⟨some 30, none, .no, .load true 32 (.t 29)⟩,
  ⟨some 7, none, .no, .alloc [(.int .u8 (0)), (.int .u8 (0)), (.int .u8 (0)), (.int .u8 (0)), (.int .u8 (0)), (.int .u8 (0)), (.int .u8 (0)), (.int .u8 (0)), (.int .u8 (0)), (.int .u8 (0)), (.int .u8 (0)), (.int .u8 (0)), (.int .u8 (0)), (.int .u8 (0)), (.int .u8 (0)), (.int .u8 (0)), (.int .u8 (0)), (.int .u8 (0)), (.int .u8 (0)), (.int .u8 (0)), (.int .u8 (0)), (.int .u8 (0)), (.int .u8 (0)), (.int .u8 (0)), (.int .u8 (0)), (.int .u8 (0)), (.int .u8 (0)), (.int .u8 (0)), (.int .u8 (0)), (.int .u8 (0)), (.int .u8 (0)), (.int .u8 (0))]⟩,
  ⟨none, none, .no, .store 32 (.t 7) (.t 30)⟩]
@[go_sem] def ranges_Extend_r15 : List AIns := [
  ⟨some 31, none, .no, .load true 2 (.t 2)⟩,
  ⟨some 32, none, .no, .load true 32 (.t 7)⟩,
  ⟨some 33, none, .no, .call (.v (.fn 83 [])) [(.t 31), (.v (.int .i64 (1))), (.t 32)]⟩,
  ⟨none, none, .no, .store 2 (.t 2) (.t 33)⟩]
def ranges_Extend_c16 : ACode := .seq (.reg ranges_Extend_r14) (.reg ranges_Extend_r15)
@[go_sem] def ranges_Extend_r17 : List AIns := [
  ⟨some 34, none, .no, .bin .add .none (.t 27) (.v (.int .i64 (1)))⟩,
  ⟨some 27, none, .no, .mv (.t 34)⟩]
def ranges_Extend_c18 : ACode := .seq (.block 2 ranges_Extend_c16) (.reg ranges_Extend_r17)
def ranges_Extend_c19 : ACode := .seq (.cond (.t 28) .skip (.exit 1)) ranges_Extend_c18
def ranges_Extend_c20 : ACode := .seq (.reg ranges_Extend_r13) ranges_Extend_c19
def ranges_Extend_c21 : ACode := .loop ranges_Extend_c20
def ranges_Extend_c22 : ACode := .block 1 ranges_Extend_c21
def ranges_Extend_c23 : ACode := .seq (.reg ranges_Extend_r12) ranges_Extend_c22
@[go_sem] def ranges_Extend_r24 : List AIns := [
  ⟨some 35, none, .no, .load true 2 (.t 2)⟩,
  ⟨none, none, .no, .store 2 (.t 4) (.t 35)⟩,
  ⟨some 5, none, .no, .mv (.v (.int .i64 (0)))⟩]
def ranges_Extend_c25 : ACode := .seq (.reg ranges_Extend_r24) .ret
def ranges_Extend_c26 : ACode := .seq ranges_Extend_c23 ranges_Extend_c25
def ranges_Extend_c27 : ACode := .seq (.reg ranges_Extend_r11) ranges_Extend_c26
def ranges_Extend_c28 : ACode := .seq (.block 0 ranges_Extend_c10) ranges_Extend_c27
def ranges_Extend_c29 : ACode := .seq (.reg ranges_Extend_r0) ranges_Extend_c28
theorem ranges_Extend_ok : cFn TC 16 = some (36, [.c 4 true 2, .t 5], ranges_Extend_c29) := by kernel_rfl

@[go_sem] def ranges_Valid_r0 : List AIns := [
  ⟨some 1, none, .no, .box (.t 0)⟩,
  ⟨some 2, none, .no, .mv (.v (.bool false))⟩]
@[go_sem] def ranges_Valid_r1 : List AIns := [
  ⟨some 3, none, .no, .fa 0 (.t 1)⟩,
  ⟨some 4, none, .no, .load false 1 (.t 3)⟩,
  ⟨some 5, none, .no, .bin .geq .none (.t 4) (.v (.int .i64 (0)))⟩,
  ⟨some 6, none, .no, .mv (.t 5)⟩,
  ⟨some 7, some (6, true), .no, .fa 0 (.t 1)⟩,
  ⟨some 8, some (6, true), .no, .load false 1 (.t 7)⟩,
  ⟨some 9, some (6, true), .no, .bin .leq .none (.t 8) (.v (.int .i64 (4096)))⟩,
  ⟨some 10, none, .no, .pick (.t 6) (.t 9) (.v (.bool false))⟩,
  ⟨some 11, none, .no, .mv (.t 10)⟩,
  ⟨some 12, some (11, true), .no, .fa 1 (.t 1)⟩,
  ⟨some 13, some (11, true), .rd, .load false 1 (.t 12)⟩,
  ⟨some 14, some (11, true), .no, .lenSl (.t 13)⟩,
  ⟨some 15, some (11, true), .no, .fa 0 (.t 1)⟩,
  ⟨some 16, some (11, true), .rd, .load false 1 (.t 15)⟩,
  ⟨some 17, some (11, true), .ef, .call (.v (.fn 90 [])) [(.t 16)]⟩,
  ⟨some 18, some (11, true), .no, .bin .eql .none (.t 14) (.t 17)⟩,
  ⟨some 19, none, .no, .pick (.t 11) (.t 18) (.v (.bool false))⟩,
  ⟨some 2, none, .no, .mv (.t 19)⟩]
def ranges_Valid_c2 : ACode := .seq (.reg ranges_Valid_r1) .ret
def ranges_Valid_c3 : ACode := .seq (.reg ranges_Valid_r0) ranges_Valid_c2
theorem ranges_Valid_ok : cFn TC 21 = some (20, [.t 2], ranges_Valid_c3) := by kernel_rfl

@[go_sem] def ranges_Root_r0 : List AIns := [
  ⟨some 1, none, .no, .box (.t 0)⟩,
  ⟨some 2, none, .no, .alloc [(.int .u8 (0)), (.int .u8 (0)), (.int .u8 (0)), (.int .u8 (0)), (.int .u8 (0)), (.int .u8 (0)), (.int .u8 (0)), (.int .u8 (0)), (.int .u8 (0)), (.int .u8 (0)), (.int .u8 (0)), (.int .u8 (0)), (.int .u8 (0)), (.int .u8 (0)), (.int .u8 (0)), (.int .u8 (0)), (.int .u8 (0)), (.int .u8 (0)), (.int .u8 (0)), (.int .u8 (0)), (.int .u8 (0)), (.int .u8 (0)), (.int .u8 (0)), (.int .u8 (0)), (.int .u8 (0)), (.int .u8 (0)), (.int .u8 (0)), (.int .u8 (0)), (.int .u8 (0)), (.int .u8 (0)), (.int .u8 (0)), (.int .u8 (0))]⟩,
  ⟨some 3, none, .no, .mv (.v (.int .i64 (0)))⟩]
@[go_sem] def ranges_Root_r1 : List AIns := [
  ⟨some 9, none, .no, .load true 2 (.t 1)⟩,
  ⟨some 10, none, .no, .call (.v (.fn 21 [])) [(.t 9)]⟩,
  ⟨some 11, none, .no, .un .not (.t 10)⟩,
  ⟨some 8, none, .no, .mv (.t 11)⟩]
@[go_sem] def ranges_Root_r2 : List AIns := [
  ⟨some 12, none, .no, .build [(.int .u8 (0)), (.int .u8 (0)), (.int .u8 (0)), (.int .u8 (0)), (.int .u8 (0)), (.int .u8 (0)), (.int .u8 (0)), (.int .u8 (0)), (.int .u8 (0)), (.int .u8 (0)), (.int .u8 (0)), (.int .u8 (0)), (.int .u8 (0)), (.int .u8 (0)), (.int .u8 (0)), (.int .u8 (0)), (.int .u8 (0)), (.int .u8 (0)), (.int .u8 (0)), (.int .u8 (0)), (.int .u8 (0)), (.int .u8 (0)), (.int .u8 (0)), (.int .u8 (0)), (.int .u8 (0)), (.int .u8 (0)), (.int .u8 (0)), (.int .u8 (0)), (.int .u8 (0)), (.int .u8 (0)), (.int .u8 (0)), (.int .u8 (0))] []⟩,
  ⟨none, none, .no, .store 32 (.t 2) (.t 12)⟩,
  ⟨some 3, none, .no, .mv (.v (.int .i64 (2)))⟩]
def ranges_Root_c3 : ACode := .seq (.reg ranges_Root_r2) .ret
@[go_sem] def ranges_Root_r4 : List AIns := [
  ⟨some 14, none, .no, .fa 0 (.t 1)⟩,
  ⟨some 15, none, .no, .load false 1 (.t 14)⟩,
  ⟨some 16, none, .no, .bin .eql .none (.t 15) (.v (.int .i64 (0)))⟩,
  ⟨some 13, none, .no, .mv (.t 16)⟩]
@[go_sem] def ranges_Root_r5 : List AIns := [
  ⟨some 17, none, .no, .call (.v (.fn 29 [])) [(.v .nilsl)]⟩,
  ⟨none, none, .no, .store 32 (.t 2) (.t 17)⟩,
  ⟨some 3, none, .no, .mv (.v (.int .i64 (0)))⟩]
def ranges_Root_c6 : ACode := .seq (.reg ranges_Root_r5) .ret
def ranges_Root_c7 : ACode := .cond (.t 13) ranges_Root_c6 .skip
def ranges_Root_c8 : ACode := .seq (.reg ranges_Root_r4) ranges_Root_c7
def ranges_Root_c9 : ACode := .cond (.t 8) ranges_Root_c3 ranges_Root_c8
def ranges_Root_c10 : ACode := .seq (.reg ranges_Root_r1) ranges_Root_c9
@[go_sem] def ranges_Root_r11 : List AIns := [
  ⟨some 18, none, .no, .fa 1 (.t 1)⟩,
  ⟨some 19, none, .no, .load false 1 (.t 18)⟩,
  ⟨some 20, none, .no, .lenSl (.t 19)⟩,
  ⟨some 21, none, .no, .bin .sub .none (.t 20) (.v (.int .i64 (1)))⟩,
  ⟨some 4, none, .no, .mv (.t 21)⟩]
@[go_sem] def ranges_Root_r12 : List AIns := [
  ⟨some 22, none, .no, .fa 1 (.t 1)⟩,
  ⟨some 23, none, .no, .load false 1 (.t 22)⟩,
  ⟨some 24, none, .no, .mv (.t 4)⟩,
  ⟨some 25, none, .no, .iaSl 32 (.t 23) (.t 24)⟩,
  ⟨some 26, none, .no, .load true 32 (.t 25)⟩,
  ⟨some 5, none, .no, .alloc [(.int .u8 (0)), (.int .u8 (0)), (.int .u8 (0)), (.int .u8 (0)), (.int .u8 (0)), (.int .u8 (0)), (.int .u8 (0)), (.int .u8 (0)), (.int .u8 (0)), (.int .u8 (0)), (.int .u8 (0)), (.int .u8 (0)), (.int .u8 (0)), (.int .u8 (0)), (.int .u8 (0)), (.int .u8 (0)), (.int .u8 (0)), (.int .u8 (0)), (.int .u8 (0)), (.int .u8 (0)), (.int .u8 (0)), (.int .u8 (0)), (.int .u8 (0)), (.int .u8 (0)), (.int .u8 (0)), (.int .u8 (0)), (.int .u8 (0)), (.int .u8 (0)), (.int .u8 (0)), (.int .u8 (0)), (.int .u8 (0)), (.int .u8 (0))]⟩,
  ⟨none, none, .no, .store 32 (.t 5) (.t 26)⟩]
@[go_sem] def ranges_Root_r13 : List AIns := [
  ⟨some 27, none, .no, .fa 1 (.t 1)⟩,
  ⟨some 28, none, .no, .load false 1 (.t 27)⟩,
  ⟨some 29, none, .no, .mv (.t 4)⟩,
  ⟨some 30, none, .no, .slice (.sl 32) (.t 28) none (some (.t 29)) none⟩,
  ⟨some 31, none, .no, .call (.v (.fn 87 [])) [(.t 30)]⟩]
@[go_sem] def ranges_Root_r14 : List AIns := [
  ⟨some 7, none, .no, .alloc [(.int .u8 (0)), (.int .u8 (0)), (.int .u8 (0)), (.int .u8 (0)), (.int .u8 (0)), (.int .u8 (0)), (.int .u8 (0)), (.int .u8 (0)), (.int .u8 (0)), (.int .u8 (0)), (.int .u8 (0)), (.int .u8 (0)), (.int .u8 (0)), (.int .u8 (0)), (.int .u8 (0)), (.int .u8 (0)), (.int .u8 (0)), (.int .u8 (0)), (.int .u8 (0)), (.int .u8 (0)), (.int .u8 (0)), (.int .u8 (0)), (.int .u8 (0)), (.int .u8 (0)), (.int .u8 (0)), (.int .u8 (0)), (.int .u8 (0)), (.int .u8 (0)), (.int .u8 (0)), (.int .u8 (0)), (.int .u8 (0)), (.int .u8 (0))]⟩,
  ⟨none, none, .no, .store 32 (.t 7) (.t 33)⟩]
@[go_sem] def ranges_Root_r15 : List AIns := [
  ⟨some 34, none, .no, .load true 32 (.t 7)⟩,
  ⟨some 35, none, .no, .load true 32 (.t 5)⟩,
  ⟨some 36, none, .no, .call (.v (.fn 81 [])) [(.t 34), (.t 35)]⟩,
  ⟨none, none, .no, .store 32 (.t 5) (.t 36)⟩]
def ranges_Root_c16 : ACode := .block 2 (.reg ranges_Root_r15)
def ranges_Root_c17 : ACode := .rangef (.t 31) [32, 33] (.reg ranges_Root_r14) ranges_Root_c16
def ranges_Root_c18 : ACode := .block 1 ranges_Root_c17
def ranges_Root_c19 : ACode := .seq (.reg ranges_Root_r13) ranges_Root_c18
@[go_sem] def ranges_Root_r20 : List AIns := [
  ⟨some 37, none, .no, .load true 32 (.t 5)⟩,
  ⟨none, none, .no, .store 32 (.t 2) (.t 37)⟩,
  ⟨some 3, none, .no, .mv (.v (.int .i64 (0)))⟩]
def ranges_Root_c21 : ACode := .seq (.reg ranges_Root_r20) .ret
def ranges_Root_c22 : ACode := .seq ranges_Root_c19 ranges_Root_c21
def ranges_Root_c23 : ACode := .seq (.reg ranges_Root_r12) ranges_Root_c22
def ranges_Root_c24 : ACode := .seq (.reg ranges_Root_r11) ranges_Root_c23
def ranges_Root_c25 : ACode := .seq (.block 0 ranges_Root_c10) ranges_Root_c24
def ranges_Root_c26 : ACode := .seq (.reg ranges_Root_r0) ranges_Root_c25
theorem ranges_Root_ok : cFn TC 18 = some (38, [.c 2 true 32, .t 3], ranges_Root_c26) := by kernel_rfl

@[go_sem] def speculumref05_Root_r0 : List AIns := [
  ⟨some 1, none, .no, .box (.t 0)⟩,
  ⟨some 2, none, .no, .alloc [(.int .u8 (0)), (.int .u8 (0)), (.int .u8 (0)), (.int .u8 (0)), (.int .u8 (0)), (.int .u8 (0)), (.int .u8 (0)), (.int .u8 (0)), (.int .u8 (0)), (.int .u8 (0)), (.int .u8 (0)), (.int .u8 (0)), (.int .u8 (0)), (.int .u8 (0)), (.int .u8 (0)), (.int .u8 (0)), (.int .u8 (0)), (.int .u8 (0)), (.int .u8 (0)), (.int .u8 (0)), (.int .u8 (0)), (.int .u8 (0)), (.int .u8 (0)), (.int .u8 (0)), (.int .u8 (0)), (.int .u8 (0)), (.int .u8 (0)), (.int .u8 (0)), (.int .u8 (0)), (.int .u8 (0)), (.int .u8 (0)), (.int .u8 (0))]⟩,
  ⟨some 3, none, .no, .mv (.v (.int .i64 (0)))⟩]
@[go_sem] def speculumref05_Root_r1 : List AIns := [
  ⟨some 7, none, .no, .load true 2 (.t 1)⟩,
  ⟨some 8, none, .no, .call (.v (.fn 22 [])) [(.t 7)]⟩,
  ⟨some 9, none, .no, .un .not (.t 8)⟩]
@[go_sem] def speculumref05_Root_r2 : List AIns := [
  ⟨some 10, none, .no, .build [(.int .u8 (0)), (.int .u8 (0)), (.int .u8 (0)), (.int .u8 (0)), (.int .u8 (0)), (.int .u8 (0)), (.int .u8 (0)), (.int .u8 (0)), (.int .u8 (0)), (.int .u8 (0)), (.int .u8 (0)), (.int .u8 (0)), (.int .u8 (0)), (.int .u8 (0)), (.int .u8 (0)), (.int .u8 (0)), (.int .u8 (0)), (.int .u8 (0)), (.int .u8 (0)), (.int .u8 (0)), (.int .u8 (0)), (.int .u8 (0)), (.int .u8 (0)), (.int .u8 (0)), (.int .u8 (0)), (.int .u8 (0)), (.int .u8 (0)), (.int .u8 (0)), (.int .u8 (0)), (.int .u8 (0)), (.int .u8 (0)), (.int .u8 (0))] []⟩,
  ⟨none, none, .no, .store 32 (.t 2) (.t 10)⟩,
  ⟨some 3, none, .no, .mv (.v (.int .i64 (2)))⟩]
def speculumref05_Root_c3 : ACode := .seq (.reg speculumref05_Root_r2) .ret
def speculumref05_Root_c4 : ACode := .cond (.t 9) speculumref05_Root_c3 .skip
def speculumref05_Root_c5 : ACode := .seq (.reg speculumref05_Root_r1) speculumref05_Root_c4
@[go_sem] def speculumref05_Root_r6 : List AIns := [
  ⟨some 11, none, .no, .fa 1 (.t 1)⟩,
  ⟨some 12, none, .no, .load false 1 (.t 11)⟩,
  ⟨some 13, none, .no, .lenSl (.t 12)⟩,
  ⟨some 4, none, .no, .mv (.t 13)⟩]
@[go_sem] def speculumref05_Root_r7 : List AIns := [
  ⟨some 14, none, .no, .mv (.t 4)⟩,
  ⟨some 15, none, .no, .bin .eql .none (.t 14) (.v (.int .i64 (0)))⟩]
@[go_sem] def speculumref05_Root_r8 : List AIns := [
  ⟨some 16, none, .no, .call (.v (.fn 88 [])) [(.v (.str []))]⟩,
  ⟨none, none, .no, .store 32 (.t 2) (.t 16)⟩,
  ⟨some 3, none, .no, .mv (.v (.int .i64 (0)))⟩]
def speculumref05_Root_c9 : ACode := .seq (.reg speculumref05_Root_r8) .ret
def speculumref05_Root_c10 : ACode := .cond (.t 15) speculumref05_Root_c9 .skip
def speculumref05_Root_c11 : ACode := .seq (.reg speculumref05_Root_r7) speculumref05_Root_c10
@[go_sem] def speculumref05_Root_r12 : List AIns := [
  ⟨some 17, none, .no, .fa 1 (.t 1)⟩,
  ⟨some 18, none, .no, .load false 1 (.t 17)⟩,
  ⟨some 19, none, .no, .mv (.t 4)⟩,
  ⟨some 20, none, .no, .bin .sub .none (.t 19) (.v (.int .i64 (1)))⟩,
  ⟨some 21, none, .no, .iaSl 32 (.t 18) (.t 20)⟩,
  ⟨some 22, none, .no, .load true 32 (.t 21)⟩,
  ⟨some 5, none, .no, .alloc [(.int .u8 (0)), (.int .u8 (0)), (.int .u8 (0)), (.int .u8 (0)), (.int .u8 (0)), (.int .u8 (0)), (.int .u8 (0)), (.int .u8 (0)), (.int .u8 (0)), (.int .u8 (0)), (.int .u8 (0)), (.int .u8 (0)), (.int .u8 (0)), (.int .u8 (0)), (.int .u8 (0)), (.int .u8 (0)), (.int .u8 (0)), (.int .u8 (0)), (.int .u8 (0)), (.int .u8 (0)), (.int .u8 (0)), (.int .u8 (0)), (.int .u8 (0)), (.int .u8 (0)), (.int .u8 (0)), (.int .u8 (0)), (.int .u8 (0)), (.int .u8 (0)), (.int .u8 (0)), (.int .u8 (0)), (.int .u8 (0)), (.int .u8 (0))]⟩,
  ⟨none, none, .no, .store 32 (.t 5) (.t 22)⟩]
@[go_sem] def speculumref05_Root_r13 : List AIns := [
  ⟨some 23, none, .no, .mv (.t 4)⟩,
  ⟨some 24, none, .no, .bin .sub .none (.t 23) (.v (.int .i64 (2)))⟩,
  ⟨some 6, none, .no, .mv (.t 24)⟩]
@[go_sem] def speculumref05_Root_r14 : List AIns := [
  ⟨some 25, none, .no, .mv (.t 6)⟩,
  ⟨some 26, none, .no, .bin .geq .none (.t 25) (.v (.int .i64 (0)))⟩]
def speculumref05_Root_c15 : ACode := .cond (.t 26) .skip (.exit 0)
def speculumref05_Root_c16 : ACode := .seq (.reg speculumref05_Root_r14) speculumref05_Root_c15
@[go_sem] def speculumref05_Root_r17 : List AIns := [
  ⟨some 29, none, .no, .fa 1 (.t 1)⟩,
  ⟨some 30, none, .rd, .load false 1 (.t 29)⟩,
  ⟨some 31, none, .no, .mv (.t 6)⟩,
  ⟨some 32, none, .no, .iaSl 32 (.t 30) (.t 31)⟩,
  ⟨some 33, none, .rd, .load true 32 (.t 32)⟩,
  ⟨some 34, none, .rd, .load true 32 (.t 5)⟩,
  ⟨some 35, none, .no, .call (.v (.fn 89 [])) [(.t 33), (.t 34)]⟩,
  ⟨none, none, .no, .store 32 (.t 5) (.t 35)⟩]
@[go_sem] def speculumref05_Root_r18 : List AIns := [
  ⟨some 27, none, .no, .mv (.t 6)⟩,
  ⟨some 28, none, .no, .bin .sub .none (.t 27) (.v (.int .i64 (1)))⟩,
  ⟨some 6, none, .no, .mv (.t 28)⟩]
def speculumref05_Root_c19 : ACode := .seq (.block 1 (.reg speculumref05_Root_r17)) (.reg speculumref05_Root_r18)
def speculumref05_Root_c20 : ACode := .seq speculumref05_Root_c16 speculumref05_Root_c19
def speculumref05_Root_c21 : ACode := .loop speculumref05_Root_c20
def speculumref05_Root_c22 : ACode := .block 0 speculumref05_Root_c21
def speculumref05_Root_c23 : ACode := .seq (.reg speculumref05_Root_r13) speculumref05_Root_c22
@[go_sem] def speculumref05_Root_r24 : List AIns := [
  ⟨some 36, none, .no, .load true 32 (.t 5)⟩,
  ⟨none, none, .no, .store 32 (.t 2) (.t 36)⟩,
  ⟨some 3, none, .no, .mv (.v (.int .i64 (0)))⟩]
def speculumref05_Root_c25 : ACode := .seq (.reg speculumref05_Root_r24) .ret
def speculumref05_Root_c26 : ACode := .seq speculumref05_Root_c23 speculumref05_Root_c25
def speculumref05_Root_c27 : ACode := .seq (.reg speculumref05_Root_r12) speculumref05_Root_c26
def speculumref05_Root_c28 : ACode := .seq speculumref05_Root_c11 speculumref05_Root_c27
def speculumref05_Root_c29 : ACode := .seq (.reg speculumref05_Root_r6) speculumref05_Root_c28
def speculumref05_Root_c30 : ACode := .seq speculumref05_Root_c5 speculumref05_Root_c29
def speculumref05_Root_c31 : ACode := .seq (.reg speculumref05_Root_r0) speculumref05_Root_c30
theorem speculumref05_Root_ok : cFn TC 19 = some (37, [.c 2 true 32, .t 3], speculumref05_Root_c31) := by kernel_rfl

@[go_sem] def speculumref05_Valid_r0 : List AIns := [
  ⟨some 1, none, .no, .box (.t 0)⟩,
  ⟨some 2, none, .no, .mv (.v (.bool false))⟩]
@[go_sem] def speculumref05_Valid_r1 : List AIns := [
  ⟨some 3, none, .no, .fa 0 (.t 1)⟩,
  ⟨some 4, none, .no, .load false 1 (.t 3)⟩,
  ⟨some 5, none, .no, .bin .geq .none (.t 4) (.v (.int .i64 (0)))⟩,
  ⟨some 6, none, .no, .mv (.t 5)⟩,
  ⟨some 7, some (6, true), .no, .fa 0 (.t 1)⟩,
  ⟨some 8, some (6, true), .no, .load false 1 (.t 7)⟩,
  ⟨some 9, some (6, true), .no, .bin .leq .none (.t 8) (.v (.int .i64 (4096)))⟩,
  ⟨some 10, none, .no, .pick (.t 6) (.t 9) (.v (.bool false))⟩,
  ⟨some 11, none, .no, .mv (.t 10)⟩,
  ⟨some 12, some (11, true), .no, .fa 1 (.t 1)⟩,
  ⟨some 13, some (11, true), .rd, .load false 1 (.t 12)⟩,
  ⟨some 14, some (11, true), .no, .lenSl (.t 13)⟩,
  ⟨some 15, some (11, true), .no, .fa 0 (.t 1)⟩,
  ⟨some 16, some (11, true), .rd, .load false 1 (.t 15)⟩,
  ⟨some 17, some (11, true), .ef, .call (.v (.fn 91 [])) [(.t 16)]⟩,
  ⟨some 18, some (11, true), .no, .bin .eql .none (.t 14) (.t 17)⟩,
  ⟨some 19, none, .no, .pick (.t 11) (.t 18) (.v (.bool false))⟩,
  ⟨some 2, none, .no, .mv (.t 19)⟩]
def speculumref05_Valid_c2 : ACode := .seq (.reg speculumref05_Valid_r1) .ret
def speculumref05_Valid_c3 : ACode := .seq (.reg speculumref05_Valid_r0) speculumref05_Valid_c2
theorem speculumref05_Valid_ok : cFn TC 22 = some (20, [.t 2], speculumref05_Valid_c3) := by kernel_rfl

@[go_sem] def ranges_Merge_r0 : List AIns := [
  ⟨some 3, none, .no, .box (.t 0)⟩,
  ⟨some 6, none, .no, .alloc [(.int .i64 (0)), .nilsl]⟩,
  ⟨some 7, none, .no, .mv (.v (.int .i64 (0)))⟩]
@[go_sem] def ranges_Merge_r1 : List AIns := [
  ⟨some 8, none, .no, .load true 2 (.t 3)⟩,
  ⟨some 9, none, .no, .call (.v (.fn 21 [])) [(.t 8)]⟩,
  ⟨some 10, none, .no, .un .not (.t 9)⟩,
  ⟨some 11, none, .no, .mv (.t 10)⟩,
  ⟨some 12, some (11, false), .no, .mv (.t 1)⟩,
  ⟨some 13, some (11, false), .no, .fa 0 (.t 3)⟩,
  ⟨some 14, some (11, false), .no, .load false 1 (.t 13)⟩,
  ⟨some 15, some (11, false), .no, .bin .lss .none (.t 12) (.t 14)⟩,
  ⟨some 16, none, .no, .pick (.t 11) (.v (.bool true)) (.t 15)⟩,
  ⟨some 17, none, .no, .mv (.t 16)⟩,
  ⟨some 18, some (17, false), .no, .mv (.t 1)⟩,
  ⟨some 19, some (17, false), .no, .bin .gtr .none (.t 18) (.v (.int .i64 (4096)))⟩,
  ⟨some 20, none, .no, .pick (.t 17) (.v (.bool true)) (.t 19)⟩]
@[go_sem] def ranges_Merge_r2 : List AIns := [
  ⟨some 21, none, .no, .build [(.int .i64 (0)), .nilsl] []⟩,
  ⟨none, none, .no, .store 2 (.t 6) (.t 21)⟩,
  ⟨some 7, none, .no, .mv (.v (.int .i64 (2)))⟩]
def ranges_Merge_c3 : ACode := .seq (.reg ranges_Merge_r2) .ret
def ranges_Merge_c4 : ACode := .cond (.t 20) ranges_Merge_c3 .skip
def ranges_Merge_c5 : ACode := .seq (.reg ranges_Merge_r1) ranges_Merge_c4
@[go_sem] def ranges_Merge_r6 : List AIns := [
  ⟨some 22, none, .no, .fa 1 (.t 3)⟩,
  ⟨some 23, none, .no, .load false 1 (.t 22)⟩,
  ⟨some 24, none, .no, .call (.v (.fn 82 [])) [(.t 23)]⟩,
  ⟨some 25, none, .no, .fa 1 (.t 3)⟩,
  ⟨none, none, .no, .store 1 (.t 25) (.t 24)⟩]
@[go_sem] def ranges_Merge_r7 : List AIns := [
  ⟨some 26, none, .no, .fa 0 (.t 3)⟩,
  ⟨some 27, none, .no, .load false 1 (.t 26)⟩,
  ⟨some 28, none, .no, .mv (.t 1)⟩,
  ⟨some 29, none, .no, .bin .lss .none (.t 27) (.t 28)⟩]
def ranges_Merge_c8 : ACode := .cond (.t 29) .skip (.exit 0)
def ranges_Merge_c9 : ACode := .seq (.reg ranges_Merge_r7) ranges_Merge_c8
@[go_sem] def ranges_Merge_r10 : List AIns := [
  ⟨some 30, none, .no, .mv (.t 2)⟩,
  ⟨some 31, none, .no, .lenSl (.t 30)⟩,
  ⟨some 32, none, .no, .bin .eql .none (.t 31) (.v (.int .i64 (0)))⟩]
@[go_sem] def ranges_Merge_r11 : List AIns := [
  ⟨some 33, none, .no, .build [(.int .i64 (0)), .nilsl] []⟩,
  ⟨none, none, .no, .store 2 (.t 6) (.t 33)⟩,
  ⟨some 7, none, .no, .mv (.v (.int .i64 (2)))⟩]
def ranges_Merge_c12 : ACode := .seq (.reg ranges_Merge_r11) .ret
def ranges_Merge_c13 : ACode := .cond (.t 32) ranges_Merge_c12 .skip
def ranges_Merge_c14 : ACode := .seq (.reg ranges_Merge_r10) ranges_Merge_c13
@[go_sem] def ranges_Merge_r15 : List AIns := [
  ⟨some 34, none, .rd, .load true 2 (.t 3)⟩,
  ⟨some 35, none, .no, .fa 0 (.t 3)⟩,
  ⟨some 36, none, .rd, .load false 1 (.t 35)⟩,
  ⟨some 37, none, .no, .mv (.t 1)⟩,
  ⟨some 38, none, .ef, .call (.v (.fn 92 [])) [(.t 36), (.t 37)]⟩,
  ⟨some 39, none, .no, .mv (.t 2)⟩,
  ⟨some 40, none, .no, .iaSl 32 (.t 39) (.v (.int .i64 (0)))⟩,
  ⟨some 41, none, .rd, .load true 32 (.t 40)⟩,
  ⟨some 42, none, .no, .call (.v (.fn 83 [])) [(.t 34), (.t 38), (.t 41)]⟩,
  ⟨some 43, none, .no, .mv (.t 2)⟩,
  ⟨some 44, none, .no, .slice (.sl 32) (.t 43) (some (.v (.int .i64 (1)))) none none⟩,
  ⟨none, none, .no, .store 2 (.t 3) (.t 42)⟩,
  ⟨some 2, none, .no, .mv (.t 44)⟩]
def ranges_Merge_c16 : ACode := .seq ranges_Merge_c14 (.reg ranges_Merge_r15)
def ranges_Merge_c17 : ACode := .block 1 ranges_Merge_c16
def ranges_Merge_c18 : ACode := .seq ranges_Merge_c9 ranges_Merge_c17
def ranges_Merge_c19 : ACode := .loop ranges_Merge_c18
@[go_sem] def ranges_Merge_r20 : List AIns := [
  ⟨some 45, none, .no, .mv (.t 2)⟩,
  ⟨some 46, none, .no, .lenSl (.t 45)⟩,
  ⟨some 47, none, .no, .bin .gtr .none (.t 46) (.v (.int .i64 (0)))⟩]
@[go_sem] def ranges_Merge_r21 : List AIns := [
  ⟨some 48, none, .no, .build [(.int .i64 (0)), .nilsl] []⟩,
  ⟨none, none, .no, .store 2 (.t 6) (.t 48)⟩,
  ⟨some 7, none, .no, .mv (.v (.int .i64 (2)))⟩]
def ranges_Merge_c22 : ACode := .seq (.reg ranges_Merge_r21) .ret
def ranges_Merge_c23 : ACode := .cond (.t 47) ranges_Merge_c22 .skip
def ranges_Merge_c24 : ACode := .seq (.reg ranges_Merge_r20) ranges_Merge_c23
@[go_sem] def ranges_Merge_r25 : List AIns := [
  ⟨some 49, none, .no, .load true 2 (.t 3)⟩,
  ⟨none, none, .no, .store 2 (.t 6) (.t 49)⟩,
  ⟨some 7, none, .no, .mv (.v (.int .i64 (0)))⟩]
def ranges_Merge_c26 : ACode := .seq (.reg ranges_Merge_r25) .ret
def ranges_Merge_c27 : ACode := .seq ranges_Merge_c24 ranges_Merge_c26
def ranges_Merge_c28 : ACode := .seq (.block 0 ranges_Merge_c19) ranges_Merge_c27
def ranges_Merge_c29 : ACode := .seq (.reg ranges_Merge_r6) ranges_Merge_c28
def ranges_Merge_c30 : ACode := .seq ranges_Merge_c5 ranges_Merge_c29
def ranges_Merge_c31 : ACode := .seq (.reg ranges_Merge_r0) ranges_Merge_c30
theorem ranges_Merge_ok : cFn TC 23 = some (50, [.c 6 true 2, .t 7], ranges_Merge_c31) := by kernel_rfl

@[go_sem] def speculumref05_Merge_r0 : List AIns := [
  ⟨some 3, none, .no, .box (.t 0)⟩,
  ⟨some 6, none, .no, .alloc [(.int .i64 (0)), .nilsl]⟩,
  ⟨some 7, none, .no, .mv (.v (.int .i64 (0)))⟩]
@[go_sem] def speculumref05_Merge_r1 : List AIns := [
  ⟨some 11, none, .no, .load true 2 (.t 3)⟩,
  ⟨some 12, none, .no, .call (.v (.fn 22 [])) [(.t 11)]⟩,
  ⟨some 13, none, .no, .un .not (.t 12)⟩,
  ⟨some 14, none, .no, .mv (.t 13)⟩,
  ⟨some 15, some (14, false), .no, .mv (.t 1)⟩,
  ⟨some 16, some (14, false), .no, .fa 0 (.t 3)⟩,
  ⟨some 17, some (14, false), .no, .load false 1 (.t 16)⟩,
  ⟨some 18, some (14, false), .no, .bin .lss .none (.t 15) (.t 17)⟩,
  ⟨some 19, none, .no, .pick (.t 14) (.v (.bool true)) (.t 18)⟩,
  ⟨some 20, none, .no, .mv (.t 19)⟩,
  ⟨some 21, some (20, false), .no, .mv (.t 1)⟩,
  ⟨some 22, some (20, false), .no, .bin .gtr .none (.t 21) (.v (.int .i64 (4096)))⟩,
  ⟨some 23, none, .no, .pick (.t 20) (.v (.bool true)) (.t 22)⟩]
@[go_sem] def speculumref05_Merge_r2 : List AIns := [
  ⟨some 24, none, .no, .build [(.int .i64 (0)), .nilsl] []⟩,
  ⟨none, none, .no, .store 2 (.t 6) (.t 24)⟩,
  ⟨some 7, none, .no, .mv (.v (.int .i64 (2)))⟩]
def speculumref05_Merge_c3 : ACode := .seq (.reg speculumref05_Merge_r2) .ret
def speculumref05_Merge_c4 : ACode := .cond (.t 23) speculumref05_Merge_c3 .skip
def speculumref05_Merge_c5 : ACode := .seq (.reg speculumref05_Merge_r1) speculumref05_Merge_c4
@[go_sem] def speculumref05_Merge_r6 : List AIns := [
  ⟨some 25, none, .no, .fa 0 (.t 3)⟩,
  ⟨some 26, none, .no, .load false 1 (.t 25)⟩,
  ⟨some 27, none, .no, .mv (.t 1)⟩,
  ⟨some 28, none, .no, .call (.v (.fn 93 [])) [(.t 26), (.t 27)]⟩,
  ⟨some 8, none, .no, .mv (.t 28)⟩]
@[go_sem] def speculumref05_Merge_r7 : List AIns := [
  ⟨some 29, none, .no, .mv (.t 8)⟩,
  ⟨some 30, none, .no, .lenSl (.t 29)⟩,
  ⟨some 31, none, .no, .mv (.t 2)⟩,
  ⟨some 32, none, .no, .lenSl (.t 31)⟩,
  ⟨some 33, none, .no, .bin .neq .none (.t 30) (.t 32)⟩]
@[go_sem] def speculumref05_Merge_r8 : List AIns := [
  ⟨some 34, none, .no, .build [(.int .i64 (0)), .nilsl] []⟩,
  ⟨none, none, .no, .store 2 (.t 6) (.t 34)⟩,
  ⟨some 7, none, .no, .mv (.v (.int .i64 (2)))⟩]
def speculumref05_Merge_c9 : ACode := .seq (.reg speculumref05_Merge_r8) .ret
def speculumref05_Merge_c10 : ACode := .cond (.t 33) speculumref05_Merge_c9 .skip
def speculumref05_Merge_c11 : ACode := .seq (.reg speculumref05_Merge_r7) speculumref05_Merge_c10
@[go_sem] def speculumref05_Merge_r12 : List AIns := [
  ⟨some 35, none, .no, .load true 2 (.t 3)⟩,
  ⟨some 36, none, .no, .call (.v (.fn 84 [])) [(.t 35)]⟩,
  ⟨some 9, none, .no, .mv (.t 36)⟩]
@[go_sem] def speculumref05_Merge_r13 : List AIns := [
  ⟨some 10, none, .no, .mv (.v (.int .i64 (0)))⟩]
@[go_sem] def speculumref05_Merge_r14 : List AIns := [
  ⟨some 37, none, .no, .mv (.t 10)⟩,
  ⟨some 38, none, .no, .mv (.t 8)⟩,
  ⟨some 39, none, .no, .lenSl (.t 38)⟩,
  ⟨some 40, none, .no, .bin .lss .none (.t 37) (.t 39)⟩]
def speculumref05_Merge_c15 : ACode := .cond (.t 40) .skip (.exit 0)
def speculumref05_Merge_c16 : ACode := .seq (.reg speculumref05_Merge_r14) speculumref05_Merge_c15
@[go_sem] def speculumref05_Merge_r17 : List AIns := [
  ⟨some 43, none, .no, .mv (.t 9)⟩,
  ⟨some 44, none, .ef, .app 33 (.v .nilsl) (.t 43)⟩,
  ⟨some 45, none, .no, .mv (.t 8)⟩,
  ⟨some 46, none, .no, .mv (.t 10)⟩,
  ⟨some 47, none, .no, .iaSl 1 (.t 45) (.t 46)⟩,
  ⟨some 48, none, .rd, .load false 1 (.t 47)⟩,
  ⟨some 49, none, .no, .mv (.t 2)⟩,
  ⟨some 50, none, .no, .mv (.t 10)⟩,
  ⟨some 51, none, .no, .iaSl 32 (.t 49) (.t 50)⟩,
  ⟨some 52, none, .rd, .load true 32 (.t 51)⟩,
  ⟨some 53, none, .no, .build [(.int .i64 (0)), (.int .u8 (0)), (.int .u8 (0)), (.int .u8 (0)), (.int .u8 (0)), (.int .u8 (0)), (.int .u8 (0)), (.int .u8 (0)), (.int .u8 (0)), (.int .u8 (0)), (.int .u8 (0)), (.int .u8 (0)), (.int .u8 (0)), (.int .u8 (0)), (.int .u8 (0)), (.int .u8 (0)), (.int .u8 (0)), (.int .u8 (0)), (.int .u8 (0)), (.int .u8 (0)), (.int .u8 (0)), (.int .u8 (0)), (.int .u8 (0)), (.int .u8 (0)), (.int .u8 (0)), (.int .u8 (0)), (.int .u8 (0)), (.int .u8 (0)), (.int .u8 (0)), (.int .u8 (0)), (.int .u8 (0)), (.int .u8 (0)), (.int .u8 (0))] [(0, 1, (.t 48)), (1, 32, (.t 52))]⟩,
  ⟨some 54, none, .no, .lit 33 [(.t 53)]⟩,
  ⟨some 55, none, .no, .app 33 (.t 44) (.t 54)⟩,
  ⟨some 56, none, .no, .call (.v (.fn 85 [])) [(.t 55)]⟩,
  ⟨some 9, none, .no, .mv (.t 56)⟩]
@[go_sem] def speculumref05_Merge_r18 : List AIns := [
  ⟨some 41, none, .no, .mv (.t 10)⟩,
  ⟨some 42, none, .no, .bin .add .none (.t 41) (.v (.int .i64 (1)))⟩,
  ⟨some 10, none, .no, .mv (.t 42)⟩]
def speculumref05_Merge_c19 : ACode := .seq (.block 1 (.reg speculumref05_Merge_r17)) (.reg speculumref05_Merge_r18)
def speculumref05_Merge_c20 : ACode := .seq speculumref05_Merge_c16 speculumref05_Merge_c19
def speculumref05_Merge_c21 : ACode := .loop speculumref05_Merge_c20
def speculumref05_Merge_c22 : ACode := .block 0 speculumref05_Merge_c21
def speculumref05_Merge_c23 : ACode := .seq (.reg speculumref05_Merge_r13) speculumref05_Merge_c22
@[go_sem] def speculumref05_Merge_r24 : List AIns := [
  ⟨some 57, none, .no, .mv (.t 9)⟩,
  ⟨some 58, none, .no, .call (.v (.fn 86 [])) [(.t 57)]⟩,
  ⟨none, none, .no, .store 2 (.t 6) (.t 58)⟩,
  ⟨some 7, none, .no, .mv (.v (.int .i64 (0)))⟩]
def speculumref05_Merge_c25 : ACode := .seq (.reg speculumref05_Merge_r24) .ret
def speculumref05_Merge_c26 : ACode := .seq speculumref05_Merge_c23 speculumref05_Merge_c25
def speculumref05_Merge_c27 : ACode := .seq (.reg speculumref05_Merge_r12) speculumref05_Merge_c26
def speculumref05_Merge_c28 : ACode := .seq speculumref05_Merge_c11 speculumref05_Merge_c27
def speculumref05_Merge_c29 : ACode := .seq (.reg speculumref05_Merge_r6) speculumref05_Merge_c28
def speculumref05_Merge_c30 : ACode := .seq speculumref05_Merge_c5 speculumref05_Merge_c29
def speculumref05_Merge_c31 : ACode := .seq (.reg speculumref05_Merge_r0) speculumref05_Merge_c30
theorem speculumref05_Merge_ok : cFn TC 24 = some (59, [.c 6 true 2, .t 7], speculumref05_Merge_c31) := by kernel_rfl

@[go_sem] def ranges_step_r0 : List AIns := [
  ⟨some 4, none, .no, .mv (.v (.int .i64 (0)))⟩]
@[go_sem] def ranges_step_r1 : List AIns := [
  ⟨some 5, none, .no, .mv (.v (.int .i64 (1)))⟩]
@[go_sem] def ranges_step_r2 : List AIns := [
  ⟨some 6, none, .no, .mv (.t 5)⟩,
  ⟨some 7, none, .no, .mv (.t 1)⟩,
  ⟨some 8, none, .no, .mv (.t 0)⟩,
  ⟨some 9, none, .no, .bin .sub .none (.t 7) (.t 8)⟩,
  ⟨some 10, none, .no, .bin .quo .none (.t 9) (.v (.int .i64 (2)))⟩,
  ⟨some 11, none, .no, .bin .leq .none (.t 6) (.t 10)⟩,
  ⟨some 12, none, .no, .mv (.t 11)⟩,
  ⟨some 13, some (12, true), .no, .mv (.t 0)⟩,
  ⟨some 14, some (12, true), .no, .mv (.t 5)⟩,
  ⟨some 15, some (12, true), .no, .bin .mul .none (.v (.int .i64 (2))) (.t 14)⟩,
  ⟨some 16, some (12, true), .no, .bin .rem .none (.t 13) (.t 15)⟩,
  ⟨some 17, some (12, true), .no, .bin .eql .none (.t 16) (.v (.int .i64 (0)))⟩,
  ⟨some 18, none, .no, .pick (.t 12) (.t 17) (.v (.bool false))⟩]
def ranges_step_c3 : ACode := .cond (.t 18) .skip (.exit 0)
def ranges_step_c4 : ACode := .seq (.reg ranges_step_r2) ranges_step_c3
@[go_sem] def ranges_step_r5 : List AIns := [
  ⟨some 19, none, .no, .mv (.t 5)⟩,
  ⟨some 20, none, .no, .bin .mul .none (.t 19) (.v (.int .i64 (2)))⟩,
  ⟨some 5, none, .no, .mv (.t 20)⟩]
def ranges_step_c6 : ACode := .block 1 (.reg ranges_step_r5)
def ranges_step_c7 : ACode := .seq ranges_step_c4 ranges_step_c6
def ranges_step_c8 : ACode := .loop ranges_step_c7
@[go_sem] def ranges_step_r9 : List AIns := [
  ⟨some 21, none, .no, .mv (.t 5)⟩,
  ⟨some 4, none, .no, .mv (.t 21)⟩]
def ranges_step_c10 : ACode := .seq (.reg ranges_step_r9) .ret
def ranges_step_c11 : ACode := .seq (.block 0 ranges_step_c8) ranges_step_c10
def ranges_step_c12 : ACode := .seq (.reg ranges_step_r1) ranges_step_c11
def ranges_step_c13 : ACode := .seq (.reg ranges_step_r0) ranges_step_c12
theorem ranges_step_ok : cFn TC 92 = some (22, [.t 4], ranges_step_c13) := by kernel_rfl

@[go_sem] def speculumref05_parts_r0 : List AIns := [
  ⟨some 4, none, .no, .mv (.v .nilsl)⟩]
@[go_sem] def speculumref05_parts_r1 : List AIns := [
  ⟨some 5, none, .no, .mv (.v .nilsl)⟩]
@[go_sem] def speculumref05_parts_r2 : List AIns := [
  ⟨some 8, none, .no, .mv (.t 0)⟩,
  ⟨some 9, none, .no, .mv (.t 1)⟩,
  ⟨some 10, none, .no, .bin .lss .none (.t 8) (.t 9)⟩]
def speculumref05_parts_c3 : ACode := .cond (.t 10) .skip (.exit 0)
def speculumref05_parts_c4 : ACode := .seq (.reg speculumref05_parts_r2) speculumref05_parts_c3
@[go_sem] def speculumref05_parts_r5 : List AIns := [
  ⟨some 6, none, .no, .mv (.v (.int .i64 (1)))⟩]
@[go_sem] def speculumref05_parts_r6 : List AIns := [
  ⟨some 7, none, .no, .mv (.v (.int .i64 (1)))⟩]
@[go_sem] def speculumref05_parts_r7 : List AIns := [
  ⟨some 11, none, .no, .mv (.t 7)⟩,
  ⟨some 12, none, .no, .mv (.t 1)⟩,
  ⟨some 13, none, .no, .mv (.t 0)⟩,
  ⟨some 14, none, .no, .bin .sub .none (.t 12) (.t 13)⟩,
  ⟨some 15, none, .no, .bin .leq .none (.t 11) (.t 14)⟩]
def speculumref05_parts_c8 : ACode := .cond (.t 15) .skip (.exit 2)
def speculumref05_parts_c9 : ACode := .seq (.reg speculumref05_parts_r7) speculumref05_parts_c8
@[go_sem] def speculumref05_parts_r10 : List AIns := [
  ⟨some 18, none, .no, .mv (.t 0)⟩,
  ⟨some 19, none, .no, .mv (.t 7)⟩,
  ⟨some 20, none, .no, .bin .rem .none (.t 18) (.t 19)⟩,
  ⟨some 21, none, .no, .bin .eql .none (.t 20) (.v (.int .i64 (0)))⟩]
@[go_sem] def speculumref05_parts_r11 : List AIns := [
  ⟨some 22, none, .no, .mv (.t 7)⟩,
  ⟨some 6, none, .no, .mv (.t 22)⟩]
def speculumref05_parts_c12 : ACode := .cond (.t 21) (.reg speculumref05_parts_r11) .skip
def speculumref05_parts_c13 : ACode := .seq (.reg speculumref05_parts_r10) speculumref05_parts_c12
@[go_sem] def speculumref05_parts_r14 : List AIns := [
  ⟨some 16, none, .no, .mv (.t 7)⟩,
  ⟨some 17, none, .no, .bin .mul .none (.t 16) (.v (.int .i64 (2)))⟩,
  ⟨some 7, none, .no, .mv (.t 17)⟩]
def speculumref05_parts_c15 : ACode := .seq (.block 3 speculumref05_parts_c13) (.reg speculumref05_parts_r14)
def speculumref05_parts_c16 : ACode := .seq speculumref05_parts_c9 speculumref05_parts_c15
def speculumref05_parts_c17 : ACode := .loop speculumref05_parts_c16
def speculumref05_parts_c18 : ACode := .block 2 speculumref05_parts_c17
def speculumref05_parts_c19 : ACode := .seq (.reg speculumref05_parts_r6) speculumref05_parts_c18
@[go_sem] def speculumref05_parts_r20 : List AIns := [
  ⟨some 23, none, .no, .mv (.t 5)⟩,
  ⟨some 24, none, .no, .mv (.t 6)⟩,
  ⟨some 25, none, .no, .lit 1 [(.t 24)]⟩,
  ⟨some 26, none, .no, .app 1 (.t 23) (.t 25)⟩,
  ⟨some 5, none, .no, .mv (.t 26)⟩]
@[go_sem] def speculumref05_parts_r21 : List AIns := [
  ⟨some 27, none, .no, .mv (.t 0)⟩,
  ⟨some 28, none, .no, .mv (.t 6)⟩,
  ⟨some 29, none, .no, .bin .add .none (.t 27) (.t 28)⟩,
  ⟨some 0, none, .no, .mv (.t 29)⟩]
def speculumref05_parts_c22 : ACode := .seq (.reg speculumref05_parts_r20) (.reg speculumref05_parts_r21)
def speculumref05_parts_c23 : ACode := .seq speculumref05_parts_c19 speculumref05_parts_c22
def speculumref05_parts_c24 : ACode := .seq (.reg speculumref05_parts_r5) speculumref05_parts_c23
def speculumref05_parts_c25 : ACode := .block 1 speculumref05_parts_c24
def speculumref05_parts_c26 : ACode := .seq speculumref05_parts_c4 speculumref05_parts_c25
def speculumref05_parts_c27 : ACode := .loop speculumref05_parts_c26
@[go_sem] def speculumref05_parts_r28 : List AIns := [
  ⟨some 30, none, .no, .mv (.t 5)⟩,
  ⟨some 4, none, .no, .mv (.t 30)⟩]
def speculumref05_parts_c29 : ACode := .seq (.reg speculumref05_parts_r28) .ret
def speculumref05_parts_c30 : ACode := .seq (.block 0 speculumref05_parts_c27) speculumref05_parts_c29
def speculumref05_parts_c31 : ACode := .seq (.reg speculumref05_parts_r1) speculumref05_parts_c30
def speculumref05_parts_c32 : ACode := .seq (.reg speculumref05_parts_r0) speculumref05_parts_c31
theorem speculumref05_parts_ok : cFn TC 93 = some (31, [.t 4], speculumref05_parts_c32) := by kernel_rfl

@[go_sem] def slices_Equal_api_Hash__r0 : List AIns := [
  ⟨some 4, none, .no, .mv (.v (.bool false))⟩]
@[go_sem] def slices_Equal_api_Hash__r1 : List AIns := [
  ⟨some 6, none, .no, .mv (.t 0)⟩,
  ⟨some 7, none, .no, .lenSl (.t 6)⟩,
  ⟨some 8, none, .no, .mv (.t 1)⟩,
  ⟨some 9, none, .no, .lenSl (.t 8)⟩,
  ⟨some 10, none, .no, .bin .neq .none (.t 7) (.t 9)⟩]
@[go_sem] def slices_Equal_api_Hash__r2 : List AIns := [
  ⟨some 4, none, .no, .mv (.v (.bool false))⟩]
def slices_Equal_api_Hash__c3 : ACode := .seq (.reg slices_Equal_api_Hash__r2) .ret
def slices_Equal_api_Hash__c4 : ACode := .cond (.t 10) slices_Equal_api_Hash__c3 .skip
def slices_Equal_api_Hash__c5 : ACode := .seq (.reg slices_Equal_api_Hash__r1) slices_Equal_api_Hash__c4
@[go_sem] def slices_Equal_api_Hash__r6 : List AIns := [
  ⟨some 11, none, .no, .mv (.t 0)⟩,
  ⟨some 12, none, .no, .lenSl (.t 11)⟩,
  ⟨some 13, none, .no, .mv (.v (.int .i64 (0)))⟩]
@[go_sem] def slices_Equal_api_Hash__r7 : List AIns := [
  ⟨some 14, none, .no, .bin .lss .none (.t 13) (.t 12)⟩]
@[go_sem] def slices_Equal_api_Hash__r8 : List AIns := [
  ⟨some 15, none, .no, .mv (.t 13)⟩,
  ⟨some 5, none, .no, .mv (.t 15)⟩]
@[go_sem] def slices_Equal_api_Hash__r9 : List AIns := [
  ⟨some 16, none, .no, .mv (.t 0)⟩,
  ⟨some 17, none, .no, .mv (.t 5)⟩,
  ⟨some 18, none, .no, .iaSl 32 (.t 16) (.t 17)⟩,
  ⟨some 19, none, .rd, .load true 32 (.t 18)⟩,
  ⟨some 20, none, .no, .mv (.t 1)⟩,
  ⟨some 21, none, .no, .mv (.t 5)⟩,
  ⟨some 22, none, .no, .iaSl 32 (.t 20) (.t 21)⟩,
  ⟨some 23, none, .rd, .load true 32 (.t 22)⟩,
  ⟨some 24, none, .no, .bin .neq (.agg (List.replicate 32 (.i .u8) ++ [])) (.t 19) (.t 23)⟩]
@[go_sem] def slices_Equal_api_Hash__r10 : List AIns := [
  ⟨some 4, none, .no, .mv (.v (.bool false))⟩]
def slices_Equal_api_Hash__c11 : ACode := .seq (.reg slices_Equal_api_Hash__r10) .ret
def slices_Equal_api_Hash__c12 : ACode := .cond (.t 24) slices_Equal_api_Hash__c11 .skip
def slices_Equal_api_Hash__c13 : ACode := .seq (.reg slices_Equal_api_Hash__r9) slices_Equal_api_Hash__c12
def slices_Equal_api_Hash__c14 : ACode := .seq (.reg slices_Equal_api_Hash__r8) slices_Equal_api_Hash__c13
@[go_sem] def slices_Equal_api_Hash__r15 : List AIns := [
  ⟨some 25, none, .no, .bin .add .none (.t 13) (.v (.int .i64 (1)))⟩,
  ⟨some 13, none, .no, .mv (.t 25)⟩]
def slices_Equal_api_Hash__c16 : ACode := .seq (.block 1 slices_Equal_api_Hash__c14) (.reg slices_Equal_api_Hash__r15)
def slices_Equal_api_Hash__c17 : ACode := .seq (.cond (.t 14) .skip (.exit 0)) slices_Equal_api_Hash__c16
def slices_Equal_api_Hash__c18 : ACode := .seq (.reg slices_Equal_api_Hash__r7) slices_Equal_api_Hash__c17
def slices_Equal_api_Hash__c19 : ACode := .loop slices_Equal_api_Hash__c18
def slices_Equal_api_Hash__c20 : ACode := .block 0 slices_Equal_api_Hash__c19
def slices_Equal_api_Hash__c21 : ACode := .seq (.reg slices_Equal_api_Hash__r6) slices_Equal_api_Hash__c20
@[go_sem] def slices_Equal_api_Hash__r22 : List AIns := [
  ⟨some 4, none, .no, .mv (.v (.bool true))⟩]
def slices_Equal_api_Hash__c23 : ACode := .seq (.reg slices_Equal_api_Hash__r22) .ret
def slices_Equal_api_Hash__c24 : ACode := .seq slices_Equal_api_Hash__c21 slices_Equal_api_Hash__c23
def slices_Equal_api_Hash__c25 : ACode := .seq slices_Equal_api_Hash__c5 slices_Equal_api_Hash__c24
def slices_Equal_api_Hash__c26 : ACode := .seq (.reg slices_Equal_api_Hash__r0) slices_Equal_api_Hash__c25
theorem slices_Equal_api_Hash__ok : cFn TC 94 = some (26, [.t 4], slices_Equal_api_Hash__c26) := by kernel_rfl

@[go_sem] def speculumref05_open_r0 : List AIns := [
  ⟨some 1, none, .no, .box (.t 0)⟩,
  ⟨some 2, none, .no, .mv (.v .nilsl)⟩]
@[go_sem] def speculumref05_open_r1 : List AIns := [
  ⟨some 3, none, .no, .mv (.v .nilsl)⟩]
@[go_sem] def speculumref05_open_r2 : List AIns := [
  ⟨some 4, none, .no, .mv (.v (.int .i64 (4096)))⟩]
@[go_sem] def speculumref05_open_r3 : List AIns := [
  ⟨some 5, none, .no, .mv (.t 4)⟩,
  ⟨some 6, none, .no, .bin .gtr .none (.t 5) (.v (.int .i64 (0)))⟩]
def speculumref05_open_c4 : ACode := .cond (.t 6) .skip (.exit 0)
def speculumref05_open_c5 : ACode := .seq (.reg speculumref05_open_r3) speculumref05_open_c4
@[go_sem] def speculumref05_open_r6 : List AIns := [
  ⟨some 9, none, .no, .fa 0 (.t 1)⟩,
  ⟨some 10, none, .no, .load false 1 (.t 9)⟩,
  ⟨some 11, none, .no, .mv (.t 4)⟩,
  ⟨some 12, none, .no, .bin .quo .none (.t 10) (.t 11)⟩,
  ⟨some 13, none, .no, .bin .rem .none (.t 12) (.v (.int .i64 (2)))⟩,
  ⟨some 14, none, .no, .bin .eql .none (.t 13) (.v (.int .i64 (1)))⟩]
@[go_sem] def speculumref05_open_r7 : List AIns := [
  ⟨some 15, none, .no, .mv (.t 3)⟩,
  ⟨some 16, none, .no, .mv (.t 4)⟩,
  ⟨some 17, none, .no, .fa 1 (.t 1)⟩,
  ⟨some 18, none, .no, .load false 1 (.t 17)⟩,
  ⟨some 19, none, .no, .mv (.t 3)⟩,
  ⟨some 20, none, .no, .lenSl (.t 19)⟩,
  ⟨some 21, none, .no, .iaSl 32 (.t 18) (.t 20)⟩,
  ⟨some 22, none, .no, .load true 32 (.t 21)⟩,
  ⟨some 23, none, .no, .build [(.int .i64 (0)), (.int .u8 (0)), (.int .u8 (0)), (.int .u8 (0)), (.int .u8 (0)), (.int .u8 (0)), (.int .u8 (0)), (.int .u8 (0)), (.int .u8 (0)), (.int .u8 (0)), (.int .u8 (0)), (.int .u8 (0)), (.int .u8 (0)), (.int .u8 (0)), (.int .u8 (0)), (.int .u8 (0)), (.int .u8 (0)), (.int .u8 (0)), (.int .u8 (0)), (.int .u8 (0)), (.int .u8 (0)), (.int .u8 (0)), (.int .u8 (0)), (.int .u8 (0)), (.int .u8 (0)), (.int .u8 (0)), (.int .u8 (0)), (.int .u8 (0)), (.int .u8 (0)), (.int .u8 (0)), (.int .u8 (0)), (.int .u8 (0)), (.int .u8 (0))] [(0, 1, (.t 16)), (1, 32, (.t 22))]⟩,
  ⟨some 24, none, .no, .lit 33 [(.t 23)]⟩,
  ⟨some 25, none, .no, .app 33 (.t 15) (.t 24)⟩,
  ⟨some 3, none, .no, .mv (.t 25)⟩]
def speculumref05_open_c8 : ACode := .cond (.t 14) (.reg speculumref05_open_r7) .skip
def speculumref05_open_c9 : ACode := .seq (.reg speculumref05_open_r6) speculumref05_open_c8
@[go_sem] def speculumref05_open_r10 : List AIns := [
  ⟨some 7, none, .no, .mv (.t 4)⟩,
  ⟨some 8, none, .no, .bin .quo .none (.t 7) (.v (.int .i64 (2)))⟩,
  ⟨some 4, none, .no, .mv (.t 8)⟩]
def speculumref05_open_c11 : ACode := .seq (.block 1 speculumref05_open_c9) (.reg speculumref05_open_r10)
def speculumref05_open_c12 : ACode := .seq speculumref05_open_c5 speculumref05_open_c11
def speculumref05_open_c13 : ACode := .loop speculumref05_open_c12
def speculumref05_open_c14 : ACode := .block 0 speculumref05_open_c13
def speculumref05_open_c15 : ACode := .seq (.reg speculumref05_open_r2) speculumref05_open_c14
@[go_sem] def speculumref05_open_r16 : List AIns := [
  ⟨some 26, none, .no, .mv (.t 3)⟩,
  ⟨some 2, none, .no, .mv (.t 26)⟩]
def speculumref05_open_c17 : ACode := .seq (.reg speculumref05_open_r16) .ret
def speculumref05_open_c18 : ACode := .seq speculumref05_open_c15 speculumref05_open_c17
def speculumref05_open_c19 : ACode := .seq (.reg speculumref05_open_r1) speculumref05_open_c18
def speculumref05_open_c20 : ACode := .seq (.reg speculumref05_open_r0) speculumref05_open_c19
theorem speculumref05_open_ok : cFn TC 84 = some (27, [.t 2], speculumref05_open_c20) := by kernel_rfl

@[go_sem] def speculumref05_join_r0 : List AIns := [
  ⟨some 2, none, .no, .mv (.v .nilsl)⟩]
@[go_sem] def speculumref05_join_r1 : List AIns := [
  ⟨some 4, none, .no, .mv (.t 0)⟩,
  ⟨some 5, none, .no, .lenSl (.t 4)⟩,
  ⟨some 3, none, .no, .mv (.t 5)⟩]
@[go_sem] def speculumref05_join_r2 : List AIns := [
  ⟨some 6, none, .no, .mv (.t 3)⟩,
  ⟨some 7, none, .no, .bin .gtr .none (.t 6) (.v (.int .i64 (1)))⟩,
  ⟨some 8, none, .no, .mv (.t 7)⟩,
  ⟨some 9, some (8, true), .no, .mv (.t 0)⟩,
  ⟨some 10, some (8, true), .no, .mv (.t 3)⟩,
  ⟨some 11, some (8, true), .no, .bin .sub .none (.t 10) (.v (.int .i64 (1)))⟩,
  ⟨some 12, some (8, true), .no, .iaSl 33 (.t 9) (.t 11)⟩,
  ⟨some 13, some (8, true), .no, .fa 0 (.t 12)⟩,
  ⟨some 14, some (8, true), .rd, .load false 1 (.t 13)⟩,
  ⟨some 15, some (8, true), .no, .mv (.t 0)⟩,
  ⟨some 16, some (8, true), .no, .mv (.t 3)⟩,
  ⟨some 17, some (8, true), .no, .bin .sub .none (.t 16) (.v (.int .i64 (2)))⟩,
  ⟨some 18, some (8, true), .no, .iaSl 33 (.t 15) (.t 17)⟩,
  ⟨some 19, some (8, true), .no, .fa 0 (.t 18)⟩,
  ⟨some 20, some (8, true), .rd, .load false 1 (.t 19)⟩,
  ⟨some 21, some (8, true), .no, .bin .eql .none (.t 14) (.t 20)⟩,
  ⟨some 22, none, .no, .pick (.t 8) (.t 21) (.v (.bool false))⟩]
def speculumref05_join_c3 : ACode := .cond (.t 22) .skip (.exit 0)
def speculumref05_join_c4 : ACode := .seq (.reg speculumref05_join_r2) speculumref05_join_c3
@[go_sem] def speculumref05_join_r5 : List AIns := [
  ⟨some 23, none, .no, .mv (.t 0)⟩,
  ⟨some 24, none, .no, .mv (.t 3)⟩,
  ⟨some 25, none, .no, .bin .sub .none (.t 24) (.v (.int .i64 (2)))⟩,
  ⟨some 26, none, .no, .slice (.sl 33) (.t 23) none (some (.t 25)) none⟩,
  ⟨some 27, none, .ef, .app 33 (.v .nilsl) (.t 26)⟩,
  ⟨some 28, none, .no, .mv (.t 0)⟩,
  ⟨some 29, none, .no, .mv (.t 3)⟩,
  ⟨some 30, none, .no, .bin .sub .none (.t 29) (.v (.int .i64 (1)))⟩,
  ⟨some 31, none, .no, .iaSl 33 (.t 28) (.t 30)⟩,
  ⟨some 32, none, .no, .fa 0 (.t 31)⟩,
  ⟨some 33, none, .rd, .load false 1 (.t 32)⟩,
  ⟨some 34, none, .no, .bin .mul .none (.v (.int .i64 (2))) (.t 33)⟩,
  ⟨some 35, none, .no, .mv (.t 0)⟩,
  ⟨some 36, none, .no, .mv (.t 3)⟩,
  ⟨some 37, none, .no, .bin .sub .none (.t 36) (.v (.int .i64 (2)))⟩,
  ⟨some 38, none, .no, .iaSl 33 (.t 35) (.t 37)⟩,
  ⟨some 39, none, .no, .fa 1 (.t 38)⟩,
  ⟨some 40, none, .rd, .load true 32 (.t 39)⟩,
  ⟨some 41, none, .no, .mv (.t 0)⟩,
  ⟨some 42, none, .no, .mv (.t 3)⟩,
  ⟨some 43, none, .no, .bin .sub .none (.t 42) (.v (.int .i64 (1)))⟩,
  ⟨some 44, none, .no, .iaSl 33 (.t 41) (.t 43)⟩,
  ⟨some 45, none, .no, .fa 1 (.t 44)⟩,
  ⟨some 46, none, .rd, .load true 32 (.t 45)⟩,
  ⟨some 47, none, .ef, .call (.v (.fn 89 [])) [(.t 40), (.t 46)]⟩,
  ⟨some 48, none, .no, .build [(.int .i64 (0)), (.int .u8 (0)), (.int .u8 (0)), (.int .u8 (0)), (.int .u8 (0)), (.int .u8 (0)), (.int .u8 (0)), (.int .u8 (0)), (.int .u8 (0)), (.int .u8 (0)), (.int .u8 (0)), (.int .u8 (0)), (.int .u8 (0)), (.int .u8 (0)), (.int .u8 (0)), (.int .u8 (0)), (.int .u8 (0)), (.int .u8 (0)), (.int .u8 (0)), (.int .u8 (0)), (.int .u8 (0)), (.int .u8 (0)), (.int .u8 (0)), (.int .u8 (0)), (.int .u8 (0)), (.int .u8 (0)), (.int .u8 (0)), (.int .u8 (0)), (.int .u8 (0)), (.int .u8 (0)), (.int .u8 (0)), (.int .u8 (0)), (.int .u8 (0))] [(0, 1, (.t 34)), (1, 32, (.t 47))]⟩,
  ⟨some 49, none, .no, .lit 33 [(.t 48)]⟩,
  ⟨some 50, none, .no, .app 33 (.t 27) (.t 49)⟩,
  ⟨some 0, none, .no, .mv (.t 50)⟩]
@[go_sem] def speculumref05_join_r6 : List AIns := [
  ⟨some 51, none, .no, .mv (.t 3)⟩,
  ⟨some 52, none, .no, .bin .sub .none (.t 51) (.v (.int .i64 (1)))⟩,
  ⟨some 3, none, .no, .mv (.t 52)⟩]
def speculumref05_join_c7 : ACode := .seq (.reg speculumref05_join_r5) (.reg speculumref05_join_r6)
def speculumref05_join_c8 : ACode := .block 1 speculumref05_join_c7
def speculumref05_join_c9 : ACode := .seq speculumref05_join_c4 speculumref05_join_c8
def speculumref05_join_c10 : ACode := .loop speculumref05_join_c9
@[go_sem] def speculumref05_join_r11 : List AIns := [
  ⟨some 53, none, .no, .mv (.t 0)⟩,
  ⟨some 2, none, .no, .mv (.t 53)⟩]
def speculumref05_join_c12 : ACode := .seq (.reg speculumref05_join_r11) .ret
def speculumref05_join_c13 : ACode := .seq (.block 0 speculumref05_join_c10) speculumref05_join_c12
def speculumref05_join_c14 : ACode := .seq (.reg speculumref05_join_r1) speculumref05_join_c13
def speculumref05_join_c15 : ACode := .seq (.reg speculumref05_join_r0) speculumref05_join_c14
theorem speculumref05_join_ok : cFn TC 85 = some (54, [.t 2], speculumref05_join_c15) := by kernel_rfl

@[go_sem] def speculumref05_close_r0 : List AIns := [
  ⟨some 2, none, .no, .alloc [(.int .i64 (0)), .nilsl]⟩]
@[go_sem] def speculumref05_close_r1 : List AIns := [
  ⟨some 3, none, .no, .alloc [(.int .i64 (0)), .nilsl]⟩]
@[go_sem] def speculumref05_close_r2 : List AIns := [
  ⟨some 4, none, .no, .mv (.v (.int .i64 (0)))⟩]
@[go_sem] def speculumref05_close_r3 : List AIns := [
  ⟨some 5, none, .no, .mv (.t 4)⟩,
  ⟨some 6, none, .no, .mv (.t 0)⟩,
  ⟨some 7, none, .no, .lenSl (.t 6)⟩,
  ⟨some 8, none, .no, .bin .lss .none (.t 5) (.t 7)⟩]
def speculumref05_close_c4 : ACode := .cond (.t 8) .skip (.exit 0)
def speculumref05_close_c5 : ACode := .seq (.reg speculumref05_close_r3) speculumref05_close_c4
@[go_sem] def speculumref05_close_r6 : List AIns := [
  ⟨some 11, none, .no, .fa 0 (.t 3)⟩,
  ⟨some 12, none, .rd, .load false 1 (.t 11)⟩,
  ⟨some 13, none, .no, .mv (.t 0)⟩,
  ⟨some 14, none, .no, .mv (.t 4)⟩,
  ⟨some 15, none, .no, .iaSl 33 (.t 13) (.t 14)⟩,
  ⟨some 16, none, .no, .fa 0 (.t 15)⟩,
  ⟨some 17, none, .rd, .load false 1 (.t 16)⟩,
  ⟨some 18, none, .no, .bin .add .none (.t 12) (.t 17)⟩,
  ⟨some 19, none, .no, .fa 1 (.t 3)⟩,
  ⟨some 20, none, .rd, .load false 1 (.t 19)⟩,
  ⟨some 21, none, .no, .mv (.t 0)⟩,
  ⟨some 22, none, .no, .mv (.t 4)⟩,
  ⟨some 23, none, .no, .iaSl 33 (.t 21) (.t 22)⟩,
  ⟨some 24, none, .no, .fa 1 (.t 23)⟩,
  ⟨some 25, none, .rd, .load true 32 (.t 24)⟩,
  ⟨some 26, none, .no, .lit 32 [(.t 25)]⟩,
  ⟨some 27, none, .ef, .app 32 (.t 20) (.t 26)⟩,
  ⟨some 28, none, .no, .fa 0 (.t 3)⟩,
  ⟨none, none, .no, .store 1 (.t 28) (.t 18)⟩,
  ⟨some 29, none, .no, .fa 1 (.t 3)⟩,
  ⟨none, none, .no, .store 1 (.t 29) (.t 27)⟩]
@[go_sem] def speculumref05_close_r7 : List AIns := [
  ⟨some 9, none, .no, .mv (.t 4)⟩,
  ⟨some 10, none, .no, .bin .add .none (.t 9) (.v (.int .i64 (1)))⟩,
  ⟨some 4, none, .no, .mv (.t 10)⟩]
def speculumref05_close_c8 : ACode := .seq (.block 1 (.reg speculumref05_close_r6)) (.reg speculumref05_close_r7)
def speculumref05_close_c9 : ACode := .seq speculumref05_close_c5 speculumref05_close_c8
def speculumref05_close_c10 : ACode := .loop speculumref05_close_c9
def speculumref05_close_c11 : ACode := .block 0 speculumref05_close_c10
def speculumref05_close_c12 : ACode := .seq (.reg speculumref05_close_r2) speculumref05_close_c11
@[go_sem] def speculumref05_close_r13 : List AIns := [
  ⟨some 30, none, .no, .load true 2 (.t 3)⟩,
  ⟨none, none, .no, .store 2 (.t 2) (.t 30)⟩]
def speculumref05_close_c14 : ACode := .seq (.reg speculumref05_close_r13) .ret
def speculumref05_close_c15 : ACode := .seq speculumref05_close_c12 speculumref05_close_c14
def speculumref05_close_c16 : ACode := .seq (.reg speculumref05_close_r1) speculumref05_close_c15
def speculumref05_close_c17 : ACode := .seq (.reg speculumref05_close_r0) speculumref05_close_c16
theorem speculumref05_close_ok : cFn TC 86 = some (31, [.c 2 true 2], speculumref05_close_c17) := by kernel_rfl

@[go_sem] def slices_Clone_api_Hash__r0 : List AIns := [
  ⟨some 2, none, .no, .mv (.v .nilsl)⟩]
@[go_sem] def slices_Clone_api_Hash__r1 : List AIns := [
  ⟨some 3, none, .no, .mv (.t 0)⟩,
  ⟨some 4, none, .no, .bin .eql .slc (.t 3) (.v .nilsl)⟩]
@[go_sem] def slices_Clone_api_Hash__r2 : List AIns := [
  ⟨some 2, none, .no, .mv (.v .nilsl)⟩]
def slices_Clone_api_Hash__c3 : ACode := .seq (.reg slices_Clone_api_Hash__r2) .ret
def slices_Clone_api_Hash__c4 : ACode := .cond (.t 4) slices_Clone_api_Hash__c3 .skip
def slices_Clone_api_Hash__c5 : ACode := .seq (.reg slices_Clone_api_Hash__r1) slices_Clone_api_Hash__c4
@[go_sem] def slices_Clone_api_Hash__r6 : List AIns := [
  ⟨some 5, none, .no, .lit 32 []⟩,
  ⟨some 6, none, .no, .mv (.t 0)⟩,
  ⟨some 7, none, .no, .app 32 (.t 5) (.t 6)⟩,
  ⟨some 2, none, .no, .mv (.t 7)⟩]
def slices_Clone_api_Hash__c7 : ACode := .seq (.reg slices_Clone_api_Hash__r6) .ret
def slices_Clone_api_Hash__c8 : ACode := .seq slices_Clone_api_Hash__c5 slices_Clone_api_Hash__c7
def slices_Clone_api_Hash__c9 : ACode := .seq (.reg slices_Clone_api_Hash__r0) slices_Clone_api_Hash__c8
theorem slices_Clone_api_Hash__ok : cFn TC 82 = some (8, [.t 2], slices_Clone_api_Hash__c9) := by kernel_rfl

@[go_sem] def ranges_push_r0 : List AIns := [
  ⟨some 3, none, .no, .box (.t 0)⟩,
  ⟨some 5, none, .no, .box (.t 2)⟩,
  ⟨some 6, none, .no, .alloc [(.int .i64 (0)), .nilsl]⟩]
@[go_sem] def ranges_push_r1 : List AIns := [
  ⟨some 9, none, .no, .fa 1 (.t 3)⟩,
  ⟨some 10, none, .no, .load false 1 (.t 9)⟩,
  ⟨some 11, none, .no, .call (.v (.fn 82 [])) [(.t 10)]⟩,
  ⟨some 7, none, .no, .mv (.t 11)⟩]
@[go_sem] def ranges_push_r2 : List AIns := [
  ⟨some 12, none, .no, .mv (.t 1)⟩,
  ⟨some 8, none, .no, .mv (.t 12)⟩]
@[go_sem] def ranges_push_r3 : List AIns := [
  ⟨some 13, none, .no, .fa 0 (.t 3)⟩,
  ⟨some 14, none, .no, .load false 1 (.t 13)⟩,
  ⟨some 15, none, .no, .mv (.t 8)⟩,
  ⟨some 16, none, .no, .bin .and .none (.t 14) (.t 15)⟩,
  ⟨some 17, none, .no, .bin .neq .none (.t 16) (.v (.int .i64 (0)))⟩]
def ranges_push_c4 : ACode := .cond (.t 17) .skip (.exit 0)
def ranges_push_c5 : ACode := .seq (.reg ranges_push_r3) ranges_push_c4
@[go_sem] def ranges_push_r6 : List AIns := [
  ⟨some 20, none, .no, .mv (.t 7)⟩,
  ⟨some 21, none, .no, .mv (.t 7)⟩,
  ⟨some 22, none, .no, .lenSl (.t 21)⟩,
  ⟨some 23, none, .no, .bin .sub .none (.t 22) (.v (.int .i64 (1)))⟩,
  ⟨some 24, none, .no, .iaSl 32 (.t 20) (.t 23)⟩,
  ⟨some 25, none, .rd, .load true 32 (.t 24)⟩,
  ⟨some 26, none, .rd, .load true 32 (.t 5)⟩,
  ⟨some 27, none, .no, .call (.v (.fn 81 [])) [(.t 25), (.t 26)]⟩,
  ⟨none, none, .no, .store 32 (.t 5) (.t 27)⟩]
@[go_sem] def ranges_push_r7 : List AIns := [
  ⟨some 28, none, .no, .mv (.t 7)⟩,
  ⟨some 29, none, .no, .mv (.t 7)⟩,
  ⟨some 30, none, .no, .lenSl (.t 29)⟩,
  ⟨some 31, none, .no, .bin .sub .none (.t 30) (.v (.int .i64 (1)))⟩,
  ⟨some 32, none, .no, .slice (.sl 32) (.t 28) none (some (.t 31)) none⟩,
  ⟨some 7, none, .no, .mv (.t 32)⟩]
def ranges_push_c8 : ACode := .seq (.reg ranges_push_r6) (.reg ranges_push_r7)
@[go_sem] def ranges_push_r9 : List AIns := [
  ⟨some 18, none, .no, .mv (.t 8)⟩,
  ⟨some 19, none, .no, .bin .mul .none (.t 18) (.v (.int .i64 (2)))⟩,
  ⟨some 8, none, .no, .mv (.t 19)⟩]
def ranges_push_c10 : ACode := .seq (.block 1 ranges_push_c8) (.reg ranges_push_r9)
def ranges_push_c11 : ACode := .seq ranges_push_c5 ranges_push_c10
def ranges_push_c12 : ACode := .loop ranges_push_c11
def ranges_push_c13 : ACode := .block 0 ranges_push_c12
def ranges_push_c14 : ACode := .seq (.reg ranges_push_r2) ranges_push_c13
@[go_sem] def ranges_push_r15 : List AIns := [
  ⟨some 33, none, .no, .fa 0 (.t 3)⟩,
  ⟨some 34, none, .rd, .load false 1 (.t 33)⟩,
  ⟨some 35, none, .no, .mv (.t 1)⟩,
  ⟨some 36, none, .no, .bin .add .none (.t 34) (.t 35)⟩,
  ⟨some 37, none, .no, .mv (.t 7)⟩,
  ⟨some 38, none, .rd, .load true 32 (.t 5)⟩,
  ⟨some 39, none, .no, .lit 32 [(.t 38)]⟩,
  ⟨some 40, none, .ef, .app 32 (.t 37) (.t 39)⟩,
  ⟨some 41, none, .no, .build [(.int .i64 (0)), .nilsl] [(0, 1, (.t 36)), (1, 1, (.t 40))]⟩,
  ⟨none, none, .no, .store 2 (.t 6) (.t 41)⟩]
def ranges_push_c16 : ACode := .seq (.reg ranges_push_r15) .ret
def ranges_push_c17 : ACode := .seq ranges_push_c14 ranges_push_c16
def ranges_push_c18 : ACode := .seq (.reg ranges_push_r1) ranges_push_c17
def ranges_push_c19 : ACode := .seq (.reg ranges_push_r0) ranges_push_c18
theorem ranges_push_ok : cFn TC 83 = some (42, [.c 6 true 2], ranges_push_c19) := by kernel_rfl

@[go_sem] def slices_Backward_api_Hash__r0 : List AIns := [
  ⟨some 1, none, .no, .box (.t 0)⟩,
  ⟨some 2, none, .no, .mv (.v .nilfn)⟩]
@[go_sem] def slices_Backward_api_Hash__r1 : List AIns := [
  ⟨some 3, none, .no, .mkfn 144 [(.t 1)]⟩,
  ⟨some 2, none, .no, .mv (.t 3)⟩]
def slices_Backward_api_Hash__c2 : ACode := .seq (.reg slices_Backward_api_Hash__r1) .ret
def slices_Backward_api_Hash__c3 : ACode := .seq (.reg slices_Backward_api_Hash__r0) slices_Backward_api_Hash__c2
theorem slices_Backward_api_Hash__ok : cFn TC 87 = some (4, [.t 2], slices_Backward_api_Hash__c3) := by kernel_rfl

end Am
end Go.Proofs.YthgcooppjhcgcaaDoor
end
section
set_option linter.unusedSimpArgs false
set_option linter.unusedVariables false
/- Ranges: contracts: slices.Clone, slices.Equal, Valid; how many leaves the next part has. -/
set_option linter.unusedSimpArgs false
set_option linter.unusedVariables false
namespace Go.Proofs.YthgcooppjhcgcaaDoor
namespace Am
theorem ACallsP.toDown {C : Ctx} {f : FuncId} {args : List AV} {σ σ2 : Store} {v2 : AV} {P : AV → Store → Prop} (h : ACallsP C f args σ P)
    (hd : Wf σ.length σ → ∀ v σ', P v σ' → DownV σ.length v σ' v2 σ2) : ACallsTo C f args σ v2 σ2 := by
  intro γ w cargs hR ha
  rcases h γ w cargs hR ha with ⟨h1, h2⟩ | ⟨cv, v, γ', σ', w', h1, hp, h2, h3, h4⟩
  · refine .inl ⟨h1, h2.mono ?_⟩
    rintro e w' ⟨cv, v, γ', σ', rfl, hp, k1, k2, k3⟩
    obtain ⟨γ2, q1, q2, q3⟩ := (hd hR.wf v σ' hp).sound k2 k3 k1 hR.gl (by rw [hR.len]; exact Nat.le_refl _)
    exact ⟨cv, γ2, rfl, q1, q2, q3⟩
  · obtain ⟨γ2, q1, q2, q3⟩ := (hd hR.wf v σ' hp).sound h3 h4 h2 hR.gl (by rw [hR.len]; exact Nat.le_refl _)
    exact .inr ⟨cv, γ2, w', h1, q1, q2, q3⟩
theorem slen {σ : Store} {r : Nat} {x : Option AObj} (h : σ[r]? = some x) : r < σ.length := (List.getElem?_eq_some_iff.1 h).1
/-- All new objects are let go, and read as_ they are. -/
def FrzD (τ news : Store) : DC := keepD τ news [] id (fun _ => true)
theorem DownV.all {τ news : Store} {v v2 : AV} (hw : Wf τ.length τ) (h : DR (FrzD τ news) v2 v) : DownV τ.length v (τ ++ news) v2 τ :=
  ⟨FrzD τ news, rfl, by show DownS τ.length (keepD τ news [] id (fun _ => true)) τ; simpa using keepD_ok (kept := []) (idx := id) (fzl := fun _ => true) (news := news) hw (by simp) (by simp) (by simp) (by simp), h⟩
theorem FrzD.same {τ news : Store} {v : AV} (h : RL τ.length v) : DR (FrzD τ news) v v := DR.refl (keepD_base _ _ _) v h
theorem FrzD.sl {τ news : Store} {r off : Nat} {lim : Option Nat} {esz : Nat} {o es : AObj} (hk : τ.length ≤ r) (ho : (τ ++ news)[r]? = some (some o)) (hl : off + es.length ≤ o.length) (he : (o.drop off).take es.length = es) (hr : RLss τ.length es) :
    DR (FrzD τ news) (.vsl esz es false) (.sl r off es.length lim esz) := by
  simp only [DR, FrzD, keepD]
  right
  exact ⟨r, off, lim, o, rfl, by simpa using hk, ho, hl, by simp, by rw [he]; exact DRss.refl (keepD_base [] id (fun _ => true)) _ hr⟩
theorem drA {D : DC} {a b : List AV} (h : DRs D a b) : DR D (.agg a) (.agg b) := by simp only [DR]; exact ⟨b, rfl, h⟩
theorem OwnN.frz {sz : Nat} {τ news : Store} {v : AV} {es : List (List AV)} (h : OwnN sz τ (τ ++ news) v es) (hr : RLss τ.length es) : DR (FrzD τ news) (slVal sz es) v := by
  by_cases h0 : es = []
  · obtain ⟨n2, _, ⟨rfl, rfl⟩ | ⟨j, h1, _⟩⟩ := h
    · simp [slVal, DR]
    · exact absurd h0 h1
  · obtain ⟨r, rfl, hg, hk⟩ := h.sl h0
    unfold slVal
    rw [if_neg h0]
    exact FrzD.sl hk hg (by omega) (by simp) hr
/-- Slots, as_ a list. -/
def lkp : List (Nat × AV) → Env
  | [], _ => .any
  | (a, v) :: l, t => bif t == a then v else lkp l t
@[go_sem] theorem lkp_cons {a t : Nat} {v : AV} {l : List (Nat × AV)} : lkp ((a, v) :: l) t = bif t == a then v else lkp l t := rfl
/-- Own elements, or an empty literal. -/
def OwnE (sz : Nat) (τ σ' : Store) (v : AV) (es : List (List AV)) : Prop := OwnN sz τ σ' v es ∨ (es = [] ∧ v = .vsl sz [] true ∧ ∃ news, σ' = τ ++ news)
theorem OwnE.ext {sz : Nat} {τ σ' : Store} {v : AV} {es : List (List AV)} (h : OwnE sz τ σ' v es) : ∃ news, σ' = τ ++ news := by
  rcases h with h | ⟨_, _, h⟩
  · exact h.ext
  · exact h
theorem OwnE.rd {sz : Nat} {τ σ' : Store} {v : AV} {es : List (List AV)} (h : OwnE sz τ σ' v es) : RdSl σ' sz es v := by
  rcases h with h | ⟨rfl, rfl, _⟩
  · exact h.rd
  · exact .inl (.inr ⟨true, rfl⟩)
theorem OwnE.len {sz : Nat} {τ σ' : Store} {v : AV} {es : List (List AV)} (h : OwnE sz τ σ' v es) : rLenSl v = some (.int .i64 es.length) := h.rd.len
theorem OwnE.app {sz : Nat} {τ σ' : Store} {v : AV} {es ys : List (List AV)} (h : OwnE sz τ σ' v es) (h0 : ys.length ≠ 0) (hl : es.length + ys.length ≤ 1073741824) :
    ∃ v' σ'', aApp σ' sz v ys = some (v', σ'') ∧ OwnN sz τ σ'' v' (es ++ ys) := by
  rcases h with h | ⟨rfl, rfl, news, rfl⟩
  · exact h.app h0 hl
  · refine ⟨.sl (τ ++ news).length 0 ys.length none sz, (τ ++ news) ++ [some ys], by rw [app_v, if_neg h0, if_pos ⟨rfl, rfl, hl⟩]; simp, news ++ [some ys], by rw [List.append_assoc], .inr ⟨news.length, ?_, by simp, by rw [List.getElem?_append_right (Nat.le_refl _)]; simp⟩⟩
    intro e; exact h0 (by rw [(List.append_eq_nil_iff.1 e).2]; rfl)
theorem RdSl.elems {σ : Store} {sz : Nat} {es : List (List AV)} {x : AV} (h : RdSl σ sz es x) : slElems σ x = some es := by
  rcases h with (⟨rfl, rfl⟩ | ⟨ex, rfl⟩) | ⟨r, off, lim, o, rfl, hg, h1, h2⟩
  · rfl
  · rfl
  · rw [slElems_sl, hg]; simp only; rw [if_pos h1, h2]
set_option maxHeartbeats 4000000 in
theorem Clone_h (σ : Store) (l : List Hash) (x : AV) (hx : RdSl σ 32 (hr l) x) (hl : l.length < 1000000) :
    ACallsP TC 82 [x] σ (fun v σ' => OwnE 32 σ σ' v (hr l) ∧ (x = .nilsl ↔ v = .nilsl)) := by
  rcases hx with (⟨rfl, hnil⟩ | ⟨ex, rfl⟩) | ⟨r, off, lim, o, rfl, hg, h1, h2⟩
  · refine ACallsTo.toP (v := .nilsl) (σ' := σ) ?_ ⟨.inl ⟨[], by simp, .inl ⟨hnil, rfl⟩⟩, Iff.rfl⟩
    refine ACallsTo.of_body slices_Clone_api_Hash__ok (by simp) fun hw _ => ?_
    repeat' (first | refine SWp.seq ?_ | refine SWp.block ?_ | refine SWp.scope ?_ | refine SWp.condT rfl ?_ | refine SWp.condF rfl ?_ | (refine SWp.condD rfl (fun ht => ?_) (fun ht => ?_) <;> try (exfalso; omega)) | ((first | refine SWp.reg ?_ | refine SWp.skip ?_ | refine SWp.exit ?_ | refine SWp.ret ?_ | ((first | apply splitG | apply splitGB | apply splitR | apply splitRB | apply splitE | apply splitEB | apply splitC | apply splitCB) <;> intro ht)); all_goals try simp (disch := first | omega | (simp only [lens]; first | done | omega)) only [go_sem, Nat.reduceEqDiff, Nat.reduceBEq, Nat.reduceAdd, Nat.reduceMul, Nat.reduceSub, Nat.reduceLeDiff, Int.reduceToNat, Int.reducePow]))
    exact DownV.same hw (rlB_ok _ rfl)
  · by_cases h0 : l = []
    · subst h0
      refine ACallsTo.toP (v := .vsl 32 [] true) (σ' := σ) ?_ ⟨.inr ⟨rfl, rfl, [], by simp⟩, by simp⟩
      refine ACallsTo.of_body slices_Clone_api_Hash__ok (by simp) fun hw _ => ?_
      rw [hr_nil]
      repeat' (first | refine SWp.seq ?_ | refine SWp.block ?_ | refine SWp.scope ?_ | refine SWp.condT rfl ?_ | refine SWp.condF rfl ?_ | (refine SWp.condD rfl (fun ht => ?_) (fun ht => ?_) <;> try (exfalso; omega)) | ((first | refine SWp.reg ?_ | refine SWp.skip ?_ | refine SWp.exit ?_ | refine SWp.ret ?_ | ((first | apply splitG | apply splitGB | apply splitR | apply splitRB | apply splitE | apply splitEB | apply splitC | apply splitCB) <;> intro ht)); all_goals try simp (disch := first | omega | (simp only [lens]; first | done | omega)) only [go_sem, Nat.reduceEqDiff, Nat.reduceBEq, Nat.reduceAdd, Nat.reduceMul, Nat.reduceSub, Nat.reduceLeDiff, Int.reduceToNat, Int.reducePow]))
      exact DownV.same hw (rlB_ok _ rfl)
    · have hne : ¬ l.length = 0 := fun e => h0 (List.eq_nil_of_length_eq_zero e)
      refine ACallsP.of_keep slices_Clone_api_Hash__ok (by simp) ?_
      repeat' (first | refine SWp.seq ?_ | refine SWp.block ?_ | refine SWp.scope ?_ | refine SWp.condT rfl ?_ | refine SWp.condF rfl ?_ | (refine SWp.condD rfl (fun ht => ?_) (fun ht => ?_) <;> try (exfalso; omega)) | ((first | refine SWp.reg ?_ | refine SWp.skip ?_ | refine SWp.exit ?_ | refine SWp.ret ?_ | ((first | apply splitG | apply splitGB | apply splitR | apply splitRB | apply splitE | apply splitEB | apply splitC | apply splitCB) <;> intro ht)); all_goals try simp (disch := first | omega | (simp only [lens]; first | done | omega)) only [go_sem, Nat.reduceEqDiff, Nat.reduceBEq, Nat.reduceAdd, Nat.reduceMul, Nat.reduceSub, Nat.reduceLeDiff, Int.reduceToNat, Int.reducePow, hne, app_v]))
      refine .inl ⟨[some (hr l)], by simp, .inr ⟨0, by rw [Ne, hr_nil_iff]; exact h0, ?_, by simp⟩⟩
      simp [hr_len]
  · have hrl := hr_len l
    by_cases h0 : l = []
    · subst h0
      refine ACallsTo.toP (v := .vsl 32 [] true) (σ' := σ) ?_ ⟨.inr ⟨rfl, rfl, [], by simp⟩, by simp⟩
      refine ACallsTo.of_body slices_Clone_api_Hash__ok (by simp) fun hw _ => ?_
      rw [hr_nil] at *
      repeat' (first | refine SWp.seq ?_ | refine SWp.block ?_ | refine SWp.scope ?_ | refine SWp.condT rfl ?_ | refine SWp.condF rfl ?_ | (refine SWp.condD rfl (fun ht => ?_) (fun ht => ?_) <;> try (exfalso; omega)) | ((first | refine SWp.reg ?_ | refine SWp.skip ?_ | refine SWp.exit ?_ | refine SWp.ret ?_ | ((first | apply splitG | apply splitGB | apply splitR | apply splitRB | apply splitE | apply splitEB | apply splitC | apply splitCB) <;> intro ht)); all_goals try simp (disch := first | omega | (simp only [lens]; first | done | omega)) only [go_sem, Nat.reduceEqDiff, Nat.reduceBEq, Nat.reduceAdd, Nat.reduceMul, Nat.reduceSub, Nat.reduceLeDiff, Int.reduceToNat, Int.reducePow, hg, slElems_sl, h1, h2]))
      exact DownV.same hw (rlB_ok _ rfl)
    · have hne : ¬ l.length = 0 := fun e => h0 (List.eq_nil_of_length_eq_zero e)
      rw [hrl] at h1 h2
      refine ACallsP.of_keep slices_Clone_api_Hash__ok (by simp) ?_
      repeat' (first | refine SWp.seq ?_ | refine SWp.block ?_ | refine SWp.scope ?_ | refine SWp.condT rfl ?_ | refine SWp.condF rfl ?_ | (refine SWp.condD rfl (fun ht => ?_) (fun ht => ?_) <;> try (exfalso; omega)) | ((first | refine SWp.reg ?_ | refine SWp.skip ?_ | refine SWp.exit ?_ | refine SWp.ret ?_ | ((first | apply splitG | apply splitGB | apply splitR | apply splitRB | apply splitE | apply splitEB | apply splitC | apply splitCB) <;> intro ht)); all_goals try simp (disch := first | omega | (simp only [lens]; first | done | omega)) only [go_sem, Nat.reduceEqDiff, Nat.reduceBEq, Nat.reduceAdd, Nat.reduceMul, Nat.reduceSub, Nat.reduceLeDiff, Int.reduceToNat, Int.reducePow, hg, hne, app_v, slElems_sl, h1, h2]))
      refine .inl ⟨[some (hr l)], by simp, .inr ⟨0, by rw [Ne, hr_nil_iff]; exact h0, ?_, by simp⟩⟩
      simp [hr_len]
end Am
end Go.Proofs.YthgcooppjhcgcaaDoor
end
