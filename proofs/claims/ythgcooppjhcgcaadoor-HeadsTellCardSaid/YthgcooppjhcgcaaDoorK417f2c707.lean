import Derived.Test.YthgcooppjhcgcaaDoorK3b0e420df
section
set_option linter.unusedSimpArgs false
set_option linter.unusedVariables false
/- SHA-256: contracts of the reference: pad. -/
set_option linter.unusedSimpArgs false
set_option linter.unusedVariables false
namespace Go.Proofs.YthgcooppjhcgcaaDoor
namespace Am
theorem RLss_bytes {k : Nat} (l : List UInt8) : RLss k (byteEs l) := by
  induction l with
  | nil => simp [byteEs, RLss]
  | cons b l ih => simp only [byteEs, B8] at ih; simp [byteEs, RLss, B8, RLs, RL, ih]
/-- Own bytes behind what was there. -/
def OwnB (σ σ' : Store) (v : AV) (b : List UInt8) : Prop := ∃ news j, σ' = σ ++ news ∧ v = .sl (σ.length + j) 0 b.length none 1 ∧ news[j]? = some (some (byteEs b))
theorem OwnB.down {σ σ' : Store} {v : AV} {b : List UInt8} (hw : Wf σ.length σ) (h : OwnB σ σ' v b) : DownV σ.length v σ' (.vsl 1 (byteEs b) false) σ := by
  obtain ⟨news, j, rfl, rfl, h⟩ := h
  have hl : (byteEs b).length = b.length := byteEs_len b
  have e : ((byteEs b).drop 0).take b.length = byteEs b := by rw [List.drop_zero, List.take_of_length_le (by omega)]
  have := DownV.froze (off := 0) (len := b.length) (esz := 1) (lim := none) hw h (by omega) (by rw [e]; exact RLss_bytes b)
  rw [e] at this
  exact this
theorem OwnB.app {σ σ' : Store} {r n : Nat} {b c : List UInt8} (h : OwnB σ σ' (.sl r 0 n none 1) b) : OwnB σ (σ'.set r none ++ [some (byteEs c)]) (.sl σ'.length 0 c.length none 1) c := by
  obtain ⟨news, j, rfl, e, h⟩ := h
  simp only [AV.sl.injEq, true_and, and_true] at e
  obtain ⟨rfl, rfl⟩ := e
  refine ⟨news.set j none ++ [some (byteEs c)], news.length, ?_, by simp, ?_⟩
  · rw [List.set_append_right _ _ (by omega), Nat.add_sub_cancel_left, List.append_assoc]
  · rw [List.getElem?_append_right (by simp)]; simp
theorem OwnB.get {σ σ' : Store} {v : AV} {b : List UInt8} (h : OwnB σ σ' v b) : ∃ r, v = .sl r 0 b.length none 1 ∧ σ'[r]? = some (some (byteEs b)) := by
  obtain ⟨news, j, rfl, rfl, h⟩ := h
  exact ⟨_, rfl, by rw [List.getElem?_append_right (by omega), Nat.add_sub_cancel_left]; exact h⟩
theorem byteEs_one (b : List UInt8) (x : Nat) (m : Int) (h : m = ((x % 256 : Nat) : Int)) : byteEs b ++ [[AV.int .u8 m]] = byteEs (b ++ [UInt8.ofNat x]) := by
  subst h
  simp [byteEs, B8]
theorem be8_take (x : Nat) {j : Nat} (h : j < 8) : (be 8 x).take j ++ [UInt8.ofNat (x / 2 ^ (8 * (7 - j)))] = (be 8 x).take (j + 1) := by
  have e : be 8 x = [UInt8.ofNat (x / 256 ^ 7), UInt8.ofNat (x / 256 ^ 6), UInt8.ofNat (x / 256 ^ 5), UInt8.ofNat (x / 256 ^ 4), UInt8.ofNat (x / 256 ^ 3), UInt8.ofNat (x / 256 ^ 2), UInt8.ofNat (x / 256 ^ 1), UInt8.ofNat (x / 256 ^ 0)] := by
    simp only [be_cons]
    rfl
  rw [e]
  have hj : j = 0 ∨ j = 1 ∨ j = 2 ∨ j = 3 ∨ j = 4 ∨ j = 5 ∨ j = 6 ∨ j = 7 := by omega
  rcases hj with rfl | rfl | rfl | rfl | rfl | rfl | rfl | rfl <;> rfl
set_option maxHeartbeats 4000000 in
theorem pad_to (σ : Store) (s : List UInt8) (h : s.length < 1000000000) : ACallsTo TC 145 [.str s] σ (.vsl 1 (byteEs (padS s)) false) σ := by
  obtain ⟨z, hz⟩ : ∃ z : Nat, z = (119 - s.length % 64) % 64 := ⟨_, rfl⟩
  have hz64 : z < 64 := by rw [hz]; exact Nat.mod_lt _ (by decide)
  obtain ⟨P, hP⟩ : ∃ P, P = padS s := ⟨_, rfl⟩
  have hP2 : P = (s ++ 128 :: List.replicate z 0) ++ be 8 (s.length * 8) := by rw [hP, padS, hz]; simp
  rw [← hP]
  refine ACallsTo.of_body speculumref02_pad_ok (by simp) fun hw _ => ?_
  repeat' (first | refine SWp.seq ?_ | refine SWp.block ?_ | refine SWp.scope ?_ | refine SWp.condT rfl ?_ | refine SWp.condF rfl ?_ | (refine SWp.condD rfl (fun ht => ?_) (fun ht => ?_) <;> try (exfalso; omega)) | ((first | refine SWp.reg ?_ | refine SWp.skip ?_ | refine SWp.exit ?_ | refine SWp.ret ?_ | ((first | apply splitG | apply splitGB | apply splitR | apply splitRB | apply splitE | apply splitEB | apply splitC | apply splitCB) <;> intro ht)); all_goals try simp (disch := first | omega | (simp only [lens]; first | done | omega)) only [go_sem, Nat.reduceEqDiff, Nat.reduceBEq, Nat.reduceAdd, Nat.reduceMul, Nat.reduceSub, Nat.reduceLeDiff, Int.reduceToNat, Int.reducePow]))
  refine SWp.loop (fun m ρ σ' => ∃ k : Nat, m + k = z ∧ ρ 0 = .str s ∧ OwnB σ σ' (ρ 3) (s ++ 128 :: List.replicate k 0)) z ?_ ?_
  · refine ⟨0, by omega, by simp (disch := first | omega | (simp only [lens]; first | done | omega)) only [go_sem, Nat.reduceEqDiff, Nat.reduceBEq, Nat.reduceAdd, Nat.reduceMul, Nat.reduceSub, Nat.reduceLeDiff, Int.reduceToNat, Int.reducePow], ?_⟩
    simp (disch := first | omega | (simp only [lens]; first | done | omega)) only [go_sem, Nat.reduceEqDiff, Nat.reduceBEq, Nat.reduceAdd, Nat.reduceMul, Nat.reduceSub, Nat.reduceLeDiff, Int.reduceToNat, Int.reducePow]
    refine ⟨[none, some (byteEs (s ++ [128]))], 1, ?_, ?_, rfl⟩
    · simp [byteEs, B8]
    · simp
  · rintro m ρ σ' ⟨k, hm, q0, hO⟩
    obtain ⟨r, q3, hg⟩ := hO.get
    have hb : (s ++ 128 :: List.replicate k 0).length = s.length + 1 + k := by simp; omega
    have hbe := byteEs_len (s ++ 128 :: List.replicate k 0)
    by_cases hk : k < z
    · rw [q3] at hO
      rw [hb] at q3 hbe hO
      have e0 : byteEs (s ++ 128 :: List.replicate k 0) ++ [[AV.int .u8 0]] = byteEs (s ++ 128 :: List.replicate (k + 1) 0) := by
        rw [byteEs_one _ 0 0 (by simp), List.append_assoc, List.cons_append, List.replicate_succ']
        rfl
      have hO2 := hO.app (c := s ++ 128 :: List.replicate (k + 1) 0)
      have hc : (s ++ 128 :: List.replicate (k + 1) 0).length = s.length + 1 + k + 1 := by simp; omega
      rw [hc] at hO2
      generalize byteEs (s ++ 128 :: List.replicate k 0) = bb at *
      repeat' (first | refine SWp.seq ?_ | refine SWp.block ?_ | refine SWp.scope ?_ | refine SWp.condT rfl ?_ | refine SWp.condF rfl ?_ | (refine SWp.condD rfl (fun ht => ?_) (fun ht => ?_) <;> try (exfalso; omega)) | ((first | refine SWp.reg ?_ | refine SWp.skip ?_ | refine SWp.exit ?_ | refine SWp.ret ?_ | ((first | apply splitG | apply splitGB | apply splitR | apply splitRB | apply splitE | apply splitEB | apply splitC | apply splitCB) <;> intro ht)); all_goals try simp (disch := first | omega | (simp only [lens]; first | done | omega)) only [go_sem, Nat.reduceEqDiff, Nat.reduceBEq, Nat.reduceAdd, Nat.reduceMul, Nat.reduceSub, Nat.reduceLeDiff, Int.reduceToNat, Int.reducePow, q0, q3, hg, hbe, e0]))
      exact ⟨z - (k + 1), by omega, k + 1, by omega, hO2⟩
    · obtain rfl : k = z := by omega
      obtain ⟨N, hN⟩ : ∃ N, N = s.length * 8 := ⟨_, rfl⟩
      have hN2 : (s.length : Int) * 8 = N := by omega
      have hb8 : (be 8 N).length = 8 := be_length _ _
      rw [← hN] at hP2
      rw [hb] at q3 hbe
      have h56 : ((s.length : Int) + 1 + k) % 64 = 56 := by omega
      generalize hB : s ++ 128 :: List.replicate k 0 = B at *
      repeat' (first | refine SWp.seq ?_ | refine SWp.block ?_ | refine SWp.scope ?_ | refine SWp.condT rfl ?_ | refine SWp.condF rfl ?_ | (refine SWp.condD rfl (fun ht => ?_) (fun ht => ?_) <;> try (exfalso; omega)) | ((first | refine SWp.reg ?_ | refine SWp.skip ?_ | refine SWp.exit ?_ | refine SWp.ret ?_ | ((first | apply splitG | apply splitGB | apply splitR | apply splitRB | apply splitE | apply splitEB | apply splitC | apply splitCB) <;> intro ht)); all_goals try simp (disch := first | omega | (simp only [lens]; first | done | omega)) only [go_sem, Nat.reduceEqDiff, Nat.reduceBEq, Nat.reduceAdd, Nat.reduceMul, Nat.reduceSub, Nat.reduceLeDiff, Int.reduceToNat, Int.reducePow, q0, q3, h56, hN2, Int.natCast_add, Int.natCast_one]))
      refine SWp.loop (fun m ρ σ' => ∃ j : Nat, m + j = 8 ∧ ρ 4 = .int .u64 N ∧ ρ 5 = .int .i64 (7 - j) ∧ OwnB σ σ' (ρ 3) (B ++ (be 8 N).take j)) 8 ?_ ?_
      · refine ⟨0, by omega, by simp (disch := first | omega | (simp only [lens]; first | done | omega)) only [go_sem, Nat.reduceEqDiff, Nat.reduceBEq, Nat.reduceAdd, Nat.reduceMul, Nat.reduceSub, Nat.reduceLeDiff, Int.reduceToNat, Int.reducePow], by simp (disch := first | omega | (simp only [lens]; first | done | omega)) only [go_sem, Nat.reduceEqDiff, Nat.reduceBEq, Nat.reduceAdd, Nat.reduceMul, Nat.reduceSub, Nat.reduceLeDiff, Int.reduceToNat, Int.reducePow]; rfl, ?_⟩
        simp (disch := first | omega | (simp only [lens]; first | done | omega)) only [go_sem, Nat.reduceEqDiff, Nat.reduceBEq, Nat.reduceAdd, Nat.reduceMul, Nat.reduceSub, Nat.reduceLeDiff, Int.reduceToNat, Int.reducePow, q3]
        rw [q3] at hO
        exact hO
      · clear q0 q3 hO hg
        rintro m ρ σ' ⟨j, hm, q4, q5, hO⟩
        obtain ⟨r, q3, hg⟩ := hO.get
        have hl : (B ++ (be 8 N).take j).length = s.length + 1 + k + j := by rw [List.length_append, hb, List.length_take, hb8]; omega
        have hbe := byteEs_len (B ++ (be 8 N).take j)
        by_cases hj : j < 8
        · rw [q3] at hO
          rw [hl] at q3 hbe hO
          have hO2 := hO.app (c := B ++ (be 8 N).take (j + 1))
          have hc : (B ++ (be 8 N).take (j + 1)).length = s.length + 1 + k + j + 1 := by rw [List.length_append, hb, List.length_take, hb8]; omega
          rw [hc] at hO2
          have hs : (8 * (7 - (j : Int))).toNat = 8 * (7 - j) := by omega
          have e0 : byteEs (B ++ (be 8 N).take j) ++ [[AV.int .u8 ((N : Int) / 2 ^ (8 * (7 - j)) % 256)]] = byteEs (B ++ (be 8 N).take (j + 1)) := by
            rw [byteEs_one _ (N / 2 ^ (8 * (7 - j))) _ (by rw [Int.natCast_emod, Int.natCast_ediv, Int.natCast_pow]; rfl), List.append_assoc, be8_take N hj]
          generalize byteEs (B ++ (be 8 N).take j) = bb at *
          repeat' (first | refine SWp.seq ?_ | refine SWp.block ?_ | refine SWp.scope ?_ | refine SWp.condT rfl ?_ | refine SWp.condF rfl ?_ | (refine SWp.condD rfl (fun ht => ?_) (fun ht => ?_) <;> try (exfalso; omega)) | ((first | refine SWp.reg ?_ | refine SWp.skip ?_ | refine SWp.exit ?_ | refine SWp.ret ?_ | ((first | apply splitG | apply splitGB | apply splitR | apply splitRB | apply splitE | apply splitEB | apply splitC | apply splitCB) <;> intro ht)); all_goals try simp (disch := first | omega | (simp only [lens]; first | done | omega)) only [go_sem, Nat.reduceEqDiff, Nat.reduceBEq, Nat.reduceAdd, Nat.reduceMul, Nat.reduceSub, Nat.reduceLeDiff, Int.reduceToNat, Int.reducePow, q3, q4, q5, hg, hbe, hs, e0]))
          exact ⟨8 - (j + 1), by omega, j + 1, by omega, by rw [show (7 : Int) - ((j + 1 : Nat) : Int) = 7 - j - 1 by omega], hO2⟩
        · obtain rfl : j = 8 := by omega
          have e8 : B ++ (be 8 N).take 8 = P := by rw [List.take_of_length_le (by omega)]; exact hP2.symm
          rw [e8] at hO q3
          repeat' (first | refine SWp.seq ?_ | refine SWp.block ?_ | refine SWp.scope ?_ | refine SWp.condT rfl ?_ | refine SWp.condF rfl ?_ | (refine SWp.condD rfl (fun ht => ?_) (fun ht => ?_) <;> try (exfalso; omega)) | ((first | refine SWp.reg ?_ | refine SWp.skip ?_ | refine SWp.exit ?_ | refine SWp.ret ?_ | ((first | apply splitG | apply splitGB | apply splitR | apply splitRB | apply splitE | apply splitEB | apply splitC | apply splitCB) <;> intro ht)); all_goals try simp (disch := first | omega | (simp only [lens]; first | done | omega)) only [go_sem, Nat.reduceEqDiff, Nat.reduceBEq, Nat.reduceAdd, Nat.reduceMul, Nat.reduceSub, Nat.reduceLeDiff, Int.reduceToNat, Int.reducePow, q3, q5]))
          rw [q3] at hO
          exact hO.down hw
end Am
end Go.Proofs.YthgcooppjhcgcaaDoor
end
section
set_option linter.unusedSimpArgs false
set_option linter.unusedVariables false
/- SHA-256: the reference's Sum: the words. -/
set_option linter.unusedSimpArgs false
set_option linter.unusedVariables false
namespace Go.Proofs.YthgcooppjhcgcaaDoor
namespace Am
def z32 : List AV := byteEsC (List.replicate 32 0)
/-- What the reference has in memory. -/
def mkS (τ : Store) (u : V8) (cells : List AV) : Store := τ ++ [some [z32], some [gl_sha_rounds], some [u.c8], some [cells]]
def Rk (ρ : Env) (a : Nat) (p : List UInt8) (n : Nat) : Prop :=
  ρ 2 = .ptr a 0 0 ∧ ρ 3 = .ptr (a + 1) 0 0 ∧ ρ 4 = .ptr (a + 2) 0 0 ∧ ρ 5 = .vsl 1 (byteEs p) false ∧ ρ 6 = .ptr (a + 3) 0 0 ∧ ρ 7 = .int .i64 n
theorem cells_put {w : List W} {x : W} {n : Nat} {rest : List AV} (h : w.length = n) (hr : 0 < rest.length) : (ws w ++ rest).take n ++ AV.int .u32 x.toNat :: (ws w ++ rest).drop (n + 1) = ws (w ++ [x]) ++ rest.drop 1 := by
  have hl : (ws w).length = n := by rw [ws_len, h]
  rw [List.take_append_of_le_length (by omega), List.take_of_length_le (by omega), List.drop_append, List.drop_of_length_le (by omega), hl]
  rw [show n + 1 - n = 1 by omega, List.nil_append]
  simp [ws, wc]
theorem word_of {p : List UInt8} {n i : Nat} (h : n + 4 * i + 4 ≤ p.length) (hi : i < 16) :
    ((p.getD (n + 4 * i) 0).toNat : Int) * 16777216 + (p.getD (n + 4 * i + 1) 0).toNat * 65536 + (p.getD (n + 4 * i + 2) 0).toNat * 256 + (p.getD (n + 4 * i + 3) 0).toNat = ((wordS ((p.drop n).take 64) i).toNat : Int) := by
  have e : ((((p.drop n).take 64).drop (4 * i)).take 4) = [p.getD (n + 4 * i) 0, p.getD (n + 4 * i + 1) 0, p.getD (n + 4 * i + 2) 0, p.getD (n + 4 * i + 3) 0] := by
    rw [List.drop_take, List.take_take, List.drop_drop, show min 4 (64 - 4 * i) = 4 by omega]
    obtain ⟨A, hA⟩ : ∃ A, A = p.drop (n + 4 * i) := ⟨_, rfl⟩
    have g : ∀ k, p.getD (n + 4 * i + k) 0 = A.getD k 0 := by
      intro k
      rw [hA, List.getD_eq_getElem?_getD, List.getD_eq_getElem?_getD, List.getElem?_drop]
    have g0 := g 0
    rw [Nat.add_zero] at g0
    rw [g0, g 1, g 2, g 3, ← hA]
    have hl : 4 ≤ A.length := by rw [hA, List.length_drop]; omega
    match A, hl with
    | a :: b :: c :: d :: A, _ => rfl
  unfold wordS
  rw [e]
  generalize p.getD (n + 4 * i) 0 = a
  generalize p.getD (n + 4 * i + 1) 0 = b
  generalize p.getD (n + 4 * i + 2) 0 = c
  generalize p.getD (n + 4 * i + 3) 0 = d
  have h1 := a.toNat_lt
  have h2 := b.toNat_lt
  have h3 := c.toNat_lt
  have h4 := d.toNat_lt
  simp only [getS, val, List.take_of_length_le (show [a, b, c, d].length ≤ 8 by simp), List.foldl_cons, List.foldl_nil, BitVec.toNat_ofNat]
  omega
section
variable {k : Nat} {Q : AExit → Env → Store → Prop} {ρ : Env} {τ : Store} {u : V8} {p : List UInt8} {n : Nat}
set_option maxHeartbeats 4000000 in
theorem ref_words {cells : List AV} (K : Rk ρ τ.length p n) (hp : n + 64 ≤ p.length) (hpl : p.length < 2000000000) (hc : cells.length = 64)
    (hQ : ∀ ρ' rest, rest.length = 48 → Rk ρ' τ.length p n → Q .normal ρ' (mkS τ u (ws (sched ((p.drop n).take 64) 16) ++ rest))) : SWp TC 252 k speculumref02_Sum_c21 Q ρ (mkS τ u cells) := by
  obtain ⟨k2, k3, k4, k5, k6, k7⟩ := K
  obtain ⟨q, hq⟩ : ∃ q, q = (p.drop n).take 64 := ⟨_, rfl⟩
  rw [← hq] at hQ
  repeat' (first | refine SWp.seq ?_ | refine SWp.block ?_ | refine SWp.scope ?_ | refine SWp.condT rfl ?_ | refine SWp.condF rfl ?_ | (refine SWp.condD rfl (fun ht => ?_) (fun ht => ?_) <;> try (exfalso; omega)) | ((first | refine SWp.reg ?_ | refine SWp.skip ?_ | refine SWp.exit ?_ | refine SWp.ret ?_ | ((first | apply splitG | apply splitGB | apply splitR | apply splitRB | apply splitE | apply splitEB | apply splitC | apply splitCB) <;> intro ht)); all_goals try simp (disch := first | omega | (simp only [lens]; first | done | omega)) only [go_sem, Nat.reduceEqDiff, Nat.reduceBEq, Nat.reduceAdd, Nat.reduceMul, Nat.reduceSub, Nat.reduceLeDiff, Int.reduceToNat, Int.reducePow]))
  refine SWp.loop (fun m ρ σ' => ∃ (i : Nat) (rest : List AV), m + i = 16 ∧ rest.length = 64 - i ∧ Rk ρ τ.length p n ∧ ρ 8 = .int .i64 i ∧ σ' = mkS τ u (ws (sched q i) ++ rest)) 16 ?_ ?_
  · exact ⟨0, cells, by omega, hc, ⟨by simp (disch := first | omega | (simp only [lens]; first | done | omega)) only [go_sem, Nat.reduceEqDiff, Nat.reduceBEq, Nat.reduceAdd, Nat.reduceMul, Nat.reduceSub, Nat.reduceLeDiff, Int.reduceToNat, Int.reducePow, k2], by simp (disch := first | omega | (simp only [lens]; first | done | omega)) only [go_sem, Nat.reduceEqDiff, Nat.reduceBEq, Nat.reduceAdd, Nat.reduceMul, Nat.reduceSub, Nat.reduceLeDiff, Int.reduceToNat, Int.reducePow, k3], by simp (disch := first | omega | (simp only [lens]; first | done | omega)) only [go_sem, Nat.reduceEqDiff, Nat.reduceBEq, Nat.reduceAdd, Nat.reduceMul, Nat.reduceSub, Nat.reduceLeDiff, Int.reduceToNat, Int.reducePow, k4], by simp (disch := first | omega | (simp only [lens]; first | done | omega)) only [go_sem, Nat.reduceEqDiff, Nat.reduceBEq, Nat.reduceAdd, Nat.reduceMul, Nat.reduceSub, Nat.reduceLeDiff, Int.reduceToNat, Int.reducePow, k5], by simp (disch := first | omega | (simp only [lens]; first | done | omega)) only [go_sem, Nat.reduceEqDiff, Nat.reduceBEq, Nat.reduceAdd, Nat.reduceMul, Nat.reduceSub, Nat.reduceLeDiff, Int.reduceToNat, Int.reducePow, k6], by simp (disch := first | omega | (simp only [lens]; first | done | omega)) only [go_sem, Nat.reduceEqDiff, Nat.reduceBEq, Nat.reduceAdd, Nat.reduceMul, Nat.reduceSub, Nat.reduceLeDiff, Int.reduceToNat, Int.reducePow, k7]⟩, by simp (disch := first | omega | (simp only [lens]; first | done | omega)) only [go_sem, Nat.reduceEqDiff, Nat.reduceBEq, Nat.reduceAdd, Nat.reduceMul, Nat.reduceSub, Nat.reduceLeDiff, Int.reduceToNat, Int.reducePow]; rfl, rfl⟩
  · rintro m ρ σ' ⟨i, rest, hm, hr, ⟨q2, q3, q4, q5, q6, q7⟩, q8, rfl⟩
    by_cases hi : i < 16
    · have hwd := word_of (p := p) (n := n) (i := i) (by omega) hi
      rw [← hq] at hwd
      have hset := cells_put (x := wordS q i) (rest := rest) (sched_len q i) (by omega)
      have hlen : (ws (sched q i) ++ rest).length = 64 := by rw [List.length_append, ws_len, sched_len, hr]; omega
      have hsc : sched q (i + 1) = sched q i ++ [wordS q i] := by rw [sched, sNext, sched_len, if_pos hi]
      have n0 : ((n : Int) + 4 * i).toNat = n + 4 * i := by omega
      have n1 : ((n : Int) + 4 * i + 1).toNat = n + 4 * i + 1 := by omega
      have n2 : ((n : Int) + 4 * i + 2).toNat = n + 4 * i + 2 := by omega
      have n3 : ((n : Int) + 4 * i + 3).toNat = n + 4 * i + 3 := by omega
      have b0 := (p.getD (n + 4 * i) 0).toNat_lt
      have b1 := (p.getD (n + 4 * i + 1) 0).toNat_lt
      have b2 := (p.getD (n + 4 * i + 2) 0).toNat_lt
      have b3 := (p.getD (n + 4 * i + 3) 0).toNat_lt
      have g0 := get_u8 (s := p) (i := n + 4 * i) (by omega)
      have e0 := byteEs_get (s := p) (i := n + 4 * i) (by omega)
      have e1 := byteEs_get (s := p) (i := n + 4 * i + 1) (by omega)
      have e2 := byteEs_get (s := p) (i := n + 4 * i + 2) (by omega)
      have e3 := byteEs_get (s := p) (i := n + 4 * i + 3) (by omega)
      have hpb := byteEs_len p
      unfold mkS
      generalize p.getD (n + 4 * i) 0 = x0 at *
      generalize p.getD (n + 4 * i + 1) 0 = x1 at *
      generalize p.getD (n + 4 * i + 2) 0 = x2 at *
      generalize p.getD (n + 4 * i + 3) 0 = x3 at *
      generalize hpb2 : byteEs p = pb at *
      generalize hcc : ws (sched q i) ++ rest = cc at *
      repeat' (first | refine SWp.seq ?_ | refine SWp.block ?_ | refine SWp.scope ?_ | refine SWp.condT rfl ?_ | refine SWp.condF rfl ?_ | (refine SWp.condD rfl (fun ht => ?_) (fun ht => ?_) <;> try (exfalso; omega)) | ((first | refine SWp.regS ?_ | refine SWp.skip ?_ | refine SWp.exit ?_ | refine SWp.ret ?_ | ((first | apply splitG | apply splitGB | apply splitR | apply splitRB | apply splitE | apply splitEB | apply splitC | apply splitCB) <;> intro ht)); all_goals try simp (disch := first | omega | (simp only [lens]; first | done | omega)) only [go_sem, Nat.reduceEqDiff, Nat.reduceBEq, Nat.reduceAdd, Nat.reduceMul, Nat.reduceSub, Nat.reduceLeDiff, Int.reduceToNat, Int.reducePow, q2, q3, q4, q5, q6, q7, q8, hlen, n0, n1, n2, n3, e0, e1, e2, e3]))
      refine ⟨16 - (i + 1), by omega, i + 1, rest.drop 1, by omega, by rw [List.length_drop]; omega, ⟨by simp (disch := first | omega | (simp only [lens]; first | done | omega)) only [go_sem, Nat.reduceEqDiff, Nat.reduceBEq, Nat.reduceAdd, Nat.reduceMul, Nat.reduceSub, Nat.reduceLeDiff, Int.reduceToNat, Int.reducePow, q2], by simp (disch := first | omega | (simp only [lens]; first | done | omega)) only [go_sem, Nat.reduceEqDiff, Nat.reduceBEq, Nat.reduceAdd, Nat.reduceMul, Nat.reduceSub, Nat.reduceLeDiff, Int.reduceToNat, Int.reducePow, q3], by simp (disch := first | omega | (simp only [lens]; first | done | omega)) only [go_sem, Nat.reduceEqDiff, Nat.reduceBEq, Nat.reduceAdd, Nat.reduceMul, Nat.reduceSub, Nat.reduceLeDiff, Int.reduceToNat, Int.reducePow, q4], (by simp (disch := first | omega | (simp only [lens]; first | done | omega)) only [go_sem, Nat.reduceEqDiff, Nat.reduceBEq, Nat.reduceAdd, Nat.reduceMul, Nat.reduceSub, Nat.reduceLeDiff, Int.reduceToNat, Int.reducePow, q5]; rw [hpb2]), by simp (disch := first | omega | (simp only [lens]; first | done | omega)) only [go_sem, Nat.reduceEqDiff, Nat.reduceBEq, Nat.reduceAdd, Nat.reduceMul, Nat.reduceSub, Nat.reduceLeDiff, Int.reduceToNat, Int.reducePow, q6], by simp (disch := first | omega | (simp only [lens]; first | done | omega)) only [go_sem, Nat.reduceEqDiff, Nat.reduceBEq, Nat.reduceAdd, Nat.reduceMul, Nat.reduceSub, Nat.reduceLeDiff, Int.reduceToNat, Int.reducePow, q7]⟩, by simp, ?_⟩
      rw [hwd, hset, hsc]
    · obtain rfl : i = 16 := by omega
      repeat' (first | refine SWp.seq ?_ | refine SWp.block ?_ | refine SWp.scope ?_ | refine SWp.condT rfl ?_ | refine SWp.condF rfl ?_ | (refine SWp.condD rfl (fun ht => ?_) (fun ht => ?_) <;> try (exfalso; omega)) | ((first | refine SWp.reg ?_ | refine SWp.skip ?_ | refine SWp.exit ?_ | refine SWp.ret ?_ | ((first | apply splitG | apply splitGB | apply splitR | apply splitRB | apply splitE | apply splitEB | apply splitC | apply splitCB) <;> intro ht)); all_goals try simp (disch := first | omega | (simp only [lens]; first | done | omega)) only [go_sem, Nat.reduceEqDiff, Nat.reduceBEq, Nat.reduceAdd, Nat.reduceMul, Nat.reduceSub, Nat.reduceLeDiff, Int.reduceToNat, Int.reducePow, q8]))
      exact hQ _ rest (by omega) ⟨by simp (disch := first | omega | (simp only [lens]; first | done | omega)) only [go_sem, Nat.reduceEqDiff, Nat.reduceBEq, Nat.reduceAdd, Nat.reduceMul, Nat.reduceSub, Nat.reduceLeDiff, Int.reduceToNat, Int.reducePow, q2], by simp (disch := first | omega | (simp only [lens]; first | done | omega)) only [go_sem, Nat.reduceEqDiff, Nat.reduceBEq, Nat.reduceAdd, Nat.reduceMul, Nat.reduceSub, Nat.reduceLeDiff, Int.reduceToNat, Int.reducePow, q3], by simp (disch := first | omega | (simp only [lens]; first | done | omega)) only [go_sem, Nat.reduceEqDiff, Nat.reduceBEq, Nat.reduceAdd, Nat.reduceMul, Nat.reduceSub, Nat.reduceLeDiff, Int.reduceToNat, Int.reducePow, q4], by simp (disch := first | omega | (simp only [lens]; first | done | omega)) only [go_sem, Nat.reduceEqDiff, Nat.reduceBEq, Nat.reduceAdd, Nat.reduceMul, Nat.reduceSub, Nat.reduceLeDiff, Int.reduceToNat, Int.reducePow, q5], by simp (disch := first | omega | (simp only [lens]; first | done | omega)) only [go_sem, Nat.reduceEqDiff, Nat.reduceBEq, Nat.reduceAdd, Nat.reduceMul, Nat.reduceSub, Nat.reduceLeDiff, Int.reduceToNat, Int.reducePow, q6], by simp (disch := first | omega | (simp only [lens]; first | done | omega)) only [go_sem, Nat.reduceEqDiff, Nat.reduceBEq, Nat.reduceAdd, Nat.reduceMul, Nat.reduceSub, Nat.reduceLeDiff, Int.reduceToNat, Int.reducePow, q7]⟩
set_option maxHeartbeats 4000000 in
theorem ref_sched {q : List UInt8} {rest : List AV} (K : Rk ρ τ.length p n) (hr : rest.length = 48)
    (hQ : ∀ ρ', Rk ρ' τ.length p n → Q .normal ρ' (mkS τ u (ws (sched q 64)))) : SWp TC 252 k speculumref02_Sum_c34 Q ρ (mkS τ u (ws (sched q 16) ++ rest)) := by
  obtain ⟨R, hR⟩ : ∃ R, R = sched q 64 := ⟨_, rfl⟩
  rw [← hR] at hQ
  obtain ⟨k2, k3, k4, k5, k6, k7⟩ := K
  repeat' (first | refine SWp.seq ?_ | refine SWp.block ?_ | refine SWp.scope ?_ | refine SWp.condT rfl ?_ | refine SWp.condF rfl ?_ | (refine SWp.condD rfl (fun ht => ?_) (fun ht => ?_) <;> try (exfalso; omega)) | ((first | refine SWp.reg ?_ | refine SWp.skip ?_ | refine SWp.exit ?_ | refine SWp.ret ?_ | ((first | apply splitG | apply splitGB | apply splitR | apply splitRB | apply splitE | apply splitEB | apply splitC | apply splitCB) <;> intro ht)); all_goals try simp (disch := first | omega | (simp only [lens]; first | done | omega)) only [go_sem, Nat.reduceEqDiff, Nat.reduceBEq, Nat.reduceAdd, Nat.reduceMul, Nat.reduceSub, Nat.reduceLeDiff, Int.reduceToNat, Int.reducePow]))
  refine SWp.loop (fun m ρ σ' => ∃ (i : Nat) (rest : List AV), m + i = 64 ∧ 16 ≤ i ∧ rest.length = 64 - i ∧ Rk ρ τ.length p n ∧ ρ 10 = .int .i64 i ∧ σ' = mkS τ u (ws (sched q i) ++ rest)) 48 ?_ ?_
  · exact ⟨16, rest, by omega, by omega, hr, ⟨by simp (disch := first | omega | (simp only [lens]; first | done | omega)) only [go_sem, Nat.reduceEqDiff, Nat.reduceBEq, Nat.reduceAdd, Nat.reduceMul, Nat.reduceSub, Nat.reduceLeDiff, Int.reduceToNat, Int.reducePow, k2], by simp (disch := first | omega | (simp only [lens]; first | done | omega)) only [go_sem, Nat.reduceEqDiff, Nat.reduceBEq, Nat.reduceAdd, Nat.reduceMul, Nat.reduceSub, Nat.reduceLeDiff, Int.reduceToNat, Int.reducePow, k3], by simp (disch := first | omega | (simp only [lens]; first | done | omega)) only [go_sem, Nat.reduceEqDiff, Nat.reduceBEq, Nat.reduceAdd, Nat.reduceMul, Nat.reduceSub, Nat.reduceLeDiff, Int.reduceToNat, Int.reducePow, k4], by simp (disch := first | omega | (simp only [lens]; first | done | omega)) only [go_sem, Nat.reduceEqDiff, Nat.reduceBEq, Nat.reduceAdd, Nat.reduceMul, Nat.reduceSub, Nat.reduceLeDiff, Int.reduceToNat, Int.reducePow, k5], by simp (disch := first | omega | (simp only [lens]; first | done | omega)) only [go_sem, Nat.reduceEqDiff, Nat.reduceBEq, Nat.reduceAdd, Nat.reduceMul, Nat.reduceSub, Nat.reduceLeDiff, Int.reduceToNat, Int.reducePow, k6], by simp (disch := first | omega | (simp only [lens]; first | done | omega)) only [go_sem, Nat.reduceEqDiff, Nat.reduceBEq, Nat.reduceAdd, Nat.reduceMul, Nat.reduceSub, Nat.reduceLeDiff, Int.reduceToNat, Int.reducePow, k7]⟩, by simp (disch := first | omega | (simp only [lens]; first | done | omega)) only [go_sem, Nat.reduceEqDiff, Nat.reduceBEq, Nat.reduceAdd, Nat.reduceMul, Nat.reduceSub, Nat.reduceLeDiff, Int.reduceToNat, Int.reducePow]; rfl, rfl⟩
  · clear hr
    rintro m ρ σ' ⟨i, rest, hm, h16, hr, ⟨q2, q3, q4, q5, q6, q7⟩, q10, rfl⟩
    have hsl := sched_len q i
    by_cases hi : i < 64
    · have hset := cells_put (x := sNext q (sched q i)) (rest := rest) hsl (by omega)
      have hlen : (ws (sched q i) ++ rest).length = 64 := by rw [List.length_append, ws_len, sched_len, hr]; omega
      have hsc : sched q (i + 1) = sched q i ++ [sNext q (sched q i)] := by rw [sched]
      have en : sNext q (sched q i) = wat (sched q i) (i - 16) + wat (sched q i) (i - 7) + ss0 (wat (sched q i) (i - 15)) + ss1 (wat (sched q i) (i - 2)) := by rw [sNext, if_neg (by omega), hsl]
      have hwi : ∀ j, j < i → (ws (sched q i) ++ rest)[j]? = some (.int .u32 (wat (sched q i) j).toNat) := by
        intro j hj
        rw [List.getElem?_append_left (by rw [ws_len]; omega), wat_lt (by omega)]
      have g16 := hwi (i - 16) (by omega)
      have g7 := hwi (i - 7) (by omega)
      have g15 := hwi (i - 15) (by omega)
      have g2 := hwi (i - 2) (by omega)
      have t16 : ((i : Int) - 16).toNat = i - 16 := by omega
      have t7 : ((i : Int) - 7).toNat = i - 7 := by omega
      have t15 : ((i : Int) - 15).toNat = i - 15 := by omega
      have t2 : ((i : Int) - 2).toNat = i - 2 := by omega
      have r7 : 32 - (7 : Int).toNat = 25 := rfl
      clear hwi
      generalize sNext q (sched q i) = nx at *
      generalize wat (sched q i) (i - 16) = w16 at *
      generalize wat (sched q i) (i - 7) = w7 at *
      generalize wat (sched q i) (i - 15) = w15 at *
      generalize wat (sched q i) (i - 2) = w2 at *
      unfold mkS
      generalize hpb2 : byteEs p = pb at *
      generalize hcc : ws (sched q i) ++ rest = cc at *
      repeat' (first | refine SWp.seq ?_ | refine SWp.block ?_ | refine SWp.scope ?_ | refine SWp.condT rfl ?_ | refine SWp.condF rfl ?_ | (refine SWp.condD rfl (fun ht => ?_) (fun ht => ?_) <;> try (exfalso; omega)) | ((first | refine SWp.regS ?_ | refine SWp.skip ?_ | refine SWp.exit ?_ | refine SWp.ret ?_ | (apply callW.mk_pu; (first | exact (fun _ => turn_to _ _ _ (by omega)))) | (apply callW.any; (first | exact (turn_to _ _ _ (by omega)))) | ((first | apply splitG | apply splitGB | apply splitR | apply splitRB | apply splitE | apply splitEB | apply splitC | apply splitCB) <;> intro ht)); all_goals try simp (disch := first | omega | (simp only [lens]; first | done | omega)) only [go_sem, Nat.reduceEqDiff, Nat.reduceBEq, Nat.reduceAdd, Nat.reduceMul, Nat.reduceSub, Nat.reduceLeDiff, Int.reduceToNat, Int.reducePow, q2, q3, q4, q5, q6, q7, q10, hlen, g16, g7, g15, g2, t16, t7, t15, t2]))
      refine ⟨64 - (i + 1), by omega, i + 1, rest.drop 1, by omega, by omega, by rw [List.length_drop]; omega, ⟨by simp (disch := first | omega | (simp only [lens]; first | done | omega)) only [go_sem, Nat.reduceEqDiff, Nat.reduceBEq, Nat.reduceAdd, Nat.reduceMul, Nat.reduceSub, Nat.reduceLeDiff, Int.reduceToNat, Int.reducePow, q2], by simp (disch := first | omega | (simp only [lens]; first | done | omega)) only [go_sem, Nat.reduceEqDiff, Nat.reduceBEq, Nat.reduceAdd, Nat.reduceMul, Nat.reduceSub, Nat.reduceLeDiff, Int.reduceToNat, Int.reducePow, q3], by simp (disch := first | omega | (simp only [lens]; first | done | omega)) only [go_sem, Nat.reduceEqDiff, Nat.reduceBEq, Nat.reduceAdd, Nat.reduceMul, Nat.reduceSub, Nat.reduceLeDiff, Int.reduceToNat, Int.reducePow, q4], (by simp (disch := first | omega | (simp only [lens]; first | done | omega)) only [go_sem, Nat.reduceEqDiff, Nat.reduceBEq, Nat.reduceAdd, Nat.reduceMul, Nat.reduceSub, Nat.reduceLeDiff, Int.reduceToNat, Int.reducePow, q5]; rw [hpb2]), by simp (disch := first | omega | (simp only [lens]; first | done | omega)) only [go_sem, Nat.reduceEqDiff, Nat.reduceBEq, Nat.reduceAdd, Nat.reduceMul, Nat.reduceSub, Nat.reduceLeDiff, Int.reduceToNat, Int.reducePow, q6], by simp (disch := first | omega | (simp only [lens]; first | done | omega)) only [go_sem, Nat.reduceEqDiff, Nat.reduceBEq, Nat.reduceAdd, Nat.reduceMul, Nat.reduceSub, Nat.reduceLeDiff, Int.reduceToNat, Int.reducePow, q7]⟩, by simp, ?_⟩
      rw [hsc, ← hset, en]
      have ec : ∀ s t : W, w16 + s + w7 + t = w16 + w7 + s + t := fun s t => by rw [BitVec.add_assoc w16 s w7, BitVec.add_comm s w7, ← BitVec.add_assoc w16 w7 s]
      rw [ec]
      rfl
    · obtain rfl : i = 64 := by omega
      have hr0 : rest = [] := List.eq_nil_of_length_eq_zero (by omega)
      rw [hr0, ← hR, List.append_nil]
      clear hsl hR
      repeat' (first | refine SWp.seq ?_ | refine SWp.block ?_ | refine SWp.scope ?_ | refine SWp.condT rfl ?_ | refine SWp.condF rfl ?_ | (refine SWp.condD rfl (fun ht => ?_) (fun ht => ?_) <;> try (exfalso; omega)) | ((first | refine SWp.reg ?_ | refine SWp.skip ?_ | refine SWp.exit ?_ | refine SWp.ret ?_ | ((first | apply splitG | apply splitGB | apply splitR | apply splitRB | apply splitE | apply splitEB | apply splitC | apply splitCB) <;> intro ht)); all_goals try simp (disch := first | omega | (simp only [lens]; first | done | omega)) only [go_sem, Nat.reduceEqDiff, Nat.reduceBEq, Nat.reduceAdd, Nat.reduceMul, Nat.reduceSub, Nat.reduceLeDiff, Int.reduceToNat, Int.reducePow, q10]))
      exact hQ _ ⟨by simp (disch := first | omega | (simp only [lens]; first | done | omega)) only [go_sem, Nat.reduceEqDiff, Nat.reduceBEq, Nat.reduceAdd, Nat.reduceMul, Nat.reduceSub, Nat.reduceLeDiff, Int.reduceToNat, Int.reducePow, q2], by simp (disch := first | omega | (simp only [lens]; first | done | omega)) only [go_sem, Nat.reduceEqDiff, Nat.reduceBEq, Nat.reduceAdd, Nat.reduceMul, Nat.reduceSub, Nat.reduceLeDiff, Int.reduceToNat, Int.reducePow, q3], by simp (disch := first | omega | (simp only [lens]; first | done | omega)) only [go_sem, Nat.reduceEqDiff, Nat.reduceBEq, Nat.reduceAdd, Nat.reduceMul, Nat.reduceSub, Nat.reduceLeDiff, Int.reduceToNat, Int.reducePow, q4], by simp (disch := first | omega | (simp only [lens]; first | done | omega)) only [go_sem, Nat.reduceEqDiff, Nat.reduceBEq, Nat.reduceAdd, Nat.reduceMul, Nat.reduceSub, Nat.reduceLeDiff, Int.reduceToNat, Int.reducePow, q5], by simp (disch := first | omega | (simp only [lens]; first | done | omega)) only [go_sem, Nat.reduceEqDiff, Nat.reduceBEq, Nat.reduceAdd, Nat.reduceMul, Nat.reduceSub, Nat.reduceLeDiff, Int.reduceToNat, Int.reducePow, q6], by simp (disch := first | omega | (simp only [lens]; first | done | omega)) only [go_sem, Nat.reduceEqDiff, Nat.reduceBEq, Nat.reduceAdd, Nat.reduceMul, Nat.reduceSub, Nat.reduceLeDiff, Int.reduceToNat, Int.reducePow, q7]⟩
end
end Am
end Go.Proofs.YthgcooppjhcgcaaDoor
end
section
set_option linter.unusedSimpArgs false
set_option linter.unusedVariables false
/- SHA-256: the reference's Sum: the rounds. -/
set_option linter.unusedSimpArgs false
set_option linter.unusedVariables false
namespace Go.Proofs.YthgcooppjhcgcaaDoor
namespace Am
theorem k_get {i : Nat} (h : i < 64) : gl_sha_rounds[i]? = some (.int .u32 (kAt i).toNat) := by
  have := kAt_get h
  rwa [List.getElem?_drop, Nat.add_zero] at this
section
variable {k : Nat} {Q : AExit → Env → Store → Prop} {ρ : Env} {τ : Store} {u : V8} {p : List UInt8} {n : Nat}
set_option maxHeartbeats 8000000 in
theorem ref_rounds {q : List UInt8} (K : Rk ρ τ.length p n)
    (hQ : ∀ ρ', Rk ρ' τ.length p n → Q .normal ρ' (mkS τ (mixS u q) (ws (sched q 64)))) : SWp TC 252 k speculumref02_Sum_c53 Q ρ (mkS τ u (ws (sched q 64))) := by
  obtain ⟨R, hR⟩ : ∃ R, R = sched q 64 := ⟨_, rfl⟩
  have hRl : R.length = 64 := by rw [hR, sched_len]
  have hwR : (ws R).length = 64 := by rw [ws_len, hRl]
  have hst : ∀ n, rnds q u (n + 1) = rnd (rnds q u n) (kAt n) (wat R n) := fun n => by rw [rnds, hR]
  obtain ⟨U, hU⟩ : ∃ U, U = rnds q u 64 := ⟨_, rfl⟩
  have hmix : mixS u q = U.add u := by rw [mixS, hU]
  rw [hmix] at hQ
  rw [← hR] at hQ ⊢
  obtain ⟨k2, k3, k4, k5, k6, k7⟩ := K
  unfold mkS
  refine SWp.seq ?_
  (refine SWp.regS ?_; (simp (disch := first | omega | (simp only [lens]; first | done | omega)) only [go_sem, Nat.reduceEqDiff, Nat.reduceBEq, Nat.reduceAdd, Nat.reduceMul, Nat.reduceSub, Nat.reduceLeDiff, Int.reduceToNat, Int.reducePow, k4, V8.c8]))
  (refine SWp.slots [2, 3, 4, 5, 6, 7, 13, 14, 15, 16, 17, 18, 19, 20] ?_; intro ρ1 hs; simp (disch := first | omega | (simp only [lens]; first | done | omega)) only [go_sem, Nat.reduceEqDiff, Nat.reduceBEq, Nat.reduceAdd, Nat.reduceMul, Nat.reduceSub, Nat.reduceLeDiff, Int.reduceToNat, Int.reducePow, k2, k3, k4, k5, k6, k7] at hs; obtain ⟨s2, s3, s4, s5, s6, s7, s13, s14, s15, s16, s17, s18, s19, s20⟩ := hs)
  refine SWp.seq ?_
  refine SWp.seq ?_
  (refine SWp.regS ?_; (simp (disch := first | omega | (simp only [lens]; first | done | omega)) only [go_sem, Nat.reduceEqDiff, Nat.reduceBEq, Nat.reduceAdd, Nat.reduceMul, Nat.reduceSub, Nat.reduceLeDiff, Int.reduceToNat, Int.reducePow]))
  refine SWp.block ?_
  refine SWp.loop (fun m ρ σ' => ∃ i : Nat, m + i = 64 ∧ Rk ρ τ.length p n ∧ ρ 21 = .int .i64 i ∧ ρ 13 = .int .u32 (rnds q u i).a.toNat ∧ ρ 14 = .int .u32 (rnds q u i).b.toNat ∧ ρ 15 = .int .u32 (rnds q u i).c.toNat ∧ ρ 16 = .int .u32 (rnds q u i).d.toNat ∧
    ρ 17 = .int .u32 (rnds q u i).e.toNat ∧ ρ 18 = .int .u32 (rnds q u i).f.toNat ∧ ρ 19 = .int .u32 (rnds q u i).g.toNat ∧ ρ 20 = .int .u32 (rnds q u i).h.toNat ∧ σ' = mkS τ u (ws R)) 64 ?_ ?_
  · exact ⟨0, by omega, ⟨by simp (disch := first | omega | (simp only [lens]; first | done | omega)) only [go_sem, Nat.reduceEqDiff, Nat.reduceBEq, Nat.reduceAdd, Nat.reduceMul, Nat.reduceSub, Nat.reduceLeDiff, Int.reduceToNat, Int.reducePow, s2], by simp (disch := first | omega | (simp only [lens]; first | done | omega)) only [go_sem, Nat.reduceEqDiff, Nat.reduceBEq, Nat.reduceAdd, Nat.reduceMul, Nat.reduceSub, Nat.reduceLeDiff, Int.reduceToNat, Int.reducePow, s3], by simp (disch := first | omega | (simp only [lens]; first | done | omega)) only [go_sem, Nat.reduceEqDiff, Nat.reduceBEq, Nat.reduceAdd, Nat.reduceMul, Nat.reduceSub, Nat.reduceLeDiff, Int.reduceToNat, Int.reducePow, s4], by simp (disch := first | omega | (simp only [lens]; first | done | omega)) only [go_sem, Nat.reduceEqDiff, Nat.reduceBEq, Nat.reduceAdd, Nat.reduceMul, Nat.reduceSub, Nat.reduceLeDiff, Int.reduceToNat, Int.reducePow, s5], by simp (disch := first | omega | (simp only [lens]; first | done | omega)) only [go_sem, Nat.reduceEqDiff, Nat.reduceBEq, Nat.reduceAdd, Nat.reduceMul, Nat.reduceSub, Nat.reduceLeDiff, Int.reduceToNat, Int.reducePow, s6], by simp (disch := first | omega | (simp only [lens]; first | done | omega)) only [go_sem, Nat.reduceEqDiff, Nat.reduceBEq, Nat.reduceAdd, Nat.reduceMul, Nat.reduceSub, Nat.reduceLeDiff, Int.reduceToNat, Int.reducePow, s7]⟩, by simp (disch := first | omega | (simp only [lens]; first | done | omega)) only [go_sem, Nat.reduceEqDiff, Nat.reduceBEq, Nat.reduceAdd, Nat.reduceMul, Nat.reduceSub, Nat.reduceLeDiff, Int.reduceToNat, Int.reducePow]; rfl, by simp (disch := first | omega | (simp only [lens]; first | done | omega)) only [go_sem, Nat.reduceEqDiff, Nat.reduceBEq, Nat.reduceAdd, Nat.reduceMul, Nat.reduceSub, Nat.reduceLeDiff, Int.reduceToNat, Int.reducePow, s13]; rfl, by simp (disch := first | omega | (simp only [lens]; first | done | omega)) only [go_sem, Nat.reduceEqDiff, Nat.reduceBEq, Nat.reduceAdd, Nat.reduceMul, Nat.reduceSub, Nat.reduceLeDiff, Int.reduceToNat, Int.reducePow, s14]; rfl, by simp (disch := first | omega | (simp only [lens]; first | done | omega)) only [go_sem, Nat.reduceEqDiff, Nat.reduceBEq, Nat.reduceAdd, Nat.reduceMul, Nat.reduceSub, Nat.reduceLeDiff, Int.reduceToNat, Int.reducePow, s15]; rfl, by simp (disch := first | omega | (simp only [lens]; first | done | omega)) only [go_sem, Nat.reduceEqDiff, Nat.reduceBEq, Nat.reduceAdd, Nat.reduceMul, Nat.reduceSub, Nat.reduceLeDiff, Int.reduceToNat, Int.reducePow, s16]; rfl, by simp (disch := first | omega | (simp only [lens]; first | done | omega)) only [go_sem, Nat.reduceEqDiff, Nat.reduceBEq, Nat.reduceAdd, Nat.reduceMul, Nat.reduceSub, Nat.reduceLeDiff, Int.reduceToNat, Int.reducePow, s17]; rfl, by simp (disch := first | omega | (simp only [lens]; first | done | omega)) only [go_sem, Nat.reduceEqDiff, Nat.reduceBEq, Nat.reduceAdd, Nat.reduceMul, Nat.reduceSub, Nat.reduceLeDiff, Int.reduceToNat, Int.reducePow, s18]; rfl, by simp (disch := first | omega | (simp only [lens]; first | done | omega)) only [go_sem, Nat.reduceEqDiff, Nat.reduceBEq, Nat.reduceAdd, Nat.reduceMul, Nat.reduceSub, Nat.reduceLeDiff, Int.reduceToNat, Int.reducePow, s19]; rfl, by simp (disch := first | omega | (simp only [lens]; first | done | omega)) only [go_sem, Nat.reduceEqDiff, Nat.reduceBEq, Nat.reduceAdd, Nat.reduceMul, Nat.reduceSub, Nat.reduceLeDiff, Int.reduceToNat, Int.reducePow, s20]; rfl, rfl⟩
  · clear s2 s3 s4 s5 s6 s7 s13 s14 s15 s16 s17 s18 s19 s20
    rintro m ρ σ' ⟨i, hm, ⟨q2, q3, q4, q5, q6, q7⟩, q21, q13, q14, q15, q16, q17, q18, q19, q20, rfl⟩
    by_cases hi : i < 64
    · have hk := k_get hi
      have hw := wat_lt (w := R) (i := i) (by omega)
      have hst := hst i
      generalize rnds q u i = v at *
      obtain ⟨a, b, c, d, e, f, g, h⟩ := v
      simp only at q13 q14 q15 q16 q17 q18 q19 q20
      generalize kAt i = kk at *
      generalize wat R i = ww at *
      generalize hpb : byteEs p = pb at *
      unfold mkS
      refine SWp.seq ?_
      refine SWp.seq ?_
      (refine SWp.regS ?_; (simp (disch := first | omega | (simp only [lens]; first | done | omega)) only [go_sem, Nat.reduceEqDiff, Nat.reduceBEq, Nat.reduceAdd, Nat.reduceMul, Nat.reduceSub, Nat.reduceLeDiff, Int.reduceToNat, Int.reducePow, q21]))
      refine SWp.condT rfl ?_
      refine SWp.skip ?_
      simp (disch := first | omega | (simp only [lens]; first | done | omega)) only [go_sem, Nat.reduceEqDiff, Nat.reduceBEq, Nat.reduceAdd, Nat.reduceMul, Nat.reduceSub, Nat.reduceLeDiff, Int.reduceToNat, Int.reducePow]
      refine SWp.seq ?_
      refine SWp.block ?_
      refine SWp.seq ?_
      (refine SWp.regS ?_; (simp (disch := first | omega | (simp only [lens]; first | done | omega)) only [go_sem, Nat.reduceEqDiff, Nat.reduceBEq, Nat.reduceAdd, Nat.reduceMul, Nat.reduceSub, Nat.reduceLeDiff, Int.reduceToNat, Int.reducePow, q3, q6, q17, q18, q19, q20, q21, hwR, hk, hw, gl_rounds_len]); repeat' (apply callW.any; (first | exact (turn_to _ _ _ (by omega))); all_goals try (simp (disch := first | omega | (simp only [lens]; first | done | omega)) only [go_sem, Nat.reduceEqDiff, Nat.reduceBEq, Nat.reduceAdd, Nat.reduceMul, Nat.reduceSub, Nat.reduceLeDiff, Int.reduceToNat, Int.reducePow, q3, q6, q17, q18, q19, q20, q21, hwR, hk, hw, gl_rounds_len])))
      (refine SWp.slots [2, 3, 4, 5, 6, 7, 13, 14, 15, 16, 17, 18, 19, 20, 21, 22] ?_; intro ρ2 hs; simp (disch := first | omega | (simp only [lens]; first | done | omega)) only [go_sem, Nat.reduceEqDiff, Nat.reduceBEq, Nat.reduceAdd, Nat.reduceMul, Nat.reduceSub, Nat.reduceLeDiff, Int.reduceToNat, Int.reducePow, q2, q3, q4, q5, q6, q7, q13, q14, q15, q16, q17, q18, q19, q20, q21] at hs; obtain ⟨s2, s3, s4, s5, s6, s7, s13, s14, s15, s16, s17, s18, s19, s20, s21, s22⟩ := hs)
      refine SWp.seq ?_
      (refine SWp.regS ?_; (simp (disch := first | omega | (simp only [lens]; first | done | omega)) only [go_sem, Nat.reduceEqDiff, Nat.reduceBEq, Nat.reduceAdd, Nat.reduceMul, Nat.reduceSub, Nat.reduceLeDiff, Int.reduceToNat, Int.reducePow, s13, s14, s15]); repeat' (apply callW.any; (first | exact (turn_to _ _ _ (by omega))); all_goals try (simp (disch := first | omega | (simp only [lens]; first | done | omega)) only [go_sem, Nat.reduceEqDiff, Nat.reduceBEq, Nat.reduceAdd, Nat.reduceMul, Nat.reduceSub, Nat.reduceLeDiff, Int.reduceToNat, Int.reducePow, s13, s14, s15])))
      (refine SWp.slots [2, 3, 4, 5, 6, 7, 13, 14, 15, 16, 17, 18, 19, 20, 21, 22, 23] ?_; intro ρ3 hs; simp (disch := first | omega | (simp only [lens]; first | done | omega)) only [go_sem, Nat.reduceEqDiff, Nat.reduceBEq, Nat.reduceAdd, Nat.reduceMul, Nat.reduceSub, Nat.reduceLeDiff, Int.reduceToNat, Int.reducePow, s2, s3, s4, s5, s6, s7, s13, s14, s15, s16, s17, s18, s19, s20, s21, s22] at hs; obtain ⟨s2, s3, s4, s5, s6, s7, s13, s14, s15, s16, s17, s18, s19, s20, s21, s22, s23⟩ := hs)
      (refine SWp.regS ?_; (simp (disch := first | omega | (simp only [lens]; first | done | omega)) only [go_sem, Nat.reduceEqDiff, Nat.reduceBEq, Nat.reduceAdd, Nat.reduceMul, Nat.reduceSub, Nat.reduceLeDiff, Int.reduceToNat, Int.reducePow, s13, s14, s15, s16, s17, s18, s19, s22, s23]))
      (refine SWp.slots [2, 3, 4, 5, 6, 7, 13, 14, 15, 16, 17, 18, 19, 20, 21] ?_; intro ρ4 hs; simp (disch := first | omega | (simp only [lens]; first | done | omega)) only [go_sem, Nat.reduceEqDiff, Nat.reduceBEq, Nat.reduceAdd, Nat.reduceMul, Nat.reduceSub, Nat.reduceLeDiff, Int.reduceToNat, Int.reducePow, s2, s3, s4, s5, s6, s7, s21] at hs; obtain ⟨s2, s3, s4, s5, s6, s7, s13, s14, s15, s16, s17, s18, s19, s20, s21⟩ := hs)
      (refine SWp.regS ?_; (simp (disch := first | omega | (simp only [lens]; first | done | omega)) only [go_sem, Nat.reduceEqDiff, Nat.reduceBEq, Nat.reduceAdd, Nat.reduceMul, Nat.reduceSub, Nat.reduceLeDiff, Int.reduceToNat, Int.reducePow, s21]))
      refine ⟨64 - (i + 1), by omega, i + 1, by omega, ⟨s2, s3, s4, by rw [hpb]; exact s5, s6, s7⟩, by simp, ?_⟩
      rw [hst]
      simp only [rnd, bs1, chW, bs0, majW]
      exact ⟨s13, s14, s15, s16, s17, s18, s19, s20⟩
    · obtain rfl : i = 64 := by omega
      rw [← hU] at q13 q14 q15 q16 q17 q18 q19 q20
      clear hst hU hmix
      obtain ⟨a, b, c, d, e, f, g, h⟩ := U
      obtain ⟨a', b', c', d', e', f', g', h'⟩ := u
      simp only at q13 q14 q15 q16 q17 q18 q19 q20
      unfold mkS
      unfold mkS at hQ
      simp only [V8.add, V8.c8] at hQ
      simp only [V8.c8]
      generalize hpb : byteEs p = pb at *
      refine SWp.seq ?_
      refine SWp.seq ?_
      (refine SWp.regS ?_; (simp (disch := first | omega | (simp only [lens]; first | done | omega)) only [go_sem, Nat.reduceEqDiff, Nat.reduceBEq, Nat.reduceAdd, Nat.reduceMul, Nat.reduceSub, Nat.reduceLeDiff, Int.reduceToNat, Int.reducePow, q21]))
      refine SWp.condF rfl ?_
      refine SWp.exit ?_
      simp (disch := first | omega | (simp only [lens]; first | done | omega)) only [go_sem, Nat.reduceEqDiff, Nat.reduceBEq, Nat.reduceAdd, Nat.reduceMul, Nat.reduceSub, Nat.reduceLeDiff, Int.reduceToNat, Int.reducePow]
      (refine SWp.regS ?_; (simp (disch := first | omega | (simp only [lens]; first | done | omega)) only [go_sem, Nat.reduceEqDiff, Nat.reduceBEq, Nat.reduceAdd, Nat.reduceMul, Nat.reduceSub, Nat.reduceLeDiff, Int.reduceToNat, Int.reducePow, q4, q13, q14, q15, q16, q17, q18, q19, q20]))
      rw [BitVec.add_comm a' a, BitVec.add_comm b' b, BitVec.add_comm c' c, BitVec.add_comm d' d, BitVec.add_comm e' e, BitVec.add_comm f' f, BitVec.add_comm g' g, BitVec.add_comm h' h]
      exact hQ _ ⟨by simp (disch := first | omega | (simp only [lens]; first | done | omega)) only [go_sem, Nat.reduceEqDiff, Nat.reduceBEq, Nat.reduceAdd, Nat.reduceMul, Nat.reduceSub, Nat.reduceLeDiff, Int.reduceToNat, Int.reducePow, q2], by simp (disch := first | omega | (simp only [lens]; first | done | omega)) only [go_sem, Nat.reduceEqDiff, Nat.reduceBEq, Nat.reduceAdd, Nat.reduceMul, Nat.reduceSub, Nat.reduceLeDiff, Int.reduceToNat, Int.reducePow, q3], by simp (disch := first | omega | (simp only [lens]; first | done | omega)) only [go_sem, Nat.reduceEqDiff, Nat.reduceBEq, Nat.reduceAdd, Nat.reduceMul, Nat.reduceSub, Nat.reduceLeDiff, Int.reduceToNat, Int.reducePow, q4], (by simp (disch := first | omega | (simp only [lens]; first | done | omega)) only [go_sem, Nat.reduceEqDiff, Nat.reduceBEq, Nat.reduceAdd, Nat.reduceMul, Nat.reduceSub, Nat.reduceLeDiff, Int.reduceToNat, Int.reducePow, q5]; rw [hpb]), by simp (disch := first | omega | (simp only [lens]; first | done | omega)) only [go_sem, Nat.reduceEqDiff, Nat.reduceBEq, Nat.reduceAdd, Nat.reduceMul, Nat.reduceSub, Nat.reduceLeDiff, Int.reduceToNat, Int.reducePow, q6], by simp (disch := first | omega | (simp only [lens]; first | done | omega)) only [go_sem, Nat.reduceEqDiff, Nat.reduceBEq, Nat.reduceAdd, Nat.reduceMul, Nat.reduceSub, Nat.reduceLeDiff, Int.reduceToNat, Int.reducePow, q7]⟩
end
end Am
end Go.Proofs.YthgcooppjhcgcaaDoor
end
section
set_option linter.unusedSimpArgs false
set_option linter.unusedVariables false
/- SHA-256: the reference's Sum. -/
set_option linter.unusedSimpArgs false
set_option linter.unusedVariables false
namespace Go.Proofs.YthgcooppjhcgcaaDoor
namespace Am
theorem sum_r1 {C : Ctx} {K : Env → Store → Prop} {H : Hist} {ρ : Env} {σ : Store} : opsWp C K speculumref02_Sum_r1 H ρ σ = opsWp C K (speculumref02_Sum_r1.drop 1) H (upd ρ 26 (.agg gl_sha_rounds)) σ := by kernel_rfl
theorem flat_get {l : List W} {i : Nat} (h : i < 4 * l.length) : (l.flatMap fun x => be 4 x.toNat)[i]? = (be 4 (wat l (i / 4)).toNat)[i % 4]? := by
  induction l generalizing i with
  | nil => simp at h
  | cons x l ih =>
    have hb : (be 4 x.toNat).length = 4 := be_length _ _
    rw [List.flatMap_cons]
    by_cases hi : i < 4
    · rw [List.getElem?_append_left (by omega), Nat.div_eq_of_lt hi, Nat.mod_eq_of_lt hi]; rfl
    · simp only [List.length_cons] at h
      rw [List.getElem?_append_right (by omega), hb, ih (by omega), show i / 4 = (i - 4) / 4 + 1 by omega, show (i - 4) % 4 = i % 4 by omega]
      rfl
theorem be4_get (x : Nat) {j : Nat} (h : j < 4) : (be 4 x)[j]? = some (UInt8.ofNat (x / 2 ^ (24 - 8 * j))) := by
  have e : be 4 x = [UInt8.ofNat (x / 256 ^ 3), UInt8.ofNat (x / 256 ^ 2), UInt8.ofNat (x / 256 ^ 1), UInt8.ofNat (x / 256 ^ 0)] := by
    simp only [be_cons]
    rfl
  rw [e]
  have hj : j = 0 ∨ j = 1 ∨ j = 2 ∨ j = 3 := by omega
  rcases hj with rfl | rfl | rfl | rfl <;> rfl
theorem out_get (v : V8) {i : Nat} (h : i < 32) : (outV v)[i]? = some (UInt8.ofNat ((wat v.l (i / 4)).toNat / 2 ^ (24 - 8 * (i % 4)))) := by
  unfold outV
  rw [flat_get (by simp [V8.l]; omega), be4_get _ (Nat.mod_lt _ (by decide))]
def ocells (v : V8) (i : Nat) : List AV := byteEsC ((outV v).take i) ++ List.replicate (32 - i) (.int .u8 0)
theorem ocells_len (v : V8) {i : Nat} (h : i ≤ 32) : (ocells v i).length = 32 := by simp [ocells, byteEsC_len, outV_len]; omega
theorem ocells_step (v : V8) {i : Nat} (h : i < 32) {b : Int} (hb : b = (((wat v.l (i / 4)).toNat / 2 ^ (24 - 8 * (i % 4)) % 256 : Nat) : Int)) :
    (ocells v i).take i ++ AV.int .u8 b :: (ocells v i).drop (i + 1) = ocells v (i + 1) := by
  have h1 : (byteEsC ((outV v).take i)).length = i := by rw [byteEsC_len, List.length_take, outV_len]; omega
  have hg := out_get v h
  have hs : (outV v).take (i + 1) = (outV v).take i ++ [UInt8.ofNat ((wat v.l (i / 4)).toNat / 2 ^ (24 - 8 * (i % 4)))] := by
    rw [List.take_add_one, hg]; rfl
  unfold ocells
  rw [List.take_append_of_le_length (by omega), List.take_of_length_le (by omega), List.drop_append, List.drop_of_length_le (by omega), h1, show i + 1 - i = 1 by omega, List.nil_append, hs]
  rw [List.drop_replicate, show 32 - i - 1 = 32 - (i + 1) by omega]
  simp [byteEsC, hb]
set_option maxHeartbeats 8000000 in
theorem ref_Sum_to (σ : Store) (s : List UInt8) (h : s.length < 900000000) : ACallsTo TC 88 [.str s] σ (.agg (byteEsC (shaS s))) σ := by
  obtain ⟨p, hp⟩ : ∃ p, p = padS s := ⟨_, rfl⟩
  obtain ⟨hp1, hp2⟩ := padS_len s
  rw [← hp] at hp1 hp2
  obtain ⟨N, hN⟩ : ∃ N, p.length = 64 * N := ⟨p.length / 64, by omega⟩
  obtain ⟨V, hV⟩ : ∃ V, V = blocks N v0 p := ⟨_, rfl⟩
  have hS : shaS s = outV V := by
    unfold shaS
    rw [← hp, hV]
    have : p.length / 64 = N := by omega
    rw [this]
  rw [hS]
  have hf := fun σ => pad_to σ s (by omega)
  rw [← hp] at hf
  refine ACallsTo.of_body speculumref02_Sum_ok (by simp) fun hw _ => ?_
  refine SWp.seq ?_
  refine SWp.reg ?_
  simp (disch := first | omega | (simp only [lens]; first | done | omega)) only [go_sem, Nat.reduceEqDiff, Nat.reduceBEq, Nat.reduceAdd, Nat.reduceMul, Nat.reduceSub, Nat.reduceLeDiff, Int.reduceToNat, Int.reducePow]
  refine SWp.seq ?_
  refine SWp.reg ?_
  rw [sum_r1]
  simp (disch := first | omega | (simp only [lens]; first | done | omega)) only [go_sem, Nat.reduceEqDiff, Nat.reduceBEq, Nat.reduceAdd, Nat.reduceMul, Nat.reduceSub, Nat.reduceLeDiff, Int.reduceToNat, Int.reducePow, gl_rounds_len]
  refine SWp.seq ?_
  refine SWp.reg ?_
  simp (disch := first | omega | (simp only [lens]; first | done | omega)) only [go_sem, Nat.reduceEqDiff, Nat.reduceBEq, Nat.reduceAdd, Nat.reduceMul, Nat.reduceSub, Nat.reduceLeDiff, Int.reduceToNat, Int.reducePow]
  refine SWp.seq ?_
  repeat' (first | refine SWp.seq ?_ | refine SWp.block ?_ | refine SWp.scope ?_ | refine SWp.condT rfl ?_ | refine SWp.condF rfl ?_ | (refine SWp.condD rfl (fun ht => ?_) (fun ht => ?_) <;> try (exfalso; omega)) | ((first | refine SWp.reg ?_ | refine SWp.skip ?_ | refine SWp.exit ?_ | refine SWp.ret ?_ | (apply callW.mk_pu; (first | exact (fun _ => hf _))) | (apply callW.any; (first | exact (hf _))) | ((first | apply splitG | apply splitGB | apply splitR | apply splitRB | apply splitE | apply splitEB | apply splitC | apply splitCB) <;> intro ht)); all_goals try simp (disch := first | omega | (simp only [lens]; first | done | omega)) only [go_sem, Nat.reduceEqDiff, Nat.reduceBEq, Nat.reduceAdd, Nat.reduceMul, Nat.reduceSub, Nat.reduceLeDiff, Int.reduceToNat, Int.reducePow]))
  refine SWp.loop (fun m ρ σ' => ∃ (u : V8) (n : Nat) (cells : List AV), n + 64 * m = p.length ∧ Rk ρ σ.length p n ∧ cells.length = 64 ∧ blocks m u (p.drop n) = V ∧ σ' = mkS σ u cells) N ?_ ?_
  · exact ⟨v0, 0, List.replicate 64 (.int .u32 0), by omega, ⟨by simp (disch := first | omega | (simp only [lens]; first | done | omega)) only [go_sem, Nat.reduceEqDiff, Nat.reduceBEq, Nat.reduceAdd, Nat.reduceMul, Nat.reduceSub, Nat.reduceLeDiff, Int.reduceToNat, Int.reducePow], by simp (disch := first | omega | (simp only [lens]; first | done | omega)) only [go_sem, Nat.reduceEqDiff, Nat.reduceBEq, Nat.reduceAdd, Nat.reduceMul, Nat.reduceSub, Nat.reduceLeDiff, Int.reduceToNat, Int.reducePow], by simp (disch := first | omega | (simp only [lens]; first | done | omega)) only [go_sem, Nat.reduceEqDiff, Nat.reduceBEq, Nat.reduceAdd, Nat.reduceMul, Nat.reduceSub, Nat.reduceLeDiff, Int.reduceToNat, Int.reducePow], by simp (disch := first | omega | (simp only [lens]; first | done | omega)) only [go_sem, Nat.reduceEqDiff, Nat.reduceBEq, Nat.reduceAdd, Nat.reduceMul, Nat.reduceSub, Nat.reduceLeDiff, Int.reduceToNat, Int.reducePow], by simp (disch := first | omega | (simp only [lens]; first | done | omega)) only [go_sem, Nat.reduceEqDiff, Nat.reduceBEq, Nat.reduceAdd, Nat.reduceMul, Nat.reduceSub, Nat.reduceLeDiff, Int.reduceToNat, Int.reducePow], by simp (disch := first | omega | (simp only [lens]; first | done | omega)) only [go_sem, Nat.reduceEqDiff, Nat.reduceBEq, Nat.reduceAdd, Nat.reduceMul, Nat.reduceSub, Nat.reduceLeDiff, Int.reduceToNat, Int.reducePow]; rfl⟩, rfl, by rw [List.drop_zero]; exact hV.symm, rfl⟩
  · rintro m ρ σ' ⟨u, n, cells, hn, ⟨q2, q3, q4, q5, q6, q7⟩, hc, hb, rfl⟩
    have hpb := byteEs_len p
    cases m with
    | succ m =>
      refine SWp.seq ?_
      refine SWp.seq ?_
      (refine SWp.regS ?_; (simp (disch := first | omega | (simp only [lens]; first | done | omega)) only [go_sem, Nat.reduceEqDiff, Nat.reduceBEq, Nat.reduceAdd, Nat.reduceMul, Nat.reduceSub, Nat.reduceLeDiff, Int.reduceToNat, Int.reducePow, q5, q7, hpb]))
      refine SWp.condT rfl ?_
      refine SWp.skip ?_
      simp (disch := first | omega | (simp only [lens]; first | done | omega)) only [go_sem, Nat.reduceEqDiff, Nat.reduceBEq, Nat.reduceAdd, Nat.reduceMul, Nat.reduceSub, Nat.reduceLeDiff, Int.reduceToNat, Int.reducePow]
      refine SWp.seq ?_
      refine SWp.block ?_
      refine SWp.seq ?_
      refine ref_words (p := p) (n := n) (u := u) (cells := cells) ⟨by simp (disch := first | omega | (simp only [lens]; first | done | omega)) only [go_sem, Nat.reduceEqDiff, Nat.reduceBEq, Nat.reduceAdd, Nat.reduceMul, Nat.reduceSub, Nat.reduceLeDiff, Int.reduceToNat, Int.reducePow, q2], by simp (disch := first | omega | (simp only [lens]; first | done | omega)) only [go_sem, Nat.reduceEqDiff, Nat.reduceBEq, Nat.reduceAdd, Nat.reduceMul, Nat.reduceSub, Nat.reduceLeDiff, Int.reduceToNat, Int.reducePow, q3], by simp (disch := first | omega | (simp only [lens]; first | done | omega)) only [go_sem, Nat.reduceEqDiff, Nat.reduceBEq, Nat.reduceAdd, Nat.reduceMul, Nat.reduceSub, Nat.reduceLeDiff, Int.reduceToNat, Int.reducePow, q4], by simp (disch := first | omega | (simp only [lens]; first | done | omega)) only [go_sem, Nat.reduceEqDiff, Nat.reduceBEq, Nat.reduceAdd, Nat.reduceMul, Nat.reduceSub, Nat.reduceLeDiff, Int.reduceToNat, Int.reducePow, q5], by simp (disch := first | omega | (simp only [lens]; first | done | omega)) only [go_sem, Nat.reduceEqDiff, Nat.reduceBEq, Nat.reduceAdd, Nat.reduceMul, Nat.reduceSub, Nat.reduceLeDiff, Int.reduceToNat, Int.reducePow, q6], by simp (disch := first | omega | (simp only [lens]; first | done | omega)) only [go_sem, Nat.reduceEqDiff, Nat.reduceBEq, Nat.reduceAdd, Nat.reduceMul, Nat.reduceSub, Nat.reduceLeDiff, Int.reduceToNat, Int.reducePow, q7]⟩ (by omega) (by omega) hc ?_
      intro ρ1 rest hr K1
      refine SWp.seq ?_
      refine ref_sched K1 hr ?_
      intro ρ2 K2
      refine ref_rounds K2 ?_
      intro ρ3 ⟨t2, t3, t4, t5, t6, t7⟩
      simp only [thenQ, blkQ]
      (refine SWp.regS ?_; (simp (disch := first | omega | (simp only [lens]; first | done | omega)) only [go_sem, Nat.reduceEqDiff, Nat.reduceBEq, Nat.reduceAdd, Nat.reduceMul, Nat.reduceSub, Nat.reduceLeDiff, Int.reduceToNat, Int.reducePow, t7]))
      refine ⟨m, by omega, mixS u ((p.drop n).take 64), n + 64, ws (sched ((p.drop n).take 64) 64), by omega, ⟨by simp (disch := first | omega | (simp only [lens]; first | done | omega)) only [go_sem, Nat.reduceEqDiff, Nat.reduceBEq, Nat.reduceAdd, Nat.reduceMul, Nat.reduceSub, Nat.reduceLeDiff, Int.reduceToNat, Int.reducePow, t2], by simp (disch := first | omega | (simp only [lens]; first | done | omega)) only [go_sem, Nat.reduceEqDiff, Nat.reduceBEq, Nat.reduceAdd, Nat.reduceMul, Nat.reduceSub, Nat.reduceLeDiff, Int.reduceToNat, Int.reducePow, t3], by simp (disch := first | omega | (simp only [lens]; first | done | omega)) only [go_sem, Nat.reduceEqDiff, Nat.reduceBEq, Nat.reduceAdd, Nat.reduceMul, Nat.reduceSub, Nat.reduceLeDiff, Int.reduceToNat, Int.reducePow, t4], by simp (disch := first | omega | (simp only [lens]; first | done | omega)) only [go_sem, Nat.reduceEqDiff, Nat.reduceBEq, Nat.reduceAdd, Nat.reduceMul, Nat.reduceSub, Nat.reduceLeDiff, Int.reduceToNat, Int.reducePow, t5], by simp (disch := first | omega | (simp only [lens]; first | done | omega)) only [go_sem, Nat.reduceEqDiff, Nat.reduceBEq, Nat.reduceAdd, Nat.reduceMul, Nat.reduceSub, Nat.reduceLeDiff, Int.reduceToNat, Int.reducePow, t6], by simp (disch := first | omega | (simp only [lens]; first | done | omega)) only [go_sem, Nat.reduceEqDiff, Nat.reduceBEq, Nat.reduceAdd, Nat.reduceMul, Nat.reduceSub, Nat.reduceLeDiff, Int.reduceToNat, Int.reducePow]; rw [Int.natCast_add]; rfl⟩, by rw [ws_len, sched_len], ?_, rfl⟩
      rw [← hb, blocks, List.drop_drop]
    | zero =>
      have hd : p.drop n = [] := List.drop_of_length_le (by omega)
      rw [hd] at hb
      have hu : u = V := hb
      subst hu
      clear hb hd hV
      unfold mkS
      repeat' (first | refine SWp.seq ?_ | refine SWp.block ?_ | refine SWp.scope ?_ | refine SWp.condT rfl ?_ | refine SWp.condF rfl ?_ | (refine SWp.condD rfl (fun ht => ?_) (fun ht => ?_) <;> try (exfalso; omega)) | ((first | refine SWp.reg ?_ | refine SWp.skip ?_ | refine SWp.exit ?_ | refine SWp.ret ?_ | ((first | apply splitG | apply splitGB | apply splitR | apply splitRB | apply splitE | apply splitEB | apply splitC | apply splitCB) <;> intro ht)); all_goals try simp (disch := first | omega | (simp only [lens]; first | done | omega)) only [go_sem, Nat.reduceEqDiff, Nat.reduceBEq, Nat.reduceAdd, Nat.reduceMul, Nat.reduceSub, Nat.reduceLeDiff, Int.reduceToNat, Int.reducePow, q5, q7, hpb]))
      refine SWp.loop (fun m ρ σ' => ∃ i : Nat, m + i = 32 ∧ ρ 2 = .ptr σ.length 0 0 ∧ ρ 4 = .ptr (σ.length + 2) 0 0 ∧ ρ 24 = .ptr (σ.length + 4) 0 0 ∧ ρ 25 = .int .i64 i ∧ σ' = σ ++ [some [z32], some [gl_sha_rounds], some [u.c8], some [cells], some [ocells u i]]) 32 ?_ ?_
      · exact ⟨0, by omega, by simp (disch := first | omega | (simp only [lens]; first | done | omega)) only [go_sem, Nat.reduceEqDiff, Nat.reduceBEq, Nat.reduceAdd, Nat.reduceMul, Nat.reduceSub, Nat.reduceLeDiff, Int.reduceToNat, Int.reducePow, q2], by simp (disch := first | omega | (simp only [lens]; first | done | omega)) only [go_sem, Nat.reduceEqDiff, Nat.reduceBEq, Nat.reduceAdd, Nat.reduceMul, Nat.reduceSub, Nat.reduceLeDiff, Int.reduceToNat, Int.reducePow, q4], by simp (disch := first | omega | (simp only [lens]; first | done | omega)) only [go_sem, Nat.reduceEqDiff, Nat.reduceBEq, Nat.reduceAdd, Nat.reduceMul, Nat.reduceSub, Nat.reduceLeDiff, Int.reduceToNat, Int.reducePow], by simp (disch := first | omega | (simp only [lens]; first | done | omega)) only [go_sem, Nat.reduceEqDiff, Nat.reduceBEq, Nat.reduceAdd, Nat.reduceMul, Nat.reduceSub, Nat.reduceLeDiff, Int.reduceToNat, Int.reducePow]; rfl, rfl⟩
      · clear q2 q3 q4 q5 q6 q7
        rintro m ρ σ' ⟨i, hm, q2, q4, q24, q25, rfl⟩
        have hlen := ocells_len u (i := i) (by omega)
        have h8 : u.c8.length = 8 := rfl
        have hz : z32.length = 32 := rfl
        by_cases hi : i < 32
        · have hst := ocells_step u hi (b := ((((wat u.l (i / 4)).toNat / 2 ^ (24 - 8 * (i % 4)) % 256 : Nat)) : Int)) rfl
          have hw := wat_lt (w := u.l) (i := i / 4) (by simp [V8.l]; omega)
          rw [ws_l] at hw
          generalize wat u.l (i / 4) = x at *
          generalize ocells u i = cc at *
          have hd4 : ((i : Int) / 4).toNat = i / 4 := by omega
          have hsh : (24 - 8 * ((i : Int) % 4)).toNat = 24 - 8 * (i % 4) := by omega
          repeat' (first | refine SWp.seq ?_ | refine SWp.block ?_ | refine SWp.scope ?_ | refine SWp.condT rfl ?_ | refine SWp.condF rfl ?_ | (refine SWp.condD rfl (fun ht => ?_) (fun ht => ?_) <;> try (exfalso; omega)) | ((first | refine SWp.regS ?_ | refine SWp.skip ?_ | refine SWp.exit ?_ | refine SWp.ret ?_ | ((first | apply splitG | apply splitGB | apply splitR | apply splitRB | apply splitE | apply splitEB | apply splitC | apply splitCB) <;> intro ht)); all_goals try simp (disch := first | omega | (simp only [lens]; first | done | omega)) only [go_sem, Nat.reduceEqDiff, Nat.reduceBEq, Nat.reduceAdd, Nat.reduceMul, Nat.reduceSub, Nat.reduceLeDiff, Int.reduceToNat, Int.reducePow, q2, q4, q24, q25, hlen, h8, hw, hd4, hsh]))
          refine ⟨32 - (i + 1), by omega, i + 1, by omega, by simp, ?_⟩
          rw [BitVec.toNat_ushiftRight, Nat.shiftRight_eq_div_pow, ← hst, Int.natCast_emod]
          rfl
        · obtain rfl : i = 32 := by omega
          have e32 : ocells u 32 = byteEsC (outV u) := by
            unfold ocells
            rw [List.take_of_length_le (by rw [outV_len]; decide)]
            exact List.append_nil _
          have hd : List.drop 32 z32 = [] := rfl
          have hl : (byteEsC (outV u)).length = 32 := by rw [byteEsC_len, outV_len]
          rw [e32] at *
          repeat' (first | refine SWp.seq ?_ | refine SWp.block ?_ | refine SWp.scope ?_ | refine SWp.condT rfl ?_ | refine SWp.condF rfl ?_ | (refine SWp.condD rfl (fun ht => ?_) (fun ht => ?_) <;> try (exfalso; omega)) | ((first | refine SWp.reg ?_ | refine SWp.skip ?_ | refine SWp.exit ?_ | refine SWp.ret ?_ | ((first | apply splitG | apply splitGB | apply splitR | apply splitRB | apply splitE | apply splitEB | apply splitC | apply splitCB) <;> intro ht)); all_goals try simp (disch := first | omega | (simp only [lens]; first | done | omega)) only [go_sem, Nat.reduceEqDiff, Nat.reduceBEq, Nat.reduceAdd, Nat.reduceMul, Nat.reduceSub, Nat.reduceLeDiff, Int.reduceToNat, Int.reducePow, q2, q4, q24, q25, hl, h8, hd, hz]))
          exact DownV.pure hw (rl_agg (rl_bytes _))
end Am
end Go.Proofs.YthgcooppjhcgcaaDoor
end
section
set_option linter.unusedSimpArgs false
set_option linter.unusedVariables false
/- Abstract code. (Printed by wip/gen.) -/
set_option maxRecDepth 10000
namespace Go.Proofs.YthgcooppjhcgcaaDoor
namespace Am



@[go_sem] def trees_Node_r0 : List AIns := [
  ⟨some 2, none, .no, .box (.t 0)⟩,
  ⟨some 3, none, .no, .box (.t 1)⟩,
  ⟨some 4, none, .no, .alloc [(.int .u8 (0)), (.int .u8 (0)), (.int .u8 (0)), (.int .u8 (0)), (.int .u8 (0)), (.int .u8 (0)), (.int .u8 (0)), (.int .u8 (0)), (.int .u8 (0)), (.int .u8 (0)), (.int .u8 (0)), (.int .u8 (0)), (.int .u8 (0)), (.int .u8 (0)), (.int .u8 (0)), (.int .u8 (0)), (.int .u8 (0)), (.int .u8 (0)), (.int .u8 (0)), (.int .u8 (0)), (.int .u8 (0)), (.int .u8 (0)), (.int .u8 (0)), (.int .u8 (0)), (.int .u8 (0)), (.int .u8 (0)), (.int .u8 (0)), (.int .u8 (0)), (.int .u8 (0)), (.int .u8 (0)), (.int .u8 (0)), (.int .u8 (0))]⟩]
@[go_sem] def trees_Node_r1 : List AIns := [
  ⟨some 5, none, .rd, .load true 32 (.t 2)⟩,
  ⟨some 6, none, .ef, .call (.v (.fn 112 [])) [(.t 5)]⟩,
  ⟨some 7, none, .no, .bin .add .none (.v (.str [1])) (.t 6)⟩,
  ⟨some 8, none, .rd, .load true 32 (.t 3)⟩,
  ⟨some 9, none, .no, .call (.v (.fn 112 [])) [(.t 8)]⟩,
  ⟨some 10, none, .no, .bin .add .none (.t 7) (.t 9)⟩,
  ⟨some 11, none, .no, .call (.v (.fn 95 [])) [(.t 10)]⟩,
  ⟨none, none, .no, .store 32 (.t 4) (.t 11)⟩]
def trees_Node_c2 : ACode := .seq (.reg trees_Node_r1) .ret
def trees_Node_c3 : ACode := .seq (.reg trees_Node_r0) trees_Node_c2
theorem trees_Node_ok : cFn TC 81 = some (12, [.c 4 true 32], trees_Node_c3) := by kernel_rfl

@[go_sem] def speculumref04_Node_r0 : List AIns := [
  ⟨some 2, none, .no, .box (.t 0)⟩,
  ⟨some 3, none, .no, .box (.t 1)⟩,
  ⟨some 4, none, .no, .alloc [(.int .u8 (0)), (.int .u8 (0)), (.int .u8 (0)), (.int .u8 (0)), (.int .u8 (0)), (.int .u8 (0)), (.int .u8 (0)), (.int .u8 (0)), (.int .u8 (0)), (.int .u8 (0)), (.int .u8 (0)), (.int .u8 (0)), (.int .u8 (0)), (.int .u8 (0)), (.int .u8 (0)), (.int .u8 (0)), (.int .u8 (0)), (.int .u8 (0)), (.int .u8 (0)), (.int .u8 (0)), (.int .u8 (0)), (.int .u8 (0)), (.int .u8 (0)), (.int .u8 (0)), (.int .u8 (0)), (.int .u8 (0)), (.int .u8 (0)), (.int .u8 (0)), (.int .u8 (0)), (.int .u8 (0)), (.int .u8 (0)), (.int .u8 (0))]⟩]
@[go_sem] def speculumref04_Node_r1 : List AIns := [
  ⟨some 5, none, .rd, .load true 32 (.t 2)⟩,
  ⟨some 6, none, .ef, .call (.v (.fn 99 [])) [(.t 5)]⟩,
  ⟨some 7, none, .no, .bin .add .none (.v (.str [1])) (.t 6)⟩,
  ⟨some 8, none, .rd, .load true 32 (.t 3)⟩,
  ⟨some 9, none, .no, .call (.v (.fn 99 [])) [(.t 8)]⟩,
  ⟨some 10, none, .no, .bin .add .none (.t 7) (.t 9)⟩,
  ⟨some 11, none, .no, .call (.v (.fn 88 [])) [(.t 10)]⟩,
  ⟨none, none, .no, .store 32 (.t 4) (.t 11)⟩]
def speculumref04_Node_c2 : ACode := .seq (.reg speculumref04_Node_r1) .ret
def speculumref04_Node_c3 : ACode := .seq (.reg speculumref04_Node_r0) speculumref04_Node_c2
theorem speculumref04_Node_ok : cFn TC 89 = some (12, [.c 4 true 32], speculumref04_Node_c3) := by kernel_rfl

@[go_sem] def speculumref03_Hash_r0 : List AIns := [
  ⟨some 1, none, .no, .box (.t 0)⟩,
  ⟨some 2, none, .no, .mv (.v (.str []))⟩]
@[go_sem] def speculumref03_Hash_r1 : List AIns := [
  ⟨some 3, none, .no, .mv (.v .nilsl)⟩]
@[go_sem] def speculumref03_Hash_r2 : List AIns := [
  ⟨some 4, none, .no, .mv (.v (.int .i64 (0)))⟩]
@[go_sem] def speculumref03_Hash_r3 : List AIns := [
  ⟨some 5, none, .no, .mv (.t 4)⟩,
  ⟨some 6, none, .no, .bin .lss .none (.t 5) (.v (.int .i64 (32)))⟩]
def speculumref03_Hash_c4 : ACode := .cond (.t 6) .skip (.exit 0)
def speculumref03_Hash_c5 : ACode := .seq (.reg speculumref03_Hash_r3) speculumref03_Hash_c4
@[go_sem] def speculumref03_Hash_r6 : List AIns := [
  ⟨some 9, none, .no, .mv (.t 3)⟩,
  ⟨some 10, none, .no, .mv (.t 4)⟩,
  ⟨some 11, none, .no, .iaArr 32 1 (.t 1) (.t 10)⟩,
  ⟨some 12, none, .no, .load false 1 (.t 11)⟩,
  ⟨some 13, none, .no, .lit 1 [(.t 12)]⟩,
  ⟨some 14, none, .no, .appB (.t 9) (.t 13)⟩,
  ⟨some 3, none, .no, .mv (.t 14)⟩]
@[go_sem] def speculumref03_Hash_r7 : List AIns := [
  ⟨some 7, none, .no, .mv (.t 4)⟩,
  ⟨some 8, none, .no, .bin .add .none (.t 7) (.v (.int .i64 (1)))⟩,
  ⟨some 4, none, .no, .mv (.t 8)⟩]
def speculumref03_Hash_c8 : ACode := .seq (.block 1 (.reg speculumref03_Hash_r6)) (.reg speculumref03_Hash_r7)
def speculumref03_Hash_c9 : ACode := .seq speculumref03_Hash_c5 speculumref03_Hash_c8
def speculumref03_Hash_c10 : ACode := .loop speculumref03_Hash_c9
def speculumref03_Hash_c11 : ACode := .block 0 speculumref03_Hash_c10
def speculumref03_Hash_c12 : ACode := .seq (.reg speculumref03_Hash_r2) speculumref03_Hash_c11
@[go_sem] def speculumref03_Hash_r13 : List AIns := [
  ⟨some 15, none, .no, .mv (.t 3)⟩,
  ⟨some 16, none, .no, .conv .str (.t 15)⟩,
  ⟨some 2, none, .no, .mv (.t 16)⟩]
def speculumref03_Hash_c14 : ACode := .seq (.reg speculumref03_Hash_r13) .ret
def speculumref03_Hash_c15 : ACode := .seq speculumref03_Hash_c12 speculumref03_Hash_c14
def speculumref03_Hash_c16 : ACode := .seq (.reg speculumref03_Hash_r1) speculumref03_Hash_c15
def speculumref03_Hash_c17 : ACode := .seq (.reg speculumref03_Hash_r0) speculumref03_Hash_c16
theorem speculumref03_Hash_ok : cFn TC 99 = some (17, [.t 2], speculumref03_Hash_c17) := by kernel_rfl

@[go_sem] def codec_Hash_r0 : List AIns := [
  ⟨some 1, none, .no, .box (.t 0)⟩,
  ⟨some 2, none, .no, .mv (.v (.str []))⟩]
@[go_sem] def codec_Hash_r1 : List AIns := [
  ⟨some 3, none, .no, .slice (.arr 32 1) (.t 1) none none none⟩,
  ⟨some 4, none, .no, .conv .str (.t 3)⟩,
  ⟨some 2, none, .no, .mv (.t 4)⟩]
def codec_Hash_c2 : ACode := .seq (.reg codec_Hash_r1) .ret
def codec_Hash_c3 : ACode := .seq (.reg codec_Hash_r0) codec_Hash_c2
theorem codec_Hash_ok : cFn TC 112 = some (5, [.t 2], codec_Hash_c3) := by kernel_rfl

@[go_sem] def speculumref04_Split_r0 : List AIns := [
  ⟨some 2, none, .no, .mv (.v (.int .i64 (0)))⟩]
@[go_sem] def speculumref04_Split_r1 : List AIns := [
  ⟨some 3, none, .no, .mv (.v (.int .i64 (0)))⟩]
@[go_sem] def speculumref04_Split_r2 : List AIns := [
  ⟨some 4, none, .no, .mv (.v (.int .i64 (1)))⟩]
@[go_sem] def speculumref04_Split_r3 : List AIns := [
  ⟨some 5, none, .no, .mv (.t 4)⟩,
  ⟨some 6, none, .no, .mv (.t 0)⟩,
  ⟨some 7, none, .no, .bin .lss .none (.t 5) (.t 6)⟩,
  ⟨some 8, none, .no, .mv (.t 7)⟩,
  ⟨some 9, some (8, true), .no, .mv (.t 4)⟩,
  ⟨some 10, some (8, true), .no, .bin .gtr .none (.t 9) (.v (.int .i64 (0)))⟩,
  ⟨some 11, none, .no, .pick (.t 8) (.t 10) (.v (.bool false))⟩]
def speculumref04_Split_c4 : ACode := .cond (.t 11) .skip (.exit 0)
def speculumref04_Split_c5 : ACode := .seq (.reg speculumref04_Split_r3) speculumref04_Split_c4
@[go_sem] def speculumref04_Split_r6 : List AIns := [
  ⟨some 14, none, .no, .mv (.t 4)⟩,
  ⟨some 3, none, .no, .mv (.t 14)⟩]
@[go_sem] def speculumref04_Split_r7 : List AIns := [
  ⟨some 12, none, .no, .mv (.t 4)⟩,
  ⟨some 13, none, .no, .bin .mul .none (.t 12) (.v (.int .i64 (2)))⟩,
  ⟨some 4, none, .no, .mv (.t 13)⟩]
def speculumref04_Split_c8 : ACode := .seq (.block 1 (.reg speculumref04_Split_r6)) (.reg speculumref04_Split_r7)
def speculumref04_Split_c9 : ACode := .seq speculumref04_Split_c5 speculumref04_Split_c8
def speculumref04_Split_c10 : ACode := .loop speculumref04_Split_c9
def speculumref04_Split_c11 : ACode := .block 0 speculumref04_Split_c10
def speculumref04_Split_c12 : ACode := .seq (.reg speculumref04_Split_r2) speculumref04_Split_c11
@[go_sem] def speculumref04_Split_r13 : List AIns := [
  ⟨some 15, none, .no, .mv (.t 3)⟩,
  ⟨some 2, none, .no, .mv (.t 15)⟩]
def speculumref04_Split_c14 : ACode := .seq (.reg speculumref04_Split_r13) .ret
def speculumref04_Split_c15 : ACode := .seq speculumref04_Split_c12 speculumref04_Split_c14
def speculumref04_Split_c16 : ACode := .seq (.reg speculumref04_Split_r1) speculumref04_Split_c15
def speculumref04_Split_c17 : ACode := .seq (.reg speculumref04_Split_r0) speculumref04_Split_c16
theorem speculumref04_Split_ok : cFn TC 137 = some (16, [.t 2], speculumref04_Split_c17) := by kernel_rfl
end Am
end Go.Proofs.YthgcooppjhcgcaaDoor
end
section
set_option linter.unusedSimpArgs false
set_option linter.unusedVariables false
/- Trees: contracts: a hash's bytes, Node. -/
set_option linter.unusedSimpArgs false
set_option linter.unusedVariables false
namespace Go.Proofs.YthgcooppjhcgcaaDoor
namespace Am
theorem shaS_len (s : List UInt8) : (shaS s).length = 32 := outV_len _
def nodeS (a b : List UInt8) : List UInt8 := shaS (1 :: (a ++ b))
theorem nodeS_len (a b : List UInt8) : (nodeS a b).length = 32 := shaS_len _
theorem chunk_C : ∀ (l : List UInt8), chunk 1 l.length (byteEsC l) = byteEs l
  | [] => rfl
  | b :: l => by
    have := chunk_C l
    simp only [byteEsC, byteEs] at this
    simp [byteEsC, byteEs, chunk, B8] at this ⊢
    exact this
theorem codec_Hash_to (σ : Store) (h : List UInt8) (hl : h.length = 32) : ACallsTo TC 112 [.agg (byteEsC h)] σ (.str h) σ := by
  refine ACallsTo.of_body codec_Hash_ok (by simp) fun hw _ => ?_
  have h1 := byteEsC_len h
  have hc := chunk_C h
  rw [hl] at h1 hc
  repeat' (first | refine SWp.seq ?_ | refine SWp.block ?_ | refine SWp.scope ?_ | refine SWp.condT rfl ?_ | refine SWp.condF rfl ?_ | (refine SWp.condD rfl (fun ht => ?_) (fun ht => ?_) <;> try (exfalso; omega)) | ((first | refine SWp.reg ?_ | refine SWp.skip ?_ | refine SWp.exit ?_ | refine SWp.ret ?_ | ((first | apply splitG | apply splitGB | apply splitR | apply splitRB | apply splitE | apply splitEB | apply splitC | apply splitCB) <;> intro ht)); all_goals try simp (disch := first | omega | (simp only [lens]; first | done | omega)) only [go_sem, Nat.reduceEqDiff, Nat.reduceBEq, Nat.reduceAdd, Nat.reduceMul, Nat.reduceSub, Nat.reduceLeDiff, Int.reduceToNat, Int.reducePow, h1, hc]))
  exact DownV.pure hw (rlB_ok _ rfl)
/-- Own elements behind what was there, or none yet. -/
def OwnN (sz : Nat) (τ σ' : Store) (v : AV) (es : List (List AV)) : Prop :=
  ∃ news, σ' = τ ++ news ∧ ((es = [] ∧ v = .nilsl) ∨ ∃ j, es ≠ [] ∧ v = .sl (τ.length + j) 0 es.length none sz ∧ news[j]? = some (some es))
theorem OwnN.len {sz : Nat} {τ σ' : Store} {v : AV} {es : List (List AV)} (h : OwnN sz τ σ' v es) : rLenSl v = some (.int .i64 es.length) := by
  obtain ⟨news, rfl, ⟨rfl, rfl⟩ | ⟨j, _, rfl, h⟩⟩ := h <;> rfl
theorem OwnN.appB {sz : Nat} {τ σ' : Store} {v : AV} {es ys : List (List AV)} (h : OwnN sz τ σ' v es) : aAppB σ' v ys = aApp σ' 1 v ys := by
  obtain ⟨news, rfl, ⟨rfl, rfl⟩ | ⟨j, _, rfl, h⟩⟩ := h <;> rfl
theorem OwnN.nil {sz : Nat} {τ news : Store} : OwnN sz τ (τ ++ news) .nilsl [] := ⟨news, rfl, .inl ⟨rfl, rfl⟩⟩
theorem OwnN.ext {sz : Nat} {τ σ' : Store} {v : AV} {es : List (List AV)} (h : OwnN sz τ σ' v es) : ∃ news, σ' = τ ++ news := by
  obtain ⟨news, h, _⟩ := h; exact ⟨news, h⟩
/-- What others append behind leaves it. -/
theorem OwnN.more {sz : Nat} {τ σ' : Store} {v : AV} {es : List (List AV)} (h : OwnN sz τ σ' v es) (y : Store) : OwnN sz τ (σ' ++ y) v es := by
  obtain ⟨news, rfl, h | ⟨j, h0, rfl, h⟩⟩ := h
  · exact ⟨news ++ y, by rw [List.append_assoc], .inl h⟩
  · exact ⟨news ++ y, by rw [List.append_assoc], .inr ⟨j, h0, rfl, by rw [List.getElem?_append_left (List.getElem?_eq_some_iff.1 h).1]; exact h⟩⟩
theorem OwnN.app {sz : Nat} {τ σ' : Store} {v : AV} {es ys : List (List AV)} (h : OwnN sz τ σ' v es) (h0 : ys.length ≠ 0) (hl : es.length + ys.length ≤ 1073741824) :
    ∃ v' σ'', aApp σ' sz v ys = some (v', σ'') ∧ OwnN sz τ σ'' v' (es ++ ys) := by
  have hne : es ++ ys ≠ [] := fun e => h0 (by rw [(List.append_eq_nil_iff.1 e).2]; rfl)
  obtain ⟨news, rfl, ⟨rfl, rfl⟩ | ⟨j, _, rfl, h⟩⟩ := h
  · refine ⟨_, _, by rw [app_n, if_neg h0, if_pos (by simpa using hl)], news ++ [some ys], by rw [List.append_assoc], .inr ⟨news.length, hne, by simp, by rw [List.getElem?_append_right (Nat.le_refl _)]; simp⟩⟩
  · have hj := (List.getElem?_eq_some_iff.1 h).1
    have hg : (τ ++ news)[τ.length + j]? = some (some es) := by rw [List.getElem?_append_right (by omega), Nat.add_sub_cancel_left]; exact h
    refine ⟨.sl (τ ++ news).length 0 (es.length + ys.length) none sz, (τ ++ news).set (τ.length + j) none ++ [some (es ++ ys)], ?_, news.set j none ++ [some (es ++ ys)], ?_, .inr ⟨news.length, hne, by simp, by rw [List.getElem?_append_right (by simp)]; simp⟩⟩
    · rw [app_s, if_neg h0, hg]
      simp only
      rw [if_pos ⟨trivial, by omega, by omega⟩, if_neg (by omega), List.drop_zero, List.take_of_length_le (Nat.le_refl _)]
    · rw [List.set_append_right _ _ (by omega), Nat.add_sub_cancel_left, List.append_assoc]
theorem OwnN.sl {sz : Nat} {τ σ' : Store} {v : AV} {es : List (List AV)} (h : OwnN sz τ σ' v es) (h0 : es ≠ []) : ∃ r, v = .sl r 0 es.length none sz ∧ σ'[r]? = some (some es) ∧ τ.length ≤ r := by
  obtain ⟨news, rfl, ⟨rfl, rfl⟩ | ⟨j, _, rfl, h⟩⟩ := h
  · exact absurd rfl h0
  · exact ⟨_, rfl, by rw [List.getElem?_append_right (by omega), Nat.add_sub_cancel_left]; exact h, by omega⟩
/-- A slice that nobody writes. -/
def SlV (sz : Nat) (es : List (List AV)) (x : AV) : Prop := (x = .nilsl ∧ es = []) ∨ ∃ ex, x = .vsl sz es ex
theorem SlV.len {sz : Nat} {es : List (List AV)} {x : AV} (h : SlV sz es x) : rLenSl x = some (.int .i64 es.length) := by
  rcases h with ⟨rfl, rfl⟩ | ⟨ex, rfl⟩ <;> rfl
theorem SlV.vsl {sz : Nat} {es : List (List AV)} {x : AV} (h : SlV sz es x) (h0 : 0 < es.length) : ∃ ex, x = .vsl sz es ex := by
  rcases h with ⟨rfl, rfl⟩ | h
  · simp at h0
  · exact h
def slVal (sz : Nat) (es : List (List AV)) : AV := if es = [] then .nilsl else .vsl sz es false
theorem slVal_is (sz : Nat) (es : List (List AV)) : SlV sz es (slVal sz es) := by
  unfold slVal
  split
  · rename_i h; exact .inl ⟨rfl, h⟩
  · exact .inr ⟨false, rfl⟩
/-- A new slice for the caller: who, and the store with it. -/
def ownV (σ : Store) (sz : Nat) (es : List (List AV)) : AV := if es = [] then .nilsl else .sl σ.length 0 es.length none sz
def ownS (σ : Store) (es : List (List AV)) : Store := if es = [] then σ else σ ++ [some es]
theorem own_is (σ : Store) (sz : Nat) (es : List (List AV)) : OwnN sz σ (ownS σ es) (ownV σ sz es) es := by
  unfold ownV ownS
  by_cases h : es = []
  · rw [if_pos h, if_pos h]; exact ⟨[], by simp, .inl ⟨h, rfl⟩⟩
  · rw [if_neg h, if_neg h]; exact ⟨[some es], rfl, .inr ⟨0, h, rfl, rfl⟩⟩
/-- At a function's end it is a value .. -/
theorem OwnN.froze {sz : Nat} {σ σ' : Store} {v : AV} {es : List (List AV)} (hw : Wf σ.length σ) (h : OwnN sz σ σ' v es) (hr : RLss σ.length es) : DownV σ.length v σ' (slVal sz es) σ := by
  unfold slVal
  obtain ⟨news, rfl, ⟨rfl, rfl⟩ | ⟨j, h0, rfl, h⟩⟩ := h
  · rw [if_pos rfl]; exact DownV.pure hw (rlB_ok _ rfl)
  · have e : (es.drop 0).take es.length = es := by rw [List.drop_zero, List.take_of_length_le (Nat.le_refl _)]
    have := DownV.froze (off := 0) (len := es.length) (esz := sz) (lim := none) hw h (by omega) (by rw [e]; exact hr)
    rw [e] at this
    rw [if_neg h0]; exact this
/-- .. or its caller's own. -/
theorem OwnN.own {sz : Nat} {σ σ' : Store} {v : AV} {es : List (List AV)} (hw : Wf σ.length σ) (h : OwnN sz σ σ' v es) (hr : RLss σ.length es) : DownV σ.length v σ' (ownV σ sz es) (ownS σ es) := by
  unfold ownV ownS
  obtain ⟨news, rfl, ⟨rfl, rfl⟩ | ⟨j, h0, rfl, h⟩⟩ := h
  · rw [if_pos rfl, if_pos rfl]; exact DownV.pure hw (rlB_ok _ rfl)
  · rw [if_neg h0, if_neg h0]; exact DownV.own (off := 0) (len := es.length) (esz := sz) (lim := none) hw h hr
theorem byteEsC_get {l : List UInt8} {i : Nat} (h : i < l.length) : (byteEsC l)[i]? = some (.int .u8 (l.getD i 0).toNat) := by
  simp [byteEsC, List.getD_eq_getElem?_getD, List.getElem?_eq_getElem h]
set_option maxHeartbeats 4000000 in
theorem ref_Hash_to (σ : Store) (h : List UInt8) (hl : h.length = 32) : ACallsTo TC 99 [.agg (byteEsC h)] σ (.str h) σ := by
  refine ACallsTo.of_body speculumref03_Hash_ok (by simp) fun hw _ => ?_
  have h1 := byteEsC_len h
  rw [hl] at h1
  repeat' (first | refine SWp.seq ?_ | refine SWp.block ?_ | refine SWp.scope ?_ | refine SWp.condT rfl ?_ | refine SWp.condF rfl ?_ | (refine SWp.condD rfl (fun ht => ?_) (fun ht => ?_) <;> try (exfalso; omega)) | ((first | refine SWp.reg ?_ | refine SWp.skip ?_ | refine SWp.exit ?_ | refine SWp.ret ?_ | ((first | apply splitG | apply splitGB | apply splitR | apply splitRB | apply splitE | apply splitEB | apply splitC | apply splitCB) <;> intro ht)); all_goals try simp (disch := first | omega | (simp only [lens]; first | done | omega)) only [go_sem, Nat.reduceEqDiff, Nat.reduceBEq, Nat.reduceAdd, Nat.reduceMul, Nat.reduceSub, Nat.reduceLeDiff, Int.reduceToNat, Int.reducePow, h1]))
  refine SWp.loop (fun m ρ σ' => ∃ i : Nat, m + i = 32 ∧ ρ 1 = .ptr σ.length 0 0 ∧ ρ 4 = .int .i64 i ∧ OwnN 1 (σ ++ [some [byteEsC h]]) σ' (ρ 3) (byteEs (h.take i))) 32 ?_ ?_
  · refine ⟨0, by omega, by simp (disch := first | omega | (simp only [lens]; first | done | omega)) only [go_sem, Nat.reduceEqDiff, Nat.reduceBEq, Nat.reduceAdd, Nat.reduceMul, Nat.reduceSub, Nat.reduceLeDiff, Int.reduceToNat, Int.reducePow], by simp (disch := first | omega | (simp only [lens]; first | done | omega)) only [go_sem, Nat.reduceEqDiff, Nat.reduceBEq, Nat.reduceAdd, Nat.reduceMul, Nat.reduceSub, Nat.reduceLeDiff, Int.reduceToNat, Int.reducePow]; rfl, ?_⟩
    simp (disch := first | omega | (simp only [lens]; first | done | omega)) only [go_sem, Nat.reduceEqDiff, Nat.reduceBEq, Nat.reduceAdd, Nat.reduceMul, Nat.reduceSub, Nat.reduceLeDiff, Int.reduceToNat, Int.reducePow]
    have := OwnN.nil (sz := 1) (τ := σ ++ [some [byteEsC h]]) (news := [])
    rwa [List.append_nil] at this
  · rintro m ρ σ' ⟨i, hm, q1, q4, hO⟩
    by_cases hi : i < 32
    · have hg := byteEsC_get (l := h) (i := i) (by omega)
      have hs : h.take (i + 1) = h.take i ++ [h.getD i 0] := by
        rw [List.take_add_one, List.getD_eq_getElem?_getD, List.getElem?_eq_getElem (by omega)]; rfl
      obtain ⟨v', σ2, he, hO2⟩ := hO.app (ys := byteEs [h.getD i 0]) (by simp [byteEs]) (by simp [byteEs_len]; omega)
      have ho : σ'[σ.length]? = some (some [byteEsC h]) := by
        obtain ⟨news, rfl, _⟩ := hO
        rw [List.append_assoc, List.getElem?_append_right (Nat.le_refl _), Nat.sub_self]; rfl
      have hb : byteEs [h.getD i 0] = [[.int .u8 (h.getD i 0).toNat]] := rfl
      rw [hb] at he
      rw [← hO.appB] at he
      generalize h.getD i 0 = x at *
      generalize hv : ρ 3 = v at *
      repeat' (first | refine SWp.seq ?_ | refine SWp.block ?_ | refine SWp.scope ?_ | refine SWp.condT rfl ?_ | refine SWp.condF rfl ?_ | (refine SWp.condD rfl (fun ht => ?_) (fun ht => ?_) <;> try (exfalso; omega)) | ((first | refine SWp.reg ?_ | refine SWp.skip ?_ | refine SWp.exit ?_ | refine SWp.ret ?_ | ((first | apply splitG | apply splitGB | apply splitR | apply splitRB | apply splitE | apply splitEB | apply splitC | apply splitCB) <;> intro ht)); all_goals try simp (disch := first | omega | (simp only [lens]; first | done | omega)) only [go_sem, Nat.reduceEqDiff, Nat.reduceBEq, Nat.reduceAdd, Nat.reduceMul, Nat.reduceSub, Nat.reduceLeDiff, Int.reduceToNat, Int.reducePow, q1, q4, hv, ho, h1, hg, he]))
      refine ⟨32 - (i + 1), by omega, i + 1, by omega, by simp, ?_⟩
      rw [hs, ← byteEs_app]
      exact hO2
    · obtain rfl : i = 32 := by omega
      rw [List.take_of_length_le (by omega)] at hO
      obtain ⟨r, q3, hg, _⟩ := hO.sl (by intro e; have := byteEs_len h; rw [e] at this; simp at this; omega)
      rw [byteEs_len] at q3
      repeat' (first | refine SWp.seq ?_ | refine SWp.block ?_ | refine SWp.scope ?_ | refine SWp.condT rfl ?_ | refine SWp.condF rfl ?_ | (refine SWp.condD rfl (fun ht => ?_) (fun ht => ?_) <;> try (exfalso; omega)) | ((first | refine SWp.reg ?_ | refine SWp.skip ?_ | refine SWp.exit ?_ | refine SWp.ret ?_ | ((first | apply splitG | apply splitGB | apply splitR | apply splitRB | apply splitE | apply splitEB | apply splitC | apply splitCB) <;> intro ht)); all_goals try simp (disch := first | omega | (simp only [lens]; first | done | omega)) only [go_sem, Nat.reduceEqDiff, Nat.reduceBEq, Nat.reduceAdd, Nat.reduceMul, Nat.reduceSub, Nat.reduceLeDiff, Int.reduceToNat, Int.reducePow, q1, q4, q3, hg]))
      obtain ⟨news, rfl, _⟩ := hO
      rw [List.append_assoc]
      exact DownV.pure hw (rlB_ok _ rfl)
theorem trees_Node_to (σ : Store) (a b : List UInt8) (ha : a.length = 32) (hb : b.length = 32) : ACallsTo TC 81 [.agg (byteEsC a), .agg (byteEsC b)] σ (.agg (byteEsC (nodeS a b))) σ := by
  refine ACallsTo.of_body trees_Node_ok (by simp) fun hw _ => ?_
  have h1 := byteEsC_len a
  have h2 := byteEsC_len b
  have h3 := byteEsC_len (nodeS a b)
  rw [ha] at h1
  rw [hb] at h2
  rw [nodeS_len] at h3
  obtain ⟨n, hn⟩ : ∃ n, n = nodeS a b := ⟨_, rfl⟩
  have hs : ∀ σ, ACallsTo TC 95 [.str (1 :: (a ++ b))] σ (.agg (byteEsC n)) σ := fun σ => by rw [hn]; exact sha_Sum_to σ _ (by simp; omega)
  rw [← hn] at h3 ⊢
  repeat' (first | refine SWp.seq ?_ | refine SWp.block ?_ | refine SWp.scope ?_ | refine SWp.condT rfl ?_ | refine SWp.condF rfl ?_ | (refine SWp.condD rfl (fun ht => ?_) (fun ht => ?_) <;> try (exfalso; omega)) | ((first | refine SWp.regS ?_ | refine SWp.skip ?_ | refine SWp.exit ?_ | refine SWp.ret ?_ | (apply callW.mk_pu; (first | exact (fun _ => codec_Hash_to _ _ ha) | exact (fun _ => codec_Hash_to _ _ hb) | exact (fun _ => hs _))) | (apply callW.any; (first | exact (codec_Hash_to _ _ ha) | exact (codec_Hash_to _ _ hb) | exact (hs _))) | ((first | apply splitG | apply splitGB | apply splitR | apply splitRB | apply splitE | apply splitEB | apply splitC | apply splitCB) <;> intro ht)); all_goals try simp (disch := first | omega | (simp only [lens]; first | done | omega)) only [go_sem, Nat.reduceEqDiff, Nat.reduceBEq, Nat.reduceAdd, Nat.reduceMul, Nat.reduceSub, Nat.reduceLeDiff, Int.reduceToNat, Int.reducePow, h1, h2, h3]))
  exact DownV.pure hw (rl_agg (rl_bytes _))
theorem ref_Node_to (σ : Store) (a b : List UInt8) (ha : a.length = 32) (hb : b.length = 32) : ACallsTo TC 89 [.agg (byteEsC a), .agg (byteEsC b)] σ (.agg (byteEsC (nodeS a b))) σ := by
  refine ACallsTo.of_body speculumref04_Node_ok (by simp) fun hw _ => ?_
  have h1 := byteEsC_len a
  have h2 := byteEsC_len b
  have h3 := byteEsC_len (nodeS a b)
  rw [ha] at h1
  rw [hb] at h2
  rw [nodeS_len] at h3
  obtain ⟨n, hn⟩ : ∃ n, n = nodeS a b := ⟨_, rfl⟩
  have hs : ∀ σ, ACallsTo TC 88 [.str (1 :: (a ++ b))] σ (.agg (byteEsC n)) σ := fun σ => by rw [hn]; exact ref_Sum_to σ _ (by simp; omega)
  rw [← hn] at h3 ⊢
  repeat' (first | refine SWp.seq ?_ | refine SWp.block ?_ | refine SWp.scope ?_ | refine SWp.condT rfl ?_ | refine SWp.condF rfl ?_ | (refine SWp.condD rfl (fun ht => ?_) (fun ht => ?_) <;> try (exfalso; omega)) | ((first | refine SWp.regS ?_ | refine SWp.skip ?_ | refine SWp.exit ?_ | refine SWp.ret ?_ | (apply callW.mk_pu; (first | exact (fun _ => ref_Hash_to _ _ ha) | exact (fun _ => ref_Hash_to _ _ hb) | exact (fun _ => hs _))) | (apply callW.any; (first | exact (ref_Hash_to _ _ ha) | exact (ref_Hash_to _ _ hb) | exact (hs _))) | ((first | apply splitG | apply splitGB | apply splitR | apply splitRB | apply splitE | apply splitEB | apply splitC | apply splitCB) <;> intro ht)); all_goals try simp (disch := first | omega | (simp only [lens]; first | done | omega)) only [go_sem, Nat.reduceEqDiff, Nat.reduceBEq, Nat.reduceAdd, Nat.reduceMul, Nat.reduceSub, Nat.reduceLeDiff, Int.reduceToNat, Int.reducePow, h1, h2, h3]))
  exact DownV.pure hw (rl_agg (rl_bytes _))
end Am
end Go.Proofs.YthgcooppjhcgcaaDoor
end
section
set_option linter.unusedSimpArgs false
set_option linter.unusedVariables false
/- Trees: contracts: Split, Root. -/
set_option linter.unusedSimpArgs false
set_option linter.unusedVariables false
namespace Go.Proofs.YthgcooppjhcgcaaDoor
namespace Am
def splitS (n : Nat) : Nat := if n < 2 then 0 else 2 ^ Nat.log2 (n - 1)
theorem split_spec {n : Nat} (h : 2 ≤ n) : splitS n < n ∧ n ≤ 2 * splitS n ∧ 0 < splitS n := by
  unfold splitS
  rw [if_neg (by omega)]
  have h1 := Nat.log2_self_le (n := n - 1) (by omega)
  have h2 := Nat.lt_log2_self (n := n - 1)
  rw [Nat.pow_succ] at h2
  have h3 : 0 < 2 ^ Nat.log2 (n - 1) := Nat.pow_pos (by decide)
  omega
theorem split_uniq {n j : Nat} (h1 : 2 ^ j < n) (h2 : n ≤ 2 ^ (j + 1)) : splitS n = 2 ^ j := by
  have h3 : 0 < 2 ^ j := Nat.pow_pos (by decide)
  unfold splitS
  rw [if_neg (by omega)]
  have h4 := Nat.log2_self_le (n := n - 1) (by omega)
  have h5 := Nat.lt_log2_self (n := n - 1)
  congr 1
  generalize Nat.log2 (n - 1) = i at *
  have a1 : 2 ^ j < 2 ^ (i + 1) := by omega
  have a2 : 2 ^ i < 2 ^ (j + 1) := by omega
  have b1 := (Nat.pow_lt_pow_iff_right (by decide : 1 < 2)).1 a1
  have b2 := (Nat.pow_lt_pow_iff_right (by decide : 1 < 2)).1 a2
  omega
theorem ref_Split_to (σ : Store) (n : Nat) (h : n < 1000000000000) : ACallsTo TC 137 [.int .i64 n] σ (.int .i64 (splitS n)) σ := by
  refine ACallsTo.of_body speculumref04_Split_ok (by simp) fun hw _ => ?_
  repeat' (first | refine SWp.seq ?_ | refine SWp.block ?_ | refine SWp.scope ?_ | refine SWp.condT rfl ?_ | refine SWp.condF rfl ?_ | (refine SWp.condD rfl (fun ht => ?_) (fun ht => ?_) <;> try (exfalso; omega)) | ((first | refine SWp.reg ?_ | refine SWp.skip ?_ | refine SWp.exit ?_ | refine SWp.ret ?_ | ((first | apply splitG | apply splitGB | apply splitR | apply splitRB | apply splitE | apply splitEB | apply splitC | apply splitCB) <;> intro ht)); all_goals try simp (disch := first | omega | (simp only [lens]; first | done | omega)) only [go_sem, Nat.reduceEqDiff, Nat.reduceBEq, Nat.reduceAdd, Nat.reduceMul, Nat.reduceSub, Nat.reduceLeDiff, Int.reduceToNat, Int.reducePow]))
  refine SWp.loop (fun m ρ σ' => ∃ j k : Nat, m = n - 2 ^ j ∧ ((j = 0 ∧ k = 0) ∨ (k < n ∧ 2 ^ j = k * 2 ∧ ∃ i, k = 2 ^ i)) ∧ ρ 0 = .int .i64 n ∧ ρ 3 = .int .i64 k ∧ ρ 4 = .int .i64 ((2 ^ j : Nat) : Int) ∧ σ' = σ) (n - 1) ?_ ?_
  · exact ⟨0, 0, rfl, .inl ⟨rfl, rfl⟩, by simp (disch := first | omega | (simp only [lens]; first | done | omega)) only [go_sem, Nat.reduceEqDiff, Nat.reduceBEq, Nat.reduceAdd, Nat.reduceMul, Nat.reduceSub, Nat.reduceLeDiff, Int.reduceToNat, Int.reducePow], by simp (disch := first | omega | (simp only [lens]; first | done | omega)) only [go_sem, Nat.reduceEqDiff, Nat.reduceBEq, Nat.reduceAdd, Nat.reduceMul, Nat.reduceSub, Nat.reduceLeDiff, Int.reduceToNat, Int.reducePow]; rfl, by simp (disch := first | omega | (simp only [lens]; first | done | omega)) only [go_sem, Nat.reduceEqDiff, Nat.reduceBEq, Nat.reduceAdd, Nat.reduceMul, Nat.reduceSub, Nat.reduceLeDiff, Int.reduceToNat, Int.reducePow]; rfl, rfl⟩
  · rintro m ρ σ' ⟨j, k, hm, hk, q0, q3, q4, rfl⟩
    have hp : 0 < 2 ^ j := Nat.pow_pos (by decide)
    have hs : 2 ^ (j + 1) = 2 ^ j * 2 := Nat.pow_succ ..
    by_cases hc : 2 ^ j < n
    · generalize hmm : 2 ^ j = mm at *
      repeat' (first | refine SWp.seq ?_ | refine SWp.block ?_ | refine SWp.scope ?_ | refine SWp.condT rfl ?_ | refine SWp.condF rfl ?_ | (refine SWp.condD rfl (fun ht => ?_) (fun ht => ?_) <;> try (exfalso; omega)) | ((first | refine SWp.reg ?_ | refine SWp.skip ?_ | refine SWp.exit ?_ | refine SWp.ret ?_ | ((first | apply splitG | apply splitGB | apply splitR | apply splitRB | apply splitE | apply splitEB | apply splitC | apply splitCB) <;> intro ht)); all_goals try simp (disch := first | omega | (simp only [lens]; first | done | omega)) only [go_sem, Nat.reduceEqDiff, Nat.reduceBEq, Nat.reduceAdd, Nat.reduceMul, Nat.reduceSub, Nat.reduceLeDiff, Int.reduceToNat, Int.reducePow, q0, q3, q4]))
      clear hk
      exact ⟨n - mm * 2, by omega, j + 1, mm, by rw [hs], .inr ⟨hc, hs, j, hmm.symm⟩, rfl, by rw [hs]; rfl⟩
    · have e : splitS n = k := by
        rcases hk with ⟨rfl, rfl⟩ | ⟨h1, h2, i, rfl⟩
        · unfold splitS; rw [if_pos (by simp at hc; omega)]
        · exact split_uniq h1 (by rw [Nat.pow_succ]; omega)
      rw [e]
      clear e hk hs
      generalize hmm : 2 ^ j = mm at *
      repeat' (first | refine SWp.seq ?_ | refine SWp.block ?_ | refine SWp.scope ?_ | refine SWp.condT rfl ?_ | refine SWp.condF rfl ?_ | (refine SWp.condD rfl (fun ht => ?_) (fun ht => ?_) <;> try (exfalso; omega)) | ((first | refine SWp.reg ?_ | refine SWp.skip ?_ | refine SWp.exit ?_ | refine SWp.ret ?_ | ((first | apply splitG | apply splitGB | apply splitR | apply splitRB | apply splitE | apply splitEB | apply splitC | apply splitCB) <;> intro ht)); all_goals try simp (disch := first | omega | (simp only [lens]; first | done | omega)) only [go_sem, Nat.reduceEqDiff, Nat.reduceBEq, Nat.reduceAdd, Nat.reduceMul, Nat.reduceSub, Nat.reduceLeDiff, Int.reduceToNat, Int.reducePow, q0, q3, q4]))
      exact DownV.same hw (rlB_ok _ rfl)
def rootF : Nat → List (List UInt8) → List UInt8
  | 0, _ => []
  | _ + 1, [] => shaS []
  | _ + 1, [h] => h
  | f + 1, a :: b :: l => nodeS (rootF f ((a :: b :: l).take (splitS (l.length + 2)))) (rootF f ((a :: b :: l).drop (splitS (l.length + 2))))
/-- The root of leaves. -/
def rootS (l : List (List UInt8)) : List UInt8 := rootF (l.length + 1) l
def H32 (l : List (List UInt8)) : Prop := ∀ h ∈ l, h.length = 32
theorem H32.take {l : List (List UInt8)} (h : H32 l) (n : Nat) : H32 (l.take n) := fun x hx => h x (List.mem_of_mem_take hx)
theorem H32.drop {l : List (List UInt8)} (h : H32 l) (n : Nat) : H32 (l.drop n) := fun x hx => h x (List.mem_of_mem_drop hx)
end Am
end Go.Proofs.YthgcooppjhcgcaaDoor
end
section
set_option linter.unusedSimpArgs false
set_option linter.unusedVariables false
/- Trees: contracts: Root. -/
set_option linter.unusedSimpArgs false
set_option linter.unusedVariables false
namespace Go.Proofs.YthgcooppjhcgcaaDoor
namespace Am
/-- Hashes as_ rows. -/
def hrows (l : List (List UInt8)) : List (List AV) := l.map byteEsC
theorem rlss_h {k : Nat} : ∀ (l : List (List UInt8)), RLss k (hrows l)
  | [] => by simp [hrows, RLss]
  | h :: l => by have := rlss_h (k := k) l; simp only [hrows] at this; simp [hrows, RLss, this, rl_bytes]
end Am
end Go.Proofs.YthgcooppjhcgcaaDoor
end
section
set_option linter.unusedSimpArgs false
set_option linter.unusedVariables false
/- Slices that are read: values, or own rows lent; Same; Some. -/
set_option linter.unusedSimpArgs false
set_option linter.unusedVariables false
namespace Go.Proofs.YthgcooppjhcgcaaDoor
namespace Am
/-- A slice that is read: a value, or an own row. -/
def RdSl (σ : Store) (sz : Nat) (es : List (List AV)) (x : AV) : Prop :=
  SlV sz es x ∨ ∃ r off lim o, x = .sl r off es.length lim sz ∧ σ[r]? = some (some o) ∧ off + es.length ≤ o.length ∧ (o.drop off).take es.length = es
theorem RdSl.of {σ : Store} {sz : Nat} {es : List (List AV)} {x : AV} (h : SlV sz es x) : RdSl σ sz es x := .inl h
theorem OwnN.rd {sz : Nat} {τ σ' : Store} {v : AV} {es : List (List AV)} (h : OwnN sz τ σ' v es) : RdSl σ' sz es v := by
  by_cases h0 : es = []
  · obtain ⟨news, rfl, ⟨rfl, rfl⟩ | ⟨j, h1, _⟩⟩ := h
    · exact .inl (.inl ⟨rfl, rfl⟩)
    · exact absurd h0 h1
  · obtain ⟨r, rfl, hg, _⟩ := h.sl h0
    exact .inr ⟨r, 0, none, es, rfl, hg, by omega, by rw [List.drop_zero, List.take_of_length_le (Nat.le_refl _)]⟩
theorem RdSl.app {σ y : Store} {sz : Nat} {es : List (List AV)} {x : AV} (h : RdSl σ sz es x) : RdSl (σ ++ y) sz es x := by
  rcases h with h | ⟨r, off, lim, o, rfl, hg, h1, h2⟩
  · exact .inl h
  · exact .inr ⟨r, off, lim, o, rfl, by rw [gapp (List.getElem?_eq_some_iff.1 hg).1]; exact hg, h1, h2⟩
theorem RdSl.len {σ : Store} {sz : Nat} {es : List (List AV)} {x : AV} (h : RdSl σ sz es x) : rLenSl x = some (.int .i64 es.length) := by
  rcases h with h | ⟨r, off, lim, o, rfl, _⟩
  · exact h.len
  · rfl
theorem RdSl.lend {σ : Store} {sz : Nat} {es : List (List AV)} {x : AV} (h : RdSl σ sz es x) (hr : RLss 0 es) : ∃ x0, SlV sz es x0 ∧ DR (lendD σ) x0 x := by
  rcases h with h | ⟨r, off, lim, o, rfl, hg, h1, h2⟩
  · refine ⟨x, h, DR.refl (k := 0) (by omega) x ?_⟩
    rcases h with ⟨rfl, _⟩ | ⟨ex, rfl⟩
    · simp [RL]
    · simpa only [RL] using hr
  · refine ⟨.vsl sz es false, .inr ⟨false, rfl⟩, ?_⟩
    simp only [DR, lendD]
    exact .inr ⟨r, off, lim, o, rfl, trivial, hg, h1, by simp, by rw [h2]; exact DRss.refl (k := 0) (by omega) es hr⟩
theorem rl0 {a : AV} (h : RL 0 a) (σ : Store) : DR (lendD σ) a a := DR.refl (k := 0) (by omega) a h
theorem drs1 {D : DC} {a b : AV} (h : DR D a b) : DRs D [a] [b] := by simp only [DRs]; exact ⟨b, [], rfl, h, rfl⟩
theorem drsc {D : DC} {a b : AV} {l m : List AV} (h : DR D a b) (h2 : DRs D l m) : DRs D (a :: l) (b :: m) := by simp only [DRs]; exact ⟨b, m, rfl, h, h2⟩
theorem shs_bytes (k : Nat) : ∀ (l : List UInt8), shs k (byteEsC l) = byteEsC l
  | [] => rfl
  | b :: l => by have := shs_bytes k l; simp only [byteEsC] at this; simp [byteEsC, shs, sh, this]
theorem shS_nil (k : Nat) : shS k [] = [] := rfl
theorem eq_hash : ∀ (a b : List UInt8), eqCells (byteEsC a) (byteEsC b) = decide (a = b)
  | [], [] => rfl
  | [], _ :: _ => rfl
  | _ :: _, [] => rfl
  | a :: l, b :: m => by
    have ih := eq_hash l m
    simp only [byteEsC, List.map_cons, eqCells, eqCell] at ih ⊢
    rw [ih, Bool.eq_iff_iff]
    simp [← UInt8.toNat_inj]
    intro _
    omega
theorem kind_hash : ∀ (l : List UInt8), (byteEsC l).map kindOf = List.replicate l.length (some (LK.i .u8))
  | [] => rfl
  | _ :: l => by have := kind_hash l; simp only [byteEsC] at this; simp [byteEsC, kindOf, this, List.replicate_succ]
theorem kinds32 {l : List UInt8} (h : l.length = 32) : (byteEsC l).map kindOf = (List.replicate 32 (LK.i .u8)).map some := by rw [kind_hash, h]; rfl
end Am
end Go.Proofs.YthgcooppjhcgcaaDoor
end
section
set_option linter.unusedSimpArgs false
set_option linter.unusedVariables false
/- Abstract code. (Printed by wip/gen.) -/
set_option maxRecDepth 10000
namespace Go.Proofs.YthgcooppjhcgcaaDoor
namespace Am



@[go_sem] def proofs_Check_r39 : List AIns := [
  ⟨some 95, none, .no, .mv (.t 12)⟩,
  ⟨some 96, none, .no, .bin .gtr .none (.t 95) (.v (.int .i64 (0)))⟩]
def proofs_Check_c40 : ACode := .cond (.t 96) .skip (.exit 3)
def proofs_Check_c41 : ACode := .seq (.reg proofs_Check_r39) proofs_Check_c40
@[go_sem] def proofs_Check_r42 : List AIns := [
  ⟨some 98, none, .no, .mv (.t 13)⟩,
  ⟨some 99, none, .no, .call (.t 98) []⟩,
  ⟨some 97, none, .no, .mv (.t 99)⟩,
  ⟨some 100, none, .no, .ext 0 (.t 97)⟩,
  ⟨some 101, none, .no, .ext 1 (.t 97)⟩,
  ⟨some 18, none, .no, .alloc [(.int .u8 (0)), (.int .u8 (0)), (.int .u8 (0)), (.int .u8 (0)), (.int .u8 (0)), (.int .u8 (0)), (.int .u8 (0)), (.int .u8 (0)), (.int .u8 (0)), (.int .u8 (0)), (.int .u8 (0)), (.int .u8 (0)), (.int .u8 (0)), (.int .u8 (0)), (.int .u8 (0)), (.int .u8 (0)), (.int .u8 (0)), (.int .u8 (0)), (.int .u8 (0)), (.int .u8 (0)), (.int .u8 (0)), (.int .u8 (0)), (.int .u8 (0)), (.int .u8 (0)), (.int .u8 (0)), (.int .u8 (0)), (.int .u8 (0)), (.int .u8 (0)), (.int .u8 (0)), (.int .u8 (0)), (.int .u8 (0)), (.int .u8 (0))]⟩,
  ⟨none, none, .no, .store 32 (.t 18) (.t 100)⟩,
  ⟨some 19, none, .no, .mv (.t 101)⟩]
@[go_sem] def proofs_Check_r43 : List AIns := [
  ⟨some 106, none, .no, .mv (.t 19)⟩,
  ⟨some 107, none, .no, .un .not (.t 106)⟩,
  ⟨some 105, none, .no, .mv (.t 107)⟩]
@[go_sem] def proofs_Check_r44 : List AIns := [
  ⟨some 10, none, .no, .mv (.v (.int .i64 (80)))⟩]
def proofs_Check_c45 : ACode := .seq (.reg proofs_Check_r44) .ret
@[go_sem] def proofs_Check_r46 : List AIns := [
  ⟨some 109, none, .no, .mv (.t 11)⟩,
  ⟨some 110, none, .no, .bin .rem .none (.t 109) (.v (.int .i64 (2)))⟩,
  ⟨some 111, none, .no, .bin .eql .none (.t 110) (.v (.int .i64 (1)))⟩,
  ⟨some 112, none, .no, .mv (.t 111)⟩,
  ⟨some 113, some (112, false), .no, .mv (.t 11)⟩,
  ⟨some 114, some (112, false), .no, .mv (.t 12)⟩,
  ⟨some 115, some (112, false), .no, .bin .eql .none (.t 113) (.t 114)⟩,
  ⟨some 116, none, .no, .pick (.t 112) (.v (.bool true)) (.t 115)⟩,
  ⟨some 108, none, .no, .mv (.t 116)⟩]
@[go_sem] def proofs_Check_r47 : List AIns := [
  ⟨some 117, none, .rd, .load true 32 (.t 18)⟩,
  ⟨some 118, none, .rd, .load true 32 (.t 14)⟩,
  ⟨some 119, none, .ef, .call (.v (.fn 81 [])) [(.t 117), (.t 118)]⟩,
  ⟨some 120, none, .rd, .load true 32 (.t 18)⟩,
  ⟨some 121, none, .rd, .load true 32 (.t 15)⟩,
  ⟨some 122, none, .no, .call (.v (.fn 81 [])) [(.t 120), (.t 121)]⟩,
  ⟨none, none, .no, .store 32 (.t 14) (.t 119)⟩,
  ⟨none, none, .no, .store 32 (.t 15) (.t 122)⟩]
@[go_sem] def proofs_Check_r48 : List AIns := [
  ⟨some 123, none, .no, .mv (.t 11)⟩,
  ⟨some 124, none, .no, .bin .rem .none (.t 123) (.v (.int .i64 (2)))⟩,
  ⟨some 125, none, .no, .bin .eql .none (.t 124) (.v (.int .i64 (0)))⟩,
  ⟨some 126, none, .no, .mv (.t 125)⟩,
  ⟨some 127, some (126, true), .no, .mv (.t 11)⟩,
  ⟨some 128, some (126, true), .no, .bin .gtr .none (.t 127) (.v (.int .i64 (0)))⟩,
  ⟨some 129, none, .no, .pick (.t 126) (.t 128) (.v (.bool false))⟩]
def proofs_Check_c49 : ACode := .cond (.t 129) .skip (.exit 6)
def proofs_Check_c50 : ACode := .seq (.reg proofs_Check_r48) proofs_Check_c49
@[go_sem] def proofs_Check_r51 : List AIns := [
  ⟨some 130, none, .no, .mv (.t 11)⟩,
  ⟨some 131, none, .no, .bin .quo .none (.t 130) (.v (.int .i64 (2)))⟩,
  ⟨some 132, none, .no, .mv (.t 12)⟩,
  ⟨some 133, none, .no, .bin .quo .none (.t 132) (.v (.int .i64 (2)))⟩,
  ⟨some 11, none, .no, .mv (.t 131)⟩,
  ⟨some 12, none, .no, .mv (.t 133)⟩]
def proofs_Check_c52 : ACode := .block 7 (.reg proofs_Check_r51)
def proofs_Check_c53 : ACode := .seq proofs_Check_c50 proofs_Check_c52
def proofs_Check_c54 : ACode := .loop proofs_Check_c53
def proofs_Check_c55 : ACode := .block 6 proofs_Check_c54
def proofs_Check_c56 : ACode := .seq (.reg proofs_Check_r47) proofs_Check_c55
@[go_sem] def proofs_Check_r57 : List AIns := [
  ⟨some 102, none, .no, .load true 32 (.t 15)⟩,
  ⟨some 103, none, .no, .load true 32 (.t 18)⟩,
  ⟨some 104, none, .no, .call (.v (.fn 81 [])) [(.t 102), (.t 103)]⟩,
  ⟨none, none, .no, .store 32 (.t 15) (.t 104)⟩]
def proofs_Check_c58 : ACode := .cond (.t 108) proofs_Check_c56 (.reg proofs_Check_r57)
def proofs_Check_c59 : ACode := .seq (.reg proofs_Check_r46) proofs_Check_c58
def proofs_Check_c60 : ACode := .cond (.t 105) proofs_Check_c45 proofs_Check_c59
def proofs_Check_c61 : ACode := .seq (.reg proofs_Check_r43) proofs_Check_c60
def proofs_Check_c62 : ACode := .block 5 proofs_Check_c61
def proofs_Check_c63 : ACode := .seq (.reg proofs_Check_r42) proofs_Check_c62
@[go_sem] def proofs_Check_r64 : List AIns := [
  ⟨some 134, none, .no, .mv (.t 11)⟩,
  ⟨some 135, none, .no, .bin .quo .none (.t 134) (.v (.int .i64 (2)))⟩,
  ⟨some 136, none, .no, .mv (.t 12)⟩,
  ⟨some 137, none, .no, .bin .quo .none (.t 136) (.v (.int .i64 (2)))⟩,
  ⟨some 11, none, .no, .mv (.t 135)⟩,
  ⟨some 12, none, .no, .mv (.t 137)⟩]
def proofs_Check_c65 : ACode := .seq proofs_Check_c63 (.reg proofs_Check_r64)
def proofs_Check_c66 : ACode := .block 4 proofs_Check_c65
def proofs_Check_c67 : ACode := .seq proofs_Check_c41 proofs_Check_c66
def proofs_Check_c68 : ACode := .loop proofs_Check_c67
@[go_sem] def proofs_Check_r69 : List AIns := [
  ⟨some 138, none, .no, .load false 1 (.t 9)⟩,
  ⟨some 139, none, .no, .lenSl (.t 138)⟩,
  ⟨some 140, none, .no, .bin .eql .none (.t 139) (.v (.int .i64 (0)))⟩,
  ⟨some 141, none, .no, .mv (.t 140)⟩,
  ⟨some 142, some (141, true), .no, .load true 32 (.t 14)⟩,
  ⟨some 143, some (141, true), .no, .load true 32 (.t 7)⟩,
  ⟨some 144, some (141, true), .no, .bin .eql (.agg (List.replicate 32 (.i .u8) ++ [])) (.t 142) (.t 143)⟩,
  ⟨some 145, none, .no, .pick (.t 141) (.t 144) (.v (.bool false))⟩,
  ⟨some 146, none, .no, .mv (.t 145)⟩,
  ⟨some 147, some (146, true), .no, .load true 32 (.t 15)⟩,
  ⟨some 148, some (146, true), .no, .load true 32 (.t 8)⟩,
  ⟨some 149, some (146, true), .no, .bin .eql (.agg (List.replicate 32 (.i .u8) ++ [])) (.t 147) (.t 148)⟩,
  ⟨some 150, none, .no, .pick (.t 146) (.t 149) (.v (.bool false))⟩,
  ⟨some 151, none, .no, .call (.v (.fn 163 [])) [(.t 150)]⟩,
  ⟨some 10, none, .no, .mv (.t 151)⟩]
def proofs_Check_c70 : ACode := .seq (.reg proofs_Check_r69) .ret
def proofs_Check_c71 : ACode := .seq (.block 3 proofs_Check_c68) proofs_Check_c70
end Am
end Go.Proofs.YthgcooppjhcgcaaDoor
end
section
set_option linter.unusedSimpArgs false
set_option linter.unusedVariables false
/- Proofs: contracts: Proof of the program. -/
set_option linter.unusedSimpArgs false
set_option linter.unusedVariables false
namespace Go.Proofs.YthgcooppjhcgcaaDoor
namespace Am
/-- A sub-proof. -/
def subF : Nat → List (List UInt8) → Nat → Bool → List (List UInt8)
  | 0, _, _, _ => []
  | f + 1, l, m, known =>
    if m = l.length then (if known then [] else [rootS l])
    else if m ≤ splitS l.length then subF f (l.take (splitS l.length)) m known ++ [rootS (l.drop (splitS l.length))]
    else subF f (l.drop (splitS l.length)) (m - splitS l.length) false ++ [rootS (l.take (splitS l.length))]
def subS (l : List (List UInt8)) (m : Nat) (known : Bool) : List (List UInt8) := subF (l.length + 1) l m known
/-- What Proof has in memory: its own proof, itself, and rows of its own. -/
structure PrS (σ0 σ' : Store) (v : AV) (es : List (List AV)) : Prop where
  out : σ'[σ0.length]? = some (some [[v]])
  fn : σ'[σ0.length + 1]? = some (some [[.fn 162 [.ptr σ0.length 0 0, .ptr (σ0.length + 1) 0 0]]])
  keep : ∀ q, q < σ0.length → σ'[q]? = σ0[q]?
  sl : (es = [] ∧ v = .nilsl) ∨ ∃ r, σ0.length + 2 ≤ r ∧ es ≠ [] ∧ v = .sl r 0 es.length none 32 ∧ σ'[r]? = some (some es)
theorem PrS.lt {σ0 σ' : Store} {v : AV} {es : List (List AV)} (h : PrS σ0 σ' v es) : σ0.length + 2 ≤ σ'.length := by
  have := (List.getElem?_eq_some_iff.1 h.fn).1; omega
/-- One more. -/
theorem PrS.add {σ0 σ' : Store} {v : AV} {es : List (List AV)} (h : PrS σ0 σ' v es) (row : List AV) (hl : es.length + 1 ≤ 1073741824) :
    ∃ r σ2, aApp σ' 32 v [row] = some (.sl r 0 (es.length + 1) none 32, σ2) ∧ σ2[σ0.length]? = some (some [[v]]) ∧ PrS σ0 (σ2.set σ0.length (some [[.sl r 0 (es.length + 1) none 32]])) (.sl r 0 (es.length + 1) none 32) (es ++ [row]) := by
  have hlt := h.lt
  obtain ⟨h1, h2, h3, ⟨rfl, rfl⟩ | ⟨r, hr, h0, rfl, hg⟩⟩ := h
  · refine ⟨σ'.length, σ' ++ [some [row]], rfl, by rw [gapp (by omega)]; exact h1, ⟨?_, ?_, ?_, .inr ⟨σ'.length, by omega, by simp, by simp, ?_⟩⟩⟩
    · rw [gset_eq (by simp; omega)]
    · rw [gset_ne (by omega), gapp (by omega)]; exact h2
    · intro q hq; rw [gset_ne (by omega), gapp (by omega)]; exact h3 q hq
    · rw [gset_ne (by omega), gappr (Nat.le_refl _), Nat.sub_self]; rfl
  · have hrl := (List.getElem?_eq_some_iff.1 hg).1
    refine ⟨σ'.length, σ'.set r none ++ [some (es ++ [row])], ?_, ?_, ⟨?_, ?_, ?_, .inr ⟨σ'.length, by omega, by simp, by simp, ?_⟩⟩⟩
    · rw [app_s, if_neg (by simp), hg]
      simp only [List.length_cons, List.length_nil]
      rw [if_pos ⟨trivial, by omega, by omega⟩, if_neg (by omega), List.drop_zero, List.take_of_length_le (Nat.le_refl _)]
    · rw [gapp (by simp; omega), gset_ne (by omega)]; exact h1
    · rw [gset_eq (by simp; omega)]
    · rw [gset_ne (by omega), gapp (by simp; omega), gset_ne (by omega)]; exact h2
    · intro q hq; rw [gset_ne (by omega), gapp (by simp; omega), gset_ne (by omega)]; exact h3 q hq
    · rw [gset_ne (by omega), gappr (by simp), List.length_set, Nat.sub_self]; rfl
theorem PrS.ex (σ0 : Store) (es : List (List AV)) : ∃ v σ', PrS σ0 σ' v es := by
  by_cases h : es = []
  · exact ⟨.nilsl, σ0 ++ [some [[.nilsl]], some [[.fn 162 [.ptr σ0.length 0 0, .ptr (σ0.length + 1) 0 0]]]], by simp, by simp, fun q hq => gapp hq, .inl ⟨h, rfl⟩⟩
  · exact ⟨.sl (σ0.length + 2) 0 es.length none 32, σ0 ++ [some [[.sl (σ0.length + 2) 0 es.length none 32]], some [[.fn 162 [.ptr σ0.length 0 0, .ptr (σ0.length + 1) 0 0]]], some es], by simp, by simp, fun q hq => gapp hq, .inr ⟨_, Nat.le_refl _, h, rfl, by simp⟩⟩
theorem ext_of {σ σ' : Store} (h : σ.length ≤ σ'.length) (h2 : ∀ q, q < σ.length → σ'[q]? = σ[q]?) : ∃ y, σ' = σ ++ y := by
  refine ⟨σ'.drop σ.length, ?_⟩
  have e : σ'.take σ.length = σ := by
    refine List.ext_getElem? fun i => ?_
    by_cases hi : i < σ.length
    · rw [List.getElem?_take_of_lt hi]; exact h2 i hi
    · rw [List.getElem?_eq_none (by simp; omega), List.getElem?_eq_none (by omega)]
  calc σ' = σ'.take σ.length ++ σ'.drop σ.length := (List.take_append_drop _ _).symm
    _ = σ ++ σ'.drop σ.length := by rw [e]
theorem PrS.own {σ0 σ' : Store} {v : AV} {es : List (List AV)} (h : PrS σ0 σ' v es) : OwnN 32 σ0 σ' v es := by
  have hlt := h.lt
  obtain ⟨y, rfl⟩ := ext_of (by omega) h.keep
  obtain ⟨h1, h2, h3, h4 | ⟨r, hr, h0, rfl, hg⟩⟩ := h
  · exact ⟨y, rfl, .inl h4⟩
  · refine ⟨y, rfl, .inr ⟨r - σ0.length, h0, by rw [show σ0.length + (r - σ0.length) = r by omega], ?_⟩⟩
    rw [List.getElem?_append_right (by omega)] at hg; exact hg
/-- What Proof answers. -/
def proofL (hs : List (List UInt8)) (m : Int) : List (List UInt8) := if 0 < m ∧ m < hs.length then subS hs m.toNat true else []
def proofE (hs : List (List UInt8)) (m : Int) : Int := if m < 0 ∨ (hs.length : Int) < m then 2 else 0
def ProofP (σ : Store) (hs : List (List UInt8)) (m : Int) (v : AV) (σ' : Store) : Prop := ∃ v2, v = .tup [v2, .int .i64 (proofE hs m)] ∧ OwnN 32 σ σ' v2 (hrows (proofL hs m))
theorem ProofP.ex (σ : Store) (hs : List (List UInt8)) (m : Int) : ∃ v σ', ProofP σ hs m v σ' := ⟨_, _, _, rfl, own_is σ 32 _⟩
theorem ProofP.none {σ : Store} {hs : List (List UInt8)} {m : Int} (h : proofL hs m = []) : ProofP σ hs m (.tup [.nilsl, .int .i64 (proofE hs m)]) σ := ⟨.nilsl, rfl, by rw [h]; exact ⟨[], by simp, .inl ⟨rfl, rfl⟩⟩⟩
end Am
end Go.Proofs.YthgcooppjhcgcaaDoor
end
section
set_option linter.unusedSimpArgs false
set_option linter.unusedVariables false
/- Proofs: contracts: Proof of the reference. -/
set_option linter.unusedSimpArgs false
set_option linter.unusedVariables false
namespace Go.Proofs.YthgcooppjhcgcaaDoor
namespace Am
/-- Own elements, or a literal that can be gone on with. -/
def OwnA (sz : Nat) (τ σ' : Store) (v : AV) (es : List (List AV)) : Prop := OwnN sz τ σ' v es ∨ (v = .vsl sz es true ∧ es ≠ [] ∧ ∃ news, σ' = τ ++ news)
theorem OwnA.app {sz : Nat} {τ σ' : Store} {v : AV} {es ys : List (List AV)} (h : OwnA sz τ σ' v es) (h0 : ys.length ≠ 0) (hl : es.length + ys.length ≤ 1073741824) :
    ∃ v' σ'', aApp σ' sz v ys = some (v', σ'') ∧ OwnN sz τ σ'' v' (es ++ ys) := by
  rcases h with h | ⟨rfl, h1, news, rfl⟩
  · exact h.app h0 hl
  · refine ⟨.sl (τ ++ news).length 0 (es.length + ys.length) none sz, (τ ++ news) ++ [some (es ++ ys)], by rw [app_v, if_neg h0, if_pos ⟨rfl, rfl, hl⟩], news ++ [some (es ++ ys)], by rw [List.append_assoc], .inr ⟨news.length, by simp [h1], by simp, by rw [List.getElem?_append_right (Nat.le_refl _)]; simp⟩⟩
theorem OwnA.rd {sz : Nat} {τ σ' : Store} {v : AV} {es : List (List AV)} (h : OwnA sz τ σ' v es) : RdSl σ' sz es v := by
  rcases h with h | ⟨rfl, _⟩
  · exact h.rd
  · exact .inl (.inr ⟨true, rfl⟩)
theorem OwnA.more {sz : Nat} {τ σ' : Store} {v : AV} {es : List (List AV)} (h : OwnA sz τ σ' v es) (y : Store) : OwnA sz τ (σ' ++ y) v es := by
  rcases h with h | ⟨rfl, h1, news, rfl⟩
  · exact .inl (h.more y)
  · exact .inr ⟨rfl, h1, news ++ y, by rw [List.append_assoc]⟩
theorem OwnA.ext {sz : Nat} {τ σ' : Store} {v : AV} {es : List (List AV)} (h : OwnA sz τ σ' v es) : ∃ news, σ' = τ ++ news := by
  rcases h with h | ⟨_, _, h⟩
  · exact h.ext
  · exact h
theorem OwnA.down {sz : Nat} {σ σ' : Store} {v : AV} {es : List (List AV)} (hw : Wf σ.length σ) (h : OwnA sz σ σ' v es) (hr : RLss σ.length es) : ∃ v2 σ2, OwnA sz σ σ2 v2 es ∧ DownV σ.length v σ' v2 σ2 := by
  rcases h with h | ⟨rfl, h1, news, rfl⟩
  · exact ⟨_, _, .inl (own_is σ sz es), h.own hw hr⟩
  · exact ⟨_, σ, .inr ⟨rfl, h1, [], by simp⟩, DownV.pure hw (by simpa only [RL] using hr)⟩
end Am
end Go.Proofs.YthgcooppjhcgcaaDoor
end
section
set_option linter.unusedSimpArgs false
set_option linter.unusedVariables false
/- Proofs: what a proof says, by plain loops; the reference's Proof; a proof's next hash. -/
set_option linter.unusedSimpArgs false
set_option linter.unusedVariables false
namespace Go.Proofs.YthgcooppjhcgcaaDoor
namespace Am
def RefP (σ : Store) (hs : List (List UInt8)) (m : Int) (v : AV) (σ' : Store) : Prop := ∃ v2, v = .tup [v2, .int .i64 (proofE hs m)] ∧ OwnA 32 σ σ' v2 (hrows (proofL hs m))
/-- Up to where the older tree's last full one hangs. -/
def st (i last : Nat) : Nat × Nat := if h : i % 2 = 1 then st (i / 2) (last / 2) else (i, last)
termination_by i
decreasing_by omega
/-- Two roots, of the hashes. -/
def run : List Bool → List (List UInt8) → List UInt8 → List UInt8 → Option (List UInt8 × List UInt8)
  | [], [], a, b => some (a, b)
  | true :: p, h :: ps, a, b => run p ps (nodeS h a) (nodeS h b)
  | false :: p, h :: ps, a, b => run p ps a (nodeS b h)
  | _, _, _, _ => none
end Am
end Go.Proofs.YthgcooppjhcgcaaDoor
end
section
set_option linter.unusedSimpArgs false
set_option linter.unusedVariables false
/- Proofs: contract: Check of the program. -/
set_option linter.unusedSimpArgs false
set_option linter.unusedVariables false
namespace Go.Proofs.YthgcooppjhcgcaaDoor
namespace Am
/-- What Check has in memory. -/
structure ChkM (ia ib : Nat) (σ σ' : Store) (o nw : List UInt8) (pv : AV) (ps : List (List UInt8)) (a b : List UInt8) : Prop where
  hab : (ia = 3 ∧ ib = 4) ∨ (ia = 4 ∧ ib = 3)
  len : σ.length + 5 ≤ σ'.length
  keep : ∀ q, q < σ.length → σ'[q]? = σ[q]?
  g0 : σ'[σ.length]? = some (some [byteEsC o])
  g1 : σ'[σ.length + 1]? = some (some [byteEsC nw])
  g2 : σ'[σ.length + 2]? = some (some [[pv]])
  g3 : σ'[σ.length + ia]? = some (some [byteEsC a])
  g4 : σ'[σ.length + ib]? = some (some [byteEsC b])
  hp : SlV 32 (hrows ps) pv
  ha : a.length = 32
  hb : b.length = 32
theorem ChkM.app {ia ib : Nat} {σ σ' y : Store} {o nw : List UInt8} {pv : AV} {ps : List (List UInt8)} {a b : List UInt8} (h : ChkM ia ib σ σ' o nw pv ps a b) : ChkM ia ib σ (σ' ++ y) o nw pv ps a b := by
  have hl := h.len
  have hab := h.hab
  refine ⟨hab, by rw [List.length_append]; omega, fun q hq => ?_, ?_, ?_, ?_, ?_, ?_, h.hp, h.ha, h.hb⟩
  · rw [gapp (by omega)]; exact h.keep q hq
  · rw [gapp (by omega)]; exact h.g0
  · rw [gapp (by omega)]; exact h.g1
  · rw [gapp (by omega)]; exact h.g2
  · rw [gapp (by omega)]; exact h.g3
  · rw [gapp (by omega)]; exact h.g4
theorem ChkM.fin {ia ib : Nat} {σ σ' : Store} {o nw : List UInt8} {pv : AV} {ps : List (List UInt8)} {a b : List UInt8} (h : ChkM ia ib σ σ' o nw pv ps a b) (hw : Wf σ.length σ) {i : Int} : DownV σ.length (.int .i64 i) σ' (.int .i64 i) σ := by
  have hl := h.len
  have hab := h.hab
  obtain ⟨y, rfl⟩ := ext_of (by omega) h.keep
  exact DownV.pure hw (rlB_ok _ rfl)
theorem SlV.cells {sz : Nat} {es : List (List AV)} {x : AV} (h : SlV sz es x) : cellsOf x = some [x] := by
  rcases h with ⟨rfl, rfl⟩ | ⟨ex, rfl⟩ <;> rfl
end Am
end Go.Proofs.YthgcooppjhcgcaaDoor
end
section
set_option linter.unusedSimpArgs false
set_option linter.unusedVariables false
/- Proofs: contract: Check of the program, the loop. -/
set_option linter.unusedSimpArgs false
set_option linter.unusedVariables false
namespace Go.Proofs.YthgcooppjhcgcaaDoor
namespace Am
end Am
end Go.Proofs.YthgcooppjhcgcaaDoor
end
section
set_option linter.unusedSimpArgs false
set_option linter.unusedVariables false
/- Proofs: contract: Check of the program. -/
set_option linter.unusedSimpArgs false
set_option linter.unusedVariables false
namespace Go.Proofs.YthgcooppjhcgcaaDoor
namespace Am
attribute [local irreducible] proofs_Check_c71
end Am
end Go.Proofs.YthgcooppjhcgcaaDoor
end
section
set_option linter.unusedSimpArgs false
set_option linter.unusedVariables false
/- Proofs: contract: the law's own example. -/
set_option linter.unusedSimpArgs false
set_option linter.unusedVariables false
namespace Go.Proofs.YthgcooppjhcgcaaDoor
namespace Am
theorem ProofP.is {σ σ' : Store} {hs : List (List UInt8)} {m : Int} {v : AV} (h : ProofP σ hs m v σ') : ∃ v2, v = .tup [v2, .int .i64 (proofE hs m)] ∧ OwnN 32 σ σ' v2 (hrows (proofL hs m)) := h
end Am
end Go.Proofs.YthgcooppjhcgcaaDoor
end
section
set_option linter.unusedSimpArgs false
set_option linter.unusedVariables false
/- Proofs: the law ProofsProof: its contract. -/
set_option linter.unusedSimpArgs false
set_option linter.unusedVariables false
namespace Go.Proofs.YthgcooppjhcgcaaDoor
namespace Am
def hashTy : Ty := .row (List.replicate 32 (.int .u8))
theorem bytes_of : ∀ (n : Nat) (cs : List AV), ShRow (List.replicate n (.int .u8)) cs → ∃ h : List UInt8, cs = byteEsC h ∧ h.length = n
  | 0, cs, h => ⟨[], by simpa only [List.replicate_zero, ShRow, byteEsC, List.map_nil] using h, rfl⟩
  | n + 1, cs, h => by
    simp only [List.replicate_succ, ShRow, ShC] at h
    obtain ⟨_, b, rfl, ⟨x, rfl, h1, h2⟩, h3⟩ := h
    obtain ⟨l, rfl, hl⟩ := bytes_of n b h3
    simp only [IntKind.min, IntKind.max, IntKind.signed, IntKind.bits] at h1 h2
    simp at h1 h2
    refine ⟨UInt8.ofNat x.toNat :: l, ?_, by simp [hl]⟩
    have : ((UInt8.ofNat x.toNat).toNat : Int) = x := by rw [UInt8.toNat_ofNat']; omega
    simp only [byteEsC, List.map_cons, List.singleton_append, this]
theorem hash_of {cs : List AV} (h : ShC hashTy cs) : ∃ l : List UInt8, cs = byteEsC l ∧ l.length = 32 := bytes_of 32 cs (by simpa only [hashTy, ShC] using h)
theorem hashes_of : ∀ (es : List (List AV)), (∀ x ∈ es, ShC hashTy x) → ∃ hs, es = hrows hs ∧ H32 hs
  | [], _ => ⟨[], rfl, fun _ h => by simp at h⟩
  | e :: es, h => by
    obtain ⟨l, rfl, hl⟩ := hash_of (h e (by simp))
    obtain ⟨hs, rfl, hH⟩ := hashes_of es (fun x hx => h x (by simp [hx]))
    refine ⟨l :: hs, rfl, fun x hx => ?_⟩
    rcases List.mem_cons.1 hx with rfl | hx
    · exact hl
    · exact hH x hx
theorem RefP.ex (σ : Store) (hs : List (List UInt8)) (m : Int) : ∃ v σ', RefP σ hs m v σ' := ⟨_, _, _, rfl, .inl (own_is σ 32 _)⟩
end Am
end Go.Proofs.YthgcooppjhcgcaaDoor
end
section
set_option linter.unusedSimpArgs false
set_option linter.unusedVariables false
/- Hashes as_ one thing each: 32 bytes, hidden behind a name. -/
set_option linter.unusedSimpArgs false
set_option linter.unusedVariables false
namespace Go.Proofs.YthgcooppjhcgcaaDoor
namespace Am
abbrev Hash := {l : List UInt8 // l.length = 32}
def hc (h : Hash) : List AV := byteEsC h.1
def hr (l : List Hash) : List (List AV) := l.map hc
def hb (l : List Hash) : List (List UInt8) := l.map (·.1)
theorem hr_hb (l : List Hash) : hrows (hb l) = hr l := by simp [hrows, hb, hr, hc]
theorem hb_of : ∀ {l : List (List UInt8)}, H32 l → ∃ m : List Hash, l = hb m
  | [], _ => ⟨[], rfl⟩
  | x :: l, h => by
    obtain ⟨m, hm⟩ := hb_of (l := l) fun y hy => h y (by simp [hy])
    exact ⟨⟨x, h x (by simp)⟩ :: m, by simp [hb, hm]⟩
@[go_sem] theorem hc_len (h : Hash) : (hc h).length = 32 := by rw [hc, byteEsC_len, h.2]
@[go_sem] theorem hc_drop (h : Hash) : (hc h).drop 32 = [] := List.drop_of_length_le (by rw [hc_len]; decide)
@[go_sem] theorem hc_take (h : Hash) : (hc h).take 32 = hc h := List.take_of_length_le (by rw [hc_len]; decide)
@[go_sem] theorem hc_take_app (h : Hash) (l : List AV) : (hc h ++ l).take 32 = hc h := by
  have := hc_len h
  rw [List.take_append_of_le_length (by omega), hc_take]
@[go_sem] theorem hc_drop_app (h : Hash) (l : List AV) : (hc h ++ l).drop 32 = l := by
  have := hc_len h
  rw [List.drop_append_of_le_length (by omega), hc_drop, List.nil_append]
@[go_sem] theorem hc_eq (a b : Hash) : eqCells (hc a) (hc b) = decide (a = b) := by
  rw [hc, hc, eq_hash, Bool.eq_iff_iff]
  simp [Subtype.ext_iff]
@[go_sem] theorem hc_kinds (h : Hash) : (hc h).map kindOf = (List.replicate 32 (LK.i .u8)).map some := kinds32 h.2
@[go_sem] theorem hr_len (l : List Hash) : (hr l).length = l.length := by simp [hr]
@[go_sem] theorem hr_take (l : List Hash) (n : Nat) : (hr l).take n = hr (l.take n) := by simp [hr, List.map_take]
@[go_sem] theorem hr_drop (l : List Hash) (n : Nat) : (hr l).drop n = hr (l.drop n) := by simp [hr, List.map_drop]
@[go_sem] theorem hr_set (l : List Hash) (i : Nat) (h : Hash) : (hr l).set i (hc h) = hr (l.set i h) := by simp [hr, List.map_set]
theorem hr_app (a b : List Hash) : hr (a ++ b) = hr a ++ hr b := by simp [hr]
def zeroH : Hash := ⟨List.replicate 32 0, by simp⟩
def hd (l : List Hash) (i : Nat) : Hash := l.getD i zeroH
@[go_sem] theorem hr_get {l : List Hash} {i : Nat} (h : i < l.length) : (hr l)[i]? = some (hc (hd l i)) := by
  simp [hr, hd, List.getElem?_map, List.getElem?_eq_getElem h]
theorem hd_get {l : List Hash} {i : Nat} (h : i < l.length) : hd l i = l[i] := by simp [hd, h]
theorem rl_hc {k : Nat} (h : Hash) : RLs k (hc h) := rl_bytes _
theorem rlss_hr {k : Nat} (l : List Hash) : RLss k (hr l) := by rw [← hr_hb]; exact rlss_h _
theorem shs_hc (k : Nat) (h : Hash) : shs k (hc h) = hc h := shs_bytes k _
def nodeH (a b : Hash) : Hash := ⟨nodeS a.1 b.1, nodeS_len _ _⟩
def shaH (s : List UInt8) : Hash := ⟨shaS s, shaS_len s⟩
theorem trees_Node_h (σ : Store) (a b : Hash) : ACallsTo TC 81 [.agg (hc a), .agg (hc b)] σ (.agg (hc (nodeH a b))) σ := trees_Node_to σ a.1 b.1 a.2 b.2
theorem ref_Node_h (σ : Store) (a b : Hash) : ACallsTo TC 89 [.agg (hc a), .agg (hc b)] σ (.agg (hc (nodeH a b))) σ := ref_Node_to σ a.1 b.1 a.2 b.2
/-- Arguments. -/
theorem hash_h {a : AV} (h : Sh hashTy a) : ∃ l : Hash, a = .agg (hc l) := by
  simp only [hashTy, Sh] at h
  obtain ⟨cs, rfl, h⟩ := h
  obtain ⟨l, rfl, hl⟩ := bytes_of 32 cs h
  exact ⟨⟨l, hl⟩, rfl⟩
theorem hashC_h {cs : List AV} (h : ShC hashTy cs) : ∃ l : Hash, cs = hc l := by
  obtain ⟨l, rfl, hl⟩ := hash_of h
  exact ⟨⟨l, hl⟩, rfl⟩
end Am
end Go.Proofs.YthgcooppjhcgcaaDoor
end
section
set_option linter.unusedSimpArgs false
set_option linter.unusedVariables false
/- Ranges: plain laws: trees side by side, and what is pushed behind them. -/
set_option linter.unusedSimpArgs false
set_option linter.unusedVariables false
namespace Go.Proofs.YthgcooppjhcgcaaDoor
namespace Am
theorem split_pow2 (j : Nat) : splitS (2 ^ (j + 1)) = 2 ^ j := by
  have : 0 < 2 ^ j := Nat.pow_pos (by decide)
  exact split_uniq (by rw [Nat.pow_succ]; omega) (Nat.le_refl _)
end Am
end Go.Proofs.YthgcooppjhcgcaaDoor
end
section
set_option linter.unusedSimpArgs false
set_option linter.unusedVariables false
/- Ranges: plain laws: the parts of leaves that stand behind others. -/
set_option linter.unusedSimpArgs false
set_option linter.unusedVariables false
namespace Go.Proofs.YthgcooppjhcgcaaDoor
namespace Am
end Am
end Go.Proofs.YthgcooppjhcgcaaDoor
end
section
set_option linter.unusedSimpArgs false
set_option linter.unusedVariables false
/- Abstract code. (Printed by wip/gen.) -/
set_option maxRecDepth 10000
namespace Go.Proofs.YthgcooppjhcgcaaDoor
namespace Am



@[go_sem] def slices_Equal_api_Hash__r0 : List AIns := [
  ⟨some 4, none, .no, .mv (.v (.bool false))⟩]
@[go_sem] def slices_Equal_api_Hash__r1 : List AIns := [
  ⟨some 6, none, .no, .mv (.t 0)⟩,
  ⟨some 7, none, .no, .lenSl (.t 6)⟩,
  ⟨some 8, none, .no, .mv (.t 1)⟩,
  ⟨some 9, none, .no, .lenSl (.t 8)⟩,
  ⟨some 10, none, .no, .bin .neq .none (.t 7) (.t 9)⟩]
@[go_sem] def slices_Equal_api_Hash__r2 : List AIns := [
  ⟨some 4, none, .no, .mv (.v (.bool false))⟩]
def slices_Equal_api_Hash__c3 : ACode := .seq (.reg slices_Equal_api_Hash__r2) .ret
def slices_Equal_api_Hash__c4 : ACode := .cond (.t 10) slices_Equal_api_Hash__c3 .skip
def slices_Equal_api_Hash__c5 : ACode := .seq (.reg slices_Equal_api_Hash__r1) slices_Equal_api_Hash__c4
@[go_sem] def slices_Equal_api_Hash__r6 : List AIns := [
  ⟨some 11, none, .no, .mv (.t 0)⟩,
  ⟨some 12, none, .no, .lenSl (.t 11)⟩,
  ⟨some 13, none, .no, .mv (.v (.int .i64 (0)))⟩]
@[go_sem] def slices_Equal_api_Hash__r7 : List AIns := [
  ⟨some 14, none, .no, .bin .lss .none (.t 13) (.t 12)⟩]
@[go_sem] def slices_Equal_api_Hash__r8 : List AIns := [
  ⟨some 15, none, .no, .mv (.t 13)⟩,
  ⟨some 5, none, .no, .mv (.t 15)⟩]
@[go_sem] def slices_Equal_api_Hash__r9 : List AIns := [
  ⟨some 16, none, .no, .mv (.t 0)⟩,
  ⟨some 17, none, .no, .mv (.t 5)⟩,
  ⟨some 18, none, .no, .iaSl 32 (.t 16) (.t 17)⟩,
  ⟨some 19, none, .rd, .load true 32 (.t 18)⟩,
  ⟨some 20, none, .no, .mv (.t 1)⟩,
  ⟨some 21, none, .no, .mv (.t 5)⟩,
  ⟨some 22, none, .no, .iaSl 32 (.t 20) (.t 21)⟩,
  ⟨some 23, none, .rd, .load true 32 (.t 22)⟩,
  ⟨some 24, none, .no, .bin .neq (.agg (List.replicate 32 (.i .u8) ++ [])) (.t 19) (.t 23)⟩]
@[go_sem] def slices_Equal_api_Hash__r10 : List AIns := [
  ⟨some 4, none, .no, .mv (.v (.bool false))⟩]
def slices_Equal_api_Hash__c11 : ACode := .seq (.reg slices_Equal_api_Hash__r10) .ret
def slices_Equal_api_Hash__c12 : ACode := .cond (.t 24) slices_Equal_api_Hash__c11 .skip
def slices_Equal_api_Hash__c13 : ACode := .seq (.reg slices_Equal_api_Hash__r9) slices_Equal_api_Hash__c12
def slices_Equal_api_Hash__c14 : ACode := .seq (.reg slices_Equal_api_Hash__r8) slices_Equal_api_Hash__c13
@[go_sem] def slices_Equal_api_Hash__r15 : List AIns := [
  ⟨some 25, none, .no, .bin .add .none (.t 13) (.v (.int .i64 (1)))⟩,
  ⟨some 13, none, .no, .mv (.t 25)⟩]
def slices_Equal_api_Hash__c16 : ACode := .seq (.block 1 slices_Equal_api_Hash__c14) (.reg slices_Equal_api_Hash__r15)
def slices_Equal_api_Hash__c17 : ACode := .seq (.cond (.t 14) .skip (.exit 0)) slices_Equal_api_Hash__c16
def slices_Equal_api_Hash__c18 : ACode := .seq (.reg slices_Equal_api_Hash__r7) slices_Equal_api_Hash__c17
def slices_Equal_api_Hash__c19 : ACode := .loop slices_Equal_api_Hash__c18
def slices_Equal_api_Hash__c20 : ACode := .block 0 slices_Equal_api_Hash__c19
def slices_Equal_api_Hash__c21 : ACode := .seq (.reg slices_Equal_api_Hash__r6) slices_Equal_api_Hash__c20
@[go_sem] def slices_Equal_api_Hash__r22 : List AIns := [
  ⟨some 4, none, .no, .mv (.v (.bool true))⟩]
def slices_Equal_api_Hash__c23 : ACode := .seq (.reg slices_Equal_api_Hash__r22) .ret
def slices_Equal_api_Hash__c24 : ACode := .seq slices_Equal_api_Hash__c21 slices_Equal_api_Hash__c23
def slices_Equal_api_Hash__c25 : ACode := .seq slices_Equal_api_Hash__c5 slices_Equal_api_Hash__c24
def slices_Equal_api_Hash__c26 : ACode := .seq (.reg slices_Equal_api_Hash__r0) slices_Equal_api_Hash__c25
theorem slices_Equal_api_Hash__ok : cFn TC 94 = some (26, [.t 4], slices_Equal_api_Hash__c26) := by kernel_rfl

end Am
end Go.Proofs.YthgcooppjhcgcaaDoor
end
section
set_option linter.unusedSimpArgs false
set_option linter.unusedVariables false
/- Ranges: contracts: slices.Clone, slices.Equal, Valid; how many leaves the next part has. -/
set_option linter.unusedSimpArgs false
set_option linter.unusedVariables false
namespace Go.Proofs.YthgcooppjhcgcaaDoor
namespace Am
theorem slen {σ : Store} {r : Nat} {x : Option AObj} (h : σ[r]? = some x) : r < σ.length := (List.getElem?_eq_some_iff.1 h).1
/-- All new objects are let go, and read as_ they are. -/
def FrzD (τ news : Store) : DC := keepD τ news [] id (fun _ => true)
theorem DownV.all {τ news : Store} {v v2 : AV} (hw : Wf τ.length τ) (h : DR (FrzD τ news) v2 v) : DownV τ.length v (τ ++ news) v2 τ :=
  ⟨FrzD τ news, rfl, by show DownS τ.length (keepD τ news [] id (fun _ => true)) τ; simpa using keepD_ok (kept := []) (idx := id) (fzl := fun _ => true) (news := news) hw (by simp) (by simp) (by simp) (by simp), h⟩
theorem FrzD.same {τ news : Store} {v : AV} (h : RL τ.length v) : DR (FrzD τ news) v v := DR.refl (keepD_base _ _ _) v h
theorem FrzD.sl {τ news : Store} {r off : Nat} {lim : Option Nat} {esz : Nat} {o es : AObj} (hk : τ.length ≤ r) (ho : (τ ++ news)[r]? = some (some o)) (hl : off + es.length ≤ o.length) (he : (o.drop off).take es.length = es) (hr : RLss τ.length es) :
    DR (FrzD τ news) (.vsl esz es false) (.sl r off es.length lim esz) := by
  simp only [DR, FrzD, keepD]
  right
  exact ⟨r, off, lim, o, rfl, by simpa using hk, ho, hl, by simp, by rw [he]; exact DRss.refl (keepD_base [] id (fun _ => true)) _ hr⟩
theorem drT {D : DC} {a b : List AV} (h : DRs D a b) : DR D (.tup a) (.tup b) := by simp only [DR]; exact ⟨b, rfl, h⟩
theorem OwnN.frz {sz : Nat} {τ news : Store} {v : AV} {es : List (List AV)} (h : OwnN sz τ (τ ++ news) v es) (hr : RLss τ.length es) : DR (FrzD τ news) (slVal sz es) v := by
  by_cases h0 : es = []
  · obtain ⟨n2, _, ⟨rfl, rfl⟩ | ⟨j, h1, _⟩⟩ := h
    · simp [slVal, DR]
    · exact absurd h0 h1
  · obtain ⟨r, rfl, hg, hk⟩ := h.sl h0
    unfold slVal
    rw [if_neg h0]
    exact FrzD.sl hk hg (by omega) (by simp) hr
/-- Slots, as_ a list. -/
def lkp : List (Nat × AV) → Env
  | [], _ => .any
  | (a, v) :: l, t => bif t == a then v else lkp l t
@[go_sem] theorem lkp_cons {a t : Nat} {v : AV} {l : List (Nat × AV)} : lkp ((a, v) :: l) t = bif t == a then v else lkp l t := rfl
/-- Own elements, or an empty literal. -/
def OwnE (sz : Nat) (τ σ' : Store) (v : AV) (es : List (List AV)) : Prop := OwnN sz τ σ' v es ∨ (es = [] ∧ v = .vsl sz [] true ∧ ∃ news, σ' = τ ++ news)
theorem OwnE.ext {sz : Nat} {τ σ' : Store} {v : AV} {es : List (List AV)} (h : OwnE sz τ σ' v es) : ∃ news, σ' = τ ++ news := by
  rcases h with h | ⟨_, _, h⟩
  · exact h.ext
  · exact h
theorem OwnE.rd {sz : Nat} {τ σ' : Store} {v : AV} {es : List (List AV)} (h : OwnE sz τ σ' v es) : RdSl σ' sz es v := by
  rcases h with h | ⟨rfl, rfl, _⟩
  · exact h.rd
  · exact .inl (.inr ⟨true, rfl⟩)
theorem OwnE.len {sz : Nat} {τ σ' : Store} {v : AV} {es : List (List AV)} (h : OwnE sz τ σ' v es) : rLenSl v = some (.int .i64 es.length) := h.rd.len
theorem OwnE.app {sz : Nat} {τ σ' : Store} {v : AV} {es ys : List (List AV)} (h : OwnE sz τ σ' v es) (h0 : ys.length ≠ 0) (hl : es.length + ys.length ≤ 1073741824) :
    ∃ v' σ'', aApp σ' sz v ys = some (v', σ'') ∧ OwnN sz τ σ'' v' (es ++ ys) := by
  rcases h with h | ⟨rfl, rfl, news, rfl⟩
  · exact h.app h0 hl
  · refine ⟨.sl (τ ++ news).length 0 ys.length none sz, (τ ++ news) ++ [some ys], by rw [app_v, if_neg h0, if_pos ⟨rfl, rfl, hl⟩]; simp, news ++ [some ys], by rw [List.append_assoc], .inr ⟨news.length, ?_, by simp, by rw [List.getElem?_append_right (Nat.le_refl _)]; simp⟩⟩
    intro e; exact h0 (by rw [(List.append_eq_nil_iff.1 e).2]; rfl)
theorem RdSl.elems {σ : Store} {sz : Nat} {es : List (List AV)} {x : AV} (h : RdSl σ sz es x) : slElems σ x = some es := by
  rcases h with (⟨rfl, rfl⟩ | ⟨ex, rfl⟩) | ⟨r, off, lim, o, rfl, hg, h1, h2⟩
  · rfl
  · rfl
  · rw [slElems_sl, hg]; simp only; rw [if_pos h1, h2]
end Am
end Go.Proofs.YthgcooppjhcgcaaDoor
end
section
set_option linter.unusedSimpArgs false
set_option linter.unusedVariables false
/- Ranges: contracts: slices.Equal, Valid, step, push. -/
set_option linter.unusedSimpArgs false
set_option linter.unusedVariables false
namespace Go.Proofs.YthgcooppjhcgcaaDoor
namespace Am
theorem take_hd {l : List Hash} {i : Nat} (h : i < l.length) : l.take (i + 1) = l.take i ++ [hd l i] := by
  rw [hd_get h]; exact (List.take_append_getElem h).symm
set_option maxHeartbeats 4000000 in
theorem Equal_v (σ : Store) (A B : List Hash) (x y : AV) (hx : SlV 32 (hr A) x) (hy : SlV 32 (hr B) y) (hl : A.length < 1000000000) (hl2 : B.length < 1000000000) :
    ACallsTo TC 94 [x, y] σ (.bool (decide (A = B))) σ := by
  refine ACallsTo.of_body slices_Equal_api_Hash__ok (by simp) fun hw _ => ?_
  have r1 := hx.len
  have r2 := hy.len
  rw [hr_len] at r1 r2
  unfold rLenSl at r1 r2
  by_cases hL : A.length = B.length
  · repeat' (first | refine SWp.seq ?_ | refine SWp.block ?_ | refine SWp.scope ?_ | refine SWp.condT rfl ?_ | refine SWp.condF rfl ?_ | (refine SWp.condD rfl (fun ht => ?_) (fun ht => ?_) <;> try (exfalso; omega)) | ((first | refine SWp.reg ?_ | refine SWp.skip ?_ | refine SWp.exit ?_ | refine SWp.ret ?_ | ((first | apply splitG | apply splitGB | apply splitR | apply splitRB | apply splitE | apply splitEB | apply splitC | apply splitCB) <;> intro ht)); all_goals try simp (disch := first | omega | (simp only [lens]; first | done | omega)) only [go_sem, Nat.reduceEqDiff, Nat.reduceBEq, Nat.reduceAdd, Nat.reduceMul, Nat.reduceSub, Nat.reduceLeDiff, Int.reduceToNat, Int.reducePow, r1, r2]))
    refine SWp.loop (fun m ρ σ' => ∃ i : Nat, σ' = σ ∧ m + i = A.length ∧ A.take i = B.take i ∧ ρ 0 = x ∧ ρ 1 = y ∧ ρ 12 = .int .i64 A.length ∧ ρ 13 = .int .i64 i) A.length ?_ ?_
    · exact ⟨0, rfl, by omega, rfl, by simp (disch := first | omega | (simp only [lens]; first | done | omega)) only [go_sem, Nat.reduceEqDiff, Nat.reduceBEq, Nat.reduceAdd, Nat.reduceMul, Nat.reduceSub, Nat.reduceLeDiff, Int.reduceToNat, Int.reducePow], by simp (disch := first | omega | (simp only [lens]; first | done | omega)) only [go_sem, Nat.reduceEqDiff, Nat.reduceBEq, Nat.reduceAdd, Nat.reduceMul, Nat.reduceSub, Nat.reduceLeDiff, Int.reduceToNat, Int.reducePow], by simp (disch := first | omega | (simp only [lens]; first | done | omega)) only [go_sem, Nat.reduceEqDiff, Nat.reduceBEq, Nat.reduceAdd, Nat.reduceMul, Nat.reduceSub, Nat.reduceLeDiff, Int.reduceToNat, Int.reducePow, r1], by simp (disch := first | omega | (simp only [lens]; first | done | omega)) only [go_sem, Nat.reduceEqDiff, Nat.reduceBEq, Nat.reduceAdd, Nat.reduceMul, Nat.reduceSub, Nat.reduceLeDiff, Int.reduceToNat, Int.reducePow]; rfl⟩
    · rintro m ρ σ' ⟨i, rfl, hm, hp, q0, q1, q12, q13⟩
      by_cases hi : i < A.length
      · have hi2 : i < B.length := by omega
        obtain ⟨e1, rfl⟩ := hx.vsl (by rw [hr_len]; omega)
        obtain ⟨e2, rfl⟩ := hy.vsl (by rw [hr_len]; omega)
        have hn1 := take_hd hi
        have hn2 := take_hd hi2
        by_cases he : hd A i = hd B i
        · have hn : A.take (i + 1) = B.take (i + 1) := by rw [hn1, hn2, hp, he]
          have hde := decide_eq_true he
          clear hn1 hn2
          repeat' (first | refine SWp.seq ?_ | refine SWp.block ?_ | refine SWp.scope ?_ | refine SWp.condT rfl ?_ | refine SWp.condF rfl ?_ | (refine SWp.condD rfl (fun ht => ?_) (fun ht => ?_) <;> try (exfalso; omega)) | ((first | refine SWp.regS ?_ | refine SWp.skip ?_ | refine SWp.exit ?_ | refine SWp.ret ?_ | ((first | apply splitG | apply splitGB | apply splitR | apply splitRB | apply splitE | apply splitEB | apply splitC | apply splitCB) <;> intro ht)); all_goals try simp (disch := first | omega | (simp only [lens]; first | done | omega)) only [go_sem, Nat.reduceEqDiff, Nat.reduceBEq, Nat.reduceAdd, Nat.reduceMul, Nat.reduceSub, Nat.reduceLeDiff, Int.reduceToNat, Int.reducePow, q0, q1, q12, q13, hde]))
          exact ⟨A.length - (i + 1), by omega, i + 1, by omega, hn, by simp⟩
        · have e : decide (A = B) = false := decide_eq_false fun e => he (by subst e; rfl)
          have hde := decide_eq_false he
          rw [e]
          repeat' (first | refine SWp.seq ?_ | refine SWp.block ?_ | refine SWp.scope ?_ | refine SWp.condT rfl ?_ | refine SWp.condF rfl ?_ | (refine SWp.condD rfl (fun ht => ?_) (fun ht => ?_) <;> try (exfalso; omega)) | ((first | refine SWp.regS ?_ | refine SWp.skip ?_ | refine SWp.exit ?_ | refine SWp.ret ?_ | ((first | apply splitG | apply splitGB | apply splitR | apply splitRB | apply splitE | apply splitEB | apply splitC | apply splitCB) <;> intro ht)); all_goals try simp (disch := first | omega | (simp only [lens]; first | done | omega)) only [go_sem, Nat.reduceEqDiff, Nat.reduceBEq, Nat.reduceAdd, Nat.reduceMul, Nat.reduceSub, Nat.reduceLeDiff, Int.reduceToNat, Int.reducePow, q0, q1, q12, q13, hde]))
          exact DownV.same hw (rlB_ok _ rfl)
      · have e : decide (A = B) = true := decide_eq_true (by
          rw [List.take_of_length_le (by omega), List.take_of_length_le (by omega)] at hp
          exact hp)
        rw [e]
        repeat' (first | refine SWp.seq ?_ | refine SWp.block ?_ | refine SWp.scope ?_ | refine SWp.condT rfl ?_ | refine SWp.condF rfl ?_ | (refine SWp.condD rfl (fun ht => ?_) (fun ht => ?_) <;> try (exfalso; omega)) | ((first | refine SWp.reg ?_ | refine SWp.skip ?_ | refine SWp.exit ?_ | refine SWp.ret ?_ | ((first | apply splitG | apply splitGB | apply splitR | apply splitRB | apply splitE | apply splitEB | apply splitC | apply splitCB) <;> intro ht)); all_goals try simp (disch := first | omega | (simp only [lens]; first | done | omega)) only [go_sem, Nat.reduceEqDiff, Nat.reduceBEq, Nat.reduceAdd, Nat.reduceMul, Nat.reduceSub, Nat.reduceLeDiff, Int.reduceToNat, Int.reducePow, q0, q1, q12, q13]))
        exact DownV.same hw (rlB_ok _ rfl)
  · have e : decide (A = B) = false := decide_eq_false fun e => hL (by rw [e])
    have hL' : ¬ (A.length : Int) = B.length := by omega
    rw [e]
    repeat' (first | refine SWp.seq ?_ | refine SWp.block ?_ | refine SWp.scope ?_ | refine SWp.condT rfl ?_ | refine SWp.condF rfl ?_ | (refine SWp.condD rfl (fun ht => ?_) (fun ht => ?_) <;> try (exfalso; omega)) | ((first | refine SWp.reg ?_ | refine SWp.skip ?_ | refine SWp.exit ?_ | refine SWp.ret ?_ | ((first | apply splitG | apply splitGB | apply splitR | apply splitRB | apply splitE | apply splitEB | apply splitC | apply splitCB) <;> intro ht)); all_goals try simp (disch := first | omega | (simp only [lens]; first | done | omega)) only [go_sem, Nat.reduceEqDiff, Nat.reduceBEq, Nat.reduceAdd, Nat.reduceMul, Nat.reduceSub, Nat.reduceLeDiff, Int.reduceToNat, Int.reducePow, r1, r2, hL']))
    exact DownV.same hw (rlB_ok _ rfl)
theorem Equal_h (σ : Store) (A B : List Hash) (x y : AV) (hx : RdSl σ 32 (hr A) x) (hy : RdSl σ 32 (hr B) y) (hl : A.length < 1000000000) (hl2 : B.length < 1000000000) :
    ACallsTo TC 94 [x, y] σ (.bool (decide (A = B))) σ := by
  obtain ⟨x0, h0, hd⟩ := hx.lend (rlss_hr A)
  obtain ⟨y0, h1, hd1⟩ := hy.lend (rlss_hr B)
  have := ACallsTo.lend glok (Equal_v [] A B x0 y0 h0 h1 hl hl2) (drsc hd (drs1 hd1))
  rwa [show sh σ.length (.bool (decide (A = B))) = .bool (decide (A = B)) from rfl, shS_nil, List.append_nil] at this
end Am
end Go.Proofs.YthgcooppjhcgcaaDoor
end
section
set_option linter.unusedSimpArgs false
set_option linter.unusedVariables false
/- Ranges: contracts: push. -/
set_option linter.unusedSimpArgs false
set_option linter.unusedVariables false
namespace Go.Proofs.YthgcooppjhcgcaaDoor
namespace Am
def Ext (σ σ' : Store) : Prop := ∃ news, σ' = σ ++ news
theorem Ext.refl (σ : Store) : Ext σ σ := ⟨[], by simp⟩
theorem Ext.app {σ σ' y : Store} (h : Ext σ σ') : Ext σ (σ' ++ y) := by
  obtain ⟨n, rfl⟩ := h
  exact ⟨n ++ y, by rw [List.append_assoc]⟩
theorem Ext.set {σ σ' : Store} {r : Nat} {x : Option AObj} (h : Ext σ σ') (hr : σ.length ≤ r) : Ext σ (σ'.set r x) := by
  obtain ⟨n, rfl⟩ := h
  exact ⟨n.set (r - σ.length) x, List.set_append_right _ _ hr⟩
theorem Ext.trans {σ σ' σ'' : Store} (h : Ext σ σ') (h' : Ext σ' σ'') : Ext σ σ'' := by
  obtain ⟨n, rfl⟩ := h
  obtain ⟨m, rfl⟩ := h'
  exact ⟨n ++ m, by rw [List.append_assoc]⟩
theorem Ext.le {σ σ' : Store} (h : Ext σ σ') : σ.length ≤ σ'.length := by
  obtain ⟨n, rfl⟩ := h; simp
/-- A loop that is left in its first round. -/
theorem SWp.once {C : Ctx} {n k : Nat} {Q : AExit → Env → Store → Prop} {ρ : Env} {σ : Store} {x : ACode} (h : SWp C n k x (thenQ (fun _ _ => False) Q) ρ σ) : SWp C n k (.loop x) Q ρ σ :=
  SWp.loop (fun _ ρ' σ' => ρ' = ρ ∧ σ' = σ) 0 ⟨rfl, rfl⟩ (by
    rintro m _ _ ⟨rfl, rfl⟩
    refine h.mono fun e ρ σ h => ?_
    cases e
    · exact h.elim
    · exact h
    · exact h)
end Am
end Go.Proofs.YthgcooppjhcgcaaDoor
end
section
set_option linter.unusedSimpArgs false
set_option linter.unusedVariables false
/- Ranges: contracts: Extend, Append, Of. -/
set_option linter.unusedSimpArgs false
set_option linter.unusedVariables false
namespace Go.Proofs.YthgcooppjhcgcaaDoor
namespace Am
/-- Nil if it was nil. -/
def knil (es : List (List AV)) : AV → AV
  | .nilsl => .nilsl
  | _ => .vsl 32 es false
theorem Ext.pure {σ σ' : Store} {v : AV} (hw : Wf σ.length σ) (h : Ext σ σ') (hv : RL σ.length v) : DownV σ.length v σ' v σ := by
  obtain ⟨n, rfl⟩ := h
  exact DownV.pure hw hv
/-- The hashes of a range that was gone on with: nil if it was nil, and nothing came. -/
def zv (x : AV) (first : Bool) (l : List Hash) : AV := if first then knil (hr l) x else .vsl 32 (hr l) false
attribute [local irreducible] ACallsTo ACallsP
end Am
end Go.Proofs.YthgcooppjhcgcaaDoor
end
section
set_option linter.unusedSimpArgs false
set_option linter.unusedVariables false
/- Rows: numbers, trees. (The laws are printed by wip/rows.py.) -/
set_option linter.unusedSimpArgs false
set_option linter.unusedVariables false
namespace Go.Proofs.YthgcooppjhcgcaaDoor
namespace Am
def numsR : Nat → List AV := fun n => [.int .i64 n]
def nums (l : List (Nat)) : List (List AV) := l.map numsR
@[go_sem] theorem nums_len (l : List (Nat)) : (nums l).length = l.length := by simp [nums]
@[go_sem] theorem nums_take (l : List (Nat)) (n : Nat) : (nums l).take n = nums (l.take n) := by simp [nums, List.map_take]
@[go_sem] theorem nums_drop (l : List (Nat)) (n : Nat) : (nums l).drop n = nums (l.drop n) := by simp [nums, List.map_drop]
@[go_sem] theorem nums_set (l : List (Nat)) (i : Nat) (x : Nat) : (nums l).set i (numsR x) = nums (l.set i x) := by simp [nums, List.map_set]
def numsD (l : List (Nat)) (i : Nat) : Nat := l.getD i 0
@[go_sem] theorem nums_get {l : List (Nat)} {i : Nat} (h : i < l.length) : (nums l)[i]? = some (numsR (numsD l i)) := by
  simp [nums, numsD, List.getElem?_map, List.getElem?_eq_getElem h]
def trsR : Nat × Hash → List AV := fun t => .int .i64 t.1 :: hc t.2
def trs (l : List (Nat × Hash)) : List (List AV) := l.map trsR
@[go_sem] theorem trs_len (l : List (Nat × Hash)) : (trs l).length = l.length := by simp [trs]
@[go_sem] theorem trs_take (l : List (Nat × Hash)) (n : Nat) : (trs l).take n = trs (l.take n) := by simp [trs, List.map_take]
@[go_sem] theorem trs_drop (l : List (Nat × Hash)) (n : Nat) : (trs l).drop n = trs (l.drop n) := by simp [trs, List.map_drop]
@[go_sem] theorem trs_set (l : List (Nat × Hash)) (i : Nat) (x : Nat × Hash) : (trs l).set i (trsR x) = trs (l.set i x) := by simp [trs, List.map_set]
def trsD (l : List (Nat × Hash)) (i : Nat) : Nat × Hash := l.getD i (0, zeroH)
@[go_sem] theorem trs_get {l : List (Nat × Hash)} {i : Nat} (h : i < l.length) : (trs l)[i]? = some (trsR (trsD l i)) := by
  simp [trs, trsD, List.getElem?_map, List.getElem?_eq_getElem h]
/-- All that is new is let go; what is read of a slice stays. -/
theorem RdSl.frz {sz : Nat} {τ news : Store} {v : AV} {es : List (List AV)} (h : RdSl (τ ++ news) sz es v) (hn : ∀ r off len lim e, v = .sl r off len lim e → τ.length ≤ r) (hr : RLss τ.length es) : ∃ v2, SlV sz es v2 ∧ DR (FrzD τ news) v2 v := by
  rcases h with (⟨rfl, rfl⟩ | ⟨ex, rfl⟩) | ⟨r, off, lim, o, rfl, hg, h1, h2⟩
  · exact ⟨.nilsl, .inl ⟨rfl, rfl⟩, by simp [DR]⟩
  · exact ⟨.vsl sz es ex, .inr ⟨ex, rfl⟩, FrzD.same (by simpa only [RL] using hr)⟩
  · exact ⟨.vsl sz es false, .inr ⟨false, rfl⟩, FrzD.sl (hn _ _ _ _ _ rfl) hg h1 h2 hr⟩
theorem Ext.all {σ σ' : Store} {v v2 : AV} (hw : Wf σ.length σ) (he : Ext σ σ') (h : ∀ news, σ' = σ ++ news → DR (FrzD σ news) v2 v) : DownV σ.length v σ' v2 σ := by
  obtain ⟨news, rfl⟩ := he
  exact DownV.all hw (h news rfl)
/-- Own elements in memory, from the k-th object on. -/
def OwnR (sz k : Nat) (σ' : Store) (v : AV) (es : List (List AV)) : Prop := (es = [] ∧ v = .nilsl) ∨ ∃ r, k ≤ r ∧ es ≠ [] ∧ v = .sl r 0 es.length none sz ∧ σ'[r]? = some (some es)
theorem OwnR.nil {sz k : Nat} {σ' : Store} : OwnR sz k σ' .nilsl [] := .inl ⟨rfl, rfl⟩
theorem OwnR.cells {sz k : Nat} {σ' : Store} {v : AV} {es : List (List AV)} (h : OwnR sz k σ' v es) : cellsOf v = some [v] := by
  rcases h with ⟨_, rfl⟩ | ⟨r, _, _, rfl, _⟩ <;> rfl
theorem OwnR.rd {sz k : Nat} {σ' : Store} {v : AV} {es : List (List AV)} (h : OwnR sz k σ' v es) : RdSl σ' sz es v := by
  rcases h with ⟨h, rfl⟩ | ⟨r, _, _, rfl, hg⟩
  · exact .inl (.inl ⟨rfl, h⟩)
  · exact .inr ⟨r, 0, none, es, rfl, hg, by omega, by simp⟩
theorem OwnR.len {sz k : Nat} {σ' : Store} {v : AV} {es : List (List AV)} (h : OwnR sz k σ' v es) : rLenSl v = some (.int .i64 es.length) := h.rd.len
theorem OwnR.set {sz k q : Nat} {σ' : Store} {v : AV} {es : List (List AV)} {x : Option AObj} (h : OwnR sz k σ' v es) (hq : q < k) : OwnR sz k (σ'.set q x) v es := by
  rcases h with h | ⟨r, h1, h2, h3, h4⟩
  · exact .inl h
  · exact .inr ⟨r, h1, h2, h3, by rw [gset_ne (by omega)]; exact h4⟩
theorem OwnR.more {sz k : Nat} {σ' y : Store} {v : AV} {es : List (List AV)} (h : OwnR sz k σ' v es) : OwnR sz k (σ' ++ y) v es := by
  rcases h with h | ⟨r, h1, h2, h3, h4⟩
  · exact .inl h
  · exact .inr ⟨r, h1, h2, h3, by rw [gapp (slen h4)]; exact h4⟩
theorem OwnR.app {sz k : Nat} {σ' : Store} {v : AV} {es ys : List (List AV)} (h : OwnR sz k σ' v es) (hk : k ≤ σ'.length) (h0 : ys.length ≠ 0) (hl : es.length + ys.length ≤ 1073741824) :
    ∃ v' σ2, aApp σ' sz v ys = some (v', σ2) ∧ OwnR sz k σ2 v' (es ++ ys) ∧ (∀ q, q < k → σ2[q]? = σ'[q]?) ∧ (∀ σ : Store, σ.length ≤ k → Ext σ σ' → Ext σ σ2) ∧ k ≤ σ2.length := by
  have hne : es ++ ys ≠ [] := fun e => h0 (by rw [(List.append_eq_nil_iff.1 e).2]; rfl)
  rcases h with ⟨rfl, rfl⟩ | ⟨r, h1, h2, rfl, hg⟩
  · refine ⟨.sl σ'.length 0 ys.length none sz, σ' ++ [some ys], by rw [app_n, if_neg h0, if_pos (by simpa using hl)], .inr ⟨σ'.length, hk, hne, by simp, by simp⟩, fun q hq => gapp (by omega), fun σ _ he => he.app, by simp; omega⟩
  · have hr := slen hg
    refine ⟨.sl σ'.length 0 (es.length + ys.length) none sz, σ'.set r none ++ [some (es ++ ys)], ?_, .inr ⟨σ'.length, hk, hne, by simp, by rw [gappr (by simp)]; simp⟩, fun q hq => by rw [gapp (by simp; omega), gset_ne (by omega)], fun σ hs he => (he.set (by omega)).app, by simp; omega⟩
    rw [app_s, if_neg h0, hg]
    simp only
    rw [if_pos ⟨trivial, by omega, by omega⟩, if_neg (by omega), List.drop_zero, List.take_of_length_le (Nat.le_refl _)]
theorem OwnR.frz {sz k : Nat} {τ news : Store} {v : AV} {es : List (List AV)} (h : OwnR sz k (τ ++ news) v es) (hk : τ.length ≤ k) (hr : RLss τ.length es) : DR (FrzD τ news) (slVal sz es) v := by
  unfold slVal
  rcases h with ⟨rfl, rfl⟩ | ⟨r, h1, h2, rfl, hg⟩
  · simp [DR]
  · rw [if_neg h2]
    exact FrzD.sl (by omega) hg (by omega) (by simp) hr
theorem OwnR.fr {sz k : Nat} {τ σ' news : Store} {v : AV} {es : List (List AV)} (h : OwnR sz k σ' v es) (e : σ' = τ ++ news) (hk : τ.length ≤ k) (hr : RLss τ.length es) : DR (FrzD τ news) (slVal sz es) v := by
  subst e; exact h.frz hk hr
end Am
end Go.Proofs.YthgcooppjhcgcaaDoor
end
section
set_option linter.unusedSimpArgs false
set_option linter.unusedVariables false
/- Ranges: contracts: the reference's open, join, close. -/
namespace Go.Proofs.YthgcooppjhcgcaaDoor
namespace Am
attribute [local irreducible] ACallsTo ACallsP
theorem OwnN.base {sz : Nat} {τ y σ' : Store} {v : AV} {es : List (List AV)} (h : OwnN sz (τ ++ y) σ' v es) : OwnN sz τ σ' v es := by
  obtain ⟨news, rfl, h⟩ := h
  refine ⟨y ++ news, by rw [List.append_assoc], ?_⟩
  rcases h with h | ⟨j, h0, rfl, hj⟩
  · exact .inl h
  · exact .inr ⟨y.length + j, h0, by rw [List.length_append]; congr 1; omega, by rw [List.getElem?_append_right (by omega), Nat.add_sub_cancel_left]; exact hj⟩
def hss (T : List (Nat × Hash)) : List Hash := T.map (·.2)
end Am
end Go.Proofs.YthgcooppjhcgcaaDoor
end
section
set_option linter.unusedSimpArgs false
set_option linter.unusedVariables false
/- Ranges: contracts: the reference's Extend. -/
namespace Go.Proofs.YthgcooppjhcgcaaDoor
namespace Am
attribute [local irreducible] ACallsTo ACallsP
theorem rl_slVal {k sz : Nat} {es : List (List AV)} (h : RLss k es) : RL k (slVal sz es) := by
  unfold slVal
  split
  · simp [RL]
  · simpa only [RL] using h
theorem slVal_r {sz : Nat} {es : List (List AV)} {σ : Store} : RdSl σ sz es (slVal sz es) := .of (slVal_is sz es)
end Am
end Go.Proofs.YthgcooppjhcgcaaDoor
end
section
set_option linter.unusedSimpArgs false
set_option linter.unusedVariables false
/- Ranges: contracts: Of, Append, Same, the parts, Part. -/
namespace Go.Proofs.YthgcooppjhcgcaaDoor
namespace Am
attribute [local irreducible] ACallsTo ACallsP
theorem slVal_cells {sz : Nat} {es : List (List AV)} : cellsOf (slVal sz es) = some [slVal sz es] := by
  unfold slVal; split <;> rfl
end Am
end Go.Proofs.YthgcooppjhcgcaaDoor
end
section
set_option linter.unusedSimpArgs false
set_option linter.unusedVariables false
/- Ranges: contracts: Part. -/
namespace Go.Proofs.YthgcooppjhcgcaaDoor
namespace Am
attribute [local irreducible] ACallsTo ACallsP
end Am
end Go.Proofs.YthgcooppjhcgcaaDoor
end
section
set_option linter.unusedSimpArgs false
set_option linter.unusedVariables false
/- Ranges: contracts: the reference's Of, the program's Merge. -/
namespace Go.Proofs.YthgcooppjhcgcaaDoor
namespace Am
attribute [local irreducible] ACallsTo ACallsP
theorem rl_z {k : Nat} {l : List Hash} {z : AV} (h : SlV 32 (hr l) z) : RL k z := by
  rcases h with ⟨rfl, _⟩ | ⟨ex, rfl⟩
  · simp [RL]
  · simp only [RL]; exact rlss_hr _
theorem slv_cells {sz : Nat} {es : List (List AV)} {z : AV} (h : SlV sz es z) : cellsOf z = some [z] := by
  rcases h with ⟨rfl, _⟩ | ⟨ex, rfl⟩ <;> rfl
end Am
end Go.Proofs.YthgcooppjhcgcaaDoor
end
section
set_option linter.unusedSimpArgs false
set_option linter.unusedVariables false
/- Ranges: the chapter's example. -/
namespace Go.Proofs.YthgcooppjhcgcaaDoor
namespace Am
attribute [local irreducible] ACallsTo ACallsP
end Am
end Go.Proofs.YthgcooppjhcgcaaDoor
end
section
set_option linter.unusedSimpArgs false
set_option linter.unusedVariables false
/- Ranges: the law RangesPart: its contract. -/
namespace Go.Proofs.YthgcooppjhcgcaaDoor
namespace Am
attribute [local irreducible] ACallsTo ACallsP
theorem hslC_h {cs : List AV} (h : ShC (.sl 32 hashTy) cs) : ∃ (l : List Hash) (a : AV), cs = [a] ∧ SlV 32 (hr l) a ∧ l.length ≤ maxLen := by
  simp only [ShC] at h
  rcases h with rfl | ⟨es, rfl, hl, _, h2⟩
  · exact ⟨[], .nilsl, rfl, .inl ⟨rfl, rfl⟩, Nat.zero_le _⟩
  · obtain ⟨hs, rfl, hH⟩ := hashes_of es h2
    obtain ⟨m, rfl⟩ := hb_of hH
    rw [hr_hb] at *
    exact ⟨m, _, rfl, .inr ⟨false, rfl⟩, by rwa [hr_len] at hl⟩
end Am
end Go.Proofs.YthgcooppjhcgcaaDoor
end
section
set_option linter.unusedSimpArgs false
set_option linter.unusedVariables false
/- Ranges: the law RangesFull: its contract. -/
namespace Go.Proofs.YthgcooppjhcgcaaDoor
namespace Am
attribute [local irreducible] ACallsTo ACallsP
end Am
end Go.Proofs.YthgcooppjhcgcaaDoor
end
section
set_option linter.unusedSimpArgs false
set_option linter.unusedVariables false
/- Ranges: the root of a range. -/
namespace Go.Proofs.YthgcooppjhcgcaaDoor
namespace Am
attribute [local irreducible] ACallsTo ACallsP
end Am
end Go.Proofs.YthgcooppjhcgcaaDoor
end
section
set_option linter.unusedSimpArgs false
set_option linter.unusedVariables false
/- Abstract code. (Printed by wip/gen.) -/
set_option maxRecDepth 10000
namespace Go.Proofs.YthgcooppjhcgcaaDoor
namespace Am



@[go_sem] def speculumref03_Num_r0 : List AIns := [
  ⟨some 2, none, .no, .mv (.v (.str []))⟩]
@[go_sem] def speculumref03_Num_r1 : List AIns := [
  ⟨some 3, none, .no, .mv (.t 0)⟩,
  ⟨some 4, none, .no, .bin .lss .none (.t 3) (.v (.int .u64 (128)))⟩]
@[go_sem] def speculumref03_Num_r2 : List AIns := [
  ⟨some 5, none, .no, .mv (.t 0)⟩,
  ⟨some 6, none, .no, .conv (.int .u8) (.t 5)⟩,
  ⟨some 7, none, .no, .lit 1 [(.t 6)]⟩,
  ⟨some 8, none, .no, .conv .str (.t 7)⟩,
  ⟨some 2, none, .no, .mv (.t 8)⟩]
def speculumref03_Num_c3 : ACode := .seq (.reg speculumref03_Num_r2) .ret
def speculumref03_Num_c4 : ACode := .cond (.t 4) speculumref03_Num_c3 .skip
def speculumref03_Num_c5 : ACode := .seq (.reg speculumref03_Num_r1) speculumref03_Num_c4
@[go_sem] def speculumref03_Num_r6 : List AIns := [
  ⟨some 9, none, .no, .mv (.t 0)⟩,
  ⟨some 10, none, .no, .bin .quo .none (.t 9) (.v (.int .u64 (128)))⟩,
  ⟨some 11, none, .same, .call (.v (.fn 150 [])) [(.t 10)]⟩,
  ⟨some 12, none, .no, .mv (.t 0)⟩,
  ⟨some 13, none, .no, .bin .rem .none (.t 12) (.v (.int .u64 (128)))⟩,
  ⟨some 14, none, .no, .conv (.int .u8) (.t 13)⟩,
  ⟨some 15, none, .no, .lit 1 [(.t 14)]⟩,
  ⟨some 16, none, .same, .conv .str (.t 15)⟩,
  ⟨some 17, none, .no, .bin .add .none (.t 11) (.t 16)⟩,
  ⟨some 2, none, .no, .mv (.t 17)⟩]
def speculumref03_Num_c7 : ACode := .seq (.reg speculumref03_Num_r6) .ret
def speculumref03_Num_c8 : ACode := .seq speculumref03_Num_c5 speculumref03_Num_c7
def speculumref03_Num_c9 : ACode := .seq (.reg speculumref03_Num_r0) speculumref03_Num_c8
theorem speculumref03_Num_ok : cFn TC 98 = some (18, [.t 2], speculumref03_Num_c9) := by kernel_rfl

@[go_sem] def speculumref03_Text_r0 : List AIns := [
  ⟨some 2, none, .no, .mv (.v (.str []))⟩]
@[go_sem] def speculumref03_Text_r1 : List AIns := [
  ⟨some 3, none, .no, .mv (.t 0)⟩,
  ⟨some 4, none, .no, .lenStr (.t 3)⟩,
  ⟨some 5, none, .no, .conv (.int .u64) (.t 4)⟩,
  ⟨some 6, none, .no, .call (.v (.fn 98 [])) [(.t 5)]⟩,
  ⟨some 7, none, .no, .mv (.t 0)⟩,
  ⟨some 8, none, .no, .bin .add .none (.t 6) (.t 7)⟩,
  ⟨some 2, none, .no, .mv (.t 8)⟩]
def speculumref03_Text_c2 : ACode := .seq (.reg speculumref03_Text_r1) .ret
def speculumref03_Text_c3 : ACode := .seq (.reg speculumref03_Text_r0) speculumref03_Text_c2
theorem speculumref03_Text_ok : cFn TC 100 = some (9, [.t 2], speculumref03_Text_c3) := by kernel_rfl

@[go_sem] def speculumref03_Hashes_r0 : List AIns := [
  ⟨some 2, none, .no, .mv (.v (.str []))⟩]
@[go_sem] def speculumref03_Hashes_r1 : List AIns := [
  ⟨some 5, none, .no, .mv (.t 0)⟩,
  ⟨some 6, none, .no, .lenSl (.t 5)⟩,
  ⟨some 7, none, .no, .bin .gtr .none (.t 6) (.v (.int .i64 (64)))⟩]
@[go_sem] def speculumref03_Hashes_r2 : List AIns := [
  ⟨some 2, none, .no, .mv (.v (.str []))⟩]
def speculumref03_Hashes_c3 : ACode := .seq (.reg speculumref03_Hashes_r2) .ret
def speculumref03_Hashes_c4 : ACode := .cond (.t 7) speculumref03_Hashes_c3 .skip
def speculumref03_Hashes_c5 : ACode := .seq (.reg speculumref03_Hashes_r1) speculumref03_Hashes_c4
@[go_sem] def speculumref03_Hashes_r6 : List AIns := [
  ⟨some 8, none, .no, .mv (.t 0)⟩,
  ⟨some 9, none, .no, .lenSl (.t 8)⟩,
  ⟨some 10, none, .no, .conv (.int .u64) (.t 9)⟩,
  ⟨some 11, none, .no, .call (.v (.fn 98 [])) [(.t 10)]⟩,
  ⟨some 3, none, .no, .mv (.t 11)⟩]
@[go_sem] def speculumref03_Hashes_r7 : List AIns := [
  ⟨some 4, none, .no, .mv (.v (.int .i64 (0)))⟩]
@[go_sem] def speculumref03_Hashes_r8 : List AIns := [
  ⟨some 12, none, .no, .mv (.t 4)⟩,
  ⟨some 13, none, .no, .mv (.t 0)⟩,
  ⟨some 14, none, .no, .lenSl (.t 13)⟩,
  ⟨some 15, none, .no, .bin .lss .none (.t 12) (.t 14)⟩]
def speculumref03_Hashes_c9 : ACode := .cond (.t 15) .skip (.exit 0)
def speculumref03_Hashes_c10 : ACode := .seq (.reg speculumref03_Hashes_r8) speculumref03_Hashes_c9
@[go_sem] def speculumref03_Hashes_r11 : List AIns := [
  ⟨some 18, none, .no, .mv (.t 3)⟩,
  ⟨some 19, none, .no, .mv (.t 0)⟩,
  ⟨some 20, none, .no, .mv (.t 4)⟩,
  ⟨some 21, none, .no, .iaSl 32 (.t 19) (.t 20)⟩,
  ⟨some 22, none, .no, .load true 32 (.t 21)⟩,
  ⟨some 23, none, .no, .call (.v (.fn 99 [])) [(.t 22)]⟩,
  ⟨some 24, none, .no, .bin .add .none (.t 18) (.t 23)⟩,
  ⟨some 3, none, .no, .mv (.t 24)⟩]
@[go_sem] def speculumref03_Hashes_r12 : List AIns := [
  ⟨some 16, none, .no, .mv (.t 4)⟩,
  ⟨some 17, none, .no, .bin .add .none (.t 16) (.v (.int .i64 (1)))⟩,
  ⟨some 4, none, .no, .mv (.t 17)⟩]
def speculumref03_Hashes_c13 : ACode := .seq (.block 1 (.reg speculumref03_Hashes_r11)) (.reg speculumref03_Hashes_r12)
def speculumref03_Hashes_c14 : ACode := .seq speculumref03_Hashes_c10 speculumref03_Hashes_c13
def speculumref03_Hashes_c15 : ACode := .loop speculumref03_Hashes_c14
def speculumref03_Hashes_c16 : ACode := .block 0 speculumref03_Hashes_c15
def speculumref03_Hashes_c17 : ACode := .seq (.reg speculumref03_Hashes_r7) speculumref03_Hashes_c16
@[go_sem] def speculumref03_Hashes_r18 : List AIns := [
  ⟨some 25, none, .no, .mv (.t 3)⟩,
  ⟨some 2, none, .no, .mv (.t 25)⟩]
def speculumref03_Hashes_c19 : ACode := .seq (.reg speculumref03_Hashes_r18) .ret
def speculumref03_Hashes_c20 : ACode := .seq speculumref03_Hashes_c17 speculumref03_Hashes_c19
def speculumref03_Hashes_c21 : ACode := .seq (.reg speculumref03_Hashes_r6) speculumref03_Hashes_c20
def speculumref03_Hashes_c22 : ACode := .seq speculumref03_Hashes_c5 speculumref03_Hashes_c21
def speculumref03_Hashes_c23 : ACode := .seq (.reg speculumref03_Hashes_r0) speculumref03_Hashes_c22
theorem speculumref03_Hashes_ok : cFn TC 101 = some (26, [.t 2], speculumref03_Hashes_c23) := by kernel_rfl

@[go_sem] def codec_Read_r0 : List AIns := [
  ⟨some 2, none, .no, .mv (.v (.int .u64 (0)))⟩,
  ⟨some 3, none, .no, .mv (.v (.str []))⟩,
  ⟨some 4, none, .no, .mv (.v (.bool false))⟩]
@[go_sem] def codec_Read_r1 : List AIns := [
  ⟨some 7, none, .no, .mv (.t 0)⟩,
  ⟨some 8, none, .no, .lenStr (.t 7)⟩,
  ⟨some 9, none, .no, .mv (.v (.int .i64 (0)))⟩]
@[go_sem] def codec_Read_r2 : List AIns := [
  ⟨some 10, none, .no, .bin .lss .none (.t 9) (.t 8)⟩]
@[go_sem] def codec_Read_r3 : List AIns := [
  ⟨some 11, none, .no, .mv (.t 9)⟩,
  ⟨some 5, none, .no, .mv (.t 11)⟩]
@[go_sem] def codec_Read_r4 : List AIns := [
  ⟨some 12, none, .no, .mv (.t 0)⟩,
  ⟨some 13, none, .no, .mv (.t 5)⟩,
  ⟨some 14, none, .no, .ixStr (.t 12) (.t 13)⟩,
  ⟨some 6, none, .no, .mv (.t 14)⟩]
@[go_sem] def codec_Read_r5 : List AIns := [
  ⟨some 15, none, .no, .mv (.t 2)⟩,
  ⟨some 16, none, .no, .bin .eql .none (.t 15) (.v (.int .u64 (0)))⟩,
  ⟨some 17, none, .no, .mv (.t 16)⟩,
  ⟨some 18, some (17, true), .no, .mv (.t 6)⟩,
  ⟨some 19, some (17, true), .no, .bin .eql .none (.t 18) (.v (.int .u8 (128)))⟩,
  ⟨some 20, none, .no, .pick (.t 17) (.t 19) (.v (.bool false))⟩,
  ⟨some 21, none, .no, .mv (.t 20)⟩,
  ⟨some 22, some (21, false), .no, .mv (.t 2)⟩,
  ⟨some 23, some (21, false), .no, .bin .geq .none (.t 22) (.v (.int .u64 (144115188075855872)))⟩,
  ⟨some 24, none, .no, .pick (.t 21) (.v (.bool true)) (.t 23)⟩]
def codec_Read_c6 : ACode := .cond (.t 24) (.exit 0) .skip
def codec_Read_c7 : ACode := .seq (.reg codec_Read_r5) codec_Read_c6
@[go_sem] def codec_Read_r8 : List AIns := [
  ⟨some 25, none, .no, .mv (.t 2)⟩,
  ⟨some 26, none, .no, .bin .shl .none (.t 25) (.v (.int .u64 (7)))⟩,
  ⟨some 27, none, .no, .mv (.t 6)⟩,
  ⟨some 28, none, .no, .bin .and .none (.t 27) (.v (.int .u8 (127)))⟩,
  ⟨some 29, none, .no, .conv (.int .u64) (.t 28)⟩,
  ⟨some 30, none, .no, .bin .or .none (.t 26) (.t 29)⟩,
  ⟨some 2, none, .no, .mv (.t 30)⟩]
@[go_sem] def codec_Read_r9 : List AIns := [
  ⟨some 31, none, .no, .mv (.t 6)⟩,
  ⟨some 32, none, .no, .bin .lss .none (.t 31) (.v (.int .u8 (128)))⟩]
@[go_sem] def codec_Read_r10 : List AIns := [
  ⟨some 33, none, .no, .mv (.t 2)⟩,
  ⟨some 34, none, .no, .mv (.t 0)⟩,
  ⟨some 35, none, .no, .mv (.t 5)⟩,
  ⟨some 36, none, .no, .bin .add .none (.t 35) (.v (.int .i64 (1)))⟩,
  ⟨some 37, none, .no, .slice .str (.t 34) (some (.t 36)) none none⟩,
  ⟨some 2, none, .no, .mv (.t 33)⟩,
  ⟨some 3, none, .no, .mv (.t 37)⟩,
  ⟨some 4, none, .no, .mv (.v (.bool true))⟩]
def codec_Read_c11 : ACode := .seq (.reg codec_Read_r10) .ret
def codec_Read_c12 : ACode := .cond (.t 32) codec_Read_c11 .skip
def codec_Read_c13 : ACode := .seq (.reg codec_Read_r9) codec_Read_c12
def codec_Read_c14 : ACode := .seq (.reg codec_Read_r8) codec_Read_c13
def codec_Read_c15 : ACode := .seq codec_Read_c7 codec_Read_c14
def codec_Read_c16 : ACode := .seq (.reg codec_Read_r4) codec_Read_c15
def codec_Read_c17 : ACode := .seq (.reg codec_Read_r3) codec_Read_c16
@[go_sem] def codec_Read_r18 : List AIns := [
  ⟨some 38, none, .no, .bin .add .none (.t 9) (.v (.int .i64 (1)))⟩,
  ⟨some 9, none, .no, .mv (.t 38)⟩]
def codec_Read_c19 : ACode := .seq (.block 1 codec_Read_c17) (.reg codec_Read_r18)
def codec_Read_c20 : ACode := .seq (.cond (.t 10) .skip (.exit 0)) codec_Read_c19
def codec_Read_c21 : ACode := .seq (.reg codec_Read_r2) codec_Read_c20
def codec_Read_c22 : ACode := .loop codec_Read_c21
def codec_Read_c23 : ACode := .block 0 codec_Read_c22
def codec_Read_c24 : ACode := .seq (.reg codec_Read_r1) codec_Read_c23
@[go_sem] def codec_Read_r25 : List AIns := [
  ⟨some 2, none, .no, .mv (.v (.int .u64 (0)))⟩,
  ⟨some 3, none, .no, .mv (.v (.str []))⟩,
  ⟨some 4, none, .no, .mv (.v (.bool false))⟩]
def codec_Read_c26 : ACode := .seq (.reg codec_Read_r25) .ret
def codec_Read_c27 : ACode := .seq codec_Read_c24 codec_Read_c26
def codec_Read_c28 : ACode := .seq (.reg codec_Read_r0) codec_Read_c27
theorem codec_Read_ok : cFn TC 102 = some (39, [.t 2, .t 3, .t 4], codec_Read_c28) := by kernel_rfl

@[go_sem] def codec_Unhash_r0 : List AIns := [
  ⟨some 2, none, .no, .alloc [(.int .u8 (0)), (.int .u8 (0)), (.int .u8 (0)), (.int .u8 (0)), (.int .u8 (0)), (.int .u8 (0)), (.int .u8 (0)), (.int .u8 (0)), (.int .u8 (0)), (.int .u8 (0)), (.int .u8 (0)), (.int .u8 (0)), (.int .u8 (0)), (.int .u8 (0)), (.int .u8 (0)), (.int .u8 (0)), (.int .u8 (0)), (.int .u8 (0)), (.int .u8 (0)), (.int .u8 (0)), (.int .u8 (0)), (.int .u8 (0)), (.int .u8 (0)), (.int .u8 (0)), (.int .u8 (0)), (.int .u8 (0)), (.int .u8 (0)), (.int .u8 (0)), (.int .u8 (0)), (.int .u8 (0)), (.int .u8 (0)), (.int .u8 (0))]⟩,
  ⟨some 3, none, .no, .mv (.v (.str []))⟩,
  ⟨some 4, none, .no, .mv (.v (.bool false))⟩]
@[go_sem] def codec_Unhash_r1 : List AIns := [
  ⟨some 7, none, .no, .mv (.t 0)⟩,
  ⟨some 8, none, .no, .call (.v (.fn 151 [])) [(.t 7), (.v (.int .u64 (32)))]⟩,
  ⟨some 6, none, .no, .mv (.t 8)⟩,
  ⟨some 9, none, .no, .ext 0 (.t 6)⟩,
  ⟨some 10, none, .no, .ext 1 (.t 6)⟩,
  ⟨some 11, none, .no, .ext 2 (.t 6)⟩,
  ⟨some 5, none, .no, .mv (.t 9)⟩,
  ⟨some 3, none, .no, .mv (.t 10)⟩,
  ⟨some 4, none, .no, .mv (.t 11)⟩]
@[go_sem] def codec_Unhash_r2 : List AIns := [
  ⟨some 12, none, .no, .slice (.arr 32 1) (.t 2) none none none⟩,
  ⟨some 13, none, .no, .mv (.t 5)⟩,
  ⟨some 14, none, .no, .copy 1 (.t 12) (.t 13)⟩]
@[go_sem] def codec_Unhash_r3 : List AIns := [
  ⟨some 15, none, .no, .load true 32 (.t 2)⟩,
  ⟨some 16, none, .no, .mv (.t 3)⟩,
  ⟨some 17, none, .no, .mv (.t 4)⟩,
  ⟨none, none, .no, .store 32 (.t 2) (.t 15)⟩,
  ⟨some 3, none, .no, .mv (.t 16)⟩,
  ⟨some 4, none, .no, .mv (.t 17)⟩]
def codec_Unhash_c4 : ACode := .seq (.reg codec_Unhash_r3) .ret
def codec_Unhash_c5 : ACode := .seq (.reg codec_Unhash_r2) codec_Unhash_c4
def codec_Unhash_c6 : ACode := .seq (.reg codec_Unhash_r1) codec_Unhash_c5
def codec_Unhash_c7 : ACode := .seq (.reg codec_Unhash_r0) codec_Unhash_c6
theorem codec_Unhash_ok : cFn TC 103 = some (18, [.c 2 true 32, .t 3, .t 4], codec_Unhash_c7) := by kernel_rfl

@[go_sem] def codec_Cut_r0 : List AIns := [
  ⟨some 2, none, .no, .mv (.v (.str []))⟩,
  ⟨some 3, none, .no, .mv (.v (.str []))⟩,
  ⟨some 4, none, .no, .mv (.v (.bool false))⟩]
@[go_sem] def codec_Cut_r1 : List AIns := [
  ⟨some 7, none, .no, .mv (.t 0)⟩,
  ⟨some 8, none, .no, .call (.v (.fn 102 [])) [(.t 7)]⟩,
  ⟨some 6, none, .no, .mv (.t 8)⟩,
  ⟨some 9, none, .no, .ext 0 (.t 6)⟩,
  ⟨some 10, none, .no, .ext 1 (.t 6)⟩,
  ⟨some 11, none, .no, .ext 2 (.t 6)⟩,
  ⟨some 5, none, .no, .mv (.t 9)⟩,
  ⟨some 3, none, .no, .mv (.t 10)⟩,
  ⟨some 4, none, .no, .mv (.t 11)⟩]
@[go_sem] def codec_Cut_r2 : List AIns := [
  ⟨some 12, none, .no, .mv (.t 4)⟩,
  ⟨some 13, none, .no, .un .not (.t 12)⟩]
@[go_sem] def codec_Cut_r3 : List AIns := [
  ⟨some 2, none, .no, .mv (.v (.str []))⟩,
  ⟨some 3, none, .no, .mv (.v (.str []))⟩,
  ⟨some 4, none, .no, .mv (.v (.bool false))⟩]
def codec_Cut_c4 : ACode := .seq (.reg codec_Cut_r3) .ret
def codec_Cut_c5 : ACode := .cond (.t 13) codec_Cut_c4 .skip
def codec_Cut_c6 : ACode := .seq (.reg codec_Cut_r2) codec_Cut_c5
@[go_sem] def codec_Cut_r7 : List AIns := [
  ⟨some 14, none, .no, .mv (.t 3)⟩,
  ⟨some 15, none, .no, .mv (.t 5)⟩,
  ⟨some 16, none, .no, .call (.v (.fn 151 [])) [(.t 14), (.t 15)]⟩,
  ⟨some 17, none, .no, .ext 0 (.t 16)⟩,
  ⟨some 18, none, .no, .ext 1 (.t 16)⟩,
  ⟨some 19, none, .no, .ext 2 (.t 16)⟩,
  ⟨some 2, none, .no, .mv (.t 17)⟩,
  ⟨some 3, none, .no, .mv (.t 18)⟩,
  ⟨some 4, none, .no, .mv (.t 19)⟩]
def codec_Cut_c8 : ACode := .seq (.reg codec_Cut_r7) .ret
def codec_Cut_c9 : ACode := .seq codec_Cut_c6 codec_Cut_c8
def codec_Cut_c10 : ACode := .seq (.reg codec_Cut_r1) codec_Cut_c9
def codec_Cut_c11 : ACode := .seq (.reg codec_Cut_r0) codec_Cut_c10
theorem codec_Cut_ok : cFn TC 104 = some (20, [.t 2, .t 3, .t 4], codec_Cut_c11) := by kernel_rfl

@[go_sem] def codec_Unhashes_r0 : List AIns := [
  ⟨some 2, none, .no, .mv (.v .nilsl)⟩,
  ⟨some 3, none, .no, .mv (.v (.str []))⟩,
  ⟨some 4, none, .no, .mv (.v (.bool false))⟩]
@[go_sem] def codec_Unhashes_r1 : List AIns := [
  ⟨some 10, none, .no, .mv (.t 0)⟩,
  ⟨some 11, none, .no, .call (.v (.fn 102 [])) [(.t 10)]⟩,
  ⟨some 9, none, .no, .mv (.t 11)⟩,
  ⟨some 12, none, .no, .ext 0 (.t 9)⟩,
  ⟨some 13, none, .no, .ext 1 (.t 9)⟩,
  ⟨some 14, none, .no, .ext 2 (.t 9)⟩,
  ⟨some 5, none, .no, .mv (.t 12)⟩,
  ⟨some 3, none, .no, .mv (.t 13)⟩,
  ⟨some 4, none, .no, .mv (.t 14)⟩]
@[go_sem] def codec_Unhashes_r2 : List AIns := [
  ⟨some 15, none, .no, .mv (.t 4)⟩,
  ⟨some 16, none, .no, .un .not (.t 15)⟩,
  ⟨some 17, none, .no, .mv (.t 16)⟩,
  ⟨some 18, some (17, false), .no, .mv (.t 5)⟩,
  ⟨some 19, some (17, false), .no, .bin .gtr .none (.t 18) (.v (.int .u64 (64)))⟩,
  ⟨some 20, none, .no, .pick (.t 17) (.v (.bool true)) (.t 19)⟩]
@[go_sem] def codec_Unhashes_r3 : List AIns := [
  ⟨some 2, none, .no, .mv (.v .nilsl)⟩,
  ⟨some 3, none, .no, .mv (.v (.str []))⟩,
  ⟨some 4, none, .no, .mv (.v (.bool false))⟩]
def codec_Unhashes_c4 : ACode := .seq (.reg codec_Unhashes_r3) .ret
def codec_Unhashes_c5 : ACode := .cond (.t 20) codec_Unhashes_c4 .skip
def codec_Unhashes_c6 : ACode := .seq (.reg codec_Unhashes_r2) codec_Unhashes_c5
@[go_sem] def codec_Unhashes_r7 : List AIns := [
  ⟨some 21, none, .no, .mv (.t 5)⟩,
  ⟨some 22, none, .no, .bin .gtr .none (.t 21) (.v (.int .u64 (0)))⟩]
def codec_Unhashes_c8 : ACode := .cond (.t 22) .skip (.exit 0)
def codec_Unhashes_c9 : ACode := .seq (.reg codec_Unhashes_r7) codec_Unhashes_c8
@[go_sem] def codec_Unhashes_r10 : List AIns := [
  ⟨some 26, none, .no, .mv (.t 3)⟩,
  ⟨some 27, none, .no, .call (.v (.fn 103 [])) [(.t 26)]⟩,
  ⟨some 25, none, .no, .mv (.t 27)⟩,
  ⟨some 28, none, .no, .ext 0 (.t 25)⟩,
  ⟨some 29, none, .no, .ext 1 (.t 25)⟩,
  ⟨some 30, none, .no, .ext 2 (.t 25)⟩,
  ⟨some 6, none, .no, .alloc [(.int .u8 (0)), (.int .u8 (0)), (.int .u8 (0)), (.int .u8 (0)), (.int .u8 (0)), (.int .u8 (0)), (.int .u8 (0)), (.int .u8 (0)), (.int .u8 (0)), (.int .u8 (0)), (.int .u8 (0)), (.int .u8 (0)), (.int .u8 (0)), (.int .u8 (0)), (.int .u8 (0)), (.int .u8 (0)), (.int .u8 (0)), (.int .u8 (0)), (.int .u8 (0)), (.int .u8 (0)), (.int .u8 (0)), (.int .u8 (0)), (.int .u8 (0)), (.int .u8 (0)), (.int .u8 (0)), (.int .u8 (0)), (.int .u8 (0)), (.int .u8 (0)), (.int .u8 (0)), (.int .u8 (0)), (.int .u8 (0)), (.int .u8 (0))]⟩,
  ⟨none, none, .no, .store 32 (.t 6) (.t 28)⟩,
  ⟨some 7, none, .no, .mv (.t 29)⟩,
  ⟨some 8, none, .no, .mv (.t 30)⟩]
@[go_sem] def codec_Unhashes_r11 : List AIns := [
  ⟨some 31, none, .no, .mv (.t 8)⟩,
  ⟨some 32, none, .no, .un .not (.t 31)⟩]
@[go_sem] def codec_Unhashes_r12 : List AIns := [
  ⟨some 2, none, .no, .mv (.v .nilsl)⟩,
  ⟨some 3, none, .no, .mv (.v (.str []))⟩,
  ⟨some 4, none, .no, .mv (.v (.bool false))⟩]
def codec_Unhashes_c13 : ACode := .seq (.reg codec_Unhashes_r12) .ret
def codec_Unhashes_c14 : ACode := .cond (.t 32) codec_Unhashes_c13 .skip
def codec_Unhashes_c15 : ACode := .seq (.reg codec_Unhashes_r11) codec_Unhashes_c14
@[go_sem] def codec_Unhashes_r16 : List AIns := [
  ⟨some 33, none, .no, .mv (.t 2)⟩,
  ⟨some 34, none, .no, .load true 32 (.t 6)⟩,
  ⟨some 35, none, .no, .lit 32 [(.t 34)]⟩,
  ⟨some 36, none, .no, .app 32 (.t 33) (.t 35)⟩,
  ⟨some 37, none, .no, .mv (.t 7)⟩,
  ⟨some 2, none, .no, .mv (.t 36)⟩,
  ⟨some 3, none, .no, .mv (.t 37)⟩]
def codec_Unhashes_c17 : ACode := .seq codec_Unhashes_c15 (.reg codec_Unhashes_r16)
def codec_Unhashes_c18 : ACode := .seq (.reg codec_Unhashes_r10) codec_Unhashes_c17
@[go_sem] def codec_Unhashes_r19 : List AIns := [
  ⟨some 23, none, .no, .mv (.t 5)⟩,
  ⟨some 24, none, .no, .bin .sub .none (.t 23) (.v (.int .u64 (1)))⟩,
  ⟨some 5, none, .no, .mv (.t 24)⟩]
def codec_Unhashes_c20 : ACode := .seq (.block 1 codec_Unhashes_c18) (.reg codec_Unhashes_r19)
def codec_Unhashes_c21 : ACode := .seq codec_Unhashes_c9 codec_Unhashes_c20
def codec_Unhashes_c22 : ACode := .loop codec_Unhashes_c21
@[go_sem] def codec_Unhashes_r23 : List AIns := [
  ⟨some 38, none, .no, .mv (.t 2)⟩,
  ⟨some 39, none, .no, .mv (.t 3)⟩,
  ⟨some 2, none, .no, .mv (.t 38)⟩,
  ⟨some 3, none, .no, .mv (.t 39)⟩,
  ⟨some 4, none, .no, .mv (.v (.bool true))⟩]
def codec_Unhashes_c24 : ACode := .seq (.reg codec_Unhashes_r23) .ret
def codec_Unhashes_c25 : ACode := .seq (.block 0 codec_Unhashes_c22) codec_Unhashes_c24
def codec_Unhashes_c26 : ACode := .seq codec_Unhashes_c6 codec_Unhashes_c25
def codec_Unhashes_c27 : ACode := .seq (.reg codec_Unhashes_r1) codec_Unhashes_c26
def codec_Unhashes_c28 : ACode := .seq (.reg codec_Unhashes_r0) codec_Unhashes_c27
theorem codec_Unhashes_ok : cFn TC 105 = some (40, [.t 2, .t 3, .t 4], codec_Unhashes_c28) := by kernel_rfl

@[go_sem] def speculumref03_Unhash_r0 : List AIns := [
  ⟨some 2, none, .no, .alloc [(.int .u8 (0)), (.int .u8 (0)), (.int .u8 (0)), (.int .u8 (0)), (.int .u8 (0)), (.int .u8 (0)), (.int .u8 (0)), (.int .u8 (0)), (.int .u8 (0)), (.int .u8 (0)), (.int .u8 (0)), (.int .u8 (0)), (.int .u8 (0)), (.int .u8 (0)), (.int .u8 (0)), (.int .u8 (0)), (.int .u8 (0)), (.int .u8 (0)), (.int .u8 (0)), (.int .u8 (0)), (.int .u8 (0)), (.int .u8 (0)), (.int .u8 (0)), (.int .u8 (0)), (.int .u8 (0)), (.int .u8 (0)), (.int .u8 (0)), (.int .u8 (0)), (.int .u8 (0)), (.int .u8 (0)), (.int .u8 (0)), (.int .u8 (0))]⟩,
  ⟨some 3, none, .no, .mv (.v (.str []))⟩,
  ⟨some 4, none, .no, .mv (.v (.bool false))⟩]
@[go_sem] def speculumref03_Unhash_r1 : List AIns := [
  ⟨some 5, none, .no, .alloc [(.int .u8 (0)), (.int .u8 (0)), (.int .u8 (0)), (.int .u8 (0)), (.int .u8 (0)), (.int .u8 (0)), (.int .u8 (0)), (.int .u8 (0)), (.int .u8 (0)), (.int .u8 (0)), (.int .u8 (0)), (.int .u8 (0)), (.int .u8 (0)), (.int .u8 (0)), (.int .u8 (0)), (.int .u8 (0)), (.int .u8 (0)), (.int .u8 (0)), (.int .u8 (0)), (.int .u8 (0)), (.int .u8 (0)), (.int .u8 (0)), (.int .u8 (0)), (.int .u8 (0)), (.int .u8 (0)), (.int .u8 (0)), (.int .u8 (0)), (.int .u8 (0)), (.int .u8 (0)), (.int .u8 (0)), (.int .u8 (0)), (.int .u8 (0))]⟩]
@[go_sem] def speculumref03_Unhash_r2 : List AIns := [
  ⟨some 7, none, .no, .mv (.t 0)⟩,
  ⟨some 8, none, .no, .lenStr (.t 7)⟩,
  ⟨some 9, none, .no, .bin .lss .none (.t 8) (.v (.int .i64 (32)))⟩]
@[go_sem] def speculumref03_Unhash_r3 : List AIns := [
  ⟨some 10, none, .no, .load true 32 (.t 5)⟩,
  ⟨none, none, .no, .store 32 (.t 2) (.t 10)⟩,
  ⟨some 3, none, .no, .mv (.v (.str []))⟩,
  ⟨some 4, none, .no, .mv (.v (.bool false))⟩]
def speculumref03_Unhash_c4 : ACode := .seq (.reg speculumref03_Unhash_r3) .ret
def speculumref03_Unhash_c5 : ACode := .cond (.t 9) speculumref03_Unhash_c4 .skip
def speculumref03_Unhash_c6 : ACode := .seq (.reg speculumref03_Unhash_r2) speculumref03_Unhash_c5
@[go_sem] def speculumref03_Unhash_r7 : List AIns := [
  ⟨some 6, none, .no, .mv (.v (.int .i64 (0)))⟩]
@[go_sem] def speculumref03_Unhash_r8 : List AIns := [
  ⟨some 11, none, .no, .mv (.t 6)⟩,
  ⟨some 12, none, .no, .bin .lss .none (.t 11) (.v (.int .i64 (32)))⟩]
def speculumref03_Unhash_c9 : ACode := .cond (.t 12) .skip (.exit 0)
def speculumref03_Unhash_c10 : ACode := .seq (.reg speculumref03_Unhash_r8) speculumref03_Unhash_c9
@[go_sem] def speculumref03_Unhash_r11 : List AIns := [
  ⟨some 15, none, .no, .mv (.t 6)⟩,
  ⟨some 16, none, .no, .mv (.t 0)⟩,
  ⟨some 17, none, .no, .mv (.t 6)⟩,
  ⟨some 18, none, .no, .ixStr (.t 16) (.t 17)⟩,
  ⟨some 19, none, .no, .iaArr 32 1 (.t 5) (.t 15)⟩,
  ⟨none, none, .no, .store 1 (.t 19) (.t 18)⟩]
@[go_sem] def speculumref03_Unhash_r12 : List AIns := [
  ⟨some 13, none, .no, .mv (.t 6)⟩,
  ⟨some 14, none, .no, .bin .add .none (.t 13) (.v (.int .i64 (1)))⟩,
  ⟨some 6, none, .no, .mv (.t 14)⟩]
def speculumref03_Unhash_c13 : ACode := .seq (.block 1 (.reg speculumref03_Unhash_r11)) (.reg speculumref03_Unhash_r12)
def speculumref03_Unhash_c14 : ACode := .seq speculumref03_Unhash_c10 speculumref03_Unhash_c13
def speculumref03_Unhash_c15 : ACode := .loop speculumref03_Unhash_c14
def speculumref03_Unhash_c16 : ACode := .block 0 speculumref03_Unhash_c15
def speculumref03_Unhash_c17 : ACode := .seq (.reg speculumref03_Unhash_r7) speculumref03_Unhash_c16
@[go_sem] def speculumref03_Unhash_r18 : List AIns := [
  ⟨some 20, none, .no, .load true 32 (.t 5)⟩,
  ⟨some 21, none, .no, .mv (.t 0)⟩,
  ⟨some 22, none, .no, .slice .str (.t 21) (some (.v (.int .i64 (32)))) none none⟩,
  ⟨none, none, .no, .store 32 (.t 2) (.t 20)⟩,
  ⟨some 3, none, .no, .mv (.t 22)⟩,
  ⟨some 4, none, .no, .mv (.v (.bool true))⟩]
def speculumref03_Unhash_c19 : ACode := .seq (.reg speculumref03_Unhash_r18) .ret
def speculumref03_Unhash_c20 : ACode := .seq speculumref03_Unhash_c17 speculumref03_Unhash_c19
def speculumref03_Unhash_c21 : ACode := .seq speculumref03_Unhash_c6 speculumref03_Unhash_c20
def speculumref03_Unhash_c22 : ACode := .seq (.reg speculumref03_Unhash_r1) speculumref03_Unhash_c21
def speculumref03_Unhash_c23 : ACode := .seq (.reg speculumref03_Unhash_r0) speculumref03_Unhash_c22
theorem speculumref03_Unhash_ok : cFn TC 108 = some (23, [.c 2 true 32, .t 3, .t 4], speculumref03_Unhash_c23) := by kernel_rfl

@[go_sem] def codec_Num_r0 : List AIns := [
  ⟨some 2, none, .no, .mv (.v (.str []))⟩]
@[go_sem] def codec_Num_r1 : List AIns := [
  ⟨some 4, none, .no, .mv (.t 0)⟩,
  ⟨some 5, none, .no, .bin .rem .none (.t 4) (.v (.int .u64 (128)))⟩,
  ⟨some 6, none, .no, .conv (.int .u8) (.t 5)⟩,
  ⟨some 7, none, .no, .lit 1 [(.t 6)]⟩,
  ⟨some 3, none, .no, .mv (.t 7)⟩]
@[go_sem] def codec_Num_r2 : List AIns := [
  ⟨some 8, none, .no, .mv (.t 0)⟩,
  ⟨some 9, none, .no, .bin .quo .none (.t 8) (.v (.int .u64 (128)))⟩,
  ⟨some 0, none, .no, .mv (.t 9)⟩]
@[go_sem] def codec_Num_r3 : List AIns := [
  ⟨some 10, none, .no, .mv (.t 0)⟩,
  ⟨some 11, none, .no, .bin .gtr .none (.t 10) (.v (.int .u64 (0)))⟩]
def codec_Num_c4 : ACode := .cond (.t 11) .skip (.exit 0)
def codec_Num_c5 : ACode := .seq (.reg codec_Num_r3) codec_Num_c4
@[go_sem] def codec_Num_r6 : List AIns := [
  ⟨some 14, none, .no, .mv (.t 0)⟩,
  ⟨some 15, none, .no, .bin .rem .none (.t 14) (.v (.int .u64 (128)))⟩,
  ⟨some 16, none, .no, .conv (.int .u8) (.t 15)⟩,
  ⟨some 17, none, .no, .bin .or .none (.t 16) (.v (.int .u8 (128)))⟩,
  ⟨some 18, none, .no, .lit 1 [(.t 17)]⟩,
  ⟨some 19, none, .no, .mv (.t 3)⟩,
  ⟨some 20, none, .no, .appB (.t 18) (.t 19)⟩,
  ⟨some 3, none, .no, .mv (.t 20)⟩]
@[go_sem] def codec_Num_r7 : List AIns := [
  ⟨some 12, none, .no, .mv (.t 0)⟩,
  ⟨some 13, none, .no, .bin .quo .none (.t 12) (.v (.int .u64 (128)))⟩,
  ⟨some 0, none, .no, .mv (.t 13)⟩]
def codec_Num_c8 : ACode := .seq (.block 1 (.reg codec_Num_r6)) (.reg codec_Num_r7)
def codec_Num_c9 : ACode := .seq codec_Num_c5 codec_Num_c8
def codec_Num_c10 : ACode := .loop codec_Num_c9
def codec_Num_c11 : ACode := .block 0 codec_Num_c10
def codec_Num_c12 : ACode := .seq (.reg codec_Num_r2) codec_Num_c11
@[go_sem] def codec_Num_r13 : List AIns := [
  ⟨some 21, none, .no, .mv (.t 3)⟩,
  ⟨some 22, none, .no, .conv .str (.t 21)⟩,
  ⟨some 2, none, .no, .mv (.t 22)⟩]
def codec_Num_c14 : ACode := .seq (.reg codec_Num_r13) .ret
def codec_Num_c15 : ACode := .seq codec_Num_c12 codec_Num_c14
def codec_Num_c16 : ACode := .seq (.reg codec_Num_r1) codec_Num_c15
def codec_Num_c17 : ACode := .seq (.reg codec_Num_r0) codec_Num_c16
theorem codec_Num_ok : cFn TC 111 = some (23, [.t 2], codec_Num_c17) := by kernel_rfl

@[go_sem] def codec_Text_r0 : List AIns := [
  ⟨some 2, none, .no, .mv (.v (.str []))⟩]
@[go_sem] def codec_Text_r1 : List AIns := [
  ⟨some 3, none, .no, .mv (.t 0)⟩,
  ⟨some 4, none, .no, .lenStr (.t 3)⟩,
  ⟨some 5, none, .no, .conv (.int .u64) (.t 4)⟩,
  ⟨some 6, none, .no, .call (.v (.fn 111 [])) [(.t 5)]⟩,
  ⟨some 7, none, .no, .mv (.t 0)⟩,
  ⟨some 8, none, .no, .bin .add .none (.t 6) (.t 7)⟩,
  ⟨some 2, none, .no, .mv (.t 8)⟩]
def codec_Text_c2 : ACode := .seq (.reg codec_Text_r1) .ret
def codec_Text_c3 : ACode := .seq (.reg codec_Text_r0) codec_Text_c2
theorem codec_Text_ok : cFn TC 113 = some (9, [.t 2], codec_Text_c3) := by kernel_rfl

@[go_sem] def codec_Hashes_r0 : List AIns := [
  ⟨some 2, none, .no, .mv (.v (.str []))⟩]
@[go_sem] def codec_Hashes_r1 : List AIns := [
  ⟨some 6, none, .no, .mv (.t 0)⟩,
  ⟨some 7, none, .no, .lenSl (.t 6)⟩,
  ⟨some 8, none, .no, .bin .gtr .none (.t 7) (.v (.int .i64 (64)))⟩]
@[go_sem] def codec_Hashes_r2 : List AIns := [
  ⟨some 2, none, .no, .mv (.v (.str []))⟩]
def codec_Hashes_c3 : ACode := .seq (.reg codec_Hashes_r2) .ret
def codec_Hashes_c4 : ACode := .cond (.t 8) codec_Hashes_c3 .skip
def codec_Hashes_c5 : ACode := .seq (.reg codec_Hashes_r1) codec_Hashes_c4
@[go_sem] def codec_Hashes_r6 : List AIns := [
  ⟨some 3, none, .no, .allB⟩]
@[go_sem] def codec_Hashes_r7 : List AIns := [
  ⟨some 9, none, .no, .mv (.t 0)⟩,
  ⟨some 10, none, .no, .lenSl (.t 9)⟩,
  ⟨some 11, none, .no, .conv (.int .u64) (.t 10)⟩,
  ⟨some 12, none, .no, .call (.v (.fn 111 [])) [(.t 11)]⟩,
  ⟨some 13, none, .no, .call (.v (.fn 152 [])) [(.t 3), (.t 12)]⟩]
@[go_sem] def codec_Hashes_r8 : List AIns := [
  ⟨some 14, none, .no, .mv (.t 0)⟩,
  ⟨some 15, none, .no, .lenSl (.t 14)⟩,
  ⟨some 16, none, .no, .mv (.v (.int .i64 (0)))⟩]
@[go_sem] def codec_Hashes_r9 : List AIns := [
  ⟨some 17, none, .no, .bin .lss .none (.t 16) (.t 15)⟩]
@[go_sem] def codec_Hashes_r10 : List AIns := [
  ⟨some 18, none, .no, .iaSl 32 (.t 14) (.t 16)⟩,
  ⟨some 19, none, .no, .load true 32 (.t 18)⟩,
  ⟨some 5, none, .no, .alloc [(.int .u8 (0)), (.int .u8 (0)), (.int .u8 (0)), (.int .u8 (0)), (.int .u8 (0)), (.int .u8 (0)), (.int .u8 (0)), (.int .u8 (0)), (.int .u8 (0)), (.int .u8 (0)), (.int .u8 (0)), (.int .u8 (0)), (.int .u8 (0)), (.int .u8 (0)), (.int .u8 (0)), (.int .u8 (0)), (.int .u8 (0)), (.int .u8 (0)), (.int .u8 (0)), (.int .u8 (0)), (.int .u8 (0)), (.int .u8 (0)), (.int .u8 (0)), (.int .u8 (0)), (.int .u8 (0)), (.int .u8 (0)), (.int .u8 (0)), (.int .u8 (0)), (.int .u8 (0)), (.int .u8 (0)), (.int .u8 (0)), (.int .u8 (0))]⟩,
  ⟨none, none, .no, .store 32 (.t 5) (.t 19)⟩]
@[go_sem] def codec_Hashes_r11 : List AIns := [
  ⟨some 20, none, .no, .load true 32 (.t 5)⟩,
  ⟨some 21, none, .no, .call (.v (.fn 112 [])) [(.t 20)]⟩,
  ⟨some 22, none, .no, .call (.v (.fn 152 [])) [(.t 3), (.t 21)]⟩]
def codec_Hashes_c12 : ACode := .seq (.reg codec_Hashes_r10) (.reg codec_Hashes_r11)
@[go_sem] def codec_Hashes_r13 : List AIns := [
  ⟨some 23, none, .no, .bin .add .none (.t 16) (.v (.int .i64 (1)))⟩,
  ⟨some 16, none, .no, .mv (.t 23)⟩]
def codec_Hashes_c14 : ACode := .seq (.block 1 codec_Hashes_c12) (.reg codec_Hashes_r13)
def codec_Hashes_c15 : ACode := .seq (.cond (.t 17) .skip (.exit 0)) codec_Hashes_c14
def codec_Hashes_c16 : ACode := .seq (.reg codec_Hashes_r9) codec_Hashes_c15
def codec_Hashes_c17 : ACode := .loop codec_Hashes_c16
def codec_Hashes_c18 : ACode := .block 0 codec_Hashes_c17
def codec_Hashes_c19 : ACode := .seq (.reg codec_Hashes_r8) codec_Hashes_c18
@[go_sem] def codec_Hashes_r20 : List AIns := [
  ⟨some 24, none, .no, .call (.v (.fn 153 [])) [(.t 3)]⟩,
  ⟨some 2, none, .no, .mv (.t 24)⟩]
def codec_Hashes_c21 : ACode := .seq (.reg codec_Hashes_r20) .ret
def codec_Hashes_c22 : ACode := .seq codec_Hashes_c19 codec_Hashes_c21
def codec_Hashes_c23 : ACode := .seq (.reg codec_Hashes_r7) codec_Hashes_c22
def codec_Hashes_c24 : ACode := .seq (.reg codec_Hashes_r6) codec_Hashes_c23
def codec_Hashes_c25 : ACode := .seq codec_Hashes_c5 codec_Hashes_c24
def codec_Hashes_c26 : ACode := .seq (.reg codec_Hashes_r0) codec_Hashes_c25
theorem codec_Hashes_ok : cFn TC 114 = some (25, [.t 2], codec_Hashes_c26) := by kernel_rfl

@[go_sem] def speculumref03_ahead_r0 : List AIns := [
  ⟨some 2, none, .no, .mv (.v (.str []))⟩]
@[go_sem] def speculumref03_ahead_r1 : List AIns := [
  ⟨some 4, none, .no, .mv (.t 0)⟩,
  ⟨some 5, none, .no, .bin .rem .none (.t 4) (.v (.int .u64 (128)))⟩,
  ⟨some 6, none, .no, .conv (.int .u8) (.t 5)⟩,
  ⟨some 7, none, .no, .bin .add .none (.t 6) (.v (.int .u8 (128)))⟩,
  ⟨some 8, none, .no, .lit 1 [(.t 7)]⟩,
  ⟨some 9, none, .no, .conv .str (.t 8)⟩,
  ⟨some 3, none, .no, .mv (.t 9)⟩]
@[go_sem] def speculumref03_ahead_r2 : List AIns := [
  ⟨some 10, none, .no, .mv (.t 0)⟩,
  ⟨some 11, none, .no, .bin .lss .none (.t 10) (.v (.int .u64 (128)))⟩]
@[go_sem] def speculumref03_ahead_r3 : List AIns := [
  ⟨some 12, none, .no, .mv (.t 3)⟩,
  ⟨some 2, none, .no, .mv (.t 12)⟩]
def speculumref03_ahead_c4 : ACode := .seq (.reg speculumref03_ahead_r3) .ret
def speculumref03_ahead_c5 : ACode := .cond (.t 11) speculumref03_ahead_c4 .skip
def speculumref03_ahead_c6 : ACode := .seq (.reg speculumref03_ahead_r2) speculumref03_ahead_c5
@[go_sem] def speculumref03_ahead_r7 : List AIns := [
  ⟨some 13, none, .no, .mv (.t 0)⟩,
  ⟨some 14, none, .no, .bin .quo .none (.t 13) (.v (.int .u64 (128)))⟩,
  ⟨some 15, none, .no, .call (.v (.fn 150 [])) [(.t 14)]⟩,
  ⟨some 16, none, .no, .mv (.t 3)⟩,
  ⟨some 17, none, .no, .bin .add .none (.t 15) (.t 16)⟩,
  ⟨some 2, none, .no, .mv (.t 17)⟩]
def speculumref03_ahead_c8 : ACode := .seq (.reg speculumref03_ahead_r7) .ret
def speculumref03_ahead_c9 : ACode := .seq speculumref03_ahead_c6 speculumref03_ahead_c8
def speculumref03_ahead_c10 : ACode := .seq (.reg speculumref03_ahead_r1) speculumref03_ahead_c9
def speculumref03_ahead_c11 : ACode := .seq (.reg speculumref03_ahead_r0) speculumref03_ahead_c10
theorem speculumref03_ahead_ok : cFn TC 150 = some (18, [.t 2], speculumref03_ahead_c11) := by kernel_rfl

@[go_sem] def codec_take_r0 : List AIns := [
  ⟨some 4, none, .no, .mv (.v (.str []))⟩,
  ⟨some 5, none, .no, .mv (.v (.str []))⟩,
  ⟨some 6, none, .no, .mv (.v (.bool false))⟩]
@[go_sem] def codec_take_r1 : List AIns := [
  ⟨some 7, none, .no, .mv (.t 1)⟩,
  ⟨some 8, none, .no, .mv (.t 0)⟩,
  ⟨some 9, none, .no, .lenStr (.t 8)⟩,
  ⟨some 10, none, .no, .conv (.int .u64) (.t 9)⟩,
  ⟨some 11, none, .no, .bin .gtr .none (.t 7) (.t 10)⟩]
@[go_sem] def codec_take_r2 : List AIns := [
  ⟨some 4, none, .no, .mv (.v (.str []))⟩,
  ⟨some 5, none, .no, .mv (.v (.str []))⟩,
  ⟨some 6, none, .no, .mv (.v (.bool false))⟩]
def codec_take_c3 : ACode := .seq (.reg codec_take_r2) .ret
def codec_take_c4 : ACode := .cond (.t 11) codec_take_c3 .skip
def codec_take_c5 : ACode := .seq (.reg codec_take_r1) codec_take_c4
@[go_sem] def codec_take_r6 : List AIns := [
  ⟨some 12, none, .no, .mv (.t 0)⟩,
  ⟨some 13, none, .no, .mv (.t 1)⟩,
  ⟨some 14, none, .no, .slice .str (.t 12) none (some (.t 13)) none⟩,
  ⟨some 15, none, .no, .mv (.t 0)⟩,
  ⟨some 16, none, .no, .mv (.t 1)⟩,
  ⟨some 17, none, .no, .slice .str (.t 15) (some (.t 16)) none none⟩,
  ⟨some 4, none, .no, .mv (.t 14)⟩,
  ⟨some 5, none, .no, .mv (.t 17)⟩,
  ⟨some 6, none, .no, .mv (.v (.bool true))⟩]
def codec_take_c7 : ACode := .seq (.reg codec_take_r6) .ret
def codec_take_c8 : ACode := .seq codec_take_c5 codec_take_c7
def codec_take_c9 : ACode := .seq (.reg codec_take_r0) codec_take_c8
theorem codec_take_ok : cFn TC 151 = some (18, [.t 4, .t 5, .t 6], codec_take_c9) := by kernel_rfl

end Am
end Go.Proofs.YthgcooppjhcgcaaDoor
end
section
set_option linter.unusedSimpArgs false
set_option linter.unusedVariables false
/- Codec: plain laws: numbers as_ bytes, and back. -/
set_option linter.unusedSimpArgs false
set_option linter.unusedVariables false
namespace Go.Proofs.YthgcooppjhcgcaaDoor
namespace Am
def u8 (n : Nat) : UInt8 := UInt8.ofNat n
theorem u8_toNat {n : Nat} (h : n < 256) : (u8 n).toNat = n := by unfold u8; rw [UInt8.toNat_ofNat']; omega
theorem u8_eq {c : UInt8} {n : Nat} (h : c.toNat = n) : u8 n = c := by rw [← h]; simp [u8]
/-- Bytes behind which there are more. -/
def aheadF : Nat → Nat → List UInt8
  | 0, _ => []
  | f + 1, n => if n < 128 then [u8 (n + 128)] else aheadF f (n / 128) ++ [u8 (n % 128 + 128)]
theorem aheadF_succ (f n : Nat) : aheadF (f + 1) n = if n < 128 then [u8 (n + 128)] else aheadF f (n / 128) ++ [u8 (n % 128 + 128)] := rfl
theorem aheadF_eq : ∀ (f g n : Nat), n < 128 ^ f → n < 128 ^ g → 0 < f → 0 < g → aheadF f n = aheadF g n
  | 0, _, _, _, _, h, _ => by omega
  | _ + 1, 0, _, _, _, _, h => by omega
  | f + 1, g + 1, n, h, h', _, _ => by
    simp only [aheadF]
    by_cases h1 : n < 128
    · rw [if_pos h1, if_pos h1]
    · rw [if_neg h1, if_neg h1]
      rw [Nat.pow_succ] at h h'
      have hf : 0 < f := by
        rcases Nat.eq_zero_or_pos f with h0 | h0
        · subst h0; simp at h; omega
        · exact h0
      have hg : 0 < g := by
        rcases Nat.eq_zero_or_pos g with h0 | h0
        · subst h0; simp at h'; omega
        · exact h0
      rw [aheadF_eq f g (n / 128) (by omega) (by omega) hf hg]
/-- A number's bytes. -/
def numS (n : Nat) : List UInt8 := if n < 128 then [u8 n] else aheadF 10 (n / 128) ++ [u8 (n % 128)]
/-- The number that stands ahead. -/
def readP : Nat → List UInt8 → Option (Nat × List UInt8)
  | _, [] => none
  | n, c :: s => if (n = 0 ∧ c.toNat = 128) ∨ 144115188075855872 ≤ n then none else if c.toNat < 128 then some (128 * n + c.toNat % 128, s) else readP (128 * n + c.toNat % 128) s
def readS (s : List UInt8) : Option (Nat × List UInt8) := readP 0 s
theorem readP_sound : ∀ (s : List UInt8) (m n : Nat) (rest : List UInt8), readP m s = some (n, rest) → n < 18446744073709551616 ∧ (if m = 0 then [] else aheadF 10 m) ++ s = numS n ++ rest
  | [], _, _, _, h => by simp [readP] at h
  | c :: s, m, n, rest, h => by
    have hc := c.toNat_lt
    simp only [readP] at h
    split at h
    · cases h
    · rename_i hcond
      by_cases h1 : c.toNat < 128
      · rw [if_pos h1] at h
        simp only [Option.some.injEq, Prod.mk.injEq] at h
        obtain ⟨rfl, rfl⟩ := h
        refine ⟨by omega, ?_⟩
        by_cases h0 : m = 0
        · subst h0
          rw [if_pos rfl]
          unfold numS
          rw [if_pos (by omega), u8_eq (c := c) (by omega)]; rfl
        · rw [if_neg h0]
          unfold numS
          rw [if_neg (by omega), show (128 * m + c.toNat % 128) / 128 = m by omega, show (128 * m + c.toNat % 128) % 128 = c.toNat by omega, u8_eq rfl, List.append_assoc]; rfl
      · rw [if_neg h1] at h
        obtain ⟨i1, i2⟩ := readP_sound s _ n rest h
        refine ⟨i1, ?_⟩
        have hne : ¬ 128 * m + c.toNat % 128 = 0 := by omega
        rw [← i2, if_neg hne]
        by_cases h0 : m = 0
        · subst h0
          rw [if_pos rfl, show (10 : Nat) = 9 + 1 from rfl, aheadF_succ, if_pos (by omega), u8_eq (c := c) (by omega)]; rfl
        · rw [if_neg h0]
          have e : aheadF 10 (128 * m + c.toNat % 128) = aheadF 9 m ++ [c] := by
            rw [show (10 : Nat) = 9 + 1 from rfl, aheadF_succ, if_neg (by omega), show (128 * m + c.toNat % 128) / 128 = m by omega, u8_eq (c := c) (by omega)]
          rw [e, aheadF_eq 9 10 m (by omega) (by omega) (by decide) (by decide), List.append_assoc]; rfl
theorem readS_sound {s rest : List UInt8} {n : Nat} (h : readS s = some (n, rest)) : n < 18446744073709551616 ∧ s = numS n ++ rest := by
  have := readP_sound s 0 n rest h
  rwa [if_pos rfl, List.nil_append] at this
/-- What digits say. -/
def dval (l : List UInt8) : Nat := l.foldl (fun n b => 128 * n + b.toNat % 128) 0
theorem dval_snoc (l : List UInt8) (b : UInt8) : dval (l ++ [b]) = 128 * dval l + b.toNat % 128 := by simp [dval]
theorem ahead_struct : ∀ (f n : Nat), 0 < f → n < 128 ^ f → (∀ b ∈ aheadF f n, 128 ≤ b.toNat) ∧ (aheadF f n).length ≤ f ∧ dval (aheadF f n) = n
  | 0, _, h, _ => by omega
  | f + 1, n, _, h => by
    simp only [aheadF]
    by_cases h1 : n < 128
    · rw [if_pos h1]
      refine ⟨fun b hb => ?_, by simp, ?_⟩
      · simp at hb; subst hb; rw [u8_toNat (by omega)]; omega
      · simp only [dval, List.foldl_cons, List.foldl_nil]; rw [u8_toNat (by omega)]; omega
    · rw [if_neg h1]
      rw [Nat.pow_succ] at h
      have hf : 0 < f := by
        rcases Nat.eq_zero_or_pos f with h0 | h0
        · subst h0; simp at h; omega
        · exact h0
      obtain ⟨i1, i2, i3⟩ := ahead_struct f (n / 128) hf (by omega)
      refine ⟨fun b hb => ?_, by simp; omega, ?_⟩
      · rcases List.mem_append.1 hb with hb | hb
        · exact i1 b hb
        · simp at hb; subst hb; rw [u8_toNat (by omega)]; omega
      · rw [dval_snoc, i3, u8_toNat (by omega)]; omega
theorem num_struct {n : Nat} (h : n < 18446744073709551616) : ∃ A c, numS n = A ++ [c] ∧ (∀ b ∈ A, 128 ≤ b.toNat) ∧ c.toNat < 128 ∧ A.length ≤ 9 ∧ dval (numS n) = n := by
  unfold numS
  by_cases h1 : n < 128
  · rw [if_pos h1]
    refine ⟨[], u8 n, rfl, by simp, by rw [u8_toNat (by omega)]; exact h1, by simp, ?_⟩
    simp only [dval, List.foldl_cons, List.foldl_nil]; rw [u8_toNat (by omega)]; omega
  · rw [if_neg h1]
    have e := aheadF_eq 10 9 (n / 128) (by omega) (by omega) (by decide) (by decide)
    obtain ⟨i1, i2, i3⟩ := ahead_struct 9 (n / 128) (by decide) (by omega)
    refine ⟨aheadF 10 (n / 128), u8 (n % 128), rfl, by rw [e]; exact i1, by rw [u8_toNat (by omega)]; omega, by rw [e]; exact i2, ?_⟩
    rw [dval_snoc, e, i3, u8_toNat (by omega)]; omega
end Am
end Go.Proofs.YthgcooppjhcgcaaDoor
end
section
set_option linter.unusedSimpArgs false
set_option linter.unusedVariables false
/- Codec: contracts: numbers. -/
namespace Go.Proofs.YthgcooppjhcgcaaDoor
namespace Am
attribute [local irreducible] ACallsTo ACallsP
theorem or128 {n : Nat} (h : n < 128) : n ||| 128 = n + 128 := by
  have := Nat.two_pow_add_eq_or_of_lt (i := 7) (b := n) h 1
  simp at this
  rw [Nat.or_comm, ← this, Nat.add_comm]
theorem byteEs_cons (b : UInt8) (s : List UInt8) : byteEs (b :: s) = [.int .u8 b.toNat] :: byteEs s := by simp [byteEs, B8]
theorem ref_ahead_to : ∀ (f : Nat) (σ : Store) (n : Nat), 0 < f → f ≤ 100 → n < 128 ^ f → n < 18446744073709551616 → ACallsTo TC 150 [.int .u64 n] σ (.str (aheadF f n)) σ
  | 0, _, _, h, _, _, _ => by omega
  | f + 1, σ, n, _, hf100, h, h64 => by
    refine ACallsTo.of_body speculumref03_ahead_ok (by simp) fun hw _ => ?_
    have hb : [[AV.int .u8 ((n : Int) % 128 + 128)]] = byteEs [u8 (n % 128 + 128)] := by
      have := u8_toNat (n := n % 128 + 128) (by omega)
      simp [byteEs, B8, this]
    simp only [aheadF]
    by_cases h1 : n < 128
    · have e : u8 (n + 128) = u8 (n % 128 + 128) := by congr 1; omega
      rw [if_pos h1, e]
      generalize u8 (n % 128 + 128) = c at *
      repeat' (first | refine SWp.seq ?_ | refine SWp.block ?_ | refine SWp.scope ?_ | refine SWp.condT rfl ?_ | refine SWp.condF rfl ?_ | (refine SWp.condD rfl (fun ht => ?_) (fun ht => ?_) <;> try (exfalso; omega)) | ((first | refine SWp.reg ?_ | refine SWp.skip ?_ | refine SWp.exit ?_ | refine SWp.ret ?_ | ((first | apply splitG | apply splitGB | apply splitR | apply splitRB | apply splitE | apply splitEB | apply splitC | apply splitCB) <;> intro ht)); all_goals try simp (disch := first | omega | (simp only [lens, hc_len, hr_len, List.length_reverse, byteEs_len]; first | done | omega)) only [go_sem, Nat.reduceEqDiff, Nat.reduceBEq, Nat.reduceAdd, Nat.reduceMul, Nat.reduceSub, Nat.reduceLeDiff, Int.reduceToNat, Int.reducePow, hb]))
      exact DownV.same hw (rlB_ok _ rfl)
    · rw [if_neg h1]
      rw [Nat.pow_succ] at h
      have hf : 0 < f := by
        rcases Nat.eq_zero_or_pos f with h0 | h0
        · subst h0; simp at h; omega
        · exact h0
      have ih := fun σ => ref_ahead_to f σ (n / 128) hf (by omega) (by omega) (by omega)
      have hlen := (ahead_struct f (n / 128) hf (by omega)).2.1
      have hd : (n : Int) / 128 = ((n / 128 : Nat) : Int) := by simp
      generalize u8 (n % 128 + 128) = c at *
      repeat' (first | refine SWp.seq ?_ | refine SWp.block ?_ | refine SWp.scope ?_ | refine SWp.condT rfl ?_ | refine SWp.condF rfl ?_ | (refine SWp.condD rfl (fun ht => ?_) (fun ht => ?_) <;> try (exfalso; omega)) | ((first | refine SWp.reg ?_ | refine SWp.skip ?_ | refine SWp.exit ?_ | refine SWp.ret ?_ | (apply callW.mk_pu; (first | exact (fun _ => ih _))) | (apply callW.any; (first | exact (ih _))) | ((first | apply splitG | apply splitGB | apply splitR | apply splitRB | apply splitE | apply splitEB | apply splitC | apply splitCB) <;> intro ht)); all_goals try simp (disch := first | omega | (simp only [lens, hc_len, hr_len, List.length_reverse, byteEs_len]; first | done | omega)) only [go_sem, Nat.reduceEqDiff, Nat.reduceBEq, Nat.reduceAdd, Nat.reduceMul, Nat.reduceSub, Nat.reduceLeDiff, Int.reduceToNat, Int.reducePow, hb, hd]))
      exact DownV.same hw (rlB_ok _ rfl)
theorem ref_Num_to (σ : Store) (n : Nat) (h : n < 18446744073709551616) : ACallsTo TC 98 [.int .u64 n] σ (.str (numS n)) σ := by
  refine ACallsTo.of_body speculumref03_Num_ok (by simp) fun hw _ => ?_
  unfold numS
  by_cases h1 : n < 128
  · have hb : [[AV.int .u8 (n : Int)]] = byteEs [u8 n] := by
      have := u8_toNat (n := n) (by omega)
      simp [byteEs, B8, this]
    rw [if_pos h1]
    generalize u8 n = c at *
    repeat' (first | refine SWp.seq ?_ | refine SWp.block ?_ | refine SWp.scope ?_ | refine SWp.condT rfl ?_ | refine SWp.condF rfl ?_ | (refine SWp.condD rfl (fun ht => ?_) (fun ht => ?_) <;> try (exfalso; omega)) | ((first | refine SWp.reg ?_ | refine SWp.skip ?_ | refine SWp.exit ?_ | refine SWp.ret ?_ | ((first | apply splitG | apply splitGB | apply splitR | apply splitRB | apply splitE | apply splitEB | apply splitC | apply splitCB) <;> intro ht)); all_goals try simp (disch := first | omega | (simp only [lens, hc_len, hr_len, List.length_reverse, byteEs_len]; first | done | omega)) only [go_sem, Nat.reduceEqDiff, Nat.reduceBEq, Nat.reduceAdd, Nat.reduceMul, Nat.reduceSub, Nat.reduceLeDiff, Int.reduceToNat, Int.reducePow, hb]))
    exact DownV.same hw (rlB_ok _ rfl)
  · have hb : [[AV.int .u8 ((n : Int) % 128)]] = byteEs [u8 (n % 128)] := by
      have := u8_toNat (n := n % 128) (by omega)
      simp [byteEs, B8, this]
    have hA := fun σ => ref_ahead_to 10 σ (n / 128) (by decide) (by decide) (by omega) (by omega)
    have hlen := (ahead_struct 10 (n / 128) (by decide) (by omega)).2.1
    have hd : (n : Int) / 128 = ((n / 128 : Nat) : Int) := by simp
    rw [if_neg h1]
    generalize u8 (n % 128) = c at *
    repeat' (first | refine SWp.seq ?_ | refine SWp.block ?_ | refine SWp.scope ?_ | refine SWp.condT rfl ?_ | refine SWp.condF rfl ?_ | (refine SWp.condD rfl (fun ht => ?_) (fun ht => ?_) <;> try (exfalso; omega)) | ((first | refine SWp.reg ?_ | refine SWp.skip ?_ | refine SWp.exit ?_ | refine SWp.ret ?_ | (apply callW.mk_pu; (first | exact (fun _ => hA _))) | (apply callW.any; (first | exact (hA _))) | ((first | apply splitG | apply splitGB | apply splitR | apply splitRB | apply splitE | apply splitEB | apply splitC | apply splitCB) <;> intro ht)); all_goals try simp (disch := first | omega | (simp only [lens, hc_len, hr_len, List.length_reverse, byteEs_len]; first | done | omega)) only [go_sem, Nat.reduceEqDiff, Nat.reduceBEq, Nat.reduceAdd, Nat.reduceMul, Nat.reduceSub, Nat.reduceLeDiff, Int.reduceToNat, Int.reducePow, hb, hd]))
    exact DownV.same hw (rlB_ok _ rfl)
/-- Digits ahead of others. -/
def preF (m : Nat) : List UInt8 := if m = 0 then [] else aheadF 10 m
theorem preF_step {m : Nat} (h : 0 < m) (h2 : m < 18446744073709551616) : preF m = preF (m / 128) ++ [u8 (m % 128 + 128)] := by
  unfold preF
  rw [if_neg (by omega), show (10 : Nat) = 9 + 1 from rfl, aheadF_succ]
  by_cases h1 : m < 128
  · rw [if_pos h1, if_pos (by omega), show m % 128 + 128 = m + 128 by omega]; rfl
  · rw [if_neg h1, if_neg (by omega), aheadF_eq 9 10 (m / 128) (by omega) (by omega) (by decide) (by decide)]
theorem numS_pre (n : Nat) : numS n = preF (n / 128) ++ [u8 (n % 128)] := by
  unfold numS preF
  by_cases h1 : n < 128
  · rw [if_pos h1, if_pos (by omega), show n % 128 = n by omega]; rfl
  · rw [if_neg h1, if_neg (by omega)]
set_option maxHeartbeats 4000000 in
theorem codec_Num_to (σ : Store) (n : Nat) (h : n < 18446744073709551616) : ACallsTo TC 111 [.int .u64 n] σ (.str (numS n)) σ := by
  refine ACallsTo.of_body codec_Num_ok (by simp) fun hw _ => ?_
  have hb : [[AV.int .u8 ((n : Int) % 128)]] = byteEs [u8 (n % 128)] := by
    have := u8_toNat (n := n % 128) (by omega)
    simp [byteEs, B8, this]
  have hd : (n : Int) / 128 = ((n / 128 : Nat) : Int) := by simp
  have hn := numS_pre n
  generalize u8 (n % 128) = c0 at *
  repeat' (first | refine SWp.seq ?_ | refine SWp.block ?_ | refine SWp.scope ?_ | refine SWp.condT rfl ?_ | refine SWp.condF rfl ?_ | (refine SWp.condD rfl (fun ht => ?_) (fun ht => ?_) <;> try (exfalso; omega)) | ((first | refine SWp.reg ?_ | refine SWp.skip ?_ | refine SWp.exit ?_ | refine SWp.ret ?_ | ((first | apply splitG | apply splitGB | apply splitR | apply splitRB | apply splitE | apply splitEB | apply splitC | apply splitCB) <;> intro ht)); all_goals try simp (disch := first | omega | (simp only [lens, hc_len, hr_len, List.length_reverse, byteEs_len]; first | done | omega)) only [go_sem, Nat.reduceEqDiff, Nat.reduceBEq, Nat.reduceAdd, Nat.reduceMul, Nat.reduceSub, Nat.reduceLeDiff, Int.reduceToNat, Int.reducePow, hb, hd]))
  refine SWp.loop (fun k ρ σ' => ∃ (m : Nat) (b : List UInt8) (v : AV), m < 128 ^ k ∧ m < 18446744073709551616 ∧ preF m ++ b = numS n ∧ 0 < b.length ∧ b.length + k ≤ 12 ∧ Ext σ σ' ∧ (v = .vsl 1 (byteEs b) true ∨ ∃ r, σ.length ≤ r ∧ v = .sl r 0 b.length none 1 ∧ σ'[r]? = some (some (byteEs b))) ∧ ρ 0 = .int .u64 m ∧ ρ 3 = v) 10 ?_ ?_
  · exact ⟨n / 128, [c0], _, by omega, by omega, hn.symm, by simp, by simp, Ext.refl _, .inl rfl, by simp (disch := first | omega | (simp only [lens, hc_len, hr_len, List.length_reverse, byteEs_len]; first | done | omega)) only [go_sem, Nat.reduceEqDiff, Nat.reduceBEq, Nat.reduceAdd, Nat.reduceMul, Nat.reduceSub, Nat.reduceLeDiff, Int.reduceToNat, Int.reducePow], by simp (disch := first | omega | (simp only [lens, hc_len, hr_len, List.length_reverse, byteEs_len]; first | done | omega)) only [go_sem, Nat.reduceEqDiff, Nat.reduceBEq, Nat.reduceAdd, Nat.reduceMul, Nat.reduceSub, Nat.reduceLeDiff, Int.reduceToNat, Int.reducePow, hb]⟩
  · rintro k ρ σ' ⟨m, b, v, hmk, hm, hmb, hb0, hbk, he, hv, q0, q3⟩
    by_cases h0 : m = 0
    · subst h0
      rw [← hmb]
      have e0 : preF 0 ++ b = b := rfl
      rw [e0]
      rcases hv with rfl | ⟨r, hr, rfl, hg⟩
      · repeat' (first | refine SWp.seq ?_ | refine SWp.block ?_ | refine SWp.scope ?_ | refine SWp.condT rfl ?_ | refine SWp.condF rfl ?_ | (refine SWp.condD rfl (fun ht => ?_) (fun ht => ?_) <;> try (exfalso; omega)) | ((first | refine SWp.reg ?_ | refine SWp.skip ?_ | refine SWp.exit ?_ | refine SWp.ret ?_ | ((first | apply splitG | apply splitGB | apply splitR | apply splitRB | apply splitE | apply splitEB | apply splitC | apply splitCB) <;> intro ht)); all_goals try simp (disch := first | omega | (simp only [lens, hc_len, hr_len, List.length_reverse, byteEs_len]; first | done | omega)) only [go_sem, Nat.reduceEqDiff, Nat.reduceBEq, Nat.reduceAdd, Nat.reduceMul, Nat.reduceSub, Nat.reduceLeDiff, Int.reduceToNat, Int.reducePow, q0, q3]))
        exact Ext.pure hw he (rlB_ok _ rfl)
      · repeat' (first | refine SWp.seq ?_ | refine SWp.block ?_ | refine SWp.scope ?_ | refine SWp.condT rfl ?_ | refine SWp.condF rfl ?_ | (refine SWp.condD rfl (fun ht => ?_) (fun ht => ?_) <;> try (exfalso; omega)) | ((first | refine SWp.reg ?_ | refine SWp.skip ?_ | refine SWp.exit ?_ | refine SWp.ret ?_ | ((first | apply splitG | apply splitGB | apply splitR | apply splitRB | apply splitE | apply splitEB | apply splitC | apply splitCB) <;> intro ht)); all_goals try simp (disch := first | omega | (simp only [lens, hc_len, hr_len, List.length_reverse, byteEs_len]; first | done | omega)) only [go_sem, Nat.reduceEqDiff, Nat.reduceBEq, Nat.reduceAdd, Nat.reduceMul, Nat.reduceSub, Nat.reduceLeDiff, Int.reduceToNat, Int.reducePow, q0, q3, hg]))
        exact Ext.pure hw he (rlB_ok _ rfl)
    · have hst := preF_step (m := m) (by omega) hm
      have hc8 := u8_toNat (n := m % 128 + 128) (by omega)
      have hor : ((((m : Int) % 128).toNat ||| 128 : Nat) : Int) = (((u8 (m % 128 + 128)).toNat : Nat) : Int) := by
        have : ((m : Int) % 128).toNat = m % 128 := by omega
        rw [this, or128 (by omega), hc8]
      have hd2 : (m : Int) / 128 = ((m / 128 : Nat) : Int) := by simp
      rw [hst, List.append_assoc] at hmb
      have hkk : ∃ k', k = k' + 1 := by
        cases k with
        | zero => simp at hmk; omega
        | succ k => exact ⟨k, rfl⟩
      obtain ⟨k, rfl⟩ := hkk
      rw [Nat.pow_succ] at hmk
      generalize u8 (m % 128 + 128) = c at *
      have hcat : [AV.int .u8 (c.toNat : Int)] :: byteEs b = byteEs (c :: b) := (byteEs_cons c b).symm
      have hlen : (byteEs b).length = b.length := byteEs_len b
      rcases hv with rfl | ⟨r, hr, rfl, hg⟩
      · repeat' (first | refine SWp.seq ?_ | refine SWp.block ?_ | refine SWp.scope ?_ | refine SWp.condT rfl ?_ | refine SWp.condF rfl ?_ | (refine SWp.condD rfl (fun ht => ?_) (fun ht => ?_) <;> try (exfalso; omega)) | ((first | refine SWp.reg ?_ | refine SWp.skip ?_ | refine SWp.exit ?_ | refine SWp.ret ?_ | ((first | apply splitG | apply splitGB | apply splitR | apply splitRB | apply splitE | apply splitEB | apply splitC | apply splitCB) <;> intro ht)); all_goals try simp (disch := first | omega | (simp only [lens, hc_len, hr_len, List.length_reverse, byteEs_len]; first | done | omega)) only [go_sem, Nat.reduceEqDiff, Nat.reduceBEq, Nat.reduceAdd, Nat.reduceMul, Nat.reduceSub, Nat.reduceLeDiff, Int.reduceToNat, Int.reducePow, q0, q3, hor, hd2, hcat]))
        exact ⟨k, by omega, m / 128, c :: b, _, by omega, by omega, hmb, by simp, by simp; omega, he.app, .inr ⟨σ'.length, he.le, by simp [Nat.add_comm], by simp⟩, rfl, rfl⟩
      · repeat' (first | refine SWp.seq ?_ | refine SWp.block ?_ | refine SWp.scope ?_ | refine SWp.condT rfl ?_ | refine SWp.condF rfl ?_ | (refine SWp.condD rfl (fun ht => ?_) (fun ht => ?_) <;> try (exfalso; omega)) | ((first | refine SWp.reg ?_ | refine SWp.skip ?_ | refine SWp.exit ?_ | refine SWp.ret ?_ | ((first | apply splitG | apply splitGB | apply splitR | apply splitRB | apply splitE | apply splitEB | apply splitC | apply splitCB) <;> intro ht)); all_goals try simp (disch := first | omega | (simp only [lens, hc_len, hr_len, List.length_reverse, byteEs_len]; first | done | omega)) only [go_sem, Nat.reduceEqDiff, Nat.reduceBEq, Nat.reduceAdd, Nat.reduceMul, Nat.reduceSub, Nat.reduceLeDiff, Int.reduceToNat, Int.reducePow, q0, q3, hor, hd2, hcat, hg]))
        exact ⟨k, by omega, m / 128, c :: b, _, by omega, by omega, hmb, by simp, by simp; omega, he.app, .inr ⟨σ'.length, he.le, by simp [Nat.add_comm], by simp⟩, rfl, rfl⟩
end Am
end Go.Proofs.YthgcooppjhcgcaaDoor
end
section
set_option linter.unusedSimpArgs false
set_option linter.unusedVariables false
/- Codec: contracts: the number that stands ahead. -/
namespace Go.Proofs.YthgcooppjhcgcaaDoor
namespace Am
attribute [local irreducible] ACallsTo ACallsP
def rdV : Option (Nat × List UInt8) → AV
  | none => .tup [.int .u64 0, .str [], .bool false]
  | some (n, r) => .tup [.int .u64 n, .str r, .bool true]
theorem drop_get {s : List UInt8} {i : Nat} (h : i < s.length) : s.drop i = s.getD i 0 :: s.drop (i + 1) := by
  rw [List.drop_eq_getElem_cons h]
  congr 1
  simp [h]
theorem shl7_or {n c : Nat} (h : c < 128) : n * 128 ||| c = 128 * n + c := by
  have := Nat.two_pow_add_eq_or_of_lt (i := 7) (b := c) h n
  simp at this
  rw [Nat.mul_comm n 128, this]
set_option maxHeartbeats 4000000 in
theorem codec_Read_to (σ : Store) (s : List UInt8) (hs : s.length < 1000000000) : ACallsTo TC 102 [.str s] σ (rdV (readS s)) σ := by
  refine ACallsTo.of_body codec_Read_ok (by simp) fun hw _ => ?_
  repeat' (first | refine SWp.seq ?_ | refine SWp.block ?_ | refine SWp.scope ?_ | refine SWp.condT rfl ?_ | refine SWp.condF rfl ?_ | (refine SWp.condD rfl (fun ht => ?_) (fun ht => ?_) <;> try (exfalso; omega)) | ((first | refine SWp.reg ?_ | refine SWp.skip ?_ | refine SWp.exit ?_ | refine SWp.ret ?_ | ((first | apply splitG | apply splitGB | apply splitR | apply splitRB | apply splitE | apply splitEB | apply splitC | apply splitCB) <;> intro ht)); all_goals try simp (disch := first | omega | (simp only [lens, hc_len, hr_len, List.length_reverse, byteEs_len]; first | done | omega)) only [go_sem, Nat.reduceEqDiff, Nat.reduceBEq, Nat.reduceAdd, Nat.reduceMul, Nat.reduceSub, Nat.reduceLeDiff, Int.reduceToNat, Int.reducePow]))
  refine SWp.loop (fun m ρ σ' => ∃ (i n : Nat), m + i = s.length ∧ σ' = σ ∧ n < 18446744073709551616 ∧ readP n (s.drop i) = readS s ∧ ρ 0 = .str s ∧ ρ 2 = .int .u64 n ∧ ρ 8 = .int .i64 s.length ∧ ρ 9 = .int .i64 i) s.length ?_ ?_
  · exact ⟨0, 0, by omega, rfl, by omega, rfl, by simp (disch := first | omega | (simp only [lens, hc_len, hr_len, List.length_reverse, byteEs_len]; first | done | omega)) only [go_sem, Nat.reduceEqDiff, Nat.reduceBEq, Nat.reduceAdd, Nat.reduceMul, Nat.reduceSub, Nat.reduceLeDiff, Int.reduceToNat, Int.reducePow], by simp (disch := first | omega | (simp only [lens, hc_len, hr_len, List.length_reverse, byteEs_len]; first | done | omega)) only [go_sem, Nat.reduceEqDiff, Nat.reduceBEq, Nat.reduceAdd, Nat.reduceMul, Nat.reduceSub, Nat.reduceLeDiff, Int.reduceToNat, Int.reducePow]; rfl, by simp (disch := first | omega | (simp only [lens, hc_len, hr_len, List.length_reverse, byteEs_len]; first | done | omega)) only [go_sem, Nat.reduceEqDiff, Nat.reduceBEq, Nat.reduceAdd, Nat.reduceMul, Nat.reduceSub, Nat.reduceLeDiff, Int.reduceToNat, Int.reducePow], by simp (disch := first | omega | (simp only [lens, hc_len, hr_len, List.length_reverse, byteEs_len]; first | done | omega)) only [go_sem, Nat.reduceEqDiff, Nat.reduceBEq, Nat.reduceAdd, Nat.reduceMul, Nat.reduceSub, Nat.reduceLeDiff, Int.reduceToNat, Int.reducePow]; rfl⟩
  · rintro m ρ σ' ⟨i, n, hm, rfl, hn, hp, q0, q2, q8, q9⟩
    by_cases hi : i < s.length
    · have hdr := drop_get hi
      generalize hc : s.getD i 0 = c at *
      have hc8 := c.toNat_lt
      rw [hdr] at hp
      simp only [readP] at hp
      by_cases h1 : (n = 0 ∧ c.toNat = 128) ∨ 144115188075855872 ≤ n
      · rw [if_pos h1] at hp
        rw [← hp]
        unfold rdV
        by_cases h2 : n = 0
        · subst h2
          have h3 : c.toNat = 128 := by omega
          have h3' : (c.toNat : Int) = 128 := by omega
          repeat' (first | refine SWp.seq ?_ | refine SWp.block ?_ | refine SWp.scope ?_ | refine SWp.condT rfl ?_ | refine SWp.condF rfl ?_ | (refine SWp.condD rfl (fun ht => ?_) (fun ht => ?_) <;> try (exfalso; omega)) | ((first | refine SWp.reg ?_ | refine SWp.skip ?_ | refine SWp.exit ?_ | refine SWp.ret ?_ | ((first | apply splitG | apply splitGB | apply splitR | apply splitRB | apply splitE | apply splitEB | apply splitC | apply splitCB) <;> intro ht)); all_goals try simp (disch := first | omega | (simp only [lens, hc_len, hr_len, List.length_reverse, byteEs_len]; first | done | omega)) only [go_sem, Nat.reduceEqDiff, Nat.reduceBEq, Nat.reduceAdd, Nat.reduceMul, Nat.reduceSub, Nat.reduceLeDiff, Int.reduceToNat, Int.reducePow, q0, q2, q8, q9, hc, h3']))
          exact DownV.same hw (rlB_ok _ rfl)
        · have h2' : ¬ (n : Int) = 0 := by omega
          have h4 : (n : Int) ≥ 144115188075855872 := by omega
          repeat' (first | refine SWp.seq ?_ | refine SWp.block ?_ | refine SWp.scope ?_ | refine SWp.condT rfl ?_ | refine SWp.condF rfl ?_ | (refine SWp.condD rfl (fun ht => ?_) (fun ht => ?_) <;> try (exfalso; omega)) | ((first | refine SWp.reg ?_ | refine SWp.skip ?_ | refine SWp.exit ?_ | refine SWp.ret ?_ | ((first | apply splitG | apply splitGB | apply splitR | apply splitRB | apply splitE | apply splitEB | apply splitC | apply splitCB) <;> intro ht)); all_goals try simp (disch := first | omega | (simp only [lens, hc_len, hr_len, List.length_reverse, byteEs_len]; first | done | omega)) only [go_sem, Nat.reduceEqDiff, Nat.reduceBEq, Nat.reduceAdd, Nat.reduceMul, Nat.reduceSub, Nat.reduceLeDiff, Int.reduceToNat, Int.reducePow, q0, q2, q8, q9, hc, h2', h4]))
          exact DownV.same hw (rlB_ok _ rfl)
      · rw [if_neg h1] at hp
        have hor : ((n : Int) * 128).toNat ||| c.toNat % 128 = 128 * n + c.toNat % 128 := by
          rw [show ((n : Int) * 128).toNat = n * 128 by omega, shl7_or (by omega)]
        have h4 : ¬ (n : Int) ≥ 144115188075855872 := by omega
        by_cases h5 : c.toNat < 128
        · rw [if_pos h5] at hp
          rw [← hp]
          unfold rdV
          have h5' : (c.toNat : Int) < 128 := by omega
          have hi1 : (i : Int) + 1 = ((i + 1 : Nat) : Int) := by omega
          by_cases h2 : n = 0
          · have h2' : (n : Int) = 0 := by omega
            have h3' : ¬ (c.toNat : Int) = 128 := by omega
            have hz : ((0 : Int) * 128).toNat ||| c.toNat % 128 = 128 * n + c.toNat % 128 := by rw [h2]; simp
            repeat' (first | refine SWp.seq ?_ | refine SWp.block ?_ | refine SWp.scope ?_ | refine SWp.condT rfl ?_ | refine SWp.condF rfl ?_ | (refine SWp.condD rfl (fun ht => ?_) (fun ht => ?_) <;> try (exfalso; omega)) | ((first | refine SWp.reg ?_ | refine SWp.skip ?_ | refine SWp.exit ?_ | refine SWp.ret ?_ | ((first | apply splitG | apply splitGB | apply splitR | apply splitRB | apply splitE | apply splitEB | apply splitC | apply splitCB) <;> intro ht)); all_goals try simp (disch := first | omega | (simp only [lens, hc_len, hr_len, List.length_reverse, byteEs_len]; first | done | omega)) only [go_sem, Nat.reduceEqDiff, Nat.reduceBEq, Nat.reduceAdd, Nat.reduceMul, Nat.reduceSub, Nat.reduceLeDiff, Int.reduceToNat, Int.reducePow, q0, q2, q8, q9, hc, h2', h3', h4, hz, h5', hi1]))
            exact DownV.same hw (rlB_ok _ rfl)
          · have h2' : ¬ (n : Int) = 0 := by omega
            repeat' (first | refine SWp.seq ?_ | refine SWp.block ?_ | refine SWp.scope ?_ | refine SWp.condT rfl ?_ | refine SWp.condF rfl ?_ | (refine SWp.condD rfl (fun ht => ?_) (fun ht => ?_) <;> try (exfalso; omega)) | ((first | refine SWp.reg ?_ | refine SWp.skip ?_ | refine SWp.exit ?_ | refine SWp.ret ?_ | ((first | apply splitG | apply splitGB | apply splitR | apply splitRB | apply splitE | apply splitEB | apply splitC | apply splitCB) <;> intro ht)); all_goals try simp (disch := first | omega | (simp only [lens, hc_len, hr_len, List.length_reverse, byteEs_len]; first | done | omega)) only [go_sem, Nat.reduceEqDiff, Nat.reduceBEq, Nat.reduceAdd, Nat.reduceMul, Nat.reduceSub, Nat.reduceLeDiff, Int.reduceToNat, Int.reducePow, q0, q2, q8, q9, hc, h2', h4, hor, h5', hi1]))
            exact DownV.same hw (rlB_ok _ rfl)
        · rw [if_neg h5] at hp
          have h5' : ¬ (c.toNat : Int) < 128 := by omega
          by_cases h2 : n = 0
          · have h2' : (n : Int) = 0 := by omega
            have h3' : ¬ (c.toNat : Int) = 128 := by omega
            have hz : ((0 : Int) * 128).toNat ||| c.toNat % 128 = 128 * n + c.toNat % 128 := by rw [h2]; simp
            repeat' (first | refine SWp.seq ?_ | refine SWp.block ?_ | refine SWp.scope ?_ | refine SWp.condT rfl ?_ | refine SWp.condF rfl ?_ | (refine SWp.condD rfl (fun ht => ?_) (fun ht => ?_) <;> try (exfalso; omega)) | ((first | refine SWp.reg ?_ | refine SWp.skip ?_ | refine SWp.exit ?_ | refine SWp.ret ?_ | ((first | apply splitG | apply splitGB | apply splitR | apply splitRB | apply splitE | apply splitEB | apply splitC | apply splitCB) <;> intro ht)); all_goals try simp (disch := first | omega | (simp only [lens, hc_len, hr_len, List.length_reverse, byteEs_len]; first | done | omega)) only [go_sem, Nat.reduceEqDiff, Nat.reduceBEq, Nat.reduceAdd, Nat.reduceMul, Nat.reduceSub, Nat.reduceLeDiff, Int.reduceToNat, Int.reducePow, q0, q2, q8, q9, hc, h2', h3', h4, hz, h5']))
            exact ⟨m - 1, by omega, i + 1, 128 * n + c.toNat % 128, by omega, by omega, hp, rfl, by simp⟩
          · have h2' : ¬ (n : Int) = 0 := by omega
            repeat' (first | refine SWp.seq ?_ | refine SWp.block ?_ | refine SWp.scope ?_ | refine SWp.condT rfl ?_ | refine SWp.condF rfl ?_ | (refine SWp.condD rfl (fun ht => ?_) (fun ht => ?_) <;> try (exfalso; omega)) | ((first | refine SWp.reg ?_ | refine SWp.skip ?_ | refine SWp.exit ?_ | refine SWp.ret ?_ | ((first | apply splitG | apply splitGB | apply splitR | apply splitRB | apply splitE | apply splitEB | apply splitC | apply splitCB) <;> intro ht)); all_goals try simp (disch := first | omega | (simp only [lens, hc_len, hr_len, List.length_reverse, byteEs_len]; first | done | omega)) only [go_sem, Nat.reduceEqDiff, Nat.reduceBEq, Nat.reduceAdd, Nat.reduceMul, Nat.reduceSub, Nat.reduceLeDiff, Int.reduceToNat, Int.reducePow, q0, q2, q8, q9, hc, h2', h4, hor, h5']))
            exact ⟨m - 1, by omega, i + 1, 128 * n + c.toNat % 128, by omega, by omega, hp, rfl, by simp⟩
    · have hd : s.drop i = [] := List.drop_of_length_le (by omega)
      rw [hd] at hp
      simp only [readP] at hp
      rw [← hp]
      unfold rdV
      repeat' (first | refine SWp.seq ?_ | refine SWp.block ?_ | refine SWp.scope ?_ | refine SWp.condT rfl ?_ | refine SWp.condF rfl ?_ | (refine SWp.condD rfl (fun ht => ?_) (fun ht => ?_) <;> try (exfalso; omega)) | ((first | refine SWp.reg ?_ | refine SWp.skip ?_ | refine SWp.exit ?_ | refine SWp.ret ?_ | ((first | apply splitG | apply splitGB | apply splitR | apply splitRB | apply splitE | apply splitEB | apply splitC | apply splitCB) <;> intro ht)); all_goals try simp (disch := first | omega | (simp only [lens, hc_len, hr_len, List.length_reverse, byteEs_len]; first | done | omega)) only [go_sem, Nat.reduceEqDiff, Nat.reduceBEq, Nat.reduceAdd, Nat.reduceMul, Nat.reduceSub, Nat.reduceLeDiff, Int.reduceToNat, Int.reducePow, q0, q2, q8, q9]))
      exact DownV.same hw (rlB_ok _ rfl)
end Am
end Go.Proofs.YthgcooppjhcgcaaDoor
end
section
set_option linter.unusedSimpArgs false
set_option linter.unusedVariables false
/- Codec: contracts: texts, what is cut off, hashes. -/
namespace Go.Proofs.YthgcooppjhcgcaaDoor
namespace Am
attribute [local irreducible] ACallsTo ACallsP
def takeS (s : List UInt8) (n : Nat) : Option (List UInt8 × List UInt8) := if n ≤ s.length then some (s.take n, s.drop n) else none
def stV : Option (List UInt8 × List UInt8) → AV
  | none => .tup [.str [], .str [], .bool false]
  | some (a, r) => .tup [.str a, .str r, .bool true]
def cutS (s : List UInt8) : Option (List UInt8 × List UInt8) := (readS s).bind fun x => takeS x.2 x.1
def textS (s : List UInt8) : List UInt8 := numS s.length ++ s
theorem numS_le (n : Nat) : (numS n).length ≤ 11 := by
  unfold numS
  split
  · simp
  · have : ∀ f m, (aheadF f m).length ≤ f := by
      intro f
      induction f with
      | zero => intro m; simp [aheadF]
      | succ f ih =>
        intro m
        rw [aheadF_succ]
        split
        · simp
        · have := ih (m / 128); simp; omega
    have := this 10 (n / 128)
    simp; omega
theorem readS_lt {s r : List UInt8} {n : Nat} (h : readS s = some (n, r)) : n < 18446744073709551616 ∧ r.length < s.length := by
  obtain ⟨h1, h2⟩ := readS_sound h
  obtain ⟨A, c, e, _⟩ := num_struct h1
  refine ⟨h1, ?_⟩
  rw [h2, e]; simp; omega
set_option maxHeartbeats 4000000 in
theorem codec_Text_to (σ : Store) (s : List UInt8) (hs : s.length < 1000000000) : ACallsTo TC 113 [.str s] σ (.str (textS s)) σ := by
  refine ACallsTo.of_body codec_Text_ok (by simp) fun hw _ => ?_
  have hN := fun σ => codec_Num_to σ s.length (by omega)
  have h1 := numS_le s.length
  unfold textS
  generalize numS s.length = N at *
  repeat' (first | refine SWp.seq ?_ | refine SWp.block ?_ | refine SWp.scope ?_ | refine SWp.condT rfl ?_ | refine SWp.condF rfl ?_ | (refine SWp.condD rfl (fun ht => ?_) (fun ht => ?_) <;> try (exfalso; omega)) | ((first | refine SWp.reg ?_ | refine SWp.skip ?_ | refine SWp.exit ?_ | refine SWp.ret ?_ | (apply callW.mk_pu; (first | exact (fun _ => hN _))) | (apply callW.any; (first | exact (hN _))) | ((first | apply splitG | apply splitGB | apply splitR | apply splitRB | apply splitE | apply splitEB | apply splitC | apply splitCB) <;> intro ht)); all_goals try simp (disch := first | omega | (simp only [lens, hc_len, hr_len, List.length_reverse, byteEs_len, byteEsC_len]; first | done | omega)) only [go_sem, Nat.reduceEqDiff, Nat.reduceBEq, Nat.reduceAdd, Nat.reduceMul, Nat.reduceSub, Nat.reduceLeDiff, Int.reduceToNat, Int.reducePow]))
  exact DownV.same hw (rlB_ok _ rfl)
set_option maxHeartbeats 4000000 in
theorem ref_Text_to (σ : Store) (s : List UInt8) (hs : s.length < 1000000000) : ACallsTo TC 100 [.str s] σ (.str (textS s)) σ := by
  refine ACallsTo.of_body speculumref03_Text_ok (by simp) fun hw _ => ?_
  have hN := fun σ => ref_Num_to σ s.length (by omega)
  have h1 := numS_le s.length
  unfold textS
  generalize numS s.length = N at *
  repeat' (first | refine SWp.seq ?_ | refine SWp.block ?_ | refine SWp.scope ?_ | refine SWp.condT rfl ?_ | refine SWp.condF rfl ?_ | (refine SWp.condD rfl (fun ht => ?_) (fun ht => ?_) <;> try (exfalso; omega)) | ((first | refine SWp.reg ?_ | refine SWp.skip ?_ | refine SWp.exit ?_ | refine SWp.ret ?_ | (apply callW.mk_pu; (first | exact (fun _ => hN _))) | (apply callW.any; (first | exact (hN _))) | ((first | apply splitG | apply splitGB | apply splitR | apply splitRB | apply splitE | apply splitEB | apply splitC | apply splitCB) <;> intro ht)); all_goals try simp (disch := first | omega | (simp only [lens, hc_len, hr_len, List.length_reverse, byteEs_len, byteEsC_len]; first | done | omega)) only [go_sem, Nat.reduceEqDiff, Nat.reduceBEq, Nat.reduceAdd, Nat.reduceMul, Nat.reduceSub, Nat.reduceLeDiff, Int.reduceToNat, Int.reducePow]))
  exact DownV.same hw (rlB_ok _ rfl)
set_option maxHeartbeats 4000000 in
theorem take_to (σ : Store) (s : List UInt8) (n : Nat) (hs : s.length < 1000000000) (hn : n < 18446744073709551616) : ACallsTo TC 151 [.str s, .int .u64 n] σ (stV (takeS s n)) σ := by
  refine ACallsTo.of_body codec_take_ok (by simp) fun hw _ => ?_
  by_cases h : n ≤ s.length
  · unfold takeS
    rw [if_pos h]
    unfold stV
    repeat' (first | refine SWp.seq ?_ | refine SWp.block ?_ | refine SWp.scope ?_ | refine SWp.condT rfl ?_ | refine SWp.condF rfl ?_ | (refine SWp.condD rfl (fun ht => ?_) (fun ht => ?_) <;> try (exfalso; omega)) | ((first | refine SWp.reg ?_ | refine SWp.skip ?_ | refine SWp.exit ?_ | refine SWp.ret ?_ | ((first | apply splitG | apply splitGB | apply splitR | apply splitRB | apply splitE | apply splitEB | apply splitC | apply splitCB) <;> intro ht)); all_goals try simp (disch := first | omega | (simp only [lens, hc_len, hr_len, List.length_reverse, byteEs_len, byteEsC_len]; first | done | omega)) only [go_sem, Nat.reduceEqDiff, Nat.reduceBEq, Nat.reduceAdd, Nat.reduceMul, Nat.reduceSub, Nat.reduceLeDiff, Int.reduceToNat, Int.reducePow]))
    exact DownV.same hw (rlB_ok _ rfl)
  · unfold takeS
    rw [if_neg h]
    unfold stV
    repeat' (first | refine SWp.seq ?_ | refine SWp.block ?_ | refine SWp.scope ?_ | refine SWp.condT rfl ?_ | refine SWp.condF rfl ?_ | (refine SWp.condD rfl (fun ht => ?_) (fun ht => ?_) <;> try (exfalso; omega)) | ((first | refine SWp.reg ?_ | refine SWp.skip ?_ | refine SWp.exit ?_ | refine SWp.ret ?_ | ((first | apply splitG | apply splitGB | apply splitR | apply splitRB | apply splitE | apply splitEB | apply splitC | apply splitCB) <;> intro ht)); all_goals try simp (disch := first | omega | (simp only [lens, hc_len, hr_len, List.length_reverse, byteEs_len, byteEsC_len]; first | done | omega)) only [go_sem, Nat.reduceEqDiff, Nat.reduceBEq, Nat.reduceAdd, Nat.reduceMul, Nat.reduceSub, Nat.reduceLeDiff, Int.reduceToNat, Int.reducePow]))
    exact DownV.same hw (rlB_ok _ rfl)
set_option maxHeartbeats 4000000 in
theorem codec_Cut_to (σ : Store) (s : List UInt8) (hs : s.length < 1000000000) : ACallsTo TC 104 [.str s] σ (stV (cutS s)) σ := by
  refine ACallsTo.of_body codec_Cut_ok (by simp) fun hw _ => ?_
  have hR := fun σ => codec_Read_to σ s hs
  unfold cutS
  cases hr : readS s with
  | none =>
    rw [hr] at hR
    unfold rdV at hR
    unfold stV
    repeat' (first | refine SWp.seq ?_ | refine SWp.block ?_ | refine SWp.scope ?_ | refine SWp.condT rfl ?_ | refine SWp.condF rfl ?_ | (refine SWp.condD rfl (fun ht => ?_) (fun ht => ?_) <;> try (exfalso; omega)) | ((first | refine SWp.reg ?_ | refine SWp.skip ?_ | refine SWp.exit ?_ | refine SWp.ret ?_ | (apply callW.mk_pu; (first | exact (fun _ => hR _))) | (apply callW.any; (first | exact (hR _))) | ((first | apply splitG | apply splitGB | apply splitR | apply splitRB | apply splitE | apply splitEB | apply splitC | apply splitCB) <;> intro ht)); all_goals try simp (disch := first | omega | (simp only [lens, hc_len, hr_len, List.length_reverse, byteEs_len, byteEsC_len]; first | done | omega)) only [go_sem, Nat.reduceEqDiff, Nat.reduceBEq, Nat.reduceAdd, Nat.reduceMul, Nat.reduceSub, Nat.reduceLeDiff, Int.reduceToNat, Int.reducePow]))
    exact DownV.same hw (rlB_ok _ rfl)
  | some x =>
    obtain ⟨n, r⟩ := x
    obtain ⟨h1, h2⟩ := readS_lt hr
    rw [hr] at hR
    unfold rdV at hR
    have hT := fun σ => take_to σ r n (by omega) h1
    simp only [Option.bind_some]
    unfold stV at hT ⊢
    cases ht : takeS r n with
    | none =>
      rw [ht] at hT
      repeat' (first | refine SWp.seq ?_ | refine SWp.block ?_ | refine SWp.scope ?_ | refine SWp.condT rfl ?_ | refine SWp.condF rfl ?_ | (refine SWp.condD rfl (fun ht => ?_) (fun ht => ?_) <;> try (exfalso; omega)) | ((first | refine SWp.reg ?_ | refine SWp.skip ?_ | refine SWp.exit ?_ | refine SWp.ret ?_ | (apply callW.mk_pu; (first | exact (fun _ => hR _) | exact (fun _ => hT _))) | (apply callW.any; (first | exact (hR _) | exact (hT _))) | ((first | apply splitG | apply splitGB | apply splitR | apply splitRB | apply splitE | apply splitEB | apply splitC | apply splitCB) <;> intro ht)); all_goals try simp (disch := first | omega | (simp only [lens, hc_len, hr_len, List.length_reverse, byteEs_len, byteEsC_len]; first | done | omega)) only [go_sem, Nat.reduceEqDiff, Nat.reduceBEq, Nat.reduceAdd, Nat.reduceMul, Nat.reduceSub, Nat.reduceLeDiff, Int.reduceToNat, Int.reducePow]))
      exact DownV.same hw (rlB_ok _ rfl)
    | some y =>
      rw [ht] at hT
      repeat' (first | refine SWp.seq ?_ | refine SWp.block ?_ | refine SWp.scope ?_ | refine SWp.condT rfl ?_ | refine SWp.condF rfl ?_ | (refine SWp.condD rfl (fun ht => ?_) (fun ht => ?_) <;> try (exfalso; omega)) | ((first | refine SWp.reg ?_ | refine SWp.skip ?_ | refine SWp.exit ?_ | refine SWp.ret ?_ | (apply callW.mk_pu; (first | exact (fun _ => hR _) | exact (fun _ => hT _))) | (apply callW.any; (first | exact (hR _) | exact (hT _))) | ((first | apply splitG | apply splitGB | apply splitR | apply splitRB | apply splitE | apply splitEB | apply splitC | apply splitCB) <;> intro ht)); all_goals try simp (disch := first | omega | (simp only [lens, hc_len, hr_len, List.length_reverse, byteEs_len, byteEsC_len]; first | done | omega)) only [go_sem, Nat.reduceEqDiff, Nat.reduceBEq, Nat.reduceAdd, Nat.reduceMul, Nat.reduceSub, Nat.reduceLeDiff, Int.reduceToNat, Int.reducePow]))
      exact DownV.same hw (rlB_ok _ rfl)
end Am
end Go.Proofs.YthgcooppjhcgcaaDoor
end
section
set_option linter.unusedSimpArgs false
set_option linter.unusedVariables false
/- Codec: contracts: the hash that stands ahead. -/
namespace Go.Proofs.YthgcooppjhcgcaaDoor
namespace Am
attribute [local irreducible] ACallsTo ACallsP
def toH (l : List UInt8) : Hash := if h : l.length = 32 then ⟨l, h⟩ else zeroH
theorem hc_toH {l : List UInt8} (h : l.length = 32) : hc (toH l) = byteEsC l := by simp [toH, h, hc]
def unS (s : List UInt8) : Option (Hash × List UInt8) := (takeS s 32).map fun x => (toH x.1, x.2)
def unV : Option (Hash × List UInt8) → AV
  | none => .tup [.agg (hc zeroH), .str [], .bool false]
  | some (h, r) => .tup [.agg (hc h), .str r, .bool true]
theorem unS_none {s : List UInt8} (h : ¬ 32 ≤ s.length) : unS s = none := by simp [unS, takeS, h]
theorem unS_some {s : List UInt8} (h : 32 ≤ s.length) : unS s = some (toH (s.take 32), s.drop 32) := by simp [unS, takeS, h]
theorem unV_some (h : Hash) (r : List UInt8) : unV (some (h, r)) = .tup [.agg (hc h), .str r, .bool true] := rfl
theorem unV_none : unV none = .tup [.agg z32, .str [], .bool false] := rfl
theorem rl_un {k : Nat} {cs : List AV} {r : List UInt8} {b : Bool} (h : RLs k cs) : RL k (.tup [.agg cs, .str r, .bool b]) := by
  simp only [RL, RLs]; exact ⟨h, trivial, trivial, trivial⟩
theorem z32_len : z32.length = 32 := rfl
set_option maxHeartbeats 4000000 in
theorem codec_Unhash_to (σ : Store) (s : List UInt8) (hs : s.length < 1000000000) : ACallsTo TC 103 [.str s] σ (unV (unS s)) σ := by
  refine ACallsTo.of_body codec_Unhash_ok (by simp) fun hw _ => ?_
  have hT := fun σ => take_to σ s 32 hs (by omega)
  by_cases h : 32 ≤ s.length
  · rw [unS_some h]
    rw [unV_some, hc_toH (by simp; omega)]
    have ht : takeS s 32 = some (s.take 32, s.drop 32) := by simp [takeS, h]
    rw [ht] at hT
    unfold stV at hT
    have hl : (s.take 32).length = 32 := by simp; omega
    generalize s.take 32 = a at *
    have hf := byteEs_flat a
    have hft : (byteEs a).take 32 = byteEs a := List.take_of_length_le (by rw [byteEs_len]; omega)
    have hfc : (byteEsC a).length = 32 := by rw [byteEsC_len]; exact hl
    have hfd : (byteEsC a).drop 32 = [] := List.drop_of_length_le (by omega)
    have hfk : (byteEsC a).take 32 = byteEsC a := List.take_of_length_le (by omega)
    repeat' (first | refine SWp.seq ?_ | refine SWp.block ?_ | refine SWp.scope ?_ | refine SWp.condT rfl ?_ | refine SWp.condF rfl ?_ | (refine SWp.condD rfl (fun ht => ?_) (fun ht => ?_) <;> try (exfalso; omega)) | ((first | refine SWp.reg ?_ | refine SWp.skip ?_ | refine SWp.exit ?_ | refine SWp.ret ?_ | (apply callW.mk_pu; (first | exact (fun _ => hT _))) | (apply callW.any; (first | exact (hT _))) | ((first | apply splitG | apply splitGB | apply splitR | apply splitRB | apply splitE | apply splitEB | apply splitC | apply splitCB) <;> intro ht)); all_goals try simp (disch := first | omega | (simp only [lens, hc_len, hr_len, List.length_reverse, byteEs_len, byteEsC_len]; first | done | omega)) only [go_sem, Nat.reduceEqDiff, Nat.reduceBEq, Nat.reduceAdd, Nat.reduceMul, Nat.reduceSub, Nat.reduceLeDiff, Int.reduceToNat, Int.reducePow, hf, hft, hl, hfc, hfd, hfk, List.append_nil, z32_len]))
    exact DownV.pure hw (rl_un (rl_bytes _))
  · rw [unS_none h, unV_none]
    have ht : takeS s 32 = none := by simp [takeS, h]
    rw [ht] at hT
    unfold stV at hT
    have hbe : (byteEs []).flatten = ([] : List AV) := rfl
    repeat' (first | refine SWp.seq ?_ | refine SWp.block ?_ | refine SWp.scope ?_ | refine SWp.condT rfl ?_ | refine SWp.condF rfl ?_ | (refine SWp.condD rfl (fun ht => ?_) (fun ht => ?_) <;> try (exfalso; omega)) | ((first | refine SWp.reg ?_ | refine SWp.skip ?_ | refine SWp.exit ?_ | refine SWp.ret ?_ | (apply callW.mk_pu; (first | exact (fun _ => hT _))) | (apply callW.any; (first | exact (hT _))) | ((first | apply splitG | apply splitGB | apply splitR | apply splitRB | apply splitE | apply splitEB | apply splitC | apply splitCB) <;> intro ht)); all_goals try simp (disch := first | omega | (simp only [lens, hc_len, hr_len, List.length_reverse, byteEs_len, byteEsC_len]; first | done | omega)) only [go_sem, Nat.reduceEqDiff, Nat.reduceBEq, Nat.reduceAdd, Nat.reduceMul, Nat.reduceSub, Nat.reduceLeDiff, Int.reduceToNat, Int.reducePow, z32_len, hbe, List.nil_append, List.drop_zero]))
    exact DownV.pure hw (rl_un (cs := z32) (rl_bytes (List.replicate 32 0)))
def ucells (s : List UInt8) (i : Nat) : List AV := byteEsC (s.take i) ++ List.replicate (32 - i) (.int .u8 0)
theorem ucells_len {s : List UInt8} {i : Nat} (h : i ≤ 32) (hs : 32 ≤ s.length) : (ucells s i).length = 32 := by simp [ucells, byteEsC_len]; omega
theorem ucells_step {s : List UInt8} {i : Nat} (h : i < 32) (hs : 32 ≤ s.length) :
    (ucells s i).take i ++ AV.int .u8 (s.getD i 0).toNat :: (ucells s i).drop (i + 1) = ucells s (i + 1) := by
  have h1 : (byteEsC (s.take i)).length = i := by rw [byteEsC_len, List.length_take]; omega
  have hs2 : s.take (i + 1) = s.take i ++ [s.getD i 0] := by
    rw [← List.take_append_getElem (by omega : i < s.length)]; simp [show i < s.length by omega]
  unfold ucells
  rw [List.take_append_of_le_length (by omega), List.take_of_length_le (by omega), List.drop_append, List.drop_of_length_le (by omega), h1, show i + 1 - i = 1 by omega, List.nil_append, hs2]
  rw [List.drop_replicate, show 32 - i - 1 = 32 - (i + 1) by omega]
  simp [byteEsC]
theorem ucells_end {s : List UInt8} : ucells s 32 = byteEsC (s.take 32) := by simp [ucells]
set_option maxHeartbeats 4000000 in
theorem ref_Unhash_to (σ : Store) (s : List UInt8) (hs : s.length < 1000000000) : ACallsTo TC 108 [.str s] σ (unV (unS s)) σ := by
  refine ACallsTo.of_body speculumref03_Unhash_ok (by simp) fun hw _ => ?_
  by_cases h : 32 ≤ s.length
  · rw [unS_some h]
    rw [unV_some, hc_toH (by simp; omega)]
    repeat' (first | refine SWp.seq ?_ | refine SWp.block ?_ | refine SWp.scope ?_ | refine SWp.condT rfl ?_ | refine SWp.condF rfl ?_ | (refine SWp.condD rfl (fun ht => ?_) (fun ht => ?_) <;> try (exfalso; omega)) | ((first | refine SWp.reg ?_ | refine SWp.skip ?_ | refine SWp.exit ?_ | refine SWp.ret ?_ | ((first | apply splitG | apply splitGB | apply splitR | apply splitRB | apply splitE | apply splitEB | apply splitC | apply splitCB) <;> intro ht)); all_goals try simp (disch := first | omega | (simp only [lens, hc_len, hr_len, List.length_reverse, byteEs_len, byteEsC_len]; first | done | omega)) only [go_sem, Nat.reduceEqDiff, Nat.reduceBEq, Nat.reduceAdd, Nat.reduceMul, Nat.reduceSub, Nat.reduceLeDiff, Int.reduceToNat, Int.reducePow, z32_len]))
    refine SWp.loop (fun m ρ σ' => ∃ i : Nat, m + i = 32 ∧ ρ 0 = .str s ∧ ρ 2 = .ptr σ.length 0 0 ∧ ρ 5 = .ptr (σ.length + 1) 0 0 ∧ ρ 6 = .int .i64 i ∧ σ' = σ ++ [some [z32], some [ucells s i]]) 32 ?_ ?_
    · exact ⟨0, by omega, by simp (disch := first | omega | (simp only [lens, hc_len, hr_len, List.length_reverse, byteEs_len, byteEsC_len]; first | done | omega)) only [go_sem, Nat.reduceEqDiff, Nat.reduceBEq, Nat.reduceAdd, Nat.reduceMul, Nat.reduceSub, Nat.reduceLeDiff, Int.reduceToNat, Int.reducePow], by simp (disch := first | omega | (simp only [lens, hc_len, hr_len, List.length_reverse, byteEs_len, byteEsC_len]; first | done | omega)) only [go_sem, Nat.reduceEqDiff, Nat.reduceBEq, Nat.reduceAdd, Nat.reduceMul, Nat.reduceSub, Nat.reduceLeDiff, Int.reduceToNat, Int.reducePow], by simp (disch := first | omega | (simp only [lens, hc_len, hr_len, List.length_reverse, byteEs_len, byteEsC_len]; first | done | omega)) only [go_sem, Nat.reduceEqDiff, Nat.reduceBEq, Nat.reduceAdd, Nat.reduceMul, Nat.reduceSub, Nat.reduceLeDiff, Int.reduceToNat, Int.reducePow], by simp (disch := first | omega | (simp only [lens, hc_len, hr_len, List.length_reverse, byteEs_len, byteEsC_len]; first | done | omega)) only [go_sem, Nat.reduceEqDiff, Nat.reduceBEq, Nat.reduceAdd, Nat.reduceMul, Nat.reduceSub, Nat.reduceLeDiff, Int.reduceToNat, Int.reducePow]; rfl, rfl⟩
    · rintro m ρ σ' ⟨i, hm, q0, q2, q5, q6, rfl⟩
      have hlen := ucells_len (s := s) (i := i) (by omega) h
      by_cases hi : i < 32
      · have hst := ucells_step hi h
        generalize ucells s i = cc at *
        repeat' (first | refine SWp.seq ?_ | refine SWp.block ?_ | refine SWp.scope ?_ | refine SWp.condT rfl ?_ | refine SWp.condF rfl ?_ | (refine SWp.condD rfl (fun ht => ?_) (fun ht => ?_) <;> try (exfalso; omega)) | ((first | refine SWp.reg ?_ | refine SWp.skip ?_ | refine SWp.exit ?_ | refine SWp.ret ?_ | ((first | apply splitG | apply splitGB | apply splitR | apply splitRB | apply splitE | apply splitEB | apply splitC | apply splitCB) <;> intro ht)); all_goals try simp (disch := first | omega | (simp only [lens, hc_len, hr_len, List.length_reverse, byteEs_len, byteEsC_len]; first | done | omega)) only [go_sem, Nat.reduceEqDiff, Nat.reduceBEq, Nat.reduceAdd, Nat.reduceMul, Nat.reduceSub, Nat.reduceLeDiff, Int.reduceToNat, Int.reducePow, q0, q2, q5, q6, hlen, hst, z32_len]))
        exact ⟨31 - i, by omega, i + 1, by omega, by simp, rfl⟩
      · obtain rfl : i = 32 := by omega
        rw [ucells_end] at *
        have hd : List.drop 32 z32 = [] := rfl
        repeat' (first | refine SWp.seq ?_ | refine SWp.block ?_ | refine SWp.scope ?_ | refine SWp.condT rfl ?_ | refine SWp.condF rfl ?_ | (refine SWp.condD rfl (fun ht => ?_) (fun ht => ?_) <;> try (exfalso; omega)) | ((first | refine SWp.reg ?_ | refine SWp.skip ?_ | refine SWp.exit ?_ | refine SWp.ret ?_ | ((first | apply splitG | apply splitGB | apply splitR | apply splitRB | apply splitE | apply splitEB | apply splitC | apply splitCB) <;> intro ht)); all_goals try simp (disch := first | omega | (simp only [lens, hc_len, hr_len, List.length_reverse, byteEs_len, byteEsC_len]; first | done | omega)) only [go_sem, Nat.reduceEqDiff, Nat.reduceBEq, Nat.reduceAdd, Nat.reduceMul, Nat.reduceSub, Nat.reduceLeDiff, Int.reduceToNat, Int.reducePow, q0, q2, q5, q6, hlen, hd, z32_len]))
        exact DownV.pure hw (rl_un (rl_bytes _))
  · rw [unS_none h, unV_none]
    have hd : List.drop 32 z32 = [] := rfl
    repeat' (first | refine SWp.seq ?_ | refine SWp.block ?_ | refine SWp.scope ?_ | refine SWp.condT rfl ?_ | refine SWp.condF rfl ?_ | (refine SWp.condD rfl (fun ht => ?_) (fun ht => ?_) <;> try (exfalso; omega)) | ((first | refine SWp.reg ?_ | refine SWp.skip ?_ | refine SWp.exit ?_ | refine SWp.ret ?_ | ((first | apply splitG | apply splitGB | apply splitR | apply splitRB | apply splitE | apply splitEB | apply splitC | apply splitCB) <;> intro ht)); all_goals try simp (disch := first | omega | (simp only [lens, hc_len, hr_len, List.length_reverse, byteEs_len, byteEsC_len]; first | done | omega)) only [go_sem, Nat.reduceEqDiff, Nat.reduceBEq, Nat.reduceAdd, Nat.reduceMul, Nat.reduceSub, Nat.reduceLeDiff, Int.reduceToNat, Int.reducePow, z32_len, hd]))
    exact DownV.pure hw (rl_un (cs := z32) (rl_bytes (List.replicate 32 0)))
end Am
end Go.Proofs.YthgcooppjhcgcaaDoor
end
section
set_option linter.unusedSimpArgs false
set_option linter.unusedVariables false
/- Codec: contracts: the list that stands ahead. -/
namespace Go.Proofs.YthgcooppjhcgcaaDoor
namespace Am
attribute [local irreducible] ACallsTo ACallsP
def hsAt (r : List UInt8) (i : Nat) : Hash := toH ((r.drop (32 * i)).take 32)
def hsOf (r : List UInt8) (n : Nat) : List Hash := (List.range n).map (hsAt r)
theorem hsOf_len (r : List UInt8) (n : Nat) : (hsOf r n).length = n := by simp [hsOf]
theorem hsOf_succ (r : List UInt8) (n : Nat) : hsOf r (n + 1) = hsOf r n ++ [hsAt r n] := by simp [hsOf, List.range_succ]
def unsS (s : List UInt8) : Option (List Hash × List UInt8) := (readS s).bind fun x => if x.1 ≤ 64 ∧ 32 * x.1 ≤ x.2.length then some (hsOf x.2 x.1, x.2.drop (32 * x.1)) else none
def unsV : Option (List Hash × List UInt8) → AV
  | none => .tup [.nilsl, .str [], .bool false]
  | some (l, r) => .tup [slVal 32 (hr l), .str r, .bool true]
theorem rl_nst {k : Nat} {r : List UInt8} {b : Bool} : RL k (.tup [.nilsl, .str r, .bool b]) := by simp only [RL, RLs]; exact ⟨trivial, trivial, trivial, trivial⟩
theorem un_at {r : List UInt8} {i : Nat} (h : 32 * i + 32 ≤ r.length) : unS (r.drop (32 * i)) = some (hsAt r i, r.drop (32 * (i + 1))) := by
  rw [unS_some (by rw [List.length_drop]; omega), List.drop_drop]; rfl
set_option maxHeartbeats 8000000 in
theorem codec_Unhashes_to (σ : Store) (s : List UInt8) (hs : s.length < 1000000000) : ACallsTo TC 105 [.str s] σ (unsV (unsS s)) σ := by
  refine ACallsTo.of_body codec_Unhashes_ok (by simp) fun hw _ => ?_
  have hR := fun σ => codec_Read_to σ s hs
  unfold unsS
  cases hrd : readS s with
  | none =>
    rw [hrd] at hR
    unfold rdV at hR
    simp only [Option.bind_none, unsV]
    repeat' (first | refine SWp.seq ?_ | refine SWp.block ?_ | refine SWp.scope ?_ | refine SWp.condT rfl ?_ | refine SWp.condF rfl ?_ | (refine SWp.condD rfl (fun ht => ?_) (fun ht => ?_) <;> try (exfalso; omega)) | ((first | refine SWp.reg ?_ | refine SWp.skip ?_ | refine SWp.exit ?_ | refine SWp.ret ?_ | (apply callW.mk_pu; (first | exact (fun _ => hR _))) | (apply callW.any; (first | exact (hR _))) | ((first | apply splitG | apply splitGB | apply splitR | apply splitRB | apply splitE | apply splitEB | apply splitC | apply splitCB) <;> intro ht)); all_goals try simp (disch := first | omega | (simp only [lens, hc_len, hr_len, List.length_reverse, byteEs_len, byteEsC_len, List.length_drop]; first | done | omega)) only [go_sem, Nat.reduceEqDiff, Nat.reduceBEq, Nat.reduceAdd, Nat.reduceMul, Nat.reduceSub, Nat.reduceLeDiff, Int.reduceToNat, Int.reducePow]))
    exact DownV.same hw rl_nst
  | some x =>
    obtain ⟨n, r⟩ := x
    obtain ⟨h1, h2⟩ := readS_lt hrd
    rw [hrd] at hR
    unfold rdV at hR
    simp only [Option.bind_some]
    by_cases hn : n ≤ 64
    · repeat' (first | refine SWp.seq ?_ | refine SWp.block ?_ | refine SWp.scope ?_ | refine SWp.condT rfl ?_ | refine SWp.condF rfl ?_ | (refine SWp.condD rfl (fun ht => ?_) (fun ht => ?_) <;> try (exfalso; omega)) | ((first | refine SWp.reg ?_ | refine SWp.skip ?_ | refine SWp.exit ?_ | refine SWp.ret ?_ | (apply callW.mk_pu; (first | exact (fun _ => hR _))) | (apply callW.any; (first | exact (hR _))) | ((first | apply splitG | apply splitGB | apply splitR | apply splitRB | apply splitE | apply splitEB | apply splitC | apply splitCB) <;> intro ht)); all_goals try simp (disch := first | omega | (simp only [lens, hc_len, hr_len, List.length_reverse, byteEs_len, byteEsC_len, List.length_drop]; first | done | omega)) only [go_sem, Nat.reduceEqDiff, Nat.reduceBEq, Nat.reduceAdd, Nat.reduceMul, Nat.reduceSub, Nat.reduceLeDiff, Int.reduceToNat, Int.reducePow]))
      refine SWp.loop (fun m ρ σ' => ∃ (i : Nat) (v : AV), m + i = n ∧ 32 * i ≤ r.length ∧ OwnR 32 σ.length σ' v (hr (hsOf r i)) ∧ Ext σ σ' ∧ ρ 2 = v ∧ ρ 3 = .str (r.drop (32 * i)) ∧ ρ 5 = .int .u64 m) n ?_ ?_
      · exact ⟨0, .nilsl, by omega, by omega, OwnR.nil, Ext.refl _, by simp (disch := first | omega | (simp only [lens, hc_len, hr_len, List.length_reverse, byteEs_len, byteEsC_len, List.length_drop]; first | done | omega)) only [go_sem, Nat.reduceEqDiff, Nat.reduceBEq, Nat.reduceAdd, Nat.reduceMul, Nat.reduceSub, Nat.reduceLeDiff, Int.reduceToNat, Int.reducePow], by simp (disch := first | omega | (simp only [lens, hc_len, hr_len, List.length_reverse, byteEs_len, byteEsC_len, List.length_drop]; first | done | omega)) only [go_sem, Nat.reduceEqDiff, Nat.reduceBEq, Nat.reduceAdd, Nat.reduceMul, Nat.reduceSub, Nat.reduceLeDiff, Int.reduceToNat, Int.reducePow], by simp (disch := first | omega | (simp only [lens, hc_len, hr_len, List.length_reverse, byteEs_len, byteEsC_len, List.length_drop]; first | done | omega)) only [go_sem, Nat.reduceEqDiff, Nat.reduceBEq, Nat.reduceAdd, Nat.reduceMul, Nat.reduceSub, Nat.reduceLeDiff, Int.reduceToNat, Int.reducePow]⟩
      · rintro m ρ σ' ⟨i, v, hm, hir, hO, he, q2, q3, q5⟩
        have hle := he.le
        by_cases hi : i < n
        · by_cases hlen : 32 * i + 32 ≤ r.length
          · have hU := fun σ => codec_Unhash_to σ (r.drop (32 * i)) (by rw [List.length_drop]; omega)
            rw [un_at hlen, unV_some] at hU
            have hss := hsOf_succ r i
            generalize hsAt r i = h at *
            obtain ⟨v', σ2, ha, hO2, hk2, hE2, hl2⟩ := (hO.more (y := [some [hc h]])).app (ys := [hc h]) (by simp; omega) (by simp) (by rw [hr_len, hsOf_len]; simp; omega)
            have hcat : hr (hsOf r i) ++ [hc h] = hr (hsOf r (i + 1)) := by rw [hss, hr_app]; rfl
            rw [hcat] at hO2
            have hm1 : (m : Int) - 1 = ((m - 1 : Nat) : Int) := by omega
            repeat' (first | refine SWp.seq ?_ | refine SWp.block ?_ | refine SWp.scope ?_ | refine SWp.condT rfl ?_ | refine SWp.condF rfl ?_ | (refine SWp.condD rfl (fun ht => ?_) (fun ht => ?_) <;> try (exfalso; omega)) | ((first | refine SWp.reg ?_ | refine SWp.skip ?_ | refine SWp.exit ?_ | refine SWp.ret ?_ | (apply callW.mk_pu; (first | exact (fun _ => hU _))) | (apply callW.any; (first | exact (hU _))) | ((first | apply splitG | apply splitGB | apply splitR | apply splitRB | apply splitE | apply splitEB | apply splitC | apply splitCB) <;> intro ht)); all_goals try simp (disch := first | omega | (simp only [lens, hc_len, hr_len, List.length_reverse, byteEs_len, byteEsC_len, List.length_drop]; first | done | omega)) only [go_sem, Nat.reduceEqDiff, Nat.reduceBEq, Nat.reduceAdd, Nat.reduceMul, Nat.reduceSub, Nat.reduceLeDiff, Int.reduceToNat, Int.reducePow, q2, q3, q5, ha, hm1]))
            exact ⟨m - 1, by omega, i + 1, v', by omega, by omega, hO2, hE2 σ (Nat.le_refl _) he.app, by simp⟩
          · have hU := fun σ => codec_Unhash_to σ (r.drop (32 * i)) (by rw [List.length_drop]; omega)
            rw [unS_none (by rw [List.length_drop]; omega), unV_none] at hU
            rw [if_neg (by omega)]
            simp only [unsV]
            have hzl := z32_len
            generalize z32 = z at *
            repeat' (first | refine SWp.seq ?_ | refine SWp.block ?_ | refine SWp.scope ?_ | refine SWp.condT rfl ?_ | refine SWp.condF rfl ?_ | (refine SWp.condD rfl (fun ht => ?_) (fun ht => ?_) <;> try (exfalso; omega)) | ((first | refine SWp.reg ?_ | refine SWp.skip ?_ | refine SWp.exit ?_ | refine SWp.ret ?_ | (apply callW.mk_pu; (first | exact (fun _ => hU _))) | (apply callW.any; (first | exact (hU _))) | ((first | apply splitG | apply splitGB | apply splitR | apply splitRB | apply splitE | apply splitEB | apply splitC | apply splitCB) <;> intro ht)); all_goals try simp (disch := first | omega | (simp only [lens, hc_len, hr_len, List.length_reverse, byteEs_len, byteEsC_len, List.length_drop]; first | done | omega)) only [go_sem, Nat.reduceEqDiff, Nat.reduceBEq, Nat.reduceAdd, Nat.reduceMul, Nat.reduceSub, Nat.reduceLeDiff, Int.reduceToNat, Int.reducePow, q2, q3, q5, hzl]))
            exact Ext.pure hw he.app rl_nst
        · obtain rfl : i = n := by omega
          obtain rfl : m = 0 := by omega
          rw [if_pos ⟨hn, hir⟩]
          simp only [unsV]
          repeat' (first | refine SWp.seq ?_ | refine SWp.block ?_ | refine SWp.scope ?_ | refine SWp.condT rfl ?_ | refine SWp.condF rfl ?_ | (refine SWp.condD rfl (fun ht => ?_) (fun ht => ?_) <;> try (exfalso; omega)) | ((first | refine SWp.reg ?_ | refine SWp.skip ?_ | refine SWp.exit ?_ | refine SWp.ret ?_ | ((first | apply splitG | apply splitGB | apply splitR | apply splitRB | apply splitE | apply splitEB | apply splitC | apply splitCB) <;> intro ht)); all_goals try simp (disch := first | omega | (simp only [lens, hc_len, hr_len, List.length_reverse, byteEs_len, byteEsC_len, List.length_drop]; first | done | omega)) only [go_sem, Nat.reduceEqDiff, Nat.reduceBEq, Nat.reduceAdd, Nat.reduceMul, Nat.reduceSub, Nat.reduceLeDiff, Int.reduceToNat, Int.reducePow, q2, q3, q5]))
          exact Ext.all hw he fun news e => drT (drsc (hO.fr e (Nat.le_refl _) (rlss_hr _)) (drsc (FrzD.same rl_str) (drs1 (FrzD.same rl_bool))))
    · rw [if_neg (by omega)]
      simp only [unsV]
      repeat' (first | refine SWp.seq ?_ | refine SWp.block ?_ | refine SWp.scope ?_ | refine SWp.condT rfl ?_ | refine SWp.condF rfl ?_ | (refine SWp.condD rfl (fun ht => ?_) (fun ht => ?_) <;> try (exfalso; omega)) | ((first | refine SWp.reg ?_ | refine SWp.skip ?_ | refine SWp.exit ?_ | refine SWp.ret ?_ | (apply callW.mk_pu; (first | exact (fun _ => hR _))) | (apply callW.any; (first | exact (hR _))) | ((first | apply splitG | apply splitGB | apply splitR | apply splitRB | apply splitE | apply splitEB | apply splitC | apply splitCB) <;> intro ht)); all_goals try simp (disch := first | omega | (simp only [lens, hc_len, hr_len, List.length_reverse, byteEs_len, byteEsC_len, List.length_drop]; first | done | omega)) only [go_sem, Nat.reduceEqDiff, Nat.reduceBEq, Nat.reduceAdd, Nat.reduceMul, Nat.reduceSub, Nat.reduceLeDiff, Int.reduceToNat, Int.reducePow]))
      exact DownV.same hw rl_nst
end Am
end Go.Proofs.YthgcooppjhcgcaaDoor
end
section
set_option linter.unusedSimpArgs false
set_option linter.unusedVariables false
/- Codec: contracts: the reference's list. -/
namespace Go.Proofs.YthgcooppjhcgcaaDoor
namespace Am
attribute [local irreducible] ACallsTo ACallsP
def catS (l : List Hash) : List UInt8 := (l.map (·.1)).flatten
def hashesS (l : List Hash) : List UInt8 := if 64 < l.length then [] else numS l.length ++ catS l
theorem catS_len : ∀ (l : List Hash), (catS l).length = 32 * l.length
  | [] => rfl
  | h :: l => by
    have := catS_len l
    simp only [catS, List.map_cons, List.flatten_cons, List.length_append, List.length_cons, h.2] at this ⊢
    omega
theorem catS_step {l : List Hash} {i : Nat} (h : i < l.length) : catS (l.take (i + 1)) = catS (l.take i) ++ (hd l i).1 := by
  rw [take_hd h]; simp [catS]
set_option maxHeartbeats 4000000 in
theorem refHashes_v (σ : Store) (l : List Hash) (x : AV) (hx : SlV 32 (hr l) x) (hl : l.length < 1000000) : ACallsTo TC 101 [x] σ (.str (hashesS l)) σ := by
  refine ACallsTo.of_body speculumref03_Hashes_ok (by simp) fun hw _ => ?_
  have r1 := hx.len
  rw [hr_len] at r1
  unfold rLenSl at r1
  unfold hashesS
  by_cases h64 : 64 < l.length
  · rw [if_pos h64]
    repeat' (first | refine SWp.seq ?_ | refine SWp.block ?_ | refine SWp.scope ?_ | refine SWp.condT rfl ?_ | refine SWp.condF rfl ?_ | (refine SWp.condD rfl (fun ht => ?_) (fun ht => ?_) <;> try (exfalso; omega)) | ((first | refine SWp.reg ?_ | refine SWp.skip ?_ | refine SWp.exit ?_ | refine SWp.ret ?_ | ((first | apply splitG | apply splitGB | apply splitR | apply splitRB | apply splitE | apply splitEB | apply splitC | apply splitCB) <;> intro ht)); all_goals try simp (disch := first | omega | (simp only [lens, hc_len, hr_len, List.length_reverse, byteEs_len, byteEsC_len, List.length_drop]; first | done | omega)) only [go_sem, Nat.reduceEqDiff, Nat.reduceBEq, Nat.reduceAdd, Nat.reduceMul, Nat.reduceSub, Nat.reduceLeDiff, Int.reduceToNat, Int.reducePow, r1]))
    exact DownV.same hw rl_str
  · rw [if_neg h64]
    have hN := fun σ => ref_Num_to σ l.length (by omega)
    have hNl := numS_le l.length
    generalize numS l.length = N at *
    repeat' (first | refine SWp.seq ?_ | refine SWp.block ?_ | refine SWp.scope ?_ | refine SWp.condT rfl ?_ | refine SWp.condF rfl ?_ | (refine SWp.condD rfl (fun ht => ?_) (fun ht => ?_) <;> try (exfalso; omega)) | ((first | refine SWp.reg ?_ | refine SWp.skip ?_ | refine SWp.exit ?_ | refine SWp.ret ?_ | (apply callW.mk_pu; (first | exact (fun _ => hN _))) | (apply callW.any; (first | exact (hN _))) | ((first | apply splitG | apply splitGB | apply splitR | apply splitRB | apply splitE | apply splitEB | apply splitC | apply splitCB) <;> intro ht)); all_goals try simp (disch := first | omega | (simp only [lens, hc_len, hr_len, List.length_reverse, byteEs_len, byteEsC_len, List.length_drop]; first | done | omega)) only [go_sem, Nat.reduceEqDiff, Nat.reduceBEq, Nat.reduceAdd, Nat.reduceMul, Nat.reduceSub, Nat.reduceLeDiff, Int.reduceToNat, Int.reducePow, r1]))
    refine SWp.loop (fun m ρ σ' => ∃ i : Nat, m + i = l.length ∧ σ' = σ ∧ ρ 0 = x ∧ ρ 3 = .str (N ++ catS (l.take i)) ∧ ρ 4 = .int .i64 i) l.length ?_ ?_
    · exact ⟨0, by omega, rfl, by simp (disch := first | omega | (simp only [lens, hc_len, hr_len, List.length_reverse, byteEs_len, byteEsC_len, List.length_drop]; first | done | omega)) only [go_sem, Nat.reduceEqDiff, Nat.reduceBEq, Nat.reduceAdd, Nat.reduceMul, Nat.reduceSub, Nat.reduceLeDiff, Int.reduceToNat, Int.reducePow], by simp (disch := first | omega | (simp only [lens, hc_len, hr_len, List.length_reverse, byteEs_len, byteEsC_len, List.length_drop]; first | done | omega)) only [go_sem, Nat.reduceEqDiff, Nat.reduceBEq, Nat.reduceAdd, Nat.reduceMul, Nat.reduceSub, Nat.reduceLeDiff, Int.reduceToNat, Int.reducePow]; simp [catS], by simp (disch := first | omega | (simp only [lens, hc_len, hr_len, List.length_reverse, byteEs_len, byteEsC_len, List.length_drop]; first | done | omega)) only [go_sem, Nat.reduceEqDiff, Nat.reduceBEq, Nat.reduceAdd, Nat.reduceMul, Nat.reduceSub, Nat.reduceLeDiff, Int.reduceToNat, Int.reducePow]; rfl⟩
    · rintro m ρ σ' ⟨i, hm, rfl, q0, q3, q4⟩
      by_cases hi : i < l.length
      · obtain ⟨e1, rfl⟩ := hx.vsl (by rw [hr_len]; omega)
        have hH := fun σ => ref_Hash_to σ (hd l i).1 (hd l i).2
        have hst := catS_step hi
        have hcl := catS_len (l.take i)
        rw [List.length_take] at hcl
        have hcl2 := (hd l i).2
        have hmin : min i l.length = i := by omega
        rw [hmin] at hcl
        unfold hc at *
        generalize hC : catS (l.take i) = C at *
        repeat' (first | refine SWp.seq ?_ | refine SWp.block ?_ | refine SWp.scope ?_ | refine SWp.condT rfl ?_ | refine SWp.condF rfl ?_ | (refine SWp.condD rfl (fun ht => ?_) (fun ht => ?_) <;> try (exfalso; omega)) | ((first | refine SWp.reg ?_ | refine SWp.skip ?_ | refine SWp.exit ?_ | refine SWp.ret ?_ | (apply callW.mk_pu; (first | exact (fun _ => hH _))) | (apply callW.any; (first | exact (hH _))) | ((first | apply splitG | apply splitGB | apply splitR | apply splitRB | apply splitE | apply splitEB | apply splitC | apply splitCB) <;> intro ht)); all_goals try simp (disch := first | omega | (simp only [lens, hc_len, hr_len, List.length_reverse, byteEs_len, byteEsC_len, List.length_drop]; first | done | omega)) only [go_sem, Nat.reduceEqDiff, Nat.reduceBEq, Nat.reduceAdd, Nat.reduceMul, Nat.reduceSub, Nat.reduceLeDiff, Int.reduceToNat, Int.reducePow, q0, q3, q4, hc]))
        exact ⟨m - 1, by omega, i + 1, by omega, by rw [hst], by simp⟩
      · have e : l.take i = l := List.take_of_length_le (by omega)
        rw [e] at q3
        repeat' (first | refine SWp.seq ?_ | refine SWp.block ?_ | refine SWp.scope ?_ | refine SWp.condT rfl ?_ | refine SWp.condF rfl ?_ | (refine SWp.condD rfl (fun ht => ?_) (fun ht => ?_) <;> try (exfalso; omega)) | ((first | refine SWp.reg ?_ | refine SWp.skip ?_ | refine SWp.exit ?_ | refine SWp.ret ?_ | ((first | apply splitG | apply splitGB | apply splitR | apply splitRB | apply splitE | apply splitEB | apply splitC | apply splitCB) <;> intro ht)); all_goals try simp (disch := first | omega | (simp only [lens, hc_len, hr_len, List.length_reverse, byteEs_len, byteEsC_len, List.length_drop]; first | done | omega)) only [go_sem, Nat.reduceEqDiff, Nat.reduceBEq, Nat.reduceAdd, Nat.reduceMul, Nat.reduceSub, Nat.reduceLeDiff, Int.reduceToNat, Int.reducePow, q0, q3, q4, r1]))
        exact DownV.same hw rl_str
theorem refHashes_to (σ : Store) (l : List Hash) (x : AV) (hx : RdSl σ 32 (hr l) x) (hl : l.length < 1000000) : ACallsTo TC 101 [x] σ (.str (hashesS l)) σ := by
  obtain ⟨x0, h0, hd⟩ := hx.lend (rlss_hr l)
  have := ACallsTo.lend glok (refHashes_v [] l x0 h0 hl) (drs1 hd)
  rwa [show sh σ.length (.str (hashesS l)) = .str (hashesS l) from rfl, shS_nil, List.append_nil] at this
end Am
end Go.Proofs.YthgcooppjhcgcaaDoor
end
section
set_option linter.unusedSimpArgs false
set_option linter.unusedVariables false
/- Abstract code. (Printed by wip/gen.) -/
set_option maxRecDepth 10000
namespace Go.Proofs.YthgcooppjhcgcaaDoor
namespace Am



@[go_sem] def paths_Check_r0 : List AIns := [
  ⟨some 5, none, .no, .box (.t 0)⟩,
  ⟨some 9, none, .no, .box (.t 4)⟩,
  ⟨some 10, none, .no, .mv (.v (.int .i64 (0)))⟩]
@[go_sem] def paths_Check_r1 : List AIns := [
  ⟨some 15, none, .no, .mv (.t 2)⟩,
  ⟨some 16, none, .no, .bin .lss .none (.t 15) (.v (.int .i64 (1)))⟩,
  ⟨some 17, none, .no, .mv (.t 16)⟩,
  ⟨some 18, some (17, false), .no, .mv (.t 2)⟩,
  ⟨some 19, some (17, false), .no, .bin .gtr .none (.t 18) (.v (.int .i64 (4096)))⟩,
  ⟨some 20, none, .no, .pick (.t 17) (.v (.bool true)) (.t 19)⟩,
  ⟨some 21, none, .no, .mv (.t 20)⟩,
  ⟨some 22, some (21, false), .no, .mv (.t 1)⟩,
  ⟨some 23, some (21, false), .no, .bin .lss .none (.t 22) (.v (.int .i64 (0)))⟩,
  ⟨some 24, none, .no, .pick (.t 21) (.v (.bool true)) (.t 23)⟩,
  ⟨some 25, none, .no, .mv (.t 24)⟩,
  ⟨some 26, some (25, false), .no, .mv (.t 1)⟩,
  ⟨some 27, some (25, false), .no, .mv (.t 2)⟩,
  ⟨some 28, some (25, false), .no, .bin .geq .none (.t 26) (.t 27)⟩,
  ⟨some 29, none, .no, .pick (.t 25) (.v (.bool true)) (.t 28)⟩]
@[go_sem] def paths_Check_r2 : List AIns := [
  ⟨some 10, none, .no, .mv (.v (.int .i64 (2)))⟩]
def paths_Check_c3 : ACode := .seq (.reg paths_Check_r2) .ret
def paths_Check_c4 : ACode := .cond (.t 29) paths_Check_c3 .skip
def paths_Check_c5 : ACode := .seq (.reg paths_Check_r1) paths_Check_c4
@[go_sem] def paths_Check_r6 : List AIns := [
  ⟨some 30, none, .no, .mv (.t 2)⟩,
  ⟨some 31, none, .no, .bin .sub .none (.t 30) (.v (.int .i64 (1)))⟩,
  ⟨some 11, none, .no, .mv (.t 31)⟩]
@[go_sem] def paths_Check_r7 : List AIns := [
  ⟨some 12, none, .no, .mv (.v (.int .i64 (0)))⟩]
@[go_sem] def paths_Check_r8 : List AIns := [
  ⟨some 32, none, .no, .mv (.t 3)⟩,
  ⟨some 33, none, .no, .lenSl (.t 32)⟩,
  ⟨some 34, none, .no, .mv (.v (.int .i64 (0)))⟩]
@[go_sem] def paths_Check_r9 : List AIns := [
  ⟨some 35, none, .no, .bin .lss .none (.t 34) (.t 33)⟩]
@[go_sem] def paths_Check_r10 : List AIns := [
  ⟨some 36, none, .no, .iaSl 32 (.t 32) (.t 34)⟩,
  ⟨some 37, none, .no, .load true 32 (.t 36)⟩,
  ⟨some 14, none, .no, .alloc [(.int .u8 (0)), (.int .u8 (0)), (.int .u8 (0)), (.int .u8 (0)), (.int .u8 (0)), (.int .u8 (0)), (.int .u8 (0)), (.int .u8 (0)), (.int .u8 (0)), (.int .u8 (0)), (.int .u8 (0)), (.int .u8 (0)), (.int .u8 (0)), (.int .u8 (0)), (.int .u8 (0)), (.int .u8 (0)), (.int .u8 (0)), (.int .u8 (0)), (.int .u8 (0)), (.int .u8 (0)), (.int .u8 (0)), (.int .u8 (0)), (.int .u8 (0)), (.int .u8 (0)), (.int .u8 (0)), (.int .u8 (0)), (.int .u8 (0)), (.int .u8 (0)), (.int .u8 (0)), (.int .u8 (0)), (.int .u8 (0)), (.int .u8 (0))]⟩,
  ⟨none, none, .no, .store 32 (.t 14) (.t 37)⟩]
@[go_sem] def paths_Check_r11 : List AIns := [
  ⟨some 38, none, .no, .mv (.t 11)⟩,
  ⟨some 39, none, .no, .bin .eql .none (.t 38) (.v (.int .i64 (0)))⟩]
def paths_Check_c12 : ACode := .cond (.t 39) (.exit 0) .skip
def paths_Check_c13 : ACode := .seq (.reg paths_Check_r11) paths_Check_c12
@[go_sem] def paths_Check_r14 : List AIns := [
  ⟨some 40, none, .no, .mv (.t 1)⟩,
  ⟨some 41, none, .no, .bin .rem .none (.t 40) (.v (.int .i64 (2)))⟩,
  ⟨some 42, none, .no, .bin .eql .none (.t 41) (.v (.int .i64 (1)))⟩,
  ⟨some 43, none, .no, .mv (.t 42)⟩,
  ⟨some 44, some (43, false), .no, .mv (.t 1)⟩,
  ⟨some 45, some (43, false), .no, .mv (.t 11)⟩,
  ⟨some 46, some (43, false), .no, .bin .eql .none (.t 44) (.t 45)⟩,
  ⟨some 47, none, .no, .pick (.t 43) (.v (.bool true)) (.t 46)⟩]
@[go_sem] def paths_Check_r15 : List AIns := [
  ⟨some 48, none, .no, .load true 32 (.t 14)⟩,
  ⟨some 49, none, .no, .load true 32 (.t 5)⟩,
  ⟨some 50, none, .no, .call (.v (.fn 81 [])) [(.t 48), (.t 49)]⟩,
  ⟨none, none, .no, .store 32 (.t 5) (.t 50)⟩]
@[go_sem] def paths_Check_r16 : List AIns := [
  ⟨some 51, none, .no, .mv (.t 1)⟩,
  ⟨some 52, none, .no, .bin .rem .none (.t 51) (.v (.int .i64 (2)))⟩,
  ⟨some 53, none, .no, .bin .eql .none (.t 52) (.v (.int .i64 (0)))⟩,
  ⟨some 54, none, .no, .mv (.t 53)⟩,
  ⟨some 55, some (54, true), .no, .mv (.t 1)⟩,
  ⟨some 56, some (54, true), .no, .bin .gtr .none (.t 55) (.v (.int .i64 (0)))⟩,
  ⟨some 57, none, .no, .pick (.t 54) (.t 56) (.v (.bool false))⟩]
def paths_Check_c17 : ACode := .cond (.t 57) .skip (.exit 2)
def paths_Check_c18 : ACode := .seq (.reg paths_Check_r16) paths_Check_c17
@[go_sem] def paths_Check_r19 : List AIns := [
  ⟨some 58, none, .no, .mv (.t 1)⟩,
  ⟨some 59, none, .no, .bin .quo .none (.t 58) (.v (.int .i64 (2)))⟩,
  ⟨some 60, none, .no, .mv (.t 11)⟩,
  ⟨some 61, none, .no, .bin .quo .none (.t 60) (.v (.int .i64 (2)))⟩,
  ⟨some 1, none, .no, .mv (.t 59)⟩,
  ⟨some 11, none, .no, .mv (.t 61)⟩]
def paths_Check_c20 : ACode := .block 3 (.reg paths_Check_r19)
def paths_Check_c21 : ACode := .seq paths_Check_c18 paths_Check_c20
def paths_Check_c22 : ACode := .loop paths_Check_c21
def paths_Check_c23 : ACode := .block 2 paths_Check_c22
def paths_Check_c24 : ACode := .seq (.reg paths_Check_r15) paths_Check_c23
@[go_sem] def paths_Check_r25 : List AIns := [
  ⟨some 62, none, .no, .load true 32 (.t 5)⟩,
  ⟨some 63, none, .no, .load true 32 (.t 14)⟩,
  ⟨some 64, none, .no, .call (.v (.fn 81 [])) [(.t 62), (.t 63)]⟩,
  ⟨none, none, .no, .store 32 (.t 5) (.t 64)⟩]
def paths_Check_c26 : ACode := .cond (.t 47) paths_Check_c24 (.reg paths_Check_r25)
def paths_Check_c27 : ACode := .seq (.reg paths_Check_r14) paths_Check_c26
@[go_sem] def paths_Check_r28 : List AIns := [
  ⟨some 65, none, .no, .mv (.t 1)⟩,
  ⟨some 66, none, .no, .bin .quo .none (.t 65) (.v (.int .i64 (2)))⟩,
  ⟨some 67, none, .no, .mv (.t 11)⟩,
  ⟨some 68, none, .no, .bin .quo .none (.t 67) (.v (.int .i64 (2)))⟩,
  ⟨some 1, none, .no, .mv (.t 66)⟩,
  ⟨some 11, none, .no, .mv (.t 68)⟩]
@[go_sem] def paths_Check_r29 : List AIns := [
  ⟨some 69, none, .no, .mv (.t 12)⟩,
  ⟨some 70, none, .no, .bin .add .none (.t 69) (.v (.int .i64 (1)))⟩,
  ⟨some 12, none, .no, .mv (.t 70)⟩]
def paths_Check_c30 : ACode := .seq (.reg paths_Check_r28) (.reg paths_Check_r29)
def paths_Check_c31 : ACode := .seq paths_Check_c27 paths_Check_c30
def paths_Check_c32 : ACode := .seq paths_Check_c13 paths_Check_c31
def paths_Check_c33 : ACode := .seq (.reg paths_Check_r10) paths_Check_c32
@[go_sem] def paths_Check_r34 : List AIns := [
  ⟨some 71, none, .no, .bin .add .none (.t 34) (.v (.int .i64 (1)))⟩,
  ⟨some 34, none, .no, .mv (.t 71)⟩]
def paths_Check_c35 : ACode := .seq (.block 1 paths_Check_c33) (.reg paths_Check_r34)
def paths_Check_c36 : ACode := .seq (.cond (.t 35) .skip (.exit 0)) paths_Check_c35
def paths_Check_c37 : ACode := .seq (.reg paths_Check_r9) paths_Check_c36
def paths_Check_c38 : ACode := .loop paths_Check_c37
def paths_Check_c39 : ACode := .block 0 paths_Check_c38
def paths_Check_c40 : ACode := .seq (.reg paths_Check_r8) paths_Check_c39
@[go_sem] def paths_Check_r41 : List AIns := [
  ⟨some 72, none, .no, .mv (.t 11)⟩,
  ⟨some 73, none, .no, .bin .neq .none (.t 72) (.v (.int .i64 (0)))⟩,
  ⟨some 74, none, .no, .mv (.t 73)⟩,
  ⟨some 75, some (74, false), .no, .mv (.t 12)⟩,
  ⟨some 76, some (74, false), .no, .mv (.t 3)⟩,
  ⟨some 77, some (74, false), .no, .lenSl (.t 76)⟩,
  ⟨some 78, some (74, false), .no, .bin .neq .none (.t 75) (.t 77)⟩,
  ⟨some 79, none, .no, .pick (.t 74) (.v (.bool true)) (.t 78)⟩,
  ⟨some 80, none, .no, .mv (.t 79)⟩,
  ⟨some 81, some (80, false), .no, .load true 32 (.t 5)⟩,
  ⟨some 82, some (80, false), .no, .load true 32 (.t 9)⟩,
  ⟨some 83, some (80, false), .no, .bin .neq (.agg (List.replicate 32 (.i .u8) ++ [])) (.t 81) (.t 82)⟩,
  ⟨some 84, none, .no, .pick (.t 80) (.v (.bool true)) (.t 83)⟩]
@[go_sem] def paths_Check_r42 : List AIns := [
  ⟨some 10, none, .no, .mv (.v (.int .i64 (80)))⟩]
def paths_Check_c43 : ACode := .seq (.reg paths_Check_r42) .ret
def paths_Check_c44 : ACode := .cond (.t 84) paths_Check_c43 .skip
def paths_Check_c45 : ACode := .seq (.reg paths_Check_r41) paths_Check_c44
@[go_sem] def paths_Check_r46 : List AIns := [
  ⟨some 10, none, .no, .mv (.v (.int .i64 (0)))⟩]
def paths_Check_c47 : ACode := .seq (.reg paths_Check_r46) .ret
def paths_Check_c48 : ACode := .seq paths_Check_c45 paths_Check_c47
def paths_Check_c49 : ACode := .seq paths_Check_c40 paths_Check_c48
def paths_Check_c50 : ACode := .seq .skip paths_Check_c49
def paths_Check_c51 : ACode := .seq (.reg paths_Check_r7) paths_Check_c50
def paths_Check_c52 : ACode := .seq (.reg paths_Check_r6) paths_Check_c51
def paths_Check_c53 : ACode := .seq paths_Check_c5 paths_Check_c52
def paths_Check_c54 : ACode := .scope paths_Check_c53
def paths_Check_c55 : ACode := .seq (.reg paths_Check_r0) paths_Check_c54
theorem paths_Check_ok : cFn TC 124 = some (85, [.t 10], paths_Check_c55) := by kernel_rfl

@[go_sem] def speculumref06_Check_r0 : List AIns := [
  ⟨some 5, none, .no, .box (.t 0)⟩,
  ⟨some 9, none, .no, .box (.t 4)⟩,
  ⟨some 10, none, .no, .mv (.v (.int .i64 (0)))⟩]
@[go_sem] def speculumref06_Check_r1 : List AIns := [
  ⟨some 13, none, .no, .mv (.t 2)⟩,
  ⟨some 14, none, .no, .bin .lss .none (.t 13) (.v (.int .i64 (1)))⟩,
  ⟨some 15, none, .no, .mv (.t 14)⟩,
  ⟨some 16, some (15, false), .no, .mv (.t 2)⟩,
  ⟨some 17, some (15, false), .no, .bin .gtr .none (.t 16) (.v (.int .i64 (4096)))⟩,
  ⟨some 18, none, .no, .pick (.t 15) (.v (.bool true)) (.t 17)⟩,
  ⟨some 19, none, .no, .mv (.t 18)⟩,
  ⟨some 20, some (19, false), .no, .mv (.t 1)⟩,
  ⟨some 21, some (19, false), .no, .bin .lss .none (.t 20) (.v (.int .i64 (0)))⟩,
  ⟨some 22, none, .no, .pick (.t 19) (.v (.bool true)) (.t 21)⟩,
  ⟨some 23, none, .no, .mv (.t 22)⟩,
  ⟨some 24, some (23, false), .no, .mv (.t 1)⟩,
  ⟨some 25, some (23, false), .no, .mv (.t 2)⟩,
  ⟨some 26, some (23, false), .no, .bin .geq .none (.t 24) (.t 25)⟩,
  ⟨some 27, none, .no, .pick (.t 23) (.v (.bool true)) (.t 26)⟩]
@[go_sem] def speculumref06_Check_r2 : List AIns := [
  ⟨some 10, none, .no, .mv (.v (.int .i64 (2)))⟩]
def speculumref06_Check_c3 : ACode := .seq (.reg speculumref06_Check_r2) .ret
def speculumref06_Check_c4 : ACode := .cond (.t 27) speculumref06_Check_c3 .skip
def speculumref06_Check_c5 : ACode := .seq (.reg speculumref06_Check_r1) speculumref06_Check_c4
@[go_sem] def speculumref06_Check_r6 : List AIns := [
  ⟨some 29, none, .no, .load true 32 (.t 5)⟩,
  ⟨some 30, none, .no, .mv (.t 1)⟩,
  ⟨some 31, none, .no, .mv (.t 2)⟩,
  ⟨some 32, none, .no, .mv (.t 3)⟩,
  ⟨some 33, none, .no, .call (.v (.fn 161 [])) [(.t 29), (.t 30), (.t 31), (.t 32)]⟩,
  ⟨some 28, none, .no, .mv (.t 33)⟩,
  ⟨some 34, none, .no, .ext 0 (.t 28)⟩,
  ⟨some 35, none, .no, .ext 1 (.t 28)⟩,
  ⟨some 11, none, .no, .alloc [(.int .u8 (0)), (.int .u8 (0)), (.int .u8 (0)), (.int .u8 (0)), (.int .u8 (0)), (.int .u8 (0)), (.int .u8 (0)), (.int .u8 (0)), (.int .u8 (0)), (.int .u8 (0)), (.int .u8 (0)), (.int .u8 (0)), (.int .u8 (0)), (.int .u8 (0)), (.int .u8 (0)), (.int .u8 (0)), (.int .u8 (0)), (.int .u8 (0)), (.int .u8 (0)), (.int .u8 (0)), (.int .u8 (0)), (.int .u8 (0)), (.int .u8 (0)), (.int .u8 (0)), (.int .u8 (0)), (.int .u8 (0)), (.int .u8 (0)), (.int .u8 (0)), (.int .u8 (0)), (.int .u8 (0)), (.int .u8 (0)), (.int .u8 (0))]⟩,
  ⟨none, none, .no, .store 32 (.t 11) (.t 34)⟩,
  ⟨some 12, none, .no, .mv (.t 35)⟩]
@[go_sem] def speculumref06_Check_r7 : List AIns := [
  ⟨some 36, none, .no, .mv (.t 12)⟩,
  ⟨some 37, none, .no, .un .not (.t 36)⟩,
  ⟨some 38, none, .no, .mv (.t 37)⟩,
  ⟨some 39, some (38, false), .no, .load true 32 (.t 11)⟩,
  ⟨some 40, some (38, false), .no, .load true 32 (.t 9)⟩,
  ⟨some 41, some (38, false), .no, .bin .neq (.agg (List.replicate 32 (.i .u8) ++ [])) (.t 39) (.t 40)⟩,
  ⟨some 42, none, .no, .pick (.t 38) (.v (.bool true)) (.t 41)⟩]
@[go_sem] def speculumref06_Check_r8 : List AIns := [
  ⟨some 10, none, .no, .mv (.v (.int .i64 (80)))⟩]
def speculumref06_Check_c9 : ACode := .seq (.reg speculumref06_Check_r8) .ret
def speculumref06_Check_c10 : ACode := .cond (.t 42) speculumref06_Check_c9 .skip
def speculumref06_Check_c11 : ACode := .seq (.reg speculumref06_Check_r7) speculumref06_Check_c10
@[go_sem] def speculumref06_Check_r12 : List AIns := [
  ⟨some 10, none, .no, .mv (.v (.int .i64 (0)))⟩]
def speculumref06_Check_c13 : ACode := .seq (.reg speculumref06_Check_r12) .ret
def speculumref06_Check_c14 : ACode := .seq speculumref06_Check_c11 speculumref06_Check_c13
def speculumref06_Check_c15 : ACode := .seq (.reg speculumref06_Check_r6) speculumref06_Check_c14
def speculumref06_Check_c16 : ACode := .seq speculumref06_Check_c5 speculumref06_Check_c15
def speculumref06_Check_c17 : ACode := .seq (.reg speculumref06_Check_r0) speculumref06_Check_c16
theorem speculumref06_Check_ok : cFn TC 126 = some (43, [.t 10], speculumref06_Check_c17) := by kernel_rfl

@[go_sem] def speculumref06_come_r0 : List AIns := [
  ⟨some 4, none, .no, .box (.t 0)⟩,
  ⟨some 8, none, .no, .alloc [(.int .u8 (0)), (.int .u8 (0)), (.int .u8 (0)), (.int .u8 (0)), (.int .u8 (0)), (.int .u8 (0)), (.int .u8 (0)), (.int .u8 (0)), (.int .u8 (0)), (.int .u8 (0)), (.int .u8 (0)), (.int .u8 (0)), (.int .u8 (0)), (.int .u8 (0)), (.int .u8 (0)), (.int .u8 (0)), (.int .u8 (0)), (.int .u8 (0)), (.int .u8 (0)), (.int .u8 (0)), (.int .u8 (0)), (.int .u8 (0)), (.int .u8 (0)), (.int .u8 (0)), (.int .u8 (0)), (.int .u8 (0)), (.int .u8 (0)), (.int .u8 (0)), (.int .u8 (0)), (.int .u8 (0)), (.int .u8 (0)), (.int .u8 (0))]⟩,
  ⟨some 9, none, .no, .mv (.v (.bool false))⟩]
@[go_sem] def speculumref06_come_r1 : List AIns := [
  ⟨some 17, none, .no, .mv (.t 2)⟩,
  ⟨some 18, none, .no, .bin .eql .none (.t 17) (.v (.int .i64 (1)))⟩]
@[go_sem] def speculumref06_come_r2 : List AIns := [
  ⟨some 19, none, .no, .load true 32 (.t 4)⟩,
  ⟨some 20, none, .no, .mv (.t 3)⟩,
  ⟨some 21, none, .no, .lenSl (.t 20)⟩,
  ⟨some 22, none, .no, .bin .eql .none (.t 21) (.v (.int .i64 (0)))⟩,
  ⟨none, none, .no, .store 32 (.t 8) (.t 19)⟩,
  ⟨some 9, none, .no, .mv (.t 22)⟩]
def speculumref06_come_c3 : ACode := .seq (.reg speculumref06_come_r2) .ret
def speculumref06_come_c4 : ACode := .cond (.t 18) speculumref06_come_c3 .skip
def speculumref06_come_c5 : ACode := .seq (.reg speculumref06_come_r1) speculumref06_come_c4
@[go_sem] def speculumref06_come_r6 : List AIns := [
  ⟨some 23, none, .no, .mv (.t 3)⟩,
  ⟨some 24, none, .no, .lenSl (.t 23)⟩,
  ⟨some 25, none, .no, .bin .eql .none (.t 24) (.v (.int .i64 (0)))⟩]
@[go_sem] def speculumref06_come_r7 : List AIns := [
  ⟨some 26, none, .no, .load true 32 (.t 4)⟩,
  ⟨none, none, .no, .store 32 (.t 8) (.t 26)⟩,
  ⟨some 9, none, .no, .mv (.v (.bool false))⟩]
def speculumref06_come_c8 : ACode := .seq (.reg speculumref06_come_r7) .ret
def speculumref06_come_c9 : ACode := .cond (.t 25) speculumref06_come_c8 .skip
def speculumref06_come_c10 : ACode := .seq (.reg speculumref06_come_r6) speculumref06_come_c9
@[go_sem] def speculumref06_come_r11 : List AIns := [
  ⟨some 27, none, .no, .mv (.t 2)⟩,
  ⟨some 28, none, .ef, .call (.v (.fn 137 [])) [(.t 27)]⟩,
  ⟨some 29, none, .no, .mv (.t 3)⟩,
  ⟨some 30, none, .no, .mv (.t 3)⟩,
  ⟨some 31, none, .no, .lenSl (.t 30)⟩,
  ⟨some 32, none, .no, .bin .sub .none (.t 31) (.v (.int .i64 (1)))⟩,
  ⟨some 33, none, .no, .iaSl 32 (.t 29) (.t 32)⟩,
  ⟨some 34, none, .rd, .load true 32 (.t 33)⟩,
  ⟨some 11, none, .ef, .alloc [(.int .u8 (0)), (.int .u8 (0)), (.int .u8 (0)), (.int .u8 (0)), (.int .u8 (0)), (.int .u8 (0)), (.int .u8 (0)), (.int .u8 (0)), (.int .u8 (0)), (.int .u8 (0)), (.int .u8 (0)), (.int .u8 (0)), (.int .u8 (0)), (.int .u8 (0)), (.int .u8 (0)), (.int .u8 (0)), (.int .u8 (0)), (.int .u8 (0)), (.int .u8 (0)), (.int .u8 (0)), (.int .u8 (0)), (.int .u8 (0)), (.int .u8 (0)), (.int .u8 (0)), (.int .u8 (0)), (.int .u8 (0)), (.int .u8 (0)), (.int .u8 (0)), (.int .u8 (0)), (.int .u8 (0)), (.int .u8 (0)), (.int .u8 (0))]⟩,
  ⟨some 10, none, .no, .mv (.t 28)⟩,
  ⟨none, none, .no, .store 32 (.t 11) (.t 34)⟩]
@[go_sem] def speculumref06_come_r12 : List AIns := [
  ⟨some 27, none, .no, .mv (.t 2)⟩,
  ⟨some 11, none, .ef, .alloc [(.int .u8 (0)), (.int .u8 (0)), (.int .u8 (0)), (.int .u8 (0)), (.int .u8 (0)), (.int .u8 (0)), (.int .u8 (0)), (.int .u8 (0)), (.int .u8 (0)), (.int .u8 (0)), (.int .u8 (0)), (.int .u8 (0)), (.int .u8 (0)), (.int .u8 (0)), (.int .u8 (0)), (.int .u8 (0)), (.int .u8 (0)), (.int .u8 (0)), (.int .u8 (0)), (.int .u8 (0)), (.int .u8 (0)), (.int .u8 (0)), (.int .u8 (0)), (.int .u8 (0)), (.int .u8 (0)), (.int .u8 (0)), (.int .u8 (0)), (.int .u8 (0)), (.int .u8 (0)), (.int .u8 (0)), (.int .u8 (0)), (.int .u8 (0))]⟩,
  ⟨some 28, none, .ef, .call (.v (.fn 137 [])) [(.t 27)]⟩,
  ⟨some 29, none, .no, .mv (.t 3)⟩,
  ⟨some 30, none, .no, .mv (.t 3)⟩,
  ⟨some 31, none, .no, .lenSl (.t 30)⟩,
  ⟨some 32, none, .no, .bin .sub .none (.t 31) (.v (.int .i64 (1)))⟩,
  ⟨some 33, none, .no, .iaSl 32 (.t 29) (.t 32)⟩,
  ⟨some 34, none, .rd, .load true 32 (.t 33)⟩,
  ⟨some 10, none, .no, .mv (.t 28)⟩,
  ⟨none, none, .no, .store 32 (.t 11) (.t 34)⟩]
@[go_sem] def speculumref06_come_r13 : List AIns := [
  ⟨some 35, none, .no, .mv (.t 3)⟩,
  ⟨some 36, none, .no, .mv (.t 3)⟩,
  ⟨some 37, none, .no, .lenSl (.t 36)⟩,
  ⟨some 38, none, .no, .bin .sub .none (.t 37) (.v (.int .i64 (1)))⟩,
  ⟨some 39, none, .no, .slice (.sl 32) (.t 35) none (some (.t 38)) none⟩,
  ⟨some 12, none, .no, .mv (.t 39)⟩]
@[go_sem] def speculumref06_come_r14 : List AIns := [
  ⟨some 40, none, .no, .mv (.t 1)⟩,
  ⟨some 41, none, .no, .mv (.t 10)⟩,
  ⟨some 42, none, .no, .bin .lss .none (.t 40) (.t 41)⟩]
@[go_sem] def speculumref06_come_r15 : List AIns := [
  ⟨some 44, none, .no, .load true 32 (.t 4)⟩,
  ⟨some 45, none, .no, .mv (.t 1)⟩,
  ⟨some 46, none, .no, .mv (.t 10)⟩,
  ⟨some 47, none, .no, .mv (.t 12)⟩,
  ⟨some 48, none, .no, .call (.v (.fn 161 [])) [(.t 44), (.t 45), (.t 46), (.t 47)]⟩,
  ⟨some 43, none, .no, .mv (.t 48)⟩,
  ⟨some 49, none, .no, .ext 0 (.t 43)⟩,
  ⟨some 50, none, .no, .ext 1 (.t 43)⟩,
  ⟨some 13, none, .no, .alloc [(.int .u8 (0)), (.int .u8 (0)), (.int .u8 (0)), (.int .u8 (0)), (.int .u8 (0)), (.int .u8 (0)), (.int .u8 (0)), (.int .u8 (0)), (.int .u8 (0)), (.int .u8 (0)), (.int .u8 (0)), (.int .u8 (0)), (.int .u8 (0)), (.int .u8 (0)), (.int .u8 (0)), (.int .u8 (0)), (.int .u8 (0)), (.int .u8 (0)), (.int .u8 (0)), (.int .u8 (0)), (.int .u8 (0)), (.int .u8 (0)), (.int .u8 (0)), (.int .u8 (0)), (.int .u8 (0)), (.int .u8 (0)), (.int .u8 (0)), (.int .u8 (0)), (.int .u8 (0)), (.int .u8 (0)), (.int .u8 (0)), (.int .u8 (0))]⟩,
  ⟨none, none, .no, .store 32 (.t 13) (.t 49)⟩,
  ⟨some 14, none, .no, .mv (.t 50)⟩]
@[go_sem] def speculumref06_come_r16 : List AIns := [
  ⟨some 51, none, .no, .load true 32 (.t 13)⟩,
  ⟨some 52, none, .no, .load true 32 (.t 11)⟩,
  ⟨some 53, none, .no, .call (.v (.fn 89 [])) [(.t 51), (.t 52)]⟩,
  ⟨some 54, none, .no, .mv (.t 14)⟩,
  ⟨none, none, .no, .store 32 (.t 8) (.t 53)⟩,
  ⟨some 9, none, .no, .mv (.t 54)⟩]
def speculumref06_come_c17 : ACode := .seq (.reg speculumref06_come_r16) .ret
def speculumref06_come_c18 : ACode := .seq (.reg speculumref06_come_r15) speculumref06_come_c17
def speculumref06_come_c19 : ACode := .cond (.t 42) speculumref06_come_c18 .skip
def speculumref06_come_c20 : ACode := .seq (.reg speculumref06_come_r14) speculumref06_come_c19
@[go_sem] def speculumref06_come_r21 : List AIns := [
  ⟨some 56, none, .no, .load true 32 (.t 4)⟩,
  ⟨some 57, none, .no, .mv (.t 1)⟩,
  ⟨some 58, none, .no, .mv (.t 10)⟩,
  ⟨some 59, none, .no, .bin .sub .none (.t 57) (.t 58)⟩,
  ⟨some 60, none, .no, .mv (.t 2)⟩,
  ⟨some 61, none, .no, .mv (.t 10)⟩,
  ⟨some 62, none, .no, .bin .sub .none (.t 60) (.t 61)⟩,
  ⟨some 63, none, .no, .mv (.t 12)⟩,
  ⟨some 64, none, .no, .call (.v (.fn 161 [])) [(.t 56), (.t 59), (.t 62), (.t 63)]⟩,
  ⟨some 55, none, .no, .mv (.t 64)⟩,
  ⟨some 65, none, .no, .ext 0 (.t 55)⟩,
  ⟨some 66, none, .no, .ext 1 (.t 55)⟩,
  ⟨some 15, none, .no, .alloc [(.int .u8 (0)), (.int .u8 (0)), (.int .u8 (0)), (.int .u8 (0)), (.int .u8 (0)), (.int .u8 (0)), (.int .u8 (0)), (.int .u8 (0)), (.int .u8 (0)), (.int .u8 (0)), (.int .u8 (0)), (.int .u8 (0)), (.int .u8 (0)), (.int .u8 (0)), (.int .u8 (0)), (.int .u8 (0)), (.int .u8 (0)), (.int .u8 (0)), (.int .u8 (0)), (.int .u8 (0)), (.int .u8 (0)), (.int .u8 (0)), (.int .u8 (0)), (.int .u8 (0)), (.int .u8 (0)), (.int .u8 (0)), (.int .u8 (0)), (.int .u8 (0)), (.int .u8 (0)), (.int .u8 (0)), (.int .u8 (0)), (.int .u8 (0))]⟩,
  ⟨none, none, .no, .store 32 (.t 15) (.t 65)⟩,
  ⟨some 16, none, .no, .mv (.t 66)⟩]
@[go_sem] def speculumref06_come_r22 : List AIns := [
  ⟨some 67, none, .no, .load true 32 (.t 11)⟩,
  ⟨some 68, none, .no, .load true 32 (.t 15)⟩,
  ⟨some 69, none, .no, .call (.v (.fn 89 [])) [(.t 67), (.t 68)]⟩,
  ⟨some 70, none, .no, .mv (.t 16)⟩,
  ⟨none, none, .no, .store 32 (.t 8) (.t 69)⟩,
  ⟨some 9, none, .no, .mv (.t 70)⟩]
def speculumref06_come_c23 : ACode := .seq (.reg speculumref06_come_r22) .ret
def speculumref06_come_c24 : ACode := .seq (.reg speculumref06_come_r21) speculumref06_come_c23
def speculumref06_come_c25 : ACode := .seq speculumref06_come_c20 speculumref06_come_c24
def speculumref06_come_c26 : ACode := .seq (.reg speculumref06_come_r13) speculumref06_come_c25
def speculumref06_come_c27 : ACode := .seq (.reg2 speculumref06_come_r11 speculumref06_come_r12) speculumref06_come_c26
def speculumref06_come_c28 : ACode := .seq speculumref06_come_c10 speculumref06_come_c27
def speculumref06_come_c29 : ACode := .seq speculumref06_come_c5 speculumref06_come_c28
def speculumref06_come_c30 : ACode := .seq (.reg speculumref06_come_r0) speculumref06_come_c29
theorem speculumref06_come_ok : cFn TC 161 = some (71, [.c 8 true 32, .t 9], speculumref06_come_c30) := by kernel_rfl
end Am
end Go.Proofs.YthgcooppjhcgcaaDoor
end
