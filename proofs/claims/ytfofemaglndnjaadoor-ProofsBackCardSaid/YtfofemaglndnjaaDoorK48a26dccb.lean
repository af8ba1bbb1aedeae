import Derived.Test.YtfofemaglndnjaaDoorK36206dcf8
section
set_option linter.unusedSimpArgs false
set_option linter.unusedVariables false
/- SHA-256: contracts: strings.Repeat (off the shelf), filled, Sum. -/
set_option linter.unusedSimpArgs false
set_option linter.unusedVariables false
namespace Go.Proofs.YtfofemaglndnjaaDoor
namespace Am
open Go.RowKit
/-- A hash's cells. -/
def byteEsC (l : List UInt8) : List AV := l.map fun b => .int .u8 b.toNat
theorem rl_bytes {k : Nat} : ∀ (l : List UInt8), RLs k (byteEsC l)
  | [] => by simp [byteEsC, RLs]
  | _ :: l => by have := rl_bytes (k := k) l; simp only [byteEsC] at this; simp [byteEsC, RLs, RL, this]
theorem Rel.below {C : Ctx} {γ : Places} {σ : Store} {w w' : World} (h : Rel C γ σ w) (hb : Below w.heap.size w w') : Step γ w γ w' ∧ Rel C γ σ w' := by
  have hs : Step γ w γ w' := ⟨fun r fl pl h => ⟨fl, h⟩, hb.size, fun b hb' _ => hb.block b hb', fun r pl h => .inl ⟨r, pl, h, rfl⟩, hb.os, hb.tape, hb.output⟩
  refine ⟨hs, h.len, fun r o hr => ?_, h.dead, h.inj, fun g cs hg => (h.gl g cs hg).mono hs⟩
  obtain ⟨pl, h1, h2⟩ := h.alive r o hr
  exact ⟨pl, h1, h2.mono hs (hb.block _ h2.lt)⟩
/-- A contract that lies elsewhere: the call leaves what was there. -/
theorem ACallsTo.of_calls {C : Ctx} {f : FuncId} {args : List AV} {σ : Store} {v : AV} (hc : (cFn C f).isSome = true)
    (h : ∀ (γ : Places) (w : World) (cargs : List Value), VRt γ w args cargs → Calls C.P f cargs.toArray w fun e w' => ∃ cv, e = .returned cv ∧ VR γ w' v cv ∧ Below w.heap.size w w') : ACallsTo C f args σ v σ := by
  obtain ⟨e, hc⟩ := Option.isSome_iff_exists.1 hc
  simp only [cFn, Option.bind_eq_some_iff] at hc
  obtain ⟨fn, hf, hc⟩ := hc
  split at hc
  · cases hc
  · rename_i hname
    simp only [Option.bind_eq_some_iff, Option.map_eq_some_iff] at hc
    obtain ⟨c, hb, _⟩ := hc
    intro γ w cargs hR ha
    left
    constructor
    · have h1 : fn.name ≠ "runtime.NumGoroutine" := by simpa using hname
      simp [callFunc, hf, h1, hb]
    · refine (h γ w cargs ha).mono ?_
      rintro e w' ⟨cv, rfl, hv, hbl⟩
      obtain ⟨s1, s2⟩ := hR.below hbl
      exact ⟨cv, γ, rfl, s1, s2, hv⟩
theorem repeatL_rep (b : UInt8) : ∀ n, Lib.repeatL [b] n = List.replicate n b := by
  intro n
  induction n with
  | zero => simp [Lib.repeatL]
  | succ n ih => simp [Lib.repeatL, List.replicate_succ] at ih ⊢ <;> simp [ih]
theorem repeat_to (σ : Store) (b : UInt8) (c : Nat) (h : c ≤ 1000000) : ACallsTo TC 135 [.str [b], .int .i64 c] σ (.str (List.replicate c b)) σ := by
  refine ACallsTo.of_calls (by kernel_rfl) ?_
  intro γ w cargs ha
  simp only [VRt, VR] at ha
  obtain ⟨_, _, rfl, rfl, _, _, rfl, rfl, rfl⟩ := ha
  refine (Tryd.strings_Repeat ⟨[b].toArray⟩ c w (by omega) (by simp [ByteArray.size]; omega)).mono ?_
  rintro e w' ⟨rfl, hb⟩
  refine ⟨_, rfl, ?_, hb⟩
  simp only [VR]
  rw [repeatL_rep]
theorem filled_to (σ : Store) (s : List UInt8) (h : s.length < 1000000000000) : ACallsTo TC 117 [.str s] σ (.str (padS s)) σ := by
  refine ACallsTo.of_body sha_filled_ok (by simp) fun hw _ => ?_
  obtain ⟨z, hz⟩ : ∃ z : Nat, z = (119 - s.length % 64) % 64 := ⟨_, rfl⟩
  have hz64 : z < 64 := by rw [hz]; exact Nat.mod_lt _ (by decide)
  have hz2 : (119 - (s.length : Int) % 64) % 64 = z := by omega
  have hp : putS ((s.length : Int) * 8) 8 = be 8 (s.length * 8) := by
    unfold putS
    rw [if_pos (by omega)]
    rfl
  have hpl : (be 8 (s.length * 8)).length = 8 := be_length _ _
  repeat' (first | (apply callW.any; (first | exact (repeat_to _ 0 z (by omega)) | exact (bits_Put_to _ ((s.length : Int) * 8) 8 (by omega) (by omega))); all_goals try (simp (disch := first | omega | (simp only [List.length_set, List.length_append, List.length_cons, List.length_nil, List.length_map]; omega)) only [go_sem, Nat.reduceEqDiff, Nat.reduceBEq, Nat.reduceAdd, Nat.reduceMul, Nat.reduceSub, Nat.reduceLeDiff, Int.reduceToNat, Int.reducePow, hz2, hp, hpl, List.length_replicate])) | refine SWp.seq ?_ | refine SWp.block ?_ | refine SWp.scope ?_ | (refine SWp.reg ?_; (simp (disch := first | omega | (simp only [List.length_set, List.length_append, List.length_cons, List.length_nil, List.length_map]; omega)) only [go_sem, Nat.reduceEqDiff, Nat.reduceBEq, Nat.reduceAdd, Nat.reduceMul, Nat.reduceSub, Nat.reduceLeDiff, Int.reduceToNat, Int.reducePow, hz2, hp, hpl, List.length_replicate])) | refine SWp.condT rfl ?_ | refine SWp.condF rfl ?_ | (refine SWp.condD rfl (fun ht => ?_) (fun ht => ?_) <;> try (exfalso; omega)) | ((first | refine SWp.skip ?_ | refine SWp.exit ?_ | refine SWp.ret ?_); try (simp (disch := first | omega | (simp only [List.length_set, List.length_append, List.length_cons, List.length_nil, List.length_map]; omega)) only [go_sem, Nat.reduceEqDiff, Nat.reduceBEq, Nat.reduceAdd, Nat.reduceMul, Nat.reduceSub, Nat.reduceLeDiff, Int.reduceToNat, Int.reducePow, hz2, hp, hpl, List.length_replicate])) | ((first | refine splitG (fun ht => ?_) (fun ht => ?_) | refine splitGB (fun ht => ?_) (fun ht => ?_) | refine splitR (fun ht => ?_) (fun ht => ?_) | refine splitRB (fun ht => ?_) (fun ht => ?_) | refine splitE (fun ht => ?_) (fun ht => ?_) | refine splitEB (fun ht => ?_) (fun ht => ?_) | refine splitC (fun ht => ?_) (fun ht => ?_) | refine splitCB (fun ht => ?_) (fun ht => ?_)) <;> (simp (disch := first | omega | (simp only [List.length_set, List.length_append, List.length_cons, List.length_nil, List.length_map]; omega)) only [go_sem, Nat.reduceEqDiff, Nat.reduceBEq, Nat.reduceAdd, Nat.reduceMul, Nat.reduceSub, Nat.reduceLeDiff, Int.reduceToNat, Int.reducePow, hz2, hp, hpl, List.length_replicate])))
  have e : s ++ ([128] ++ (List.replicate z 0 ++ be 8 (s.length * 8))) = padS s := by unfold padS; rw [← hz]; rfl
  rw [show s ++ 128 :: (List.replicate z 0 ++ be 8 (s.length * 8)) = padS s by unfold padS; rw [← hz]]
  exact DownV.same hw (rlB_ok _ rfl)
theorem padS_len (s : List UInt8) : (padS s).length % 64 = 0 ∧ (padS s).length < s.length + 80 := by
  unfold padS
  simp only [List.length_append, List.length_cons, List.length_replicate, be_length]
  omega
theorem gl_first : gl_sha_first = v0.c8 := rfl
theorem put4 (x : W) : putS (x.toNat : Int) 4 = be 4 x.toNat := by
  unfold putS
  rw [if_pos (by omega)]
  rfl
theorem mix_c8 (σ : Store) (v : V8) (s : List UInt8) (h : 64 ≤ s.length) (hs : s.length < 9223372036854775808) : ACallsTo TC 118 [.agg v.c8, .str s] σ (.agg (mixS v s).c8) σ := mix_to σ v s h hs
theorem flat_take {l : List W} {j : Nat} (h : j < l.length) : (l.flatMap fun x => be 4 x.toNat).take (4 * j) ++ be 4 (l[j]).toNat = (l.flatMap fun x => be 4 x.toNat).take (4 * (j + 1)) := by
  induction l generalizing j with
  | nil => simp at h
  | cons x l ih =>
    have hb : (be 4 x.toNat).length = 4 := be_length _ _
    rw [List.flatMap_cons]
    cases j with
    | zero =>
      simp only [Nat.mul_zero, List.take_zero, List.nil_append, List.getElem_cons_zero, Nat.zero_add, Nat.mul_one]
      rw [List.take_append_of_le_length (by omega), List.take_of_length_le (by omega)]
    | succ j =>
      simp only [List.length_cons] at h
      have e1 : (be 4 x.toNat).take (4 * (j + 1)) = be 4 x.toNat := List.take_of_length_le (by omega)
      have e2 : (be 4 x.toNat).take (4 * (j + 1 + 1)) = be 4 x.toNat := List.take_of_length_le (by omega)
      rw [List.getElem_cons_succ, List.take_append, List.take_append, e1, e2, hb, List.append_assoc, show 4 * (j + 1) - 4 = 4 * j by omega, show 4 * (j + 1 + 1) - 4 = 4 * (j + 1) by omega, ih (by omega)]
theorem outV_len (v : V8) : (outV v).length = 32 := by
  simp [outV, V8.l, be_length]
def hcells (v : V8) (j : Nat) : List AV := byteEsC ((outV v).take (4 * j)) ++ List.replicate (32 - 4 * j) (.int .u8 0)
theorem byteEsC_len (l : List UInt8) : (byteEsC l).length = l.length := by simp [byteEsC]
theorem hcells_len (v : V8) {j : Nat} (h : j ≤ 8) : (hcells v j).length = 32 := by
  simp [hcells, byteEsC_len, outV_len]; omega
theorem byteEs_flat (l : List UInt8) : (byteEs l).flatten = byteEsC l := by
  induction l with
  | nil => rfl
  | cons b l ih => simp [byteEs, byteEsC, B8] at ih ⊢; exact ih
theorem hcells_step (v : V8) {j : Nat} (h : j < 8) : overw (hcells v j) (4 * j) (byteEsC (be 4 (wat v.l j).toNat)) = hcells v (j + 1) := by
  have hl : v.l.length = 8 := rfl
  have e := flat_take (l := v.l) (j := j) (by omega)
  have hw : wat v.l j = v.l[j]'(by omega) := by simp [wat, List.getD_eq_getElem?_getD, List.getElem?_eq_getElem (show j < v.l.length by omega)]
  have h1 : (byteEsC ((outV v).take (4 * j))).length = 4 * j := by rw [byteEsC_len, List.length_take, outV_len]; omega
  have h2 : (byteEsC (be 4 (wat v.l j).toNat)).length = 4 := by rw [byteEsC_len, be_length]
  unfold overw hcells
  rw [List.take_append_of_le_length (by omega), List.take_of_length_le (by omega), List.drop_append, List.drop_of_length_le (by omega), h1, h2, List.nil_append]
  rw [show 4 * j + 4 - 4 * j = 4 by omega, List.drop_replicate, show 32 - 4 * j - 4 = 32 - 4 * (j + 1) by omega]
  congr 1
  unfold byteEsC
  rw [← List.map_append]
  congr 1
  rw [hw]
  exact e
set_option maxHeartbeats 4000000 in
theorem sha_Sum_to (σ : Store) (s : List UInt8) (h : s.length < 100000000000) : ACallsTo TC 67 [.str s] σ (.agg (byteEsC (shaS s))) σ := by
  obtain ⟨p, hp⟩ : ∃ p, p = padS s := ⟨_, rfl⟩
  obtain ⟨hp1, hp2⟩ := padS_len s
  rw [← hp] at hp1 hp2
  obtain ⟨N, hN⟩ : ∃ N, p.length = 64 * N := ⟨p.length / 64, by omega⟩
  obtain ⟨V, hV⟩ : ∃ V, V = blocks N v0 p := ⟨_, rfl⟩
  have hS : shaS s = outV V := by
    unfold shaS
    rw [← hp, hV]
    have : p.length / 64 = N := by omega
    rw [this]
  rw [hS]
  have hf := fun σ => filled_to σ s (by omega)
  rw [← hp] at hf
  refine ACallsTo.of_body sha_Sum_ok (by simp) fun hw _ => ?_
  repeat' (first | (apply callW.any; (first | exact (hf _)); all_goals try (simp (disch := first | omega | (simp only [List.length_set, List.length_append, List.length_cons, List.length_nil, List.length_map]; omega)) only [go_sem, Nat.reduceEqDiff, Nat.reduceBEq, Nat.reduceAdd, Nat.reduceMul, Nat.reduceSub, Nat.reduceLeDiff, Int.reduceToNat, Int.reducePow, gl_first, V8.c8])) | refine SWp.seq ?_ | refine SWp.block ?_ | refine SWp.scope ?_ | (refine SWp.reg ?_; (simp (disch := first | omega | (simp only [List.length_set, List.length_append, List.length_cons, List.length_nil, List.length_map]; omega)) only [go_sem, Nat.reduceEqDiff, Nat.reduceBEq, Nat.reduceAdd, Nat.reduceMul, Nat.reduceSub, Nat.reduceLeDiff, Int.reduceToNat, Int.reducePow, gl_first, V8.c8])) | refine SWp.condT rfl ?_ | refine SWp.condF rfl ?_ | (refine SWp.condD rfl (fun ht => ?_) (fun ht => ?_) <;> try (exfalso; omega)) | ((first | refine SWp.skip ?_ | refine SWp.exit ?_ | refine SWp.ret ?_); try (simp (disch := first | omega | (simp only [List.length_set, List.length_append, List.length_cons, List.length_nil, List.length_map]; omega)) only [go_sem, Nat.reduceEqDiff, Nat.reduceBEq, Nat.reduceAdd, Nat.reduceMul, Nat.reduceSub, Nat.reduceLeDiff, Int.reduceToNat, Int.reducePow, gl_first, V8.c8])) | ((first | refine splitG (fun ht => ?_) (fun ht => ?_) | refine splitGB (fun ht => ?_) (fun ht => ?_) | refine splitR (fun ht => ?_) (fun ht => ?_) | refine splitRB (fun ht => ?_) (fun ht => ?_) | refine splitE (fun ht => ?_) (fun ht => ?_) | refine splitEB (fun ht => ?_) (fun ht => ?_) | refine splitC (fun ht => ?_) (fun ht => ?_) | refine splitCB (fun ht => ?_) (fun ht => ?_)) <;> (simp (disch := first | omega | (simp only [List.length_set, List.length_append, List.length_cons, List.length_nil, List.length_map]; omega)) only [go_sem, Nat.reduceEqDiff, Nat.reduceBEq, Nat.reduceAdd, Nat.reduceMul, Nat.reduceSub, Nat.reduceLeDiff, Int.reduceToNat, Int.reducePow, gl_first, V8.c8])))
  refine SWp.loop (fun m ρ σ' => ∃ u q, q.length = 64 * m ∧ q.length ≤ p.length ∧ blocks m u q = V ∧ ρ 2 = .ptr σ.length 0 0 ∧ ρ 3 = .ptr (σ.length + 1) 0 0 ∧ ρ 4 = .str q ∧ σ' = σ ++ [some [byteEsC (List.replicate 32 0)], some [u.c8]]) N ?_ ?_
  · exact ⟨v0, p, hN, Nat.le_refl _, hV.symm, by simp (disch := first | omega | (simp only [List.length_set, List.length_append, List.length_cons, List.length_nil, List.length_map]; omega)) only [go_sem, Nat.reduceEqDiff, Nat.reduceBEq, Nat.reduceAdd, Nat.reduceMul, Nat.reduceSub, Nat.reduceLeDiff, Int.reduceToNat, Int.reducePow], by simp (disch := first | omega | (simp only [List.length_set, List.length_append, List.length_cons, List.length_nil, List.length_map]; omega)) only [go_sem, Nat.reduceEqDiff, Nat.reduceBEq, Nat.reduceAdd, Nat.reduceMul, Nat.reduceSub, Nat.reduceLeDiff, Int.reduceToNat, Int.reducePow], by simp (disch := first | omega | (simp only [List.length_set, List.length_append, List.length_cons, List.length_nil, List.length_map]; omega)) only [go_sem, Nat.reduceEqDiff, Nat.reduceBEq, Nat.reduceAdd, Nat.reduceMul, Nat.reduceSub, Nat.reduceLeDiff, Int.reduceToNat, Int.reducePow], rfl⟩
  · rintro m ρ σ' ⟨u, q, hq, hqp, hb, q2, q3, q4, rfl⟩
    have hz : (byteEsC (List.replicate 32 0)).length = 32 := rfl
    cases m with
    | succ m =>
      have hne : (q == []) = false := by cases q with
        | nil => simp at hq
        | cons a q => rfl
      have hmix := fun σ => mix_c8 σ u (q.take 64) (by rw [List.length_take]; omega) (by rw [List.length_take]; omega)
      obtain ⟨M, hM⟩ : ∃ M, M = mixS u (q.take 64) := ⟨_, rfl⟩
      rw [← hM] at hmix
      have hb2 : blocks m M (q.drop 64) = V := by rw [hM]; exact hb
      unfold V8.c8 at hmix
      repeat' (first | (apply callW.any; (first | exact (hmix _)); all_goals try (simp (disch := first | omega | (simp only [List.length_set, List.length_append, List.length_cons, List.length_nil, List.length_map]; omega)) only [go_sem, Nat.reduceEqDiff, Nat.reduceBEq, Nat.reduceAdd, Nat.reduceMul, Nat.reduceSub, Nat.reduceLeDiff, Int.reduceToNat, Int.reducePow, q2, q3, q4, hne, V8.c8])) | refine SWp.seq ?_ | refine SWp.block ?_ | refine SWp.scope ?_ | (refine SWp.regS ?_; (simp (disch := first | omega | (simp only [List.length_set, List.length_append, List.length_cons, List.length_nil, List.length_map]; omega)) only [go_sem, Nat.reduceEqDiff, Nat.reduceBEq, Nat.reduceAdd, Nat.reduceMul, Nat.reduceSub, Nat.reduceLeDiff, Int.reduceToNat, Int.reducePow, q2, q3, q4, hne, V8.c8])) | refine SWp.condT rfl ?_ | refine SWp.condF rfl ?_ | (refine SWp.condD rfl (fun ht => ?_) (fun ht => ?_) <;> try (exfalso; omega)) | ((first | refine SWp.skip ?_ | refine SWp.exit ?_ | refine SWp.ret ?_); try (simp (disch := first | omega | (simp only [List.length_set, List.length_append, List.length_cons, List.length_nil, List.length_map]; omega)) only [go_sem, Nat.reduceEqDiff, Nat.reduceBEq, Nat.reduceAdd, Nat.reduceMul, Nat.reduceSub, Nat.reduceLeDiff, Int.reduceToNat, Int.reducePow, q2, q3, q4, hne, V8.c8])) | ((first | refine splitG (fun ht => ?_) (fun ht => ?_) | refine splitGB (fun ht => ?_) (fun ht => ?_) | refine splitR (fun ht => ?_) (fun ht => ?_) | refine splitRB (fun ht => ?_) (fun ht => ?_) | refine splitE (fun ht => ?_) (fun ht => ?_) | refine splitEB (fun ht => ?_) (fun ht => ?_) | refine splitC (fun ht => ?_) (fun ht => ?_) | refine splitCB (fun ht => ?_) (fun ht => ?_)) <;> (simp (disch := first | omega | (simp only [List.length_set, List.length_append, List.length_cons, List.length_nil, List.length_map]; omega)) only [go_sem, Nat.reduceEqDiff, Nat.reduceBEq, Nat.reduceAdd, Nat.reduceMul, Nat.reduceSub, Nat.reduceLeDiff, Int.reduceToNat, Int.reducePow, q2, q3, q4, hne, V8.c8])))
      refine ⟨m, by omega, M, q.drop 64, by rw [List.length_drop]; omega, by rw [List.length_drop]; omega, hb2, rfl, rfl⟩
    | zero =>
      have hq0 : q = [] := List.eq_nil_of_length_eq_zero (by omega)
      subst hq0
      have hu : u = V := hb
      subst hu
      repeat' (first | refine SWp.seq ?_ | refine SWp.block ?_ | refine SWp.scope ?_ | (refine SWp.reg ?_; (simp (disch := first | omega | (simp only [List.length_set, List.length_append, List.length_cons, List.length_nil, List.length_map]; omega)) only [go_sem, Nat.reduceEqDiff, Nat.reduceBEq, Nat.reduceAdd, Nat.reduceMul, Nat.reduceSub, Nat.reduceLeDiff, Int.reduceToNat, Int.reducePow, q2, q3, q4, V8.c8])) | refine SWp.condT rfl ?_ | refine SWp.condF rfl ?_ | (refine SWp.condD rfl (fun ht => ?_) (fun ht => ?_) <;> try (exfalso; omega)) | ((first | refine SWp.skip ?_ | refine SWp.exit ?_ | refine SWp.ret ?_); try (simp (disch := first | omega | (simp only [List.length_set, List.length_append, List.length_cons, List.length_nil, List.length_map]; omega)) only [go_sem, Nat.reduceEqDiff, Nat.reduceBEq, Nat.reduceAdd, Nat.reduceMul, Nat.reduceSub, Nat.reduceLeDiff, Int.reduceToNat, Int.reducePow, q2, q3, q4, V8.c8])) | ((first | refine splitG (fun ht => ?_) (fun ht => ?_) | refine splitGB (fun ht => ?_) (fun ht => ?_) | refine splitR (fun ht => ?_) (fun ht => ?_) | refine splitRB (fun ht => ?_) (fun ht => ?_) | refine splitE (fun ht => ?_) (fun ht => ?_) | refine splitEB (fun ht => ?_) (fun ht => ?_) | refine splitC (fun ht => ?_) (fun ht => ?_) | refine splitCB (fun ht => ?_) (fun ht => ?_)) <;> (simp (disch := first | omega | (simp only [List.length_set, List.length_append, List.length_cons, List.length_nil, List.length_map]; omega)) only [go_sem, Nat.reduceEqDiff, Nat.reduceBEq, Nat.reduceAdd, Nat.reduceMul, Nat.reduceSub, Nat.reduceLeDiff, Int.reduceToNat, Int.reducePow, q2, q3, q4, V8.c8])))
      refine SWp.loop (fun m ρ σ' => ∃ j : Nat, m + j = 8 ∧ ρ 2 = .ptr σ.length 0 0 ∧ ρ 5 = .ptr (σ.length + 2) 0 0 ∧ ρ 19 = .agg u.c8 ∧ ρ 20 = .int .i64 j ∧ σ' = σ ++ [some [byteEsC (List.replicate 32 0)], some [u.c8], some [hcells u j]]) 8 ?_ ?_
      · exact ⟨0, by omega, by simp (disch := first | omega | (simp only [List.length_set, List.length_append, List.length_cons, List.length_nil, List.length_map]; omega)) only [go_sem, Nat.reduceEqDiff, Nat.reduceBEq, Nat.reduceAdd, Nat.reduceMul, Nat.reduceSub, Nat.reduceLeDiff, Int.reduceToNat, Int.reducePow, q2], by simp (disch := first | omega | (simp only [List.length_set, List.length_append, List.length_cons, List.length_nil, List.length_map]; omega)) only [go_sem, Nat.reduceEqDiff, Nat.reduceBEq, Nat.reduceAdd, Nat.reduceMul, Nat.reduceSub, Nat.reduceLeDiff, Int.reduceToNat, Int.reducePow], by simp (disch := first | omega | (simp only [List.length_set, List.length_append, List.length_cons, List.length_nil, List.length_map]; omega)) only [go_sem, Nat.reduceEqDiff, Nat.reduceBEq, Nat.reduceAdd, Nat.reduceMul, Nat.reduceSub, Nat.reduceLeDiff, Int.reduceToNat, Int.reducePow]; rfl, by simp (disch := first | omega | (simp only [List.length_set, List.length_append, List.length_cons, List.length_nil, List.length_map]; omega)) only [go_sem, Nat.reduceEqDiff, Nat.reduceBEq, Nat.reduceAdd, Nat.reduceMul, Nat.reduceSub, Nat.reduceLeDiff, Int.reduceToNat, Int.reducePow]; rfl, rfl⟩
      · clear q2 q3 q4
        rintro m ρ σ' ⟨j, hm, q2, q5, q19, q20, rfl⟩
        have hlen := hcells_len u (j := j) (by omega)
        have h8 : u.c8.length = 8 := rfl
        by_cases hj : j < 8
        · have hst := hcells_step u hj
          have hw := wat_lt (w := u.l) (i := j) (by simpa [V8.l] using hj)
          rw [ws_l] at hw
          generalize wat u.l j = x at *
          generalize hcells u j = cc at *
          generalize hcc : hcells u (j + 1) = cc' at *
          have hx : x.toNat < 4294967296 := x.isLt
          have hb4 : (be 4 x.toNat).length = 4 := be_length _ _
          have ht4 : (byteEs (be 4 x.toNat)).take (32 - 4 * j) = byteEs (be 4 x.toNat) := List.take_of_length_le (by rw [byteEs_len, hb4]; omega)
          have hn4 : (4 * (j : Int)).toNat = 4 * j := by omega
          repeat' (first | (apply callW.any; (first | exact (bits_Put_to _ _ _ (by omega) (by omega))); all_goals try (simp (disch := first | omega | (simp only [List.length_set, List.length_append, List.length_cons, List.length_nil, List.length_map]; omega)) only [go_sem, Nat.reduceEqDiff, Nat.reduceBEq, Nat.reduceAdd, Nat.reduceMul, Nat.reduceSub, Nat.reduceLeDiff, Int.reduceToNat, Int.reducePow, q2, q5, q19, q20, hlen, h8, hw, put4, hb4, ht4, hst, hn4, byteEs_flat])) | refine SWp.seq ?_ | refine SWp.block ?_ | refine SWp.scope ?_ | (refine SWp.regS ?_; (simp (disch := first | omega | (simp only [List.length_set, List.length_append, List.length_cons, List.length_nil, List.length_map]; omega)) only [go_sem, Nat.reduceEqDiff, Nat.reduceBEq, Nat.reduceAdd, Nat.reduceMul, Nat.reduceSub, Nat.reduceLeDiff, Int.reduceToNat, Int.reducePow, q2, q5, q19, q20, hlen, h8, hw, put4, hb4, ht4, hst, hn4, byteEs_flat])) | refine SWp.condT rfl ?_ | refine SWp.condF rfl ?_ | (refine SWp.condD rfl (fun ht => ?_) (fun ht => ?_) <;> try (exfalso; omega)) | ((first | refine SWp.skip ?_ | refine SWp.exit ?_ | refine SWp.ret ?_); try (simp (disch := first | omega | (simp only [List.length_set, List.length_append, List.length_cons, List.length_nil, List.length_map]; omega)) only [go_sem, Nat.reduceEqDiff, Nat.reduceBEq, Nat.reduceAdd, Nat.reduceMul, Nat.reduceSub, Nat.reduceLeDiff, Int.reduceToNat, Int.reducePow, q2, q5, q19, q20, hlen, h8, hw, put4, hb4, ht4, hst, hn4, byteEs_flat])) | ((first | refine splitG (fun ht => ?_) (fun ht => ?_) | refine splitGB (fun ht => ?_) (fun ht => ?_) | refine splitR (fun ht => ?_) (fun ht => ?_) | refine splitRB (fun ht => ?_) (fun ht => ?_) | refine splitE (fun ht => ?_) (fun ht => ?_) | refine splitEB (fun ht => ?_) (fun ht => ?_) | refine splitC (fun ht => ?_) (fun ht => ?_) | refine splitCB (fun ht => ?_) (fun ht => ?_)) <;> (simp (disch := first | omega | (simp only [List.length_set, List.length_append, List.length_cons, List.length_nil, List.length_map]; omega)) only [go_sem, Nat.reduceEqDiff, Nat.reduceBEq, Nat.reduceAdd, Nat.reduceMul, Nat.reduceSub, Nat.reduceLeDiff, Int.reduceToNat, Int.reducePow, q2, q5, q19, q20, hlen, h8, hw, put4, hb4, ht4, hst, hn4, byteEs_flat])))
          unfold overw at hst
          rw [List.append_assoc] at hst
          exact ⟨8 - (j + 1), by omega, j + 1, by omega, by simp, by rw [hst, hcc]⟩
        · obtain rfl : j = 8 := by omega
          have e8 : hcells u 8 = byteEsC (outV u) := by
            unfold hcells
            rw [List.take_of_length_le (by rw [outV_len]; decide)]
            exact List.append_nil _
          have hd : List.drop 32 (byteEsC (List.replicate 32 0)) = [] := rfl
          have hl : (byteEsC (outV u)).length = 32 := by rw [byteEsC_len, outV_len]
          rw [e8] at *
          repeat' (first | refine SWp.seq ?_ | refine SWp.block ?_ | refine SWp.scope ?_ | (refine SWp.reg ?_; (simp (disch := first | omega | (simp only [List.length_set, List.length_append, List.length_cons, List.length_nil, List.length_map]; omega)) only [go_sem, Nat.reduceEqDiff, Nat.reduceBEq, Nat.reduceAdd, Nat.reduceMul, Nat.reduceSub, Nat.reduceLeDiff, Int.reduceToNat, Int.reducePow, q2, q5, q19, q20, hl, h8, hd])) | refine SWp.condT rfl ?_ | refine SWp.condF rfl ?_ | (refine SWp.condD rfl (fun ht => ?_) (fun ht => ?_) <;> try (exfalso; omega)) | ((first | refine SWp.skip ?_ | refine SWp.exit ?_ | refine SWp.ret ?_); try (simp (disch := first | omega | (simp only [List.length_set, List.length_append, List.length_cons, List.length_nil, List.length_map]; omega)) only [go_sem, Nat.reduceEqDiff, Nat.reduceBEq, Nat.reduceAdd, Nat.reduceMul, Nat.reduceSub, Nat.reduceLeDiff, Int.reduceToNat, Int.reducePow, q2, q5, q19, q20, hl, h8, hd])) | ((first | refine splitG (fun ht => ?_) (fun ht => ?_) | refine splitGB (fun ht => ?_) (fun ht => ?_) | refine splitR (fun ht => ?_) (fun ht => ?_) | refine splitRB (fun ht => ?_) (fun ht => ?_) | refine splitE (fun ht => ?_) (fun ht => ?_) | refine splitEB (fun ht => ?_) (fun ht => ?_) | refine splitC (fun ht => ?_) (fun ht => ?_) | refine splitCB (fun ht => ?_) (fun ht => ?_)) <;> (simp (disch := first | omega | (simp only [List.length_set, List.length_append, List.length_cons, List.length_nil, List.length_map]; omega)) only [go_sem, Nat.reduceEqDiff, Nat.reduceBEq, Nat.reduceAdd, Nat.reduceMul, Nat.reduceSub, Nat.reduceLeDiff, Int.reduceToNat, Int.reducePow, q2, q5, q19, q20, hl, h8, hd])))
          exact DownV.pure hw (rl_agg (rl_bytes _))
end Am
end Go.Proofs.YtfofemaglndnjaaDoor
end
section
set_option linter.unusedSimpArgs false
set_option linter.unusedVariables false
/- SHA-256: contracts of the reference: pad. -/
set_option linter.unusedSimpArgs false
set_option linter.unusedVariables false
namespace Go.Proofs.YtfofemaglndnjaaDoor
namespace Am
theorem RLss_bytes {k : Nat} (l : List UInt8) : RLss k (byteEs l) := by
  induction l with
  | nil => simp [byteEs, RLss]
  | cons b l ih => simp only [byteEs, B8] at ih; simp [byteEs, RLss, B8, RLs, RL, ih]
/-- Own bytes behind what was there. -/
def OwnB (σ σ' : Store) (v : AV) (b : List UInt8) : Prop := ∃ news j, σ' = σ ++ news ∧ v = .sl (σ.length + j) 0 b.length none 1 ∧ news[j]? = some (some (byteEs b))
theorem OwnB.down {σ σ' : Store} {v : AV} {b : List UInt8} (hw : Wf σ.length σ) (h : OwnB σ σ' v b) : DownV σ.length v σ' (.vsl 1 (byteEs b) false) σ := by
  obtain ⟨news, j, rfl, rfl, h⟩ := h
  have hl : (byteEs b).length = b.length := byteEs_len b
  have e : ((byteEs b).drop 0).take b.length = byteEs b := by rw [List.drop_zero, List.take_of_length_le (by omega)]
  have := DownV.froze (off := 0) (len := b.length) (esz := 1) (lim := none) hw h (by omega) (by rw [e]; exact RLss_bytes b)
  rw [e] at this
  exact this
theorem OwnB.app {σ σ' : Store} {r n : Nat} {b c : List UInt8} (h : OwnB σ σ' (.sl r 0 n none 1) b) : OwnB σ (σ'.set r none ++ [some (byteEs c)]) (.sl σ'.length 0 c.length none 1) c := by
  obtain ⟨news, j, rfl, e, h⟩ := h
  simp only [AV.sl.injEq, true_and, and_true] at e
  obtain ⟨rfl, rfl⟩ := e
  refine ⟨news.set j none ++ [some (byteEs c)], news.length, ?_, by simp, ?_⟩
  · rw [List.set_append_right _ _ (by omega), Nat.add_sub_cancel_left, List.append_assoc]
  · rw [List.getElem?_append_right (by simp)]; simp
theorem OwnB.get {σ σ' : Store} {v : AV} {b : List UInt8} (h : OwnB σ σ' v b) : ∃ r, v = .sl r 0 b.length none 1 ∧ σ'[r]? = some (some (byteEs b)) := by
  obtain ⟨news, j, rfl, rfl, h⟩ := h
  exact ⟨_, rfl, by rw [List.getElem?_append_right (by omega), Nat.add_sub_cancel_left]; exact h⟩
theorem byteEs_one (b : List UInt8) (x : Nat) (m : Int) (h : m = ((x % 256 : Nat) : Int)) : byteEs b ++ [[AV.int .u8 m]] = byteEs (b ++ [UInt8.ofNat x]) := by
  subst h
  simp [byteEs, B8]
theorem be8_take (x : Nat) {j : Nat} (h : j < 8) : (be 8 x).take j ++ [UInt8.ofNat (x / 2 ^ (8 * (7 - j)))] = (be 8 x).take (j + 1) := by
  have e : be 8 x = [UInt8.ofNat (x / 256 ^ 7), UInt8.ofNat (x / 256 ^ 6), UInt8.ofNat (x / 256 ^ 5), UInt8.ofNat (x / 256 ^ 4), UInt8.ofNat (x / 256 ^ 3), UInt8.ofNat (x / 256 ^ 2), UInt8.ofNat (x / 256 ^ 1), UInt8.ofNat (x / 256 ^ 0)] := by
    simp only [be_cons]
    rfl
  rw [e]
  have hj : j = 0 ∨ j = 1 ∨ j = 2 ∨ j = 3 ∨ j = 4 ∨ j = 5 ∨ j = 6 ∨ j = 7 := by omega
  rcases hj with rfl | rfl | rfl | rfl | rfl | rfl | rfl | rfl <;> rfl
set_option maxHeartbeats 4000000 in
theorem pad_to (σ : Store) (s : List UInt8) (h : s.length < 1000000000) : ACallsTo TC 115 [.str s] σ (.vsl 1 (byteEs (padS s)) false) σ := by
  obtain ⟨z, hz⟩ : ∃ z : Nat, z = (119 - s.length % 64) % 64 := ⟨_, rfl⟩
  have hz64 : z < 64 := by rw [hz]; exact Nat.mod_lt _ (by decide)
  obtain ⟨P, hP⟩ : ∃ P, P = padS s := ⟨_, rfl⟩
  have hP2 : P = (s ++ 128 :: List.replicate z 0) ++ be 8 (s.length * 8) := by rw [hP, padS, hz]; simp
  rw [← hP]
  refine ACallsTo.of_body speculumref02_pad_ok (by simp) fun hw _ => ?_
  repeat' (first | refine SWp.seq ?_ | refine SWp.block ?_ | refine SWp.scope ?_ | (refine SWp.reg ?_; (simp (disch := first | omega | (simp only [List.length_set, List.length_append, List.length_cons, List.length_nil, List.length_map]; omega)) only [go_sem, Nat.reduceEqDiff, Nat.reduceBEq, Nat.reduceAdd, Nat.reduceMul, Nat.reduceSub, Nat.reduceLeDiff, Int.reduceToNat, Int.reducePow])) | refine SWp.condT rfl ?_ | refine SWp.condF rfl ?_ | (refine SWp.condD rfl (fun ht => ?_) (fun ht => ?_) <;> try (exfalso; omega)) | ((first | refine SWp.skip ?_ | refine SWp.exit ?_ | refine SWp.ret ?_); try (simp (disch := first | omega | (simp only [List.length_set, List.length_append, List.length_cons, List.length_nil, List.length_map]; omega)) only [go_sem, Nat.reduceEqDiff, Nat.reduceBEq, Nat.reduceAdd, Nat.reduceMul, Nat.reduceSub, Nat.reduceLeDiff, Int.reduceToNat, Int.reducePow])) | ((first | refine splitG (fun ht => ?_) (fun ht => ?_) | refine splitGB (fun ht => ?_) (fun ht => ?_) | refine splitR (fun ht => ?_) (fun ht => ?_) | refine splitRB (fun ht => ?_) (fun ht => ?_) | refine splitE (fun ht => ?_) (fun ht => ?_) | refine splitEB (fun ht => ?_) (fun ht => ?_) | refine splitC (fun ht => ?_) (fun ht => ?_) | refine splitCB (fun ht => ?_) (fun ht => ?_)) <;> (simp (disch := first | omega | (simp only [List.length_set, List.length_append, List.length_cons, List.length_nil, List.length_map]; omega)) only [go_sem, Nat.reduceEqDiff, Nat.reduceBEq, Nat.reduceAdd, Nat.reduceMul, Nat.reduceSub, Nat.reduceLeDiff, Int.reduceToNat, Int.reducePow])))
  refine SWp.loop (fun m ρ σ' => ∃ k : Nat, m + k = z ∧ ρ 0 = .str s ∧ OwnB σ σ' (ρ 3) (s ++ 128 :: List.replicate k 0)) z ?_ ?_
  · refine ⟨0, by omega, by simp (disch := first | omega | (simp only [List.length_set, List.length_append, List.length_cons, List.length_nil, List.length_map]; omega)) only [go_sem, Nat.reduceEqDiff, Nat.reduceBEq, Nat.reduceAdd, Nat.reduceMul, Nat.reduceSub, Nat.reduceLeDiff, Int.reduceToNat, Int.reducePow], ?_⟩
    simp (disch := first | omega | (simp only [List.length_set, List.length_append, List.length_cons, List.length_nil, List.length_map]; omega)) only [go_sem, Nat.reduceEqDiff, Nat.reduceBEq, Nat.reduceAdd, Nat.reduceMul, Nat.reduceSub, Nat.reduceLeDiff, Int.reduceToNat, Int.reducePow]
    refine ⟨[none, some (byteEs (s ++ [128]))], 1, ?_, ?_, rfl⟩
    · simp [byteEs, B8]
    · simp
  · rintro m ρ σ' ⟨k, hm, q0, hO⟩
    obtain ⟨r, q3, hg⟩ := hO.get
    have hb : (s ++ 128 :: List.replicate k 0).length = s.length + 1 + k := by simp; omega
    have hbe := byteEs_len (s ++ 128 :: List.replicate k 0)
    by_cases hk : k < z
    · rw [q3] at hO
      rw [hb] at q3 hbe hO
      have e0 : byteEs (s ++ 128 :: List.replicate k 0) ++ [[AV.int .u8 0]] = byteEs (s ++ 128 :: List.replicate (k + 1) 0) := by
        rw [byteEs_one _ 0 0 (by simp), List.append_assoc, List.cons_append, List.replicate_succ']
        rfl
      have hO2 := hO.app (c := s ++ 128 :: List.replicate (k + 1) 0)
      have hc : (s ++ 128 :: List.replicate (k + 1) 0).length = s.length + 1 + k + 1 := by simp; omega
      rw [hc] at hO2
      generalize byteEs (s ++ 128 :: List.replicate k 0) = bb at *
      repeat' (first | refine SWp.seq ?_ | refine SWp.block ?_ | refine SWp.scope ?_ | (refine SWp.reg ?_; (simp (disch := first | omega | (simp only [List.length_set, List.length_append, List.length_cons, List.length_nil, List.length_map]; omega)) only [go_sem, Nat.reduceEqDiff, Nat.reduceBEq, Nat.reduceAdd, Nat.reduceMul, Nat.reduceSub, Nat.reduceLeDiff, Int.reduceToNat, Int.reducePow, q0, q3, hg, hbe, e0])) | refine SWp.condT rfl ?_ | refine SWp.condF rfl ?_ | (refine SWp.condD rfl (fun ht => ?_) (fun ht => ?_) <;> try (exfalso; omega)) | ((first | refine SWp.skip ?_ | refine SWp.exit ?_ | refine SWp.ret ?_); try (simp (disch := first | omega | (simp only [List.length_set, List.length_append, List.length_cons, List.length_nil, List.length_map]; omega)) only [go_sem, Nat.reduceEqDiff, Nat.reduceBEq, Nat.reduceAdd, Nat.reduceMul, Nat.reduceSub, Nat.reduceLeDiff, Int.reduceToNat, Int.reducePow, q0, q3, hg, hbe, e0])) | ((first | refine splitG (fun ht => ?_) (fun ht => ?_) | refine splitGB (fun ht => ?_) (fun ht => ?_) | refine splitR (fun ht => ?_) (fun ht => ?_) | refine splitRB (fun ht => ?_) (fun ht => ?_) | refine splitE (fun ht => ?_) (fun ht => ?_) | refine splitEB (fun ht => ?_) (fun ht => ?_) | refine splitC (fun ht => ?_) (fun ht => ?_) | refine splitCB (fun ht => ?_) (fun ht => ?_)) <;> (simp (disch := first | omega | (simp only [List.length_set, List.length_append, List.length_cons, List.length_nil, List.length_map]; omega)) only [go_sem, Nat.reduceEqDiff, Nat.reduceBEq, Nat.reduceAdd, Nat.reduceMul, Nat.reduceSub, Nat.reduceLeDiff, Int.reduceToNat, Int.reducePow, q0, q3, hg, hbe, e0])))
      exact ⟨z - (k + 1), by omega, k + 1, by omega, hO2⟩
    · obtain rfl : k = z := by omega
      obtain ⟨N, hN⟩ : ∃ N, N = s.length * 8 := ⟨_, rfl⟩
      have hN2 : (s.length : Int) * 8 = N := by omega
      have hb8 : (be 8 N).length = 8 := be_length _ _
      rw [← hN] at hP2
      rw [hb] at q3 hbe
      have h56 : ((s.length : Int) + 1 + k) % 64 = 56 := by omega
      generalize hB : s ++ 128 :: List.replicate k 0 = B at *
      repeat' (first | refine SWp.seq ?_ | refine SWp.block ?_ | refine SWp.scope ?_ | (refine SWp.reg ?_; (simp (disch := first | omega | (simp only [List.length_set, List.length_append, List.length_cons, List.length_nil, List.length_map]; omega)) only [go_sem, Nat.reduceEqDiff, Nat.reduceBEq, Nat.reduceAdd, Nat.reduceMul, Nat.reduceSub, Nat.reduceLeDiff, Int.reduceToNat, Int.reducePow, q0, q3, h56, hN2, Int.natCast_add, Int.natCast_one])) | refine SWp.condT rfl ?_ | refine SWp.condF rfl ?_ | (refine SWp.condD rfl (fun ht => ?_) (fun ht => ?_) <;> try (exfalso; omega)) | ((first | refine SWp.skip ?_ | refine SWp.exit ?_ | refine SWp.ret ?_); try (simp (disch := first | omega | (simp only [List.length_set, List.length_append, List.length_cons, List.length_nil, List.length_map]; omega)) only [go_sem, Nat.reduceEqDiff, Nat.reduceBEq, Nat.reduceAdd, Nat.reduceMul, Nat.reduceSub, Nat.reduceLeDiff, Int.reduceToNat, Int.reducePow, q0, q3, h56, hN2, Int.natCast_add, Int.natCast_one])) | ((first | refine splitG (fun ht => ?_) (fun ht => ?_) | refine splitGB (fun ht => ?_) (fun ht => ?_) | refine splitR (fun ht => ?_) (fun ht => ?_) | refine splitRB (fun ht => ?_) (fun ht => ?_) | refine splitE (fun ht => ?_) (fun ht => ?_) | refine splitEB (fun ht => ?_) (fun ht => ?_) | refine splitC (fun ht => ?_) (fun ht => ?_) | refine splitCB (fun ht => ?_) (fun ht => ?_)) <;> (simp (disch := first | omega | (simp only [List.length_set, List.length_append, List.length_cons, List.length_nil, List.length_map]; omega)) only [go_sem, Nat.reduceEqDiff, Nat.reduceBEq, Nat.reduceAdd, Nat.reduceMul, Nat.reduceSub, Nat.reduceLeDiff, Int.reduceToNat, Int.reducePow, q0, q3, h56, hN2, Int.natCast_add, Int.natCast_one])))
      refine SWp.loop (fun m ρ σ' => ∃ j : Nat, m + j = 8 ∧ ρ 4 = .int .u64 N ∧ ρ 5 = .int .i64 (7 - j) ∧ OwnB σ σ' (ρ 3) (B ++ (be 8 N).take j)) 8 ?_ ?_
      · refine ⟨0, by omega, by simp (disch := first | omega | (simp only [List.length_set, List.length_append, List.length_cons, List.length_nil, List.length_map]; omega)) only [go_sem, Nat.reduceEqDiff, Nat.reduceBEq, Nat.reduceAdd, Nat.reduceMul, Nat.reduceSub, Nat.reduceLeDiff, Int.reduceToNat, Int.reducePow], by simp (disch := first | omega | (simp only [List.length_set, List.length_append, List.length_cons, List.length_nil, List.length_map]; omega)) only [go_sem, Nat.reduceEqDiff, Nat.reduceBEq, Nat.reduceAdd, Nat.reduceMul, Nat.reduceSub, Nat.reduceLeDiff, Int.reduceToNat, Int.reducePow]; rfl, ?_⟩
        simp (disch := first | omega | (simp only [List.length_set, List.length_append, List.length_cons, List.length_nil, List.length_map]; omega)) only [go_sem, Nat.reduceEqDiff, Nat.reduceBEq, Nat.reduceAdd, Nat.reduceMul, Nat.reduceSub, Nat.reduceLeDiff, Int.reduceToNat, Int.reducePow, q3]
        rw [q3] at hO
        exact hO
      · clear q0 q3 hO hg
        rintro m ρ σ' ⟨j, hm, q4, q5, hO⟩
        obtain ⟨r, q3, hg⟩ := hO.get
        have hl : (B ++ (be 8 N).take j).length = s.length + 1 + k + j := by rw [List.length_append, hb, List.length_take, hb8]; omega
        have hbe := byteEs_len (B ++ (be 8 N).take j)
        by_cases hj : j < 8
        · rw [q3] at hO
          rw [hl] at q3 hbe hO
          have hO2 := hO.app (c := B ++ (be 8 N).take (j + 1))
          have hc : (B ++ (be 8 N).take (j + 1)).length = s.length + 1 + k + j + 1 := by rw [List.length_append, hb, List.length_take, hb8]; omega
          rw [hc] at hO2
          have hs : (8 * (7 - (j : Int))).toNat = 8 * (7 - j) := by omega
          have e0 : byteEs (B ++ (be 8 N).take j) ++ [[AV.int .u8 ((N : Int) / 2 ^ (8 * (7 - j)) % 256)]] = byteEs (B ++ (be 8 N).take (j + 1)) := by
            rw [byteEs_one _ (N / 2 ^ (8 * (7 - j))) _ (by rw [Int.natCast_emod, Int.natCast_ediv, Int.natCast_pow]; rfl), List.append_assoc, be8_take N hj]
          generalize byteEs (B ++ (be 8 N).take j) = bb at *
          repeat' (first | refine SWp.seq ?_ | refine SWp.block ?_ | refine SWp.scope ?_ | (refine SWp.reg ?_; (simp (disch := first | omega | (simp only [List.length_set, List.length_append, List.length_cons, List.length_nil, List.length_map]; omega)) only [go_sem, Nat.reduceEqDiff, Nat.reduceBEq, Nat.reduceAdd, Nat.reduceMul, Nat.reduceSub, Nat.reduceLeDiff, Int.reduceToNat, Int.reducePow, q3, q4, q5, hg, hbe, hs, e0])) | refine SWp.condT rfl ?_ | refine SWp.condF rfl ?_ | (refine SWp.condD rfl (fun ht => ?_) (fun ht => ?_) <;> try (exfalso; omega)) | ((first | refine SWp.skip ?_ | refine SWp.exit ?_ | refine SWp.ret ?_); try (simp (disch := first | omega | (simp only [List.length_set, List.length_append, List.length_cons, List.length_nil, List.length_map]; omega)) only [go_sem, Nat.reduceEqDiff, Nat.reduceBEq, Nat.reduceAdd, Nat.reduceMul, Nat.reduceSub, Nat.reduceLeDiff, Int.reduceToNat, Int.reducePow, q3, q4, q5, hg, hbe, hs, e0])) | ((first | refine splitG (fun ht => ?_) (fun ht => ?_) | refine splitGB (fun ht => ?_) (fun ht => ?_) | refine splitR (fun ht => ?_) (fun ht => ?_) | refine splitRB (fun ht => ?_) (fun ht => ?_) | refine splitE (fun ht => ?_) (fun ht => ?_) | refine splitEB (fun ht => ?_) (fun ht => ?_) | refine splitC (fun ht => ?_) (fun ht => ?_) | refine splitCB (fun ht => ?_) (fun ht => ?_)) <;> (simp (disch := first | omega | (simp only [List.length_set, List.length_append, List.length_cons, List.length_nil, List.length_map]; omega)) only [go_sem, Nat.reduceEqDiff, Nat.reduceBEq, Nat.reduceAdd, Nat.reduceMul, Nat.reduceSub, Nat.reduceLeDiff, Int.reduceToNat, Int.reducePow, q3, q4, q5, hg, hbe, hs, e0])))
          exact ⟨8 - (j + 1), by omega, j + 1, by omega, by rw [show (7 : Int) - ((j + 1 : Nat) : Int) = 7 - j - 1 by omega], hO2⟩
        · obtain rfl : j = 8 := by omega
          have e8 : B ++ (be 8 N).take 8 = P := by rw [List.take_of_length_le (by omega)]; exact hP2.symm
          rw [e8] at hO q3
          repeat' (first | refine SWp.seq ?_ | refine SWp.block ?_ | refine SWp.scope ?_ | (refine SWp.reg ?_; (simp (disch := first | omega | (simp only [List.length_set, List.length_append, List.length_cons, List.length_nil, List.length_map]; omega)) only [go_sem, Nat.reduceEqDiff, Nat.reduceBEq, Nat.reduceAdd, Nat.reduceMul, Nat.reduceSub, Nat.reduceLeDiff, Int.reduceToNat, Int.reducePow, q3, q5])) | refine SWp.condT rfl ?_ | refine SWp.condF rfl ?_ | (refine SWp.condD rfl (fun ht => ?_) (fun ht => ?_) <;> try (exfalso; omega)) | ((first | refine SWp.skip ?_ | refine SWp.exit ?_ | refine SWp.ret ?_); try (simp (disch := first | omega | (simp only [List.length_set, List.length_append, List.length_cons, List.length_nil, List.length_map]; omega)) only [go_sem, Nat.reduceEqDiff, Nat.reduceBEq, Nat.reduceAdd, Nat.reduceMul, Nat.reduceSub, Nat.reduceLeDiff, Int.reduceToNat, Int.reducePow, q3, q5])) | ((first | refine splitG (fun ht => ?_) (fun ht => ?_) | refine splitGB (fun ht => ?_) (fun ht => ?_) | refine splitR (fun ht => ?_) (fun ht => ?_) | refine splitRB (fun ht => ?_) (fun ht => ?_) | refine splitE (fun ht => ?_) (fun ht => ?_) | refine splitEB (fun ht => ?_) (fun ht => ?_) | refine splitC (fun ht => ?_) (fun ht => ?_) | refine splitCB (fun ht => ?_) (fun ht => ?_)) <;> (simp (disch := first | omega | (simp only [List.length_set, List.length_append, List.length_cons, List.length_nil, List.length_map]; omega)) only [go_sem, Nat.reduceEqDiff, Nat.reduceBEq, Nat.reduceAdd, Nat.reduceMul, Nat.reduceSub, Nat.reduceLeDiff, Int.reduceToNat, Int.reducePow, q3, q5])))
          rw [q3] at hO
          exact hO.down hw
end Am
end Go.Proofs.YtfofemaglndnjaaDoor
end
section
set_option linter.unusedSimpArgs false
set_option linter.unusedVariables false
/- SHA-256: the reference's Sum: the words. -/
set_option linter.unusedSimpArgs false
set_option linter.unusedVariables false
namespace Go.Proofs.YtfofemaglndnjaaDoor
namespace Am
def z32 : List AV := byteEsC (List.replicate 32 0)
/-- What the reference has in memory. -/
def mkS (τ : Store) (u : V8) (cells : List AV) : Store := τ ++ [some [z32], some [gl_sha_rounds], some [u.c8], some [cells]]
def Rk (ρ : Env) (a : Nat) (p : List UInt8) (n : Nat) : Prop :=
  ρ 2 = .ptr a 0 0 ∧ ρ 3 = .ptr (a + 1) 0 0 ∧ ρ 4 = .ptr (a + 2) 0 0 ∧ ρ 5 = .vsl 1 (byteEs p) false ∧ ρ 6 = .ptr (a + 3) 0 0 ∧ ρ 7 = .int .i64 n
theorem cells_put {w : List W} {x : W} {n : Nat} {rest : List AV} (h : w.length = n) (hr : 0 < rest.length) : (ws w ++ rest).take n ++ AV.int .u32 x.toNat :: (ws w ++ rest).drop (n + 1) = ws (w ++ [x]) ++ rest.drop 1 := by
  have hl : (ws w).length = n := by rw [ws_len, h]
  rw [List.take_append_of_le_length (by omega), List.take_of_length_le (by omega), List.drop_append, List.drop_of_length_le (by omega), hl]
  rw [show n + 1 - n = 1 by omega, List.nil_append]
  simp [ws, wc]
theorem word_of {p : List UInt8} {n i : Nat} (h : n + 4 * i + 4 ≤ p.length) (hi : i < 16) :
    ((p.getD (n + 4 * i) 0).toNat : Int) * 16777216 + (p.getD (n + 4 * i + 1) 0).toNat * 65536 + (p.getD (n + 4 * i + 2) 0).toNat * 256 + (p.getD (n + 4 * i + 3) 0).toNat = ((wordS ((p.drop n).take 64) i).toNat : Int) := by
  have e : ((((p.drop n).take 64).drop (4 * i)).take 4) = [p.getD (n + 4 * i) 0, p.getD (n + 4 * i + 1) 0, p.getD (n + 4 * i + 2) 0, p.getD (n + 4 * i + 3) 0] := by
    rw [List.drop_take, List.take_take, List.drop_drop, show min 4 (64 - 4 * i) = 4 by omega]
    obtain ⟨A, hA⟩ : ∃ A, A = p.drop (n + 4 * i) := ⟨_, rfl⟩
    have g : ∀ k, p.getD (n + 4 * i + k) 0 = A.getD k 0 := by
      intro k
      rw [hA, List.getD_eq_getElem?_getD, List.getD_eq_getElem?_getD, List.getElem?_drop]
    have g0 := g 0
    rw [Nat.add_zero] at g0
    rw [g0, g 1, g 2, g 3, ← hA]
    have hl : 4 ≤ A.length := by rw [hA, List.length_drop]; omega
    match A, hl with
    | a :: b :: c :: d :: A, _ => rfl
  unfold wordS
  rw [e]
  generalize p.getD (n + 4 * i) 0 = a
  generalize p.getD (n + 4 * i + 1) 0 = b
  generalize p.getD (n + 4 * i + 2) 0 = c
  generalize p.getD (n + 4 * i + 3) 0 = d
  have h1 := a.toNat_lt
  have h2 := b.toNat_lt
  have h3 := c.toNat_lt
  have h4 := d.toNat_lt
  simp only [getS, val, List.take_of_length_le (show [a, b, c, d].length ≤ 8 by simp), List.foldl_cons, List.foldl_nil, BitVec.toNat_ofNat]
  omega
section
variable {k : Nat} {Q : AExit → Env → Store → Prop} {ρ : Env} {τ : Store} {u : V8} {p : List UInt8} {n : Nat}
set_option maxHeartbeats 4000000 in
theorem ref_words {cells : List AV} (K : Rk ρ τ.length p n) (hp : n + 64 ≤ p.length) (hpl : p.length < 2000000000) (hc : cells.length = 64)
    (hQ : ∀ ρ' rest, rest.length = 48 → Rk ρ' τ.length p n → Q .normal ρ' (mkS τ u (ws (sched ((p.drop n).take 64) 16) ++ rest))) : SWp TC 252 k speculumref02_Sum_c21 Q ρ (mkS τ u cells) := by
  obtain ⟨k2, k3, k4, k5, k6, k7⟩ := K
  obtain ⟨q, hq⟩ : ∃ q, q = (p.drop n).take 64 := ⟨_, rfl⟩
  rw [← hq] at hQ
  repeat' (first | refine SWp.seq ?_ | refine SWp.block ?_ | refine SWp.scope ?_ | (refine SWp.reg ?_; (simp (disch := first | omega | (simp only [List.length_set, List.length_append, List.length_cons, List.length_nil, List.length_map]; omega)) only [go_sem, Nat.reduceEqDiff, Nat.reduceBEq, Nat.reduceAdd, Nat.reduceMul, Nat.reduceSub, Nat.reduceLeDiff, Int.reduceToNat, Int.reducePow])) | refine SWp.condT rfl ?_ | refine SWp.condF rfl ?_ | (refine SWp.condD rfl (fun ht => ?_) (fun ht => ?_) <;> try (exfalso; omega)) | ((first | refine SWp.skip ?_ | refine SWp.exit ?_ | refine SWp.ret ?_); try (simp (disch := first | omega | (simp only [List.length_set, List.length_append, List.length_cons, List.length_nil, List.length_map]; omega)) only [go_sem, Nat.reduceEqDiff, Nat.reduceBEq, Nat.reduceAdd, Nat.reduceMul, Nat.reduceSub, Nat.reduceLeDiff, Int.reduceToNat, Int.reducePow])) | ((first | refine splitG (fun ht => ?_) (fun ht => ?_) | refine splitGB (fun ht => ?_) (fun ht => ?_) | refine splitR (fun ht => ?_) (fun ht => ?_) | refine splitRB (fun ht => ?_) (fun ht => ?_) | refine splitE (fun ht => ?_) (fun ht => ?_) | refine splitEB (fun ht => ?_) (fun ht => ?_) | refine splitC (fun ht => ?_) (fun ht => ?_) | refine splitCB (fun ht => ?_) (fun ht => ?_)) <;> (simp (disch := first | omega | (simp only [List.length_set, List.length_append, List.length_cons, List.length_nil, List.length_map]; omega)) only [go_sem, Nat.reduceEqDiff, Nat.reduceBEq, Nat.reduceAdd, Nat.reduceMul, Nat.reduceSub, Nat.reduceLeDiff, Int.reduceToNat, Int.reducePow])))
  refine SWp.loop (fun m ρ σ' => ∃ (i : Nat) (rest : List AV), m + i = 16 ∧ rest.length = 64 - i ∧ Rk ρ τ.length p n ∧ ρ 8 = .int .i64 i ∧ σ' = mkS τ u (ws (sched q i) ++ rest)) 16 ?_ ?_
  · exact ⟨0, cells, by omega, hc, ⟨by simp (disch := first | omega | (simp only [List.length_set, List.length_append, List.length_cons, List.length_nil, List.length_map]; omega)) only [go_sem, Nat.reduceEqDiff, Nat.reduceBEq, Nat.reduceAdd, Nat.reduceMul, Nat.reduceSub, Nat.reduceLeDiff, Int.reduceToNat, Int.reducePow, k2], by simp (disch := first | omega | (simp only [List.length_set, List.length_append, List.length_cons, List.length_nil, List.length_map]; omega)) only [go_sem, Nat.reduceEqDiff, Nat.reduceBEq, Nat.reduceAdd, Nat.reduceMul, Nat.reduceSub, Nat.reduceLeDiff, Int.reduceToNat, Int.reducePow, k3], by simp (disch := first | omega | (simp only [List.length_set, List.length_append, List.length_cons, List.length_nil, List.length_map]; omega)) only [go_sem, Nat.reduceEqDiff, Nat.reduceBEq, Nat.reduceAdd, Nat.reduceMul, Nat.reduceSub, Nat.reduceLeDiff, Int.reduceToNat, Int.reducePow, k4], by simp (disch := first | omega | (simp only [List.length_set, List.length_append, List.length_cons, List.length_nil, List.length_map]; omega)) only [go_sem, Nat.reduceEqDiff, Nat.reduceBEq, Nat.reduceAdd, Nat.reduceMul, Nat.reduceSub, Nat.reduceLeDiff, Int.reduceToNat, Int.reducePow, k5], by simp (disch := first | omega | (simp only [List.length_set, List.length_append, List.length_cons, List.length_nil, List.length_map]; omega)) only [go_sem, Nat.reduceEqDiff, Nat.reduceBEq, Nat.reduceAdd, Nat.reduceMul, Nat.reduceSub, Nat.reduceLeDiff, Int.reduceToNat, Int.reducePow, k6], by simp (disch := first | omega | (simp only [List.length_set, List.length_append, List.length_cons, List.length_nil, List.length_map]; omega)) only [go_sem, Nat.reduceEqDiff, Nat.reduceBEq, Nat.reduceAdd, Nat.reduceMul, Nat.reduceSub, Nat.reduceLeDiff, Int.reduceToNat, Int.reducePow, k7]⟩, by simp (disch := first | omega | (simp only [List.length_set, List.length_append, List.length_cons, List.length_nil, List.length_map]; omega)) only [go_sem, Nat.reduceEqDiff, Nat.reduceBEq, Nat.reduceAdd, Nat.reduceMul, Nat.reduceSub, Nat.reduceLeDiff, Int.reduceToNat, Int.reducePow]; rfl, rfl⟩
  · rintro m ρ σ' ⟨i, rest, hm, hr, ⟨q2, q3, q4, q5, q6, q7⟩, q8, rfl⟩
    by_cases hi : i < 16
    · have hwd := word_of (p := p) (n := n) (i := i) (by omega) hi
      rw [← hq] at hwd
      have hset := cells_put (x := wordS q i) (rest := rest) (sched_len q i) (by omega)
      have hlen : (ws (sched q i) ++ rest).length = 64 := by rw [List.length_append, ws_len, sched_len, hr]; omega
      have hsc : sched q (i + 1) = sched q i ++ [wordS q i] := by rw [sched, sNext, sched_len, if_pos hi]
      have n0 : ((n : Int) + 4 * i).toNat = n + 4 * i := by omega
      have n1 : ((n : Int) + 4 * i + 1).toNat = n + 4 * i + 1 := by omega
      have n2 : ((n : Int) + 4 * i + 2).toNat = n + 4 * i + 2 := by omega
      have n3 : ((n : Int) + 4 * i + 3).toNat = n + 4 * i + 3 := by omega
      have b0 := (p.getD (n + 4 * i) 0).toNat_lt
      have b1 := (p.getD (n + 4 * i + 1) 0).toNat_lt
      have b2 := (p.getD (n + 4 * i + 2) 0).toNat_lt
      have b3 := (p.getD (n + 4 * i + 3) 0).toNat_lt
      have g0 := get_u8 (s := p) (i := n + 4 * i) (by omega)
      have e0 := byteEs_get (s := p) (i := n + 4 * i) (by omega)
      have e1 := byteEs_get (s := p) (i := n + 4 * i + 1) (by omega)
      have e2 := byteEs_get (s := p) (i := n + 4 * i + 2) (by omega)
      have e3 := byteEs_get (s := p) (i := n + 4 * i + 3) (by omega)
      have hpb := byteEs_len p
      unfold mkS
      generalize p.getD (n + 4 * i) 0 = x0 at *
      generalize p.getD (n + 4 * i + 1) 0 = x1 at *
      generalize p.getD (n + 4 * i + 2) 0 = x2 at *
      generalize p.getD (n + 4 * i + 3) 0 = x3 at *
      generalize hpb2 : byteEs p = pb at *
      generalize hcc : ws (sched q i) ++ rest = cc at *
      repeat' (first | refine SWp.seq ?_ | refine SWp.block ?_ | refine SWp.scope ?_ | (refine SWp.regS ?_; (simp (disch := first | omega | (simp only [List.length_set, List.length_append, List.length_cons, List.length_nil, List.length_map]; omega)) only [go_sem, Nat.reduceEqDiff, Nat.reduceBEq, Nat.reduceAdd, Nat.reduceMul, Nat.reduceSub, Nat.reduceLeDiff, Int.reduceToNat, Int.reducePow, q2, q3, q4, q5, q6, q7, q8, hlen, n0, n1, n2, n3, e0, e1, e2, e3])) | refine SWp.condT rfl ?_ | refine SWp.condF rfl ?_ | (refine SWp.condD rfl (fun ht => ?_) (fun ht => ?_) <;> try (exfalso; omega)) | ((first | refine SWp.skip ?_ | refine SWp.exit ?_ | refine SWp.ret ?_); try (simp (disch := first | omega | (simp only [List.length_set, List.length_append, List.length_cons, List.length_nil, List.length_map]; omega)) only [go_sem, Nat.reduceEqDiff, Nat.reduceBEq, Nat.reduceAdd, Nat.reduceMul, Nat.reduceSub, Nat.reduceLeDiff, Int.reduceToNat, Int.reducePow, q2, q3, q4, q5, q6, q7, q8, hlen, n0, n1, n2, n3, e0, e1, e2, e3])) | ((first | refine splitG (fun ht => ?_) (fun ht => ?_) | refine splitGB (fun ht => ?_) (fun ht => ?_) | refine splitR (fun ht => ?_) (fun ht => ?_) | refine splitRB (fun ht => ?_) (fun ht => ?_) | refine splitE (fun ht => ?_) (fun ht => ?_) | refine splitEB (fun ht => ?_) (fun ht => ?_) | refine splitC (fun ht => ?_) (fun ht => ?_) | refine splitCB (fun ht => ?_) (fun ht => ?_)) <;> (simp (disch := first | omega | (simp only [List.length_set, List.length_append, List.length_cons, List.length_nil, List.length_map]; omega)) only [go_sem, Nat.reduceEqDiff, Nat.reduceBEq, Nat.reduceAdd, Nat.reduceMul, Nat.reduceSub, Nat.reduceLeDiff, Int.reduceToNat, Int.reducePow, q2, q3, q4, q5, q6, q7, q8, hlen, n0, n1, n2, n3, e0, e1, e2, e3])))
      refine ⟨16 - (i + 1), by omega, i + 1, rest.drop 1, by omega, by rw [List.length_drop]; omega, ⟨by simp (disch := first | omega | (simp only [List.length_set, List.length_append, List.length_cons, List.length_nil, List.length_map]; omega)) only [go_sem, Nat.reduceEqDiff, Nat.reduceBEq, Nat.reduceAdd, Nat.reduceMul, Nat.reduceSub, Nat.reduceLeDiff, Int.reduceToNat, Int.reducePow, q2], by simp (disch := first | omega | (simp only [List.length_set, List.length_append, List.length_cons, List.length_nil, List.length_map]; omega)) only [go_sem, Nat.reduceEqDiff, Nat.reduceBEq, Nat.reduceAdd, Nat.reduceMul, Nat.reduceSub, Nat.reduceLeDiff, Int.reduceToNat, Int.reducePow, q3], by simp (disch := first | omega | (simp only [List.length_set, List.length_append, List.length_cons, List.length_nil, List.length_map]; omega)) only [go_sem, Nat.reduceEqDiff, Nat.reduceBEq, Nat.reduceAdd, Nat.reduceMul, Nat.reduceSub, Nat.reduceLeDiff, Int.reduceToNat, Int.reducePow, q4], (by simp (disch := first | omega | (simp only [List.length_set, List.length_append, List.length_cons, List.length_nil, List.length_map]; omega)) only [go_sem, Nat.reduceEqDiff, Nat.reduceBEq, Nat.reduceAdd, Nat.reduceMul, Nat.reduceSub, Nat.reduceLeDiff, Int.reduceToNat, Int.reducePow, q5]; rw [hpb2]), by simp (disch := first | omega | (simp only [List.length_set, List.length_append, List.length_cons, List.length_nil, List.length_map]; omega)) only [go_sem, Nat.reduceEqDiff, Nat.reduceBEq, Nat.reduceAdd, Nat.reduceMul, Nat.reduceSub, Nat.reduceLeDiff, Int.reduceToNat, Int.reducePow, q6], by simp (disch := first | omega | (simp only [List.length_set, List.length_append, List.length_cons, List.length_nil, List.length_map]; omega)) only [go_sem, Nat.reduceEqDiff, Nat.reduceBEq, Nat.reduceAdd, Nat.reduceMul, Nat.reduceSub, Nat.reduceLeDiff, Int.reduceToNat, Int.reducePow, q7]⟩, by simp, ?_⟩
      rw [hwd, hset, hsc]
    · obtain rfl : i = 16 := by omega
      repeat' (first | refine SWp.seq ?_ | refine SWp.block ?_ | refine SWp.scope ?_ | (refine SWp.reg ?_; (simp (disch := first | omega | (simp only [List.length_set, List.length_append, List.length_cons, List.length_nil, List.length_map]; omega)) only [go_sem, Nat.reduceEqDiff, Nat.reduceBEq, Nat.reduceAdd, Nat.reduceMul, Nat.reduceSub, Nat.reduceLeDiff, Int.reduceToNat, Int.reducePow, q8])) | refine SWp.condT rfl ?_ | refine SWp.condF rfl ?_ | (refine SWp.condD rfl (fun ht => ?_) (fun ht => ?_) <;> try (exfalso; omega)) | ((first | refine SWp.skip ?_ | refine SWp.exit ?_ | refine SWp.ret ?_); try (simp (disch := first | omega | (simp only [List.length_set, List.length_append, List.length_cons, List.length_nil, List.length_map]; omega)) only [go_sem, Nat.reduceEqDiff, Nat.reduceBEq, Nat.reduceAdd, Nat.reduceMul, Nat.reduceSub, Nat.reduceLeDiff, Int.reduceToNat, Int.reducePow, q8])) | ((first | refine splitG (fun ht => ?_) (fun ht => ?_) | refine splitGB (fun ht => ?_) (fun ht => ?_) | refine splitR (fun ht => ?_) (fun ht => ?_) | refine splitRB (fun ht => ?_) (fun ht => ?_) | refine splitE (fun ht => ?_) (fun ht => ?_) | refine splitEB (fun ht => ?_) (fun ht => ?_) | refine splitC (fun ht => ?_) (fun ht => ?_) | refine splitCB (fun ht => ?_) (fun ht => ?_)) <;> (simp (disch := first | omega | (simp only [List.length_set, List.length_append, List.length_cons, List.length_nil, List.length_map]; omega)) only [go_sem, Nat.reduceEqDiff, Nat.reduceBEq, Nat.reduceAdd, Nat.reduceMul, Nat.reduceSub, Nat.reduceLeDiff, Int.reduceToNat, Int.reducePow, q8])))
      exact hQ _ rest (by omega) ⟨by simp (disch := first | omega | (simp only [List.length_set, List.length_append, List.length_cons, List.length_nil, List.length_map]; omega)) only [go_sem, Nat.reduceEqDiff, Nat.reduceBEq, Nat.reduceAdd, Nat.reduceMul, Nat.reduceSub, Nat.reduceLeDiff, Int.reduceToNat, Int.reducePow, q2], by simp (disch := first | omega | (simp only [List.length_set, List.length_append, List.length_cons, List.length_nil, List.length_map]; omega)) only [go_sem, Nat.reduceEqDiff, Nat.reduceBEq, Nat.reduceAdd, Nat.reduceMul, Nat.reduceSub, Nat.reduceLeDiff, Int.reduceToNat, Int.reducePow, q3], by simp (disch := first | omega | (simp only [List.length_set, List.length_append, List.length_cons, List.length_nil, List.length_map]; omega)) only [go_sem, Nat.reduceEqDiff, Nat.reduceBEq, Nat.reduceAdd, Nat.reduceMul, Nat.reduceSub, Nat.reduceLeDiff, Int.reduceToNat, Int.reducePow, q4], by simp (disch := first | omega | (simp only [List.length_set, List.length_append, List.length_cons, List.length_nil, List.length_map]; omega)) only [go_sem, Nat.reduceEqDiff, Nat.reduceBEq, Nat.reduceAdd, Nat.reduceMul, Nat.reduceSub, Nat.reduceLeDiff, Int.reduceToNat, Int.reducePow, q5], by simp (disch := first | omega | (simp only [List.length_set, List.length_append, List.length_cons, List.length_nil, List.length_map]; omega)) only [go_sem, Nat.reduceEqDiff, Nat.reduceBEq, Nat.reduceAdd, Nat.reduceMul, Nat.reduceSub, Nat.reduceLeDiff, Int.reduceToNat, Int.reducePow, q6], by simp (disch := first | omega | (simp only [List.length_set, List.length_append, List.length_cons, List.length_nil, List.length_map]; omega)) only [go_sem, Nat.reduceEqDiff, Nat.reduceBEq, Nat.reduceAdd, Nat.reduceMul, Nat.reduceSub, Nat.reduceLeDiff, Int.reduceToNat, Int.reducePow, q7]⟩
set_option maxHeartbeats 4000000 in
theorem ref_sched {q : List UInt8} {rest : List AV} (K : Rk ρ τ.length p n) (hr : rest.length = 48)
    (hQ : ∀ ρ', Rk ρ' τ.length p n → Q .normal ρ' (mkS τ u (ws (sched q 64)))) : SWp TC 252 k speculumref02_Sum_c34 Q ρ (mkS τ u (ws (sched q 16) ++ rest)) := by
  obtain ⟨R, hR⟩ : ∃ R, R = sched q 64 := ⟨_, rfl⟩
  rw [← hR] at hQ
  obtain ⟨k2, k3, k4, k5, k6, k7⟩ := K
  repeat' (first | refine SWp.seq ?_ | refine SWp.block ?_ | refine SWp.scope ?_ | (refine SWp.reg ?_; (simp (disch := first | omega | (simp only [List.length_set, List.length_append, List.length_cons, List.length_nil, List.length_map]; omega)) only [go_sem, Nat.reduceEqDiff, Nat.reduceBEq, Nat.reduceAdd, Nat.reduceMul, Nat.reduceSub, Nat.reduceLeDiff, Int.reduceToNat, Int.reducePow])) | refine SWp.condT rfl ?_ | refine SWp.condF rfl ?_ | (refine SWp.condD rfl (fun ht => ?_) (fun ht => ?_) <;> try (exfalso; omega)) | ((first | refine SWp.skip ?_ | refine SWp.exit ?_ | refine SWp.ret ?_); try (simp (disch := first | omega | (simp only [List.length_set, List.length_append, List.length_cons, List.length_nil, List.length_map]; omega)) only [go_sem, Nat.reduceEqDiff, Nat.reduceBEq, Nat.reduceAdd, Nat.reduceMul, Nat.reduceSub, Nat.reduceLeDiff, Int.reduceToNat, Int.reducePow])) | ((first | refine splitG (fun ht => ?_) (fun ht => ?_) | refine splitGB (fun ht => ?_) (fun ht => ?_) | refine splitR (fun ht => ?_) (fun ht => ?_) | refine splitRB (fun ht => ?_) (fun ht => ?_) | refine splitE (fun ht => ?_) (fun ht => ?_) | refine splitEB (fun ht => ?_) (fun ht => ?_) | refine splitC (fun ht => ?_) (fun ht => ?_) | refine splitCB (fun ht => ?_) (fun ht => ?_)) <;> (simp (disch := first | omega | (simp only [List.length_set, List.length_append, List.length_cons, List.length_nil, List.length_map]; omega)) only [go_sem, Nat.reduceEqDiff, Nat.reduceBEq, Nat.reduceAdd, Nat.reduceMul, Nat.reduceSub, Nat.reduceLeDiff, Int.reduceToNat, Int.reducePow])))
  refine SWp.loop (fun m ρ σ' => ∃ (i : Nat) (rest : List AV), m + i = 64 ∧ 16 ≤ i ∧ rest.length = 64 - i ∧ Rk ρ τ.length p n ∧ ρ 10 = .int .i64 i ∧ σ' = mkS τ u (ws (sched q i) ++ rest)) 48 ?_ ?_
  · exact ⟨16, rest, by omega, by omega, hr, ⟨by simp (disch := first | omega | (simp only [List.length_set, List.length_append, List.length_cons, List.length_nil, List.length_map]; omega)) only [go_sem, Nat.reduceEqDiff, Nat.reduceBEq, Nat.reduceAdd, Nat.reduceMul, Nat.reduceSub, Nat.reduceLeDiff, Int.reduceToNat, Int.reducePow, k2], by simp (disch := first | omega | (simp only [List.length_set, List.length_append, List.length_cons, List.length_nil, List.length_map]; omega)) only [go_sem, Nat.reduceEqDiff, Nat.reduceBEq, Nat.reduceAdd, Nat.reduceMul, Nat.reduceSub, Nat.reduceLeDiff, Int.reduceToNat, Int.reducePow, k3], by simp (disch := first | omega | (simp only [List.length_set, List.length_append, List.length_cons, List.length_nil, List.length_map]; omega)) only [go_sem, Nat.reduceEqDiff, Nat.reduceBEq, Nat.reduceAdd, Nat.reduceMul, Nat.reduceSub, Nat.reduceLeDiff, Int.reduceToNat, Int.reducePow, k4], by simp (disch := first | omega | (simp only [List.length_set, List.length_append, List.length_cons, List.length_nil, List.length_map]; omega)) only [go_sem, Nat.reduceEqDiff, Nat.reduceBEq, Nat.reduceAdd, Nat.reduceMul, Nat.reduceSub, Nat.reduceLeDiff, Int.reduceToNat, Int.reducePow, k5], by simp (disch := first | omega | (simp only [List.length_set, List.length_append, List.length_cons, List.length_nil, List.length_map]; omega)) only [go_sem, Nat.reduceEqDiff, Nat.reduceBEq, Nat.reduceAdd, Nat.reduceMul, Nat.reduceSub, Nat.reduceLeDiff, Int.reduceToNat, Int.reducePow, k6], by simp (disch := first | omega | (simp only [List.length_set, List.length_append, List.length_cons, List.length_nil, List.length_map]; omega)) only [go_sem, Nat.reduceEqDiff, Nat.reduceBEq, Nat.reduceAdd, Nat.reduceMul, Nat.reduceSub, Nat.reduceLeDiff, Int.reduceToNat, Int.reducePow, k7]⟩, by simp (disch := first | omega | (simp only [List.length_set, List.length_append, List.length_cons, List.length_nil, List.length_map]; omega)) only [go_sem, Nat.reduceEqDiff, Nat.reduceBEq, Nat.reduceAdd, Nat.reduceMul, Nat.reduceSub, Nat.reduceLeDiff, Int.reduceToNat, Int.reducePow]; rfl, rfl⟩
  · clear hr
    rintro m ρ σ' ⟨i, rest, hm, h16, hr, ⟨q2, q3, q4, q5, q6, q7⟩, q10, rfl⟩
    have hsl := sched_len q i
    by_cases hi : i < 64
    · have hset := cells_put (x := sNext q (sched q i)) (rest := rest) hsl (by omega)
      have hlen : (ws (sched q i) ++ rest).length = 64 := by rw [List.length_append, ws_len, sched_len, hr]; omega
      have hsc : sched q (i + 1) = sched q i ++ [sNext q (sched q i)] := by rw [sched]
      have en : sNext q (sched q i) = wat (sched q i) (i - 16) + wat (sched q i) (i - 7) + ss0 (wat (sched q i) (i - 15)) + ss1 (wat (sched q i) (i - 2)) := by rw [sNext, if_neg (by omega), hsl]
      have hwi : ∀ j, j < i → (ws (sched q i) ++ rest)[j]? = some (.int .u32 (wat (sched q i) j).toNat) := by
        intro j hj
        rw [List.getElem?_append_left (by rw [ws_len]; omega), wat_lt (by omega)]
      have g16 := hwi (i - 16) (by omega)
      have g7 := hwi (i - 7) (by omega)
      have g15 := hwi (i - 15) (by omega)
      have g2 := hwi (i - 2) (by omega)
      have t16 : ((i : Int) - 16).toNat = i - 16 := by omega
      have t7 : ((i : Int) - 7).toNat = i - 7 := by omega
      have t15 : ((i : Int) - 15).toNat = i - 15 := by omega
      have t2 : ((i : Int) - 2).toNat = i - 2 := by omega
      have r7 : 32 - (7 : Int).toNat = 25 := rfl
      clear hwi
      generalize sNext q (sched q i) = nx at *
      generalize wat (sched q i) (i - 16) = w16 at *
      generalize wat (sched q i) (i - 7) = w7 at *
      generalize wat (sched q i) (i - 15) = w15 at *
      generalize wat (sched q i) (i - 2) = w2 at *
      unfold mkS
      generalize hpb2 : byteEs p = pb at *
      generalize hcc : ws (sched q i) ++ rest = cc at *
      repeat' (first | (apply callW.any; (first | exact (turn_to _ _ _ (by omega))); all_goals try (simp (disch := first | omega | (simp only [List.length_set, List.length_append, List.length_cons, List.length_nil, List.length_map]; omega)) only [go_sem, Nat.reduceEqDiff, Nat.reduceBEq, Nat.reduceAdd, Nat.reduceMul, Nat.reduceSub, Nat.reduceLeDiff, Int.reduceToNat, Int.reducePow, q2, q3, q4, q5, q6, q7, q10, hlen, g16, g7, g15, g2, t16, t7, t15, t2])) | refine SWp.seq ?_ | refine SWp.block ?_ | refine SWp.scope ?_ | (refine SWp.regS ?_; (simp (disch := first | omega | (simp only [List.length_set, List.length_append, List.length_cons, List.length_nil, List.length_map]; omega)) only [go_sem, Nat.reduceEqDiff, Nat.reduceBEq, Nat.reduceAdd, Nat.reduceMul, Nat.reduceSub, Nat.reduceLeDiff, Int.reduceToNat, Int.reducePow, q2, q3, q4, q5, q6, q7, q10, hlen, g16, g7, g15, g2, t16, t7, t15, t2])) | refine SWp.condT rfl ?_ | refine SWp.condF rfl ?_ | (refine SWp.condD rfl (fun ht => ?_) (fun ht => ?_) <;> try (exfalso; omega)) | ((first | refine SWp.skip ?_ | refine SWp.exit ?_ | refine SWp.ret ?_); try (simp (disch := first | omega | (simp only [List.length_set, List.length_append, List.length_cons, List.length_nil, List.length_map]; omega)) only [go_sem, Nat.reduceEqDiff, Nat.reduceBEq, Nat.reduceAdd, Nat.reduceMul, Nat.reduceSub, Nat.reduceLeDiff, Int.reduceToNat, Int.reducePow, q2, q3, q4, q5, q6, q7, q10, hlen, g16, g7, g15, g2, t16, t7, t15, t2])) | ((first | refine splitG (fun ht => ?_) (fun ht => ?_) | refine splitGB (fun ht => ?_) (fun ht => ?_) | refine splitR (fun ht => ?_) (fun ht => ?_) | refine splitRB (fun ht => ?_) (fun ht => ?_) | refine splitE (fun ht => ?_) (fun ht => ?_) | refine splitEB (fun ht => ?_) (fun ht => ?_) | refine splitC (fun ht => ?_) (fun ht => ?_) | refine splitCB (fun ht => ?_) (fun ht => ?_)) <;> (simp (disch := first | omega | (simp only [List.length_set, List.length_append, List.length_cons, List.length_nil, List.length_map]; omega)) only [go_sem, Nat.reduceEqDiff, Nat.reduceBEq, Nat.reduceAdd, Nat.reduceMul, Nat.reduceSub, Nat.reduceLeDiff, Int.reduceToNat, Int.reducePow, q2, q3, q4, q5, q6, q7, q10, hlen, g16, g7, g15, g2, t16, t7, t15, t2])))
      refine ⟨64 - (i + 1), by omega, i + 1, rest.drop 1, by omega, by omega, by rw [List.length_drop]; omega, ⟨by simp (disch := first | omega | (simp only [List.length_set, List.length_append, List.length_cons, List.length_nil, List.length_map]; omega)) only [go_sem, Nat.reduceEqDiff, Nat.reduceBEq, Nat.reduceAdd, Nat.reduceMul, Nat.reduceSub, Nat.reduceLeDiff, Int.reduceToNat, Int.reducePow, q2], by simp (disch := first | omega | (simp only [List.length_set, List.length_append, List.length_cons, List.length_nil, List.length_map]; omega)) only [go_sem, Nat.reduceEqDiff, Nat.reduceBEq, Nat.reduceAdd, Nat.reduceMul, Nat.reduceSub, Nat.reduceLeDiff, Int.reduceToNat, Int.reducePow, q3], by simp (disch := first | omega | (simp only [List.length_set, List.length_append, List.length_cons, List.length_nil, List.length_map]; omega)) only [go_sem, Nat.reduceEqDiff, Nat.reduceBEq, Nat.reduceAdd, Nat.reduceMul, Nat.reduceSub, Nat.reduceLeDiff, Int.reduceToNat, Int.reducePow, q4], (by simp (disch := first | omega | (simp only [List.length_set, List.length_append, List.length_cons, List.length_nil, List.length_map]; omega)) only [go_sem, Nat.reduceEqDiff, Nat.reduceBEq, Nat.reduceAdd, Nat.reduceMul, Nat.reduceSub, Nat.reduceLeDiff, Int.reduceToNat, Int.reducePow, q5]; rw [hpb2]), by simp (disch := first | omega | (simp only [List.length_set, List.length_append, List.length_cons, List.length_nil, List.length_map]; omega)) only [go_sem, Nat.reduceEqDiff, Nat.reduceBEq, Nat.reduceAdd, Nat.reduceMul, Nat.reduceSub, Nat.reduceLeDiff, Int.reduceToNat, Int.reducePow, q6], by simp (disch := first | omega | (simp only [List.length_set, List.length_append, List.length_cons, List.length_nil, List.length_map]; omega)) only [go_sem, Nat.reduceEqDiff, Nat.reduceBEq, Nat.reduceAdd, Nat.reduceMul, Nat.reduceSub, Nat.reduceLeDiff, Int.reduceToNat, Int.reducePow, q7]⟩, by simp, ?_⟩
      rw [hsc, ← hset, en]
      have ec : ∀ s t : W, w16 + s + w7 + t = w16 + w7 + s + t := fun s t => by rw [BitVec.add_assoc w16 s w7, BitVec.add_comm s w7, ← BitVec.add_assoc w16 w7 s]
      rw [ec]
      rfl
    · obtain rfl : i = 64 := by omega
      have hr0 : rest = [] := List.eq_nil_of_length_eq_zero (by omega)
      rw [hr0, ← hR, List.append_nil]
      clear hsl hR
      repeat' (first | refine SWp.seq ?_ | refine SWp.block ?_ | refine SWp.scope ?_ | (refine SWp.reg ?_; (simp (disch := first | omega | (simp only [List.length_set, List.length_append, List.length_cons, List.length_nil, List.length_map]; omega)) only [go_sem, Nat.reduceEqDiff, Nat.reduceBEq, Nat.reduceAdd, Nat.reduceMul, Nat.reduceSub, Nat.reduceLeDiff, Int.reduceToNat, Int.reducePow, q10])) | refine SWp.condT rfl ?_ | refine SWp.condF rfl ?_ | (refine SWp.condD rfl (fun ht => ?_) (fun ht => ?_) <;> try (exfalso; omega)) | ((first | refine SWp.skip ?_ | refine SWp.exit ?_ | refine SWp.ret ?_); try (simp (disch := first | omega | (simp only [List.length_set, List.length_append, List.length_cons, List.length_nil, List.length_map]; omega)) only [go_sem, Nat.reduceEqDiff, Nat.reduceBEq, Nat.reduceAdd, Nat.reduceMul, Nat.reduceSub, Nat.reduceLeDiff, Int.reduceToNat, Int.reducePow, q10])) | ((first | refine splitG (fun ht => ?_) (fun ht => ?_) | refine splitGB (fun ht => ?_) (fun ht => ?_) | refine splitR (fun ht => ?_) (fun ht => ?_) | refine splitRB (fun ht => ?_) (fun ht => ?_) | refine splitE (fun ht => ?_) (fun ht => ?_) | refine splitEB (fun ht => ?_) (fun ht => ?_) | refine splitC (fun ht => ?_) (fun ht => ?_) | refine splitCB (fun ht => ?_) (fun ht => ?_)) <;> (simp (disch := first | omega | (simp only [List.length_set, List.length_append, List.length_cons, List.length_nil, List.length_map]; omega)) only [go_sem, Nat.reduceEqDiff, Nat.reduceBEq, Nat.reduceAdd, Nat.reduceMul, Nat.reduceSub, Nat.reduceLeDiff, Int.reduceToNat, Int.reducePow, q10])))
      exact hQ _ ⟨by simp (disch := first | omega | (simp only [List.length_set, List.length_append, List.length_cons, List.length_nil, List.length_map]; omega)) only [go_sem, Nat.reduceEqDiff, Nat.reduceBEq, Nat.reduceAdd, Nat.reduceMul, Nat.reduceSub, Nat.reduceLeDiff, Int.reduceToNat, Int.reducePow, q2], by simp (disch := first | omega | (simp only [List.length_set, List.length_append, List.length_cons, List.length_nil, List.length_map]; omega)) only [go_sem, Nat.reduceEqDiff, Nat.reduceBEq, Nat.reduceAdd, Nat.reduceMul, Nat.reduceSub, Nat.reduceLeDiff, Int.reduceToNat, Int.reducePow, q3], by simp (disch := first | omega | (simp only [List.length_set, List.length_append, List.length_cons, List.length_nil, List.length_map]; omega)) only [go_sem, Nat.reduceEqDiff, Nat.reduceBEq, Nat.reduceAdd, Nat.reduceMul, Nat.reduceSub, Nat.reduceLeDiff, Int.reduceToNat, Int.reducePow, q4], by simp (disch := first | omega | (simp only [List.length_set, List.length_append, List.length_cons, List.length_nil, List.length_map]; omega)) only [go_sem, Nat.reduceEqDiff, Nat.reduceBEq, Nat.reduceAdd, Nat.reduceMul, Nat.reduceSub, Nat.reduceLeDiff, Int.reduceToNat, Int.reducePow, q5], by simp (disch := first | omega | (simp only [List.length_set, List.length_append, List.length_cons, List.length_nil, List.length_map]; omega)) only [go_sem, Nat.reduceEqDiff, Nat.reduceBEq, Nat.reduceAdd, Nat.reduceMul, Nat.reduceSub, Nat.reduceLeDiff, Int.reduceToNat, Int.reducePow, q6], by simp (disch := first | omega | (simp only [List.length_set, List.length_append, List.length_cons, List.length_nil, List.length_map]; omega)) only [go_sem, Nat.reduceEqDiff, Nat.reduceBEq, Nat.reduceAdd, Nat.reduceMul, Nat.reduceSub, Nat.reduceLeDiff, Int.reduceToNat, Int.reducePow, q7]⟩
end
end Am
end Go.Proofs.YtfofemaglndnjaaDoor
end
section
set_option linter.unusedSimpArgs false
set_option linter.unusedVariables false
/- SHA-256: the reference's Sum: the rounds. -/
set_option linter.unusedSimpArgs false
set_option linter.unusedVariables false
namespace Go.Proofs.YtfofemaglndnjaaDoor
namespace Am
theorem k_get {i : Nat} (h : i < 64) : gl_sha_rounds[i]? = some (.int .u32 (kAt i).toNat) := by
  have := kAt_get h
  rwa [List.getElem?_drop, Nat.add_zero] at this
section
variable {k : Nat} {Q : AExit → Env → Store → Prop} {ρ : Env} {τ : Store} {u : V8} {p : List UInt8} {n : Nat}
set_option maxHeartbeats 8000000 in
theorem ref_rounds {q : List UInt8} (K : Rk ρ τ.length p n)
    (hQ : ∀ ρ', Rk ρ' τ.length p n → Q .normal ρ' (mkS τ (mixS u q) (ws (sched q 64)))) : SWp TC 252 k speculumref02_Sum_c53 Q ρ (mkS τ u (ws (sched q 64))) := by
  obtain ⟨R, hR⟩ : ∃ R, R = sched q 64 := ⟨_, rfl⟩
  have hRl : R.length = 64 := by rw [hR, sched_len]
  have hwR : (ws R).length = 64 := by rw [ws_len, hRl]
  have hst : ∀ n, rnds q u (n + 1) = rnd (rnds q u n) (kAt n) (wat R n) := fun n => by rw [rnds, hR]
  obtain ⟨U, hU⟩ : ∃ U, U = rnds q u 64 := ⟨_, rfl⟩
  have hmix : mixS u q = U.add u := by rw [mixS, hU]
  rw [hmix] at hQ
  rw [← hR] at hQ ⊢
  obtain ⟨k2, k3, k4, k5, k6, k7⟩ := K
  unfold mkS
  refine SWp.seq ?_
  (refine SWp.regS ?_; (simp (disch := first | omega | (simp only [List.length_set, List.length_append, List.length_cons, List.length_nil, List.length_map]; omega)) only [go_sem, Nat.reduceEqDiff, Nat.reduceBEq, Nat.reduceAdd, Nat.reduceMul, Nat.reduceSub, Nat.reduceLeDiff, Int.reduceToNat, Int.reducePow, k4, V8.c8]))
  (refine SWp.slots [2, 3, 4, 5, 6, 7, 13, 14, 15, 16, 17, 18, 19, 20] ?_; intro ρ1 hs; simp (disch := first | omega | (simp only [List.length_set, List.length_append, List.length_cons, List.length_nil, List.length_map]; omega)) only [go_sem, Nat.reduceEqDiff, Nat.reduceBEq, Nat.reduceAdd, Nat.reduceMul, Nat.reduceSub, Nat.reduceLeDiff, Int.reduceToNat, Int.reducePow, k2, k3, k4, k5, k6, k7] at hs; obtain ⟨s2, s3, s4, s5, s6, s7, s13, s14, s15, s16, s17, s18, s19, s20⟩ := hs)
  refine SWp.seq ?_
  refine SWp.seq ?_
  (refine SWp.regS ?_; (simp (disch := first | omega | (simp only [List.length_set, List.length_append, List.length_cons, List.length_nil, List.length_map]; omega)) only [go_sem, Nat.reduceEqDiff, Nat.reduceBEq, Nat.reduceAdd, Nat.reduceMul, Nat.reduceSub, Nat.reduceLeDiff, Int.reduceToNat, Int.reducePow]))
  refine SWp.block ?_
  refine SWp.loop (fun m ρ σ' => ∃ i : Nat, m + i = 64 ∧ Rk ρ τ.length p n ∧ ρ 21 = .int .i64 i ∧ ρ 13 = .int .u32 (rnds q u i).a.toNat ∧ ρ 14 = .int .u32 (rnds q u i).b.toNat ∧ ρ 15 = .int .u32 (rnds q u i).c.toNat ∧ ρ 16 = .int .u32 (rnds q u i).d.toNat ∧
    ρ 17 = .int .u32 (rnds q u i).e.toNat ∧ ρ 18 = .int .u32 (rnds q u i).f.toNat ∧ ρ 19 = .int .u32 (rnds q u i).g.toNat ∧ ρ 20 = .int .u32 (rnds q u i).h.toNat ∧ σ' = mkS τ u (ws R)) 64 ?_ ?_
  · exact ⟨0, by omega, ⟨by simp (disch := first | omega | (simp only [List.length_set, List.length_append, List.length_cons, List.length_nil, List.length_map]; omega)) only [go_sem, Nat.reduceEqDiff, Nat.reduceBEq, Nat.reduceAdd, Nat.reduceMul, Nat.reduceSub, Nat.reduceLeDiff, Int.reduceToNat, Int.reducePow, s2], by simp (disch := first | omega | (simp only [List.length_set, List.length_append, List.length_cons, List.length_nil, List.length_map]; omega)) only [go_sem, Nat.reduceEqDiff, Nat.reduceBEq, Nat.reduceAdd, Nat.reduceMul, Nat.reduceSub, Nat.reduceLeDiff, Int.reduceToNat, Int.reducePow, s3], by simp (disch := first | omega | (simp only [List.length_set, List.length_append, List.length_cons, List.length_nil, List.length_map]; omega)) only [go_sem, Nat.reduceEqDiff, Nat.reduceBEq, Nat.reduceAdd, Nat.reduceMul, Nat.reduceSub, Nat.reduceLeDiff, Int.reduceToNat, Int.reducePow, s4], by simp (disch := first | omega | (simp only [List.length_set, List.length_append, List.length_cons, List.length_nil, List.length_map]; omega)) only [go_sem, Nat.reduceEqDiff, Nat.reduceBEq, Nat.reduceAdd, Nat.reduceMul, Nat.reduceSub, Nat.reduceLeDiff, Int.reduceToNat, Int.reducePow, s5], by simp (disch := first | omega | (simp only [List.length_set, List.length_append, List.length_cons, List.length_nil, List.length_map]; omega)) only [go_sem, Nat.reduceEqDiff, Nat.reduceBEq, Nat.reduceAdd, Nat.reduceMul, Nat.reduceSub, Nat.reduceLeDiff, Int.reduceToNat, Int.reducePow, s6], by simp (disch := first | omega | (simp only [List.length_set, List.length_append, List.length_cons, List.length_nil, List.length_map]; omega)) only [go_sem, Nat.reduceEqDiff, Nat.reduceBEq, Nat.reduceAdd, Nat.reduceMul, Nat.reduceSub, Nat.reduceLeDiff, Int.reduceToNat, Int.reducePow, s7]⟩, by simp (disch := first | omega | (simp only [List.length_set, List.length_append, List.length_cons, List.length_nil, List.length_map]; omega)) only [go_sem, Nat.reduceEqDiff, Nat.reduceBEq, Nat.reduceAdd, Nat.reduceMul, Nat.reduceSub, Nat.reduceLeDiff, Int.reduceToNat, Int.reducePow]; rfl, by simp (disch := first | omega | (simp only [List.length_set, List.length_append, List.length_cons, List.length_nil, List.length_map]; omega)) only [go_sem, Nat.reduceEqDiff, Nat.reduceBEq, Nat.reduceAdd, Nat.reduceMul, Nat.reduceSub, Nat.reduceLeDiff, Int.reduceToNat, Int.reducePow, s13]; rfl, by simp (disch := first | omega | (simp only [List.length_set, List.length_append, List.length_cons, List.length_nil, List.length_map]; omega)) only [go_sem, Nat.reduceEqDiff, Nat.reduceBEq, Nat.reduceAdd, Nat.reduceMul, Nat.reduceSub, Nat.reduceLeDiff, Int.reduceToNat, Int.reducePow, s14]; rfl, by simp (disch := first | omega | (simp only [List.length_set, List.length_append, List.length_cons, List.length_nil, List.length_map]; omega)) only [go_sem, Nat.reduceEqDiff, Nat.reduceBEq, Nat.reduceAdd, Nat.reduceMul, Nat.reduceSub, Nat.reduceLeDiff, Int.reduceToNat, Int.reducePow, s15]; rfl, by simp (disch := first | omega | (simp only [List.length_set, List.length_append, List.length_cons, List.length_nil, List.length_map]; omega)) only [go_sem, Nat.reduceEqDiff, Nat.reduceBEq, Nat.reduceAdd, Nat.reduceMul, Nat.reduceSub, Nat.reduceLeDiff, Int.reduceToNat, Int.reducePow, s16]; rfl, by simp (disch := first | omega | (simp only [List.length_set, List.length_append, List.length_cons, List.length_nil, List.length_map]; omega)) only [go_sem, Nat.reduceEqDiff, Nat.reduceBEq, Nat.reduceAdd, Nat.reduceMul, Nat.reduceSub, Nat.reduceLeDiff, Int.reduceToNat, Int.reducePow, s17]; rfl, by simp (disch := first | omega | (simp only [List.length_set, List.length_append, List.length_cons, List.length_nil, List.length_map]; omega)) only [go_sem, Nat.reduceEqDiff, Nat.reduceBEq, Nat.reduceAdd, Nat.reduceMul, Nat.reduceSub, Nat.reduceLeDiff, Int.reduceToNat, Int.reducePow, s18]; rfl, by simp (disch := first | omega | (simp only [List.length_set, List.length_append, List.length_cons, List.length_nil, List.length_map]; omega)) only [go_sem, Nat.reduceEqDiff, Nat.reduceBEq, Nat.reduceAdd, Nat.reduceMul, Nat.reduceSub, Nat.reduceLeDiff, Int.reduceToNat, Int.reducePow, s19]; rfl, by simp (disch := first | omega | (simp only [List.length_set, List.length_append, List.length_cons, List.length_nil, List.length_map]; omega)) only [go_sem, Nat.reduceEqDiff, Nat.reduceBEq, Nat.reduceAdd, Nat.reduceMul, Nat.reduceSub, Nat.reduceLeDiff, Int.reduceToNat, Int.reducePow, s20]; rfl, rfl⟩
  · clear s2 s3 s4 s5 s6 s7 s13 s14 s15 s16 s17 s18 s19 s20
    rintro m ρ σ' ⟨i, hm, ⟨q2, q3, q4, q5, q6, q7⟩, q21, q13, q14, q15, q16, q17, q18, q19, q20, rfl⟩
    by_cases hi : i < 64
    · have hk := k_get hi
      have hw := wat_lt (w := R) (i := i) (by omega)
      have hst := hst i
      generalize rnds q u i = v at *
      obtain ⟨a, b, c, d, e, f, g, h⟩ := v
      simp only at q13 q14 q15 q16 q17 q18 q19 q20
      generalize kAt i = kk at *
      generalize wat R i = ww at *
      generalize hpb : byteEs p = pb at *
      unfold mkS
      refine SWp.seq ?_
      refine SWp.seq ?_
      (refine SWp.regS ?_; (simp (disch := first | omega | (simp only [List.length_set, List.length_append, List.length_cons, List.length_nil, List.length_map]; omega)) only [go_sem, Nat.reduceEqDiff, Nat.reduceBEq, Nat.reduceAdd, Nat.reduceMul, Nat.reduceSub, Nat.reduceLeDiff, Int.reduceToNat, Int.reducePow, q21]))
      refine SWp.condT rfl ?_
      refine SWp.skip ?_
      simp (disch := first | omega | (simp only [List.length_set, List.length_append, List.length_cons, List.length_nil, List.length_map]; omega)) only [go_sem, Nat.reduceEqDiff, Nat.reduceBEq, Nat.reduceAdd, Nat.reduceMul, Nat.reduceSub, Nat.reduceLeDiff, Int.reduceToNat, Int.reducePow]
      refine SWp.seq ?_
      refine SWp.block ?_
      refine SWp.seq ?_
      (refine SWp.regS ?_; (simp (disch := first | omega | (simp only [List.length_set, List.length_append, List.length_cons, List.length_nil, List.length_map]; omega)) only [go_sem, Nat.reduceEqDiff, Nat.reduceBEq, Nat.reduceAdd, Nat.reduceMul, Nat.reduceSub, Nat.reduceLeDiff, Int.reduceToNat, Int.reducePow, q3, q6, q17, q18, q19, q20, q21, hwR, hk, hw, gl_rounds_len]); repeat' (apply callW.any; (first | exact (turn_to _ _ _ (by omega))); all_goals try (simp (disch := first | omega | (simp only [List.length_set, List.length_append, List.length_cons, List.length_nil, List.length_map]; omega)) only [go_sem, Nat.reduceEqDiff, Nat.reduceBEq, Nat.reduceAdd, Nat.reduceMul, Nat.reduceSub, Nat.reduceLeDiff, Int.reduceToNat, Int.reducePow, q3, q6, q17, q18, q19, q20, q21, hwR, hk, hw, gl_rounds_len])))
      (refine SWp.slots [2, 3, 4, 5, 6, 7, 13, 14, 15, 16, 17, 18, 19, 20, 21, 22] ?_; intro ρ2 hs; simp (disch := first | omega | (simp only [List.length_set, List.length_append, List.length_cons, List.length_nil, List.length_map]; omega)) only [go_sem, Nat.reduceEqDiff, Nat.reduceBEq, Nat.reduceAdd, Nat.reduceMul, Nat.reduceSub, Nat.reduceLeDiff, Int.reduceToNat, Int.reducePow, q2, q3, q4, q5, q6, q7, q13, q14, q15, q16, q17, q18, q19, q20, q21] at hs; obtain ⟨s2, s3, s4, s5, s6, s7, s13, s14, s15, s16, s17, s18, s19, s20, s21, s22⟩ := hs)
      refine SWp.seq ?_
      (refine SWp.regS ?_; (simp (disch := first | omega | (simp only [List.length_set, List.length_append, List.length_cons, List.length_nil, List.length_map]; omega)) only [go_sem, Nat.reduceEqDiff, Nat.reduceBEq, Nat.reduceAdd, Nat.reduceMul, Nat.reduceSub, Nat.reduceLeDiff, Int.reduceToNat, Int.reducePow, s13, s14, s15]); repeat' (apply callW.any; (first | exact (turn_to _ _ _ (by omega))); all_goals try (simp (disch := first | omega | (simp only [List.length_set, List.length_append, List.length_cons, List.length_nil, List.length_map]; omega)) only [go_sem, Nat.reduceEqDiff, Nat.reduceBEq, Nat.reduceAdd, Nat.reduceMul, Nat.reduceSub, Nat.reduceLeDiff, Int.reduceToNat, Int.reducePow, s13, s14, s15])))
      (refine SWp.slots [2, 3, 4, 5, 6, 7, 13, 14, 15, 16, 17, 18, 19, 20, 21, 22, 23] ?_; intro ρ3 hs; simp (disch := first | omega | (simp only [List.length_set, List.length_append, List.length_cons, List.length_nil, List.length_map]; omega)) only [go_sem, Nat.reduceEqDiff, Nat.reduceBEq, Nat.reduceAdd, Nat.reduceMul, Nat.reduceSub, Nat.reduceLeDiff, Int.reduceToNat, Int.reducePow, s2, s3, s4, s5, s6, s7, s13, s14, s15, s16, s17, s18, s19, s20, s21, s22] at hs; obtain ⟨s2, s3, s4, s5, s6, s7, s13, s14, s15, s16, s17, s18, s19, s20, s21, s22, s23⟩ := hs)
      (refine SWp.regS ?_; (simp (disch := first | omega | (simp only [List.length_set, List.length_append, List.length_cons, List.length_nil, List.length_map]; omega)) only [go_sem, Nat.reduceEqDiff, Nat.reduceBEq, Nat.reduceAdd, Nat.reduceMul, Nat.reduceSub, Nat.reduceLeDiff, Int.reduceToNat, Int.reducePow, s13, s14, s15, s16, s17, s18, s19, s22, s23]))
      (refine SWp.slots [2, 3, 4, 5, 6, 7, 13, 14, 15, 16, 17, 18, 19, 20, 21] ?_; intro ρ4 hs; simp (disch := first | omega | (simp only [List.length_set, List.length_append, List.length_cons, List.length_nil, List.length_map]; omega)) only [go_sem, Nat.reduceEqDiff, Nat.reduceBEq, Nat.reduceAdd, Nat.reduceMul, Nat.reduceSub, Nat.reduceLeDiff, Int.reduceToNat, Int.reducePow, s2, s3, s4, s5, s6, s7, s21] at hs; obtain ⟨s2, s3, s4, s5, s6, s7, s13, s14, s15, s16, s17, s18, s19, s20, s21⟩ := hs)
      (refine SWp.regS ?_; (simp (disch := first | omega | (simp only [List.length_set, List.length_append, List.length_cons, List.length_nil, List.length_map]; omega)) only [go_sem, Nat.reduceEqDiff, Nat.reduceBEq, Nat.reduceAdd, Nat.reduceMul, Nat.reduceSub, Nat.reduceLeDiff, Int.reduceToNat, Int.reducePow, s21]))
      refine ⟨64 - (i + 1), by omega, i + 1, by omega, ⟨s2, s3, s4, by rw [hpb]; exact s5, s6, s7⟩, by simp, ?_⟩
      rw [hst]
      simp only [rnd, bs1, chW, bs0, majW]
      exact ⟨s13, s14, s15, s16, s17, s18, s19, s20⟩
    · obtain rfl : i = 64 := by omega
      rw [← hU] at q13 q14 q15 q16 q17 q18 q19 q20
      clear hst hU hmix
      obtain ⟨a, b, c, d, e, f, g, h⟩ := U
      obtain ⟨a', b', c', d', e', f', g', h'⟩ := u
      simp only at q13 q14 q15 q16 q17 q18 q19 q20
      unfold mkS
      unfold mkS at hQ
      simp only [V8.add, V8.c8] at hQ
      simp only [V8.c8]
      generalize hpb : byteEs p = pb at *
      refine SWp.seq ?_
      refine SWp.seq ?_
      (refine SWp.regS ?_; (simp (disch := first | omega | (simp only [List.length_set, List.length_append, List.length_cons, List.length_nil, List.length_map]; omega)) only [go_sem, Nat.reduceEqDiff, Nat.reduceBEq, Nat.reduceAdd, Nat.reduceMul, Nat.reduceSub, Nat.reduceLeDiff, Int.reduceToNat, Int.reducePow, q21]))
      refine SWp.condF rfl ?_
      refine SWp.exit ?_
      simp (disch := first | omega | (simp only [List.length_set, List.length_append, List.length_cons, List.length_nil, List.length_map]; omega)) only [go_sem, Nat.reduceEqDiff, Nat.reduceBEq, Nat.reduceAdd, Nat.reduceMul, Nat.reduceSub, Nat.reduceLeDiff, Int.reduceToNat, Int.reducePow]
      (refine SWp.regS ?_; (simp (disch := first | omega | (simp only [List.length_set, List.length_append, List.length_cons, List.length_nil, List.length_map]; omega)) only [go_sem, Nat.reduceEqDiff, Nat.reduceBEq, Nat.reduceAdd, Nat.reduceMul, Nat.reduceSub, Nat.reduceLeDiff, Int.reduceToNat, Int.reducePow, q4, q13, q14, q15, q16, q17, q18, q19, q20]))
      rw [BitVec.add_comm a' a, BitVec.add_comm b' b, BitVec.add_comm c' c, BitVec.add_comm d' d, BitVec.add_comm e' e, BitVec.add_comm f' f, BitVec.add_comm g' g, BitVec.add_comm h' h]
      exact hQ _ ⟨by simp (disch := first | omega | (simp only [List.length_set, List.length_append, List.length_cons, List.length_nil, List.length_map]; omega)) only [go_sem, Nat.reduceEqDiff, Nat.reduceBEq, Nat.reduceAdd, Nat.reduceMul, Nat.reduceSub, Nat.reduceLeDiff, Int.reduceToNat, Int.reducePow, q2], by simp (disch := first | omega | (simp only [List.length_set, List.length_append, List.length_cons, List.length_nil, List.length_map]; omega)) only [go_sem, Nat.reduceEqDiff, Nat.reduceBEq, Nat.reduceAdd, Nat.reduceMul, Nat.reduceSub, Nat.reduceLeDiff, Int.reduceToNat, Int.reducePow, q3], by simp (disch := first | omega | (simp only [List.length_set, List.length_append, List.length_cons, List.length_nil, List.length_map]; omega)) only [go_sem, Nat.reduceEqDiff, Nat.reduceBEq, Nat.reduceAdd, Nat.reduceMul, Nat.reduceSub, Nat.reduceLeDiff, Int.reduceToNat, Int.reducePow, q4], (by simp (disch := first | omega | (simp only [List.length_set, List.length_append, List.length_cons, List.length_nil, List.length_map]; omega)) only [go_sem, Nat.reduceEqDiff, Nat.reduceBEq, Nat.reduceAdd, Nat.reduceMul, Nat.reduceSub, Nat.reduceLeDiff, Int.reduceToNat, Int.reducePow, q5]; rw [hpb]), by simp (disch := first | omega | (simp only [List.length_set, List.length_append, List.length_cons, List.length_nil, List.length_map]; omega)) only [go_sem, Nat.reduceEqDiff, Nat.reduceBEq, Nat.reduceAdd, Nat.reduceMul, Nat.reduceSub, Nat.reduceLeDiff, Int.reduceToNat, Int.reducePow, q6], by simp (disch := first | omega | (simp only [List.length_set, List.length_append, List.length_cons, List.length_nil, List.length_map]; omega)) only [go_sem, Nat.reduceEqDiff, Nat.reduceBEq, Nat.reduceAdd, Nat.reduceMul, Nat.reduceSub, Nat.reduceLeDiff, Int.reduceToNat, Int.reducePow, q7]⟩
end
end Am
end Go.Proofs.YtfofemaglndnjaaDoor
end
section
set_option linter.unusedSimpArgs false
set_option linter.unusedVariables false
/- SHA-256: the reference's Sum. -/
set_option linter.unusedSimpArgs false
set_option linter.unusedVariables false
namespace Go.Proofs.YtfofemaglndnjaaDoor
namespace Am
theorem sum_r1 {C : Ctx} {K : Env → Store → Prop} {H : Hist} {ρ : Env} {σ : Store} : opsWp C K speculumref02_Sum_r1 H ρ σ = opsWp C K (speculumref02_Sum_r1.drop 1) H (upd ρ 26 (.agg gl_sha_rounds)) σ := by kernel_rfl
theorem flat_get {l : List W} {i : Nat} (h : i < 4 * l.length) : (l.flatMap fun x => be 4 x.toNat)[i]? = (be 4 (wat l (i / 4)).toNat)[i % 4]? := by
  induction l generalizing i with
  | nil => simp at h
  | cons x l ih =>
    have hb : (be 4 x.toNat).length = 4 := be_length _ _
    rw [List.flatMap_cons]
    by_cases hi : i < 4
    · rw [List.getElem?_append_left (by omega), Nat.div_eq_of_lt hi, Nat.mod_eq_of_lt hi]; rfl
    · simp only [List.length_cons] at h
      rw [List.getElem?_append_right (by omega), hb, ih (by omega), show i / 4 = (i - 4) / 4 + 1 by omega, show (i - 4) % 4 = i % 4 by omega]
      rfl
theorem be4_get (x : Nat) {j : Nat} (h : j < 4) : (be 4 x)[j]? = some (UInt8.ofNat (x / 2 ^ (24 - 8 * j))) := by
  have e : be 4 x = [UInt8.ofNat (x / 256 ^ 3), UInt8.ofNat (x / 256 ^ 2), UInt8.ofNat (x / 256 ^ 1), UInt8.ofNat (x / 256 ^ 0)] := by
    simp only [be_cons]
    rfl
  rw [e]
  have hj : j = 0 ∨ j = 1 ∨ j = 2 ∨ j = 3 := by omega
  rcases hj with rfl | rfl | rfl | rfl <;> rfl
theorem out_get (v : V8) {i : Nat} (h : i < 32) : (outV v)[i]? = some (UInt8.ofNat ((wat v.l (i / 4)).toNat / 2 ^ (24 - 8 * (i % 4)))) := by
  unfold outV
  rw [flat_get (by simp [V8.l]; omega), be4_get _ (Nat.mod_lt _ (by decide))]
def ocells (v : V8) (i : Nat) : List AV := byteEsC ((outV v).take i) ++ List.replicate (32 - i) (.int .u8 0)
theorem ocells_len (v : V8) {i : Nat} (h : i ≤ 32) : (ocells v i).length = 32 := by simp [ocells, byteEsC_len, outV_len]; omega
theorem ocells_step (v : V8) {i : Nat} (h : i < 32) {b : Int} (hb : b = (((wat v.l (i / 4)).toNat / 2 ^ (24 - 8 * (i % 4)) % 256 : Nat) : Int)) :
    (ocells v i).take i ++ AV.int .u8 b :: (ocells v i).drop (i + 1) = ocells v (i + 1) := by
  have h1 : (byteEsC ((outV v).take i)).length = i := by rw [byteEsC_len, List.length_take, outV_len]; omega
  have hg := out_get v h
  have hs : (outV v).take (i + 1) = (outV v).take i ++ [UInt8.ofNat ((wat v.l (i / 4)).toNat / 2 ^ (24 - 8 * (i % 4)))] := by
    rw [List.take_add_one, hg]; rfl
  unfold ocells
  rw [List.take_append_of_le_length (by omega), List.take_of_length_le (by omega), List.drop_append, List.drop_of_length_le (by omega), h1, show i + 1 - i = 1 by omega, List.nil_append, hs]
  rw [List.drop_replicate, show 32 - i - 1 = 32 - (i + 1) by omega]
  simp [byteEsC, hb]
set_option maxHeartbeats 8000000 in
theorem ref_Sum_to (σ : Store) (s : List UInt8) (h : s.length < 900000000) : ACallsTo TC 65 [.str s] σ (.agg (byteEsC (shaS s))) σ := by
  obtain ⟨p, hp⟩ : ∃ p, p = padS s := ⟨_, rfl⟩
  obtain ⟨hp1, hp2⟩ := padS_len s
  rw [← hp] at hp1 hp2
  obtain ⟨N, hN⟩ : ∃ N, p.length = 64 * N := ⟨p.length / 64, by omega⟩
  obtain ⟨V, hV⟩ : ∃ V, V = blocks N v0 p := ⟨_, rfl⟩
  have hS : shaS s = outV V := by
    unfold shaS
    rw [← hp, hV]
    have : p.length / 64 = N := by omega
    rw [this]
  rw [hS]
  have hf := fun σ => pad_to σ s (by omega)
  rw [← hp] at hf
  refine ACallsTo.of_body speculumref02_Sum_ok (by simp) fun hw _ => ?_
  refine SWp.seq ?_
  refine SWp.reg ?_
  simp (disch := first | omega | (simp only [List.length_set, List.length_append, List.length_cons, List.length_nil, List.length_map]; omega)) only [go_sem, Nat.reduceEqDiff, Nat.reduceBEq, Nat.reduceAdd, Nat.reduceMul, Nat.reduceSub, Nat.reduceLeDiff, Int.reduceToNat, Int.reducePow]
  refine SWp.seq ?_
  refine SWp.reg ?_
  rw [sum_r1]
  simp (disch := first | omega | (simp only [List.length_set, List.length_append, List.length_cons, List.length_nil, List.length_map]; omega)) only [go_sem, Nat.reduceEqDiff, Nat.reduceBEq, Nat.reduceAdd, Nat.reduceMul, Nat.reduceSub, Nat.reduceLeDiff, Int.reduceToNat, Int.reducePow, gl_rounds_len]
  refine SWp.seq ?_
  refine SWp.reg ?_
  simp (disch := first | omega | (simp only [List.length_set, List.length_append, List.length_cons, List.length_nil, List.length_map]; omega)) only [go_sem, Nat.reduceEqDiff, Nat.reduceBEq, Nat.reduceAdd, Nat.reduceMul, Nat.reduceSub, Nat.reduceLeDiff, Int.reduceToNat, Int.reducePow]
  refine SWp.seq ?_
  repeat' (first | (apply callW.any; (first | exact (hf _)); all_goals try (simp (disch := first | omega | (simp only [List.length_set, List.length_append, List.length_cons, List.length_nil, List.length_map]; omega)) only [go_sem, Nat.reduceEqDiff, Nat.reduceBEq, Nat.reduceAdd, Nat.reduceMul, Nat.reduceSub, Nat.reduceLeDiff, Int.reduceToNat, Int.reducePow])) | refine SWp.seq ?_ | refine SWp.block ?_ | refine SWp.scope ?_ | (refine SWp.reg ?_; (simp (disch := first | omega | (simp only [List.length_set, List.length_append, List.length_cons, List.length_nil, List.length_map]; omega)) only [go_sem, Nat.reduceEqDiff, Nat.reduceBEq, Nat.reduceAdd, Nat.reduceMul, Nat.reduceSub, Nat.reduceLeDiff, Int.reduceToNat, Int.reducePow])) | refine SWp.condT rfl ?_ | refine SWp.condF rfl ?_ | (refine SWp.condD rfl (fun ht => ?_) (fun ht => ?_) <;> try (exfalso; omega)) | ((first | refine SWp.skip ?_ | refine SWp.exit ?_ | refine SWp.ret ?_); try (simp (disch := first | omega | (simp only [List.length_set, List.length_append, List.length_cons, List.length_nil, List.length_map]; omega)) only [go_sem, Nat.reduceEqDiff, Nat.reduceBEq, Nat.reduceAdd, Nat.reduceMul, Nat.reduceSub, Nat.reduceLeDiff, Int.reduceToNat, Int.reducePow])) | ((first | refine splitG (fun ht => ?_) (fun ht => ?_) | refine splitGB (fun ht => ?_) (fun ht => ?_) | refine splitR (fun ht => ?_) (fun ht => ?_) | refine splitRB (fun ht => ?_) (fun ht => ?_) | refine splitE (fun ht => ?_) (fun ht => ?_) | refine splitEB (fun ht => ?_) (fun ht => ?_) | refine splitC (fun ht => ?_) (fun ht => ?_) | refine splitCB (fun ht => ?_) (fun ht => ?_)) <;> (simp (disch := first | omega | (simp only [List.length_set, List.length_append, List.length_cons, List.length_nil, List.length_map]; omega)) only [go_sem, Nat.reduceEqDiff, Nat.reduceBEq, Nat.reduceAdd, Nat.reduceMul, Nat.reduceSub, Nat.reduceLeDiff, Int.reduceToNat, Int.reducePow])))
  refine SWp.loop (fun m ρ σ' => ∃ (u : V8) (n : Nat) (cells : List AV), n + 64 * m = p.length ∧ Rk ρ σ.length p n ∧ cells.length = 64 ∧ blocks m u (p.drop n) = V ∧ σ' = mkS σ u cells) N ?_ ?_
  · exact ⟨v0, 0, List.replicate 64 (.int .u32 0), by omega, ⟨by simp (disch := first | omega | (simp only [List.length_set, List.length_append, List.length_cons, List.length_nil, List.length_map]; omega)) only [go_sem, Nat.reduceEqDiff, Nat.reduceBEq, Nat.reduceAdd, Nat.reduceMul, Nat.reduceSub, Nat.reduceLeDiff, Int.reduceToNat, Int.reducePow], by simp (disch := first | omega | (simp only [List.length_set, List.length_append, List.length_cons, List.length_nil, List.length_map]; omega)) only [go_sem, Nat.reduceEqDiff, Nat.reduceBEq, Nat.reduceAdd, Nat.reduceMul, Nat.reduceSub, Nat.reduceLeDiff, Int.reduceToNat, Int.reducePow], by simp (disch := first | omega | (simp only [List.length_set, List.length_append, List.length_cons, List.length_nil, List.length_map]; omega)) only [go_sem, Nat.reduceEqDiff, Nat.reduceBEq, Nat.reduceAdd, Nat.reduceMul, Nat.reduceSub, Nat.reduceLeDiff, Int.reduceToNat, Int.reducePow], by simp (disch := first | omega | (simp only [List.length_set, List.length_append, List.length_cons, List.length_nil, List.length_map]; omega)) only [go_sem, Nat.reduceEqDiff, Nat.reduceBEq, Nat.reduceAdd, Nat.reduceMul, Nat.reduceSub, Nat.reduceLeDiff, Int.reduceToNat, Int.reducePow], by simp (disch := first | omega | (simp only [List.length_set, List.length_append, List.length_cons, List.length_nil, List.length_map]; omega)) only [go_sem, Nat.reduceEqDiff, Nat.reduceBEq, Nat.reduceAdd, Nat.reduceMul, Nat.reduceSub, Nat.reduceLeDiff, Int.reduceToNat, Int.reducePow], by simp (disch := first | omega | (simp only [List.length_set, List.length_append, List.length_cons, List.length_nil, List.length_map]; omega)) only [go_sem, Nat.reduceEqDiff, Nat.reduceBEq, Nat.reduceAdd, Nat.reduceMul, Nat.reduceSub, Nat.reduceLeDiff, Int.reduceToNat, Int.reducePow]; rfl⟩, rfl, by rw [List.drop_zero]; exact hV.symm, rfl⟩
  · rintro m ρ σ' ⟨u, n, cells, hn, ⟨q2, q3, q4, q5, q6, q7⟩, hc, hb, rfl⟩
    have hpb := byteEs_len p
    cases m with
    | succ m =>
      refine SWp.seq ?_
      refine SWp.seq ?_
      (refine SWp.regS ?_; (simp (disch := first | omega | (simp only [List.length_set, List.length_append, List.length_cons, List.length_nil, List.length_map]; omega)) only [go_sem, Nat.reduceEqDiff, Nat.reduceBEq, Nat.reduceAdd, Nat.reduceMul, Nat.reduceSub, Nat.reduceLeDiff, Int.reduceToNat, Int.reducePow, q5, q7, hpb]))
      refine SWp.condT rfl ?_
      refine SWp.skip ?_
      simp (disch := first | omega | (simp only [List.length_set, List.length_append, List.length_cons, List.length_nil, List.length_map]; omega)) only [go_sem, Nat.reduceEqDiff, Nat.reduceBEq, Nat.reduceAdd, Nat.reduceMul, Nat.reduceSub, Nat.reduceLeDiff, Int.reduceToNat, Int.reducePow]
      refine SWp.seq ?_
      refine SWp.block ?_
      refine SWp.seq ?_
      refine ref_words (p := p) (n := n) (u := u) (cells := cells) ⟨by simp (disch := first | omega | (simp only [List.length_set, List.length_append, List.length_cons, List.length_nil, List.length_map]; omega)) only [go_sem, Nat.reduceEqDiff, Nat.reduceBEq, Nat.reduceAdd, Nat.reduceMul, Nat.reduceSub, Nat.reduceLeDiff, Int.reduceToNat, Int.reducePow, q2], by simp (disch := first | omega | (simp only [List.length_set, List.length_append, List.length_cons, List.length_nil, List.length_map]; omega)) only [go_sem, Nat.reduceEqDiff, Nat.reduceBEq, Nat.reduceAdd, Nat.reduceMul, Nat.reduceSub, Nat.reduceLeDiff, Int.reduceToNat, Int.reducePow, q3], by simp (disch := first | omega | (simp only [List.length_set, List.length_append, List.length_cons, List.length_nil, List.length_map]; omega)) only [go_sem, Nat.reduceEqDiff, Nat.reduceBEq, Nat.reduceAdd, Nat.reduceMul, Nat.reduceSub, Nat.reduceLeDiff, Int.reduceToNat, Int.reducePow, q4], by simp (disch := first | omega | (simp only [List.length_set, List.length_append, List.length_cons, List.length_nil, List.length_map]; omega)) only [go_sem, Nat.reduceEqDiff, Nat.reduceBEq, Nat.reduceAdd, Nat.reduceMul, Nat.reduceSub, Nat.reduceLeDiff, Int.reduceToNat, Int.reducePow, q5], by simp (disch := first | omega | (simp only [List.length_set, List.length_append, List.length_cons, List.length_nil, List.length_map]; omega)) only [go_sem, Nat.reduceEqDiff, Nat.reduceBEq, Nat.reduceAdd, Nat.reduceMul, Nat.reduceSub, Nat.reduceLeDiff, Int.reduceToNat, Int.reducePow, q6], by simp (disch := first | omega | (simp only [List.length_set, List.length_append, List.length_cons, List.length_nil, List.length_map]; omega)) only [go_sem, Nat.reduceEqDiff, Nat.reduceBEq, Nat.reduceAdd, Nat.reduceMul, Nat.reduceSub, Nat.reduceLeDiff, Int.reduceToNat, Int.reducePow, q7]⟩ (by omega) (by omega) hc ?_
      intro ρ1 rest hr K1
      refine SWp.seq ?_
      refine ref_sched K1 hr ?_
      intro ρ2 K2
      refine ref_rounds K2 ?_
      intro ρ3 ⟨t2, t3, t4, t5, t6, t7⟩
      simp only [thenQ, blkQ]
      (refine SWp.regS ?_; (simp (disch := first | omega | (simp only [List.length_set, List.length_append, List.length_cons, List.length_nil, List.length_map]; omega)) only [go_sem, Nat.reduceEqDiff, Nat.reduceBEq, Nat.reduceAdd, Nat.reduceMul, Nat.reduceSub, Nat.reduceLeDiff, Int.reduceToNat, Int.reducePow, t7]))
      refine ⟨m, by omega, mixS u ((p.drop n).take 64), n + 64, ws (sched ((p.drop n).take 64) 64), by omega, ⟨by simp (disch := first | omega | (simp only [List.length_set, List.length_append, List.length_cons, List.length_nil, List.length_map]; omega)) only [go_sem, Nat.reduceEqDiff, Nat.reduceBEq, Nat.reduceAdd, Nat.reduceMul, Nat.reduceSub, Nat.reduceLeDiff, Int.reduceToNat, Int.reducePow, t2], by simp (disch := first | omega | (simp only [List.length_set, List.length_append, List.length_cons, List.length_nil, List.length_map]; omega)) only [go_sem, Nat.reduceEqDiff, Nat.reduceBEq, Nat.reduceAdd, Nat.reduceMul, Nat.reduceSub, Nat.reduceLeDiff, Int.reduceToNat, Int.reducePow, t3], by simp (disch := first | omega | (simp only [List.length_set, List.length_append, List.length_cons, List.length_nil, List.length_map]; omega)) only [go_sem, Nat.reduceEqDiff, Nat.reduceBEq, Nat.reduceAdd, Nat.reduceMul, Nat.reduceSub, Nat.reduceLeDiff, Int.reduceToNat, Int.reducePow, t4], by simp (disch := first | omega | (simp only [List.length_set, List.length_append, List.length_cons, List.length_nil, List.length_map]; omega)) only [go_sem, Nat.reduceEqDiff, Nat.reduceBEq, Nat.reduceAdd, Nat.reduceMul, Nat.reduceSub, Nat.reduceLeDiff, Int.reduceToNat, Int.reducePow, t5], by simp (disch := first | omega | (simp only [List.length_set, List.length_append, List.length_cons, List.length_nil, List.length_map]; omega)) only [go_sem, Nat.reduceEqDiff, Nat.reduceBEq, Nat.reduceAdd, Nat.reduceMul, Nat.reduceSub, Nat.reduceLeDiff, Int.reduceToNat, Int.reducePow, t6], by simp (disch := first | omega | (simp only [List.length_set, List.length_append, List.length_cons, List.length_nil, List.length_map]; omega)) only [go_sem, Nat.reduceEqDiff, Nat.reduceBEq, Nat.reduceAdd, Nat.reduceMul, Nat.reduceSub, Nat.reduceLeDiff, Int.reduceToNat, Int.reducePow]; rw [Int.natCast_add]; rfl⟩, by rw [ws_len, sched_len], ?_, rfl⟩
      rw [← hb, blocks, List.drop_drop]
    | zero =>
      have hd : p.drop n = [] := List.drop_of_length_le (by omega)
      rw [hd] at hb
      have hu : u = V := hb
      subst hu
      clear hb hd hV
      unfold mkS
      repeat' (first | refine SWp.seq ?_ | refine SWp.block ?_ | refine SWp.scope ?_ | (refine SWp.reg ?_; (simp (disch := first | omega | (simp only [List.length_set, List.length_append, List.length_cons, List.length_nil, List.length_map]; omega)) only [go_sem, Nat.reduceEqDiff, Nat.reduceBEq, Nat.reduceAdd, Nat.reduceMul, Nat.reduceSub, Nat.reduceLeDiff, Int.reduceToNat, Int.reducePow, q5, q7, hpb])) | refine SWp.condT rfl ?_ | refine SWp.condF rfl ?_ | (refine SWp.condD rfl (fun ht => ?_) (fun ht => ?_) <;> try (exfalso; omega)) | ((first | refine SWp.skip ?_ | refine SWp.exit ?_ | refine SWp.ret ?_); try (simp (disch := first | omega | (simp only [List.length_set, List.length_append, List.length_cons, List.length_nil, List.length_map]; omega)) only [go_sem, Nat.reduceEqDiff, Nat.reduceBEq, Nat.reduceAdd, Nat.reduceMul, Nat.reduceSub, Nat.reduceLeDiff, Int.reduceToNat, Int.reducePow, q5, q7, hpb])) | ((first | refine splitG (fun ht => ?_) (fun ht => ?_) | refine splitGB (fun ht => ?_) (fun ht => ?_) | refine splitR (fun ht => ?_) (fun ht => ?_) | refine splitRB (fun ht => ?_) (fun ht => ?_) | refine splitE (fun ht => ?_) (fun ht => ?_) | refine splitEB (fun ht => ?_) (fun ht => ?_) | refine splitC (fun ht => ?_) (fun ht => ?_) | refine splitCB (fun ht => ?_) (fun ht => ?_)) <;> (simp (disch := first | omega | (simp only [List.length_set, List.length_append, List.length_cons, List.length_nil, List.length_map]; omega)) only [go_sem, Nat.reduceEqDiff, Nat.reduceBEq, Nat.reduceAdd, Nat.reduceMul, Nat.reduceSub, Nat.reduceLeDiff, Int.reduceToNat, Int.reducePow, q5, q7, hpb])))
      refine SWp.loop (fun m ρ σ' => ∃ i : Nat, m + i = 32 ∧ ρ 2 = .ptr σ.length 0 0 ∧ ρ 4 = .ptr (σ.length + 2) 0 0 ∧ ρ 24 = .ptr (σ.length + 4) 0 0 ∧ ρ 25 = .int .i64 i ∧ σ' = σ ++ [some [z32], some [gl_sha_rounds], some [u.c8], some [cells], some [ocells u i]]) 32 ?_ ?_
      · exact ⟨0, by omega, by simp (disch := first | omega | (simp only [List.length_set, List.length_append, List.length_cons, List.length_nil, List.length_map]; omega)) only [go_sem, Nat.reduceEqDiff, Nat.reduceBEq, Nat.reduceAdd, Nat.reduceMul, Nat.reduceSub, Nat.reduceLeDiff, Int.reduceToNat, Int.reducePow, q2], by simp (disch := first | omega | (simp only [List.length_set, List.length_append, List.length_cons, List.length_nil, List.length_map]; omega)) only [go_sem, Nat.reduceEqDiff, Nat.reduceBEq, Nat.reduceAdd, Nat.reduceMul, Nat.reduceSub, Nat.reduceLeDiff, Int.reduceToNat, Int.reducePow, q4], by simp (disch := first | omega | (simp only [List.length_set, List.length_append, List.length_cons, List.length_nil, List.length_map]; omega)) only [go_sem, Nat.reduceEqDiff, Nat.reduceBEq, Nat.reduceAdd, Nat.reduceMul, Nat.reduceSub, Nat.reduceLeDiff, Int.reduceToNat, Int.reducePow], by simp (disch := first | omega | (simp only [List.length_set, List.length_append, List.length_cons, List.length_nil, List.length_map]; omega)) only [go_sem, Nat.reduceEqDiff, Nat.reduceBEq, Nat.reduceAdd, Nat.reduceMul, Nat.reduceSub, Nat.reduceLeDiff, Int.reduceToNat, Int.reducePow]; rfl, rfl⟩
      · clear q2 q3 q4 q5 q6 q7
        rintro m ρ σ' ⟨i, hm, q2, q4, q24, q25, rfl⟩
        have hlen := ocells_len u (i := i) (by omega)
        have h8 : u.c8.length = 8 := rfl
        have hz : z32.length = 32 := rfl
        by_cases hi : i < 32
        · have hst := ocells_step u hi (b := ((((wat u.l (i / 4)).toNat / 2 ^ (24 - 8 * (i % 4)) % 256 : Nat)) : Int)) rfl
          have hw := wat_lt (w := u.l) (i := i / 4) (by simp [V8.l]; omega)
          rw [ws_l] at hw
          generalize wat u.l (i / 4) = x at *
          generalize ocells u i = cc at *
          have hd4 : ((i : Int) / 4).toNat = i / 4 := by omega
          have hsh : (24 - 8 * ((i : Int) % 4)).toNat = 24 - 8 * (i % 4) := by omega
          repeat' (first | refine SWp.seq ?_ | refine SWp.block ?_ | refine SWp.scope ?_ | (refine SWp.regS ?_; (simp (disch := first | omega | (simp only [List.length_set, List.length_append, List.length_cons, List.length_nil, List.length_map]; omega)) only [go_sem, Nat.reduceEqDiff, Nat.reduceBEq, Nat.reduceAdd, Nat.reduceMul, Nat.reduceSub, Nat.reduceLeDiff, Int.reduceToNat, Int.reducePow, q2, q4, q24, q25, hlen, h8, hw, hd4, hsh])) | refine SWp.condT rfl ?_ | refine SWp.condF rfl ?_ | (refine SWp.condD rfl (fun ht => ?_) (fun ht => ?_) <;> try (exfalso; omega)) | ((first | refine SWp.skip ?_ | refine SWp.exit ?_ | refine SWp.ret ?_); try (simp (disch := first | omega | (simp only [List.length_set, List.length_append, List.length_cons, List.length_nil, List.length_map]; omega)) only [go_sem, Nat.reduceEqDiff, Nat.reduceBEq, Nat.reduceAdd, Nat.reduceMul, Nat.reduceSub, Nat.reduceLeDiff, Int.reduceToNat, Int.reducePow, q2, q4, q24, q25, hlen, h8, hw, hd4, hsh])) | ((first | refine splitG (fun ht => ?_) (fun ht => ?_) | refine splitGB (fun ht => ?_) (fun ht => ?_) | refine splitR (fun ht => ?_) (fun ht => ?_) | refine splitRB (fun ht => ?_) (fun ht => ?_) | refine splitE (fun ht => ?_) (fun ht => ?_) | refine splitEB (fun ht => ?_) (fun ht => ?_) | refine splitC (fun ht => ?_) (fun ht => ?_) | refine splitCB (fun ht => ?_) (fun ht => ?_)) <;> (simp (disch := first | omega | (simp only [List.length_set, List.length_append, List.length_cons, List.length_nil, List.length_map]; omega)) only [go_sem, Nat.reduceEqDiff, Nat.reduceBEq, Nat.reduceAdd, Nat.reduceMul, Nat.reduceSub, Nat.reduceLeDiff, Int.reduceToNat, Int.reducePow, q2, q4, q24, q25, hlen, h8, hw, hd4, hsh])))
          refine ⟨32 - (i + 1), by omega, i + 1, by omega, by simp, ?_⟩
          rw [BitVec.toNat_ushiftRight, Nat.shiftRight_eq_div_pow, ← hst, Int.natCast_emod]
          rfl
        · obtain rfl : i = 32 := by omega
          have e32 : ocells u 32 = byteEsC (outV u) := by
            unfold ocells
            rw [List.take_of_length_le (by rw [outV_len]; decide)]
            exact List.append_nil _
          have hd : List.drop 32 z32 = [] := rfl
          have hl : (byteEsC (outV u)).length = 32 := by rw [byteEsC_len, outV_len]
          rw [e32] at *
          repeat' (first | refine SWp.seq ?_ | refine SWp.block ?_ | refine SWp.scope ?_ | (refine SWp.reg ?_; (simp (disch := first | omega | (simp only [List.length_set, List.length_append, List.length_cons, List.length_nil, List.length_map]; omega)) only [go_sem, Nat.reduceEqDiff, Nat.reduceBEq, Nat.reduceAdd, Nat.reduceMul, Nat.reduceSub, Nat.reduceLeDiff, Int.reduceToNat, Int.reducePow, q2, q4, q24, q25, hl, h8, hd, hz])) | refine SWp.condT rfl ?_ | refine SWp.condF rfl ?_ | (refine SWp.condD rfl (fun ht => ?_) (fun ht => ?_) <;> try (exfalso; omega)) | ((first | refine SWp.skip ?_ | refine SWp.exit ?_ | refine SWp.ret ?_); try (simp (disch := first | omega | (simp only [List.length_set, List.length_append, List.length_cons, List.length_nil, List.length_map]; omega)) only [go_sem, Nat.reduceEqDiff, Nat.reduceBEq, Nat.reduceAdd, Nat.reduceMul, Nat.reduceSub, Nat.reduceLeDiff, Int.reduceToNat, Int.reducePow, q2, q4, q24, q25, hl, h8, hd, hz])) | ((first | refine splitG (fun ht => ?_) (fun ht => ?_) | refine splitGB (fun ht => ?_) (fun ht => ?_) | refine splitR (fun ht => ?_) (fun ht => ?_) | refine splitRB (fun ht => ?_) (fun ht => ?_) | refine splitE (fun ht => ?_) (fun ht => ?_) | refine splitEB (fun ht => ?_) (fun ht => ?_) | refine splitC (fun ht => ?_) (fun ht => ?_) | refine splitCB (fun ht => ?_) (fun ht => ?_)) <;> (simp (disch := first | omega | (simp only [List.length_set, List.length_append, List.length_cons, List.length_nil, List.length_map]; omega)) only [go_sem, Nat.reduceEqDiff, Nat.reduceBEq, Nat.reduceAdd, Nat.reduceMul, Nat.reduceSub, Nat.reduceLeDiff, Int.reduceToNat, Int.reducePow, q2, q4, q24, q25, hl, h8, hd, hz])))
          exact DownV.pure hw (rl_agg (rl_bytes _))
end Am
end Go.Proofs.YtfofemaglndnjaaDoor
end
section
set_option linter.unusedSimpArgs false
set_option linter.unusedVariables false
/- Abstract code. (Printed by wip/gen.) -/
set_option maxRecDepth 10000
namespace Go.Proofs.YtfofemaglndnjaaDoor
namespace Am



-- 18 speculum/speculumlaw03.Same
@[go_sem] def speculumlaw03_Same_r0 : List AIns := [
  ⟨some 4, none, .no, .mv (.v (.bool false))⟩]
@[go_sem] def speculumlaw03_Same_r1 : List AIns := [
  ⟨some 6, none, .no, .mv (.t 0)⟩,
  ⟨some 7, none, .no, .lenSl (.t 6)⟩,
  ⟨some 8, none, .no, .mv (.t 1)⟩,
  ⟨some 9, none, .no, .lenSl (.t 8)⟩,
  ⟨some 10, none, .no, .bin .neq .none (.t 7) (.t 9)⟩]
@[go_sem] def speculumlaw03_Same_r2 : List AIns := [
  ⟨some 4, none, .no, .mv (.v (.bool false))⟩]
def speculumlaw03_Same_c3 : ACode := .seq (.reg speculumlaw03_Same_r2) .ret
def speculumlaw03_Same_c4 : ACode := .cond (.t 10) speculumlaw03_Same_c3 .skip
def speculumlaw03_Same_c5 : ACode := .seq (.reg speculumlaw03_Same_r1) speculumlaw03_Same_c4
@[go_sem] def speculumlaw03_Same_r6 : List AIns := [
  ⟨some 5, none, .no, .mv (.v (.int .i64 (0)))⟩]
@[go_sem] def speculumlaw03_Same_r7 : List AIns := [
  ⟨some 11, none, .no, .mv (.t 5)⟩,
  ⟨some 12, none, .no, .mv (.t 0)⟩,
  ⟨some 13, none, .no, .lenSl (.t 12)⟩,
  ⟨some 14, none, .no, .bin .lss .none (.t 11) (.t 13)⟩]
def speculumlaw03_Same_c8 : ACode := .cond (.t 14) .skip (.exit 0)
def speculumlaw03_Same_c9 : ACode := .seq (.reg speculumlaw03_Same_r7) speculumlaw03_Same_c8
@[go_sem] def speculumlaw03_Same_r10 : List AIns := [
  ⟨some 17, none, .no, .mv (.t 0)⟩,
  ⟨some 18, none, .no, .mv (.t 5)⟩,
  ⟨some 19, none, .no, .iaSl 32 (.t 17) (.t 18)⟩,
  ⟨some 20, none, .rd, .load true 32 (.t 19)⟩,
  ⟨some 21, none, .no, .mv (.t 1)⟩,
  ⟨some 22, none, .no, .mv (.t 5)⟩,
  ⟨some 23, none, .no, .iaSl 32 (.t 21) (.t 22)⟩,
  ⟨some 24, none, .rd, .load true 32 (.t 23)⟩,
  ⟨some 25, none, .no, .bin .neq (.agg (List.replicate 32 (.i .u8) ++ [])) (.t 20) (.t 24)⟩]
@[go_sem] def speculumlaw03_Same_r11 : List AIns := [
  ⟨some 4, none, .no, .mv (.v (.bool false))⟩]
def speculumlaw03_Same_c12 : ACode := .seq (.reg speculumlaw03_Same_r11) .ret
def speculumlaw03_Same_c13 : ACode := .cond (.t 25) speculumlaw03_Same_c12 .skip
def speculumlaw03_Same_c14 : ACode := .seq (.reg speculumlaw03_Same_r10) speculumlaw03_Same_c13
@[go_sem] def speculumlaw03_Same_r15 : List AIns := [
  ⟨some 15, none, .no, .mv (.t 5)⟩,
  ⟨some 16, none, .no, .bin .add .none (.t 15) (.v (.int .i64 (1)))⟩,
  ⟨some 5, none, .no, .mv (.t 16)⟩]
def speculumlaw03_Same_c16 : ACode := .seq (.block 1 speculumlaw03_Same_c14) (.reg speculumlaw03_Same_r15)
def speculumlaw03_Same_c17 : ACode := .seq speculumlaw03_Same_c9 speculumlaw03_Same_c16
def speculumlaw03_Same_c18 : ACode := .loop speculumlaw03_Same_c17
def speculumlaw03_Same_c19 : ACode := .block 0 speculumlaw03_Same_c18
def speculumlaw03_Same_c20 : ACode := .seq (.reg speculumlaw03_Same_r6) speculumlaw03_Same_c19
@[go_sem] def speculumlaw03_Same_r21 : List AIns := [
  ⟨some 4, none, .no, .mv (.v (.bool true))⟩]
def speculumlaw03_Same_c22 : ACode := .seq (.reg speculumlaw03_Same_r21) .ret
def speculumlaw03_Same_c23 : ACode := .seq speculumlaw03_Same_c20 speculumlaw03_Same_c22
def speculumlaw03_Same_c24 : ACode := .seq speculumlaw03_Same_c5 speculumlaw03_Same_c23
def speculumlaw03_Same_c25 : ACode := .seq (.reg speculumlaw03_Same_r0) speculumlaw03_Same_c24
theorem speculumlaw03_Same_ok : cFn TC 18 = some (26, [.t 4], speculumlaw03_Same_c25) := by kernel_rfl

-- 21 speculum/speculumlaw04.Some
@[go_sem] def speculumlaw04_Some_r0 : List AIns := [
  ⟨some 4, none, .no, .mv (.v .nilsl)⟩]
@[go_sem] def speculumlaw04_Some_r1 : List AIns := [
  ⟨some 5, none, .no, .mv (.v .nilsl)⟩]
@[go_sem] def speculumlaw04_Some_r2 : List AIns := [
  ⟨some 6, none, .no, .mv (.v (.int .i64 (0)))⟩]
@[go_sem] def speculumlaw04_Some_r3 : List AIns := [
  ⟨some 7, none, .no, .mv (.t 6)⟩,
  ⟨some 8, none, .no, .mv (.t 0)⟩,
  ⟨some 9, none, .no, .bin .lss .none (.t 7) (.t 8)⟩]
def speculumlaw04_Some_c4 : ACode := .cond (.t 9) .skip (.exit 0)
def speculumlaw04_Some_c5 : ACode := .seq (.reg speculumlaw04_Some_r3) speculumlaw04_Some_c4
@[go_sem] def speculumlaw04_Some_r6 : List AIns := [
  ⟨some 12, none, .no, .mv (.t 5)⟩,
  ⟨some 13, none, .no, .mv (.t 1)⟩,
  ⟨some 14, none, .no, .mv (.t 6)⟩,
  ⟨some 15, none, .no, .conv (.int .u8) (.t 14)⟩,
  ⟨some 16, none, .no, .mv (.t 6)⟩,
  ⟨some 17, none, .no, .bin .quo .none (.t 16) (.v (.int .i64 (256)))⟩,
  ⟨some 18, none, .no, .conv (.int .u8) (.t 17)⟩,
  ⟨some 19, none, .no, .build [(.int .u8 (0)), (.int .u8 (0)), (.int .u8 (0)), (.int .u8 (0)), (.int .u8 (0)), (.int .u8 (0)), (.int .u8 (0)), (.int .u8 (0)), (.int .u8 (0)), (.int .u8 (0)), (.int .u8 (0)), (.int .u8 (0)), (.int .u8 (0)), (.int .u8 (0)), (.int .u8 (0)), (.int .u8 (0)), (.int .u8 (0)), (.int .u8 (0)), (.int .u8 (0)), (.int .u8 (0)), (.int .u8 (0)), (.int .u8 (0)), (.int .u8 (0)), (.int .u8 (0)), (.int .u8 (0)), (.int .u8 (0)), (.int .u8 (0)), (.int .u8 (0)), (.int .u8 (0)), (.int .u8 (0)), (.int .u8 (0)), (.int .u8 (0))] [(0, 1, (.t 13)), (1, 1, (.t 15)), (2, 1, (.t 18)), (3, 1, (.v (.int .u8 (1))))]⟩,
  ⟨some 20, none, .no, .lit 32 [(.t 19)]⟩,
  ⟨some 21, none, .no, .app 32 (.t 12) (.t 20)⟩,
  ⟨some 5, none, .no, .mv (.t 21)⟩]
@[go_sem] def speculumlaw04_Some_r7 : List AIns := [
  ⟨some 10, none, .no, .mv (.t 6)⟩,
  ⟨some 11, none, .no, .bin .add .none (.t 10) (.v (.int .i64 (1)))⟩,
  ⟨some 6, none, .no, .mv (.t 11)⟩]
def speculumlaw04_Some_c8 : ACode := .seq (.block 1 (.reg speculumlaw04_Some_r6)) (.reg speculumlaw04_Some_r7)
def speculumlaw04_Some_c9 : ACode := .seq speculumlaw04_Some_c5 speculumlaw04_Some_c8
def speculumlaw04_Some_c10 : ACode := .loop speculumlaw04_Some_c9
def speculumlaw04_Some_c11 : ACode := .block 0 speculumlaw04_Some_c10
def speculumlaw04_Some_c12 : ACode := .seq (.reg speculumlaw04_Some_r2) speculumlaw04_Some_c11
@[go_sem] def speculumlaw04_Some_r13 : List AIns := [
  ⟨some 22, none, .no, .mv (.t 5)⟩,
  ⟨some 4, none, .no, .mv (.t 22)⟩]
def speculumlaw04_Some_c14 : ACode := .seq (.reg speculumlaw04_Some_r13) .ret
def speculumlaw04_Some_c15 : ACode := .seq speculumlaw04_Some_c12 speculumlaw04_Some_c14
def speculumlaw04_Some_c16 : ACode := .seq (.reg speculumlaw04_Some_r1) speculumlaw04_Some_c15
def speculumlaw04_Some_c17 : ACode := .seq (.reg speculumlaw04_Some_r0) speculumlaw04_Some_c16
theorem speculumlaw04_Some_ok : cFn TC 21 = some (23, [.t 4], speculumlaw04_Some_c17) := by kernel_rfl

-- 22 speculum/trees.Root
@[go_sem] def trees_Root_r0 : List AIns := [
  ⟨some 1, none, .no, .box (.t 0)⟩,
  ⟨some 2, none, .no, .alloc [(.int .u8 (0)), (.int .u8 (0)), (.int .u8 (0)), (.int .u8 (0)), (.int .u8 (0)), (.int .u8 (0)), (.int .u8 (0)), (.int .u8 (0)), (.int .u8 (0)), (.int .u8 (0)), (.int .u8 (0)), (.int .u8 (0)), (.int .u8 (0)), (.int .u8 (0)), (.int .u8 (0)), (.int .u8 (0)), (.int .u8 (0)), (.int .u8 (0)), (.int .u8 (0)), (.int .u8 (0)), (.int .u8 (0)), (.int .u8 (0)), (.int .u8 (0)), (.int .u8 (0)), (.int .u8 (0)), (.int .u8 (0)), (.int .u8 (0)), (.int .u8 (0)), (.int .u8 (0)), (.int .u8 (0)), (.int .u8 (0)), (.int .u8 (0))]⟩]
@[go_sem] def trees_Root_r1 : List AIns := [
  ⟨some 4, none, .no, .load false 1 (.t 1)⟩,
  ⟨some 5, none, .no, .lenSl (.t 4)⟩,
  ⟨some 6, none, .no, .bin .eql .none (.t 5) (.v (.int .i64 (0)))⟩]
@[go_sem] def trees_Root_r2 : List AIns := [
  ⟨some 7, none, .no, .call (.v (.fn 67 [])) [(.v (.str []))]⟩,
  ⟨none, none, .no, .store 32 (.t 2) (.t 7)⟩]
def trees_Root_c3 : ACode := .seq (.reg trees_Root_r2) .ret
def trees_Root_c4 : ACode := .cond (.t 6) trees_Root_c3 .skip
def trees_Root_c5 : ACode := .seq (.reg trees_Root_r1) trees_Root_c4
@[go_sem] def trees_Root_r6 : List AIns := [
  ⟨some 3, none, .no, .alloc [.nilfn]⟩]
@[go_sem] def trees_Root_r7 : List AIns := [
  ⟨some 8, none, .no, .mkfn 68 [(.t 1), (.t 3)]⟩,
  ⟨none, none, .no, .store 1 (.t 3) (.t 8)⟩]
@[go_sem] def trees_Root_r8 : List AIns := [
  ⟨some 9, none, .no, .load false 1 (.t 3)⟩,
  ⟨some 10, none, .no, .load false 1 (.t 1)⟩,
  ⟨some 11, none, .no, .lenSl (.t 10)⟩,
  ⟨some 12, none, .no, .call (.t 9) [(.v (.int .i64 (0))), (.t 11)]⟩,
  ⟨none, none, .no, .store 32 (.t 2) (.t 12)⟩]
def trees_Root_c9 : ACode := .seq (.reg trees_Root_r8) .ret
def trees_Root_c10 : ACode := .seq (.reg trees_Root_r7) trees_Root_c9
def trees_Root_c11 : ACode := .seq (.reg trees_Root_r6) trees_Root_c10
def trees_Root_c12 : ACode := .seq trees_Root_c5 trees_Root_c11
def trees_Root_c13 : ACode := .seq (.reg trees_Root_r0) trees_Root_c12
theorem trees_Root_ok : cFn TC 22 = some (13, [.c 2 true 32], trees_Root_c13) := by kernel_rfl

-- 59 speculum/trees.Node
@[go_sem] def trees_Node_r0 : List AIns := [
  ⟨some 2, none, .no, .box (.t 0)⟩,
  ⟨some 3, none, .no, .box (.t 1)⟩,
  ⟨some 4, none, .no, .alloc [(.int .u8 (0)), (.int .u8 (0)), (.int .u8 (0)), (.int .u8 (0)), (.int .u8 (0)), (.int .u8 (0)), (.int .u8 (0)), (.int .u8 (0)), (.int .u8 (0)), (.int .u8 (0)), (.int .u8 (0)), (.int .u8 (0)), (.int .u8 (0)), (.int .u8 (0)), (.int .u8 (0)), (.int .u8 (0)), (.int .u8 (0)), (.int .u8 (0)), (.int .u8 (0)), (.int .u8 (0)), (.int .u8 (0)), (.int .u8 (0)), (.int .u8 (0)), (.int .u8 (0)), (.int .u8 (0)), (.int .u8 (0)), (.int .u8 (0)), (.int .u8 (0)), (.int .u8 (0)), (.int .u8 (0)), (.int .u8 (0)), (.int .u8 (0))]⟩]
@[go_sem] def trees_Node_r1 : List AIns := [
  ⟨some 5, none, .rd, .load true 32 (.t 2)⟩,
  ⟨some 6, none, .ef, .call (.v (.fn 99 [])) [(.t 5)]⟩,
  ⟨some 7, none, .no, .bin .add .none (.v (.str [1])) (.t 6)⟩,
  ⟨some 8, none, .rd, .load true 32 (.t 3)⟩,
  ⟨some 9, none, .no, .call (.v (.fn 99 [])) [(.t 8)]⟩,
  ⟨some 10, none, .no, .bin .add .none (.t 7) (.t 9)⟩,
  ⟨some 11, none, .no, .call (.v (.fn 67 [])) [(.t 10)]⟩,
  ⟨none, none, .no, .store 32 (.t 4) (.t 11)⟩]
def trees_Node_c2 : ACode := .seq (.reg trees_Node_r1) .ret
def trees_Node_c3 : ACode := .seq (.reg trees_Node_r0) trees_Node_c2
theorem trees_Node_ok : cFn TC 59 = some (12, [.c 4 true 32], trees_Node_c3) := by kernel_rfl

-- 61 speculum/trees.Split
@[go_sem] def trees_Split_r0 : List AIns := [
  ⟨some 2, none, .no, .mv (.v (.int .i64 (0)))⟩]
@[go_sem] def trees_Split_r1 : List AIns := [
  ⟨some 4, none, .no, .mv (.t 0)⟩,
  ⟨some 5, none, .no, .bin .lss .none (.t 4) (.v (.int .i64 (2)))⟩]
@[go_sem] def trees_Split_r2 : List AIns := [
  ⟨some 2, none, .no, .mv (.v (.int .i64 (0)))⟩]
def trees_Split_c3 : ACode := .seq (.reg trees_Split_r2) .ret
def trees_Split_c4 : ACode := .cond (.t 5) trees_Split_c3 .skip
def trees_Split_c5 : ACode := .seq (.reg trees_Split_r1) trees_Split_c4
@[go_sem] def trees_Split_r6 : List AIns := [
  ⟨some 3, none, .no, .mv (.v (.int .i64 (1)))⟩]
@[go_sem] def trees_Split_r7 : List AIns := [
  ⟨some 6, none, .no, .mv (.t 3)⟩,
  ⟨some 7, none, .no, .mv (.t 0)⟩,
  ⟨some 8, none, .no, .mv (.t 3)⟩,
  ⟨some 9, none, .no, .bin .sub .none (.t 7) (.t 8)⟩,
  ⟨some 10, none, .no, .bin .lss .none (.t 6) (.t 9)⟩]
def trees_Split_c8 : ACode := .cond (.t 10) .skip (.exit 0)
def trees_Split_c9 : ACode := .seq (.reg trees_Split_r7) trees_Split_c8
@[go_sem] def trees_Split_r10 : List AIns := [
  ⟨some 11, none, .no, .mv (.t 3)⟩,
  ⟨some 12, none, .no, .bin .mul .none (.t 11) (.v (.int .i64 (2)))⟩,
  ⟨some 3, none, .no, .mv (.t 12)⟩]
def trees_Split_c11 : ACode := .block 1 (.reg trees_Split_r10)
def trees_Split_c12 : ACode := .seq trees_Split_c9 trees_Split_c11
def trees_Split_c13 : ACode := .loop trees_Split_c12
@[go_sem] def trees_Split_r14 : List AIns := [
  ⟨some 13, none, .no, .mv (.t 3)⟩,
  ⟨some 2, none, .no, .mv (.t 13)⟩]
def trees_Split_c15 : ACode := .seq (.reg trees_Split_r14) .ret
def trees_Split_c16 : ACode := .seq (.block 0 trees_Split_c13) trees_Split_c15
def trees_Split_c17 : ACode := .seq (.reg trees_Split_r6) trees_Split_c16
def trees_Split_c18 : ACode := .seq trees_Split_c5 trees_Split_c17
def trees_Split_c19 : ACode := .seq (.reg trees_Split_r0) trees_Split_c18
theorem trees_Split_ok : cFn TC 61 = some (14, [.t 2], trees_Split_c19) := by kernel_rfl

-- 68 speculum/trees.Root$1
@[go_sem] def trees_Root_1_r0 : List AIns := [
  ⟨some 6, none, .no, .alloc [(.int .u8 (0)), (.int .u8 (0)), (.int .u8 (0)), (.int .u8 (0)), (.int .u8 (0)), (.int .u8 (0)), (.int .u8 (0)), (.int .u8 (0)), (.int .u8 (0)), (.int .u8 (0)), (.int .u8 (0)), (.int .u8 (0)), (.int .u8 (0)), (.int .u8 (0)), (.int .u8 (0)), (.int .u8 (0)), (.int .u8 (0)), (.int .u8 (0)), (.int .u8 (0)), (.int .u8 (0)), (.int .u8 (0)), (.int .u8 (0)), (.int .u8 (0)), (.int .u8 (0)), (.int .u8 (0)), (.int .u8 (0)), (.int .u8 (0)), (.int .u8 (0)), (.int .u8 (0)), (.int .u8 (0)), (.int .u8 (0)), (.int .u8 (0))]⟩]
@[go_sem] def trees_Root_1_r1 : List AIns := [
  ⟨some 8, none, .no, .mv (.t 1)⟩,
  ⟨some 9, none, .no, .mv (.t 0)⟩,
  ⟨some 10, none, .no, .bin .sub .none (.t 8) (.t 9)⟩,
  ⟨some 11, none, .no, .call (.v (.fn 61 [])) [(.t 10)]⟩,
  ⟨some 7, none, .no, .mv (.t 11)⟩]
@[go_sem] def trees_Root_1_r2 : List AIns := [
  ⟨some 12, none, .no, .mv (.t 7)⟩,
  ⟨some 13, none, .no, .bin .eql .none (.t 12) (.v (.int .i64 (0)))⟩]
@[go_sem] def trees_Root_1_r3 : List AIns := [
  ⟨some 14, none, .no, .load false 1 (.t 2)⟩,
  ⟨some 15, none, .no, .mv (.t 0)⟩,
  ⟨some 16, none, .no, .iaSl 32 (.t 14) (.t 15)⟩,
  ⟨some 17, none, .no, .load true 32 (.t 16)⟩,
  ⟨none, none, .no, .store 32 (.t 6) (.t 17)⟩]
def trees_Root_1_c4 : ACode := .seq (.reg trees_Root_1_r3) .ret
def trees_Root_1_c5 : ACode := .cond (.t 13) trees_Root_1_c4 .skip
def trees_Root_1_c6 : ACode := .seq (.reg trees_Root_1_r2) trees_Root_1_c5
@[go_sem] def trees_Root_1_r7 : List AIns := [
  ⟨some 18, none, .rd, .load false 1 (.t 3)⟩,
  ⟨some 19, none, .no, .mv (.t 0)⟩,
  ⟨some 20, none, .no, .mv (.t 0)⟩,
  ⟨some 21, none, .no, .mv (.t 7)⟩,
  ⟨some 22, none, .no, .bin .add .none (.t 20) (.t 21)⟩,
  ⟨some 23, none, .ef, .call (.t 18) [(.t 19), (.t 22)]⟩,
  ⟨some 24, none, .rd, .load false 1 (.t 3)⟩,
  ⟨some 25, none, .no, .mv (.t 0)⟩,
  ⟨some 26, none, .no, .mv (.t 7)⟩,
  ⟨some 27, none, .no, .bin .add .none (.t 25) (.t 26)⟩,
  ⟨some 28, none, .no, .mv (.t 1)⟩,
  ⟨some 29, none, .no, .call (.t 24) [(.t 27), (.t 28)]⟩,
  ⟨some 30, none, .no, .call (.v (.fn 59 [])) [(.t 23), (.t 29)]⟩,
  ⟨none, none, .no, .store 32 (.t 6) (.t 30)⟩]
def trees_Root_1_c8 : ACode := .seq (.reg trees_Root_1_r7) .ret
def trees_Root_1_c9 : ACode := .seq trees_Root_1_c6 trees_Root_1_c8
def trees_Root_1_c10 : ACode := .seq (.reg trees_Root_1_r1) trees_Root_1_c9
def trees_Root_1_c11 : ACode := .seq (.reg trees_Root_1_r0) trees_Root_1_c10
theorem trees_Root_1_ok : cFn TC 68 = some (31, [.c 6 true 32], trees_Root_1_c11) := by kernel_rfl

-- 71 speculum/speculumref04.Root
@[go_sem] def speculumref04_Root_r0 : List AIns := [
  ⟨some 2, none, .no, .alloc [(.int .u8 (0)), (.int .u8 (0)), (.int .u8 (0)), (.int .u8 (0)), (.int .u8 (0)), (.int .u8 (0)), (.int .u8 (0)), (.int .u8 (0)), (.int .u8 (0)), (.int .u8 (0)), (.int .u8 (0)), (.int .u8 (0)), (.int .u8 (0)), (.int .u8 (0)), (.int .u8 (0)), (.int .u8 (0)), (.int .u8 (0)), (.int .u8 (0)), (.int .u8 (0)), (.int .u8 (0)), (.int .u8 (0)), (.int .u8 (0)), (.int .u8 (0)), (.int .u8 (0)), (.int .u8 (0)), (.int .u8 (0)), (.int .u8 (0)), (.int .u8 (0)), (.int .u8 (0)), (.int .u8 (0)), (.int .u8 (0)), (.int .u8 (0))]⟩]
@[go_sem] def speculumref04_Root_r1 : List AIns := [
  ⟨some 4, none, .no, .mv (.t 0)⟩,
  ⟨some 5, none, .no, .lenSl (.t 4)⟩,
  ⟨some 6, none, .no, .bin .eql .none (.t 5) (.v (.int .i64 (0)))⟩]
@[go_sem] def speculumref04_Root_r2 : List AIns := [
  ⟨some 7, none, .no, .call (.v (.fn 65 [])) [(.v (.str []))]⟩,
  ⟨none, none, .no, .store 32 (.t 2) (.t 7)⟩]
def speculumref04_Root_c3 : ACode := .seq (.reg speculumref04_Root_r2) .ret
def speculumref04_Root_c4 : ACode := .cond (.t 6) speculumref04_Root_c3 .skip
def speculumref04_Root_c5 : ACode := .seq (.reg speculumref04_Root_r1) speculumref04_Root_c4
@[go_sem] def speculumref04_Root_r6 : List AIns := [
  ⟨some 8, none, .no, .mv (.t 0)⟩,
  ⟨some 9, none, .no, .lenSl (.t 8)⟩,
  ⟨some 10, none, .no, .bin .eql .none (.t 9) (.v (.int .i64 (1)))⟩]
@[go_sem] def speculumref04_Root_r7 : List AIns := [
  ⟨some 11, none, .no, .mv (.t 0)⟩,
  ⟨some 12, none, .no, .iaSl 32 (.t 11) (.v (.int .i64 (0)))⟩,
  ⟨some 13, none, .no, .load true 32 (.t 12)⟩,
  ⟨none, none, .no, .store 32 (.t 2) (.t 13)⟩]
def speculumref04_Root_c8 : ACode := .seq (.reg speculumref04_Root_r7) .ret
def speculumref04_Root_c9 : ACode := .cond (.t 10) speculumref04_Root_c8 .skip
def speculumref04_Root_c10 : ACode := .seq (.reg speculumref04_Root_r6) speculumref04_Root_c9
@[go_sem] def speculumref04_Root_r11 : List AIns := [
  ⟨some 14, none, .no, .mv (.t 0)⟩,
  ⟨some 15, none, .no, .lenSl (.t 14)⟩,
  ⟨some 16, none, .no, .call (.v (.fn 114 [])) [(.t 15)]⟩,
  ⟨some 3, none, .no, .mv (.t 16)⟩]
@[go_sem] def speculumref04_Root_r12 : List AIns := [
  ⟨some 17, none, .no, .mv (.t 0)⟩,
  ⟨some 18, none, .no, .mv (.t 3)⟩,
  ⟨some 19, none, .rd, .slice (.sl 32) (.t 17) none (some (.t 18)) none⟩,
  ⟨some 20, none, .ef, .call (.v (.fn 71 [])) [(.t 19)]⟩,
  ⟨some 21, none, .no, .mv (.t 0)⟩,
  ⟨some 22, none, .no, .mv (.t 3)⟩,
  ⟨some 23, none, .rd, .slice (.sl 32) (.t 21) (some (.t 22)) none none⟩,
  ⟨some 24, none, .no, .call (.v (.fn 71 [])) [(.t 23)]⟩,
  ⟨some 25, none, .no, .call (.v (.fn 80 [])) [(.t 20), (.t 24)]⟩,
  ⟨none, none, .no, .store 32 (.t 2) (.t 25)⟩]
def speculumref04_Root_c13 : ACode := .seq (.reg speculumref04_Root_r12) .ret
def speculumref04_Root_c14 : ACode := .seq (.reg speculumref04_Root_r11) speculumref04_Root_c13
def speculumref04_Root_c15 : ACode := .seq speculumref04_Root_c10 speculumref04_Root_c14
def speculumref04_Root_c16 : ACode := .seq speculumref04_Root_c5 speculumref04_Root_c15
def speculumref04_Root_c17 : ACode := .seq (.reg speculumref04_Root_r0) speculumref04_Root_c16
theorem speculumref04_Root_ok : cFn TC 71 = some (26, [.c 2 true 32], speculumref04_Root_c17) := by kernel_rfl

-- 80 speculum/speculumref04.Node
@[go_sem] def speculumref04_Node_r0 : List AIns := [
  ⟨some 2, none, .no, .box (.t 0)⟩,
  ⟨some 3, none, .no, .box (.t 1)⟩,
  ⟨some 4, none, .no, .alloc [(.int .u8 (0)), (.int .u8 (0)), (.int .u8 (0)), (.int .u8 (0)), (.int .u8 (0)), (.int .u8 (0)), (.int .u8 (0)), (.int .u8 (0)), (.int .u8 (0)), (.int .u8 (0)), (.int .u8 (0)), (.int .u8 (0)), (.int .u8 (0)), (.int .u8 (0)), (.int .u8 (0)), (.int .u8 (0)), (.int .u8 (0)), (.int .u8 (0)), (.int .u8 (0)), (.int .u8 (0)), (.int .u8 (0)), (.int .u8 (0)), (.int .u8 (0)), (.int .u8 (0)), (.int .u8 (0)), (.int .u8 (0)), (.int .u8 (0)), (.int .u8 (0)), (.int .u8 (0)), (.int .u8 (0)), (.int .u8 (0)), (.int .u8 (0))]⟩]
@[go_sem] def speculumref04_Node_r1 : List AIns := [
  ⟨some 5, none, .rd, .load true 32 (.t 2)⟩,
  ⟨some 6, none, .ef, .call (.v (.fn 86 [])) [(.t 5)]⟩,
  ⟨some 7, none, .no, .bin .add .none (.v (.str [1])) (.t 6)⟩,
  ⟨some 8, none, .rd, .load true 32 (.t 3)⟩,
  ⟨some 9, none, .no, .call (.v (.fn 86 [])) [(.t 8)]⟩,
  ⟨some 10, none, .no, .bin .add .none (.t 7) (.t 9)⟩,
  ⟨some 11, none, .no, .call (.v (.fn 65 [])) [(.t 10)]⟩,
  ⟨none, none, .no, .store 32 (.t 4) (.t 11)⟩]
def speculumref04_Node_c2 : ACode := .seq (.reg speculumref04_Node_r1) .ret
def speculumref04_Node_c3 : ACode := .seq (.reg speculumref04_Node_r0) speculumref04_Node_c2
theorem speculumref04_Node_ok : cFn TC 80 = some (12, [.c 4 true 32], speculumref04_Node_c3) := by kernel_rfl

-- 86 speculum/speculumref03.Hash
@[go_sem] def speculumref03_Hash_r0 : List AIns := [
  ⟨some 1, none, .no, .box (.t 0)⟩,
  ⟨some 2, none, .no, .mv (.v (.str []))⟩]
@[go_sem] def speculumref03_Hash_r1 : List AIns := [
  ⟨some 3, none, .no, .mv (.v .nilsl)⟩]
@[go_sem] def speculumref03_Hash_r2 : List AIns := [
  ⟨some 4, none, .no, .mv (.v (.int .i64 (0)))⟩]
@[go_sem] def speculumref03_Hash_r3 : List AIns := [
  ⟨some 5, none, .no, .mv (.t 4)⟩,
  ⟨some 6, none, .no, .bin .lss .none (.t 5) (.v (.int .i64 (32)))⟩]
def speculumref03_Hash_c4 : ACode := .cond (.t 6) .skip (.exit 0)
def speculumref03_Hash_c5 : ACode := .seq (.reg speculumref03_Hash_r3) speculumref03_Hash_c4
@[go_sem] def speculumref03_Hash_r6 : List AIns := [
  ⟨some 9, none, .no, .mv (.t 3)⟩,
  ⟨some 10, none, .no, .mv (.t 4)⟩,
  ⟨some 11, none, .no, .iaArr 32 1 (.t 1) (.t 10)⟩,
  ⟨some 12, none, .no, .load false 1 (.t 11)⟩,
  ⟨some 13, none, .no, .lit 1 [(.t 12)]⟩,
  ⟨some 14, none, .no, .app 1 (.t 9) (.t 13)⟩,
  ⟨some 3, none, .no, .mv (.t 14)⟩]
@[go_sem] def speculumref03_Hash_r7 : List AIns := [
  ⟨some 7, none, .no, .mv (.t 4)⟩,
  ⟨some 8, none, .no, .bin .add .none (.t 7) (.v (.int .i64 (1)))⟩,
  ⟨some 4, none, .no, .mv (.t 8)⟩]
def speculumref03_Hash_c8 : ACode := .seq (.block 1 (.reg speculumref03_Hash_r6)) (.reg speculumref03_Hash_r7)
def speculumref03_Hash_c9 : ACode := .seq speculumref03_Hash_c5 speculumref03_Hash_c8
def speculumref03_Hash_c10 : ACode := .loop speculumref03_Hash_c9
def speculumref03_Hash_c11 : ACode := .block 0 speculumref03_Hash_c10
def speculumref03_Hash_c12 : ACode := .seq (.reg speculumref03_Hash_r2) speculumref03_Hash_c11
@[go_sem] def speculumref03_Hash_r13 : List AIns := [
  ⟨some 15, none, .no, .mv (.t 3)⟩,
  ⟨some 16, none, .no, .conv .str (.t 15)⟩,
  ⟨some 2, none, .no, .mv (.t 16)⟩]
def speculumref03_Hash_c14 : ACode := .seq (.reg speculumref03_Hash_r13) .ret
def speculumref03_Hash_c15 : ACode := .seq speculumref03_Hash_c12 speculumref03_Hash_c14
def speculumref03_Hash_c16 : ACode := .seq (.reg speculumref03_Hash_r1) speculumref03_Hash_c15
def speculumref03_Hash_c17 : ACode := .seq (.reg speculumref03_Hash_r0) speculumref03_Hash_c16
theorem speculumref03_Hash_ok : cFn TC 86 = some (17, [.t 2], speculumref03_Hash_c17) := by kernel_rfl

-- 99 speculum/codec.Hash
@[go_sem] def codec_Hash_r0 : List AIns := [
  ⟨some 1, none, .no, .box (.t 0)⟩,
  ⟨some 2, none, .no, .mv (.v (.str []))⟩]
@[go_sem] def codec_Hash_r1 : List AIns := [
  ⟨some 3, none, .no, .slice (.arr 32 1) (.t 1) none none none⟩,
  ⟨some 4, none, .no, .conv .str (.t 3)⟩,
  ⟨some 2, none, .no, .mv (.t 4)⟩]
def codec_Hash_c2 : ACode := .seq (.reg codec_Hash_r1) .ret
def codec_Hash_c3 : ACode := .seq (.reg codec_Hash_r0) codec_Hash_c2
theorem codec_Hash_ok : cFn TC 99 = some (5, [.t 2], codec_Hash_c3) := by kernel_rfl

-- 114 speculum/speculumref04.Split
@[go_sem] def speculumref04_Split_r0 : List AIns := [
  ⟨some 2, none, .no, .mv (.v (.int .i64 (0)))⟩]
@[go_sem] def speculumref04_Split_r1 : List AIns := [
  ⟨some 3, none, .no, .mv (.v (.int .i64 (0)))⟩]
@[go_sem] def speculumref04_Split_r2 : List AIns := [
  ⟨some 4, none, .no, .mv (.v (.int .i64 (1)))⟩]
@[go_sem] def speculumref04_Split_r3 : List AIns := [
  ⟨some 5, none, .no, .mv (.t 4)⟩,
  ⟨some 6, none, .no, .mv (.t 0)⟩,
  ⟨some 7, none, .no, .bin .lss .none (.t 5) (.t 6)⟩,
  ⟨some 8, none, .no, .mv (.t 7)⟩,
  ⟨some 9, some (8, true), .no, .mv (.t 4)⟩,
  ⟨some 10, some (8, true), .no, .bin .gtr .none (.t 9) (.v (.int .i64 (0)))⟩,
  ⟨some 11, none, .no, .pick (.t 8) (.t 10) (.v (.bool false))⟩]
def speculumref04_Split_c4 : ACode := .cond (.t 11) .skip (.exit 0)
def speculumref04_Split_c5 : ACode := .seq (.reg speculumref04_Split_r3) speculumref04_Split_c4
@[go_sem] def speculumref04_Split_r6 : List AIns := [
  ⟨some 14, none, .no, .mv (.t 4)⟩,
  ⟨some 3, none, .no, .mv (.t 14)⟩]
@[go_sem] def speculumref04_Split_r7 : List AIns := [
  ⟨some 12, none, .no, .mv (.t 4)⟩,
  ⟨some 13, none, .no, .bin .mul .none (.t 12) (.v (.int .i64 (2)))⟩,
  ⟨some 4, none, .no, .mv (.t 13)⟩]
def speculumref04_Split_c8 : ACode := .seq (.block 1 (.reg speculumref04_Split_r6)) (.reg speculumref04_Split_r7)
def speculumref04_Split_c9 : ACode := .seq speculumref04_Split_c5 speculumref04_Split_c8
def speculumref04_Split_c10 : ACode := .loop speculumref04_Split_c9
def speculumref04_Split_c11 : ACode := .block 0 speculumref04_Split_c10
def speculumref04_Split_c12 : ACode := .seq (.reg speculumref04_Split_r2) speculumref04_Split_c11
@[go_sem] def speculumref04_Split_r13 : List AIns := [
  ⟨some 15, none, .no, .mv (.t 3)⟩,
  ⟨some 2, none, .no, .mv (.t 15)⟩]
def speculumref04_Split_c14 : ACode := .seq (.reg speculumref04_Split_r13) .ret
def speculumref04_Split_c15 : ACode := .seq speculumref04_Split_c12 speculumref04_Split_c14
def speculumref04_Split_c16 : ACode := .seq (.reg speculumref04_Split_r1) speculumref04_Split_c15
def speculumref04_Split_c17 : ACode := .seq (.reg speculumref04_Split_r0) speculumref04_Split_c16
theorem speculumref04_Split_ok : cFn TC 114 = some (16, [.t 2], speculumref04_Split_c17) := by kernel_rfl
end Am
end Go.Proofs.YtfofemaglndnjaaDoor
end
section
set_option linter.unusedSimpArgs false
set_option linter.unusedVariables false
/- Trees: contracts: a hash's bytes, Node. -/
set_option linter.unusedSimpArgs false
set_option linter.unusedVariables false
namespace Go.Proofs.YtfofemaglndnjaaDoor
namespace Am
theorem shaS_len (s : List UInt8) : (shaS s).length = 32 := outV_len _
def nodeS (a b : List UInt8) : List UInt8 := shaS (1 :: (a ++ b))
theorem nodeS_len (a b : List UInt8) : (nodeS a b).length = 32 := shaS_len _
theorem chunk_C : ∀ (l : List UInt8), chunk 1 l.length (byteEsC l) = byteEs l
  | [] => rfl
  | b :: l => by
    have := chunk_C l
    simp only [byteEsC, byteEs] at this
    simp [byteEsC, byteEs, chunk, B8] at this ⊢
    exact this
theorem codec_Hash_to (σ : Store) (h : List UInt8) (hl : h.length = 32) : ACallsTo TC 99 [.agg (byteEsC h)] σ (.str h) σ := by
  refine ACallsTo.of_body codec_Hash_ok (by simp) fun hw _ => ?_
  have h1 := byteEsC_len h
  have hc := chunk_C h
  rw [hl] at h1 hc
  repeat' (first | refine SWp.seq ?_ | refine SWp.block ?_ | refine SWp.scope ?_ | (refine SWp.reg ?_; (simp (disch := first | omega | (simp only [List.length_set, List.length_append, List.length_cons, List.length_nil, List.length_map]; omega)) only [go_sem, Nat.reduceEqDiff, Nat.reduceBEq, Nat.reduceAdd, Nat.reduceMul, Nat.reduceSub, Nat.reduceLeDiff, Int.reduceToNat, Int.reducePow, h1, hc])) | refine SWp.condT rfl ?_ | refine SWp.condF rfl ?_ | (refine SWp.condD rfl (fun ht => ?_) (fun ht => ?_) <;> try (exfalso; omega)) | ((first | refine SWp.skip ?_ | refine SWp.exit ?_ | refine SWp.ret ?_); try (simp (disch := first | omega | (simp only [List.length_set, List.length_append, List.length_cons, List.length_nil, List.length_map]; omega)) only [go_sem, Nat.reduceEqDiff, Nat.reduceBEq, Nat.reduceAdd, Nat.reduceMul, Nat.reduceSub, Nat.reduceLeDiff, Int.reduceToNat, Int.reducePow, h1, hc])) | ((first | refine splitG (fun ht => ?_) (fun ht => ?_) | refine splitGB (fun ht => ?_) (fun ht => ?_) | refine splitR (fun ht => ?_) (fun ht => ?_) | refine splitRB (fun ht => ?_) (fun ht => ?_) | refine splitE (fun ht => ?_) (fun ht => ?_) | refine splitEB (fun ht => ?_) (fun ht => ?_) | refine splitC (fun ht => ?_) (fun ht => ?_) | refine splitCB (fun ht => ?_) (fun ht => ?_)) <;> (simp (disch := first | omega | (simp only [List.length_set, List.length_append, List.length_cons, List.length_nil, List.length_map]; omega)) only [go_sem, Nat.reduceEqDiff, Nat.reduceBEq, Nat.reduceAdd, Nat.reduceMul, Nat.reduceSub, Nat.reduceLeDiff, Int.reduceToNat, Int.reducePow, h1, hc])))
  exact DownV.pure hw (rlB_ok _ rfl)
/-- Own elements behind what was there, or none yet. -/
def OwnN (sz : Nat) (τ σ' : Store) (v : AV) (es : List (List AV)) : Prop :=
  ∃ news, σ' = τ ++ news ∧ ((es = [] ∧ v = .nilsl) ∨ ∃ j, es ≠ [] ∧ v = .sl (τ.length + j) 0 es.length none sz ∧ news[j]? = some (some es))
theorem OwnN.len {sz : Nat} {τ σ' : Store} {v : AV} {es : List (List AV)} (h : OwnN sz τ σ' v es) : rLenSl v = some (.int .i64 es.length) := by
  obtain ⟨news, rfl, ⟨rfl, rfl⟩ | ⟨j, _, rfl, h⟩⟩ := h <;> rfl
theorem OwnN.nil {sz : Nat} {τ news : Store} : OwnN sz τ (τ ++ news) .nilsl [] := ⟨news, rfl, .inl ⟨rfl, rfl⟩⟩
theorem OwnN.ext {sz : Nat} {τ σ' : Store} {v : AV} {es : List (List AV)} (h : OwnN sz τ σ' v es) : ∃ news, σ' = τ ++ news := by
  obtain ⟨news, h, _⟩ := h; exact ⟨news, h⟩
/-- What others append behind leaves it. -/
theorem OwnN.more {sz : Nat} {τ σ' : Store} {v : AV} {es : List (List AV)} (h : OwnN sz τ σ' v es) (y : Store) : OwnN sz τ (σ' ++ y) v es := by
  obtain ⟨news, rfl, h | ⟨j, h0, rfl, h⟩⟩ := h
  · exact ⟨news ++ y, by rw [List.append_assoc], .inl h⟩
  · exact ⟨news ++ y, by rw [List.append_assoc], .inr ⟨j, h0, rfl, by rw [List.getElem?_append_left (List.getElem?_eq_some_iff.1 h).1]; exact h⟩⟩
theorem OwnN.app {sz : Nat} {τ σ' : Store} {v : AV} {es ys : List (List AV)} (h : OwnN sz τ σ' v es) (h0 : ys.length ≠ 0) (hl : es.length + ys.length ≤ 1073741824) :
    ∃ v' σ'', aApp σ' sz v ys = some (v', σ'') ∧ OwnN sz τ σ'' v' (es ++ ys) := by
  have hne : es ++ ys ≠ [] := fun e => h0 (by rw [(List.append_eq_nil_iff.1 e).2]; rfl)
  obtain ⟨news, rfl, ⟨rfl, rfl⟩ | ⟨j, _, rfl, h⟩⟩ := h
  · refine ⟨_, _, by rw [app_n, if_neg h0, if_pos (by simpa using hl)], news ++ [some ys], by rw [List.append_assoc], .inr ⟨news.length, hne, by simp, by rw [List.getElem?_append_right (Nat.le_refl _)]; simp⟩⟩
  · have hj := (List.getElem?_eq_some_iff.1 h).1
    have hg : (τ ++ news)[τ.length + j]? = some (some es) := by rw [List.getElem?_append_right (by omega), Nat.add_sub_cancel_left]; exact h
    refine ⟨.sl (τ ++ news).length 0 (es.length + ys.length) none sz, (τ ++ news).set (τ.length + j) none ++ [some (es ++ ys)], ?_, news.set j none ++ [some (es ++ ys)], ?_, .inr ⟨news.length, hne, by simp, by rw [List.getElem?_append_right (by simp)]; simp⟩⟩
    · rw [app_s, if_neg h0, hg]
      simp only
      rw [if_pos ⟨trivial, by omega, by omega⟩, if_neg (by omega), List.drop_zero, List.take_of_length_le (Nat.le_refl _)]
    · rw [List.set_append_right _ _ (by omega), Nat.add_sub_cancel_left, List.append_assoc]
theorem OwnN.sl {sz : Nat} {τ σ' : Store} {v : AV} {es : List (List AV)} (h : OwnN sz τ σ' v es) (h0 : es ≠ []) : ∃ r, v = .sl r 0 es.length none sz ∧ σ'[r]? = some (some es) ∧ τ.length ≤ r := by
  obtain ⟨news, rfl, ⟨rfl, rfl⟩ | ⟨j, _, rfl, h⟩⟩ := h
  · exact absurd rfl h0
  · exact ⟨_, rfl, by rw [List.getElem?_append_right (by omega), Nat.add_sub_cancel_left]; exact h, by omega⟩
/-- A slice that nobody writes. -/
def SlV (sz : Nat) (es : List (List AV)) (x : AV) : Prop := (x = .nilsl ∧ es = []) ∨ ∃ ex, x = .vsl sz es ex
theorem SlV.len {sz : Nat} {es : List (List AV)} {x : AV} (h : SlV sz es x) : rLenSl x = some (.int .i64 es.length) := by
  rcases h with ⟨rfl, rfl⟩ | ⟨ex, rfl⟩ <;> rfl
theorem SlV.vsl {sz : Nat} {es : List (List AV)} {x : AV} (h : SlV sz es x) (h0 : 0 < es.length) : ∃ ex, x = .vsl sz es ex := by
  rcases h with ⟨rfl, rfl⟩ | h
  · simp at h0
  · exact h
def slVal (sz : Nat) (es : List (List AV)) : AV := if es = [] then .nilsl else .vsl sz es false
theorem slVal_is (sz : Nat) (es : List (List AV)) : SlV sz es (slVal sz es) := by
  unfold slVal
  split
  · rename_i h; exact .inl ⟨rfl, h⟩
  · exact .inr ⟨false, rfl⟩
/-- A new slice for the caller: who, and the store with it. -/
def ownV (σ : Store) (sz : Nat) (es : List (List AV)) : AV := if es = [] then .nilsl else .sl σ.length 0 es.length none sz
def ownS (σ : Store) (es : List (List AV)) : Store := if es = [] then σ else σ ++ [some es]
theorem own_is (σ : Store) (sz : Nat) (es : List (List AV)) : OwnN sz σ (ownS σ es) (ownV σ sz es) es := by
  unfold ownV ownS
  by_cases h : es = []
  · rw [if_pos h, if_pos h]; exact ⟨[], by simp, .inl ⟨h, rfl⟩⟩
  · rw [if_neg h, if_neg h]; exact ⟨[some es], rfl, .inr ⟨0, h, rfl, rfl⟩⟩
/-- At a function's end it is a value .. -/
theorem OwnN.froze {sz : Nat} {σ σ' : Store} {v : AV} {es : List (List AV)} (hw : Wf σ.length σ) (h : OwnN sz σ σ' v es) (hr : RLss σ.length es) : DownV σ.length v σ' (slVal sz es) σ := by
  unfold slVal
  obtain ⟨news, rfl, ⟨rfl, rfl⟩ | ⟨j, h0, rfl, h⟩⟩ := h
  · rw [if_pos rfl]; exact DownV.pure hw (rlB_ok _ rfl)
  · have e : (es.drop 0).take es.length = es := by rw [List.drop_zero, List.take_of_length_le (Nat.le_refl _)]
    have := DownV.froze (off := 0) (len := es.length) (esz := sz) (lim := none) hw h (by omega) (by rw [e]; exact hr)
    rw [e] at this
    rw [if_neg h0]; exact this
/-- .. or its caller's own. -/
theorem OwnN.own {sz : Nat} {σ σ' : Store} {v : AV} {es : List (List AV)} (hw : Wf σ.length σ) (h : OwnN sz σ σ' v es) (hr : RLss σ.length es) : DownV σ.length v σ' (ownV σ sz es) (ownS σ es) := by
  unfold ownV ownS
  obtain ⟨news, rfl, ⟨rfl, rfl⟩ | ⟨j, h0, rfl, h⟩⟩ := h
  · rw [if_pos rfl, if_pos rfl]; exact DownV.pure hw (rlB_ok _ rfl)
  · rw [if_neg h0, if_neg h0]; exact DownV.own (off := 0) (len := es.length) (esz := sz) (lim := none) hw h hr
theorem byteEsC_get {l : List UInt8} {i : Nat} (h : i < l.length) : (byteEsC l)[i]? = some (.int .u8 (l.getD i 0).toNat) := by
  simp [byteEsC, List.getD_eq_getElem?_getD, List.getElem?_eq_getElem h]
set_option maxHeartbeats 4000000 in
theorem ref_Hash_to (σ : Store) (h : List UInt8) (hl : h.length = 32) : ACallsTo TC 86 [.agg (byteEsC h)] σ (.str h) σ := by
  refine ACallsTo.of_body speculumref03_Hash_ok (by simp) fun hw _ => ?_
  have h1 := byteEsC_len h
  rw [hl] at h1
  repeat' (first | refine SWp.seq ?_ | refine SWp.block ?_ | refine SWp.scope ?_ | (refine SWp.reg ?_; (simp (disch := first | omega | (simp only [List.length_set, List.length_append, List.length_cons, List.length_nil, List.length_map]; omega)) only [go_sem, Nat.reduceEqDiff, Nat.reduceBEq, Nat.reduceAdd, Nat.reduceMul, Nat.reduceSub, Nat.reduceLeDiff, Int.reduceToNat, Int.reducePow, h1])) | refine SWp.condT rfl ?_ | refine SWp.condF rfl ?_ | (refine SWp.condD rfl (fun ht => ?_) (fun ht => ?_) <;> try (exfalso; omega)) | ((first | refine SWp.skip ?_ | refine SWp.exit ?_ | refine SWp.ret ?_); try (simp (disch := first | omega | (simp only [List.length_set, List.length_append, List.length_cons, List.length_nil, List.length_map]; omega)) only [go_sem, Nat.reduceEqDiff, Nat.reduceBEq, Nat.reduceAdd, Nat.reduceMul, Nat.reduceSub, Nat.reduceLeDiff, Int.reduceToNat, Int.reducePow, h1])) | ((first | refine splitG (fun ht => ?_) (fun ht => ?_) | refine splitGB (fun ht => ?_) (fun ht => ?_) | refine splitR (fun ht => ?_) (fun ht => ?_) | refine splitRB (fun ht => ?_) (fun ht => ?_) | refine splitE (fun ht => ?_) (fun ht => ?_) | refine splitEB (fun ht => ?_) (fun ht => ?_) | refine splitC (fun ht => ?_) (fun ht => ?_) | refine splitCB (fun ht => ?_) (fun ht => ?_)) <;> (simp (disch := first | omega | (simp only [List.length_set, List.length_append, List.length_cons, List.length_nil, List.length_map]; omega)) only [go_sem, Nat.reduceEqDiff, Nat.reduceBEq, Nat.reduceAdd, Nat.reduceMul, Nat.reduceSub, Nat.reduceLeDiff, Int.reduceToNat, Int.reducePow, h1])))
  refine SWp.loop (fun m ρ σ' => ∃ i : Nat, m + i = 32 ∧ ρ 1 = .ptr σ.length 0 0 ∧ ρ 4 = .int .i64 i ∧ OwnN 1 (σ ++ [some [byteEsC h]]) σ' (ρ 3) (byteEs (h.take i))) 32 ?_ ?_
  · refine ⟨0, by omega, by simp (disch := first | omega | (simp only [List.length_set, List.length_append, List.length_cons, List.length_nil, List.length_map]; omega)) only [go_sem, Nat.reduceEqDiff, Nat.reduceBEq, Nat.reduceAdd, Nat.reduceMul, Nat.reduceSub, Nat.reduceLeDiff, Int.reduceToNat, Int.reducePow], by simp (disch := first | omega | (simp only [List.length_set, List.length_append, List.length_cons, List.length_nil, List.length_map]; omega)) only [go_sem, Nat.reduceEqDiff, Nat.reduceBEq, Nat.reduceAdd, Nat.reduceMul, Nat.reduceSub, Nat.reduceLeDiff, Int.reduceToNat, Int.reducePow]; rfl, ?_⟩
    simp (disch := first | omega | (simp only [List.length_set, List.length_append, List.length_cons, List.length_nil, List.length_map]; omega)) only [go_sem, Nat.reduceEqDiff, Nat.reduceBEq, Nat.reduceAdd, Nat.reduceMul, Nat.reduceSub, Nat.reduceLeDiff, Int.reduceToNat, Int.reducePow]
    have := OwnN.nil (sz := 1) (τ := σ ++ [some [byteEsC h]]) (news := [])
    rwa [List.append_nil] at this
  · rintro m ρ σ' ⟨i, hm, q1, q4, hO⟩
    by_cases hi : i < 32
    · have hg := byteEsC_get (l := h) (i := i) (by omega)
      have hs : h.take (i + 1) = h.take i ++ [h.getD i 0] := by
        rw [List.take_add_one, List.getD_eq_getElem?_getD, List.getElem?_eq_getElem (by omega)]; rfl
      obtain ⟨v', σ2, he, hO2⟩ := hO.app (ys := byteEs [h.getD i 0]) (by simp [byteEs]) (by simp [byteEs_len]; omega)
      have ho : σ'[σ.length]? = some (some [byteEsC h]) := by
        obtain ⟨news, rfl, _⟩ := hO
        rw [List.append_assoc, List.getElem?_append_right (Nat.le_refl _), Nat.sub_self]; rfl
      have hb : byteEs [h.getD i 0] = [[.int .u8 (h.getD i 0).toNat]] := rfl
      rw [hb] at he
      generalize h.getD i 0 = x at *
      generalize hv : ρ 3 = v at *
      repeat' (first | refine SWp.seq ?_ | refine SWp.block ?_ | refine SWp.scope ?_ | (refine SWp.reg ?_; (simp (disch := first | omega | (simp only [List.length_set, List.length_append, List.length_cons, List.length_nil, List.length_map]; omega)) only [go_sem, Nat.reduceEqDiff, Nat.reduceBEq, Nat.reduceAdd, Nat.reduceMul, Nat.reduceSub, Nat.reduceLeDiff, Int.reduceToNat, Int.reducePow, q1, q4, hv, ho, h1, hg, he])) | refine SWp.condT rfl ?_ | refine SWp.condF rfl ?_ | (refine SWp.condD rfl (fun ht => ?_) (fun ht => ?_) <;> try (exfalso; omega)) | ((first | refine SWp.skip ?_ | refine SWp.exit ?_ | refine SWp.ret ?_); try (simp (disch := first | omega | (simp only [List.length_set, List.length_append, List.length_cons, List.length_nil, List.length_map]; omega)) only [go_sem, Nat.reduceEqDiff, Nat.reduceBEq, Nat.reduceAdd, Nat.reduceMul, Nat.reduceSub, Nat.reduceLeDiff, Int.reduceToNat, Int.reducePow, q1, q4, hv, ho, h1, hg, he])) | ((first | refine splitG (fun ht => ?_) (fun ht => ?_) | refine splitGB (fun ht => ?_) (fun ht => ?_) | refine splitR (fun ht => ?_) (fun ht => ?_) | refine splitRB (fun ht => ?_) (fun ht => ?_) | refine splitE (fun ht => ?_) (fun ht => ?_) | refine splitEB (fun ht => ?_) (fun ht => ?_) | refine splitC (fun ht => ?_) (fun ht => ?_) | refine splitCB (fun ht => ?_) (fun ht => ?_)) <;> (simp (disch := first | omega | (simp only [List.length_set, List.length_append, List.length_cons, List.length_nil, List.length_map]; omega)) only [go_sem, Nat.reduceEqDiff, Nat.reduceBEq, Nat.reduceAdd, Nat.reduceMul, Nat.reduceSub, Nat.reduceLeDiff, Int.reduceToNat, Int.reducePow, q1, q4, hv, ho, h1, hg, he])))
      refine ⟨32 - (i + 1), by omega, i + 1, by omega, by simp, ?_⟩
      rw [hs, ← byteEs_app]
      exact hO2
    · obtain rfl : i = 32 := by omega
      rw [List.take_of_length_le (by omega)] at hO
      obtain ⟨r, q3, hg, _⟩ := hO.sl (by intro e; have := byteEs_len h; rw [e] at this; simp at this; omega)
      rw [byteEs_len] at q3
      repeat' (first | refine SWp.seq ?_ | refine SWp.block ?_ | refine SWp.scope ?_ | (refine SWp.reg ?_; (simp (disch := first | omega | (simp only [List.length_set, List.length_append, List.length_cons, List.length_nil, List.length_map]; omega)) only [go_sem, Nat.reduceEqDiff, Nat.reduceBEq, Nat.reduceAdd, Nat.reduceMul, Nat.reduceSub, Nat.reduceLeDiff, Int.reduceToNat, Int.reducePow, q1, q4, q3, hg])) | refine SWp.condT rfl ?_ | refine SWp.condF rfl ?_ | (refine SWp.condD rfl (fun ht => ?_) (fun ht => ?_) <;> try (exfalso; omega)) | ((first | refine SWp.skip ?_ | refine SWp.exit ?_ | refine SWp.ret ?_); try (simp (disch := first | omega | (simp only [List.length_set, List.length_append, List.length_cons, List.length_nil, List.length_map]; omega)) only [go_sem, Nat.reduceEqDiff, Nat.reduceBEq, Nat.reduceAdd, Nat.reduceMul, Nat.reduceSub, Nat.reduceLeDiff, Int.reduceToNat, Int.reducePow, q1, q4, q3, hg])) | ((first | refine splitG (fun ht => ?_) (fun ht => ?_) | refine splitGB (fun ht => ?_) (fun ht => ?_) | refine splitR (fun ht => ?_) (fun ht => ?_) | refine splitRB (fun ht => ?_) (fun ht => ?_) | refine splitE (fun ht => ?_) (fun ht => ?_) | refine splitEB (fun ht => ?_) (fun ht => ?_) | refine splitC (fun ht => ?_) (fun ht => ?_) | refine splitCB (fun ht => ?_) (fun ht => ?_)) <;> (simp (disch := first | omega | (simp only [List.length_set, List.length_append, List.length_cons, List.length_nil, List.length_map]; omega)) only [go_sem, Nat.reduceEqDiff, Nat.reduceBEq, Nat.reduceAdd, Nat.reduceMul, Nat.reduceSub, Nat.reduceLeDiff, Int.reduceToNat, Int.reducePow, q1, q4, q3, hg])))
      obtain ⟨news, rfl, _⟩ := hO
      rw [List.append_assoc]
      exact DownV.pure hw (rlB_ok _ rfl)
theorem node_arg (a b : List UInt8) : ([1] : List UInt8) ++ (a ++ b) = 1 :: (a ++ b) := rfl
theorem trees_Node_to (σ : Store) (a b : List UInt8) (ha : a.length = 32) (hb : b.length = 32) : ACallsTo TC 59 [.agg (byteEsC a), .agg (byteEsC b)] σ (.agg (byteEsC (nodeS a b))) σ := by
  refine ACallsTo.of_body trees_Node_ok (by simp) fun hw _ => ?_
  have h1 := byteEsC_len a
  have h2 := byteEsC_len b
  have h3 := byteEsC_len (nodeS a b)
  rw [ha] at h1
  rw [hb] at h2
  rw [nodeS_len] at h3
  obtain ⟨n, hn⟩ : ∃ n, n = nodeS a b := ⟨_, rfl⟩
  have hs : ∀ σ, ACallsTo TC 67 [.str (1 :: (a ++ b))] σ (.agg (byteEsC n)) σ := fun σ => by rw [hn]; exact sha_Sum_to σ _ (by simp; omega)
  rw [← hn] at h3 ⊢
  repeat' (first | (apply callW.any; (first | exact (codec_Hash_to _ _ ha) | exact (codec_Hash_to _ _ hb) | exact (hs _)); all_goals try (simp (disch := first | omega | (simp only [List.length_set, List.length_append, List.length_cons, List.length_nil, List.length_map]; omega)) only [go_sem, Nat.reduceEqDiff, Nat.reduceBEq, Nat.reduceAdd, Nat.reduceMul, Nat.reduceSub, Nat.reduceLeDiff, Int.reduceToNat, Int.reducePow, h1, h2, h3])) | refine SWp.seq ?_ | refine SWp.block ?_ | refine SWp.scope ?_ | (refine SWp.regS ?_; (simp (disch := first | omega | (simp only [List.length_set, List.length_append, List.length_cons, List.length_nil, List.length_map]; omega)) only [go_sem, Nat.reduceEqDiff, Nat.reduceBEq, Nat.reduceAdd, Nat.reduceMul, Nat.reduceSub, Nat.reduceLeDiff, Int.reduceToNat, Int.reducePow, h1, h2, h3])) | refine SWp.condT rfl ?_ | refine SWp.condF rfl ?_ | (refine SWp.condD rfl (fun ht => ?_) (fun ht => ?_) <;> try (exfalso; omega)) | ((first | refine SWp.skip ?_ | refine SWp.exit ?_ | refine SWp.ret ?_); try (simp (disch := first | omega | (simp only [List.length_set, List.length_append, List.length_cons, List.length_nil, List.length_map]; omega)) only [go_sem, Nat.reduceEqDiff, Nat.reduceBEq, Nat.reduceAdd, Nat.reduceMul, Nat.reduceSub, Nat.reduceLeDiff, Int.reduceToNat, Int.reducePow, h1, h2, h3])) | ((first | refine splitG (fun ht => ?_) (fun ht => ?_) | refine splitGB (fun ht => ?_) (fun ht => ?_) | refine splitR (fun ht => ?_) (fun ht => ?_) | refine splitRB (fun ht => ?_) (fun ht => ?_) | refine splitE (fun ht => ?_) (fun ht => ?_) | refine splitEB (fun ht => ?_) (fun ht => ?_) | refine splitC (fun ht => ?_) (fun ht => ?_) | refine splitCB (fun ht => ?_) (fun ht => ?_)) <;> (simp (disch := first | omega | (simp only [List.length_set, List.length_append, List.length_cons, List.length_nil, List.length_map]; omega)) only [go_sem, Nat.reduceEqDiff, Nat.reduceBEq, Nat.reduceAdd, Nat.reduceMul, Nat.reduceSub, Nat.reduceLeDiff, Int.reduceToNat, Int.reducePow, h1, h2, h3])))
  exact DownV.pure hw (rl_agg (rl_bytes _))
theorem ref_Node_to (σ : Store) (a b : List UInt8) (ha : a.length = 32) (hb : b.length = 32) : ACallsTo TC 80 [.agg (byteEsC a), .agg (byteEsC b)] σ (.agg (byteEsC (nodeS a b))) σ := by
  refine ACallsTo.of_body speculumref04_Node_ok (by simp) fun hw _ => ?_
  have h1 := byteEsC_len a
  have h2 := byteEsC_len b
  have h3 := byteEsC_len (nodeS a b)
  rw [ha] at h1
  rw [hb] at h2
  rw [nodeS_len] at h3
  obtain ⟨n, hn⟩ : ∃ n, n = nodeS a b := ⟨_, rfl⟩
  have hs : ∀ σ, ACallsTo TC 65 [.str (1 :: (a ++ b))] σ (.agg (byteEsC n)) σ := fun σ => by rw [hn]; exact ref_Sum_to σ _ (by simp; omega)
  rw [← hn] at h3 ⊢
  repeat' (first | (apply callW.any; (first | exact (ref_Hash_to _ _ ha) | exact (ref_Hash_to _ _ hb) | exact (hs _)); all_goals try (simp (disch := first | omega | (simp only [List.length_set, List.length_append, List.length_cons, List.length_nil, List.length_map]; omega)) only [go_sem, Nat.reduceEqDiff, Nat.reduceBEq, Nat.reduceAdd, Nat.reduceMul, Nat.reduceSub, Nat.reduceLeDiff, Int.reduceToNat, Int.reducePow, h1, h2, h3])) | refine SWp.seq ?_ | refine SWp.block ?_ | refine SWp.scope ?_ | (refine SWp.regS ?_; (simp (disch := first | omega | (simp only [List.length_set, List.length_append, List.length_cons, List.length_nil, List.length_map]; omega)) only [go_sem, Nat.reduceEqDiff, Nat.reduceBEq, Nat.reduceAdd, Nat.reduceMul, Nat.reduceSub, Nat.reduceLeDiff, Int.reduceToNat, Int.reducePow, h1, h2, h3])) | refine SWp.condT rfl ?_ | refine SWp.condF rfl ?_ | (refine SWp.condD rfl (fun ht => ?_) (fun ht => ?_) <;> try (exfalso; omega)) | ((first | refine SWp.skip ?_ | refine SWp.exit ?_ | refine SWp.ret ?_); try (simp (disch := first | omega | (simp only [List.length_set, List.length_append, List.length_cons, List.length_nil, List.length_map]; omega)) only [go_sem, Nat.reduceEqDiff, Nat.reduceBEq, Nat.reduceAdd, Nat.reduceMul, Nat.reduceSub, Nat.reduceLeDiff, Int.reduceToNat, Int.reducePow, h1, h2, h3])) | ((first | refine splitG (fun ht => ?_) (fun ht => ?_) | refine splitGB (fun ht => ?_) (fun ht => ?_) | refine splitR (fun ht => ?_) (fun ht => ?_) | refine splitRB (fun ht => ?_) (fun ht => ?_) | refine splitE (fun ht => ?_) (fun ht => ?_) | refine splitEB (fun ht => ?_) (fun ht => ?_) | refine splitC (fun ht => ?_) (fun ht => ?_) | refine splitCB (fun ht => ?_) (fun ht => ?_)) <;> (simp (disch := first | omega | (simp only [List.length_set, List.length_append, List.length_cons, List.length_nil, List.length_map]; omega)) only [go_sem, Nat.reduceEqDiff, Nat.reduceBEq, Nat.reduceAdd, Nat.reduceMul, Nat.reduceSub, Nat.reduceLeDiff, Int.reduceToNat, Int.reducePow, h1, h2, h3])))
  exact DownV.pure hw (rl_agg (rl_bytes _))
end Am
end Go.Proofs.YtfofemaglndnjaaDoor
end
section
set_option linter.unusedSimpArgs false
set_option linter.unusedVariables false
/- Trees: contracts: Split, Root. -/
set_option linter.unusedSimpArgs false
set_option linter.unusedVariables false
namespace Go.Proofs.YtfofemaglndnjaaDoor
namespace Am
def splitS (n : Nat) : Nat := if n < 2 then 0 else 2 ^ Nat.log2 (n - 1)
theorem split_spec {n : Nat} (h : 2 ≤ n) : splitS n < n ∧ n ≤ 2 * splitS n ∧ 0 < splitS n := by
  unfold splitS
  rw [if_neg (by omega)]
  have h1 := Nat.log2_self_le (n := n - 1) (by omega)
  have h2 := Nat.lt_log2_self (n := n - 1)
  rw [Nat.pow_succ] at h2
  have h3 : 0 < 2 ^ Nat.log2 (n - 1) := Nat.pow_pos (by decide)
  omega
theorem split_uniq {n j : Nat} (h1 : 2 ^ j < n) (h2 : n ≤ 2 ^ (j + 1)) : splitS n = 2 ^ j := by
  have h3 : 0 < 2 ^ j := Nat.pow_pos (by decide)
  unfold splitS
  rw [if_neg (by omega)]
  have h4 := Nat.log2_self_le (n := n - 1) (by omega)
  have h5 := Nat.lt_log2_self (n := n - 1)
  congr 1
  generalize Nat.log2 (n - 1) = i at *
  have a1 : 2 ^ j < 2 ^ (i + 1) := by omega
  have a2 : 2 ^ i < 2 ^ (j + 1) := by omega
  have b1 := (Nat.pow_lt_pow_iff_right (by decide : 1 < 2)).1 a1
  have b2 := (Nat.pow_lt_pow_iff_right (by decide : 1 < 2)).1 a2
  omega
theorem trees_Split_to (σ : Store) (n : Nat) (h : n < 1000000000000) : ACallsTo TC 61 [.int .i64 n] σ (.int .i64 (splitS n)) σ := by
  refine ACallsTo.of_body trees_Split_ok (by simp) fun hw _ => ?_
  by_cases h2 : n < 2
  · have e : splitS n = 0 := by unfold splitS; rw [if_pos h2]
    rw [e]
    repeat' (first | refine SWp.seq ?_ | refine SWp.block ?_ | refine SWp.scope ?_ | (refine SWp.reg ?_; (simp (disch := first | omega | (simp only [List.length_set, List.length_append, List.length_cons, List.length_nil, List.length_map]; omega)) only [go_sem, Nat.reduceEqDiff, Nat.reduceBEq, Nat.reduceAdd, Nat.reduceMul, Nat.reduceSub, Nat.reduceLeDiff, Int.reduceToNat, Int.reducePow])) | refine SWp.condT rfl ?_ | refine SWp.condF rfl ?_ | (refine SWp.condD rfl (fun ht => ?_) (fun ht => ?_) <;> try (exfalso; omega)) | ((first | refine SWp.skip ?_ | refine SWp.exit ?_ | refine SWp.ret ?_); try (simp (disch := first | omega | (simp only [List.length_set, List.length_append, List.length_cons, List.length_nil, List.length_map]; omega)) only [go_sem, Nat.reduceEqDiff, Nat.reduceBEq, Nat.reduceAdd, Nat.reduceMul, Nat.reduceSub, Nat.reduceLeDiff, Int.reduceToNat, Int.reducePow])) | ((first | refine splitG (fun ht => ?_) (fun ht => ?_) | refine splitGB (fun ht => ?_) (fun ht => ?_) | refine splitR (fun ht => ?_) (fun ht => ?_) | refine splitRB (fun ht => ?_) (fun ht => ?_) | refine splitE (fun ht => ?_) (fun ht => ?_) | refine splitEB (fun ht => ?_) (fun ht => ?_) | refine splitC (fun ht => ?_) (fun ht => ?_) | refine splitCB (fun ht => ?_) (fun ht => ?_)) <;> (simp (disch := first | omega | (simp only [List.length_set, List.length_append, List.length_cons, List.length_nil, List.length_map]; omega)) only [go_sem, Nat.reduceEqDiff, Nat.reduceBEq, Nat.reduceAdd, Nat.reduceMul, Nat.reduceSub, Nat.reduceLeDiff, Int.reduceToNat, Int.reducePow])))
    exact DownV.same hw (rlB_ok _ rfl)
  · repeat' (first | refine SWp.seq ?_ | refine SWp.block ?_ | refine SWp.scope ?_ | (refine SWp.reg ?_; (simp (disch := first | omega | (simp only [List.length_set, List.length_append, List.length_cons, List.length_nil, List.length_map]; omega)) only [go_sem, Nat.reduceEqDiff, Nat.reduceBEq, Nat.reduceAdd, Nat.reduceMul, Nat.reduceSub, Nat.reduceLeDiff, Int.reduceToNat, Int.reducePow])) | refine SWp.condT rfl ?_ | refine SWp.condF rfl ?_ | (refine SWp.condD rfl (fun ht => ?_) (fun ht => ?_) <;> try (exfalso; omega)) | ((first | refine SWp.skip ?_ | refine SWp.exit ?_ | refine SWp.ret ?_); try (simp (disch := first | omega | (simp only [List.length_set, List.length_append, List.length_cons, List.length_nil, List.length_map]; omega)) only [go_sem, Nat.reduceEqDiff, Nat.reduceBEq, Nat.reduceAdd, Nat.reduceMul, Nat.reduceSub, Nat.reduceLeDiff, Int.reduceToNat, Int.reducePow])) | ((first | refine splitG (fun ht => ?_) (fun ht => ?_) | refine splitGB (fun ht => ?_) (fun ht => ?_) | refine splitR (fun ht => ?_) (fun ht => ?_) | refine splitRB (fun ht => ?_) (fun ht => ?_) | refine splitE (fun ht => ?_) (fun ht => ?_) | refine splitEB (fun ht => ?_) (fun ht => ?_) | refine splitC (fun ht => ?_) (fun ht => ?_) | refine splitCB (fun ht => ?_) (fun ht => ?_)) <;> (simp (disch := first | omega | (simp only [List.length_set, List.length_append, List.length_cons, List.length_nil, List.length_map]; omega)) only [go_sem, Nat.reduceEqDiff, Nat.reduceBEq, Nat.reduceAdd, Nat.reduceMul, Nat.reduceSub, Nat.reduceLeDiff, Int.reduceToNat, Int.reducePow])))
    refine SWp.loop (fun m ρ σ' => ∃ j : Nat, m = n - 2 ^ j ∧ 2 ^ j < n ∧ ρ 0 = .int .i64 n ∧ ρ 3 = .int .i64 ((2 ^ j : Nat) : Int) ∧ σ' = σ) (n - 1) ?_ ?_
    · exact ⟨0, rfl, by omega, by simp (disch := first | omega | (simp only [List.length_set, List.length_append, List.length_cons, List.length_nil, List.length_map]; omega)) only [go_sem, Nat.reduceEqDiff, Nat.reduceBEq, Nat.reduceAdd, Nat.reduceMul, Nat.reduceSub, Nat.reduceLeDiff, Int.reduceToNat, Int.reducePow], by simp (disch := first | omega | (simp only [List.length_set, List.length_append, List.length_cons, List.length_nil, List.length_map]; omega)) only [go_sem, Nat.reduceEqDiff, Nat.reduceBEq, Nat.reduceAdd, Nat.reduceMul, Nat.reduceSub, Nat.reduceLeDiff, Int.reduceToNat, Int.reducePow]; rfl, rfl⟩
    · rintro m ρ σ' ⟨j, hm, hj, q0, q3, rfl⟩
      have hp : 0 < 2 ^ j := Nat.pow_pos (by decide)
      have hs : 2 ^ (j + 1) = 2 ^ j * 2 := Nat.pow_succ ..
      generalize hk : 2 ^ j = k at *
      by_cases hc : (k : Int) < n - k
      · repeat' (first | refine SWp.seq ?_ | refine SWp.block ?_ | refine SWp.scope ?_ | (refine SWp.reg ?_; (simp (disch := first | omega | (simp only [List.length_set, List.length_append, List.length_cons, List.length_nil, List.length_map]; omega)) only [go_sem, Nat.reduceEqDiff, Nat.reduceBEq, Nat.reduceAdd, Nat.reduceMul, Nat.reduceSub, Nat.reduceLeDiff, Int.reduceToNat, Int.reducePow, q0, q3])) | refine SWp.condT rfl ?_ | refine SWp.condF rfl ?_ | (refine SWp.condD rfl (fun ht => ?_) (fun ht => ?_) <;> try (exfalso; omega)) | ((first | refine SWp.skip ?_ | refine SWp.exit ?_ | refine SWp.ret ?_); try (simp (disch := first | omega | (simp only [List.length_set, List.length_append, List.length_cons, List.length_nil, List.length_map]; omega)) only [go_sem, Nat.reduceEqDiff, Nat.reduceBEq, Nat.reduceAdd, Nat.reduceMul, Nat.reduceSub, Nat.reduceLeDiff, Int.reduceToNat, Int.reducePow, q0, q3])) | ((first | refine splitG (fun ht => ?_) (fun ht => ?_) | refine splitGB (fun ht => ?_) (fun ht => ?_) | refine splitR (fun ht => ?_) (fun ht => ?_) | refine splitRB (fun ht => ?_) (fun ht => ?_) | refine splitE (fun ht => ?_) (fun ht => ?_) | refine splitEB (fun ht => ?_) (fun ht => ?_) | refine splitC (fun ht => ?_) (fun ht => ?_) | refine splitCB (fun ht => ?_) (fun ht => ?_)) <;> (simp (disch := first | omega | (simp only [List.length_set, List.length_append, List.length_cons, List.length_nil, List.length_map]; omega)) only [go_sem, Nat.reduceEqDiff, Nat.reduceBEq, Nat.reduceAdd, Nat.reduceMul, Nat.reduceSub, Nat.reduceLeDiff, Int.reduceToNat, Int.reducePow, q0, q3])))
        exact ⟨n - k * 2, by omega, j + 1, by rw [hs], by omega, by rw [hs]; rfl⟩
      · have e : splitS n = k := by rw [← hk]; exact split_uniq (by omega) (by omega)
        rw [e]
        repeat' (first | refine SWp.seq ?_ | refine SWp.block ?_ | refine SWp.scope ?_ | (refine SWp.reg ?_; (simp (disch := first | omega | (simp only [List.length_set, List.length_append, List.length_cons, List.length_nil, List.length_map]; omega)) only [go_sem, Nat.reduceEqDiff, Nat.reduceBEq, Nat.reduceAdd, Nat.reduceMul, Nat.reduceSub, Nat.reduceLeDiff, Int.reduceToNat, Int.reducePow, q0, q3])) | refine SWp.condT rfl ?_ | refine SWp.condF rfl ?_ | (refine SWp.condD rfl (fun ht => ?_) (fun ht => ?_) <;> try (exfalso; omega)) | ((first | refine SWp.skip ?_ | refine SWp.exit ?_ | refine SWp.ret ?_); try (simp (disch := first | omega | (simp only [List.length_set, List.length_append, List.length_cons, List.length_nil, List.length_map]; omega)) only [go_sem, Nat.reduceEqDiff, Nat.reduceBEq, Nat.reduceAdd, Nat.reduceMul, Nat.reduceSub, Nat.reduceLeDiff, Int.reduceToNat, Int.reducePow, q0, q3])) | ((first | refine splitG (fun ht => ?_) (fun ht => ?_) | refine splitGB (fun ht => ?_) (fun ht => ?_) | refine splitR (fun ht => ?_) (fun ht => ?_) | refine splitRB (fun ht => ?_) (fun ht => ?_) | refine splitE (fun ht => ?_) (fun ht => ?_) | refine splitEB (fun ht => ?_) (fun ht => ?_) | refine splitC (fun ht => ?_) (fun ht => ?_) | refine splitCB (fun ht => ?_) (fun ht => ?_)) <;> (simp (disch := first | omega | (simp only [List.length_set, List.length_append, List.length_cons, List.length_nil, List.length_map]; omega)) only [go_sem, Nat.reduceEqDiff, Nat.reduceBEq, Nat.reduceAdd, Nat.reduceMul, Nat.reduceSub, Nat.reduceLeDiff, Int.reduceToNat, Int.reducePow, q0, q3])))
        exact DownV.same hw (rlB_ok _ rfl)
theorem ref_Split_to (σ : Store) (n : Nat) (h : n < 1000000000000) : ACallsTo TC 114 [.int .i64 n] σ (.int .i64 (splitS n)) σ := by
  refine ACallsTo.of_body speculumref04_Split_ok (by simp) fun hw _ => ?_
  repeat' (first | refine SWp.seq ?_ | refine SWp.block ?_ | refine SWp.scope ?_ | (refine SWp.reg ?_; (simp (disch := first | omega | (simp only [List.length_set, List.length_append, List.length_cons, List.length_nil, List.length_map]; omega)) only [go_sem, Nat.reduceEqDiff, Nat.reduceBEq, Nat.reduceAdd, Nat.reduceMul, Nat.reduceSub, Nat.reduceLeDiff, Int.reduceToNat, Int.reducePow])) | refine SWp.condT rfl ?_ | refine SWp.condF rfl ?_ | (refine SWp.condD rfl (fun ht => ?_) (fun ht => ?_) <;> try (exfalso; omega)) | ((first | refine SWp.skip ?_ | refine SWp.exit ?_ | refine SWp.ret ?_); try (simp (disch := first | omega | (simp only [List.length_set, List.length_append, List.length_cons, List.length_nil, List.length_map]; omega)) only [go_sem, Nat.reduceEqDiff, Nat.reduceBEq, Nat.reduceAdd, Nat.reduceMul, Nat.reduceSub, Nat.reduceLeDiff, Int.reduceToNat, Int.reducePow])) | ((first | refine splitG (fun ht => ?_) (fun ht => ?_) | refine splitGB (fun ht => ?_) (fun ht => ?_) | refine splitR (fun ht => ?_) (fun ht => ?_) | refine splitRB (fun ht => ?_) (fun ht => ?_) | refine splitE (fun ht => ?_) (fun ht => ?_) | refine splitEB (fun ht => ?_) (fun ht => ?_) | refine splitC (fun ht => ?_) (fun ht => ?_) | refine splitCB (fun ht => ?_) (fun ht => ?_)) <;> (simp (disch := first | omega | (simp only [List.length_set, List.length_append, List.length_cons, List.length_nil, List.length_map]; omega)) only [go_sem, Nat.reduceEqDiff, Nat.reduceBEq, Nat.reduceAdd, Nat.reduceMul, Nat.reduceSub, Nat.reduceLeDiff, Int.reduceToNat, Int.reducePow])))
  refine SWp.loop (fun m ρ σ' => ∃ j k : Nat, m = n - 2 ^ j ∧ ((j = 0 ∧ k = 0) ∨ (k < n ∧ 2 ^ j = k * 2 ∧ ∃ i, k = 2 ^ i)) ∧ ρ 0 = .int .i64 n ∧ ρ 3 = .int .i64 k ∧ ρ 4 = .int .i64 ((2 ^ j : Nat) : Int) ∧ σ' = σ) (n - 1) ?_ ?_
  · exact ⟨0, 0, rfl, .inl ⟨rfl, rfl⟩, by simp (disch := first | omega | (simp only [List.length_set, List.length_append, List.length_cons, List.length_nil, List.length_map]; omega)) only [go_sem, Nat.reduceEqDiff, Nat.reduceBEq, Nat.reduceAdd, Nat.reduceMul, Nat.reduceSub, Nat.reduceLeDiff, Int.reduceToNat, Int.reducePow], by simp (disch := first | omega | (simp only [List.length_set, List.length_append, List.length_cons, List.length_nil, List.length_map]; omega)) only [go_sem, Nat.reduceEqDiff, Nat.reduceBEq, Nat.reduceAdd, Nat.reduceMul, Nat.reduceSub, Nat.reduceLeDiff, Int.reduceToNat, Int.reducePow]; rfl, by simp (disch := first | omega | (simp only [List.length_set, List.length_append, List.length_cons, List.length_nil, List.length_map]; omega)) only [go_sem, Nat.reduceEqDiff, Nat.reduceBEq, Nat.reduceAdd, Nat.reduceMul, Nat.reduceSub, Nat.reduceLeDiff, Int.reduceToNat, Int.reducePow]; rfl, rfl⟩
  · rintro m ρ σ' ⟨j, k, hm, hk, q0, q3, q4, rfl⟩
    have hp : 0 < 2 ^ j := Nat.pow_pos (by decide)
    have hs : 2 ^ (j + 1) = 2 ^ j * 2 := Nat.pow_succ ..
    by_cases hc : 2 ^ j < n
    · generalize hmm : 2 ^ j = mm at *
      repeat' (first | refine SWp.seq ?_ | refine SWp.block ?_ | refine SWp.scope ?_ | (refine SWp.reg ?_; (simp (disch := first | omega | (simp only [List.length_set, List.length_append, List.length_cons, List.length_nil, List.length_map]; omega)) only [go_sem, Nat.reduceEqDiff, Nat.reduceBEq, Nat.reduceAdd, Nat.reduceMul, Nat.reduceSub, Nat.reduceLeDiff, Int.reduceToNat, Int.reducePow, q0, q3, q4])) | refine SWp.condT rfl ?_ | refine SWp.condF rfl ?_ | (refine SWp.condD rfl (fun ht => ?_) (fun ht => ?_) <;> try (exfalso; omega)) | ((first | refine SWp.skip ?_ | refine SWp.exit ?_ | refine SWp.ret ?_); try (simp (disch := first | omega | (simp only [List.length_set, List.length_append, List.length_cons, List.length_nil, List.length_map]; omega)) only [go_sem, Nat.reduceEqDiff, Nat.reduceBEq, Nat.reduceAdd, Nat.reduceMul, Nat.reduceSub, Nat.reduceLeDiff, Int.reduceToNat, Int.reducePow, q0, q3, q4])) | ((first | refine splitG (fun ht => ?_) (fun ht => ?_) | refine splitGB (fun ht => ?_) (fun ht => ?_) | refine splitR (fun ht => ?_) (fun ht => ?_) | refine splitRB (fun ht => ?_) (fun ht => ?_) | refine splitE (fun ht => ?_) (fun ht => ?_) | refine splitEB (fun ht => ?_) (fun ht => ?_) | refine splitC (fun ht => ?_) (fun ht => ?_) | refine splitCB (fun ht => ?_) (fun ht => ?_)) <;> (simp (disch := first | omega | (simp only [List.length_set, List.length_append, List.length_cons, List.length_nil, List.length_map]; omega)) only [go_sem, Nat.reduceEqDiff, Nat.reduceBEq, Nat.reduceAdd, Nat.reduceMul, Nat.reduceSub, Nat.reduceLeDiff, Int.reduceToNat, Int.reducePow, q0, q3, q4])))
      clear hk
      exact ⟨n - mm * 2, by omega, j + 1, mm, by rw [hs], .inr ⟨hc, hs, j, hmm.symm⟩, rfl, by rw [hs]; rfl⟩
    · have e : splitS n = k := by
        rcases hk with ⟨rfl, rfl⟩ | ⟨h1, h2, i, rfl⟩
        · unfold splitS; rw [if_pos (by simp at hc; omega)]
        · exact split_uniq h1 (by rw [Nat.pow_succ]; omega)
      rw [e]
      clear e hk hs
      generalize hmm : 2 ^ j = mm at *
      repeat' (first | refine SWp.seq ?_ | refine SWp.block ?_ | refine SWp.scope ?_ | (refine SWp.reg ?_; (simp (disch := first | omega | (simp only [List.length_set, List.length_append, List.length_cons, List.length_nil, List.length_map]; omega)) only [go_sem, Nat.reduceEqDiff, Nat.reduceBEq, Nat.reduceAdd, Nat.reduceMul, Nat.reduceSub, Nat.reduceLeDiff, Int.reduceToNat, Int.reducePow, q0, q3, q4])) | refine SWp.condT rfl ?_ | refine SWp.condF rfl ?_ | (refine SWp.condD rfl (fun ht => ?_) (fun ht => ?_) <;> try (exfalso; omega)) | ((first | refine SWp.skip ?_ | refine SWp.exit ?_ | refine SWp.ret ?_); try (simp (disch := first | omega | (simp only [List.length_set, List.length_append, List.length_cons, List.length_nil, List.length_map]; omega)) only [go_sem, Nat.reduceEqDiff, Nat.reduceBEq, Nat.reduceAdd, Nat.reduceMul, Nat.reduceSub, Nat.reduceLeDiff, Int.reduceToNat, Int.reducePow, q0, q3, q4])) | ((first | refine splitG (fun ht => ?_) (fun ht => ?_) | refine splitGB (fun ht => ?_) (fun ht => ?_) | refine splitR (fun ht => ?_) (fun ht => ?_) | refine splitRB (fun ht => ?_) (fun ht => ?_) | refine splitE (fun ht => ?_) (fun ht => ?_) | refine splitEB (fun ht => ?_) (fun ht => ?_) | refine splitC (fun ht => ?_) (fun ht => ?_) | refine splitCB (fun ht => ?_) (fun ht => ?_)) <;> (simp (disch := first | omega | (simp only [List.length_set, List.length_append, List.length_cons, List.length_nil, List.length_map]; omega)) only [go_sem, Nat.reduceEqDiff, Nat.reduceBEq, Nat.reduceAdd, Nat.reduceMul, Nat.reduceSub, Nat.reduceLeDiff, Int.reduceToNat, Int.reducePow, q0, q3, q4])))
      exact DownV.same hw (rlB_ok _ rfl)
def rootF : Nat → List (List UInt8) → List UInt8
  | 0, _ => []
  | _ + 1, [] => shaS []
  | _ + 1, [h] => h
  | f + 1, a :: b :: l => nodeS (rootF f ((a :: b :: l).take (splitS (l.length + 2)))) (rootF f ((a :: b :: l).drop (splitS (l.length + 2))))
theorem rootF_eq : ∀ (f g : Nat) (l : List (List UInt8)), l.length < f → l.length < g → rootF f l = rootF g l
  | 0, _, _, h, _ => by omega
  | _ + 1, 0, _, _, h => by omega
  | f + 1, g + 1, [], _, _ => rfl
  | f + 1, g + 1, [_], _, _ => rfl
  | f + 1, g + 1, a :: b :: l, h, h' => by
    obtain ⟨s1, s2, s3⟩ := split_spec (n := l.length + 2) (by omega)
    simp only [List.length_cons] at h h'
    simp only [rootF]
    rw [rootF_eq f g ((a :: b :: l).take (splitS (l.length + 2))) (by rw [List.length_take]; simp; omega) (by rw [List.length_take]; simp; omega),
      rootF_eq f g ((a :: b :: l).drop (splitS (l.length + 2))) (by rw [List.length_drop]; simp; omega) (by rw [List.length_drop]; simp; omega)]
/-- The root of leaves. -/
def rootS (l : List (List UInt8)) : List UInt8 := rootF (l.length + 1) l
theorem rootS_nil : rootS [] = shaS [] := rfl
theorem rootS_one (h : List UInt8) : rootS [h] = h := rfl
theorem rootS_two {l : List (List UInt8)} (h : 2 ≤ l.length) : rootS l = nodeS (rootS (l.take (splitS l.length))) (rootS (l.drop (splitS l.length))) := by
  match l, h with
  | a :: b :: l, _ =>
    obtain ⟨s1, s2, s3⟩ := split_spec (n := l.length + 2) (by omega)
    unfold rootS
    simp only [rootF, List.length_cons]
    congr 1
    · refine rootF_eq _ _ _ ?_ (Nat.lt_succ_self _)
      rw [List.length_take]
      simp only [List.length_cons]
      omega
    · refine rootF_eq _ _ _ ?_ (Nat.lt_succ_self _)
      rw [List.length_drop]
      simp only [List.length_cons]
      omega
def H32 (l : List (List UInt8)) : Prop := ∀ h ∈ l, h.length = 32
theorem H32.take {l : List (List UInt8)} (h : H32 l) (n : Nat) : H32 (l.take n) := fun x hx => h x (List.mem_of_mem_take hx)
theorem H32.drop {l : List (List UInt8)} (h : H32 l) (n : Nat) : H32 (l.drop n) := fun x hx => h x (List.mem_of_mem_drop hx)
theorem rootS_len {l : List (List UInt8)} (h : H32 l) : (rootS l).length = 32 := by
  match l, h with
  | [], _ => exact shaS_len _
  | [x], h => exact h x (by simp)
  | a :: b :: l, _ => rw [rootS_two (by simp)]; exact nodeS_len _ _
end Am
end Go.Proofs.YtfofemaglndnjaaDoor
end
section
set_option linter.unusedSimpArgs false
set_option linter.unusedVariables false
/- Trees: contracts: Root. -/
set_option linter.unusedSimpArgs false
set_option linter.unusedVariables false
namespace Go.Proofs.YtfofemaglndnjaaDoor
namespace Am
/-- Hashes as_ rows. -/
def hrows (l : List (List UInt8)) : List (List AV) := l.map byteEsC
theorem hrows_len (l : List (List UInt8)) : (hrows l).length = l.length := by simp [hrows]
theorem hrows_get {l : List (List UInt8)} {i : Nat} (h : i < l.length) : (hrows l)[i]? = some (byteEsC l[i]) := by
  simp [hrows, List.getElem?_map, List.getElem?_eq_getElem h]
theorem hrows_take (l : List (List UInt8)) (n : Nat) : (hrows l).take n = hrows (l.take n) := by simp [hrows, List.map_take]
theorem hrows_drop (l : List (List UInt8)) (n : Nat) : (hrows l).drop n = hrows (l.drop n) := by simp [hrows, List.map_drop]
theorem hrows_nil {l : List (List UInt8)} : hrows l = [] ↔ l = [] := by simp [hrows]
theorem rlss_h {k : Nat} : ∀ (l : List (List UInt8)), RLss k (hrows l)
  | [] => by simp [hrows, RLss]
  | h :: l => by have := rlss_h (k := k) l; simp only [hrows] at this; simp [hrows, RLss, this, rl_bytes]
set_option maxHeartbeats 4000000 in
theorem Root_1_to (hs : List (List UInt8)) (hH : H32 hs) (hl : hs.length < 1000000000) (ex : Bool) (r1 r3 : Nat) :
    ∀ (d : Nat) (σ : Store) (a : Nat), 0 < d → a + d ≤ hs.length → σ[r1]? = some (some [[.vsl 32 (hrows hs) ex]]) → σ[r3]? = some (some [[.fn 68 [.ptr r1 0 0, .ptr r3 0 0]]]) →
      ACallsTo TC 68 [.int .i64 a, .int .i64 ((a + d : Nat) : Int), .ptr r1 0 0, .ptr r3 0 0] σ (.agg (byteEsC (rootS ((hs.drop a).take d)))) σ := by
  intro d
  induction d using Nat.strongRecOn with
  | _ d ih =>
    intro σ a h0 had hg1 hg3
    have hr1 := (List.getElem?_eq_some_iff.1 hg1).1
    have hr3 := (List.getElem?_eq_some_iff.1 hg3).1
    obtain ⟨L, hL⟩ : ∃ L, L = (hs.drop a).take d := ⟨_, rfl⟩
    have hLl : L.length = d := by rw [hL, List.length_take, List.length_drop]; omega
    have hLH : H32 L := by rw [hL]; exact (hH.drop a).take d
    have hn := rootS_len hLH
    have hc := byteEsC_len (rootS L)
    rw [hn] at hc
    rw [← hL]
    have hsub : ((a + d : Nat) : Int) - a = d := by omega
    by_cases h1 : d = 1
    · have e0 : splitS d = 0 := by unfold splitS; rw [if_pos (by omega)]
      have hsp := fun σ => trees_Split_to σ d (by omega)
      rw [e0] at hsp
      obtain ⟨x, hx⟩ : ∃ x, hs[a]? = some x := ⟨_, List.getElem?_eq_getElem (by omega)⟩
      have hgr : (hrows hs)[a]? = some (byteEsC x) := by simp [hrows, hx]
      have eL : rootS L = x := by
        have : L = [x] := by
          rw [hL, h1]
          apply List.ext_getElem?
          intro i
          cases i with
          | zero => simp [List.getElem?_take, List.getElem?_drop, hx]
          | succ i => simp [List.getElem?_take]
        rw [this]; rfl
      rw [eL] at hc ⊢
      have hrl := hrows_len hs
      clear eL
      generalize hrows hs = rows at *
      refine ACallsTo.of_body trees_Root_1_ok (by simp) fun hw _ => ?_
      repeat' (first | (apply callW.any; (first | exact (hsp _)); all_goals try (simp (disch := first | omega | (simp only [List.length_set, List.length_append, List.length_cons, List.length_nil, List.length_map]; omega)) only [go_sem, Nat.reduceEqDiff, Nat.reduceBEq, Nat.reduceAdd, Nat.reduceMul, Nat.reduceSub, Nat.reduceLeDiff, Int.reduceToNat, Int.reducePow, hsub, hg1, hgr, hc])) | refine SWp.seq ?_ | refine SWp.block ?_ | refine SWp.scope ?_ | (refine SWp.reg ?_; (simp (disch := first | omega | (simp only [List.length_set, List.length_append, List.length_cons, List.length_nil, List.length_map]; omega)) only [go_sem, Nat.reduceEqDiff, Nat.reduceBEq, Nat.reduceAdd, Nat.reduceMul, Nat.reduceSub, Nat.reduceLeDiff, Int.reduceToNat, Int.reducePow, hsub, hg1, hgr, hc])) | refine SWp.condT rfl ?_ | refine SWp.condF rfl ?_ | (refine SWp.condD rfl (fun ht => ?_) (fun ht => ?_) <;> try (exfalso; omega)) | ((first | refine SWp.skip ?_ | refine SWp.exit ?_ | refine SWp.ret ?_); try (simp (disch := first | omega | (simp only [List.length_set, List.length_append, List.length_cons, List.length_nil, List.length_map]; omega)) only [go_sem, Nat.reduceEqDiff, Nat.reduceBEq, Nat.reduceAdd, Nat.reduceMul, Nat.reduceSub, Nat.reduceLeDiff, Int.reduceToNat, Int.reducePow, hsub, hg1, hgr, hc])) | ((first | refine splitG (fun ht => ?_) (fun ht => ?_) | refine splitGB (fun ht => ?_) (fun ht => ?_) | refine splitR (fun ht => ?_) (fun ht => ?_) | refine splitRB (fun ht => ?_) (fun ht => ?_) | refine splitE (fun ht => ?_) (fun ht => ?_) | refine splitEB (fun ht => ?_) (fun ht => ?_) | refine splitC (fun ht => ?_) (fun ht => ?_) | refine splitCB (fun ht => ?_) (fun ht => ?_)) <;> (simp (disch := first | omega | (simp only [List.length_set, List.length_append, List.length_cons, List.length_nil, List.length_map]; omega)) only [go_sem, Nat.reduceEqDiff, Nat.reduceBEq, Nat.reduceAdd, Nat.reduceMul, Nat.reduceSub, Nat.reduceLeDiff, Int.reduceToNat, Int.reducePow, hsub, hg1, hgr, hc])))
      exact DownV.pure hw (rl_agg (rl_bytes _))
    · obtain ⟨s1, s2, s3⟩ := split_spec (n := d) (by omega)
      have hsp := fun σ => trees_Split_to σ d (by omega)
      have eL := rootS_two (l := L) (by omega)
      rw [hLl] at eL
      have t1 : L.take (splitS d) = (hs.drop a).take (splitS d) := by rw [hL, List.take_take, Nat.min_eq_left (by omega)]
      have t2 : L.drop (splitS d) = (hs.drop (a + splitS d)).take (d - splitS d) := by rw [hL, List.drop_take, List.drop_drop]
      generalize hk : splitS d = k at *
      have i1 := fun y => ih k (by omega) (σ ++ y) a (by omega) (by omega) (by rw [gapp hr1]; exact hg1) (by rw [gapp hr3]; exact hg3)
      have i2 := fun y => ih (d - k) (by omega) (σ ++ y) (a + k) (by omega) (by omega) (by rw [gapp hr1]; exact hg1) (by rw [gapp hr3]; exact hg3)
      rw [← t1] at i1
      rw [← t2] at i2
      rw [show a + k + (d - k) = a + d by omega] at i2
      have n1 := rootS_len (hLH.take k)
      have n2 := rootS_len (hLH.drop k)
      have e1 : ((a : Int) + k) = ((a + k : Nat) : Int) := by omega
      rw [eL] at hc ⊢
      generalize rootS (L.take k) = A at *
      generalize rootS (L.drop k) = B at *
      have k0 : ¬ (k : Int) = 0 := by omega
      refine ACallsTo.of_body trees_Root_1_ok (by simp) fun hw _ => ?_
      repeat' (first | (apply callW.any; (first | exact (hsp _) | exact (i1 _) | exact (i2 _) | exact (trees_Node_to _ _ _ n1 n2)); all_goals try (simp (disch := first | omega | (simp only [List.length_set, List.length_append, List.length_cons, List.length_nil, List.length_map]; omega)) only [go_sem, Nat.reduceEqDiff, Nat.reduceBEq, Nat.reduceAdd, Nat.reduceMul, Nat.reduceSub, Nat.reduceLeDiff, Int.reduceToNat, Int.reducePow, hsub, hg1, hg3, hc, e1])) | refine SWp.seq ?_ | refine SWp.block ?_ | refine SWp.scope ?_ | (refine SWp.regS ?_; (simp (disch := first | omega | (simp only [List.length_set, List.length_append, List.length_cons, List.length_nil, List.length_map]; omega)) only [go_sem, Nat.reduceEqDiff, Nat.reduceBEq, Nat.reduceAdd, Nat.reduceMul, Nat.reduceSub, Nat.reduceLeDiff, Int.reduceToNat, Int.reducePow, hsub, hg1, hg3, hc, e1])) | refine SWp.condT rfl ?_ | refine SWp.condF rfl ?_ | (refine SWp.condD rfl (fun ht => ?_) (fun ht => ?_) <;> try (exfalso; omega)) | ((first | refine SWp.skip ?_ | refine SWp.exit ?_ | refine SWp.ret ?_); try (simp (disch := first | omega | (simp only [List.length_set, List.length_append, List.length_cons, List.length_nil, List.length_map]; omega)) only [go_sem, Nat.reduceEqDiff, Nat.reduceBEq, Nat.reduceAdd, Nat.reduceMul, Nat.reduceSub, Nat.reduceLeDiff, Int.reduceToNat, Int.reducePow, hsub, hg1, hg3, hc, e1])) | ((first | refine splitG (fun ht => ?_) (fun ht => ?_) | refine splitGB (fun ht => ?_) (fun ht => ?_) | refine splitR (fun ht => ?_) (fun ht => ?_) | refine splitRB (fun ht => ?_) (fun ht => ?_) | refine splitE (fun ht => ?_) (fun ht => ?_) | refine splitEB (fun ht => ?_) (fun ht => ?_) | refine splitC (fun ht => ?_) (fun ht => ?_) | refine splitCB (fun ht => ?_) (fun ht => ?_)) <;> (simp (disch := first | omega | (simp only [List.length_set, List.length_append, List.length_cons, List.length_nil, List.length_map]; omega)) only [go_sem, Nat.reduceEqDiff, Nat.reduceBEq, Nat.reduceAdd, Nat.reduceMul, Nat.reduceSub, Nat.reduceLeDiff, Int.reduceToNat, Int.reducePow, hsub, hg1, hg3, hc, e1])))
      exact DownV.pure hw (rl_agg (rl_bytes _))
theorem trees_Root_to (σ : Store) (hs : List (List UInt8)) (x : AV) (hx : SlV 32 (hrows hs) x) (hH : H32 hs) (hl : hs.length < 1000000000) : ACallsTo TC 22 [x] σ (.agg (byteEsC (rootS hs))) σ := by
  have hc := byteEsC_len (rootS hs)
  rw [rootS_len hH] at hc
  have hrl := hrows_len hs
  by_cases h0 : hs = []
  · subst h0
    have hx' := hx.len
    unfold rLenSl at hx'
    refine ACallsTo.of_body trees_Root_ok (by simp) fun hw _ => ?_
    rw [rootS_nil] at hc ⊢
    rcases hx with ⟨rfl, h⟩ | ⟨ex, rfl⟩
    · repeat' (first | (apply callW.any; (first | exact (sha_Sum_to _ [] (by simp))); all_goals try (simp (disch := first | omega | (simp only [List.length_set, List.length_append, List.length_cons, List.length_nil, List.length_map]; omega)) only [go_sem, Nat.reduceEqDiff, Nat.reduceBEq, Nat.reduceAdd, Nat.reduceMul, Nat.reduceSub, Nat.reduceLeDiff, Int.reduceToNat, Int.reducePow, hc])) | refine SWp.seq ?_ | refine SWp.block ?_ | refine SWp.scope ?_ | (refine SWp.reg ?_; (simp (disch := first | omega | (simp only [List.length_set, List.length_append, List.length_cons, List.length_nil, List.length_map]; omega)) only [go_sem, Nat.reduceEqDiff, Nat.reduceBEq, Nat.reduceAdd, Nat.reduceMul, Nat.reduceSub, Nat.reduceLeDiff, Int.reduceToNat, Int.reducePow, hc])) | refine SWp.condT rfl ?_ | refine SWp.condF rfl ?_ | (refine SWp.condD rfl (fun ht => ?_) (fun ht => ?_) <;> try (exfalso; omega)) | ((first | refine SWp.skip ?_ | refine SWp.exit ?_ | refine SWp.ret ?_); try (simp (disch := first | omega | (simp only [List.length_set, List.length_append, List.length_cons, List.length_nil, List.length_map]; omega)) only [go_sem, Nat.reduceEqDiff, Nat.reduceBEq, Nat.reduceAdd, Nat.reduceMul, Nat.reduceSub, Nat.reduceLeDiff, Int.reduceToNat, Int.reducePow, hc])) | ((first | refine splitG (fun ht => ?_) (fun ht => ?_) | refine splitGB (fun ht => ?_) (fun ht => ?_) | refine splitR (fun ht => ?_) (fun ht => ?_) | refine splitRB (fun ht => ?_) (fun ht => ?_) | refine splitE (fun ht => ?_) (fun ht => ?_) | refine splitEB (fun ht => ?_) (fun ht => ?_) | refine splitC (fun ht => ?_) (fun ht => ?_) | refine splitCB (fun ht => ?_) (fun ht => ?_)) <;> (simp (disch := first | omega | (simp only [List.length_set, List.length_append, List.length_cons, List.length_nil, List.length_map]; omega)) only [go_sem, Nat.reduceEqDiff, Nat.reduceBEq, Nat.reduceAdd, Nat.reduceMul, Nat.reduceSub, Nat.reduceLeDiff, Int.reduceToNat, Int.reducePow, hc])))
      exact DownV.pure hw (rl_agg (rl_bytes _))
    · repeat' (first | (apply callW.any; (first | exact (sha_Sum_to _ [] (by simp))); all_goals try (simp (disch := first | omega | (simp only [List.length_set, List.length_append, List.length_cons, List.length_nil, List.length_map]; omega)) only [go_sem, Nat.reduceEqDiff, Nat.reduceBEq, Nat.reduceAdd, Nat.reduceMul, Nat.reduceSub, Nat.reduceLeDiff, Int.reduceToNat, Int.reducePow, hc, hrl])) | refine SWp.seq ?_ | refine SWp.block ?_ | refine SWp.scope ?_ | (refine SWp.reg ?_; (simp (disch := first | omega | (simp only [List.length_set, List.length_append, List.length_cons, List.length_nil, List.length_map]; omega)) only [go_sem, Nat.reduceEqDiff, Nat.reduceBEq, Nat.reduceAdd, Nat.reduceMul, Nat.reduceSub, Nat.reduceLeDiff, Int.reduceToNat, Int.reducePow, hc, hrl])) | refine SWp.condT rfl ?_ | refine SWp.condF rfl ?_ | (refine SWp.condD rfl (fun ht => ?_) (fun ht => ?_) <;> try (exfalso; omega)) | ((first | refine SWp.skip ?_ | refine SWp.exit ?_ | refine SWp.ret ?_); try (simp (disch := first | omega | (simp only [List.length_set, List.length_append, List.length_cons, List.length_nil, List.length_map]; omega)) only [go_sem, Nat.reduceEqDiff, Nat.reduceBEq, Nat.reduceAdd, Nat.reduceMul, Nat.reduceSub, Nat.reduceLeDiff, Int.reduceToNat, Int.reducePow, hc, hrl])) | ((first | refine splitG (fun ht => ?_) (fun ht => ?_) | refine splitGB (fun ht => ?_) (fun ht => ?_) | refine splitR (fun ht => ?_) (fun ht => ?_) | refine splitRB (fun ht => ?_) (fun ht => ?_) | refine splitE (fun ht => ?_) (fun ht => ?_) | refine splitEB (fun ht => ?_) (fun ht => ?_) | refine splitC (fun ht => ?_) (fun ht => ?_) | refine splitCB (fun ht => ?_) (fun ht => ?_)) <;> (simp (disch := first | omega | (simp only [List.length_set, List.length_append, List.length_cons, List.length_nil, List.length_map]; omega)) only [go_sem, Nat.reduceEqDiff, Nat.reduceBEq, Nat.reduceAdd, Nat.reduceMul, Nat.reduceSub, Nat.reduceLeDiff, Int.reduceToNat, Int.reducePow, hc, hrl])))
      exact DownV.pure hw (rl_agg (rl_bytes _))
  · have hpos : 0 < hs.length := List.length_pos_iff.2 h0
    obtain ⟨ex, rfl⟩ := hx.vsl (by rw [hrl]; exact hpos)
    have h1 := Root_1_to hs hH hl ex σ.length (σ.length + 2) hs.length
    refine ACallsTo.of_body trees_Root_ok (by simp) fun hw _ => ?_
    have h1 := fun σ' => h1 σ' 0 hpos (by omega)
    simp only [Nat.zero_add, List.drop_zero, List.take_length] at h1
    generalize rootS hs = R at *
    generalize hrows hs = rows at *
    repeat' (first | (apply callW.any; (first | exact (h1 _ (by simp) (by simp))); all_goals try (simp (disch := first | omega | (simp only [List.length_set, List.length_append, List.length_cons, List.length_nil, List.length_map]; omega)) only [go_sem, Nat.reduceEqDiff, Nat.reduceBEq, Nat.reduceAdd, Nat.reduceMul, Nat.reduceSub, Nat.reduceLeDiff, Int.reduceToNat, Int.reducePow, hc, hrl])) | refine SWp.seq ?_ | refine SWp.block ?_ | refine SWp.scope ?_ | (refine SWp.reg ?_; (simp (disch := first | omega | (simp only [List.length_set, List.length_append, List.length_cons, List.length_nil, List.length_map]; omega)) only [go_sem, Nat.reduceEqDiff, Nat.reduceBEq, Nat.reduceAdd, Nat.reduceMul, Nat.reduceSub, Nat.reduceLeDiff, Int.reduceToNat, Int.reducePow, hc, hrl])) | refine SWp.condT rfl ?_ | refine SWp.condF rfl ?_ | (refine SWp.condD rfl (fun ht => ?_) (fun ht => ?_) <;> try (exfalso; omega)) | ((first | refine SWp.skip ?_ | refine SWp.exit ?_ | refine SWp.ret ?_); try (simp (disch := first | omega | (simp only [List.length_set, List.length_append, List.length_cons, List.length_nil, List.length_map]; omega)) only [go_sem, Nat.reduceEqDiff, Nat.reduceBEq, Nat.reduceAdd, Nat.reduceMul, Nat.reduceSub, Nat.reduceLeDiff, Int.reduceToNat, Int.reducePow, hc, hrl])) | ((first | refine splitG (fun ht => ?_) (fun ht => ?_) | refine splitGB (fun ht => ?_) (fun ht => ?_) | refine splitR (fun ht => ?_) (fun ht => ?_) | refine splitRB (fun ht => ?_) (fun ht => ?_) | refine splitE (fun ht => ?_) (fun ht => ?_) | refine splitEB (fun ht => ?_) (fun ht => ?_) | refine splitC (fun ht => ?_) (fun ht => ?_) | refine splitCB (fun ht => ?_) (fun ht => ?_)) <;> (simp (disch := first | omega | (simp only [List.length_set, List.length_append, List.length_cons, List.length_nil, List.length_map]; omega)) only [go_sem, Nat.reduceEqDiff, Nat.reduceBEq, Nat.reduceAdd, Nat.reduceMul, Nat.reduceSub, Nat.reduceLeDiff, Int.reduceToNat, Int.reducePow, hc, hrl])))
    exact DownV.pure hw (rl_agg (rl_bytes _))
set_option maxHeartbeats 4000000 in
theorem ref_Root_v (f : Nat) : ∀ (σ : Store) (hs : List (List UInt8)) (ex : Bool), hs.length < f → H32 hs → hs.length < 1000000000 → ACallsTo TC 71 [.vsl 32 (hrows hs) ex] σ (.agg (byteEsC (rootS hs))) σ := by
  induction f with
  | zero => intro σ hs ex h; omega
  | succ f ih =>
    intro σ hs ex hf hH hl
    have hc := byteEsC_len (rootS hs)
    rw [rootS_len hH] at hc
    have hrl := hrows_len hs
    by_cases h0 : hs.length = 0
    · obtain rfl : hs = [] := List.eq_nil_of_length_eq_zero h0
      rw [rootS_nil] at hc ⊢
      refine ACallsTo.of_body speculumref04_Root_ok (by simp) fun hw _ => ?_
      repeat' (first | (apply callW.any; (first | exact (ref_Sum_to _ [] (by simp))); all_goals try (simp (disch := first | omega | (simp only [List.length_set, List.length_append, List.length_cons, List.length_nil, List.length_map]; omega)) only [go_sem, Nat.reduceEqDiff, Nat.reduceBEq, Nat.reduceAdd, Nat.reduceMul, Nat.reduceSub, Nat.reduceLeDiff, Int.reduceToNat, Int.reducePow, hc, hrl])) | refine SWp.seq ?_ | refine SWp.block ?_ | refine SWp.scope ?_ | (refine SWp.reg ?_; (simp (disch := first | omega | (simp only [List.length_set, List.length_append, List.length_cons, List.length_nil, List.length_map]; omega)) only [go_sem, Nat.reduceEqDiff, Nat.reduceBEq, Nat.reduceAdd, Nat.reduceMul, Nat.reduceSub, Nat.reduceLeDiff, Int.reduceToNat, Int.reducePow, hc, hrl])) | refine SWp.condT rfl ?_ | refine SWp.condF rfl ?_ | (refine SWp.condD rfl (fun ht => ?_) (fun ht => ?_) <;> try (exfalso; omega)) | ((first | refine SWp.skip ?_ | refine SWp.exit ?_ | refine SWp.ret ?_); try (simp (disch := first | omega | (simp only [List.length_set, List.length_append, List.length_cons, List.length_nil, List.length_map]; omega)) only [go_sem, Nat.reduceEqDiff, Nat.reduceBEq, Nat.reduceAdd, Nat.reduceMul, Nat.reduceSub, Nat.reduceLeDiff, Int.reduceToNat, Int.reducePow, hc, hrl])) | ((first | refine splitG (fun ht => ?_) (fun ht => ?_) | refine splitGB (fun ht => ?_) (fun ht => ?_) | refine splitR (fun ht => ?_) (fun ht => ?_) | refine splitRB (fun ht => ?_) (fun ht => ?_) | refine splitE (fun ht => ?_) (fun ht => ?_) | refine splitEB (fun ht => ?_) (fun ht => ?_) | refine splitC (fun ht => ?_) (fun ht => ?_) | refine splitCB (fun ht => ?_) (fun ht => ?_)) <;> (simp (disch := first | omega | (simp only [List.length_set, List.length_append, List.length_cons, List.length_nil, List.length_map]; omega)) only [go_sem, Nat.reduceEqDiff, Nat.reduceBEq, Nat.reduceAdd, Nat.reduceMul, Nat.reduceSub, Nat.reduceLeDiff, Int.reduceToNat, Int.reducePow, hc, hrl])))
      exact DownV.pure hw (rl_agg (rl_bytes _))
    · by_cases h1 : hs.length = 1
      · obtain ⟨x, rfl⟩ := List.length_eq_one_iff.1 h1
        rw [rootS_one] at hc ⊢
        refine ACallsTo.of_body speculumref04_Root_ok (by simp) fun hw _ => ?_
        simp only [hrows, List.map_cons, List.map_nil]
        repeat' (first | refine SWp.seq ?_ | refine SWp.block ?_ | refine SWp.scope ?_ | (refine SWp.reg ?_; (simp (disch := first | omega | (simp only [List.length_set, List.length_append, List.length_cons, List.length_nil, List.length_map]; omega)) only [go_sem, Nat.reduceEqDiff, Nat.reduceBEq, Nat.reduceAdd, Nat.reduceMul, Nat.reduceSub, Nat.reduceLeDiff, Int.reduceToNat, Int.reducePow, hc])) | refine SWp.condT rfl ?_ | refine SWp.condF rfl ?_ | (refine SWp.condD rfl (fun ht => ?_) (fun ht => ?_) <;> try (exfalso; omega)) | ((first | refine SWp.skip ?_ | refine SWp.exit ?_ | refine SWp.ret ?_); try (simp (disch := first | omega | (simp only [List.length_set, List.length_append, List.length_cons, List.length_nil, List.length_map]; omega)) only [go_sem, Nat.reduceEqDiff, Nat.reduceBEq, Nat.reduceAdd, Nat.reduceMul, Nat.reduceSub, Nat.reduceLeDiff, Int.reduceToNat, Int.reducePow, hc])) | ((first | refine splitG (fun ht => ?_) (fun ht => ?_) | refine splitGB (fun ht => ?_) (fun ht => ?_) | refine splitR (fun ht => ?_) (fun ht => ?_) | refine splitRB (fun ht => ?_) (fun ht => ?_) | refine splitE (fun ht => ?_) (fun ht => ?_) | refine splitEB (fun ht => ?_) (fun ht => ?_) | refine splitC (fun ht => ?_) (fun ht => ?_) | refine splitCB (fun ht => ?_) (fun ht => ?_)) <;> (simp (disch := first | omega | (simp only [List.length_set, List.length_append, List.length_cons, List.length_nil, List.length_map]; omega)) only [go_sem, Nat.reduceEqDiff, Nat.reduceBEq, Nat.reduceAdd, Nat.reduceMul, Nat.reduceSub, Nat.reduceLeDiff, Int.reduceToNat, Int.reducePow, hc])))
        exact DownV.pure hw (rl_agg (rl_bytes _))
      · obtain ⟨s1, s2, s3⟩ := split_spec (n := hs.length) (by omega)
        have hsp := fun σ => ref_Split_to σ hs.length (by omega)
        have eL := rootS_two (l := hs) (by omega)
        have n1 := rootS_len (hH.take (splitS hs.length))
        have n2 := rootS_len (hH.drop (splitS hs.length))
        have i1 := fun σ ex => ih σ (hs.take (splitS hs.length)) ex (by rw [List.length_take]; omega) (hH.take _) (by rw [List.length_take]; omega)
        have i2 := fun σ ex => ih σ (hs.drop (splitS hs.length)) ex (by rw [List.length_drop]; omega) (hH.drop _) (by rw [List.length_drop]; omega)
        rw [eL] at hc ⊢
        have tk := hrows_take hs (splitS hs.length)
        have dk := hrows_drop hs (splitS hs.length)
        generalize rootS (hs.take (splitS hs.length)) = A at *
        generalize rootS (hs.drop (splitS hs.length)) = B at *
        generalize hrows (hs.take (splitS hs.length)) = ra at *
        generalize hrows (hs.drop (splitS hs.length)) = rb at *
        generalize hrows hs = rows at *
        generalize splitS hs.length = k at *
        have k0 : ¬ (hs.length : Int) = 0 := by omega
        have k1 : ¬ (hs.length : Int) = 1 := by omega
        refine ACallsTo.of_body speculumref04_Root_ok (by simp) fun hw _ => ?_
        repeat' (first | (apply callW.any; (first | exact (hsp _) | exact (i1 _ _) | exact (i2 _ _) | exact (ref_Node_to _ _ _ n1 n2)); all_goals try (simp (disch := first | omega | (simp only [List.length_set, List.length_append, List.length_cons, List.length_nil, List.length_map]; omega)) only [go_sem, Nat.reduceEqDiff, Nat.reduceBEq, Nat.reduceAdd, Nat.reduceMul, Nat.reduceSub, Nat.reduceLeDiff, Int.reduceToNat, Int.reducePow, hc, hrl, tk, dk])) | refine SWp.seq ?_ | refine SWp.block ?_ | refine SWp.scope ?_ | (refine SWp.regS ?_; (simp (disch := first | omega | (simp only [List.length_set, List.length_append, List.length_cons, List.length_nil, List.length_map]; omega)) only [go_sem, Nat.reduceEqDiff, Nat.reduceBEq, Nat.reduceAdd, Nat.reduceMul, Nat.reduceSub, Nat.reduceLeDiff, Int.reduceToNat, Int.reducePow, hc, hrl, tk, dk])) | refine SWp.condT rfl ?_ | refine SWp.condF rfl ?_ | (refine SWp.condD rfl (fun ht => ?_) (fun ht => ?_) <;> try (exfalso; omega)) | ((first | refine SWp.skip ?_ | refine SWp.exit ?_ | refine SWp.ret ?_); try (simp (disch := first | omega | (simp only [List.length_set, List.length_append, List.length_cons, List.length_nil, List.length_map]; omega)) only [go_sem, Nat.reduceEqDiff, Nat.reduceBEq, Nat.reduceAdd, Nat.reduceMul, Nat.reduceSub, Nat.reduceLeDiff, Int.reduceToNat, Int.reducePow, hc, hrl, tk, dk])) | ((first | refine splitG (fun ht => ?_) (fun ht => ?_) | refine splitGB (fun ht => ?_) (fun ht => ?_) | refine splitR (fun ht => ?_) (fun ht => ?_) | refine splitRB (fun ht => ?_) (fun ht => ?_) | refine splitE (fun ht => ?_) (fun ht => ?_) | refine splitEB (fun ht => ?_) (fun ht => ?_) | refine splitC (fun ht => ?_) (fun ht => ?_) | refine splitCB (fun ht => ?_) (fun ht => ?_)) <;> (simp (disch := first | omega | (simp only [List.length_set, List.length_append, List.length_cons, List.length_nil, List.length_map]; omega)) only [go_sem, Nat.reduceEqDiff, Nat.reduceBEq, Nat.reduceAdd, Nat.reduceMul, Nat.reduceSub, Nat.reduceLeDiff, Int.reduceToNat, Int.reducePow, hc, hrl, tk, dk])))
        exact DownV.pure hw (rl_agg (rl_bytes _))
theorem ref_Root_to (σ : Store) (hs : List (List UInt8)) (x : AV) (hx : SlV 32 (hrows hs) x) (hH : H32 hs) (hl : hs.length < 1000000000) : ACallsTo TC 71 [x] σ (.agg (byteEsC (rootS hs))) σ := by
  rcases hx with ⟨rfl, h⟩ | ⟨ex, rfl⟩
  · obtain rfl := hrows_nil.1 h
    have hc := byteEsC_len (rootS [])
    rw [rootS_len hH] at hc
    rw [rootS_nil] at hc ⊢
    refine ACallsTo.of_body speculumref04_Root_ok (by simp) fun hw _ => ?_
    repeat' (first | (apply callW.any; (first | exact (ref_Sum_to _ [] (by simp))); all_goals try (simp (disch := first | omega | (simp only [List.length_set, List.length_append, List.length_cons, List.length_nil, List.length_map]; omega)) only [go_sem, Nat.reduceEqDiff, Nat.reduceBEq, Nat.reduceAdd, Nat.reduceMul, Nat.reduceSub, Nat.reduceLeDiff, Int.reduceToNat, Int.reducePow, hc])) | refine SWp.seq ?_ | refine SWp.block ?_ | refine SWp.scope ?_ | (refine SWp.reg ?_; (simp (disch := first | omega | (simp only [List.length_set, List.length_append, List.length_cons, List.length_nil, List.length_map]; omega)) only [go_sem, Nat.reduceEqDiff, Nat.reduceBEq, Nat.reduceAdd, Nat.reduceMul, Nat.reduceSub, Nat.reduceLeDiff, Int.reduceToNat, Int.reducePow, hc])) | refine SWp.condT rfl ?_ | refine SWp.condF rfl ?_ | (refine SWp.condD rfl (fun ht => ?_) (fun ht => ?_) <;> try (exfalso; omega)) | ((first | refine SWp.skip ?_ | refine SWp.exit ?_ | refine SWp.ret ?_); try (simp (disch := first | omega | (simp only [List.length_set, List.length_append, List.length_cons, List.length_nil, List.length_map]; omega)) only [go_sem, Nat.reduceEqDiff, Nat.reduceBEq, Nat.reduceAdd, Nat.reduceMul, Nat.reduceSub, Nat.reduceLeDiff, Int.reduceToNat, Int.reducePow, hc])) | ((first | refine splitG (fun ht => ?_) (fun ht => ?_) | refine splitGB (fun ht => ?_) (fun ht => ?_) | refine splitR (fun ht => ?_) (fun ht => ?_) | refine splitRB (fun ht => ?_) (fun ht => ?_) | refine splitE (fun ht => ?_) (fun ht => ?_) | refine splitEB (fun ht => ?_) (fun ht => ?_) | refine splitC (fun ht => ?_) (fun ht => ?_) | refine splitCB (fun ht => ?_) (fun ht => ?_)) <;> (simp (disch := first | omega | (simp only [List.length_set, List.length_append, List.length_cons, List.length_nil, List.length_map]; omega)) only [go_sem, Nat.reduceEqDiff, Nat.reduceBEq, Nat.reduceAdd, Nat.reduceMul, Nat.reduceSub, Nat.reduceLeDiff, Int.reduceToNat, Int.reducePow, hc])))
    exact DownV.pure hw (rl_agg (rl_bytes _))
  · exact ref_Root_v (hs.length + 1) σ hs ex (by omega) hH hl
end Am
end Go.Proofs.YtfofemaglndnjaaDoor
end
section
set_option linter.unusedSimpArgs false
set_option linter.unusedVariables false
/- Slices that are read: values, or own rows lent; Same; Some. -/
set_option linter.unusedSimpArgs false
set_option linter.unusedVariables false
namespace Go.Proofs.YtfofemaglndnjaaDoor
namespace Am
/-- A slice that is read: a value, or an own row. -/
def RdSl (σ : Store) (sz : Nat) (es : List (List AV)) (x : AV) : Prop :=
  SlV sz es x ∨ ∃ r off lim o, x = .sl r off es.length lim sz ∧ σ[r]? = some (some o) ∧ off + es.length ≤ o.length ∧ (o.drop off).take es.length = es
theorem RdSl.of {σ : Store} {sz : Nat} {es : List (List AV)} {x : AV} (h : SlV sz es x) : RdSl σ sz es x := .inl h
theorem OwnN.rd {sz : Nat} {τ σ' : Store} {v : AV} {es : List (List AV)} (h : OwnN sz τ σ' v es) : RdSl σ' sz es v := by
  by_cases h0 : es = []
  · obtain ⟨news, rfl, ⟨rfl, rfl⟩ | ⟨j, h1, _⟩⟩ := h
    · exact .inl (.inl ⟨rfl, rfl⟩)
    · exact absurd h0 h1
  · obtain ⟨r, rfl, hg, _⟩ := h.sl h0
    exact .inr ⟨r, 0, none, es, rfl, hg, by omega, by rw [List.drop_zero, List.take_of_length_le (Nat.le_refl _)]⟩
theorem RdSl.app {σ y : Store} {sz : Nat} {es : List (List AV)} {x : AV} (h : RdSl σ sz es x) : RdSl (σ ++ y) sz es x := by
  rcases h with h | ⟨r, off, lim, o, rfl, hg, h1, h2⟩
  · exact .inl h
  · exact .inr ⟨r, off, lim, o, rfl, by rw [gapp (List.getElem?_eq_some_iff.1 hg).1]; exact hg, h1, h2⟩
theorem RdSl.len {σ : Store} {sz : Nat} {es : List (List AV)} {x : AV} (h : RdSl σ sz es x) : rLenSl x = some (.int .i64 es.length) := by
  rcases h with h | ⟨r, off, lim, o, rfl, _⟩
  · exact h.len
  · rfl
theorem RdSl.lend {σ : Store} {sz : Nat} {es : List (List AV)} {x : AV} (h : RdSl σ sz es x) (hr : RLss 0 es) : ∃ x0, SlV sz es x0 ∧ DR (lendD σ) x0 x := by
  rcases h with h | ⟨r, off, lim, o, rfl, hg, h1, h2⟩
  · refine ⟨x, h, DR.refl (k := 0) (by omega) x ?_⟩
    rcases h with ⟨rfl, _⟩ | ⟨ex, rfl⟩
    · simp [RL]
    · simpa only [RL] using hr
  · refine ⟨.vsl sz es false, .inr ⟨false, rfl⟩, ?_⟩
    simp only [DR, lendD]
    exact .inr ⟨r, off, lim, o, rfl, trivial, hg, h1, by simp, by rw [h2]; exact DRss.refl (k := 0) (by omega) es hr⟩
theorem rl0 {a : AV} (h : RL 0 a) (σ : Store) : DR (lendD σ) a a := DR.refl (k := 0) (by omega) a h
theorem drs1 {D : DC} {a b : AV} (h : DR D a b) : DRs D [a] [b] := by simp only [DRs]; exact ⟨b, [], rfl, h, rfl⟩
theorem drsc {D : DC} {a b : AV} {l m : List AV} (h : DR D a b) (h2 : DRs D l m) : DRs D (a :: l) (b :: m) := by simp only [DRs]; exact ⟨b, m, rfl, h, h2⟩
theorem drs0 {D : DC} : DRs D [] [] := by simp only [DRs]
theorem shs_bytes (k : Nat) : ∀ (l : List UInt8), shs k (byteEsC l) = byteEsC l
  | [] => rfl
  | b :: l => by have := shs_bytes k l; simp only [byteEsC] at this; simp [byteEsC, shs, sh, this]
theorem sh_hash (k : Nat) (l : List UInt8) : sh k (.agg (byteEsC l)) = .agg (byteEsC l) := by simp only [sh, shs_bytes]
theorem shS_nil (k : Nat) : shS k [] = [] := rfl
theorem trees_Root_rd (σ : Store) (hs : List (List UInt8)) (x : AV) (hx : RdSl σ 32 (hrows hs) x) (hH : H32 hs) (hl : hs.length < 1000000000) : ACallsTo TC 22 [x] σ (.agg (byteEsC (rootS hs))) σ := by
  obtain ⟨x0, h0, hd⟩ := hx.lend (rlss_h hs)
  have := ACallsTo.lend glok (trees_Root_to [] hs x0 h0 hH hl) (drs1 hd)
  rwa [sh_hash, shS_nil, List.append_nil] at this
theorem ref_Root_rd (σ : Store) (hs : List (List UInt8)) (x : AV) (hx : RdSl σ 32 (hrows hs) x) (hH : H32 hs) (hl : hs.length < 1000000000) : ACallsTo TC 71 [x] σ (.agg (byteEsC (rootS hs))) σ := by
  obtain ⟨x0, h0, hd⟩ := hx.lend (rlss_h hs)
  have := ACallsTo.lend glok (ref_Root_to [] hs x0 h0 hH hl) (drs1 hd)
  rwa [sh_hash, shS_nil, List.append_nil] at this
theorem eq_hash : ∀ (a b : List UInt8), eqCells (byteEsC a) (byteEsC b) = decide (a = b)
  | [], [] => rfl
  | [], _ :: _ => rfl
  | _ :: _, [] => rfl
  | a :: l, b :: m => by
    have ih := eq_hash l m
    simp only [byteEsC, List.map_cons, eqCells, eqCell] at ih ⊢
    rw [ih, Bool.eq_iff_iff]
    simp [← UInt8.toNat_inj]
    intro _
    omega
theorem kind_hash : ∀ (l : List UInt8), (byteEsC l).map kindOf = List.replicate l.length (some (LK.i .u8))
  | [] => rfl
  | _ :: l => by have := kind_hash l; simp only [byteEsC] at this; simp [byteEsC, kindOf, this, List.replicate_succ]
theorem kinds32 {l : List UInt8} (h : l.length = 32) : (byteEsC l).map kindOf = (List.replicate 32 (LK.i .u8)).map some := by rw [kind_hash, h]; rfl
set_option maxHeartbeats 4000000 in
theorem Same_to (σ : Store) (A B : List (List UInt8)) (x y : AV) (hx : SlV 32 (hrows A) x) (hy : SlV 32 (hrows B) y) (hA : H32 A) (hB : H32 B) (hl : A.length < 1000000000) (hl2 : B.length < 1000000000) :
    ACallsTo TC 18 [x, y] σ (.bool (decide (A = B))) σ := by
  refine ACallsTo.of_body speculumlaw03_Same_ok (by simp) fun hw _ => ?_
  have r1 := hx.len
  have r2 := hy.len
  rw [hrows_len] at r1 r2
  unfold rLenSl at r1 r2
  by_cases hL : A.length = B.length
  · repeat' (first | refine SWp.seq ?_ | refine SWp.block ?_ | refine SWp.scope ?_ | (refine SWp.reg ?_; (simp (disch := first | omega | (simp only [List.length_set, List.length_append, List.length_cons, List.length_nil, List.length_map]; omega)) only [go_sem, Nat.reduceEqDiff, Nat.reduceBEq, Nat.reduceAdd, Nat.reduceMul, Nat.reduceSub, Nat.reduceLeDiff, Int.reduceToNat, Int.reducePow, r1, r2])) | refine SWp.condT rfl ?_ | refine SWp.condF rfl ?_ | (refine SWp.condD rfl (fun ht => ?_) (fun ht => ?_) <;> try (exfalso; omega)) | ((first | refine SWp.skip ?_ | refine SWp.exit ?_ | refine SWp.ret ?_); try (simp (disch := first | omega | (simp only [List.length_set, List.length_append, List.length_cons, List.length_nil, List.length_map]; omega)) only [go_sem, Nat.reduceEqDiff, Nat.reduceBEq, Nat.reduceAdd, Nat.reduceMul, Nat.reduceSub, Nat.reduceLeDiff, Int.reduceToNat, Int.reducePow, r1, r2])) | ((first | refine splitG (fun ht => ?_) (fun ht => ?_) | refine splitGB (fun ht => ?_) (fun ht => ?_) | refine splitR (fun ht => ?_) (fun ht => ?_) | refine splitRB (fun ht => ?_) (fun ht => ?_) | refine splitE (fun ht => ?_) (fun ht => ?_) | refine splitEB (fun ht => ?_) (fun ht => ?_) | refine splitC (fun ht => ?_) (fun ht => ?_) | refine splitCB (fun ht => ?_) (fun ht => ?_)) <;> (simp (disch := first | omega | (simp only [List.length_set, List.length_append, List.length_cons, List.length_nil, List.length_map]; omega)) only [go_sem, Nat.reduceEqDiff, Nat.reduceBEq, Nat.reduceAdd, Nat.reduceMul, Nat.reduceSub, Nat.reduceLeDiff, Int.reduceToNat, Int.reducePow, r1, r2])))
    refine SWp.loop (fun m ρ σ' => ∃ i : Nat, σ' = σ ∧ m + i = A.length ∧ A.take i = B.take i ∧ ρ 0 = x ∧ ρ 1 = y ∧ ρ 5 = .int .i64 i) A.length ?_ ?_
    · exact ⟨0, rfl, by omega, rfl, by simp (disch := first | omega | (simp only [List.length_set, List.length_append, List.length_cons, List.length_nil, List.length_map]; omega)) only [go_sem, Nat.reduceEqDiff, Nat.reduceBEq, Nat.reduceAdd, Nat.reduceMul, Nat.reduceSub, Nat.reduceLeDiff, Int.reduceToNat, Int.reducePow], by simp (disch := first | omega | (simp only [List.length_set, List.length_append, List.length_cons, List.length_nil, List.length_map]; omega)) only [go_sem, Nat.reduceEqDiff, Nat.reduceBEq, Nat.reduceAdd, Nat.reduceMul, Nat.reduceSub, Nat.reduceLeDiff, Int.reduceToNat, Int.reducePow], by simp (disch := first | omega | (simp only [List.length_set, List.length_append, List.length_cons, List.length_nil, List.length_map]; omega)) only [go_sem, Nat.reduceEqDiff, Nat.reduceBEq, Nat.reduceAdd, Nat.reduceMul, Nat.reduceSub, Nat.reduceLeDiff, Int.reduceToNat, Int.reducePow]; rfl⟩
    · rintro m ρ σ' ⟨i, rfl, hm, hp, q0, q1, q5⟩
      by_cases hi : i < A.length
      · have hi2 : i < B.length := by omega
        obtain ⟨e1, rfl⟩ := hx.vsl (by rw [hrows_len]; omega)
        obtain ⟨e2, rfl⟩ := hy.vsl (by rw [hrows_len]; omega)
        have g1 := hrows_get hi
        have g2 := hrows_get hi2
        have c1 := byteEsC_len A[i]
        have c2 := byteEsC_len B[i]
        rw [hA _ (List.getElem_mem _)] at c1
        rw [hB _ (List.getElem_mem _)] at c2
        have k1 := kinds32 (hA _ (List.getElem_mem hi))
        have k2 := kinds32 (hB _ (List.getElem_mem hi2))
        have heq := eq_hash A[i] B[i]
        have l1 := hrows_len A
        have l2 := hrows_len B
        have hn1 : A.take (i + 1) = A.take i ++ [A[i]] := (List.take_append_getElem hi).symm
        have hn2 : B.take (i + 1) = B.take i ++ [B[i]] := (List.take_append_getElem hi2).symm
        by_cases he : A[i] = B[i]
        · have hn : A.take (i + 1) = B.take (i + 1) := by rw [hn1, hn2, hp, he]
          rw [decide_eq_true he] at heq
          clear hn1 hn2 he
          generalize byteEsC A[i] = ra at *
          generalize byteEsC B[i] = rb at *
          generalize hrows A = rA at *
          generalize hrows B = rB at *
          repeat' (first | refine SWp.seq ?_ | refine SWp.block ?_ | refine SWp.scope ?_ | (refine SWp.regS ?_; (simp (disch := first | omega | (simp only [List.length_set, List.length_append, List.length_cons, List.length_nil, List.length_map]; omega)) only [go_sem, Nat.reduceEqDiff, Nat.reduceBEq, Nat.reduceAdd, Nat.reduceMul, Nat.reduceSub, Nat.reduceLeDiff, Int.reduceToNat, Int.reducePow, q0, q1, q5, g1, g2, c1, c2, k1, k2, heq, l1, l2])) | refine SWp.condT rfl ?_ | refine SWp.condF rfl ?_ | (refine SWp.condD rfl (fun ht => ?_) (fun ht => ?_) <;> try (exfalso; omega)) | ((first | refine SWp.skip ?_ | refine SWp.exit ?_ | refine SWp.ret ?_); try (simp (disch := first | omega | (simp only [List.length_set, List.length_append, List.length_cons, List.length_nil, List.length_map]; omega)) only [go_sem, Nat.reduceEqDiff, Nat.reduceBEq, Nat.reduceAdd, Nat.reduceMul, Nat.reduceSub, Nat.reduceLeDiff, Int.reduceToNat, Int.reducePow, q0, q1, q5, g1, g2, c1, c2, k1, k2, heq, l1, l2])) | ((first | refine splitG (fun ht => ?_) (fun ht => ?_) | refine splitGB (fun ht => ?_) (fun ht => ?_) | refine splitR (fun ht => ?_) (fun ht => ?_) | refine splitRB (fun ht => ?_) (fun ht => ?_) | refine splitE (fun ht => ?_) (fun ht => ?_) | refine splitEB (fun ht => ?_) (fun ht => ?_) | refine splitC (fun ht => ?_) (fun ht => ?_) | refine splitCB (fun ht => ?_) (fun ht => ?_)) <;> (simp (disch := first | omega | (simp only [List.length_set, List.length_append, List.length_cons, List.length_nil, List.length_map]; omega)) only [go_sem, Nat.reduceEqDiff, Nat.reduceBEq, Nat.reduceAdd, Nat.reduceMul, Nat.reduceSub, Nat.reduceLeDiff, Int.reduceToNat, Int.reducePow, q0, q1, q5, g1, g2, c1, c2, k1, k2, heq, l1, l2])))
          exact ⟨A.length - (i + 1), by omega, i + 1, by omega, hn, by simp⟩
        · have e : decide (A = B) = false := decide_eq_false fun e => he (by subst e; rfl)
          rw [decide_eq_false he] at heq
          rw [e]
          clear hn1 hn2 he
          generalize byteEsC A[i] = ra at *
          generalize byteEsC B[i] = rb at *
          generalize hrows A = rA at *
          generalize hrows B = rB at *
          repeat' (first | refine SWp.seq ?_ | refine SWp.block ?_ | refine SWp.scope ?_ | (refine SWp.regS ?_; (simp (disch := first | omega | (simp only [List.length_set, List.length_append, List.length_cons, List.length_nil, List.length_map]; omega)) only [go_sem, Nat.reduceEqDiff, Nat.reduceBEq, Nat.reduceAdd, Nat.reduceMul, Nat.reduceSub, Nat.reduceLeDiff, Int.reduceToNat, Int.reducePow, q0, q1, q5, g1, g2, c1, c2, k1, k2, heq, l1, l2])) | refine SWp.condT rfl ?_ | refine SWp.condF rfl ?_ | (refine SWp.condD rfl (fun ht => ?_) (fun ht => ?_) <;> try (exfalso; omega)) | ((first | refine SWp.skip ?_ | refine SWp.exit ?_ | refine SWp.ret ?_); try (simp (disch := first | omega | (simp only [List.length_set, List.length_append, List.length_cons, List.length_nil, List.length_map]; omega)) only [go_sem, Nat.reduceEqDiff, Nat.reduceBEq, Nat.reduceAdd, Nat.reduceMul, Nat.reduceSub, Nat.reduceLeDiff, Int.reduceToNat, Int.reducePow, q0, q1, q5, g1, g2, c1, c2, k1, k2, heq, l1, l2])) | ((first | refine splitG (fun ht => ?_) (fun ht => ?_) | refine splitGB (fun ht => ?_) (fun ht => ?_) | refine splitR (fun ht => ?_) (fun ht => ?_) | refine splitRB (fun ht => ?_) (fun ht => ?_) | refine splitE (fun ht => ?_) (fun ht => ?_) | refine splitEB (fun ht => ?_) (fun ht => ?_) | refine splitC (fun ht => ?_) (fun ht => ?_) | refine splitCB (fun ht => ?_) (fun ht => ?_)) <;> (simp (disch := first | omega | (simp only [List.length_set, List.length_append, List.length_cons, List.length_nil, List.length_map]; omega)) only [go_sem, Nat.reduceEqDiff, Nat.reduceBEq, Nat.reduceAdd, Nat.reduceMul, Nat.reduceSub, Nat.reduceLeDiff, Int.reduceToNat, Int.reducePow, q0, q1, q5, g1, g2, c1, c2, k1, k2, heq, l1, l2])))
          exact DownV.same hw (rlB_ok _ rfl)
      · have e : decide (A = B) = true := decide_eq_true (by
          rw [List.take_of_length_le (by omega), List.take_of_length_le (by omega)] at hp
          exact hp)
        rw [e]
        repeat' (first | refine SWp.seq ?_ | refine SWp.block ?_ | refine SWp.scope ?_ | (refine SWp.reg ?_; (simp (disch := first | omega | (simp only [List.length_set, List.length_append, List.length_cons, List.length_nil, List.length_map]; omega)) only [go_sem, Nat.reduceEqDiff, Nat.reduceBEq, Nat.reduceAdd, Nat.reduceMul, Nat.reduceSub, Nat.reduceLeDiff, Int.reduceToNat, Int.reducePow, q0, q1, q5, r1, r2])) | refine SWp.condT rfl ?_ | refine SWp.condF rfl ?_ | (refine SWp.condD rfl (fun ht => ?_) (fun ht => ?_) <;> try (exfalso; omega)) | ((first | refine SWp.skip ?_ | refine SWp.exit ?_ | refine SWp.ret ?_); try (simp (disch := first | omega | (simp only [List.length_set, List.length_append, List.length_cons, List.length_nil, List.length_map]; omega)) only [go_sem, Nat.reduceEqDiff, Nat.reduceBEq, Nat.reduceAdd, Nat.reduceMul, Nat.reduceSub, Nat.reduceLeDiff, Int.reduceToNat, Int.reducePow, q0, q1, q5, r1, r2])) | ((first | refine splitG (fun ht => ?_) (fun ht => ?_) | refine splitGB (fun ht => ?_) (fun ht => ?_) | refine splitR (fun ht => ?_) (fun ht => ?_) | refine splitRB (fun ht => ?_) (fun ht => ?_) | refine splitE (fun ht => ?_) (fun ht => ?_) | refine splitEB (fun ht => ?_) (fun ht => ?_) | refine splitC (fun ht => ?_) (fun ht => ?_) | refine splitCB (fun ht => ?_) (fun ht => ?_)) <;> (simp (disch := first | omega | (simp only [List.length_set, List.length_append, List.length_cons, List.length_nil, List.length_map]; omega)) only [go_sem, Nat.reduceEqDiff, Nat.reduceBEq, Nat.reduceAdd, Nat.reduceMul, Nat.reduceSub, Nat.reduceLeDiff, Int.reduceToNat, Int.reducePow, q0, q1, q5, r1, r2])))
        exact DownV.same hw (rlB_ok _ rfl)
  · have e : decide (A = B) = false := decide_eq_false fun e => hL (by rw [e])
    rw [e]
    repeat' (first | refine SWp.seq ?_ | refine SWp.block ?_ | refine SWp.scope ?_ | (refine SWp.reg ?_; (simp (disch := first | omega | (simp only [List.length_set, List.length_append, List.length_cons, List.length_nil, List.length_map]; omega)) only [go_sem, Nat.reduceEqDiff, Nat.reduceBEq, Nat.reduceAdd, Nat.reduceMul, Nat.reduceSub, Nat.reduceLeDiff, Int.reduceToNat, Int.reducePow, r1, r2])) | refine SWp.condT rfl ?_ | refine SWp.condF rfl ?_ | (refine SWp.condD rfl (fun ht => ?_) (fun ht => ?_) <;> try (exfalso; omega)) | ((first | refine SWp.skip ?_ | refine SWp.exit ?_ | refine SWp.ret ?_); try (simp (disch := first | omega | (simp only [List.length_set, List.length_append, List.length_cons, List.length_nil, List.length_map]; omega)) only [go_sem, Nat.reduceEqDiff, Nat.reduceBEq, Nat.reduceAdd, Nat.reduceMul, Nat.reduceSub, Nat.reduceLeDiff, Int.reduceToNat, Int.reducePow, r1, r2])) | ((first | refine splitG (fun ht => ?_) (fun ht => ?_) | refine splitGB (fun ht => ?_) (fun ht => ?_) | refine splitR (fun ht => ?_) (fun ht => ?_) | refine splitRB (fun ht => ?_) (fun ht => ?_) | refine splitE (fun ht => ?_) (fun ht => ?_) | refine splitEB (fun ht => ?_) (fun ht => ?_) | refine splitC (fun ht => ?_) (fun ht => ?_) | refine splitCB (fun ht => ?_) (fun ht => ?_)) <;> (simp (disch := first | omega | (simp only [List.length_set, List.length_append, List.length_cons, List.length_nil, List.length_map]; omega)) only [go_sem, Nat.reduceEqDiff, Nat.reduceBEq, Nat.reduceAdd, Nat.reduceMul, Nat.reduceSub, Nat.reduceLeDiff, Int.reduceToNat, Int.reducePow, r1, r2])))
    exact DownV.same hw (rlB_ok _ rfl)
theorem Same_rd (σ : Store) (A B : List (List UInt8)) (x y : AV) (hx : RdSl σ 32 (hrows A) x) (hy : RdSl σ 32 (hrows B) y) (hA : H32 A) (hB : H32 B) (hl : A.length < 1000000000) (hl2 : B.length < 1000000000) :
    ACallsTo TC 18 [x, y] σ (.bool (decide (A = B))) σ := by
  obtain ⟨x0, h0, hd⟩ := hx.lend (rlss_h A)
  obtain ⟨y0, h1, hd1⟩ := hy.lend (rlss_h B)
  have := ACallsTo.lend glok (Same_to [] A B x0 y0 h0 h1 hA hB hl hl2) (drsc hd (drs1 hd1))
  rwa [show sh σ.length (.bool (decide (A = B))) = .bool (decide (A = B)) from rfl, shS_nil, List.append_nil] at this
/-- Some leaves. -/
def someH (seed : UInt8) (i : Nat) : List UInt8 := seed :: UInt8.ofNat i :: UInt8.ofNat (i / 256) :: 1 :: List.replicate 28 0
def someS (seed : UInt8) (n : Nat) : List (List UInt8) := (List.range n).map (someH seed)
theorem someS_len (seed : UInt8) (n : Nat) : (someS seed n).length = n := by simp [someS]
theorem someS_H (seed : UInt8) (n : Nat) : H32 (someS seed n) := by
  intro h hh
  simp only [someS, List.mem_map] at hh
  obtain ⟨i, _, rfl⟩ := hh
  simp [someH]
theorem someS_succ (seed : UInt8) (n : Nat) : someS seed (n + 1) = someS seed n ++ [someH seed n] := by simp [someS, List.range_succ]
set_option maxHeartbeats 4000000 in
theorem Some_to (σ : Store) (n : Int) (seed : UInt8) (h : n < 1000000) : ACallsTo TC 21 [.int .i64 n, .int .u8 seed.toNat] σ (slVal 32 (hrows (someS seed n.toNat))) σ := by
  refine ACallsTo.of_body speculumlaw04_Some_ok (by simp) fun hw _ => ?_
  repeat' (first | refine SWp.seq ?_ | refine SWp.block ?_ | refine SWp.scope ?_ | (refine SWp.reg ?_; (simp (disch := first | omega | (simp only [List.length_set, List.length_append, List.length_cons, List.length_nil, List.length_map]; omega)) only [go_sem, Nat.reduceEqDiff, Nat.reduceBEq, Nat.reduceAdd, Nat.reduceMul, Nat.reduceSub, Nat.reduceLeDiff, Int.reduceToNat, Int.reducePow])) | refine SWp.condT rfl ?_ | refine SWp.condF rfl ?_ | (refine SWp.condD rfl (fun ht => ?_) (fun ht => ?_) <;> try (exfalso; omega)) | ((first | refine SWp.skip ?_ | refine SWp.exit ?_ | refine SWp.ret ?_); try (simp (disch := first | omega | (simp only [List.length_set, List.length_append, List.length_cons, List.length_nil, List.length_map]; omega)) only [go_sem, Nat.reduceEqDiff, Nat.reduceBEq, Nat.reduceAdd, Nat.reduceMul, Nat.reduceSub, Nat.reduceLeDiff, Int.reduceToNat, Int.reducePow])) | ((first | refine splitG (fun ht => ?_) (fun ht => ?_) | refine splitGB (fun ht => ?_) (fun ht => ?_) | refine splitR (fun ht => ?_) (fun ht => ?_) | refine splitRB (fun ht => ?_) (fun ht => ?_) | refine splitE (fun ht => ?_) (fun ht => ?_) | refine splitEB (fun ht => ?_) (fun ht => ?_) | refine splitC (fun ht => ?_) (fun ht => ?_) | refine splitCB (fun ht => ?_) (fun ht => ?_)) <;> (simp (disch := first | omega | (simp only [List.length_set, List.length_append, List.length_cons, List.length_nil, List.length_map]; omega)) only [go_sem, Nat.reduceEqDiff, Nat.reduceBEq, Nat.reduceAdd, Nat.reduceMul, Nat.reduceSub, Nat.reduceLeDiff, Int.reduceToNat, Int.reducePow])))
  refine SWp.loop (fun m ρ σ' => ∃ i : Nat, m + i = n.toNat ∧ ρ 0 = .int .i64 n ∧ ρ 1 = .int .u8 seed.toNat ∧ ρ 6 = .int .i64 i ∧ OwnN 32 σ σ' (ρ 5) (hrows (someS seed i))) n.toNat ?_ ?_
  · refine ⟨0, by omega, by simp (disch := first | omega | (simp only [List.length_set, List.length_append, List.length_cons, List.length_nil, List.length_map]; omega)) only [go_sem, Nat.reduceEqDiff, Nat.reduceBEq, Nat.reduceAdd, Nat.reduceMul, Nat.reduceSub, Nat.reduceLeDiff, Int.reduceToNat, Int.reducePow], by simp (disch := first | omega | (simp only [List.length_set, List.length_append, List.length_cons, List.length_nil, List.length_map]; omega)) only [go_sem, Nat.reduceEqDiff, Nat.reduceBEq, Nat.reduceAdd, Nat.reduceMul, Nat.reduceSub, Nat.reduceLeDiff, Int.reduceToNat, Int.reducePow], by simp (disch := first | omega | (simp only [List.length_set, List.length_append, List.length_cons, List.length_nil, List.length_map]; omega)) only [go_sem, Nat.reduceEqDiff, Nat.reduceBEq, Nat.reduceAdd, Nat.reduceMul, Nat.reduceSub, Nat.reduceLeDiff, Int.reduceToNat, Int.reducePow]; rfl, ?_⟩
    simp (disch := first | omega | (simp only [List.length_set, List.length_append, List.length_cons, List.length_nil, List.length_map]; omega)) only [go_sem, Nat.reduceEqDiff, Nat.reduceBEq, Nat.reduceAdd, Nat.reduceMul, Nat.reduceSub, Nat.reduceLeDiff, Int.reduceToNat, Int.reducePow]
    have := OwnN.nil (sz := 32) (τ := σ) (news := [])
    rwa [List.append_nil] at this
  · rintro m ρ σ' ⟨i, hm, q0, q1, q6, hO⟩
    by_cases hi : (i : Int) < n
    · obtain ⟨v', σ2, he, hO2⟩ := hO.app (ys := hrows [someH seed i]) (by simp [hrows]) (by rw [hrows_len, someS_len, hrows_len]; simp; omega)
      have hb : hrows [someH seed i] = [[.int .u8 seed.toNat, .int .u8 ((i : Int) % 256), .int .u8 ((i : Int) / 256 % 256), .int .u8 1, .int .u8 0, .int .u8 0, .int .u8 0, .int .u8 0, .int .u8 0, .int .u8 0, .int .u8 0, .int .u8 0, .int .u8 0, .int .u8 0, .int .u8 0, .int .u8 0, .int .u8 0, .int .u8 0, .int .u8 0, .int .u8 0, .int .u8 0, .int .u8 0, .int .u8 0, .int .u8 0, .int .u8 0, .int .u8 0, .int .u8 0, .int .u8 0, .int .u8 0, .int .u8 0, .int .u8 0, .int .u8 0]] := by
        simp [hrows, byteEsC, someH, List.replicate_succ]
      rw [hb] at he
      generalize hv : ρ 5 = v at *
      repeat' (first | refine SWp.seq ?_ | refine SWp.block ?_ | refine SWp.scope ?_ | (refine SWp.reg ?_; (simp (disch := first | omega | (simp only [List.length_set, List.length_append, List.length_cons, List.length_nil, List.length_map]; omega)) only [go_sem, Nat.reduceEqDiff, Nat.reduceBEq, Nat.reduceAdd, Nat.reduceMul, Nat.reduceSub, Nat.reduceLeDiff, Int.reduceToNat, Int.reducePow, q0, q1, q6, hv, he])) | refine SWp.condT rfl ?_ | refine SWp.condF rfl ?_ | (refine SWp.condD rfl (fun ht => ?_) (fun ht => ?_) <;> try (exfalso; omega)) | ((first | refine SWp.skip ?_ | refine SWp.exit ?_ | refine SWp.ret ?_); try (simp (disch := first | omega | (simp only [List.length_set, List.length_append, List.length_cons, List.length_nil, List.length_map]; omega)) only [go_sem, Nat.reduceEqDiff, Nat.reduceBEq, Nat.reduceAdd, Nat.reduceMul, Nat.reduceSub, Nat.reduceLeDiff, Int.reduceToNat, Int.reducePow, q0, q1, q6, hv, he])) | ((first | refine splitG (fun ht => ?_) (fun ht => ?_) | refine splitGB (fun ht => ?_) (fun ht => ?_) | refine splitR (fun ht => ?_) (fun ht => ?_) | refine splitRB (fun ht => ?_) (fun ht => ?_) | refine splitE (fun ht => ?_) (fun ht => ?_) | refine splitEB (fun ht => ?_) (fun ht => ?_) | refine splitC (fun ht => ?_) (fun ht => ?_) | refine splitCB (fun ht => ?_) (fun ht => ?_)) <;> (simp (disch := first | omega | (simp only [List.length_set, List.length_append, List.length_cons, List.length_nil, List.length_map]; omega)) only [go_sem, Nat.reduceEqDiff, Nat.reduceBEq, Nat.reduceAdd, Nat.reduceMul, Nat.reduceSub, Nat.reduceLeDiff, Int.reduceToNat, Int.reducePow, q0, q1, q6, hv, he])))
      exact ⟨n.toNat - (i + 1), by omega, i + 1, by omega, by simp, by rw [someS_succ]; simpa [hrows] using hO2⟩
    · have e : n.toNat = i := by omega
      generalize hv : ρ 5 = v at *
      rw [e]
      repeat' (first | refine SWp.seq ?_ | refine SWp.block ?_ | refine SWp.scope ?_ | (refine SWp.reg ?_; (simp (disch := first | omega | (simp only [List.length_set, List.length_append, List.length_cons, List.length_nil, List.length_map]; omega)) only [go_sem, Nat.reduceEqDiff, Nat.reduceBEq, Nat.reduceAdd, Nat.reduceMul, Nat.reduceSub, Nat.reduceLeDiff, Int.reduceToNat, Int.reducePow, q0, q6, hv])) | refine SWp.condT rfl ?_ | refine SWp.condF rfl ?_ | (refine SWp.condD rfl (fun ht => ?_) (fun ht => ?_) <;> try (exfalso; omega)) | ((first | refine SWp.skip ?_ | refine SWp.exit ?_ | refine SWp.ret ?_); try (simp (disch := first | omega | (simp only [List.length_set, List.length_append, List.length_cons, List.length_nil, List.length_map]; omega)) only [go_sem, Nat.reduceEqDiff, Nat.reduceBEq, Nat.reduceAdd, Nat.reduceMul, Nat.reduceSub, Nat.reduceLeDiff, Int.reduceToNat, Int.reducePow, q0, q6, hv])) | ((first | refine splitG (fun ht => ?_) (fun ht => ?_) | refine splitGB (fun ht => ?_) (fun ht => ?_) | refine splitR (fun ht => ?_) (fun ht => ?_) | refine splitRB (fun ht => ?_) (fun ht => ?_) | refine splitE (fun ht => ?_) (fun ht => ?_) | refine splitEB (fun ht => ?_) (fun ht => ?_) | refine splitC (fun ht => ?_) (fun ht => ?_) | refine splitCB (fun ht => ?_) (fun ht => ?_)) <;> (simp (disch := first | omega | (simp only [List.length_set, List.length_append, List.length_cons, List.length_nil, List.length_map]; omega)) only [go_sem, Nat.reduceEqDiff, Nat.reduceBEq, Nat.reduceAdd, Nat.reduceMul, Nat.reduceSub, Nat.reduceLeDiff, Int.reduceToNat, Int.reducePow, q0, q6, hv])))
      exact hO.froze hw (rlss_h _)
end Am
end Go.Proofs.YtfofemaglndnjaaDoor
end
