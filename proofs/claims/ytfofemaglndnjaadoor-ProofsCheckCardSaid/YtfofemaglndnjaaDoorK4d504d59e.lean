import Derived.Test.YtfofemaglndnjaaDoorK3479c6a61
import Derived.Test.YtfofemaglndnjaaDoorK25d2d41ae
section
set_option linter.unusedSimpArgs false
set_option linter.unusedVariables false
/- Trees: contracts: a hash's bytes, Node. -/
set_option linter.unusedSimpArgs false
set_option linter.unusedVariables false
namespace Go.Proofs.YtfofemaglndnjaaDoor
namespace Am
theorem shaS_len (s : List UInt8) : (shaS s).length = 32 := outV_len _
def nodeS (a b : List UInt8) : List UInt8 := shaS (1 :: (a ++ b))
theorem nodeS_len (a b : List UInt8) : (nodeS a b).length = 32 := shaS_len _
theorem chunk_C : ∀ (l : List UInt8), chunk 1 l.length (byteEsC l) = byteEs l
  | [] => rfl
  | b :: l => by
    have := chunk_C l
    simp only [byteEsC, byteEs] at this
    simp [byteEsC, byteEs, chunk, B8] at this ⊢
    exact this
theorem codec_Hash_to (σ : Store) (h : List UInt8) (hl : h.length = 32) : ACallsTo TC 99 [.agg (byteEsC h)] σ (.str h) σ := by
  refine ACallsTo.of_body codec_Hash_ok (by simp) fun hw _ => ?_
  have h1 := byteEsC_len h
  have hc := chunk_C h
  rw [hl] at h1 hc
  repeat' (first | refine SWp.seq ?_ | refine SWp.block ?_ | refine SWp.scope ?_ | refine SWp.condT rfl ?_ | refine SWp.condF rfl ?_ | (refine SWp.condD rfl (fun ht => ?_) (fun ht => ?_) <;> try (exfalso; omega)) | ((first | refine SWp.reg ?_ | refine SWp.skip ?_ | refine SWp.exit ?_ | refine SWp.ret ?_ | ((first | apply splitG | apply splitGB | apply splitR | apply splitRB | apply splitE | apply splitEB | apply splitC | apply splitCB) <;> intro ht)); all_goals try simp (disch := first | omega | (simp only [lens]; omega)) only [go_sem, Nat.reduceEqDiff, Nat.reduceBEq, Nat.reduceAdd, Nat.reduceMul, Nat.reduceSub, Nat.reduceLeDiff, Int.reduceToNat, Int.reducePow, h1, hc]))
  exact DownV.pure hw (rlB_ok _ rfl)
/-- Own elements behind what was there, or none yet. -/
def OwnN (sz : Nat) (τ σ' : Store) (v : AV) (es : List (List AV)) : Prop :=
  ∃ news, σ' = τ ++ news ∧ ((es = [] ∧ v = .nilsl) ∨ ∃ j, es ≠ [] ∧ v = .sl (τ.length + j) 0 es.length none sz ∧ news[j]? = some (some es))
theorem OwnN.len {sz : Nat} {τ σ' : Store} {v : AV} {es : List (List AV)} (h : OwnN sz τ σ' v es) : rLenSl v = some (.int .i64 es.length) := by
  obtain ⟨news, rfl, ⟨rfl, rfl⟩ | ⟨j, _, rfl, h⟩⟩ := h <;> rfl
theorem OwnN.nil {sz : Nat} {τ news : Store} : OwnN sz τ (τ ++ news) .nilsl [] := ⟨news, rfl, .inl ⟨rfl, rfl⟩⟩
theorem OwnN.ext {sz : Nat} {τ σ' : Store} {v : AV} {es : List (List AV)} (h : OwnN sz τ σ' v es) : ∃ news, σ' = τ ++ news := by
  obtain ⟨news, h, _⟩ := h; exact ⟨news, h⟩
/-- What others append behind leaves it. -/
theorem OwnN.more {sz : Nat} {τ σ' : Store} {v : AV} {es : List (List AV)} (h : OwnN sz τ σ' v es) (y : Store) : OwnN sz τ (σ' ++ y) v es := by
  obtain ⟨news, rfl, h | ⟨j, h0, rfl, h⟩⟩ := h
  · exact ⟨news ++ y, by rw [List.append_assoc], .inl h⟩
  · exact ⟨news ++ y, by rw [List.append_assoc], .inr ⟨j, h0, rfl, by rw [List.getElem?_append_left (List.getElem?_eq_some_iff.1 h).1]; exact h⟩⟩
theorem OwnN.app {sz : Nat} {τ σ' : Store} {v : AV} {es ys : List (List AV)} (h : OwnN sz τ σ' v es) (h0 : ys.length ≠ 0) (hl : es.length + ys.length ≤ 1073741824) :
    ∃ v' σ'', aApp σ' sz v ys = some (v', σ'') ∧ OwnN sz τ σ'' v' (es ++ ys) := by
  have hne : es ++ ys ≠ [] := fun e => h0 (by rw [(List.append_eq_nil_iff.1 e).2]; rfl)
  obtain ⟨news, rfl, ⟨rfl, rfl⟩ | ⟨j, _, rfl, h⟩⟩ := h
  · refine ⟨_, _, by rw [app_n, if_neg h0, if_pos (by simpa using hl)], news ++ [some ys], by rw [List.append_assoc], .inr ⟨news.length, hne, by simp, by rw [List.getElem?_append_right (Nat.le_refl _)]; simp⟩⟩
  · have hj := (List.getElem?_eq_some_iff.1 h).1
    have hg : (τ ++ news)[τ.length + j]? = some (some es) := by rw [List.getElem?_append_right (by omega), Nat.add_sub_cancel_left]; exact h
    refine ⟨.sl (τ ++ news).length 0 (es.length + ys.length) none sz, (τ ++ news).set (τ.length + j) none ++ [some (es ++ ys)], ?_, news.set j none ++ [some (es ++ ys)], ?_, .inr ⟨news.length, hne, by simp, by rw [List.getElem?_append_right (by simp)]; simp⟩⟩
    · rw [app_s, if_neg h0, hg]
      simp only
      rw [if_pos ⟨trivial, by omega, by omega⟩, if_neg (by omega), List.drop_zero, List.take_of_length_le (Nat.le_refl _)]
    · rw [List.set_append_right _ _ (by omega), Nat.add_sub_cancel_left, List.append_assoc]
theorem OwnN.sl {sz : Nat} {τ σ' : Store} {v : AV} {es : List (List AV)} (h : OwnN sz τ σ' v es) (h0 : es ≠ []) : ∃ r, v = .sl r 0 es.length none sz ∧ σ'[r]? = some (some es) ∧ τ.length ≤ r := by
  obtain ⟨news, rfl, ⟨rfl, rfl⟩ | ⟨j, _, rfl, h⟩⟩ := h
  · exact absurd rfl h0
  · exact ⟨_, rfl, by rw [List.getElem?_append_right (by omega), Nat.add_sub_cancel_left]; exact h, by omega⟩
/-- A slice that nobody writes. -/
def SlV (sz : Nat) (es : List (List AV)) (x : AV) : Prop := (x = .nilsl ∧ es = []) ∨ ∃ ex, x = .vsl sz es ex
theorem SlV.len {sz : Nat} {es : List (List AV)} {x : AV} (h : SlV sz es x) : rLenSl x = some (.int .i64 es.length) := by
  rcases h with ⟨rfl, rfl⟩ | ⟨ex, rfl⟩ <;> rfl
theorem SlV.vsl {sz : Nat} {es : List (List AV)} {x : AV} (h : SlV sz es x) (h0 : 0 < es.length) : ∃ ex, x = .vsl sz es ex := by
  rcases h with ⟨rfl, rfl⟩ | h
  · simp at h0
  · exact h
def slVal (sz : Nat) (es : List (List AV)) : AV := if es = [] then .nilsl else .vsl sz es false
theorem slVal_is (sz : Nat) (es : List (List AV)) : SlV sz es (slVal sz es) := by
  unfold slVal
  split
  · rename_i h; exact .inl ⟨rfl, h⟩
  · exact .inr ⟨false, rfl⟩
/-- A new slice for the caller: who, and the store with it. -/
def ownV (σ : Store) (sz : Nat) (es : List (List AV)) : AV := if es = [] then .nilsl else .sl σ.length 0 es.length none sz
def ownS (σ : Store) (es : List (List AV)) : Store := if es = [] then σ else σ ++ [some es]
theorem own_is (σ : Store) (sz : Nat) (es : List (List AV)) : OwnN sz σ (ownS σ es) (ownV σ sz es) es := by
  unfold ownV ownS
  by_cases h : es = []
  · rw [if_pos h, if_pos h]; exact ⟨[], by simp, .inl ⟨h, rfl⟩⟩
  · rw [if_neg h, if_neg h]; exact ⟨[some es], rfl, .inr ⟨0, h, rfl, rfl⟩⟩
/-- At a function's end it is a value .. -/
theorem OwnN.froze {sz : Nat} {σ σ' : Store} {v : AV} {es : List (List AV)} (hw : Wf σ.length σ) (h : OwnN sz σ σ' v es) (hr : RLss σ.length es) : DownV σ.length v σ' (slVal sz es) σ := by
  unfold slVal
  obtain ⟨news, rfl, ⟨rfl, rfl⟩ | ⟨j, h0, rfl, h⟩⟩ := h
  · rw [if_pos rfl]; exact DownV.pure hw (rlB_ok _ rfl)
  · have e : (es.drop 0).take es.length = es := by rw [List.drop_zero, List.take_of_length_le (Nat.le_refl _)]
    have := DownV.froze (off := 0) (len := es.length) (esz := sz) (lim := none) hw h (by omega) (by rw [e]; exact hr)
    rw [e] at this
    rw [if_neg h0]; exact this
/-- .. or its caller's own. -/
theorem OwnN.own {sz : Nat} {σ σ' : Store} {v : AV} {es : List (List AV)} (hw : Wf σ.length σ) (h : OwnN sz σ σ' v es) (hr : RLss σ.length es) : DownV σ.length v σ' (ownV σ sz es) (ownS σ es) := by
  unfold ownV ownS
  obtain ⟨news, rfl, ⟨rfl, rfl⟩ | ⟨j, h0, rfl, h⟩⟩ := h
  · rw [if_pos rfl, if_pos rfl]; exact DownV.pure hw (rlB_ok _ rfl)
  · rw [if_neg h0, if_neg h0]; exact DownV.own (off := 0) (len := es.length) (esz := sz) (lim := none) hw h hr
theorem byteEsC_get {l : List UInt8} {i : Nat} (h : i < l.length) : (byteEsC l)[i]? = some (.int .u8 (l.getD i 0).toNat) := by
  simp [byteEsC, List.getD_eq_getElem?_getD, List.getElem?_eq_getElem h]
set_option maxHeartbeats 4000000 in
theorem ref_Hash_to (σ : Store) (h : List UInt8) (hl : h.length = 32) : ACallsTo TC 86 [.agg (byteEsC h)] σ (.str h) σ := by
  refine ACallsTo.of_body speculumref03_Hash_ok (by simp) fun hw _ => ?_
  have h1 := byteEsC_len h
  rw [hl] at h1
  repeat' (first | refine SWp.seq ?_ | refine SWp.block ?_ | refine SWp.scope ?_ | refine SWp.condT rfl ?_ | refine SWp.condF rfl ?_ | (refine SWp.condD rfl (fun ht => ?_) (fun ht => ?_) <;> try (exfalso; omega)) | ((first | refine SWp.reg ?_ | refine SWp.skip ?_ | refine SWp.exit ?_ | refine SWp.ret ?_ | ((first | apply splitG | apply splitGB | apply splitR | apply splitRB | apply splitE | apply splitEB | apply splitC | apply splitCB) <;> intro ht)); all_goals try simp (disch := first | omega | (simp only [lens]; omega)) only [go_sem, Nat.reduceEqDiff, Nat.reduceBEq, Nat.reduceAdd, Nat.reduceMul, Nat.reduceSub, Nat.reduceLeDiff, Int.reduceToNat, Int.reducePow, h1]))
  refine SWp.loop (fun m ρ σ' => ∃ i : Nat, m + i = 32 ∧ ρ 1 = .ptr σ.length 0 0 ∧ ρ 4 = .int .i64 i ∧ OwnN 1 (σ ++ [some [byteEsC h]]) σ' (ρ 3) (byteEs (h.take i))) 32 ?_ ?_
  · refine ⟨0, by omega, by simp (disch := first | omega | (simp only [lens]; omega)) only [go_sem, Nat.reduceEqDiff, Nat.reduceBEq, Nat.reduceAdd, Nat.reduceMul, Nat.reduceSub, Nat.reduceLeDiff, Int.reduceToNat, Int.reducePow], by simp (disch := first | omega | (simp only [lens]; omega)) only [go_sem, Nat.reduceEqDiff, Nat.reduceBEq, Nat.reduceAdd, Nat.reduceMul, Nat.reduceSub, Nat.reduceLeDiff, Int.reduceToNat, Int.reducePow]; rfl, ?_⟩
    simp (disch := first | omega | (simp only [lens]; omega)) only [go_sem, Nat.reduceEqDiff, Nat.reduceBEq, Nat.reduceAdd, Nat.reduceMul, Nat.reduceSub, Nat.reduceLeDiff, Int.reduceToNat, Int.reducePow]
    have := OwnN.nil (sz := 1) (τ := σ ++ [some [byteEsC h]]) (news := [])
    rwa [List.append_nil] at this
  · rintro m ρ σ' ⟨i, hm, q1, q4, hO⟩
    by_cases hi : i < 32
    · have hg := byteEsC_get (l := h) (i := i) (by omega)
      have hs : h.take (i + 1) = h.take i ++ [h.getD i 0] := by
        rw [List.take_add_one, List.getD_eq_getElem?_getD, List.getElem?_eq_getElem (by omega)]; rfl
      obtain ⟨v', σ2, he, hO2⟩ := hO.app (ys := byteEs [h.getD i 0]) (by simp [byteEs]) (by simp [byteEs_len]; omega)
      have ho : σ'[σ.length]? = some (some [byteEsC h]) := by
        obtain ⟨news, rfl, _⟩ := hO
        rw [List.append_assoc, List.getElem?_append_right (Nat.le_refl _), Nat.sub_self]; rfl
      have hb : byteEs [h.getD i 0] = [[.int .u8 (h.getD i 0).toNat]] := rfl
      rw [hb] at he
      generalize h.getD i 0 = x at *
      generalize hv : ρ 3 = v at *
      repeat' (first | refine SWp.seq ?_ | refine SWp.block ?_ | refine SWp.scope ?_ | refine SWp.condT rfl ?_ | refine SWp.condF rfl ?_ | (refine SWp.condD rfl (fun ht => ?_) (fun ht => ?_) <;> try (exfalso; omega)) | ((first | refine SWp.reg ?_ | refine SWp.skip ?_ | refine SWp.exit ?_ | refine SWp.ret ?_ | ((first | apply splitG | apply splitGB | apply splitR | apply splitRB | apply splitE | apply splitEB | apply splitC | apply splitCB) <;> intro ht)); all_goals try simp (disch := first | omega | (simp only [lens]; omega)) only [go_sem, Nat.reduceEqDiff, Nat.reduceBEq, Nat.reduceAdd, Nat.reduceMul, Nat.reduceSub, Nat.reduceLeDiff, Int.reduceToNat, Int.reducePow, q1, q4, hv, ho, h1, hg, he]))
      refine ⟨32 - (i + 1), by omega, i + 1, by omega, by simp, ?_⟩
      rw [hs, ← byteEs_app]
      exact hO2
    · obtain rfl : i = 32 := by omega
      rw [List.take_of_length_le (by omega)] at hO
      obtain ⟨r, q3, hg, _⟩ := hO.sl (by intro e; have := byteEs_len h; rw [e] at this; simp at this; omega)
      rw [byteEs_len] at q3
      repeat' (first | refine SWp.seq ?_ | refine SWp.block ?_ | refine SWp.scope ?_ | refine SWp.condT rfl ?_ | refine SWp.condF rfl ?_ | (refine SWp.condD rfl (fun ht => ?_) (fun ht => ?_) <;> try (exfalso; omega)) | ((first | refine SWp.reg ?_ | refine SWp.skip ?_ | refine SWp.exit ?_ | refine SWp.ret ?_ | ((first | apply splitG | apply splitGB | apply splitR | apply splitRB | apply splitE | apply splitEB | apply splitC | apply splitCB) <;> intro ht)); all_goals try simp (disch := first | omega | (simp only [lens]; omega)) only [go_sem, Nat.reduceEqDiff, Nat.reduceBEq, Nat.reduceAdd, Nat.reduceMul, Nat.reduceSub, Nat.reduceLeDiff, Int.reduceToNat, Int.reducePow, q1, q4, q3, hg]))
      obtain ⟨news, rfl, _⟩ := hO
      rw [List.append_assoc]
      exact DownV.pure hw (rlB_ok _ rfl)
theorem trees_Node_to (σ : Store) (a b : List UInt8) (ha : a.length = 32) (hb : b.length = 32) : ACallsTo TC 59 [.agg (byteEsC a), .agg (byteEsC b)] σ (.agg (byteEsC (nodeS a b))) σ := by
  refine ACallsTo.of_body trees_Node_ok (by simp) fun hw _ => ?_
  have h1 := byteEsC_len a
  have h2 := byteEsC_len b
  have h3 := byteEsC_len (nodeS a b)
  rw [ha] at h1
  rw [hb] at h2
  rw [nodeS_len] at h3
  obtain ⟨n, hn⟩ : ∃ n, n = nodeS a b := ⟨_, rfl⟩
  have hs : ∀ σ, ACallsTo TC 67 [.str (1 :: (a ++ b))] σ (.agg (byteEsC n)) σ := fun σ => by rw [hn]; exact sha_Sum_to σ _ (by simp; omega)
  rw [← hn] at h3 ⊢
  repeat' (first | refine SWp.seq ?_ | refine SWp.block ?_ | refine SWp.scope ?_ | refine SWp.condT rfl ?_ | refine SWp.condF rfl ?_ | (refine SWp.condD rfl (fun ht => ?_) (fun ht => ?_) <;> try (exfalso; omega)) | ((first | refine SWp.regS ?_ | refine SWp.skip ?_ | refine SWp.exit ?_ | refine SWp.ret ?_ | (apply callW.any; (first | exact (codec_Hash_to _ _ ha) | exact (codec_Hash_to _ _ hb) | exact (hs _))) | ((first | apply splitG | apply splitGB | apply splitR | apply splitRB | apply splitE | apply splitEB | apply splitC | apply splitCB) <;> intro ht)); all_goals try simp (disch := first | omega | (simp only [lens]; omega)) only [go_sem, Nat.reduceEqDiff, Nat.reduceBEq, Nat.reduceAdd, Nat.reduceMul, Nat.reduceSub, Nat.reduceLeDiff, Int.reduceToNat, Int.reducePow, h1, h2, h3]))
  exact DownV.pure hw (rl_agg (rl_bytes _))
theorem ref_Node_to (σ : Store) (a b : List UInt8) (ha : a.length = 32) (hb : b.length = 32) : ACallsTo TC 80 [.agg (byteEsC a), .agg (byteEsC b)] σ (.agg (byteEsC (nodeS a b))) σ := by
  refine ACallsTo.of_body speculumref04_Node_ok (by simp) fun hw _ => ?_
  have h1 := byteEsC_len a
  have h2 := byteEsC_len b
  have h3 := byteEsC_len (nodeS a b)
  rw [ha] at h1
  rw [hb] at h2
  rw [nodeS_len] at h3
  obtain ⟨n, hn⟩ : ∃ n, n = nodeS a b := ⟨_, rfl⟩
  have hs : ∀ σ, ACallsTo TC 65 [.str (1 :: (a ++ b))] σ (.agg (byteEsC n)) σ := fun σ => by rw [hn]; exact ref_Sum_to σ _ (by simp; omega)
  rw [← hn] at h3 ⊢
  repeat' (first | refine SWp.seq ?_ | refine SWp.block ?_ | refine SWp.scope ?_ | refine SWp.condT rfl ?_ | refine SWp.condF rfl ?_ | (refine SWp.condD rfl (fun ht => ?_) (fun ht => ?_) <;> try (exfalso; omega)) | ((first | refine SWp.regS ?_ | refine SWp.skip ?_ | refine SWp.exit ?_ | refine SWp.ret ?_ | (apply callW.any; (first | exact (ref_Hash_to _ _ ha) | exact (ref_Hash_to _ _ hb) | exact (hs _))) | ((first | apply splitG | apply splitGB | apply splitR | apply splitRB | apply splitE | apply splitEB | apply splitC | apply splitCB) <;> intro ht)); all_goals try simp (disch := first | omega | (simp only [lens]; omega)) only [go_sem, Nat.reduceEqDiff, Nat.reduceBEq, Nat.reduceAdd, Nat.reduceMul, Nat.reduceSub, Nat.reduceLeDiff, Int.reduceToNat, Int.reducePow, h1, h2, h3]))
  exact DownV.pure hw (rl_agg (rl_bytes _))
end Am
end Go.Proofs.YtfofemaglndnjaaDoor
end
section
set_option linter.unusedSimpArgs false
set_option linter.unusedVariables false
/- Trees: contracts: Split, Root. -/
set_option linter.unusedSimpArgs false
set_option linter.unusedVariables false
namespace Go.Proofs.YtfofemaglndnjaaDoor
namespace Am
def splitS (n : Nat) : Nat := if n < 2 then 0 else 2 ^ Nat.log2 (n - 1)
theorem split_spec {n : Nat} (h : 2 ≤ n) : splitS n < n ∧ n ≤ 2 * splitS n ∧ 0 < splitS n := by
  unfold splitS
  rw [if_neg (by omega)]
  have h1 := Nat.log2_self_le (n := n - 1) (by omega)
  have h2 := Nat.lt_log2_self (n := n - 1)
  rw [Nat.pow_succ] at h2
  have h3 : 0 < 2 ^ Nat.log2 (n - 1) := Nat.pow_pos (by decide)
  omega
theorem split_uniq {n j : Nat} (h1 : 2 ^ j < n) (h2 : n ≤ 2 ^ (j + 1)) : splitS n = 2 ^ j := by
  have h3 : 0 < 2 ^ j := Nat.pow_pos (by decide)
  unfold splitS
  rw [if_neg (by omega)]
  have h4 := Nat.log2_self_le (n := n - 1) (by omega)
  have h5 := Nat.lt_log2_self (n := n - 1)
  congr 1
  generalize Nat.log2 (n - 1) = i at *
  have a1 : 2 ^ j < 2 ^ (i + 1) := by omega
  have a2 : 2 ^ i < 2 ^ (j + 1) := by omega
  have b1 := (Nat.pow_lt_pow_iff_right (by decide : 1 < 2)).1 a1
  have b2 := (Nat.pow_lt_pow_iff_right (by decide : 1 < 2)).1 a2
  omega
theorem trees_Split_to (σ : Store) (n : Nat) (h : n < 1000000000000) : ACallsTo TC 61 [.int .i64 n] σ (.int .i64 (splitS n)) σ := by
  refine ACallsTo.of_body trees_Split_ok (by simp) fun hw _ => ?_
  by_cases h2 : n < 2
  · have e : splitS n = 0 := by unfold splitS; rw [if_pos h2]
    rw [e]
    repeat' (first | refine SWp.seq ?_ | refine SWp.block ?_ | refine SWp.scope ?_ | refine SWp.condT rfl ?_ | refine SWp.condF rfl ?_ | (refine SWp.condD rfl (fun ht => ?_) (fun ht => ?_) <;> try (exfalso; omega)) | ((first | refine SWp.reg ?_ | refine SWp.skip ?_ | refine SWp.exit ?_ | refine SWp.ret ?_ | ((first | apply splitG | apply splitGB | apply splitR | apply splitRB | apply splitE | apply splitEB | apply splitC | apply splitCB) <;> intro ht)); all_goals try simp (disch := first | omega | (simp only [lens]; omega)) only [go_sem, Nat.reduceEqDiff, Nat.reduceBEq, Nat.reduceAdd, Nat.reduceMul, Nat.reduceSub, Nat.reduceLeDiff, Int.reduceToNat, Int.reducePow]))
    exact DownV.same hw (rlB_ok _ rfl)
  · repeat' (first | refine SWp.seq ?_ | refine SWp.block ?_ | refine SWp.scope ?_ | refine SWp.condT rfl ?_ | refine SWp.condF rfl ?_ | (refine SWp.condD rfl (fun ht => ?_) (fun ht => ?_) <;> try (exfalso; omega)) | ((first | refine SWp.reg ?_ | refine SWp.skip ?_ | refine SWp.exit ?_ | refine SWp.ret ?_ | ((first | apply splitG | apply splitGB | apply splitR | apply splitRB | apply splitE | apply splitEB | apply splitC | apply splitCB) <;> intro ht)); all_goals try simp (disch := first | omega | (simp only [lens]; omega)) only [go_sem, Nat.reduceEqDiff, Nat.reduceBEq, Nat.reduceAdd, Nat.reduceMul, Nat.reduceSub, Nat.reduceLeDiff, Int.reduceToNat, Int.reducePow]))
    refine SWp.loop (fun m ρ σ' => ∃ j : Nat, m = n - 2 ^ j ∧ 2 ^ j < n ∧ ρ 0 = .int .i64 n ∧ ρ 3 = .int .i64 ((2 ^ j : Nat) : Int) ∧ σ' = σ) (n - 1) ?_ ?_
    · exact ⟨0, rfl, by omega, by simp (disch := first | omega | (simp only [lens]; omega)) only [go_sem, Nat.reduceEqDiff, Nat.reduceBEq, Nat.reduceAdd, Nat.reduceMul, Nat.reduceSub, Nat.reduceLeDiff, Int.reduceToNat, Int.reducePow], by simp (disch := first | omega | (simp only [lens]; omega)) only [go_sem, Nat.reduceEqDiff, Nat.reduceBEq, Nat.reduceAdd, Nat.reduceMul, Nat.reduceSub, Nat.reduceLeDiff, Int.reduceToNat, Int.reducePow]; rfl, rfl⟩
    · rintro m ρ σ' ⟨j, hm, hj, q0, q3, rfl⟩
      have hp : 0 < 2 ^ j := Nat.pow_pos (by decide)
      have hs : 2 ^ (j + 1) = 2 ^ j * 2 := Nat.pow_succ ..
      generalize hk : 2 ^ j = k at *
      by_cases hc : (k : Int) < n - k
      · repeat' (first | refine SWp.seq ?_ | refine SWp.block ?_ | refine SWp.scope ?_ | refine SWp.condT rfl ?_ | refine SWp.condF rfl ?_ | (refine SWp.condD rfl (fun ht => ?_) (fun ht => ?_) <;> try (exfalso; omega)) | ((first | refine SWp.reg ?_ | refine SWp.skip ?_ | refine SWp.exit ?_ | refine SWp.ret ?_ | ((first | apply splitG | apply splitGB | apply splitR | apply splitRB | apply splitE | apply splitEB | apply splitC | apply splitCB) <;> intro ht)); all_goals try simp (disch := first | omega | (simp only [lens]; omega)) only [go_sem, Nat.reduceEqDiff, Nat.reduceBEq, Nat.reduceAdd, Nat.reduceMul, Nat.reduceSub, Nat.reduceLeDiff, Int.reduceToNat, Int.reducePow, q0, q3]))
        exact ⟨n - k * 2, by omega, j + 1, by rw [hs], by omega, by rw [hs]; rfl⟩
      · have e : splitS n = k := by rw [← hk]; exact split_uniq (by omega) (by omega)
        rw [e]
        repeat' (first | refine SWp.seq ?_ | refine SWp.block ?_ | refine SWp.scope ?_ | refine SWp.condT rfl ?_ | refine SWp.condF rfl ?_ | (refine SWp.condD rfl (fun ht => ?_) (fun ht => ?_) <;> try (exfalso; omega)) | ((first | refine SWp.reg ?_ | refine SWp.skip ?_ | refine SWp.exit ?_ | refine SWp.ret ?_ | ((first | apply splitG | apply splitGB | apply splitR | apply splitRB | apply splitE | apply splitEB | apply splitC | apply splitCB) <;> intro ht)); all_goals try simp (disch := first | omega | (simp only [lens]; omega)) only [go_sem, Nat.reduceEqDiff, Nat.reduceBEq, Nat.reduceAdd, Nat.reduceMul, Nat.reduceSub, Nat.reduceLeDiff, Int.reduceToNat, Int.reducePow, q0, q3]))
        exact DownV.same hw (rlB_ok _ rfl)
theorem ref_Split_to (σ : Store) (n : Nat) (h : n < 1000000000000) : ACallsTo TC 114 [.int .i64 n] σ (.int .i64 (splitS n)) σ := by
  refine ACallsTo.of_body speculumref04_Split_ok (by simp) fun hw _ => ?_
  repeat' (first | refine SWp.seq ?_ | refine SWp.block ?_ | refine SWp.scope ?_ | refine SWp.condT rfl ?_ | refine SWp.condF rfl ?_ | (refine SWp.condD rfl (fun ht => ?_) (fun ht => ?_) <;> try (exfalso; omega)) | ((first | refine SWp.reg ?_ | refine SWp.skip ?_ | refine SWp.exit ?_ | refine SWp.ret ?_ | ((first | apply splitG | apply splitGB | apply splitR | apply splitRB | apply splitE | apply splitEB | apply splitC | apply splitCB) <;> intro ht)); all_goals try simp (disch := first | omega | (simp only [lens]; omega)) only [go_sem, Nat.reduceEqDiff, Nat.reduceBEq, Nat.reduceAdd, Nat.reduceMul, Nat.reduceSub, Nat.reduceLeDiff, Int.reduceToNat, Int.reducePow]))
  refine SWp.loop (fun m ρ σ' => ∃ j k : Nat, m = n - 2 ^ j ∧ ((j = 0 ∧ k = 0) ∨ (k < n ∧ 2 ^ j = k * 2 ∧ ∃ i, k = 2 ^ i)) ∧ ρ 0 = .int .i64 n ∧ ρ 3 = .int .i64 k ∧ ρ 4 = .int .i64 ((2 ^ j : Nat) : Int) ∧ σ' = σ) (n - 1) ?_ ?_
  · exact ⟨0, 0, rfl, .inl ⟨rfl, rfl⟩, by simp (disch := first | omega | (simp only [lens]; omega)) only [go_sem, Nat.reduceEqDiff, Nat.reduceBEq, Nat.reduceAdd, Nat.reduceMul, Nat.reduceSub, Nat.reduceLeDiff, Int.reduceToNat, Int.reducePow], by simp (disch := first | omega | (simp only [lens]; omega)) only [go_sem, Nat.reduceEqDiff, Nat.reduceBEq, Nat.reduceAdd, Nat.reduceMul, Nat.reduceSub, Nat.reduceLeDiff, Int.reduceToNat, Int.reducePow]; rfl, by simp (disch := first | omega | (simp only [lens]; omega)) only [go_sem, Nat.reduceEqDiff, Nat.reduceBEq, Nat.reduceAdd, Nat.reduceMul, Nat.reduceSub, Nat.reduceLeDiff, Int.reduceToNat, Int.reducePow]; rfl, rfl⟩
  · rintro m ρ σ' ⟨j, k, hm, hk, q0, q3, q4, rfl⟩
    have hp : 0 < 2 ^ j := Nat.pow_pos (by decide)
    have hs : 2 ^ (j + 1) = 2 ^ j * 2 := Nat.pow_succ ..
    by_cases hc : 2 ^ j < n
    · generalize hmm : 2 ^ j = mm at *
      repeat' (first | refine SWp.seq ?_ | refine SWp.block ?_ | refine SWp.scope ?_ | refine SWp.condT rfl ?_ | refine SWp.condF rfl ?_ | (refine SWp.condD rfl (fun ht => ?_) (fun ht => ?_) <;> try (exfalso; omega)) | ((first | refine SWp.reg ?_ | refine SWp.skip ?_ | refine SWp.exit ?_ | refine SWp.ret ?_ | ((first | apply splitG | apply splitGB | apply splitR | apply splitRB | apply splitE | apply splitEB | apply splitC | apply splitCB) <;> intro ht)); all_goals try simp (disch := first | omega | (simp only [lens]; omega)) only [go_sem, Nat.reduceEqDiff, Nat.reduceBEq, Nat.reduceAdd, Nat.reduceMul, Nat.reduceSub, Nat.reduceLeDiff, Int.reduceToNat, Int.reducePow, q0, q3, q4]))
      clear hk
      exact ⟨n - mm * 2, by omega, j + 1, mm, by rw [hs], .inr ⟨hc, hs, j, hmm.symm⟩, rfl, by rw [hs]; rfl⟩
    · have e : splitS n = k := by
        rcases hk with ⟨rfl, rfl⟩ | ⟨h1, h2, i, rfl⟩
        · unfold splitS; rw [if_pos (by simp at hc; omega)]
        · exact split_uniq h1 (by rw [Nat.pow_succ]; omega)
      rw [e]
      clear e hk hs
      generalize hmm : 2 ^ j = mm at *
      repeat' (first | refine SWp.seq ?_ | refine SWp.block ?_ | refine SWp.scope ?_ | refine SWp.condT rfl ?_ | refine SWp.condF rfl ?_ | (refine SWp.condD rfl (fun ht => ?_) (fun ht => ?_) <;> try (exfalso; omega)) | ((first | refine SWp.reg ?_ | refine SWp.skip ?_ | refine SWp.exit ?_ | refine SWp.ret ?_ | ((first | apply splitG | apply splitGB | apply splitR | apply splitRB | apply splitE | apply splitEB | apply splitC | apply splitCB) <;> intro ht)); all_goals try simp (disch := first | omega | (simp only [lens]; omega)) only [go_sem, Nat.reduceEqDiff, Nat.reduceBEq, Nat.reduceAdd, Nat.reduceMul, Nat.reduceSub, Nat.reduceLeDiff, Int.reduceToNat, Int.reducePow, q0, q3, q4]))
      exact DownV.same hw (rlB_ok _ rfl)
def rootF : Nat → List (List UInt8) → List UInt8
  | 0, _ => []
  | _ + 1, [] => shaS []
  | _ + 1, [h] => h
  | f + 1, a :: b :: l => nodeS (rootF f ((a :: b :: l).take (splitS (l.length + 2)))) (rootF f ((a :: b :: l).drop (splitS (l.length + 2))))
theorem rootF_eq : ∀ (f g : Nat) (l : List (List UInt8)), l.length < f → l.length < g → rootF f l = rootF g l
  | 0, _, _, h, _ => by omega
  | _ + 1, 0, _, _, h => by omega
  | f + 1, g + 1, [], _, _ => rfl
  | f + 1, g + 1, [_], _, _ => rfl
  | f + 1, g + 1, a :: b :: l, h, h' => by
    obtain ⟨s1, s2, s3⟩ := split_spec (n := l.length + 2) (by omega)
    simp only [List.length_cons] at h h'
    simp only [rootF]
    rw [rootF_eq f g ((a :: b :: l).take (splitS (l.length + 2))) (by rw [List.length_take]; simp; omega) (by rw [List.length_take]; simp; omega),
      rootF_eq f g ((a :: b :: l).drop (splitS (l.length + 2))) (by rw [List.length_drop]; simp; omega) (by rw [List.length_drop]; simp; omega)]
/-- The root of leaves. -/
def rootS (l : List (List UInt8)) : List UInt8 := rootF (l.length + 1) l
theorem rootS_nil : rootS [] = shaS [] := rfl
theorem rootS_one (h : List UInt8) : rootS [h] = h := rfl
theorem rootS_two {l : List (List UInt8)} (h : 2 ≤ l.length) : rootS l = nodeS (rootS (l.take (splitS l.length))) (rootS (l.drop (splitS l.length))) := by
  match l, h with
  | a :: b :: l, _ =>
    obtain ⟨s1, s2, s3⟩ := split_spec (n := l.length + 2) (by omega)
    unfold rootS
    simp only [rootF, List.length_cons]
    congr 1
    · refine rootF_eq _ _ _ ?_ (Nat.lt_succ_self _)
      rw [List.length_take]
      simp only [List.length_cons]
      omega
    · refine rootF_eq _ _ _ ?_ (Nat.lt_succ_self _)
      rw [List.length_drop]
      simp only [List.length_cons]
      omega
def H32 (l : List (List UInt8)) : Prop := ∀ h ∈ l, h.length = 32
theorem H32.take {l : List (List UInt8)} (h : H32 l) (n : Nat) : H32 (l.take n) := fun x hx => h x (List.mem_of_mem_take hx)
theorem H32.drop {l : List (List UInt8)} (h : H32 l) (n : Nat) : H32 (l.drop n) := fun x hx => h x (List.mem_of_mem_drop hx)
theorem rootS_len {l : List (List UInt8)} (h : H32 l) : (rootS l).length = 32 := by
  match l, h with
  | [], _ => exact shaS_len _
  | [x], h => exact h x (by simp)
  | a :: b :: l, _ => rw [rootS_two (by simp)]; exact nodeS_len _ _
end Am
end Go.Proofs.YtfofemaglndnjaaDoor
end
section
set_option linter.unusedSimpArgs false
set_option linter.unusedVariables false
/- Trees: contracts: Root. -/
set_option linter.unusedSimpArgs false
set_option linter.unusedVariables false
namespace Go.Proofs.YtfofemaglndnjaaDoor
namespace Am
/-- Hashes as_ rows. -/
def hrows (l : List (List UInt8)) : List (List AV) := l.map byteEsC
theorem hrows_len (l : List (List UInt8)) : (hrows l).length = l.length := by simp [hrows]
theorem hrows_get {l : List (List UInt8)} {i : Nat} (h : i < l.length) : (hrows l)[i]? = some (byteEsC l[i]) := by
  simp [hrows, List.getElem?_map, List.getElem?_eq_getElem h]
theorem hrows_take (l : List (List UInt8)) (n : Nat) : (hrows l).take n = hrows (l.take n) := by simp [hrows, List.map_take]
theorem hrows_drop (l : List (List UInt8)) (n : Nat) : (hrows l).drop n = hrows (l.drop n) := by simp [hrows, List.map_drop]
theorem hrows_nil {l : List (List UInt8)} : hrows l = [] ↔ l = [] := by simp [hrows]
theorem rlss_h {k : Nat} : ∀ (l : List (List UInt8)), RLss k (hrows l)
  | [] => by simp [hrows, RLss]
  | h :: l => by have := rlss_h (k := k) l; simp only [hrows] at this; simp [hrows, RLss, this, rl_bytes]
set_option maxHeartbeats 4000000 in
theorem Root_1_to (hs : List (List UInt8)) (hH : H32 hs) (hl : hs.length < 1000000000) (ex : Bool) (r1 r3 : Nat) :
    ∀ (d : Nat) (σ : Store) (a : Nat), 0 < d → a + d ≤ hs.length → σ[r1]? = some (some [[.vsl 32 (hrows hs) ex]]) → σ[r3]? = some (some [[.fn 68 [.ptr r1 0 0, .ptr r3 0 0]]]) →
      ACallsTo TC 68 [.int .i64 a, .int .i64 ((a + d : Nat) : Int), .ptr r1 0 0, .ptr r3 0 0] σ (.agg (byteEsC (rootS ((hs.drop a).take d)))) σ := by
  intro d
  induction d using Nat.strongRecOn with
  | _ d ih =>
    intro σ a h0 had hg1 hg3
    have hr1 := (List.getElem?_eq_some_iff.1 hg1).1
    have hr3 := (List.getElem?_eq_some_iff.1 hg3).1
    obtain ⟨L, hL⟩ : ∃ L, L = (hs.drop a).take d := ⟨_, rfl⟩
    have hLl : L.length = d := by rw [hL, List.length_take, List.length_drop]; omega
    have hLH : H32 L := by rw [hL]; exact (hH.drop a).take d
    have hn := rootS_len hLH
    have hc := byteEsC_len (rootS L)
    rw [hn] at hc
    rw [← hL]
    have hsub : ((a + d : Nat) : Int) - a = d := by omega
    by_cases h1 : d = 1
    · have e0 : splitS d = 0 := by unfold splitS; rw [if_pos (by omega)]
      have hsp := fun σ => trees_Split_to σ d (by omega)
      rw [e0] at hsp
      obtain ⟨x, hx⟩ : ∃ x, hs[a]? = some x := ⟨_, List.getElem?_eq_getElem (by omega)⟩
      have hgr : (hrows hs)[a]? = some (byteEsC x) := by simp [hrows, hx]
      have eL : rootS L = x := by
        have : L = [x] := by
          rw [hL, h1]
          apply List.ext_getElem?
          intro i
          cases i with
          | zero => simp [List.getElem?_take, List.getElem?_drop, hx]
          | succ i => simp [List.getElem?_take]
        rw [this]; rfl
      rw [eL] at hc ⊢
      have hrl := hrows_len hs
      clear eL
      generalize hrows hs = rows at *
      refine ACallsTo.of_body trees_Root_1_ok (by simp) fun hw _ => ?_
      repeat' (first | refine SWp.seq ?_ | refine SWp.block ?_ | refine SWp.scope ?_ | refine SWp.condT rfl ?_ | refine SWp.condF rfl ?_ | (refine SWp.condD rfl (fun ht => ?_) (fun ht => ?_) <;> try (exfalso; omega)) | ((first | refine SWp.reg ?_ | refine SWp.skip ?_ | refine SWp.exit ?_ | refine SWp.ret ?_ | (apply callW.any; (first | exact (hsp _))) | ((first | apply splitG | apply splitGB | apply splitR | apply splitRB | apply splitE | apply splitEB | apply splitC | apply splitCB) <;> intro ht)); all_goals try simp (disch := first | omega | (simp only [lens]; omega)) only [go_sem, Nat.reduceEqDiff, Nat.reduceBEq, Nat.reduceAdd, Nat.reduceMul, Nat.reduceSub, Nat.reduceLeDiff, Int.reduceToNat, Int.reducePow, hsub, hg1, hgr, hc]))
      exact DownV.pure hw (rl_agg (rl_bytes _))
    · obtain ⟨s1, s2, s3⟩ := split_spec (n := d) (by omega)
      have hsp := fun σ => trees_Split_to σ d (by omega)
      have eL := rootS_two (l := L) (by omega)
      rw [hLl] at eL
      have t1 : L.take (splitS d) = (hs.drop a).take (splitS d) := by rw [hL, List.take_take, Nat.min_eq_left (by omega)]
      have t2 : L.drop (splitS d) = (hs.drop (a + splitS d)).take (d - splitS d) := by rw [hL, List.drop_take, List.drop_drop]
      generalize hk : splitS d = k at *
      have i1 := fun y => ih k (by omega) (σ ++ y) a (by omega) (by omega) (by rw [gapp hr1]; exact hg1) (by rw [gapp hr3]; exact hg3)
      have i2 := fun y => ih (d - k) (by omega) (σ ++ y) (a + k) (by omega) (by omega) (by rw [gapp hr1]; exact hg1) (by rw [gapp hr3]; exact hg3)
      rw [← t1] at i1
      rw [← t2] at i2
      rw [show a + k + (d - k) = a + d by omega] at i2
      have n1 := rootS_len (hLH.take k)
      have n2 := rootS_len (hLH.drop k)
      have e1 : ((a : Int) + k) = ((a + k : Nat) : Int) := by omega
      rw [eL] at hc ⊢
      generalize rootS (L.take k) = A at *
      generalize rootS (L.drop k) = B at *
      have k0 : ¬ (k : Int) = 0 := by omega
      refine ACallsTo.of_body trees_Root_1_ok (by simp) fun hw _ => ?_
      repeat' (first | refine SWp.seq ?_ | refine SWp.block ?_ | refine SWp.scope ?_ | refine SWp.condT rfl ?_ | refine SWp.condF rfl ?_ | (refine SWp.condD rfl (fun ht => ?_) (fun ht => ?_) <;> try (exfalso; omega)) | ((first | refine SWp.regS ?_ | refine SWp.skip ?_ | refine SWp.exit ?_ | refine SWp.ret ?_ | (apply callW.any; (first | exact (hsp _) | exact (i1 _) | exact (i2 _) | exact (trees_Node_to _ _ _ n1 n2))) | ((first | apply splitG | apply splitGB | apply splitR | apply splitRB | apply splitE | apply splitEB | apply splitC | apply splitCB) <;> intro ht)); all_goals try simp (disch := first | omega | (simp only [lens]; omega)) only [go_sem, Nat.reduceEqDiff, Nat.reduceBEq, Nat.reduceAdd, Nat.reduceMul, Nat.reduceSub, Nat.reduceLeDiff, Int.reduceToNat, Int.reducePow, hsub, hg1, hg3, hc, e1]))
      exact DownV.pure hw (rl_agg (rl_bytes _))
theorem trees_Root_to (σ : Store) (hs : List (List UInt8)) (x : AV) (hx : SlV 32 (hrows hs) x) (hH : H32 hs) (hl : hs.length < 1000000000) : ACallsTo TC 22 [x] σ (.agg (byteEsC (rootS hs))) σ := by
  have hc := byteEsC_len (rootS hs)
  rw [rootS_len hH] at hc
  have hrl := hrows_len hs
  by_cases h0 : hs = []
  · subst h0
    have hx' := hx.len
    unfold rLenSl at hx'
    refine ACallsTo.of_body trees_Root_ok (by simp) fun hw _ => ?_
    rw [rootS_nil] at hc ⊢
    rcases hx with ⟨rfl, h⟩ | ⟨ex, rfl⟩
    · repeat' (first | refine SWp.seq ?_ | refine SWp.block ?_ | refine SWp.scope ?_ | refine SWp.condT rfl ?_ | refine SWp.condF rfl ?_ | (refine SWp.condD rfl (fun ht => ?_) (fun ht => ?_) <;> try (exfalso; omega)) | ((first | refine SWp.reg ?_ | refine SWp.skip ?_ | refine SWp.exit ?_ | refine SWp.ret ?_ | (apply callW.any; (first | exact (sha_Sum_to _ [] (by simp)))) | ((first | apply splitG | apply splitGB | apply splitR | apply splitRB | apply splitE | apply splitEB | apply splitC | apply splitCB) <;> intro ht)); all_goals try simp (disch := first | omega | (simp only [lens]; omega)) only [go_sem, Nat.reduceEqDiff, Nat.reduceBEq, Nat.reduceAdd, Nat.reduceMul, Nat.reduceSub, Nat.reduceLeDiff, Int.reduceToNat, Int.reducePow, hc]))
      exact DownV.pure hw (rl_agg (rl_bytes _))
    · repeat' (first | refine SWp.seq ?_ | refine SWp.block ?_ | refine SWp.scope ?_ | refine SWp.condT rfl ?_ | refine SWp.condF rfl ?_ | (refine SWp.condD rfl (fun ht => ?_) (fun ht => ?_) <;> try (exfalso; omega)) | ((first | refine SWp.reg ?_ | refine SWp.skip ?_ | refine SWp.exit ?_ | refine SWp.ret ?_ | (apply callW.any; (first | exact (sha_Sum_to _ [] (by simp)))) | ((first | apply splitG | apply splitGB | apply splitR | apply splitRB | apply splitE | apply splitEB | apply splitC | apply splitCB) <;> intro ht)); all_goals try simp (disch := first | omega | (simp only [lens]; omega)) only [go_sem, Nat.reduceEqDiff, Nat.reduceBEq, Nat.reduceAdd, Nat.reduceMul, Nat.reduceSub, Nat.reduceLeDiff, Int.reduceToNat, Int.reducePow, hc, hrl]))
      exact DownV.pure hw (rl_agg (rl_bytes _))
  · have hpos : 0 < hs.length := List.length_pos_iff.2 h0
    obtain ⟨ex, rfl⟩ := hx.vsl (by rw [hrl]; exact hpos)
    have h1 := Root_1_to hs hH hl ex σ.length (σ.length + 2) hs.length
    refine ACallsTo.of_body trees_Root_ok (by simp) fun hw _ => ?_
    have h1 := fun σ' => h1 σ' 0 hpos (by omega)
    simp only [Nat.zero_add, List.drop_zero, List.take_length] at h1
    generalize rootS hs = R at *
    generalize hrows hs = rows at *
    repeat' (first | refine SWp.seq ?_ | refine SWp.block ?_ | refine SWp.scope ?_ | refine SWp.condT rfl ?_ | refine SWp.condF rfl ?_ | (refine SWp.condD rfl (fun ht => ?_) (fun ht => ?_) <;> try (exfalso; omega)) | ((first | refine SWp.reg ?_ | refine SWp.skip ?_ | refine SWp.exit ?_ | refine SWp.ret ?_ | (apply callW.any; (first | exact (h1 _ (by simp) (by simp)))) | ((first | apply splitG | apply splitGB | apply splitR | apply splitRB | apply splitE | apply splitEB | apply splitC | apply splitCB) <;> intro ht)); all_goals try simp (disch := first | omega | (simp only [lens]; omega)) only [go_sem, Nat.reduceEqDiff, Nat.reduceBEq, Nat.reduceAdd, Nat.reduceMul, Nat.reduceSub, Nat.reduceLeDiff, Int.reduceToNat, Int.reducePow, hc, hrl]))
    exact DownV.pure hw (rl_agg (rl_bytes _))
set_option maxHeartbeats 4000000 in
theorem ref_Root_v (f : Nat) : ∀ (σ : Store) (hs : List (List UInt8)) (ex : Bool), hs.length < f → H32 hs → hs.length < 1000000000 → ACallsTo TC 71 [.vsl 32 (hrows hs) ex] σ (.agg (byteEsC (rootS hs))) σ := by
  induction f with
  | zero => intro σ hs ex h; omega
  | succ f ih =>
    intro σ hs ex hf hH hl
    have hc := byteEsC_len (rootS hs)
    rw [rootS_len hH] at hc
    have hrl := hrows_len hs
    by_cases h0 : hs.length = 0
    · obtain rfl : hs = [] := List.eq_nil_of_length_eq_zero h0
      rw [rootS_nil] at hc ⊢
      refine ACallsTo.of_body speculumref04_Root_ok (by simp) fun hw _ => ?_
      repeat' (first | refine SWp.seq ?_ | refine SWp.block ?_ | refine SWp.scope ?_ | refine SWp.condT rfl ?_ | refine SWp.condF rfl ?_ | (refine SWp.condD rfl (fun ht => ?_) (fun ht => ?_) <;> try (exfalso; omega)) | ((first | refine SWp.reg ?_ | refine SWp.skip ?_ | refine SWp.exit ?_ | refine SWp.ret ?_ | (apply callW.any; (first | exact (ref_Sum_to _ [] (by simp)))) | ((first | apply splitG | apply splitGB | apply splitR | apply splitRB | apply splitE | apply splitEB | apply splitC | apply splitCB) <;> intro ht)); all_goals try simp (disch := first | omega | (simp only [lens]; omega)) only [go_sem, Nat.reduceEqDiff, Nat.reduceBEq, Nat.reduceAdd, Nat.reduceMul, Nat.reduceSub, Nat.reduceLeDiff, Int.reduceToNat, Int.reducePow, hc, hrl]))
      exact DownV.pure hw (rl_agg (rl_bytes _))
    · by_cases h1 : hs.length = 1
      · obtain ⟨x, rfl⟩ := List.length_eq_one_iff.1 h1
        rw [rootS_one] at hc ⊢
        refine ACallsTo.of_body speculumref04_Root_ok (by simp) fun hw _ => ?_
        simp only [hrows, List.map_cons, List.map_nil]
        repeat' (first | refine SWp.seq ?_ | refine SWp.block ?_ | refine SWp.scope ?_ | refine SWp.condT rfl ?_ | refine SWp.condF rfl ?_ | (refine SWp.condD rfl (fun ht => ?_) (fun ht => ?_) <;> try (exfalso; omega)) | ((first | refine SWp.reg ?_ | refine SWp.skip ?_ | refine SWp.exit ?_ | refine SWp.ret ?_ | ((first | apply splitG | apply splitGB | apply splitR | apply splitRB | apply splitE | apply splitEB | apply splitC | apply splitCB) <;> intro ht)); all_goals try simp (disch := first | omega | (simp only [lens]; omega)) only [go_sem, Nat.reduceEqDiff, Nat.reduceBEq, Nat.reduceAdd, Nat.reduceMul, Nat.reduceSub, Nat.reduceLeDiff, Int.reduceToNat, Int.reducePow, hc]))
        exact DownV.pure hw (rl_agg (rl_bytes _))
      · obtain ⟨s1, s2, s3⟩ := split_spec (n := hs.length) (by omega)
        have hsp := fun σ => ref_Split_to σ hs.length (by omega)
        have eL := rootS_two (l := hs) (by omega)
        have n1 := rootS_len (hH.take (splitS hs.length))
        have n2 := rootS_len (hH.drop (splitS hs.length))
        have i1 := fun σ ex => ih σ (hs.take (splitS hs.length)) ex (by rw [List.length_take]; omega) (hH.take _) (by rw [List.length_take]; omega)
        have i2 := fun σ ex => ih σ (hs.drop (splitS hs.length)) ex (by rw [List.length_drop]; omega) (hH.drop _) (by rw [List.length_drop]; omega)
        rw [eL] at hc ⊢
        have tk := hrows_take hs (splitS hs.length)
        have dk := hrows_drop hs (splitS hs.length)
        generalize rootS (hs.take (splitS hs.length)) = A at *
        generalize rootS (hs.drop (splitS hs.length)) = B at *
        generalize hrows (hs.take (splitS hs.length)) = ra at *
        generalize hrows (hs.drop (splitS hs.length)) = rb at *
        generalize hrows hs = rows at *
        generalize splitS hs.length = k at *
        have k0 : ¬ (hs.length : Int) = 0 := by omega
        have k1 : ¬ (hs.length : Int) = 1 := by omega
        refine ACallsTo.of_body speculumref04_Root_ok (by simp) fun hw _ => ?_
        repeat' (first | refine SWp.seq ?_ | refine SWp.block ?_ | refine SWp.scope ?_ | refine SWp.condT rfl ?_ | refine SWp.condF rfl ?_ | (refine SWp.condD rfl (fun ht => ?_) (fun ht => ?_) <;> try (exfalso; omega)) | ((first | refine SWp.regS ?_ | refine SWp.skip ?_ | refine SWp.exit ?_ | refine SWp.ret ?_ | (apply callW.any; (first | exact (hsp _) | exact (i1 _ _) | exact (i2 _ _) | exact (ref_Node_to _ _ _ n1 n2))) | ((first | apply splitG | apply splitGB | apply splitR | apply splitRB | apply splitE | apply splitEB | apply splitC | apply splitCB) <;> intro ht)); all_goals try simp (disch := first | omega | (simp only [lens]; omega)) only [go_sem, Nat.reduceEqDiff, Nat.reduceBEq, Nat.reduceAdd, Nat.reduceMul, Nat.reduceSub, Nat.reduceLeDiff, Int.reduceToNat, Int.reducePow, hc, hrl, tk, dk]))
        exact DownV.pure hw (rl_agg (rl_bytes _))
theorem ref_Root_to (σ : Store) (hs : List (List UInt8)) (x : AV) (hx : SlV 32 (hrows hs) x) (hH : H32 hs) (hl : hs.length < 1000000000) : ACallsTo TC 71 [x] σ (.agg (byteEsC (rootS hs))) σ := by
  rcases hx with ⟨rfl, h⟩ | ⟨ex, rfl⟩
  · obtain rfl := hrows_nil.1 h
    have hc := byteEsC_len (rootS [])
    rw [rootS_len hH] at hc
    rw [rootS_nil] at hc ⊢
    refine ACallsTo.of_body speculumref04_Root_ok (by simp) fun hw _ => ?_
    repeat' (first | refine SWp.seq ?_ | refine SWp.block ?_ | refine SWp.scope ?_ | refine SWp.condT rfl ?_ | refine SWp.condF rfl ?_ | (refine SWp.condD rfl (fun ht => ?_) (fun ht => ?_) <;> try (exfalso; omega)) | ((first | refine SWp.reg ?_ | refine SWp.skip ?_ | refine SWp.exit ?_ | refine SWp.ret ?_ | (apply callW.any; (first | exact (ref_Sum_to _ [] (by simp)))) | ((first | apply splitG | apply splitGB | apply splitR | apply splitRB | apply splitE | apply splitEB | apply splitC | apply splitCB) <;> intro ht)); all_goals try simp (disch := first | omega | (simp only [lens]; omega)) only [go_sem, Nat.reduceEqDiff, Nat.reduceBEq, Nat.reduceAdd, Nat.reduceMul, Nat.reduceSub, Nat.reduceLeDiff, Int.reduceToNat, Int.reducePow, hc]))
    exact DownV.pure hw (rl_agg (rl_bytes _))
  · exact ref_Root_v (hs.length + 1) σ hs ex (by omega) hH hl
end Am
end Go.Proofs.YtfofemaglndnjaaDoor
end
section
set_option linter.unusedSimpArgs false
set_option linter.unusedVariables false
/- Slices that are read: values, or own rows lent; Same; Some. -/
set_option linter.unusedSimpArgs false
set_option linter.unusedVariables false
namespace Go.Proofs.YtfofemaglndnjaaDoor
namespace Am
/-- A slice that is read: a value, or an own row. -/
def RdSl (σ : Store) (sz : Nat) (es : List (List AV)) (x : AV) : Prop :=
  SlV sz es x ∨ ∃ r off lim o, x = .sl r off es.length lim sz ∧ σ[r]? = some (some o) ∧ off + es.length ≤ o.length ∧ (o.drop off).take es.length = es
theorem RdSl.of {σ : Store} {sz : Nat} {es : List (List AV)} {x : AV} (h : SlV sz es x) : RdSl σ sz es x := .inl h
theorem OwnN.rd {sz : Nat} {τ σ' : Store} {v : AV} {es : List (List AV)} (h : OwnN sz τ σ' v es) : RdSl σ' sz es v := by
  by_cases h0 : es = []
  · obtain ⟨news, rfl, ⟨rfl, rfl⟩ | ⟨j, h1, _⟩⟩ := h
    · exact .inl (.inl ⟨rfl, rfl⟩)
    · exact absurd h0 h1
  · obtain ⟨r, rfl, hg, _⟩ := h.sl h0
    exact .inr ⟨r, 0, none, es, rfl, hg, by omega, by rw [List.drop_zero, List.take_of_length_le (Nat.le_refl _)]⟩
theorem RdSl.app {σ y : Store} {sz : Nat} {es : List (List AV)} {x : AV} (h : RdSl σ sz es x) : RdSl (σ ++ y) sz es x := by
  rcases h with h | ⟨r, off, lim, o, rfl, hg, h1, h2⟩
  · exact .inl h
  · exact .inr ⟨r, off, lim, o, rfl, by rw [gapp (List.getElem?_eq_some_iff.1 hg).1]; exact hg, h1, h2⟩
theorem RdSl.len {σ : Store} {sz : Nat} {es : List (List AV)} {x : AV} (h : RdSl σ sz es x) : rLenSl x = some (.int .i64 es.length) := by
  rcases h with h | ⟨r, off, lim, o, rfl, _⟩
  · exact h.len
  · rfl
theorem RdSl.lend {σ : Store} {sz : Nat} {es : List (List AV)} {x : AV} (h : RdSl σ sz es x) (hr : RLss 0 es) : ∃ x0, SlV sz es x0 ∧ DR (lendD σ) x0 x := by
  rcases h with h | ⟨r, off, lim, o, rfl, hg, h1, h2⟩
  · refine ⟨x, h, DR.refl (k := 0) (by omega) x ?_⟩
    rcases h with ⟨rfl, _⟩ | ⟨ex, rfl⟩
    · simp [RL]
    · simpa only [RL] using hr
  · refine ⟨.vsl sz es false, .inr ⟨false, rfl⟩, ?_⟩
    simp only [DR, lendD]
    exact .inr ⟨r, off, lim, o, rfl, trivial, hg, h1, by simp, by rw [h2]; exact DRss.refl (k := 0) (by omega) es hr⟩
theorem rl0 {a : AV} (h : RL 0 a) (σ : Store) : DR (lendD σ) a a := DR.refl (k := 0) (by omega) a h
theorem drs1 {D : DC} {a b : AV} (h : DR D a b) : DRs D [a] [b] := by simp only [DRs]; exact ⟨b, [], rfl, h, rfl⟩
theorem drsc {D : DC} {a b : AV} {l m : List AV} (h : DR D a b) (h2 : DRs D l m) : DRs D (a :: l) (b :: m) := by simp only [DRs]; exact ⟨b, m, rfl, h, h2⟩
theorem shs_bytes (k : Nat) : ∀ (l : List UInt8), shs k (byteEsC l) = byteEsC l
  | [] => rfl
  | b :: l => by have := shs_bytes k l; simp only [byteEsC] at this; simp [byteEsC, shs, sh, this]
theorem sh_hash (k : Nat) (l : List UInt8) : sh k (.agg (byteEsC l)) = .agg (byteEsC l) := by simp only [sh, shs_bytes]
theorem shS_nil (k : Nat) : shS k [] = [] := rfl
theorem trees_Root_rd (σ : Store) (hs : List (List UInt8)) (x : AV) (hx : RdSl σ 32 (hrows hs) x) (hH : H32 hs) (hl : hs.length < 1000000000) : ACallsTo TC 22 [x] σ (.agg (byteEsC (rootS hs))) σ := by
  obtain ⟨x0, h0, hd⟩ := hx.lend (rlss_h hs)
  have := ACallsTo.lend glok (trees_Root_to [] hs x0 h0 hH hl) (drs1 hd)
  rwa [sh_hash, shS_nil, List.append_nil] at this
theorem eq_hash : ∀ (a b : List UInt8), eqCells (byteEsC a) (byteEsC b) = decide (a = b)
  | [], [] => rfl
  | [], _ :: _ => rfl
  | _ :: _, [] => rfl
  | a :: l, b :: m => by
    have ih := eq_hash l m
    simp only [byteEsC, List.map_cons, eqCells, eqCell] at ih ⊢
    rw [ih, Bool.eq_iff_iff]
    simp [← UInt8.toNat_inj]
    intro _
    omega
theorem kind_hash : ∀ (l : List UInt8), (byteEsC l).map kindOf = List.replicate l.length (some (LK.i .u8))
  | [] => rfl
  | _ :: l => by have := kind_hash l; simp only [byteEsC] at this; simp [byteEsC, kindOf, this, List.replicate_succ]
theorem kinds32 {l : List UInt8} (h : l.length = 32) : (byteEsC l).map kindOf = (List.replicate 32 (LK.i .u8)).map some := by rw [kind_hash, h]; rfl
set_option maxHeartbeats 4000000 in
theorem Same_to (σ : Store) (A B : List (List UInt8)) (x y : AV) (hx : SlV 32 (hrows A) x) (hy : SlV 32 (hrows B) y) (hA : H32 A) (hB : H32 B) (hl : A.length < 1000000000) (hl2 : B.length < 1000000000) :
    ACallsTo TC 18 [x, y] σ (.bool (decide (A = B))) σ := by
  refine ACallsTo.of_body speculumlaw03_Same_ok (by simp) fun hw _ => ?_
  have r1 := hx.len
  have r2 := hy.len
  rw [hrows_len] at r1 r2
  unfold rLenSl at r1 r2
  by_cases hL : A.length = B.length
  · repeat' (first | refine SWp.seq ?_ | refine SWp.block ?_ | refine SWp.scope ?_ | refine SWp.condT rfl ?_ | refine SWp.condF rfl ?_ | (refine SWp.condD rfl (fun ht => ?_) (fun ht => ?_) <;> try (exfalso; omega)) | ((first | refine SWp.reg ?_ | refine SWp.skip ?_ | refine SWp.exit ?_ | refine SWp.ret ?_ | ((first | apply splitG | apply splitGB | apply splitR | apply splitRB | apply splitE | apply splitEB | apply splitC | apply splitCB) <;> intro ht)); all_goals try simp (disch := first | omega | (simp only [lens]; omega)) only [go_sem, Nat.reduceEqDiff, Nat.reduceBEq, Nat.reduceAdd, Nat.reduceMul, Nat.reduceSub, Nat.reduceLeDiff, Int.reduceToNat, Int.reducePow, r1, r2]))
    refine SWp.loop (fun m ρ σ' => ∃ i : Nat, σ' = σ ∧ m + i = A.length ∧ A.take i = B.take i ∧ ρ 0 = x ∧ ρ 1 = y ∧ ρ 5 = .int .i64 i) A.length ?_ ?_
    · exact ⟨0, rfl, by omega, rfl, by simp (disch := first | omega | (simp only [lens]; omega)) only [go_sem, Nat.reduceEqDiff, Nat.reduceBEq, Nat.reduceAdd, Nat.reduceMul, Nat.reduceSub, Nat.reduceLeDiff, Int.reduceToNat, Int.reducePow], by simp (disch := first | omega | (simp only [lens]; omega)) only [go_sem, Nat.reduceEqDiff, Nat.reduceBEq, Nat.reduceAdd, Nat.reduceMul, Nat.reduceSub, Nat.reduceLeDiff, Int.reduceToNat, Int.reducePow], by simp (disch := first | omega | (simp only [lens]; omega)) only [go_sem, Nat.reduceEqDiff, Nat.reduceBEq, Nat.reduceAdd, Nat.reduceMul, Nat.reduceSub, Nat.reduceLeDiff, Int.reduceToNat, Int.reducePow]; rfl⟩
    · rintro m ρ σ' ⟨i, rfl, hm, hp, q0, q1, q5⟩
      by_cases hi : i < A.length
      · have hi2 : i < B.length := by omega
        obtain ⟨e1, rfl⟩ := hx.vsl (by rw [hrows_len]; omega)
        obtain ⟨e2, rfl⟩ := hy.vsl (by rw [hrows_len]; omega)
        have g1 := hrows_get hi
        have g2 := hrows_get hi2
        have c1 := byteEsC_len A[i]
        have c2 := byteEsC_len B[i]
        rw [hA _ (List.getElem_mem _)] at c1
        rw [hB _ (List.getElem_mem _)] at c2
        have k1 := kinds32 (hA _ (List.getElem_mem hi))
        have k2 := kinds32 (hB _ (List.getElem_mem hi2))
        have heq := eq_hash A[i] B[i]
        have l1 := hrows_len A
        have l2 := hrows_len B
        have hn1 : A.take (i + 1) = A.take i ++ [A[i]] := (List.take_append_getElem hi).symm
        have hn2 : B.take (i + 1) = B.take i ++ [B[i]] := (List.take_append_getElem hi2).symm
        by_cases he : A[i] = B[i]
        · have hn : A.take (i + 1) = B.take (i + 1) := by rw [hn1, hn2, hp, he]
          rw [decide_eq_true he] at heq
          clear hn1 hn2 he
          generalize byteEsC A[i] = ra at *
          generalize byteEsC B[i] = rb at *
          generalize hrows A = rA at *
          generalize hrows B = rB at *
          repeat' (first | refine SWp.seq ?_ | refine SWp.block ?_ | refine SWp.scope ?_ | refine SWp.condT rfl ?_ | refine SWp.condF rfl ?_ | (refine SWp.condD rfl (fun ht => ?_) (fun ht => ?_) <;> try (exfalso; omega)) | ((first | refine SWp.regS ?_ | refine SWp.skip ?_ | refine SWp.exit ?_ | refine SWp.ret ?_ | ((first | apply splitG | apply splitGB | apply splitR | apply splitRB | apply splitE | apply splitEB | apply splitC | apply splitCB) <;> intro ht)); all_goals try simp (disch := first | omega | (simp only [lens]; omega)) only [go_sem, Nat.reduceEqDiff, Nat.reduceBEq, Nat.reduceAdd, Nat.reduceMul, Nat.reduceSub, Nat.reduceLeDiff, Int.reduceToNat, Int.reducePow, q0, q1, q5, g1, g2, c1, c2, k1, k2, heq, l1, l2]))
          exact ⟨A.length - (i + 1), by omega, i + 1, by omega, hn, by simp⟩
        · have e : decide (A = B) = false := decide_eq_false fun e => he (by subst e; rfl)
          rw [decide_eq_false he] at heq
          rw [e]
          clear hn1 hn2 he
          generalize byteEsC A[i] = ra at *
          generalize byteEsC B[i] = rb at *
          generalize hrows A = rA at *
          generalize hrows B = rB at *
          repeat' (first | refine SWp.seq ?_ | refine SWp.block ?_ | refine SWp.scope ?_ | refine SWp.condT rfl ?_ | refine SWp.condF rfl ?_ | (refine SWp.condD rfl (fun ht => ?_) (fun ht => ?_) <;> try (exfalso; omega)) | ((first | refine SWp.regS ?_ | refine SWp.skip ?_ | refine SWp.exit ?_ | refine SWp.ret ?_ | ((first | apply splitG | apply splitGB | apply splitR | apply splitRB | apply splitE | apply splitEB | apply splitC | apply splitCB) <;> intro ht)); all_goals try simp (disch := first | omega | (simp only [lens]; omega)) only [go_sem, Nat.reduceEqDiff, Nat.reduceBEq, Nat.reduceAdd, Nat.reduceMul, Nat.reduceSub, Nat.reduceLeDiff, Int.reduceToNat, Int.reducePow, q0, q1, q5, g1, g2, c1, c2, k1, k2, heq, l1, l2]))
          exact DownV.same hw (rlB_ok _ rfl)
      · have e : decide (A = B) = true := decide_eq_true (by
          rw [List.take_of_length_le (by omega), List.take_of_length_le (by omega)] at hp
          exact hp)
        rw [e]
        repeat' (first | refine SWp.seq ?_ | refine SWp.block ?_ | refine SWp.scope ?_ | refine SWp.condT rfl ?_ | refine SWp.condF rfl ?_ | (refine SWp.condD rfl (fun ht => ?_) (fun ht => ?_) <;> try (exfalso; omega)) | ((first | refine SWp.reg ?_ | refine SWp.skip ?_ | refine SWp.exit ?_ | refine SWp.ret ?_ | ((first | apply splitG | apply splitGB | apply splitR | apply splitRB | apply splitE | apply splitEB | apply splitC | apply splitCB) <;> intro ht)); all_goals try simp (disch := first | omega | (simp only [lens]; omega)) only [go_sem, Nat.reduceEqDiff, Nat.reduceBEq, Nat.reduceAdd, Nat.reduceMul, Nat.reduceSub, Nat.reduceLeDiff, Int.reduceToNat, Int.reducePow, q0, q1, q5, r1, r2]))
        exact DownV.same hw (rlB_ok _ rfl)
  · have e : decide (A = B) = false := decide_eq_false fun e => hL (by rw [e])
    rw [e]
    repeat' (first | refine SWp.seq ?_ | refine SWp.block ?_ | refine SWp.scope ?_ | refine SWp.condT rfl ?_ | refine SWp.condF rfl ?_ | (refine SWp.condD rfl (fun ht => ?_) (fun ht => ?_) <;> try (exfalso; omega)) | ((first | refine SWp.reg ?_ | refine SWp.skip ?_ | refine SWp.exit ?_ | refine SWp.ret ?_ | ((first | apply splitG | apply splitGB | apply splitR | apply splitRB | apply splitE | apply splitEB | apply splitC | apply splitCB) <;> intro ht)); all_goals try simp (disch := first | omega | (simp only [lens]; omega)) only [go_sem, Nat.reduceEqDiff, Nat.reduceBEq, Nat.reduceAdd, Nat.reduceMul, Nat.reduceSub, Nat.reduceLeDiff, Int.reduceToNat, Int.reducePow, r1, r2]))
    exact DownV.same hw (rlB_ok _ rfl)
theorem Same_rd (σ : Store) (A B : List (List UInt8)) (x y : AV) (hx : RdSl σ 32 (hrows A) x) (hy : RdSl σ 32 (hrows B) y) (hA : H32 A) (hB : H32 B) (hl : A.length < 1000000000) (hl2 : B.length < 1000000000) :
    ACallsTo TC 18 [x, y] σ (.bool (decide (A = B))) σ := by
  obtain ⟨x0, h0, hd⟩ := hx.lend (rlss_h A)
  obtain ⟨y0, h1, hd1⟩ := hy.lend (rlss_h B)
  have := ACallsTo.lend glok (Same_to [] A B x0 y0 h0 h1 hA hB hl hl2) (drsc hd (drs1 hd1))
  rwa [show sh σ.length (.bool (decide (A = B))) = .bool (decide (A = B)) from rfl, shS_nil, List.append_nil] at this
/-- Some leaves. -/
def someH (seed : UInt8) (i : Nat) : List UInt8 := seed :: UInt8.ofNat i :: UInt8.ofNat (i / 256) :: 1 :: List.replicate 28 0
def someS (seed : UInt8) (n : Nat) : List (List UInt8) := (List.range n).map (someH seed)
theorem someS_len (seed : UInt8) (n : Nat) : (someS seed n).length = n := by simp [someS]
theorem someS_H (seed : UInt8) (n : Nat) : H32 (someS seed n) := by
  intro h hh
  simp only [someS, List.mem_map] at hh
  obtain ⟨i, _, rfl⟩ := hh
  simp [someH]
theorem someS_succ (seed : UInt8) (n : Nat) : someS seed (n + 1) = someS seed n ++ [someH seed n] := by simp [someS, List.range_succ]
set_option maxHeartbeats 4000000 in
theorem Some_to (σ : Store) (n : Int) (seed : UInt8) (h : n < 1000000) : ACallsTo TC 21 [.int .i64 n, .int .u8 seed.toNat] σ (slVal 32 (hrows (someS seed n.toNat))) σ := by
  refine ACallsTo.of_body speculumlaw04_Some_ok (by simp) fun hw _ => ?_
  repeat' (first | refine SWp.seq ?_ | refine SWp.block ?_ | refine SWp.scope ?_ | refine SWp.condT rfl ?_ | refine SWp.condF rfl ?_ | (refine SWp.condD rfl (fun ht => ?_) (fun ht => ?_) <;> try (exfalso; omega)) | ((first | refine SWp.reg ?_ | refine SWp.skip ?_ | refine SWp.exit ?_ | refine SWp.ret ?_ | ((first | apply splitG | apply splitGB | apply splitR | apply splitRB | apply splitE | apply splitEB | apply splitC | apply splitCB) <;> intro ht)); all_goals try simp (disch := first | omega | (simp only [lens]; omega)) only [go_sem, Nat.reduceEqDiff, Nat.reduceBEq, Nat.reduceAdd, Nat.reduceMul, Nat.reduceSub, Nat.reduceLeDiff, Int.reduceToNat, Int.reducePow]))
  refine SWp.loop (fun m ρ σ' => ∃ i : Nat, m + i = n.toNat ∧ ρ 0 = .int .i64 n ∧ ρ 1 = .int .u8 seed.toNat ∧ ρ 6 = .int .i64 i ∧ OwnN 32 σ σ' (ρ 5) (hrows (someS seed i))) n.toNat ?_ ?_
  · refine ⟨0, by omega, by simp (disch := first | omega | (simp only [lens]; omega)) only [go_sem, Nat.reduceEqDiff, Nat.reduceBEq, Nat.reduceAdd, Nat.reduceMul, Nat.reduceSub, Nat.reduceLeDiff, Int.reduceToNat, Int.reducePow], by simp (disch := first | omega | (simp only [lens]; omega)) only [go_sem, Nat.reduceEqDiff, Nat.reduceBEq, Nat.reduceAdd, Nat.reduceMul, Nat.reduceSub, Nat.reduceLeDiff, Int.reduceToNat, Int.reducePow], by simp (disch := first | omega | (simp only [lens]; omega)) only [go_sem, Nat.reduceEqDiff, Nat.reduceBEq, Nat.reduceAdd, Nat.reduceMul, Nat.reduceSub, Nat.reduceLeDiff, Int.reduceToNat, Int.reducePow]; rfl, ?_⟩
    simp (disch := first | omega | (simp only [lens]; omega)) only [go_sem, Nat.reduceEqDiff, Nat.reduceBEq, Nat.reduceAdd, Nat.reduceMul, Nat.reduceSub, Nat.reduceLeDiff, Int.reduceToNat, Int.reducePow]
    have := OwnN.nil (sz := 32) (τ := σ) (news := [])
    rwa [List.append_nil] at this
  · rintro m ρ σ' ⟨i, hm, q0, q1, q6, hO⟩
    by_cases hi : (i : Int) < n
    · obtain ⟨v', σ2, he, hO2⟩ := hO.app (ys := hrows [someH seed i]) (by simp [hrows]) (by rw [hrows_len, someS_len, hrows_len]; simp; omega)
      have hb : hrows [someH seed i] = [[.int .u8 seed.toNat, .int .u8 ((i : Int) % 256), .int .u8 ((i : Int) / 256 % 256), .int .u8 1, .int .u8 0, .int .u8 0, .int .u8 0, .int .u8 0, .int .u8 0, .int .u8 0, .int .u8 0, .int .u8 0, .int .u8 0, .int .u8 0, .int .u8 0, .int .u8 0, .int .u8 0, .int .u8 0, .int .u8 0, .int .u8 0, .int .u8 0, .int .u8 0, .int .u8 0, .int .u8 0, .int .u8 0, .int .u8 0, .int .u8 0, .int .u8 0, .int .u8 0, .int .u8 0, .int .u8 0, .int .u8 0]] := by
        simp [hrows, byteEsC, someH, List.replicate_succ]
      rw [hb] at he
      generalize hv : ρ 5 = v at *
      repeat' (first | refine SWp.seq ?_ | refine SWp.block ?_ | refine SWp.scope ?_ | refine SWp.condT rfl ?_ | refine SWp.condF rfl ?_ | (refine SWp.condD rfl (fun ht => ?_) (fun ht => ?_) <;> try (exfalso; omega)) | ((first | refine SWp.reg ?_ | refine SWp.skip ?_ | refine SWp.exit ?_ | refine SWp.ret ?_ | ((first | apply splitG | apply splitGB | apply splitR | apply splitRB | apply splitE | apply splitEB | apply splitC | apply splitCB) <;> intro ht)); all_goals try simp (disch := first | omega | (simp only [lens]; omega)) only [go_sem, Nat.reduceEqDiff, Nat.reduceBEq, Nat.reduceAdd, Nat.reduceMul, Nat.reduceSub, Nat.reduceLeDiff, Int.reduceToNat, Int.reducePow, q0, q1, q6, hv, he]))
      exact ⟨n.toNat - (i + 1), by omega, i + 1, by omega, by simp, by rw [someS_succ]; simpa [hrows] using hO2⟩
    · have e : n.toNat = i := by omega
      generalize hv : ρ 5 = v at *
      rw [e]
      repeat' (first | refine SWp.seq ?_ | refine SWp.block ?_ | refine SWp.scope ?_ | refine SWp.condT rfl ?_ | refine SWp.condF rfl ?_ | (refine SWp.condD rfl (fun ht => ?_) (fun ht => ?_) <;> try (exfalso; omega)) | ((first | refine SWp.reg ?_ | refine SWp.skip ?_ | refine SWp.exit ?_ | refine SWp.ret ?_ | ((first | apply splitG | apply splitGB | apply splitR | apply splitRB | apply splitE | apply splitEB | apply splitC | apply splitCB) <;> intro ht)); all_goals try simp (disch := first | omega | (simp only [lens]; omega)) only [go_sem, Nat.reduceEqDiff, Nat.reduceBEq, Nat.reduceAdd, Nat.reduceMul, Nat.reduceSub, Nat.reduceLeDiff, Int.reduceToNat, Int.reducePow, q0, q6, hv]))
      exact hO.froze hw (rlss_h _)
end Am
end Go.Proofs.YtfofemaglndnjaaDoor
end
section
set_option linter.unusedSimpArgs false
set_option linter.unusedVariables false
/- Abstract code. (Printed by wip/gen.) -/
set_option maxRecDepth 10000
namespace Go.Proofs.YtfofemaglndnjaaDoor
namespace Am



@[go_sem] def speculumlaw07_ProofsCheck_r0 : List AIns := [
  ⟨some 2, none, .no, .box (.t 0)⟩,
  ⟨some 4, none, .no, .mv (.v (.bool false))⟩]
@[go_sem] def speculumlaw07_ProofsCheck_r1 : List AIns := [
  ⟨some 14, none, .no, .mv (.t 1)⟩,
  ⟨some 15, none, .no, .lenSl (.t 14)⟩,
  ⟨some 16, none, .no, .bin .gtr .none (.t 15) (.v (.int .i64 (80)))⟩]
@[go_sem] def speculumlaw07_ProofsCheck_r2 : List AIns := [
  ⟨some 17, none, .no, .call (.v (.fn 15 [])) []⟩,
  ⟨some 4, none, .no, .mv (.t 17)⟩]
def speculumlaw07_ProofsCheck_c3 : ACode := .seq (.reg speculumlaw07_ProofsCheck_r2) .ret
def speculumlaw07_ProofsCheck_c4 : ACode := .cond (.t 16) speculumlaw07_ProofsCheck_c3 .skip
def speculumlaw07_ProofsCheck_c5 : ACode := .seq (.reg speculumlaw07_ProofsCheck_r1) speculumlaw07_ProofsCheck_c4
@[go_sem] def speculumlaw07_ProofsCheck_r6 : List AIns := [
  ⟨some 18, none, .no, .fa 0 (.t 2)⟩,
  ⟨some 19, none, .rd, .load false 1 (.t 18)⟩,
  ⟨some 20, none, .no, .fa 1 (.t 2)⟩,
  ⟨some 21, none, .rd, .load false 1 (.t 20)⟩,
  ⟨some 22, none, .no, .fa 2 (.t 2)⟩,
  ⟨some 23, none, .rd, .load true 32 (.t 22)⟩,
  ⟨some 24, none, .no, .fa 34 (.t 2)⟩,
  ⟨some 25, none, .rd, .load true 32 (.t 24)⟩,
  ⟨some 26, none, .no, .mv (.t 1)⟩,
  ⟨some 27, none, .ef, .call (.v (.fn 19 [])) [(.t 19), (.t 21), (.t 23), (.t 25), (.t 26)]⟩,
  ⟨some 28, none, .no, .fa 0 (.t 2)⟩,
  ⟨some 29, none, .rd, .load false 1 (.t 28)⟩,
  ⟨some 30, none, .no, .fa 1 (.t 2)⟩,
  ⟨some 31, none, .rd, .load false 1 (.t 30)⟩,
  ⟨some 32, none, .no, .fa 2 (.t 2)⟩,
  ⟨some 33, none, .rd, .load true 32 (.t 32)⟩,
  ⟨some 34, none, .no, .fa 34 (.t 2)⟩,
  ⟨some 35, none, .rd, .load true 32 (.t 34)⟩,
  ⟨some 36, none, .no, .mv (.t 1)⟩,
  ⟨some 37, none, .no, .call (.v (.fn 20 [])) [(.t 29), (.t 31), (.t 33), (.t 35), (.t 36)]⟩,
  ⟨some 38, none, .no, .bin .neq .none (.t 27) (.t 37)⟩]
@[go_sem] def speculumlaw07_ProofsCheck_r7 : List AIns := [
  ⟨some 4, none, .no, .mv (.v (.bool false))⟩]
def speculumlaw07_ProofsCheck_c8 : ACode := .seq (.reg speculumlaw07_ProofsCheck_r7) .ret
def speculumlaw07_ProofsCheck_c9 : ACode := .cond (.t 38) speculumlaw07_ProofsCheck_c8 .skip
def speculumlaw07_ProofsCheck_c10 : ACode := .seq (.reg speculumlaw07_ProofsCheck_r6) speculumlaw07_ProofsCheck_c9
@[go_sem] def speculumlaw07_ProofsCheck_r11 : List AIns := [
  ⟨some 39, none, .no, .fa 1 (.t 2)⟩,
  ⟨some 40, none, .no, .load false 1 (.t 39)⟩,
  ⟨some 41, none, .no, .bin .and .none (.t 40) (.v (.int .i64 (127)))⟩,
  ⟨some 5, none, .no, .mv (.t 41)⟩]
@[go_sem] def speculumlaw07_ProofsCheck_r12 : List AIns := [
  ⟨some 42, none, .no, .fa 0 (.t 2)⟩,
  ⟨some 43, none, .no, .load false 1 (.t 42)⟩,
  ⟨some 44, none, .no, .bin .and .none (.t 43) (.v (.int .i64 (127)))⟩,
  ⟨some 45, none, .no, .mv (.t 5)⟩,
  ⟨some 46, none, .no, .bin .add .none (.t 45) (.v (.int .i64 (1)))⟩,
  ⟨some 47, none, .no, .bin .rem .none (.t 44) (.t 46)⟩,
  ⟨some 6, none, .no, .mv (.t 47)⟩]
@[go_sem] def speculumlaw07_ProofsCheck_r13 : List AIns := [
  ⟨some 48, none, .no, .mv (.t 5)⟩,
  ⟨some 49, none, .no, .fa 0 (.t 2)⟩,
  ⟨some 50, none, .no, .load false 1 (.t 49)⟩,
  ⟨some 51, none, .no, .conv (.int .u8) (.t 50)⟩,
  ⟨some 52, none, .no, .call (.v (.fn 21 [])) [(.t 48), (.t 51)]⟩,
  ⟨some 7, none, .no, .mv (.t 52)⟩]
@[go_sem] def speculumlaw07_ProofsCheck_r14 : List AIns := [
  ⟨some 54, none, .no, .mv (.t 7)⟩,
  ⟨some 55, none, .no, .mv (.t 6)⟩,
  ⟨some 56, none, .no, .call (.v (.fn 17 [])) [(.t 54), (.t 55)]⟩,
  ⟨some 53, none, .no, .mv (.t 56)⟩,
  ⟨some 57, none, .no, .ext 0 (.t 53)⟩,
  ⟨some 58, none, .no, .ext 1 (.t 53)⟩,
  ⟨some 8, none, .no, .mv (.t 57)⟩,
  ⟨some 9, none, .no, .mv (.t 58)⟩]
@[go_sem] def speculumlaw07_ProofsCheck_r15 : List AIns := [
  ⟨some 59, none, .no, .mv (.t 7)⟩,
  ⟨some 60, none, .no, .mv (.t 6)⟩,
  ⟨some 61, none, .no, .slice (.sl 32) (.t 59) none (some (.t 60)) none⟩,
  ⟨some 62, none, .no, .call (.v (.fn 22 [])) [(.t 61)]⟩,
  ⟨some 63, none, .no, .mv (.t 7)⟩,
  ⟨some 64, none, .no, .call (.v (.fn 22 [])) [(.t 63)]⟩,
  ⟨some 10, none, .no, .alloc [(.int .u8 (0)), (.int .u8 (0)), (.int .u8 (0)), (.int .u8 (0)), (.int .u8 (0)), (.int .u8 (0)), (.int .u8 (0)), (.int .u8 (0)), (.int .u8 (0)), (.int .u8 (0)), (.int .u8 (0)), (.int .u8 (0)), (.int .u8 (0)), (.int .u8 (0)), (.int .u8 (0)), (.int .u8 (0)), (.int .u8 (0)), (.int .u8 (0)), (.int .u8 (0)), (.int .u8 (0)), (.int .u8 (0)), (.int .u8 (0)), (.int .u8 (0)), (.int .u8 (0)), (.int .u8 (0)), (.int .u8 (0)), (.int .u8 (0)), (.int .u8 (0)), (.int .u8 (0)), (.int .u8 (0)), (.int .u8 (0)), (.int .u8 (0))]⟩,
  ⟨some 11, none, .no, .alloc [(.int .u8 (0)), (.int .u8 (0)), (.int .u8 (0)), (.int .u8 (0)), (.int .u8 (0)), (.int .u8 (0)), (.int .u8 (0)), (.int .u8 (0)), (.int .u8 (0)), (.int .u8 (0)), (.int .u8 (0)), (.int .u8 (0)), (.int .u8 (0)), (.int .u8 (0)), (.int .u8 (0)), (.int .u8 (0)), (.int .u8 (0)), (.int .u8 (0)), (.int .u8 (0)), (.int .u8 (0)), (.int .u8 (0)), (.int .u8 (0)), (.int .u8 (0)), (.int .u8 (0)), (.int .u8 (0)), (.int .u8 (0)), (.int .u8 (0)), (.int .u8 (0)), (.int .u8 (0)), (.int .u8 (0)), (.int .u8 (0)), (.int .u8 (0))]⟩,
  ⟨none, none, .no, .store 32 (.t 10) (.t 62)⟩,
  ⟨none, none, .no, .store 32 (.t 11) (.t 64)⟩]
@[go_sem] def speculumlaw07_ProofsCheck_r16 : List AIns := [
  ⟨some 65, none, .no, .mv (.t 6)⟩,
  ⟨some 66, none, .no, .mv (.t 5)⟩,
  ⟨some 67, none, .rd, .load true 32 (.t 10)⟩,
  ⟨some 68, none, .rd, .load true 32 (.t 11)⟩,
  ⟨some 69, none, .no, .mv (.t 8)⟩,
  ⟨some 70, none, .no, .call (.v (.fn 19 [])) [(.t 65), (.t 66), (.t 67), (.t 68), (.t 69)]⟩,
  ⟨some 71, none, .no, .bin .neq .none (.t 70) (.v (.int .i64 (0)))⟩,
  ⟨some 72, none, .no, .mv (.t 71)⟩,
  ⟨some 73, some (72, false), .no, .mv (.t 6)⟩,
  ⟨some 74, some (72, false), .no, .mv (.t 5)⟩,
  ⟨some 75, some (72, false), .no, .fa 2 (.t 2)⟩,
  ⟨some 76, some (72, false), .rd, .load true 32 (.t 75)⟩,
  ⟨some 77, some (72, false), .rd, .load true 32 (.t 11)⟩,
  ⟨some 78, some (72, false), .no, .mv (.t 8)⟩,
  ⟨some 79, some (72, false), .ef, .call (.v (.fn 19 [])) [(.t 73), (.t 74), (.t 76), (.t 77), (.t 78)]⟩,
  ⟨some 80, some (72, false), .no, .mv (.t 6)⟩,
  ⟨some 81, some (72, false), .no, .mv (.t 5)⟩,
  ⟨some 82, some (72, false), .no, .fa 2 (.t 2)⟩,
  ⟨some 83, some (72, false), .rd, .load true 32 (.t 82)⟩,
  ⟨some 84, some (72, false), .rd, .load true 32 (.t 11)⟩,
  ⟨some 85, some (72, false), .no, .mv (.t 8)⟩,
  ⟨some 86, some (72, false), .no, .call (.v (.fn 20 [])) [(.t 80), (.t 81), (.t 83), (.t 84), (.t 85)]⟩,
  ⟨some 87, some (72, false), .no, .bin .neq .none (.t 79) (.t 86)⟩,
  ⟨some 88, none, .no, .pick (.t 72) (.v (.bool true)) (.t 87)⟩,
  ⟨some 89, none, .no, .mv (.t 88)⟩,
  ⟨some 90, some (89, false), .no, .mv (.t 6)⟩,
  ⟨some 91, some (89, false), .no, .mv (.t 5)⟩,
  ⟨some 92, some (89, false), .rd, .load true 32 (.t 10)⟩,
  ⟨some 93, some (89, false), .no, .fa 34 (.t 2)⟩,
  ⟨some 94, some (89, false), .rd, .load true 32 (.t 93)⟩,
  ⟨some 95, some (89, false), .no, .mv (.t 8)⟩,
  ⟨some 96, some (89, false), .ef, .call (.v (.fn 19 [])) [(.t 90), (.t 91), (.t 92), (.t 94), (.t 95)]⟩,
  ⟨some 97, some (89, false), .no, .mv (.t 6)⟩,
  ⟨some 98, some (89, false), .no, .mv (.t 5)⟩,
  ⟨some 99, some (89, false), .rd, .load true 32 (.t 10)⟩,
  ⟨some 100, some (89, false), .no, .fa 34 (.t 2)⟩,
  ⟨some 101, some (89, false), .rd, .load true 32 (.t 100)⟩,
  ⟨some 102, some (89, false), .no, .mv (.t 8)⟩,
  ⟨some 103, some (89, false), .no, .call (.v (.fn 20 [])) [(.t 97), (.t 98), (.t 99), (.t 101), (.t 102)]⟩,
  ⟨some 104, some (89, false), .no, .bin .neq .none (.t 96) (.t 103)⟩,
  ⟨some 105, none, .no, .pick (.t 89) (.v (.bool true)) (.t 104)⟩,
  ⟨some 106, none, .no, .mv (.t 105)⟩,
  ⟨some 107, some (106, false), .no, .mv (.t 6)⟩,
  ⟨some 108, some (106, false), .no, .mv (.t 5)⟩,
  ⟨some 109, some (106, false), .rd, .load true 32 (.t 10)⟩,
  ⟨some 110, some (106, false), .rd, .load true 32 (.t 11)⟩,
  ⟨some 111, some (106, false), .no, .mv (.t 1)⟩,
  ⟨some 112, some (106, false), .ef, .call (.v (.fn 19 [])) [(.t 107), (.t 108), (.t 109), (.t 110), (.t 111)]⟩,
  ⟨some 113, some (106, false), .no, .mv (.t 6)⟩,
  ⟨some 114, some (106, false), .no, .mv (.t 5)⟩,
  ⟨some 115, some (106, false), .rd, .load true 32 (.t 10)⟩,
  ⟨some 116, some (106, false), .rd, .load true 32 (.t 11)⟩,
  ⟨some 117, some (106, false), .no, .mv (.t 1)⟩,
  ⟨some 118, some (106, false), .no, .call (.v (.fn 20 [])) [(.t 113), (.t 114), (.t 115), (.t 116), (.t 117)]⟩,
  ⟨some 119, some (106, false), .no, .bin .neq .none (.t 112) (.t 118)⟩,
  ⟨some 120, none, .no, .pick (.t 106) (.v (.bool true)) (.t 119)⟩]
@[go_sem] def speculumlaw07_ProofsCheck_r17 : List AIns := [
  ⟨some 4, none, .no, .mv (.v (.bool false))⟩]
def speculumlaw07_ProofsCheck_c18 : ACode := .seq (.reg speculumlaw07_ProofsCheck_r17) .ret
def speculumlaw07_ProofsCheck_c19 : ACode := .cond (.t 120) speculumlaw07_ProofsCheck_c18 .skip
def speculumlaw07_ProofsCheck_c20 : ACode := .seq (.reg speculumlaw07_ProofsCheck_r16) speculumlaw07_ProofsCheck_c19
@[go_sem] def speculumlaw07_ProofsCheck_r21 : List AIns := [
  ⟨some 12, none, .no, .mv (.v (.int .i64 (0)))⟩]
@[go_sem] def speculumlaw07_ProofsCheck_r22 : List AIns := [
  ⟨some 121, none, .no, .mv (.t 12)⟩,
  ⟨some 122, none, .no, .mv (.t 8)⟩,
  ⟨some 123, none, .no, .lenSl (.t 122)⟩,
  ⟨some 124, none, .no, .bin .lss .none (.t 121) (.t 123)⟩]
def speculumlaw07_ProofsCheck_c23 : ACode := .cond (.t 124) .skip (.exit 0)
def speculumlaw07_ProofsCheck_c24 : ACode := .seq (.reg speculumlaw07_ProofsCheck_r22) speculumlaw07_ProofsCheck_c23
@[go_sem] def speculumlaw07_ProofsCheck_r25 : List AIns := [
  ⟨some 127, none, .no, .mv (.t 8)⟩,
  ⟨some 128, none, .no, .app 32 (.v .nilsl) (.t 127)⟩,
  ⟨some 13, none, .no, .mv (.t 128)⟩]
@[go_sem] def speculumlaw07_ProofsCheck_r26 : List AIns := [
  ⟨some 129, none, .no, .mv (.t 13)⟩,
  ⟨some 130, none, .no, .mv (.t 12)⟩,
  ⟨some 131, none, .no, .fa 2 (.t 2)⟩,
  ⟨some 132, none, .no, .load true 32 (.t 131)⟩,
  ⟨some 133, none, .no, .iaSl 32 (.t 129) (.t 130)⟩,
  ⟨none, none, .no, .store 32 (.t 133) (.t 132)⟩]
@[go_sem] def speculumlaw07_ProofsCheck_r27 : List AIns := [
  ⟨some 134, none, .no, .mv (.t 6)⟩,
  ⟨some 135, none, .no, .mv (.t 5)⟩,
  ⟨some 136, none, .rd, .load true 32 (.t 10)⟩,
  ⟨some 137, none, .rd, .load true 32 (.t 11)⟩,
  ⟨some 138, none, .no, .mv (.t 13)⟩,
  ⟨some 139, none, .ef, .call (.v (.fn 19 [])) [(.t 134), (.t 135), (.t 136), (.t 137), (.t 138)]⟩,
  ⟨some 140, none, .no, .mv (.t 6)⟩,
  ⟨some 141, none, .no, .mv (.t 5)⟩,
  ⟨some 142, none, .rd, .load true 32 (.t 10)⟩,
  ⟨some 143, none, .rd, .load true 32 (.t 11)⟩,
  ⟨some 144, none, .no, .mv (.t 13)⟩,
  ⟨some 145, none, .no, .call (.v (.fn 20 [])) [(.t 140), (.t 141), (.t 142), (.t 143), (.t 144)]⟩,
  ⟨some 146, none, .no, .bin .neq .none (.t 139) (.t 145)⟩]
@[go_sem] def speculumlaw07_ProofsCheck_r28 : List AIns := [
  ⟨some 4, none, .no, .mv (.v (.bool false))⟩]
def speculumlaw07_ProofsCheck_c29 : ACode := .seq (.reg speculumlaw07_ProofsCheck_r28) .ret
def speculumlaw07_ProofsCheck_c30 : ACode := .cond (.t 146) speculumlaw07_ProofsCheck_c29 .skip
def speculumlaw07_ProofsCheck_c31 : ACode := .seq (.reg speculumlaw07_ProofsCheck_r27) speculumlaw07_ProofsCheck_c30
def speculumlaw07_ProofsCheck_c32 : ACode := .seq (.reg speculumlaw07_ProofsCheck_r26) speculumlaw07_ProofsCheck_c31
def speculumlaw07_ProofsCheck_c33 : ACode := .seq (.reg speculumlaw07_ProofsCheck_r25) speculumlaw07_ProofsCheck_c32
@[go_sem] def speculumlaw07_ProofsCheck_r34 : List AIns := [
  ⟨some 125, none, .no, .mv (.t 12)⟩,
  ⟨some 126, none, .no, .bin .add .none (.t 125) (.v (.int .i64 (1)))⟩,
  ⟨some 12, none, .no, .mv (.t 126)⟩]
def speculumlaw07_ProofsCheck_c35 : ACode := .seq (.block 1 speculumlaw07_ProofsCheck_c33) (.reg speculumlaw07_ProofsCheck_r34)
def speculumlaw07_ProofsCheck_c36 : ACode := .seq speculumlaw07_ProofsCheck_c24 speculumlaw07_ProofsCheck_c35
def speculumlaw07_ProofsCheck_c37 : ACode := .loop speculumlaw07_ProofsCheck_c36
def speculumlaw07_ProofsCheck_c38 : ACode := .block 0 speculumlaw07_ProofsCheck_c37
def speculumlaw07_ProofsCheck_c39 : ACode := .seq (.reg speculumlaw07_ProofsCheck_r21) speculumlaw07_ProofsCheck_c38
@[go_sem] def speculumlaw07_ProofsCheck_r40 : List AIns := [
  ⟨some 147, none, .no, .call (.v (.fn 15 [])) []⟩,
  ⟨some 4, none, .no, .mv (.t 147)⟩]
def speculumlaw07_ProofsCheck_c41 : ACode := .seq (.reg speculumlaw07_ProofsCheck_r40) .ret
def speculumlaw07_ProofsCheck_c42 : ACode := .seq speculumlaw07_ProofsCheck_c39 speculumlaw07_ProofsCheck_c41
def speculumlaw07_ProofsCheck_c43 : ACode := .seq speculumlaw07_ProofsCheck_c20 speculumlaw07_ProofsCheck_c42
def speculumlaw07_ProofsCheck_c44 : ACode := .seq (.reg speculumlaw07_ProofsCheck_r15) speculumlaw07_ProofsCheck_c43
def speculumlaw07_ProofsCheck_c45 : ACode := .seq (.reg speculumlaw07_ProofsCheck_r14) speculumlaw07_ProofsCheck_c44
def speculumlaw07_ProofsCheck_c46 : ACode := .seq (.reg speculumlaw07_ProofsCheck_r13) speculumlaw07_ProofsCheck_c45
def speculumlaw07_ProofsCheck_c47 : ACode := .seq (.reg speculumlaw07_ProofsCheck_r12) speculumlaw07_ProofsCheck_c46
def speculumlaw07_ProofsCheck_c48 : ACode := .seq (.reg speculumlaw07_ProofsCheck_r11) speculumlaw07_ProofsCheck_c47
def speculumlaw07_ProofsCheck_c49 : ACode := .seq speculumlaw07_ProofsCheck_c10 speculumlaw07_ProofsCheck_c48
def speculumlaw07_ProofsCheck_c50 : ACode := .seq speculumlaw07_ProofsCheck_c5 speculumlaw07_ProofsCheck_c49
def speculumlaw07_ProofsCheck_c51 : ACode := .seq (.reg speculumlaw07_ProofsCheck_r0) speculumlaw07_ProofsCheck_c50
theorem speculumlaw07_ProofsCheck_ok : cFn TC 4 = some (148, [.t 4], speculumlaw07_ProofsCheck_c51) := by kernel_rfl

@[go_sem] def speculumlaw07_proved_r0 : List AIns := [
  ⟨some 0, none, .no, .mv (.v (.bool false))⟩]
@[go_sem] def speculumlaw07_proved_r1 : List AIns := [
  ⟨some 13, none, .no, .call (.v (.fn 21 [])) [(.v (.int .i64 (5))), (.v (.int .u8 (2)))]⟩,
  ⟨some 1, none, .no, .mv (.t 13)⟩]
@[go_sem] def speculumlaw07_proved_r2 : List AIns := [
  ⟨some 15, none, .no, .mv (.t 1)⟩,
  ⟨some 16, none, .no, .call (.v (.fn 16 [])) [(.t 15), (.v (.int .i64 (3)))]⟩,
  ⟨some 14, none, .no, .mv (.t 16)⟩,
  ⟨some 17, none, .no, .ext 0 (.t 14)⟩,
  ⟨some 18, none, .no, .ext 1 (.t 14)⟩,
  ⟨some 2, none, .no, .mv (.t 17)⟩,
  ⟨some 3, none, .no, .mv (.t 18)⟩]
@[go_sem] def speculumlaw07_proved_r3 : List AIns := [
  ⟨some 20, none, .no, .mv (.t 1)⟩,
  ⟨some 21, none, .no, .call (.v (.fn 16 [])) [(.t 20), (.v (.int .i64 (4)))]⟩,
  ⟨some 19, none, .no, .mv (.t 21)⟩,
  ⟨some 22, none, .no, .ext 0 (.t 19)⟩,
  ⟨some 23, none, .no, .ext 1 (.t 19)⟩,
  ⟨some 4, none, .no, .mv (.t 22)⟩,
  ⟨some 5, none, .no, .mv (.t 23)⟩]
@[go_sem] def speculumlaw07_proved_r4 : List AIns := [
  ⟨some 25, none, .no, .mv (.t 1)⟩,
  ⟨some 26, none, .no, .call (.v (.fn 16 [])) [(.t 25), (.v (.int .i64 (5)))]⟩,
  ⟨some 24, none, .no, .mv (.t 26)⟩,
  ⟨some 27, none, .no, .ext 0 (.t 24)⟩,
  ⟨some 28, none, .no, .ext 1 (.t 24)⟩,
  ⟨some 6, none, .no, .mv (.t 27)⟩,
  ⟨some 7, none, .no, .mv (.t 28)⟩]
@[go_sem] def speculumlaw07_proved_r5 : List AIns := [
  ⟨some 30, none, .no, .mv (.t 1)⟩,
  ⟨some 31, none, .no, .call (.v (.fn 16 [])) [(.t 30), (.v (.int .i64 (0)))]⟩,
  ⟨some 29, none, .no, .mv (.t 31)⟩,
  ⟨some 32, none, .no, .ext 0 (.t 29)⟩,
  ⟨some 33, none, .no, .ext 1 (.t 29)⟩,
  ⟨some 8, none, .no, .mv (.t 32)⟩,
  ⟨some 9, none, .no, .mv (.t 33)⟩]
@[go_sem] def speculumlaw07_proved_r6 : List AIns := [
  ⟨some 35, none, .no, .mv (.t 1)⟩,
  ⟨some 36, none, .no, .call (.v (.fn 16 [])) [(.t 35), (.v (.int .i64 (6)))]⟩,
  ⟨some 34, none, .no, .mv (.t 36)⟩,
  ⟨some 37, none, .no, .ext 0 (.t 34)⟩,
  ⟨some 38, none, .no, .ext 1 (.t 34)⟩,
  ⟨some 10, none, .no, .mv (.t 37)⟩,
  ⟨some 11, none, .no, .mv (.t 38)⟩]
@[go_sem] def speculumlaw07_proved_r7 : List AIns := [
  ⟨some 39, none, .no, .mv (.t 1)⟩,
  ⟨some 40, none, .no, .call (.v (.fn 22 [])) [(.t 39)]⟩,
  ⟨some 12, none, .no, .alloc [(.int .u8 (0)), (.int .u8 (0)), (.int .u8 (0)), (.int .u8 (0)), (.int .u8 (0)), (.int .u8 (0)), (.int .u8 (0)), (.int .u8 (0)), (.int .u8 (0)), (.int .u8 (0)), (.int .u8 (0)), (.int .u8 (0)), (.int .u8 (0)), (.int .u8 (0)), (.int .u8 (0)), (.int .u8 (0)), (.int .u8 (0)), (.int .u8 (0)), (.int .u8 (0)), (.int .u8 (0)), (.int .u8 (0)), (.int .u8 (0)), (.int .u8 (0)), (.int .u8 (0)), (.int .u8 (0)), (.int .u8 (0)), (.int .u8 (0)), (.int .u8 (0)), (.int .u8 (0)), (.int .u8 (0)), (.int .u8 (0)), (.int .u8 (0))]⟩,
  ⟨none, none, .no, .store 32 (.t 12) (.t 40)⟩]
@[go_sem] def speculumlaw07_proved_r8 : List AIns := [
  ⟨some 41, none, .no, .mv (.t 3)⟩,
  ⟨some 42, none, .no, .bin .eql .none (.t 41) (.v (.int .i64 (0)))⟩,
  ⟨some 43, none, .no, .mv (.t 42)⟩,
  ⟨some 44, some (43, true), .no, .mv (.t 5)⟩,
  ⟨some 45, some (43, true), .no, .bin .eql .none (.t 44) (.v (.int .i64 (0)))⟩,
  ⟨some 46, none, .no, .pick (.t 43) (.t 45) (.v (.bool false))⟩,
  ⟨some 47, none, .no, .mv (.t 46)⟩,
  ⟨some 48, some (47, true), .no, .mv (.t 7)⟩,
  ⟨some 49, some (47, true), .no, .bin .eql .none (.t 48) (.v (.int .i64 (0)))⟩,
  ⟨some 50, none, .no, .pick (.t 47) (.t 49) (.v (.bool false))⟩,
  ⟨some 51, none, .no, .mv (.t 50)⟩,
  ⟨some 52, some (51, true), .no, .mv (.t 9)⟩,
  ⟨some 53, some (51, true), .no, .bin .eql .none (.t 52) (.v (.int .i64 (0)))⟩,
  ⟨some 54, none, .no, .pick (.t 51) (.t 53) (.v (.bool false))⟩,
  ⟨some 55, none, .no, .mv (.t 54)⟩,
  ⟨some 56, some (55, true), .no, .mv (.t 11)⟩,
  ⟨some 57, some (55, true), .no, .bin .eql .none (.t 56) (.v (.int .i64 (2)))⟩,
  ⟨some 58, none, .no, .pick (.t 55) (.t 57) (.v (.bool false))⟩,
  ⟨some 59, none, .no, .mv (.t 58)⟩,
  ⟨some 60, some (59, true), .no, .mv (.t 2)⟩,
  ⟨some 61, some (59, true), .no, .mv (.t 1)⟩,
  ⟨some 62, some (59, true), .no, .iaSl 32 (.t 61) (.v (.int .i64 (2)))⟩,
  ⟨some 63, some (59, true), .rd, .load true 32 (.t 62)⟩,
  ⟨some 64, some (59, true), .no, .mv (.t 1)⟩,
  ⟨some 65, some (59, true), .no, .iaSl 32 (.t 64) (.v (.int .i64 (3)))⟩,
  ⟨some 66, some (59, true), .rd, .load true 32 (.t 65)⟩,
  ⟨some 67, some (59, true), .no, .mv (.t 1)⟩,
  ⟨some 68, some (59, true), .no, .iaSl 32 (.t 67) (.v (.int .i64 (0)))⟩,
  ⟨some 69, some (59, true), .rd, .load true 32 (.t 68)⟩,
  ⟨some 70, some (59, true), .no, .mv (.t 1)⟩,
  ⟨some 71, some (59, true), .no, .iaSl 32 (.t 70) (.v (.int .i64 (1)))⟩,
  ⟨some 72, some (59, true), .rd, .load true 32 (.t 71)⟩,
  ⟨some 73, some (59, true), .ef, .call (.v (.fn 59 [])) [(.t 69), (.t 72)]⟩,
  ⟨some 74, some (59, true), .no, .mv (.t 1)⟩,
  ⟨some 75, some (59, true), .no, .iaSl 32 (.t 74) (.v (.int .i64 (4)))⟩,
  ⟨some 76, some (59, true), .rd, .load true 32 (.t 75)⟩,
  ⟨some 77, some (59, true), .no, .lit 32 [(.t 63), (.t 66), (.t 73), (.t 76)]⟩,
  ⟨some 78, some (59, true), .no, .call (.v (.fn 18 [])) [(.t 60), (.t 77)]⟩,
  ⟨some 79, none, .no, .pick (.t 59) (.t 78) (.v (.bool false))⟩,
  ⟨some 80, none, .no, .mv (.t 79)⟩,
  ⟨some 81, some (80, true), .no, .mv (.t 4)⟩,
  ⟨some 82, some (80, true), .no, .mv (.t 1)⟩,
  ⟨some 83, some (80, true), .no, .iaSl 32 (.t 82) (.v (.int .i64 (4)))⟩,
  ⟨some 84, some (80, true), .no, .load true 32 (.t 83)⟩,
  ⟨some 85, some (80, true), .no, .lit 32 [(.t 84)]⟩,
  ⟨some 86, some (80, true), .no, .call (.v (.fn 18 [])) [(.t 81), (.t 85)]⟩,
  ⟨some 87, none, .no, .pick (.t 80) (.t 86) (.v (.bool false))⟩,
  ⟨some 88, none, .no, .mv (.t 87)⟩,
  ⟨some 89, some (88, true), .no, .mv (.t 6)⟩,
  ⟨some 90, some (88, true), .no, .lenSl (.t 89)⟩,
  ⟨some 91, some (88, true), .no, .bin .eql .none (.t 90) (.v (.int .i64 (0)))⟩,
  ⟨some 92, none, .no, .pick (.t 88) (.t 91) (.v (.bool false))⟩,
  ⟨some 93, none, .no, .mv (.t 92)⟩,
  ⟨some 94, some (93, true), .no, .mv (.t 8)⟩,
  ⟨some 95, some (93, true), .no, .lenSl (.t 94)⟩,
  ⟨some 96, some (93, true), .no, .bin .eql .none (.t 95) (.v (.int .i64 (0)))⟩,
  ⟨some 97, none, .no, .pick (.t 93) (.t 96) (.v (.bool false))⟩,
  ⟨some 98, none, .no, .mv (.t 97)⟩,
  ⟨some 99, some (98, true), .no, .mv (.t 1)⟩,
  ⟨some 100, some (98, true), .rd, .slice (.sl 32) (.t 99) none (some (.v (.int .i64 (4)))) none⟩,
  ⟨some 101, some (98, true), .ef, .call (.v (.fn 22 [])) [(.t 100)]⟩,
  ⟨some 102, some (98, true), .rd, .load true 32 (.t 12)⟩,
  ⟨some 103, some (98, true), .no, .mv (.t 4)⟩,
  ⟨some 104, some (98, true), .no, .call (.v (.fn 19 [])) [(.v (.int .i64 (4))), (.v (.int .i64 (5))), (.t 101), (.t 102), (.t 103)]⟩,
  ⟨some 105, some (98, true), .no, .bin .eql .none (.t 104) (.v (.int .i64 (0)))⟩,
  ⟨some 106, none, .no, .pick (.t 98) (.t 105) (.v (.bool false))⟩,
  ⟨some 107, none, .no, .mv (.t 106)⟩,
  ⟨some 108, some (107, true), .no, .mv (.t 1)⟩,
  ⟨some 109, some (107, true), .rd, .slice (.sl 32) (.t 108) none (some (.v (.int .i64 (3)))) none⟩,
  ⟨some 110, some (107, true), .ef, .call (.v (.fn 22 [])) [(.t 109)]⟩,
  ⟨some 111, some (107, true), .rd, .load true 32 (.t 12)⟩,
  ⟨some 112, some (107, true), .no, .mv (.t 4)⟩,
  ⟨some 113, some (107, true), .no, .call (.v (.fn 19 [])) [(.v (.int .i64 (3))), (.v (.int .i64 (5))), (.t 110), (.t 111), (.t 112)]⟩,
  ⟨some 114, some (107, true), .no, .bin .eql .none (.t 113) (.v (.int .i64 (80)))⟩,
  ⟨some 115, none, .no, .pick (.t 107) (.t 114) (.v (.bool false))⟩,
  ⟨some 0, none, .no, .mv (.t 115)⟩]
def speculumlaw07_proved_c9 : ACode := .seq (.reg speculumlaw07_proved_r8) .ret
def speculumlaw07_proved_c10 : ACode := .seq (.reg speculumlaw07_proved_r7) speculumlaw07_proved_c9
def speculumlaw07_proved_c11 : ACode := .seq (.reg speculumlaw07_proved_r6) speculumlaw07_proved_c10
def speculumlaw07_proved_c12 : ACode := .seq (.reg speculumlaw07_proved_r5) speculumlaw07_proved_c11
def speculumlaw07_proved_c13 : ACode := .seq (.reg speculumlaw07_proved_r4) speculumlaw07_proved_c12
def speculumlaw07_proved_c14 : ACode := .seq (.reg speculumlaw07_proved_r3) speculumlaw07_proved_c13
def speculumlaw07_proved_c15 : ACode := .seq (.reg speculumlaw07_proved_r2) speculumlaw07_proved_c14
def speculumlaw07_proved_c16 : ACode := .seq (.reg speculumlaw07_proved_r1) speculumlaw07_proved_c15
def speculumlaw07_proved_c17 : ACode := .seq (.reg speculumlaw07_proved_r0) speculumlaw07_proved_c16
theorem speculumlaw07_proved_ok : cFn TC 15 = some (116, [.t 0], speculumlaw07_proved_c17) := by kernel_rfl

@[go_sem] def proofs_Proof_r0 : List AIns := [
  ⟨some 4, none, .no, .mv (.v .nilsl)⟩,
  ⟨some 5, none, .no, .mv (.v (.int .i64 (0)))⟩]
@[go_sem] def proofs_Proof_r1 : List AIns := [
  ⟨some 9, none, .no, .mv (.t 1)⟩,
  ⟨some 10, none, .no, .bin .lss .none (.t 9) (.v (.int .i64 (0)))⟩,
  ⟨some 11, none, .no, .mv (.t 10)⟩,
  ⟨some 12, some (11, false), .no, .mv (.t 1)⟩,
  ⟨some 13, some (11, false), .no, .mv (.t 0)⟩,
  ⟨some 14, some (11, false), .no, .lenSl (.t 13)⟩,
  ⟨some 15, some (11, false), .no, .bin .gtr .none (.t 12) (.t 14)⟩,
  ⟨some 16, none, .no, .pick (.t 11) (.v (.bool true)) (.t 15)⟩,
  ⟨some 8, none, .no, .mv (.t 16)⟩]
@[go_sem] def proofs_Proof_r2 : List AIns := [
  ⟨some 4, none, .no, .mv (.v .nilsl)⟩,
  ⟨some 5, none, .no, .mv (.v (.int .i64 (2)))⟩]
def proofs_Proof_c3 : ACode := .seq (.reg proofs_Proof_r2) .ret
@[go_sem] def proofs_Proof_r4 : List AIns := [
  ⟨some 18, none, .no, .mv (.t 1)⟩,
  ⟨some 19, none, .no, .bin .eql .none (.t 18) (.v (.int .i64 (0)))⟩,
  ⟨some 20, none, .no, .mv (.t 19)⟩,
  ⟨some 21, some (20, false), .no, .mv (.t 1)⟩,
  ⟨some 22, some (20, false), .no, .mv (.t 0)⟩,
  ⟨some 23, some (20, false), .no, .lenSl (.t 22)⟩,
  ⟨some 24, some (20, false), .no, .bin .eql .none (.t 21) (.t 23)⟩,
  ⟨some 25, none, .no, .pick (.t 20) (.v (.bool true)) (.t 24)⟩,
  ⟨some 17, none, .no, .mv (.t 25)⟩]
@[go_sem] def proofs_Proof_r5 : List AIns := [
  ⟨some 4, none, .no, .mv (.v .nilsl)⟩,
  ⟨some 5, none, .no, .mv (.v (.int .i64 (0)))⟩]
def proofs_Proof_c6 : ACode := .seq (.reg proofs_Proof_r5) .ret
def proofs_Proof_c7 : ACode := .cond (.t 17) proofs_Proof_c6 .skip
def proofs_Proof_c8 : ACode := .seq (.reg proofs_Proof_r4) proofs_Proof_c7
def proofs_Proof_c9 : ACode := .cond (.t 8) proofs_Proof_c3 proofs_Proof_c8
def proofs_Proof_c10 : ACode := .seq (.reg proofs_Proof_r1) proofs_Proof_c9
@[go_sem] def proofs_Proof_r11 : List AIns := [
  ⟨some 6, none, .no, .alloc [.nilsl]⟩]
@[go_sem] def proofs_Proof_r12 : List AIns := [
  ⟨some 7, none, .no, .alloc [.nilfn]⟩]
@[go_sem] def proofs_Proof_r13 : List AIns := [
  ⟨some 26, none, .no, .mkfn 60 [(.t 6), (.t 7)]⟩,
  ⟨none, none, .no, .store 1 (.t 7) (.t 26)⟩]
@[go_sem] def proofs_Proof_r14 : List AIns := [
  ⟨some 27, none, .no, .load false 1 (.t 7)⟩,
  ⟨some 28, none, .no, .mv (.t 0)⟩,
  ⟨some 29, none, .no, .mv (.t 1)⟩,
  ⟨some 30, none, .no, .call (.t 27) [(.t 28), (.t 29), (.v (.bool true))]⟩]
@[go_sem] def proofs_Proof_r15 : List AIns := [
  ⟨some 31, none, .no, .load false 1 (.t 6)⟩,
  ⟨some 4, none, .no, .mv (.t 31)⟩,
  ⟨some 5, none, .no, .mv (.v (.int .i64 (0)))⟩]
def proofs_Proof_c16 : ACode := .seq (.reg proofs_Proof_r15) .ret
def proofs_Proof_c17 : ACode := .seq (.reg proofs_Proof_r14) proofs_Proof_c16
def proofs_Proof_c18 : ACode := .seq (.reg proofs_Proof_r13) proofs_Proof_c17
def proofs_Proof_c19 : ACode := .seq (.reg proofs_Proof_r12) proofs_Proof_c18
def proofs_Proof_c20 : ACode := .seq (.reg proofs_Proof_r11) proofs_Proof_c19
def proofs_Proof_c21 : ACode := .seq (.block 0 proofs_Proof_c10) proofs_Proof_c20
def proofs_Proof_c22 : ACode := .seq (.reg proofs_Proof_r0) proofs_Proof_c21
theorem proofs_Proof_ok : cFn TC 16 = some (32, [.t 4, .t 5], proofs_Proof_c22) := by kernel_rfl

@[go_sem] def speculumref07_Proof_r0 : List AIns := [
  ⟨some 4, none, .no, .mv (.v .nilsl)⟩,
  ⟨some 5, none, .no, .mv (.v (.int .i64 (0)))⟩]
@[go_sem] def speculumref07_Proof_r1 : List AIns := [
  ⟨some 6, none, .no, .mv (.t 1)⟩,
  ⟨some 7, none, .no, .bin .lss .none (.t 6) (.v (.int .i64 (0)))⟩,
  ⟨some 8, none, .no, .mv (.t 7)⟩,
  ⟨some 9, some (8, false), .no, .mv (.t 1)⟩,
  ⟨some 10, some (8, false), .no, .mv (.t 0)⟩,
  ⟨some 11, some (8, false), .no, .lenSl (.t 10)⟩,
  ⟨some 12, some (8, false), .no, .bin .gtr .none (.t 9) (.t 11)⟩,
  ⟨some 13, none, .no, .pick (.t 8) (.v (.bool true)) (.t 12)⟩]
@[go_sem] def speculumref07_Proof_r2 : List AIns := [
  ⟨some 4, none, .no, .mv (.v .nilsl)⟩,
  ⟨some 5, none, .no, .mv (.v (.int .i64 (2)))⟩]
def speculumref07_Proof_c3 : ACode := .seq (.reg speculumref07_Proof_r2) .ret
def speculumref07_Proof_c4 : ACode := .cond (.t 13) speculumref07_Proof_c3 .skip
def speculumref07_Proof_c5 : ACode := .seq (.reg speculumref07_Proof_r1) speculumref07_Proof_c4
@[go_sem] def speculumref07_Proof_r6 : List AIns := [
  ⟨some 14, none, .no, .mv (.t 1)⟩,
  ⟨some 15, none, .no, .bin .eql .none (.t 14) (.v (.int .i64 (0)))⟩]
@[go_sem] def speculumref07_Proof_r7 : List AIns := [
  ⟨some 4, none, .no, .mv (.v .nilsl)⟩,
  ⟨some 5, none, .no, .mv (.v (.int .i64 (0)))⟩]
def speculumref07_Proof_c8 : ACode := .seq (.reg speculumref07_Proof_r7) .ret
def speculumref07_Proof_c9 : ACode := .cond (.t 15) speculumref07_Proof_c8 .skip
def speculumref07_Proof_c10 : ACode := .seq (.reg speculumref07_Proof_r6) speculumref07_Proof_c9
@[go_sem] def speculumref07_Proof_r11 : List AIns := [
  ⟨some 16, none, .no, .mv (.t 0)⟩,
  ⟨some 17, none, .no, .mv (.t 1)⟩,
  ⟨some 18, none, .no, .call (.v (.fn 62 [])) [(.t 16), (.t 17), (.v (.bool true))]⟩,
  ⟨some 4, none, .no, .mv (.t 18)⟩,
  ⟨some 5, none, .no, .mv (.v (.int .i64 (0)))⟩]
def speculumref07_Proof_c12 : ACode := .seq (.reg speculumref07_Proof_r11) .ret
def speculumref07_Proof_c13 : ACode := .seq speculumref07_Proof_c10 speculumref07_Proof_c12
def speculumref07_Proof_c14 : ACode := .seq speculumref07_Proof_c5 speculumref07_Proof_c13
def speculumref07_Proof_c15 : ACode := .seq (.reg speculumref07_Proof_r0) speculumref07_Proof_c14
theorem speculumref07_Proof_ok : cFn TC 17 = some (19, [.t 4, .t 5], speculumref07_Proof_c15) := by kernel_rfl

@[go_sem] def proofs_Check_r0 : List AIns := [
  ⟨some 7, none, .no, .box (.t 2)⟩,
  ⟨some 8, none, .no, .box (.t 3)⟩,
  ⟨some 9, none, .no, .box (.t 4)⟩,
  ⟨some 10, none, .no, .mv (.v (.int .i64 (0)))⟩]
@[go_sem] def proofs_Check_r1 : List AIns := [
  ⟨some 21, none, .no, .mv (.t 1)⟩,
  ⟨some 22, none, .no, .bin .lss .none (.t 21) (.v (.int .i64 (0)))⟩,
  ⟨some 23, none, .no, .mv (.t 22)⟩,
  ⟨some 24, some (23, false), .no, .mv (.t 1)⟩,
  ⟨some 25, some (23, false), .no, .bin .gtr .none (.t 24) (.v (.int .i64 (4096)))⟩,
  ⟨some 26, none, .no, .pick (.t 23) (.v (.bool true)) (.t 25)⟩,
  ⟨some 27, none, .no, .mv (.t 26)⟩,
  ⟨some 28, some (27, false), .no, .mv (.t 0)⟩,
  ⟨some 29, some (27, false), .no, .bin .lss .none (.t 28) (.v (.int .i64 (0)))⟩,
  ⟨some 30, none, .no, .pick (.t 27) (.v (.bool true)) (.t 29)⟩,
  ⟨some 31, none, .no, .mv (.t 30)⟩,
  ⟨some 32, some (31, false), .no, .mv (.t 0)⟩,
  ⟨some 33, some (31, false), .no, .mv (.t 1)⟩,
  ⟨some 34, some (31, false), .no, .bin .gtr .none (.t 32) (.t 33)⟩,
  ⟨some 35, none, .no, .pick (.t 31) (.v (.bool true)) (.t 34)⟩,
  ⟨some 20, none, .no, .mv (.t 35)⟩]
@[go_sem] def proofs_Check_r2 : List AIns := [
  ⟨some 10, none, .no, .mv (.v (.int .i64 (2)))⟩]
def proofs_Check_c3 : ACode := .seq (.reg proofs_Check_r2) .ret
@[go_sem] def proofs_Check_r4 : List AIns := [
  ⟨some 37, none, .no, .mv (.t 0)⟩,
  ⟨some 38, none, .no, .bin .eql .none (.t 37) (.v (.int .i64 (0)))⟩,
  ⟨some 36, none, .no, .mv (.t 38)⟩]
@[go_sem] def proofs_Check_r5 : List AIns := [
  ⟨some 39, none, .no, .load false 1 (.t 9)⟩,
  ⟨some 40, none, .no, .lenSl (.t 39)⟩,
  ⟨some 41, none, .no, .bin .eql .none (.t 40) (.v (.int .i64 (0)))⟩,
  ⟨some 42, none, .no, .mv (.t 41)⟩,
  ⟨some 43, some (42, true), .rd, .load true 32 (.t 7)⟩,
  ⟨some 44, some (42, true), .ef, .call (.v (.fn 22 [])) [(.v .nilsl)]⟩,
  ⟨some 45, some (42, true), .no, .bin .eql (.agg (List.replicate 32 (.i .u8) ++ [])) (.t 43) (.t 44)⟩,
  ⟨some 46, none, .no, .pick (.t 42) (.t 45) (.v (.bool false))⟩,
  ⟨some 47, none, .no, .mv (.t 46)⟩,
  ⟨some 48, some (47, true), .no, .mv (.t 1)⟩,
  ⟨some 49, some (47, true), .no, .bin .gtr .none (.t 48) (.v (.int .i64 (0)))⟩,
  ⟨some 50, some (47, true), .no, .mv (.t 49)⟩,
  ⟨some 51, some (50, false), .rd, .load true 32 (.t 8)⟩,
  ⟨some 52, some (50, false), .rd, .load true 32 (.t 7)⟩,
  ⟨some 53, some (50, false), .no, .bin .eql (.agg (List.replicate 32 (.i .u8) ++ [])) (.t 51) (.t 52)⟩,
  ⟨some 54, some (47, true), .no, .pick (.t 50) (.v (.bool true)) (.t 53)⟩,
  ⟨some 55, none, .no, .pick (.t 47) (.t 54) (.v (.bool false))⟩,
  ⟨some 56, none, .no, .call (.v (.fn 63 [])) [(.t 55)]⟩,
  ⟨some 10, none, .no, .mv (.t 56)⟩]
def proofs_Check_c6 : ACode := .seq (.reg proofs_Check_r5) .ret
@[go_sem] def proofs_Check_r7 : List AIns := [
  ⟨some 58, none, .no, .mv (.t 0)⟩,
  ⟨some 59, none, .no, .mv (.t 1)⟩,
  ⟨some 60, none, .no, .bin .eql .none (.t 58) (.t 59)⟩,
  ⟨some 57, none, .no, .mv (.t 60)⟩]
@[go_sem] def proofs_Check_r8 : List AIns := [
  ⟨some 61, none, .no, .load false 1 (.t 9)⟩,
  ⟨some 62, none, .no, .lenSl (.t 61)⟩,
  ⟨some 63, none, .no, .bin .eql .none (.t 62) (.v (.int .i64 (0)))⟩,
  ⟨some 64, none, .no, .mv (.t 63)⟩,
  ⟨some 65, some (64, true), .no, .load true 32 (.t 7)⟩,
  ⟨some 66, some (64, true), .no, .load true 32 (.t 8)⟩,
  ⟨some 67, some (64, true), .no, .bin .eql (.agg (List.replicate 32 (.i .u8) ++ [])) (.t 65) (.t 66)⟩,
  ⟨some 68, none, .no, .pick (.t 64) (.t 67) (.v (.bool false))⟩,
  ⟨some 69, none, .no, .call (.v (.fn 63 [])) [(.t 68)]⟩,
  ⟨some 10, none, .no, .mv (.t 69)⟩]
def proofs_Check_c9 : ACode := .seq (.reg proofs_Check_r8) .ret
def proofs_Check_c10 : ACode := .cond (.t 57) proofs_Check_c9 .skip
def proofs_Check_c11 : ACode := .seq (.reg proofs_Check_r7) proofs_Check_c10
def proofs_Check_c12 : ACode := .cond (.t 36) proofs_Check_c6 proofs_Check_c11
def proofs_Check_c13 : ACode := .seq (.reg proofs_Check_r4) proofs_Check_c12
def proofs_Check_c14 : ACode := .cond (.t 20) proofs_Check_c3 proofs_Check_c13
def proofs_Check_c15 : ACode := .seq (.reg proofs_Check_r1) proofs_Check_c14
@[go_sem] def proofs_Check_r16 : List AIns := [
  ⟨some 70, none, .no, .mv (.t 0)⟩,
  ⟨some 71, none, .no, .bin .sub .none (.t 70) (.v (.int .i64 (1)))⟩,
  ⟨some 72, none, .no, .mv (.t 1)⟩,
  ⟨some 73, none, .no, .bin .sub .none (.t 72) (.v (.int .i64 (1)))⟩,
  ⟨some 11, none, .no, .mv (.t 71)⟩,
  ⟨some 12, none, .no, .mv (.t 73)⟩]
@[go_sem] def proofs_Check_r17 : List AIns := [
  ⟨some 74, none, .no, .mv (.t 11)⟩,
  ⟨some 75, none, .no, .bin .rem .none (.t 74) (.v (.int .i64 (2)))⟩,
  ⟨some 76, none, .no, .bin .eql .none (.t 75) (.v (.int .i64 (1)))⟩]
def proofs_Check_c18 : ACode := .cond (.t 76) .skip (.exit 1)
def proofs_Check_c19 : ACode := .seq (.reg proofs_Check_r17) proofs_Check_c18
@[go_sem] def proofs_Check_r20 : List AIns := [
  ⟨some 77, none, .no, .mv (.t 11)⟩,
  ⟨some 78, none, .no, .bin .quo .none (.t 77) (.v (.int .i64 (2)))⟩,
  ⟨some 79, none, .no, .mv (.t 12)⟩,
  ⟨some 80, none, .no, .bin .quo .none (.t 79) (.v (.int .i64 (2)))⟩,
  ⟨some 11, none, .no, .mv (.t 78)⟩,
  ⟨some 12, none, .no, .mv (.t 80)⟩]
def proofs_Check_c21 : ACode := .block 2 (.reg proofs_Check_r20)
def proofs_Check_c22 : ACode := .seq proofs_Check_c19 proofs_Check_c21
def proofs_Check_c23 : ACode := .loop proofs_Check_c22
@[go_sem] def proofs_Check_r24 : List AIns := [
  ⟨some 81, none, .no, .mkfn 64 [(.t 9)]⟩,
  ⟨some 13, none, .no, .mv (.t 81)⟩]
@[go_sem] def proofs_Check_r25 : List AIns := [
  ⟨some 82, none, .rd, .load true 32 (.t 7)⟩,
  ⟨some 83, none, .rd, .load true 32 (.t 7)⟩,
  ⟨some 14, none, .ef, .alloc [(.int .u8 (0)), (.int .u8 (0)), (.int .u8 (0)), (.int .u8 (0)), (.int .u8 (0)), (.int .u8 (0)), (.int .u8 (0)), (.int .u8 (0)), (.int .u8 (0)), (.int .u8 (0)), (.int .u8 (0)), (.int .u8 (0)), (.int .u8 (0)), (.int .u8 (0)), (.int .u8 (0)), (.int .u8 (0)), (.int .u8 (0)), (.int .u8 (0)), (.int .u8 (0)), (.int .u8 (0)), (.int .u8 (0)), (.int .u8 (0)), (.int .u8 (0)), (.int .u8 (0)), (.int .u8 (0)), (.int .u8 (0)), (.int .u8 (0)), (.int .u8 (0)), (.int .u8 (0)), (.int .u8 (0)), (.int .u8 (0)), (.int .u8 (0))]⟩,
  ⟨some 15, none, .ef, .alloc [(.int .u8 (0)), (.int .u8 (0)), (.int .u8 (0)), (.int .u8 (0)), (.int .u8 (0)), (.int .u8 (0)), (.int .u8 (0)), (.int .u8 (0)), (.int .u8 (0)), (.int .u8 (0)), (.int .u8 (0)), (.int .u8 (0)), (.int .u8 (0)), (.int .u8 (0)), (.int .u8 (0)), (.int .u8 (0)), (.int .u8 (0)), (.int .u8 (0)), (.int .u8 (0)), (.int .u8 (0)), (.int .u8 (0)), (.int .u8 (0)), (.int .u8 (0)), (.int .u8 (0)), (.int .u8 (0)), (.int .u8 (0)), (.int .u8 (0)), (.int .u8 (0)), (.int .u8 (0)), (.int .u8 (0)), (.int .u8 (0)), (.int .u8 (0))]⟩,
  ⟨none, none, .ef, .store 32 (.t 14) (.t 82)⟩,
  ⟨none, none, .no, .store 32 (.t 15) (.t 83)⟩]
@[go_sem] def proofs_Check_r26 : List AIns := [
  ⟨some 82, none, .rd, .load true 32 (.t 7)⟩,
  ⟨some 83, none, .rd, .load true 32 (.t 7)⟩,
  ⟨some 15, none, .ef, .alloc [(.int .u8 (0)), (.int .u8 (0)), (.int .u8 (0)), (.int .u8 (0)), (.int .u8 (0)), (.int .u8 (0)), (.int .u8 (0)), (.int .u8 (0)), (.int .u8 (0)), (.int .u8 (0)), (.int .u8 (0)), (.int .u8 (0)), (.int .u8 (0)), (.int .u8 (0)), (.int .u8 (0)), (.int .u8 (0)), (.int .u8 (0)), (.int .u8 (0)), (.int .u8 (0)), (.int .u8 (0)), (.int .u8 (0)), (.int .u8 (0)), (.int .u8 (0)), (.int .u8 (0)), (.int .u8 (0)), (.int .u8 (0)), (.int .u8 (0)), (.int .u8 (0)), (.int .u8 (0)), (.int .u8 (0)), (.int .u8 (0)), (.int .u8 (0))]⟩,
  ⟨some 14, none, .ef, .alloc [(.int .u8 (0)), (.int .u8 (0)), (.int .u8 (0)), (.int .u8 (0)), (.int .u8 (0)), (.int .u8 (0)), (.int .u8 (0)), (.int .u8 (0)), (.int .u8 (0)), (.int .u8 (0)), (.int .u8 (0)), (.int .u8 (0)), (.int .u8 (0)), (.int .u8 (0)), (.int .u8 (0)), (.int .u8 (0)), (.int .u8 (0)), (.int .u8 (0)), (.int .u8 (0)), (.int .u8 (0)), (.int .u8 (0)), (.int .u8 (0)), (.int .u8 (0)), (.int .u8 (0)), (.int .u8 (0)), (.int .u8 (0)), (.int .u8 (0)), (.int .u8 (0)), (.int .u8 (0)), (.int .u8 (0)), (.int .u8 (0)), (.int .u8 (0))]⟩,
  ⟨none, none, .ef, .store 32 (.t 14) (.t 82)⟩,
  ⟨none, none, .no, .store 32 (.t 15) (.t 83)⟩]
@[go_sem] def proofs_Check_r27 : List AIns := [
  ⟨some 84, none, .no, .mv (.t 11)⟩,
  ⟨some 85, none, .no, .bin .gtr .none (.t 84) (.v (.int .i64 (0)))⟩]
@[go_sem] def proofs_Check_r28 : List AIns := [
  ⟨some 87, none, .no, .mv (.t 13)⟩,
  ⟨some 88, none, .no, .call (.t 87) []⟩,
  ⟨some 86, none, .no, .mv (.t 88)⟩,
  ⟨some 89, none, .no, .ext 0 (.t 86)⟩,
  ⟨some 90, none, .no, .ext 1 (.t 86)⟩,
  ⟨some 16, none, .no, .alloc [(.int .u8 (0)), (.int .u8 (0)), (.int .u8 (0)), (.int .u8 (0)), (.int .u8 (0)), (.int .u8 (0)), (.int .u8 (0)), (.int .u8 (0)), (.int .u8 (0)), (.int .u8 (0)), (.int .u8 (0)), (.int .u8 (0)), (.int .u8 (0)), (.int .u8 (0)), (.int .u8 (0)), (.int .u8 (0)), (.int .u8 (0)), (.int .u8 (0)), (.int .u8 (0)), (.int .u8 (0)), (.int .u8 (0)), (.int .u8 (0)), (.int .u8 (0)), (.int .u8 (0)), (.int .u8 (0)), (.int .u8 (0)), (.int .u8 (0)), (.int .u8 (0)), (.int .u8 (0)), (.int .u8 (0)), (.int .u8 (0)), (.int .u8 (0))]⟩,
  ⟨none, none, .no, .store 32 (.t 16) (.t 89)⟩,
  ⟨some 17, none, .no, .mv (.t 90)⟩]
@[go_sem] def proofs_Check_r29 : List AIns := [
  ⟨some 91, none, .no, .mv (.t 17)⟩,
  ⟨some 92, none, .no, .un .not (.t 91)⟩]
@[go_sem] def proofs_Check_r30 : List AIns := [
  ⟨some 10, none, .no, .mv (.v (.int .i64 (80)))⟩]
def proofs_Check_c31 : ACode := .seq (.reg proofs_Check_r30) .ret
def proofs_Check_c32 : ACode := .cond (.t 92) proofs_Check_c31 .skip
def proofs_Check_c33 : ACode := .seq (.reg proofs_Check_r29) proofs_Check_c32
@[go_sem] def proofs_Check_r34 : List AIns := [
  ⟨some 93, none, .rd, .load true 32 (.t 16)⟩,
  ⟨some 94, none, .rd, .load true 32 (.t 16)⟩,
  ⟨none, none, .ef, .store 32 (.t 14) (.t 93)⟩,
  ⟨none, none, .no, .store 32 (.t 15) (.t 94)⟩]
def proofs_Check_c35 : ACode := .seq proofs_Check_c33 (.reg proofs_Check_r34)
def proofs_Check_c36 : ACode := .seq (.reg proofs_Check_r28) proofs_Check_c35
def proofs_Check_c37 : ACode := .cond (.t 85) proofs_Check_c36 .skip
def proofs_Check_c38 : ACode := .seq (.reg proofs_Check_r27) proofs_Check_c37
@[go_sem] def proofs_Check_r39 : List AIns := [
  ⟨some 95, none, .no, .mv (.t 12)⟩,
  ⟨some 96, none, .no, .bin .gtr .none (.t 95) (.v (.int .i64 (0)))⟩]
def proofs_Check_c40 : ACode := .cond (.t 96) .skip (.exit 3)
def proofs_Check_c41 : ACode := .seq (.reg proofs_Check_r39) proofs_Check_c40
@[go_sem] def proofs_Check_r42 : List AIns := [
  ⟨some 98, none, .no, .mv (.t 13)⟩,
  ⟨some 99, none, .no, .call (.t 98) []⟩,
  ⟨some 97, none, .no, .mv (.t 99)⟩,
  ⟨some 100, none, .no, .ext 0 (.t 97)⟩,
  ⟨some 101, none, .no, .ext 1 (.t 97)⟩,
  ⟨some 18, none, .no, .alloc [(.int .u8 (0)), (.int .u8 (0)), (.int .u8 (0)), (.int .u8 (0)), (.int .u8 (0)), (.int .u8 (0)), (.int .u8 (0)), (.int .u8 (0)), (.int .u8 (0)), (.int .u8 (0)), (.int .u8 (0)), (.int .u8 (0)), (.int .u8 (0)), (.int .u8 (0)), (.int .u8 (0)), (.int .u8 (0)), (.int .u8 (0)), (.int .u8 (0)), (.int .u8 (0)), (.int .u8 (0)), (.int .u8 (0)), (.int .u8 (0)), (.int .u8 (0)), (.int .u8 (0)), (.int .u8 (0)), (.int .u8 (0)), (.int .u8 (0)), (.int .u8 (0)), (.int .u8 (0)), (.int .u8 (0)), (.int .u8 (0)), (.int .u8 (0))]⟩,
  ⟨none, none, .no, .store 32 (.t 18) (.t 100)⟩,
  ⟨some 19, none, .no, .mv (.t 101)⟩]
@[go_sem] def proofs_Check_r43 : List AIns := [
  ⟨some 106, none, .no, .mv (.t 19)⟩,
  ⟨some 107, none, .no, .un .not (.t 106)⟩,
  ⟨some 105, none, .no, .mv (.t 107)⟩]
@[go_sem] def proofs_Check_r44 : List AIns := [
  ⟨some 10, none, .no, .mv (.v (.int .i64 (80)))⟩]
def proofs_Check_c45 : ACode := .seq (.reg proofs_Check_r44) .ret
@[go_sem] def proofs_Check_r46 : List AIns := [
  ⟨some 109, none, .no, .mv (.t 11)⟩,
  ⟨some 110, none, .no, .bin .rem .none (.t 109) (.v (.int .i64 (2)))⟩,
  ⟨some 111, none, .no, .bin .eql .none (.t 110) (.v (.int .i64 (1)))⟩,
  ⟨some 112, none, .no, .mv (.t 111)⟩,
  ⟨some 113, some (112, false), .no, .mv (.t 11)⟩,
  ⟨some 114, some (112, false), .no, .mv (.t 12)⟩,
  ⟨some 115, some (112, false), .no, .bin .eql .none (.t 113) (.t 114)⟩,
  ⟨some 116, none, .no, .pick (.t 112) (.v (.bool true)) (.t 115)⟩,
  ⟨some 108, none, .no, .mv (.t 116)⟩]
@[go_sem] def proofs_Check_r47 : List AIns := [
  ⟨some 117, none, .rd, .load true 32 (.t 18)⟩,
  ⟨some 118, none, .rd, .load true 32 (.t 14)⟩,
  ⟨some 119, none, .ef, .call (.v (.fn 59 [])) [(.t 117), (.t 118)]⟩,
  ⟨some 120, none, .rd, .load true 32 (.t 18)⟩,
  ⟨some 121, none, .rd, .load true 32 (.t 15)⟩,
  ⟨some 122, none, .no, .call (.v (.fn 59 [])) [(.t 120), (.t 121)]⟩,
  ⟨none, none, .no, .store 32 (.t 14) (.t 119)⟩,
  ⟨none, none, .no, .store 32 (.t 15) (.t 122)⟩]
@[go_sem] def proofs_Check_r48 : List AIns := [
  ⟨some 123, none, .no, .mv (.t 11)⟩,
  ⟨some 124, none, .no, .bin .rem .none (.t 123) (.v (.int .i64 (2)))⟩,
  ⟨some 125, none, .no, .bin .eql .none (.t 124) (.v (.int .i64 (0)))⟩,
  ⟨some 126, none, .no, .mv (.t 125)⟩,
  ⟨some 127, some (126, true), .no, .mv (.t 11)⟩,
  ⟨some 128, some (126, true), .no, .bin .gtr .none (.t 127) (.v (.int .i64 (0)))⟩,
  ⟨some 129, none, .no, .pick (.t 126) (.t 128) (.v (.bool false))⟩]
def proofs_Check_c49 : ACode := .cond (.t 129) .skip (.exit 6)
def proofs_Check_c50 : ACode := .seq (.reg proofs_Check_r48) proofs_Check_c49
@[go_sem] def proofs_Check_r51 : List AIns := [
  ⟨some 130, none, .no, .mv (.t 11)⟩,
  ⟨some 131, none, .no, .bin .quo .none (.t 130) (.v (.int .i64 (2)))⟩,
  ⟨some 132, none, .no, .mv (.t 12)⟩,
  ⟨some 133, none, .no, .bin .quo .none (.t 132) (.v (.int .i64 (2)))⟩,
  ⟨some 11, none, .no, .mv (.t 131)⟩,
  ⟨some 12, none, .no, .mv (.t 133)⟩]
def proofs_Check_c52 : ACode := .block 7 (.reg proofs_Check_r51)
def proofs_Check_c53 : ACode := .seq proofs_Check_c50 proofs_Check_c52
def proofs_Check_c54 : ACode := .loop proofs_Check_c53
def proofs_Check_c55 : ACode := .block 6 proofs_Check_c54
def proofs_Check_c56 : ACode := .seq (.reg proofs_Check_r47) proofs_Check_c55
@[go_sem] def proofs_Check_r57 : List AIns := [
  ⟨some 102, none, .no, .load true 32 (.t 15)⟩,
  ⟨some 103, none, .no, .load true 32 (.t 18)⟩,
  ⟨some 104, none, .no, .call (.v (.fn 59 [])) [(.t 102), (.t 103)]⟩,
  ⟨none, none, .no, .store 32 (.t 15) (.t 104)⟩]
def proofs_Check_c58 : ACode := .cond (.t 108) proofs_Check_c56 (.reg proofs_Check_r57)
def proofs_Check_c59 : ACode := .seq (.reg proofs_Check_r46) proofs_Check_c58
def proofs_Check_c60 : ACode := .cond (.t 105) proofs_Check_c45 proofs_Check_c59
def proofs_Check_c61 : ACode := .seq (.reg proofs_Check_r43) proofs_Check_c60
def proofs_Check_c62 : ACode := .block 5 proofs_Check_c61
def proofs_Check_c63 : ACode := .seq (.reg proofs_Check_r42) proofs_Check_c62
@[go_sem] def proofs_Check_r64 : List AIns := [
  ⟨some 134, none, .no, .mv (.t 11)⟩,
  ⟨some 135, none, .no, .bin .quo .none (.t 134) (.v (.int .i64 (2)))⟩,
  ⟨some 136, none, .no, .mv (.t 12)⟩,
  ⟨some 137, none, .no, .bin .quo .none (.t 136) (.v (.int .i64 (2)))⟩,
  ⟨some 11, none, .no, .mv (.t 135)⟩,
  ⟨some 12, none, .no, .mv (.t 137)⟩]
def proofs_Check_c65 : ACode := .seq proofs_Check_c63 (.reg proofs_Check_r64)
def proofs_Check_c66 : ACode := .block 4 proofs_Check_c65
def proofs_Check_c67 : ACode := .seq proofs_Check_c41 proofs_Check_c66
def proofs_Check_c68 : ACode := .loop proofs_Check_c67
@[go_sem] def proofs_Check_r69 : List AIns := [
  ⟨some 138, none, .no, .load false 1 (.t 9)⟩,
  ⟨some 139, none, .no, .lenSl (.t 138)⟩,
  ⟨some 140, none, .no, .bin .eql .none (.t 139) (.v (.int .i64 (0)))⟩,
  ⟨some 141, none, .no, .mv (.t 140)⟩,
  ⟨some 142, some (141, true), .no, .load true 32 (.t 14)⟩,
  ⟨some 143, some (141, true), .no, .load true 32 (.t 7)⟩,
  ⟨some 144, some (141, true), .no, .bin .eql (.agg (List.replicate 32 (.i .u8) ++ [])) (.t 142) (.t 143)⟩,
  ⟨some 145, none, .no, .pick (.t 141) (.t 144) (.v (.bool false))⟩,
  ⟨some 146, none, .no, .mv (.t 145)⟩,
  ⟨some 147, some (146, true), .no, .load true 32 (.t 15)⟩,
  ⟨some 148, some (146, true), .no, .load true 32 (.t 8)⟩,
  ⟨some 149, some (146, true), .no, .bin .eql (.agg (List.replicate 32 (.i .u8) ++ [])) (.t 147) (.t 148)⟩,
  ⟨some 150, none, .no, .pick (.t 146) (.t 149) (.v (.bool false))⟩,
  ⟨some 151, none, .no, .call (.v (.fn 63 [])) [(.t 150)]⟩,
  ⟨some 10, none, .no, .mv (.t 151)⟩]
def proofs_Check_c70 : ACode := .seq (.reg proofs_Check_r69) .ret
def proofs_Check_c71 : ACode := .seq (.block 3 proofs_Check_c68) proofs_Check_c70
def proofs_Check_c72 : ACode := .seq proofs_Check_c38 proofs_Check_c71
def proofs_Check_c73 : ACode := .seq (.reg2 proofs_Check_r25 proofs_Check_r26) proofs_Check_c72
def proofs_Check_c74 : ACode := .seq (.reg proofs_Check_r24) proofs_Check_c73
def proofs_Check_c75 : ACode := .seq (.block 1 proofs_Check_c23) proofs_Check_c74
def proofs_Check_c76 : ACode := .seq (.reg proofs_Check_r16) proofs_Check_c75
def proofs_Check_c77 : ACode := .seq (.block 0 proofs_Check_c15) proofs_Check_c76
def proofs_Check_c78 : ACode := .seq (.reg proofs_Check_r0) proofs_Check_c77
theorem proofs_Check_ok : cFn TC 19 = some (152, [.t 10], proofs_Check_c78) := by kernel_rfl

@[go_sem] def speculumref07_Check_r0 : List AIns := [
  ⟨some 7, none, .no, .box (.t 2)⟩,
  ⟨some 8, none, .no, .box (.t 3)⟩,
  ⟨some 10, none, .no, .mv (.v (.int .i64 (0)))⟩]
@[go_sem] def speculumref07_Check_r1 : List AIns := [
  ⟨some 15, none, .no, .mv (.t 1)⟩,
  ⟨some 16, none, .no, .bin .lss .none (.t 15) (.v (.int .i64 (0)))⟩,
  ⟨some 17, none, .no, .mv (.t 16)⟩,
  ⟨some 18, some (17, false), .no, .mv (.t 1)⟩,
  ⟨some 19, some (17, false), .no, .bin .gtr .none (.t 18) (.v (.int .i64 (4096)))⟩,
  ⟨some 20, none, .no, .pick (.t 17) (.v (.bool true)) (.t 19)⟩,
  ⟨some 21, none, .no, .mv (.t 20)⟩,
  ⟨some 22, some (21, false), .no, .mv (.t 0)⟩,
  ⟨some 23, some (21, false), .no, .bin .lss .none (.t 22) (.v (.int .i64 (0)))⟩,
  ⟨some 24, none, .no, .pick (.t 21) (.v (.bool true)) (.t 23)⟩,
  ⟨some 25, none, .no, .mv (.t 24)⟩,
  ⟨some 26, some (25, false), .no, .mv (.t 0)⟩,
  ⟨some 27, some (25, false), .no, .mv (.t 1)⟩,
  ⟨some 28, some (25, false), .no, .bin .gtr .none (.t 26) (.t 27)⟩,
  ⟨some 29, none, .no, .pick (.t 25) (.v (.bool true)) (.t 28)⟩]
@[go_sem] def speculumref07_Check_r2 : List AIns := [
  ⟨some 10, none, .no, .mv (.v (.int .i64 (2)))⟩]
def speculumref07_Check_c3 : ACode := .seq (.reg speculumref07_Check_r2) .ret
def speculumref07_Check_c4 : ACode := .cond (.t 29) speculumref07_Check_c3 .skip
def speculumref07_Check_c5 : ACode := .seq (.reg speculumref07_Check_r1) speculumref07_Check_c4
@[go_sem] def speculumref07_Check_r6 : List AIns := [
  ⟨some 11, none, .no, .mv (.v (.bool false))⟩]
@[go_sem] def speculumref07_Check_r7 : List AIns := [
  ⟨some 30, none, .no, .mv (.t 0)⟩,
  ⟨some 31, none, .no, .bin .eql .none (.t 30) (.v (.int .i64 (0)))⟩]
@[go_sem] def speculumref07_Check_r8 : List AIns := [
  ⟨some 32, none, .no, .mv (.t 4)⟩,
  ⟨some 33, none, .no, .lenSl (.t 32)⟩,
  ⟨some 34, none, .no, .bin .eql .none (.t 33) (.v (.int .i64 (0)))⟩,
  ⟨some 35, none, .no, .mv (.t 34)⟩,
  ⟨some 36, some (35, true), .rd, .load true 32 (.t 7)⟩,
  ⟨some 37, some (35, true), .ef, .call (.v (.fn 65 [])) [(.v (.str []))]⟩,
  ⟨some 38, some (35, true), .no, .bin .eql (.agg (List.replicate 32 (.i .u8) ++ [])) (.t 36) (.t 37)⟩,
  ⟨some 39, none, .no, .pick (.t 35) (.t 38) (.v (.bool false))⟩,
  ⟨some 40, none, .no, .mv (.t 39)⟩,
  ⟨some 41, some (40, true), .no, .mv (.t 1)⟩,
  ⟨some 42, some (40, true), .no, .bin .gtr .none (.t 41) (.v (.int .i64 (0)))⟩,
  ⟨some 43, some (40, true), .no, .mv (.t 42)⟩,
  ⟨some 44, some (43, false), .rd, .load true 32 (.t 7)⟩,
  ⟨some 45, some (43, false), .rd, .load true 32 (.t 8)⟩,
  ⟨some 46, some (43, false), .no, .bin .eql (.agg (List.replicate 32 (.i .u8) ++ [])) (.t 44) (.t 45)⟩,
  ⟨some 47, some (40, true), .no, .pick (.t 43) (.v (.bool true)) (.t 46)⟩,
  ⟨some 48, none, .no, .pick (.t 40) (.t 47) (.v (.bool false))⟩,
  ⟨some 11, none, .no, .mv (.t 48)⟩]
@[go_sem] def speculumref07_Check_r9 : List AIns := [
  ⟨some 49, none, .no, .mv (.t 0)⟩,
  ⟨some 50, none, .no, .mv (.t 1)⟩,
  ⟨some 51, none, .no, .bin .eql .none (.t 49) (.t 50)⟩]
@[go_sem] def speculumref07_Check_r10 : List AIns := [
  ⟨some 52, none, .no, .mv (.t 4)⟩,
  ⟨some 53, none, .no, .lenSl (.t 52)⟩,
  ⟨some 54, none, .no, .bin .eql .none (.t 53) (.v (.int .i64 (0)))⟩,
  ⟨some 55, none, .no, .mv (.t 54)⟩,
  ⟨some 56, some (55, true), .no, .load true 32 (.t 7)⟩,
  ⟨some 57, some (55, true), .no, .load true 32 (.t 8)⟩,
  ⟨some 58, some (55, true), .no, .bin .eql (.agg (List.replicate 32 (.i .u8) ++ [])) (.t 56) (.t 57)⟩,
  ⟨some 59, none, .no, .pick (.t 55) (.t 58) (.v (.bool false))⟩,
  ⟨some 11, none, .no, .mv (.t 59)⟩]
@[go_sem] def speculumref07_Check_r11 : List AIns := [
  ⟨some 61, none, .no, .mv (.t 0)⟩,
  ⟨some 62, none, .no, .mv (.t 1)⟩,
  ⟨some 63, none, .no, .load true 32 (.t 7)⟩,
  ⟨some 64, none, .no, .mv (.t 4)⟩,
  ⟨some 65, none, .no, .call (.v (.fn 66 [])) [(.t 61), (.t 62), (.v (.bool true)), (.t 63), (.t 64)]⟩,
  ⟨some 60, none, .no, .mv (.t 65)⟩,
  ⟨some 66, none, .no, .ext 0 (.t 60)⟩,
  ⟨some 67, none, .no, .ext 1 (.t 60)⟩,
  ⟨some 68, none, .no, .ext 2 (.t 60)⟩,
  ⟨some 12, none, .no, .alloc [(.int .u8 (0)), (.int .u8 (0)), (.int .u8 (0)), (.int .u8 (0)), (.int .u8 (0)), (.int .u8 (0)), (.int .u8 (0)), (.int .u8 (0)), (.int .u8 (0)), (.int .u8 (0)), (.int .u8 (0)), (.int .u8 (0)), (.int .u8 (0)), (.int .u8 (0)), (.int .u8 (0)), (.int .u8 (0)), (.int .u8 (0)), (.int .u8 (0)), (.int .u8 (0)), (.int .u8 (0)), (.int .u8 (0)), (.int .u8 (0)), (.int .u8 (0)), (.int .u8 (0)), (.int .u8 (0)), (.int .u8 (0)), (.int .u8 (0)), (.int .u8 (0)), (.int .u8 (0)), (.int .u8 (0)), (.int .u8 (0)), (.int .u8 (0))]⟩,
  ⟨some 13, none, .no, .alloc [(.int .u8 (0)), (.int .u8 (0)), (.int .u8 (0)), (.int .u8 (0)), (.int .u8 (0)), (.int .u8 (0)), (.int .u8 (0)), (.int .u8 (0)), (.int .u8 (0)), (.int .u8 (0)), (.int .u8 (0)), (.int .u8 (0)), (.int .u8 (0)), (.int .u8 (0)), (.int .u8 (0)), (.int .u8 (0)), (.int .u8 (0)), (.int .u8 (0)), (.int .u8 (0)), (.int .u8 (0)), (.int .u8 (0)), (.int .u8 (0)), (.int .u8 (0)), (.int .u8 (0)), (.int .u8 (0)), (.int .u8 (0)), (.int .u8 (0)), (.int .u8 (0)), (.int .u8 (0)), (.int .u8 (0)), (.int .u8 (0)), (.int .u8 (0))]⟩,
  ⟨none, none, .no, .store 32 (.t 12) (.t 66)⟩,
  ⟨none, none, .no, .store 32 (.t 13) (.t 67)⟩,
  ⟨some 14, none, .no, .mv (.t 68)⟩]
@[go_sem] def speculumref07_Check_r12 : List AIns := [
  ⟨some 69, none, .no, .mv (.t 14)⟩,
  ⟨some 70, none, .no, .mv (.t 69)⟩,
  ⟨some 71, some (70, true), .no, .load true 32 (.t 12)⟩,
  ⟨some 72, some (70, true), .no, .load true 32 (.t 7)⟩,
  ⟨some 73, some (70, true), .no, .bin .eql (.agg (List.replicate 32 (.i .u8) ++ [])) (.t 71) (.t 72)⟩,
  ⟨some 74, none, .no, .pick (.t 70) (.t 73) (.v (.bool false))⟩,
  ⟨some 75, none, .no, .mv (.t 74)⟩,
  ⟨some 76, some (75, true), .no, .load true 32 (.t 13)⟩,
  ⟨some 77, some (75, true), .no, .load true 32 (.t 8)⟩,
  ⟨some 78, some (75, true), .no, .bin .eql (.agg (List.replicate 32 (.i .u8) ++ [])) (.t 76) (.t 77)⟩,
  ⟨some 79, none, .no, .pick (.t 75) (.t 78) (.v (.bool false))⟩,
  ⟨some 11, none, .no, .mv (.t 79)⟩]
def speculumref07_Check_c13 : ACode := .seq (.reg speculumref07_Check_r11) (.reg speculumref07_Check_r12)
def speculumref07_Check_c14 : ACode := .cond (.t 51) (.reg speculumref07_Check_r10) speculumref07_Check_c13
def speculumref07_Check_c15 : ACode := .seq (.reg speculumref07_Check_r9) speculumref07_Check_c14
def speculumref07_Check_c16 : ACode := .cond (.t 31) (.reg speculumref07_Check_r8) speculumref07_Check_c15
def speculumref07_Check_c17 : ACode := .seq (.reg speculumref07_Check_r7) speculumref07_Check_c16
@[go_sem] def speculumref07_Check_r18 : List AIns := [
  ⟨some 80, none, .no, .mv (.t 11)⟩,
  ⟨some 81, none, .no, .un .not (.t 80)⟩]
@[go_sem] def speculumref07_Check_r19 : List AIns := [
  ⟨some 10, none, .no, .mv (.v (.int .i64 (80)))⟩]
def speculumref07_Check_c20 : ACode := .seq (.reg speculumref07_Check_r19) .ret
def speculumref07_Check_c21 : ACode := .cond (.t 81) speculumref07_Check_c20 .skip
def speculumref07_Check_c22 : ACode := .seq (.reg speculumref07_Check_r18) speculumref07_Check_c21
@[go_sem] def speculumref07_Check_r23 : List AIns := [
  ⟨some 10, none, .no, .mv (.v (.int .i64 (0)))⟩]
def speculumref07_Check_c24 : ACode := .seq (.reg speculumref07_Check_r23) .ret
def speculumref07_Check_c25 : ACode := .seq speculumref07_Check_c22 speculumref07_Check_c24
def speculumref07_Check_c26 : ACode := .seq speculumref07_Check_c17 speculumref07_Check_c25
def speculumref07_Check_c27 : ACode := .seq (.reg speculumref07_Check_r6) speculumref07_Check_c26
def speculumref07_Check_c28 : ACode := .seq speculumref07_Check_c5 speculumref07_Check_c27
def speculumref07_Check_c29 : ACode := .seq (.reg speculumref07_Check_r0) speculumref07_Check_c28
theorem speculumref07_Check_ok : cFn TC 20 = some (82, [.t 10], speculumref07_Check_c29) := by kernel_rfl

@[go_sem] def proofs_Proof_1_r0 : List AIns := [
  ⟨some 9, none, .no, .mv (.t 1)⟩,
  ⟨some 10, none, .no, .mv (.t 0)⟩,
  ⟨some 11, none, .no, .lenSl (.t 10)⟩,
  ⟨some 12, none, .no, .bin .eql .none (.t 9) (.t 11)⟩]
@[go_sem] def proofs_Proof_1_r1 : List AIns := [
  ⟨some 13, none, .no, .mv (.t 2)⟩,
  ⟨some 14, none, .no, .un .not (.t 13)⟩]
@[go_sem] def proofs_Proof_1_r2 : List AIns := [
  ⟨some 15, none, .rd, .load false 1 (.t 3)⟩,
  ⟨some 16, none, .no, .mv (.t 0)⟩,
  ⟨some 17, none, .ef, .call (.v (.fn 22 [])) [(.t 16)]⟩,
  ⟨some 18, none, .no, .lit 32 [(.t 17)]⟩,
  ⟨some 19, none, .no, .app 32 (.t 15) (.t 18)⟩,
  ⟨none, none, .no, .store 1 (.t 3) (.t 19)⟩]
def proofs_Proof_1_c3 : ACode := .cond (.t 14) (.reg proofs_Proof_1_r2) .skip
def proofs_Proof_1_c4 : ACode := .seq (.reg proofs_Proof_1_r1) proofs_Proof_1_c3
def proofs_Proof_1_c5 : ACode := .seq proofs_Proof_1_c4 .ret
def proofs_Proof_1_c6 : ACode := .cond (.t 12) proofs_Proof_1_c5 .skip
def proofs_Proof_1_c7 : ACode := .seq (.reg proofs_Proof_1_r0) proofs_Proof_1_c6
@[go_sem] def proofs_Proof_1_r8 : List AIns := [
  ⟨some 20, none, .no, .mv (.t 0)⟩,
  ⟨some 21, none, .no, .lenSl (.t 20)⟩,
  ⟨some 22, none, .no, .call (.v (.fn 61 [])) [(.t 21)]⟩,
  ⟨some 8, none, .no, .mv (.t 22)⟩]
@[go_sem] def proofs_Proof_1_r9 : List AIns := [
  ⟨some 23, none, .no, .mv (.t 1)⟩,
  ⟨some 24, none, .no, .mv (.t 8)⟩,
  ⟨some 25, none, .no, .bin .leq .none (.t 23) (.t 24)⟩]
@[go_sem] def proofs_Proof_1_r10 : List AIns := [
  ⟨some 26, none, .rd, .load false 1 (.t 4)⟩,
  ⟨some 27, none, .no, .mv (.t 0)⟩,
  ⟨some 28, none, .no, .mv (.t 8)⟩,
  ⟨some 29, none, .rd, .slice (.sl 32) (.t 27) none (some (.t 28)) none⟩,
  ⟨some 30, none, .no, .mv (.t 1)⟩,
  ⟨some 31, none, .no, .mv (.t 2)⟩,
  ⟨some 32, none, .no, .call (.t 26) [(.t 29), (.t 30), (.t 31)]⟩]
@[go_sem] def proofs_Proof_1_r11 : List AIns := [
  ⟨some 33, none, .rd, .load false 1 (.t 3)⟩,
  ⟨some 34, none, .no, .mv (.t 0)⟩,
  ⟨some 35, none, .no, .mv (.t 8)⟩,
  ⟨some 36, none, .rd, .slice (.sl 32) (.t 34) (some (.t 35)) none none⟩,
  ⟨some 37, none, .ef, .call (.v (.fn 22 [])) [(.t 36)]⟩,
  ⟨some 38, none, .no, .lit 32 [(.t 37)]⟩,
  ⟨some 39, none, .no, .app 32 (.t 33) (.t 38)⟩,
  ⟨none, none, .no, .store 1 (.t 3) (.t 39)⟩]
def proofs_Proof_1_c12 : ACode := .seq (.reg proofs_Proof_1_r11) .ret
def proofs_Proof_1_c13 : ACode := .seq (.reg proofs_Proof_1_r10) proofs_Proof_1_c12
def proofs_Proof_1_c14 : ACode := .cond (.t 25) proofs_Proof_1_c13 .skip
def proofs_Proof_1_c15 : ACode := .seq (.reg proofs_Proof_1_r9) proofs_Proof_1_c14
@[go_sem] def proofs_Proof_1_r16 : List AIns := [
  ⟨some 40, none, .rd, .load false 1 (.t 4)⟩,
  ⟨some 41, none, .no, .mv (.t 0)⟩,
  ⟨some 42, none, .no, .mv (.t 8)⟩,
  ⟨some 43, none, .rd, .slice (.sl 32) (.t 41) (some (.t 42)) none none⟩,
  ⟨some 44, none, .no, .mv (.t 1)⟩,
  ⟨some 45, none, .no, .mv (.t 8)⟩,
  ⟨some 46, none, .no, .bin .sub .none (.t 44) (.t 45)⟩,
  ⟨some 47, none, .no, .call (.t 40) [(.t 43), (.t 46), (.v (.bool false))]⟩]
@[go_sem] def proofs_Proof_1_r17 : List AIns := [
  ⟨some 48, none, .rd, .load false 1 (.t 3)⟩,
  ⟨some 49, none, .no, .mv (.t 0)⟩,
  ⟨some 50, none, .no, .mv (.t 8)⟩,
  ⟨some 51, none, .rd, .slice (.sl 32) (.t 49) none (some (.t 50)) none⟩,
  ⟨some 52, none, .ef, .call (.v (.fn 22 [])) [(.t 51)]⟩,
  ⟨some 53, none, .no, .lit 32 [(.t 52)]⟩,
  ⟨some 54, none, .no, .app 32 (.t 48) (.t 53)⟩,
  ⟨none, none, .no, .store 1 (.t 3) (.t 54)⟩]
def proofs_Proof_1_c18 : ACode := .seq (.reg proofs_Proof_1_r16) (.reg proofs_Proof_1_r17)
def proofs_Proof_1_c19 : ACode := .seq proofs_Proof_1_c15 proofs_Proof_1_c18
def proofs_Proof_1_c20 : ACode := .seq (.reg proofs_Proof_1_r8) proofs_Proof_1_c19
def proofs_Proof_1_c21 : ACode := .seq proofs_Proof_1_c7 proofs_Proof_1_c20
theorem proofs_Proof_1_ok : cFn TC 60 = some (55, [], proofs_Proof_1_c21) := by kernel_rfl

@[go_sem] def speculumref07_sub_r0 : List AIns := [
  ⟨some 6, none, .no, .mv (.v .nilsl)⟩]
@[go_sem] def speculumref07_sub_r1 : List AIns := [
  ⟨some 8, none, .no, .mv (.t 1)⟩,
  ⟨some 9, none, .no, .mv (.t 0)⟩,
  ⟨some 10, none, .no, .lenSl (.t 9)⟩,
  ⟨some 11, none, .no, .bin .eql .none (.t 8) (.t 10)⟩,
  ⟨some 12, none, .no, .mv (.t 11)⟩,
  ⟨some 13, some (12, true), .no, .mv (.t 2)⟩,
  ⟨some 14, none, .no, .pick (.t 12) (.t 13) (.v (.bool false))⟩]
@[go_sem] def speculumref07_sub_r2 : List AIns := [
  ⟨some 6, none, .no, .mv (.v .nilsl)⟩]
def speculumref07_sub_c3 : ACode := .seq (.reg speculumref07_sub_r2) .ret
def speculumref07_sub_c4 : ACode := .cond (.t 14) speculumref07_sub_c3 .skip
def speculumref07_sub_c5 : ACode := .seq (.reg speculumref07_sub_r1) speculumref07_sub_c4
@[go_sem] def speculumref07_sub_r6 : List AIns := [
  ⟨some 15, none, .no, .mv (.t 1)⟩,
  ⟨some 16, none, .no, .mv (.t 0)⟩,
  ⟨some 17, none, .no, .lenSl (.t 16)⟩,
  ⟨some 18, none, .no, .bin .eql .none (.t 15) (.t 17)⟩]
@[go_sem] def speculumref07_sub_r7 : List AIns := [
  ⟨some 19, none, .no, .mv (.t 0)⟩,
  ⟨some 20, none, .no, .call (.v (.fn 71 [])) [(.t 19)]⟩,
  ⟨some 21, none, .no, .lit 32 [(.t 20)]⟩,
  ⟨some 6, none, .no, .mv (.t 21)⟩]
def speculumref07_sub_c8 : ACode := .seq (.reg speculumref07_sub_r7) .ret
def speculumref07_sub_c9 : ACode := .cond (.t 18) speculumref07_sub_c8 .skip
def speculumref07_sub_c10 : ACode := .seq (.reg speculumref07_sub_r6) speculumref07_sub_c9
@[go_sem] def speculumref07_sub_r11 : List AIns := [
  ⟨some 22, none, .no, .mv (.t 0)⟩,
  ⟨some 23, none, .no, .lenSl (.t 22)⟩,
  ⟨some 24, none, .no, .call (.v (.fn 114 [])) [(.t 23)]⟩,
  ⟨some 7, none, .no, .mv (.t 24)⟩]
@[go_sem] def speculumref07_sub_r12 : List AIns := [
  ⟨some 25, none, .no, .mv (.t 1)⟩,
  ⟨some 26, none, .no, .mv (.t 7)⟩,
  ⟨some 27, none, .no, .bin .leq .none (.t 25) (.t 26)⟩]
@[go_sem] def speculumref07_sub_r13 : List AIns := [
  ⟨some 28, none, .no, .mv (.t 0)⟩,
  ⟨some 29, none, .no, .mv (.t 7)⟩,
  ⟨some 30, none, .rd, .slice (.sl 32) (.t 28) none (some (.t 29)) none⟩,
  ⟨some 31, none, .no, .mv (.t 1)⟩,
  ⟨some 32, none, .no, .mv (.t 2)⟩,
  ⟨some 33, none, .ef, .call (.v (.fn 62 [])) [(.t 30), (.t 31), (.t 32)]⟩,
  ⟨some 34, none, .no, .mv (.t 0)⟩,
  ⟨some 35, none, .no, .mv (.t 7)⟩,
  ⟨some 36, none, .rd, .slice (.sl 32) (.t 34) (some (.t 35)) none none⟩,
  ⟨some 37, none, .no, .call (.v (.fn 71 [])) [(.t 36)]⟩,
  ⟨some 38, none, .no, .lit 32 [(.t 37)]⟩,
  ⟨some 39, none, .no, .app 32 (.t 33) (.t 38)⟩,
  ⟨some 6, none, .no, .mv (.t 39)⟩]
def speculumref07_sub_c14 : ACode := .seq (.reg speculumref07_sub_r13) .ret
def speculumref07_sub_c15 : ACode := .cond (.t 27) speculumref07_sub_c14 .skip
def speculumref07_sub_c16 : ACode := .seq (.reg speculumref07_sub_r12) speculumref07_sub_c15
@[go_sem] def speculumref07_sub_r17 : List AIns := [
  ⟨some 40, none, .no, .mv (.t 0)⟩,
  ⟨some 41, none, .no, .mv (.t 7)⟩,
  ⟨some 42, none, .rd, .slice (.sl 32) (.t 40) (some (.t 41)) none none⟩,
  ⟨some 43, none, .no, .mv (.t 1)⟩,
  ⟨some 44, none, .no, .mv (.t 7)⟩,
  ⟨some 45, none, .no, .bin .sub .none (.t 43) (.t 44)⟩,
  ⟨some 46, none, .ef, .call (.v (.fn 62 [])) [(.t 42), (.t 45), (.v (.bool false))]⟩,
  ⟨some 47, none, .no, .mv (.t 0)⟩,
  ⟨some 48, none, .no, .mv (.t 7)⟩,
  ⟨some 49, none, .rd, .slice (.sl 32) (.t 47) none (some (.t 48)) none⟩,
  ⟨some 50, none, .no, .call (.v (.fn 71 [])) [(.t 49)]⟩,
  ⟨some 51, none, .no, .lit 32 [(.t 50)]⟩,
  ⟨some 52, none, .no, .app 32 (.t 46) (.t 51)⟩,
  ⟨some 6, none, .no, .mv (.t 52)⟩]
def speculumref07_sub_c18 : ACode := .seq (.reg speculumref07_sub_r17) .ret
def speculumref07_sub_c19 : ACode := .seq speculumref07_sub_c16 speculumref07_sub_c18
def speculumref07_sub_c20 : ACode := .seq (.reg speculumref07_sub_r11) speculumref07_sub_c19
def speculumref07_sub_c21 : ACode := .seq speculumref07_sub_c10 speculumref07_sub_c20
def speculumref07_sub_c22 : ACode := .seq speculumref07_sub_c5 speculumref07_sub_c21
def speculumref07_sub_c23 : ACode := .seq (.reg speculumref07_sub_r0) speculumref07_sub_c22
theorem speculumref07_sub_ok : cFn TC 62 = some (53, [.t 6], speculumref07_sub_c23) := by kernel_rfl

@[go_sem] def proofs_holds_r0 : List AIns := [
  ⟨some 2, none, .no, .mv (.v (.int .i64 (0)))⟩]
@[go_sem] def proofs_holds_r1 : List AIns := [
  ⟨some 3, none, .no, .mv (.t 0)⟩,
  ⟨some 4, none, .no, .un .not (.t 3)⟩]
@[go_sem] def proofs_holds_r2 : List AIns := [
  ⟨some 2, none, .no, .mv (.v (.int .i64 (80)))⟩]
def proofs_holds_c3 : ACode := .seq (.reg proofs_holds_r2) .ret
def proofs_holds_c4 : ACode := .cond (.t 4) proofs_holds_c3 .skip
def proofs_holds_c5 : ACode := .seq (.reg proofs_holds_r1) proofs_holds_c4
@[go_sem] def proofs_holds_r6 : List AIns := [
  ⟨some 2, none, .no, .mv (.v (.int .i64 (0)))⟩]
def proofs_holds_c7 : ACode := .seq (.reg proofs_holds_r6) .ret
def proofs_holds_c8 : ACode := .seq proofs_holds_c5 proofs_holds_c7
def proofs_holds_c9 : ACode := .seq (.reg proofs_holds_r0) proofs_holds_c8
theorem proofs_holds_ok : cFn TC 63 = some (5, [.t 2], proofs_holds_c9) := by kernel_rfl

@[go_sem] def proofs_Check_1_r0 : List AIns := [
  ⟨some 1, none, .no, .alloc [(.int .u8 (0)), (.int .u8 (0)), (.int .u8 (0)), (.int .u8 (0)), (.int .u8 (0)), (.int .u8 (0)), (.int .u8 (0)), (.int .u8 (0)), (.int .u8 (0)), (.int .u8 (0)), (.int .u8 (0)), (.int .u8 (0)), (.int .u8 (0)), (.int .u8 (0)), (.int .u8 (0)), (.int .u8 (0)), (.int .u8 (0)), (.int .u8 (0)), (.int .u8 (0)), (.int .u8 (0)), (.int .u8 (0)), (.int .u8 (0)), (.int .u8 (0)), (.int .u8 (0)), (.int .u8 (0)), (.int .u8 (0)), (.int .u8 (0)), (.int .u8 (0)), (.int .u8 (0)), (.int .u8 (0)), (.int .u8 (0)), (.int .u8 (0))]⟩,
  ⟨some 2, none, .no, .mv (.v (.bool false))⟩]
@[go_sem] def proofs_Check_1_r1 : List AIns := [
  ⟨some 3, none, .no, .load false 1 (.t 0)⟩,
  ⟨some 4, none, .no, .lenSl (.t 3)⟩,
  ⟨some 5, none, .no, .bin .eql .none (.t 4) (.v (.int .i64 (0)))⟩]
@[go_sem] def proofs_Check_1_r2 : List AIns := [
  ⟨some 6, none, .no, .load true 32 (.t 1)⟩,
  ⟨none, none, .no, .store 32 (.t 1) (.t 6)⟩,
  ⟨some 2, none, .no, .mv (.v (.bool false))⟩]
def proofs_Check_1_c3 : ACode := .seq (.reg proofs_Check_1_r2) .ret
def proofs_Check_1_c4 : ACode := .cond (.t 5) proofs_Check_1_c3 .skip
def proofs_Check_1_c5 : ACode := .seq (.reg proofs_Check_1_r1) proofs_Check_1_c4
@[go_sem] def proofs_Check_1_r6 : List AIns := [
  ⟨some 7, none, .rd, .load false 1 (.t 0)⟩,
  ⟨some 8, none, .no, .iaSl 32 (.t 7) (.v (.int .i64 (0)))⟩,
  ⟨some 9, none, .rd, .load true 32 (.t 8)⟩,
  ⟨some 10, none, .rd, .load false 1 (.t 0)⟩,
  ⟨some 11, none, .rd, .slice (.sl 32) (.t 10) (some (.v (.int .i64 (1)))) none none⟩,
  ⟨none, none, .ef, .store 32 (.t 1) (.t 9)⟩,
  ⟨none, none, .no, .store 1 (.t 0) (.t 11)⟩]
@[go_sem] def proofs_Check_1_r7 : List AIns := [
  ⟨some 12, none, .no, .load true 32 (.t 1)⟩,
  ⟨none, none, .no, .store 32 (.t 1) (.t 12)⟩,
  ⟨some 2, none, .no, .mv (.v (.bool true))⟩]
def proofs_Check_1_c8 : ACode := .seq (.reg proofs_Check_1_r7) .ret
def proofs_Check_1_c9 : ACode := .seq (.reg proofs_Check_1_r6) proofs_Check_1_c8
def proofs_Check_1_c10 : ACode := .seq proofs_Check_1_c5 proofs_Check_1_c9
def proofs_Check_1_c11 : ACode := .seq (.reg proofs_Check_1_r0) proofs_Check_1_c10
theorem proofs_Check_1_ok : cFn TC 64 = some (13, [.c 1 true 32, .t 2], proofs_Check_1_c11) := by kernel_rfl

@[go_sem] def speculumref07_says_r0 : List AIns := [
  ⟨some 8, none, .no, .box (.t 3)⟩,
  ⟨some 10, none, .no, .alloc [(.int .u8 (0)), (.int .u8 (0)), (.int .u8 (0)), (.int .u8 (0)), (.int .u8 (0)), (.int .u8 (0)), (.int .u8 (0)), (.int .u8 (0)), (.int .u8 (0)), (.int .u8 (0)), (.int .u8 (0)), (.int .u8 (0)), (.int .u8 (0)), (.int .u8 (0)), (.int .u8 (0)), (.int .u8 (0)), (.int .u8 (0)), (.int .u8 (0)), (.int .u8 (0)), (.int .u8 (0)), (.int .u8 (0)), (.int .u8 (0)), (.int .u8 (0)), (.int .u8 (0)), (.int .u8 (0)), (.int .u8 (0)), (.int .u8 (0)), (.int .u8 (0)), (.int .u8 (0)), (.int .u8 (0)), (.int .u8 (0)), (.int .u8 (0))]⟩,
  ⟨some 11, none, .no, .alloc [(.int .u8 (0)), (.int .u8 (0)), (.int .u8 (0)), (.int .u8 (0)), (.int .u8 (0)), (.int .u8 (0)), (.int .u8 (0)), (.int .u8 (0)), (.int .u8 (0)), (.int .u8 (0)), (.int .u8 (0)), (.int .u8 (0)), (.int .u8 (0)), (.int .u8 (0)), (.int .u8 (0)), (.int .u8 (0)), (.int .u8 (0)), (.int .u8 (0)), (.int .u8 (0)), (.int .u8 (0)), (.int .u8 (0)), (.int .u8 (0)), (.int .u8 (0)), (.int .u8 (0)), (.int .u8 (0)), (.int .u8 (0)), (.int .u8 (0)), (.int .u8 (0)), (.int .u8 (0)), (.int .u8 (0)), (.int .u8 (0)), (.int .u8 (0))]⟩,
  ⟨some 12, none, .no, .mv (.v (.bool false))⟩]
@[go_sem] def speculumref07_says_r1 : List AIns := [
  ⟨some 22, none, .no, .mv (.t 0)⟩,
  ⟨some 23, none, .no, .mv (.t 1)⟩,
  ⟨some 24, none, .no, .bin .eql .none (.t 22) (.t 23)⟩,
  ⟨some 25, none, .no, .mv (.t 24)⟩,
  ⟨some 26, some (25, true), .no, .mv (.t 2)⟩,
  ⟨some 27, none, .no, .pick (.t 25) (.t 26) (.v (.bool false))⟩]
@[go_sem] def speculumref07_says_r2 : List AIns := [
  ⟨some 28, none, .rd, .load true 32 (.t 8)⟩,
  ⟨some 29, none, .rd, .load true 32 (.t 8)⟩,
  ⟨some 30, none, .no, .mv (.t 4)⟩,
  ⟨some 31, none, .no, .lenSl (.t 30)⟩,
  ⟨some 32, none, .no, .bin .eql .none (.t 31) (.v (.int .i64 (0)))⟩,
  ⟨none, none, .ef, .store 32 (.t 10) (.t 28)⟩,
  ⟨none, none, .no, .store 32 (.t 11) (.t 29)⟩,
  ⟨some 12, none, .no, .mv (.t 32)⟩]
def speculumref07_says_c3 : ACode := .seq (.reg speculumref07_says_r2) .ret
def speculumref07_says_c4 : ACode := .cond (.t 27) speculumref07_says_c3 .skip
def speculumref07_says_c5 : ACode := .seq (.reg speculumref07_says_r1) speculumref07_says_c4
@[go_sem] def speculumref07_says_r6 : List AIns := [
  ⟨some 33, none, .no, .mv (.t 0)⟩,
  ⟨some 34, none, .no, .mv (.t 1)⟩,
  ⟨some 35, none, .no, .bin .eql .none (.t 33) (.t 34)⟩]
@[go_sem] def speculumref07_says_r7 : List AIns := [
  ⟨some 36, none, .no, .mv (.t 4)⟩,
  ⟨some 37, none, .no, .lenSl (.t 36)⟩,
  ⟨some 38, none, .no, .bin .neq .none (.t 37) (.v (.int .i64 (1)))⟩]
@[go_sem] def speculumref07_says_r8 : List AIns := [
  ⟨some 39, none, .rd, .load true 32 (.t 8)⟩,
  ⟨some 40, none, .rd, .load true 32 (.t 8)⟩,
  ⟨none, none, .ef, .store 32 (.t 10) (.t 39)⟩,
  ⟨none, none, .no, .store 32 (.t 11) (.t 40)⟩,
  ⟨some 12, none, .no, .mv (.v (.bool false))⟩]
def speculumref07_says_c9 : ACode := .seq (.reg speculumref07_says_r8) .ret
def speculumref07_says_c10 : ACode := .cond (.t 38) speculumref07_says_c9 .skip
def speculumref07_says_c11 : ACode := .seq (.reg speculumref07_says_r7) speculumref07_says_c10
@[go_sem] def speculumref07_says_r12 : List AIns := [
  ⟨some 41, none, .no, .mv (.t 4)⟩,
  ⟨some 42, none, .no, .iaSl 32 (.t 41) (.v (.int .i64 (0)))⟩,
  ⟨some 43, none, .rd, .load true 32 (.t 42)⟩,
  ⟨some 44, none, .no, .mv (.t 4)⟩,
  ⟨some 45, none, .no, .iaSl 32 (.t 44) (.v (.int .i64 (0)))⟩,
  ⟨some 46, none, .rd, .load true 32 (.t 45)⟩,
  ⟨none, none, .ef, .store 32 (.t 10) (.t 43)⟩,
  ⟨none, none, .no, .store 32 (.t 11) (.t 46)⟩,
  ⟨some 12, none, .no, .mv (.v (.bool true))⟩]
def speculumref07_says_c13 : ACode := .seq (.reg speculumref07_says_r12) .ret
def speculumref07_says_c14 : ACode := .seq speculumref07_says_c11 speculumref07_says_c13
def speculumref07_says_c15 : ACode := .cond (.t 35) speculumref07_says_c14 .skip
def speculumref07_says_c16 : ACode := .seq (.reg speculumref07_says_r6) speculumref07_says_c15
@[go_sem] def speculumref07_says_r17 : List AIns := [
  ⟨some 47, none, .no, .mv (.t 4)⟩,
  ⟨some 48, none, .no, .lenSl (.t 47)⟩,
  ⟨some 49, none, .no, .bin .eql .none (.t 48) (.v (.int .i64 (0)))⟩]
@[go_sem] def speculumref07_says_r18 : List AIns := [
  ⟨some 50, none, .rd, .load true 32 (.t 8)⟩,
  ⟨some 51, none, .rd, .load true 32 (.t 8)⟩,
  ⟨none, none, .ef, .store 32 (.t 10) (.t 50)⟩,
  ⟨none, none, .no, .store 32 (.t 11) (.t 51)⟩,
  ⟨some 12, none, .no, .mv (.v (.bool false))⟩]
def speculumref07_says_c19 : ACode := .seq (.reg speculumref07_says_r18) .ret
def speculumref07_says_c20 : ACode := .cond (.t 49) speculumref07_says_c19 .skip
def speculumref07_says_c21 : ACode := .seq (.reg speculumref07_says_r17) speculumref07_says_c20
@[go_sem] def speculumref07_says_r22 : List AIns := [
  ⟨some 52, none, .no, .mv (.t 1)⟩,
  ⟨some 53, none, .ef, .call (.v (.fn 114 [])) [(.t 52)]⟩,
  ⟨some 54, none, .no, .mv (.t 4)⟩,
  ⟨some 55, none, .no, .mv (.t 4)⟩,
  ⟨some 56, none, .no, .lenSl (.t 55)⟩,
  ⟨some 57, none, .no, .bin .sub .none (.t 56) (.v (.int .i64 (1)))⟩,
  ⟨some 58, none, .no, .iaSl 32 (.t 54) (.t 57)⟩,
  ⟨some 59, none, .rd, .load true 32 (.t 58)⟩,
  ⟨some 14, none, .ef, .alloc [(.int .u8 (0)), (.int .u8 (0)), (.int .u8 (0)), (.int .u8 (0)), (.int .u8 (0)), (.int .u8 (0)), (.int .u8 (0)), (.int .u8 (0)), (.int .u8 (0)), (.int .u8 (0)), (.int .u8 (0)), (.int .u8 (0)), (.int .u8 (0)), (.int .u8 (0)), (.int .u8 (0)), (.int .u8 (0)), (.int .u8 (0)), (.int .u8 (0)), (.int .u8 (0)), (.int .u8 (0)), (.int .u8 (0)), (.int .u8 (0)), (.int .u8 (0)), (.int .u8 (0)), (.int .u8 (0)), (.int .u8 (0)), (.int .u8 (0)), (.int .u8 (0)), (.int .u8 (0)), (.int .u8 (0)), (.int .u8 (0)), (.int .u8 (0))]⟩,
  ⟨some 13, none, .no, .mv (.t 53)⟩,
  ⟨none, none, .no, .store 32 (.t 14) (.t 59)⟩]
@[go_sem] def speculumref07_says_r23 : List AIns := [
  ⟨some 52, none, .no, .mv (.t 1)⟩,
  ⟨some 14, none, .ef, .alloc [(.int .u8 (0)), (.int .u8 (0)), (.int .u8 (0)), (.int .u8 (0)), (.int .u8 (0)), (.int .u8 (0)), (.int .u8 (0)), (.int .u8 (0)), (.int .u8 (0)), (.int .u8 (0)), (.int .u8 (0)), (.int .u8 (0)), (.int .u8 (0)), (.int .u8 (0)), (.int .u8 (0)), (.int .u8 (0)), (.int .u8 (0)), (.int .u8 (0)), (.int .u8 (0)), (.int .u8 (0)), (.int .u8 (0)), (.int .u8 (0)), (.int .u8 (0)), (.int .u8 (0)), (.int .u8 (0)), (.int .u8 (0)), (.int .u8 (0)), (.int .u8 (0)), (.int .u8 (0)), (.int .u8 (0)), (.int .u8 (0)), (.int .u8 (0))]⟩,
  ⟨some 53, none, .ef, .call (.v (.fn 114 [])) [(.t 52)]⟩,
  ⟨some 54, none, .no, .mv (.t 4)⟩,
  ⟨some 55, none, .no, .mv (.t 4)⟩,
  ⟨some 56, none, .no, .lenSl (.t 55)⟩,
  ⟨some 57, none, .no, .bin .sub .none (.t 56) (.v (.int .i64 (1)))⟩,
  ⟨some 58, none, .no, .iaSl 32 (.t 54) (.t 57)⟩,
  ⟨some 59, none, .rd, .load true 32 (.t 58)⟩,
  ⟨some 13, none, .no, .mv (.t 53)⟩,
  ⟨none, none, .no, .store 32 (.t 14) (.t 59)⟩]
@[go_sem] def speculumref07_says_r24 : List AIns := [
  ⟨some 60, none, .no, .mv (.t 4)⟩,
  ⟨some 61, none, .no, .mv (.t 4)⟩,
  ⟨some 62, none, .no, .lenSl (.t 61)⟩,
  ⟨some 63, none, .no, .bin .sub .none (.t 62) (.v (.int .i64 (1)))⟩,
  ⟨some 64, none, .no, .slice (.sl 32) (.t 60) none (some (.t 63)) none⟩,
  ⟨some 15, none, .no, .mv (.t 64)⟩]
@[go_sem] def speculumref07_says_r25 : List AIns := [
  ⟨some 65, none, .no, .mv (.t 0)⟩,
  ⟨some 66, none, .no, .mv (.t 13)⟩,
  ⟨some 67, none, .no, .bin .leq .none (.t 65) (.t 66)⟩]
@[go_sem] def speculumref07_says_r26 : List AIns := [
  ⟨some 69, none, .no, .mv (.t 0)⟩,
  ⟨some 70, none, .no, .mv (.t 13)⟩,
  ⟨some 71, none, .no, .mv (.t 2)⟩,
  ⟨some 72, none, .no, .load true 32 (.t 8)⟩,
  ⟨some 73, none, .no, .mv (.t 15)⟩,
  ⟨some 74, none, .no, .call (.v (.fn 66 [])) [(.t 69), (.t 70), (.t 71), (.t 72), (.t 73)]⟩,
  ⟨some 68, none, .no, .mv (.t 74)⟩,
  ⟨some 75, none, .no, .ext 0 (.t 68)⟩,
  ⟨some 76, none, .no, .ext 1 (.t 68)⟩,
  ⟨some 77, none, .no, .ext 2 (.t 68)⟩,
  ⟨some 16, none, .no, .alloc [(.int .u8 (0)), (.int .u8 (0)), (.int .u8 (0)), (.int .u8 (0)), (.int .u8 (0)), (.int .u8 (0)), (.int .u8 (0)), (.int .u8 (0)), (.int .u8 (0)), (.int .u8 (0)), (.int .u8 (0)), (.int .u8 (0)), (.int .u8 (0)), (.int .u8 (0)), (.int .u8 (0)), (.int .u8 (0)), (.int .u8 (0)), (.int .u8 (0)), (.int .u8 (0)), (.int .u8 (0)), (.int .u8 (0)), (.int .u8 (0)), (.int .u8 (0)), (.int .u8 (0)), (.int .u8 (0)), (.int .u8 (0)), (.int .u8 (0)), (.int .u8 (0)), (.int .u8 (0)), (.int .u8 (0)), (.int .u8 (0)), (.int .u8 (0))]⟩,
  ⟨some 17, none, .no, .alloc [(.int .u8 (0)), (.int .u8 (0)), (.int .u8 (0)), (.int .u8 (0)), (.int .u8 (0)), (.int .u8 (0)), (.int .u8 (0)), (.int .u8 (0)), (.int .u8 (0)), (.int .u8 (0)), (.int .u8 (0)), (.int .u8 (0)), (.int .u8 (0)), (.int .u8 (0)), (.int .u8 (0)), (.int .u8 (0)), (.int .u8 (0)), (.int .u8 (0)), (.int .u8 (0)), (.int .u8 (0)), (.int .u8 (0)), (.int .u8 (0)), (.int .u8 (0)), (.int .u8 (0)), (.int .u8 (0)), (.int .u8 (0)), (.int .u8 (0)), (.int .u8 (0)), (.int .u8 (0)), (.int .u8 (0)), (.int .u8 (0)), (.int .u8 (0))]⟩,
  ⟨none, none, .no, .store 32 (.t 16) (.t 75)⟩,
  ⟨none, none, .no, .store 32 (.t 17) (.t 76)⟩,
  ⟨some 18, none, .no, .mv (.t 77)⟩]
@[go_sem] def speculumref07_says_r27 : List AIns := [
  ⟨some 78, none, .rd, .load true 32 (.t 16)⟩,
  ⟨some 79, none, .rd, .load true 32 (.t 17)⟩,
  ⟨some 80, none, .rd, .load true 32 (.t 14)⟩,
  ⟨some 81, none, .ef, .call (.v (.fn 80 [])) [(.t 79), (.t 80)]⟩,
  ⟨some 82, none, .no, .mv (.t 18)⟩,
  ⟨none, none, .no, .store 32 (.t 10) (.t 78)⟩,
  ⟨none, none, .no, .store 32 (.t 11) (.t 81)⟩,
  ⟨some 12, none, .no, .mv (.t 82)⟩]
def speculumref07_says_c28 : ACode := .seq (.reg speculumref07_says_r27) .ret
def speculumref07_says_c29 : ACode := .seq (.reg speculumref07_says_r26) speculumref07_says_c28
def speculumref07_says_c30 : ACode := .cond (.t 67) speculumref07_says_c29 .skip
def speculumref07_says_c31 : ACode := .seq (.reg speculumref07_says_r25) speculumref07_says_c30
@[go_sem] def speculumref07_says_r32 : List AIns := [
  ⟨some 84, none, .no, .mv (.t 0)⟩,
  ⟨some 85, none, .no, .mv (.t 13)⟩,
  ⟨some 86, none, .no, .bin .sub .none (.t 84) (.t 85)⟩,
  ⟨some 87, none, .no, .mv (.t 1)⟩,
  ⟨some 88, none, .no, .mv (.t 13)⟩,
  ⟨some 89, none, .no, .bin .sub .none (.t 87) (.t 88)⟩,
  ⟨some 90, none, .no, .load true 32 (.t 8)⟩,
  ⟨some 91, none, .no, .mv (.t 15)⟩,
  ⟨some 92, none, .no, .call (.v (.fn 66 [])) [(.t 86), (.t 89), (.v (.bool false)), (.t 90), (.t 91)]⟩,
  ⟨some 83, none, .no, .mv (.t 92)⟩,
  ⟨some 93, none, .no, .ext 0 (.t 83)⟩,
  ⟨some 94, none, .no, .ext 1 (.t 83)⟩,
  ⟨some 95, none, .no, .ext 2 (.t 83)⟩,
  ⟨some 19, none, .no, .alloc [(.int .u8 (0)), (.int .u8 (0)), (.int .u8 (0)), (.int .u8 (0)), (.int .u8 (0)), (.int .u8 (0)), (.int .u8 (0)), (.int .u8 (0)), (.int .u8 (0)), (.int .u8 (0)), (.int .u8 (0)), (.int .u8 (0)), (.int .u8 (0)), (.int .u8 (0)), (.int .u8 (0)), (.int .u8 (0)), (.int .u8 (0)), (.int .u8 (0)), (.int .u8 (0)), (.int .u8 (0)), (.int .u8 (0)), (.int .u8 (0)), (.int .u8 (0)), (.int .u8 (0)), (.int .u8 (0)), (.int .u8 (0)), (.int .u8 (0)), (.int .u8 (0)), (.int .u8 (0)), (.int .u8 (0)), (.int .u8 (0)), (.int .u8 (0))]⟩,
  ⟨some 20, none, .no, .alloc [(.int .u8 (0)), (.int .u8 (0)), (.int .u8 (0)), (.int .u8 (0)), (.int .u8 (0)), (.int .u8 (0)), (.int .u8 (0)), (.int .u8 (0)), (.int .u8 (0)), (.int .u8 (0)), (.int .u8 (0)), (.int .u8 (0)), (.int .u8 (0)), (.int .u8 (0)), (.int .u8 (0)), (.int .u8 (0)), (.int .u8 (0)), (.int .u8 (0)), (.int .u8 (0)), (.int .u8 (0)), (.int .u8 (0)), (.int .u8 (0)), (.int .u8 (0)), (.int .u8 (0)), (.int .u8 (0)), (.int .u8 (0)), (.int .u8 (0)), (.int .u8 (0)), (.int .u8 (0)), (.int .u8 (0)), (.int .u8 (0)), (.int .u8 (0))]⟩,
  ⟨none, none, .no, .store 32 (.t 19) (.t 93)⟩,
  ⟨none, none, .no, .store 32 (.t 20) (.t 94)⟩,
  ⟨some 21, none, .no, .mv (.t 95)⟩]
@[go_sem] def speculumref07_says_r33 : List AIns := [
  ⟨some 96, none, .rd, .load true 32 (.t 14)⟩,
  ⟨some 97, none, .rd, .load true 32 (.t 19)⟩,
  ⟨some 98, none, .ef, .call (.v (.fn 80 [])) [(.t 96), (.t 97)]⟩,
  ⟨some 99, none, .rd, .load true 32 (.t 14)⟩,
  ⟨some 100, none, .rd, .load true 32 (.t 20)⟩,
  ⟨some 101, none, .no, .call (.v (.fn 80 [])) [(.t 99), (.t 100)]⟩,
  ⟨some 102, none, .no, .mv (.t 21)⟩,
  ⟨none, none, .no, .store 32 (.t 10) (.t 98)⟩,
  ⟨none, none, .no, .store 32 (.t 11) (.t 101)⟩,
  ⟨some 12, none, .no, .mv (.t 102)⟩]
def speculumref07_says_c34 : ACode := .seq (.reg speculumref07_says_r33) .ret
def speculumref07_says_c35 : ACode := .seq (.reg speculumref07_says_r32) speculumref07_says_c34
def speculumref07_says_c36 : ACode := .seq speculumref07_says_c31 speculumref07_says_c35
def speculumref07_says_c37 : ACode := .seq (.reg speculumref07_says_r24) speculumref07_says_c36
def speculumref07_says_c38 : ACode := .seq (.reg2 speculumref07_says_r22 speculumref07_says_r23) speculumref07_says_c37
def speculumref07_says_c39 : ACode := .seq speculumref07_says_c21 speculumref07_says_c38
def speculumref07_says_c40 : ACode := .seq speculumref07_says_c16 speculumref07_says_c39
def speculumref07_says_c41 : ACode := .seq speculumref07_says_c5 speculumref07_says_c40
def speculumref07_says_c42 : ACode := .seq (.reg speculumref07_says_r0) speculumref07_says_c41
theorem speculumref07_says_ok : cFn TC 66 = some (103, [.c 10 true 32, .c 11 true 32, .t 12], speculumref07_says_c42) := by kernel_rfl
end Am
end Go.Proofs.YtfofemaglndnjaaDoor
end
section
set_option linter.unusedSimpArgs false
set_option linter.unusedVariables false
/- Proofs: contracts: Proof of the program. -/
set_option linter.unusedSimpArgs false
set_option linter.unusedVariables false
namespace Go.Proofs.YtfofemaglndnjaaDoor
namespace Am
/-- A sub-proof. -/
def subF : Nat → List (List UInt8) → Nat → Bool → List (List UInt8)
  | 0, _, _, _ => []
  | f + 1, l, m, known =>
    if m = l.length then (if known then [] else [rootS l])
    else if m ≤ splitS l.length then subF f (l.take (splitS l.length)) m known ++ [rootS (l.drop (splitS l.length))]
    else subF f (l.drop (splitS l.length)) (m - splitS l.length) false ++ [rootS (l.take (splitS l.length))]
theorem subF_eq : ∀ (f g : Nat) (l : List (List UInt8)) (m : Nat) (kn : Bool), l.length < f → l.length < g → 0 < m → m ≤ l.length → subF f l m kn = subF g l m kn
  | 0, _, _, _, _, h, _, _, _ => by omega
  | _ + 1, 0, _, _, _, _, h, _, _ => by omega
  | f + 1, g + 1, l, m, kn, h, h', h0, hm => by
    simp only [subF]
    by_cases h1 : m = l.length
    · rw [if_pos h1, if_pos h1]
    · obtain ⟨s1, s2, s3⟩ := split_spec (n := l.length) (by omega)
      rw [if_neg h1, if_neg h1]
      by_cases h2 : m ≤ splitS l.length
      · rw [if_pos h2, if_pos h2, subF_eq f g (l.take (splitS l.length)) m kn (by rw [List.length_take]; omega) (by rw [List.length_take]; omega) h0 (by rw [List.length_take]; omega)]
      · rw [if_neg h2, if_neg h2, subF_eq f g (l.drop (splitS l.length)) (m - splitS l.length) false (by rw [List.length_drop]; omega) (by rw [List.length_drop]; omega) (by omega) (by rw [List.length_drop]; omega)]
def subS (l : List (List UInt8)) (m : Nat) (known : Bool) : List (List UInt8) := subF (l.length + 1) l m known
theorem subS_all (l : List (List UInt8)) (kn : Bool) : subS l l.length kn = if kn then [] else [rootS l] := by
  unfold subS subF; rw [if_pos rfl]
theorem subS_left {l : List (List UInt8)} {m : Nat} {kn : Bool} (h0 : 0 < m) (h1 : m < l.length) (h2 : m ≤ splitS l.length) :
    subS l m kn = subS (l.take (splitS l.length)) m kn ++ [rootS (l.drop (splitS l.length))] := by
  obtain ⟨s1, s2, s3⟩ := split_spec (n := l.length) (by omega)
  unfold subS
  rw [subF, if_neg (by omega), if_pos h2]
  congr 1
  exact subF_eq _ _ _ _ _ (by rw [List.length_take]; omega) (Nat.lt_succ_self _) h0 (by rw [List.length_take]; omega)
theorem subS_right {l : List (List UInt8)} {m : Nat} {kn : Bool} (h1 : m < l.length) (h2 : ¬ m ≤ splitS l.length) :
    subS l m kn = subS (l.drop (splitS l.length)) (m - splitS l.length) false ++ [rootS (l.take (splitS l.length))] := by
  obtain ⟨s1, s2, s3⟩ := split_spec (n := l.length) (by omega)
  unfold subS
  rw [subF, if_neg (by omega), if_neg h2]
  congr 1
  exact subF_eq _ _ _ _ _ (by rw [List.length_drop]; omega) (Nat.lt_succ_self _) (by omega) (by rw [List.length_drop]; omega)
theorem subF_H : ∀ (f : Nat) (l : List (List UInt8)) (m : Nat) (kn : Bool), H32 l → H32 (subF f l m kn) ∧ (subF f l m kn).length ≤ f
  | 0, _, _, _, _ => ⟨by intro h hh; simp [subF] at hh, by simp [subF]⟩
  | f + 1, l, m, kn, hH => by
    simp only [subF]
    have one : ∀ {x : List UInt8}, x.length = 32 → H32 [x] := fun hx h hh => by simp at hh; subst hh; exact hx
    have app : ∀ {a b : List (List UInt8)}, H32 a → H32 b → H32 (a ++ b) := fun h1 h2 h hh => (List.mem_append.1 hh).elim (h1 h) (h2 h)
    split
    · split
      · exact ⟨fun h hh => by simp at hh, by simp⟩
      · exact ⟨one (rootS_len hH), by simp⟩
    · split
      · obtain ⟨i1, i2⟩ := subF_H f (l.take (splitS l.length)) m kn (hH.take _)
        exact ⟨app i1 (one (rootS_len (hH.drop _))), by simp; omega⟩
      · obtain ⟨i1, i2⟩ := subF_H f (l.drop (splitS l.length)) (m - splitS l.length) false (hH.drop _)
        exact ⟨app i1 (one (rootS_len (hH.take _))), by simp; omega⟩
theorem subS_H {l : List (List UInt8)} {m : Nat} {kn : Bool} (hH : H32 l) : H32 (subS l m kn) := (subF_H _ l m kn hH).1
theorem subS_le {l : List (List UInt8)} {m : Nat} {kn : Bool} (hH : H32 l) : (subS l m kn).length ≤ l.length + 1 := (subF_H _ l m kn hH).2
/-- What Proof has in memory: its own proof, itself, and rows of its own. -/
structure PrS (σ0 σ' : Store) (v : AV) (es : List (List AV)) : Prop where
  out : σ'[σ0.length]? = some (some [[v]])
  fn : σ'[σ0.length + 1]? = some (some [[.fn 60 [.ptr σ0.length 0 0, .ptr (σ0.length + 1) 0 0]]])
  keep : ∀ q, q < σ0.length → σ'[q]? = σ0[q]?
  sl : (es = [] ∧ v = .nilsl) ∨ ∃ r, σ0.length + 2 ≤ r ∧ es ≠ [] ∧ v = .sl r 0 es.length none 32 ∧ σ'[r]? = some (some es)
theorem PrS.lt {σ0 σ' : Store} {v : AV} {es : List (List AV)} (h : PrS σ0 σ' v es) : σ0.length + 2 ≤ σ'.length := by
  have := (List.getElem?_eq_some_iff.1 h.fn).1; omega
/-- One more. -/
theorem PrS.add {σ0 σ' : Store} {v : AV} {es : List (List AV)} (h : PrS σ0 σ' v es) (row : List AV) (hl : es.length + 1 ≤ 1073741824) :
    ∃ r σ2, aApp σ' 32 v [row] = some (.sl r 0 (es.length + 1) none 32, σ2) ∧ σ2[σ0.length]? = some (some [[v]]) ∧ PrS σ0 (σ2.set σ0.length (some [[.sl r 0 (es.length + 1) none 32]])) (.sl r 0 (es.length + 1) none 32) (es ++ [row]) := by
  have hlt := h.lt
  obtain ⟨h1, h2, h3, ⟨rfl, rfl⟩ | ⟨r, hr, h0, rfl, hg⟩⟩ := h
  · refine ⟨σ'.length, σ' ++ [some [row]], rfl, by rw [gapp (by omega)]; exact h1, ⟨?_, ?_, ?_, .inr ⟨σ'.length, by omega, by simp, by simp, ?_⟩⟩⟩
    · rw [gset_eq (by simp; omega)]
    · rw [gset_ne (by omega), gapp (by omega)]; exact h2
    · intro q hq; rw [gset_ne (by omega), gapp (by omega)]; exact h3 q hq
    · rw [gset_ne (by omega), gappr (Nat.le_refl _), Nat.sub_self]; rfl
  · have hrl := (List.getElem?_eq_some_iff.1 hg).1
    refine ⟨σ'.length, σ'.set r none ++ [some (es ++ [row])], ?_, ?_, ⟨?_, ?_, ?_, .inr ⟨σ'.length, by omega, by simp, by simp, ?_⟩⟩⟩
    · rw [app_s, if_neg (by simp), hg]
      simp only [List.length_cons, List.length_nil]
      rw [if_pos ⟨trivial, by omega, by omega⟩, if_neg (by omega), List.drop_zero, List.take_of_length_le (Nat.le_refl _)]
    · rw [gapp (by simp; omega), gset_ne (by omega)]; exact h1
    · rw [gset_eq (by simp; omega)]
    · rw [gset_ne (by omega), gapp (by simp; omega), gset_ne (by omega)]; exact h2
    · intro q hq; rw [gset_ne (by omega), gapp (by simp; omega), gset_ne (by omega)]; exact h3 q hq
    · rw [gset_ne (by omega), gappr (by simp), List.length_set, Nat.sub_self]; rfl
theorem PrS.ex (σ0 : Store) (es : List (List AV)) : ∃ v σ', PrS σ0 σ' v es := by
  by_cases h : es = []
  · exact ⟨.nilsl, σ0 ++ [some [[.nilsl]], some [[.fn 60 [.ptr σ0.length 0 0, .ptr (σ0.length + 1) 0 0]]]], by simp, by simp, fun q hq => gapp hq, .inl ⟨h, rfl⟩⟩
  · exact ⟨.sl (σ0.length + 2) 0 es.length none 32, σ0 ++ [some [[.sl (σ0.length + 2) 0 es.length none 32]], some [[.fn 60 [.ptr σ0.length 0 0, .ptr (σ0.length + 1) 0 0]]], some es], by simp, by simp, fun q hq => gapp hq, .inr ⟨_, Nat.le_refl _, h, rfl, by simp⟩⟩
set_option maxHeartbeats 8000000 in
theorem Proof_1_to (σ0 : Store) : ∀ (f : Nat) (hs : List (List UInt8)) (ex : Bool) (m : Nat) (kn : Bool) (σ : Store) (v : AV) (es : List (List AV)), hs.length < f → H32 hs → hs.length < 1000000 → 0 < m → m ≤ hs.length → es.length + hs.length < 10000000 → PrS σ0 σ v es →
    ACallsP TC 60 [.vsl 32 (hrows hs) ex, .int .i64 m, .bool kn, .ptr σ0.length 0 0, .ptr (σ0.length + 1) 0 0] σ (fun r σ' => r = .tup [] ∧ ∃ v', PrS σ0 σ' v' (es ++ hrows (subS hs m kn))) := by
  intro f
  induction f with
  | zero => intro hs ex m kn σ v es h; omega
  | succ f ih =>
    intro hs ex m kn σ v es hf hH hl h0 hm hel hP
    have hrl := hrows_len hs
    have ho := hP.out
    have hfn := hP.fn
    have hlt := hP.lt
    by_cases h1 : m = hs.length
    · subst h1
      rw [subS_all]
      cases kn with
      | true =>
        refine ACallsP.of_keep proofs_Proof_1_ok (by simp) ?_
        repeat' (first | refine SWp.seq ?_ | refine SWp.block ?_ | refine SWp.scope ?_ | refine SWp.condT rfl ?_ | refine SWp.condF rfl ?_ | (refine SWp.condD rfl (fun ht => ?_) (fun ht => ?_) <;> try (exfalso; omega)) | ((first | refine SWp.reg ?_ | refine SWp.skip ?_ | refine SWp.exit ?_ | refine SWp.ret ?_ | ((first | apply splitG | apply splitGB | apply splitR | apply splitRB | apply splitE | apply splitEB | apply splitC | apply splitCB) <;> intro ht)); all_goals try simp (disch := first | omega | (simp only [lens]; omega)) only [go_sem, Nat.reduceEqDiff, Nat.reduceBEq, Nat.reduceAdd, Nat.reduceMul, Nat.reduceSub, Nat.reduceLeDiff, Int.reduceToNat, Int.reducePow, hrl]))
        exact ⟨v, by simpa [hrows] using hP⟩
      | false =>
        obtain ⟨r, σ2, he, hg, hP2⟩ := hP.add (byteEsC (rootS hs)) (by omega)
        have hR := trees_Root_to σ hs (.vsl 32 (hrows hs) ex) (.inr ⟨ex, rfl⟩) hH (by omega)
        have hc := byteEsC_len (rootS hs)
        rw [rootS_len hH] at hc
        have hgo : hrows (if false = true then [] else [rootS hs]) = [byteEsC (rootS hs)] := rfl
        rw [hgo]
        generalize byteEsC (rootS hs) = row at *
        generalize hrows hs = rows at *
        refine ACallsP.of_keep proofs_Proof_1_ok (by simp) ?_
        repeat' (first | refine SWp.seq ?_ | refine SWp.block ?_ | refine SWp.scope ?_ | refine SWp.condT rfl ?_ | refine SWp.condF rfl ?_ | (refine SWp.condD rfl (fun ht => ?_) (fun ht => ?_) <;> try (exfalso; omega)) | ((first | refine SWp.regS ?_ | refine SWp.skip ?_ | refine SWp.exit ?_ | refine SWp.ret ?_ | (apply callW.any; (first | exact (hR))) | ((first | apply splitG | apply splitGB | apply splitR | apply splitRB | apply splitE | apply splitEB | apply splitC | apply splitCB) <;> intro ht)); all_goals try simp (disch := first | omega | (simp only [lens]; omega)) only [go_sem, Nat.reduceEqDiff, Nat.reduceBEq, Nat.reduceAdd, Nat.reduceMul, Nat.reduceSub, Nat.reduceLeDiff, Int.reduceToNat, Int.reducePow, hrl, ho, he, hg, hc]))
        exact ⟨_, hP2⟩
    · obtain ⟨s1, s2, s3⟩ := split_spec (n := hs.length) (by omega)
      have hsp := fun σ => trees_Split_to σ hs.length (by omega)
      obtain ⟨k, hkd⟩ : ∃ k, splitS hs.length = k := ⟨_, rfl⟩
      have tk := hrows_take hs k
      have dk := hrows_drop hs k
      rw [hkd] at s1 s2 s3 hsp
      have hm1 : ¬ (m : Int) = hs.length := by omega
      by_cases h2 : m ≤ k
      · have e := subS_left (l := hs) (m := m) (kn := kn) h0 (by omega) (by rw [hkd]; exact h2)
        rw [hkd] at e
        have i1 := fun b => ih (hs.take k) b m kn σ v es (by rw [List.length_take]; omega) (hH.take _) (by rw [List.length_take]; omega) (by omega) (by rw [List.length_take]; omega) (by rw [List.length_take]; omega) hP
        have hR := fun σ b => trees_Root_to σ (hs.drop k) (.vsl 32 (hrows (hs.drop k)) b) (.inr ⟨b, rfl⟩) (hH.drop _) (by rw [List.length_drop]; omega)
        have hc := byteEsC_len (rootS (hs.drop k))
        rw [rootS_len (hH.drop _)] at hc
        have hcat : hrows (subS hs m kn) = hrows (subS (hs.take k) m kn) ++ [byteEsC (rootS (hs.drop k))] := by rw [e]; simp [hrows]
        have hsl := subS_le (m := m) (kn := kn) (hH.take k)
        have hsr := hrows_len (subS (hs.take k) m kn)
        rw [hcat, ← List.append_assoc]
        rw [List.length_take] at hsl
        generalize byteEsC (rootS (hs.drop k)) = row at *
        generalize hrows (subS (hs.take k) m kn) = es1 at *
        generalize hrows (hs.take k) = ra at *
        generalize hrows (hs.drop k) = rb at *
        generalize hrows hs = rows at *
        refine ACallsP.of_keep proofs_Proof_1_ok (by simp) ?_
        repeat' (first | refine SWp.seq ?_ | refine SWp.block ?_ | refine SWp.scope ?_ | refine SWp.condT rfl ?_ | refine SWp.condF rfl ?_ | (refine SWp.condD rfl (fun ht => ?_) (fun ht => ?_) <;> try (exfalso; omega)) | ((first | refine SWp.regS ?_ | refine SWp.skip ?_ | refine SWp.exit ?_ | refine SWp.ret ?_ | (apply callW.any; (first | exact (hsp _))) | ((first | apply splitG | apply splitGB | apply splitR | apply splitRB | apply splitE | apply splitEB | apply splitC | apply splitCB) <;> intro ht)); all_goals try simp (disch := first | omega | (simp only [lens]; omega)) only [go_sem, Nat.reduceEqDiff, Nat.reduceBEq, Nat.reduceAdd, Nat.reduceMul, Nat.reduceSub, Nat.reduceLeDiff, Int.reduceToNat, Int.reducePow, hrl, ho, hfn, hm1, tk, dk]))
        refine callW.mkP (i1 _) (by obtain ⟨v', σ', h⟩ := PrS.ex σ0 (es ++ es1); exact ⟨_, σ', rfl, v', h⟩) ?_
        rintro r1 σ1 ⟨rfl, v1, hP1⟩
        have ho1 := hP1.out
        obtain ⟨r, σ2, he, hg, hP2⟩ := hP1.add row (by rw [List.length_append]; omega)
        repeat' (first | refine SWp.seq ?_ | refine SWp.block ?_ | refine SWp.scope ?_ | refine SWp.condT rfl ?_ | refine SWp.condF rfl ?_ | (refine SWp.condD rfl (fun ht => ?_) (fun ht => ?_) <;> try (exfalso; omega)) | ((first | refine SWp.regS ?_ | refine SWp.skip ?_ | refine SWp.exit ?_ | refine SWp.ret ?_ | (apply callW.any; (first | exact (hR _ _))) | ((first | apply splitG | apply splitGB | apply splitR | apply splitRB | apply splitE | apply splitEB | apply splitC | apply splitCB) <;> intro ht)); all_goals try simp (disch := first | omega | (simp only [lens]; omega)) only [go_sem, Nat.reduceEqDiff, Nat.reduceBEq, Nat.reduceAdd, Nat.reduceMul, Nat.reduceSub, Nat.reduceLeDiff, Int.reduceToNat, Int.reducePow, hrl, ho1, he, hg, hc, tk, dk]))
        rw [List.length_append, List.append_assoc] at hP2
        exact ⟨_, hP2⟩
      · have e := subS_right (l := hs) (m := m) (kn := kn) (by omega) (by rw [hkd]; exact h2)
        rw [hkd] at e
        have hms : (m : Int) - k = ((m - k : Nat) : Int) := by omega
        have i1 := fun b => ih (hs.drop k) b (m - k) false σ v es (by rw [List.length_drop]; omega) (hH.drop _) (by rw [List.length_drop]; omega) (by omega) (by rw [List.length_drop]; omega) (by rw [List.length_drop]; omega) hP
        have hR := fun σ b => trees_Root_to σ (hs.take k) (.vsl 32 (hrows (hs.take k)) b) (.inr ⟨b, rfl⟩) (hH.take _) (by rw [List.length_take]; omega)
        have hc := byteEsC_len (rootS (hs.take k))
        rw [rootS_len (hH.take _)] at hc
        have hcat : hrows (subS hs m kn) = hrows (subS (hs.drop k) (m - k) false) ++ [byteEsC (rootS (hs.take k))] := by rw [e]; simp [hrows]
        have hsl := subS_le (m := (m - k)) (kn := false) (hH.drop k)
        have hsr := hrows_len (subS (hs.drop k) (m - k) false)
        rw [hcat, ← List.append_assoc]
        rw [List.length_drop] at hsl
        generalize byteEsC (rootS (hs.take k)) = row at *
        generalize hrows (subS (hs.drop k) (m - k) false) = es1 at *
        generalize hrows (hs.take k) = ra at *
        generalize hrows (hs.drop k) = rb at *
        generalize hrows hs = rows at *
        refine ACallsP.of_keep proofs_Proof_1_ok (by simp) ?_
        repeat' (first | refine SWp.seq ?_ | refine SWp.block ?_ | refine SWp.scope ?_ | refine SWp.condT rfl ?_ | refine SWp.condF rfl ?_ | (refine SWp.condD rfl (fun ht => ?_) (fun ht => ?_) <;> try (exfalso; omega)) | ((first | refine SWp.regS ?_ | refine SWp.skip ?_ | refine SWp.exit ?_ | refine SWp.ret ?_ | (apply callW.any; (first | exact (hsp _))) | ((first | apply splitG | apply splitGB | apply splitR | apply splitRB | apply splitE | apply splitEB | apply splitC | apply splitCB) <;> intro ht)); all_goals try simp (disch := first | omega | (simp only [lens]; omega)) only [go_sem, Nat.reduceEqDiff, Nat.reduceBEq, Nat.reduceAdd, Nat.reduceMul, Nat.reduceSub, Nat.reduceLeDiff, Int.reduceToNat, Int.reducePow, hrl, ho, hfn, hm1, tk, dk, hms]))
        refine callW.mkP (i1 _) (by obtain ⟨v', σ', h⟩ := PrS.ex σ0 (es ++ es1); exact ⟨_, σ', rfl, v', h⟩) ?_
        rintro r1 σ1 ⟨rfl, v1, hP1⟩
        have ho1 := hP1.out
        obtain ⟨r, σ2, he, hg, hP2⟩ := hP1.add row (by rw [List.length_append]; omega)
        repeat' (first | refine SWp.seq ?_ | refine SWp.block ?_ | refine SWp.scope ?_ | refine SWp.condT rfl ?_ | refine SWp.condF rfl ?_ | (refine SWp.condD rfl (fun ht => ?_) (fun ht => ?_) <;> try (exfalso; omega)) | ((first | refine SWp.regS ?_ | refine SWp.skip ?_ | refine SWp.exit ?_ | refine SWp.ret ?_ | (apply callW.any; (first | exact (hR _ _))) | ((first | apply splitG | apply splitGB | apply splitR | apply splitRB | apply splitE | apply splitEB | apply splitC | apply splitCB) <;> intro ht)); all_goals try simp (disch := first | omega | (simp only [lens]; omega)) only [go_sem, Nat.reduceEqDiff, Nat.reduceBEq, Nat.reduceAdd, Nat.reduceMul, Nat.reduceSub, Nat.reduceLeDiff, Int.reduceToNat, Int.reducePow, hrl, ho1, he, hg, hc, tk, dk]))
        rw [List.length_append, List.append_assoc] at hP2
        exact ⟨_, hP2⟩
theorem DownV.tup2 {k : Nat} {v v2 : AV} {σ σ2 : Store} {i : IntKind} {e : Int} (h : DownV k v σ v2 σ2) : DownV k (.tup [v, .int i e]) σ (.tup [v2, .int i e]) σ2 := by
  obtain ⟨D, a, b, c⟩ := h
  exact ⟨D, a, b, by simp only [DR, DRs]; exact ⟨_, rfl, _, _, rfl, c, _, _, rfl, rfl, rfl⟩⟩
theorem ext_of {σ σ' : Store} (h : σ.length ≤ σ'.length) (h2 : ∀ q, q < σ.length → σ'[q]? = σ[q]?) : ∃ y, σ' = σ ++ y := by
  refine ⟨σ'.drop σ.length, ?_⟩
  have e : σ'.take σ.length = σ := by
    refine List.ext_getElem? fun i => ?_
    by_cases hi : i < σ.length
    · rw [List.getElem?_take_of_lt hi]; exact h2 i hi
    · rw [List.getElem?_eq_none (by simp; omega), List.getElem?_eq_none (by omega)]
  calc σ' = σ'.take σ.length ++ σ'.drop σ.length := (List.take_append_drop _ _).symm
    _ = σ ++ σ'.drop σ.length := by rw [e]
theorem PrS.own {σ0 σ' : Store} {v : AV} {es : List (List AV)} (h : PrS σ0 σ' v es) : OwnN 32 σ0 σ' v es := by
  have hlt := h.lt
  obtain ⟨y, rfl⟩ := ext_of (by omega) h.keep
  obtain ⟨h1, h2, h3, h4 | ⟨r, hr, h0, rfl, hg⟩⟩ := h
  · exact ⟨y, rfl, .inl h4⟩
  · refine ⟨y, rfl, .inr ⟨r - σ0.length, h0, by rw [show σ0.length + (r - σ0.length) = r by omega], ?_⟩⟩
    rw [List.getElem?_append_right (by omega)] at hg; exact hg
/-- What Proof answers. -/
def proofL (hs : List (List UInt8)) (m : Int) : List (List UInt8) := if 0 < m ∧ m < hs.length then subS hs m.toNat true else []
def proofE (hs : List (List UInt8)) (m : Int) : Int := if m < 0 ∨ (hs.length : Int) < m then 2 else 0
theorem proofL_H {hs : List (List UInt8)} {m : Int} (h : H32 hs) : H32 (proofL hs m) := by
  unfold proofL
  split
  · exact subS_H h
  · intro x hx; simp at hx
theorem proofL_le {hs : List (List UInt8)} {m : Int} (h : H32 hs) : (proofL hs m).length ≤ hs.length + 1 := by
  unfold proofL
  split
  · exact subS_le h
  · simp
def ProofP (σ : Store) (hs : List (List UInt8)) (m : Int) (v : AV) (σ' : Store) : Prop := ∃ v2, v = .tup [v2, .int .i64 (proofE hs m)] ∧ OwnN 32 σ σ' v2 (hrows (proofL hs m))
theorem ProofP.ex (σ : Store) (hs : List (List UInt8)) (m : Int) : ∃ v σ', ProofP σ hs m v σ' := ⟨_, _, _, rfl, own_is σ 32 _⟩
theorem ProofP.none {σ : Store} {hs : List (List UInt8)} {m : Int} (h : proofL hs m = []) : ProofP σ hs m (.tup [.nilsl, .int .i64 (proofE hs m)]) σ := ⟨.nilsl, rfl, by rw [h]; exact ⟨[], by simp, .inl ⟨rfl, rfl⟩⟩⟩
set_option maxHeartbeats 8000000 in
theorem Proof_to (σ : Store) (hs : List (List UInt8)) (x : AV) (m : Int) (hx : SlV 32 (hrows hs) x) (hH : H32 hs) (hl : hs.length < 1000000) :
    ACallsP TC 16 [x, .int .i64 m] σ (ProofP σ hs m) := by
  have r1 := hx.len
  rw [hrows_len] at r1
  unfold rLenSl at r1
  by_cases h1 : m < 0 ∨ (hs.length : Int) < m
  · have e1 : proofE hs m = 2 := by unfold proofE; rw [if_pos h1]
    have e2 : proofL hs m = [] := by unfold proofL; rw [if_neg (by omega)]
    refine ACallsTo.toP (v := .tup [.nilsl, .int .i64 2]) (σ' := σ) ?_ (by have := ProofP.none (σ := σ) e2; rwa [e1] at this)
    refine ACallsTo.of_body proofs_Proof_ok (by simp) fun hw _ => ?_
    repeat' (first | refine SWp.seq ?_ | refine SWp.block ?_ | refine SWp.scope ?_ | refine SWp.condT rfl ?_ | refine SWp.condF rfl ?_ | (refine SWp.condD rfl (fun ht => ?_) (fun ht => ?_) <;> try (exfalso; omega)) | ((first | refine SWp.reg ?_ | refine SWp.skip ?_ | refine SWp.exit ?_ | refine SWp.ret ?_ | ((first | apply splitG | apply splitGB | apply splitR | apply splitRB | apply splitE | apply splitEB | apply splitC | apply splitCB) <;> intro ht)); all_goals try simp (disch := first | omega | (simp only [lens]; omega)) only [go_sem, Nat.reduceEqDiff, Nat.reduceBEq, Nat.reduceAdd, Nat.reduceMul, Nat.reduceSub, Nat.reduceLeDiff, Int.reduceToNat, Int.reducePow, r1]))
    all_goals exact DownV.same hw (rlB_ok _ rfl)
  · have e1 : proofE hs m = 0 := by unfold proofE; rw [if_neg h1]
    by_cases h2 : m = 0 ∨ m = hs.length
    · have e2 : proofL hs m = [] := by unfold proofL; rw [if_neg (by omega)]
      refine ACallsTo.toP (v := .tup [.nilsl, .int .i64 0]) (σ' := σ) ?_ (by have := ProofP.none (σ := σ) e2; rwa [e1] at this)
      refine ACallsTo.of_body proofs_Proof_ok (by simp) fun hw _ => ?_
      repeat' (first | refine SWp.seq ?_ | refine SWp.block ?_ | refine SWp.scope ?_ | refine SWp.condT rfl ?_ | refine SWp.condF rfl ?_ | (refine SWp.condD rfl (fun ht => ?_) (fun ht => ?_) <;> try (exfalso; omega)) | ((first | refine SWp.reg ?_ | refine SWp.skip ?_ | refine SWp.exit ?_ | refine SWp.ret ?_ | ((first | apply splitG | apply splitGB | apply splitR | apply splitRB | apply splitE | apply splitEB | apply splitC | apply splitCB) <;> intro ht)); all_goals try simp (disch := first | omega | (simp only [lens]; omega)) only [go_sem, Nat.reduceEqDiff, Nat.reduceBEq, Nat.reduceAdd, Nat.reduceMul, Nat.reduceSub, Nat.reduceLeDiff, Int.reduceToNat, Int.reducePow, r1]))
      all_goals exact DownV.same hw (rlB_ok _ rfl)
    · obtain ⟨n, rfl⟩ : ∃ n : Nat, m = n := ⟨m.toNat, by omega⟩
      have e2 : proofL hs n = subS hs n true := by unfold proofL; rw [if_pos (by omega)]; rfl
      obtain ⟨ex, rfl⟩ := hx.vsl (by rw [hrows_len]; omega)
      have i1 := fun σ' v => Proof_1_to σ (hs.length + 1) hs ex n true σ' v [] (by omega) hH hl (by omega) (by omega) (by simp; omega)
      simp only [List.nil_append] at i1
      rw [← e2] at i1
      have hP0 : PrS σ (σ ++ [some [[.nilsl]], some [[.fn 60 [.ptr σ.length 0 0, .ptr (σ.length + 1) 0 0]]]]) .nilsl [] := ⟨by simp, by simp, fun q hq => gapp hq, .inl ⟨rfl, rfl⟩⟩
      refine ACallsP.of_body proofs_Proof_ok (by simp) fun hw _ => ?_
      have hrl := hrows_len hs
      generalize hrows hs = rows at *
      repeat' (first | refine SWp.seq ?_ | refine SWp.block ?_ | refine SWp.scope ?_ | refine SWp.condT rfl ?_ | refine SWp.condF rfl ?_ | (refine SWp.condD rfl (fun ht => ?_) (fun ht => ?_) <;> try (exfalso; omega)) | ((first | refine SWp.reg ?_ | refine SWp.skip ?_ | refine SWp.exit ?_ | refine SWp.ret ?_ | ((first | apply splitG | apply splitGB | apply splitR | apply splitRB | apply splitE | apply splitEB | apply splitC | apply splitCB) <;> intro ht)); all_goals try simp (disch := first | omega | (simp only [lens]; omega)) only [go_sem, Nat.reduceEqDiff, Nat.reduceBEq, Nat.reduceAdd, Nat.reduceMul, Nat.reduceSub, Nat.reduceLeDiff, Int.reduceToNat, Int.reducePow, r1, hrl]))
      refine callW.mkP (i1 _ _ hP0) (by obtain ⟨v', σ', h⟩ := PrS.ex σ (hrows (proofL hs n)); exact ⟨_, σ', rfl, v', h⟩) ?_
      rintro r σ1 ⟨rfl, v1, hP1⟩
      have ho1 := hP1.out
      repeat' (first | refine SWp.seq ?_ | refine SWp.block ?_ | refine SWp.scope ?_ | refine SWp.condT rfl ?_ | refine SWp.condF rfl ?_ | (refine SWp.condD rfl (fun ht => ?_) (fun ht => ?_) <;> try (exfalso; omega)) | ((first | refine SWp.reg ?_ | refine SWp.skip ?_ | refine SWp.exit ?_ | refine SWp.ret ?_ | ((first | apply splitG | apply splitGB | apply splitR | apply splitRB | apply splitE | apply splitEB | apply splitC | apply splitCB) <;> intro ht)); all_goals try simp (disch := first | omega | (simp only [lens]; omega)) only [go_sem, Nat.reduceEqDiff, Nat.reduceBEq, Nat.reduceAdd, Nat.reduceMul, Nat.reduceSub, Nat.reduceLeDiff, Int.reduceToNat, Int.reducePow, ho1]))
      refine ⟨_, _, ⟨_, rfl, own_is σ 32 _⟩, ?_⟩
      rw [e1]
      exact (hP1.own.own hw (rlss_h _)).tup2
end Am
end Go.Proofs.YtfofemaglndnjaaDoor
end
section
set_option linter.unusedSimpArgs false
set_option linter.unusedVariables false
/- Proofs: contracts: Proof of the reference. -/
set_option linter.unusedSimpArgs false
set_option linter.unusedVariables false
namespace Go.Proofs.YtfofemaglndnjaaDoor
namespace Am
/-- Own elements, or a literal that can be gone on with. -/
def OwnA (sz : Nat) (τ σ' : Store) (v : AV) (es : List (List AV)) : Prop := OwnN sz τ σ' v es ∨ (v = .vsl sz es true ∧ es ≠ [] ∧ ∃ news, σ' = τ ++ news)
theorem OwnA.app {sz : Nat} {τ σ' : Store} {v : AV} {es ys : List (List AV)} (h : OwnA sz τ σ' v es) (h0 : ys.length ≠ 0) (hl : es.length + ys.length ≤ 1073741824) :
    ∃ v' σ'', aApp σ' sz v ys = some (v', σ'') ∧ OwnN sz τ σ'' v' (es ++ ys) := by
  rcases h with h | ⟨rfl, h1, news, rfl⟩
  · exact h.app h0 hl
  · refine ⟨.sl (τ ++ news).length 0 (es.length + ys.length) none sz, (τ ++ news) ++ [some (es ++ ys)], by rw [app_v, if_neg h0, if_pos ⟨rfl, rfl, hl⟩], news ++ [some (es ++ ys)], by rw [List.append_assoc], .inr ⟨news.length, by simp [h1], by simp, by rw [List.getElem?_append_right (Nat.le_refl _)]; simp⟩⟩
theorem OwnA.rd {sz : Nat} {τ σ' : Store} {v : AV} {es : List (List AV)} (h : OwnA sz τ σ' v es) : RdSl σ' sz es v := by
  rcases h with h | ⟨rfl, _⟩
  · exact h.rd
  · exact .inl (.inr ⟨true, rfl⟩)
theorem OwnA.more {sz : Nat} {τ σ' : Store} {v : AV} {es : List (List AV)} (h : OwnA sz τ σ' v es) (y : Store) : OwnA sz τ (σ' ++ y) v es := by
  rcases h with h | ⟨rfl, h1, news, rfl⟩
  · exact .inl (h.more y)
  · exact .inr ⟨rfl, h1, news ++ y, by rw [List.append_assoc]⟩
theorem OwnA.ext {sz : Nat} {τ σ' : Store} {v : AV} {es : List (List AV)} (h : OwnA sz τ σ' v es) : ∃ news, σ' = τ ++ news := by
  rcases h with h | ⟨_, _, h⟩
  · exact h.ext
  · exact h
theorem OwnA.down {sz : Nat} {σ σ' : Store} {v : AV} {es : List (List AV)} (hw : Wf σ.length σ) (h : OwnA sz σ σ' v es) (hr : RLss σ.length es) : ∃ v2 σ2, OwnA sz σ σ2 v2 es ∧ DownV σ.length v σ' v2 σ2 := by
  rcases h with h | ⟨rfl, h1, news, rfl⟩
  · exact ⟨_, _, .inl (own_is σ sz es), h.own hw hr⟩
  · exact ⟨_, σ, .inr ⟨rfl, h1, [], by simp⟩, DownV.pure hw (by simpa only [RL] using hr)⟩
set_option maxHeartbeats 8000000 in
theorem sub_to : ∀ (f : Nat) (σ : Store) (hs : List (List UInt8)) (ex : Bool) (m : Nat) (kn : Bool), hs.length < f → H32 hs → hs.length < 1000000 → 0 < m → m ≤ hs.length →
    ACallsP TC 62 [.vsl 32 (hrows hs) ex, .int .i64 m, .bool kn] σ (fun v σ' => OwnA 32 σ σ' v (hrows (subS hs m kn))) := by
  intro f
  induction f with
  | zero => intro σ hs ex m kn h; omega
  | succ f ih =>
    intro σ hs ex m kn hf hH hl h0 hm
    have hrl := hrows_len hs
    by_cases h1 : m = hs.length
    · subst h1
      rw [subS_all]
      cases kn with
      | true =>
        refine ACallsP.of_body speculumref07_sub_ok (by simp) fun hw _ => ?_
        repeat' (first | refine SWp.seq ?_ | refine SWp.block ?_ | refine SWp.scope ?_ | refine SWp.condT rfl ?_ | refine SWp.condF rfl ?_ | (refine SWp.condD rfl (fun ht => ?_) (fun ht => ?_) <;> try (exfalso; omega)) | ((first | refine SWp.reg ?_ | refine SWp.skip ?_ | refine SWp.exit ?_ | refine SWp.ret ?_ | ((first | apply splitG | apply splitGB | apply splitR | apply splitRB | apply splitE | apply splitEB | apply splitC | apply splitCB) <;> intro ht)); all_goals try simp (disch := first | omega | (simp only [lens]; omega)) only [go_sem, Nat.reduceEqDiff, Nat.reduceBEq, Nat.reduceAdd, Nat.reduceMul, Nat.reduceSub, Nat.reduceLeDiff, Int.reduceToNat, Int.reducePow, hrl]))
        exact ⟨.nilsl, σ, .inl ⟨[], by simp, .inl ⟨rfl, rfl⟩⟩, DownV.same hw (rlB_ok _ rfl)⟩
      | false =>
        have hR := fun σ => ref_Root_to σ hs (.vsl 32 (hrows hs) ex) (.inr ⟨ex, rfl⟩) hH (by omega)
        have hc := byteEsC_len (rootS hs)
        rw [rootS_len hH] at hc
        have hgo : hrows (if false = true then [] else [rootS hs]) = [byteEsC (rootS hs)] := rfl
        rw [hgo]
        have hrr := rl_bytes (k := σ.length) (rootS hs)
        generalize byteEsC (rootS hs) = row at *
        generalize hrows hs = rows at *
        refine ACallsP.of_body speculumref07_sub_ok (by simp) fun hw _ => ?_
        repeat' (first | refine SWp.seq ?_ | refine SWp.block ?_ | refine SWp.scope ?_ | refine SWp.condT rfl ?_ | refine SWp.condF rfl ?_ | (refine SWp.condD rfl (fun ht => ?_) (fun ht => ?_) <;> try (exfalso; omega)) | ((first | refine SWp.reg ?_ | refine SWp.skip ?_ | refine SWp.exit ?_ | refine SWp.ret ?_ | (apply callW.any; (first | exact (hR _))) | ((first | apply splitG | apply splitGB | apply splitR | apply splitRB | apply splitE | apply splitEB | apply splitC | apply splitCB) <;> intro ht)); all_goals try simp (disch := first | omega | (simp only [lens]; omega)) only [go_sem, Nat.reduceEqDiff, Nat.reduceBEq, Nat.reduceAdd, Nat.reduceMul, Nat.reduceSub, Nat.reduceLeDiff, Int.reduceToNat, Int.reducePow, hrl, hc]))
        exact ⟨_, σ, .inr ⟨rfl, by simp, [], by simp⟩, DownV.same hw (by simp only [RL, RLss]; exact ⟨hrr, trivial⟩)⟩
    · obtain ⟨s1, s2, s3⟩ := split_spec (n := hs.length) (by omega)
      have hsp := fun σ => ref_Split_to σ hs.length (by omega)
      obtain ⟨k, hkd⟩ : ∃ k, splitS hs.length = k := ⟨_, rfl⟩
      have tk := hrows_take hs k
      have dk := hrows_drop hs k
      rw [hkd] at s1 s2 s3 hsp
      have hm1 : ¬ (m : Int) = hs.length := by omega
      have hrs := rlss_h (k := σ.length) (subS hs m kn)
      by_cases h2 : m ≤ k
      · have e := subS_left (l := hs) (m := m) (kn := kn) h0 (by omega) (by rw [hkd]; exact h2)
        rw [hkd] at e
        have i1 := fun b => ih σ (hs.take k) b m kn (by rw [List.length_take]; omega) (hH.take _) (by rw [List.length_take]; omega) (by omega) (by rw [List.length_take]; omega)
        have hR := fun σ b => ref_Root_to σ (hs.drop k) (.vsl 32 (hrows (hs.drop k)) b) (.inr ⟨b, rfl⟩) (hH.drop _) (by rw [List.length_drop]; omega)
        have hc := byteEsC_len (rootS (hs.drop k))
        rw [rootS_len (hH.drop _)] at hc
        have hcat : hrows (subS hs m kn) = hrows (subS (hs.take k) m kn) ++ [byteEsC (rootS (hs.drop k))] := by rw [e]; simp [hrows]
        have hsl := subS_le (m := m) (kn := kn) (hH.take k)
        have hsr := hrows_len (subS (hs.take k) m kn)
        rw [hcat] at hrs ⊢
        rw [List.length_take] at hsl
        generalize byteEsC (rootS (hs.drop k)) = row at *
        generalize hrows (subS (hs.take k) m kn) = es1 at *
        generalize hrows (hs.take k) = ra at *
        generalize hrows (hs.drop k) = rb at *
        generalize hrows hs = rows at *
        refine ACallsP.of_body speculumref07_sub_ok (by simp) fun hw _ => ?_
        repeat' (first | refine SWp.seq ?_ | refine SWp.block ?_ | refine SWp.scope ?_ | refine SWp.condT rfl ?_ | refine SWp.condF rfl ?_ | (refine SWp.condD rfl (fun ht => ?_) (fun ht => ?_) <;> try (exfalso; omega)) | ((first | refine SWp.reg ?_ | refine SWp.skip ?_ | refine SWp.exit ?_ | refine SWp.ret ?_ | (apply callW.any; (first | exact (hsp _))) | ((first | apply splitG | apply splitGB | apply splitR | apply splitRB | apply splitE | apply splitEB | apply splitC | apply splitCB) <;> intro ht)); all_goals try simp (disch := first | omega | (simp only [lens]; omega)) only [go_sem, Nat.reduceEqDiff, Nat.reduceBEq, Nat.reduceAdd, Nat.reduceMul, Nat.reduceSub, Nat.reduceLeDiff, Int.reduceToNat, Int.reducePow, hrl, hm1, tk, dk]))
        refine callW.mkP_ef (i1 _) ⟨_, _, .inl (own_is σ 32 es1)⟩ ?_
        rintro v1 σ1 hO1
        obtain ⟨v2, σ2, he, hO2⟩ := hO1.app (ys := [row]) (by simp) (by simp; omega)
        simp (disch := first | omega | (simp only [lens]; omega)) only [go_sem, Nat.reduceEqDiff, Nat.reduceBEq, Nat.reduceAdd, Nat.reduceMul, Nat.reduceSub, Nat.reduceLeDiff, Int.reduceToNat, Int.reducePow, hrl, tk, dk]
        repeat' (first | refine SWp.seq ?_ | refine SWp.block ?_ | refine SWp.scope ?_ | refine SWp.condT rfl ?_ | refine SWp.condF rfl ?_ | (refine SWp.condD rfl (fun ht => ?_) (fun ht => ?_) <;> try (exfalso; omega)) | ((first | refine SWp.reg ?_ | refine SWp.skip ?_ | refine SWp.exit ?_ | refine SWp.ret ?_ | (apply callW.any; (first | exact (hR _ _))) | ((first | apply splitG | apply splitGB | apply splitR | apply splitRB | apply splitE | apply splitEB | apply splitC | apply splitCB) <;> intro ht)); all_goals try simp (disch := first | omega | (simp only [lens]; omega)) only [go_sem, Nat.reduceEqDiff, Nat.reduceBEq, Nat.reduceAdd, Nat.reduceMul, Nat.reduceSub, Nat.reduceLeDiff, Int.reduceToNat, Int.reducePow, hrl, he, hc, tk, dk]))
        obtain ⟨v3, σ3, h3, h4⟩ := OwnA.down hw (.inl hO2) hrs
        exact ⟨v3, σ3, h3, h4⟩
      · have e := subS_right (l := hs) (m := m) (kn := kn) (by omega) (by rw [hkd]; exact h2)
        rw [hkd] at e
        have hms : (m : Int) - k = ((m - k : Nat) : Int) := by omega
        have i1 := fun b => ih σ (hs.drop k) b (m - k) false (by rw [List.length_drop]; omega) (hH.drop _) (by rw [List.length_drop]; omega) (by omega) (by rw [List.length_drop]; omega)
        have hR := fun σ b => ref_Root_to σ (hs.take k) (.vsl 32 (hrows (hs.take k)) b) (.inr ⟨b, rfl⟩) (hH.take _) (by rw [List.length_take]; omega)
        have hc := byteEsC_len (rootS (hs.take k))
        rw [rootS_len (hH.take _)] at hc
        have hcat : hrows (subS hs m kn) = hrows (subS (hs.drop k) (m - k) false) ++ [byteEsC (rootS (hs.take k))] := by rw [e]; simp [hrows]
        have hsl := subS_le (m := (m - k)) (kn := false) (hH.drop k)
        have hsr := hrows_len (subS (hs.drop k) (m - k) false)
        rw [hcat] at hrs ⊢
        rw [List.length_drop] at hsl
        generalize byteEsC (rootS (hs.take k)) = row at *
        generalize hrows (subS (hs.drop k) (m - k) false) = es1 at *
        generalize hrows (hs.take k) = ra at *
        generalize hrows (hs.drop k) = rb at *
        generalize hrows hs = rows at *
        refine ACallsP.of_body speculumref07_sub_ok (by simp) fun hw _ => ?_
        repeat' (first | refine SWp.seq ?_ | refine SWp.block ?_ | refine SWp.scope ?_ | refine SWp.condT rfl ?_ | refine SWp.condF rfl ?_ | (refine SWp.condD rfl (fun ht => ?_) (fun ht => ?_) <;> try (exfalso; omega)) | ((first | refine SWp.reg ?_ | refine SWp.skip ?_ | refine SWp.exit ?_ | refine SWp.ret ?_ | (apply callW.any; (first | exact (hsp _))) | ((first | apply splitG | apply splitGB | apply splitR | apply splitRB | apply splitE | apply splitEB | apply splitC | apply splitCB) <;> intro ht)); all_goals try simp (disch := first | omega | (simp only [lens]; omega)) only [go_sem, Nat.reduceEqDiff, Nat.reduceBEq, Nat.reduceAdd, Nat.reduceMul, Nat.reduceSub, Nat.reduceLeDiff, Int.reduceToNat, Int.reducePow, hrl, hm1, tk, dk, hms]))
        refine callW.mkP_ef (i1 _) ⟨_, _, .inl (own_is σ 32 es1)⟩ ?_
        rintro v1 σ1 hO1
        obtain ⟨v2, σ2, he, hO2⟩ := hO1.app (ys := [row]) (by simp) (by simp; omega)
        simp (disch := first | omega | (simp only [lens]; omega)) only [go_sem, Nat.reduceEqDiff, Nat.reduceBEq, Nat.reduceAdd, Nat.reduceMul, Nat.reduceSub, Nat.reduceLeDiff, Int.reduceToNat, Int.reducePow, hrl, tk, dk]
        repeat' (first | refine SWp.seq ?_ | refine SWp.block ?_ | refine SWp.scope ?_ | refine SWp.condT rfl ?_ | refine SWp.condF rfl ?_ | (refine SWp.condD rfl (fun ht => ?_) (fun ht => ?_) <;> try (exfalso; omega)) | ((first | refine SWp.reg ?_ | refine SWp.skip ?_ | refine SWp.exit ?_ | refine SWp.ret ?_ | (apply callW.any; (first | exact (hR _ _))) | ((first | apply splitG | apply splitGB | apply splitR | apply splitRB | apply splitE | apply splitEB | apply splitC | apply splitCB) <;> intro ht)); all_goals try simp (disch := first | omega | (simp only [lens]; omega)) only [go_sem, Nat.reduceEqDiff, Nat.reduceBEq, Nat.reduceAdd, Nat.reduceMul, Nat.reduceSub, Nat.reduceLeDiff, Int.reduceToNat, Int.reducePow, hrl, he, hc, tk, dk]))
        obtain ⟨v3, σ3, h3, h4⟩ := OwnA.down hw (.inl hO2) hrs
        exact ⟨v3, σ3, h3, h4⟩
end Am
end Go.Proofs.YtfofemaglndnjaaDoor
end
section
set_option linter.unusedSimpArgs false
set_option linter.unusedVariables false
/- Proofs: what a proof says, by plain loops; the reference's Proof; a proof's next hash. -/
set_option linter.unusedSimpArgs false
set_option linter.unusedVariables false
namespace Go.Proofs.YtfofemaglndnjaaDoor
namespace Am
theorem refProof_none {σ : Store} {hs : List (List UInt8)} {m : Int} (h : proofL hs m = []) : OwnA 32 σ σ .nilsl (hrows (proofL hs m)) := by rw [h]; exact .inl ⟨[], by simp, .inl ⟨rfl, rfl⟩⟩
def RefP (σ : Store) (hs : List (List UInt8)) (m : Int) (v : AV) (σ' : Store) : Prop := ∃ v2, v = .tup [v2, .int .i64 (proofE hs m)] ∧ OwnA 32 σ σ' v2 (hrows (proofL hs m))
set_option maxHeartbeats 8000000 in
theorem refProof_to (σ : Store) (hs : List (List UInt8)) (x : AV) (m : Int) (hx : SlV 32 (hrows hs) x) (hH : H32 hs) (hl : hs.length < 1000000) :
    ACallsP TC 17 [x, .int .i64 m] σ (RefP σ hs m) := by
  have r1 := hx.len
  rw [hrows_len] at r1
  unfold rLenSl at r1
  by_cases h1 : m < 0 ∨ (hs.length : Int) < m
  · have e1 : proofE hs m = 2 := by unfold proofE; rw [if_pos h1]
    have e2 : proofL hs m = [] := by unfold proofL; rw [if_neg (by omega)]
    refine ACallsTo.toP (v := .tup [.nilsl, .int .i64 2]) (σ' := σ) ?_ ⟨_, by rw [e1], refProof_none e2⟩
    refine ACallsTo.of_body speculumref07_Proof_ok (by simp) fun hw _ => ?_
    repeat' (first | refine SWp.seq ?_ | refine SWp.block ?_ | refine SWp.scope ?_ | refine SWp.condT rfl ?_ | refine SWp.condF rfl ?_ | (refine SWp.condD rfl (fun ht => ?_) (fun ht => ?_) <;> try (exfalso; omega)) | ((first | refine SWp.reg ?_ | refine SWp.skip ?_ | refine SWp.exit ?_ | refine SWp.ret ?_ | ((first | apply splitG | apply splitGB | apply splitR | apply splitRB | apply splitE | apply splitEB | apply splitC | apply splitCB) <;> intro ht)); all_goals try simp (disch := first | omega | (simp only [lens]; omega)) only [go_sem, Nat.reduceEqDiff, Nat.reduceBEq, Nat.reduceAdd, Nat.reduceMul, Nat.reduceSub, Nat.reduceLeDiff, Int.reduceToNat, Int.reducePow, r1]))
    all_goals exact DownV.same hw (rlB_ok _ rfl)
  · have e1 : proofE hs m = 0 := by unfold proofE; rw [if_neg h1]
    by_cases h2 : m = 0
    · have e2 : proofL hs m = [] := by unfold proofL; rw [if_neg (by omega)]
      refine ACallsTo.toP (v := .tup [.nilsl, .int .i64 0]) (σ' := σ) ?_ ⟨_, by rw [e1], refProof_none e2⟩
      refine ACallsTo.of_body speculumref07_Proof_ok (by simp) fun hw _ => ?_
      repeat' (first | refine SWp.seq ?_ | refine SWp.block ?_ | refine SWp.scope ?_ | refine SWp.condT rfl ?_ | refine SWp.condF rfl ?_ | (refine SWp.condD rfl (fun ht => ?_) (fun ht => ?_) <;> try (exfalso; omega)) | ((first | refine SWp.reg ?_ | refine SWp.skip ?_ | refine SWp.exit ?_ | refine SWp.ret ?_ | ((first | apply splitG | apply splitGB | apply splitR | apply splitRB | apply splitE | apply splitEB | apply splitC | apply splitCB) <;> intro ht)); all_goals try simp (disch := first | omega | (simp only [lens]; omega)) only [go_sem, Nat.reduceEqDiff, Nat.reduceBEq, Nat.reduceAdd, Nat.reduceMul, Nat.reduceSub, Nat.reduceLeDiff, Int.reduceToNat, Int.reducePow, r1]))
      all_goals exact DownV.same hw (rlB_ok _ rfl)
    · obtain ⟨n, rfl⟩ : ∃ n : Nat, m = n := ⟨m.toNat, by omega⟩
      obtain ⟨ex, rfl⟩ := hx.vsl (by rw [hrows_len]; omega)
      have e2 : proofL hs n = subS hs n true := by
        unfold proofL
        by_cases h3 : n = hs.length
        · subst h3; rw [if_neg (by omega), subS_all]; rfl
        · rw [if_pos (by omega)]; rfl
      have i1 := sub_to (hs.length + 1) σ hs ex n true (by omega) hH hl (by omega) (by omega)
      rw [← e2] at i1
      have hrs := rlss_h (k := σ.length) (proofL hs n)
      unfold RefP
      rw [e1]
      have hrl := hrows_len hs
      generalize hrows hs = rows at *
      generalize hrows (proofL hs n) = es at *
      refine ACallsP.of_body speculumref07_Proof_ok (by simp) fun hw _ => ?_
      repeat' (first | refine SWp.seq ?_ | refine SWp.block ?_ | refine SWp.scope ?_ | refine SWp.condT rfl ?_ | refine SWp.condF rfl ?_ | (refine SWp.condD rfl (fun ht => ?_) (fun ht => ?_) <;> try (exfalso; omega)) | ((first | refine SWp.reg ?_ | refine SWp.skip ?_ | refine SWp.exit ?_ | refine SWp.ret ?_ | ((first | apply splitG | apply splitGB | apply splitR | apply splitRB | apply splitE | apply splitEB | apply splitC | apply splitCB) <;> intro ht)); all_goals try simp (disch := first | omega | (simp only [lens]; omega)) only [go_sem, Nat.reduceEqDiff, Nat.reduceBEq, Nat.reduceAdd, Nat.reduceMul, Nat.reduceSub, Nat.reduceLeDiff, Int.reduceToNat, Int.reducePow, r1, hrl]))
      refine callW.mkP i1 ⟨_, _, .inl (own_is σ 32 _)⟩ ?_
      rintro v1 σ1 hO
      repeat' (first | refine SWp.seq ?_ | refine SWp.block ?_ | refine SWp.scope ?_ | refine SWp.condT rfl ?_ | refine SWp.condF rfl ?_ | (refine SWp.condD rfl (fun ht => ?_) (fun ht => ?_) <;> try (exfalso; omega)) | ((first | refine SWp.reg ?_ | refine SWp.skip ?_ | refine SWp.exit ?_ | refine SWp.ret ?_ | ((first | apply splitG | apply splitGB | apply splitR | apply splitRB | apply splitE | apply splitEB | apply splitC | apply splitCB) <;> intro ht)); all_goals try simp (disch := first | omega | (simp only [lens]; omega)) only [go_sem, Nat.reduceEqDiff, Nat.reduceBEq, Nat.reduceAdd, Nat.reduceMul, Nat.reduceSub, Nat.reduceLeDiff, Int.reduceToNat, Int.reducePow]))
      obtain ⟨v3, σ3, h3, h4⟩ := OwnA.down hw hO hrs
      exact ⟨_, _, ⟨_, rfl, h3⟩, h4.tup2⟩
/-- Up to where the older tree's last full one hangs. -/
def st (i last : Nat) : Nat × Nat := if h : i % 2 = 1 then st (i / 2) (last / 2) else (i, last)
termination_by i
decreasing_by omega
/-- On which side each hash stands: true: left of both. -/
def lp (i last : Nat) : List Bool :=
  if h : last = 0 then [] else if i % 2 = 1 then true :: lp (i / 2) (last / 2) else if i = last then lp (i / 2) (last / 2) else false :: lp (i / 2) (last / 2)
termination_by last
decreasing_by all_goals omega
theorem st_odd {i last : Nat} (h : i % 2 = 1) : st i last = st (i / 2) (last / 2) := by rw [st, dif_pos h]
theorem st_even {i last : Nat} (h : ¬ i % 2 = 1) : st i last = (i, last) := by rw [st, dif_neg h]
theorem lp_zero (i : Nat) : lp i 0 = [] := by rw [lp, dif_pos rfl]
theorem lp_odd {i last : Nat} (h : i % 2 = 1) (h0 : last ≠ 0) : lp i last = true :: lp (i / 2) (last / 2) := by rw [lp, dif_neg h0, if_pos h]
theorem lp_eq {i : Nat} (h : ¬ i % 2 = 1) : lp i i = lp (i / 2) (i / 2) := by
  by_cases h0 : i = 0
  · subst h0; rfl
  · rw [lp, dif_neg h0, if_neg h, if_pos rfl]
theorem lp_ne {i last : Nat} (h : ¬ i % 2 = 1) (h0 : last ≠ 0) (h1 : i ≠ last) : lp i last = false :: lp (i / 2) (last / 2) := by rw [lp, dif_neg h0, if_neg h, if_neg h1]
theorem lp_same : ∀ (f i : Nat), i < f → i ≠ 0 → ∃ P, lp i i = true :: P
  | 0, _, h, _ => by omega
  | f + 1, i, h, h0 => by
    by_cases h1 : i % 2 = 1
    · exact ⟨_, lp_odd h1 h0⟩
    · obtain ⟨P, hP⟩ := lp_same f (i / 2) (by omega) (by omega)
      exact ⟨P, by rw [lp_eq h1, hP]⟩
/-- Two roots, of the hashes. -/
def run : List Bool → List (List UInt8) → List UInt8 → List UInt8 → Option (List UInt8 × List UInt8)
  | [], [], a, b => some (a, b)
  | true :: p, h :: ps, a, b => run p ps (nodeS h a) (nodeS h b)
  | false :: p, h :: ps, a, b => run p ps a (nodeS b h)
  | _, _, _, _ => none
def chkG (i last : Nat) (o : List UInt8) (ps : List (List UInt8)) : Option (List UInt8 × List UInt8) :=
  if 0 < i then match ps with
    | [] => none
    | h :: ps => run (lp i last) ps h h
  else run (lp i last) ps o o
def chkS (i last : Nat) (o : List UInt8) (ps : List (List UInt8)) : Option (List UInt8 × List UInt8) := chkG (st i last).1 (st i last).2 o ps
/-- What Check answers. -/
def fitI (r : Option (List UInt8 × List UInt8)) (o nw : List UInt8) : Int :=
  match r with
  | some (a, b) => if a = o ∧ b = nw then 0 else 80
  | none => 80
def chkI (m n : Int) (o nw : List UInt8) (ps : List (List UInt8)) : Int :=
  if n < 0 ∨ 4096 < n ∨ m < 0 ∨ n < m then 2
  else if m = 0 then (if ps = [] ∧ o = rootS [] ∧ (0 < n ∨ nw = o) then 0 else 80)
  else if m = n then (if ps = [] ∧ o = nw then 0 else 80)
  else fitI (chkS (m.toNat - 1) (n.toNat - 1) o ps) o nw
def zero32 : List UInt8 := List.replicate 32 0
theorem next_to (p : Nat) (σ : Store) (h : List UInt8) (ps : List (List UInt8)) (ex : Bool) (hh : h.length = 32) (hl : ps.length < 1000000) (hp : σ[p]? = some (some [[.vsl 32 (hrows (h :: ps)) ex]])) :
    ACallsTo TC 64 [.ptr p 0 0] σ (.tup [.agg (byteEsC h), .bool true]) (σ.set p (some [[.vsl 32 (hrows ps) ex]]) ++ [some [byteEsC h]]) := by
  have hc := byteEsC_len h
  rw [hh] at hc
  have hlt := (List.getElem?_eq_some_iff.1 hp).1
  have hr : hrows (h :: ps) = byteEsC h :: hrows ps := rfl
  have hrl := hrows_len ps
  rw [hr] at hp
  generalize byteEsC h = row at *
  generalize hrows ps = rows at *
  refine ACallsTo.of_body_keep proofs_Check_1_ok (by simp) ?_
  repeat' (first | refine SWp.seq ?_ | refine SWp.block ?_ | refine SWp.scope ?_ | refine SWp.condT rfl ?_ | refine SWp.condF rfl ?_ | (refine SWp.condD rfl (fun ht => ?_) (fun ht => ?_) <;> try (exfalso; omega)) | ((first | refine SWp.reg ?_ | refine SWp.skip ?_ | refine SWp.exit ?_ | refine SWp.ret ?_ | ((first | apply splitG | apply splitGB | apply splitR | apply splitRB | apply splitE | apply splitEB | apply splitC | apply splitCB) <;> intro ht)); all_goals try simp (disch := first | omega | (simp only [lens]; omega)) only [go_sem, Nat.reduceEqDiff, Nat.reduceBEq, Nat.reduceAdd, Nat.reduceMul, Nat.reduceSub, Nat.reduceLeDiff, Int.reduceToNat, Int.reducePow, hp, hc, hrl]))
  rw [List.drop_of_length_le (by omega), List.append_nil, List.take_of_length_le (by omega)]
  exact ⟨rfl, rfl⟩
theorem next_none (p : Nat) (σ : Store) (x : AV) (hx : SlV 32 [] x) (hp : σ[p]? = some (some [[x]])) :
    ACallsTo TC 64 [.ptr p 0 0] σ (.tup [.agg (byteEsC zero32), .bool false]) (σ ++ [some [byteEsC zero32]]) := by
  have hlt := (List.getElem?_eq_some_iff.1 hp).1
  have r1 := hx.len
  unfold rLenSl at r1
  have hz : byteEsC zero32 = List.replicate 32 (.int .u8 0) := rfl
  rw [hz]
  refine ACallsTo.of_body_keep proofs_Check_1_ok (by simp) ?_
  repeat' (first | refine SWp.seq ?_ | refine SWp.block ?_ | refine SWp.scope ?_ | refine SWp.condT rfl ?_ | refine SWp.condF rfl ?_ | (refine SWp.condD rfl (fun ht => ?_) (fun ht => ?_) <;> try (exfalso; omega)) | ((first | refine SWp.regS ?_ | refine SWp.skip ?_ | refine SWp.exit ?_ | refine SWp.ret ?_ | ((first | apply splitG | apply splitGB | apply splitR | apply splitRB | apply splitE | apply splitEB | apply splitC | apply splitCB) <;> intro ht)); all_goals try simp (disch := first | omega | (simp only [lens]; omega)) only [go_sem, Nat.reduceEqDiff, Nat.reduceBEq, Nat.reduceAdd, Nat.reduceMul, Nat.reduceSub, Nat.reduceLeDiff, Int.reduceToNat, Int.reducePow, hp, r1]))
  exact ⟨rfl, rfl⟩
theorem holds_to (σ : Store) (b : Bool) : ACallsTo TC 63 [.bool b] σ (.int .i64 (if b then 0 else 80)) σ := by
  refine ACallsTo.of_body proofs_holds_ok (by simp) fun hw _ => ?_
  cases b with
  | true =>
    repeat' (first | refine SWp.seq ?_ | refine SWp.block ?_ | refine SWp.scope ?_ | refine SWp.condT rfl ?_ | refine SWp.condF rfl ?_ | (refine SWp.condD rfl (fun ht => ?_) (fun ht => ?_) <;> try (exfalso; omega)) | ((first | refine SWp.reg ?_ | refine SWp.skip ?_ | refine SWp.exit ?_ | refine SWp.ret ?_ | ((first | apply splitG | apply splitGB | apply splitR | apply splitRB | apply splitE | apply splitEB | apply splitC | apply splitCB) <;> intro ht)); all_goals try simp (disch := first | omega | (simp only [lens]; omega)) only [go_sem, Nat.reduceEqDiff, Nat.reduceBEq, Nat.reduceAdd, Nat.reduceMul, Nat.reduceSub, Nat.reduceLeDiff, Int.reduceToNat, Int.reducePow]))
    exact DownV.same hw (rlB_ok _ rfl)
  | false =>
    repeat' (first | refine SWp.seq ?_ | refine SWp.block ?_ | refine SWp.scope ?_ | refine SWp.condT rfl ?_ | refine SWp.condF rfl ?_ | (refine SWp.condD rfl (fun ht => ?_) (fun ht => ?_) <;> try (exfalso; omega)) | ((first | refine SWp.reg ?_ | refine SWp.skip ?_ | refine SWp.exit ?_ | refine SWp.ret ?_ | ((first | apply splitG | apply splitGB | apply splitR | apply splitRB | apply splitE | apply splitEB | apply splitC | apply splitCB) <;> intro ht)); all_goals try simp (disch := first | omega | (simp only [lens]; omega)) only [go_sem, Nat.reduceEqDiff, Nat.reduceBEq, Nat.reduceAdd, Nat.reduceMul, Nat.reduceSub, Nat.reduceLeDiff, Int.reduceToNat, Int.reducePow]))
    exact DownV.same hw (rlB_ok _ rfl)
end Am
end Go.Proofs.YtfofemaglndnjaaDoor
end
section
set_option linter.unusedSimpArgs false
set_option linter.unusedVariables false
/- Proofs: contract: Check of the program. -/
set_option linter.unusedSimpArgs false
set_option linter.unusedVariables false
namespace Go.Proofs.YtfofemaglndnjaaDoor
namespace Am
/-- What Check has in memory. -/
structure ChkM (ia ib : Nat) (σ σ' : Store) (o nw : List UInt8) (pv : AV) (ps : List (List UInt8)) (a b : List UInt8) : Prop where
  hab : (ia = 3 ∧ ib = 4) ∨ (ia = 4 ∧ ib = 3)
  len : σ.length + 5 ≤ σ'.length
  keep : ∀ q, q < σ.length → σ'[q]? = σ[q]?
  g0 : σ'[σ.length]? = some (some [byteEsC o])
  g1 : σ'[σ.length + 1]? = some (some [byteEsC nw])
  g2 : σ'[σ.length + 2]? = some (some [[pv]])
  g3 : σ'[σ.length + ia]? = some (some [byteEsC a])
  g4 : σ'[σ.length + ib]? = some (some [byteEsC b])
  hp : SlV 32 (hrows ps) pv
  ha : a.length = 32
  hb : b.length = 32
theorem ChkM.app {ia ib : Nat} {σ σ' y : Store} {o nw : List UInt8} {pv : AV} {ps : List (List UInt8)} {a b : List UInt8} (h : ChkM ia ib σ σ' o nw pv ps a b) : ChkM ia ib σ (σ' ++ y) o nw pv ps a b := by
  have hl := h.len
  have hab := h.hab
  refine ⟨hab, by rw [List.length_append]; omega, fun q hq => ?_, ?_, ?_, ?_, ?_, ?_, h.hp, h.ha, h.hb⟩
  · rw [gapp (by omega)]; exact h.keep q hq
  · rw [gapp (by omega)]; exact h.g0
  · rw [gapp (by omega)]; exact h.g1
  · rw [gapp (by omega)]; exact h.g2
  · rw [gapp (by omega)]; exact h.g3
  · rw [gapp (by omega)]; exact h.g4
theorem ChkM.setp {ia ib : Nat} {σ σ' : Store} {o nw : List UInt8} {pv : AV} {ps : List (List UInt8)} {a b : List UInt8} (h : ChkM ia ib σ σ' o nw pv ps a b) {qv : AV} {qs : List (List UInt8)} (hq : SlV 32 (hrows qs) qv) : ChkM ia ib σ (σ'.set (σ.length + 2) (some [[qv]])) o nw qv qs a b := by
  have hl := h.len
  have hab := h.hab
  refine ⟨hab, by rw [List.length_set]; omega, fun q hq => ?_, ?_, ?_, ?_, ?_, ?_, hq, h.ha, h.hb⟩
  · rw [gset_ne (by omega)]; exact h.keep q hq
  · rw [gset_ne (by omega)]; exact h.g0
  · rw [gset_ne (by omega)]; exact h.g1
  · rw [gset_eq (by omega)]
  · rw [gset_ne (by omega)]; exact h.g3
  · rw [gset_ne (by omega)]; exact h.g4
theorem ChkM.seta {ia ib : Nat} {σ σ' : Store} {o nw : List UInt8} {pv : AV} {ps : List (List UInt8)} {a b : List UInt8} (h : ChkM ia ib σ σ' o nw pv ps a b) {a' : List UInt8} (ha : a'.length = 32) : ChkM ia ib σ (σ'.set (σ.length + ia) (some [byteEsC a'])) o nw pv ps a' b := by
  have hl := h.len
  have hab := h.hab
  refine ⟨hab, by rw [List.length_set]; omega, fun q hq => ?_, ?_, ?_, ?_, ?_, ?_, h.hp, ha, h.hb⟩
  · rw [gset_ne (by omega)]; exact h.keep q hq
  · rw [gset_ne (by omega)]; exact h.g0
  · rw [gset_ne (by omega)]; exact h.g1
  · rw [gset_ne (by omega)]; exact h.g2
  · rw [gset_eq (by omega)]
  · rw [gset_ne (by omega)]; exact h.g4
theorem ChkM.setb {ia ib : Nat} {σ σ' : Store} {o nw : List UInt8} {pv : AV} {ps : List (List UInt8)} {a b : List UInt8} (h : ChkM ia ib σ σ' o nw pv ps a b) {b' : List UInt8} (hb : b'.length = 32) : ChkM ia ib σ (σ'.set (σ.length + ib) (some [byteEsC b'])) o nw pv ps a b' := by
  have hl := h.len
  have hab := h.hab
  refine ⟨hab, by rw [List.length_set]; omega, fun q hq => ?_, ?_, ?_, ?_, ?_, ?_, h.hp, h.ha, hb⟩
  · rw [gset_ne (by omega)]; exact h.keep q hq
  · rw [gset_ne (by omega)]; exact h.g0
  · rw [gset_ne (by omega)]; exact h.g1
  · rw [gset_ne (by omega)]; exact h.g2
  · rw [gset_ne (by omega)]; exact h.g3
  · rw [gset_eq (by omega)]
theorem ChkM.fin {ia ib : Nat} {σ σ' : Store} {o nw : List UInt8} {pv : AV} {ps : List (List UInt8)} {a b : List UInt8} (h : ChkM ia ib σ σ' o nw pv ps a b) (hw : Wf σ.length σ) {i : Int} : DownV σ.length (.int .i64 i) σ' (.int .i64 i) σ := by
  have hl := h.len
  have hab := h.hab
  obtain ⟨y, rfl⟩ := ext_of (by omega) h.keep
  exact DownV.pure hw (rlB_ok _ rfl)
theorem SlV.cells {sz : Nat} {es : List (List AV)} {x : AV} (h : SlV sz es x) : cellsOf x = some [x] := by
  rcases h with ⟨rfl, rfl⟩ | ⟨ex, rfl⟩ <;> rfl
theorem h32_nil : H32 [] := fun _ h => by simp at h
theorem downI {σ σ' : Store} {i : Int} (hw : Wf σ.length σ) (h : σ <+: σ') : DownV σ.length (.int .i64 i) σ' (.int .i64 i) σ := by
  obtain ⟨y, rfl⟩ := h
  exact DownV.pure hw (rlB_ok _ rfl)
set_option maxHeartbeats 8000000 in
theorem Check_bad (σ : Store) (m n : Int) (o nw : List UInt8) (x : AV) (es : List (List AV)) (hx : SlV 32 es x) (h : n < 0 ∨ 4096 < n ∨ m < 0 ∨ n < m) :
    ACallsTo TC 19 [.int .i64 m, .int .i64 n, .agg (byteEsC o), .agg (byteEsC nw), x] σ (.int .i64 2) σ := by
  have r0 := hx.cells
  unfold cellsOf at r0
  refine ACallsTo.of_body proofs_Check_ok (by simp) fun hw _ => ?_
  repeat' (first | refine SWp.seq ?_ | refine SWp.block ?_ | refine SWp.scope ?_ | refine SWp.condT rfl ?_ | refine SWp.condF rfl ?_ | (refine SWp.condD rfl (fun ht => ?_) (fun ht => ?_) <;> try (exfalso; omega)) | ((first | refine SWp.reg ?_ | refine SWp.skip ?_ | refine SWp.exit ?_ | refine SWp.ret ?_ | ((first | apply splitG | apply splitGB | apply splitR | apply splitRB | apply splitE | apply splitEB | apply splitC | apply splitCB) <;> intro ht)); all_goals try simp (disch := first | omega | (simp only [lens]; omega)) only [go_sem, Nat.reduceEqDiff, Nat.reduceBEq, Nat.reduceAdd, Nat.reduceMul, Nat.reduceSub, Nat.reduceLeDiff, Int.reduceToNat, Int.reducePow, r0]))
  all_goals (refine downI hw ?_; simp)
set_option maxHeartbeats 8000000 in
theorem Check_zero (σ : Store) (n : Int) (o nw : List UInt8) (x : AV) (ps : List (List UInt8)) (hx : SlV 32 (hrows ps) x) (ho : o.length = 32) (hn : nw.length = 32) (h0 : 0 ≤ n) (h1 : n ≤ 4096) (hl : ps.length < 1000000) :
    ACallsTo TC 19 [.int .i64 0, .int .i64 n, .agg (byteEsC o), .agg (byteEsC nw), x] σ (.int .i64 (if ps = [] ∧ o = rootS [] ∧ (0 < n ∨ nw = o) then 0 else 80)) σ := by
  have r0 := hx.cells
  unfold cellsOf at r0
  have r1 := hx.len
  rw [hrows_len] at r1
  unfold rLenSl at r1
  have c1 := byteEsC_len o
  have c2 := byteEsC_len nw
  rw [ho] at c1
  rw [hn] at c2
  have hR : ∀ σ, ACallsTo TC 22 [.nilsl] σ (.agg (byteEsC (rootS []))) σ := fun σ => trees_Root_to σ [] .nilsl (.inl ⟨rfl, rfl⟩) (fun _ h => by simp at h) (by simp)
  have k1 := kinds32 ho
  have k2 := kinds32 hn
  have k3 := kinds32 (rootS_len (h32_nil))
  have e1 := eq_hash o (rootS [])
  have e2 := eq_hash nw o
  by_cases q1 : ps = []
  · have q1' : ps.length = 0 := by rw [q1]; rfl
    by_cases q2 : o = rootS []
    · rw [decide_eq_true q2] at e1
      by_cases q3 : 0 < n
      · rw [if_pos ⟨q1, q2, .inl q3⟩]
        generalize byteEsC (rootS []) = rr at *
        generalize byteEsC o = ro at *
        generalize byteEsC nw = rn at *
        refine ACallsTo.of_body proofs_Check_ok (by simp) fun hw _ => ?_
        repeat' (first | refine SWp.seq ?_ | refine SWp.block ?_ | refine SWp.scope ?_ | refine SWp.condT rfl ?_ | refine SWp.condF rfl ?_ | (refine SWp.condD rfl (fun ht => ?_) (fun ht => ?_) <;> try (exfalso; omega)) | ((first | refine SWp.reg ?_ | refine SWp.skip ?_ | refine SWp.exit ?_ | refine SWp.ret ?_ | (apply callW.any; (first | exact (hR _) | exact (holds_to _ true))) | ((first | apply splitG | apply splitGB | apply splitR | apply splitRB | apply splitE | apply splitEB | apply splitC | apply splitCB) <;> intro ht)); all_goals try simp (disch := first | omega | (simp only [lens]; omega)) only [go_sem, Nat.reduceEqDiff, Nat.reduceBEq, Nat.reduceAdd, Nat.reduceMul, Nat.reduceSub, Nat.reduceLeDiff, Int.reduceToNat, Int.reducePow, r0, r1, c1, c2, k1, k2, k3, e1, q1']))
        all_goals (refine downI hw ?_; simp)
      · by_cases q4 : nw = o
        · rw [decide_eq_true q4] at e2
          rw [if_pos ⟨q1, q2, .inr q4⟩]
          generalize byteEsC (rootS []) = rr at *
          generalize byteEsC o = ro at *
          generalize byteEsC nw = rn at *
          refine ACallsTo.of_body proofs_Check_ok (by simp) fun hw _ => ?_
          repeat' (first | refine SWp.seq ?_ | refine SWp.block ?_ | refine SWp.scope ?_ | refine SWp.condT rfl ?_ | refine SWp.condF rfl ?_ | (refine SWp.condD rfl (fun ht => ?_) (fun ht => ?_) <;> try (exfalso; omega)) | ((first | refine SWp.reg ?_ | refine SWp.skip ?_ | refine SWp.exit ?_ | refine SWp.ret ?_ | (apply callW.any; (first | exact (hR _) | exact (holds_to _ true))) | ((first | apply splitG | apply splitGB | apply splitR | apply splitRB | apply splitE | apply splitEB | apply splitC | apply splitCB) <;> intro ht)); all_goals try simp (disch := first | omega | (simp only [lens]; omega)) only [go_sem, Nat.reduceEqDiff, Nat.reduceBEq, Nat.reduceAdd, Nat.reduceMul, Nat.reduceSub, Nat.reduceLeDiff, Int.reduceToNat, Int.reducePow, r0, r1, c1, c2, k1, k2, k3, e1, e2, q1']))
          all_goals (refine downI hw ?_; simp)
        · rw [decide_eq_false q4] at e2
          rw [if_neg (fun h => h.2.2.elim q3 q4)]
          generalize byteEsC (rootS []) = rr at *
          generalize byteEsC o = ro at *
          generalize byteEsC nw = rn at *
          refine ACallsTo.of_body proofs_Check_ok (by simp) fun hw _ => ?_
          repeat' (first | refine SWp.seq ?_ | refine SWp.block ?_ | refine SWp.scope ?_ | refine SWp.condT rfl ?_ | refine SWp.condF rfl ?_ | (refine SWp.condD rfl (fun ht => ?_) (fun ht => ?_) <;> try (exfalso; omega)) | ((first | refine SWp.reg ?_ | refine SWp.skip ?_ | refine SWp.exit ?_ | refine SWp.ret ?_ | (apply callW.any; (first | exact (hR _) | exact (holds_to _ false))) | ((first | apply splitG | apply splitGB | apply splitR | apply splitRB | apply splitE | apply splitEB | apply splitC | apply splitCB) <;> intro ht)); all_goals try simp (disch := first | omega | (simp only [lens]; omega)) only [go_sem, Nat.reduceEqDiff, Nat.reduceBEq, Nat.reduceAdd, Nat.reduceMul, Nat.reduceSub, Nat.reduceLeDiff, Int.reduceToNat, Int.reducePow, r0, r1, c1, c2, k1, k2, k3, e1, e2, q1']))
          all_goals (refine downI hw ?_; simp)
    · rw [decide_eq_false q2] at e1
      rw [if_neg (fun h => q2 h.2.1)]
      generalize byteEsC (rootS []) = rr at *
      generalize byteEsC o = ro at *
      generalize byteEsC nw = rn at *
      refine ACallsTo.of_body proofs_Check_ok (by simp) fun hw _ => ?_
      repeat' (first | refine SWp.seq ?_ | refine SWp.block ?_ | refine SWp.scope ?_ | refine SWp.condT rfl ?_ | refine SWp.condF rfl ?_ | (refine SWp.condD rfl (fun ht => ?_) (fun ht => ?_) <;> try (exfalso; omega)) | ((first | refine SWp.reg ?_ | refine SWp.skip ?_ | refine SWp.exit ?_ | refine SWp.ret ?_ | (apply callW.any; (first | exact (hR _) | exact (holds_to _ false))) | ((first | apply splitG | apply splitGB | apply splitR | apply splitRB | apply splitE | apply splitEB | apply splitC | apply splitCB) <;> intro ht)); all_goals try simp (disch := first | omega | (simp only [lens]; omega)) only [go_sem, Nat.reduceEqDiff, Nat.reduceBEq, Nat.reduceAdd, Nat.reduceMul, Nat.reduceSub, Nat.reduceLeDiff, Int.reduceToNat, Int.reducePow, r0, r1, c1, c2, k1, k2, k3, e1, q1']))
      all_goals (refine downI hw ?_; simp)
  · have q1' : ¬ (ps.length : Int) = 0 := by intro e; exact q1 (List.eq_nil_of_length_eq_zero (by omega))
    have q1'' : ¬ ps.length = 0 := by omega
    rw [if_neg (fun h => q1 h.1)]
    generalize byteEsC (rootS []) = rr at *
    generalize byteEsC o = ro at *
    generalize byteEsC nw = rn at *
    refine ACallsTo.of_body proofs_Check_ok (by simp) fun hw _ => ?_
    repeat' (first | refine SWp.seq ?_ | refine SWp.block ?_ | refine SWp.scope ?_ | refine SWp.condT rfl ?_ | refine SWp.condF rfl ?_ | (refine SWp.condD rfl (fun ht => ?_) (fun ht => ?_) <;> try (exfalso; omega)) | ((first | refine SWp.reg ?_ | refine SWp.skip ?_ | refine SWp.exit ?_ | refine SWp.ret ?_ | (apply callW.any; (first | exact (hR _) | exact (holds_to _ false))) | ((first | apply splitG | apply splitGB | apply splitR | apply splitRB | apply splitE | apply splitEB | apply splitC | apply splitCB) <;> intro ht)); all_goals try simp (disch := first | omega | (simp only [lens]; omega)) only [go_sem, Nat.reduceEqDiff, Nat.reduceBEq, Nat.reduceAdd, Nat.reduceMul, Nat.reduceSub, Nat.reduceLeDiff, Int.reduceToNat, Int.reducePow, r0, r1, c1, c2, q1', q1'']))
    all_goals (refine downI hw ?_; simp)
set_option maxHeartbeats 8000000 in
theorem Check_same (σ : Store) (n : Int) (o nw : List UInt8) (x : AV) (ps : List (List UInt8)) (hx : SlV 32 (hrows ps) x) (ho : o.length = 32) (hn : nw.length = 32) (h0 : 0 < n) (h1 : n ≤ 4096) (hl : ps.length < 1000000) :
    ACallsTo TC 19 [.int .i64 n, .int .i64 n, .agg (byteEsC o), .agg (byteEsC nw), x] σ (.int .i64 (if ps = [] ∧ o = nw then 0 else 80)) σ := by
  have r0 := hx.cells
  unfold cellsOf at r0
  have r1 := hx.len
  rw [hrows_len] at r1
  unfold rLenSl at r1
  have c1 := byteEsC_len o
  have c2 := byteEsC_len nw
  rw [ho] at c1
  rw [hn] at c2
  have k1 := kinds32 ho
  have k2 := kinds32 hn
  have e2 := eq_hash o nw
  by_cases q1 : ps = []
  · have q1' : ps.length = 0 := by rw [q1]; rfl
    by_cases q2 : o = nw
    · rw [decide_eq_true q2] at e2
      rw [if_pos ⟨q1, q2⟩]
      generalize byteEsC o = ro at *
      generalize byteEsC nw = rn at *
      refine ACallsTo.of_body proofs_Check_ok (by simp) fun hw _ => ?_
      repeat' (first | refine SWp.seq ?_ | refine SWp.block ?_ | refine SWp.scope ?_ | refine SWp.condT rfl ?_ | refine SWp.condF rfl ?_ | (refine SWp.condD rfl (fun ht => ?_) (fun ht => ?_) <;> try (exfalso; omega)) | ((first | refine SWp.reg ?_ | refine SWp.skip ?_ | refine SWp.exit ?_ | refine SWp.ret ?_ | (apply callW.any; (first | exact (holds_to _ true))) | ((first | apply splitG | apply splitGB | apply splitR | apply splitRB | apply splitE | apply splitEB | apply splitC | apply splitCB) <;> intro ht)); all_goals try simp (disch := first | omega | (simp only [lens]; omega)) only [go_sem, Nat.reduceEqDiff, Nat.reduceBEq, Nat.reduceAdd, Nat.reduceMul, Nat.reduceSub, Nat.reduceLeDiff, Int.reduceToNat, Int.reducePow, r0, r1, c1, c2, k1, k2, e2, q1']))
      all_goals (refine downI hw ?_; simp)
    · rw [decide_eq_false q2] at e2
      rw [if_neg (fun h => q2 h.2)]
      generalize byteEsC o = ro at *
      generalize byteEsC nw = rn at *
      refine ACallsTo.of_body proofs_Check_ok (by simp) fun hw _ => ?_
      repeat' (first | refine SWp.seq ?_ | refine SWp.block ?_ | refine SWp.scope ?_ | refine SWp.condT rfl ?_ | refine SWp.condF rfl ?_ | (refine SWp.condD rfl (fun ht => ?_) (fun ht => ?_) <;> try (exfalso; omega)) | ((first | refine SWp.reg ?_ | refine SWp.skip ?_ | refine SWp.exit ?_ | refine SWp.ret ?_ | (apply callW.any; (first | exact (holds_to _ false))) | ((first | apply splitG | apply splitGB | apply splitR | apply splitRB | apply splitE | apply splitEB | apply splitC | apply splitCB) <;> intro ht)); all_goals try simp (disch := first | omega | (simp only [lens]; omega)) only [go_sem, Nat.reduceEqDiff, Nat.reduceBEq, Nat.reduceAdd, Nat.reduceMul, Nat.reduceSub, Nat.reduceLeDiff, Int.reduceToNat, Int.reducePow, r0, r1, c1, c2, k1, k2, e2, q1']))
      all_goals (refine downI hw ?_; simp)
  · have q1' : ¬ (ps.length : Int) = 0 := by intro e; exact q1 (List.eq_nil_of_length_eq_zero (by omega))
    have q1'' : ¬ ps.length = 0 := by omega
    rw [if_neg (fun h => q1 h.1)]
    generalize byteEsC o = ro at *
    generalize byteEsC nw = rn at *
    refine ACallsTo.of_body proofs_Check_ok (by simp) fun hw _ => ?_
    repeat' (first | refine SWp.seq ?_ | refine SWp.block ?_ | refine SWp.scope ?_ | refine SWp.condT rfl ?_ | refine SWp.condF rfl ?_ | (refine SWp.condD rfl (fun ht => ?_) (fun ht => ?_) <;> try (exfalso; omega)) | ((first | refine SWp.reg ?_ | refine SWp.skip ?_ | refine SWp.exit ?_ | refine SWp.ret ?_ | (apply callW.any; (first | exact (holds_to _ false))) | ((first | apply splitG | apply splitGB | apply splitR | apply splitRB | apply splitE | apply splitEB | apply splitC | apply splitCB) <;> intro ht)); all_goals try simp (disch := first | omega | (simp only [lens]; omega)) only [go_sem, Nat.reduceEqDiff, Nat.reduceBEq, Nat.reduceAdd, Nat.reduceMul, Nat.reduceSub, Nat.reduceLeDiff, Int.reduceToNat, Int.reducePow, r0, r1, c1, c2, q1', q1'']))
    all_goals (refine downI hw ?_; simp)
end Am
end Go.Proofs.YtfofemaglndnjaaDoor
end
section
set_option linter.unusedSimpArgs false
set_option linter.unusedVariables false
/- Proofs: contract: Check of the program, the loop. -/
set_option linter.unusedSimpArgs false
set_option linter.unusedVariables false
namespace Go.Proofs.YtfofemaglndnjaaDoor
namespace Am
theorem lp_pos {i last : Nat} (h : last ≠ 0) : ∃ t P, lp i last = t :: P := by
  by_cases h1 : i % 2 = 1
  · exact ⟨_, _, lp_odd h1 h⟩
  · by_cases h2 : i = last
    · subst h2; obtain ⟨P, hP⟩ := lp_same (i + 1) i (Nat.lt_succ_self _) h; exact ⟨_, _, hP⟩
    · exact ⟨_, _, lp_ne h1 h h2⟩
theorem run_nil {t : Bool} {P : List Bool} {a b : List UInt8} : run (t :: P) [] a b = none := by cases t <;> rfl
theorem hash_drop {h : List UInt8} (hh : h.length = 32) : (byteEsC h).drop 32 = [] := by
  have := byteEsC_len h
  exact List.drop_of_length_le (by omega)
theorem hash_take {h : List UInt8} (hh : h.length = 32) : (byteEsC h).take 32 = byteEsC h := by
  have := byteEsC_len h
  exact List.take_of_length_le (by omega)
set_option maxHeartbeats 8000000 in
theorem Check_loop (ia ib : Nat) (σ : Store) (hw : Wf σ.length σ) (o nw : List UInt8) (ho : o.length = 32) (hn : nw.length = 32) (R : Option (List UInt8 × List UInt8)) (ρ : Env) (σ' : Store) (i last : Nat) (pv : AV) (ps : List (List UInt8)) (a b : List UInt8)
    (hM : ChkM ia ib σ σ' o nw pv ps a b) (hH : H32 ps) (hi : i < 4096) (hl : last < 4096) (hpl : ps.length < 1000000) (hR : run (lp i last) ps a b = R)
    (q7 : ρ 7 = .ptr σ.length 0 0) (q8 : ρ 8 = .ptr (σ.length + 1) 0 0) (q9 : ρ 9 = .ptr (σ.length + 2) 0 0) (q11 : ρ 11 = .int .i64 i) (q12 : ρ 12 = .int .i64 last)
    (q13 : ρ 13 = .fn 64 [.ptr (σ.length + 2) 0 0]) (q14 : ρ 14 = .ptr (σ.length + ia) 0 0) (q15 : ρ 15 = .ptr (σ.length + ib) 0 0) :
    SWp TC 152 σ.length proofs_Check_c71 (endQ σ.length [.t 10] (.int .i64 (fitI R o nw)) σ) ρ σ' := by
  repeat' (first | refine SWp.seq ?_ | refine SWp.block ?_ | refine SWp.scope ?_ | refine SWp.condT rfl ?_ | refine SWp.condF rfl ?_ | (refine SWp.condD rfl (fun ht => ?_) (fun ht => ?_) <;> try (exfalso; omega)) | ((first | refine SWp.reg ?_ | refine SWp.skip ?_ | refine SWp.exit ?_ | refine SWp.ret ?_ | ((first | apply splitG | apply splitGB | apply splitR | apply splitRB | apply splitE | apply splitEB | apply splitC | apply splitCB) <;> intro ht)); all_goals try simp (disch := first | omega | (simp only [lens]; omega)) only [go_sem, Nat.reduceEqDiff, Nat.reduceBEq, Nat.reduceAdd, Nat.reduceMul, Nat.reduceSub, Nat.reduceLeDiff, Int.reduceToNat, Int.reducePow]))
  refine SWp.loop (fun m ρ σ' => ∃ (i last : Nat) (pv : AV) (ps : List (List UInt8)) (a b : List UInt8), m = last ∧ ChkM ia ib σ σ' o nw pv ps a b ∧ H32 ps ∧ i < 4096 ∧ last < 4096 ∧ ps.length < 1000000 ∧ run (lp i last) ps a b = R ∧
    ρ 7 = .ptr σ.length 0 0 ∧ ρ 8 = .ptr (σ.length + 1) 0 0 ∧ ρ 9 = .ptr (σ.length + 2) 0 0 ∧ ρ 11 = .int .i64 i ∧ ρ 12 = .int .i64 last ∧ ρ 13 = .fn 64 [.ptr (σ.length + 2) 0 0] ∧ ρ 14 = .ptr (σ.length + ia) 0 0 ∧ ρ 15 = .ptr (σ.length + ib) 0 0) last ?_ ?_
  · exact ⟨i, last, pv, ps, a, b, rfl, hM, hH, hi, hl, hpl, hR, q7, q8, q9, q11, q12, q13, q14, q15⟩
  clear hM hH hi hl hpl hR q7 q8 q9 q11 q12 q13 q14 q15 i last pv ps a b ρ σ'
  rintro last ρ σ' ⟨i, _, pv, ps, a, b, rfl, hM, hH, hi, hl, hpl, hR, q7, q8, q9, q11, q12, q13, q14, q15⟩
  have hlen := hM.len
  have hab := hM.hab
  have g0 := hM.g0
  have g1 := hM.g1
  have g2 := hM.g2
  have g3 := hM.g3
  have g4 := hM.g4
  have c0 := byteEsC_len o
  have c1 := byteEsC_len nw
  have ca := byteEsC_len a
  have cb := byteEsC_len b
  rw [ho] at c0
  rw [hn] at c1
  rw [hM.ha] at ca
  rw [hM.hb] at cb
  by_cases h0 : last = 0
  · subst h0
    rw [lp_zero] at hR
    have r1 := hM.hp.len
    rw [hrows_len] at r1
    unfold rLenSl at r1
    have k0 := kinds32 ho
    have k1 := kinds32 hn
    have ka := kinds32 hM.ha
    have kb := kinds32 hM.hb
    have e1 := eq_hash a o
    have e2 := eq_hash b nw
    by_cases p1 : ps = []
    · have p1' : ps.length = 0 := by rw [p1]; rfl
      have hR' : R = some (a, b) := by rw [← hR, p1]; rfl
      by_cases p2 : a = o
      · rw [decide_eq_true p2] at e1
        by_cases p3 : b = nw
        · rw [decide_eq_true p3] at e2
          have hf : fitI R o nw = 0 := by rw [hR']; unfold fitI; simp only; rw [if_pos ⟨p2, p3⟩]
          rw [hf]
          repeat' (first | refine SWp.seq ?_ | refine SWp.block ?_ | refine SWp.scope ?_ | refine SWp.condT rfl ?_ | refine SWp.condF rfl ?_ | (refine SWp.condD rfl (fun ht => ?_) (fun ht => ?_) <;> try (exfalso; omega)) | ((first | refine SWp.reg ?_ | refine SWp.skip ?_ | refine SWp.exit ?_ | refine SWp.ret ?_ | (apply callW.any; (first | exact (holds_to _ true))) | ((first | apply splitG | apply splitGB | apply splitR | apply splitRB | apply splitE | apply splitEB | apply splitC | apply splitCB) <;> intro ht)); all_goals try simp (disch := first | omega | (simp only [lens]; omega)) only [go_sem, Nat.reduceEqDiff, Nat.reduceBEq, Nat.reduceAdd, Nat.reduceMul, Nat.reduceSub, Nat.reduceLeDiff, Int.reduceToNat, Int.reducePow, q7, q8, q9, q12, q14, q15, r1, g0, g1, g2, g3, g4, c0, c1, ca, cb, k0, k1, ka, kb, e1, e2, p1']))
          exact hM.fin hw
        · rw [decide_eq_false p3] at e2
          have hf : fitI R o nw = 80 := by rw [hR']; unfold fitI; simp only; rw [if_neg (fun h => p3 h.2)]
          rw [hf]
          repeat' (first | refine SWp.seq ?_ | refine SWp.block ?_ | refine SWp.scope ?_ | refine SWp.condT rfl ?_ | refine SWp.condF rfl ?_ | (refine SWp.condD rfl (fun ht => ?_) (fun ht => ?_) <;> try (exfalso; omega)) | ((first | refine SWp.reg ?_ | refine SWp.skip ?_ | refine SWp.exit ?_ | refine SWp.ret ?_ | (apply callW.any; (first | exact (holds_to _ false))) | ((first | apply splitG | apply splitGB | apply splitR | apply splitRB | apply splitE | apply splitEB | apply splitC | apply splitCB) <;> intro ht)); all_goals try simp (disch := first | omega | (simp only [lens]; omega)) only [go_sem, Nat.reduceEqDiff, Nat.reduceBEq, Nat.reduceAdd, Nat.reduceMul, Nat.reduceSub, Nat.reduceLeDiff, Int.reduceToNat, Int.reducePow, q7, q8, q9, q12, q14, q15, r1, g0, g1, g2, g3, g4, c0, c1, ca, cb, k0, k1, ka, kb, e1, e2, p1']))
          exact hM.fin hw
      · rw [decide_eq_false p2] at e1
        have hf : fitI R o nw = 80 := by rw [hR']; unfold fitI; simp only; rw [if_neg (fun h => p2 h.1)]
        rw [hf]
        repeat' (first | refine SWp.seq ?_ | refine SWp.block ?_ | refine SWp.scope ?_ | refine SWp.condT rfl ?_ | refine SWp.condF rfl ?_ | (refine SWp.condD rfl (fun ht => ?_) (fun ht => ?_) <;> try (exfalso; omega)) | ((first | refine SWp.reg ?_ | refine SWp.skip ?_ | refine SWp.exit ?_ | refine SWp.ret ?_ | (apply callW.any; (first | exact (holds_to _ false))) | ((first | apply splitG | apply splitGB | apply splitR | apply splitRB | apply splitE | apply splitEB | apply splitC | apply splitCB) <;> intro ht)); all_goals try simp (disch := first | omega | (simp only [lens]; omega)) only [go_sem, Nat.reduceEqDiff, Nat.reduceBEq, Nat.reduceAdd, Nat.reduceMul, Nat.reduceSub, Nat.reduceLeDiff, Int.reduceToNat, Int.reducePow, q7, q8, q9, q12, q14, q15, r1, g0, g1, g2, g3, g4, c0, c1, ca, cb, k0, k1, ka, kb, e1, p1']))
        exact hM.fin hw
    · have p1' : ¬ (ps.length : Int) = 0 := by intro e; exact p1 (List.eq_nil_of_length_eq_zero (by omega))
      have p1'' : ¬ ps.length = 0 := by omega
      have hf : fitI R o nw = 80 := by
        have : R = none := by
          rw [← hR]
          cases ps with
          | nil => exact absurd rfl p1
          | cons _ _ => rfl
        rw [this]; rfl
      rw [hf]
      repeat' (first | refine SWp.seq ?_ | refine SWp.block ?_ | refine SWp.scope ?_ | refine SWp.condT rfl ?_ | refine SWp.condF rfl ?_ | (refine SWp.condD rfl (fun ht => ?_) (fun ht => ?_) <;> try (exfalso; omega)) | ((first | refine SWp.reg ?_ | refine SWp.skip ?_ | refine SWp.exit ?_ | refine SWp.ret ?_ | (apply callW.any; (first | exact (holds_to _ false))) | ((first | apply splitG | apply splitGB | apply splitR | apply splitRB | apply splitE | apply splitEB | apply splitC | apply splitCB) <;> intro ht)); all_goals try simp (disch := first | omega | (simp only [lens]; omega)) only [go_sem, Nat.reduceEqDiff, Nat.reduceBEq, Nat.reduceAdd, Nat.reduceMul, Nat.reduceSub, Nat.reduceLeDiff, Int.reduceToNat, Int.reducePow, q7, q8, q9, q12, q14, q15, r1, g0, g1, g2, g3, g4, c0, c1, p1', p1'']))
      exact hM.fin hw
  · cases ps with
    | nil =>
      have hf : fitI R o nw = 80 := by
        obtain ⟨t, P, e⟩ := lp_pos (i := i) h0
        rw [e, run_nil] at hR
        rw [← hR]; rfl
      rw [hf]
      have hnx := next_none (σ.length + 2) σ' pv hM.hp g2
      have dz : (byteEsC zero32).drop 32 = [] := rfl
      have hl0 : (0 : Int) < last := by omega
      have cz : (byteEsC zero32).length = 32 := by rw [byteEsC_len]; rfl
      repeat' (first | refine SWp.seq ?_ | refine SWp.block ?_ | refine SWp.scope ?_ | refine SWp.condT rfl ?_ | refine SWp.condF rfl ?_ | (refine SWp.condD rfl (fun ht => ?_) (fun ht => ?_) <;> try (exfalso; omega)) | ((first | refine SWp.reg ?_ | refine SWp.skip ?_ | refine SWp.exit ?_ | refine SWp.ret ?_ | (apply callW.any; (first | exact (hnx))) | ((first | apply splitG | apply splitGB | apply splitR | apply splitRB | apply splitE | apply splitEB | apply splitC | apply splitCB) <;> intro ht)); all_goals try simp (disch := first | omega | (simp only [lens]; omega)) only [go_sem, Nat.reduceEqDiff, Nat.reduceBEq, Nat.reduceAdd, Nat.reduceMul, Nat.reduceSub, Nat.reduceLeDiff, Int.reduceToNat, Int.reducePow, q7, q8, q9, q12, q13, q14, q15, g0, g1, g2, g3, g4, cz, dz, hl0]))
      exact (hM.app (y := [some [byteEsC zero32], some [byteEsC zero32]])).fin hw
    | cons h qs =>
      have hh : h.length = 32 := hH h (by simp)
      have hq : H32 qs := fun x hx => hH x (by simp [hx])
      obtain ⟨ex, rfl⟩ := hM.hp.vsl (by rw [hrows_len]; simp)
      simp only [List.length_cons] at hpl
      have hnx := next_to (σ.length + 2) σ' h qs ex hh (by omega) g2
      have ch := byteEsC_len h
      rw [hh] at ch
      have c7 := byteEsC_len (nodeS h a)
      have c8 := byteEsC_len (nodeS h b)
      have c9 := byteEsC_len (nodeS b h)
      rw [nodeS_len] at c7 c8 c9
      have d0 := hash_drop hM.ha
      have d1 := hash_drop hM.hb
      have d2 := hash_drop hh
      have t0 := hash_take hM.ha
      have t1 := hash_take hM.hb
      have t2 := hash_take hh
      by_cases hc : i % 2 = 1 ∨ i = last
      · have hl0 : (0 : Int) < last := by omega
        obtain ⟨P, hP⟩ : ∃ P, lp i last = true :: P := by
          rcases hc with hc | rfl
          · exact ⟨_, lp_odd hc h0⟩
          · exact lp_same (i + 1) i (Nat.lt_succ_self _) h0
        rw [hP] at hR
        rcases hc with hc | rfl
        · have hc1 : (i : Int) % 2 = 1 := by omega
          repeat' (first | refine SWp.seq ?_ | refine SWp.block ?_ | refine SWp.scope ?_ | refine SWp.condT rfl ?_ | refine SWp.condF rfl ?_ | (refine SWp.condD rfl (fun ht => ?_) (fun ht => ?_) <;> try (exfalso; omega)) | ((first | refine SWp.reg ?_ | refine SWp.skip ?_ | refine SWp.exit ?_ | refine SWp.ret ?_ | (apply callW.any; (first | exact (hnx) | exact (trees_Node_to _ h a hh hM.ha) | exact (trees_Node_to _ h b hh hM.hb) | exact (trees_Node_to _ b h hM.hb hh))) | ((first | apply splitG | apply splitGB | apply splitR | apply splitRB | apply splitE | apply splitEB | apply splitC | apply splitCB) <;> intro ht)); all_goals try simp (disch := first | omega | (simp only [lens]; omega)) only [go_sem, Nat.reduceEqDiff, Nat.reduceBEq, Nat.reduceAdd, Nat.reduceMul, Nat.reduceSub, Nat.reduceLeDiff, Int.reduceToNat, Int.reducePow, q7, q8, q9, q11, q12, q13, q14, q15, g0, g1, g2, g3, g4, ca, cb, ch, c7, c8, c9, d0, d1, d2, t0, t1, t2, hc1, hl0]))
          have hM2 := (((hM.setp (qs := qs) (qv := .vsl 32 (hrows qs) ex) (.inr ⟨ex, rfl⟩)).seta (nodeS_len h a)).setb (nodeS_len h b)).app (y := [some [byteEsC h], some [byteEsC h]])
          refine SWp.loop (fun m ρ2 σ2 => ∃ (i2 last2 : Nat), m = i2 ∧ ChkM ia ib σ σ2 o nw (.vsl 32 (hrows qs) ex) qs (nodeS h a) (nodeS h b) ∧ lp i2 last2 = true :: P ∧ 0 < i2 ∧ (i2 % 2 = 1 ∨ i2 = last2) ∧ i2 < 4096 ∧ last2 ≤ last ∧
            ρ2 7 = .ptr σ.length 0 0 ∧ ρ2 8 = .ptr (σ.length + 1) 0 0 ∧ ρ2 9 = .ptr (σ.length + 2) 0 0 ∧ ρ2 11 = .int .i64 i2 ∧ ρ2 12 = .int .i64 last2 ∧ ρ2 13 = .fn 64 [.ptr (σ.length + 2) 0 0] ∧ ρ2 14 = .ptr (σ.length + ia) 0 0 ∧ ρ2 15 = .ptr (σ.length + ib) 0 0) i ?_ ?_
          · exact ⟨i, last, rfl, hM2, hP, by omega, .inl hc, hi, by omega, by simp (disch := first | omega | (simp only [lens]; omega)) only [go_sem, Nat.reduceEqDiff, Nat.reduceBEq, Nat.reduceAdd, Nat.reduceMul, Nat.reduceSub, Nat.reduceLeDiff, Int.reduceToNat, Int.reducePow, q7], by simp (disch := first | omega | (simp only [lens]; omega)) only [go_sem, Nat.reduceEqDiff, Nat.reduceBEq, Nat.reduceAdd, Nat.reduceMul, Nat.reduceSub, Nat.reduceLeDiff, Int.reduceToNat, Int.reducePow, q8], by simp (disch := first | omega | (simp only [lens]; omega)) only [go_sem, Nat.reduceEqDiff, Nat.reduceBEq, Nat.reduceAdd, Nat.reduceMul, Nat.reduceSub, Nat.reduceLeDiff, Int.reduceToNat, Int.reducePow, q9], by simp (disch := first | omega | (simp only [lens]; omega)) only [go_sem, Nat.reduceEqDiff, Nat.reduceBEq, Nat.reduceAdd, Nat.reduceMul, Nat.reduceSub, Nat.reduceLeDiff, Int.reduceToNat, Int.reducePow, q11], by simp (disch := first | omega | (simp only [lens]; omega)) only [go_sem, Nat.reduceEqDiff, Nat.reduceBEq, Nat.reduceAdd, Nat.reduceMul, Nat.reduceSub, Nat.reduceLeDiff, Int.reduceToNat, Int.reducePow, q12], by simp (disch := first | omega | (simp only [lens]; omega)) only [go_sem, Nat.reduceEqDiff, Nat.reduceBEq, Nat.reduceAdd, Nat.reduceMul, Nat.reduceSub, Nat.reduceLeDiff, Int.reduceToNat, Int.reducePow, q13], by simp (disch := first | omega | (simp only [lens]; omega)) only [go_sem, Nat.reduceEqDiff, Nat.reduceBEq, Nat.reduceAdd, Nat.reduceMul, Nat.reduceSub, Nat.reduceLeDiff, Int.reduceToNat, Int.reducePow, q14], by simp (disch := first | omega | (simp only [lens]; omega)) only [go_sem, Nat.reduceEqDiff, Nat.reduceBEq, Nat.reduceAdd, Nat.reduceMul, Nat.reduceSub, Nat.reduceLeDiff, Int.reduceToNat, Int.reducePow, q15]⟩
          · clear q7 q8 q9 q11 q12 q13 q14 q15 g0 g1 g2 g3 g4
            rintro i2 ρ2 σ2 ⟨_, last2, rfl, hM3, hlp, hp0, hor, hb2, hl2, q7, q8, q9, q11, q12, q13, q14, q15⟩
            have hln : last2 ≠ 0 := by
              intro e; rw [e, lp_zero] at hlp; simp at hlp
            by_cases hodd : i2 % 2 = 1
            · have hx1 : (i2 : Int) % 2 = 1 := by omega
              rw [lp_odd hodd hln] at hlp
              have hP2 : lp (i2 / 2) (last2 / 2) = P := by simpa using hlp
              rw [← hP2] at hR
              repeat' (first | refine SWp.seq ?_ | refine SWp.block ?_ | refine SWp.scope ?_ | refine SWp.condT rfl ?_ | refine SWp.condF rfl ?_ | (refine SWp.condD rfl (fun ht => ?_) (fun ht => ?_) <;> try (exfalso; omega)) | ((first | refine SWp.reg ?_ | refine SWp.skip ?_ | refine SWp.exit ?_ | refine SWp.ret ?_ | ((first | apply splitG | apply splitGB | apply splitR | apply splitRB | apply splitE | apply splitEB | apply splitC | apply splitCB) <;> intro ht)); all_goals try simp (disch := first | omega | (simp only [lens]; omega)) only [go_sem, Nat.reduceEqDiff, Nat.reduceBEq, Nat.reduceAdd, Nat.reduceMul, Nat.reduceSub, Nat.reduceLeDiff, Int.reduceToNat, Int.reducePow, q7, q8, q9, q11, q12, q13, q14, q15, hx1]))
              exact ⟨last2 / 2, by omega, i2 / 2, last2 / 2, _, qs, _, _, rfl, hM3, hq, by omega, by omega, by omega, hR, by simp, by simp⟩
            · have hx1 : (i2 : Int) % 2 = 0 := by omega
              have hx2 : (0 : Int) < i2 := by omega
              obtain rfl : i2 = last2 := hor.resolve_left hodd
              rw [lp_eq hodd] at hlp
              repeat' (first | refine SWp.seq ?_ | refine SWp.block ?_ | refine SWp.scope ?_ | refine SWp.condT rfl ?_ | refine SWp.condF rfl ?_ | (refine SWp.condD rfl (fun ht => ?_) (fun ht => ?_) <;> try (exfalso; omega)) | ((first | refine SWp.reg ?_ | refine SWp.skip ?_ | refine SWp.exit ?_ | refine SWp.ret ?_ | ((first | apply splitG | apply splitGB | apply splitR | apply splitRB | apply splitE | apply splitEB | apply splitC | apply splitCB) <;> intro ht)); all_goals try simp (disch := first | omega | (simp only [lens]; omega)) only [go_sem, Nat.reduceEqDiff, Nat.reduceBEq, Nat.reduceAdd, Nat.reduceMul, Nat.reduceSub, Nat.reduceLeDiff, Int.reduceToNat, Int.reducePow, q7, q8, q9, q11, q12, q13, q14, q15, hx1, hx2]))
              exact ⟨i2 / 2, by omega, i2 / 2, i2 / 2, rfl, hM3, hlp, by omega, .inr rfl, by omega, by omega, by simp, by simp⟩
        · by_cases hc : i % 2 = 1
          · have hc1 : (i : Int) % 2 = 1 := by omega
            repeat' (first | refine SWp.seq ?_ | refine SWp.block ?_ | refine SWp.scope ?_ | refine SWp.condT rfl ?_ | refine SWp.condF rfl ?_ | (refine SWp.condD rfl (fun ht => ?_) (fun ht => ?_) <;> try (exfalso; omega)) | ((first | refine SWp.reg ?_ | refine SWp.skip ?_ | refine SWp.exit ?_ | refine SWp.ret ?_ | (apply callW.any; (first | exact (hnx) | exact (trees_Node_to _ h a hh hM.ha) | exact (trees_Node_to _ h b hh hM.hb) | exact (trees_Node_to _ b h hM.hb hh))) | ((first | apply splitG | apply splitGB | apply splitR | apply splitRB | apply splitE | apply splitEB | apply splitC | apply splitCB) <;> intro ht)); all_goals try simp (disch := first | omega | (simp only [lens]; omega)) only [go_sem, Nat.reduceEqDiff, Nat.reduceBEq, Nat.reduceAdd, Nat.reduceMul, Nat.reduceSub, Nat.reduceLeDiff, Int.reduceToNat, Int.reducePow, q7, q8, q9, q11, q12, q13, q14, q15, g0, g1, g2, g3, g4, ca, cb, ch, c7, c8, c9, d0, d1, d2, t0, t1, t2, hc1, hl0]))
            have hM2 := (((hM.setp (qs := qs) (qv := .vsl 32 (hrows qs) ex) (.inr ⟨ex, rfl⟩)).seta (nodeS_len h a)).setb (nodeS_len h b)).app (y := [some [byteEsC h], some [byteEsC h]])
            refine SWp.loop (fun m ρ2 σ2 => ∃ (i2 last2 : Nat), m = i2 ∧ ChkM ia ib σ σ2 o nw (.vsl 32 (hrows qs) ex) qs (nodeS h a) (nodeS h b) ∧ lp i2 last2 = true :: P ∧ 0 < i2 ∧ (i2 % 2 = 1 ∨ i2 = last2) ∧ i2 < 4096 ∧ last2 ≤ i ∧
              ρ2 7 = .ptr σ.length 0 0 ∧ ρ2 8 = .ptr (σ.length + 1) 0 0 ∧ ρ2 9 = .ptr (σ.length + 2) 0 0 ∧ ρ2 11 = .int .i64 i2 ∧ ρ2 12 = .int .i64 last2 ∧ ρ2 13 = .fn 64 [.ptr (σ.length + 2) 0 0] ∧ ρ2 14 = .ptr (σ.length + ia) 0 0 ∧ ρ2 15 = .ptr (σ.length + ib) 0 0) i ?_ ?_
            · exact ⟨i, i, rfl, hM2, hP, by omega, .inr rfl, hi, by omega, by simp (disch := first | omega | (simp only [lens]; omega)) only [go_sem, Nat.reduceEqDiff, Nat.reduceBEq, Nat.reduceAdd, Nat.reduceMul, Nat.reduceSub, Nat.reduceLeDiff, Int.reduceToNat, Int.reducePow, q7], by simp (disch := first | omega | (simp only [lens]; omega)) only [go_sem, Nat.reduceEqDiff, Nat.reduceBEq, Nat.reduceAdd, Nat.reduceMul, Nat.reduceSub, Nat.reduceLeDiff, Int.reduceToNat, Int.reducePow, q8], by simp (disch := first | omega | (simp only [lens]; omega)) only [go_sem, Nat.reduceEqDiff, Nat.reduceBEq, Nat.reduceAdd, Nat.reduceMul, Nat.reduceSub, Nat.reduceLeDiff, Int.reduceToNat, Int.reducePow, q9], by simp (disch := first | omega | (simp only [lens]; omega)) only [go_sem, Nat.reduceEqDiff, Nat.reduceBEq, Nat.reduceAdd, Nat.reduceMul, Nat.reduceSub, Nat.reduceLeDiff, Int.reduceToNat, Int.reducePow, q11], by simp (disch := first | omega | (simp only [lens]; omega)) only [go_sem, Nat.reduceEqDiff, Nat.reduceBEq, Nat.reduceAdd, Nat.reduceMul, Nat.reduceSub, Nat.reduceLeDiff, Int.reduceToNat, Int.reducePow, q12], by simp (disch := first | omega | (simp only [lens]; omega)) only [go_sem, Nat.reduceEqDiff, Nat.reduceBEq, Nat.reduceAdd, Nat.reduceMul, Nat.reduceSub, Nat.reduceLeDiff, Int.reduceToNat, Int.reducePow, q13], by simp (disch := first | omega | (simp only [lens]; omega)) only [go_sem, Nat.reduceEqDiff, Nat.reduceBEq, Nat.reduceAdd, Nat.reduceMul, Nat.reduceSub, Nat.reduceLeDiff, Int.reduceToNat, Int.reducePow, q14], by simp (disch := first | omega | (simp only [lens]; omega)) only [go_sem, Nat.reduceEqDiff, Nat.reduceBEq, Nat.reduceAdd, Nat.reduceMul, Nat.reduceSub, Nat.reduceLeDiff, Int.reduceToNat, Int.reducePow, q15]⟩
            · clear q7 q8 q9 q11 q12 q13 q14 q15 g0 g1 g2 g3 g4
              rintro i2 ρ2 σ2 ⟨_, last2, rfl, hM3, hlp, hp0, hor, hb2, hl2, q7, q8, q9, q11, q12, q13, q14, q15⟩
              have hln : last2 ≠ 0 := by
                intro e; rw [e, lp_zero] at hlp; simp at hlp
              by_cases hodd : i2 % 2 = 1
              · have hx1 : (i2 : Int) % 2 = 1 := by omega
                rw [lp_odd hodd hln] at hlp
                have hP2 : lp (i2 / 2) (last2 / 2) = P := by simpa using hlp
                rw [← hP2] at hR
                repeat' (first | refine SWp.seq ?_ | refine SWp.block ?_ | refine SWp.scope ?_ | refine SWp.condT rfl ?_ | refine SWp.condF rfl ?_ | (refine SWp.condD rfl (fun ht => ?_) (fun ht => ?_) <;> try (exfalso; omega)) | ((first | refine SWp.reg ?_ | refine SWp.skip ?_ | refine SWp.exit ?_ | refine SWp.ret ?_ | ((first | apply splitG | apply splitGB | apply splitR | apply splitRB | apply splitE | apply splitEB | apply splitC | apply splitCB) <;> intro ht)); all_goals try simp (disch := first | omega | (simp only [lens]; omega)) only [go_sem, Nat.reduceEqDiff, Nat.reduceBEq, Nat.reduceAdd, Nat.reduceMul, Nat.reduceSub, Nat.reduceLeDiff, Int.reduceToNat, Int.reducePow, q7, q8, q9, q11, q12, q13, q14, q15, hx1]))
                exact ⟨last2 / 2, by omega, i2 / 2, last2 / 2, _, qs, _, _, rfl, hM3, hq, by omega, by omega, by omega, hR, by simp, by simp⟩
              · have hx1 : (i2 : Int) % 2 = 0 := by omega
                have hx2 : (0 : Int) < i2 := by omega
                obtain rfl : i2 = last2 := hor.resolve_left hodd
                rw [lp_eq hodd] at hlp
                repeat' (first | refine SWp.seq ?_ | refine SWp.block ?_ | refine SWp.scope ?_ | refine SWp.condT rfl ?_ | refine SWp.condF rfl ?_ | (refine SWp.condD rfl (fun ht => ?_) (fun ht => ?_) <;> try (exfalso; omega)) | ((first | refine SWp.reg ?_ | refine SWp.skip ?_ | refine SWp.exit ?_ | refine SWp.ret ?_ | ((first | apply splitG | apply splitGB | apply splitR | apply splitRB | apply splitE | apply splitEB | apply splitC | apply splitCB) <;> intro ht)); all_goals try simp (disch := first | omega | (simp only [lens]; omega)) only [go_sem, Nat.reduceEqDiff, Nat.reduceBEq, Nat.reduceAdd, Nat.reduceMul, Nat.reduceSub, Nat.reduceLeDiff, Int.reduceToNat, Int.reducePow, q7, q8, q9, q11, q12, q13, q14, q15, hx1, hx2]))
                exact ⟨i2 / 2, by omega, i2 / 2, i2 / 2, rfl, hM3, hlp, by omega, .inr rfl, by omega, by omega, by simp, by simp⟩
          · have hc1 : (i : Int) % 2 = 0 := by omega
            repeat' (first | refine SWp.seq ?_ | refine SWp.block ?_ | refine SWp.scope ?_ | refine SWp.condT rfl ?_ | refine SWp.condF rfl ?_ | (refine SWp.condD rfl (fun ht => ?_) (fun ht => ?_) <;> try (exfalso; omega)) | ((first | refine SWp.reg ?_ | refine SWp.skip ?_ | refine SWp.exit ?_ | refine SWp.ret ?_ | (apply callW.any; (first | exact (hnx) | exact (trees_Node_to _ h a hh hM.ha) | exact (trees_Node_to _ h b hh hM.hb) | exact (trees_Node_to _ b h hM.hb hh))) | ((first | apply splitG | apply splitGB | apply splitR | apply splitRB | apply splitE | apply splitEB | apply splitC | apply splitCB) <;> intro ht)); all_goals try simp (disch := first | omega | (simp only [lens]; omega)) only [go_sem, Nat.reduceEqDiff, Nat.reduceBEq, Nat.reduceAdd, Nat.reduceMul, Nat.reduceSub, Nat.reduceLeDiff, Int.reduceToNat, Int.reducePow, q7, q8, q9, q11, q12, q13, q14, q15, g0, g1, g2, g3, g4, ca, cb, ch, c7, c8, c9, d0, d1, d2, t0, t1, t2, hc1, hl0]))
            have hM2 := (((hM.setp (qs := qs) (qv := .vsl 32 (hrows qs) ex) (.inr ⟨ex, rfl⟩)).seta (nodeS_len h a)).setb (nodeS_len h b)).app (y := [some [byteEsC h], some [byteEsC h]])
            refine SWp.loop (fun m ρ2 σ2 => ∃ (i2 last2 : Nat), m = i2 ∧ ChkM ia ib σ σ2 o nw (.vsl 32 (hrows qs) ex) qs (nodeS h a) (nodeS h b) ∧ lp i2 last2 = true :: P ∧ 0 < i2 ∧ (i2 % 2 = 1 ∨ i2 = last2) ∧ i2 < 4096 ∧ last2 ≤ i ∧
              ρ2 7 = .ptr σ.length 0 0 ∧ ρ2 8 = .ptr (σ.length + 1) 0 0 ∧ ρ2 9 = .ptr (σ.length + 2) 0 0 ∧ ρ2 11 = .int .i64 i2 ∧ ρ2 12 = .int .i64 last2 ∧ ρ2 13 = .fn 64 [.ptr (σ.length + 2) 0 0] ∧ ρ2 14 = .ptr (σ.length + ia) 0 0 ∧ ρ2 15 = .ptr (σ.length + ib) 0 0) i ?_ ?_
            · exact ⟨i, i, rfl, hM2, hP, by omega, .inr rfl, hi, by omega, by simp (disch := first | omega | (simp only [lens]; omega)) only [go_sem, Nat.reduceEqDiff, Nat.reduceBEq, Nat.reduceAdd, Nat.reduceMul, Nat.reduceSub, Nat.reduceLeDiff, Int.reduceToNat, Int.reducePow, q7], by simp (disch := first | omega | (simp only [lens]; omega)) only [go_sem, Nat.reduceEqDiff, Nat.reduceBEq, Nat.reduceAdd, Nat.reduceMul, Nat.reduceSub, Nat.reduceLeDiff, Int.reduceToNat, Int.reducePow, q8], by simp (disch := first | omega | (simp only [lens]; omega)) only [go_sem, Nat.reduceEqDiff, Nat.reduceBEq, Nat.reduceAdd, Nat.reduceMul, Nat.reduceSub, Nat.reduceLeDiff, Int.reduceToNat, Int.reducePow, q9], by simp (disch := first | omega | (simp only [lens]; omega)) only [go_sem, Nat.reduceEqDiff, Nat.reduceBEq, Nat.reduceAdd, Nat.reduceMul, Nat.reduceSub, Nat.reduceLeDiff, Int.reduceToNat, Int.reducePow, q11], by simp (disch := first | omega | (simp only [lens]; omega)) only [go_sem, Nat.reduceEqDiff, Nat.reduceBEq, Nat.reduceAdd, Nat.reduceMul, Nat.reduceSub, Nat.reduceLeDiff, Int.reduceToNat, Int.reducePow, q12], by simp (disch := first | omega | (simp only [lens]; omega)) only [go_sem, Nat.reduceEqDiff, Nat.reduceBEq, Nat.reduceAdd, Nat.reduceMul, Nat.reduceSub, Nat.reduceLeDiff, Int.reduceToNat, Int.reducePow, q13], by simp (disch := first | omega | (simp only [lens]; omega)) only [go_sem, Nat.reduceEqDiff, Nat.reduceBEq, Nat.reduceAdd, Nat.reduceMul, Nat.reduceSub, Nat.reduceLeDiff, Int.reduceToNat, Int.reducePow, q14], by simp (disch := first | omega | (simp only [lens]; omega)) only [go_sem, Nat.reduceEqDiff, Nat.reduceBEq, Nat.reduceAdd, Nat.reduceMul, Nat.reduceSub, Nat.reduceLeDiff, Int.reduceToNat, Int.reducePow, q15]⟩
            · clear q7 q8 q9 q11 q12 q13 q14 q15 g0 g1 g2 g3 g4
              rintro i2 ρ2 σ2 ⟨_, last2, rfl, hM3, hlp, hp0, hor, hb2, hl2, q7, q8, q9, q11, q12, q13, q14, q15⟩
              have hln : last2 ≠ 0 := by
                intro e; rw [e, lp_zero] at hlp; simp at hlp
              by_cases hodd : i2 % 2 = 1
              · have hx1 : (i2 : Int) % 2 = 1 := by omega
                rw [lp_odd hodd hln] at hlp
                have hP2 : lp (i2 / 2) (last2 / 2) = P := by simpa using hlp
                rw [← hP2] at hR
                repeat' (first | refine SWp.seq ?_ | refine SWp.block ?_ | refine SWp.scope ?_ | refine SWp.condT rfl ?_ | refine SWp.condF rfl ?_ | (refine SWp.condD rfl (fun ht => ?_) (fun ht => ?_) <;> try (exfalso; omega)) | ((first | refine SWp.reg ?_ | refine SWp.skip ?_ | refine SWp.exit ?_ | refine SWp.ret ?_ | ((first | apply splitG | apply splitGB | apply splitR | apply splitRB | apply splitE | apply splitEB | apply splitC | apply splitCB) <;> intro ht)); all_goals try simp (disch := first | omega | (simp only [lens]; omega)) only [go_sem, Nat.reduceEqDiff, Nat.reduceBEq, Nat.reduceAdd, Nat.reduceMul, Nat.reduceSub, Nat.reduceLeDiff, Int.reduceToNat, Int.reducePow, q7, q8, q9, q11, q12, q13, q14, q15, hx1]))
                exact ⟨last2 / 2, by omega, i2 / 2, last2 / 2, _, qs, _, _, rfl, hM3, hq, by omega, by omega, by omega, hR, by simp, by simp⟩
              · have hx1 : (i2 : Int) % 2 = 0 := by omega
                have hx2 : (0 : Int) < i2 := by omega
                obtain rfl : i2 = last2 := hor.resolve_left hodd
                rw [lp_eq hodd] at hlp
                repeat' (first | refine SWp.seq ?_ | refine SWp.block ?_ | refine SWp.scope ?_ | refine SWp.condT rfl ?_ | refine SWp.condF rfl ?_ | (refine SWp.condD rfl (fun ht => ?_) (fun ht => ?_) <;> try (exfalso; omega)) | ((first | refine SWp.reg ?_ | refine SWp.skip ?_ | refine SWp.exit ?_ | refine SWp.ret ?_ | ((first | apply splitG | apply splitGB | apply splitR | apply splitRB | apply splitE | apply splitEB | apply splitC | apply splitCB) <;> intro ht)); all_goals try simp (disch := first | omega | (simp only [lens]; omega)) only [go_sem, Nat.reduceEqDiff, Nat.reduceBEq, Nat.reduceAdd, Nat.reduceMul, Nat.reduceSub, Nat.reduceLeDiff, Int.reduceToNat, Int.reducePow, q7, q8, q9, q11, q12, q13, q14, q15, hx1, hx2]))
                exact ⟨i2 / 2, by omega, i2 / 2, i2 / 2, rfl, hM3, hlp, by omega, .inr rfl, by omega, by omega, by simp, by simp⟩
      · have hc1 : (i : Int) % 2 = 0 := by omega
        have hc2 : ¬ (i : Int) = last := by omega
        have hl0 : (0 : Int) < last := by omega
        rw [lp_ne (by omega) h0 (by omega)] at hR
        repeat' (first | refine SWp.seq ?_ | refine SWp.block ?_ | refine SWp.scope ?_ | refine SWp.condT rfl ?_ | refine SWp.condF rfl ?_ | (refine SWp.condD rfl (fun ht => ?_) (fun ht => ?_) <;> try (exfalso; omega)) | ((first | refine SWp.reg ?_ | refine SWp.skip ?_ | refine SWp.exit ?_ | refine SWp.ret ?_ | (apply callW.any; (first | exact (hnx) | exact (trees_Node_to _ h a hh hM.ha) | exact (trees_Node_to _ h b hh hM.hb) | exact (trees_Node_to _ b h hM.hb hh))) | ((first | apply splitG | apply splitGB | apply splitR | apply splitRB | apply splitE | apply splitEB | apply splitC | apply splitCB) <;> intro ht)); all_goals try simp (disch := first | omega | (simp only [lens]; omega)) only [go_sem, Nat.reduceEqDiff, Nat.reduceBEq, Nat.reduceAdd, Nat.reduceMul, Nat.reduceSub, Nat.reduceLeDiff, Int.reduceToNat, Int.reducePow, q7, q8, q9, q11, q12, q13, q14, q15, g0, g1, g2, g3, g4, ca, cb, ch, c7, c8, c9, d0, d1, d2, t0, t1, t2, hc1, hc2, hl0]))
        exact ⟨last / 2, by omega, i / 2, last / 2, _, qs, a, nodeS b h, rfl, ((hM.setp (qs := qs) (qv := .vsl 32 (hrows qs) ex) (.inr ⟨ex, rfl⟩)).setb (nodeS_len b h)).app, hq, by omega, by omega, by omega, hR, by simp, by simp⟩
end Am
end Go.Proofs.YtfofemaglndnjaaDoor
end
section
set_option linter.unusedSimpArgs false
set_option linter.unusedVariables false
/- Proofs: contract: Check of the program. -/
set_option linter.unusedSimpArgs false
set_option linter.unusedVariables false
namespace Go.Proofs.YtfofemaglndnjaaDoor
namespace Am
attribute [local irreducible] proofs_Check_c71
set_option maxHeartbeats 8000000 in
theorem Check_main (σ : Store) (m n : Nat) (o nw : List UInt8) (x : AV) (ps : List (List UInt8)) (hx : SlV 32 (hrows ps) x) (hH : H32 ps) (ho : o.length = 32) (hn : nw.length = 32) (h0 : 0 < m) (h1 : m < n) (h2 : n ≤ 4096) (hl : ps.length < 1000000) :
    ACallsTo TC 19 [.int .i64 m, .int .i64 n, .agg (byteEsC o), .agg (byteEsC nw), x] σ (.int .i64 (fitI (chkS (m - 1) (n - 1) o ps) o nw)) σ := by
  have r0 := hx.cells
  unfold cellsOf at r0
  have c1 := byteEsC_len o
  have c2 := byteEsC_len nw
  rw [ho] at c1
  rw [hn] at c2
  have d1 := hash_drop ho
  have t1 := hash_take ho
  obtain ⟨R, hR⟩ : ∃ R, R = chkS (m - 1) (n - 1) o ps := ⟨_, rfl⟩
  rw [← hR]
  refine ACallsTo.of_body proofs_Check_ok (by simp) fun hw _ => ?_
  have hm1 : (m : Int) - 1 = ((m - 1 : Nat) : Int) := by omega
  have hn1 : (n : Int) - 1 = ((n - 1 : Nat) : Int) := by omega
  repeat' (first | refine SWp.seq ?_ | refine SWp.block ?_ | refine SWp.scope ?_ | refine SWp.condT rfl ?_ | refine SWp.condF rfl ?_ | (refine SWp.condD rfl (fun ht => ?_) (fun ht => ?_) <;> try (exfalso; omega)) | ((first | refine SWp.reg ?_ | refine SWp.skip ?_ | refine SWp.exit ?_ | refine SWp.ret ?_ | ((first | apply splitG | apply splitGB | apply splitR | apply splitRB | apply splitE | apply splitEB | apply splitC | apply splitCB) <;> intro ht)); all_goals try simp (disch := first | omega | (simp only [lens]; omega)) only [go_sem, Nat.reduceEqDiff, Nat.reduceBEq, Nat.reduceAdd, Nat.reduceMul, Nat.reduceSub, Nat.reduceLeDiff, Int.reduceToNat, Int.reducePow, r0, hm1, hn1]))
  refine SWp.loop (fun k ρ σ' => ∃ (i last : Nat), k = i ∧ σ' = σ ++ [some [byteEsC o], some [byteEsC nw], some [[x]]] ∧ R = chkG (st i last).1 (st i last).2 o ps ∧ i < 4096 ∧ last < 4096 ∧
    ρ 7 = .ptr σ.length 0 0 ∧ ρ 8 = .ptr (σ.length + 1) 0 0 ∧ ρ 9 = .ptr (σ.length + 2) 0 0 ∧ ρ 11 = .int .i64 i ∧ ρ 12 = .int .i64 last) (m - 1) ?_ ?_
  · exact ⟨m - 1, n - 1, rfl, by simp, hR, by omega, by omega, by simp (disch := first | omega | (simp only [lens]; omega)) only [go_sem, Nat.reduceEqDiff, Nat.reduceBEq, Nat.reduceAdd, Nat.reduceMul, Nat.reduceSub, Nat.reduceLeDiff, Int.reduceToNat, Int.reducePow], by simp (disch := first | omega | (simp only [lens]; omega)) only [go_sem, Nat.reduceEqDiff, Nat.reduceBEq, Nat.reduceAdd, Nat.reduceMul, Nat.reduceSub, Nat.reduceLeDiff, Int.reduceToNat, Int.reducePow], by simp (disch := first | omega | (simp only [lens]; omega)) only [go_sem, Nat.reduceEqDiff, Nat.reduceBEq, Nat.reduceAdd, Nat.reduceMul, Nat.reduceSub, Nat.reduceLeDiff, Int.reduceToNat, Int.reducePow], by simp (disch := first | omega | (simp only [lens]; omega)) only [go_sem, Nat.reduceEqDiff, Nat.reduceBEq, Nat.reduceAdd, Nat.reduceMul, Nat.reduceSub, Nat.reduceLeDiff, Int.reduceToNat, Int.reducePow], by simp (disch := first | omega | (simp only [lens]; omega)) only [go_sem, Nat.reduceEqDiff, Nat.reduceBEq, Nat.reduceAdd, Nat.reduceMul, Nat.reduceSub, Nat.reduceLeDiff, Int.reduceToNat, Int.reducePow]⟩
  · clear hm1 hn1 hR h0 h1 h2
    rintro i ρ σ' ⟨_, last, rfl, rfl, hR, hi, hla, q7, q8, q9, q11, q12⟩
    by_cases ho1 : i % 2 = 1
    · have hx1 : (i : Int) % 2 = 1 := by omega
      rw [st_odd ho1] at hR
      repeat' (first | refine SWp.seq ?_ | refine SWp.block ?_ | refine SWp.scope ?_ | refine SWp.condT rfl ?_ | refine SWp.condF rfl ?_ | (refine SWp.condD rfl (fun ht => ?_) (fun ht => ?_) <;> try (exfalso; omega)) | ((first | refine SWp.reg ?_ | refine SWp.skip ?_ | refine SWp.exit ?_ | refine SWp.ret ?_ | ((first | apply splitG | apply splitGB | apply splitR | apply splitRB | apply splitE | apply splitEB | apply splitC | apply splitCB) <;> intro ht)); all_goals try simp (disch := first | omega | (simp only [lens]; omega)) only [go_sem, Nat.reduceEqDiff, Nat.reduceBEq, Nat.reduceAdd, Nat.reduceMul, Nat.reduceSub, Nat.reduceLeDiff, Int.reduceToNat, Int.reducePow, q7, q8, q9, q11, q12, hx1]))
      exact ⟨i / 2, by omega, i / 2, last / 2, rfl, hR, by omega, by omega, by simp, by simp⟩
    · have hx1 : (i : Int) % 2 = 0 := by omega
      rw [st_even ho1] at hR
      simp only [chkG] at hR
      have hM : ∀ ia ib : Nat, ((ia = 3 ∧ ib = 4) ∨ (ia = 4 ∧ ib = 3)) → ChkM ia ib σ (σ ++ [some [byteEsC o], some [byteEsC nw], some [[x]], some [byteEsC o], some [byteEsC o]]) o nw x ps o o := fun ia ib hab =>
        ⟨hab, by simp, fun q hq => gapp hq, by simp, by simp, by simp, by rcases hab with ⟨rfl, rfl⟩ | ⟨rfl, rfl⟩ <;> simp, by rcases hab with ⟨rfl, rfl⟩ | ⟨rfl, rfl⟩ <;> simp, hx, ho, ho⟩
      have key : ∀ (ia ib : Nat), ((ia = 3 ∧ ib = 4) ∨ (ia = 4 ∧ ib = 3)) → ∀ ρ1 : Env, ρ1 7 = .ptr σ.length 0 0 → ρ1 8 = .ptr (σ.length + 1) 0 0 → ρ1 9 = .ptr (σ.length + 2) 0 0 → ρ1 11 = .int .i64 i → ρ1 12 = .int .i64 last →
          ρ1 13 = .fn 64 [.ptr (σ.length + 2) 0 0] → ρ1 14 = .ptr (σ.length + ia) 0 0 → ρ1 15 = .ptr (σ.length + ib) 0 0 →
          SWp TC 152 σ.length proofs_Check_c72 (endQ σ.length [.t 10] (.int .i64 (fitI R o nw)) σ) ρ1 (σ ++ [some [byteEsC o], some [byteEsC nw], some [[x]], some [byteEsC o], some [byteEsC o]]) := by
        clear q7 q8 q9 q11 q12
        intro ia ib hab ρ1 q7 q8 q9 q11 q12 q13 q14 q15
        have hM1 := hM ia ib hab
        by_cases hi0 : i = 0
        · subst hi0
          rw [if_neg (by omega)] at hR
          repeat' (first | refine SWp.seq ?_ | refine SWp.block ?_ | refine SWp.scope ?_ | refine SWp.condT rfl ?_ | refine SWp.condF rfl ?_ | (refine SWp.condD rfl (fun ht => ?_) (fun ht => ?_) <;> try (exfalso; omega)) | ((first | refine SWp.reg ?_ | refine SWp.skip ?_ | refine SWp.exit ?_ | refine SWp.ret ?_ | ((first | apply splitG | apply splitGB | apply splitR | apply splitRB | apply splitE | apply splitEB | apply splitC | apply splitCB) <;> intro ht)); all_goals try simp (disch := first | omega | (simp only [lens]; omega)) only [go_sem, Nat.reduceEqDiff, Nat.reduceBEq, Nat.reduceAdd, Nat.reduceMul, Nat.reduceSub, Nat.reduceLeDiff, Int.reduceToNat, Int.reducePow, q7, q8, q9, q11, q12, c1, c2, d1, t1]))
          refine Check_loop ia ib σ hw o nw ho hn R _ _ 0 last x ps o o hM1 hH (by omega) hla hl hR.symm ?_ ?_ ?_ ?_ ?_ ?_ ?_ ?_ <;> simp (disch := first | omega | (simp only [lens]; omega)) only [go_sem, Nat.reduceEqDiff, Nat.reduceBEq, Nat.reduceAdd, Nat.reduceMul, Nat.reduceSub, Nat.reduceLeDiff, Int.reduceToNat, Int.reducePow, q7, q8, q9, q11, q12, q13, q14, q15]
        · have hi1 : (0 : Int) < i := by omega
          rw [if_pos (by omega)] at hR
          have g2 := hM1.g2
          have g3 := hM1.g3
          have g4 := hM1.g4
          have hlen := hM1.len
          cases ps with
          | nil =>
            have hnx := next_none (σ.length + 2) _ x hx g2
            have cz : (byteEsC zero32).length = 32 := by rw [byteEsC_len]; rfl
            have dz : (byteEsC zero32).drop 32 = [] := rfl
            have hf : fitI R o nw = 80 := by rw [hR]; rfl
            rw [hf]
            have hM2 := hM1.app (y := [some [byteEsC zero32], some [byteEsC zero32]])
            generalize (σ ++ [some [byteEsC o], some [byteEsC nw], some [[x]], some [byteEsC o], some [byteEsC o]]) = σ1 at *
            repeat' (first | refine SWp.seq ?_ | refine SWp.block ?_ | refine SWp.scope ?_ | refine SWp.condT rfl ?_ | refine SWp.condF rfl ?_ | (refine SWp.condD rfl (fun ht => ?_) (fun ht => ?_) <;> try (exfalso; omega)) | ((first | refine SWp.reg ?_ | refine SWp.skip ?_ | refine SWp.exit ?_ | refine SWp.ret ?_ | (apply callW.any; (first | exact (hnx))) | ((first | apply splitG | apply splitGB | apply splitR | apply splitRB | apply splitE | apply splitEB | apply splitC | apply splitCB) <;> intro ht)); all_goals try simp (disch := first | omega | (simp only [lens]; omega)) only [go_sem, Nat.reduceEqDiff, Nat.reduceBEq, Nat.reduceAdd, Nat.reduceMul, Nat.reduceSub, Nat.reduceLeDiff, Int.reduceToNat, Int.reducePow, q7, q8, q9, q11, q12, q13, q14, q15, c1, c2, d1, t1, hi1, cz, dz]))
            exact hM2.fin hw
          | cons h qs =>
            have hh : h.length = 32 := hH h (by simp)
            have hq : H32 qs := fun x hx => hH x (by simp [hx])
            obtain ⟨ex, rfl⟩ := hx.vsl (by rw [hrows_len]; simp)
            simp only [List.length_cons] at hl
            have hnx := next_to (σ.length + 2) _ h qs ex hh (by omega) g2
            have ch := byteEsC_len h
            rw [hh] at ch
            have d2 := hash_drop hh
            have t2 := hash_take hh
            have hM2 := ((((hM1.setp (qs := qs) (qv := .vsl 32 (hrows qs) ex) (.inr ⟨ex, rfl⟩)).seta hh).setb hh).app (y := [some [byteEsC h], some [byteEsC h]]))
            generalize (σ ++ [some [byteEsC o], some [byteEsC nw], some [[AV.vsl 32 (hrows (h :: qs)) ex]], some [byteEsC o], some [byteEsC o]]) = σ1 at *
            repeat' (first | refine SWp.seq ?_ | refine SWp.block ?_ | refine SWp.scope ?_ | refine SWp.condT rfl ?_ | refine SWp.condF rfl ?_ | (refine SWp.condD rfl (fun ht => ?_) (fun ht => ?_) <;> try (exfalso; omega)) | ((first | refine SWp.reg ?_ | refine SWp.skip ?_ | refine SWp.exit ?_ | refine SWp.ret ?_ | (apply callW.any; (first | exact (hnx))) | ((first | apply splitG | apply splitGB | apply splitR | apply splitRB | apply splitE | apply splitEB | apply splitC | apply splitCB) <;> intro ht)); all_goals try simp (disch := first | omega | (simp only [lens]; omega)) only [go_sem, Nat.reduceEqDiff, Nat.reduceBEq, Nat.reduceAdd, Nat.reduceMul, Nat.reduceSub, Nat.reduceLeDiff, Int.reduceToNat, Int.reducePow, q7, q8, q9, q11, q12, q13, q14, q15, g2, g3, g4, c1, c2, ch, d1, d2, t1, t2, hi1]))
            refine Check_loop ia ib σ hw o nw ho hn R _ _ i last (.vsl 32 (hrows qs) ex) qs h h hM2 hq hi hla (by omega) hR.symm ?_ ?_ ?_ ?_ ?_ ?_ ?_ ?_ <;> simp (disch := first | omega | (simp only [lens]; omega)) only [go_sem, Nat.reduceEqDiff, Nat.reduceBEq, Nat.reduceAdd, Nat.reduceMul, Nat.reduceSub, Nat.reduceLeDiff, Int.reduceToNat, Int.reducePow, q7, q8, q9, q11, q12, q13, q14, q15]
      clear hM
      repeat' (first | refine SWp.seq ?_ | refine SWp.block ?_ | refine SWp.scope ?_ | refine SWp.condT rfl ?_ | refine SWp.condF rfl ?_ | (refine SWp.condD rfl (fun ht => ?_) (fun ht => ?_) <;> try (exfalso; omega)) | ((first | refine SWp.reg ?_ | refine SWp.skip ?_ | refine SWp.exit ?_ | refine SWp.ret ?_ | ((first | apply splitG | apply splitGB | apply splitR | apply splitRB | apply splitE | apply splitEB | apply splitC | apply splitCB) <;> intro ht)); all_goals try simp (disch := first | omega | (simp only [lens]; omega)) only [go_sem, Nat.reduceEqDiff, Nat.reduceBEq, Nat.reduceAdd, Nat.reduceMul, Nat.reduceSub, Nat.reduceLeDiff, Int.reduceToNat, Int.reducePow, q7, q8, q9, q11, q12, hx1]))
      refine SWp.reg2 ?_ ?_
      · simp (disch := first | omega | (simp only [lens]; omega)) only [go_sem, Nat.reduceEqDiff, Nat.reduceBEq, Nat.reduceAdd, Nat.reduceMul, Nat.reduceSub, Nat.reduceLeDiff, Int.reduceToNat, Int.reducePow, q7, q8, q9, q11, q12, c1, c2, d1, t1]
        refine key 3 4 (.inl ⟨rfl, rfl⟩) _ ?_ ?_ ?_ ?_ ?_ ?_ ?_ ?_ <;> simp (disch := first | omega | (simp only [lens]; omega)) only [go_sem, Nat.reduceEqDiff, Nat.reduceBEq, Nat.reduceAdd, Nat.reduceMul, Nat.reduceSub, Nat.reduceLeDiff, Int.reduceToNat, Int.reducePow, q7, q8, q9, q11, q12]
      · simp (disch := first | omega | (simp only [lens]; omega)) only [go_sem, Nat.reduceEqDiff, Nat.reduceBEq, Nat.reduceAdd, Nat.reduceMul, Nat.reduceSub, Nat.reduceLeDiff, Int.reduceToNat, Int.reducePow, q7, q8, q9, q11, q12, c1, c2, d1, t1]
        refine key 4 3 (.inr ⟨rfl, rfl⟩) _ ?_ ?_ ?_ ?_ ?_ ?_ ?_ ?_ <;> simp (disch := first | omega | (simp only [lens]; omega)) only [go_sem, Nat.reduceEqDiff, Nat.reduceBEq, Nat.reduceAdd, Nat.reduceMul, Nat.reduceSub, Nat.reduceLeDiff, Int.reduceToNat, Int.reducePow, q7, q8, q9, q11, q12]
theorem Check_to (σ : Store) (m n : Int) (o nw : List UInt8) (x : AV) (ps : List (List UInt8)) (hx : SlV 32 (hrows ps) x) (hH : H32 ps) (ho : o.length = 32) (hn : nw.length = 32) (hl : ps.length < 1000000) :
    ACallsTo TC 19 [.int .i64 m, .int .i64 n, .agg (byteEsC o), .agg (byteEsC nw), x] σ (.int .i64 (chkI m n o nw ps)) σ := by
  unfold chkI
  by_cases h1 : n < 0 ∨ 4096 < n ∨ m < 0 ∨ n < m
  · rw [if_pos h1]; exact Check_bad σ m n o nw x _ hx h1
  · rw [if_neg h1]
    by_cases h2 : m = 0
    · subst h2; rw [if_pos rfl]; exact Check_zero σ n o nw x ps hx ho hn (by omega) (by omega) hl
    · rw [if_neg h2]
      by_cases h3 : m = n
      · subst h3; rw [if_pos rfl]; exact Check_same σ m o nw x ps hx ho hn (by omega) (by omega) hl
      · rw [if_neg h3]
        obtain ⟨m, rfl⟩ : ∃ k : Nat, m = k := ⟨m.toNat, by omega⟩
        obtain ⟨n, rfl⟩ : ∃ k : Nat, n = k := ⟨n.toNat, by omega⟩
        exact Check_main σ m n o nw x ps hx hH ho hn (by omega) (by omega) (by omega) hl
theorem Check_rd (σ : Store) (m n : Int) (o nw : List UInt8) (x : AV) (ps : List (List UInt8)) (hx : RdSl σ 32 (hrows ps) x) (hH : H32 ps) (ho : o.length = 32) (hn : nw.length = 32) (hl : ps.length < 1000000) :
    ACallsTo TC 19 [.int .i64 m, .int .i64 n, .agg (byteEsC o), .agg (byteEsC nw), x] σ (.int .i64 (chkI m n o nw ps)) σ := by
  obtain ⟨x0, h0, hd⟩ := hx.lend (rlss_h ps)
  have hi : ∀ i : Int, RL 0 (.int .i64 i) := fun i => by simp [RL]
  have := ACallsTo.lend glok (Check_to [] m n o nw x0 ps h0 hH ho hn hl) (drsc (rl0 (hi m) σ) (drsc (rl0 (hi n) σ) (drsc (rl0 (rl_agg (rl_bytes _)) σ) (drsc (rl0 (rl_agg (rl_bytes _)) σ) (drs1 hd)))))
  rwa [show sh σ.length (.int .i64 (chkI m n o nw ps)) = .int .i64 (chkI m n o nw ps) from rfl, shS_nil, List.append_nil] at this
end Am
end Go.Proofs.YtfofemaglndnjaaDoor
end
section
set_option linter.unusedSimpArgs false
set_option linter.unusedVariables false
/- Proofs: contract: the law's own example. -/
set_option linter.unusedSimpArgs false
set_option linter.unusedVariables false
namespace Go.Proofs.YtfofemaglndnjaaDoor
namespace Am
theorem split2 : splitS 2 = 1 := by decide
theorem split4 : splitS 4 = 2 := by decide
theorem split5 : splitS 5 = 4 := by decide
theorem root2 (a b : List UInt8) : rootS [a, b] = nodeS a b := by
  rw [rootS_two (by simp)]; simp [split2, rootS_one]
theorem root5 (a b c d e : List UInt8) : rootS [a, b, c, d, e] = nodeS (rootS [a, b, c, d]) e := by
  rw [rootS_two (by simp)]; simp [split5, rootS_one]
theorem sub_five3 (a b c d e : List UInt8) : proofL [a, b, c, d, e] 3 = [c, d, nodeS a b, e] := by
  have h1 : proofL [a, b, c, d, e] 3 = subS [a, b, c, d, e] 3 true := by unfold proofL; rw [if_pos (by simp)]; rfl
  rw [h1, subS_left (by decide) (by simp) (by simp [split5])]
  simp only [List.length_cons, List.length_nil, Nat.zero_add, Nat.reduceAdd, split5, List.take_succ_cons, List.take_zero, List.drop_succ_cons, List.drop_zero, rootS_one]
  rw [subS_right (by simp) (by simp [split4])]
  simp only [List.length_cons, List.length_nil, Nat.zero_add, Nat.reduceAdd, split4, List.take_succ_cons, List.take_zero, List.drop_succ_cons, List.drop_zero, root2, Nat.reduceSub]
  rw [subS_left (by decide) (by simp) (by simp [split2])]
  simp only [List.length_cons, List.length_nil, Nat.zero_add, Nat.reduceAdd, split2, List.take_succ_cons, List.take_zero, List.drop_succ_cons, List.drop_zero, rootS_one]
  have := subS_all [c] false
  simp only [List.length_cons, List.length_nil, Nat.zero_add] at this
  rw [this]
  simp [rootS_one]
theorem sub_five4 (a b c d e : List UInt8) : proofL [a, b, c, d, e] 4 = [e] := by
  have h1 : proofL [a, b, c, d, e] 4 = subS [a, b, c, d, e] 4 true := by unfold proofL; rw [if_pos (by simp)]; rfl
  rw [h1, subS_left (by decide) (by simp) (by simp [split5])]
  simp only [List.length_cons, List.length_nil, Nat.zero_add, Nat.reduceAdd, split5, List.take_succ_cons, List.take_zero, List.drop_succ_cons, List.drop_zero, rootS_one]
  have := subS_all [a, b, c, d] true
  simp only [List.length_cons, List.length_nil, Nat.zero_add, Nat.reduceAdd] at this
  rw [this]; rfl
theorem chk_five4 (a b c d e : List UInt8) : chkI 4 5 (rootS [a, b, c, d]) (rootS [a, b, c, d, e]) [e] = 0 := by
  rw [root5]
  generalize rootS [a, b, c, d] = o
  have h1 : chkI 4 5 o (nodeS o e) [e] = fitI (chkS 3 4 o [e]) o (nodeS o e) := by unfold chkI; simp
  have h2 : chkS 3 4 o [e] = some (o, nodeS o e) := by
    unfold chkS
    rw [st_odd (by decide), st_odd (by decide), st_even (by decide)]
    simp only [chkG, Nat.reduceDiv, Nat.lt_irrefl, if_false]
    rw [lp_ne (by decide) (by decide) (by decide), lp_zero]
    rfl
  rw [h1, h2]
  simp [fitI]
theorem chk_five3 (o nw e : List UInt8) : chkI 3 5 o nw [e] = 80 := by
  have h1 : chkI 3 5 o nw [e] = fitI (chkS 2 4 o [e]) o nw := by unfold chkI; simp
  have h2 : chkS 2 4 o [e] = none := by
    unfold chkS
    rw [st_even (by decide)]
    simp only [chkG, Nat.reduceLT, if_true, Nat.zero_lt_succ]
    obtain ⟨t, P, h⟩ := lp_pos (i := 2) (last := 4) (by decide)
    rw [h, run_nil]
  rw [h1, h2]; rfl
theorem OwnN.nilv {sz : Nat} {τ σ' : Store} {v : AV} (h : OwnN sz τ σ' v []) : v = .nilsl := by
  obtain ⟨news, rfl, ⟨_, rfl⟩ | ⟨j, h0, _⟩⟩ := h
  · rfl
  · exact absurd rfl h0
theorem ProofP.is {σ σ' : Store} {hs : List (List UInt8)} {m : Int} {v : AV} (h : ProofP σ hs m v σ') : ∃ v2, v = .tup [v2, .int .i64 (proofE hs m)] ∧ OwnN 32 σ σ' v2 (hrows (proofL hs m)) := h
set_option maxHeartbeats 8000000 in
theorem proved7_to (σ : Store) : ACallsTo TC 15 [] σ (.bool true) σ := by
  refine ACallsTo.of_body speculumlaw07_proved_ok (by simp) fun hw _ => ?_
  obtain ⟨a, b, c, d, e, hl5, hH⟩ : ∃ a b c d e, someS 2 5 = [a, b, c, d, e] ∧ H32 [a, b, c, d, e] := ⟨_, _, _, _, _, rfl, someS_H 2 5⟩
  have hS : ∀ σ, ACallsTo TC 21 [.int .i64 5, .int .u8 2] σ (.vsl 32 (hrows [a, b, c, d, e]) false) σ := fun σ => by
    have := Some_to σ 5 2 (by decide)
    have e1 : slVal 32 (hrows (someS 2 (5 : Int).toNat)) = .vsl 32 (hrows [a, b, c, d, e]) false := by
      rw [show (5 : Int).toNat = 5 from rfl, hl5]; rfl
    rw [e1] at this
    exact this
  have ha : a.length = 32 := hH a (by simp)
  have hb : b.length = 32 := hH b (by simp)
  have hc : c.length = 32 := hH c (by simp)
  have hd : d.length = 32 := hH d (by simp)
  have he : e.length = 32 := hH e (by simp)
  have hsl : SlV 32 (hrows [a, b, c, d, e]) (.vsl 32 (hrows [a, b, c, d, e]) false) := .inr ⟨false, rfl⟩
  have hP := fun σ (m : Int) => Proof_to σ [a, b, c, d, e] (.vsl 32 (hrows [a, b, c, d, e]) false) m hsl hH (by simp)
  have p3 := sub_five3 a b c d e
  have p4 := sub_five4 a b c d e
  have p5 : proofL [a, b, c, d, e] 5 = [] := by unfold proofL; rw [if_neg (by simp)]
  have p0 : proofL [a, b, c, d, e] 0 = [] := by unfold proofL; rw [if_neg (by simp)]
  have p6 : proofL [a, b, c, d, e] 6 = [] := by unfold proofL; rw [if_neg (by simp)]
  have e3 : proofE [a, b, c, d, e] 3 = 0 := by unfold proofE; rw [if_neg (by simp)]
  have e4 : proofE [a, b, c, d, e] 4 = 0 := by unfold proofE; rw [if_neg (by simp)]
  have e5 : proofE [a, b, c, d, e] 5 = 0 := by unfold proofE; rw [if_neg (by simp)]
  have e0 : proofE [a, b, c, d, e] 0 = 0 := by unfold proofE; rw [if_neg (by simp)]
  have e6 : proofE [a, b, c, d, e] 6 = 2 := by unfold proofE; rw [if_pos (by simp)]
  repeat' (first | refine SWp.seq ?_ | refine SWp.block ?_ | refine SWp.scope ?_ | refine SWp.condT rfl ?_ | refine SWp.condF rfl ?_ | (refine SWp.condD rfl (fun ht => ?_) (fun ht => ?_) <;> try (exfalso; omega)) | ((first | refine SWp.reg ?_ | refine SWp.skip ?_ | refine SWp.exit ?_ | refine SWp.ret ?_ | (apply callW.any; (first | exact (hS _))) | ((first | apply splitG | apply splitGB | apply splitR | apply splitRB | apply splitE | apply splitEB | apply splitC | apply splitCB) <;> intro ht)); all_goals try simp (disch := first | omega | (simp only [lens]; omega)) only [go_sem, Nat.reduceEqDiff, Nat.reduceBEq, Nat.reduceAdd, Nat.reduceMul, Nat.reduceSub, Nat.reduceLeDiff, Int.reduceToNat, Int.reducePow]))
  refine callW.mkP (hP _ 3) (ProofP.ex _ _ _) ?_
  rintro _ σ1 ⟨v3, rfl, o3⟩
  rw [p3] at o3
  rw [e3]
  repeat' (first | refine SWp.seq ?_ | refine SWp.block ?_ | refine SWp.scope ?_ | refine SWp.condT rfl ?_ | refine SWp.condF rfl ?_ | (refine SWp.condD rfl (fun ht => ?_) (fun ht => ?_) <;> try (exfalso; omega)) | ((first | refine SWp.reg ?_ | refine SWp.skip ?_ | refine SWp.exit ?_ | refine SWp.ret ?_ | ((first | apply splitG | apply splitGB | apply splitR | apply splitRB | apply splitE | apply splitEB | apply splitC | apply splitCB) <;> intro ht)); all_goals try simp (disch := first | omega | (simp only [lens]; omega)) only [go_sem, Nat.reduceEqDiff, Nat.reduceBEq, Nat.reduceAdd, Nat.reduceMul, Nat.reduceSub, Nat.reduceLeDiff, Int.reduceToNat, Int.reducePow]))
  refine callW.mkP (hP _ 4) (ProofP.ex _ _ _) ?_
  rintro _ σ2 ⟨v4, rfl, o4⟩
  rw [p4] at o4
  rw [e4]
  repeat' (first | refine SWp.seq ?_ | refine SWp.block ?_ | refine SWp.scope ?_ | refine SWp.condT rfl ?_ | refine SWp.condF rfl ?_ | (refine SWp.condD rfl (fun ht => ?_) (fun ht => ?_) <;> try (exfalso; omega)) | ((first | refine SWp.reg ?_ | refine SWp.skip ?_ | refine SWp.exit ?_ | refine SWp.ret ?_ | ((first | apply splitG | apply splitGB | apply splitR | apply splitRB | apply splitE | apply splitEB | apply splitC | apply splitCB) <;> intro ht)); all_goals try simp (disch := first | omega | (simp only [lens]; omega)) only [go_sem, Nat.reduceEqDiff, Nat.reduceBEq, Nat.reduceAdd, Nat.reduceMul, Nat.reduceSub, Nat.reduceLeDiff, Int.reduceToNat, Int.reducePow]))
  refine callW.mkP (hP _ 5) (ProofP.ex _ _ _) ?_
  rintro _ σ3 ⟨v5, rfl, o5⟩
  rw [p5] at o5
  rw [e5]
  obtain rfl := o5.nilv
  repeat' (first | refine SWp.seq ?_ | refine SWp.block ?_ | refine SWp.scope ?_ | refine SWp.condT rfl ?_ | refine SWp.condF rfl ?_ | (refine SWp.condD rfl (fun ht => ?_) (fun ht => ?_) <;> try (exfalso; omega)) | ((first | refine SWp.reg ?_ | refine SWp.skip ?_ | refine SWp.exit ?_ | refine SWp.ret ?_ | ((first | apply splitG | apply splitGB | apply splitR | apply splitRB | apply splitE | apply splitEB | apply splitC | apply splitCB) <;> intro ht)); all_goals try simp (disch := first | omega | (simp only [lens]; omega)) only [go_sem, Nat.reduceEqDiff, Nat.reduceBEq, Nat.reduceAdd, Nat.reduceMul, Nat.reduceSub, Nat.reduceLeDiff, Int.reduceToNat, Int.reducePow]))
  refine callW.mkP (hP _ 0) (ProofP.ex _ _ _) ?_
  rintro _ σ4 ⟨v0, rfl, o0⟩
  rw [p0] at o0
  rw [e0]
  obtain rfl := o0.nilv
  repeat' (first | refine SWp.seq ?_ | refine SWp.block ?_ | refine SWp.scope ?_ | refine SWp.condT rfl ?_ | refine SWp.condF rfl ?_ | (refine SWp.condD rfl (fun ht => ?_) (fun ht => ?_) <;> try (exfalso; omega)) | ((first | refine SWp.reg ?_ | refine SWp.skip ?_ | refine SWp.exit ?_ | refine SWp.ret ?_ | ((first | apply splitG | apply splitGB | apply splitR | apply splitRB | apply splitE | apply splitEB | apply splitC | apply splitCB) <;> intro ht)); all_goals try simp (disch := first | omega | (simp only [lens]; omega)) only [go_sem, Nat.reduceEqDiff, Nat.reduceBEq, Nat.reduceAdd, Nat.reduceMul, Nat.reduceSub, Nat.reduceLeDiff, Int.reduceToNat, Int.reducePow]))
  refine callW.mkP (hP _ 6) (ProofP.ex _ _ _) ?_
  rintro _ σ5 ⟨v6, rfl, o6⟩
  rw [p6] at o6
  rw [e6]
  obtain rfl := o6.nilv
  obtain ⟨y2, rfl⟩ := o4.ext
  obtain ⟨y3, rfl⟩ := o5.ext
  obtain ⟨y4, rfl⟩ := o0.ext
  obtain ⟨y5, rfl⟩ := o6.ext
  obtain ⟨y1, hy1⟩ := o3.ext
  have r3 : ∀ y, RdSl (σ1 ++ y2 ++ y3 ++ y4 ++ y5 ++ y) 32 (hrows [c, d, nodeS a b, e]) v3 := fun y => ((((o3.rd.app).app).app).app).app
  have r4 : ∀ y, RdSl (σ1 ++ y2 ++ y3 ++ y4 ++ y5 ++ y) 32 (hrows [e]) v4 := fun y => (((o4.rd.app).app).app).app
  have hall : ∃ y, σ1 ++ y2 ++ y3 ++ y4 ++ y5 = σ ++ y := ⟨y1 ++ y2 ++ y3 ++ y4 ++ y5, by rw [hy1]; simp⟩
  clear hP o3 o4 o5 o0 o6 hy1
  generalize σ1 ++ y2 ++ y3 ++ y4 ++ y5 = σ6 at *
  obtain ⟨y, rfl⟩ := hall
  have hRt := fun σ => trees_Root_to σ [a, b, c, d, e] (.vsl 32 (hrows [a, b, c, d, e]) false) hsl hH (by simp)
  have hrl : (rootS [a, b, c, d, e]).length = 32 := rootS_len hH
  have hH4 : H32 [a, b, c, d] := fun x hx => hH x (by simp at hx ⊢; rcases hx with h | h | h | h <;> simp [h])
  have hH3 : H32 [a, b, c] := fun x hx => hH x (by simp at hx ⊢; rcases hx with h | h | h <;> simp [h])
  have hr4 : (rootS [a, b, c, d]).length = 32 := rootS_len hH4
  have hr3 : (rootS [a, b, c]).length = 32 := rootS_len hH3
  have hq4 := chk_five4 a b c d e
  have hq3 := chk_five3 (rootS [a, b, c]) (rootS [a, b, c, d, e]) e
  have hCk4 := fun y1 => Check_rd (σ ++ y ++ y1) 4 5 (rootS [a, b, c, d]) (rootS [a, b, c, d, e]) v4 [e] (r4 y1) (fun x hx => by simp at hx; rw [hx]; exact he) hr4 hrl (by simp)
  have hCk3 := fun y1 => Check_rd (σ ++ y ++ y1) 3 5 (rootS [a, b, c]) (rootS [a, b, c, d, e]) v4 [e] (r4 y1) (fun x hx => by simp at hx; rw [hx]; exact he) hr3 hrl (by simp)
  rw [hq4] at hCk4
  rw [hq3] at hCk3
  have hH34 : H32 [c, d, nodeS a b, e] := fun x hx => by
    simp at hx
    rcases hx with rfl | rfl | rfl | rfl
    · exact hc
    · exact hd
    · exact nodeS_len _ _
    · exact he
  have hH1 : H32 [e] := fun x hx => by simp at hx; rw [hx]; exact he
  have hSm3 := fun y1 => Same_rd (σ ++ y ++ y1) [c, d, nodeS a b, e] [c, d, nodeS a b, e] v3 (.vsl 32 (hrows [c, d, nodeS a b, e]) true) (r3 y1) (.of (.inr ⟨true, rfl⟩)) hH34 hH34 (by simp) (by simp)
  have hSm4 := fun y1 => Same_rd (σ ++ y ++ y1) [e] [e] v4 (.vsl 32 (hrows [e]) true) (r4 y1) (.of (.inr ⟨true, rfl⟩)) hH1 hH1 (by simp) (by simp)
  rw [decide_eq_true rfl] at hSm3 hSm4
  have hR4 := fun σ ex => trees_Root_to σ [a, b, c, d] (.vsl 32 (hrows [a, b, c, d]) ex) (.inr ⟨ex, rfl⟩) hH4 (by simp)
  have hR3 := fun σ ex => trees_Root_to σ [a, b, c] (.vsl 32 (hrows [a, b, c]) ex) (.inr ⟨ex, rfl⟩) hH3 (by simp)
  have hNd := fun σ => trees_Node_to σ a b ha hb
  have ca := byteEsC_len a
  have cb := byteEsC_len b
  have cc := byteEsC_len c
  have cd := byteEsC_len d
  have ce := byteEsC_len e
  have cn := byteEsC_len (nodeS a b)
  have cr := byteEsC_len (rootS [a, b, c, d, e])
  rw [ha] at ca
  rw [hb] at cb
  rw [hc] at cc
  rw [hd] at cd
  rw [he] at ce
  rw [nodeS_len] at cn
  rw [hrl] at cr
  simp only [List.append_assoc] at hSm3 hSm4 hCk4 hCk3
  simp only [hrows, List.map_cons, List.map_nil] at hRt hCk4 hCk3 hSm3 hSm4 hR4 hR3 ⊢
  clear r3 r4 hH hH34 hH1 hH4 hH3 p3 p4 p5 p0 p6 e3 e4 e5 e0 e6 hS hsl hq4 hq3 hl5
  generalize byteEsC (rootS [a, b, c, d, e]) = rr at *
  generalize byteEsC (nodeS a b) = rn at *
  generalize byteEsC a = ra at *
  generalize byteEsC b = rb at *
  generalize byteEsC c = rc at *
  generalize byteEsC d = rd at *
  generalize byteEsC e = re at *
  have dr : rr.drop 32 = [] := List.drop_of_length_le (by omega)
  repeat' (first | refine SWp.seq ?_ | refine SWp.block ?_ | refine SWp.scope ?_ | refine SWp.condT rfl ?_ | refine SWp.condF rfl ?_ | (refine SWp.condD rfl (fun ht => ?_) (fun ht => ?_) <;> try (exfalso; omega)) | ((first | refine SWp.regS ?_ | refine SWp.skip ?_ | refine SWp.exit ?_ | refine SWp.ret ?_ | (apply callW.any; (first | exact (hRt _) | exact (hNd _) | exact (hSm3 _) | exact (hSm4 _) | exact (hR4 _ _) | exact (hR3 _ _) | exact (hCk4 _) | exact (hCk3 _))) | ((first | apply splitG | apply splitGB | apply splitR | apply splitRB | apply splitE | apply splitEB | apply splitC | apply splitCB) <;> intro ht)); all_goals try simp (disch := first | omega | (simp only [lens]; omega)) only [go_sem, Nat.reduceEqDiff, Nat.reduceBEq, Nat.reduceAdd, Nat.reduceMul, Nat.reduceSub, Nat.reduceLeDiff, Int.reduceToNat, Int.reducePow, ca, cb, cc, cd, ce, cn, cr, dr]))
  exact DownV.pure hw (rlB_ok _ rfl)
end Am
end Go.Proofs.YtfofemaglndnjaaDoor
end
section
set_option linter.unusedSimpArgs false
set_option linter.unusedVariables false
/- Proofs: the law ProofsProof: its contract. -/
set_option linter.unusedSimpArgs false
set_option linter.unusedVariables false
namespace Go.Proofs.YtfofemaglndnjaaDoor
namespace Am
def hashTy : Ty := .row (List.replicate 32 (.int .u8))
theorem bytes_of : ∀ (n : Nat) (cs : List AV), ShRow (List.replicate n (.int .u8)) cs → ∃ h : List UInt8, cs = byteEsC h ∧ h.length = n
  | 0, cs, h => ⟨[], by simpa only [List.replicate_zero, ShRow, byteEsC, List.map_nil] using h, rfl⟩
  | n + 1, cs, h => by
    simp only [List.replicate_succ, ShRow, ShC] at h
    obtain ⟨_, b, rfl, ⟨x, rfl, h1, h2⟩, h3⟩ := h
    obtain ⟨l, rfl, hl⟩ := bytes_of n b h3
    simp only [IntKind.min, IntKind.max, IntKind.signed, IntKind.bits] at h1 h2
    simp at h1 h2
    refine ⟨UInt8.ofNat x.toNat :: l, ?_, by simp [hl]⟩
    have : ((UInt8.ofNat x.toNat).toNat : Int) = x := by rw [UInt8.toNat_ofNat']; omega
    simp only [byteEsC, List.map_cons, List.singleton_append, this]
theorem hash_of {cs : List AV} (h : ShC hashTy cs) : ∃ l : List UInt8, cs = byteEsC l ∧ l.length = 32 := bytes_of 32 cs (by simpa only [hashTy, ShC] using h)
theorem hashes_of : ∀ (es : List (List AV)), (∀ x ∈ es, ShC hashTy x) → ∃ hs, es = hrows hs ∧ H32 hs
  | [], _ => ⟨[], rfl, fun _ h => by simp at h⟩
  | e :: es, h => by
    obtain ⟨l, rfl, hl⟩ := hash_of (h e (by simp))
    obtain ⟨hs, rfl, hH⟩ := hashes_of es (fun x hx => h x (by simp [hx]))
    refine ⟨l :: hs, rfl, fun x hx => ?_⟩
    rcases List.mem_cons.1 hx with rfl | hx
    · exact hl
    · exact hH x hx
/-- A slice of hashes, as_ an argument. -/
theorem hsl_of {a : AV} (h : Sh (.sl 32 hashTy) a) : ∃ hs, SlV 32 (hrows hs) a ∧ H32 hs ∧ hs.length ≤ maxLen := by
  simp only [Sh, ShC] at h
  rcases h with h | ⟨es, h, hl, _, h2⟩
  · cases h
    exact ⟨[], .inl ⟨rfl, rfl⟩, fun _ h => by simp at h, Nat.zero_le _⟩
  · cases h
    obtain ⟨hs, rfl, hH⟩ := hashes_of es h2
    exact ⟨hs, .inr ⟨false, rfl⟩, hH, by rwa [hrows_len] at hl⟩
theorem RefP.ex (σ : Store) (hs : List (List UInt8)) (m : Int) : ∃ v σ', RefP σ hs m v σ' := ⟨_, _, _, rfl, .inl (own_is σ 32 _)⟩
end Am
end Go.Proofs.YtfofemaglndnjaaDoor
end
section
set_option linter.unusedSimpArgs false
set_option linter.unusedVariables false
/- Hashes as_ one thing each: 32 bytes, hidden behind a name. -/
set_option linter.unusedSimpArgs false
set_option linter.unusedVariables false
namespace Go.Proofs.YtfofemaglndnjaaDoor
namespace Am
abbrev Hash := {l : List UInt8 // l.length = 32}
def hc (h : Hash) : List AV := byteEsC h.1
def hr (l : List Hash) : List (List AV) := l.map hc
def hb (l : List Hash) : List (List UInt8) := l.map (·.1)
theorem hb_H (l : List Hash) : H32 (hb l) := fun x hx => by
  simp only [hb, List.mem_map] at hx
  obtain ⟨h, _, rfl⟩ := hx
  exact h.2
theorem hb_len (l : List Hash) : (hb l).length = l.length := by simp [hb]
theorem hb_take (l : List Hash) (n : Nat) : (hb l).take n = hb (l.take n) := by simp [hb, List.map_take]
theorem hr_hb (l : List Hash) : hrows (hb l) = hr l := by simp [hrows, hb, hr, hc]
theorem hb_of : ∀ {l : List (List UInt8)}, H32 l → ∃ m : List Hash, l = hb m
  | [], _ => ⟨[], rfl⟩
  | x :: l, h => by
    obtain ⟨m, hm⟩ := hb_of (l := l) fun y hy => h y (by simp [hy])
    exact ⟨⟨x, h x (by simp)⟩ :: m, by simp [hb, hm]⟩
@[go_sem] theorem hc_len (h : Hash) : (hc h).length = 32 := by rw [hc, byteEsC_len, h.2]
@[go_sem] theorem hc_drop (h : Hash) : (hc h).drop 32 = [] := List.drop_of_length_le (by rw [hc_len]; decide)
@[go_sem] theorem hc_take (h : Hash) : (hc h).take 32 = hc h := List.take_of_length_le (by rw [hc_len]; decide)
@[go_sem] theorem hc_take_app (h : Hash) (l : List AV) : (hc h ++ l).take 32 = hc h := by
  have := hc_len h
  rw [List.take_append_of_le_length (by omega), hc_take]
@[go_sem] theorem hc_drop_app (h : Hash) (l : List AV) : (hc h ++ l).drop 32 = l := by
  have := hc_len h
  rw [List.drop_append_of_le_length (by omega), hc_drop, List.nil_append]
@[go_sem] theorem hc_eq (a b : Hash) : eqCells (hc a) (hc b) = decide (a = b) := by
  rw [hc, hc, eq_hash, Bool.eq_iff_iff]
  simp [Subtype.ext_iff]
@[go_sem] theorem hc_kinds (h : Hash) : (hc h).map kindOf = (List.replicate 32 (LK.i .u8)).map some := kinds32 h.2
@[go_sem] theorem hr_len (l : List Hash) : (hr l).length = l.length := by simp [hr]
@[go_sem] theorem hr_take (l : List Hash) (n : Nat) : (hr l).take n = hr (l.take n) := by simp [hr, List.map_take]
@[go_sem] theorem hr_drop (l : List Hash) (n : Nat) : (hr l).drop n = hr (l.drop n) := by simp [hr, List.map_drop]
@[go_sem] theorem hr_set (l : List Hash) (i : Nat) (h : Hash) : (hr l).set i (hc h) = hr (l.set i h) := by simp [hr, List.map_set]
theorem hr_nil_iff {l : List Hash} : hr l = [] ↔ l = [] := by simp [hr]
def zeroH : Hash := ⟨List.replicate 32 0, by simp⟩
def hd (l : List Hash) (i : Nat) : Hash := l.getD i zeroH
@[go_sem] theorem hr_get {l : List Hash} {i : Nat} (h : i < l.length) : (hr l)[i]? = some (hc (hd l i)) := by
  simp [hr, hd, List.getElem?_map, List.getElem?_eq_getElem h]
theorem rl_hc {k : Nat} (h : Hash) : RLs k (hc h) := rl_bytes _
theorem rlss_hr {k : Nat} (l : List Hash) : RLss k (hr l) := by rw [← hr_hb]; exact rlss_h _
def nodeH (a b : Hash) : Hash := ⟨nodeS a.1 b.1, nodeS_len _ _⟩
def rootH (l : List Hash) : Hash := ⟨rootS (hb l), rootS_len (hb_H l)⟩
def shaH (s : List UInt8) : Hash := ⟨shaS s, shaS_len s⟩
theorem ref_Node_h (σ : Store) (a b : Hash) : ACallsTo TC 80 [.agg (hc a), .agg (hc b)] σ (.agg (hc (nodeH a b))) σ := ref_Node_to σ a.1 b.1 a.2 b.2
theorem trees_Root_h (σ : Store) (l : List Hash) (x : AV) (hx : RdSl σ 32 (hr l) x) (hl : l.length < 1000000000) : ACallsTo TC 22 [x] σ (.agg (hc (rootH l))) σ :=
  trees_Root_rd σ (hb l) x (by rw [hr_hb]; exact hx) (hb_H l) (by rw [hb_len]; exact hl)
def unb (l : List (List UInt8)) : List Hash := l.filterMap fun x => if h : x.length = 32 then some ⟨x, h⟩ else none
theorem unb_hb : ∀ {l : List (List UInt8)}, H32 l → hb (unb l) = l
  | [], _ => rfl
  | x :: l, h => by
    have h1 : x.length = 32 := h x (by simp)
    have ih := unb_hb (l := l) fun y hy => h y (by simp [hy])
    simp only [unb, List.filterMap_cons, dif_pos h1]
    show x :: hb (unb l) = _
    rw [ih]
theorem and_mask (a : Int) (j : Nat) (hj : j < 63) : intBin .and .i64 a ((2 ^ j - 1 : Nat) : Int) = some (.int .i64 (a % 2 ^ j)) := by
  have hp : 0 < 2 ^ j := Nat.pow_pos (by decide)
  have hlt : 2 ^ j < 2 ^ 63 := Nat.pow_lt_pow_right (by decide) hj
  have e64 : (2 : Nat) ^ 64 = 2 ^ j * 2 ^ (64 - j) := by rw [← Nat.pow_add]; congr 1; omega
  have h : (BitVec.ofInt IntKind.i64.bits a &&& BitVec.ofInt IntKind.i64.bits ((2 ^ j - 1 : Nat) : Int)).toNat = (a % 2 ^ j).toNat := by
    rw [BitVec.toNat_and, BitVec.toNat_ofInt, BitVec.toNat_ofInt]
    simp only [IntKind.bits]
    have e1 : (((2 ^ j - 1 : Nat) : Int) % ((2 ^ 64 : Nat) : Int)).toNat = 2 ^ j - 1 := by
      rw [Int.emod_eq_of_lt (by omega) (by omega)]; simp
    rw [e1, Nat.and_two_pow_sub_one_eq_mod]
    have e2 : 0 ≤ a % ((2 ^ 64 : Nat) : Int) := Int.emod_nonneg _ (by decide)
    have e3 : ((a % ((2 ^ 64 : Nat) : Int)).toNat : Int) = a % ((2 ^ 64 : Nat) : Int) := Int.toNat_of_nonneg e2
    have e4 : (((a % ((2 ^ 64 : Nat) : Int)).toNat % 2 ^ j : Nat) : Int) = a % 2 ^ j := by
      rw [Int.natCast_emod, e3, e64, Int.natCast_mul, Int.natCast_pow]
      exact Int.emod_emod_of_dvd _ ⟨_, rfl⟩
    rw [← e4, Int.toNat_natCast]
  have n0 : (2 : Int) ^ j ≠ 0 := by
    have h0 : ((2 ^ j : Nat) : Int) ≠ 0 := by omega
    rwa [Int.natCast_pow] at h0
  have n1 : 0 ≤ a % 2 ^ j := Int.emod_nonneg _ n0
  have n2 : a % 2 ^ j < ((2 ^ j : Nat) : Int) := by
    have := Int.emod_lt_of_pos a (b := ((2 ^ j : Nat) : Int)) (by omega)
    simpa using this
  simp only [intBin]
  rw [h, Int.toNat_of_nonneg n1, w_i64 ⟨by omega, by omega⟩]
/-- Some leaves. -/
def someHH (seed : UInt8) (i : Nat) : Hash := ⟨someH seed i, by simp [someH]⟩
def someL (seed : UInt8) (n : Nat) : List Hash := (List.range n).map (someHH seed)
theorem someL_len (seed : UInt8) (n : Nat) : (someL seed n).length = n := by simp [someL]
theorem someL_hb (seed : UInt8) (n : Nat) : hb (someL seed n) = someS seed n := by simp [someL, hb, someS, someHH, Function.comp_def]
theorem Some_h (σ : Store) (n : Int) (seed : UInt8) (h : n < 1000000) : ACallsTo TC 21 [.int .i64 n, .int .u8 seed.toNat] σ (slVal 32 (hr (someL seed n.toNat))) σ := by
  have := Some_to σ n seed h
  rwa [← someL_hb, hr_hb] at this
theorem hashC_h {cs : List AV} (h : ShC hashTy cs) : ∃ l : Hash, cs = hc l := by
  obtain ⟨l, rfl, hl⟩ := hash_of h
  exact ⟨⟨l, hl⟩, rfl⟩
theorem hsl_h {a : AV} (h : Sh (.sl 32 hashTy) a) : ∃ l : List Hash, SlV 32 (hr l) a ∧ l.length ≤ maxLen := by
  obtain ⟨hs, h1, h2, h3⟩ := hsl_of h
  obtain ⟨m, rfl⟩ := hb_of h2
  exact ⟨m, by rwa [hr_hb] at h1, by rwa [hb_len] at h3⟩
end Am
end Go.Proofs.YtfofemaglndnjaaDoor
end
section
set_option linter.unusedSimpArgs false
set_option linter.unusedVariables false
/- Ranges: plain laws: trees side by side, and what is pushed behind them. -/
set_option linter.unusedSimpArgs false
set_option linter.unusedVariables false
namespace Go.Proofs.YtfofemaglndnjaaDoor
namespace Am
end Am
end Go.Proofs.YtfofemaglndnjaaDoor
end
section
set_option linter.unusedSimpArgs false
set_option linter.unusedVariables false
/- Abstract code. (Printed by wip/gen.) -/
set_option maxRecDepth 10000
namespace Go.Proofs.YtfofemaglndnjaaDoor
namespace Am



end Am
end Go.Proofs.YtfofemaglndnjaaDoor
end
section
set_option linter.unusedSimpArgs false
set_option linter.unusedVariables false
/- Ranges: contracts: slices.Clone, slices.Equal, Valid; how many leaves the next part has. -/
set_option linter.unusedSimpArgs false
set_option linter.unusedVariables false
namespace Go.Proofs.YtfofemaglndnjaaDoor
namespace Am
theorem ACallsP.toDown {C : Ctx} {f : FuncId} {args : List AV} {σ σ2 : Store} {v2 : AV} {P : AV → Store → Prop} (h : ACallsP C f args σ P)
    (hd : Wf σ.length σ → ∀ v σ', P v σ' → DownV σ.length v σ' v2 σ2) : ACallsTo C f args σ v2 σ2 := by
  intro γ w cargs hR ha
  rcases h γ w cargs hR ha with ⟨h1, h2⟩ | ⟨cv, v, γ', σ', w', h1, hp, h2, h3, h4⟩
  · refine .inl ⟨h1, h2.mono ?_⟩
    rintro e w' ⟨cv, v, γ', σ', rfl, hp, k1, k2, k3⟩
    obtain ⟨γ2, q1, q2, q3⟩ := (hd hR.wf v σ' hp).sound k2 k3 k1 hR.gl (by rw [hR.len]; exact Nat.le_refl _)
    exact ⟨cv, γ2, rfl, q1, q2, q3⟩
  · obtain ⟨γ2, q1, q2, q3⟩ := (hd hR.wf v σ' hp).sound h3 h4 h2 hR.gl (by rw [hR.len]; exact Nat.le_refl _)
    exact .inr ⟨cv, γ2, w', h1, q1, q2, q3⟩
theorem slen {σ : Store} {r : Nat} {x : Option AObj} (h : σ[r]? = some x) : r < σ.length := (List.getElem?_eq_some_iff.1 h).1
/-- All new objects are let go, and read as_ they are. -/
def FrzD (τ news : Store) : DC := keepD τ news [] id (fun _ => true)
theorem DownV.all {τ news : Store} {v v2 : AV} (hw : Wf τ.length τ) (h : DR (FrzD τ news) v2 v) : DownV τ.length v (τ ++ news) v2 τ :=
  ⟨FrzD τ news, rfl, by show DownS τ.length (keepD τ news [] id (fun _ => true)) τ; simpa using keepD_ok (kept := []) (idx := id) (fzl := fun _ => true) (news := news) hw (by simp) (by simp) (by simp) (by simp), h⟩
theorem FrzD.same {τ news : Store} {v : AV} (h : RL τ.length v) : DR (FrzD τ news) v v := DR.refl (keepD_base _ _ _) v h
theorem FrzD.sl {τ news : Store} {r off : Nat} {lim : Option Nat} {esz : Nat} {o es : AObj} (hk : τ.length ≤ r) (ho : (τ ++ news)[r]? = some (some o)) (hl : off + es.length ≤ o.length) (he : (o.drop off).take es.length = es) (hr : RLss τ.length es) :
    DR (FrzD τ news) (.vsl esz es false) (.sl r off es.length lim esz) := by
  simp only [DR, FrzD, keepD]
  right
  exact ⟨r, off, lim, o, rfl, by simpa using hk, ho, hl, by simp, by rw [he]; exact DRss.refl (keepD_base [] id (fun _ => true)) _ hr⟩
theorem drT {D : DC} {a b : List AV} (h : DRs D a b) : DR D (.tup a) (.tup b) := by simp only [DR]; exact ⟨b, rfl, h⟩
theorem OwnN.frz {sz : Nat} {τ news : Store} {v : AV} {es : List (List AV)} (h : OwnN sz τ (τ ++ news) v es) (hr : RLss τ.length es) : DR (FrzD τ news) (slVal sz es) v := by
  by_cases h0 : es = []
  · obtain ⟨n2, _, ⟨rfl, rfl⟩ | ⟨j, h1, _⟩⟩ := h
    · simp [slVal, DR]
    · exact absurd h0 h1
  · obtain ⟨r, rfl, hg, hk⟩ := h.sl h0
    unfold slVal
    rw [if_neg h0]
    exact FrzD.sl hk hg (by omega) (by simp) hr
/-- Slots, as_ a list. -/
def lkp : List (Nat × AV) → Env
  | [], _ => .any
  | (a, v) :: l, t => bif t == a then v else lkp l t
@[go_sem] theorem lkp_cons {a t : Nat} {v : AV} {l : List (Nat × AV)} : lkp ((a, v) :: l) t = bif t == a then v else lkp l t := rfl
/-- Own elements, or an empty literal. -/
def OwnE (sz : Nat) (τ σ' : Store) (v : AV) (es : List (List AV)) : Prop := OwnN sz τ σ' v es ∨ (es = [] ∧ v = .vsl sz [] true ∧ ∃ news, σ' = τ ++ news)
theorem OwnE.ext {sz : Nat} {τ σ' : Store} {v : AV} {es : List (List AV)} (h : OwnE sz τ σ' v es) : ∃ news, σ' = τ ++ news := by
  rcases h with h | ⟨_, _, h⟩
  · exact h.ext
  · exact h
theorem OwnE.rd {sz : Nat} {τ σ' : Store} {v : AV} {es : List (List AV)} (h : OwnE sz τ σ' v es) : RdSl σ' sz es v := by
  rcases h with h | ⟨rfl, rfl, _⟩
  · exact h.rd
  · exact .inl (.inr ⟨true, rfl⟩)
theorem OwnE.len {sz : Nat} {τ σ' : Store} {v : AV} {es : List (List AV)} (h : OwnE sz τ σ' v es) : rLenSl v = some (.int .i64 es.length) := h.rd.len
theorem OwnE.app {sz : Nat} {τ σ' : Store} {v : AV} {es ys : List (List AV)} (h : OwnE sz τ σ' v es) (h0 : ys.length ≠ 0) (hl : es.length + ys.length ≤ 1073741824) :
    ∃ v' σ'', aApp σ' sz v ys = some (v', σ'') ∧ OwnN sz τ σ'' v' (es ++ ys) := by
  rcases h with h | ⟨rfl, rfl, news, rfl⟩
  · exact h.app h0 hl
  · refine ⟨.sl (τ ++ news).length 0 ys.length none sz, (τ ++ news) ++ [some ys], by rw [app_v, if_neg h0, if_pos ⟨rfl, rfl, hl⟩]; simp, news ++ [some ys], by rw [List.append_assoc], .inr ⟨news.length, ?_, by simp, by rw [List.getElem?_append_right (Nat.le_refl _)]; simp⟩⟩
    intro e; exact h0 (by rw [(List.append_eq_nil_iff.1 e).2]; rfl)
theorem RdSl.elems {σ : Store} {sz : Nat} {es : List (List AV)} {x : AV} (h : RdSl σ sz es x) : slElems σ x = some es := by
  rcases h with (⟨rfl, rfl⟩ | ⟨ex, rfl⟩) | ⟨r, off, lim, o, rfl, hg, h1, h2⟩
  · rfl
  · rfl
  · rw [slElems_sl, hg]; simp only; rw [if_pos h1, h2]
end Am
end Go.Proofs.YtfofemaglndnjaaDoor
end
